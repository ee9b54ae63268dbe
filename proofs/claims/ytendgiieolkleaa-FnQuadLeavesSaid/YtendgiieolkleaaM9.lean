/- Boxes, limits, and what a block of the reference's tree says of its items. What the reference asks of a block: has each leaf just those that meet it. How the reference reads a tree. Whether a tree is right: the reference's root, and both packages' QuadOk. The program's QuadOk, and that it is the reference's. -/
import Derived.Test.YtendgiieolkleaaM7
import Derived.Test.YtendgiieolkleaaM8

/- Boxes, limits, and what a block of the reference's tree says of its items. -/
namespace Go.Proofs.Ytendgiieolkleaa
open Go.Aw
set_option maxHeartbeats 1000000
set_option maxRecDepth 100000
set_option linter.unusedSimpArgs false
set_option linter.unusedVariables false
def boxB (lx ly hx hy : Int) : Bool := ((spotOk lx ly && spotOk hx hy) && decide (lx ≤ hx)) && decide (ly ≤ hy)
theorem spec_Box (lx ly hx hy : Int) : Fun G0 54 [.agg [i64 lx, i64 ly], .agg [i64 hx, i64 hy]] [] (bo (boxB lx ly hx hy)) [] := by
  refine spec_ewL (G := G0) (fid := 54) (fn := Try.f54) Try.func54 (by kernel_rfl) rfl (by kernel_rfl) ?_
  repeat' (first
    | refine And.intro (of_decide_eq_true rfl) ?_
    | refine bc_split (fun h => ?_) (fun h => ?_)
    | refine eCall_flat (spec_SpotOk _ _) rfl rfl ?_
    | refine ret_eq (by first | exact .inr rfl | exact .inl rfl) rfl rfl ?_)
  all_goals (first | rfl | (simp only [boxB, Bool.true_and, Bool.false_and, *]; done) | (simp only [boxB, Bool.true_and, Bool.false_and, *]; rfl) | (simp [boxB, Bool.true_and, Bool.false_and, *]; done))
theorem impl_isBox (lx ly hx hy : Int) : Fun G0 58 [.agg [i64 lx, i64 ly], .agg [i64 hx, i64 hy]] [] (bo (boxB lx ly hx hy)) [] := by
  refine spec_ewL (G := G0) (fid := 58) (fn := Try.f58) Try.func58 (by kernel_rfl) rfl (by kernel_rfl) ?_
  repeat' (first
    | refine And.intro (of_decide_eq_true rfl) ?_
    | refine bc_split (fun h => ?_) (fun h => ?_)
    | refine eCall_flat (impl_SpotOk _ _) rfl rfl ?_
    | refine ret_eq (by first | exact .inr rfl | exact .inl rfl) rfl rfl ?_)
  all_goals (first | rfl | (simp only [boxB, Bool.true_and, Bool.false_and, *]; done) | (simp only [boxB, Bool.true_and, Bool.false_and, *]; rfl) | (simp [boxB, Bool.true_and, Bool.false_and, *]; done))
def limB (m d : Int) : Bool := inB m 1 8 && inB d 0 8
theorem spec_Limits (m d : Int) : Fun G0 115 [i64 m, i64 d] [] (bo (limB m d)) [] := by
  refine spec_ewL (G := G0) (fid := 115) (fn := Try.f115) Try.func115 (by kernel_rfl) rfl (by kernel_rfl) ?_
  repeat' (first
    | refine And.intro (of_decide_eq_true rfl) ?_
    | refine bc_split (fun h => ?_) (fun h => ?_)
    | refine eCall_flat (spec_in _ _ _) rfl rfl ?_
    | refine ret_eq (by first | exact .inr rfl | exact .inl rfl) rfl rfl ?_)
  all_goals (first | rfl | (simp only [limB, Bool.true_and, Bool.false_and, *]; done) | (simp only [limB, Bool.true_and, Bool.false_and, *]; rfl) | (simp [limB, Bool.true_and, Bool.false_and, *]; done))
/-- A block of the reference's tree. -/
inductive Tr where
  | leaf (x y n : Int) (ids : List Int)
  | node (x y n : Int) (a b c d : Tr)
def Tr.x : Tr → Int | .leaf x _ _ _ => x | .node x _ _ _ _ _ _ => x
def Tr.y : Tr → Int | .leaf _ y _ _ => y | .node _ y _ _ _ _ _ => y
def Tr.n : Tr → Int | .leaf _ _ n _ => n | .node _ _ n _ _ _ _ => n
def Tr.ids : Tr → List Int | .leaf _ _ _ l => l | .node _ _ _ _ _ _ _ => []
def Tr.row (t : Tr) (k : List (List AV)) : List AV := [i64 t.x, i64 t.y, i64 t.n, .sl true 5 k, encIds t.ids]
def Tr.kids : Tr → List (List AV)
  | .leaf _ _ _ _ => []
  | .node _ _ _ a b c d => [a.row a.kids, b.row b.kids, c.row c.kids, d.row d.kids]
def encT (t : Tr) : List AV := [i64 t.x, i64 t.y, i64 t.n, .sl true 5 t.kids, encIds t.ids]
theorem spec_Meets (t : Tr) (s : Int × Int × Int × Int) : Fun G0 140 [.agg (encT t), .agg [i64 s.1, i64 s.2.1, i64 s.2.2.1, i64 s.2.2.2]] [] (bo (meetsB s t.x t.y (W64 (t.x + t.n)) (W64 (t.y + t.n)))) [] := by
  refine spec_ewL (G := G0) (fid := 140) (fn := Try.f140) Try.func140 (by kernel_rfl) rfl (by kernel_rfl) ?_
  repeat' (first
    | refine And.intro (of_decide_eq_true rfl) ?_
    | refine bc_split (fun h => ?_) (fun h => ?_)
    | refine eCall_flat (spec_meetsBox _ _ _ _ _ _ _ _) rfl rfl ?_
    | refine ret_eq (by first | exact .inr rfl | exact .inl rfl) rfl rfl ?_)
  all_goals (first | rfl | (simp only [meetsB, *]; done) | (simp only [meetsB, *]; rfl) | (simp [meetsB, *]; done))
def rightL (x y n : Int) : List Int → List Item → Bool
  | ids, [] => ids == []
  | ids, i :: r => if meetsB i.2 x y (W64 (x + n)) (W64 (y + n)) = true then (match ids with | [] => false | a :: q => if (a == i.1) = true then rightL x y n q r else false) else rightL x y n ids r
theorem rightL_eq (x y n : Int) (items : List Item) : ∀ ids, rightL x y n ids items = (ids == sq x y n items) := by
  induction items with
  | nil => intro ids; rfl
  | cons i r ih =>
    intro ids
    unfold rightL sq
    rw [List.filter_cons]
    split
    · rename_i h
      cases ids with
      | nil => rfl
      | cons a q =>
        simp only []
        rw [ih]
        by_cases e : a = i.1
        · subst e
          have : ((i.1 :: q) == (i.1 :: sq x y n r)) = (q == sq x y n r) := by
            rw [Bool.eq_iff_iff]; simp
          rw [if_pos (by simp)]; exact this.symm
        · rw [if_neg (by simpa using e)]
          have : ((a :: q) == (i.1 :: sq x y n r)) = false := by
            rw [beq_eq_false_iff_ne]; intro z; injection z with z1 z2; exact e z1
          exact this.symm
    · exact ih ids
def Tr.right (items : List Item) : Tr → Bool
  | .leaf x y n ids => ids == sq x y n items
  | .node _ _ _ a b c d => a.right items && (b.right items && (c.right items && d.right items))
def Tr.leaves : Tr → List (List Int)
  | .leaf _ _ _ ids => [ids]
  | .node _ _ _ a b c d => a.leaves ++ (b.leaves ++ (c.leaves ++ d.leaves))
end Go.Proofs.Ytendgiieolkleaa

/- What the reference asks of a block: has each leaf just those that meet it. -/
namespace Go.Proofs.Ytendgiieolkleaa
open Go.Aw
set_option maxHeartbeats 1000000
set_option maxRecDepth 100000
set_option linter.unusedSimpArgs false
set_option linter.unusedVariables false
def st117 (t : Tr) (nn : Bool) (items : List Item) : Nat × Nat × Int × Int → St
  | (_, _, c, i) => ⟨63, 0, [(1, .sl nn 5 (items.map encI)), (2, .ptr 0 0 0), (4, bo false), (6, i64 c), (7, i64 i)], [(0, ⟨true, true, 5, [encT t]⟩)], 1⟩
theorem beq_len {α : Type} {l : List α} {c : Nat} (h : c ≤ l.length) : (([] : List α).length = (l.drop c).length) ↔ c = l.length := by
  rw [List.length_drop]; simp; omega
theorem right_leaf (x y n : Int) (ids : List Int) (nn : Bool) (items : List Item) (hI : items.length ≤ 1048576) (hl : ids.length ≤ 1048576) : Fun G0 117 [.agg (encT (.leaf x y n ids)), .sl nn 5 (items.map encI)] [] (bo (rightL x y n ids items)) [] := by
  refine spec_ewL (G := G0) (fid := 117) (fn := Try.f117) Try.func117 (by kernel_rfl) rfl (by kernel_rfl) ?_
  repeat (refine And.intro (of_decide_eq_true rfl) ?_)
  refine eLoop_pre (st117 (.leaf x y n ids) nn items) (fun a => a.1 ≤ items.length ∧ a.2.1 ≤ ids.length ∧ a.2.2.1 = a.2.1 ∧ a.2.2.2 = a.1 ∧ rightL x y n (ids.drop a.2.1) (items.drop a.1) = rightL x y n ids items) (fun a => items.length - a.1) (0, 0, 0, 0) (weak_to [1, 2, 4, 6, 7] 1 rfl rfl) ⟨Nat.zero_le _, Nat.zero_le _, rfl, rfl, rfl⟩ ?_
  rintro ⟨i, c, cv, iv⟩ ⟨hi, hc, hcv, hiv, hr⟩
  simp only at hi hc hcv hiv hr
  subst hcv hiv
  refine bc_split (fun h => ?_) (fun h => ?_)
  · have hlt : i < items.length := by have := of_decide_eq_true h; simp at this; omega
    rw [List.drop_eq_getElem_cons hlt] at hr
    refine eDraw_ok ?_
    repeat (refine And.intro (of_decide_eq_true rfl) ?_)
    refine And.intro (ix_ok hlt) ?_
    rw [ix_get hlt]
    repeat (refine And.intro (of_decide_eq_true rfl) ?_)
    refine dCall_flat [] (spec_Meets (.leaf x y n ids) items[i].2) rfl rfl rfl ?_
    repeat (refine And.intro (of_decide_eq_true rfl) ?_)
    refine bc_split (fun h2 => ?_) (fun h2 => ?_)
    · have h2 : meetsB items[i].2 x y (W64 (x + n)) (W64 (y + n)) = false := by have q := h2; rw [Bool.not_eq_true'] at q; exact q
      refine ⟨(i + 1, c, c, IntKind.i64.wrap (↑i + 1)), weak_to [1, 2, 4, 6, 7] 1 rfl rfl, ⟨hlt, hc, rfl, wrap_succ (by omega), ?_⟩, by simp only; omega⟩
      rw [← hr]; simp only [rightL, h2, Bool.false_eq_true, if_false]
    · have h2 : meetsB items[i].2 x y (W64 (x + n)) (W64 (y + n)) = true := by have q := h2; rw [Bool.not_eq_false'] at q; exact q
      simp only [rightL, h2, if_true] at hr
      refine eDraw_ok ?_
      repeat (refine And.intro (of_decide_eq_true rfl) ?_)
      refine bc_split (fun h3 => ?_) (fun h3 => ?_)
      · have h3 : ids.length ≤ c := by have h3 : decide (((ids.map enc1).length : Int) ≤ (c : Int)) = true := h3; simp at h3; omega
        repeat (refine And.intro (of_decide_eq_true rfl) ?_)
        rw [List.drop_eq_nil_of_le h3] at hr
        exact ret_eq (by first | exact .inr rfl | exact .inl rfl) rfl rfl (by rw [← hr])
      · have hc2 : c < ids.length := by have h3 : decide (((ids.map enc1).length : Int) ≤ (c : Int)) = false := h3; simp at h3; omega
        rw [List.drop_eq_getElem_cons hc2] at hr
        simp only [] at hr
        repeat (refine And.intro (of_decide_eq_true rfl) ?_)
        refine And.intro (ix_ok hc2) ?_
        rw [show (List.map enc1 (Tr.leaf x y n ids).ids).getD (Int.toNat (c : Int)) [] = enc1 ids[c] from ix_get hc2]
        repeat (refine And.intro (of_decide_eq_true rfl) ?_)
        refine And.intro (ix_ok hlt) ?_
        rw [ix_get hlt]
        repeat (refine And.intro (of_decide_eq_true rfl) ?_)
        refine bc_split (fun h4 => ?_) (fun h4 => ?_)
        · have h4 : (ids[c] == items[i].1) = false := by simpa using h4
          simp only [h4, Bool.false_eq_true, if_false] at hr
          exact ret_eq (by first | exact .inr rfl | exact .inl rfl) rfl rfl (by rw [← hr])
        · have h4 : (ids[c] == items[i].1) = true := by simpa using h4
          simp only [h4, if_true] at hr
          refine ⟨(i + 1, c + 1, IntKind.i64.wrap (↑c + 1), IntKind.i64.wrap (↑i + 1)), weak_to [1, 2, 4, 6, 7] 1 rfl rfl, ⟨hlt, hc2, wrap_succ (by omega), wrap_succ (by omega), hr⟩, by simp only; omega⟩
  · have hge : i = items.length := by have := of_decide_eq_false h; simp at this; omega
    subst hge
    rw [List.drop_length] at hr
    repeat (refine And.intro (of_decide_eq_true rfl) ?_)
    refine ret_eq (by first | exact .inr rfl | exact .inl rfl) rfl rfl ?_
    rw [← hr]
    simp only [rightL]
    have : ((c : Int) == ((ids.map enc1).length : Int)) = (ids.drop c == []) := by
      rw [Bool.eq_iff_iff]; simp; omega
    exact congrArg bo this
theorem spec_Right (nn : Bool) (items : List Item) (hI : items.length ≤ 1048576) : ∀ (t : Tr), (∀ l ∈ t.leaves, l.length ≤ 1048576) → Fun G0 117 [.agg (encT t), .sl nn 5 (items.map encI)] [] (bo (t.right items)) [] := by
  intro t
  induction t with
  | leaf x y n ids => intro h; rw [Tr.right, ← rightL_eq]; exact right_leaf x y n ids nn items hI (h ids (by simp [Tr.leaves]))
  | node x y n a b c d iha ihb ihc ihd =>
    intro h
    simp only [Tr.leaves, List.mem_append] at h
    have ha := iha fun l hl => h l (by simp [hl])
    have hb := ihb fun l hl => h l (by simp [hl])
    have hc := ihc fun l hl => h l (by simp [hl])
    have hd := ihd fun l hl => h l (by simp [hl])
    refine spec_ewL (G := G0) (fid := 117) (fn := Try.f117) Try.func117 (by kernel_rfl) rfl (by kernel_rfl) ?_
    repeat (refine And.intro (of_decide_eq_true rfl) ?_)
    refine eLoop_step ?_
    repeat (refine And.intro (of_decide_eq_true rfl) ?_)
    refine eCall_flat (ha) rfl rfl ?_
    refine bc_split (fun h1 => ?_) (fun h1 => ?_)
    · have h1 : a.right items = false := by simpa using h1
      exact ret_eq (by first | exact .inr rfl | exact .inl rfl) rfl rfl (by simp only [Tr.right, h1, Bool.false_and])
    refine eLoop_step ?_
    repeat (refine And.intro (of_decide_eq_true rfl) ?_)
    refine eCall_flat (hb) rfl rfl ?_
    refine bc_split (fun h2 => ?_) (fun h2 => ?_)
    · have h2 : b.right items = false := by simpa using h2
      exact ret_eq (by first | exact .inr rfl | exact .inl rfl) rfl rfl (by simp only [Tr.right, h2, Bool.false_and, Bool.and_false])
    refine eLoop_step ?_
    repeat (refine And.intro (of_decide_eq_true rfl) ?_)
    refine eCall_flat (hc) rfl rfl ?_
    refine bc_split (fun h3 => ?_) (fun h3 => ?_)
    · have h3 : c.right items = false := by simpa using h3
      exact ret_eq (by first | exact .inr rfl | exact .inl rfl) rfl rfl (by simp only [Tr.right, h3, Bool.false_and, Bool.and_false])
    refine eLoop_step ?_
    repeat (refine And.intro (of_decide_eq_true rfl) ?_)
    refine eCall_flat (hd) rfl rfl ?_
    refine bc_split (fun h4 => ?_) (fun h4 => ?_)
    · have h4 : d.right items = false := by simpa using h4
      exact ret_eq (by first | exact .inr rfl | exact .inl rfl) rfl rfl (by simp only [Tr.right, h4, Bool.false_and, Bool.and_false])
    have h1 : a.right items = true := by simpa using h1
    have h2 : b.right items = true := by simpa using h2
    have h3 : c.right items = true := by simpa using h3
    have h4 : d.right items = true := by simpa using h4
    refine eLoop_step ?_
    repeat (refine And.intro (of_decide_eq_true rfl) ?_)
    exact ret_eq (by first | exact .inr rfl | exact .inl rfl) rfl rfl (by simp only [Tr.right, h1, h2, h3, h4, Bool.and_true])
end Go.Proofs.Ytendgiieolkleaa

/- How the reference reads a tree. -/
namespace Go.Proofs.Ytendgiieolkleaa
open Go.Aw
set_option maxHeartbeats 1000000
set_option maxRecDepth 100000
set_option linter.unusedSimpArgs false
set_option linter.unusedVariables false
def kx (i x n : Int) : Int := W64 (x + W64 (Int.tmod i 2 * half n))
def ky (i y n : Int) : Int := W64 (y + W64 (W64 (Int.tdiv i 2) * half n))
def rd (bl : List Blok) : Nat → Nat → Int → Int → Int → Option (Tr × Nat)
  | k, p, x, y, n => match bl[p]? with
    | none => none
    | some b =>
      if (((!(b.1 == x) || !(b.2.1 == y)) || !(b.2.2.1 == n)) || (b.2.2.2.1 && (decide ((k : Int) < 1) || decide (((b.2.2.2.2.map enc1).length : Int) > 0)))) = true then none
      else if b.2.2.2.1 = false then some (.leaf x y n b.2.2.2.2, p + 1)
      else match k with
        | 0 => none
        | k + 1 => (rd bl k (p + 1) (kx 0 x n) (ky 0 y n) (half n)).bind fun r1 => (rd bl k r1.2 (kx 1 x n) (ky 1 y n) (half n)).bind fun r2 =>
          (rd bl k r2.2 (kx 2 x n) (ky 2 y n) (half n)).bind fun r3 => (rd bl k r3.2 (kx 3 x n) (ky 3 y n) (half n)).bind fun r4 => some (.node x y n r1.1 r2.1 r3.1 r4.1, r4.2)
def encR : Option (Tr × Nat) → List AV
  | none => [.agg (encT (.leaf 0 0 0 [])), i64 0, bo false]
  | some r => [.agg (encT r.1), i64 r.2, bo true]
theorem rd_le (bl : List Blok) : ∀ k p x y n r, rd bl k p x y n = some r → p < r.2 ∧ r.2 ≤ bl.length := by
  intro k
  induction k with
  | zero =>
    intro p x y n r h
    unfold rd at h
    split at h
    · cases h
    · rename_i b hb
      have hp : p < bl.length := by
        rcases Nat.lt_or_ge p bl.length with z | z
        · exact z
        · rw [List.getElem?_eq_none z] at hb; cases hb
      split at h
      · cases h
      · split at h
        · cases h; simp only; omega
        · cases h
  | succ k ih =>
    intro p x y n r h
    unfold rd at h
    split at h
    · cases h
    · rename_i b hb
      have hp : p < bl.length := by
        rcases Nat.lt_or_ge p bl.length with z | z
        · exact z
        · rw [List.getElem?_eq_none z] at hb; cases hb
      split at h
      · cases h
      · split at h
        · cases h; simp only; omega
        · simp only [Option.bind_eq_some_iff] at h
          obtain ⟨p1, h1, p2, h2, p3, h3, p4, h4, h5⟩ := h
          have := ih _ _ _ _ _ h1
          have := ih _ _ _ _ _ h2
          have := ih _ _ _ _ _ h3
          have := ih _ _ _ _ _ h4
          cases h5; simp only; omega
def tiB : TI := ⟨.struct, 5, 72, [.int .i64 0, .int .i64 0, .int .i64 0, .slice none 0 0, .slice none 0 0], [(0, 1), (1, 1), (2, 1), (3, 1), (4, 1)]⟩
theorem app95 : appTy G0 #[95, 95] = some tiB := by kernel_rfl
theorem lax_T0 : Lax (.tup [.agg [i64 0, i64 0, i64 0, .e true, .e true], i64 0, bo false]) (.tup (encR none)) :=
  .tupL (.cons (.aggL (.cons (.refl _) (.cons (.refl _) (.cons (.refl _) (.cons (.ez _ _) (.cons (.e _ _) .nil)))))) (.refl _))
theorem lax_Tl (x y n : Int) (ids : List Int) (p : Nat) (q : Int) (hq : q = p) : Lax (.tup [.agg [i64 x, i64 y, i64 n, .e true, .sl false 1 (ids.map enc1)], i64 q, bo true]) (.tup (encR (some (.leaf x y n ids, p)))) := by
  subst hq; exact .tupL (.cons (.aggL (.cons (.refl _) (.cons (.refl _) (.cons (.refl _) (.cons (.ez _ _) (.refl _)))))) (.refl _))
theorem lax_Tn (x y n : Int) (a b c d : Tr) (p : Nat) : Lax (.tup [.agg [i64 x, i64 y, i64 n, .sl false 5 [encT a, encT b, encT c, encT d], .sl false 1 []], i64 p, bo true]) (.tup (encR (some (.node x y n a b c d, p)))) :=
  .tupL (.cons (.aggL (.cons (.refl _) (.cons (.refl _) (.cons (.refl _) (.cons (.ne _ _ _ _) (.refl _)))))) (.refl _))
def st116 (bl : List Blok) (nb : Bool) (q i x y n d : Int) (ids : List (List AV)) : List (List AV) → St
  | [] => ⟨117, 0, [(0, .sl nb 5 (bl.map encB)), (1, i64 q), (2, i64 x), (3, i64 y), (4, i64 n), (5, i64 d), (12, .ptr 0 0 0), (16, .ptr 3 0 0), (17, i64 i)],
      [(0, ⟨true, true, 5, [[i64 0, i64 0, i64 0, .e true, .e true]]⟩), (2, ⟨true, true, 1, ids⟩), (3, ⟨true, false, 5, [[i64 x, i64 y, i64 n, .e true, .loc 2 1 0 ids.length]]⟩)], 4⟩
  | k :: ks => ⟨117, 0, [(0, .sl nb 5 (bl.map encB)), (1, i64 q), (2, i64 x), (3, i64 y), (4, i64 n), (5, i64 d), (12, .ptr 0 0 0), (16, .ptr 3 0 0), (17, i64 i)],
      [(0, ⟨true, true, 5, [[i64 0, i64 0, i64 0, .e true, .e true]]⟩), (2, ⟨true, true, 1, ids⟩), (3, ⟨true, false, 5, [[i64 x, i64 y, i64 n, .loc 6 5 0 (k :: ks).length, .loc 2 1 0 ids.length]]⟩), (6, ⟨true, true, 5, k :: ks⟩)], 7⟩
theorem spec_Read (bl : List Blok) (nb : Bool) (hB : bl.length ≤ 1048576) (hids : ∀ b ∈ bl, b.2.2.2.2.length ≤ 1048576) : ∀ (k : Nat) (p : Nat) (x y n : Int), k ≤ 1000 → p ≤ bl.length →
    Fun G0 116 [.sl nb 5 (bl.map encB), i64 p, i64 x, i64 y, i64 n, i64 k] [] (.tup (encR (rd bl k p x y n))) [] := by
  intro k
  induction k using Nat.strongRecOn with
  | _ k ih =>
    intro p x y n hk hp
    refine spec_ewL (G := G0) (fid := 116) (fn := Try.f116) Try.func116 (by kernel_rfl) rfl (by kernel_rfl) ?_
    repeat (refine And.intro (of_decide_eq_true rfl) ?_)
    refine bc_split (fun h => ?_) (fun h => ?_)
    · have hge : bl.length ≤ p := by have := of_decide_eq_true h; simp at this; omega
      repeat (refine And.intro (of_decide_eq_true rfl) ?_)
      refine ret_lax (by first | exact .inr rfl | exact .inl rfl) rfl rfl ?_
      unfold rd
      rw [List.getElem?_eq_none hge]
      exact lax_T0
    have hlt : p < bl.length := by have := of_decide_eq_false h; simp at this; omega
    refine And.intro (ix_ok hlt) ?_
    rw [ix_get hlt]
    have hb : bl[p]? = some bl[p] := List.getElem?_eq_getElem hlt
    have hids := hids bl[p] (List.getElem_mem _)
    generalize bl[p] = b at hb hids ⊢
    have hfail : ((((!(b.1 == x) || !(b.2.1 == y)) || !(b.2.2.1 == n)) || (b.2.2.2.1 && (decide ((k : Int) < 1) || decide (((b.2.2.2.2.map enc1).length : Int) > 0)))) = true) → rd bl k p x y n = none := by
      intro z; unfold rd; simp only [hb, z, if_true]
    repeat (refine And.intro (of_decide_eq_true rfl) ?_)
    refine bc_split (fun h1 => ?_) (fun h1 => ?_)
    · have h1 : (!(b.1 == x)) = true := h1
      repeat (refine And.intro (of_decide_eq_true rfl) ?_)
      refine ret_lax (by first | exact .inr rfl | exact .inl rfl) rfl rfl ?_
      rw [hfail (by simp only [h1, Bool.true_or])]
      exact lax_T0
    have h1 : (!(b.1 == x)) = false := h1
    repeat (refine And.intro (of_decide_eq_true rfl) ?_)
    refine bc_split (fun h2 => ?_) (fun h2 => ?_)
    · have h2 : (!(b.2.1 == y)) = true := h2
      repeat (refine And.intro (of_decide_eq_true rfl) ?_)
      refine ret_lax (by first | exact .inr rfl | exact .inl rfl) rfl rfl ?_
      rw [hfail (by simp only [h2, Bool.true_or, Bool.or_true])]
      exact lax_T0
    have h2 : (!(b.2.1 == y)) = false := h2
    repeat (refine And.intro (of_decide_eq_true rfl) ?_)
    refine bc_split (fun h3 => ?_) (fun h3 => ?_)
    · have h3 : (!(b.2.2.1 == n)) = true := h3
      repeat (refine And.intro (of_decide_eq_true rfl) ?_)
      refine ret_lax (by first | exact .inr rfl | exact .inl rfl) rfl rfl ?_
      rw [hfail (by simp only [h3, Bool.true_or, Bool.or_true])]
      exact lax_T0
    have h3 : (!(b.2.2.1 == n)) = false := h3
    repeat (refine And.intro (of_decide_eq_true rfl) ?_)
    refine bc_split (fun h4 => ?_) (fun h4 => ?_)
    · have h4 : b.2.2.2.1 = true := h4
      refine bc_split (fun h5 => ?_) (fun h5 => ?_)
      · have h5 : decide ((k : Int) < 1) = true := h5
        repeat (refine And.intro (of_decide_eq_true rfl) ?_)
        refine ret_lax (by first | exact .inr rfl | exact .inl rfl) rfl rfl ?_
        rw [hfail (by simp only [h4, h5, Bool.true_or, Bool.or_true, Bool.and_true])]
        exact lax_T0
      have h5 : decide ((k : Int) < 1) = false := h5
      repeat (refine And.intro (of_decide_eq_true rfl) ?_)
      refine bc_split (fun h6 => ?_) (fun h6 => ?_)
      · have h6 : decide (((b.2.2.2.2.map enc1).length : Int) > 0) = true := h6
        repeat (refine And.intro (of_decide_eq_true rfl) ?_)
        refine ret_lax (by first | exact .inr rfl | exact .inl rfl) rfl rfl ?_
        rw [hfail (by simp only [h4, h6, Bool.true_or, Bool.or_true, Bool.and_true])]
        exact lax_T0
      have h6 : decide (((b.2.2.2.2.map enc1).length : Int) > 0) = false := h6
      have hnil : b.2.2.2.2 = [] := by
        cases hq : b.2.2.2.2 with
        | nil => rfl
        | cons a r => rw [hq] at h6; simp at h6
      repeat (refine And.intro (of_decide_eq_true rfl) ?_)
      refine eApp_grow tiI (b.2.2.2.2.map enc1) true ⟨true, true, 1, []⟩ app29 rfl rfl rfl rfl (Nat.zero_le _) rfl (Nat.zero_add _) (by simp [tiI]; omega) ?_
      repeat (refine And.intro (of_decide_eq_true rfl) ?_)
      refine bc_split (fun h7 => ?_) (fun h7 => ?_)
      · rw [h4] at h7; cases h7
      obtain ⟨k', rfl⟩ : ∃ k', k = k' + 1 := ⟨k - 1, by simp at h5; omega⟩
      have e1 : IntKind.i64.wrap (((k' + 1 : Nat) : Int) - 1) = (k' : Int) := by rw [wrap_id (by omega) (by omega)]; omega
      have e2 : IntKind.i64.wrap ((p : Int) + 1) = ((p + 1 : Nat) : Int) := wrap_succ (by omega)
      have ih' : ∀ (p : Nat) (x y n : Int), p ≤ bl.length → Fun G0 116 [.sl nb 5 (bl.map encB), i64 p, i64 x, i64 y, i64 n, i64 (IntKind.i64.wrap (((k' + 1 : Nat) : Int) - 1))] [] (.tup (encR (rd bl k' p x y n))) [] := by
        intro p x y n hp
        rw [e1]; exact ih k' (by omega) p x y n (by omega) hp
      have hun : rd bl (k' + 1) p x y n = ((rd bl k' (p + 1) (kx 0 x n) (ky 0 y n) (half n)).bind fun r1 => (rd bl k' r1.2 (kx 1 x n) (ky 1 y n) (half n)).bind fun r2 =>
          (rd bl k' r2.2 (kx 2 x n) (ky 2 y n) (half n)).bind fun r3 => (rd bl k' r3.2 (kx 3 x n) (ky 3 y n) (half n)).bind fun r4 => some (.node x y n r1.1 r2.1 r3.1 r4.1, r4.2)) := by
        rw [rd]
        simp only [hb, h1, h2, h3, h4, h5, h6, Bool.false_or, Bool.or_false, Bool.and_false, if_false, Bool.false_eq_true, Bool.true_eq_false]
      rw [hun]
      have g1 : b.1 = x := by simpa using h1
      have g2 : b.2.1 = y := by simpa using h2
      have g3 : b.2.2.1 = n := by simpa using h3
      have hz : (b.2.2.2.2.map enc1) = [] := by rw [hnil]; rfl
      rw [hz]
      refine eLoop_weak (S' := st116 bl nb (IntKind.i64.wrap ((p : Int) + 1)) 0 x y n ((k' + 1 : Nat) : Int) [] []) (weak_in [0, 1, 2, 3, 4, 5, 12, 16, 17] [0, 2, 3] 4 rfl (fun l hl => absurd hl (Nat.not_lt_zero l)) rfl) ?_
      refine eLoop_step ?_
      repeat (refine And.intro (of_decide_eq_true rfl) ?_)
      have hs := ih' (p + 1) (kx 0 x n) (ky 0 y n) (half n) hlt
      rw [← e2] at hs
      cases hq1 : rd bl k' (p + 1) (kx 0 x n) (ky 0 y n) (half n) with
      | none =>
        rw [hq1] at hs
        refine eCall_pure (hs) rfl ?_
        repeat (refine And.intro (of_decide_eq_true rfl) ?_)
        refine ret_lax (by first | exact .inr rfl | exact .inl rfl) rfl rfl ?_
        exact lax_T0
      | some r1 =>
        rw [hq1] at hs
        have hle1 := rd_le _ _ _ _ _ _ _ hq1
        refine eCall_pure (hs) rfl ?_
        repeat (refine And.intro (of_decide_eq_true rfl) ?_)
        refine eApp_new tiB [encT r1.1] true app95 rfl (List.cons_ne_nil _ _) (of_decide_eq_true rfl) ?_
        repeat (refine And.intro (of_decide_eq_true rfl) ?_)
        refine eLoop_weak (S' := st116 bl nb r1.2 1 x y n ((k' + 1 : Nat) : Int) [] [encT r1.1]) (weak_in [0, 1, 2, 3, 4, 5, 12, 16, 17] [0, 2, 3, 6] 7 rfl (fun l hl => absurd hl (Nat.not_lt_zero l)) rfl) ?_
        refine eLoop_step ?_
        repeat (refine And.intro (of_decide_eq_true rfl) ?_)
        have hs := ih' r1.2 (kx 1 x n) (ky 1 y n) (half n) hle1.2
        cases hq2 : rd bl k' r1.2 (kx 1 x n) (ky 1 y n) (half n) with
        | none =>
          rw [hq2] at hs
          refine eCall_pure (hs) rfl ?_
          repeat (refine And.intro (of_decide_eq_true rfl) ?_)
          refine ret_lax (.inr rfl) rfl rfl ?_
          rw [Option.bind_some, hq2]
          exact lax_T0
        | some r2 =>
          rw [hq2] at hs
          have hle2 := rd_le _ _ _ _ _ _ _ hq2
          refine eCall_pure (hs) rfl ?_
          repeat (refine And.intro (of_decide_eq_true rfl) ?_)
          refine eApp_grow tiB [encT r2.1] true ⟨true, true, 5, [encT r1.1]⟩ app95 rfl rfl rfl rfl (Nat.zero_le _) rfl rfl (of_decide_eq_true rfl) ?_
          repeat (refine And.intro (of_decide_eq_true rfl) ?_)
          refine eLoop_weak (S' := st116 bl nb r2.2 2 x y n ((k' + 1 : Nat) : Int) [] [encT r1.1, encT r2.1]) (weak_in [0, 1, 2, 3, 4, 5, 12, 16, 17] [0, 2, 3, 6] 7 rfl (fun l hl => absurd hl (Nat.not_lt_zero l)) rfl) ?_
          refine eLoop_step ?_
          repeat (refine And.intro (of_decide_eq_true rfl) ?_)
          have hs := ih' r2.2 (kx 2 x n) (ky 2 y n) (half n) hle2.2
          cases hq3 : rd bl k' r2.2 (kx 2 x n) (ky 2 y n) (half n) with
          | none =>
            rw [hq3] at hs
            refine eCall_pure (hs) rfl ?_
            repeat (refine And.intro (of_decide_eq_true rfl) ?_)
            refine ret_lax (.inr rfl) rfl rfl ?_
            rw [Option.bind_some, hq2, Option.bind_some, hq3]
            exact lax_T0
          | some r3 =>
            rw [hq3] at hs
            have hle3 := rd_le _ _ _ _ _ _ _ hq3
            refine eCall_pure (hs) rfl ?_
            repeat (refine And.intro (of_decide_eq_true rfl) ?_)
            refine eApp_grow tiB [encT r3.1] true ⟨true, true, 5, [encT r1.1, encT r2.1]⟩ app95 rfl rfl rfl rfl (Nat.zero_le _) rfl rfl (of_decide_eq_true rfl) ?_
            repeat (refine And.intro (of_decide_eq_true rfl) ?_)
            refine eLoop_weak (S' := st116 bl nb r3.2 3 x y n ((k' + 1 : Nat) : Int) [] [encT r1.1, encT r2.1, encT r3.1]) (weak_in [0, 1, 2, 3, 4, 5, 12, 16, 17] [0, 2, 3, 6] 7 rfl (fun l hl => absurd hl (Nat.not_lt_zero l)) rfl) ?_
            refine eLoop_step ?_
            repeat (refine And.intro (of_decide_eq_true rfl) ?_)
            have hs := ih' r3.2 (kx 3 x n) (ky 3 y n) (half n) hle3.2
            cases hq4 : rd bl k' r3.2 (kx 3 x n) (ky 3 y n) (half n) with
            | none =>
              rw [hq4] at hs
              refine eCall_pure (hs) rfl ?_
              repeat (refine And.intro (of_decide_eq_true rfl) ?_)
              refine ret_lax (.inr rfl) rfl rfl ?_
              rw [Option.bind_some, hq2, Option.bind_some, hq3, Option.bind_some, hq4]
              exact lax_T0
            | some r4 =>
              rw [hq4] at hs
              have hle4 := rd_le _ _ _ _ _ _ _ hq4
              refine eCall_pure (hs) rfl ?_
              repeat (refine And.intro (of_decide_eq_true rfl) ?_)
              refine eApp_grow tiB [encT r4.1] true ⟨true, true, 5, [encT r1.1, encT r2.1, encT r3.1]⟩ app95 rfl rfl rfl rfl (Nat.zero_le _) rfl rfl (of_decide_eq_true rfl) ?_
              repeat (refine And.intro (of_decide_eq_true rfl) ?_)
              refine eLoop_weak (S' := st116 bl nb r4.2 4 x y n ((k' + 1 : Nat) : Int) [] [encT r1.1, encT r2.1, encT r3.1, encT r4.1]) (weak_in [0, 1, 2, 3, 4, 5, 12, 16, 17] [0, 2, 3, 6] 7 rfl (fun l hl => absurd hl (Nat.not_lt_zero l)) rfl) ?_
              refine eLoop_step ?_
              repeat (refine And.intro (of_decide_eq_true rfl) ?_)
              refine ret_lax (.inr rfl) rfl (vw_tup (vwL_cons (vw_agg (vwL_cons rfl (vwL_cons rfl (vwL_cons rfl (vwL_cons (vw_rowE rfl rfl rfl rfl) (vwL_cons (vw_rowE rfl rfl rfl rfl) vwL_nil)))))) (vwL_cons rfl (vwL_cons rfl vwL_nil)))) ?_
              rw [Option.bind_some, hq2, Option.bind_some, hq3, Option.bind_some, hq4, Option.bind_some]
              refine Lax.trans (.of_eq ?_) (lax_Tn x y n r1.1 r2.1 r3.1 r4.1 r4.2)
              rfl
    · have h4 : b.2.2.2.1 = false := h4
      repeat (refine And.intro (of_decide_eq_true rfl) ?_)
      refine eApp_grow tiI (b.2.2.2.2.map enc1) true ⟨true, true, 1, []⟩ app29 rfl rfl rfl rfl (Nat.zero_le _) rfl (Nat.zero_add _) (by simp [tiI]; omega) ?_
      repeat (refine And.intro (of_decide_eq_true rfl) ?_)
      refine bc_split (fun h7 => ?_) (fun h7 => ?_)
      · repeat (refine And.intro (of_decide_eq_true rfl) ?_)
        refine ret_lax (.inr rfl) rfl (vw_tup (vwL_cons (vw_agg (vwL_cons rfl (vwL_cons rfl (vwL_cons rfl (vwL_cons rfl (vwL_cons (vw_rowE rfl rfl rfl (Nat.zero_add _)) vwL_nil)))))) (vwL_cons rfl (vwL_cons rfl vwL_nil)))) ?_
        unfold rd
        simp only [hb, h1, h2, h3, h4, Bool.false_or, Bool.false_and, if_false, Bool.false_eq_true]
        exact lax_Tl _ _ _ _ _ _ (wrap_succ (by omega))
      · rw [h4] at h7; cases h7
end Go.Proofs.Ytendgiieolkleaa

/- Whether a tree is right: the reference's root, and both packages' QuadOk. -/
namespace Go.Proofs.Ytendgiieolkleaa
open Go.Aw
set_option maxHeartbeats 1000000
set_option maxRecDepth 100000
set_option linter.unusedSimpArgs false
set_option linter.unusedVariables false
theorem rd_leaves (bl : List Blok) (N : Nat) (hids : ∀ b ∈ bl, b.2.2.2.2.length ≤ N) : ∀ k p x y n r, rd bl k p x y n = some r → ∀ l ∈ r.1.leaves, l.length ≤ N := by
  intro k
  induction k with
  | zero =>
    intro p x y n r h
    unfold rd at h
    split at h
    · cases h
    · rename_i b hb
      split at h
      · cases h
      · split at h
        · cases h; intro l hl; simp [Tr.leaves] at hl; subst hl; exact hids b (List.mem_of_getElem? hb)
        · cases h
  | succ k ih =>
    intro p x y n r h
    unfold rd at h
    split at h
    · cases h
    · rename_i b hb
      split at h
      · cases h
      · split at h
        · cases h; intro l hl; simp [Tr.leaves] at hl; subst hl; exact hids b (List.mem_of_getElem? hb)
        · simp only [Option.bind_eq_some_iff] at h
          obtain ⟨p1, h1, p2, h2, p3, h3, p4, h4, h5⟩ := h
          cases h5
          intro l hl
          simp only [Tr.leaves, List.mem_append] at hl
          rcases hl with hl | hl | hl | hl
          · exact ih _ _ _ _ _ h1 l hl
          · exact ih _ _ _ _ _ h2 l hl
          · exact ih _ _ _ _ _ h3 l hl
          · exact ih _ _ _ _ _ h4 l hl
def itAt (items : List Item) (i : Nat) : Item := items.getD i (0, 0, 0, 0, 0)
theorem itAt_eq {items : List Item} {i : Nat} (h : i < items.length) : itAt items i = items[i] := by
  simp [itAt, List.getD_eq_getElem?_getD, List.getElem?_eq_getElem h]
def sgOk (s : Int × Int × Int × Int) : Bool := segOk s.1 s.2.1 s.2.2.1 s.2.2.2
def itemBad (items : List Item) (i : Nat) : Bool :=
  (!inB (itAt items i).1 1 1000 || !sgOk (itAt items i).2) || (decide ((i : Int) > 0) && decide ((itAt items i).1 ≤ (itAt items (i - 1)).1))
def itemsOk (items : List Item) : Bool := (List.range items.length).all fun i => !itemBad items i
theorem itemsOk_bad {items : List Item} {i : Nat} (h : i < items.length) (hb : itemBad items i = true) : itemsOk items = false := by
  unfold itemsOk
  rw [List.all_eq_false]
  exact ⟨i, by simpa using h, by simp [hb]⟩
theorem itemsOk_all {items : List Item} (h : ∀ j, j < items.length → itemBad items j = false) : itemsOk items = true := by
  unfold itemsOk
  rw [List.all_eq_true]
  intro j hj
  simp [h j (by simpa using hj)]
theorem wrap_pred {i : Nat} (h0 : 0 < i) (h : i < 4611686018427387904) : IntKind.i64.wrap ((i : Int) - 1) = ((i - 1 : Nat) : Int) := by
  rw [wrap_id (by omega) (by omega)]; omega
theorem ix_ok1 {α : Type} {f : α → List AV} {l : List α} {i : Nat} (h0 : 0 < i) (h : i < l.length) (hb : l.length ≤ 1048576) : 0 ≤ IntKind.i64.wrap ((i : Int) - 1) ∧ IntKind.i64.wrap ((i : Int) - 1) < ((l.map f).length : Int) := by
  rw [wrap_pred h0 (by omega)]; exact ix_ok (by omega)
theorem ix_get1 {items : List Item} {i : Nat} (h0 : 0 < i) (h : i < items.length) (hb : items.length ≤ 1048576) : (items.map encI).getD (Int.toNat (IntKind.i64.wrap ((i : Int) - 1))) [] = encI (itAt items (i - 1)) := by
  rw [wrap_pred h0 (by omega), ix_get (by omega), itAt_eq]
theorem ix_it {items : List Item} {i : Nat} (h : i < items.length) : (items.map encI).getD (Int.toNat (i : Int)) [] = encI (itAt items i) := by
  rw [ix_get h, itAt_eq h]
def preOk (m d : Int) (items : List Item) (bl : List Blok) : Bool := !((!limB m d || decide (((items.map encI).length : Int) > 40)) || decide (((bl.map encB).length : Int) > 2000))
def rootM (m d : Int) (items : List Item) (bl : List Blok) : Option Tr :=
  if preOk m d items bl = false then none else if itemsOk items = false then none else
  match rd bl d.toNat 0 (-1048576) (-1048576) 2097152 with
  | none => none
  | some r => if (!((r.2 : Int) != ((bl.map encB).length : Int))) = false then none else if r.1.right items = false then none else some r.1
def encRo : Option Tr → List AV
  | none => [.agg (encT (.leaf 0 0 0 [])), bo false]
  | some t => [.agg (encT t), bo true]
theorem lax_Ro0 : Lax (.tup [.agg [i64 0, i64 0, i64 0, .e true, .e true], bo false]) (.tup (encRo none)) :=
  .tupL (.cons (.aggL (.cons (.refl _) (.cons (.refl _) (.cons (.refl _) (.cons (.ez _ _) (.cons (.e _ _) .nil)))))) (.refl _))
def st53 (m d : Int) (nn nb : Bool) (items : List Item) (bl : List Blok) : Nat × Int → St
  | (_, i) => ⟨100, 0, [(1, .ptr 0 0 0), (2, .ptr 1 0 0), (3, bo false), (4, i64 i)],
      [(0, ⟨true, true, 4, [[i64 m, i64 d, .sl nn 5 (items.map encI), .sl nb 5 (bl.map encB)]]⟩), (1, ⟨true, true, 5, [[i64 0, i64 0, i64 0, .e true, .e true]]⟩)], 2⟩
theorem spec_Root (m d : Int) (items : List Item) (bl : List Blok) (nn nb : Bool) (hI : items.length ≤ 1048576) (hB : bl.length ≤ 1048576) (hids : ∀ b ∈ bl, b.2.2.2.2.length ≤ 1048576) :
    Fun G0 53 [.agg [i64 m, i64 d, .sl nn 5 (items.map encI), .sl nb 5 (bl.map encB)]] [] (.tup (encRo (rootM m d items bl))) [] := by
  have hpre : preOk m d items bl = false → rootM m d items bl = none := fun z => by unfold rootM; rw [if_pos z]
  refine spec_ewL (G := G0) (fid := 53) (fn := Try.f53) Try.func53 (by kernel_rfl) rfl (by kernel_rfl) ?_
  repeat (refine And.intro (of_decide_eq_true rfl) ?_)
  refine eCall_flat (spec_Limits _ _) rfl rfl ?_
  refine bc_split (fun h1 => ?_) (fun h1 => ?_)
  · have h1 : (!limB m d) = true := h1
    repeat (refine And.intro (of_decide_eq_true rfl) ?_)
    refine ret_lax (by first | exact .inr rfl | exact .inl rfl) rfl rfl ?_
    rw [hpre (by simp only [preOk, h1, Bool.true_or, Bool.not_true])]
    exact lax_Ro0
  have h1 : (!limB m d) = false := h1
  repeat (refine And.intro (of_decide_eq_true rfl) ?_)
  refine bc_split (fun h2 => ?_) (fun h2 => ?_)
  · have h2 : decide (((items.map encI).length : Int) > 40) = true := h2
    repeat (refine And.intro (of_decide_eq_true rfl) ?_)
    refine ret_lax (by first | exact .inr rfl | exact .inl rfl) rfl rfl ?_
    rw [hpre (by simp only [preOk, h2, Bool.true_or, Bool.or_true, Bool.not_true])]
    exact lax_Ro0
  have h2 : decide (((items.map encI).length : Int) > 40) = false := h2
  repeat (refine And.intro (of_decide_eq_true rfl) ?_)
  refine bc_split (fun h3 => ?_) (fun h3 => ?_)
  · have h3 : decide (((bl.map encB).length : Int) > 2000) = true := h3
    repeat (refine And.intro (of_decide_eq_true rfl) ?_)
    refine ret_lax (by first | exact .inr rfl | exact .inl rfl) rfl rfl ?_
    rw [hpre (by simp only [preOk, h3, Bool.true_or, Bool.or_true, Bool.not_true])]
    exact lax_Ro0
  have h3 : decide (((bl.map encB).length : Int) > 2000) = false := h3
  have hp : preOk m d items bl = true := by simp only [preOk, h1, h2, h3]; rfl
  have hit : itemsOk items = false → rootM m d items bl = none := fun z => by unfold rootM; rw [if_neg (by rw [hp]; simp), if_pos z]
  repeat (refine And.intro (of_decide_eq_true rfl) ?_)
  refine eLoop_pre (st53 m d nn nb items bl) (fun a => a.1 ≤ items.length ∧ a.2 = a.1 ∧ ∀ j, j < a.1 → itemBad items j = false) (fun a => items.length - a.1) (0, 0) (weak_to [1, 2, 3, 4] 2 rfl rfl) ⟨Nat.zero_le _, rfl, by simp⟩ ?_
  rintro ⟨i, iv⟩ ⟨hi, hiv, hall⟩
  simp only at hi hiv hall
  subst hiv
  repeat (refine And.intro (of_decide_eq_true rfl) ?_)
  refine bc_split (fun h => ?_) (fun h => ?_)
  · have hlt : i < items.length := by have := of_decide_eq_true h; simp at this; omega
    refine eDraw_ok ?_
    repeat (refine And.intro (of_decide_eq_true rfl) ?_)
    refine And.intro (ix_ok hlt) ?_
    rw [ix_it hlt]
    repeat (refine And.intro (of_decide_eq_true rfl) ?_)
    refine dCall_flat [] (spec_in _ _ _) rfl rfl rfl ?_
    refine bc_split (fun g1 => ?_) (fun g1 => ?_)
    · have g1 : (!inB (itAt items i).1 1 1000) = true := g1
      repeat (refine And.intro (of_decide_eq_true rfl) ?_)
      refine ret_lax (by first | exact .inr rfl | exact .inl rfl) rfl rfl ?_
      rw [hit (itemsOk_bad hlt (by simp only [itemBad, g1, Bool.true_or]))]
      exact lax_Ro0
    have g1 : (!inB (itAt items i).1 1 1000) = false := g1
    repeat (refine And.intro (of_decide_eq_true rfl) ?_)
    refine And.intro (ix_ok hlt) ?_
    rw [ix_it hlt]
    repeat (refine And.intro (of_decide_eq_true rfl) ?_)
    refine dCall_flat [] (spec_SegOk _ _ _ _) rfl rfl rfl ?_
    refine bc_split (fun g2 => ?_) (fun g2 => ?_)
    · have g2 : (!sgOk (itAt items i).2) = true := g2
      repeat (refine And.intro (of_decide_eq_true rfl) ?_)
      refine ret_lax (by first | exact .inr rfl | exact .inl rfl) rfl rfl ?_
      rw [hit (itemsOk_bad hlt (by simp only [itemBad, g2, Bool.or_true, Bool.true_or]))]
      exact lax_Ro0
    have g2 : (!sgOk (itAt items i).2) = false := g2
    repeat (refine And.intro (of_decide_eq_true rfl) ?_)
    refine bc_split (fun g3 => ?_) (fun g3 => ?_)
    · have g3 : decide ((i : Int) > 0) = true := g3
      have h0 : 0 < i := by simpa using g3
      repeat (refine And.intro (of_decide_eq_true rfl) ?_)
      refine And.intro (ix_ok1 h0 hlt hI) ?_
      rw [ix_get1 h0 hlt hI]
      repeat (refine And.intro (of_decide_eq_true rfl) ?_)
      refine And.intro (ix_ok hlt) ?_
      rw [ix_it hlt]
      repeat (refine And.intro (of_decide_eq_true rfl) ?_)
      refine bc_split (fun g4 => ?_) (fun g4 => ?_)
      · have g4 : decide ((itAt items i).1 ≤ (itAt items (i - 1)).1) = true := g4
        repeat (refine And.intro (of_decide_eq_true rfl) ?_)
        refine ret_lax (by first | exact .inr rfl | exact .inl rfl) rfl rfl ?_
        rw [hit (itemsOk_bad hlt (by simp only [itemBad, g3, g4, Bool.and_true, Bool.or_true]))]
        exact lax_Ro0
      · have g4 : decide ((itAt items i).1 ≤ (itAt items (i - 1)).1) = false := g4
        repeat (refine And.intro (of_decide_eq_true rfl) ?_)
        refine ⟨(i + 1, IntKind.i64.wrap (↑i + 1)), weak_to [1, 2, 3, 4] 2 rfl rfl, ⟨hlt, wrap_succ (by omega), ?_⟩, by simp only; omega⟩
        intro j hj
        rcases Nat.lt_succ_iff_lt_or_eq.1 hj with z | z
        · exact hall j z
        · subst z; simp only [itemBad, g1, g2, g4, Bool.or_false, Bool.and_false]
    · have g3 : decide ((i : Int) > 0) = false := g3
      repeat (refine And.intro (of_decide_eq_true rfl) ?_)
      refine ⟨(i + 1, IntKind.i64.wrap (↑i + 1)), weak_to [1, 2, 3, 4] 2 rfl rfl, ⟨hlt, wrap_succ (by omega), ?_⟩, by simp only; omega⟩
      intro j hj
      rcases Nat.lt_succ_iff_lt_or_eq.1 hj with z | z
      · exact hall j z
      · subst z; simp only [itemBad, g1, g2, g3, Bool.or_false, Bool.false_and]
  · have hge : i = items.length := by have := of_decide_eq_false h; simp at this; omega
    subst hge
    have hok : itemsOk items = true := itemsOk_all hall
    have hl : 0 ≤ d ∧ d ≤ 8 := by
      have : limB m d = true := by simpa using h1
      simp only [limB, inB, Bool.and_eq_true, decide_eq_true_eq] at this; omega
    obtain ⟨k, rfl⟩ : ∃ k : Nat, d = k := ⟨d.toNat, by omega⟩
    have hun : rootM m k items bl = (match rd bl k 0 (-1048576) (-1048576) 2097152 with
      | none => none
      | some r => if (!((r.2 : Int) != ((bl.map encB).length : Int))) = false then none else if r.1.right items = false then none else some r.1) := by
      unfold rootM
      rw [if_neg (by rw [hp]; simp), if_neg (by rw [hok]; simp)]; rfl
    repeat (refine And.intro (of_decide_eq_true rfl) ?_)
    have hs := spec_Read bl nb hB hids k 0 (-1048576) (-1048576) 2097152 (by omega) (Nat.zero_le _)
    rw [hun]
    cases hq : rd bl k 0 (-1048576) (-1048576) 2097152 with
    | none =>
      rw [hq] at hs
      refine eCall_pure (hs) rfl ?_
      repeat (refine And.intro (of_decide_eq_true rfl) ?_)
      refine ret_lax (by first | exact .inr rfl | exact .inl rfl) rfl rfl ?_
      exact lax_Ro0
    | some r =>
      rw [hq] at hs
      have hlv := rd_leaves bl 1048576 hids _ _ _ _ _ _ hq
      obtain ⟨t, q⟩ := r
      refine eCall_pure (hs) rfl ?_
      repeat (refine And.intro (of_decide_eq_true rfl) ?_)
      refine bc_split (fun h5 => ?_) (fun h5 => ?_)
      · have h5 : (((q : Int) != ((bl.map encB).length : Int))) = true := h5
        repeat (refine And.intro (of_decide_eq_true rfl) ?_)
        refine ret_lax (by first | exact .inr rfl | exact .inl rfl) rfl rfl ?_
        simp only [h5, Bool.not_true, if_true]
        exact lax_Ro0
      have h5 : (((q : Int) != ((bl.map encB).length : Int))) = false := h5
      repeat (refine And.intro (of_decide_eq_true rfl) ?_)
      refine eCall_flat (spec_Right nn items hI t hlv) rfl rfl ?_
      refine bc_split (fun h6 => ?_) (fun h6 => ?_)
      · have h6 : (t.right items) = false := by have z := h6; rw [Bool.not_eq_true'] at z; exact z
        repeat (refine And.intro (of_decide_eq_true rfl) ?_)
        refine ret_lax (by first | exact .inr rfl | exact .inl rfl) rfl rfl ?_
        simp only [h5, h6, Bool.not_false, Bool.true_eq_false, if_true, if_false]
        exact lax_Ro0
      · have h6 : (t.right items) = true := by have z := h6; rw [Bool.not_eq_false'] at z; exact z
        repeat (refine And.intro (of_decide_eq_true rfl) ?_)
        refine ret_lax (by first | exact .inr rfl | exact .inl rfl) rfl rfl ?_
        simp only [h5, h6, Bool.not_false, Bool.true_eq_false, if_false]
        exact .refl _
theorem spec_QuadOk (m d : Int) (items : List Item) (bl : List Blok) (nn nb : Bool) (hI : items.length ≤ 1048576) (hB : bl.length ≤ 1048576) (hids : ∀ b ∈ bl, b.2.2.2.2.length ≤ 1048576) :
    Fun G0 26 [.agg [i64 m, i64 d, .sl nn 5 (items.map encI), .sl nb 5 (bl.map encB)]] [] (bo (rootM m d items bl).isSome) [] := by
  have hs := spec_Root m d items bl nn nb hI hB hids
  refine spec_ewL (G := G0) (fid := 26) (fn := Try.f26) Try.func26 (by kernel_rfl) rfl (by kernel_rfl) ?_
  repeat (refine And.intro (of_decide_eq_true rfl) ?_)
  cases hq : rootM m d items bl with
  | none =>
    rw [hq] at hs
    refine eCall_pure (hs) rfl ?_
    repeat (refine And.intro (of_decide_eq_true rfl) ?_)
    exact ret_eq (by first | exact .inr rfl | exact .inl rfl) rfl rfl (rfl)
  | some t =>
    rw [hq] at hs
    refine eCall_pure (hs) rfl ?_
    repeat (refine And.intro (of_decide_eq_true rfl) ?_)
    exact ret_eq (by first | exact .inr rfl | exact .inl rfl) rfl rfl (rfl)
end Go.Proofs.Ytendgiieolkleaa

/- The program's QuadOk, and that it is the reference's. -/
namespace Go.Proofs.Ytendgiieolkleaa
open Go.Aw
set_option maxHeartbeats 1000000
set_option maxRecDepth 100000
set_option linter.unusedSimpArgs false
set_option linter.unusedVariables false
def InR (n : Int) : Prop := -9223372036854775808 ≤ n ∧ n < 9223372036854775808
theorem wrap_eq (n : Int) : IntKind.i64.wrap n = if (9223372036854775808 : Int) ≤ n % 18446744073709551616 then n % 18446744073709551616 - 18446744073709551616 else n % 18446744073709551616 := by
  unfold IntKind.wrap; simp [IntKind.signed, IntKind.bits]
theorem wrap_in (n : Int) : InR (IntKind.i64.wrap n) := by
  rw [wrap_eq]; unfold InR; split <;> omega
theorem wrap_of {n : Int} (h : InR n) : IntKind.i64.wrap n = n := wrap_id h.1 h.2
theorem W64_of {n : Int} (h : InR n) : W64 n = n := wrap_id h.1 h.2
theorem W64_in (n : Int) : InR (W64 n) := wrap_in n
theorem half_in (n : Int) : InR (half n) := wrap_in _
theorem kx0 {x n : Int} (h : InR x) : kx 0 x n = x := by
  unfold kx
  rw [show Int.tmod 0 2 = 0 from rfl, Int.zero_mul, show W64 0 = 0 from rfl, Int.add_zero, W64_of h]
theorem kx1 (x n : Int) : kx 1 x n = W64 (x + half n) := by
  unfold kx
  rw [show Int.tmod 1 2 = 1 from rfl, Int.one_mul, W64_of (half_in n)]
theorem kx2 {x n : Int} (h : InR x) : kx 2 x n = x := by
  unfold kx
  rw [show Int.tmod 2 2 = 0 from rfl, Int.zero_mul, show W64 0 = 0 from rfl, Int.add_zero, W64_of h]
theorem kx3 (x n : Int) : kx 3 x n = W64 (x + half n) := by
  unfold kx
  rw [show Int.tmod 3 2 = 1 from rfl, Int.one_mul, W64_of (half_in n)]
theorem ky0 {x n : Int} (h : InR x) : ky 0 x n = x := by
  unfold ky
  rw [show Int.tdiv 0 2 = 0 from rfl, show W64 0 = 0 from rfl, Int.zero_mul, show W64 0 = 0 from rfl, Int.add_zero, W64_of h]
theorem ky1 {x n : Int} (h : InR x) : ky 1 x n = x := by
  unfold ky
  rw [show Int.tdiv 1 2 = 0 from rfl, show W64 0 = 0 from rfl, Int.zero_mul, show W64 0 = 0 from rfl, Int.add_zero, W64_of h]
theorem ky2 (x n : Int) : ky 2 x n = W64 (x + half n) := by
  unfold ky
  rw [show Int.tdiv 2 2 = 1 from rfl, show W64 1 = 1 from rfl, Int.one_mul, W64_of (half_in n)]
theorem ky3 (x n : Int) : ky 3 x n = W64 (x + half n) := by
  unfold ky
  rw [show Int.tdiv 3 2 = 1 from rfl, show W64 1 = 1 from rfl, Int.one_mul, W64_of (half_in n)]
def rdR (items : List Item) (o : Option (Tr × Nat)) : Option Nat := o.bind fun r => if r.1.right items = true then some r.2 else none
theorem chk_rd (items : List Item) (bl : List Blok) : ∀ k p x y n, InR x → InR y → chk items bl k p x y n = rdR items (rd bl k p x y n) := by
  intro k
  induction k with
  | zero =>
    intro p x y n hx hy
    unfold chk rd
    cases hb : bl[p]? with
    | none => rfl
    | some b =>
      simp only []
      by_cases h1 : ((!(b.1 == x) || !(b.2.1 == y)) || !(b.2.2.1 == n)) = true
      · simp only [h1, Bool.true_or, if_true]; rfl
      · have h1 : ((!(b.1 == x) || !(b.2.1 == y)) || !(b.2.2.1 == n)) = false := by simpa using h1
        simp only [h1, Bool.false_or, Bool.false_eq_true, if_false]
        cases hs : b.2.2.2.1 with
        | false =>
          simp only [if_true, Bool.false_and, Bool.false_eq_true, if_false, rdR, Option.bind_some, Tr.right]
          have g : b.1 = x ∧ b.2.1 = y ∧ b.2.2.1 = n := by simpa [and_assoc] using h1
          rfl
        | true =>
          simp only [Bool.true_eq_false, if_false, Bool.true_and]
          have : decide (((0 : Nat) : Int) < 1) = true := rfl
          simp only [this, Bool.true_or, if_true]
          split <;> rfl
  | succ k ih =>
    intro p x y n hx hy
    unfold chk rd
    cases hb : bl[p]? with
    | none => rfl
    | some b =>
      simp only []
      by_cases h1 : ((!(b.1 == x) || !(b.2.1 == y)) || !(b.2.2.1 == n)) = true
      · simp only [h1, Bool.true_or, if_true]; rfl
      · have h1 : ((!(b.1 == x) || !(b.2.1 == y)) || !(b.2.2.1 == n)) = false := by simpa using h1
        simp only [h1, Bool.false_or, Bool.false_eq_true, if_false]
        cases hs : b.2.2.2.1 with
        | false =>
          simp only [if_true, Bool.false_and, Bool.false_eq_true, if_false, rdR, Option.bind_some, Tr.right]
          rfl
        | true =>
          simp only [Bool.true_eq_false, if_false, Bool.true_and]
          have : decide ((((k + 1 : Nat)) : Int) < 1) = false := by simp; omega
          simp only [this, Bool.false_or, List.length_map]
          by_cases h2 : 0 < b.2.2.2.2.length
          · have h3 : decide ((b.2.2.2.2.length : Int) > 0) = true := by simpa using h2
            simp only [h2, h3, if_true]; rfl
          · have h3 : decide ((b.2.2.2.2.length : Int) > 0) = false := by simpa using h2
            simp only [h2, h3, Bool.false_eq_true, if_false]
            rw [kx0 hx, ky0 hy, kx1, ky1 hy, kx2 hx, ky2, kx3, ky3]
            rw [ih _ _ _ _ hx hy]
            cases r1 : rd bl k (p + 1) x y (half n) with
            | none => rfl
            | some t1 =>
              simp only [Option.bind_some]
              have e : ∀ (t : Tr × Nat) (f : Nat → Option Nat), (rdR items (some t)).bind f = if t.1.right items = true then f t.2 else none := by
                intro t f; simp only [rdR, Option.bind_some]; split <;> rfl
              rw [e]
              rw [ih t1.2 _ _ _ (W64_in _) hy]
              cases r2 : rd bl k t1.2 (W64 (x + half n)) y (half n) with
              | none => simp only [Option.bind_none]; simp [rdR]
              | some t2 =>
                simp only [Option.bind_some]
                rw [e, ih t2.2 _ _ _ hx (W64_in _)]
                cases r3 : rd bl k t2.2 x (W64 (y + half n)) (half n) with
                | none => simp only [Option.bind_none]; simp [rdR]
                | some t3 =>
                  simp only [Option.bind_some]
                  rw [e, ih t3.2 _ _ _ (W64_in _) (W64_in _)]
                  cases r4 : rd bl k t3.2 (W64 (x + half n)) (W64 (y + half n)) (half n) with
                  | none => simp only [Option.bind_none]; simp [rdR]
                  | some t4 =>
                    simp only [Option.bind_some, rdR, Tr.right]
                    by_cases q1 : t1.1.right items = true <;> by_cases q2 : t2.1.right items = true <;> by_cases q3 : t3.1.right items = true <;> by_cases q4 : t4.1.right items = true <;> simp [q1, q2, q3, q4]
theorem enc_ne (o : Option Nat) (n : Nat) : (encO o == (n : Int)) = (match o with | none => false | some p => p == n) := by
  cases o with
  | none => simp only [encO]; rw [beq_eq_false_iff_ne]; omega
  | some p => simp only [encO]; rw [Bool.eq_iff_iff]; simp only [beq_iff_eq]; exact Int.ofNat_inj
def qOk (m d : Int) (items : List Item) (bl : List Blok) : Bool := (rootM m d items bl).isSome
def qOkI (m d : Int) (items : List Item) (bl : List Blok) : Bool :=
  if preOk m d items bl = false then false else if itemsOk items = false then false else
  encO (chk items bl d.toNat 0 (-1048576) (-1048576) 2097152) == (((bl.map encB).length : Nat) : Int)
theorem qOkI_eq (m d : Int) (items : List Item) (bl : List Blok) : qOkI m d items bl = qOk m d items bl := by
  unfold qOkI qOk rootM
  split
  · rfl
  split
  · rfl
  rw [enc_ne, chk_rd _ _ _ _ _ _ _ (by unfold InR; omega) (by unfold InR; omega)]
  cases rd bl d.toNat 0 (-1048576) (-1048576) 2097152 with
  | none => rfl
  | some r =>
    simp only [rdR, Option.bind_some]
    cases hr : r.1.right items with
    | false => simp only [Bool.false_eq_true, if_false, if_true]; split <;> rfl
    | true =>
      simp only [if_true, Bool.true_eq_false, if_false]
      by_cases e : r.2 = (bl.map encB).length
      · have e2 : ((r.2 : Int) != ((bl.map encB).length : Int)) = false := by simp [e]
        simp only [e2, Bool.not_false, Bool.true_eq_false, if_false, Option.isSome_some]
        simpa using e
      · have e2 : ((r.2 : Int) != ((bl.map encB).length : Int)) = true := by rw [bne_iff_ne]; omega
        simp only [e2, Bool.not_true, if_true, Option.isSome_none]
        simpa using e
def st25 (m d : Int) (nn nb : Bool) (items : List Item) (bl : List Blok) : Nat × Int → St
  | (_, i) => ⟨70, 0, [(1, .ptr 0 0 0), (2, bo false), (28, .sl nn 5 (items.map encI)), (29, i64 (items.map encI).length), (30, i64 i)],
      [(0, ⟨true, true, 4, [[i64 m, i64 d, .sl nn 5 (items.map encI), .sl nb 5 (bl.map encB)]]⟩)], 1⟩
theorem impl_QuadOk (m d : Int) (items : List Item) (bl : List Blok) (nn nb : Bool) (hI : items.length ≤ 1048576) (hB : bl.length ≤ 1048576) (hids : ∀ b ∈ bl, b.2.2.2.2.length ≤ 1048576) :
    Fun G0 25 [.agg [i64 m, i64 d, .sl nn 5 (items.map encI), .sl nb 5 (bl.map encB)]] [] (bo (qOk m d items bl)) [] := by
  rw [← qOkI_eq]
  have hpre : preOk m d items bl = false → qOkI m d items bl = false := fun z => by unfold qOkI; rw [if_pos z]
  refine spec_ewL (G := G0) (fid := 25) (fn := Try.f25) Try.func25 (by kernel_rfl) rfl (by kernel_rfl) ?_
  repeat (refine And.intro (of_decide_eq_true rfl) ?_)
  refine eCall_flat (within _ _ _) rfl rfl ?_
  refine bc_split (fun h1 => ?_) (fun h1 => ?_)
  · have h1 : (!inB m 1 8) = true := h1
    repeat (refine And.intro (of_decide_eq_true rfl) ?_)
    exact ret_eq (by first | exact .inr rfl | exact .inl rfl) rfl rfl (by rw [hpre (by simp only [preOk, limB, Bool.not_and, h1, Bool.true_or, Bool.not_true])])
  have h1 : (!inB m 1 8) = false := h1
  repeat (refine And.intro (of_decide_eq_true rfl) ?_)
  refine eCall_flat (within _ _ _) rfl rfl ?_
  refine bc_split (fun h2 => ?_) (fun h2 => ?_)
  · have h2 : (!inB d 0 8) = true := h2
    repeat (refine And.intro (of_decide_eq_true rfl) ?_)
    exact ret_eq (by first | exact .inr rfl | exact .inl rfl) rfl rfl (by rw [hpre (by simp only [preOk, limB, Bool.not_and, h2, Bool.true_or, Bool.or_true, Bool.not_true])])
  have h2 : (!inB d 0 8) = false := h2
  repeat (refine And.intro (of_decide_eq_true rfl) ?_)
  refine bc_split (fun h3 => ?_) (fun h3 => ?_)
  · have h3 : decide (((items.map encI).length : Int) > 40) = true := h3
    repeat (refine And.intro (of_decide_eq_true rfl) ?_)
    exact ret_eq (by first | exact .inr rfl | exact .inl rfl) rfl rfl (by rw [hpre (by simp only [preOk, h3, Bool.true_or, Bool.or_true, Bool.not_true])])
  have h3 : decide (((items.map encI).length : Int) > 40) = false := h3
  repeat (refine And.intro (of_decide_eq_true rfl) ?_)
  refine bc_split (fun h4 => ?_) (fun h4 => ?_)
  · have h4 : decide (((bl.map encB).length : Int) > 2000) = true := h4
    repeat (refine And.intro (of_decide_eq_true rfl) ?_)
    exact ret_eq (by first | exact .inr rfl | exact .inl rfl) rfl rfl (by rw [hpre (by simp only [preOk, h4, Bool.true_or, Bool.or_true, Bool.not_true])])
  have h4 : decide (((bl.map encB).length : Int) > 2000) = false := h4
  have hp : preOk m d items bl = true := by simp only [preOk, limB, Bool.not_and, h1, h2, h3, h4]; rfl
  have hit : itemsOk items = false → qOkI m d items bl = false := fun z => by unfold qOkI; rw [if_neg (by rw [hp]; simp), if_pos z]
  repeat (refine And.intro (of_decide_eq_true rfl) ?_)
  refine eLoop_pre (st25 m d nn nb items bl) (fun a => a.1 ≤ items.length ∧ a.2 = a.1 ∧ ∀ j, j < a.1 → itemBad items j = false) (fun a => items.length - a.1) (0, 0) (weak_to [1, 2, 28, 29, 30] 1 rfl rfl) ⟨Nat.zero_le _, rfl, by simp⟩ ?_
  rintro ⟨i, iv⟩ ⟨hi, hiv, hall⟩
  simp only at hi hiv hall
  subst hiv
  repeat (refine And.intro (of_decide_eq_true rfl) ?_)
  refine bc_split (fun h => ?_) (fun h => ?_)
  · have hlt : i < items.length := by have := of_decide_eq_true h; simp at this; omega
    repeat (refine And.intro (of_decide_eq_true rfl) ?_)
    refine And.intro (ix_ok hlt) ?_
    rw [ix_it hlt]
    repeat (refine And.intro (of_decide_eq_true rfl) ?_)
    refine eDraw_ok ?_
    repeat (refine And.intro (of_decide_eq_true rfl) ?_)
    refine dCall_flat [] (within _ _ _) rfl rfl rfl ?_
    refine bc_split (fun g1 => ?_) (fun g1 => ?_)
    · have g1 : (!inB (itAt items i).1 1 1000) = true := g1
      repeat (refine And.intro (of_decide_eq_true rfl) ?_)
      exact ret_eq (by first | exact .inr rfl | exact .inl rfl) rfl rfl (by rw [hit (itemsOk_bad hlt (by simp only [itemBad, g1, Bool.true_or]))])
    have g1 : (!inB (itAt items i).1 1 1000) = false := g1
    repeat (refine And.intro (of_decide_eq_true rfl) ?_)
    refine dCall_flat [] (impl_SegOk _ _ _ _) rfl rfl rfl ?_
    refine bc_split (fun g2 => ?_) (fun g2 => ?_)
    · have g2 : (!sgOk (itAt items i).2) = true := g2
      repeat (refine And.intro (of_decide_eq_true rfl) ?_)
      exact ret_eq (by first | exact .inr rfl | exact .inl rfl) rfl rfl (by rw [hit (itemsOk_bad hlt (by simp only [itemBad, g2, Bool.or_true, Bool.true_or]))])
    have g2 : (!sgOk (itAt items i).2) = false := g2
    repeat (refine And.intro (of_decide_eq_true rfl) ?_)
    refine bc_split (fun g3 => ?_) (fun g3 => ?_)
    · have g3 : decide ((i : Int) > 0) = true := g3
      have h0 : 0 < i := by simpa using g3
      repeat (refine And.intro (of_decide_eq_true rfl) ?_)
      refine And.intro (ix_ok1 h0 hlt hI) ?_
      rw [ix_get1 h0 hlt hI]
      repeat (refine And.intro (of_decide_eq_true rfl) ?_)
      refine bc_split (fun g4 => ?_) (fun g4 => ?_)
      · have g4 : decide ((itAt items i).1 ≤ (itAt items (i - 1)).1) = true := g4
        repeat (refine And.intro (of_decide_eq_true rfl) ?_)
        exact ret_eq (by first | exact .inr rfl | exact .inl rfl) rfl rfl (by rw [hit (itemsOk_bad hlt (by simp only [itemBad, g3, g4, Bool.and_true, Bool.or_true]))])
      · have g4 : decide ((itAt items i).1 ≤ (itAt items (i - 1)).1) = false := g4
        repeat (refine And.intro (of_decide_eq_true rfl) ?_)
        refine ⟨(i + 1, IntKind.i64.wrap (↑i + 1)), weak_to [1, 2, 28, 29, 30] 1 rfl rfl, ⟨hlt, wrap_succ (by omega), ?_⟩, by simp only; omega⟩
        intro j hj
        rcases Nat.lt_succ_iff_lt_or_eq.1 hj with z | z
        · exact hall j z
        · subst z; simp only [itemBad, g1, g2, g4, Bool.or_false, Bool.and_false]
    · have g3 : decide ((i : Int) > 0) = false := g3
      repeat (refine And.intro (of_decide_eq_true rfl) ?_)
      refine ⟨(i + 1, IntKind.i64.wrap (↑i + 1)), weak_to [1, 2, 28, 29, 30] 1 rfl rfl, ⟨hlt, wrap_succ (by omega), ?_⟩, by simp only; omega⟩
      intro j hj
      rcases Nat.lt_succ_iff_lt_or_eq.1 hj with z | z
      · exact hall j z
      · subst z; simp only [itemBad, g1, g2, g3, Bool.or_false, Bool.false_and]
  · have hge : i = items.length := by have := of_decide_eq_false h; simp at this; omega
    subst hge
    have hok : itemsOk items = true := itemsOk_all hall
    have hl : 0 ≤ d ∧ d ≤ 8 := by
      have : inB d 0 8 = true := by simpa using h2
      simp only [inB, Bool.and_eq_true, decide_eq_true_eq] at this; omega
    obtain ⟨k, rfl⟩ : ∃ k : Nat, d = k := ⟨d.toNat, by omega⟩
    have hun : qOkI m k items bl = (encO (chk items bl k 0 (-1048576) (-1048576) 2097152) == (((bl.map encB).length : Nat) : Int)) := by
      unfold qOkI
      rw [if_neg (by rw [hp]; simp), if_neg (by rw [hok]; simp)]; rfl
    have hs := impl_check m k items bl nn nb hI hB (by omega) hids k 0 (-1048576) (-1048576) 2097152 (by omega) (Nat.zero_le _)
    rw [Int.sub_self] at hs
    refine eDraw_ok ?_
    repeat (refine And.intro (of_decide_eq_true rfl) ?_)
    refine dCall_pure [] (impl_root m k items (bl.map encB) nn nb hI) rfl rfl ?_
    repeat (refine And.intro (of_decide_eq_true rfl) ?_)
    refine dCall_flat [] (hs) rfl rfl rfl ?_
    repeat (refine And.intro (of_decide_eq_true rfl) ?_)
    exact ret_eq (by first | exact .inr rfl | exact .inl rfl) rfl rfl (by rw [hun])
end Go.Proofs.Ytendgiieolkleaa
