/- The blocks that were read are the blocks that are written; the program's QuadCount. The program's QuadCount. FnQuadLeaves answers true. -/
import Derived.Test.YtendgiieolkleaaM13

/- The blocks that were read are the blocks that are written; the program's QuadCount. -/
namespace Go.Proofs.Ytendgiieolkleaa
open Go.Aw
set_option maxHeartbeats 1000000
set_option maxRecDepth 100000
set_option linter.unusedSimpArgs false
set_option linter.unusedVariables false
def seg2 (bl : List Blok) (p q : Nat) : List Blok := (bl.drop p).take (q - p)
theorem seg2_app (bl : List Blok) {p q r : Nat} (h1 : p ≤ q) (h2 : q ≤ r) : seg2 bl p r = seg2 bl p q ++ seg2 bl q r := by
  unfold seg2
  rw [show r - p = (q - p) + (r - q) by omega, List.take_add, List.drop_drop, show p + (q - p) = q by omega]
theorem seg2_one (bl : List Blok) {p : Nat} {b : Blok} (h : bl[p]? = some b) : seg2 bl p (p + 1) = [b] := by
  unfold seg2
  have hp : p < bl.length := by
    rcases Nat.lt_or_ge p bl.length with z | z
    · exact z
    · rw [List.getElem?_eq_none z] at h; cases h
  rw [List.drop_eq_getElem_cons hp, show p + 1 - p = 1 by omega]
  rw [List.getElem?_eq_getElem hp] at h
  simp only [List.take_succ_cons, List.take_zero]
  rw [Option.some.inj h]
theorem rd_write (bl : List Blok) : ∀ k p x y n r, rd bl k p x y n = some r → seg2 bl p r.2 = writeT r.1 := by
  intro k
  induction k with
  | zero =>
    intro p x y n r h
    unfold rd at h
    split at h
    · cases h
    · rename_i b hb
      split at h
      · cases h
      · rename_i hbad
        split at h
        · rename_i hs
          cases h
          simp at hbad
          rw [seg2_one bl hb]
          obtain ⟨b1, b2, b3, b4, b5⟩ := b
          simp only at hbad hs ⊢
          obtain ⟨⟨⟨e1, e2⟩, e3⟩, _⟩ := hbad
          subst e1 e2 e3 hs
          rfl
        · cases h
  | succ k ih =>
    intro p x y n r h
    unfold rd at h
    split at h
    · cases h
    · rename_i b hb
      split at h
      · cases h
      · rename_i hbad
        split at h
        · rename_i hs
          cases h
          simp at hbad
          rw [seg2_one bl hb]
          obtain ⟨b1, b2, b3, b4, b5⟩ := b
          simp only at hbad hs ⊢
          obtain ⟨⟨⟨e1, e2⟩, e3⟩, _⟩ := hbad
          subst e1 e2 e3 hs
          rfl
        · rename_i hs
          simp only [Option.bind_eq_some_iff] at h
          obtain ⟨p1, h1, p2, h2, p3, h3, p4, h4, h5⟩ := h
          have w1 := ih _ _ _ _ _ h1
          have w2 := ih _ _ _ _ _ h2
          have w3 := ih _ _ _ _ _ h3
          have w4 := ih _ _ _ _ _ h4
          have l1 := (rd_le _ _ _ _ _ _ _ h1).1
          have l2 := (rd_le _ _ _ _ _ _ _ h2).1
          have l3 := (rd_le _ _ _ _ _ _ _ h3).1
          have l4 := (rd_le _ _ _ _ _ _ _ h4).1
          cases h5
          simp only
          rw [seg2_app bl (q := p + 1) (by omega) (by omega), seg2_one bl hb, seg2_app bl (p := p + 1) (q := p3.2) (by omega) (by omega), seg2_app bl (p := p + 1) (q := p2.2) (by omega) (by omega), seg2_app bl (p := p + 1) (q := p1.2) (by omega) (by omega), w1, w2, w3, w4]
          simp only [writeT]
          obtain ⟨b1, b2, b3, b4, b5⟩ := b
          simp only [Bool.or_eq_true, Bool.and_eq_true, Bool.not_eq_true', beq_eq_false_iff_ne, decide_eq_true_eq, List.length_map] at hbad hs
          have e4 : b4 = true := by simpa using hs
          have e5 : b5 = [] := by
            cases b5 with
            | nil => rfl
            | cons c cs => exact absurd (.inr ⟨e4, .inr (by simp)⟩) hbad
          have e1 : b1 = x := Classical.byContradiction fun z => hbad (.inl (.inl (.inl z)))
          have e2 : b2 = y := Classical.byContradiction fun z => hbad (.inl (.inl (.inr z)))
          have e3 : b3 = n := Classical.byContradiction fun z => hbad (.inl (.inr z))
          subst e1 e2 e3 e4 e5
          rfl
theorem rootM_write {m d : Int} {items : List Item} {bl : List Blok} {t : Tr} (h : rootM m d items bl = some t) : writeT t = bl := by
  obtain ⟨_, _, q, hrd, hq, _⟩ := rootM_some h
  have := rd_write bl _ _ _ _ _ _ hrd
  simp only at this
  rw [← this, hq]; unfold seg2; simp
def HH : Nat → Int
  | 0 => 2097152
  | j + 1 => half (HH j)
def wfT : Nat → Nat → Tr → Prop
  | _, j, .leaf _ _ n _ => n = HH j
  | 0, _, .node _ _ _ _ _ _ _ => False
  | k + 1, j, .node _ _ n a b c d => n = HH j ∧ wfT k (j + 1) a ∧ wfT k (j + 1) b ∧ wfT k (j + 1) c ∧ wfT k (j + 1) d
theorem rd_wf (bl : List Blok) : ∀ k p x y n r j, n = HH j → rd bl k p x y n = some r → wfT k j r.1 := by
  intro k
  induction k with
  | zero =>
    intro p x y n r j hn h
    unfold rd at h
    split at h
    · cases h
    · split at h
      · cases h
      · split at h
        · cases h; simp only [wfT]; exact hn
        · cases h
  | succ k ih =>
    intro p x y n r j hn h
    unfold rd at h
    split at h
    · cases h
    · split at h
      · cases h
      · split at h
        · cases h; simp only [wfT]; exact hn
        · simp only [Option.bind_eq_some_iff] at h
          obtain ⟨p1, h1, p2, h2, p3, h3, p4, h4, h5⟩ := h
          cases h5
          have e : half n = HH (j + 1) := by rw [hn]; rfl
          exact ⟨hn, ih _ _ _ _ _ _ e h1, ih _ _ _ _ _ _ e h2, ih _ _ _ _ _ _ e h3, ih _ _ _ _ _ _ e h4⟩
def writeD : Nat → Tr → List (Bool × Nat)
  | j, .leaf _ _ _ _ => [(false, j)]
  | j, .node _ _ _ a b c d => (true, j) :: (((writeD (j + 1) a ++ writeD (j + 1) b) ++ writeD (j + 1) c) ++ writeD (j + 1) d)
def sdB (b : Blok) : Bool × Int := (b.2.2.2.1, b.2.2.1)
theorem write_D : ∀ (t : Tr) (k j : Nat), wfT k j t → (writeT t).map sdB = (writeD j t).map fun e => (e.1, HH e.2) := by
  intro t
  induction t with
  | leaf x y n ids => intro k j h; cases k <;> simp only [wfT] at h <;> subst h <;> rfl
  | node x y n a b c d iha ihb ihc ihd =>
    intro k j h
    cases k with
    | zero => exact h.elim
    | succ k =>
      obtain ⟨h0, h1, h2, h3, h4⟩ := h
      simp only [writeT, writeD, List.map_cons, List.map_append, iha _ _ h1, ihb _ _ h2, ihc _ _ h3, ihd _ _ h4, sdB, h0]
def lvs : Tr → Nat
  | .leaf _ _ _ _ => 1
  | .node _ _ _ a b c d => lvs a + lvs b + lvs c + lvs d
def nds : Tr → Nat
  | .leaf _ _ _ _ => 0
  | .node _ _ _ a b c d => 1 + nds a + nds b + nds c + nds d
def dpt : Tr → Nat
  | .leaf _ _ _ _ => 0
  | .node _ _ _ a b c d => max (max (max (dpt a) (dpt b)) (dpt c)) (dpt d) + 1
theorem lvs_nds (t : Tr) : lvs t = 1 + 3 * nds t := by
  induction t with
  | leaf => rfl
  | node x y n a b c d iha ihb ihc ihd => simp only [lvs, nds]; omega
theorem write_nds (t : Tr) : (writeT t).length = lvs t + nds t := by
  induction t with
  | leaf => rfl
  | node x y n a b c d iha ihb ihc ihd => simp only [lvs, nds, writeT, List.length_cons, List.length_append]; omega
theorem dpt_wf : ∀ (t : Tr) (k j : Nat), wfT k j t → dpt t ≤ k := by
  intro t
  induction t with
  | leaf => intro k j _; exact Nat.zero_le _
  | node x y n a b c d iha ihb ihc ihd =>
    intro k j h
    cases k with
    | zero => exact h.elim
    | succ k =>
      obtain ⟨_, h1, h2, h3, h4⟩ := h
      have := iha _ _ h1
      have := ihb _ _ h2
      have := ihc _ _ h3
      have := ihd _ _ h4
      simp only [dpt]; omega
theorem mxx_nat (a b : Nat) : mxx (a : Int) (b : Int) = ((max a b : Nat) : Int) := by
  unfold mxx; split <;> omega
theorem cntT_eq : ∀ (t : Tr), lvs t ≤ 1000000 → dpt t ≤ 1000000 → cntT t = ((lvs t : Int), (dpt t : Int)) := by
  intro t
  induction t with
  | leaf => intro _ _; rfl
  | node x y n a b c d iha ihb ihc ihd =>
    intro h1 h2
    simp only [lvs, dpt] at h1 h2
    have ea := iha (by omega) (by omega)
    have eb := ihb (by omega) (by omega)
    have ec := ihc (by omega) (by omega)
    have ed := ihd (by omega) (by omega)
    have w : ∀ z : Nat, z ≤ 1000000 → W64 ((z : Int) + 1) = ((z + 1 : Nat) : Int) := fun z hz => wrap_succ (by omega)
    have w2 : ∀ u v : Nat, u ≤ 1000000 → v ≤ 1000000 → W64 ((u : Int) + (v : Int)) = ((u + v : Nat) : Int) := fun u v hu hv => by
      rw [W64_of (by unfold InR; omega)]; omega
    simp only [cntT, ea, eb, ec, ed, lvs, dpt]
    rw [w _ (by omega), w _ (by omega), w _ (by omega), w _ (by omega)]
    rw [show (0 : Int) + (lvs a : Int) = (lvs a : Int) by omega]
    rw [show W64 (lvs a : Int) = ((lvs a : Nat) : Int) from W64_of (by unfold InR; omega)]
    rw [w2 _ _ (by omega) (by omega), w2 _ _ (by omega) (by omega), w2 _ _ (by omega) (by omega)]
    rw [show (0 : Int) = ((0 : Nat) : Int) from rfl, mxx_nat, mxx_nat, mxx_nat, mxx_nat]
    congr 2
    omega
def maxD (l : List (Bool × Nat)) : Nat := (l.map (·.2)).foldl max 0
def cntF (l : List (Bool × Nat)) : Nat := (l.filter fun e => !e.1).length
theorem foldmax (l : List Nat) : ∀ a, l.foldl max a = max a (l.foldl max 0) := by
  induction l with
  | nil => intro a; simp
  | cons x r ih => intro a; simp only [List.foldl_cons]; rw [ih (max a x), ih (max 0 x)]; omega
theorem maxD_app (a b : List (Bool × Nat)) : maxD (a ++ b) = max (maxD a) (maxD b) := by
  unfold maxD; rw [List.map_append, List.foldl_append, foldmax]
theorem maxD_cons (e : Bool × Nat) (b : List (Bool × Nat)) : maxD (e :: b) = max e.2 (maxD b) := by
  unfold maxD; rw [List.map_cons, List.foldl_cons, foldmax]; omega
theorem cntF_D : ∀ (t : Tr) (j : Nat), cntF (writeD j t) = lvs t := by
  intro t
  induction t with
  | leaf => intro j; rfl
  | node x y n a b c d iha ihb ihc ihd =>
    intro j
    have := iha (j + 1)
    have := ihb (j + 1)
    have := ihc (j + 1)
    have := ihd (j + 1)
    simp only [cntF] at *
    simp only [writeD, List.filter_cons, List.filter_append, List.length_append, lvs]
    simp; omega
theorem maxD_D : ∀ (t : Tr) (j : Nat), maxD (writeD j t) = j + dpt t := by
  intro t
  induction t with
  | leaf => intro j; simp [writeD, maxD, dpt]
  | node x y n a b c d iha ihb ihc ihd =>
    intro j
    simp only [writeD, maxD_cons, maxD_app, iha, ihb, ihc, ihd, dpt]; omega
theorem D_depth : ∀ (t : Tr) (k j : Nat), wfT k j t → ∀ e ∈ writeD j t, e.2 ≤ j + k := by
  intro t
  induction t with
  | leaf => intro k j _ e he; simp only [writeD, List.mem_singleton] at he; subst he; simp
  | node x y n a b c d iha ihb ihc ihd =>
    intro k j h e he
    cases k with
    | zero => exact h.elim
    | succ k =>
      obtain ⟨_, h1, h2, h3, h4⟩ := h
      simp only [writeD, List.mem_cons, List.mem_append] at he
      rcases he with rfl | ((q | q) | q) | q
      · simp
      · have := iha _ _ h1 e q; omega
      · have := ihb _ _ h2 e q; omega
      · have := ihc _ _ h3 e q; omega
      · have := ihd _ _ h4 e q; omega
theorem HH_lt : ∀ j, j ≤ 8 → decide (HH (j + 1) < 2097152) = true := by
  intro j hj
  have : j = 0 ∨ j = 1 ∨ j = 2 ∨ j = 3 ∨ j = 4 ∨ j = 5 ∨ j = 6 ∨ j = 7 ∨ j = 8 := by omega
  rcases this with rfl | rfl | rfl | rfl | rfl | rfl | rfl | rfl | rfl <;> decide
theorem HH_dbl : ∀ j, j ≤ 8 → IntKind.i64.wrap (HH (j + 1) * 2) = HH j := by
  intro j hj
  have : j = 0 ∨ j = 1 ∨ j = 2 ∨ j = 3 ∨ j = 4 ∨ j = 5 ∨ j = 6 ∨ j = 7 ∨ j = 8 := by omega
  rcases this with rfl | rfl | rfl | rfl | rfl | rfl | rfl | rfl | rfl <;> decide
end Go.Proofs.Ytendgiieolkleaa

/- The program's QuadCount. -/
namespace Go.Proofs.Ytendgiieolkleaa
open Go.Aw
set_option maxHeartbeats 1000000
set_option maxRecDepth 100000
set_option linter.unusedSimpArgs false
set_option linter.unusedVariables false
theorem cntF_succ {D : List (Bool × Nat)} {i : Nat} (h : i < D.length) : cntF (D.take (i + 1)) = cntF (D.take i) + (if D[i].1 = true then 0 else 1) := by
  unfold cntF
  rw [List.take_succ_eq_append_getElem h, List.filter_append, List.length_append]
  congr 1
  cases hb : D[i].1 <;> simp [List.filter_cons, hb]
theorem maxD_succ {D : List (Bool × Nat)} {i : Nat} (h : i < D.length) : maxD (D.take (i + 1)) = max (maxD (D.take i)) D[i].2 := by
  rw [List.take_succ_eq_append_getElem h, maxD_app]
  congr 1
def st23 (m d : Int) (nn nb : Bool) (items : List Item) (bl : List Blok) : Nat × Int × Int × Int → St
  | (_, i, lv, dp) => ⟨39, 0, [(1, .ptr 0 0 0), (2, i64 0), (3, i64 0), (4, i64 lv), (5, i64 dp), (14, .sl nb 5 (bl.map encB)), (15, i64 (bl.map encB).length), (16, i64 i)],
      [(0, ⟨true, true, 4, [[i64 m, i64 d, .sl nn 5 (items.map encI), .sl nb 5 (bl.map encB)]]⟩)], 1⟩
def st23i (m d : Int) (nn nb : Bool) (items : List Item) (bl : List Blok) (i lv dp : Int) (b : Blok) : Nat × Int × Int → St
  | (_, c, sz) => ⟨39, 0, [(1, .ptr 0 0 0), (2, i64 0), (3, i64 0), (4, i64 lv), (5, i64 dp), (7, .ptr 1 0 0), (8, i64 c), (9, i64 sz), (14, .sl nb 5 (bl.map encB)), (15, i64 (bl.map encB).length), (16, i64 i)],
      [(0, ⟨true, true, 4, [[i64 m, i64 d, .sl nn 5 (items.map encI), .sl nb 5 (bl.map encB)]]⟩), (1, ⟨true, true, 5, [encB b]⟩)], 2⟩
theorem impl_QuadCount (m d : Int) (items : List Item) (bl : List Blok) (nn nb : Bool) (hI : items.length ≤ 1048576) (hB : bl.length ≤ 1048576) (hids : ∀ b ∈ bl, b.2.2.2.2.length ≤ 1048576) :
    Fun G0 23 [.agg [i64 m, i64 d, .sl nn 5 (items.map encI), .sl nb 5 (bl.map encB)]] [] (.tup [i64 (cntR (rootM m d items bl)).1, i64 (cntR (rootM m d items bl)).2]) [] := by
  have hs := impl_QuadOk m d items bl nn nb hI hB hids
  unfold qOk at hs
  refine spec_ewL (G := G0) (fid := 23) (fn := Try.f23) Try.func23 (by kernel_rfl) rfl (by kernel_rfl) ?_
  repeat (refine And.intro (of_decide_eq_true rfl) ?_)
  refine eCall_flat (hs) rfl rfl ?_
  refine bc_split (fun h => ?_) (fun h => ?_)
  · have h : (rootM m d items bl).isSome = false := by have z : (!(rootM m d items bl).isSome) = true := h; simpa using z
    have h : rootM m d items bl = none := by cases hq : rootM m d items bl with | none => rfl | some t => rw [hq] at h; cases h
    repeat (refine And.intro (of_decide_eq_true rfl) ?_)
    exact ret_eq (by first | exact .inr rfl | exact .inl rfl) rfl rfl (by rw [h]; rfl)
  have h : (rootM m d items bl).isSome = true := by have z : (!(rootM m d items bl).isSome) = false := h; simpa using z
  obtain ⟨t, ht⟩ := Option.isSome_iff_exists.1 h
  obtain ⟨hl1, hl2, hl3, hl4⟩ := rootM_len ht
  have hw := rootM_write ht
  obtain ⟨hpre, hio, q, hrd, hql, hrt⟩ := rootM_some ht
  have hwf := rd_wf bl _ _ _ _ _ _ 0 rfl hrd
  have hdl : d.toNat ≤ 8 := by
    simp only [preOk, Bool.not_eq_true', Bool.or_eq_false_iff, limB, inB, Bool.and_eq_false_iff] at hpre
    have h1 := hpre.1.1
    simp at h1; omega
  have hD := write_D t _ 0 hwf
  rw [hw] at hD
  have hDl : (writeD 0 t).length = bl.length := by have := congrArg List.length hD; simpa using this.symm
  have hdep := D_depth t _ 0 hwf
  have hlvn := write_nds t
  have hcnt : cntR (rootM m d items bl) = ((lvs t : Int), (dpt t : Int)) := by
    rw [ht]; exact cntT_eq t (by omega) (by have := dpt_wf t _ _ hwf; omega)
  have hF := cntF_D t 0
  have hM := maxD_D t 0
  rw [hcnt]
  have hget : ∀ i (hi : i < bl.length) (hi2 : i < (writeD 0 t).length), bl[i].2.2.2.1 = (writeD 0 t)[i].1 ∧ bl[i].2.2.1 = HH (writeD 0 t)[i].2 := fun i hi hi2 => by
    have := congrArg (fun l => l[i]?) hD
    simp only [List.getElem?_map, List.getElem?_eq_getElem hi, List.getElem?_eq_getElem hi2, Option.map_some, Option.some.injEq, sdB, Prod.mk.injEq] at this
    exact this
  generalize writeD 0 t = D at hD hDl hdep hF hM hget
  repeat (refine And.intro (of_decide_eq_true rfl) ?_)
  refine eLoop_pre (st23 m d nn nb items bl) (fun a => a.1 ≤ bl.length ∧ a.2.1 = a.1 ∧ a.2.2.1 = (cntF (D.take a.1) : Int) ∧ a.2.2.2 = (maxD (D.take a.1) : Int)) (fun a => bl.length - a.1) (0, 0, 0, 0) (weak_in0 [1, 2, 3, 4, 5, 14, 15, 16] [0] 1 rfl rfl) ⟨Nat.zero_le _, rfl, rfl, rfl⟩ ?_
  rintro ⟨i, iv, lv, dp⟩ ⟨hi, hiv, hlv, hdp⟩
  simp only at hi hiv hlv hdp
  subst hiv
  repeat (refine And.intro (of_decide_eq_true rfl) ?_)
  refine bc_split (fun h0 => ?_) (fun h0 => ?_)
  · have hlt : i < bl.length := by have := of_decide_eq_true h0; simp at this; omega
    have hlt2 : i < D.length := by omega
    obtain ⟨g1, g2⟩ := hget i hlt hlt2
    have hc := cntF_succ hlt2
    have hm := maxD_succ hlt2
    have hd8 := hdep D[i] (List.getElem_mem _)
    have hcl : cntF (D.take i) ≤ 2000 := by
      unfold cntF
      refine Nat.le_trans (List.length_filter_le _ _) ?_
      rw [List.length_take]; omega
    refine And.intro (ix_ok hlt) ?_
    rw [ix_get hlt]
    generalize bl[i] = b at g1 g2 ⊢
    generalize D[i] = e at g1 g2 hc hm hd8
    have key : ∀ (lv' : Int), lv' = (cntF (D.take (i + 1)) : Int) → True := fun _ _ => trivial
    repeat (refine And.intro (of_decide_eq_true rfl) ?_)
    refine bc_split (fun hsp => ?_) (fun hsp => ?_)
    all_goals
      repeat (refine And.intro (of_decide_eq_true rfl) ?_)
      refine eLoop_pre (st23i m d nn nb items bl i _ dp b) (fun a => a.1 ≤ 9 ∧ a.2.1 + a.1 = (e.2 : Int) ∧ 0 ≤ a.2.1 ∧ a.2.2 = HH a.1) (fun a => a.1) (e.2, 0, b.2.2.1) (weak_in0 [1, 2, 3, 4, 5, 7, 8, 9, 14, 15, 16] [0, 1] 2 rfl rfl) ⟨by simp only; omega, by simp, by simp, g2⟩ ?_
      rintro ⟨j, c, sz⟩ ⟨hj, hcj, hc0, hsz⟩
      simp only at hj hcj hc0 hsz
      subst hsz
      rcases j with _ | j
      · repeat (refine And.intro (of_decide_eq_true rfl) ?_)
        refine ⟨(i + 1, IntKind.i64.wrap (↑i + 1), _, mxx dp c), weak_in0 [1, 2, 3, 4, 5, 14, 15, 16] [0] 1 rfl rfl, ⟨hlt, wrap_succ (by omega), ?_, ?_⟩, by simp only; omega⟩
        · simp only [hc]
          first
            | (have z : e.1 = false := by rw [← g1]; simpa using hsp
               rw [z, hlv]; simp only [Bool.false_eq_true, if_false]; exact wrap_succ (by omega))
            | (have z : e.1 = true := by rw [← g1]; simpa using hsp
               rw [z, hlv]; rfl)
        · have hce : c = (e.2 : Int) := by omega
          simp only [hm, hdp, hce, mxx_nat]
      · refine bc_split (fun h1 => ?_) (fun h1 => ?_)
        · repeat (refine And.intro (of_decide_eq_true rfl) ?_)
          refine ⟨(j, IntKind.i64.wrap (c + 1), IntKind.i64.wrap (HH (j + 1) * 2)), weak_in0 [1, 2, 3, 4, 5, 7, 8, 9, 14, 15, 16] [0, 1] 2 rfl rfl, ⟨by simp only; omega, by simp only; rw [wrap_id (by omega) (by omega)]; omega, by simp only; rw [wrap_id (by omega) (by omega)]; omega, HH_dbl j (by omega)⟩, by simp⟩
        · exact absurd (HH_lt j (by omega)) (by rw [show decide (HH (j + 1) < 2097152) = false from h1]; simp)
  · have hge : i = bl.length := by have := of_decide_eq_false h0; simp at this; omega
    subst hge
    rw [List.take_of_length_le (by omega)] at hlv hdp
    repeat (refine And.intro (of_decide_eq_true rfl) ?_)
    exact ret_eq (by first | exact .inr rfl | exact .inl rfl) rfl rfl (by rw [hlv, hdp, hF, hM]; simp)
end Go.Proofs.Ytendgiieolkleaa

/- FnQuadLeaves answers true. -/
namespace Go.Proofs.Ytendgiieolkleaa
open Go.Aw
set_option maxHeartbeats 1000000
set_option maxRecDepth 100000
set_option linter.unusedSimpArgs false
set_option linter.unusedVariables false
variable {nn : Bool} {code : List Int}
theorem draw_QuadCount (hc : Code code) : FunE G0 22 [.sl nn 1 (code.map encY)] [] (fun r Hout => (∃ m d items bl, QC items bl ∧ r = encQ m d items bl) ∧ Hout = []) := by
  refine spec_ewE (G := G0) (fid := 22) (fn := Try.f22) Try.func22 (by kernel_rfl) rfl (by kernel_rfl) ?_
  repeat (refine And.intro (of_decide_eq_true rfl) ?_)
  refine eCall_lent [] 6 (rd_open (nn := nn) hc.len) (by decide) rfl rfl ?_
  repeat (refine And.intro (of_decide_eq_true rfl) ?_)
  refine eCallE [1] 6 (rd_quad (nn := nn) hc (Nat.zero_le _)) rfl (by decide) rfl rfl ?_
  rintro _ _ ⟨⟨m, d, items, bl, hq, rfl⟩, p', hp', rfl⟩
  repeat (refine And.intro (of_decide_eq_true rfl) ?_)
  exact retE ⟨⟨m, d, items, bl, hq, rfl⟩, rfl⟩ (ret_eq (by first | exact .inr rfl | exact .inl rfl) rfl rfl rfl)
def cntS (l : List Blok) : Nat := (l.filter fun b => b.2.2.2.1).length
theorem cntS_nds : ∀ t : Tr, cntS (writeT t) = nds t := by
  intro t
  induction t with
  | leaf => rfl
  | node x y n a b c d iha ihb ihc ihd =>
    simp only [cntS] at *
    simp only [writeT, List.filter_cons, List.filter_append, List.length_append, nds]
    simp; omega
theorem cntS_succ {l : List Blok} {i : Nat} (h : i < l.length) : cntS (l.take (i + 1)) = cntS (l.take i) + (if l[i].2.2.2.1 = true then 1 else 0) := by
  unfold cntS
  rw [List.take_succ_eq_append_getElem h, List.filter_append, List.length_append]
  congr 1
  cases hb : l[i].2.2.2.1 <;> simp [List.filter_cons, hb]
def st4 (m d : Int) (items : List Item) (bl : List Blok) (n dp : Int) : Nat × Int × Int → St
  | (_, s, i) => ⟨85, 0, [(3, .ptr 0 0 0), (4, i64 n), (5, i64 dp), (8, i64 s), (9, i64 i)], [(0, ⟨true, true, 4, [[i64 m, i64 d, .sl false 5 (items.map encI), .sl false 5 (bl.map encB)]]⟩)], 1⟩
theorem law_QuadLeaves (hby : ∀ b ∈ code, 0 ≤ b ∧ b ≤ 255) : Fun G0 4 [.sl nn 1 (code.map encY)] [] (bo true) [] := by
  refine spec_ewL (G := G0) (fid := 4) (fn := Try.f4) Try.func4 (by kernel_rfl) rfl (by kernel_rfl) ?_
  repeat (refine And.intro (of_decide_eq_true rfl) ?_)
  refine eCall_flat (law_big nn code encY) rfl rfl ?_
  refine bc_split (fun hbig => ?_) (fun hbig => ?_)
  · repeat (refine And.intro (of_decide_eq_true rfl) ?_)
    exact ret_eq (by first | exact .inr rfl | exact .inl rfl) rfl rfl (rfl)
  have hc : Code code := ⟨hby, by simp at hbig; omega⟩
  repeat (refine And.intro (of_decide_eq_true rfl) ?_)
  refine eCallE [] 6 (draw_QuadCount (nn := nn) hc) rfl (by decide) rfl rfl ?_
  rintro _ _ ⟨⟨m, d, items, bl, hq, rfl⟩, rfl⟩
  have hI : items.length ≤ 1048576 := by have := hq.i; omega
  have hB : bl.length ≤ 1048576 := by have := hq.b; omega
  have hids : ∀ b ∈ bl, b.2.2.2.2.length ≤ 1048576 := fun b hb => by have := hq.s b hb; omega
  repeat (refine And.intro (of_decide_eq_true rfl) ?_)
  refine eCall_flat (impl_QuadCount m d items bl false false hI hB hids) rfl rfl ?_
  repeat (refine And.intro (of_decide_eq_true rfl) ?_)
  refine eCall_flat (spec_QuadCount m d items bl false false hI hB hids) rfl rfl ?_
  repeat (refine And.intro (of_decide_eq_true rfl) ?_)
  refine bc_split (fun e1 => ?_) (fun e1 => ?_)
  · exact absurd e1 (by simp)
  repeat (refine And.intro (of_decide_eq_true rfl) ?_)
  refine bc_split (fun e2 => ?_) (fun e2 => ?_)
  · exact absurd e2 (by simp)
  repeat (refine And.intro (of_decide_eq_true rfl) ?_)
  refine eCall_flat (impl_QuadOk m d items bl false false hI hB hids) rfl rfl ?_
  refine bc_split (fun e3 => ?_) (fun e3 => ?_)
  · repeat (refine And.intro (of_decide_eq_true rfl) ?_)
    refine bc_split (fun e4 => ?_) (fun e4 => ?_)
    · repeat (refine And.intro (of_decide_eq_true rfl) ?_)
      refine bc_split (fun e5 => ?_) (fun e5 => ?_)
      · repeat (refine And.intro (of_decide_eq_true rfl) ?_)
        refine eCall_flat (spec_QuadOk m d items bl false false hI hB hids) rfl rfl ?_
        repeat (refine And.intro (of_decide_eq_true rfl) ?_)
        exact ret_eq (by first | exact .inr rfl | exact .inl rfl) rfl rfl (by exact congrArg bo e3)
      · exact absurd e5 (by simp)
    · exact absurd e4 (by simp)
  have e3 : (rootM m d items bl).isSome = true := by have z : (!(rootM m d items bl).isSome) = false := e3; simpa using z
  obtain ⟨t, ht⟩ := Option.isSome_iff_exists.1 e3
  obtain ⟨hl1, hl2, hl3, hl4⟩ := rootM_len ht
  have hw := rootM_write ht
  obtain ⟨hpre, hio, q, hrd, hql, hrt⟩ := rootM_some ht
  have hwf := rd_wf bl _ _ _ _ _ _ 0 rfl hrd
  have hd0 : 0 ≤ d ∧ d ≤ 8 := by
    simp only [preOk, Bool.not_eq_true', Bool.or_eq_false_iff, limB, inB, Bool.and_eq_false_iff] at hpre
    have h1 := hpre.1.1
    simp at h1; omega
  have hdp := dpt_wf t _ _ hwf
  have hlvn := write_nds t
  have hln := lvs_nds t
  have hcnt : cntR (rootM m d items bl) = ((lvs t : Int), (dpt t : Int)) := by
    rw [ht]; exact cntT_eq t (by omega) (by omega)
  have hS := cntS_nds t
  rw [hw] at hS
  rw [hcnt]
  repeat (refine And.intro (of_decide_eq_true rfl) ?_)
  refine eLoop_pre (st4 m d items bl (lvs t) (dpt t)) (fun a => a.1 ≤ bl.length ∧ a.2.1 = (cntS (bl.take a.1) : Int) ∧ a.2.2 = a.1) (fun a => bl.length - a.1) (0, 0, 0) (weak_in0 [3, 4, 5, 8, 9] [0] 1 rfl rfl) ⟨Nat.zero_le _, rfl, rfl⟩ ?_
  rintro ⟨i, s, iv⟩ ⟨hi, hs, hiv⟩
  simp only at hi hs hiv
  subst hiv
  repeat (refine And.intro (of_decide_eq_true rfl) ?_)
  refine bc_split (fun h0 => ?_) (fun h0 => ?_)
  · have hlt : i < bl.length := by have := of_decide_eq_true h0; simp at this; omega
    have hsc := cntS_succ hlt
    have hsl : cntS (bl.take i) ≤ 2000 := by
      unfold cntS
      refine Nat.le_trans (List.length_filter_le _ _) ?_
      rw [List.length_take]; omega
    repeat (refine And.intro (of_decide_eq_true rfl) ?_)
    refine And.intro (ix_ok hlt) ?_
    rw [ix_get hlt]
    repeat (refine And.intro (of_decide_eq_true rfl) ?_)
    refine bc_split (fun h1 => ?_) (fun h1 => ?_)
    · have h1 : bl[i].2.2.2.1 = true := h1
      repeat (refine And.intro (of_decide_eq_true rfl) ?_)
      refine ⟨(i + 1, IntKind.i64.wrap (s + 1), IntKind.i64.wrap (↑i + 1)), weak_in0 [3, 4, 5, 8, 9] [0] 1 rfl rfl, ⟨hlt, ?_, wrap_succ (by omega)⟩, by simp only; omega⟩
      simp only [hsc, h1, if_true, hs]; exact wrap_succ (by omega)
    · have h1 : bl[i].2.2.2.1 = false := h1
      repeat (refine And.intro (of_decide_eq_true rfl) ?_)
      refine ⟨(i + 1, s, IntKind.i64.wrap (↑i + 1)), weak_in0 [3, 4, 5, 8, 9] [0] 1 rfl rfl, ⟨hlt, ?_, wrap_succ (by omega)⟩, by simp only; omega⟩
      simp only [hsc, h1, Bool.false_eq_true, if_false, hs]; rfl
  · have hge : i = bl.length := by have := of_decide_eq_false h0; simp at this; omega
    subst hge
    rw [List.take_length, hS] at hs
    subst hs
    have f1 : ((lvs t : Int) == IntKind.i64.wrap (1 + IntKind.i64.wrap (3 * (nds t : Int)))) = true := by
      rw [wrap_id (n := 3 * (nds t : Int)) (by omega) (by omega), wrap_id (by omega) (by omega)]; simp; omega
    have f2 : (IntKind.i64.wrap ((lvs t : Int) + (nds t : Int)) == ((bl.map encB).length : Int)) = true := by
      rw [wrap_id (by omega) (by omega), List.length_map]; simp; omega
    have f3 : decide ((dpt t : Int) ≤ d) = true := by simp; omega
    repeat (refine And.intro (of_decide_eq_true rfl) ?_)
    refine bc_split (fun g1 => ?_) (fun g1 => ?_)
    · repeat (refine And.intro (of_decide_eq_true rfl) ?_)
      refine bc_split (fun g2 => ?_) (fun g2 => ?_)
      · repeat (refine And.intro (of_decide_eq_true rfl) ?_)
        exact ret_eq (by first | exact .inr rfl | exact .inl rfl) rfl rfl (by exact congrArg bo f3)
      · exact absurd g2 (by rw [show (IntKind.i64.wrap ((lvs t : Int) + (nds t : Int)) == ((bl.map encB).length : Int)) = true from f2]; simp)
    · exact absurd g1 (by rw [show ((lvs t : Int) == IntKind.i64.wrap (1 + IntKind.i64.wrap (3 * (nds t : Int)))) = true from f1]; simp)
end Go.Proofs.Ytendgiieolkleaa
