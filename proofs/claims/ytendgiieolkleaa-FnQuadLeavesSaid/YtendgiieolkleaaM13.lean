/- Drawn trees. How many leaves a tree has, and how deep it is. -/
import Derived.Test.YtendgiieolkleaaM12
import Derived.Test.YtendgiieolkleaaM8

/- Drawn trees. -/
namespace Go.Proofs.Ytendgiieolkleaa
open Go.Aw
set_option maxHeartbeats 8000000
set_option maxRecDepth 100000
set_option linter.unusedSimpArgs false
set_option linter.unusedVariables false
variable {nn : Bool} {code : List Int}
theorem right_leaves (items : List Item) : ∀ t : Tr, t.right items = true → ∀ l ∈ t.leaves, l.length ≤ items.length := by
  intro t
  induction t with
  | leaf x y n ids =>
    intro h l hl
    simp only [Tr.right, beq_iff_eq] at h
    simp only [Tr.leaves, List.mem_singleton] at hl
    subst hl h
    exact sq_len x y n items
  | node x y n a b c d iha ihb ihc ihd =>
    intro h l hl
    simp only [Tr.right, Bool.and_eq_true] at h
    simp only [Tr.leaves, List.mem_append] at hl
    rcases hl with q | q | q | q
    · exact iha h.1 l q
    · exact ihb h.2.1 l q
    · exact ihc h.2.2.1 l q
    · exact ihd h.2.2.2 l q
theorem put_leaves (items : List Item) (id most : Int) (s : Int × Int × Int × Int) (N : Nat) : ∀ (t : Tr) (d : Int), (∀ l ∈ t.leaves, l.length ≤ N) → ∀ l ∈ (putT items id s most d t).leaves, l.length ≤ N + 1 := by
  intro t
  induction t with
  | leaf x y n ids =>
    intro d h l hl
    have h0 := h ids (by simp [Tr.leaves])
    have h1 := withL_len ids id
    simp only [putT] at hl
    split at hl
    · simp only [Tr.leaves, List.mem_singleton] at hl; subst hl; omega
    · split at hl
      · simp only [Tr.leaves, List.mem_singleton] at hl; subst hl; omega
      · have hk : ∀ j, (kidL items x y n (withL ids id) j).length ≤ N + 1 := fun j => by
          unfold kidL
          exact Nat.le_trans (List.length_filter_le _ _) (by omega)
        simp only [Tr.leaves, kidT, List.mem_append, List.mem_singleton] at hl
        rcases hl with q | q | q | q <;> (subst q; exact hk _)
  | node x y n a b c e iha ihb ihc ihe =>
    intro d h l hl
    simp only [Tr.leaves, List.mem_append] at h
    simp only [putT] at hl
    split at hl
    · simp only [Tr.leaves, List.mem_append] at hl
      exact Nat.le_succ_of_le (h l hl)
    · simp only [Tr.leaves, List.mem_append] at hl
      rcases hl with q | q | q | q
      · exact iha _ (fun l z => h l (.inl z)) l q
      · exact ihb _ (fun l z => h l (.inr (.inl z))) l q
      · exact ihc _ (fun l z => h l (.inr (.inr (.inl z)))) l q
      · exact ihe _ (fun l z => h l (.inr (.inr (.inr z)))) l q
theorem write_ids (N : Nat) : ∀ t : Tr, (∀ l ∈ t.leaves, l.length ≤ N) → ∀ b ∈ writeT t, b.2.2.2.2.length ≤ N := by
  intro t
  induction t with
  | leaf x y n ids =>
    intro h b hb
    simp only [writeT, List.mem_singleton] at hb
    subst hb; exact h ids (by simp [Tr.leaves])
  | node x y n a b c d iha ihb ihc ihd =>
    intro h e he
    simp only [Tr.leaves, List.mem_append] at h
    simp only [writeT, List.mem_cons, List.mem_append] at he
    rcases he with rfl | ((q | q) | q) | q
    · exact Nat.zero_le _
    · exact iha (fun l z => h l (.inl z)) e q
    · exact ihb (fun l z => h l (.inr (.inl z))) e q
    · exact ihc (fun l z => h l (.inr (.inr (.inl z)))) e q
    · exact ihd (fun l z => h l (.inr (.inr (.inr z)))) e q
theorem tot_leaves : ∀ t : Tr, ∀ l ∈ t.leaves, l.length ≤ t.tot := by
  intro t
  induction t with
  | leaf x y n ids => intro l hl; simp only [Tr.leaves, List.mem_singleton] at hl; subst hl; exact Nat.le_refl _
  | node x y n a b c d iha ihb ihc ihd =>
    intro l hl
    simp only [Tr.leaves, List.mem_append] at hl
    simp only [Tr.tot]
    rcases hl with q | q | q | q
    · have := iha l q; omega
    · have := ihb l q; omega
    · have := ihc l q; omega
    · have := ihd l q; omega
structure QB (items : List Item) (bl : List Blok) : Prop where
  i : items.length ≤ 100000
  b : bl.length ≤ 100000
  s : ∀ b ∈ bl, b.2.2.2.2.length ≤ 100000
theorem put_QB {m d : Int} {items : List Item} {bl : List Blok} {id : Int} {s : Int × Int × Int × Int} {r : List Item × List Blok} (h : putM m d items bl id s = some r) : QB r.1 r.2 := by
  unfold putM at h
  split at h
  · cases h
  rename_i t ht
  obtain ⟨hl1, hl2, hl3, hl4⟩ := rootM_len ht
  obtain ⟨hpre, hio, q, hrd, hql, hrt⟩ := rootM_some ht
  split at h
  · cases h
  split at h
  · cases h
  split at h
  · cases h
  rename_i h3
  cases h
  have h1 := insGo_len id s items false
  refine ⟨by show (insGo id s false items).length ≤ _; omega, ?_, ?_⟩
  · have h3 : ¬ (((((writeT (putT (putItems items id s) id s m d t)).map encB).length : Nat) : Int) > 2000) := by simpa using h3
    rw [List.length_map] at h3
    show (writeT (putT (putItems items id s) id s m d t)).length ≤ _
    omega
  · refine fun b hb => Nat.le_trans (write_ids 41 _ (put_leaves _ _ _ _ 40 t d fun l hl => ?_) b hb) (by omega)
    exact Nat.le_trans (right_leaves items t hrt l hl) hl1
theorem cut_QB {m d : Int} {items : List Item} {bl : List Blok} {id : Int} {r : List Item × List Blok} (h : cutM m d items bl id = some r) : QB r.1 r.2 := by
  unfold cutM at h
  split at h
  · cases h
  rename_i t ht
  obtain ⟨hl1, hl2, hl3, hl4⟩ := rootM_len ht
  split at h
  · cases h
  cases h
  refine ⟨?_, ?_, ?_⟩
  · unfold cutItems
    exact Nat.le_trans (List.length_filter_le _ _) (by omega)
  · have := cut_len id m t; simp only; omega
  · refine fun b hb => Nat.le_trans (write_ids 80000 _ (fun l hl => ?_) b hb) (by omega)
    have := cutT_tot id m t
    have := tot_leaves _ l hl
    omega
def encQ (m d : Int) (items : List Item) (bl : List Blok) : AV := .agg [i64 m, i64 d, .sl false 5 (items.map encI), .sl false 5 (bl.map encB)]
def z35 : List (List AV) := [[i64 0, i64 0, .e true, .e true]]
def st65 (nn : Bool) (code : List Int) : Nat × Nat × Int × Int × Int × Int × Option (List Item) × List Blok × Bool → St
  | (_, p, i, n, m, d, none, bl, _) => ⟨82, 1, [(0, .ptr 0 0 0), (2, .ptr 1 0 0), (3, .ptr 2 0 0), (5, i64 n), (6, i64 i)], [(0, rdB nn code p), (1, ⟨true, true, 4, z35⟩), (2, ⟨true, true, 4, [[i64 m, i64 d, .e true, .sl false 5 (bl.map encB)]]⟩)], 3⟩
  | (_, p, i, n, m, d, some it, bl, f) => ⟨82, 1, [(0, .ptr 0 0 0), (2, .ptr 1 0 0), (3, .ptr 2 0 0), (5, i64 n), (6, i64 i)], [(0, rdB nn code p), (1, ⟨true, true, 4, z35⟩), (2, ⟨true, false, 4, [[i64 m, i64 d, .loc 3 5 0 it.length, .sl false 5 (bl.map encB)]]⟩), (3, ⟨!f, true, 5, it.map encI⟩)], 4⟩
structure Facts (nn : Bool) (code : List Int) (p p4 : Nat) (v4 : Int) (p5 : Nat) (sg : Int × Int × Int × Int) : Prop where
  h4 : p4 ≤ code.length
  h5 : p5 ≤ code.length
  s4 : Fun G0 93 [.ptr 0 0 0, i64 9] [rdB nn code p] (i64 v4) [rdB nn code p4]
  s5 : Fun G0 83 [.ptr 0 0 0] [rdB nn code p4] (encS sg) [rdB nn code p5]
theorem facts (hc : Code code) {p : Nat} (hp : p ≤ code.length) : ∃ p4 v4 p5 sg, Facts nn code p p4 v4 p5 sg := by
  obtain ⟨p4, h4, _, ⟨v4, a4, b4, rfl⟩, s4⟩ := rd_below (nn := nn) hc 9 (by omega) (by omega) p hp
  obtain ⟨p5, h5, _, ⟨sg, rfl⟩, s5⟩ := rd_farSeg (nn := nn) hc p4 h4
  exact ⟨p4, v4, p5, sg, h4, h5, s4, s5⟩
def Plan (nn : Bool) (code : List Int) (p : Nat) (i n m d : Int) (it : List Item) (bl : List Blok) : Bool → Prop
  | true => i < n ∧ ∃ p4 v4 p5 sg r, Facts nn code p p4 v4 p5 sg ∧ putM m d it bl (IntKind.i64.wrap (1 + v4)) sg = some r
  | false => ¬ i < n ∨ ∃ p4 v4 p5 sg, Facts nn code p p4 v4 p5 sg ∧ putM m d it bl (IntKind.i64.wrap (1 + v4)) sg = none
theorem plan (hc : Code code) {p : Nat} (hp : p ≤ code.length) (i n m d : Int) (it : List Item) (bl : List Blok) : ∃ f, Plan nn code p i n m d it bl f := by
  by_cases h : i < n
  · obtain ⟨p4, v4, p5, sg, hf⟩ := facts (nn := nn) hc hp
    cases hq : putM m d it bl (IntKind.i64.wrap (1 + v4)) sg with
    | none => exact ⟨false, .inr ⟨p4, v4, p5, sg, hf, hq⟩⟩
    | some r => exact ⟨true, h, p4, v4, p5, sg, r, hf, hq⟩
  · exact ⟨false, .inl h⟩
theorem lax_nil : Lax (.e true) (.s (.slice none 0 0)) := fun w M φ x h => by
  cases h with
  | e _ _ a h => cases a with
    | none => exact .s _ _
    | some => cases h
theorem put_flat {args : List AV} {m d : Int} (h : Fun G0 32 args [] (encPO none m d) (hpPO none)) : Fun G0 32 args [] (.tup [.agg [i64 0, i64 0, .s (.slice none 0 0), .s (.slice none 0 0)], bo false]) [] :=
  h.lax (.tupL (.cons (.aggL (.cons (.refl _) (.cons (.refl _) (.cons lax_nil (.cons lax_nil .nil))))) (.refl _)))
theorem QuadPut_nil (m d : Int) (bl : List Blok) (id : Int) (s : Int × Int × Int × Int) (h : QB [] bl) : Fun G0 32 [.agg [i64 m, i64 d, .e true, .sl false 5 (bl.map encB)], i64 id, encS s] [] (encPO (putM m d [] bl id s) m d) (hpPO (putM m d [] bl id s)) :=
  (spec_QuadPut m d [] bl false false id s (by simp) (by have := h.b; omega) (fun b hb => by have := h.s b hb; omega)).args rfl fun i hi => by
    match i, hi with
    | 0, _ => exact .aggL (.cons (.refl _) (.cons (.refl _) (.cons (.e _ _) (.refl _))))
    | 1, _ => exact .refl _
    | 2, _ => exact .refl _
theorem RdF.E {f : Nat} {args : List AV} {P : AV → Prop} (h : RdF nn code f args P) {p : Nat} (hp : p ≤ code.length) : FunE G0 f (.ptr 0 0 0 :: args) [rdB nn code p] (fun r Hout => P r ∧ ∃ p', p' ≤ code.length ∧ Hout = [rdB nn code p']) := by
  obtain ⟨p', h1, r, h2, h3⟩ := h p hp
  exact h3.toE ⟨h2, p', h1, rfl⟩
theorem lax_Q {m d : Int} {nb : Bool} {items : List Item} {bl : List Blok} {B : List (List AV)} (hB : B = bl.map encB) : Lax (.agg [i64 m, i64 d, .sl false 5 (items.map encI), .sl nb 5 B]) (encQ m d items bl) := by
  subst hB; exact .aggL (.cons (.refl _) (.cons (.refl _) (.cons (.refl _) (.cons (.nn _ _ _) .nil))))
theorem lax_Q0 {m d : Int} {nb : Bool} {bl : List Blok} {B : List (List AV)} (hB : B = bl.map encB) : Lax (.agg [i64 m, i64 d, .e true, .sl nb 5 B]) (encQ m d [] bl) := by
  subst hB; exact .aggL (.cons (.refl _) (.cons (.refl _) (.cons (.e _ _) (.cons (.nn _ _ _) .nil))))
theorem QB.take {items : List Item} {bl : List Blok} (h : QB items bl) (n : Nat) : QB items (bl.take n) :=
  ⟨h.i, by have := h.b; rw [List.length_take]; omega, fun b hb => h.s b (List.mem_of_mem_take hb)⟩
structure QC (items : List Item) (bl : List Blok) : Prop where
  i : items.length ≤ 100001
  b : bl.length ≤ 100000
  s : ∀ b ∈ bl, b.2.2.2.2.length ≤ 100000
theorem QB.c {items : List Item} {bl : List Blok} (h : QB items bl) : QC items bl := ⟨by have := h.i; omega, h.b, h.s⟩
theorem QB.app {items : List Item} {bl : List Blok} (h : QB items bl) (x : Item) : QC (items ++ [x]) bl := ⟨by have := h.i; simp; omega, h.b, h.s⟩
def PostQ (nn : Bool) (code : List Int) (r : AV) (Hout : List Blk) : Prop := (∃ m d items bl, QC items bl ∧ r = encQ m d items bl) ∧ ∃ p', p' ≤ code.length ∧ Hout = [rdB nn code p']
theorem rd_quad (hc : Code code) {p : Nat} (hp : p ≤ code.length) : FunE G0 65 [.ptr 0 0 0] [rdB nn code p] (PostQ nn code) := by
  obtain ⟨p1, h1, _, ⟨v1, a1, b1, rfl⟩, s1⟩ := rd_below (nn := nn) hc 3 (by omega) (by omega) p hp
  obtain ⟨p2, h2, _, ⟨v2, a2, b2, rfl⟩, s2⟩ := rd_below (nn := nn) hc 6 (by omega) (by omega) p1 h1
  obtain ⟨p3, h3, _, ⟨v3, a3, b3, rfl⟩, s3⟩ := rd_below (nn := nn) hc 8 (by omega) (by omega) p2 h2
  have hlim : limB (IntKind.i64.wrap (1 + v1)) v2 = true := by
    rw [wrap_id (by omega) (by omega)]
    simp only [limB, inB, Bool.and_eq_true, decide_eq_true_eq]; omega
  have hnew := spec_QuadNew (IntKind.i64.wrap (1 + v1)) v2
  rw [newM, if_pos hlim] at hnew
  refine spec_ewE (G := G0) (fid := 65) (fn := Try.f65) Try.func65 (by kernel_rfl) rfl (by kernel_rfl) ?_
  repeat (refine And.intro (of_decide_eq_true rfl) ?_)
  refine eCall_lent [0] 6 (s1) (by decide) rfl rfl ?_
  repeat (refine And.intro (of_decide_eq_true rfl) ?_)
  refine eCall_lent [0] 6 (s2) (by decide) rfl rfl ?_
  repeat (refine And.intro (of_decide_eq_true rfl) ?_)
  refine eCall_pure (hnew) rfl ?_
  repeat (refine And.intro (of_decide_eq_true rfl) ?_)
  refine eCall_lent [0] 6 (s3) (by decide) rfl rfl ?_
  repeat (refine And.intro (of_decide_eq_true rfl) ?_)
  refine eLoop_pre (st65 nn code) (fun x => x.2.1 ≤ code.length ∧ 0 ≤ x.2.2.1 ∧ x.2.2.1 + x.1 = x.2.2.2.1 ∧ x.2.2.2.1 ≤ 8 ∧ QB (x.2.2.2.2.2.2.1.getD []) x.2.2.2.2.2.2.2.1 ∧ (∀ it, x.2.2.2.2.2.2.1 = some it → Plan nn code x.2.1 x.2.2.1 x.2.2.2.1 x.2.2.2.2.1 x.2.2.2.2.2.1 it x.2.2.2.2.2.2.2.1 x.2.2.2.2.2.2.2.2)) (fun x => x.1) (v3.toNat, p3, 0, v3, IntKind.i64.wrap (1 + v1), v2, none, [(-1048576, -1048576, 2097152, false, [])], false)
    (weak_rn [0, 2, 3, 5, 6] [(0, 0), (1, 1), (2, 2)] 3 rfl rfl) ⟨h3, Int.le_refl _, by simp only; omega, by simp only; omega, ⟨by simp, by simp, by simp⟩, fun it h => by cases h⟩ ?_
  clear s1 s2 s3 hnew hlim
  rintro ⟨k, p, i, n, m, d, o, bl, f⟩ ⟨hp, hi0, hik, hn, hqb, hpl⟩
  simp only at hp hi0 hik hn hqb hpl
  cases o with
  | none =>
    repeat (refine And.intro (of_decide_eq_true rfl) ?_)
    refine bc_split (fun h => ?_) (fun h => ?_)
    · have hlt : i < n := of_decide_eq_true h
      obtain ⟨k, rfl⟩ : ∃ k', k = k' + 1 := ⟨k - 1, by omega⟩
      obtain ⟨p4, v4, p5, sg, h4, h5, s4, s5⟩ := facts (nn := nn) hc hp
      have hQ := QuadPut_nil m d bl (IntKind.i64.wrap (1 + v4)) sg hqb
      have hwi : IntKind.i64.wrap (i + 1) = i + 1 := wrap_id (by omega) (by omega)
      repeat (refine And.intro (of_decide_eq_true rfl) ?_)
      cases hq : putM m d [] bl (IntKind.i64.wrap (1 + v4)) sg with
      | none =>
        rw [hq] at hQ
        refine eDraw_ok ?_
        repeat (refine And.intro (of_decide_eq_true rfl) ?_)
        refine dCall_gen [0] [0] 6 s4 rfl (by decide) rfl rfl rfl rfl ?_
        repeat (refine And.intro (of_decide_eq_true rfl) ?_)
        refine dCall_gen [0] [0] 6 s5 rfl (by decide) rfl rfl rfl rfl ?_
        repeat (refine And.intro (of_decide_eq_true rfl) ?_)
        refine dCall_pure [] hQ rfl rfl ?_
        repeat (refine And.intro (of_decide_eq_true rfl) ?_)
        refine ⟨(k, p5, IntKind.i64.wrap (i + 1), n, m, d, none, bl, false), weak_rn [0, 2, 3, 5, 6] [(0, 0), (1, 1), (2, 2)] 3 rfl rfl, ⟨h5, by simp only; omega, by simp only; omega, hn, hqb, fun it h => by cases h⟩, by simp⟩
      | some r =>
        obtain ⟨it, w⟩ := r
        have hqb' := put_QB hq
        rw [hq] at hQ
        refine eDraw_ok ?_
        repeat (refine And.intro (of_decide_eq_true rfl) ?_)
        refine dCall_gen [0] [0] 6 s4 rfl (by decide) rfl rfl rfl rfl ?_
        repeat (refine And.intro (of_decide_eq_true rfl) ?_)
        refine dCall_gen [0] [0] 6 s5 rfl (by decide) rfl rfl rfl rfl ?_
        repeat (refine And.intro (of_decide_eq_true rfl) ?_)
        refine dCall_new [] [] 6 hQ rfl (by decide) rfl rfl rfl rfl ?_
        repeat (refine And.intro (of_decide_eq_true rfl) ?_)
        obtain ⟨f', hf'⟩ := plan (nn := nn) hc h5 (IntKind.i64.wrap (i + 1)) n m d it w
        cases f' with
        | false => refine ⟨(k, p5, IntKind.i64.wrap (i + 1), n, m, d, some it, w, false), weak_rn [0, 2, 3, 5, 6] [(0, 0), (1, 1), (2, 2), (3, 3)] 4 rfl rfl, ⟨h5, by simp only; omega, by simp only; omega, hn, hqb', fun it h => by cases h; exact hf'⟩, by simp⟩
        | true => refine ⟨(k, p5, IntKind.i64.wrap (i + 1), n, m, d, some it, w, true), Weak.trans (weak_frz [3] rfl) (weak_rn [0, 2, 3, 5, 6] [(0, 0), (1, 1), (2, 2), (3, 3)] 4 rfl rfl), ⟨h5, by simp only; omega, by simp only; omega, hn, hqb', fun it h => by cases h; exact hf'⟩, by simp⟩
    · repeat (refine And.intro (of_decide_eq_true rfl) ?_)
      refine eCallE [0] 6 ((rd_once (nn := nn) hc 4 (by omega) (by omega)).E hp) rfl (by decide) rfl rfl ?_
      rintro _ _ ⟨⟨b1, rfl⟩, p1, h1, rfl⟩
      repeat (refine And.intro (of_decide_eq_true rfl) ?_)
      cases b1 with
      | false =>
        repeat (refine And.intro (of_decide_eq_true rfl) ?_)
        refine eCallE [0] 6 ((rd_once (nn := nn) hc 16 (by omega) (by omega)).E h1) rfl (by decide) rfl rfl ?_
        rintro _ _ ⟨⟨b2, rfl⟩, p2, h2, rfl⟩
        repeat (refine And.intro (of_decide_eq_true rfl) ?_)
        cases b2 with
        | false =>
          repeat (refine And.intro (of_decide_eq_true rfl) ?_)
          refine eCallE [0] 6 ((rd_once (nn := nn) hc 16 (by omega) (by omega)).E h2) rfl (by decide) rfl rfl ?_
          rintro _ _ ⟨⟨b3, rfl⟩, p3, h3, rfl⟩
          repeat (refine And.intro (of_decide_eq_true rfl) ?_)
          cases b3 with
          | false =>
            repeat (refine And.intro (of_decide_eq_true rfl) ?_)
            exact retE ⟨⟨m, d, [], bl, QB.c hqb, rfl⟩, p3, h3, rfl⟩ (ret_ownL [0] 6 (by first | exact .inr rfl | exact .inl rfl) rfl (by decide) rfl (Nat.le_refl 1) rfl (lax_Q0 rfl) rfl rfl)
          | true =>
            obtain ⟨p4, h4, _, ⟨sg, rfl⟩, s4⟩ := rd_seg (nn := nn) hc p3 h3
            repeat (refine And.intro (of_decide_eq_true rfl) ?_)
            refine eDraw_pre 6 ⟨82, 1, [(2, .ptr 1 0 0), (3, .ptr 2 0 0)], [(0, rdB nn code p4), (1, ⟨true, true, 4, z35⟩), (2, ⟨true, false, 4, [[i64 m, i64 d, .loc 4 5 0 1, .sl false 5 (bl.map encB)]]⟩), (4, ⟨true, true, 5, [encI (9, sg)]⟩)], 5⟩ rfl (by kernel_rfl) ?_ ?_
            · repeat (refine And.intro (of_decide_eq_true rfl) ?_)
              refine dCall_gen [0] [0] 6 s4 rfl (by decide) rfl rfl rfl rfl ?_
              repeat (refine And.intro (of_decide_eq_true rfl) ?_)
              refine eApp_new tiT [encI (9, sg)] true app32 rfl (List.cons_ne_nil _ _) (of_decide_eq_true rfl) ?_
              repeat (refine And.intro (of_decide_eq_true rfl) ?_)
              exact weak_rn [2, 3] [(0, 0), (1, 1), (2, 2), (4, 4)] 5 rfl rfl
            repeat (refine And.intro (of_decide_eq_true rfl) ?_)
            exact retE ⟨⟨m, d, [] ++ [(9, sg)], bl, QB.app hqb (9, sg), rfl⟩, p4, h4, rfl⟩ (ret_ownL [0] 6 (by first | exact .inr rfl | exact .inl rfl) rfl (by decide) rfl (Nat.le_refl 1) (vw_agg (vwL_cons rfl (vwL_cons rfl (vwL_cons (vw_rowE rfl rfl rfl rfl) (vwL_cons rfl vwL_nil))))) (lax_Q (items := [(9, sg)]) rfl) rfl rfl)
        | true =>
          repeat (refine And.intro (of_decide_eq_true rfl) ?_)
          refine bc_split (fun gl => ?_) (fun gl => ?_)
          · have gl : (1 : Int) < ((bl.map encB).length : Int) := of_decide_eq_true gl
            have hbl := QB.b hqb
            have hw : IntKind.i64.wrap (((bl.map encB).length : Int) - 1) = ((bl.map encB).length : Int) - 1 := wrap_id (by omega) (by rw [List.length_map]; omega)
            repeat (refine And.intro (of_decide_eq_true rfl) ?_)
            refine And.intro (⟨by rw [hw]; omega, by rw [hw]; omega⟩ : 0 ≤ IntKind.i64.wrap (((bl.map encB).length : Int) - 1) ∧ Int.toNat (IntKind.i64.wrap (((bl.map encB).length : Int) - 1)) ≤ (bl.map encB).length) ?_
            repeat (refine And.intro (of_decide_eq_true rfl) ?_)
            refine eCallE [0] 6 ((rd_once (nn := nn) hc 16 (by omega) (by omega)).E h2) rfl (by decide) rfl rfl ?_
            rintro _ _ ⟨⟨b3, rfl⟩, p3, h3, rfl⟩
            repeat (refine And.intro (of_decide_eq_true rfl) ?_)
            cases b3 with
            | false =>
              repeat (refine And.intro (of_decide_eq_true rfl) ?_)
              exact retE ⟨⟨m, d, [], (bl.take (Int.toNat (IntKind.i64.wrap (((bl.map encB).length : Int) - 1)))), QB.c (QB.take hqb (Int.toNat (IntKind.i64.wrap (((bl.map encB).length : Int) - 1)))), rfl⟩, p3, h3, rfl⟩ (ret_ownL [0] 6 (by first | exact .inr rfl | exact .inl rfl) rfl (by decide) rfl (Nat.le_refl 1) rfl (lax_Q0 List.map_take.symm) rfl rfl)
            | true =>
              obtain ⟨p4, h4, _, ⟨sg, rfl⟩, s4⟩ := rd_seg (nn := nn) hc p3 h3
              repeat (refine And.intro (of_decide_eq_true rfl) ?_)
              refine eDraw_pre 6 ⟨82, 1, [(2, .ptr 1 0 0), (3, .ptr 2 0 0)], [(0, rdB nn code p4), (1, ⟨true, true, 4, z35⟩), (2, ⟨true, false, 4, [[i64 m, i64 d, .loc 4 5 0 1, .sl false 5 ((bl.map encB).take (Int.toNat (IntKind.i64.wrap (((bl.map encB).length : Int) - 1))))]]⟩), (4, ⟨true, true, 5, [encI (9, sg)]⟩)], 5⟩ rfl (by kernel_rfl) ?_ ?_
              · repeat (refine And.intro (of_decide_eq_true rfl) ?_)
                refine dCall_gen [0] [0] 6 s4 rfl (by decide) rfl rfl rfl rfl ?_
                repeat (refine And.intro (of_decide_eq_true rfl) ?_)
                refine eApp_new tiT [encI (9, sg)] true app32 rfl (List.cons_ne_nil _ _) (of_decide_eq_true rfl) ?_
                repeat (refine And.intro (of_decide_eq_true rfl) ?_)
                exact weak_rn [2, 3] [(0, 0), (1, 1), (2, 2), (4, 4)] 5 rfl rfl
              repeat (refine And.intro (of_decide_eq_true rfl) ?_)
              exact retE ⟨⟨m, d, [] ++ [(9, sg)], (bl.take (Int.toNat (IntKind.i64.wrap (((bl.map encB).length : Int) - 1)))), QB.app (QB.take hqb (Int.toNat (IntKind.i64.wrap (((bl.map encB).length : Int) - 1)))) (9, sg), rfl⟩, p4, h4, rfl⟩ (ret_ownL [0] 6 (by first | exact .inr rfl | exact .inl rfl) rfl (by decide) rfl (Nat.le_refl 1) (vw_agg (vwL_cons rfl (vwL_cons rfl (vwL_cons (vw_rowE rfl rfl rfl rfl) (vwL_cons rfl vwL_nil))))) (lax_Q (items := [(9, sg)]) List.map_take.symm) rfl rfl)
          · repeat (refine And.intro (of_decide_eq_true rfl) ?_)
            refine eCallE [0] 6 ((rd_once (nn := nn) hc 16 (by omega) (by omega)).E h2) rfl (by decide) rfl rfl ?_
            rintro _ _ ⟨⟨b3, rfl⟩, p3, h3, rfl⟩
            repeat (refine And.intro (of_decide_eq_true rfl) ?_)
            cases b3 with
            | false =>
              repeat (refine And.intro (of_decide_eq_true rfl) ?_)
              exact retE ⟨⟨m, d, [], bl, QB.c hqb, rfl⟩, p3, h3, rfl⟩ (ret_ownL [0] 6 (by first | exact .inr rfl | exact .inl rfl) rfl (by decide) rfl (Nat.le_refl 1) rfl (lax_Q0 rfl) rfl rfl)
            | true =>
              obtain ⟨p4, h4, _, ⟨sg, rfl⟩, s4⟩ := rd_seg (nn := nn) hc p3 h3
              repeat (refine And.intro (of_decide_eq_true rfl) ?_)
              refine eDraw_pre 6 ⟨82, 1, [(2, .ptr 1 0 0), (3, .ptr 2 0 0)], [(0, rdB nn code p4), (1, ⟨true, true, 4, z35⟩), (2, ⟨true, false, 4, [[i64 m, i64 d, .loc 4 5 0 1, .sl false 5 (bl.map encB)]]⟩), (4, ⟨true, true, 5, [encI (9, sg)]⟩)], 5⟩ rfl (by kernel_rfl) ?_ ?_
              · repeat (refine And.intro (of_decide_eq_true rfl) ?_)
                refine dCall_gen [0] [0] 6 s4 rfl (by decide) rfl rfl rfl rfl ?_
                repeat (refine And.intro (of_decide_eq_true rfl) ?_)
                refine eApp_new tiT [encI (9, sg)] true app32 rfl (List.cons_ne_nil _ _) (of_decide_eq_true rfl) ?_
                repeat (refine And.intro (of_decide_eq_true rfl) ?_)
                exact weak_rn [2, 3] [(0, 0), (1, 1), (2, 2), (4, 4)] 5 rfl rfl
              repeat (refine And.intro (of_decide_eq_true rfl) ?_)
              exact retE ⟨⟨m, d, [] ++ [(9, sg)], bl, QB.app hqb (9, sg), rfl⟩, p4, h4, rfl⟩ (ret_ownL [0] 6 (by first | exact .inr rfl | exact .inl rfl) rfl (by decide) rfl (Nat.le_refl 1) (vw_agg (vwL_cons rfl (vwL_cons rfl (vwL_cons (vw_rowE rfl rfl rfl rfl) (vwL_cons rfl vwL_nil))))) (lax_Q (items := [(9, sg)]) rfl) rfl rfl)
      | true =>
        repeat (refine And.intro (of_decide_eq_true rfl) ?_)
        refine eCallE [0] 6 ((rd_once (nn := nn) hc 16 (by omega) (by omega)).E h1) rfl (by decide) rfl rfl ?_
        rintro _ _ ⟨⟨b2, rfl⟩, p2, h2, rfl⟩
        repeat (refine And.intro (of_decide_eq_true rfl) ?_)
        cases b2 with
        | false =>
          repeat (refine And.intro (of_decide_eq_true rfl) ?_)
          refine eCallE [0] 6 ((rd_once (nn := nn) hc 16 (by omega) (by omega)).E h2) rfl (by decide) rfl rfl ?_
          rintro _ _ ⟨⟨b3, rfl⟩, p3, h3, rfl⟩
          repeat (refine And.intro (of_decide_eq_true rfl) ?_)
          cases b3 with
          | false =>
            repeat (refine And.intro (of_decide_eq_true rfl) ?_)
            exact retE ⟨⟨m, d, [], bl, QB.c hqb, rfl⟩, p3, h3, rfl⟩ (ret_ownL [0] 6 (by first | exact .inr rfl | exact .inl rfl) rfl (by decide) rfl (Nat.le_refl 1) rfl (lax_Q0 rfl) rfl rfl)
          | true =>
            obtain ⟨p4, h4, _, ⟨sg, rfl⟩, s4⟩ := rd_seg (nn := nn) hc p3 h3
            repeat (refine And.intro (of_decide_eq_true rfl) ?_)
            refine eDraw_pre 6 ⟨82, 1, [(2, .ptr 1 0 0), (3, .ptr 2 0 0)], [(0, rdB nn code p4), (1, ⟨true, true, 4, z35⟩), (2, ⟨true, false, 4, [[i64 m, i64 d, .loc 4 5 0 1, .sl false 5 (bl.map encB)]]⟩), (4, ⟨true, true, 5, [encI (9, sg)]⟩)], 5⟩ rfl (by kernel_rfl) ?_ ?_
            · repeat (refine And.intro (of_decide_eq_true rfl) ?_)
              refine dCall_gen [0] [0] 6 s4 rfl (by decide) rfl rfl rfl rfl ?_
              repeat (refine And.intro (of_decide_eq_true rfl) ?_)
              refine eApp_new tiT [encI (9, sg)] true app32 rfl (List.cons_ne_nil _ _) (of_decide_eq_true rfl) ?_
              repeat (refine And.intro (of_decide_eq_true rfl) ?_)
              exact weak_rn [2, 3] [(0, 0), (1, 1), (2, 2), (4, 4)] 5 rfl rfl
            repeat (refine And.intro (of_decide_eq_true rfl) ?_)
            exact retE ⟨⟨m, d, [] ++ [(9, sg)], bl, QB.app hqb (9, sg), rfl⟩, p4, h4, rfl⟩ (ret_ownL [0] 6 (by first | exact .inr rfl | exact .inl rfl) rfl (by decide) rfl (Nat.le_refl 1) (vw_agg (vwL_cons rfl (vwL_cons rfl (vwL_cons (vw_rowE rfl rfl rfl rfl) (vwL_cons rfl vwL_nil))))) (lax_Q (items := [(9, sg)]) rfl) rfl rfl)
        | true =>
          repeat (refine And.intro (of_decide_eq_true rfl) ?_)
          refine bc_split (fun gl => ?_) (fun gl => ?_)
          · have gl : (1 : Int) < ((bl.map encB).length : Int) := of_decide_eq_true gl
            have hbl := QB.b hqb
            have hw : IntKind.i64.wrap (((bl.map encB).length : Int) - 1) = ((bl.map encB).length : Int) - 1 := wrap_id (by omega) (by rw [List.length_map]; omega)
            repeat (refine And.intro (of_decide_eq_true rfl) ?_)
            refine And.intro (⟨by rw [hw]; omega, by rw [hw]; omega⟩ : 0 ≤ IntKind.i64.wrap (((bl.map encB).length : Int) - 1) ∧ Int.toNat (IntKind.i64.wrap (((bl.map encB).length : Int) - 1)) ≤ (bl.map encB).length) ?_
            repeat (refine And.intro (of_decide_eq_true rfl) ?_)
            refine eCallE [0] 6 ((rd_once (nn := nn) hc 16 (by omega) (by omega)).E h2) rfl (by decide) rfl rfl ?_
            rintro _ _ ⟨⟨b3, rfl⟩, p3, h3, rfl⟩
            repeat (refine And.intro (of_decide_eq_true rfl) ?_)
            cases b3 with
            | false =>
              repeat (refine And.intro (of_decide_eq_true rfl) ?_)
              exact retE ⟨⟨m, d, [], (bl.take (Int.toNat (IntKind.i64.wrap (((bl.map encB).length : Int) - 1)))), QB.c (QB.take hqb (Int.toNat (IntKind.i64.wrap (((bl.map encB).length : Int) - 1)))), rfl⟩, p3, h3, rfl⟩ (ret_ownL [0] 6 (by first | exact .inr rfl | exact .inl rfl) rfl (by decide) rfl (Nat.le_refl 1) rfl (lax_Q0 List.map_take.symm) rfl rfl)
            | true =>
              obtain ⟨p4, h4, _, ⟨sg, rfl⟩, s4⟩ := rd_seg (nn := nn) hc p3 h3
              repeat (refine And.intro (of_decide_eq_true rfl) ?_)
              refine eDraw_pre 6 ⟨82, 1, [(2, .ptr 1 0 0), (3, .ptr 2 0 0)], [(0, rdB nn code p4), (1, ⟨true, true, 4, z35⟩), (2, ⟨true, false, 4, [[i64 m, i64 d, .loc 4 5 0 1, .sl false 5 ((bl.map encB).take (Int.toNat (IntKind.i64.wrap (((bl.map encB).length : Int) - 1))))]]⟩), (4, ⟨true, true, 5, [encI (9, sg)]⟩)], 5⟩ rfl (by kernel_rfl) ?_ ?_
              · repeat (refine And.intro (of_decide_eq_true rfl) ?_)
                refine dCall_gen [0] [0] 6 s4 rfl (by decide) rfl rfl rfl rfl ?_
                repeat (refine And.intro (of_decide_eq_true rfl) ?_)
                refine eApp_new tiT [encI (9, sg)] true app32 rfl (List.cons_ne_nil _ _) (of_decide_eq_true rfl) ?_
                repeat (refine And.intro (of_decide_eq_true rfl) ?_)
                exact weak_rn [2, 3] [(0, 0), (1, 1), (2, 2), (4, 4)] 5 rfl rfl
              repeat (refine And.intro (of_decide_eq_true rfl) ?_)
              exact retE ⟨⟨m, d, [] ++ [(9, sg)], (bl.take (Int.toNat (IntKind.i64.wrap (((bl.map encB).length : Int) - 1)))), QB.app (QB.take hqb (Int.toNat (IntKind.i64.wrap (((bl.map encB).length : Int) - 1)))) (9, sg), rfl⟩, p4, h4, rfl⟩ (ret_ownL [0] 6 (by first | exact .inr rfl | exact .inl rfl) rfl (by decide) rfl (Nat.le_refl 1) (vw_agg (vwL_cons rfl (vwL_cons rfl (vwL_cons (vw_rowE rfl rfl rfl rfl) (vwL_cons rfl vwL_nil))))) (lax_Q (items := [(9, sg)]) List.map_take.symm) rfl rfl)
          · repeat (refine And.intro (of_decide_eq_true rfl) ?_)
            refine eCallE [0] 6 ((rd_once (nn := nn) hc 16 (by omega) (by omega)).E h2) rfl (by decide) rfl rfl ?_
            rintro _ _ ⟨⟨b3, rfl⟩, p3, h3, rfl⟩
            repeat (refine And.intro (of_decide_eq_true rfl) ?_)
            cases b3 with
            | false =>
              repeat (refine And.intro (of_decide_eq_true rfl) ?_)
              exact retE ⟨⟨m, d, [], bl, QB.c hqb, rfl⟩, p3, h3, rfl⟩ (ret_ownL [0] 6 (by first | exact .inr rfl | exact .inl rfl) rfl (by decide) rfl (Nat.le_refl 1) rfl (lax_Q0 rfl) rfl rfl)
            | true =>
              obtain ⟨p4, h4, _, ⟨sg, rfl⟩, s4⟩ := rd_seg (nn := nn) hc p3 h3
              repeat (refine And.intro (of_decide_eq_true rfl) ?_)
              refine eDraw_pre 6 ⟨82, 1, [(2, .ptr 1 0 0), (3, .ptr 2 0 0)], [(0, rdB nn code p4), (1, ⟨true, true, 4, z35⟩), (2, ⟨true, false, 4, [[i64 m, i64 d, .loc 4 5 0 1, .sl false 5 (bl.map encB)]]⟩), (4, ⟨true, true, 5, [encI (9, sg)]⟩)], 5⟩ rfl (by kernel_rfl) ?_ ?_
              · repeat (refine And.intro (of_decide_eq_true rfl) ?_)
                refine dCall_gen [0] [0] 6 s4 rfl (by decide) rfl rfl rfl rfl ?_
                repeat (refine And.intro (of_decide_eq_true rfl) ?_)
                refine eApp_new tiT [encI (9, sg)] true app32 rfl (List.cons_ne_nil _ _) (of_decide_eq_true rfl) ?_
                repeat (refine And.intro (of_decide_eq_true rfl) ?_)
                exact weak_rn [2, 3] [(0, 0), (1, 1), (2, 2), (4, 4)] 5 rfl rfl
              repeat (refine And.intro (of_decide_eq_true rfl) ?_)
              exact retE ⟨⟨m, d, [] ++ [(9, sg)], bl, QB.app hqb (9, sg), rfl⟩, p4, h4, rfl⟩ (ret_ownL [0] 6 (by first | exact .inr rfl | exact .inl rfl) rfl (by decide) rfl (Nat.le_refl 1) (vw_agg (vwL_cons rfl (vwL_cons rfl (vwL_cons (vw_rowE rfl rfl rfl rfl) (vwL_cons rfl vwL_nil))))) (lax_Q (items := [(9, sg)]) rfl) rfl rfl)
  | some it =>
    have hpl := hpl it rfl
    have hqi : it.length ≤ 100000 := hqb.i
    have hwi : i < n → IntKind.i64.wrap (i + 1) = i + 1 := fun z => wrap_id (by omega) (by omega)
    cases f with
    | true =>
      obtain ⟨hlt, p4, v4, p5, sg, r, ⟨h4, h5, s4, s5⟩, hq⟩ := hpl
      have hwi := hwi hlt
      obtain ⟨k, rfl⟩ : ∃ k', k = k' + 1 := ⟨k - 1, by omega⟩
      have hQ := spec_QuadPut m d it bl false false (IntKind.i64.wrap (1 + v4)) sg (by omega) (by have := hqb.b; omega) (fun b hb => by have := hqb.s b hb; omega)
      obtain ⟨it', w⟩ := r
      have hqb' := put_QB hq
      rw [hq] at hQ
      repeat (refine And.intro (of_decide_eq_true rfl) ?_)
      refine bc_split (fun h => ?_) (fun h => ?_)
      · repeat (refine And.intro (of_decide_eq_true rfl) ?_)
        refine eDraw_ok ?_
        repeat (refine And.intro (of_decide_eq_true rfl) ?_)
        refine dCall_gen [0] [0] 6 s4 rfl (by decide) rfl rfl rfl rfl ?_
        repeat (refine And.intro (of_decide_eq_true rfl) ?_)
        refine dCall_gen [0] [0] 6 s5 rfl (by decide) rfl rfl rfl rfl ?_
        repeat (refine And.intro (of_decide_eq_true rfl) ?_)
        refine dCall_new [] [3] 6 hQ rfl (by decide) rfl rfl (vwL_cons (vw_agg (vwL_cons rfl (vwL_cons rfl (vwL_cons (vw_rowE rfl rfl rfl (List.length_map _).symm) (vwL_cons rfl vwL_nil))))) (vwL_cons rfl (vwL_cons rfl vwL_nil))) rfl ?_
        repeat (refine And.intro (of_decide_eq_true rfl) ?_)
        obtain ⟨f', hf'⟩ := plan (nn := nn) hc h5 (IntKind.i64.wrap (i + 1)) n m d it' w
        cases f' with
        | false => refine ⟨(k, p5, IntKind.i64.wrap (i + 1), n, m, d, some it', w, false), weak_rn [0, 2, 3, 5, 6] [(0, 0), (1, 1), (2, 2), (4, 3)] 4 rfl rfl, ⟨h5, by simp only; omega, by simp only; omega, hn, hqb', fun it h => by cases h; exact hf'⟩, by simp⟩
        | true => refine ⟨(k, p5, IntKind.i64.wrap (i + 1), n, m, d, some it', w, true), Weak.trans (weak_frz [4] rfl) (weak_rn [0, 2, 3, 5, 6] [(0, 0), (1, 1), (2, 2), (4, 3)] 4 rfl rfl), ⟨h5, by simp only; omega, by simp only; omega, hn, hqb', fun it h => by cases h; exact hf'⟩, by simp⟩
      · exact absurd hlt (of_decide_eq_false h)
    | false =>
      repeat (refine And.intro (of_decide_eq_true rfl) ?_)
      refine bc_split (fun h => ?_) (fun h => ?_)
      · have hlt : i < n := of_decide_eq_true h
        have hwi := hwi hlt
        obtain ⟨k, rfl⟩ : ∃ k', k = k' + 1 := ⟨k - 1, by omega⟩
        rcases hpl with hpl | ⟨p4, v4, p5, sg, ⟨h4, h5, s4, s5⟩, hq⟩
        · exact absurd hlt hpl
        have hQ := spec_QuadPut m d it bl false false (IntKind.i64.wrap (1 + v4)) sg (by omega) (by have := hqb.b; omega) (fun b hb => by have := hqb.s b hb; omega)
        rw [hq] at hQ
        have hQ := put_flat hQ
        repeat (refine And.intro (of_decide_eq_true rfl) ?_)
        refine eDraw_ok ?_
        repeat (refine And.intro (of_decide_eq_true rfl) ?_)
        refine dCall_gen [0] [0] 6 s4 rfl (by decide) rfl rfl rfl rfl ?_
        repeat (refine And.intro (of_decide_eq_true rfl) ?_)
        refine dCall_gen [0] [0] 6 s5 rfl (by decide) rfl rfl rfl rfl ?_
        repeat (refine And.intro (of_decide_eq_true rfl) ?_)
        refine dCall_flat [3] hQ rfl (vwL_cons (vw_agg (vwL_cons rfl (vwL_cons rfl (vwL_cons (vw_rowE rfl rfl rfl (List.length_map _).symm) (vwL_cons rfl vwL_nil))))) (vwL_cons rfl (vwL_cons rfl vwL_nil))) rfl ?_
        repeat (refine And.intro (of_decide_eq_true rfl) ?_)
        obtain ⟨f', hf'⟩ := plan (nn := nn) hc h5 (IntKind.i64.wrap (i + 1)) n m d it bl
        cases f' with
        | false => refine ⟨(k, p5, IntKind.i64.wrap (i + 1), n, m, d, some it, bl, false), weak_rn [0, 2, 3, 5, 6] [(0, 0), (1, 1), (2, 2), (3, 3)] 4 rfl rfl, ⟨h5, by simp only; omega, by simp only; omega, hn, hqb, fun it h => by cases h; exact hf'⟩, by simp⟩
        | true => refine ⟨(k, p5, IntKind.i64.wrap (i + 1), n, m, d, some it, bl, true), Weak.trans (weak_frz [3] rfl) (weak_rn [0, 2, 3, 5, 6] [(0, 0), (1, 1), (2, 2), (3, 3)] 4 rfl rfl), ⟨h5, by simp only; omega, by simp only; omega, hn, hqb, fun it h => by cases h; exact hf'⟩, by simp⟩
      · repeat (refine And.intro (of_decide_eq_true rfl) ?_)
        refine eCallE [0] 6 ((rd_once (nn := nn) hc 4 (by omega) (by omega)).E hp) rfl (by decide) rfl rfl ?_
        rintro _ _ ⟨⟨b1, rfl⟩, p1, h1, rfl⟩
        repeat (refine And.intro (of_decide_eq_true rfl) ?_)
        cases b1 with
        | false =>
          repeat (refine And.intro (of_decide_eq_true rfl) ?_)
          refine eCallE [0] 6 ((rd_once (nn := nn) hc 16 (by omega) (by omega)).E h1) rfl (by decide) rfl rfl ?_
          rintro _ _ ⟨⟨b2, rfl⟩, p2, h2, rfl⟩
          repeat (refine And.intro (of_decide_eq_true rfl) ?_)
          cases b2 with
          | false =>
            repeat (refine And.intro (of_decide_eq_true rfl) ?_)
            refine eCallE [0] 6 ((rd_once (nn := nn) hc 16 (by omega) (by omega)).E h2) rfl (by decide) rfl rfl ?_
            rintro _ _ ⟨⟨b3, rfl⟩, p3, h3, rfl⟩
            repeat (refine And.intro (of_decide_eq_true rfl) ?_)
            cases b3 with
            | false =>
              repeat (refine And.intro (of_decide_eq_true rfl) ?_)
              exact retE ⟨⟨m, d, it, bl, QB.c hqb, rfl⟩, p3, h3, rfl⟩ (ret_ownL [0] 6 (by first | exact .inr rfl | exact .inl rfl) rfl (by decide) rfl (Nat.le_refl 1) (vw_agg (vwL_cons rfl (vwL_cons rfl (vwL_cons (vw_rowE rfl rfl rfl (List.length_map _).symm) (vwL_cons rfl vwL_nil))))) (lax_Q rfl) rfl rfl)
            | true =>
              obtain ⟨p4, h4, _, ⟨sg, rfl⟩, s4⟩ := rd_seg (nn := nn) hc p3 h3
              repeat (refine And.intro (of_decide_eq_true rfl) ?_)
              refine eDraw_pre 6 ⟨82, 1, [(2, .ptr 1 0 0), (3, .ptr 2 0 0)], [(0, rdB nn code p4), (1, ⟨true, true, 4, z35⟩), (2, ⟨true, false, 4, [[i64 m, i64 d, .loc 3 5 0 (it.length + 1), .sl false 5 (bl.map encB)]]⟩), (3, ⟨true, true, 5, it.map encI ++ [encI (9, sg)]⟩)], 4⟩ rfl (by kernel_rfl) ?_ ?_
              · repeat (refine And.intro (of_decide_eq_true rfl) ?_)
                refine dCall_gen [0] [0] 6 s4 rfl (by decide) rfl rfl rfl rfl ?_
                repeat (refine And.intro (of_decide_eq_true rfl) ?_)
                refine eApp_grow tiT [encI (9, sg)] true ⟨true, true, 5, it.map encI⟩ app32 rfl rfl rfl rfl (Nat.le_of_ble_eq_true rfl) rfl (by simp) (by have := QB.i hqb; simp [tiT]; omega) ?_
                repeat (refine And.intro (of_decide_eq_true rfl) ?_)
                exact weak_rn [2, 3] [(0, 0), (1, 1), (2, 2), (3, 3)] 4 rfl rfl
              repeat (refine And.intro (of_decide_eq_true rfl) ?_)
              exact retE ⟨⟨m, d, it ++ [(9, sg)], bl, QB.app hqb (9, sg), rfl⟩, p4, h4, rfl⟩ (ret_ownL [0] 6 (by first | exact .inr rfl | exact .inl rfl) rfl (by decide) rfl (Nat.le_refl 1) (vw_agg (vwL_cons rfl (vwL_cons rfl (vwL_cons (vw_rowE rfl rfl rfl (by simp)) (vwL_cons rfl vwL_nil))))) (Lax.trans (.of_eq (by rw [List.map_append]; rfl)) (lax_Q rfl)) rfl rfl)
          | true =>
            repeat (refine And.intro (of_decide_eq_true rfl) ?_)
            refine bc_split (fun gl => ?_) (fun gl => ?_)
            · have gl : (1 : Int) < ((bl.map encB).length : Int) := of_decide_eq_true gl
              have hbl := QB.b hqb
              have hw : IntKind.i64.wrap (((bl.map encB).length : Int) - 1) = ((bl.map encB).length : Int) - 1 := wrap_id (by omega) (by rw [List.length_map]; omega)
              repeat (refine And.intro (of_decide_eq_true rfl) ?_)
              refine And.intro (⟨by rw [hw]; omega, by rw [hw]; omega⟩ : 0 ≤ IntKind.i64.wrap (((bl.map encB).length : Int) - 1) ∧ Int.toNat (IntKind.i64.wrap (((bl.map encB).length : Int) - 1)) ≤ (bl.map encB).length) ?_
              repeat (refine And.intro (of_decide_eq_true rfl) ?_)
              refine eCallE [0] 6 ((rd_once (nn := nn) hc 16 (by omega) (by omega)).E h2) rfl (by decide) rfl rfl ?_
              rintro _ _ ⟨⟨b3, rfl⟩, p3, h3, rfl⟩
              repeat (refine And.intro (of_decide_eq_true rfl) ?_)
              cases b3 with
              | false =>
                repeat (refine And.intro (of_decide_eq_true rfl) ?_)
                exact retE ⟨⟨m, d, it, (bl.take (Int.toNat (IntKind.i64.wrap (((bl.map encB).length : Int) - 1)))), QB.c (QB.take hqb (Int.toNat (IntKind.i64.wrap (((bl.map encB).length : Int) - 1)))), rfl⟩, p3, h3, rfl⟩ (ret_ownL [0] 6 (by first | exact .inr rfl | exact .inl rfl) rfl (by decide) rfl (Nat.le_refl 1) (vw_agg (vwL_cons rfl (vwL_cons rfl (vwL_cons (vw_rowE rfl rfl rfl (List.length_map _).symm) (vwL_cons rfl vwL_nil))))) (lax_Q List.map_take.symm) rfl rfl)
              | true =>
                obtain ⟨p4, h4, _, ⟨sg, rfl⟩, s4⟩ := rd_seg (nn := nn) hc p3 h3
                repeat (refine And.intro (of_decide_eq_true rfl) ?_)
                refine eDraw_pre 6 ⟨82, 1, [(2, .ptr 1 0 0), (3, .ptr 2 0 0)], [(0, rdB nn code p4), (1, ⟨true, true, 4, z35⟩), (2, ⟨true, false, 4, [[i64 m, i64 d, .loc 3 5 0 (it.length + 1), .sl false 5 ((bl.map encB).take (Int.toNat (IntKind.i64.wrap (((bl.map encB).length : Int) - 1))))]]⟩), (3, ⟨true, true, 5, it.map encI ++ [encI (9, sg)]⟩)], 4⟩ rfl (by kernel_rfl) ?_ ?_
                · repeat (refine And.intro (of_decide_eq_true rfl) ?_)
                  refine dCall_gen [0] [0] 6 s4 rfl (by decide) rfl rfl rfl rfl ?_
                  repeat (refine And.intro (of_decide_eq_true rfl) ?_)
                  refine eApp_grow tiT [encI (9, sg)] true ⟨true, true, 5, it.map encI⟩ app32 rfl rfl rfl rfl (Nat.le_of_ble_eq_true rfl) rfl (by simp) (by have := QB.i (QB.take hqb (Int.toNat (IntKind.i64.wrap (((bl.map encB).length : Int) - 1)))); simp [tiT]; omega) ?_
                  repeat (refine And.intro (of_decide_eq_true rfl) ?_)
                  exact weak_rn [2, 3] [(0, 0), (1, 1), (2, 2), (3, 3)] 4 rfl rfl
                repeat (refine And.intro (of_decide_eq_true rfl) ?_)
                exact retE ⟨⟨m, d, it ++ [(9, sg)], (bl.take (Int.toNat (IntKind.i64.wrap (((bl.map encB).length : Int) - 1)))), QB.app (QB.take hqb (Int.toNat (IntKind.i64.wrap (((bl.map encB).length : Int) - 1)))) (9, sg), rfl⟩, p4, h4, rfl⟩ (ret_ownL [0] 6 (by first | exact .inr rfl | exact .inl rfl) rfl (by decide) rfl (Nat.le_refl 1) (vw_agg (vwL_cons rfl (vwL_cons rfl (vwL_cons (vw_rowE rfl rfl rfl (by simp)) (vwL_cons rfl vwL_nil))))) (Lax.trans (.of_eq (by rw [List.map_append]; rfl)) (lax_Q List.map_take.symm)) rfl rfl)
            · repeat (refine And.intro (of_decide_eq_true rfl) ?_)
              refine eCallE [0] 6 ((rd_once (nn := nn) hc 16 (by omega) (by omega)).E h2) rfl (by decide) rfl rfl ?_
              rintro _ _ ⟨⟨b3, rfl⟩, p3, h3, rfl⟩
              repeat (refine And.intro (of_decide_eq_true rfl) ?_)
              cases b3 with
              | false =>
                repeat (refine And.intro (of_decide_eq_true rfl) ?_)
                exact retE ⟨⟨m, d, it, bl, QB.c hqb, rfl⟩, p3, h3, rfl⟩ (ret_ownL [0] 6 (by first | exact .inr rfl | exact .inl rfl) rfl (by decide) rfl (Nat.le_refl 1) (vw_agg (vwL_cons rfl (vwL_cons rfl (vwL_cons (vw_rowE rfl rfl rfl (List.length_map _).symm) (vwL_cons rfl vwL_nil))))) (lax_Q rfl) rfl rfl)
              | true =>
                obtain ⟨p4, h4, _, ⟨sg, rfl⟩, s4⟩ := rd_seg (nn := nn) hc p3 h3
                repeat (refine And.intro (of_decide_eq_true rfl) ?_)
                refine eDraw_pre 6 ⟨82, 1, [(2, .ptr 1 0 0), (3, .ptr 2 0 0)], [(0, rdB nn code p4), (1, ⟨true, true, 4, z35⟩), (2, ⟨true, false, 4, [[i64 m, i64 d, .loc 3 5 0 (it.length + 1), .sl false 5 (bl.map encB)]]⟩), (3, ⟨true, true, 5, it.map encI ++ [encI (9, sg)]⟩)], 4⟩ rfl (by kernel_rfl) ?_ ?_
                · repeat (refine And.intro (of_decide_eq_true rfl) ?_)
                  refine dCall_gen [0] [0] 6 s4 rfl (by decide) rfl rfl rfl rfl ?_
                  repeat (refine And.intro (of_decide_eq_true rfl) ?_)
                  refine eApp_grow tiT [encI (9, sg)] true ⟨true, true, 5, it.map encI⟩ app32 rfl rfl rfl rfl (Nat.le_of_ble_eq_true rfl) rfl (by simp) (by have := QB.i hqb; simp [tiT]; omega) ?_
                  repeat (refine And.intro (of_decide_eq_true rfl) ?_)
                  exact weak_rn [2, 3] [(0, 0), (1, 1), (2, 2), (3, 3)] 4 rfl rfl
                repeat (refine And.intro (of_decide_eq_true rfl) ?_)
                exact retE ⟨⟨m, d, it ++ [(9, sg)], bl, QB.app hqb (9, sg), rfl⟩, p4, h4, rfl⟩ (ret_ownL [0] 6 (by first | exact .inr rfl | exact .inl rfl) rfl (by decide) rfl (Nat.le_refl 1) (vw_agg (vwL_cons rfl (vwL_cons rfl (vwL_cons (vw_rowE rfl rfl rfl (by simp)) (vwL_cons rfl vwL_nil))))) (Lax.trans (.of_eq (by rw [List.map_append]; rfl)) (lax_Q rfl)) rfl rfl)
        | true =>
          repeat (refine And.intro (of_decide_eq_true rfl) ?_)
          refine bc_split (fun gi => ?_) (fun gi => ?_)
          · have gi : (0 : Int) < (it.length : Int) := of_decide_eq_true gi
            obtain ⟨a0, r0, rfl⟩ : ∃ a0 r0, it = a0 :: r0 := by
              cases it with
              | nil => simp at gi
              | cons a0 r0 => exact ⟨a0, r0, rfl⟩
            have hQ := spec_QuadCut m d (a0 :: r0) bl false false a0.1 (by omega) (by have := hqb.b; omega) (fun b hb => by have := hqb.s b hb; omega)
            repeat (refine And.intro (of_decide_eq_true rfl) ?_)
            cases hq : cutM m d (a0 :: r0) bl a0.1 with
            | none =>
              rw [hq] at hQ
              refine eDraw_pre 6 ⟨82, 1, [(0, .ptr 0 0 0), (2, .ptr 1 0 0), (3, .ptr 2 0 0)], [(0, rdB nn code p1), (1, ⟨true, true, 4, z35⟩), (2, ⟨true, true, 4, [[i64 0, i64 0, .e true, .sl false 5 []]]⟩)], 3⟩ rfl (by kernel_rfl) ?_ ?_
              · repeat (refine And.intro (of_decide_eq_true rfl) ?_)
                refine And.intro (⟨by omega, gi⟩ : (0 : Int) ≤ 0 ∧ (0 : Int) < ((a0 :: r0).length : Int)) ?_
                repeat (refine And.intro (of_decide_eq_true rfl) ?_)
                repeat (refine And.intro (of_decide_eq_true rfl) ?_)
                refine eCall_gen [3] [] 6 hQ (fun l hl => (by simp only [List.mem_singleton] at hl; subst hl; exact Nat.le_of_ble_eq_true rfl)) (by decide) (vwL_cons (vw_agg (vwL_cons rfl (vwL_cons rfl (vwL_cons (vw_rowE rfl rfl rfl (List.length_map _).symm) (vwL_cons rfl vwL_nil))))) (vwL_cons rfl vwL_nil)) rfl ?_
                repeat' (first | exact of_decide_eq_true rfl | refine And.intro ?_ ?_)
                all_goals exact Weak.trans (weak_rn (S' := ⟨82, 1, [(0, .ptr 0 0 0), (2, .ptr 1 0 0), (3, .ptr 2 0 0)], [(0, rdB nn code p1), (1, ⟨true, true, 4, z35⟩), (2, ⟨true, false, 4, [[i64 0, i64 0, .e true, .e true]]⟩)], 3⟩) [0, 2, 3] [(0, 0), (1, 1), (2, 2)] 3 rfl rfl) (weak_seal (l := 2) (k := ⟨true, false, 4, [[i64 0, i64 0, .e true, .e true]]⟩) rfl [[i64 0, i64 0, .e true, .sl false 5 []]] (.cons (.cons (.s _) (.cons (.s _) (.cons (.refl rfl) (.cons (.cl rfl (.e _ _)) .nil)))) .nil))
              repeat (refine And.intro (of_decide_eq_true rfl) ?_)
              refine eCallE [0] 6 ((rd_once (nn := nn) hc 16 (by omega) (by omega)).E h1) rfl (by decide) rfl rfl ?_
              rintro _ _ ⟨⟨b2, rfl⟩, p2, h2, rfl⟩
              repeat (refine And.intro (of_decide_eq_true rfl) ?_)
              cases b2 with
              | false =>
                repeat (refine And.intro (of_decide_eq_true rfl) ?_)
                refine eCallE [0] 6 ((rd_once (nn := nn) hc 16 (by omega) (by omega)).E h2) rfl (by decide) rfl rfl ?_
                rintro _ _ ⟨⟨b3, rfl⟩, p3, h3, rfl⟩
                repeat (refine And.intro (of_decide_eq_true rfl) ?_)
                cases b3 with
                | false =>
                  repeat (refine And.intro (of_decide_eq_true rfl) ?_)
                  exact retE ⟨⟨0, 0, [], ([] : List Blok), QB.c (QB.mk (Nat.zero_le _) (Nat.zero_le _) (by simp) : QB [] []), rfl⟩, p3, h3, rfl⟩ (ret_ownL [0] 6 (by first | exact .inr rfl | exact .inl rfl) rfl (by decide) rfl (Nat.le_refl 1) rfl (lax_Q0 rfl) rfl rfl)
                | true =>
                  obtain ⟨p4, h4, _, ⟨sg, rfl⟩, s4⟩ := rd_seg (nn := nn) hc p3 h3
                  repeat (refine And.intro (of_decide_eq_true rfl) ?_)
                  refine eDraw_pre 6 ⟨82, 1, [(2, .ptr 1 0 0), (3, .ptr 2 0 0)], [(0, rdB nn code p4), (1, ⟨true, true, 4, z35⟩), (2, ⟨true, false, 4, [[i64 0, i64 0, .loc 4 5 0 1, .sl false 5 (([] : List Blok).map encB)]]⟩), (4, ⟨true, true, 5, [encI (9, sg)]⟩)], 5⟩ rfl (by kernel_rfl) ?_ ?_
                  · repeat (refine And.intro (of_decide_eq_true rfl) ?_)
                    refine dCall_gen [0] [0] 6 s4 rfl (by decide) rfl rfl rfl rfl ?_
                    repeat (refine And.intro (of_decide_eq_true rfl) ?_)
                    refine eApp_new tiT [encI (9, sg)] true app32 rfl (List.cons_ne_nil _ _) (of_decide_eq_true rfl) ?_
                    repeat (refine And.intro (of_decide_eq_true rfl) ?_)
                    exact weak_rn [2, 3] [(0, 0), (1, 1), (2, 2), (4, 4)] 5 rfl rfl
                  repeat (refine And.intro (of_decide_eq_true rfl) ?_)
                  exact retE ⟨⟨0, 0, [] ++ [(9, sg)], ([] : List Blok), QB.app (QB.mk (Nat.zero_le _) (Nat.zero_le _) (by simp) : QB [] []) (9, sg), rfl⟩, p4, h4, rfl⟩ (ret_ownL [0] 6 (by first | exact .inr rfl | exact .inl rfl) rfl (by decide) rfl (Nat.le_refl 1) (vw_agg (vwL_cons rfl (vwL_cons rfl (vwL_cons (vw_rowE rfl rfl rfl rfl) (vwL_cons rfl vwL_nil))))) (lax_Q (items := [(9, sg)]) rfl) rfl rfl)
              | true =>
                repeat (refine And.intro (of_decide_eq_true rfl) ?_)
                refine eCallE [0] 6 ((rd_once (nn := nn) hc 16 (by omega) (by omega)).E h2) rfl (by decide) rfl rfl ?_
                rintro _ _ ⟨⟨b3, rfl⟩, p3, h3, rfl⟩
                repeat (refine And.intro (of_decide_eq_true rfl) ?_)
                cases b3 with
                | false =>
                  repeat (refine And.intro (of_decide_eq_true rfl) ?_)
                  exact retE ⟨⟨0, 0, [], ([] : List Blok), QB.c (QB.mk (Nat.zero_le _) (Nat.zero_le _) (by simp) : QB [] []), rfl⟩, p3, h3, rfl⟩ (ret_ownL [0] 6 (by first | exact .inr rfl | exact .inl rfl) rfl (by decide) rfl (Nat.le_refl 1) rfl (lax_Q0 rfl) rfl rfl)
                | true =>
                  obtain ⟨p4, h4, _, ⟨sg, rfl⟩, s4⟩ := rd_seg (nn := nn) hc p3 h3
                  repeat (refine And.intro (of_decide_eq_true rfl) ?_)
                  refine eDraw_pre 6 ⟨82, 1, [(2, .ptr 1 0 0), (3, .ptr 2 0 0)], [(0, rdB nn code p4), (1, ⟨true, true, 4, z35⟩), (2, ⟨true, false, 4, [[i64 0, i64 0, .loc 4 5 0 1, .sl false 5 (([] : List Blok).map encB)]]⟩), (4, ⟨true, true, 5, [encI (9, sg)]⟩)], 5⟩ rfl (by kernel_rfl) ?_ ?_
                  · repeat (refine And.intro (of_decide_eq_true rfl) ?_)
                    refine dCall_gen [0] [0] 6 s4 rfl (by decide) rfl rfl rfl rfl ?_
                    repeat (refine And.intro (of_decide_eq_true rfl) ?_)
                    refine eApp_new tiT [encI (9, sg)] true app32 rfl (List.cons_ne_nil _ _) (of_decide_eq_true rfl) ?_
                    repeat (refine And.intro (of_decide_eq_true rfl) ?_)
                    exact weak_rn [2, 3] [(0, 0), (1, 1), (2, 2), (4, 4)] 5 rfl rfl
                  repeat (refine And.intro (of_decide_eq_true rfl) ?_)
                  exact retE ⟨⟨0, 0, [] ++ [(9, sg)], ([] : List Blok), QB.app (QB.mk (Nat.zero_le _) (Nat.zero_le _) (by simp) : QB [] []) (9, sg), rfl⟩, p4, h4, rfl⟩ (ret_ownL [0] 6 (by first | exact .inr rfl | exact .inl rfl) rfl (by decide) rfl (Nat.le_refl 1) (vw_agg (vwL_cons rfl (vwL_cons rfl (vwL_cons (vw_rowE rfl rfl rfl rfl) (vwL_cons rfl vwL_nil))))) (lax_Q (items := [(9, sg)]) rfl) rfl rfl)
            | some r =>
              obtain ⟨it', w⟩ := r
              have hqb' : QB it' w := cut_QB hq
              rw [hq] at hQ
              refine eDraw_pre 6 ⟨82, 1, [(0, .ptr 0 0 0), (2, .ptr 1 0 0), (3, .ptr 2 0 0)], [(0, rdB nn code p1), (1, ⟨true, true, 4, z35⟩), (2, ⟨true, false, 4, [[i64 m, i64 d, .loc 3 5 0 it'.length, .sl false 5 (w.map encB)]]⟩), (3, itB it')], 4⟩ rfl (by kernel_rfl) ?_ ?_
              · repeat (refine And.intro (of_decide_eq_true rfl) ?_)
                refine And.intro (⟨by omega, gi⟩ : (0 : Int) ≤ 0 ∧ (0 : Int) < ((a0 :: r0).length : Int)) ?_
                repeat (refine And.intro (of_decide_eq_true rfl) ?_)
                repeat (refine And.intro (of_decide_eq_true rfl) ?_)
                refine eCall_gen [3] [] 6 hQ (fun l hl => (by simp only [List.mem_singleton] at hl; subst hl; exact Nat.le_of_ble_eq_true rfl)) (by decide) (vwL_cons (vw_agg (vwL_cons rfl (vwL_cons rfl (vwL_cons (vw_rowE rfl rfl rfl (List.length_map _).symm) (vwL_cons rfl vwL_nil))))) (vwL_cons rfl vwL_nil)) rfl ?_
                repeat' (first | exact of_decide_eq_true rfl | refine And.intro ?_ ?_)
                all_goals exact weak_rn [0, 2, 3] [(0, 0), (1, 1), (2, 2), (4, 3)] 4 rfl rfl
              repeat (refine And.intro (of_decide_eq_true rfl) ?_)
              refine eCallE [0] 6 ((rd_once (nn := nn) hc 16 (by omega) (by omega)).E h1) rfl (by decide) rfl rfl ?_
              rintro _ _ ⟨⟨b2, rfl⟩, p2, h2, rfl⟩
              repeat (refine And.intro (of_decide_eq_true rfl) ?_)
              cases b2 with
              | false =>
                repeat (refine And.intro (of_decide_eq_true rfl) ?_)
                refine eCallE [0] 6 ((rd_once (nn := nn) hc 16 (by omega) (by omega)).E h2) rfl (by decide) rfl rfl ?_
                rintro _ _ ⟨⟨b3, rfl⟩, p3, h3, rfl⟩
                repeat (refine And.intro (of_decide_eq_true rfl) ?_)
                cases b3 with
                | false =>
                  repeat (refine And.intro (of_decide_eq_true rfl) ?_)
                  exact retE ⟨⟨m, d, it', w, QB.c hqb', rfl⟩, p3, h3, rfl⟩ (ret_ownL [0] 6 (by first | exact .inr rfl | exact .inl rfl) rfl (by decide) rfl (Nat.le_refl 1) (vw_agg (vwL_cons rfl (vwL_cons rfl (vwL_cons (vw_rowE rfl rfl rfl (List.length_map _).symm) (vwL_cons rfl vwL_nil))))) (lax_Q rfl) rfl rfl)
                | true =>
                  obtain ⟨p4, h4, _, ⟨sg, rfl⟩, s4⟩ := rd_seg (nn := nn) hc p3 h3
                  repeat (refine And.intro (of_decide_eq_true rfl) ?_)
                  refine eDraw_pre 6 ⟨82, 1, [(2, .ptr 1 0 0), (3, .ptr 2 0 0)], [(0, rdB nn code p4), (1, ⟨true, true, 4, z35⟩), (2, ⟨true, false, 4, [[i64 m, i64 d, .loc 3 5 0 (it'.length + 1), .sl false 5 (w.map encB)]]⟩), (3, ⟨true, true, 5, it'.map encI ++ [encI (9, sg)]⟩)], 4⟩ rfl (by kernel_rfl) ?_ ?_
                  · repeat (refine And.intro (of_decide_eq_true rfl) ?_)
                    refine dCall_gen [0] [0] 6 s4 rfl (by decide) rfl rfl rfl rfl ?_
                    repeat (refine And.intro (of_decide_eq_true rfl) ?_)
                    refine eApp_grow tiT [encI (9, sg)] true ⟨true, true, 5, it'.map encI⟩ app32 rfl rfl rfl rfl (Nat.le_of_ble_eq_true rfl) rfl (by simp) (by have := QB.i hqb'; simp [tiT]; omega) ?_
                    repeat (refine And.intro (of_decide_eq_true rfl) ?_)
                    exact weak_rn [2, 3] [(0, 0), (1, 1), (2, 2), (3, 3)] 4 rfl rfl
                  repeat (refine And.intro (of_decide_eq_true rfl) ?_)
                  exact retE ⟨⟨m, d, it' ++ [(9, sg)], w, QB.app hqb' (9, sg), rfl⟩, p4, h4, rfl⟩ (ret_ownL [0] 6 (by first | exact .inr rfl | exact .inl rfl) rfl (by decide) rfl (Nat.le_refl 1) (vw_agg (vwL_cons rfl (vwL_cons rfl (vwL_cons (vw_rowE rfl rfl rfl (by simp)) (vwL_cons rfl vwL_nil))))) (Lax.trans (.of_eq (by rw [List.map_append]; rfl)) (lax_Q rfl)) rfl rfl)
              | true =>
                repeat (refine And.intro (of_decide_eq_true rfl) ?_)
                refine bc_split (fun gl => ?_) (fun gl => ?_)
                · have gl : (1 : Int) < ((w.map encB).length : Int) := of_decide_eq_true gl
                  have hbl := QB.b hqb'
                  have hw : IntKind.i64.wrap (((w.map encB).length : Int) - 1) = ((w.map encB).length : Int) - 1 := wrap_id (by omega) (by rw [List.length_map]; omega)
                  repeat (refine And.intro (of_decide_eq_true rfl) ?_)
                  refine And.intro (⟨by rw [hw]; omega, by rw [hw]; omega⟩ : 0 ≤ IntKind.i64.wrap (((w.map encB).length : Int) - 1) ∧ Int.toNat (IntKind.i64.wrap (((w.map encB).length : Int) - 1)) ≤ (w.map encB).length) ?_
                  repeat (refine And.intro (of_decide_eq_true rfl) ?_)
                  refine eCallE [0] 6 ((rd_once (nn := nn) hc 16 (by omega) (by omega)).E h2) rfl (by decide) rfl rfl ?_
                  rintro _ _ ⟨⟨b3, rfl⟩, p3, h3, rfl⟩
                  repeat (refine And.intro (of_decide_eq_true rfl) ?_)
                  cases b3 with
                  | false =>
                    repeat (refine And.intro (of_decide_eq_true rfl) ?_)
                    exact retE ⟨⟨m, d, it', (w.take (Int.toNat (IntKind.i64.wrap (((w.map encB).length : Int) - 1)))), QB.c (QB.take hqb' (Int.toNat (IntKind.i64.wrap (((w.map encB).length : Int) - 1)))), rfl⟩, p3, h3, rfl⟩ (ret_ownL [0] 6 (by first | exact .inr rfl | exact .inl rfl) rfl (by decide) rfl (Nat.le_refl 1) (vw_agg (vwL_cons rfl (vwL_cons rfl (vwL_cons (vw_rowE rfl rfl rfl (List.length_map _).symm) (vwL_cons rfl vwL_nil))))) (lax_Q List.map_take.symm) rfl rfl)
                  | true =>
                    obtain ⟨p4, h4, _, ⟨sg, rfl⟩, s4⟩ := rd_seg (nn := nn) hc p3 h3
                    repeat (refine And.intro (of_decide_eq_true rfl) ?_)
                    refine eDraw_pre 6 ⟨82, 1, [(2, .ptr 1 0 0), (3, .ptr 2 0 0)], [(0, rdB nn code p4), (1, ⟨true, true, 4, z35⟩), (2, ⟨true, false, 4, [[i64 m, i64 d, .loc 3 5 0 (it'.length + 1), .sl false 5 ((w.map encB).take (Int.toNat (IntKind.i64.wrap (((w.map encB).length : Int) - 1))))]]⟩), (3, ⟨true, true, 5, it'.map encI ++ [encI (9, sg)]⟩)], 4⟩ rfl (by kernel_rfl) ?_ ?_
                    · repeat (refine And.intro (of_decide_eq_true rfl) ?_)
                      refine dCall_gen [0] [0] 6 s4 rfl (by decide) rfl rfl rfl rfl ?_
                      repeat (refine And.intro (of_decide_eq_true rfl) ?_)
                      refine eApp_grow tiT [encI (9, sg)] true ⟨true, true, 5, it'.map encI⟩ app32 rfl rfl rfl rfl (Nat.le_of_ble_eq_true rfl) rfl (by simp) (by have := QB.i (QB.take hqb' (Int.toNat (IntKind.i64.wrap (((w.map encB).length : Int) - 1)))); simp [tiT]; omega) ?_
                      repeat (refine And.intro (of_decide_eq_true rfl) ?_)
                      exact weak_rn [2, 3] [(0, 0), (1, 1), (2, 2), (3, 3)] 4 rfl rfl
                    repeat (refine And.intro (of_decide_eq_true rfl) ?_)
                    exact retE ⟨⟨m, d, it' ++ [(9, sg)], (w.take (Int.toNat (IntKind.i64.wrap (((w.map encB).length : Int) - 1)))), QB.app (QB.take hqb' (Int.toNat (IntKind.i64.wrap (((w.map encB).length : Int) - 1)))) (9, sg), rfl⟩, p4, h4, rfl⟩ (ret_ownL [0] 6 (by first | exact .inr rfl | exact .inl rfl) rfl (by decide) rfl (Nat.le_refl 1) (vw_agg (vwL_cons rfl (vwL_cons rfl (vwL_cons (vw_rowE rfl rfl rfl (by simp)) (vwL_cons rfl vwL_nil))))) (Lax.trans (.of_eq (by rw [List.map_append]; rfl)) (lax_Q List.map_take.symm)) rfl rfl)
                · repeat (refine And.intro (of_decide_eq_true rfl) ?_)
                  refine eCallE [0] 6 ((rd_once (nn := nn) hc 16 (by omega) (by omega)).E h2) rfl (by decide) rfl rfl ?_
                  rintro _ _ ⟨⟨b3, rfl⟩, p3, h3, rfl⟩
                  repeat (refine And.intro (of_decide_eq_true rfl) ?_)
                  cases b3 with
                  | false =>
                    repeat (refine And.intro (of_decide_eq_true rfl) ?_)
                    exact retE ⟨⟨m, d, it', w, QB.c hqb', rfl⟩, p3, h3, rfl⟩ (ret_ownL [0] 6 (by first | exact .inr rfl | exact .inl rfl) rfl (by decide) rfl (Nat.le_refl 1) (vw_agg (vwL_cons rfl (vwL_cons rfl (vwL_cons (vw_rowE rfl rfl rfl (List.length_map _).symm) (vwL_cons rfl vwL_nil))))) (lax_Q rfl) rfl rfl)
                  | true =>
                    obtain ⟨p4, h4, _, ⟨sg, rfl⟩, s4⟩ := rd_seg (nn := nn) hc p3 h3
                    repeat (refine And.intro (of_decide_eq_true rfl) ?_)
                    refine eDraw_pre 6 ⟨82, 1, [(2, .ptr 1 0 0), (3, .ptr 2 0 0)], [(0, rdB nn code p4), (1, ⟨true, true, 4, z35⟩), (2, ⟨true, false, 4, [[i64 m, i64 d, .loc 3 5 0 (it'.length + 1), .sl false 5 (w.map encB)]]⟩), (3, ⟨true, true, 5, it'.map encI ++ [encI (9, sg)]⟩)], 4⟩ rfl (by kernel_rfl) ?_ ?_
                    · repeat (refine And.intro (of_decide_eq_true rfl) ?_)
                      refine dCall_gen [0] [0] 6 s4 rfl (by decide) rfl rfl rfl rfl ?_
                      repeat (refine And.intro (of_decide_eq_true rfl) ?_)
                      refine eApp_grow tiT [encI (9, sg)] true ⟨true, true, 5, it'.map encI⟩ app32 rfl rfl rfl rfl (Nat.le_of_ble_eq_true rfl) rfl (by simp) (by have := QB.i hqb'; simp [tiT]; omega) ?_
                      repeat (refine And.intro (of_decide_eq_true rfl) ?_)
                      exact weak_rn [2, 3] [(0, 0), (1, 1), (2, 2), (3, 3)] 4 rfl rfl
                    repeat (refine And.intro (of_decide_eq_true rfl) ?_)
                    exact retE ⟨⟨m, d, it' ++ [(9, sg)], w, QB.app hqb' (9, sg), rfl⟩, p4, h4, rfl⟩ (ret_ownL [0] 6 (by first | exact .inr rfl | exact .inl rfl) rfl (by decide) rfl (Nat.le_refl 1) (vw_agg (vwL_cons rfl (vwL_cons rfl (vwL_cons (vw_rowE rfl rfl rfl (by simp)) (vwL_cons rfl vwL_nil))))) (Lax.trans (.of_eq (by rw [List.map_append]; rfl)) (lax_Q rfl)) rfl rfl)
          · repeat (refine And.intro (of_decide_eq_true rfl) ?_)
            refine eCallE [0] 6 ((rd_once (nn := nn) hc 16 (by omega) (by omega)).E h1) rfl (by decide) rfl rfl ?_
            rintro _ _ ⟨⟨b2, rfl⟩, p2, h2, rfl⟩
            repeat (refine And.intro (of_decide_eq_true rfl) ?_)
            cases b2 with
            | false =>
              repeat (refine And.intro (of_decide_eq_true rfl) ?_)
              refine eCallE [0] 6 ((rd_once (nn := nn) hc 16 (by omega) (by omega)).E h2) rfl (by decide) rfl rfl ?_
              rintro _ _ ⟨⟨b3, rfl⟩, p3, h3, rfl⟩
              repeat (refine And.intro (of_decide_eq_true rfl) ?_)
              cases b3 with
              | false =>
                repeat (refine And.intro (of_decide_eq_true rfl) ?_)
                exact retE ⟨⟨m, d, it, bl, QB.c hqb, rfl⟩, p3, h3, rfl⟩ (ret_ownL [0] 6 (by first | exact .inr rfl | exact .inl rfl) rfl (by decide) rfl (Nat.le_refl 1) (vw_agg (vwL_cons rfl (vwL_cons rfl (vwL_cons (vw_rowE rfl rfl rfl (List.length_map _).symm) (vwL_cons rfl vwL_nil))))) (lax_Q rfl) rfl rfl)
              | true =>
                obtain ⟨p4, h4, _, ⟨sg, rfl⟩, s4⟩ := rd_seg (nn := nn) hc p3 h3
                repeat (refine And.intro (of_decide_eq_true rfl) ?_)
                refine eDraw_pre 6 ⟨82, 1, [(2, .ptr 1 0 0), (3, .ptr 2 0 0)], [(0, rdB nn code p4), (1, ⟨true, true, 4, z35⟩), (2, ⟨true, false, 4, [[i64 m, i64 d, .loc 3 5 0 (it.length + 1), .sl false 5 (bl.map encB)]]⟩), (3, ⟨true, true, 5, it.map encI ++ [encI (9, sg)]⟩)], 4⟩ rfl (by kernel_rfl) ?_ ?_
                · repeat (refine And.intro (of_decide_eq_true rfl) ?_)
                  refine dCall_gen [0] [0] 6 s4 rfl (by decide) rfl rfl rfl rfl ?_
                  repeat (refine And.intro (of_decide_eq_true rfl) ?_)
                  refine eApp_grow tiT [encI (9, sg)] true ⟨true, true, 5, it.map encI⟩ app32 rfl rfl rfl rfl (Nat.le_of_ble_eq_true rfl) rfl (by simp) (by have := QB.i hqb; simp [tiT]; omega) ?_
                  repeat (refine And.intro (of_decide_eq_true rfl) ?_)
                  exact weak_rn [2, 3] [(0, 0), (1, 1), (2, 2), (3, 3)] 4 rfl rfl
                repeat (refine And.intro (of_decide_eq_true rfl) ?_)
                exact retE ⟨⟨m, d, it ++ [(9, sg)], bl, QB.app hqb (9, sg), rfl⟩, p4, h4, rfl⟩ (ret_ownL [0] 6 (by first | exact .inr rfl | exact .inl rfl) rfl (by decide) rfl (Nat.le_refl 1) (vw_agg (vwL_cons rfl (vwL_cons rfl (vwL_cons (vw_rowE rfl rfl rfl (by simp)) (vwL_cons rfl vwL_nil))))) (Lax.trans (.of_eq (by rw [List.map_append]; rfl)) (lax_Q rfl)) rfl rfl)
            | true =>
              repeat (refine And.intro (of_decide_eq_true rfl) ?_)
              refine bc_split (fun gl => ?_) (fun gl => ?_)
              · have gl : (1 : Int) < ((bl.map encB).length : Int) := of_decide_eq_true gl
                have hbl := QB.b hqb
                have hw : IntKind.i64.wrap (((bl.map encB).length : Int) - 1) = ((bl.map encB).length : Int) - 1 := wrap_id (by omega) (by rw [List.length_map]; omega)
                repeat (refine And.intro (of_decide_eq_true rfl) ?_)
                refine And.intro (⟨by rw [hw]; omega, by rw [hw]; omega⟩ : 0 ≤ IntKind.i64.wrap (((bl.map encB).length : Int) - 1) ∧ Int.toNat (IntKind.i64.wrap (((bl.map encB).length : Int) - 1)) ≤ (bl.map encB).length) ?_
                repeat (refine And.intro (of_decide_eq_true rfl) ?_)
                refine eCallE [0] 6 ((rd_once (nn := nn) hc 16 (by omega) (by omega)).E h2) rfl (by decide) rfl rfl ?_
                rintro _ _ ⟨⟨b3, rfl⟩, p3, h3, rfl⟩
                repeat (refine And.intro (of_decide_eq_true rfl) ?_)
                cases b3 with
                | false =>
                  repeat (refine And.intro (of_decide_eq_true rfl) ?_)
                  exact retE ⟨⟨m, d, it, (bl.take (Int.toNat (IntKind.i64.wrap (((bl.map encB).length : Int) - 1)))), QB.c (QB.take hqb (Int.toNat (IntKind.i64.wrap (((bl.map encB).length : Int) - 1)))), rfl⟩, p3, h3, rfl⟩ (ret_ownL [0] 6 (by first | exact .inr rfl | exact .inl rfl) rfl (by decide) rfl (Nat.le_refl 1) (vw_agg (vwL_cons rfl (vwL_cons rfl (vwL_cons (vw_rowE rfl rfl rfl (List.length_map _).symm) (vwL_cons rfl vwL_nil))))) (lax_Q List.map_take.symm) rfl rfl)
                | true =>
                  obtain ⟨p4, h4, _, ⟨sg, rfl⟩, s4⟩ := rd_seg (nn := nn) hc p3 h3
                  repeat (refine And.intro (of_decide_eq_true rfl) ?_)
                  refine eDraw_pre 6 ⟨82, 1, [(2, .ptr 1 0 0), (3, .ptr 2 0 0)], [(0, rdB nn code p4), (1, ⟨true, true, 4, z35⟩), (2, ⟨true, false, 4, [[i64 m, i64 d, .loc 3 5 0 (it.length + 1), .sl false 5 ((bl.map encB).take (Int.toNat (IntKind.i64.wrap (((bl.map encB).length : Int) - 1))))]]⟩), (3, ⟨true, true, 5, it.map encI ++ [encI (9, sg)]⟩)], 4⟩ rfl (by kernel_rfl) ?_ ?_
                  · repeat (refine And.intro (of_decide_eq_true rfl) ?_)
                    refine dCall_gen [0] [0] 6 s4 rfl (by decide) rfl rfl rfl rfl ?_
                    repeat (refine And.intro (of_decide_eq_true rfl) ?_)
                    refine eApp_grow tiT [encI (9, sg)] true ⟨true, true, 5, it.map encI⟩ app32 rfl rfl rfl rfl (Nat.le_of_ble_eq_true rfl) rfl (by simp) (by have := QB.i (QB.take hqb (Int.toNat (IntKind.i64.wrap (((bl.map encB).length : Int) - 1)))); simp [tiT]; omega) ?_
                    repeat (refine And.intro (of_decide_eq_true rfl) ?_)
                    exact weak_rn [2, 3] [(0, 0), (1, 1), (2, 2), (3, 3)] 4 rfl rfl
                  repeat (refine And.intro (of_decide_eq_true rfl) ?_)
                  exact retE ⟨⟨m, d, it ++ [(9, sg)], (bl.take (Int.toNat (IntKind.i64.wrap (((bl.map encB).length : Int) - 1)))), QB.app (QB.take hqb (Int.toNat (IntKind.i64.wrap (((bl.map encB).length : Int) - 1)))) (9, sg), rfl⟩, p4, h4, rfl⟩ (ret_ownL [0] 6 (by first | exact .inr rfl | exact .inl rfl) rfl (by decide) rfl (Nat.le_refl 1) (vw_agg (vwL_cons rfl (vwL_cons rfl (vwL_cons (vw_rowE rfl rfl rfl (by simp)) (vwL_cons rfl vwL_nil))))) (Lax.trans (.of_eq (by rw [List.map_append]; rfl)) (lax_Q List.map_take.symm)) rfl rfl)
              · repeat (refine And.intro (of_decide_eq_true rfl) ?_)
                refine eCallE [0] 6 ((rd_once (nn := nn) hc 16 (by omega) (by omega)).E h2) rfl (by decide) rfl rfl ?_
                rintro _ _ ⟨⟨b3, rfl⟩, p3, h3, rfl⟩
                repeat (refine And.intro (of_decide_eq_true rfl) ?_)
                cases b3 with
                | false =>
                  repeat (refine And.intro (of_decide_eq_true rfl) ?_)
                  exact retE ⟨⟨m, d, it, bl, QB.c hqb, rfl⟩, p3, h3, rfl⟩ (ret_ownL [0] 6 (by first | exact .inr rfl | exact .inl rfl) rfl (by decide) rfl (Nat.le_refl 1) (vw_agg (vwL_cons rfl (vwL_cons rfl (vwL_cons (vw_rowE rfl rfl rfl (List.length_map _).symm) (vwL_cons rfl vwL_nil))))) (lax_Q rfl) rfl rfl)
                | true =>
                  obtain ⟨p4, h4, _, ⟨sg, rfl⟩, s4⟩ := rd_seg (nn := nn) hc p3 h3
                  repeat (refine And.intro (of_decide_eq_true rfl) ?_)
                  refine eDraw_pre 6 ⟨82, 1, [(2, .ptr 1 0 0), (3, .ptr 2 0 0)], [(0, rdB nn code p4), (1, ⟨true, true, 4, z35⟩), (2, ⟨true, false, 4, [[i64 m, i64 d, .loc 3 5 0 (it.length + 1), .sl false 5 (bl.map encB)]]⟩), (3, ⟨true, true, 5, it.map encI ++ [encI (9, sg)]⟩)], 4⟩ rfl (by kernel_rfl) ?_ ?_
                  · repeat (refine And.intro (of_decide_eq_true rfl) ?_)
                    refine dCall_gen [0] [0] 6 s4 rfl (by decide) rfl rfl rfl rfl ?_
                    repeat (refine And.intro (of_decide_eq_true rfl) ?_)
                    refine eApp_grow tiT [encI (9, sg)] true ⟨true, true, 5, it.map encI⟩ app32 rfl rfl rfl rfl (Nat.le_of_ble_eq_true rfl) rfl (by simp) (by have := QB.i hqb; simp [tiT]; omega) ?_
                    repeat (refine And.intro (of_decide_eq_true rfl) ?_)
                    exact weak_rn [2, 3] [(0, 0), (1, 1), (2, 2), (3, 3)] 4 rfl rfl
                  repeat (refine And.intro (of_decide_eq_true rfl) ?_)
                  exact retE ⟨⟨m, d, it ++ [(9, sg)], bl, QB.app hqb (9, sg), rfl⟩, p4, h4, rfl⟩ (ret_ownL [0] 6 (by first | exact .inr rfl | exact .inl rfl) rfl (by decide) rfl (Nat.le_refl 1) (vw_agg (vwL_cons rfl (vwL_cons rfl (vwL_cons (vw_rowE rfl rfl rfl (by simp)) (vwL_cons rfl vwL_nil))))) (Lax.trans (.of_eq (by rw [List.map_append]; rfl)) (lax_Q rfl)) rfl rfl)
end Go.Proofs.Ytendgiieolkleaa

/- How many leaves a tree has, and how deep it is. -/
namespace Go.Proofs.Ytendgiieolkleaa
open Go.Aw
set_option maxHeartbeats 1000000
set_option maxRecDepth 100000
set_option linter.unusedSimpArgs false
set_option linter.unusedVariables false
def mxx (a b : Int) : Int := if b > a then b else a
def cntT : Tr → Int × Int
  | .leaf _ _ _ _ => (1, 0)
  | .node _ _ _ a b c d => (W64 (W64 (W64 (W64 (0 + (cntT a).1) + (cntT b).1) + (cntT c).1) + (cntT d).1), mxx (mxx (mxx (mxx 0 (W64 ((cntT a).2 + 1))) (W64 ((cntT b).2 + 1))) (W64 ((cntT c).2 + 1))) (W64 ((cntT d).2 + 1)))
theorem spec_Count : ∀ t : Tr, Fun G0 66 [.agg (encT t)] [] (.tup [i64 (cntT t).1, i64 (cntT t).2]) [] := by
  intro t
  induction t with
  | leaf x y n ids =>
    refine spec_ewL (G := G0) (fid := 66) (fn := Try.f66) Try.func66 (by kernel_rfl) rfl (by kernel_rfl) ?_
    repeat (refine And.intro (of_decide_eq_true rfl) ?_)
    exact ret_eq (by first | exact .inr rfl | exact .inl rfl) rfl rfl (rfl)
  | node x y n a b c d iha ihb ihc ihd =>
    simp only [cntT]
    generalize cntT a = ca at iha ⊢
    generalize cntT b = cb at ihb ⊢
    generalize cntT c = cc at ihc ⊢
    generalize cntT d = cd at ihd ⊢
    refine spec_ewL (G := G0) (fid := 66) (fn := Try.f66) Try.func66 (by kernel_rfl) rfl (by kernel_rfl) ?_
    repeat (refine And.intro (of_decide_eq_true rfl) ?_)
    refine eLoop_step ?_
    repeat (refine And.intro (of_decide_eq_true rfl) ?_)
    refine eCall_flat (iha) rfl rfl ?_
    repeat (refine And.intro (of_decide_eq_true rfl) ?_)
    refine eLoop_step ?_
    repeat (refine And.intro (of_decide_eq_true rfl) ?_)
    refine eCall_flat (ihb) rfl rfl ?_
    repeat (refine And.intro (of_decide_eq_true rfl) ?_)
    refine eLoop_step ?_
    repeat (refine And.intro (of_decide_eq_true rfl) ?_)
    refine eCall_flat (ihc) rfl rfl ?_
    repeat (refine And.intro (of_decide_eq_true rfl) ?_)
    refine eLoop_step ?_
    repeat (refine And.intro (of_decide_eq_true rfl) ?_)
    refine eCall_flat (ihd) rfl rfl ?_
    repeat (refine And.intro (of_decide_eq_true rfl) ?_)
    refine eLoop_step ?_
    repeat (refine And.intro (of_decide_eq_true rfl) ?_)
    exact ret_eq (by first | exact .inr rfl | exact .inl rfl) rfl rfl (rfl)
def cntR : Option Tr → Int × Int
  | none => (0, 0)
  | some t => cntT t
theorem spec_QuadCount (m d : Int) (items : List Item) (bl : List Blok) (nn nb : Bool) (hI : items.length ≤ 1048576) (hB : bl.length ≤ 1048576) (hids : ∀ b ∈ bl, b.2.2.2.2.length ≤ 1048576) :
    Fun G0 24 [.agg [i64 m, i64 d, .sl nn 5 (items.map encI), .sl nb 5 (bl.map encB)]] [] (.tup [i64 (cntR (rootM m d items bl)).1, i64 (cntR (rootM m d items bl)).2]) [] := by
  have hs := spec_Root m d items bl nn nb hI hB hids
  refine spec_ewL (G := G0) (fid := 24) (fn := Try.f24) Try.func24 (by kernel_rfl) rfl (by kernel_rfl) ?_
  repeat (refine And.intro (of_decide_eq_true rfl) ?_)
  cases hq : rootM m d items bl with
  | none =>
    rw [hq] at hs
    refine eCall_pure (hs) rfl ?_
    repeat (refine And.intro (of_decide_eq_true rfl) ?_)
    exact ret_eq (by first | exact .inr rfl | exact .inl rfl) rfl rfl (rfl)
  | some t =>
    rw [hq] at hs
    refine eCall_pure (hs) rfl ?_
    repeat (refine And.intro (of_decide_eq_true rfl) ?_)
    refine eCall_flat (spec_Count t) rfl rfl ?_
    repeat (refine And.intro (of_decide_eq_true rfl) ?_)
    exact ret_eq (by first | exact .inr rfl | exact .inl rfl) rfl rfl (rfl)
theorem law_big (nn : Bool) (code : List Int) (enc : Int → List AV) : Fun G0 21 [.sl nn 1 (code.map enc)] [] (bo (decide (((code.map enc).length : Int) > 1048576))) [] := by
  refine spec_ewL (G := G0) (fid := 21) (fn := Try.f21) Try.func21 (by kernel_rfl) rfl (by kernel_rfl) ?_
  repeat (refine And.intro (of_decide_eq_true rfl) ?_)
  exact ret_eq (by first | exact .inr rfl | exact .inl rfl) rfl rfl (rfl)
end Go.Proofs.Ytendgiieolkleaa
