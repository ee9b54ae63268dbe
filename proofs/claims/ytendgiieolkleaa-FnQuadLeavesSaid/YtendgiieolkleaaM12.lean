/- The reference puts a segment into a tree, where the items lie in a block that stays the caller's. Printed by lent.py. The reference's QuadPut: the new items are the caller's own. The reference's QuadCut and QuadNew. Drawn segments. -/
import Derived.Test.YtendgiieolkleaaM11
import Derived.Test.YtendgiieolkleaaM8

/- The reference puts a segment into a tree, where the items lie in a block that stays the caller's. Printed by lent.py. -/
namespace Go.Proofs.Ytendgiieolkleaa
open Go.Aw
set_option maxHeartbeats 1000000
set_option maxRecDepth 100000
set_option linter.unusedSimpArgs false
set_option linter.unusedVariables false
def itB (items : List Item) : Blk := ⟨true, true, 5, items.map encI⟩
theorem ix_okL {items : List Item} {i : Nat} (h : i < items.length) : 0 ≤ (i : Int) ∧ (i : Int) < (items.length : Int) := by omega
theorem ix_ltL {items : List Item} {i : Nat} (h : i < items.length) : 0 + Int.toNat (i : Int) < (items.map encI).length := by
  rw [List.length_map, Int.toNat_natCast]; omega
theorem ix_getL {items : List Item} {i : Nat} (h : i < items.length) : (items.map encI).getD (0 + Int.toNat (i : Int)) [] = encI items[i] := by
  rw [Nat.zero_add]; exact ix_get h
def st141L (items : List Item) (id : Int) : Nat × Int → St
  | (_, i) => ⟨25, 1, [(0, .loc 0 5 0 items.length), (1, i64 id), (4, .ptr 1 0 0), (5, i64 i)], [(0, itB items), (1, ⟨true, true, 4, [[i64 0, i64 0, i64 0, i64 0]]⟩)], 2⟩
theorem spec_SegL (items : List Item) (id : Int) (hI : items.length ≤ 1048576) : Fun G0 141 [.loc 0 5 0 items.length, i64 id] [itB items] (encS (segOfId items id)) [itB items] := by
  refine spec_ewL (G := G0) (fid := 141) (fn := Try.f141) Try.func141 (by kernel_rfl) rfl (by kernel_rfl) ?_
  repeat (refine And.intro (of_decide_eq_true rfl) ?_)
  refine eLoop_pre (st141L items id) (fun a => a.1 ≤ items.length ∧ a.2 = a.1 ∧ segOfId (items.drop a.1) id = segOfId items id) (fun a => items.length - a.1) (0, 0) (weak_inK [0, 1, 4, 5] [0, 1] 2 rfl rfl) ⟨Nat.zero_le _, rfl, rfl⟩ ?_
  rintro ⟨i, iv⟩ ⟨hi, hiv, hr⟩
  simp only at hi hiv hr
  subst hiv
  refine bc_split (fun h => ?_) (fun h => ?_)
  · have hlt : i < items.length := by have := of_decide_eq_true h; omega
    rw [List.drop_eq_getElem_cons hlt] at hr
    repeat (refine And.intro (of_decide_eq_true rfl) ?_)
    refine And.intro (ix_okL hlt) ?_
    repeat (refine And.intro (of_decide_eq_true rfl) ?_)
    refine And.intro (ix_ltL hlt) ?_
    rw [show (itB items).es.getD (0 + Int.toNat (i : Int)) [] = encI items[i] from ix_getL hlt]
    repeat (refine And.intro (of_decide_eq_true rfl) ?_)
    refine bc_split (fun h2 => ?_) (fun h2 => ?_)
    · have h2 : (items[i].1 == id) = true := h2
      repeat (refine And.intro (of_decide_eq_true rfl) ?_)
      refine And.intro (ix_okL hlt) ?_
      repeat (refine And.intro (of_decide_eq_true rfl) ?_)
      refine And.intro (ix_ltL hlt) ?_
      rw [show (itB items).es.getD (0 + Int.toNat (i : Int)) [] = encI items[i] from ix_getL hlt]
      repeat (refine And.intro (of_decide_eq_true rfl) ?_)
      refine ret_ownL [0] 6 (by first | exact .inr rfl | exact .inl rfl) rfl (by decide) rfl (Nat.le_refl 1) rfl (.of_eq ?_) rfl rfl
      rw [← hr]; simp only [segOfId, List.find?_cons, h2]; rfl
    · have h2 : (items[i].1 == id) = false := h2
      repeat (refine And.intro (of_decide_eq_true rfl) ?_)
      refine ⟨(i + 1, IntKind.i64.wrap (↑i + 1)), weak_inK [0, 1, 4, 5] [0, 1] 2 rfl rfl, ⟨hlt, wrap_succ (by omega), ?_⟩, by simp only; omega⟩
      rw [← hr]; simp only [segOfId, List.find?_cons, h2]
  · have hge : i = items.length := by have := of_decide_eq_false h; omega
    subst hge
    rw [List.drop_length] at hr
    repeat (refine And.intro (of_decide_eq_true rfl) ?_)
    refine ret_ownL [0] 6 (by first | exact .inr rfl | exact .inl rfl) rfl (by decide) rfl (Nat.le_refl 1) rfl (.of_eq ?_) rfl rfl
    rw [← hr]; rfl
def st90nL (items : List Item) (id most d : Int) (s : Int × Int × Int × Int) (t : Tr) (ks : List (List AV)) (j : Int) : St :=
  ⟨125, 1, [(1, .loc 0 5 0 items.length), (2, i64 id), (4, i64 most), (5, i64 d), (6, .ptr 1 0 0), (9, .ptr 2 0 0), (12, .ptr 3 0 0), (13, .loc 4 5 0 ks.length), (14, i64 j)],
    [(0, itB items), (1, ⟨true, true, 5, [encT t]⟩), (2, ⟨true, true, 4, [[i64 s.1, i64 s.2.1, i64 s.2.2.1, i64 s.2.2.2]]⟩), (3, ⟨true, true, 5, [[i64 0, i64 0, i64 0, .e true, .e true]]⟩), (4, ⟨true, true, 5, ks⟩)], 5⟩
theorem put_nodeL (items : List Item) (id most d : Int) (s : Int × Int × Int × Int) (x y n : Int) (a b c e a' b' c' e' : Tr) (hm : meetsT (.node x y n a b c e) s = true)
    (ha : Fun G0 90 [.agg (encT a), .loc 0 5 0 items.length, i64 id, encS s, i64 most, i64 (W64 (d - 1))] [itB items] (.agg (encT a')) [itB items])
    (hb : Fun G0 90 [.agg (encT b), .loc 0 5 0 items.length, i64 id, encS s, i64 most, i64 (W64 (d - 1))] [itB items] (.agg (encT b')) [itB items])
    (hc : Fun G0 90 [.agg (encT c), .loc 0 5 0 items.length, i64 id, encS s, i64 most, i64 (W64 (d - 1))] [itB items] (.agg (encT c')) [itB items])
    (he : Fun G0 90 [.agg (encT e), .loc 0 5 0 items.length, i64 id, encS s, i64 most, i64 (W64 (d - 1))] [itB items] (.agg (encT e')) [itB items]) :
    Fun G0 90 [.agg (encT (.node x y n a b c e)), .loc 0 5 0 items.length, i64 id, encS s, i64 most, i64 d] [itB items] (.agg (encT (.node x y n a' b' c' e'))) [itB items] := by
  refine spec_ewL (G := G0) (fid := 90) (fn := Try.f90) Try.func90 (by kernel_rfl) rfl (by kernel_rfl) ?_
  repeat (refine And.intro (of_decide_eq_true rfl) ?_)
  refine eCall_flat (spec_Meets (.node x y n a b c e) s) rfl rfl ?_
  refine bc_split (fun h => ?_) (fun h => ?_)
  · exact absurd (show (!meetsT (.node x y n a b c e) s) = true from h) (by rw [hm]; simp)
  repeat (refine And.intro (of_decide_eq_true rfl) ?_)
  refine eLoop_weak (S' := st90nL items id most d s (.node x y n a b c e) [] 0) (weak_inK [1, 2, 4, 5, 6, 9, 12, 13, 14] [0, 1, 2, 3, 4] 5 rfl rfl) ?_
  refine eLoop_step ?_
  repeat (refine And.intro (of_decide_eq_true rfl) ?_)
  refine eDraw_pre 14 (st90nL items id most d s (.node x y n a b c e) [encT a'] 0) rfl (by kernel_rfl) ?_ ?_
  · repeat (refine And.intro (of_decide_eq_true rfl) ?_)
    refine dCall_gen [0] [0] 6 ha rfl (by decide) rfl rfl rfl rfl ?_
    repeat (refine And.intro (of_decide_eq_true rfl) ?_)
    refine eApp_grow tiB [encT a'] true ⟨true, true, 5, []⟩ app95 rfl rfl rfl rfl (Nat.le_of_ble_eq_true rfl) rfl rfl (of_decide_eq_true rfl) ?_
    repeat (refine And.intro (of_decide_eq_true rfl) ?_)
    exact weak_inK [1, 2, 4, 5, 6, 9, 12, 13, 14] [0, 1, 2, 3, 4] 5 rfl rfl
  refine eLoop_weak (S' := st90nL items id most d s (.node x y n a b c e) [encT a'] 1) (weak_inK [1, 2, 4, 5, 6, 9, 12, 13, 14] [0, 1, 2, 3, 4] 5 rfl rfl) ?_
  refine eLoop_step ?_
  repeat (refine And.intro (of_decide_eq_true rfl) ?_)
  refine eDraw_pre 14 (st90nL items id most d s (.node x y n a b c e) [encT a', encT b'] 1) rfl (by kernel_rfl) ?_ ?_
  · repeat (refine And.intro (of_decide_eq_true rfl) ?_)
    refine dCall_gen [0] [0] 6 hb rfl (by decide) rfl rfl rfl rfl ?_
    repeat (refine And.intro (of_decide_eq_true rfl) ?_)
    refine eApp_grow tiB [encT b'] true ⟨true, true, 5, [encT a']⟩ app95 rfl rfl rfl rfl (Nat.le_of_ble_eq_true rfl) rfl rfl (of_decide_eq_true rfl) ?_
    repeat (refine And.intro (of_decide_eq_true rfl) ?_)
    exact weak_inK [1, 2, 4, 5, 6, 9, 12, 13, 14] [0, 1, 2, 3, 4] 5 rfl rfl
  refine eLoop_weak (S' := st90nL items id most d s (.node x y n a b c e) [encT a', encT b'] 2) (weak_inK [1, 2, 4, 5, 6, 9, 12, 13, 14] [0, 1, 2, 3, 4] 5 rfl rfl) ?_
  refine eLoop_step ?_
  repeat (refine And.intro (of_decide_eq_true rfl) ?_)
  refine eDraw_pre 14 (st90nL items id most d s (.node x y n a b c e) [encT a', encT b', encT c'] 2) rfl (by kernel_rfl) ?_ ?_
  · repeat (refine And.intro (of_decide_eq_true rfl) ?_)
    refine dCall_gen [0] [0] 6 hc rfl (by decide) rfl rfl rfl rfl ?_
    repeat (refine And.intro (of_decide_eq_true rfl) ?_)
    refine eApp_grow tiB [encT c'] true ⟨true, true, 5, [encT a', encT b']⟩ app95 rfl rfl rfl rfl (Nat.le_of_ble_eq_true rfl) rfl rfl (of_decide_eq_true rfl) ?_
    repeat (refine And.intro (of_decide_eq_true rfl) ?_)
    exact weak_inK [1, 2, 4, 5, 6, 9, 12, 13, 14] [0, 1, 2, 3, 4] 5 rfl rfl
  refine eLoop_weak (S' := st90nL items id most d s (.node x y n a b c e) [encT a', encT b', encT c'] 3) (weak_inK [1, 2, 4, 5, 6, 9, 12, 13, 14] [0, 1, 2, 3, 4] 5 rfl rfl) ?_
  refine eLoop_step ?_
  repeat (refine And.intro (of_decide_eq_true rfl) ?_)
  refine eDraw_pre 14 (st90nL items id most d s (.node x y n a b c e) [encT a', encT b', encT c', encT e'] 3) rfl (by kernel_rfl) ?_ ?_
  · repeat (refine And.intro (of_decide_eq_true rfl) ?_)
    refine dCall_gen [0] [0] 6 he rfl (by decide) rfl rfl rfl rfl ?_
    repeat (refine And.intro (of_decide_eq_true rfl) ?_)
    refine eApp_grow tiB [encT e'] true ⟨true, true, 5, [encT a', encT b', encT c']⟩ app95 rfl rfl rfl rfl (Nat.le_of_ble_eq_true rfl) rfl rfl (of_decide_eq_true rfl) ?_
    repeat (refine And.intro (of_decide_eq_true rfl) ?_)
    exact weak_inK [1, 2, 4, 5, 6, 9, 12, 13, 14] [0, 1, 2, 3, 4] 5 rfl rfl
  refine eLoop_weak (S' := st90nL items id most d s (.node x y n a b c e) [encT a', encT b', encT c', encT e'] 4) (weak_inK [1, 2, 4, 5, 6, 9, 12, 13, 14] [0, 1, 2, 3, 4] 5 rfl rfl) ?_
  refine eLoop_step ?_
  repeat (refine And.intro (of_decide_eq_true rfl) ?_)
  refine ret_ownL [0] 6 (by first | exact .inr rfl | exact .inl rfl) rfl (by decide) rfl (Nat.le_refl 1) (vw_agg (vwL_cons rfl (vwL_cons rfl (vwL_cons rfl (vwL_cons (vw_rowE rfl rfl rfl rfl) (vwL_cons rfl vwL_nil)))))) ?_ rfl rfl
  exact .aggL (.cons (.refl _) (.cons (.refl _) (.cons (.refl _) (.cons (.ne _ _ _ _) (.refl _)))))
def ob90L (items : List Item) (x y n : Int) (s : Int × Int × Int × Int) (l : List Int) (kv : AV) (cl : Bool) : List (Nat × Blk) :=
  [(0, itB items), (1, ⟨true, cl, 5, [[i64 x, i64 y, i64 n, kv, encIds l]]⟩), (2, ⟨true, true, 4, [[i64 s.1, i64 s.2.1, i64 s.2.2.1, i64 s.2.2.2]]⟩), (3, ⟨true, true, 5, [[i64 0, i64 0, i64 0, .e true, .e true]]⟩)]
def sl90L (items : List Item) (id most d jv : Int) : List (Nat × AV) :=
  [(1, .loc 0 5 0 items.length), (2, i64 id), (4, i64 most), (5, i64 d), (6, .ptr 1 0 0), (9, .ptr 2 0 0), (12, .ptr 3 0 0), (15, i64 jv)]
def st90oL (items : List Item) (id most d x y n : Int) (s : Int × Int × Int × Int) (l : List Int) : Nat × Int × List (List AV) × Nat → St
  | (0, jv, _, _) => ⟨125, 1, sl90L items id most d jv, ob90L items x y n s l (.sl true 5 []) true, 4⟩
  | (_ + 1, jv, ks, kl) => ⟨125, 1, sl90L items id most d jv, ob90L items x y n s l (.loc 21 5 0 kl) false ++ [(21, ⟨true, true, 5, ks⟩)], 22⟩
def st90iL (items : List Item) (id most d x y n jv : Int) (s : Int × Int × Int × Int) (l : List Int) (kv : AV) (cl : Bool) (kb : List (Nat × Blk)) (b : Nat) : Nat × Int × Option (List (List AV) × Nat) → St
  | (_, i, none) => ⟨125, 1, sl90L items id most d jv ++ [(16, .ptr b 0 0), (17, i64 i)], ob90L items x y n s l kv cl ++ (kb ++ [(b, ⟨true, true, 5, [[i64 (kx jv x n), i64 (ky jv y n), i64 (half n), .e true, .e true]]⟩)]), b + 1⟩
  | (_, i, some (es, ln)) => ⟨125, 1, sl90L items id most d jv ++ [(16, .ptr b 0 0), (17, i64 i)], ob90L items x y n s l kv cl ++ (kb ++ [(b, ⟨true, false, 5, [[i64 (kx jv x n), i64 (ky jv y n), i64 (half n), .e true, .loc (b + 2) 1 0 ln]]⟩), (b + 2, ⟨true, true, 1, es⟩)]), b + 3⟩
theorem put_leafL (items : List Item) (id most d : Int) (s : Int × Int × Int × Int) (x y n : Int) (ids : List Int) (hI : items.length ≤ 1048576) (hl : ids.length ≤ 1048576) :
    Fun G0 90 [.agg (encT (.leaf x y n ids)), .loc 0 5 0 items.length, i64 id, encS s, i64 most, i64 d] [itB items] (.agg (encT (putT items id s most d (.leaf x y n ids)))) [itB items] := by
  refine spec_ewL (G := G0) (fid := 90) (fn := Try.f90) Try.func90 (by kernel_rfl) rfl (by kernel_rfl) ?_
  repeat (refine And.intro (of_decide_eq_true rfl) ?_)
  refine eCall_flat (spec_Meets (.leaf x y n ids) s) rfl rfl ?_
  refine bc_split (fun h => ?_) (fun h => ?_)
  · have h : meetsT (.leaf x y n ids) s = false := by have z : (!meetsT (.leaf x y n ids) s) = true := h; rw [Bool.not_eq_true'] at z; exact z
    repeat (refine And.intro (of_decide_eq_true rfl) ?_)
    exact ret_ownL [0] 6 (by first | exact .inr rfl | exact .inl rfl) rfl (by decide) rfl (Nat.le_refl 1) rfl (.of_eq (by simp only [putT, h, if_true]; rfl)) rfl rfl
  have h : meetsT (.leaf x y n ids) s = true := by have z : (!meetsT (.leaf x y n ids) s) = false := h; rw [Bool.not_eq_false'] at z; exact z
  repeat (refine And.intro (of_decide_eq_true rfl) ?_)
  refine eCall_pure (spec_With false ids id hl) rfl ?_
  repeat (refine And.intro (of_decide_eq_true rfl) ?_)
  have hun : putT items id s most d (.leaf x y n ids) = if (decide ((((withL ids id).map enc1).length : Int) ≤ most) || decide (d < 1)) = true then .leaf x y n (withL ids id) else
      .node x y n (kidT items x y n (withL ids id) 0) (kidT items x y n (withL ids id) 1) (kidT items x y n (withL ids id) 2) (kidT items x y n (withL ids id) 3) := by
    simp only [putT, h, Bool.true_eq_false, if_false]
  rw [hun]
  have hwl : (withL ids id).length ≤ 4194304 := by have := withGo_len id ids false; unfold withL; omega
  generalize withL ids id = l at hwl ⊢
  refine bc_split (fun h1 => ?_) (fun h1 => ?_)
  · have h1 : decide (((l.map enc1).length : Int) ≤ most) = true := h1
    repeat (refine And.intro (of_decide_eq_true rfl) ?_)
    exact ret_ownL [0] 6 (by first | exact .inr rfl | exact .inl rfl) rfl (by decide) rfl (Nat.le_refl 1) rfl (.of_eq (by simp only [h1, Bool.true_or, if_true]; rfl)) rfl rfl
  have h1 : decide (((l.map enc1).length : Int) ≤ most) = false := h1
  refine bc_split (fun h2 => ?_) (fun h2 => ?_)
  · have h2 : decide (d < 1) = true := h2
    repeat (refine And.intro (of_decide_eq_true rfl) ?_)
    exact ret_ownL [0] 6 (by first | exact .inr rfl | exact .inl rfl) rfl (by decide) rfl (Nat.le_refl 1) rfl (.of_eq (by simp only [h2, Bool.or_true, if_true]; rfl)) rfl rfl
  have h2 : decide (d < 1) = false := h2
  simp only [h1, h2, Bool.or_false, Bool.false_eq_true, if_false]
  repeat (refine And.intro (of_decide_eq_true rfl) ?_)
  refine eLoop_pre (st90oL items id most d x y n s l) (fun a => a.1 ≤ 4 ∧ a.2.1 = a.1 ∧ a.2.2.1 = (kidsTo items x y n l a.1).map encT ∧ a.2.2.2 = a.2.2.1.length) (fun a => 4 - a.1) (0, 0, [], 0) (weak_inK [1, 2, 4, 5, 6, 9, 12, 15] [0, 1, 2, 3] 4 rfl rfl) ⟨Nat.zero_le _, rfl, rfl, rfl⟩ ?_
  rintro ⟨j, jv, ks, kl⟩ ⟨hj, hjv, hks, hkl⟩
  simp only at hj hjv hks hkl
  rcases j with _ | j
  · refine bc_split (fun g0 => ?_) (fun g0 => ?_)
    · repeat (refine And.intro (of_decide_eq_true rfl) ?_)
      refine eLoop_pre (st90iL items id most d x y n jv s l (.sl true 5 []) true [] 4) (fun a => a.1 ≤ l.length ∧ a.2.1 = a.1 ∧ a.2.2 = opt (kidL items x y n (l.take a.1) jv)) (fun a => l.length - a.1) (0, 0, none) (weak_inK [1, 2, 4, 5, 6, 9, 12, 15, 16, 17] [0, 1, 2, 3, 4] 5 rfl rfl) ⟨Nat.zero_le _, rfl, rfl⟩ ?_
      rintro ⟨i, iv, o⟩ ⟨hi, hiv, ho⟩
      simp only at hi hiv ho
      subst hiv
      cases o with
      | none =>
        repeat (refine And.intro (of_decide_eq_true rfl) ?_)
        refine bc_split (fun g => ?_) (fun g => ?_)
        · have hlt : i < l.length := by have := of_decide_eq_true g; simp at this; omega
          repeat (refine And.intro (of_decide_eq_true rfl) ?_)
          refine eDraw_ok ?_
          repeat (refine And.intro (of_decide_eq_true rfl) ?_)
          refine And.intro (ix_ok hlt) ?_
          rw [ix_get hlt]
          repeat (refine And.intro (of_decide_eq_true rfl) ?_)
          refine dCall_gen [0] [0] 6 (spec_SegL items l[i] hI) rfl (by decide) rfl rfl rfl rfl ?_
          refine dCall_flat [] (meets_kid0 _ _ _ (segOfId items l[i])) rfl rfl rfl ?_
          repeat (refine And.intro (of_decide_eq_true rfl) ?_)
          refine bc_split (fun g2 => ?_) (fun g2 => ?_)
          · have g2 : meetsT (.leaf (kx jv x n) (ky jv y n) (half n) []) (segOfId items l[i]) = true := g2
            repeat (refine And.intro (of_decide_eq_true rfl) ?_)
            refine eDraw_pre 8 (st90iL items id most d x y n jv s l (.sl true 5 []) true [] 4 (0, ↑i, some ([enc1 l[i]], 1))) rfl (by kernel_rfl) ?_ ?_
            · repeat (refine And.intro (of_decide_eq_true rfl) ?_)
              refine And.intro (ix_ok hlt) ?_
              rw [ix_get hlt]
              repeat (refine And.intro (of_decide_eq_true rfl) ?_)
              refine eApp_new tiI [enc1 l[i]] true app29 rfl (List.cons_ne_nil _ _) (of_decide_eq_true rfl) ?_
              repeat (refine And.intro (of_decide_eq_true rfl) ?_)
              exact weak_inK [1, 2, 4, 5, 6, 9, 12, 15, 16, 17] [0, 1, 2, 3, 4, 6] 7 rfl rfl
            repeat (refine And.intro (of_decide_eq_true rfl) ?_)
            refine ⟨(i + 1, IntKind.i64.wrap (↑i + 1), some ([enc1 l[i]], 1)), weak_inK [1, 2, 4, 5, 6, 9, 12, 15, 16, 17] [0, 1, 2, 3, 4, 6] 7 rfl rfl, ⟨hlt, wrap_succ (by omega), ?_⟩, by simp only; omega⟩
            rw [kidL_succ _ _ _ _ _ _ hlt, if_pos g2]
            cases hq : kidL items x y n (l.take i) jv with
            | nil => rfl
            | cons a r => rw [hq] at ho; cases ho
          · have g2 : meetsT (.leaf (kx jv x n) (ky jv y n) (half n) []) (segOfId items l[i]) = false := g2
            repeat (refine And.intro (of_decide_eq_true rfl) ?_)
            refine ⟨(i + 1, IntKind.i64.wrap (↑i + 1), none), weak_inK [1, 2, 4, 5, 6, 9, 12, 15, 16, 17] [0, 1, 2, 3, 4] 5 rfl rfl, ⟨hlt, wrap_succ (by omega), ?_⟩, by simp only; omega⟩
            rw [kidL_succ _ _ _ _ _ _ hlt, if_neg (by rw [g2]; simp), List.append_nil]
            exact ho
        · have hge : i = l.length := by have := of_decide_eq_false g; simp at this; omega
          subst hge
          rw [List.take_length] at ho
          repeat (refine And.intro (of_decide_eq_true rfl) ?_)
          refine eApp_newz tiB [[i64 (kx jv x n), i64 (ky jv y n), i64 (half n), .e true, .e true]] true app95 rfl (List.cons_ne_nil _ _) (of_decide_eq_true rfl) ?_
          repeat (refine And.intro (of_decide_eq_true rfl) ?_)
          refine ⟨(1, IntKind.i64.wrap (jv + 1), [encT (.leaf (kx jv x n) (ky jv y n) (half n) [])], 1), Weak.trans (weak_inK (S' := ⟨125, 1, sl90L items id most d (IntKind.i64.wrap (jv + 1)), ob90L items x y n s l (.loc 6 5 0 1) false ++ [(6, ⟨true, true, 5, [[i64 (kx jv x n), i64 (ky jv y n), i64 (half n), .e true, .e true]]⟩)], 7⟩) [1, 2, 4, 5, 6, 9, 12, 15] [0, 1, 2, 3, 6] 7 rfl rfl) (Weak.trans (weak_seal (l := 6) rfl [encT (.leaf (kx jv x n) (ky jv y n) (half n) [])] (.cons (seal_kid0 _ _ _) .nil)) (Weak.trans (weak_mv 6 21 rfl rfl) (weak_inK [1, 2, 4, 5, 6, 9, 12, 15] [0, 1, 2, 3, 21] 22 rfl rfl))), ⟨by omega, by rw [hjv]; rfl, ?_, rfl⟩, by simp⟩
          have hk1 : kidsTo items x y n l 1 = [kidT items x y n l jv] := by rw [hjv]; rfl
          rw [hk1]; simp only [List.map_cons, List.map_nil, kidT]
          have : kidL items x y n l jv = [] := by
            cases hq : kidL items x y n l jv with
            | nil => rfl
            | cons a r => rw [hq] at ho; cases ho
          rw [this]
      | some p =>
        obtain ⟨es, ln⟩ := p
        have hq : (es = (kidL items x y n (l.take i) jv).map enc1 ∧ ln = es.length) ∧ kidL items x y n (l.take i) jv ≠ [] := by
          cases hq : kidL items x y n (l.take i) jv with
          | nil => rw [hq] at ho; cases ho
          | cons a r =>
            rw [hq] at ho
            have := Option.some.inj ho
            simp only [Prod.mk.injEq] at this
            exact ⟨⟨this.1, by rw [this.2, this.1]⟩, List.cons_ne_nil _ _⟩
        obtain ⟨⟨hes, hln⟩, hne⟩ := hq
        have hle : es.length ≤ i := by
          rw [hes, List.length_map]; unfold kidL
          refine Nat.le_trans (List.length_filter_le _ _) ?_
          rw [List.length_take]; omega
        repeat (refine And.intro (of_decide_eq_true rfl) ?_)
        refine bc_split (fun g => ?_) (fun g => ?_)
        · have hlt : i < l.length := by have := of_decide_eq_true g; simp at this; omega
          repeat (refine And.intro (of_decide_eq_true rfl) ?_)
          refine eDraw_ok ?_
          repeat (refine And.intro (of_decide_eq_true rfl) ?_)
          refine And.intro (ix_ok hlt) ?_
          rw [ix_get hlt]
          repeat (refine And.intro (of_decide_eq_true rfl) ?_)
          refine dCall_gen [0] [0] 6 (spec_SegL items l[i] hI) rfl (by decide) rfl rfl rfl rfl ?_
          refine dCall_flat [6] (meets_kid1 _ _ _ (segOfId items l[i]) (kidL items x y n (l.take i) jv) es hes) rfl (vwL_cons (vw_agg (vwL_cons rfl (vwL_cons rfl (vwL_cons rfl (vwL_cons rfl (vwL_cons (vw_rowE rfl rfl rfl hln) vwL_nil)))))) (vwL_cons rfl vwL_nil)) rfl ?_
          repeat (refine And.intro (of_decide_eq_true rfl) ?_)
          refine bc_split (fun g2 => ?_) (fun g2 => ?_)
          · have g2 : meetsT (.leaf (kx jv x n) (ky jv y n) (half n) []) (segOfId items l[i]) = true := g2
            repeat (refine And.intro (of_decide_eq_true rfl) ?_)
            refine eDraw_pre 8 (st90iL items id most d x y n jv s l (.sl true 5 []) true [] 4 (0, ↑i, some (es ++ [enc1 l[i]], ln + 1))) rfl (by kernel_rfl) ?_ ?_
            · repeat (refine And.intro (of_decide_eq_true rfl) ?_)
              refine And.intro (ix_ok hlt) ?_
              rw [ix_get hlt]
              repeat (refine And.intro (of_decide_eq_true rfl) ?_)
              refine eApp_grow tiI [enc1 l[i]] true ⟨true, true, 1, es⟩ app29 rfl rfl rfl rfl (Nat.le_of_ble_eq_true rfl) rfl ((Nat.zero_add ln).trans hln) (by simp [tiI]; omega) ?_
              repeat (refine And.intro (of_decide_eq_true rfl) ?_)
              exact weak_inK [1, 2, 4, 5, 6, 9, 12, 15, 16, 17] [0, 1, 2, 3, 4, 6] 7 rfl rfl
            repeat (refine And.intro (of_decide_eq_true rfl) ?_)
            refine ⟨(i + 1, IntKind.i64.wrap (↑i + 1), some (es ++ [enc1 l[i]], ln + 1)), weak_inK [1, 2, 4, 5, 6, 9, 12, 15, 16, 17] [0, 1, 2, 3, 4, 6] 7 rfl rfl, ⟨hlt, wrap_succ (by omega), ?_⟩, by simp only; omega⟩
            rw [kidL_succ _ _ _ _ _ _ hlt, if_pos g2]
            cases hq : kidL items x y n (l.take i) jv with
            | nil => exact absurd hq hne
            | cons a r => rw [hq] at hes; rw [hln, hes]; simp [opt]
          · have g2 : meetsT (.leaf (kx jv x n) (ky jv y n) (half n) []) (segOfId items l[i]) = false := g2
            repeat (refine And.intro (of_decide_eq_true rfl) ?_)
            refine ⟨(i + 1, IntKind.i64.wrap (↑i + 1), some (es, ln)), weak_inK [1, 2, 4, 5, 6, 9, 12, 15, 16, 17] [0, 1, 2, 3, 4, 6] 7 rfl rfl, ⟨hlt, wrap_succ (by omega), ?_⟩, by simp only; omega⟩
            rw [kidL_succ _ _ _ _ _ _ hlt, if_neg (by rw [g2]; simp), List.append_nil]
            exact ho
        · have hge : i = l.length := by have := of_decide_eq_false g; simp at this; omega
          subst hge
          rw [List.take_length] at ho
          rw [List.take_length] at hes hne
          repeat (refine And.intro (of_decide_eq_true rfl) ?_)
          refine eApp_newz tiB [[i64 (kx jv x n), i64 (ky jv y n), i64 (half n), .e true, .loc 6 1 0 ln]] false app95 rfl (List.cons_ne_nil _ _) (of_decide_eq_true rfl) ?_
          repeat (refine And.intro (of_decide_eq_true rfl) ?_)
          refine ⟨(1, IntKind.i64.wrap (jv + 1), [encT (.leaf (kx jv x n) (ky jv y n) (half n) (kidL items x y n l jv))], 1), Weak.trans (weak_inK (S' := ⟨125, 1, sl90L items id most d (IntKind.i64.wrap (jv + 1)), ob90L items x y n s l (.loc 8 5 0 1) false ++ [(6, ⟨true, true, 1, es⟩), (8, ⟨true, false, 5, [[i64 (kx jv x n), i64 (ky jv y n), i64 (half n), .e true, .loc 6 1 0 ln]]⟩)], 9⟩) [1, 2, 4, 5, 6, 9, 12, 15] [0, 1, 2, 3, 6, 8] 9 rfl rfl) (Weak.trans (weak_frz [6] rfl) (Weak.trans (weak_seal (l := 8) rfl [encT (.leaf (kx jv x n) (ky jv y n) (half n) (kidL items x y n l jv))] (.cons (seal_kid1 _ _ _ _ es hes rfl hln) .nil)) (Weak.trans (weak_mv 8 21 rfl rfl) (weak_inK [1, 2, 4, 5, 6, 9, 12, 15] [0, 1, 2, 3, 21] 22 rfl rfl)))), ⟨by omega, by rw [hjv]; rfl, ?_, rfl⟩, by simp⟩
          have hk1 : kidsTo items x y n l 1 = [kidT items x y n l jv] := by rw [hjv]; rfl
          rw [hk1]; simp only [List.map_cons, List.map_nil, kidT]
    · exact absurd (of_decide_eq_false g0) (by rw [hjv]; decide)
  · have hj4 : j = 0 ∨ j = 1 ∨ j = 2 ∨ j = 3 := by omega
    rcases hj4 with rfl | rfl | rfl | rfl
    · have hks' : ks = [encT (kidT items x y n l 0)] := hks
      subst hks'
      have hkl' : kl = 1 := hkl
      subst hkl'
      have hjv' : jv = 1 := hjv
      subst hjv'
      · repeat (refine And.intro (of_decide_eq_true rfl) ?_)
        refine eLoop_pre (st90iL items id most d x y n 1 s l (.loc 21 5 0 1) false [(21, ⟨true, true, 5, [encT (kidT items x y n l 0)]⟩)] 22) (fun a => a.1 ≤ l.length ∧ a.2.1 = a.1 ∧ a.2.2 = opt (kidL items x y n (l.take a.1) 1)) (fun a => l.length - a.1) (0, 0, none) (weak_inK [1, 2, 4, 5, 6, 9, 12, 15, 16, 17] [0, 1, 2, 3, 21, 22] 23 rfl rfl) ⟨Nat.zero_le _, rfl, rfl⟩ ?_
        rintro ⟨i, iv, o⟩ ⟨hi, hiv, ho⟩
        simp only at hi hiv ho
        subst hiv
        cases o with
        | none =>
          repeat (refine And.intro (of_decide_eq_true rfl) ?_)
          refine bc_split (fun g => ?_) (fun g => ?_)
          · have hlt : i < l.length := by have := of_decide_eq_true g; simp at this; omega
            repeat (refine And.intro (of_decide_eq_true rfl) ?_)
            refine eDraw_ok ?_
            repeat (refine And.intro (of_decide_eq_true rfl) ?_)
            refine And.intro (ix_ok hlt) ?_
            rw [ix_get hlt]
            repeat (refine And.intro (of_decide_eq_true rfl) ?_)
            refine dCall_gen [0] [0] 6 (spec_SegL items l[i] hI) rfl (by decide) rfl rfl rfl rfl ?_
            refine dCall_flat [] (meets_kid0 _ _ _ (segOfId items l[i])) rfl rfl rfl ?_
            repeat (refine And.intro (of_decide_eq_true rfl) ?_)
            refine bc_split (fun g2 => ?_) (fun g2 => ?_)
            · have g2 : meetsT (.leaf (kx 1 x n) (ky 1 y n) (half n) []) (segOfId items l[i]) = true := g2
              repeat (refine And.intro (of_decide_eq_true rfl) ?_)
              refine eDraw_pre 8 (st90iL items id most d x y n 1 s l (.loc 21 5 0 1) false [(21, ⟨true, true, 5, [encT (kidT items x y n l 0)]⟩)] 22 (0, ↑i, some ([enc1 l[i]], 1))) rfl (by kernel_rfl) ?_ ?_
              · repeat (refine And.intro (of_decide_eq_true rfl) ?_)
                refine And.intro (ix_ok hlt) ?_
                rw [ix_get hlt]
                repeat (refine And.intro (of_decide_eq_true rfl) ?_)
                refine eApp_new tiI [enc1 l[i]] true app29 rfl (List.cons_ne_nil _ _) (of_decide_eq_true rfl) ?_
                repeat (refine And.intro (of_decide_eq_true rfl) ?_)
                exact weak_inK [1, 2, 4, 5, 6, 9, 12, 15, 16, 17] [0, 1, 2, 3, 21, 22, 24] 25 rfl rfl
              repeat (refine And.intro (of_decide_eq_true rfl) ?_)
              refine ⟨(i + 1, IntKind.i64.wrap (↑i + 1), some ([enc1 l[i]], 1)), weak_inK [1, 2, 4, 5, 6, 9, 12, 15, 16, 17] [0, 1, 2, 3, 21, 22, 24] 25 rfl rfl, ⟨hlt, wrap_succ (by omega), ?_⟩, by simp only; omega⟩
              rw [kidL_succ _ _ _ _ _ _ hlt, if_pos g2]
              cases hq : kidL items x y n (l.take i) 1 with
              | nil => rfl
              | cons a r => rw [hq] at ho; cases ho
            · have g2 : meetsT (.leaf (kx 1 x n) (ky 1 y n) (half n) []) (segOfId items l[i]) = false := g2
              repeat (refine And.intro (of_decide_eq_true rfl) ?_)
              refine ⟨(i + 1, IntKind.i64.wrap (↑i + 1), none), weak_inK [1, 2, 4, 5, 6, 9, 12, 15, 16, 17] [0, 1, 2, 3, 21, 22] 23 rfl rfl, ⟨hlt, wrap_succ (by omega), ?_⟩, by simp only; omega⟩
              rw [kidL_succ _ _ _ _ _ _ hlt, if_neg (by rw [g2]; simp), List.append_nil]
              exact ho
          · have hge : i = l.length := by have := of_decide_eq_false g; simp at this; omega
            subst hge
            rw [List.take_length] at ho
            repeat (refine And.intro (of_decide_eq_true rfl) ?_)
            refine eApp_grow tiB [[i64 (kx 1 x n), i64 (ky 1 y n), i64 (half n), .e true, .e true]] true ⟨true, true, 5, [encT (kidT items x y n l 0)]⟩ app95 rfl rfl rfl rfl (Nat.le_of_ble_eq_true rfl) rfl rfl (of_decide_eq_true rfl) ?_
            repeat (refine And.intro (of_decide_eq_true rfl) ?_)
            refine ⟨(2, IntKind.i64.wrap (1 + 1), [encT (kidT items x y n l 0), encT (.leaf (kx 1 x n) (ky 1 y n) (half n) [])], 2), Weak.trans (weak_inK (S' := ⟨125, 1, sl90L items id most d (IntKind.i64.wrap (1 + 1)), ob90L items x y n s l (.loc 21 5 0 2) false ++ [(21, ⟨true, true, 5, [encT (kidT items x y n l 0), [i64 (kx 1 x n), i64 (ky 1 y n), i64 (half n), .e true, .e true]]⟩)], 22⟩) [1, 2, 4, 5, 6, 9, 12, 15] [0, 1, 2, 3, 21] 22 rfl rfl) (Weak.trans (weak_seal (l := 21) rfl ([encT (kidT items x y n l 0), encT (.leaf (kx 1 x n) (ky 1 y n) (half n) [])]) (.cons (.refl rfl) (.cons (seal_kid0 _ _ _) .nil))) (weak_inK [1, 2, 4, 5, 6, 9, 12, 15] [0, 1, 2, 3, 21] 22 rfl rfl)), ⟨by omega, rfl, ?_, rfl⟩, by simp⟩
            simp only [kidsTo, List.range_succ, List.range_zero, List.nil_append, List.cons_append, List.map_cons, List.map_nil]
            show _ = [encT (kidT items x y n l 0), encT (kidT items x y n l 1)]
            have : kidL items x y n l 1 = [] := by
              cases hq : kidL items x y n l 1 with
              | nil => rfl
              | cons a r => rw [hq] at ho; cases ho
            simp only [kidT, this]
        | some p =>
          obtain ⟨es, ln⟩ := p
          have hq : (es = (kidL items x y n (l.take i) 1).map enc1 ∧ ln = es.length) ∧ kidL items x y n (l.take i) 1 ≠ [] := by
            cases hq : kidL items x y n (l.take i) 1 with
            | nil => rw [hq] at ho; cases ho
            | cons a r =>
              rw [hq] at ho
              have := Option.some.inj ho
              simp only [Prod.mk.injEq] at this
              exact ⟨⟨this.1, by rw [this.2, this.1]⟩, List.cons_ne_nil _ _⟩
          obtain ⟨⟨hes, hln⟩, hne⟩ := hq
          have hle : es.length ≤ i := by
            rw [hes, List.length_map]; unfold kidL
            refine Nat.le_trans (List.length_filter_le _ _) ?_
            rw [List.length_take]; omega
          repeat (refine And.intro (of_decide_eq_true rfl) ?_)
          refine bc_split (fun g => ?_) (fun g => ?_)
          · have hlt : i < l.length := by have := of_decide_eq_true g; simp at this; omega
            repeat (refine And.intro (of_decide_eq_true rfl) ?_)
            refine eDraw_ok ?_
            repeat (refine And.intro (of_decide_eq_true rfl) ?_)
            refine And.intro (ix_ok hlt) ?_
            rw [ix_get hlt]
            repeat (refine And.intro (of_decide_eq_true rfl) ?_)
            refine dCall_gen [0] [0] 6 (spec_SegL items l[i] hI) rfl (by decide) rfl rfl rfl rfl ?_
            refine dCall_flat [24] (meets_kid1 _ _ _ (segOfId items l[i]) (kidL items x y n (l.take i) 1) es hes) rfl (vwL_cons (vw_agg (vwL_cons rfl (vwL_cons rfl (vwL_cons rfl (vwL_cons rfl (vwL_cons (vw_rowE rfl rfl rfl hln) vwL_nil)))))) (vwL_cons rfl vwL_nil)) rfl ?_
            repeat (refine And.intro (of_decide_eq_true rfl) ?_)
            refine bc_split (fun g2 => ?_) (fun g2 => ?_)
            · have g2 : meetsT (.leaf (kx 1 x n) (ky 1 y n) (half n) []) (segOfId items l[i]) = true := g2
              repeat (refine And.intro (of_decide_eq_true rfl) ?_)
              refine eDraw_pre 8 (st90iL items id most d x y n 1 s l (.loc 21 5 0 1) false [(21, ⟨true, true, 5, [encT (kidT items x y n l 0)]⟩)] 22 (0, ↑i, some (es ++ [enc1 l[i]], ln + 1))) rfl (by kernel_rfl) ?_ ?_
              · repeat (refine And.intro (of_decide_eq_true rfl) ?_)
                refine And.intro (ix_ok hlt) ?_
                rw [ix_get hlt]
                repeat (refine And.intro (of_decide_eq_true rfl) ?_)
                refine eApp_grow tiI [enc1 l[i]] true ⟨true, true, 1, es⟩ app29 rfl rfl rfl rfl (Nat.le_of_ble_eq_true rfl) rfl ((Nat.zero_add ln).trans hln) (by simp [tiI]; omega) ?_
                repeat (refine And.intro (of_decide_eq_true rfl) ?_)
                exact weak_inK [1, 2, 4, 5, 6, 9, 12, 15, 16, 17] [0, 1, 2, 3, 21, 22, 24] 25 rfl rfl
              repeat (refine And.intro (of_decide_eq_true rfl) ?_)
              refine ⟨(i + 1, IntKind.i64.wrap (↑i + 1), some (es ++ [enc1 l[i]], ln + 1)), weak_inK [1, 2, 4, 5, 6, 9, 12, 15, 16, 17] [0, 1, 2, 3, 21, 22, 24] 25 rfl rfl, ⟨hlt, wrap_succ (by omega), ?_⟩, by simp only; omega⟩
              rw [kidL_succ _ _ _ _ _ _ hlt, if_pos g2]
              cases hq : kidL items x y n (l.take i) 1 with
              | nil => exact absurd hq hne
              | cons a r => rw [hq] at hes; rw [hln, hes]; simp [opt]
            · have g2 : meetsT (.leaf (kx 1 x n) (ky 1 y n) (half n) []) (segOfId items l[i]) = false := g2
              repeat (refine And.intro (of_decide_eq_true rfl) ?_)
              refine ⟨(i + 1, IntKind.i64.wrap (↑i + 1), some (es, ln)), weak_inK [1, 2, 4, 5, 6, 9, 12, 15, 16, 17] [0, 1, 2, 3, 21, 22, 24] 25 rfl rfl, ⟨hlt, wrap_succ (by omega), ?_⟩, by simp only; omega⟩
              rw [kidL_succ _ _ _ _ _ _ hlt, if_neg (by rw [g2]; simp), List.append_nil]
              exact ho
          · have hge : i = l.length := by have := of_decide_eq_false g; simp at this; omega
            subst hge
            rw [List.take_length] at ho
            rw [List.take_length] at hes hne
            repeat (refine And.intro (of_decide_eq_true rfl) ?_)
            refine eApp_grow tiB [[i64 (kx 1 x n), i64 (ky 1 y n), i64 (half n), .e true, .loc 24 1 0 ln]] false ⟨true, true, 5, [encT (kidT items x y n l 0)]⟩ app95 rfl rfl rfl rfl (Nat.le_of_ble_eq_true rfl) rfl rfl (of_decide_eq_true rfl) ?_
            repeat (refine And.intro (of_decide_eq_true rfl) ?_)
            refine ⟨(2, IntKind.i64.wrap (1 + 1), [encT (kidT items x y n l 0), encT (.leaf (kx 1 x n) (ky 1 y n) (half n) (kidL items x y n l 1))], 2), Weak.trans (weak_inK (S' := ⟨125, 1, sl90L items id most d (IntKind.i64.wrap (1 + 1)), ob90L items x y n s l (.loc 21 5 0 2) false ++ [(21, ⟨true, false, 5, [encT (kidT items x y n l 0), [i64 (kx 1 x n), i64 (ky 1 y n), i64 (half n), .e true, .loc 24 1 0 ln]]⟩), (24, ⟨true, true, 1, es⟩)], 25⟩) [1, 2, 4, 5, 6, 9, 12, 15] [0, 1, 2, 3, 21, 24] 25 rfl rfl) (Weak.trans (weak_frz [24] rfl) (Weak.trans (weak_seal (l := 21) rfl ([encT (kidT items x y n l 0), encT (.leaf (kx 1 x n) (ky 1 y n) (half n) (kidL items x y n l 1))]) (.cons (.refl rfl) (.cons (seal_kid1 _ _ _ _ es hes rfl hln) .nil))) (weak_inK [1, 2, 4, 5, 6, 9, 12, 15] [0, 1, 2, 3, 21] 22 rfl rfl))), ⟨by omega, rfl, ?_, rfl⟩, by simp⟩
            rfl
    · have hks' : ks = [encT (kidT items x y n l 0), encT (kidT items x y n l 1)] := hks
      subst hks'
      have hkl' : kl = 2 := hkl
      subst hkl'
      have hjv' : jv = 2 := hjv
      subst hjv'
      · repeat (refine And.intro (of_decide_eq_true rfl) ?_)
        refine eLoop_pre (st90iL items id most d x y n 2 s l (.loc 21 5 0 2) false [(21, ⟨true, true, 5, [encT (kidT items x y n l 0), encT (kidT items x y n l 1)]⟩)] 22) (fun a => a.1 ≤ l.length ∧ a.2.1 = a.1 ∧ a.2.2 = opt (kidL items x y n (l.take a.1) 2)) (fun a => l.length - a.1) (0, 0, none) (weak_inK [1, 2, 4, 5, 6, 9, 12, 15, 16, 17] [0, 1, 2, 3, 21, 22] 23 rfl rfl) ⟨Nat.zero_le _, rfl, rfl⟩ ?_
        rintro ⟨i, iv, o⟩ ⟨hi, hiv, ho⟩
        simp only at hi hiv ho
        subst hiv
        cases o with
        | none =>
          repeat (refine And.intro (of_decide_eq_true rfl) ?_)
          refine bc_split (fun g => ?_) (fun g => ?_)
          · have hlt : i < l.length := by have := of_decide_eq_true g; simp at this; omega
            repeat (refine And.intro (of_decide_eq_true rfl) ?_)
            refine eDraw_ok ?_
            repeat (refine And.intro (of_decide_eq_true rfl) ?_)
            refine And.intro (ix_ok hlt) ?_
            rw [ix_get hlt]
            repeat (refine And.intro (of_decide_eq_true rfl) ?_)
            refine dCall_gen [0] [0] 6 (spec_SegL items l[i] hI) rfl (by decide) rfl rfl rfl rfl ?_
            refine dCall_flat [] (meets_kid0 _ _ _ (segOfId items l[i])) rfl rfl rfl ?_
            repeat (refine And.intro (of_decide_eq_true rfl) ?_)
            refine bc_split (fun g2 => ?_) (fun g2 => ?_)
            · have g2 : meetsT (.leaf (kx 2 x n) (ky 2 y n) (half n) []) (segOfId items l[i]) = true := g2
              repeat (refine And.intro (of_decide_eq_true rfl) ?_)
              refine eDraw_pre 8 (st90iL items id most d x y n 2 s l (.loc 21 5 0 2) false [(21, ⟨true, true, 5, [encT (kidT items x y n l 0), encT (kidT items x y n l 1)]⟩)] 22 (0, ↑i, some ([enc1 l[i]], 1))) rfl (by kernel_rfl) ?_ ?_
              · repeat (refine And.intro (of_decide_eq_true rfl) ?_)
                refine And.intro (ix_ok hlt) ?_
                rw [ix_get hlt]
                repeat (refine And.intro (of_decide_eq_true rfl) ?_)
                refine eApp_new tiI [enc1 l[i]] true app29 rfl (List.cons_ne_nil _ _) (of_decide_eq_true rfl) ?_
                repeat (refine And.intro (of_decide_eq_true rfl) ?_)
                exact weak_inK [1, 2, 4, 5, 6, 9, 12, 15, 16, 17] [0, 1, 2, 3, 21, 22, 24] 25 rfl rfl
              repeat (refine And.intro (of_decide_eq_true rfl) ?_)
              refine ⟨(i + 1, IntKind.i64.wrap (↑i + 1), some ([enc1 l[i]], 1)), weak_inK [1, 2, 4, 5, 6, 9, 12, 15, 16, 17] [0, 1, 2, 3, 21, 22, 24] 25 rfl rfl, ⟨hlt, wrap_succ (by omega), ?_⟩, by simp only; omega⟩
              rw [kidL_succ _ _ _ _ _ _ hlt, if_pos g2]
              cases hq : kidL items x y n (l.take i) 2 with
              | nil => rfl
              | cons a r => rw [hq] at ho; cases ho
            · have g2 : meetsT (.leaf (kx 2 x n) (ky 2 y n) (half n) []) (segOfId items l[i]) = false := g2
              repeat (refine And.intro (of_decide_eq_true rfl) ?_)
              refine ⟨(i + 1, IntKind.i64.wrap (↑i + 1), none), weak_inK [1, 2, 4, 5, 6, 9, 12, 15, 16, 17] [0, 1, 2, 3, 21, 22] 23 rfl rfl, ⟨hlt, wrap_succ (by omega), ?_⟩, by simp only; omega⟩
              rw [kidL_succ _ _ _ _ _ _ hlt, if_neg (by rw [g2]; simp), List.append_nil]
              exact ho
          · have hge : i = l.length := by have := of_decide_eq_false g; simp at this; omega
            subst hge
            rw [List.take_length] at ho
            repeat (refine And.intro (of_decide_eq_true rfl) ?_)
            refine eApp_grow tiB [[i64 (kx 2 x n), i64 (ky 2 y n), i64 (half n), .e true, .e true]] true ⟨true, true, 5, [encT (kidT items x y n l 0), encT (kidT items x y n l 1)]⟩ app95 rfl rfl rfl rfl (Nat.le_of_ble_eq_true rfl) rfl rfl (of_decide_eq_true rfl) ?_
            repeat (refine And.intro (of_decide_eq_true rfl) ?_)
            refine ⟨(3, IntKind.i64.wrap (2 + 1), [encT (kidT items x y n l 0), encT (kidT items x y n l 1), encT (.leaf (kx 2 x n) (ky 2 y n) (half n) [])], 3), Weak.trans (weak_inK (S' := ⟨125, 1, sl90L items id most d (IntKind.i64.wrap (2 + 1)), ob90L items x y n s l (.loc 21 5 0 3) false ++ [(21, ⟨true, true, 5, [encT (kidT items x y n l 0), encT (kidT items x y n l 1), [i64 (kx 2 x n), i64 (ky 2 y n), i64 (half n), .e true, .e true]]⟩)], 22⟩) [1, 2, 4, 5, 6, 9, 12, 15] [0, 1, 2, 3, 21] 22 rfl rfl) (Weak.trans (weak_seal (l := 21) rfl ([encT (kidT items x y n l 0), encT (kidT items x y n l 1), encT (.leaf (kx 2 x n) (ky 2 y n) (half n) [])]) (.cons (.refl rfl) (.cons (.refl rfl) (.cons (seal_kid0 _ _ _) .nil)))) (weak_inK [1, 2, 4, 5, 6, 9, 12, 15] [0, 1, 2, 3, 21] 22 rfl rfl)), ⟨by omega, rfl, ?_, rfl⟩, by simp⟩
            simp only [kidsTo, List.range_succ, List.range_zero, List.nil_append, List.cons_append, List.map_cons, List.map_nil]
            show _ = [encT (kidT items x y n l 0), encT (kidT items x y n l 1), encT (kidT items x y n l 2)]
            have : kidL items x y n l 2 = [] := by
              cases hq : kidL items x y n l 2 with
              | nil => rfl
              | cons a r => rw [hq] at ho; cases ho
            simp only [kidT, this]
        | some p =>
          obtain ⟨es, ln⟩ := p
          have hq : (es = (kidL items x y n (l.take i) 2).map enc1 ∧ ln = es.length) ∧ kidL items x y n (l.take i) 2 ≠ [] := by
            cases hq : kidL items x y n (l.take i) 2 with
            | nil => rw [hq] at ho; cases ho
            | cons a r =>
              rw [hq] at ho
              have := Option.some.inj ho
              simp only [Prod.mk.injEq] at this
              exact ⟨⟨this.1, by rw [this.2, this.1]⟩, List.cons_ne_nil _ _⟩
          obtain ⟨⟨hes, hln⟩, hne⟩ := hq
          have hle : es.length ≤ i := by
            rw [hes, List.length_map]; unfold kidL
            refine Nat.le_trans (List.length_filter_le _ _) ?_
            rw [List.length_take]; omega
          repeat (refine And.intro (of_decide_eq_true rfl) ?_)
          refine bc_split (fun g => ?_) (fun g => ?_)
          · have hlt : i < l.length := by have := of_decide_eq_true g; simp at this; omega
            repeat (refine And.intro (of_decide_eq_true rfl) ?_)
            refine eDraw_ok ?_
            repeat (refine And.intro (of_decide_eq_true rfl) ?_)
            refine And.intro (ix_ok hlt) ?_
            rw [ix_get hlt]
            repeat (refine And.intro (of_decide_eq_true rfl) ?_)
            refine dCall_gen [0] [0] 6 (spec_SegL items l[i] hI) rfl (by decide) rfl rfl rfl rfl ?_
            refine dCall_flat [24] (meets_kid1 _ _ _ (segOfId items l[i]) (kidL items x y n (l.take i) 2) es hes) rfl (vwL_cons (vw_agg (vwL_cons rfl (vwL_cons rfl (vwL_cons rfl (vwL_cons rfl (vwL_cons (vw_rowE rfl rfl rfl hln) vwL_nil)))))) (vwL_cons rfl vwL_nil)) rfl ?_
            repeat (refine And.intro (of_decide_eq_true rfl) ?_)
            refine bc_split (fun g2 => ?_) (fun g2 => ?_)
            · have g2 : meetsT (.leaf (kx 2 x n) (ky 2 y n) (half n) []) (segOfId items l[i]) = true := g2
              repeat (refine And.intro (of_decide_eq_true rfl) ?_)
              refine eDraw_pre 8 (st90iL items id most d x y n 2 s l (.loc 21 5 0 2) false [(21, ⟨true, true, 5, [encT (kidT items x y n l 0), encT (kidT items x y n l 1)]⟩)] 22 (0, ↑i, some (es ++ [enc1 l[i]], ln + 1))) rfl (by kernel_rfl) ?_ ?_
              · repeat (refine And.intro (of_decide_eq_true rfl) ?_)
                refine And.intro (ix_ok hlt) ?_
                rw [ix_get hlt]
                repeat (refine And.intro (of_decide_eq_true rfl) ?_)
                refine eApp_grow tiI [enc1 l[i]] true ⟨true, true, 1, es⟩ app29 rfl rfl rfl rfl (Nat.le_of_ble_eq_true rfl) rfl ((Nat.zero_add ln).trans hln) (by simp [tiI]; omega) ?_
                repeat (refine And.intro (of_decide_eq_true rfl) ?_)
                exact weak_inK [1, 2, 4, 5, 6, 9, 12, 15, 16, 17] [0, 1, 2, 3, 21, 22, 24] 25 rfl rfl
              repeat (refine And.intro (of_decide_eq_true rfl) ?_)
              refine ⟨(i + 1, IntKind.i64.wrap (↑i + 1), some (es ++ [enc1 l[i]], ln + 1)), weak_inK [1, 2, 4, 5, 6, 9, 12, 15, 16, 17] [0, 1, 2, 3, 21, 22, 24] 25 rfl rfl, ⟨hlt, wrap_succ (by omega), ?_⟩, by simp only; omega⟩
              rw [kidL_succ _ _ _ _ _ _ hlt, if_pos g2]
              cases hq : kidL items x y n (l.take i) 2 with
              | nil => exact absurd hq hne
              | cons a r => rw [hq] at hes; rw [hln, hes]; simp [opt]
            · have g2 : meetsT (.leaf (kx 2 x n) (ky 2 y n) (half n) []) (segOfId items l[i]) = false := g2
              repeat (refine And.intro (of_decide_eq_true rfl) ?_)
              refine ⟨(i + 1, IntKind.i64.wrap (↑i + 1), some (es, ln)), weak_inK [1, 2, 4, 5, 6, 9, 12, 15, 16, 17] [0, 1, 2, 3, 21, 22, 24] 25 rfl rfl, ⟨hlt, wrap_succ (by omega), ?_⟩, by simp only; omega⟩
              rw [kidL_succ _ _ _ _ _ _ hlt, if_neg (by rw [g2]; simp), List.append_nil]
              exact ho
          · have hge : i = l.length := by have := of_decide_eq_false g; simp at this; omega
            subst hge
            rw [List.take_length] at ho
            rw [List.take_length] at hes hne
            repeat (refine And.intro (of_decide_eq_true rfl) ?_)
            refine eApp_grow tiB [[i64 (kx 2 x n), i64 (ky 2 y n), i64 (half n), .e true, .loc 24 1 0 ln]] false ⟨true, true, 5, [encT (kidT items x y n l 0), encT (kidT items x y n l 1)]⟩ app95 rfl rfl rfl rfl (Nat.le_of_ble_eq_true rfl) rfl rfl (of_decide_eq_true rfl) ?_
            repeat (refine And.intro (of_decide_eq_true rfl) ?_)
            refine ⟨(3, IntKind.i64.wrap (2 + 1), [encT (kidT items x y n l 0), encT (kidT items x y n l 1), encT (.leaf (kx 2 x n) (ky 2 y n) (half n) (kidL items x y n l 2))], 3), Weak.trans (weak_inK (S' := ⟨125, 1, sl90L items id most d (IntKind.i64.wrap (2 + 1)), ob90L items x y n s l (.loc 21 5 0 3) false ++ [(21, ⟨true, false, 5, [encT (kidT items x y n l 0), encT (kidT items x y n l 1), [i64 (kx 2 x n), i64 (ky 2 y n), i64 (half n), .e true, .loc 24 1 0 ln]]⟩), (24, ⟨true, true, 1, es⟩)], 25⟩) [1, 2, 4, 5, 6, 9, 12, 15] [0, 1, 2, 3, 21, 24] 25 rfl rfl) (Weak.trans (weak_frz [24] rfl) (Weak.trans (weak_seal (l := 21) rfl ([encT (kidT items x y n l 0), encT (kidT items x y n l 1), encT (.leaf (kx 2 x n) (ky 2 y n) (half n) (kidL items x y n l 2))]) (.cons (.refl rfl) (.cons (.refl rfl) (.cons (seal_kid1 _ _ _ _ es hes rfl hln) .nil)))) (weak_inK [1, 2, 4, 5, 6, 9, 12, 15] [0, 1, 2, 3, 21] 22 rfl rfl))), ⟨by omega, rfl, ?_, rfl⟩, by simp⟩
            rfl
    · have hks' : ks = [encT (kidT items x y n l 0), encT (kidT items x y n l 1), encT (kidT items x y n l 2)] := hks
      subst hks'
      have hkl' : kl = 3 := hkl
      subst hkl'
      have hjv' : jv = 3 := hjv
      subst hjv'
      · repeat (refine And.intro (of_decide_eq_true rfl) ?_)
        refine eLoop_pre (st90iL items id most d x y n 3 s l (.loc 21 5 0 3) false [(21, ⟨true, true, 5, [encT (kidT items x y n l 0), encT (kidT items x y n l 1), encT (kidT items x y n l 2)]⟩)] 22) (fun a => a.1 ≤ l.length ∧ a.2.1 = a.1 ∧ a.2.2 = opt (kidL items x y n (l.take a.1) 3)) (fun a => l.length - a.1) (0, 0, none) (weak_inK [1, 2, 4, 5, 6, 9, 12, 15, 16, 17] [0, 1, 2, 3, 21, 22] 23 rfl rfl) ⟨Nat.zero_le _, rfl, rfl⟩ ?_
        rintro ⟨i, iv, o⟩ ⟨hi, hiv, ho⟩
        simp only at hi hiv ho
        subst hiv
        cases o with
        | none =>
          repeat (refine And.intro (of_decide_eq_true rfl) ?_)
          refine bc_split (fun g => ?_) (fun g => ?_)
          · have hlt : i < l.length := by have := of_decide_eq_true g; simp at this; omega
            repeat (refine And.intro (of_decide_eq_true rfl) ?_)
            refine eDraw_ok ?_
            repeat (refine And.intro (of_decide_eq_true rfl) ?_)
            refine And.intro (ix_ok hlt) ?_
            rw [ix_get hlt]
            repeat (refine And.intro (of_decide_eq_true rfl) ?_)
            refine dCall_gen [0] [0] 6 (spec_SegL items l[i] hI) rfl (by decide) rfl rfl rfl rfl ?_
            refine dCall_flat [] (meets_kid0 _ _ _ (segOfId items l[i])) rfl rfl rfl ?_
            repeat (refine And.intro (of_decide_eq_true rfl) ?_)
            refine bc_split (fun g2 => ?_) (fun g2 => ?_)
            · have g2 : meetsT (.leaf (kx 3 x n) (ky 3 y n) (half n) []) (segOfId items l[i]) = true := g2
              repeat (refine And.intro (of_decide_eq_true rfl) ?_)
              refine eDraw_pre 8 (st90iL items id most d x y n 3 s l (.loc 21 5 0 3) false [(21, ⟨true, true, 5, [encT (kidT items x y n l 0), encT (kidT items x y n l 1), encT (kidT items x y n l 2)]⟩)] 22 (0, ↑i, some ([enc1 l[i]], 1))) rfl (by kernel_rfl) ?_ ?_
              · repeat (refine And.intro (of_decide_eq_true rfl) ?_)
                refine And.intro (ix_ok hlt) ?_
                rw [ix_get hlt]
                repeat (refine And.intro (of_decide_eq_true rfl) ?_)
                refine eApp_new tiI [enc1 l[i]] true app29 rfl (List.cons_ne_nil _ _) (of_decide_eq_true rfl) ?_
                repeat (refine And.intro (of_decide_eq_true rfl) ?_)
                exact weak_inK [1, 2, 4, 5, 6, 9, 12, 15, 16, 17] [0, 1, 2, 3, 21, 22, 24] 25 rfl rfl
              repeat (refine And.intro (of_decide_eq_true rfl) ?_)
              refine ⟨(i + 1, IntKind.i64.wrap (↑i + 1), some ([enc1 l[i]], 1)), weak_inK [1, 2, 4, 5, 6, 9, 12, 15, 16, 17] [0, 1, 2, 3, 21, 22, 24] 25 rfl rfl, ⟨hlt, wrap_succ (by omega), ?_⟩, by simp only; omega⟩
              rw [kidL_succ _ _ _ _ _ _ hlt, if_pos g2]
              cases hq : kidL items x y n (l.take i) 3 with
              | nil => rfl
              | cons a r => rw [hq] at ho; cases ho
            · have g2 : meetsT (.leaf (kx 3 x n) (ky 3 y n) (half n) []) (segOfId items l[i]) = false := g2
              repeat (refine And.intro (of_decide_eq_true rfl) ?_)
              refine ⟨(i + 1, IntKind.i64.wrap (↑i + 1), none), weak_inK [1, 2, 4, 5, 6, 9, 12, 15, 16, 17] [0, 1, 2, 3, 21, 22] 23 rfl rfl, ⟨hlt, wrap_succ (by omega), ?_⟩, by simp only; omega⟩
              rw [kidL_succ _ _ _ _ _ _ hlt, if_neg (by rw [g2]; simp), List.append_nil]
              exact ho
          · have hge : i = l.length := by have := of_decide_eq_false g; simp at this; omega
            subst hge
            rw [List.take_length] at ho
            repeat (refine And.intro (of_decide_eq_true rfl) ?_)
            refine eApp_grow tiB [[i64 (kx 3 x n), i64 (ky 3 y n), i64 (half n), .e true, .e true]] true ⟨true, true, 5, [encT (kidT items x y n l 0), encT (kidT items x y n l 1), encT (kidT items x y n l 2)]⟩ app95 rfl rfl rfl rfl (Nat.le_of_ble_eq_true rfl) rfl rfl (of_decide_eq_true rfl) ?_
            repeat (refine And.intro (of_decide_eq_true rfl) ?_)
            refine ⟨(4, IntKind.i64.wrap (3 + 1), [encT (kidT items x y n l 0), encT (kidT items x y n l 1), encT (kidT items x y n l 2), encT (.leaf (kx 3 x n) (ky 3 y n) (half n) [])], 4), Weak.trans (weak_inK (S' := ⟨125, 1, sl90L items id most d (IntKind.i64.wrap (3 + 1)), ob90L items x y n s l (.loc 21 5 0 4) false ++ [(21, ⟨true, true, 5, [encT (kidT items x y n l 0), encT (kidT items x y n l 1), encT (kidT items x y n l 2), [i64 (kx 3 x n), i64 (ky 3 y n), i64 (half n), .e true, .e true]]⟩)], 22⟩) [1, 2, 4, 5, 6, 9, 12, 15] [0, 1, 2, 3, 21] 22 rfl rfl) (Weak.trans (weak_seal (l := 21) rfl ([encT (kidT items x y n l 0), encT (kidT items x y n l 1), encT (kidT items x y n l 2), encT (.leaf (kx 3 x n) (ky 3 y n) (half n) [])]) (.cons (.refl rfl) (.cons (.refl rfl) (.cons (.refl rfl) (.cons (seal_kid0 _ _ _) .nil))))) (weak_inK [1, 2, 4, 5, 6, 9, 12, 15] [0, 1, 2, 3, 21] 22 rfl rfl)), ⟨by omega, rfl, ?_, rfl⟩, by simp⟩
            simp only [kidsTo, List.range_succ, List.range_zero, List.nil_append, List.cons_append, List.map_cons, List.map_nil]
            show _ = [encT (kidT items x y n l 0), encT (kidT items x y n l 1), encT (kidT items x y n l 2), encT (kidT items x y n l 3)]
            have : kidL items x y n l 3 = [] := by
              cases hq : kidL items x y n l 3 with
              | nil => rfl
              | cons a r => rw [hq] at ho; cases ho
            simp only [kidT, this]
        | some p =>
          obtain ⟨es, ln⟩ := p
          have hq : (es = (kidL items x y n (l.take i) 3).map enc1 ∧ ln = es.length) ∧ kidL items x y n (l.take i) 3 ≠ [] := by
            cases hq : kidL items x y n (l.take i) 3 with
            | nil => rw [hq] at ho; cases ho
            | cons a r =>
              rw [hq] at ho
              have := Option.some.inj ho
              simp only [Prod.mk.injEq] at this
              exact ⟨⟨this.1, by rw [this.2, this.1]⟩, List.cons_ne_nil _ _⟩
          obtain ⟨⟨hes, hln⟩, hne⟩ := hq
          have hle : es.length ≤ i := by
            rw [hes, List.length_map]; unfold kidL
            refine Nat.le_trans (List.length_filter_le _ _) ?_
            rw [List.length_take]; omega
          repeat (refine And.intro (of_decide_eq_true rfl) ?_)
          refine bc_split (fun g => ?_) (fun g => ?_)
          · have hlt : i < l.length := by have := of_decide_eq_true g; simp at this; omega
            repeat (refine And.intro (of_decide_eq_true rfl) ?_)
            refine eDraw_ok ?_
            repeat (refine And.intro (of_decide_eq_true rfl) ?_)
            refine And.intro (ix_ok hlt) ?_
            rw [ix_get hlt]
            repeat (refine And.intro (of_decide_eq_true rfl) ?_)
            refine dCall_gen [0] [0] 6 (spec_SegL items l[i] hI) rfl (by decide) rfl rfl rfl rfl ?_
            refine dCall_flat [24] (meets_kid1 _ _ _ (segOfId items l[i]) (kidL items x y n (l.take i) 3) es hes) rfl (vwL_cons (vw_agg (vwL_cons rfl (vwL_cons rfl (vwL_cons rfl (vwL_cons rfl (vwL_cons (vw_rowE rfl rfl rfl hln) vwL_nil)))))) (vwL_cons rfl vwL_nil)) rfl ?_
            repeat (refine And.intro (of_decide_eq_true rfl) ?_)
            refine bc_split (fun g2 => ?_) (fun g2 => ?_)
            · have g2 : meetsT (.leaf (kx 3 x n) (ky 3 y n) (half n) []) (segOfId items l[i]) = true := g2
              repeat (refine And.intro (of_decide_eq_true rfl) ?_)
              refine eDraw_pre 8 (st90iL items id most d x y n 3 s l (.loc 21 5 0 3) false [(21, ⟨true, true, 5, [encT (kidT items x y n l 0), encT (kidT items x y n l 1), encT (kidT items x y n l 2)]⟩)] 22 (0, ↑i, some (es ++ [enc1 l[i]], ln + 1))) rfl (by kernel_rfl) ?_ ?_
              · repeat (refine And.intro (of_decide_eq_true rfl) ?_)
                refine And.intro (ix_ok hlt) ?_
                rw [ix_get hlt]
                repeat (refine And.intro (of_decide_eq_true rfl) ?_)
                refine eApp_grow tiI [enc1 l[i]] true ⟨true, true, 1, es⟩ app29 rfl rfl rfl rfl (Nat.le_of_ble_eq_true rfl) rfl ((Nat.zero_add ln).trans hln) (by simp [tiI]; omega) ?_
                repeat (refine And.intro (of_decide_eq_true rfl) ?_)
                exact weak_inK [1, 2, 4, 5, 6, 9, 12, 15, 16, 17] [0, 1, 2, 3, 21, 22, 24] 25 rfl rfl
              repeat (refine And.intro (of_decide_eq_true rfl) ?_)
              refine ⟨(i + 1, IntKind.i64.wrap (↑i + 1), some (es ++ [enc1 l[i]], ln + 1)), weak_inK [1, 2, 4, 5, 6, 9, 12, 15, 16, 17] [0, 1, 2, 3, 21, 22, 24] 25 rfl rfl, ⟨hlt, wrap_succ (by omega), ?_⟩, by simp only; omega⟩
              rw [kidL_succ _ _ _ _ _ _ hlt, if_pos g2]
              cases hq : kidL items x y n (l.take i) 3 with
              | nil => exact absurd hq hne
              | cons a r => rw [hq] at hes; rw [hln, hes]; simp [opt]
            · have g2 : meetsT (.leaf (kx 3 x n) (ky 3 y n) (half n) []) (segOfId items l[i]) = false := g2
              repeat (refine And.intro (of_decide_eq_true rfl) ?_)
              refine ⟨(i + 1, IntKind.i64.wrap (↑i + 1), some (es, ln)), weak_inK [1, 2, 4, 5, 6, 9, 12, 15, 16, 17] [0, 1, 2, 3, 21, 22, 24] 25 rfl rfl, ⟨hlt, wrap_succ (by omega), ?_⟩, by simp only; omega⟩
              rw [kidL_succ _ _ _ _ _ _ hlt, if_neg (by rw [g2]; simp), List.append_nil]
              exact ho
          · have hge : i = l.length := by have := of_decide_eq_false g; simp at this; omega
            subst hge
            rw [List.take_length] at ho
            rw [List.take_length] at hes hne
            repeat (refine And.intro (of_decide_eq_true rfl) ?_)
            refine eApp_grow tiB [[i64 (kx 3 x n), i64 (ky 3 y n), i64 (half n), .e true, .loc 24 1 0 ln]] false ⟨true, true, 5, [encT (kidT items x y n l 0), encT (kidT items x y n l 1), encT (kidT items x y n l 2)]⟩ app95 rfl rfl rfl rfl (Nat.le_of_ble_eq_true rfl) rfl rfl (of_decide_eq_true rfl) ?_
            repeat (refine And.intro (of_decide_eq_true rfl) ?_)
            refine ⟨(4, IntKind.i64.wrap (3 + 1), [encT (kidT items x y n l 0), encT (kidT items x y n l 1), encT (kidT items x y n l 2), encT (.leaf (kx 3 x n) (ky 3 y n) (half n) (kidL items x y n l 3))], 4), Weak.trans (weak_inK (S' := ⟨125, 1, sl90L items id most d (IntKind.i64.wrap (3 + 1)), ob90L items x y n s l (.loc 21 5 0 4) false ++ [(21, ⟨true, false, 5, [encT (kidT items x y n l 0), encT (kidT items x y n l 1), encT (kidT items x y n l 2), [i64 (kx 3 x n), i64 (ky 3 y n), i64 (half n), .e true, .loc 24 1 0 ln]]⟩), (24, ⟨true, true, 1, es⟩)], 25⟩) [1, 2, 4, 5, 6, 9, 12, 15] [0, 1, 2, 3, 21, 24] 25 rfl rfl) (Weak.trans (weak_frz [24] rfl) (Weak.trans (weak_seal (l := 21) rfl ([encT (kidT items x y n l 0), encT (kidT items x y n l 1), encT (kidT items x y n l 2), encT (.leaf (kx 3 x n) (ky 3 y n) (half n) (kidL items x y n l 3))]) (.cons (.refl rfl) (.cons (.refl rfl) (.cons (.refl rfl) (.cons (seal_kid1 _ _ _ _ es hes rfl hln) .nil))))) (weak_inK [1, 2, 4, 5, 6, 9, 12, 15] [0, 1, 2, 3, 21] 22 rfl rfl))), ⟨by omega, rfl, ?_, rfl⟩, by simp⟩
            rfl
    · have hks' : ks = [encT (kidT items x y n l 0), encT (kidT items x y n l 1), encT (kidT items x y n l 2), encT (kidT items x y n l 3)] := hks
      have hkl' : kl = 4 := by rw [hkl, hks]; rfl
      subst hks' hkl'
      refine bc_split (fun g0 => ?_) (fun g0 => ?_)
      · exact absurd (of_decide_eq_true g0) (by rw [hjv]; decide)
      repeat (refine And.intro (of_decide_eq_true rfl) ?_)
      refine ret_ownL [0] 6 (by first | exact .inr rfl | exact .inl rfl) rfl (by decide) rfl (Nat.le_refl 1) (vw_agg (vwL_cons rfl (vwL_cons rfl (vwL_cons rfl (vwL_cons (vw_rowE rfl rfl rfl rfl) (vwL_cons rfl vwL_nil)))))) ?_ rfl rfl
      exact .aggL (.cons (.refl _) (.cons (.refl _) (.cons (.refl _) (.cons (.ne _ _ _ _) (.cons lax_nilS .nil)))))
theorem put_noL (items : List Item) (id most d : Int) (s : Int × Int × Int × Int) (t : Tr) (h : meetsT t s = false) :
    Fun G0 90 [.agg (encT t), .loc 0 5 0 items.length, i64 id, encS s, i64 most, i64 d] [itB items] (.agg (encT t)) [itB items] := by
  refine spec_ewL (G := G0) (fid := 90) (fn := Try.f90) Try.func90 (by kernel_rfl) rfl (by kernel_rfl) ?_
  repeat (refine And.intro (of_decide_eq_true rfl) ?_)
  refine eCall_flat (spec_Meets t s) rfl rfl ?_
  refine bc_split (fun g => ?_) (fun g => ?_)
  · repeat (refine And.intro (of_decide_eq_true rfl) ?_)
    exact ret_ownL [0] 6 (by first | exact .inr rfl | exact .inl rfl) rfl (by decide) rfl (Nat.le_refl 1) rfl (.of_eq (rfl)) rfl rfl
  · exact absurd (show (!meetsT t s) = false from g) (by rw [h]; simp)
theorem spec_PutL (items : List Item) (id most : Int) (s : Int × Int × Int × Int) (hI : items.length ≤ 1048576) : ∀ (t : Tr) (d : Int), (∀ l ∈ t.leaves, l.length ≤ 1048576) →
    Fun G0 90 [.agg (encT t), .loc 0 5 0 items.length, i64 id, encS s, i64 most, i64 d] [itB items] (.agg (encT (putT items id s most d t))) [itB items] := by
  intro t
  induction t with
  | leaf x y n ids => intro d hl; exact put_leafL items id most d s x y n ids hI (hl ids (by simp [Tr.leaves]))
  | node x y n a b c e iha ihb ihc ihe =>
    intro d hl
    simp only [Tr.leaves, List.mem_append] at hl
    cases hm : meetsT (.node x y n a b c e) s with
    | false =>
      have := put_noL items id most d s _ hm
      simp only [putT, hm, if_true]
      exact this
    | true =>
      simp only [putT, hm, Bool.true_eq_false, if_false]
      exact put_nodeL items id most d s x y n a b c e _ _ _ _ hm (iha _ fun l q => hl l (by simp [q])) (ihb _ fun l q => hl l (by simp [q])) (ihc _ fun l q => hl l (by simp [q])) (ihe _ fun l q => hl l (by simp [q]))
end Go.Proofs.Ytendgiieolkleaa

/- The reference's QuadPut: the new items are the caller's own. -/
namespace Go.Proofs.Ytendgiieolkleaa
open Go.Aw
set_option maxHeartbeats 1000000
set_option maxRecDepth 100000
set_option linter.unusedSimpArgs false
set_option linter.unusedVariables false
theorem rootM_some {m d : Int} {items : List Item} {bl : List Blok} {t : Tr} (h : rootM m d items bl = some t) : preOk m d items bl = true ∧ itemsOk items = true ∧ ∃ q, rd bl d.toNat 0 (-1048576) (-1048576) 2097152 = some (t, q) ∧ q = bl.length ∧ t.right items = true := by
  unfold rootM at h
  split at h
  · cases h
  rename_i h1
  split at h
  · cases h
  rename_i h2
  refine ⟨by simpa using h1, by simpa using h2, ?_⟩
  split at h
  · cases h
  rename_i r hr
  obtain ⟨t', q⟩ := r
  split at h
  · cases h
  rename_i h3
  split at h
  · cases h
  rename_i h4
  cases h
  refine ⟨q, hr, ?_, by simpa using h4⟩
  simp at h3; omega
theorem rd_size (bl : List Blok) : ∀ k p x y n r, rd bl k p x y n = some r → (writeT r.1).length + p = r.2 := by
  intro k
  induction k with
  | zero =>
    intro p x y n r h
    unfold rd at h
    split at h
    · cases h
    · split at h
      · cases h
      · split at h
        · cases h; simp [writeT]; omega
        · cases h
  | succ k ih =>
    intro p x y n r h
    unfold rd at h
    split at h
    · cases h
    · split at h
      · cases h
      · split at h
        · cases h; simp [writeT]; omega
        · simp only [Option.bind_eq_some_iff] at h
          obtain ⟨p1, h1, p2, h2, p3, h3, p4, h4, h5⟩ := h
          have := ih _ _ _ _ _ h1
          have := ih _ _ _ _ _ h2
          have := ih _ _ _ _ _ h3
          have := ih _ _ _ _ _ h4
          cases h5; simp only [writeT, List.length_cons, List.length_append]; omega
theorem put_len (items : List Item) (id most : Int) (s : Int × Int × Int × Int) : ∀ (t : Tr) (d : Int), (writeT (putT items id s most d t)).length ≤ 5 * (writeT t).length := by
  intro t
  induction t with
  | leaf x y n ids =>
    intro d
    simp only [putT]
    split
    · simp [writeT]
    · split
      · simp [writeT]
      · simp [writeT, kidT]
  | node x y n a b c e iha ihb ihc ihe =>
    intro d
    simp only [putT]
    split
    · simp [writeT]; omega
    · have := iha (W64 (d - 1))
      have := ihb (W64 (d - 1))
      have := ihc (W64 (d - 1))
      have := ihe (W64 (d - 1))
      simp only [writeT, List.length_cons, List.length_append]; omega
def insGo (id : Int) (s : Int × Int × Int × Int) : Bool → List Item → List Item
  | done, [] => if done = true then [] else [(id, s)]
  | done, i :: r => (if (!done && decide (i.1 > id)) = true then [(id, s)] else []) ++ (i :: insGo id s (done || decide (i.1 > id)) r)
def putItems (items : List Item) (id : Int) (s : Int × Int × Int × Int) : List Item := insGo id s false items
theorem insGo_len (id : Int) (s : Int × Int × Int × Int) : ∀ (l : List Item) (d : Bool), (insGo id s d l).length ≤ 2 * l.length + 1 := by
  intro l
  induction l with
  | nil => intro d; unfold insGo; split <;> simp
  | cons a r ih =>
    intro d
    have := ih (d || decide (a.1 > id))
    unfold insGo
    simp only [List.length_append, List.length_cons]
    split <;> simp only [List.length_cons, List.length_nil] <;> omega
def hasId (items : List Item) (id : Int) : Bool := items.any fun i => i.1 == id
def putBad (items : List Item) (id : Int) (s : Int × Int × Int × Int) : Bool := ((!inB id 1 1000) || !sgOk s) || decide ((40 : Int) ≤ ((items.map encI).length : Int))
def putM (m d : Int) (items : List Item) (bl : List Blok) (id : Int) (s : Int × Int × Int × Int) : Option (List Item × List Blok) :=
  match rootM m d items bl with
  | none => none
  | some t => if putBad items id s = true then none else if hasId items id = true then none else
    if decide (((((writeT (putT (putItems items id s) id s m d t)).map encB).length : Nat) : Int) > 2000) = true then none else
    some (putItems items id s, writeT (putT (putItems items id s) id s m d t))
def encPO : Option (List Item × List Blok) → Int → Int → AV
  | none, _, _ => .tup [.agg [i64 0, i64 0, .e true, .e true], bo false]
  | some r, m, d => .tup [.agg [i64 m, i64 d, .loc 0 5 0 r.1.length, .sl false 5 (r.2.map encB)], bo true]
def hpPO : Option (List Item × List Blok) → List Blk
  | none => []
  | some r => [itB r.1]
def tiT : TI := ⟨.struct, 5, 40, [.int .i64 0, .int .i64 0, .int .i64 0, .int .i64 0, .int .i64 0], [(0, 1), (1, 4)]⟩
theorem app32 : appTy G0 #[32, 32] = some tiT := by kernel_rfl
def st32 (m d : Int) (items : List Item) (bl : List Blok) (nn nb : Bool) (id : Int) (s : Int × Int × Int × Int) (t : Tr) : Nat × Int × Bool × Nat × List (List AV) → St
  | (_, i, dn, ln, es) => ⟨110, 0, [(1, i64 id), (3, .ptr 0 0 0), (5, .ptr 1 0 0), (6, .ptr 2 0 0), (7, bo false), (8, .ptr 3 0 0), (10, .loc 4 5 0 ln), (11, bo dn), (12, i64 i)],
      [(0, ⟨true, true, 4, [[i64 m, i64 d, .sl nn 5 (items.map encI), .sl nb 5 (bl.map encB)]]⟩), (1, ⟨true, true, 4, [[i64 s.1, i64 s.2.1, i64 s.2.2.1, i64 s.2.2.2]]⟩), (2, ⟨true, true, 4, [[i64 0, i64 0, .e true, .e true]]⟩), (3, ⟨true, true, 5, [encT t]⟩), (4, ⟨true, true, 5, es⟩)], 5⟩
theorem ret_PO0 {m d : Int} {items : List Item} {bl : List Blok} {id : Int} {s : Int × Int × Int × Int} (h : putM m d items bl id s = none) {fn : Func} {e : Exit} {S : St}
    (k : RetL G0 fn 0 (.tup [.agg [i64 0, i64 0, .e true, .e true], bo false]) [] e S) : RetL G0 fn 0 (encPO (putM m d items bl id s) m d) (hpPO (putM m d items bl id s)) e S := by
  rw [h]; exact k
theorem spec_QuadPut (m d : Int) (items : List Item) (bl : List Blok) (nn nb : Bool) (id : Int) (s : Int × Int × Int × Int) (hI : items.length ≤ 262144) (hB : bl.length ≤ 1048576) (hids : ∀ b ∈ bl, b.2.2.2.2.length ≤ 1048576) :
    Fun G0 32 [.agg [i64 m, i64 d, .sl nn 5 (items.map encI), .sl nb 5 (bl.map encB)], i64 id, encS s] [] (encPO (putM m d items bl id s) m d) (hpPO (putM m d items bl id s)) := by
  have hs := spec_Root m d items bl nn nb (by omega) hB hids
  refine spec_ewL (G := G0) (fid := 32) (fn := Try.f32) Try.func32 (by kernel_rfl) rfl (by kernel_rfl) ?_
  repeat (refine And.intro (of_decide_eq_true rfl) ?_)
  cases hq : rootM m d items bl with
  | none =>
    rw [hq] at hs
    have hp : putM m d items bl id s = none := by unfold putM; rw [hq]
    refine eCall_pure (hs) rfl ?_
    repeat (refine And.intro (of_decide_eq_true rfl) ?_)
    refine ret_PO0 hp (ret_eq (.inr rfl) rfl rfl rfl)
  | some t =>
    rw [hq] at hs
    obtain ⟨hpre, hio, q, hrd, hql, hrt⟩ := rootM_some hq
    have hlv := rd_leaves bl 1048576 hids _ _ _ _ _ _ hrd
    have hsz := rd_size bl _ _ _ _ _ _ hrd
    have hun : putM m d items bl id s = if putBad items id s = true then none else if hasId items id = true then none else
      if decide (((((writeT (putT (putItems items id s) id s m d t)).map encB).length : Nat) : Int) > 2000) = true then none else
      some (putItems items id s, writeT (putT (putItems items id s) id s m d t)) := by unfold putM; rw [hq]
    have hbad : putBad items id s = true → putM m d items bl id s = none := fun z => by rw [hun, if_pos z]
    refine eCall_pure (hs) rfl ?_
    repeat (refine And.intro (of_decide_eq_true rfl) ?_)
    refine eCall_flat (spec_in _ _ _) rfl rfl ?_
    refine bc_split (fun h1 => ?_) (fun h1 => ?_)
    · have h1 : (!inB id 1 1000) = true := h1
      repeat (refine And.intro (of_decide_eq_true rfl) ?_)
      refine ret_PO0 (hbad (by simp only [putBad, h1, Bool.true_or])) (ret_eq (.inr rfl) rfl rfl rfl)
    have h1 : (!inB id 1 1000) = false := h1
    repeat (refine And.intro (of_decide_eq_true rfl) ?_)
    refine eCall_flat (spec_SegOk _ _ _ _) rfl rfl ?_
    refine bc_split (fun h2 => ?_) (fun h2 => ?_)
    · have h2 : (!sgOk s) = true := h2
      repeat (refine And.intro (of_decide_eq_true rfl) ?_)
      refine ret_PO0 (hbad (by simp only [putBad, h2, Bool.true_or, Bool.or_true])) (ret_eq (.inr rfl) rfl rfl rfl)
    have h2 : (!sgOk s) = false := h2
    repeat (refine And.intro (of_decide_eq_true rfl) ?_)
    refine bc_split (fun h3 => ?_) (fun h3 => ?_)
    · have h3 : decide ((40 : Int) ≤ ((items.map encI).length : Int)) = true := h3
      repeat (refine And.intro (of_decide_eq_true rfl) ?_)
      refine ret_PO0 (hbad (by simp only [putBad, h3, Bool.or_true])) (ret_eq (.inr rfl) rfl rfl rfl)
    have h3 : decide ((40 : Int) ≤ ((items.map encI).length : Int)) = false := h3
    have hnb : putBad items id s = false := by simp only [putBad, h1, h2, h3]; rfl
    repeat (refine And.intro (of_decide_eq_true rfl) ?_)
    refine eLoop_pre (st32 m d items bl nn nb id s t) (fun a => a.1 ≤ items.length ∧ a.2.1 = a.1 ∧ a.2.2.2.1 = a.2.2.2.2.length ∧ a.2.2.2.1 ≤ 2 * a.1 ∧ hasId (items.take a.1) id = false ∧ ∃ acc : List Item, a.2.2.2.2 = acc.map encI ∧ acc ++ insGo id s a.2.2.1 (items.drop a.1) = putItems items id s) (fun a => items.length - a.1) (0, 0, false, 0, []) (weak_in0 [1, 3, 5, 6, 7, 8, 10, 11, 12] [0, 1, 2, 3, 4] 5 rfl rfl) ⟨Nat.zero_le _, rfl, rfl, Nat.zero_le _, rfl, [], rfl, rfl⟩ ?_
    rintro ⟨i, iv, dn, ln, es⟩ ⟨hi, hiv, hln, hle, hno, acc, he, hacc⟩
    simp only at hi hiv hln hle hno he hacc
    subst hiv he
    repeat (refine And.intro (of_decide_eq_true rfl) ?_)
    refine bc_split (fun h => ?_) (fun h => ?_)
    · have hlt : i < items.length := by have := of_decide_eq_true h; simp at this; omega
      rw [List.drop_eq_getElem_cons hlt] at hacc
      simp only [insGo] at hacc
      repeat (refine And.intro (of_decide_eq_true rfl) ?_)
      refine And.intro (ix_ok hlt) ?_
      rw [ix_get hlt]
      repeat (refine And.intro (of_decide_eq_true rfl) ?_)
      refine bc_split (fun g => ?_) (fun g => ?_)
      · have g : (items[i].1 == id) = true := g
        repeat (refine And.intro (of_decide_eq_true rfl) ?_)
        refine ret_PO0 ?_ (ret_eq (.inr rfl) rfl rfl rfl)
        rw [hun, if_neg (by rw [hnb]; simp), if_pos]
        unfold hasId
        rw [List.any_eq_true]
        exact ⟨items[i], List.getElem_mem _, g⟩
      have g : (items[i].1 == id) = false := g
      have hno' : hasId (items.take (i + 1)) id = false := by
        unfold hasId at hno ⊢
        rw [List.take_succ_eq_append_getElem hlt, List.any_append, hno]; simp [g]
      repeat (refine And.intro (of_decide_eq_true rfl) ?_)
      cases dn with
      | true =>
        repeat (refine And.intro (of_decide_eq_true rfl) ?_)
        refine And.intro (ix_ok hlt) ?_
        rw [ix_get hlt]
        repeat (refine And.intro (of_decide_eq_true rfl) ?_)
        refine eApp_grow tiT [encI items[i]] true ⟨true, true, 5, acc.map encI⟩ app32 rfl rfl rfl rfl (Nat.zero_le _) rfl ((Nat.zero_add ln).trans hln) (by simp [tiT]; omega) ?_
        repeat (refine And.intro (of_decide_eq_true rfl) ?_)
        refine ⟨(i + 1, IntKind.i64.wrap (↑i + 1), true, ln + 1, acc.map encI ++ [encI items[i]]), weak_in0 [1, 3, 5, 6, 7, 8, 10, 11, 12] [0, 1, 2, 3, 4] 5 rfl rfl, ⟨hlt, wrap_succ (by omega), by simp [hln], by simp only; omega, hno', acc ++ [items[i]], by simp, by rw [← hacc]; simp⟩, by simp only; omega⟩
      | false =>
        repeat (refine And.intro (of_decide_eq_true rfl) ?_)
        refine And.intro (ix_ok hlt) ?_
        rw [ix_get hlt]
        repeat (refine And.intro (of_decide_eq_true rfl) ?_)
        refine bc_split (fun g2 => ?_) (fun g2 => ?_)
        · have g2 : decide (items[i].1 > id) = true := g2
          repeat (refine And.intro (of_decide_eq_true rfl) ?_)
          refine eApp_grow tiT [encI (id, s)] true ⟨true, true, 5, acc.map encI⟩ app32 rfl rfl rfl rfl (Nat.zero_le _) rfl ((Nat.zero_add ln).trans hln) (by simp [tiT]; omega) ?_
          repeat (refine And.intro (of_decide_eq_true rfl) ?_)
          refine And.intro (ix_ok hlt) ?_
          rw [ix_get hlt]
          repeat (refine And.intro (of_decide_eq_true rfl) ?_)
          refine eApp_grow tiT [encI items[i]] true ⟨true, true, 5, acc.map encI ++ [encI (id, s)]⟩ app32 rfl rfl rfl rfl (Nat.zero_le _) rfl (by simp [hln]) (by simp [tiT]; omega) ?_
          repeat (refine And.intro (of_decide_eq_true rfl) ?_)
          refine ⟨(i + 1, IntKind.i64.wrap (↑i + 1), true, ln + 1 + 1, acc.map encI ++ [encI (id, s)] ++ [encI items[i]]), weak_in0 [1, 3, 5, 6, 7, 8, 10, 11, 12] [0, 1, 2, 3, 4] 5 rfl rfl, ⟨hlt, wrap_succ (by omega), by simp [hln], by simp only; omega, hno', acc ++ [(id, s)] ++ [items[i]], by simp, by rw [← hacc]; simp [g2]⟩, by simp only; omega⟩
        · have g2 : decide (items[i].1 > id) = false := g2
          repeat (refine And.intro (of_decide_eq_true rfl) ?_)
          refine And.intro (ix_ok hlt) ?_
          rw [ix_get hlt]
          repeat (refine And.intro (of_decide_eq_true rfl) ?_)
          refine eApp_grow tiT [encI items[i]] true ⟨true, true, 5, acc.map encI⟩ app32 rfl rfl rfl rfl (Nat.zero_le _) rfl ((Nat.zero_add ln).trans hln) (by simp [tiT]; omega) ?_
          repeat (refine And.intro (of_decide_eq_true rfl) ?_)
          refine ⟨(i + 1, IntKind.i64.wrap (↑i + 1), false, ln + 1, acc.map encI ++ [encI items[i]]), weak_in0 [1, 3, 5, 6, 7, 8, 10, 11, 12] [0, 1, 2, 3, 4] 5 rfl rfl, ⟨hlt, wrap_succ (by omega), by simp [hln], by simp only; omega, hno', acc ++ [items[i]], by simp, by rw [← hacc]; simp [g2]⟩, by simp only; omega⟩
    · have hge : i = items.length := by have := of_decide_eq_false h; simp at this; omega
      subst hge
      rw [List.drop_length] at hacc
      rw [List.take_length] at hno
      have hun2 : putM m d items bl id s = if decide (((((writeT (putT (putItems items id s) id s m d t)).map encB).length : Nat) : Int) > 2000) = true then none else
        some (putItems items id s, writeT (putT (putItems items id s) id s m d t)) := by rw [hun, if_neg (by rw [hnb]; simp), if_neg (by rw [hno]; simp)]
      have hwl : (writeT (putT (putItems items id s) id s m d t)).length ≤ 268435456 := by
        have := put_len (putItems items id s) id m s t d
        simp only at hsz; omega
      cases dn with
      | true =>
        have hit : acc = putItems items id s := by rw [← hacc]; simp [insGo]
        subst hit
        repeat (refine And.intro (of_decide_eq_true rfl) ?_)
        have hln2 : ln = (putItems items id s).length := by rw [hln, List.length_map]
        subst hln2
        refine eCall_gen [] [4] 6 (spec_PutL (putItems items id s) id m s (by have := insGo_len id s items false; unfold putItems; omega) t d hlv) (fun _ h => nomatch h) (by decide) rfl rfl ?_
        repeat (refine And.intro (of_decide_eq_true rfl) ?_)
        refine eCall_pure (spec_Write _ hwl) rfl ?_
        repeat (refine And.intro (of_decide_eq_true rfl) ?_)
        refine bc_split (fun h5 => ?_) (fun h5 => ?_)
        · have h5 : decide (((((writeT (putT (putItems items id s) id s m d t)).map encB).length : Nat) : Int) > 2000) = true := h5
          repeat (refine And.intro (of_decide_eq_true rfl) ?_)
          exact ret_PO0 (by rw [hun2, if_pos h5]) (ret_eq (.inr rfl) rfl rfl rfl)
        · have h5 : decide (((((writeT (putT (putItems items id s) id s m d t)).map encB).length : Nat) : Int) > 2000) = false := h5
          repeat (refine And.intro (of_decide_eq_true rfl) ?_)
          have hfin : putM m d items bl id s = some (putItems items id s, writeT (putT (putItems items id s) id s m d t)) := by rw [hun2, if_neg (by rw [h5]; simp)]
          rw [hfin]
          exact ret_ownL [4] 6 (.inr rfl) rfl (by decide) rfl (Nat.zero_le 1) rfl (.refl _) rfl rfl
      | false =>
        have hit : acc ++ [(id, s)] = putItems items id s := by rw [← hacc]; simp [insGo]
        repeat (refine And.intro (of_decide_eq_true rfl) ?_)
        refine eApp_grow tiT [encI (id, s)] true ⟨true, true, 5, acc.map encI⟩ app32 rfl rfl rfl rfl (Nat.zero_le _) rfl ((Nat.zero_add ln).trans hln) (by simp [tiT]; omega) ?_
        have hes : acc.map encI ++ [encI (id, s)] = (putItems items id s).map encI := by rw [← hit]; simp
        have hln : ln + 1 = ((putItems items id s).map encI).length := by rw [← hes]; simp [hln]
        rw [show ((if 0 = 0 then (⟨true, true, 5, acc.map encI⟩ : Blk).es else (⟨true, true, 5, acc.map encI⟩ : Blk).es.drop 0) ++ [encI (id, s)]) = (putItems items id s).map encI from hes]
        rw [show ln + [encI (id, s)].length = (putItems items id s).length by rw [← hit]; simp at hln ⊢; rw [← hit] at hln; simpa using hln]
        repeat (refine And.intro (of_decide_eq_true rfl) ?_)
        refine eCall_gen [] [4] 6 (spec_PutL (putItems items id s) id m s (by have := insGo_len id s items false; unfold putItems; omega) t d hlv) (fun _ h => nomatch h) (by decide) rfl rfl ?_
        repeat (refine And.intro (of_decide_eq_true rfl) ?_)
        refine eCall_pure (spec_Write _ hwl) rfl ?_
        repeat (refine And.intro (of_decide_eq_true rfl) ?_)
        refine bc_split (fun h5 => ?_) (fun h5 => ?_)
        · have h5 : decide (((((writeT (putT (putItems items id s) id s m d t)).map encB).length : Nat) : Int) > 2000) = true := h5
          repeat (refine And.intro (of_decide_eq_true rfl) ?_)
          exact ret_PO0 (by rw [hun2, if_pos h5]) (ret_eq (.inr rfl) rfl rfl rfl)
        · have h5 : decide (((((writeT (putT (putItems items id s) id s m d t)).map encB).length : Nat) : Int) > 2000) = false := h5
          repeat (refine And.intro (of_decide_eq_true rfl) ?_)
          have hfin : putM m d items bl id s = some (putItems items id s, writeT (putT (putItems items id s) id s m d t)) := by rw [hun2, if_neg (by rw [h5]; simp)]
          rw [hfin]
          exact ret_ownL [4] 6 (.inr rfl) rfl (by decide) rfl (Nat.zero_le 1) rfl (.refl _) rfl rfl
end Go.Proofs.Ytendgiieolkleaa

/- The reference's QuadCut and QuadNew. -/
namespace Go.Proofs.Ytendgiieolkleaa
open Go.Aw
set_option maxHeartbeats 1000000
set_option maxRecDepth 100000
set_option linter.unusedSimpArgs false
set_option linter.unusedVariables false
theorem sq_len (x y n : Int) (items : List Item) : (sq x y n items).length ≤ items.length := by
  unfold sq; rw [List.length_map]; exact List.length_filter_le _ _
theorem tot_right (items : List Item) : ∀ t : Tr, t.right items = true → t.tot ≤ items.length * (writeT t).length := by
  intro t
  induction t with
  | leaf x y n ids =>
    intro h
    simp only [Tr.right, beq_iff_eq] at h
    subst h
    simpa [Tr.tot, writeT] using sq_len x y n items
  | node x y n a b c d iha ihb ihc ihd =>
    intro h
    simp only [Tr.right, Bool.and_eq_true] at h
    have := iha h.1
    have := ihb h.2.1
    have := ihc h.2.2.1
    have := ihd h.2.2.2
    simp only [Tr.tot, writeT, List.length_cons, List.length_append, Nat.mul_add]
    omega
theorem cut_len (id most : Int) : ∀ t : Tr, (writeT (cutT id most t)).length ≤ (writeT t).length := by
  intro t
  induction t with
  | leaf x y n ids => simp [cutT, writeT]
  | node x y n a b c d iha ihb ihc ihd =>
    simp only [cutT, joinT]
    split
    · simp [writeT]
    · simp only [writeT, List.length_cons, List.length_append]; omega
def cutItems (items : List Item) (id : Int) : List Item := items.filter fun i => i.1 != id
theorem cutItems_succ {items : List Item} {id : Int} {i : Nat} (h : i < items.length) : cutItems (items.take (i + 1)) id = cutItems (items.take i) id ++ (if (items[i].1 != id) = true then [items[i]] else []) := by
  unfold cutItems
  rw [List.take_succ_eq_append_getElem h, List.filter_append]
  congr 1
  simp only [List.filter_cons, List.filter_nil]
def cutM (m d : Int) (items : List Item) (bl : List Blok) (id : Int) : Option (List Item × List Blok) :=
  match rootM m d items bl with
  | none => none
  | some t => if ((((cutItems items id).length : Nat) : Int) == ((items.map encI).length : Int)) = true then none else some (cutItems items id, writeT (cutT id m t))
theorem rootM_len {m d : Int} {items : List Item} {bl : List Blok} {t : Tr} (h : rootM m d items bl = some t) : items.length ≤ 40 ∧ bl.length ≤ 2000 ∧ (writeT t).length = bl.length ∧ t.tot ≤ 80000 := by
  obtain ⟨hpre, hio, q, hrd, hql, hrt⟩ := rootM_some h
  have hsz := rd_size bl _ _ _ _ _ _ hrd
  have htot := tot_right items t hrt
  simp only [preOk, Bool.not_eq_true', Bool.or_eq_false_iff, decide_eq_false_iff_not, List.length_map] at hpre
  simp only at hsz
  have h1 : items.length ≤ 40 := by omega
  have h2 : bl.length ≤ 2000 := by omega
  refine ⟨h1, h2, by omega, ?_⟩
  have : items.length * (writeT t).length ≤ 40 * 2000 := Nat.mul_le_mul h1 (by omega)
  omega
def st27 (m d : Int) (items : List Item) (bl : List Blok) (nn nb : Bool) (id : Int) (t : Tr) : Nat × Int × Nat × List (List AV) → St
  | (_, i, ln, es) => ⟨61, 0, [(1, i64 id), (2, .ptr 0 0 0), (4, .ptr 1 0 0), (5, bo false), (6, .ptr 2 0 0), (8, .loc 3 5 0 ln), (9, i64 i)],
      [(0, ⟨true, true, 4, [[i64 m, i64 d, .sl nn 5 (items.map encI), .sl nb 5 (bl.map encB)]]⟩), (1, ⟨true, true, 4, [[i64 0, i64 0, .e true, .e true]]⟩), (2, ⟨true, true, 5, [encT t]⟩), (3, ⟨true, true, 5, es⟩)], 4⟩
theorem spec_QuadCut (m d : Int) (items : List Item) (bl : List Blok) (nn nb : Bool) (id : Int) (hI : items.length ≤ 1048576) (hB : bl.length ≤ 1048576) (hids : ∀ b ∈ bl, b.2.2.2.2.length ≤ 1048576) :
    Fun G0 27 [.agg [i64 m, i64 d, .sl nn 5 (items.map encI), .sl nb 5 (bl.map encB)], i64 id] [] (encPO (cutM m d items bl id) m d) (hpPO (cutM m d items bl id)) := by
  have hs := spec_Root m d items bl nn nb hI hB hids
  refine spec_ewL (G := G0) (fid := 27) (fn := Try.f27) Try.func27 (by kernel_rfl) rfl (by kernel_rfl) ?_
  repeat (refine And.intro (of_decide_eq_true rfl) ?_)
  cases hq : rootM m d items bl with
  | none =>
    rw [hq] at hs
    have hp : cutM m d items bl id = none := by unfold cutM; rw [hq]
    refine eCall_pure (hs) rfl ?_
    repeat (refine And.intro (of_decide_eq_true rfl) ?_)
    rw [hp]
    exact ret_eq (.inr rfl) rfl rfl rfl
  | some t =>
    rw [hq] at hs
    obtain ⟨hl1, hl2, hl3, hl4⟩ := rootM_len hq
    have hun : cutM m d items bl id = if ((((cutItems items id).length : Nat) : Int) == ((items.map encI).length : Int)) = true then none else some (cutItems items id, writeT (cutT id m t)) := by unfold cutM; rw [hq]
    refine eCall_pure (hs) rfl ?_
    repeat (refine And.intro (of_decide_eq_true rfl) ?_)
    refine eLoop_pre (st27 m d items bl nn nb id t) (fun a => a.1 ≤ items.length ∧ a.2.1 = a.1 ∧ a.2.2.2 = (cutItems (items.take a.1) id).map encI ∧ a.2.2.1 = a.2.2.2.length) (fun a => items.length - a.1) (0, 0, 0, []) (weak_in0 [1, 2, 4, 5, 6, 8, 9] [0, 1, 2, 3] 4 rfl rfl) ⟨Nat.zero_le _, rfl, rfl, rfl⟩ ?_
    rintro ⟨i, iv, ln, es⟩ ⟨hi, hiv, hes, hln⟩
    simp only at hi hiv hes hln
    subst hiv
    have hle : es.length ≤ i := by
      rw [hes, List.length_map]; unfold cutItems
      refine Nat.le_trans (List.length_filter_le _ _) ?_
      rw [List.length_take]; omega
    repeat (refine And.intro (of_decide_eq_true rfl) ?_)
    refine bc_split (fun h => ?_) (fun h => ?_)
    · have hlt : i < items.length := by have := of_decide_eq_true h; simp at this; omega
      repeat (refine And.intro (of_decide_eq_true rfl) ?_)
      refine And.intro (ix_ok hlt) ?_
      rw [ix_get hlt]
      repeat (refine And.intro (of_decide_eq_true rfl) ?_)
      refine bc_split (fun g => ?_) (fun g => ?_)
      · have g : (items[i].1 != id) = true := g
        repeat (refine And.intro (of_decide_eq_true rfl) ?_)
        refine And.intro (ix_ok hlt) ?_
        rw [ix_get hlt]
        repeat (refine And.intro (of_decide_eq_true rfl) ?_)
        refine eApp_grow tiT [encI items[i]] true ⟨true, true, 5, es⟩ app32 rfl rfl rfl rfl (Nat.zero_le _) rfl ((Nat.zero_add ln).trans hln) (by simp [tiT]; omega) ?_
        repeat (refine And.intro (of_decide_eq_true rfl) ?_)
        refine ⟨(i + 1, IntKind.i64.wrap (↑i + 1), ln + 1, es ++ [encI items[i]]), weak_in0 [1, 2, 4, 5, 6, 8, 9] [0, 1, 2, 3] 4 rfl rfl, ⟨hlt, wrap_succ (by omega), ?_, by simp [hln]⟩, by simp only; omega⟩
        simp only [cutItems_succ hlt, g, if_true, List.map_append, hes]; rfl
      · have g : (items[i].1 != id) = false := g
        repeat (refine And.intro (of_decide_eq_true rfl) ?_)
        refine ⟨(i + 1, IntKind.i64.wrap (↑i + 1), ln, es), weak_in0 [1, 2, 4, 5, 6, 8, 9] [0, 1, 2, 3] 4 rfl rfl, ⟨hlt, wrap_succ (by omega), ?_, hln⟩, by simp only; omega⟩
        simp only [cutItems_succ hlt, g, Bool.false_eq_true, if_false, List.append_nil, hes]
    · have hge : i = items.length := by have := of_decide_eq_false h; simp at this; omega
      subst hge
      rw [List.take_length] at hes
      have hln2 : ln = (cutItems items id).length := by rw [hln, hes, List.length_map]
      subst hln2
      subst hes
      have hwl : (writeT (cutT id m t)).length ≤ 268435456 := by have := cut_len id m t; omega
      repeat (refine And.intro (of_decide_eq_true rfl) ?_)
      refine bc_split (fun h5 => ?_) (fun h5 => ?_)
      · have h5 : ((((cutItems items id).length : Nat) : Int) == ((items.map encI).length : Int)) = true := h5
        repeat (refine And.intro (of_decide_eq_true rfl) ?_)
        rw [hun, if_pos h5]
        exact ret_eq (.inr rfl) rfl rfl rfl
      · have h5 : ((((cutItems items id).length : Nat) : Int) == ((items.map encI).length : Int)) = false := h5
        have hfin : cutM m d items bl id = some (cutItems items id, writeT (cutT id m t)) := by rw [hun, if_neg (by rw [h5]; simp)]
        repeat (refine And.intro (of_decide_eq_true rfl) ?_)
        refine eDraw_ok ?_
        repeat (refine And.intro (of_decide_eq_true rfl) ?_)
        refine dCall_pure [] (spec_Cut id m t (by omega)) rfl rfl ?_
        repeat (refine And.intro (of_decide_eq_true rfl) ?_)
        refine dCall_pure [] (spec_Write _ hwl) rfl rfl ?_
        repeat (refine And.intro (of_decide_eq_true rfl) ?_)
        rw [hfin]
        exact ret_ownL [3] 6 (by first | exact .inr rfl | exact .inl rfl) rfl (by decide) rfl (Nat.zero_le 1) rfl (.refl _) rfl rfl
def newM (m d : Int) : List AV := if limB m d = true then [.agg [i64 m, i64 d, .e true, .sl false 5 (([(-1048576, -1048576, 2097152, false, [])] : List Blok).map encB)], bo true] else [.agg [i64 0, i64 0, .e true, .e true], bo false]
theorem spec_QuadNew (m d : Int) : Fun G0 126 [i64 m, i64 d] [] (.tup (newM m d)) [] := by
  refine spec_ewL (G := G0) (fid := 126) (fn := Try.f126) Try.func126 (by kernel_rfl) rfl (by kernel_rfl) ?_
  repeat (refine And.intro (of_decide_eq_true rfl) ?_)
  refine eCall_flat (spec_Limits _ _) rfl rfl ?_
  refine bc_split (fun h => ?_) (fun h => ?_)
  · have h : limB m d = false := by have z : (!limB m d) = true := h; simpa using z
    repeat (refine And.intro (of_decide_eq_true rfl) ?_)
    exact ret_eq (by first | exact .inr rfl | exact .inl rfl) rfl rfl (by simp only [newM, h, Bool.false_eq_true, if_false])
  · have h : limB m d = true := by have z : (!limB m d) = false := h; simpa using z
    repeat (refine And.intro (of_decide_eq_true rfl) ?_)
    refine ret_lax (by first | exact .inr rfl | exact .inl rfl) rfl rfl ?_
    simp only [newM, h, if_true]
    exact .tupL (.cons (.aggL (.cons (.refl _) (.cons (.refl _) (.cons (.refl _) (.cons (lax_rows_cons (.cons (.refl _) (.cons (.refl _) (.cons (.refl _) (.cons (.refl _) (.cons (.e _ _) .nil))))) rfl (by simp)) .nil))))) (.refl _))
end Go.Proofs.Ytendgiieolkleaa

/- Drawn segments. -/
namespace Go.Proofs.Ytendgiieolkleaa
open Go.Aw
set_option maxHeartbeats 1000000
set_option maxRecDepth 100000
set_option linter.unusedSimpArgs false
set_option linter.unusedVariables false
variable {nn : Bool} {code : List Int}
def segOfM (ax ay bx b_y : Int) : (Int × Int × Int × Int) × Bool :=
  if lessB bx b_y ax ay = true then (if segOk bx b_y ax ay = true then ((bx, b_y, ax, ay), true) else ((0, 0, 0, 0), false)) else
  if segOk ax ay bx b_y = true then ((ax, ay, bx, b_y), true) else ((0, 0, 0, 0), false)
theorem spec_SegOf (ax ay bx b_y : Int) : Fun G0 99 [.agg [i64 ax, i64 ay], .agg [i64 bx, i64 b_y]] [] (.tup [encS (segOfM ax ay bx b_y).1, bo (segOfM ax ay bx b_y).2]) [] := by
  refine spec_ewL (G := G0) (fid := 99) (fn := Try.f99) Try.func99 (by kernel_rfl) rfl (by kernel_rfl) ?_
  repeat (refine And.intro (of_decide_eq_true rfl) ?_)
  refine eCall_flat (spec_less _ _ _ _) rfl rfl ?_
  refine bc_split (fun h => ?_) (fun h => ?_)
  · repeat (refine And.intro (of_decide_eq_true rfl) ?_)
    refine eCall_flat (spec_SegOk _ _ _ _) rfl rfl ?_
    refine bc_split (fun h2 => ?_) (fun h2 => ?_)
    · have h2 : segOk bx b_y ax ay = false := by have z : (!segOk bx b_y ax ay) = true := h2; simpa using z
      repeat (refine And.intro (of_decide_eq_true rfl) ?_)
      exact ret_eq (by first | exact .inr rfl | exact .inl rfl) rfl rfl (by simp only [segOfM, h, h2, if_true, Bool.false_eq_true, if_false]; rfl)
    · have h2 : segOk bx b_y ax ay = true := by have z : (!segOk bx b_y ax ay) = false := h2; simpa using z
      repeat (refine And.intro (of_decide_eq_true rfl) ?_)
      exact ret_eq (by first | exact .inr rfl | exact .inl rfl) rfl rfl (by simp only [segOfM, h, h2, if_true]; rfl)
  · repeat (refine And.intro (of_decide_eq_true rfl) ?_)
    refine eCall_flat (spec_SegOk _ _ _ _) rfl rfl ?_
    refine bc_split (fun h2 => ?_) (fun h2 => ?_)
    · have h2 : segOk ax ay bx b_y = false := by have z : (!segOk ax ay bx b_y) = true := h2; simpa using z
      repeat (refine And.intro (of_decide_eq_true rfl) ?_)
      exact ret_eq (by first | exact .inr rfl | exact .inl rfl) rfl rfl (by simp only [segOfM, h, h2, Bool.false_eq_true, if_false]; rfl)
    · have h2 : segOk ax ay bx b_y = true := by have z : (!segOk ax ay bx b_y) = false := h2; simpa using z
      repeat (refine And.intro (of_decide_eq_true rfl) ?_)
      exact ret_eq (by first | exact .inr rfl | exact .inl rfl) rfl rfl (by simp only [segOfM, h, h2, if_true, Bool.false_eq_true, if_false]; rfl)
theorem Sm_of {n : Int} (h : -1000000000 ≤ n ∧ n ≤ 1000000000) : Sm n := by unfold Sm; omega
theorem rd_seg (hc : Code code) : RdF nn code 127 [] fun r => ∃ s, r = encS s := by
  intro p hp
  have hM : Sm (-1000000) := Sm_of (by omega)
  have hN : Sm 1000000 := Sm_of (by omega)
  obtain ⟨p1, h1, _, ⟨v, v0, v1, rfl⟩, s1⟩ := rd_below (nn := nn) hc 20 (by omega) (by omega) p hp
  by_cases e0 : (v == 0) = true
  · obtain ⟨p2, h2, _, ⟨a, rfl⟩, s2⟩ := rd_off (nn := nn) hc (-1000000) 1000000 hM hN p1 h1
    obtain ⟨p3, h3, _, ⟨b, rfl⟩, s3⟩ := rd_off (nn := nn) hc (-1000000) 1000000 hM hN p2 h2
    obtain ⟨p4, h4, _, ⟨c, rfl⟩, s4⟩ := rd_off (nn := nn) hc (-1000000) 1000000 hM hN p3 h3
    obtain ⟨p5, h5, _, ⟨d, rfl⟩, s5⟩ := rd_off (nn := nn) hc (-1000000) 1000000 hM hN p4 h4
    refine ⟨p5, h5, encS (a, b, c, d), ⟨_, rfl⟩, ?_⟩
    refine spec_ewL (G := G0) (fid := 127) (fn := Try.f127) Try.func127 (by kernel_rfl) rfl (by kernel_rfl) ?_
    repeat (refine And.intro (of_decide_eq_true rfl) ?_)
    refine eCall_lent [0] 6 (s1) (by decide) rfl rfl ?_
    repeat (refine And.intro (of_decide_eq_true rfl) ?_)
    refine bc_split (fun g => ?_) (fun g => ?_)
    · repeat (refine And.intro (of_decide_eq_true rfl) ?_)
      refine eCall_lent [0] 6 (s2) (by decide) rfl rfl ?_
      repeat (refine And.intro (of_decide_eq_true rfl) ?_)
      refine eCall_lent [0] 6 (s3) (by decide) rfl rfl ?_
      repeat (refine And.intro (of_decide_eq_true rfl) ?_)
      refine eCall_lent [0] 6 (s4) (by decide) rfl rfl ?_
      repeat (refine And.intro (of_decide_eq_true rfl) ?_)
      refine eCall_lent [0] 6 (s5) (by decide) rfl rfl ?_
      repeat (refine And.intro (of_decide_eq_true rfl) ?_)
      refine ret_ownL [0] 6 (by first | exact .inr rfl | exact .inl rfl) rfl (by decide) rfl (Nat.le_refl 1) rfl (.of_eq ?_) rfl ?_
      · rfl
      · rfl
    · exact absurd e0 (by rw [show (v == 0) = false from g]; simp)
  by_cases e1 : (v == 1) = true
  · obtain ⟨p2, h2, _, ⟨a, rfl⟩, s2⟩ := rd_near (nn := nn) hc (-1000000) 1000000 hM hN p1 h1
    obtain ⟨p3, h3, _, ⟨b, rfl⟩, s3⟩ := rd_near (nn := nn) hc (-1000000) 1000000 hM hN p2 h2
    obtain ⟨p4, h4, _, ⟨c, rfl⟩, s4⟩ := rd_near (nn := nn) hc (-1000000) 1000000 hM hN p3 h3
    obtain ⟨p5, h5, _, ⟨d, rfl⟩, s5⟩ := rd_near (nn := nn) hc (-1000000) 1000000 hM hN p4 h4
    refine ⟨p5, h5, encS (segOfM a b c d).1, ⟨_, rfl⟩, ?_⟩
    refine spec_ewL (G := G0) (fid := 127) (fn := Try.f127) Try.func127 (by kernel_rfl) rfl (by kernel_rfl) ?_
    repeat (refine And.intro (of_decide_eq_true rfl) ?_)
    refine eCall_lent [0] 6 (s1) (by decide) rfl rfl ?_
    repeat (refine And.intro (of_decide_eq_true rfl) ?_)
    refine bc_split (fun g => ?_) (fun g => ?_)
    · exact absurd g e0
    repeat (refine And.intro (of_decide_eq_true rfl) ?_)
    refine bc_split (fun g => ?_) (fun g => ?_)
    · repeat (refine And.intro (of_decide_eq_true rfl) ?_)
      refine eCall_lent [0] 6 (s2) (by decide) rfl rfl ?_
      repeat (refine And.intro (of_decide_eq_true rfl) ?_)
      refine eCall_lent [0] 6 (s3) (by decide) rfl rfl ?_
      repeat (refine And.intro (of_decide_eq_true rfl) ?_)
      refine eCall_lent [0] 6 (s4) (by decide) rfl rfl ?_
      repeat (refine And.intro (of_decide_eq_true rfl) ?_)
      refine eCall_lent [0] 6 (s5) (by decide) rfl rfl ?_
      repeat (refine And.intro (of_decide_eq_true rfl) ?_)
      refine eCall_flat (spec_SegOf _ _ _ _) rfl rfl ?_
      repeat (refine And.intro (of_decide_eq_true rfl) ?_)
      refine ret_ownL [0] 6 (by first | exact .inr rfl | exact .inl rfl) rfl (by decide) rfl (Nat.le_refl 1) rfl (.of_eq ?_) rfl ?_
      · rfl
      · rfl
    · exact absurd e1 (by rw [show (v == 1) = false from g]; simp)
  obtain ⟨p2, h2, _, ⟨a, b, rfl⟩, s2⟩ := rd_spot (nn := nn) hc p1 h1
  obtain ⟨p3, h3, _, ⟨c, d, rfl⟩, s3⟩ := rd_spot (nn := nn) hc p2 h2
  by_cases e2 : (v == 2) = true
  · refine ⟨p3, h3, encS (a, b, c, d), ⟨_, rfl⟩, ?_⟩
    refine spec_ewL (G := G0) (fid := 127) (fn := Try.f127) Try.func127 (by kernel_rfl) rfl (by kernel_rfl) ?_
    repeat (refine And.intro (of_decide_eq_true rfl) ?_)
    refine eCall_lent [0] 6 (s1) (by decide) rfl rfl ?_
    repeat (refine And.intro (of_decide_eq_true rfl) ?_)
    refine bc_split (fun g => ?_) (fun g => ?_)
    · exact absurd g e0
    repeat (refine And.intro (of_decide_eq_true rfl) ?_)
    refine bc_split (fun g => ?_) (fun g => ?_)
    · exact absurd g e1
    repeat (refine And.intro (of_decide_eq_true rfl) ?_)
    refine bc_split (fun g => ?_) (fun g => ?_)
    · repeat (refine And.intro (of_decide_eq_true rfl) ?_)
      refine eCall_lent [0] 6 (s2) (by decide) rfl rfl ?_
      repeat (refine And.intro (of_decide_eq_true rfl) ?_)
      refine eCall_lent [0] 6 (s3) (by decide) rfl rfl ?_
      repeat (refine And.intro (of_decide_eq_true rfl) ?_)
      refine ret_ownL [0] 6 (by first | exact .inr rfl | exact .inl rfl) rfl (by decide) rfl (Nat.le_refl 1) rfl (.of_eq ?_) rfl ?_
      · rfl
      · rfl
    · exact absurd e2 (by rw [show (v == 2) = false from g]; simp)
  by_cases e3 : ([a, b] == [c, d]) = true
  · refine ⟨p3, h3, encS (segOfM a b (IntKind.i64.wrap (c + 1)) d).1, ⟨_, rfl⟩, ?_⟩
    refine spec_ewL (G := G0) (fid := 127) (fn := Try.f127) Try.func127 (by kernel_rfl) rfl (by kernel_rfl) ?_
    repeat (refine And.intro (of_decide_eq_true rfl) ?_)
    refine eCall_lent [0] 6 (s1) (by decide) rfl rfl ?_
    repeat (refine And.intro (of_decide_eq_true rfl) ?_)
    refine bc_split (fun g => ?_) (fun g => ?_)
    · exact absurd g e0
    repeat (refine And.intro (of_decide_eq_true rfl) ?_)
    refine bc_split (fun g => ?_) (fun g => ?_)
    · exact absurd g e1
    repeat (refine And.intro (of_decide_eq_true rfl) ?_)
    refine bc_split (fun g => ?_) (fun g => ?_)
    · exact absurd g e2
    repeat (refine And.intro (of_decide_eq_true rfl) ?_)
    refine eCall_lent [0] 6 (s2) (by decide) rfl rfl ?_
    repeat (refine And.intro (of_decide_eq_true rfl) ?_)
    refine eCall_lent [0] 6 (s3) (by decide) rfl rfl ?_
    repeat (refine And.intro (of_decide_eq_true rfl) ?_)
    refine bc_split (fun g => ?_) (fun g => ?_)
    · repeat (refine And.intro (of_decide_eq_true rfl) ?_)
      refine eCall_flat (spec_SegOf _ _ _ _) rfl rfl ?_
      repeat (refine And.intro (of_decide_eq_true rfl) ?_)
      refine ret_ownL [0] 6 (by first | exact .inr rfl | exact .inl rfl) rfl (by decide) rfl (Nat.le_refl 1) rfl (.of_eq ?_) rfl ?_
      · rfl
      · rfl
    · exact absurd e3 (by rw [show ([a, b] == [c, d]) = false from g]; simp)
  · refine ⟨p3, h3, encS (segOfM a b c d).1, ⟨_, rfl⟩, ?_⟩
    refine spec_ewL (G := G0) (fid := 127) (fn := Try.f127) Try.func127 (by kernel_rfl) rfl (by kernel_rfl) ?_
    repeat (refine And.intro (of_decide_eq_true rfl) ?_)
    refine eCall_lent [0] 6 (s1) (by decide) rfl rfl ?_
    repeat (refine And.intro (of_decide_eq_true rfl) ?_)
    refine bc_split (fun g => ?_) (fun g => ?_)
    · exact absurd g e0
    repeat (refine And.intro (of_decide_eq_true rfl) ?_)
    refine bc_split (fun g => ?_) (fun g => ?_)
    · exact absurd g e1
    repeat (refine And.intro (of_decide_eq_true rfl) ?_)
    refine bc_split (fun g => ?_) (fun g => ?_)
    · exact absurd g e2
    repeat (refine And.intro (of_decide_eq_true rfl) ?_)
    refine eCall_lent [0] 6 (s2) (by decide) rfl rfl ?_
    repeat (refine And.intro (of_decide_eq_true rfl) ?_)
    refine eCall_lent [0] 6 (s3) (by decide) rfl rfl ?_
    repeat (refine And.intro (of_decide_eq_true rfl) ?_)
    refine bc_split (fun g => ?_) (fun g => ?_)
    · exact absurd g e3
    · repeat (refine And.intro (of_decide_eq_true rfl) ?_)
      refine eCall_flat (spec_SegOf _ _ _ _) rfl rfl ?_
      repeat (refine And.intro (of_decide_eq_true rfl) ?_)
      refine ret_ownL [0] 6 (by first | exact .inr rfl | exact .inl rfl) rfl (by decide) rfl (Nat.le_refl 1) rfl (.of_eq ?_) rfl ?_
      · rfl
      · rfl
theorem rd_farSeg (hc : Code code) : RdF nn code 83 [] fun r => ∃ s, r = encS s := by
  intro p hp
  obtain ⟨p1, h1, _, ⟨b0, rfl⟩, s1⟩ := rd_once (nn := nn) hc 3 (by omega) (by omega) p hp
  cases b0 with
  | true =>
    obtain ⟨p2, h2, _, ⟨s, rfl⟩, s2⟩ := rd_seg (nn := nn) hc p1 h1
    refine ⟨p2, h2, encS s, ⟨_, rfl⟩, ?_⟩
    refine spec_ewL (G := G0) (fid := 83) (fn := Try.f83) Try.func83 (by kernel_rfl) rfl (by kernel_rfl) ?_
    repeat (refine And.intro (of_decide_eq_true rfl) ?_)
    refine eCall_lent [0] 6 (s1) (by decide) rfl rfl ?_
    repeat (refine And.intro (of_decide_eq_true rfl) ?_)
    refine eCall_lent [0] 6 (s2) (by decide) rfl rfl ?_
    repeat (refine And.intro (of_decide_eq_true rfl) ?_)
    refine ret_ownL [0] 6 (by first | exact .inr rfl | exact .inl rfl) rfl (by decide) rfl (Nat.le_refl 1) rfl (.of_eq ?_) rfl ?_
    · rfl
    · rfl
  | false =>
    obtain ⟨p2, h2, _, ⟨v, v0, v1, rfl⟩, s2⟩ := rd_below (nn := nn) hc 4 (by omega) (by omega) p1 h1
    obtain ⟨p3, h3, _, ⟨a, b, rfl⟩, s3⟩ := rd_spot (nn := nn) hc p2 h2
    obtain ⟨p4, h4, _, ⟨c, d, rfl⟩, s4⟩ := rd_spot (nn := nn) hc p3 h3
    by_cases e3 : ([a, b] == [c, d]) = true
    · have : v = 0 ∨ v = 1 ∨ v = 2 ∨ v = 3 := by omega
      rcases this with rfl | rfl | rfl | rfl
      all_goals
        apply RdF.mk h4
        case hF =>
          apply spec_ewL (G := G0) (fid := 83) (fn := Try.f83) Try.func83 (by kernel_rfl) rfl (by kernel_rfl)
          repeat (refine And.intro (of_decide_eq_true rfl) ?_)
          refine eCall_lent [0] 6 (s1) (by decide) rfl rfl ?_
          repeat (refine And.intro (of_decide_eq_true rfl) ?_)
          refine eCall_lent [0] 6 (s2) (by decide) rfl rfl ?_
          repeat (refine And.intro (of_decide_eq_true rfl) ?_)
          refine eCall_lent [0] 6 (s3) (by decide) rfl rfl ?_
          repeat (refine And.intro (of_decide_eq_true rfl) ?_)
          refine eCall_lent [0] 6 (s4) (by decide) rfl rfl ?_
          repeat (refine And.intro (of_decide_eq_true rfl) ?_)
          refine bc_split (fun g => ?_) (fun g => ?_)
          · repeat (refine And.intro (of_decide_eq_true rfl) ?_)
            refine eCall_flat (spec_SegOf _ _ _ _) rfl rfl ?_
            repeat (refine And.intro (of_decide_eq_true rfl) ?_)
            refine ret_ownR [0] 6 (by first | exact .inr rfl | exact .inl rfl) rfl (by decide) rfl (Nat.le_refl 1) rfl rfl ?_
            rfl
          · exact absurd e3 (by rw [show ([a, b] == [c, d]) = false from g]; simp)
        case hP => exact ⟨_, rfl⟩
    · have : v = 0 ∨ v = 1 ∨ v = 2 ∨ v = 3 := by omega
      rcases this with rfl | rfl | rfl | rfl
      all_goals
        apply RdF.mk h4
        case hF =>
          apply spec_ewL (G := G0) (fid := 83) (fn := Try.f83) Try.func83 (by kernel_rfl) rfl (by kernel_rfl)
          repeat (refine And.intro (of_decide_eq_true rfl) ?_)
          refine eCall_lent [0] 6 (s1) (by decide) rfl rfl ?_
          repeat (refine And.intro (of_decide_eq_true rfl) ?_)
          refine eCall_lent [0] 6 (s2) (by decide) rfl rfl ?_
          repeat (refine And.intro (of_decide_eq_true rfl) ?_)
          refine eCall_lent [0] 6 (s3) (by decide) rfl rfl ?_
          repeat (refine And.intro (of_decide_eq_true rfl) ?_)
          refine eCall_lent [0] 6 (s4) (by decide) rfl rfl ?_
          repeat (refine And.intro (of_decide_eq_true rfl) ?_)
          refine bc_split (fun g => ?_) (fun g => ?_)
          · exact absurd g e3
          · repeat (refine And.intro (of_decide_eq_true rfl) ?_)
            refine eCall_flat (spec_SegOf _ _ _ _) rfl rfl ?_
            repeat (refine And.intro (of_decide_eq_true rfl) ?_)
            refine ret_ownR [0] 6 (by first | exact .inr rfl | exact .inl rfl) rfl (by decide) rfl (Nat.le_refl 1) rfl rfl ?_
            rfl
        case hP => exact ⟨_, rfl⟩
end Go.Proofs.Ytendgiieolkleaa
