/- The reference puts a segment into a tree. The reference puts a segment into a tree, and writes a tree down. The reference takes a number out of a tree. -/
import Derived.Test.YtendgiieolkleaaM10
import Derived.Test.YtendgiieolkleaaM8

/- The reference puts a segment into a tree. -/
namespace Go.Proofs.Ytendgiieolkleaa
open Go.Aw
set_option maxHeartbeats 1000000
set_option maxRecDepth 100000
set_option linter.unusedSimpArgs false
set_option linter.unusedVariables false
def meetsT (t : Tr) (s : Int × Int × Int × Int) : Bool := meetsB s t.x t.y (W64 (t.x + t.n)) (W64 (t.y + t.n))
def kidL (items : List Item) (x y n : Int) (l : List Int) (j : Int) : List Int := l.filter fun id => meetsT (.leaf (kx j x n) (ky j y n) (half n) []) (segOfId items id)
def kidT (items : List Item) (x y n : Int) (l : List Int) (j : Int) : Tr := .leaf (kx j x n) (ky j y n) (half n) (kidL items x y n l j)
def putT (items : List Item) (id : Int) (s : Int × Int × Int × Int) (most : Int) : Int → Tr → Tr
  | d, .leaf x y n ids => if meetsT (.leaf x y n ids) s = false then .leaf x y n ids else
      if (decide (((withL ids id).map enc1).length ≤ most) || decide (d < 1)) = true then .leaf x y n (withL ids id) else
      .node x y n (kidT items x y n (withL ids id) 0) (kidT items x y n (withL ids id) 1) (kidT items x y n (withL ids id) 2) (kidT items x y n (withL ids id) 3)
  | d, .node x y n a b c e => if meetsT (.node x y n a b c e) s = false then .node x y n a b c e else
      .node x y n (putT items id s most (W64 (d - 1)) a) (putT items id s most (W64 (d - 1)) b) (putT items id s most (W64 (d - 1)) c) (putT items id s most (W64 (d - 1)) e)
def st90n (nn : Bool) (items : List Item) (id most d : Int) (s : Int × Int × Int × Int) (t : Tr) (ks : List (List AV)) (j : Int) : St :=
  ⟨125, 0, [(1, .sl nn 5 (items.map encI)), (2, i64 id), (4, i64 most), (5, i64 d), (6, .ptr 0 0 0), (9, .ptr 1 0 0), (12, .ptr 2 0 0), (13, .loc 3 5 0 ks.length), (14, i64 j)],
    [(0, ⟨true, true, 5, [encT t]⟩), (1, ⟨true, true, 4, [[i64 s.1, i64 s.2.1, i64 s.2.2.1, i64 s.2.2.2]]⟩), (2, ⟨true, true, 5, [[i64 0, i64 0, i64 0, .e true, .e true]]⟩), (3, ⟨true, true, 5, ks⟩)], 4⟩
theorem put_node (nn : Bool) (items : List Item) (id most d : Int) (s : Int × Int × Int × Int) (x y n : Int) (a b c e a' b' c' e' : Tr) (hm : meetsT (.node x y n a b c e) s = true)
    (ha : Fun G0 90 [.agg (encT a), .sl nn 5 (items.map encI), i64 id, encS s, i64 most, i64 (W64 (d - 1))] [] (.agg (encT a')) [])
    (hb : Fun G0 90 [.agg (encT b), .sl nn 5 (items.map encI), i64 id, encS s, i64 most, i64 (W64 (d - 1))] [] (.agg (encT b')) [])
    (hc : Fun G0 90 [.agg (encT c), .sl nn 5 (items.map encI), i64 id, encS s, i64 most, i64 (W64 (d - 1))] [] (.agg (encT c')) [])
    (he : Fun G0 90 [.agg (encT e), .sl nn 5 (items.map encI), i64 id, encS s, i64 most, i64 (W64 (d - 1))] [] (.agg (encT e')) []) :
    Fun G0 90 [.agg (encT (.node x y n a b c e)), .sl nn 5 (items.map encI), i64 id, encS s, i64 most, i64 d] [] (.agg (encT (.node x y n a' b' c' e'))) [] := by
  refine spec_ewL (G := G0) (fid := 90) (fn := Try.f90) Try.func90 (by kernel_rfl) rfl (by kernel_rfl) ?_
  repeat (refine And.intro (of_decide_eq_true rfl) ?_)
  refine eCall_flat (spec_Meets (.node x y n a b c e) s) rfl rfl ?_
  refine bc_split (fun h => ?_) (fun h => ?_)
  · exact absurd (show (!meetsT (.node x y n a b c e) s) = true from h) (by rw [hm]; simp)
  repeat (refine And.intro (of_decide_eq_true rfl) ?_)
  refine eLoop_weak (S' := st90n nn items id most d s (.node x y n a b c e) [] 0) (weak_in0 [1, 2, 4, 5, 6, 9, 12, 13, 14] [0, 1, 2, 3] 4 rfl rfl) ?_
  refine eLoop_step ?_
  repeat (refine And.intro (of_decide_eq_true rfl) ?_)
  refine eDraw_pre 14 (st90n nn items id most d s (.node x y n a b c e) [encT a'] 0) rfl (by kernel_rfl) ?_ ?_
  · repeat (refine And.intro (of_decide_eq_true rfl) ?_)
    refine dCall_pure [] (ha) rfl rfl ?_
    repeat (refine And.intro (of_decide_eq_true rfl) ?_)
    refine eApp_grow tiB [encT a'] true ⟨true, true, 5, []⟩ app95 rfl rfl rfl rfl (Nat.zero_le _) rfl rfl (of_decide_eq_true rfl) ?_
    repeat (refine And.intro (of_decide_eq_true rfl) ?_)
    exact weak_in0 [1, 2, 4, 5, 6, 9, 12, 13, 14] [0, 1, 2, 3] 4 rfl rfl
  refine eLoop_weak (S' := st90n nn items id most d s (.node x y n a b c e) [encT a'] 1) (weak_in0 [1, 2, 4, 5, 6, 9, 12, 13, 14] [0, 1, 2, 3] 4 rfl rfl) ?_
  refine eLoop_step ?_
  repeat (refine And.intro (of_decide_eq_true rfl) ?_)
  refine eDraw_pre 14 (st90n nn items id most d s (.node x y n a b c e) [encT a', encT b'] 1) rfl (by kernel_rfl) ?_ ?_
  · repeat (refine And.intro (of_decide_eq_true rfl) ?_)
    refine dCall_pure [] (hb) rfl rfl ?_
    repeat (refine And.intro (of_decide_eq_true rfl) ?_)
    refine eApp_grow tiB [encT b'] true ⟨true, true, 5, [encT a']⟩ app95 rfl rfl rfl rfl (Nat.zero_le _) rfl rfl (of_decide_eq_true rfl) ?_
    repeat (refine And.intro (of_decide_eq_true rfl) ?_)
    exact weak_in0 [1, 2, 4, 5, 6, 9, 12, 13, 14] [0, 1, 2, 3] 4 rfl rfl
  refine eLoop_weak (S' := st90n nn items id most d s (.node x y n a b c e) [encT a', encT b'] 2) (weak_in0 [1, 2, 4, 5, 6, 9, 12, 13, 14] [0, 1, 2, 3] 4 rfl rfl) ?_
  refine eLoop_step ?_
  repeat (refine And.intro (of_decide_eq_true rfl) ?_)
  refine eDraw_pre 14 (st90n nn items id most d s (.node x y n a b c e) [encT a', encT b', encT c'] 2) rfl (by kernel_rfl) ?_ ?_
  · repeat (refine And.intro (of_decide_eq_true rfl) ?_)
    refine dCall_pure [] (hc) rfl rfl ?_
    repeat (refine And.intro (of_decide_eq_true rfl) ?_)
    refine eApp_grow tiB [encT c'] true ⟨true, true, 5, [encT a', encT b']⟩ app95 rfl rfl rfl rfl (Nat.zero_le _) rfl rfl (of_decide_eq_true rfl) ?_
    repeat (refine And.intro (of_decide_eq_true rfl) ?_)
    exact weak_in0 [1, 2, 4, 5, 6, 9, 12, 13, 14] [0, 1, 2, 3] 4 rfl rfl
  refine eLoop_weak (S' := st90n nn items id most d s (.node x y n a b c e) [encT a', encT b', encT c'] 3) (weak_in0 [1, 2, 4, 5, 6, 9, 12, 13, 14] [0, 1, 2, 3] 4 rfl rfl) ?_
  refine eLoop_step ?_
  repeat (refine And.intro (of_decide_eq_true rfl) ?_)
  refine eDraw_pre 14 (st90n nn items id most d s (.node x y n a b c e) [encT a', encT b', encT c', encT e'] 3) rfl (by kernel_rfl) ?_ ?_
  · repeat (refine And.intro (of_decide_eq_true rfl) ?_)
    refine dCall_pure [] (he) rfl rfl ?_
    repeat (refine And.intro (of_decide_eq_true rfl) ?_)
    refine eApp_grow tiB [encT e'] true ⟨true, true, 5, [encT a', encT b', encT c']⟩ app95 rfl rfl rfl rfl (Nat.zero_le _) rfl rfl (of_decide_eq_true rfl) ?_
    repeat (refine And.intro (of_decide_eq_true rfl) ?_)
    exact weak_in0 [1, 2, 4, 5, 6, 9, 12, 13, 14] [0, 1, 2, 3] 4 rfl rfl
  refine eLoop_weak (S' := st90n nn items id most d s (.node x y n a b c e) [encT a', encT b', encT c', encT e'] 4) (weak_in0 [1, 2, 4, 5, 6, 9, 12, 13, 14] [0, 1, 2, 3] 4 rfl rfl) ?_
  refine eLoop_step ?_
  repeat (refine And.intro (of_decide_eq_true rfl) ?_)
  refine ret_lax (.inr rfl) rfl (vw_agg (vwL_cons rfl (vwL_cons rfl (vwL_cons rfl (vwL_cons (vw_rowE rfl rfl rfl rfl) (vwL_cons rfl vwL_nil)))))) ?_
  exact .aggL (.cons (.refl _) (.cons (.refl _) (.cons (.refl _) (.cons (.ne _ _ _ _) (.refl _)))))
theorem allCl_T (t : Tr) : allCl (encT t) = true := rfl
theorem allCl_Ts (l : List Tr) : (l.map encT).all allCl = true := by
  rw [List.all_map, List.all_eq_true]; intro t _; rfl
def kidsTo (items : List Item) (x y n : Int) (l : List Int) (j : Nat) : List Tr := (List.range j).map fun (i : Nat) => kidT items x y n l (i : Int)
theorem kidsTo_succ (items : List Item) (x y n : Int) (l : List Int) (j : Nat) : kidsTo items x y n l (j + 1) = kidsTo items x y n l j ++ [kidT items x y n l (j : Int)] := by
  unfold kidsTo; rw [List.range_succ, List.map_append]; rfl
/-- What stays in the loops: the arguments; the block that is split, with the kids so far. -/
def ob90 (x y n : Int) (s : Int × Int × Int × Int) (l : List Int) (kv : AV) (cl : Bool) : List (Nat × Blk) :=
  [(0, ⟨true, cl, 5, [[i64 x, i64 y, i64 n, kv, encIds l]]⟩), (1, ⟨true, true, 4, [[i64 s.1, i64 s.2.1, i64 s.2.2.1, i64 s.2.2.2]]⟩), (2, ⟨true, true, 5, [[i64 0, i64 0, i64 0, .e true, .e true]]⟩)]
def sl90 (nn : Bool) (items : List Item) (id most d jv : Int) : List (Nat × AV) :=
  [(1, .sl nn 5 (items.map encI)), (2, i64 id), (4, i64 most), (5, i64 d), (6, .ptr 0 0 0), (9, .ptr 1 0 0), (12, .ptr 2 0 0), (15, i64 jv)]
def st90o (nn : Bool) (items : List Item) (id most d x y n : Int) (s : Int × Int × Int × Int) (l : List Int) : Nat × Int × List (List AV) × Nat → St
  | (0, jv, _, _) => ⟨125, 0, sl90 nn items id most d jv, ob90 x y n s l (.sl true 5 []) true, 3⟩
  | (_ + 1, jv, ks, kl) => ⟨125, 0, sl90 nn items id most d jv, ob90 x y n s l (.loc 20 5 0 kl) false ++ [(20, ⟨true, true, 5, ks⟩)], 21⟩
def st90i (nn : Bool) (items : List Item) (id most d x y n jv : Int) (s : Int × Int × Int × Int) (l : List Int) (kv : AV) (cl : Bool) (kb : List (Nat × Blk)) (b : Nat) : Nat × Int × Option (List (List AV) × Nat) → St
  | (_, i, none) => ⟨125, 0, sl90 nn items id most d jv ++ [(16, .ptr b 0 0), (17, i64 i)], ob90 x y n s l kv cl ++ (kb ++ [(b, ⟨true, true, 5, [[i64 (kx jv x n), i64 (ky jv y n), i64 (half n), .e true, .e true]]⟩)]), b + 1⟩
  | (_, i, some (es, ln)) => ⟨125, 0, sl90 nn items id most d jv ++ [(16, .ptr b 0 0), (17, i64 i)], ob90 x y n s l kv cl ++ (kb ++ [(b, ⟨true, false, 5, [[i64 (kx jv x n), i64 (ky jv y n), i64 (half n), .e true, .loc (b + 2) 1 0 ln]]⟩), (b + 2, ⟨true, true, 1, es⟩)]), b + 3⟩
theorem lax_nilS {sz : Nat} : Lax (.s (.slice none 0 0)) (.sl false sz []) := Lax.trans (fun w M φ x h => by cases h; exact .e _ true _ rfl) (.e true sz)
theorem lax_kid0 (x y n : Int) : LaxL [i64 x, i64 y, i64 n, .e true, .e true] (encT (.leaf x y n [])) :=
  .cons (.refl _) (.cons (.refl _) (.cons (.refl _) (.cons (.ez _ _) (.cons (.e _ _) .nil))))
theorem lax_kid1 (x y n : Int) (ids : List Int) (es : List (List AV)) (h : es = ids.map enc1) : LaxL [i64 x, i64 y, i64 n, .e true, .sl false 1 es] (encT (.leaf x y n ids)) := by
  subst h; exact .cons (.refl _) (.cons (.refl _) (.cons (.refl _) (.cons (.ez _ _) (.refl _))))
theorem meets_kid0 (x y n : Int) (s : Int × Int × Int × Int) : Fun G0 140 [.agg [i64 x, i64 y, i64 n, .e true, .e true], encS s] [] (bo (meetsT (.leaf x y n []) s)) [] :=
  (spec_Meets (.leaf x y n []) s).args rfl fun i hi => by
    match i, hi with
    | 0, _ => exact .aggL (lax_kid0 x y n)
    | 1, _ => exact .refl _
theorem meets_kid1 (x y n : Int) (s : Int × Int × Int × Int) (ids : List Int) (es : List (List AV)) (h : es = ids.map enc1) : Fun G0 140 [.agg [i64 x, i64 y, i64 n, .e true, .sl false 1 es], encS s] [] (bo (meetsT (.leaf x y n []) s)) [] :=
  (spec_Meets (.leaf x y n ids) s).args rfl fun i hi => by
    match i, hi with
    | 0, _ => exact .aggL (lax_kid1 x y n ids es h)
    | 1, _ => exact .refl _
theorem seal_kid0 {h : Hp} (x y n : Int) : SealL h [i64 x, i64 y, i64 n, .e true, .e true] (encT (.leaf x y n [])) :=
  .cons (.s _) (.cons (.s _) (.cons (.s _) (.cons (.cl rfl (.ez _ _)) (.cons (.cl rfl (.e _ _)) .nil))))
theorem seal_kid1 {h : Hp} (x y n : Int) (ids : List Int) (es : List (List AV)) (he : es = ids.map enc1) {b ln : Nat} (hk : h b = some ⟨false, true, 1, es⟩) (hl : ln = es.length) : SealL h [i64 x, i64 y, i64 n, .e true, .loc b 1 0 ln] (encT (.leaf x y n ids)) := by
  subst he; exact .cons (.s _) (.cons (.s _) (.cons (.s _) (.cons (.cl rfl (.ez _ _)) (.cons (.loc hk hl) .nil))))
theorem kidL_succ (items : List Item) (x y n : Int) (l : List Int) (jv : Int) {i : Nat} (h : i < l.length) : kidL items x y n (l.take (i + 1)) jv = kidL items x y n (l.take i) jv ++ (if meetsT (.leaf (kx jv x n) (ky jv y n) (half n) []) (segOfId items l[i]) = true then [l[i]] else []) := by
  unfold kidL
  rw [List.take_succ_eq_append_getElem h, List.filter_append]
  congr 1
  simp only [List.filter_cons, List.filter_nil]
theorem put_leaf (nn : Bool) (items : List Item) (id most d : Int) (s : Int × Int × Int × Int) (x y n : Int) (ids : List Int) (hI : items.length ≤ 1048576) (hl : ids.length ≤ 1048576) :
    Fun G0 90 [.agg (encT (.leaf x y n ids)), .sl nn 5 (items.map encI), i64 id, encS s, i64 most, i64 d] [] (.agg (encT (putT items id s most d (.leaf x y n ids)))) [] := by
  refine spec_ewL (G := G0) (fid := 90) (fn := Try.f90) Try.func90 (by kernel_rfl) rfl (by kernel_rfl) ?_
  repeat (refine And.intro (of_decide_eq_true rfl) ?_)
  refine eCall_flat (spec_Meets (.leaf x y n ids) s) rfl rfl ?_
  refine bc_split (fun h => ?_) (fun h => ?_)
  · have h : meetsT (.leaf x y n ids) s = false := by have z : (!meetsT (.leaf x y n ids) s) = true := h; rw [Bool.not_eq_true'] at z; exact z
    repeat (refine And.intro (of_decide_eq_true rfl) ?_)
    exact ret_eq (by first | exact .inr rfl | exact .inl rfl) rfl rfl (by simp only [putT, h, if_true]; rfl)
  have h : meetsT (.leaf x y n ids) s = true := by have z : (!meetsT (.leaf x y n ids) s) = false := h; rw [Bool.not_eq_false'] at z; exact z
  repeat (refine And.intro (of_decide_eq_true rfl) ?_)
  refine eCall_pure (spec_With false ids id hl) rfl ?_
  repeat (refine And.intro (of_decide_eq_true rfl) ?_)
  have hun : putT items id s most d (.leaf x y n ids) = if (decide ((((withL ids id).map enc1).length : Int) ≤ most) || decide (d < 1)) = true then .leaf x y n (withL ids id) else
      .node x y n (kidT items x y n (withL ids id) 0) (kidT items x y n (withL ids id) 1) (kidT items x y n (withL ids id) 2) (kidT items x y n (withL ids id) 3) := by
    simp only [putT, h, Bool.true_eq_false, if_false]
  rw [hun]
  have hwl : (withL ids id).length ≤ 4194304 := by have := withGo_len id ids false; unfold withL; omega
  generalize withL ids id = l at hwl ⊢
  refine bc_split (fun h1 => ?_) (fun h1 => ?_)
  · have h1 : decide (((l.map enc1).length : Int) ≤ most) = true := h1
    repeat (refine And.intro (of_decide_eq_true rfl) ?_)
    exact ret_eq (by first | exact .inr rfl | exact .inl rfl) rfl rfl (by simp only [h1, Bool.true_or, if_true]; rfl)
  have h1 : decide (((l.map enc1).length : Int) ≤ most) = false := h1
  refine bc_split (fun h2 => ?_) (fun h2 => ?_)
  · have h2 : decide (d < 1) = true := h2
    repeat (refine And.intro (of_decide_eq_true rfl) ?_)
    exact ret_eq (by first | exact .inr rfl | exact .inl rfl) rfl rfl (by simp only [h2, Bool.or_true, if_true]; rfl)
  have h2 : decide (d < 1) = false := h2
  simp only [h1, h2, Bool.or_false, Bool.false_eq_true, if_false]
  repeat (refine And.intro (of_decide_eq_true rfl) ?_)
  refine eLoop_pre (st90o nn items id most d x y n s l) (fun a => a.1 ≤ 4 ∧ a.2.1 = a.1 ∧ a.2.2.1 = (kidsTo items x y n l a.1).map encT ∧ a.2.2.2 = a.2.2.1.length) (fun a => 4 - a.1) (0, 0, [], 0) (weak_in0 [1, 2, 4, 5, 6, 9, 12, 15] [0, 1, 2] 3 rfl rfl) ⟨Nat.zero_le _, rfl, rfl, rfl⟩ ?_
  rintro ⟨j, jv, ks, kl⟩ ⟨hj, hjv, hks, hkl⟩
  simp only at hj hjv hks hkl
  rcases j with _ | j
  · refine bc_split (fun g0 => ?_) (fun g0 => ?_)
    · repeat (refine And.intro (of_decide_eq_true rfl) ?_)
      refine eLoop_pre (st90i nn items id most d x y n jv s l (.sl true 5 []) true [] 3) (fun a => a.1 ≤ l.length ∧ a.2.1 = a.1 ∧ a.2.2 = opt (kidL items x y n (l.take a.1) jv)) (fun a => l.length - a.1) (0, 0, none) (weak_in0 [1, 2, 4, 5, 6, 9, 12, 15, 16, 17] [0, 1, 2, 3] 4 rfl rfl) ⟨Nat.zero_le _, rfl, rfl⟩ ?_
      rintro ⟨i, iv, o⟩ ⟨hi, hiv, ho⟩
      simp only at hi hiv ho
      subst hiv
      cases o with
      | none =>
        repeat (refine And.intro (of_decide_eq_true rfl) ?_)
        refine bc_split (fun g => ?_) (fun g => ?_)
        · have hlt : i < l.length := by have := of_decide_eq_true g; simp at this; omega
          repeat (refine And.intro (of_decide_eq_true rfl) ?_)
          refine eDraw_ok ?_
          repeat (refine And.intro (of_decide_eq_true rfl) ?_)
          refine And.intro (ix_ok hlt) ?_
          rw [ix_get hlt]
          repeat (refine And.intro (of_decide_eq_true rfl) ?_)
          refine dCall_flat [] (spec_Seg nn items l[i] hI) rfl rfl rfl ?_
          refine dCall_flat [] (meets_kid0 _ _ _ (segOfId items l[i])) rfl rfl rfl ?_
          repeat (refine And.intro (of_decide_eq_true rfl) ?_)
          refine bc_split (fun g2 => ?_) (fun g2 => ?_)
          · have g2 : meetsT (.leaf (kx jv x n) (ky jv y n) (half n) []) (segOfId items l[i]) = true := g2
            repeat (refine And.intro (of_decide_eq_true rfl) ?_)
            refine eDraw_pre 8 (st90i nn items id most d x y n jv s l (.sl true 5 []) true [] 3 (0, ↑i, some ([enc1 l[i]], 1))) rfl (by kernel_rfl) ?_ ?_
            · repeat (refine And.intro (of_decide_eq_true rfl) ?_)
              refine And.intro (ix_ok hlt) ?_
              rw [ix_get hlt]
              repeat (refine And.intro (of_decide_eq_true rfl) ?_)
              refine eApp_new tiI [enc1 l[i]] true app29 rfl (List.cons_ne_nil _ _) (of_decide_eq_true rfl) ?_
              repeat (refine And.intro (of_decide_eq_true rfl) ?_)
              exact weak_in0 [1, 2, 4, 5, 6, 9, 12, 15, 16, 17] [0, 1, 2, 3, 5] 6 rfl rfl
            repeat (refine And.intro (of_decide_eq_true rfl) ?_)
            refine ⟨(i + 1, IntKind.i64.wrap (↑i + 1), some ([enc1 l[i]], 1)), weak_in0 [1, 2, 4, 5, 6, 9, 12, 15, 16, 17] [0, 1, 2, 3, 5] 6 rfl rfl, ⟨hlt, wrap_succ (by omega), ?_⟩, by simp only; omega⟩
            rw [kidL_succ _ _ _ _ _ _ hlt, if_pos g2]
            cases hq : kidL items x y n (l.take i) jv with
            | nil => rfl
            | cons a r => rw [hq] at ho; cases ho
          · have g2 : meetsT (.leaf (kx jv x n) (ky jv y n) (half n) []) (segOfId items l[i]) = false := g2
            repeat (refine And.intro (of_decide_eq_true rfl) ?_)
            refine ⟨(i + 1, IntKind.i64.wrap (↑i + 1), none), weak_in0 [1, 2, 4, 5, 6, 9, 12, 15, 16, 17] [0, 1, 2, 3] 4 rfl rfl, ⟨hlt, wrap_succ (by omega), ?_⟩, by simp only; omega⟩
            rw [kidL_succ _ _ _ _ _ _ hlt, if_neg (by rw [g2]; simp), List.append_nil]
            exact ho
        · have hge : i = l.length := by have := of_decide_eq_false g; simp at this; omega
          subst hge
          rw [List.take_length] at ho
          repeat (refine And.intro (of_decide_eq_true rfl) ?_)
          refine eApp_newz tiB [[i64 (kx jv x n), i64 (ky jv y n), i64 (half n), .e true, .e true]] true app95 rfl (List.cons_ne_nil _ _) (of_decide_eq_true rfl) ?_
          repeat (refine And.intro (of_decide_eq_true rfl) ?_)
          refine ⟨(1, IntKind.i64.wrap (jv + 1), [encT (.leaf (kx jv x n) (ky jv y n) (half n) [])], 1), Weak.trans (weak_in0 (S' := ⟨125, 0, sl90 nn items id most d (IntKind.i64.wrap (jv + 1)), ob90 x y n s l (.loc 5 5 0 1) false ++ [(5, ⟨true, true, 5, [[i64 (kx jv x n), i64 (ky jv y n), i64 (half n), .e true, .e true]]⟩)], 6⟩) [1, 2, 4, 5, 6, 9, 12, 15] [0, 1, 2, 5] 6 rfl rfl) (Weak.trans (weak_seal (l := 5) rfl [encT (.leaf (kx jv x n) (ky jv y n) (half n) [])] (.cons (seal_kid0 _ _ _) .nil)) (Weak.trans (weak_mv 5 20 rfl rfl) (weak_in0 [1, 2, 4, 5, 6, 9, 12, 15] [0, 1, 2, 20] 21 rfl rfl))), ⟨by omega, by rw [hjv]; rfl, ?_, rfl⟩, by simp⟩
          have hk1 : kidsTo items x y n l 1 = [kidT items x y n l jv] := by rw [hjv]; rfl
          rw [hk1]; simp only [List.map_cons, List.map_nil, kidT]
          have : kidL items x y n l jv = [] := by
            cases hq : kidL items x y n l jv with
            | nil => rfl
            | cons a r => rw [hq] at ho; cases ho
          rw [this]
      | some p =>
        obtain ⟨es, ln⟩ := p
        have hq : (es = (kidL items x y n (l.take i) jv).map enc1 ∧ ln = es.length) ∧ kidL items x y n (l.take i) jv ≠ [] := by
          cases hq : kidL items x y n (l.take i) jv with
          | nil => rw [hq] at ho; cases ho
          | cons a r =>
            rw [hq] at ho
            have := Option.some.inj ho
            simp only [Prod.mk.injEq] at this
            exact ⟨⟨this.1, by rw [this.2, this.1]⟩, List.cons_ne_nil _ _⟩
        obtain ⟨⟨hes, hln⟩, hne⟩ := hq
        have hle : es.length ≤ i := by
          rw [hes, List.length_map]; unfold kidL
          refine Nat.le_trans (List.length_filter_le _ _) ?_
          rw [List.length_take]; omega
        repeat (refine And.intro (of_decide_eq_true rfl) ?_)
        refine bc_split (fun g => ?_) (fun g => ?_)
        · have hlt : i < l.length := by have := of_decide_eq_true g; simp at this; omega
          repeat (refine And.intro (of_decide_eq_true rfl) ?_)
          refine eDraw_ok ?_
          repeat (refine And.intro (of_decide_eq_true rfl) ?_)
          refine And.intro (ix_ok hlt) ?_
          rw [ix_get hlt]
          repeat (refine And.intro (of_decide_eq_true rfl) ?_)
          refine dCall_flat [] (spec_Seg nn items l[i] hI) rfl rfl rfl ?_
          refine dCall_flat [5] (meets_kid1 _ _ _ (segOfId items l[i]) (kidL items x y n (l.take i) jv) es hes) rfl (vwL_cons (vw_agg (vwL_cons rfl (vwL_cons rfl (vwL_cons rfl (vwL_cons rfl (vwL_cons (vw_rowE rfl rfl rfl hln) vwL_nil)))))) (vwL_cons rfl vwL_nil)) rfl ?_
          repeat (refine And.intro (of_decide_eq_true rfl) ?_)
          refine bc_split (fun g2 => ?_) (fun g2 => ?_)
          · have g2 : meetsT (.leaf (kx jv x n) (ky jv y n) (half n) []) (segOfId items l[i]) = true := g2
            repeat (refine And.intro (of_decide_eq_true rfl) ?_)
            refine eDraw_pre 8 (st90i nn items id most d x y n jv s l (.sl true 5 []) true [] 3 (0, ↑i, some (es ++ [enc1 l[i]], ln + 1))) rfl (by kernel_rfl) ?_ ?_
            · repeat (refine And.intro (of_decide_eq_true rfl) ?_)
              refine And.intro (ix_ok hlt) ?_
              rw [ix_get hlt]
              repeat (refine And.intro (of_decide_eq_true rfl) ?_)
              refine eApp_grow tiI [enc1 l[i]] true ⟨true, true, 1, es⟩ app29 rfl rfl rfl rfl (Nat.zero_le _) rfl ((Nat.zero_add ln).trans hln) (by simp [tiI]; omega) ?_
              repeat (refine And.intro (of_decide_eq_true rfl) ?_)
              exact weak_in0 [1, 2, 4, 5, 6, 9, 12, 15, 16, 17] [0, 1, 2, 3, 5] 6 rfl rfl
            repeat (refine And.intro (of_decide_eq_true rfl) ?_)
            refine ⟨(i + 1, IntKind.i64.wrap (↑i + 1), some (es ++ [enc1 l[i]], ln + 1)), weak_in0 [1, 2, 4, 5, 6, 9, 12, 15, 16, 17] [0, 1, 2, 3, 5] 6 rfl rfl, ⟨hlt, wrap_succ (by omega), ?_⟩, by simp only; omega⟩
            rw [kidL_succ _ _ _ _ _ _ hlt, if_pos g2]
            cases hq : kidL items x y n (l.take i) jv with
            | nil => exact absurd hq hne
            | cons a r => rw [hq] at hes; rw [hln, hes]; simp [opt]
          · have g2 : meetsT (.leaf (kx jv x n) (ky jv y n) (half n) []) (segOfId items l[i]) = false := g2
            repeat (refine And.intro (of_decide_eq_true rfl) ?_)
            refine ⟨(i + 1, IntKind.i64.wrap (↑i + 1), some (es, ln)), weak_in0 [1, 2, 4, 5, 6, 9, 12, 15, 16, 17] [0, 1, 2, 3, 5] 6 rfl rfl, ⟨hlt, wrap_succ (by omega), ?_⟩, by simp only; omega⟩
            rw [kidL_succ _ _ _ _ _ _ hlt, if_neg (by rw [g2]; simp), List.append_nil]
            exact ho
        · have hge : i = l.length := by have := of_decide_eq_false g; simp at this; omega
          subst hge
          rw [List.take_length] at ho
          rw [List.take_length] at hes hne
          repeat (refine And.intro (of_decide_eq_true rfl) ?_)
          refine eApp_newz tiB [[i64 (kx jv x n), i64 (ky jv y n), i64 (half n), .e true, .loc 5 1 0 ln]] false app95 rfl (List.cons_ne_nil _ _) (of_decide_eq_true rfl) ?_
          repeat (refine And.intro (of_decide_eq_true rfl) ?_)
          refine ⟨(1, IntKind.i64.wrap (jv + 1), [encT (.leaf (kx jv x n) (ky jv y n) (half n) (kidL items x y n l jv))], 1), Weak.trans (weak_in0 (S' := ⟨125, 0, sl90 nn items id most d (IntKind.i64.wrap (jv + 1)), ob90 x y n s l (.loc 7 5 0 1) false ++ [(5, ⟨true, true, 1, es⟩), (7, ⟨true, false, 5, [[i64 (kx jv x n), i64 (ky jv y n), i64 (half n), .e true, .loc 5 1 0 ln]]⟩)], 8⟩) [1, 2, 4, 5, 6, 9, 12, 15] [0, 1, 2, 5, 7] 8 rfl rfl) (Weak.trans (weak_frz [5] rfl) (Weak.trans (weak_seal (l := 7) rfl [encT (.leaf (kx jv x n) (ky jv y n) (half n) (kidL items x y n l jv))] (.cons (seal_kid1 _ _ _ _ es hes rfl hln) .nil)) (Weak.trans (weak_mv 7 20 rfl rfl) (weak_in0 [1, 2, 4, 5, 6, 9, 12, 15] [0, 1, 2, 20] 21 rfl rfl)))), ⟨by omega, by rw [hjv]; rfl, ?_, rfl⟩, by simp⟩
          have hk1 : kidsTo items x y n l 1 = [kidT items x y n l jv] := by rw [hjv]; rfl
          rw [hk1]; simp only [List.map_cons, List.map_nil, kidT]
    · exact absurd (of_decide_eq_false g0) (by rw [hjv]; decide)
  · have hj4 : j = 0 ∨ j = 1 ∨ j = 2 ∨ j = 3 := by omega
    rcases hj4 with rfl | rfl | rfl | rfl
    · have hks' : ks = [encT (kidT items x y n l 0)] := hks
      subst hks'
      have hkl' : kl = 1 := hkl
      subst hkl'
      have hjv' : jv = 1 := hjv
      subst hjv'
      · repeat (refine And.intro (of_decide_eq_true rfl) ?_)
        refine eLoop_pre (st90i nn items id most d x y n 1 s l (.loc 20 5 0 1) false [(20, ⟨true, true, 5, [encT (kidT items x y n l 0)]⟩)] 21) (fun a => a.1 ≤ l.length ∧ a.2.1 = a.1 ∧ a.2.2 = opt (kidL items x y n (l.take a.1) 1)) (fun a => l.length - a.1) (0, 0, none) (weak_in0 [1, 2, 4, 5, 6, 9, 12, 15, 16, 17] [0, 1, 2, 20, 21] 22 rfl rfl) ⟨Nat.zero_le _, rfl, rfl⟩ ?_
        rintro ⟨i, iv, o⟩ ⟨hi, hiv, ho⟩
        simp only at hi hiv ho
        subst hiv
        cases o with
        | none =>
          repeat (refine And.intro (of_decide_eq_true rfl) ?_)
          refine bc_split (fun g => ?_) (fun g => ?_)
          · have hlt : i < l.length := by have := of_decide_eq_true g; simp at this; omega
            repeat (refine And.intro (of_decide_eq_true rfl) ?_)
            refine eDraw_ok ?_
            repeat (refine And.intro (of_decide_eq_true rfl) ?_)
            refine And.intro (ix_ok hlt) ?_
            rw [ix_get hlt]
            repeat (refine And.intro (of_decide_eq_true rfl) ?_)
            refine dCall_flat [] (spec_Seg nn items l[i] hI) rfl rfl rfl ?_
            refine dCall_flat [] (meets_kid0 _ _ _ (segOfId items l[i])) rfl rfl rfl ?_
            repeat (refine And.intro (of_decide_eq_true rfl) ?_)
            refine bc_split (fun g2 => ?_) (fun g2 => ?_)
            · have g2 : meetsT (.leaf (kx 1 x n) (ky 1 y n) (half n) []) (segOfId items l[i]) = true := g2
              repeat (refine And.intro (of_decide_eq_true rfl) ?_)
              refine eDraw_pre 8 (st90i nn items id most d x y n 1 s l (.loc 20 5 0 1) false [(20, ⟨true, true, 5, [encT (kidT items x y n l 0)]⟩)] 21 (0, ↑i, some ([enc1 l[i]], 1))) rfl (by kernel_rfl) ?_ ?_
              · repeat (refine And.intro (of_decide_eq_true rfl) ?_)
                refine And.intro (ix_ok hlt) ?_
                rw [ix_get hlt]
                repeat (refine And.intro (of_decide_eq_true rfl) ?_)
                refine eApp_new tiI [enc1 l[i]] true app29 rfl (List.cons_ne_nil _ _) (of_decide_eq_true rfl) ?_
                repeat (refine And.intro (of_decide_eq_true rfl) ?_)
                exact weak_in0 [1, 2, 4, 5, 6, 9, 12, 15, 16, 17] [0, 1, 2, 20, 21, 23] 24 rfl rfl
              repeat (refine And.intro (of_decide_eq_true rfl) ?_)
              refine ⟨(i + 1, IntKind.i64.wrap (↑i + 1), some ([enc1 l[i]], 1)), weak_in0 [1, 2, 4, 5, 6, 9, 12, 15, 16, 17] [0, 1, 2, 20, 21, 23] 24 rfl rfl, ⟨hlt, wrap_succ (by omega), ?_⟩, by simp only; omega⟩
              rw [kidL_succ _ _ _ _ _ _ hlt, if_pos g2]
              cases hq : kidL items x y n (l.take i) 1 with
              | nil => rfl
              | cons a r => rw [hq] at ho; cases ho
            · have g2 : meetsT (.leaf (kx 1 x n) (ky 1 y n) (half n) []) (segOfId items l[i]) = false := g2
              repeat (refine And.intro (of_decide_eq_true rfl) ?_)
              refine ⟨(i + 1, IntKind.i64.wrap (↑i + 1), none), weak_in0 [1, 2, 4, 5, 6, 9, 12, 15, 16, 17] [0, 1, 2, 20, 21] 22 rfl rfl, ⟨hlt, wrap_succ (by omega), ?_⟩, by simp only; omega⟩
              rw [kidL_succ _ _ _ _ _ _ hlt, if_neg (by rw [g2]; simp), List.append_nil]
              exact ho
          · have hge : i = l.length := by have := of_decide_eq_false g; simp at this; omega
            subst hge
            rw [List.take_length] at ho
            repeat (refine And.intro (of_decide_eq_true rfl) ?_)
            refine eApp_grow tiB [[i64 (kx 1 x n), i64 (ky 1 y n), i64 (half n), .e true, .e true]] true ⟨true, true, 5, [encT (kidT items x y n l 0)]⟩ app95 rfl rfl rfl rfl (Nat.zero_le _) rfl rfl (of_decide_eq_true rfl) ?_
            repeat (refine And.intro (of_decide_eq_true rfl) ?_)
            refine ⟨(2, IntKind.i64.wrap (1 + 1), [encT (kidT items x y n l 0), encT (.leaf (kx 1 x n) (ky 1 y n) (half n) [])], 2), Weak.trans (weak_in0 (S' := ⟨125, 0, sl90 nn items id most d (IntKind.i64.wrap (1 + 1)), ob90 x y n s l (.loc 20 5 0 2) false ++ [(20, ⟨true, true, 5, [encT (kidT items x y n l 0), [i64 (kx 1 x n), i64 (ky 1 y n), i64 (half n), .e true, .e true]]⟩)], 21⟩) [1, 2, 4, 5, 6, 9, 12, 15] [0, 1, 2, 20] 21 rfl rfl) (Weak.trans (weak_seal (l := 20) rfl ([encT (kidT items x y n l 0), encT (.leaf (kx 1 x n) (ky 1 y n) (half n) [])]) (.cons (.refl rfl) (.cons (seal_kid0 _ _ _) .nil))) (weak_in0 [1, 2, 4, 5, 6, 9, 12, 15] [0, 1, 2, 20] 21 rfl rfl)), ⟨by omega, rfl, ?_, rfl⟩, by simp⟩
            simp only [kidsTo, List.range_succ, List.range_zero, List.nil_append, List.cons_append, List.map_cons, List.map_nil]
            show _ = [encT (kidT items x y n l 0), encT (kidT items x y n l 1)]
            have : kidL items x y n l 1 = [] := by
              cases hq : kidL items x y n l 1 with
              | nil => rfl
              | cons a r => rw [hq] at ho; cases ho
            simp only [kidT, this]
        | some p =>
          obtain ⟨es, ln⟩ := p
          have hq : (es = (kidL items x y n (l.take i) 1).map enc1 ∧ ln = es.length) ∧ kidL items x y n (l.take i) 1 ≠ [] := by
            cases hq : kidL items x y n (l.take i) 1 with
            | nil => rw [hq] at ho; cases ho
            | cons a r =>
              rw [hq] at ho
              have := Option.some.inj ho
              simp only [Prod.mk.injEq] at this
              exact ⟨⟨this.1, by rw [this.2, this.1]⟩, List.cons_ne_nil _ _⟩
          obtain ⟨⟨hes, hln⟩, hne⟩ := hq
          have hle : es.length ≤ i := by
            rw [hes, List.length_map]; unfold kidL
            refine Nat.le_trans (List.length_filter_le _ _) ?_
            rw [List.length_take]; omega
          repeat (refine And.intro (of_decide_eq_true rfl) ?_)
          refine bc_split (fun g => ?_) (fun g => ?_)
          · have hlt : i < l.length := by have := of_decide_eq_true g; simp at this; omega
            repeat (refine And.intro (of_decide_eq_true rfl) ?_)
            refine eDraw_ok ?_
            repeat (refine And.intro (of_decide_eq_true rfl) ?_)
            refine And.intro (ix_ok hlt) ?_
            rw [ix_get hlt]
            repeat (refine And.intro (of_decide_eq_true rfl) ?_)
            refine dCall_flat [] (spec_Seg nn items l[i] hI) rfl rfl rfl ?_
            refine dCall_flat [23] (meets_kid1 _ _ _ (segOfId items l[i]) (kidL items x y n (l.take i) 1) es hes) rfl (vwL_cons (vw_agg (vwL_cons rfl (vwL_cons rfl (vwL_cons rfl (vwL_cons rfl (vwL_cons (vw_rowE rfl rfl rfl hln) vwL_nil)))))) (vwL_cons rfl vwL_nil)) rfl ?_
            repeat (refine And.intro (of_decide_eq_true rfl) ?_)
            refine bc_split (fun g2 => ?_) (fun g2 => ?_)
            · have g2 : meetsT (.leaf (kx 1 x n) (ky 1 y n) (half n) []) (segOfId items l[i]) = true := g2
              repeat (refine And.intro (of_decide_eq_true rfl) ?_)
              refine eDraw_pre 8 (st90i nn items id most d x y n 1 s l (.loc 20 5 0 1) false [(20, ⟨true, true, 5, [encT (kidT items x y n l 0)]⟩)] 21 (0, ↑i, some (es ++ [enc1 l[i]], ln + 1))) rfl (by kernel_rfl) ?_ ?_
              · repeat (refine And.intro (of_decide_eq_true rfl) ?_)
                refine And.intro (ix_ok hlt) ?_
                rw [ix_get hlt]
                repeat (refine And.intro (of_decide_eq_true rfl) ?_)
                refine eApp_grow tiI [enc1 l[i]] true ⟨true, true, 1, es⟩ app29 rfl rfl rfl rfl (Nat.zero_le _) rfl ((Nat.zero_add ln).trans hln) (by simp [tiI]; omega) ?_
                repeat (refine And.intro (of_decide_eq_true rfl) ?_)
                exact weak_in0 [1, 2, 4, 5, 6, 9, 12, 15, 16, 17] [0, 1, 2, 20, 21, 23] 24 rfl rfl
              repeat (refine And.intro (of_decide_eq_true rfl) ?_)
              refine ⟨(i + 1, IntKind.i64.wrap (↑i + 1), some (es ++ [enc1 l[i]], ln + 1)), weak_in0 [1, 2, 4, 5, 6, 9, 12, 15, 16, 17] [0, 1, 2, 20, 21, 23] 24 rfl rfl, ⟨hlt, wrap_succ (by omega), ?_⟩, by simp only; omega⟩
              rw [kidL_succ _ _ _ _ _ _ hlt, if_pos g2]
              cases hq : kidL items x y n (l.take i) 1 with
              | nil => exact absurd hq hne
              | cons a r => rw [hq] at hes; rw [hln, hes]; simp [opt]
            · have g2 : meetsT (.leaf (kx 1 x n) (ky 1 y n) (half n) []) (segOfId items l[i]) = false := g2
              repeat (refine And.intro (of_decide_eq_true rfl) ?_)
              refine ⟨(i + 1, IntKind.i64.wrap (↑i + 1), some (es, ln)), weak_in0 [1, 2, 4, 5, 6, 9, 12, 15, 16, 17] [0, 1, 2, 20, 21, 23] 24 rfl rfl, ⟨hlt, wrap_succ (by omega), ?_⟩, by simp only; omega⟩
              rw [kidL_succ _ _ _ _ _ _ hlt, if_neg (by rw [g2]; simp), List.append_nil]
              exact ho
          · have hge : i = l.length := by have := of_decide_eq_false g; simp at this; omega
            subst hge
            rw [List.take_length] at ho
            rw [List.take_length] at hes hne
            repeat (refine And.intro (of_decide_eq_true rfl) ?_)
            refine eApp_grow tiB [[i64 (kx 1 x n), i64 (ky 1 y n), i64 (half n), .e true, .loc 23 1 0 ln]] false ⟨true, true, 5, [encT (kidT items x y n l 0)]⟩ app95 rfl rfl rfl rfl (Nat.zero_le _) rfl rfl (of_decide_eq_true rfl) ?_
            repeat (refine And.intro (of_decide_eq_true rfl) ?_)
            refine ⟨(2, IntKind.i64.wrap (1 + 1), [encT (kidT items x y n l 0), encT (.leaf (kx 1 x n) (ky 1 y n) (half n) (kidL items x y n l 1))], 2), Weak.trans (weak_in0 (S' := ⟨125, 0, sl90 nn items id most d (IntKind.i64.wrap (1 + 1)), ob90 x y n s l (.loc 20 5 0 2) false ++ [(20, ⟨true, false, 5, [encT (kidT items x y n l 0), [i64 (kx 1 x n), i64 (ky 1 y n), i64 (half n), .e true, .loc 23 1 0 ln]]⟩), (23, ⟨true, true, 1, es⟩)], 24⟩) [1, 2, 4, 5, 6, 9, 12, 15] [0, 1, 2, 20, 23] 24 rfl rfl) (Weak.trans (weak_frz [23] rfl) (Weak.trans (weak_seal (l := 20) rfl ([encT (kidT items x y n l 0), encT (.leaf (kx 1 x n) (ky 1 y n) (half n) (kidL items x y n l 1))]) (.cons (.refl rfl) (.cons (seal_kid1 _ _ _ _ es hes rfl hln) .nil))) (weak_in0 [1, 2, 4, 5, 6, 9, 12, 15] [0, 1, 2, 20] 21 rfl rfl))), ⟨by omega, rfl, ?_, rfl⟩, by simp⟩
            rfl
    · have hks' : ks = [encT (kidT items x y n l 0), encT (kidT items x y n l 1)] := hks
      subst hks'
      have hkl' : kl = 2 := hkl
      subst hkl'
      have hjv' : jv = 2 := hjv
      subst hjv'
      · repeat (refine And.intro (of_decide_eq_true rfl) ?_)
        refine eLoop_pre (st90i nn items id most d x y n 2 s l (.loc 20 5 0 2) false [(20, ⟨true, true, 5, [encT (kidT items x y n l 0), encT (kidT items x y n l 1)]⟩)] 21) (fun a => a.1 ≤ l.length ∧ a.2.1 = a.1 ∧ a.2.2 = opt (kidL items x y n (l.take a.1) 2)) (fun a => l.length - a.1) (0, 0, none) (weak_in0 [1, 2, 4, 5, 6, 9, 12, 15, 16, 17] [0, 1, 2, 20, 21] 22 rfl rfl) ⟨Nat.zero_le _, rfl, rfl⟩ ?_
        rintro ⟨i, iv, o⟩ ⟨hi, hiv, ho⟩
        simp only at hi hiv ho
        subst hiv
        cases o with
        | none =>
          repeat (refine And.intro (of_decide_eq_true rfl) ?_)
          refine bc_split (fun g => ?_) (fun g => ?_)
          · have hlt : i < l.length := by have := of_decide_eq_true g; simp at this; omega
            repeat (refine And.intro (of_decide_eq_true rfl) ?_)
            refine eDraw_ok ?_
            repeat (refine And.intro (of_decide_eq_true rfl) ?_)
            refine And.intro (ix_ok hlt) ?_
            rw [ix_get hlt]
            repeat (refine And.intro (of_decide_eq_true rfl) ?_)
            refine dCall_flat [] (spec_Seg nn items l[i] hI) rfl rfl rfl ?_
            refine dCall_flat [] (meets_kid0 _ _ _ (segOfId items l[i])) rfl rfl rfl ?_
            repeat (refine And.intro (of_decide_eq_true rfl) ?_)
            refine bc_split (fun g2 => ?_) (fun g2 => ?_)
            · have g2 : meetsT (.leaf (kx 2 x n) (ky 2 y n) (half n) []) (segOfId items l[i]) = true := g2
              repeat (refine And.intro (of_decide_eq_true rfl) ?_)
              refine eDraw_pre 8 (st90i nn items id most d x y n 2 s l (.loc 20 5 0 2) false [(20, ⟨true, true, 5, [encT (kidT items x y n l 0), encT (kidT items x y n l 1)]⟩)] 21 (0, ↑i, some ([enc1 l[i]], 1))) rfl (by kernel_rfl) ?_ ?_
              · repeat (refine And.intro (of_decide_eq_true rfl) ?_)
                refine And.intro (ix_ok hlt) ?_
                rw [ix_get hlt]
                repeat (refine And.intro (of_decide_eq_true rfl) ?_)
                refine eApp_new tiI [enc1 l[i]] true app29 rfl (List.cons_ne_nil _ _) (of_decide_eq_true rfl) ?_
                repeat (refine And.intro (of_decide_eq_true rfl) ?_)
                exact weak_in0 [1, 2, 4, 5, 6, 9, 12, 15, 16, 17] [0, 1, 2, 20, 21, 23] 24 rfl rfl
              repeat (refine And.intro (of_decide_eq_true rfl) ?_)
              refine ⟨(i + 1, IntKind.i64.wrap (↑i + 1), some ([enc1 l[i]], 1)), weak_in0 [1, 2, 4, 5, 6, 9, 12, 15, 16, 17] [0, 1, 2, 20, 21, 23] 24 rfl rfl, ⟨hlt, wrap_succ (by omega), ?_⟩, by simp only; omega⟩
              rw [kidL_succ _ _ _ _ _ _ hlt, if_pos g2]
              cases hq : kidL items x y n (l.take i) 2 with
              | nil => rfl
              | cons a r => rw [hq] at ho; cases ho
            · have g2 : meetsT (.leaf (kx 2 x n) (ky 2 y n) (half n) []) (segOfId items l[i]) = false := g2
              repeat (refine And.intro (of_decide_eq_true rfl) ?_)
              refine ⟨(i + 1, IntKind.i64.wrap (↑i + 1), none), weak_in0 [1, 2, 4, 5, 6, 9, 12, 15, 16, 17] [0, 1, 2, 20, 21] 22 rfl rfl, ⟨hlt, wrap_succ (by omega), ?_⟩, by simp only; omega⟩
              rw [kidL_succ _ _ _ _ _ _ hlt, if_neg (by rw [g2]; simp), List.append_nil]
              exact ho
          · have hge : i = l.length := by have := of_decide_eq_false g; simp at this; omega
            subst hge
            rw [List.take_length] at ho
            repeat (refine And.intro (of_decide_eq_true rfl) ?_)
            refine eApp_grow tiB [[i64 (kx 2 x n), i64 (ky 2 y n), i64 (half n), .e true, .e true]] true ⟨true, true, 5, [encT (kidT items x y n l 0), encT (kidT items x y n l 1)]⟩ app95 rfl rfl rfl rfl (Nat.zero_le _) rfl rfl (of_decide_eq_true rfl) ?_
            repeat (refine And.intro (of_decide_eq_true rfl) ?_)
            refine ⟨(3, IntKind.i64.wrap (2 + 1), [encT (kidT items x y n l 0), encT (kidT items x y n l 1), encT (.leaf (kx 2 x n) (ky 2 y n) (half n) [])], 3), Weak.trans (weak_in0 (S' := ⟨125, 0, sl90 nn items id most d (IntKind.i64.wrap (2 + 1)), ob90 x y n s l (.loc 20 5 0 3) false ++ [(20, ⟨true, true, 5, [encT (kidT items x y n l 0), encT (kidT items x y n l 1), [i64 (kx 2 x n), i64 (ky 2 y n), i64 (half n), .e true, .e true]]⟩)], 21⟩) [1, 2, 4, 5, 6, 9, 12, 15] [0, 1, 2, 20] 21 rfl rfl) (Weak.trans (weak_seal (l := 20) rfl ([encT (kidT items x y n l 0), encT (kidT items x y n l 1), encT (.leaf (kx 2 x n) (ky 2 y n) (half n) [])]) (.cons (.refl rfl) (.cons (.refl rfl) (.cons (seal_kid0 _ _ _) .nil)))) (weak_in0 [1, 2, 4, 5, 6, 9, 12, 15] [0, 1, 2, 20] 21 rfl rfl)), ⟨by omega, rfl, ?_, rfl⟩, by simp⟩
            simp only [kidsTo, List.range_succ, List.range_zero, List.nil_append, List.cons_append, List.map_cons, List.map_nil]
            show _ = [encT (kidT items x y n l 0), encT (kidT items x y n l 1), encT (kidT items x y n l 2)]
            have : kidL items x y n l 2 = [] := by
              cases hq : kidL items x y n l 2 with
              | nil => rfl
              | cons a r => rw [hq] at ho; cases ho
            simp only [kidT, this]
        | some p =>
          obtain ⟨es, ln⟩ := p
          have hq : (es = (kidL items x y n (l.take i) 2).map enc1 ∧ ln = es.length) ∧ kidL items x y n (l.take i) 2 ≠ [] := by
            cases hq : kidL items x y n (l.take i) 2 with
            | nil => rw [hq] at ho; cases ho
            | cons a r =>
              rw [hq] at ho
              have := Option.some.inj ho
              simp only [Prod.mk.injEq] at this
              exact ⟨⟨this.1, by rw [this.2, this.1]⟩, List.cons_ne_nil _ _⟩
          obtain ⟨⟨hes, hln⟩, hne⟩ := hq
          have hle : es.length ≤ i := by
            rw [hes, List.length_map]; unfold kidL
            refine Nat.le_trans (List.length_filter_le _ _) ?_
            rw [List.length_take]; omega
          repeat (refine And.intro (of_decide_eq_true rfl) ?_)
          refine bc_split (fun g => ?_) (fun g => ?_)
          · have hlt : i < l.length := by have := of_decide_eq_true g; simp at this; omega
            repeat (refine And.intro (of_decide_eq_true rfl) ?_)
            refine eDraw_ok ?_
            repeat (refine And.intro (of_decide_eq_true rfl) ?_)
            refine And.intro (ix_ok hlt) ?_
            rw [ix_get hlt]
            repeat (refine And.intro (of_decide_eq_true rfl) ?_)
            refine dCall_flat [] (spec_Seg nn items l[i] hI) rfl rfl rfl ?_
            refine dCall_flat [23] (meets_kid1 _ _ _ (segOfId items l[i]) (kidL items x y n (l.take i) 2) es hes) rfl (vwL_cons (vw_agg (vwL_cons rfl (vwL_cons rfl (vwL_cons rfl (vwL_cons rfl (vwL_cons (vw_rowE rfl rfl rfl hln) vwL_nil)))))) (vwL_cons rfl vwL_nil)) rfl ?_
            repeat (refine And.intro (of_decide_eq_true rfl) ?_)
            refine bc_split (fun g2 => ?_) (fun g2 => ?_)
            · have g2 : meetsT (.leaf (kx 2 x n) (ky 2 y n) (half n) []) (segOfId items l[i]) = true := g2
              repeat (refine And.intro (of_decide_eq_true rfl) ?_)
              refine eDraw_pre 8 (st90i nn items id most d x y n 2 s l (.loc 20 5 0 2) false [(20, ⟨true, true, 5, [encT (kidT items x y n l 0), encT (kidT items x y n l 1)]⟩)] 21 (0, ↑i, some (es ++ [enc1 l[i]], ln + 1))) rfl (by kernel_rfl) ?_ ?_
              · repeat (refine And.intro (of_decide_eq_true rfl) ?_)
                refine And.intro (ix_ok hlt) ?_
                rw [ix_get hlt]
                repeat (refine And.intro (of_decide_eq_true rfl) ?_)
                refine eApp_grow tiI [enc1 l[i]] true ⟨true, true, 1, es⟩ app29 rfl rfl rfl rfl (Nat.zero_le _) rfl ((Nat.zero_add ln).trans hln) (by simp [tiI]; omega) ?_
                repeat (refine And.intro (of_decide_eq_true rfl) ?_)
                exact weak_in0 [1, 2, 4, 5, 6, 9, 12, 15, 16, 17] [0, 1, 2, 20, 21, 23] 24 rfl rfl
              repeat (refine And.intro (of_decide_eq_true rfl) ?_)
              refine ⟨(i + 1, IntKind.i64.wrap (↑i + 1), some (es ++ [enc1 l[i]], ln + 1)), weak_in0 [1, 2, 4, 5, 6, 9, 12, 15, 16, 17] [0, 1, 2, 20, 21, 23] 24 rfl rfl, ⟨hlt, wrap_succ (by omega), ?_⟩, by simp only; omega⟩
              rw [kidL_succ _ _ _ _ _ _ hlt, if_pos g2]
              cases hq : kidL items x y n (l.take i) 2 with
              | nil => exact absurd hq hne
              | cons a r => rw [hq] at hes; rw [hln, hes]; simp [opt]
            · have g2 : meetsT (.leaf (kx 2 x n) (ky 2 y n) (half n) []) (segOfId items l[i]) = false := g2
              repeat (refine And.intro (of_decide_eq_true rfl) ?_)
              refine ⟨(i + 1, IntKind.i64.wrap (↑i + 1), some (es, ln)), weak_in0 [1, 2, 4, 5, 6, 9, 12, 15, 16, 17] [0, 1, 2, 20, 21, 23] 24 rfl rfl, ⟨hlt, wrap_succ (by omega), ?_⟩, by simp only; omega⟩
              rw [kidL_succ _ _ _ _ _ _ hlt, if_neg (by rw [g2]; simp), List.append_nil]
              exact ho
          · have hge : i = l.length := by have := of_decide_eq_false g; simp at this; omega
            subst hge
            rw [List.take_length] at ho
            rw [List.take_length] at hes hne
            repeat (refine And.intro (of_decide_eq_true rfl) ?_)
            refine eApp_grow tiB [[i64 (kx 2 x n), i64 (ky 2 y n), i64 (half n), .e true, .loc 23 1 0 ln]] false ⟨true, true, 5, [encT (kidT items x y n l 0), encT (kidT items x y n l 1)]⟩ app95 rfl rfl rfl rfl (Nat.zero_le _) rfl rfl (of_decide_eq_true rfl) ?_
            repeat (refine And.intro (of_decide_eq_true rfl) ?_)
            refine ⟨(3, IntKind.i64.wrap (2 + 1), [encT (kidT items x y n l 0), encT (kidT items x y n l 1), encT (.leaf (kx 2 x n) (ky 2 y n) (half n) (kidL items x y n l 2))], 3), Weak.trans (weak_in0 (S' := ⟨125, 0, sl90 nn items id most d (IntKind.i64.wrap (2 + 1)), ob90 x y n s l (.loc 20 5 0 3) false ++ [(20, ⟨true, false, 5, [encT (kidT items x y n l 0), encT (kidT items x y n l 1), [i64 (kx 2 x n), i64 (ky 2 y n), i64 (half n), .e true, .loc 23 1 0 ln]]⟩), (23, ⟨true, true, 1, es⟩)], 24⟩) [1, 2, 4, 5, 6, 9, 12, 15] [0, 1, 2, 20, 23] 24 rfl rfl) (Weak.trans (weak_frz [23] rfl) (Weak.trans (weak_seal (l := 20) rfl ([encT (kidT items x y n l 0), encT (kidT items x y n l 1), encT (.leaf (kx 2 x n) (ky 2 y n) (half n) (kidL items x y n l 2))]) (.cons (.refl rfl) (.cons (.refl rfl) (.cons (seal_kid1 _ _ _ _ es hes rfl hln) .nil)))) (weak_in0 [1, 2, 4, 5, 6, 9, 12, 15] [0, 1, 2, 20] 21 rfl rfl))), ⟨by omega, rfl, ?_, rfl⟩, by simp⟩
            rfl
    · have hks' : ks = [encT (kidT items x y n l 0), encT (kidT items x y n l 1), encT (kidT items x y n l 2)] := hks
      subst hks'
      have hkl' : kl = 3 := hkl
      subst hkl'
      have hjv' : jv = 3 := hjv
      subst hjv'
      · repeat (refine And.intro (of_decide_eq_true rfl) ?_)
        refine eLoop_pre (st90i nn items id most d x y n 3 s l (.loc 20 5 0 3) false [(20, ⟨true, true, 5, [encT (kidT items x y n l 0), encT (kidT items x y n l 1), encT (kidT items x y n l 2)]⟩)] 21) (fun a => a.1 ≤ l.length ∧ a.2.1 = a.1 ∧ a.2.2 = opt (kidL items x y n (l.take a.1) 3)) (fun a => l.length - a.1) (0, 0, none) (weak_in0 [1, 2, 4, 5, 6, 9, 12, 15, 16, 17] [0, 1, 2, 20, 21] 22 rfl rfl) ⟨Nat.zero_le _, rfl, rfl⟩ ?_
        rintro ⟨i, iv, o⟩ ⟨hi, hiv, ho⟩
        simp only at hi hiv ho
        subst hiv
        cases o with
        | none =>
          repeat (refine And.intro (of_decide_eq_true rfl) ?_)
          refine bc_split (fun g => ?_) (fun g => ?_)
          · have hlt : i < l.length := by have := of_decide_eq_true g; simp at this; omega
            repeat (refine And.intro (of_decide_eq_true rfl) ?_)
            refine eDraw_ok ?_
            repeat (refine And.intro (of_decide_eq_true rfl) ?_)
            refine And.intro (ix_ok hlt) ?_
            rw [ix_get hlt]
            repeat (refine And.intro (of_decide_eq_true rfl) ?_)
            refine dCall_flat [] (spec_Seg nn items l[i] hI) rfl rfl rfl ?_
            refine dCall_flat [] (meets_kid0 _ _ _ (segOfId items l[i])) rfl rfl rfl ?_
            repeat (refine And.intro (of_decide_eq_true rfl) ?_)
            refine bc_split (fun g2 => ?_) (fun g2 => ?_)
            · have g2 : meetsT (.leaf (kx 3 x n) (ky 3 y n) (half n) []) (segOfId items l[i]) = true := g2
              repeat (refine And.intro (of_decide_eq_true rfl) ?_)
              refine eDraw_pre 8 (st90i nn items id most d x y n 3 s l (.loc 20 5 0 3) false [(20, ⟨true, true, 5, [encT (kidT items x y n l 0), encT (kidT items x y n l 1), encT (kidT items x y n l 2)]⟩)] 21 (0, ↑i, some ([enc1 l[i]], 1))) rfl (by kernel_rfl) ?_ ?_
              · repeat (refine And.intro (of_decide_eq_true rfl) ?_)
                refine And.intro (ix_ok hlt) ?_
                rw [ix_get hlt]
                repeat (refine And.intro (of_decide_eq_true rfl) ?_)
                refine eApp_new tiI [enc1 l[i]] true app29 rfl (List.cons_ne_nil _ _) (of_decide_eq_true rfl) ?_
                repeat (refine And.intro (of_decide_eq_true rfl) ?_)
                exact weak_in0 [1, 2, 4, 5, 6, 9, 12, 15, 16, 17] [0, 1, 2, 20, 21, 23] 24 rfl rfl
              repeat (refine And.intro (of_decide_eq_true rfl) ?_)
              refine ⟨(i + 1, IntKind.i64.wrap (↑i + 1), some ([enc1 l[i]], 1)), weak_in0 [1, 2, 4, 5, 6, 9, 12, 15, 16, 17] [0, 1, 2, 20, 21, 23] 24 rfl rfl, ⟨hlt, wrap_succ (by omega), ?_⟩, by simp only; omega⟩
              rw [kidL_succ _ _ _ _ _ _ hlt, if_pos g2]
              cases hq : kidL items x y n (l.take i) 3 with
              | nil => rfl
              | cons a r => rw [hq] at ho; cases ho
            · have g2 : meetsT (.leaf (kx 3 x n) (ky 3 y n) (half n) []) (segOfId items l[i]) = false := g2
              repeat (refine And.intro (of_decide_eq_true rfl) ?_)
              refine ⟨(i + 1, IntKind.i64.wrap (↑i + 1), none), weak_in0 [1, 2, 4, 5, 6, 9, 12, 15, 16, 17] [0, 1, 2, 20, 21] 22 rfl rfl, ⟨hlt, wrap_succ (by omega), ?_⟩, by simp only; omega⟩
              rw [kidL_succ _ _ _ _ _ _ hlt, if_neg (by rw [g2]; simp), List.append_nil]
              exact ho
          · have hge : i = l.length := by have := of_decide_eq_false g; simp at this; omega
            subst hge
            rw [List.take_length] at ho
            repeat (refine And.intro (of_decide_eq_true rfl) ?_)
            refine eApp_grow tiB [[i64 (kx 3 x n), i64 (ky 3 y n), i64 (half n), .e true, .e true]] true ⟨true, true, 5, [encT (kidT items x y n l 0), encT (kidT items x y n l 1), encT (kidT items x y n l 2)]⟩ app95 rfl rfl rfl rfl (Nat.zero_le _) rfl rfl (of_decide_eq_true rfl) ?_
            repeat (refine And.intro (of_decide_eq_true rfl) ?_)
            refine ⟨(4, IntKind.i64.wrap (3 + 1), [encT (kidT items x y n l 0), encT (kidT items x y n l 1), encT (kidT items x y n l 2), encT (.leaf (kx 3 x n) (ky 3 y n) (half n) [])], 4), Weak.trans (weak_in0 (S' := ⟨125, 0, sl90 nn items id most d (IntKind.i64.wrap (3 + 1)), ob90 x y n s l (.loc 20 5 0 4) false ++ [(20, ⟨true, true, 5, [encT (kidT items x y n l 0), encT (kidT items x y n l 1), encT (kidT items x y n l 2), [i64 (kx 3 x n), i64 (ky 3 y n), i64 (half n), .e true, .e true]]⟩)], 21⟩) [1, 2, 4, 5, 6, 9, 12, 15] [0, 1, 2, 20] 21 rfl rfl) (Weak.trans (weak_seal (l := 20) rfl ([encT (kidT items x y n l 0), encT (kidT items x y n l 1), encT (kidT items x y n l 2), encT (.leaf (kx 3 x n) (ky 3 y n) (half n) [])]) (.cons (.refl rfl) (.cons (.refl rfl) (.cons (.refl rfl) (.cons (seal_kid0 _ _ _) .nil))))) (weak_in0 [1, 2, 4, 5, 6, 9, 12, 15] [0, 1, 2, 20] 21 rfl rfl)), ⟨by omega, rfl, ?_, rfl⟩, by simp⟩
            simp only [kidsTo, List.range_succ, List.range_zero, List.nil_append, List.cons_append, List.map_cons, List.map_nil]
            show _ = [encT (kidT items x y n l 0), encT (kidT items x y n l 1), encT (kidT items x y n l 2), encT (kidT items x y n l 3)]
            have : kidL items x y n l 3 = [] := by
              cases hq : kidL items x y n l 3 with
              | nil => rfl
              | cons a r => rw [hq] at ho; cases ho
            simp only [kidT, this]
        | some p =>
          obtain ⟨es, ln⟩ := p
          have hq : (es = (kidL items x y n (l.take i) 3).map enc1 ∧ ln = es.length) ∧ kidL items x y n (l.take i) 3 ≠ [] := by
            cases hq : kidL items x y n (l.take i) 3 with
            | nil => rw [hq] at ho; cases ho
            | cons a r =>
              rw [hq] at ho
              have := Option.some.inj ho
              simp only [Prod.mk.injEq] at this
              exact ⟨⟨this.1, by rw [this.2, this.1]⟩, List.cons_ne_nil _ _⟩
          obtain ⟨⟨hes, hln⟩, hne⟩ := hq
          have hle : es.length ≤ i := by
            rw [hes, List.length_map]; unfold kidL
            refine Nat.le_trans (List.length_filter_le _ _) ?_
            rw [List.length_take]; omega
          repeat (refine And.intro (of_decide_eq_true rfl) ?_)
          refine bc_split (fun g => ?_) (fun g => ?_)
          · have hlt : i < l.length := by have := of_decide_eq_true g; simp at this; omega
            repeat (refine And.intro (of_decide_eq_true rfl) ?_)
            refine eDraw_ok ?_
            repeat (refine And.intro (of_decide_eq_true rfl) ?_)
            refine And.intro (ix_ok hlt) ?_
            rw [ix_get hlt]
            repeat (refine And.intro (of_decide_eq_true rfl) ?_)
            refine dCall_flat [] (spec_Seg nn items l[i] hI) rfl rfl rfl ?_
            refine dCall_flat [23] (meets_kid1 _ _ _ (segOfId items l[i]) (kidL items x y n (l.take i) 3) es hes) rfl (vwL_cons (vw_agg (vwL_cons rfl (vwL_cons rfl (vwL_cons rfl (vwL_cons rfl (vwL_cons (vw_rowE rfl rfl rfl hln) vwL_nil)))))) (vwL_cons rfl vwL_nil)) rfl ?_
            repeat (refine And.intro (of_decide_eq_true rfl) ?_)
            refine bc_split (fun g2 => ?_) (fun g2 => ?_)
            · have g2 : meetsT (.leaf (kx 3 x n) (ky 3 y n) (half n) []) (segOfId items l[i]) = true := g2
              repeat (refine And.intro (of_decide_eq_true rfl) ?_)
              refine eDraw_pre 8 (st90i nn items id most d x y n 3 s l (.loc 20 5 0 3) false [(20, ⟨true, true, 5, [encT (kidT items x y n l 0), encT (kidT items x y n l 1), encT (kidT items x y n l 2)]⟩)] 21 (0, ↑i, some (es ++ [enc1 l[i]], ln + 1))) rfl (by kernel_rfl) ?_ ?_
              · repeat (refine And.intro (of_decide_eq_true rfl) ?_)
                refine And.intro (ix_ok hlt) ?_
                rw [ix_get hlt]
                repeat (refine And.intro (of_decide_eq_true rfl) ?_)
                refine eApp_grow tiI [enc1 l[i]] true ⟨true, true, 1, es⟩ app29 rfl rfl rfl rfl (Nat.zero_le _) rfl ((Nat.zero_add ln).trans hln) (by simp [tiI]; omega) ?_
                repeat (refine And.intro (of_decide_eq_true rfl) ?_)
                exact weak_in0 [1, 2, 4, 5, 6, 9, 12, 15, 16, 17] [0, 1, 2, 20, 21, 23] 24 rfl rfl
              repeat (refine And.intro (of_decide_eq_true rfl) ?_)
              refine ⟨(i + 1, IntKind.i64.wrap (↑i + 1), some (es ++ [enc1 l[i]], ln + 1)), weak_in0 [1, 2, 4, 5, 6, 9, 12, 15, 16, 17] [0, 1, 2, 20, 21, 23] 24 rfl rfl, ⟨hlt, wrap_succ (by omega), ?_⟩, by simp only; omega⟩
              rw [kidL_succ _ _ _ _ _ _ hlt, if_pos g2]
              cases hq : kidL items x y n (l.take i) 3 with
              | nil => exact absurd hq hne
              | cons a r => rw [hq] at hes; rw [hln, hes]; simp [opt]
            · have g2 : meetsT (.leaf (kx 3 x n) (ky 3 y n) (half n) []) (segOfId items l[i]) = false := g2
              repeat (refine And.intro (of_decide_eq_true rfl) ?_)
              refine ⟨(i + 1, IntKind.i64.wrap (↑i + 1), some (es, ln)), weak_in0 [1, 2, 4, 5, 6, 9, 12, 15, 16, 17] [0, 1, 2, 20, 21, 23] 24 rfl rfl, ⟨hlt, wrap_succ (by omega), ?_⟩, by simp only; omega⟩
              rw [kidL_succ _ _ _ _ _ _ hlt, if_neg (by rw [g2]; simp), List.append_nil]
              exact ho
          · have hge : i = l.length := by have := of_decide_eq_false g; simp at this; omega
            subst hge
            rw [List.take_length] at ho
            rw [List.take_length] at hes hne
            repeat (refine And.intro (of_decide_eq_true rfl) ?_)
            refine eApp_grow tiB [[i64 (kx 3 x n), i64 (ky 3 y n), i64 (half n), .e true, .loc 23 1 0 ln]] false ⟨true, true, 5, [encT (kidT items x y n l 0), encT (kidT items x y n l 1), encT (kidT items x y n l 2)]⟩ app95 rfl rfl rfl rfl (Nat.zero_le _) rfl rfl (of_decide_eq_true rfl) ?_
            repeat (refine And.intro (of_decide_eq_true rfl) ?_)
            refine ⟨(4, IntKind.i64.wrap (3 + 1), [encT (kidT items x y n l 0), encT (kidT items x y n l 1), encT (kidT items x y n l 2), encT (.leaf (kx 3 x n) (ky 3 y n) (half n) (kidL items x y n l 3))], 4), Weak.trans (weak_in0 (S' := ⟨125, 0, sl90 nn items id most d (IntKind.i64.wrap (3 + 1)), ob90 x y n s l (.loc 20 5 0 4) false ++ [(20, ⟨true, false, 5, [encT (kidT items x y n l 0), encT (kidT items x y n l 1), encT (kidT items x y n l 2), [i64 (kx 3 x n), i64 (ky 3 y n), i64 (half n), .e true, .loc 23 1 0 ln]]⟩), (23, ⟨true, true, 1, es⟩)], 24⟩) [1, 2, 4, 5, 6, 9, 12, 15] [0, 1, 2, 20, 23] 24 rfl rfl) (Weak.trans (weak_frz [23] rfl) (Weak.trans (weak_seal (l := 20) rfl ([encT (kidT items x y n l 0), encT (kidT items x y n l 1), encT (kidT items x y n l 2), encT (.leaf (kx 3 x n) (ky 3 y n) (half n) (kidL items x y n l 3))]) (.cons (.refl rfl) (.cons (.refl rfl) (.cons (.refl rfl) (.cons (seal_kid1 _ _ _ _ es hes rfl hln) .nil))))) (weak_in0 [1, 2, 4, 5, 6, 9, 12, 15] [0, 1, 2, 20] 21 rfl rfl))), ⟨by omega, rfl, ?_, rfl⟩, by simp⟩
            rfl
    · have hks' : ks = [encT (kidT items x y n l 0), encT (kidT items x y n l 1), encT (kidT items x y n l 2), encT (kidT items x y n l 3)] := hks
      have hkl' : kl = 4 := by rw [hkl, hks]; rfl
      subst hks' hkl'
      refine bc_split (fun g0 => ?_) (fun g0 => ?_)
      · exact absurd (of_decide_eq_true g0) (by rw [hjv]; decide)
      repeat (refine And.intro (of_decide_eq_true rfl) ?_)
      refine ret_lax (by first | exact .inr rfl | exact .inl rfl) rfl (vw_agg (vwL_cons rfl (vwL_cons rfl (vwL_cons rfl (vwL_cons (vw_rowE rfl rfl rfl rfl) (vwL_cons rfl vwL_nil)))))) ?_
      exact .aggL (.cons (.refl _) (.cons (.refl _) (.cons (.refl _) (.cons (.ne _ _ _ _) (.cons lax_nilS .nil)))))
end Go.Proofs.Ytendgiieolkleaa

/- The reference puts a segment into a tree, and writes a tree down. -/
namespace Go.Proofs.Ytendgiieolkleaa
open Go.Aw
set_option maxHeartbeats 1000000
set_option maxRecDepth 100000
set_option linter.unusedSimpArgs false
set_option linter.unusedVariables false
theorem put_no (nn : Bool) (items : List Item) (id most d : Int) (s : Int × Int × Int × Int) (t : Tr) (h : meetsT t s = false) :
    Fun G0 90 [.agg (encT t), .sl nn 5 (items.map encI), i64 id, encS s, i64 most, i64 d] [] (.agg (encT t)) [] := by
  refine spec_ewL (G := G0) (fid := 90) (fn := Try.f90) Try.func90 (by kernel_rfl) rfl (by kernel_rfl) ?_
  repeat (refine And.intro (of_decide_eq_true rfl) ?_)
  refine eCall_flat (spec_Meets t s) rfl rfl ?_
  refine bc_split (fun g => ?_) (fun g => ?_)
  · repeat (refine And.intro (of_decide_eq_true rfl) ?_)
    exact ret_eq (by first | exact .inr rfl | exact .inl rfl) rfl rfl (rfl)
  · exact absurd (show (!meetsT t s) = false from g) (by rw [h]; simp)
theorem spec_Put (nn : Bool) (items : List Item) (id most : Int) (s : Int × Int × Int × Int) (hI : items.length ≤ 1048576) : ∀ (t : Tr) (d : Int), (∀ l ∈ t.leaves, l.length ≤ 1048576) →
    Fun G0 90 [.agg (encT t), .sl nn 5 (items.map encI), i64 id, encS s, i64 most, i64 d] [] (.agg (encT (putT items id s most d t))) [] := by
  intro t
  induction t with
  | leaf x y n ids => intro d hl; exact put_leaf nn items id most d s x y n ids hI (hl ids (by simp [Tr.leaves]))
  | node x y n a b c e iha ihb ihc ihe =>
    intro d hl
    simp only [Tr.leaves, List.mem_append] at hl
    cases hm : meetsT (.node x y n a b c e) s with
    | false =>
      have := put_no nn items id most d s _ hm
      simp only [putT, hm, if_true]
      exact this
    | true =>
      simp only [putT, hm, Bool.true_eq_false, if_false]
      exact put_node nn items id most d s x y n a b c e _ _ _ _ hm (iha _ fun l q => hl l (by simp [q])) (ihb _ fun l q => hl l (by simp [q])) (ihc _ fun l q => hl l (by simp [q])) (ihe _ fun l q => hl l (by simp [q]))
def writeT : Tr → List Blok
  | .leaf x y n ids => [(x, y, n, false, ids)]
  | .node x y n a b c d => (x, y, n, true, []) :: (((writeT a ++ writeT b) ++ writeT c) ++ writeT d)
def tiK : TI := ⟨.struct, 5, 56, [.int .i64 0, .int .i64 0, .int .i64 0, .bool false, .slice none 0 0], [(0, 1), (1, 1), (2, 1), (3, 1), (4, 1)]⟩
theorem app33 : appTy G0 #[33, 33] = some tiK := by kernel_rfl
theorem lax_rows_cons {nn : Bool} {sz : Nat} {r r' : List AV} {es : List (List AV)} (h : LaxL r r') (h1 : r'.length = sz) (h2 : ∀ e ∈ es, e.length = sz) : Lax (.sl nn sz (r :: es)) (.sl nn sz (r' :: es)) :=
  .rows rfl (fun i hi => by
    cases i with
    | zero => exact h
    | succ i => simp only [List.getD_cons_succ]; exact .refl _) (by
    intro e he
    rcases List.mem_cons.1 he with rfl | he
    · exact h1
    · exact h2 e he)
theorem encB_len (l : List Blok) : ∀ e ∈ l.map encB, e.length = 5 := by
  intro e he
  obtain ⟨b, _, rfl⟩ := List.mem_map.1 he; rfl
def st71 (t : Tr) (i : Int) (ln : Nat) (es : List (List AV)) : St := ⟨43, 0, [(1, .ptr 0 0 0), (3, .loc 1 5 0 ln), (4, i64 i)], [(0, ⟨true, true, 5, [encT t]⟩), (1, ⟨true, true, 5, es⟩)], 2⟩
theorem spec_Write : ∀ (t : Tr), (writeT t).length ≤ 268435456 → Fun G0 71 [.agg (encT t)] [] (.sl false 5 ((writeT t).map encB)) [] := by
  intro t
  induction t with
  | leaf x y n ids =>
    intro _
    refine spec_ewL (G := G0) (fid := 71) (fn := Try.f71) Try.func71 (by kernel_rfl) rfl (by kernel_rfl) ?_
    repeat (refine And.intro (of_decide_eq_true rfl) ?_)
    exact ret_eq (by first | exact .inr rfl | exact .inl rfl) rfl rfl (rfl)
  | node x y n a b c d iha ihb ihc ihd =>
    intro h
    simp only [writeT, List.length_cons, List.length_append] at h
    have ha := iha (by omega)
    have hb := ihb (by omega)
    have hc := ihc (by omega)
    have hd := ihd (by omega)
    have hw : Lax (.sl false 5 ([i64 x, i64 y, i64 n, bo true, .e true] :: (((writeT a).map encB ++ (writeT b).map encB) ++ (writeT c).map encB) ++ (writeT d).map encB)) (.sl false 5 ((writeT (.node x y n a b c d)).map encB)) := by
      have : (writeT (.node x y n a b c d)).map encB = encB (x, y, n, true, []) :: ((((writeT a).map encB ++ (writeT b).map encB) ++ (writeT c).map encB) ++ (writeT d).map encB) := by
        simp only [writeT, List.map_cons, List.map_append]
      rw [this]
      have hz := encB_len (((writeT a ++ writeT b) ++ writeT c) ++ writeT d)
      simp only [List.map_append] at hz
      exact lax_rows_cons (.cons (.refl _) (.cons (.refl _) (.cons (.refl _) (.cons (.refl _) (.cons (.e _ _) .nil))))) rfl hz
    have la : ((writeT a).map encB).length = (writeT a).length := List.length_map _
    have lb : ((writeT b).map encB).length = (writeT b).length := List.length_map _
    have lc : ((writeT c).map encB).length = (writeT c).length := List.length_map _
    have ld : ((writeT d).map encB).length = (writeT d).length := List.length_map _
    generalize (writeT a).map encB = ra at *
    generalize (writeT b).map encB = rb at *
    generalize (writeT c).map encB = rc at *
    generalize (writeT d).map encB = re at *
    refine spec_ewL (G := G0) (fid := 71) (fn := Try.f71) Try.func71 (by kernel_rfl) rfl (by kernel_rfl) ?_
    repeat (refine And.intro (of_decide_eq_true rfl) ?_)
    refine eLoop_weak (S' := st71 (.node x y n a b c d) 0 1 [[i64 x, i64 y, i64 n, bo true, .e true]]) (weak_in0 [1, 3, 4] [0, 1] 2 rfl rfl) ?_
    refine eLoop_step ?_
    repeat (refine And.intro (of_decide_eq_true rfl) ?_)
    refine eCall_pure (ha) rfl ?_
    repeat (refine And.intro (of_decide_eq_true rfl) ?_)
    refine eApp_grow tiK ra true ⟨true, true, 5, [[i64 x, i64 y, i64 n, bo true, .e true]]⟩ app33 rfl rfl rfl rfl (Nat.zero_le _) rfl rfl (by simp only [tiK]; omega) ?_
    repeat (refine And.intro (of_decide_eq_true rfl) ?_)
    refine eLoop_weak (S' := st71 (.node x y n a b c d) 1 (1 + ra.length) ([i64 x, i64 y, i64 n, bo true, .e true] :: ra)) (weak_in0 [1, 3, 4] [0, 1] 2 rfl rfl) ?_
    refine eLoop_step ?_
    repeat (refine And.intro (of_decide_eq_true rfl) ?_)
    refine eCall_pure (hb) rfl ?_
    repeat (refine And.intro (of_decide_eq_true rfl) ?_)
    refine eApp_grow tiK rb true ⟨true, true, 5, [i64 x, i64 y, i64 n, bo true, .e true] :: ra⟩ app33 rfl rfl rfl rfl (Nat.zero_le _) rfl (by simp; omega) (by simp only [tiK]; omega) ?_
    repeat (refine And.intro (of_decide_eq_true rfl) ?_)
    refine eLoop_weak (S' := st71 (.node x y n a b c d) 2 (1 + ra.length + rb.length) (([i64 x, i64 y, i64 n, bo true, .e true] :: ra) ++ rb)) (weak_in0 [1, 3, 4] [0, 1] 2 rfl rfl) ?_
    refine eLoop_step ?_
    repeat (refine And.intro (of_decide_eq_true rfl) ?_)
    refine eCall_pure (hc) rfl ?_
    repeat (refine And.intro (of_decide_eq_true rfl) ?_)
    refine eApp_grow tiK rc true ⟨true, true, 5, ([i64 x, i64 y, i64 n, bo true, .e true] :: ra) ++ rb⟩ app33 rfl rfl rfl rfl (Nat.zero_le _) rfl (by simp; omega) (by simp only [tiK]; omega) ?_
    repeat (refine And.intro (of_decide_eq_true rfl) ?_)
    refine eLoop_weak (S' := st71 (.node x y n a b c d) 3 (1 + ra.length + rb.length + rc.length) ((([i64 x, i64 y, i64 n, bo true, .e true] :: ra) ++ rb) ++ rc)) (weak_in0 [1, 3, 4] [0, 1] 2 rfl rfl) ?_
    refine eLoop_step ?_
    repeat (refine And.intro (of_decide_eq_true rfl) ?_)
    refine eCall_pure (hd) rfl ?_
    repeat (refine And.intro (of_decide_eq_true rfl) ?_)
    refine eApp_grow tiK re true ⟨true, true, 5, (([i64 x, i64 y, i64 n, bo true, .e true] :: ra) ++ rb) ++ rc⟩ app33 rfl rfl rfl rfl (Nat.zero_le _) rfl (by simp; omega) (by simp only [tiK]; omega) ?_
    repeat (refine And.intro (of_decide_eq_true rfl) ?_)
    refine eLoop_weak (S' := st71 (.node x y n a b c d) 4 (1 + ra.length + rb.length + rc.length + re.length) (((([i64 x, i64 y, i64 n, bo true, .e true] :: ra) ++ rb) ++ rc) ++ re)) (weak_in0 [1, 3, 4] [0, 1] 2 rfl rfl) ?_
    refine eLoop_step ?_
    repeat (refine And.intro (of_decide_eq_true rfl) ?_)
    refine ret_lax (.inr rfl) rfl (vw_rowE rfl rfl rfl (by simp; omega)) ?_
    exact hw
end Go.Proofs.Ytendgiieolkleaa

/- The reference takes a number out of a tree. -/
namespace Go.Proofs.Ytendgiieolkleaa
open Go.Aw
set_option maxHeartbeats 1000000
set_option maxRecDepth 100000
set_option linter.unusedSimpArgs false
set_option linter.unusedVariables false
theorem withGo_len1 (n : Int) : ∀ (l : List Int) (d : Bool), (withGo n d l).length ≤ l.length + (if d = true then 0 else 1) := by
  intro l
  induction l with
  | nil => intro d; unfold withGo; split <;> simp
  | cons a r ih =>
    intro d
    have := ih (d || decide (n ≤ a))
    unfold withGo
    simp only [List.length_append, List.length_cons]
    cases d with
    | true =>
      simp only [Bool.true_or, if_true] at this
      simp only [Bool.not_true, Bool.false_and, Bool.false_eq_true, if_false, List.length_nil, Bool.true_or, if_true]
      split <;> simp <;> omega
    | false =>
      cases h : decide (n ≤ a) with
      | true =>
        simp only [h, Bool.or_true, if_true] at this
        simp only [Bool.not_false, Bool.true_and, if_true, List.length_cons, List.length_nil, Bool.or_true, Bool.false_eq_true, if_false]
        split <;> simp <;> omega
      | false =>
        simp only [h, Bool.or_false, Bool.false_eq_true, if_false] at this
        simp only [Bool.and_false, Bool.false_eq_true, if_false, List.length_nil, Bool.or_false]
        split <;> simp <;> omega
theorem withL_len (l : List Int) (n : Int) : (withL l n).length ≤ l.length + 1 := withGo_len1 n l false
theorem foldWith_len : ∀ (l a : List Int), (l.foldl withL a).length ≤ a.length + l.length := by
  intro l
  induction l with
  | nil => intro a; simp
  | cons x r ih =>
    intro a
    have h1 := ih (withL a x)
    have h2 := withL_len a x
    simp only [List.foldl_cons, List.length_cons]; omega
def Tr.isLf (t : Tr) : Bool := ((t.kids.length : Int) == 0)
def joinT (most : Int) (x y n : Int) (a b c d : Tr) : Tr :=
  let all := d.ids.foldl withL (c.ids.foldl withL (b.ids.foldl withL (a.ids.foldl withL [])))
  if ((((a.isLf && b.isLf) && c.isLf) && d.isLf) && decide (((all.map enc1).length : Int) ≤ most)) = true then .leaf x y n all else .node x y n a b c d
def cutT (id most : Int) : Tr → Tr
  | .leaf x y n ids => .leaf x y n (ids.filter fun i => i != id)
  | .node x y n a b c d => joinT most x y n (cutT id most a) (cutT id most b) (cutT id most c) (cutT id most d)
def Tr.tot : Tr → Nat
  | .leaf _ _ _ ids => ids.length
  | .node _ _ _ a b c d => a.tot + b.tot + c.tot + d.tot
theorem ids_tot (t : Tr) : t.ids.length ≤ t.tot := by
  cases t with
  | leaf => exact Nat.le_refl _
  | node => exact Nat.zero_le _
theorem cutT_tot (id most : Int) : ∀ t : Tr, (cutT id most t).tot ≤ t.tot := by
  intro t
  induction t with
  | leaf x y n ids => exact List.length_filter_le _ _
  | node x y n a b c d iha ihb ihc ihd =>
    simp only [cutT, joinT, Tr.tot]
    split
    · simp only [Tr.tot]
      have h1 := foldWith_len (cutT id most a).ids []
      have h2 := foldWith_len (cutT id most b).ids ((cutT id most a).ids.foldl withL [])
      have h3 := foldWith_len (cutT id most c).ids ((cutT id most b).ids.foldl withL ((cutT id most a).ids.foldl withL []))
      have h4 := foldWith_len (cutT id most d).ids ((cutT id most c).ids.foldl withL ((cutT id most b).ids.foldl withL ((cutT id most a).ids.foldl withL [])))
      have := ids_tot (cutT id most a)
      have := ids_tot (cutT id most b)
      have := ids_tot (cutT id most c)
      have := ids_tot (cutT id most d)
      simp only [List.length_nil] at h1
      omega
    · simp only [Tr.tot]; omega
def st72l (x y n : Int) (ids : List Int) (id most : Int) : Nat × Int × Nat × List (List AV) → St
  | (_, i, ln, es) => ⟨98, 0, [(1, i64 id), (2, i64 most), (3, .ptr 0 0 0), (6, .ptr 1 0 0), (7, .loc 2 1 0 ln), (8, i64 i)],
      [(0, ⟨true, true, 5, [encT (.leaf x y n ids)]⟩), (1, ⟨true, true, 5, [[i64 0, i64 0, i64 0, .e true, .e true]]⟩), (2, ⟨true, true, 1, es⟩)], 3⟩
theorem filt_succ {l : List Int} {id : Int} {i : Nat} (h : i < l.length) : (l.take (i + 1)).filter (fun i => i != id) = (l.take i).filter (fun i => i != id) ++ (if (l[i] != id) = true then [l[i]] else []) := by
  rw [List.take_succ_eq_append_getElem h, List.filter_append]
  congr 1
  simp only [List.filter_cons, List.filter_nil]
theorem cut_leaf (x y n : Int) (ids : List Int) (id most : Int) (hl : ids.length ≤ 1048576) : Fun G0 72 [.agg (encT (.leaf x y n ids)), i64 id, i64 most] [] (.agg (encT (cutT id most (.leaf x y n ids)))) [] := by
  refine spec_ewL (G := G0) (fid := 72) (fn := Try.f72) Try.func72 (by kernel_rfl) rfl (by kernel_rfl) ?_
  repeat (refine And.intro (of_decide_eq_true rfl) ?_)
  refine eLoop_pre (st72l x y n ids id most) (fun a => a.1 ≤ ids.length ∧ a.2.1 = a.1 ∧ a.2.2.2 = ((ids.take a.1).filter fun i => i != id).map enc1 ∧ a.2.2.1 = a.2.2.2.length) (fun a => ids.length - a.1) (0, 0, 0, []) (weak_in0 [1, 2, 3, 6, 7, 8] [0, 1, 2] 3 rfl rfl) ⟨Nat.zero_le _, rfl, rfl, rfl⟩ ?_
  rintro ⟨i, iv, ln, es⟩ ⟨hi, hiv, hes, hln⟩
  simp only at hi hiv hes hln
  subst hiv
  have hle : es.length ≤ i := by
    rw [hes, List.length_map]
    refine Nat.le_trans (List.length_filter_le _ _) ?_
    rw [List.length_take]; omega
  repeat (refine And.intro (of_decide_eq_true rfl) ?_)
  refine bc_split (fun h => ?_) (fun h => ?_)
  · have hlt : i < ids.length := by
      have h : decide ((i : Int) < ((ids.map enc1).length : Int)) = true := h
      simp at h; omega
    repeat (refine And.intro (of_decide_eq_true rfl) ?_)
    refine And.intro (ix_ok hlt) ?_
    rw [show (List.map enc1 (Tr.leaf x y n ids).ids).getD (Int.toNat (i : Int)) [] = enc1 ids[i] from ix_get hlt]
    repeat (refine And.intro (of_decide_eq_true rfl) ?_)
    refine bc_split (fun h2 => ?_) (fun h2 => ?_)
    · have h2 : (ids[i] != id) = true := h2
      repeat (refine And.intro (of_decide_eq_true rfl) ?_)
      refine And.intro (ix_ok hlt) ?_
      rw [show (List.map enc1 (Tr.leaf x y n ids).ids).getD (Int.toNat (i : Int)) [] = enc1 ids[i] from ix_get hlt]
      repeat (refine And.intro (of_decide_eq_true rfl) ?_)
      refine eApp_grow tiI [enc1 ids[i]] true ⟨true, true, 1, es⟩ app29 rfl rfl rfl rfl (Nat.zero_le _) rfl ((Nat.zero_add ln).trans hln) (by simp [tiI]; omega) ?_
      repeat (refine And.intro (of_decide_eq_true rfl) ?_)
      refine ⟨(i + 1, IntKind.i64.wrap (↑i + 1), ln + 1, es ++ [enc1 ids[i]]), weak_in0 [1, 2, 3, 6, 7, 8] [0, 1, 2] 3 rfl rfl, ⟨hlt, wrap_succ (by omega), ?_, by simp [hln]⟩, by simp only; omega⟩
      simp only [filt_succ hlt, h2, if_true, List.map_append, hes]; rfl
    · have h2 : (ids[i] != id) = false := h2
      repeat (refine And.intro (of_decide_eq_true rfl) ?_)
      refine ⟨(i + 1, IntKind.i64.wrap (↑i + 1), ln, es), weak_in0 [1, 2, 3, 6, 7, 8] [0, 1, 2] 3 rfl rfl, ⟨hlt, wrap_succ (by omega), ?_, hln⟩, by simp only; omega⟩
      simp only [filt_succ hlt, h2, Bool.false_eq_true, if_false, List.append_nil, hes]
  · have hge : i = ids.length := by
      have h : decide ((i : Int) < ((ids.map enc1).length : Int)) = false := h
      simp at h; omega
    subst hge
    rw [List.take_length] at hes
    repeat (refine And.intro (of_decide_eq_true rfl) ?_)
    refine ret_lax (by first | exact .inr rfl | exact .inl rfl) rfl (vw_agg (vwL_cons rfl (vwL_cons rfl (vwL_cons rfl (vwL_cons rfl (vwL_cons (vw_rowE rfl rfl rfl hln) vwL_nil)))))) ?_
    rw [hes]
    exact .refl _
def foldK (K : List Tr) : List Int := K.foldl (fun a t => t.ids.foldl withL a) []
def st72 (t : Tr) (id most : Int) : Nat × Int × List (List AV) × Nat × Bool × List Int → St
  | (_, jv, ks, kl, lv, all) => ⟨98, 0, [(1, i64 id), (2, i64 most), (3, .ptr 0 0 0), (6, .ptr 1 0 0), (9, .loc 2 5 0 kl), (10, encIds all), (11, bo lv), (12, i64 jv)],
      [(0, ⟨true, true, 5, [encT t]⟩), (1, ⟨true, true, 5, [[i64 0, i64 0, i64 0, .e true, .e true]]⟩), (2, ⟨true, true, 5, ks⟩)], 3⟩
def st72i (t kj : Tr) (id most jv : Int) (ks : List (List AV)) (kl : Nat) (lv : Bool) : Nat × Int × List Int → St
  | (_, i, all) => ⟨98, 0, [(1, i64 id), (2, i64 most), (3, .ptr 0 0 0), (6, .ptr 1 0 0), (9, .loc 2 5 0 kl), (10, encIds all), (11, bo lv), (12, i64 jv), (13, .ptr 3 0 0), (14, i64 i)],
      [(0, ⟨true, true, 5, [encT t]⟩), (1, ⟨true, true, 5, [[i64 0, i64 0, i64 0, .e true, .e true]]⟩), (2, ⟨true, true, 5, ks⟩), (3, ⟨true, true, 5, [encT kj]⟩)], 4⟩
def totK (K : List Tr) : Nat := (K.map Tr.tot).sum
theorem foldK_snoc (K : List Tr) (t : Tr) : foldK (K ++ [t]) = t.ids.foldl withL (foldK K) := by simp [foldK]
theorem foldK_len (K : List Tr) : (foldK K).length ≤ totK K := by
  have key : ∀ (K : List Tr) (a : List Int), (K.foldl (fun a t => t.ids.foldl withL a) a).length ≤ a.length + totK K := by
    intro K
    induction K with
    | nil => intro a; simp [totK]
    | cons t r ih =>
      intro a
      have h1 := ih (t.ids.foldl withL a)
      have h2 := foldWith_len t.ids a
      have h3 := ids_tot t
      simp only [List.foldl_cons, totK, List.map_cons, List.sum_cons] at h1 ⊢
      omega
  simpa [foldK] using key K []
theorem totK_take (K : List Tr) (j : Nat) : totK (K.take j) ≤ totK K := by
  have : K = K.take j ++ K.drop j := (List.take_append_drop j K).symm
  have e : totK K = totK (K.take j) + totK (K.drop j) := by
    rw [show totK K = totK (K.take j ++ K.drop j) by rw [← this]]; simp only [totK, List.map_append, List.sum_append]
  omega
theorem cut_node (x y n : Int) (a b c d : Tr) (id most : Int) (hcut : ∀ t ∈ [a, b, c, d], Fun G0 72 [.agg (encT t), i64 id, i64 most] [] (.agg (encT (cutT id most t))) []) (htot : totK [cutT id most a, cutT id most b, cutT id most c, cutT id most d] ≤ 1048576) :
    Fun G0 72 [.agg (encT (.node x y n a b c d)), i64 id, i64 most] [] (.agg (encT (cutT id most (.node x y n a b c d)))) [] := by
  refine spec_ewL (G := G0) (fid := 72) (fn := Try.f72) Try.func72 (by kernel_rfl) rfl (by kernel_rfl) ?_
  repeat (refine And.intro (of_decide_eq_true rfl) ?_)
  have hK : ∀ (j : Nat) (hj : j < 4), ∃ t, t ∈ [a, b, c, d] ∧ (Tr.kids (.node x y n a b c d)).getD (Int.toNat (j : Int)) [] = encT t ∧ [cutT id most a, cutT id most b, cutT id most c, cutT id most d].take (j + 1) = [cutT id most a, cutT id most b, cutT id most c, cutT id most d].take j ++ [cutT id most t] := by
    intro j hj
    have : j = 0 ∨ j = 1 ∨ j = 2 ∨ j = 3 := by omega
    rcases this with rfl | rfl | rfl | rfl
    · exact ⟨a, by simp, rfl, rfl⟩
    · exact ⟨b, by simp, rfl, rfl⟩
    · exact ⟨c, by simp, rfl, rfl⟩
    · exact ⟨d, by simp, rfl, rfl⟩
  generalize hKK : [cutT id most a, cutT id most b, cutT id most c, cutT id most d] = K at hK htot
  have hKl : K.length = 4 := by rw [← hKK]; rfl
  refine eLoop_pre (st72 (.node x y n a b c d) id most) (fun p => p.1 ≤ 4 ∧ p.2.1 = p.1 ∧ p.2.2.1 = (K.take p.1).map encT ∧ p.2.2.2.1 = p.2.2.1.length ∧ p.2.2.2.2.1 = (K.take p.1).all Tr.isLf ∧ p.2.2.2.2.2 = foldK (K.take p.1)) (fun p => 4 - p.1) (0, 0, [], 0, true, [])
    (Weak.trans (weak_in0 (S' := ⟨98, 0, [(1, i64 id), (2, i64 most), (3, .ptr 0 0 0), (6, .ptr 1 0 0), (9, .loc 2 5 0 0), (10, .loc 3 1 0 0), (11, bo true), (12, i64 0)],
      [(0, ⟨true, true, 5, [encT (.node x y n a b c d)]⟩), (1, ⟨true, true, 5, [[i64 0, i64 0, i64 0, .e true, .e true]]⟩), (2, ⟨true, true, 5, []⟩), (3, ⟨true, true, 1, []⟩)], 4⟩) [1, 2, 3, 6, 9, 10, 11, 12] [0, 1, 2, 3] 4 rfl rfl)
      (Weak.trans (weak_frz [3] rfl) (Weak.trans (weak_slot (t := 10) (v' := encIds []) (Seal.loc rfl rfl)) (weak_in0 [1, 2, 3, 6, 9, 10, 11, 12] [0, 1, 2] 3 rfl rfl)))) ⟨Nat.zero_le _, rfl, rfl, rfl, rfl, rfl⟩ ?_
  rintro ⟨j, jv, ks, kl, lv, all⟩ ⟨hj, hjv, hks, hkl, hlv, hall⟩
  simp only at hj hjv hks hkl hlv hall
  subst hjv
  repeat (refine And.intro (of_decide_eq_true rfl) ?_)
  refine bc_split (fun h0 => ?_) (fun h0 => ?_)
  · have hj4 : j < 4 := by have := of_decide_eq_true h0; omega
    obtain ⟨t, htm, hget, htake⟩ := hK j hj4
    have hkl4 : ks.length ≤ 4 := by rw [hks]; simp; omega
    repeat (refine And.intro (of_decide_eq_true rfl) ?_)
    refine And.intro (⟨by omega, by exact Int.ofNat_lt.2 hj4⟩ : 0 ≤ (j : Int) ∧ (j : Int) < ((Tr.kids (.node x y n a b c d)).length : Int)) ?_
    rw [hget]
    repeat (refine And.intro (of_decide_eq_true rfl) ?_)
    refine eCall_pure (hcut t htm) rfl ?_
    repeat (refine And.intro (of_decide_eq_true rfl) ?_)
    have hidn : (cutT id most t).ids.length ≤ 1048576 := by
      have h3 : totK (K.take (j + 1)) = totK (K.take j) + (cutT id most t).tot := by rw [htake]; simp [totK]
      have h4 := totK_take K (j + 1)
      have h5 := ids_tot (cutT id most t)
      omega
    have hidl : ∀ i, i ≤ (cutT id most t).ids.length → (((cutT id most t).ids.take i).foldl withL all).length ≤ 1048576 := by
      intro i hi
      have h1 := foldWith_len ((cutT id most t).ids.take i) all
      have h2 := foldK_len (K.take j)
      have h3 : totK (K.take (j + 1)) = totK (K.take j) + (cutT id most t).tot := by rw [htake]; simp [totK]
      have h4 := totK_take K (j + 1)
      have h5 := ids_tot (cutT id most t)
      rw [← hall] at h2
      rw [List.length_take] at h1
      omega
    refine eApp_grow tiB [encT (cutT id most t)] true ⟨true, true, 5, ks⟩ app95 rfl rfl rfl rfl (Nat.zero_le _) rfl ((Nat.zero_add kl).trans hkl) (by rw [hkl]; simp [tiB]; omega) ?_
    repeat (refine And.intro (of_decide_eq_true rfl) ?_)
    refine bc_split (fun hl1 => ?_) (fun hl1 => ?_)
    all_goals
      repeat (refine And.intro (of_decide_eq_true rfl) ?_)
      refine eLoop_pre (st72i (.node x y n a b c d) (cutT id most t) id most j (ks ++ [encT (cutT id most t)]) (kl + 1) _) (fun p => p.1 ≤ (cutT id most t).ids.length ∧ p.2.1 = p.1 ∧ p.2.2 = ((cutT id most t).ids.take p.1).foldl withL all) (fun p => (cutT id most t).ids.length - p.1) (0, 0, all) (weak_in0 [1, 2, 3, 6, 9, 10, 11, 12, 13, 14] [0, 1, 2, 3] 4 rfl rfl) ⟨Nat.zero_le _, rfl, rfl⟩ ?_
      rintro ⟨i, iv, al⟩ ⟨hi, hiv, hal⟩
      simp only at hi hiv hal
      subst hiv
      repeat (refine And.intro (of_decide_eq_true rfl) ?_)
      refine bc_split (fun g => ?_) (fun g => ?_)
      · have hlt : i < (cutT id most t).ids.length := by
          have g : decide ((i : Int) < (((cutT id most t).ids.map enc1).length : Int)) = true := g
          simp at g; omega
        repeat (refine And.intro (of_decide_eq_true rfl) ?_)
        refine And.intro (ix_ok hlt) ?_
        rw [show (List.map enc1 (cutT id most t).ids).getD (Int.toNat (i : Int)) [] = enc1 (cutT id most t).ids[i] from ix_get hlt]
        repeat (refine And.intro (of_decide_eq_true rfl) ?_)
        refine eCall_pure (spec_With false al (cutT id most t).ids[i] (by rw [hal]; exact hidl i hi)) rfl ?_
        repeat (refine And.intro (of_decide_eq_true rfl) ?_)
        refine ⟨(i + 1, IntKind.i64.wrap (↑i + 1), withL al (cutT id most t).ids[i]), weak_in0 [1, 2, 3, 6, 9, 10, 11, 12, 13, 14] [0, 1, 2, 3] 4 rfl rfl, ⟨hlt, wrap_succ (by omega), ?_⟩, by simp only; omega⟩
        simp only [List.take_succ_eq_append_getElem hlt, List.foldl_append, List.foldl_cons, List.foldl_nil, hal]
      · have hge : i = (cutT id most t).ids.length := by
          have g : decide ((i : Int) < (((cutT id most t).ids.map enc1).length : Int)) = false := g
          simp at g; omega
        subst hge
        rw [List.take_length] at hal
        repeat (refine And.intro (of_decide_eq_true rfl) ?_)
        refine ⟨(j + 1, IntKind.i64.wrap (↑j + 1), ks ++ [encT (cutT id most t)], kl + 1, _, al), weak_in0 [1, 2, 3, 6, 9, 10, 11, 12] [0, 1, 2] 3 rfl rfl, ⟨hj4, wrap_succ (by omega), by simp only [htake, List.map_append, hks]; rfl, by simp [hkl], ?_, by simp only [htake, foldK_snoc, hal, hall]⟩, by simp only; omega⟩
        simp only [htake, List.all_append, ← hlv, hl1, Bool.true_and, Bool.false_and, List.all_cons, List.all_nil, Bool.and_true]
        first | rfl | done
  · have hj4 : j = 4 := by have := of_decide_eq_false h0; omega
    subst hj4
    rw [List.take_of_length_le (by omega)] at hks hlv hall
    have hall2 : all = (cutT id most d).ids.foldl withL ((cutT id most c).ids.foldl withL ((cutT id most b).ids.foldl withL ((cutT id most a).ids.foldl withL []))) := by rw [hall, ← hKK]; rfl
    have hlv2 : lv = ((((cutT id most a).isLf && (cutT id most b).isLf) && (cutT id most c).isLf) && (cutT id most d).isLf) := by rw [hlv, ← hKK]; simp [Bool.and_assoc]
    have hun : cutT id most (.node x y n a b c d) = if (lv && decide (((all.map enc1).length : Int) ≤ most)) = true then .leaf x y n all else .node x y n (cutT id most a) (cutT id most b) (cutT id most c) (cutT id most d) := by
      rw [hlv2, hall2]; rfl
    rw [hun]
    have hks2 : ks = [encT (cutT id most a), encT (cutT id most b), encT (cutT id most c), encT (cutT id most d)] := by rw [hks, ← hKK]; rfl
    have hkl2 : kl = 4 := by rw [hkl, hks2]; rfl
    subst hkl2
    subst hks2
    repeat (refine And.intro (of_decide_eq_true rfl) ?_)
    refine bc_split (fun h1 => ?_) (fun h1 => ?_)
    · repeat (refine And.intro (of_decide_eq_true rfl) ?_)
      refine bc_split (fun h2 => ?_) (fun h2 => ?_)
      · have h2 : decide (((all.map enc1).length : Int) ≤ most) = true := h2
        repeat (refine And.intro (of_decide_eq_true rfl) ?_)
        refine ret_lax (by first | exact .inr rfl | exact .inl rfl) rfl rfl ?_
        simp only [h1, h2, Bool.true_and, if_true]
        exact .aggL (.cons (.refl _) (.cons (.refl _) (.cons (.refl _) (.cons (Lax.trans (fun w M φ x h => by cases h; exact .e _ true _ rfl) (.ez true 5)) (.refl _)))))
      · have h2 : decide (((all.map enc1).length : Int) ≤ most) = false := h2
        repeat (refine And.intro (of_decide_eq_true rfl) ?_)
        refine ret_lax (by first | exact .inr rfl | exact .inl rfl) rfl (vw_agg (vwL_cons rfl (vwL_cons rfl (vwL_cons rfl (vwL_cons (vw_rowE rfl rfl rfl rfl) (vwL_cons rfl vwL_nil)))))) ?_
        simp only [h2, Bool.and_false, Bool.false_eq_true, if_false]
        exact .aggL (.cons (.refl _) (.cons (.refl _) (.cons (.refl _) (.cons (.ne _ _ _ _) (.refl _)))))
    · repeat (refine And.intro (of_decide_eq_true rfl) ?_)
      refine ret_lax (by first | exact .inr rfl | exact .inl rfl) rfl (vw_agg (vwL_cons rfl (vwL_cons rfl (vwL_cons rfl (vwL_cons (vw_rowE rfl rfl rfl rfl) (vwL_cons rfl vwL_nil)))))) ?_
      simp only [h1, Bool.false_and, Bool.false_eq_true, if_false]
      exact .aggL (.cons (.refl _) (.cons (.refl _) (.cons (.refl _) (.cons (.ne _ _ _ _) (.refl _)))))
theorem spec_Cut (id most : Int) : ∀ t : Tr, t.tot ≤ 1048576 → Fun G0 72 [.agg (encT t), i64 id, i64 most] [] (.agg (encT (cutT id most t))) [] := by
  intro t
  induction t with
  | leaf x y n ids => intro h; exact cut_leaf x y n ids id most h
  | node x y n a b c d iha ihb ihc ihd =>
    intro h
    simp only [Tr.tot] at h
    refine cut_node x y n a b c d id most (fun t ht => ?_) ?_
    · simp only [List.mem_cons, List.not_mem_nil, or_false] at ht
      rcases ht with rfl | rfl | rfl | rfl
      · exact iha (by omega)
      · exact ihb (by omega)
      · exact ihc (by omega)
      · exact ihd (by omega)
    · have := cutT_tot id most a
      have := cutT_tot id most b
      have := cutT_tot id most c
      have := cutT_tot id most d
      simp only [totK, List.map_cons, List.map_nil, List.sum_cons, List.sum_nil]; omega
end Go.Proofs.Ytendgiieolkleaa
