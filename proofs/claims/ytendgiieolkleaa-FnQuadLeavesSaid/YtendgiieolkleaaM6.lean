/- '==' of structs of whole numbers. A region whose order the machine draws: what stands in the text's order holds of every order, where what is not ordered does not touch. A region whose order the machine draws: every order comes to what the text's order comes to. Every order of a drawn region comes to what its trace comes to. Drawn regions in computing form: the text's order, and a check that what is not ordered does not touch. Rules at the evaluator's marks: calls, append, loops, returns. Loops by a state for each thing still to do. -/
import Derived.Laws.StructEq
import Derived.Test.YtendgiieolkleaaM5

/- '==' of structs of whole numbers. -/
namespace Go.Aw
set_option linter.unusedVariables false
set_option linter.unusedSimpArgs false

mutual
def eqK (P : Program) : Nat → TypeId → Option (List IntKind)
  | 0, _ => none
  | d + 1, t => match P.underlying t with
    | some (.int k) => some [k]
    | some (.struct fs) => if P.stoodInHeld t = true then none else eqF P d fs.toList 0
    | _ => none
def eqF (P : Program) : Nat → List Field → Nat → Option (List IntKind)
  | _, [], _ => some []
  | 0, _ :: _, _ => none
  | d + 1, f :: fs, off => if (f.name == "_") = false ∧ f.offset = off then
      match eqK P d f.type, P.info? f.type with
      | some ks, some i => if i.size = ks.length then (eqF P d fs (off + ks.length)).map (ks ++ ·) else none
      | _, _ => none
      else none
end
def zz (ks : List IntKind) (xs : List Int) : List Value := (ks.zip xs).map fun p => .int p.1 p.2
def mkV (P : Program) (t : TypeId) (ks : List IntKind) (xs : List Int) : Value :=
  match P.underlying t with
  | some (.struct _) => .agg ⟨zz ks xs⟩
  | _ => (zz ks xs).headD undef
theorem zz_append (k1 k2 : List IntKind) (x1 x2 : List Int) (h : k1.length = x1.length) : zz (k1 ++ k2) (x1 ++ x2) = zz k1 x1 ++ zz k2 x2 := by
  simp [zz, List.zip_append h]
theorem zz_len (k : List IntKind) (x : List Int) (h : x.length = k.length) : (zz k x).length = k.length := by simp [zz, h]

theorem eqF_ok {P : Program} {w : World} (d : Nat)
    (ihK : ∀ t ks, eqK P d t = some ks → ∀ e, d ≤ e → ∀ xs ys : List Int, xs.length = ks.length → ys.length = ks.length → (Op.equalIn e t (mkV P t ks xs) (mkV P t ks ys)).run P w = .ok (xs == ys) w)
    (ihF : ∀ fs off ks, eqF P d fs off = some ks → ∀ e, d ≤ e → ∀ (X Y : Array Value) (xs ys : List Int), xs.length = ks.length → ys.length = ks.length → X.toList.drop off = zz ks xs → Y.toList.drop off = zz ks ys → (Op.eqFields e X Y fs).run P w = .ok (xs == ys) w) :
    ∀ fs off ks, eqF P (d + 1) fs off = some ks → ∀ e, d + 1 ≤ e → ∀ (X Y : Array Value) (xs ys : List Int), xs.length = ks.length → ys.length = ks.length → X.toList.drop off = zz ks xs → Y.toList.drop off = zz ks ys → (Op.eqFields e X Y fs).run P w = .ok (xs == ys) w := by
  intro fs off ks h e he X Y xs ys hx hy hX hY
  cases fs with
  | nil =>
    simp only [eqF, Option.some.injEq] at h
    subst h
    have hx0 : xs = [] := List.eq_nil_of_length_eq_zero hx
    have hy0 : ys = [] := List.eq_nil_of_length_eq_zero hy
    subst hx0; subst hy0
    simp [Op.eqFields, run_pure]
  | cons f fs =>
    simp only [eqF] at h
    split at h
    · rename_i hc
      obtain ⟨hn, hoff⟩ := hc
      split at h
      · rename_i k1 i hk hi
        split at h
        · rename_i hsz
          cases hq : eqF P d fs (off + k1.length) with
          | none => rw [hq] at h; cases h
          | some k2 =>
            rw [hq] at h
            simp only [Option.map_some, Option.some.injEq] at h
            subst h
            simp only [List.length_append] at hx hy
            obtain ⟨x1, x2, rfl, hx1⟩ : ∃ x1 x2, xs = x1 ++ x2 ∧ x1.length = k1.length := ⟨xs.take k1.length, xs.drop k1.length, (List.take_append_drop _ _).symm, by simp; omega⟩
            obtain ⟨y1, y2, rfl, hy1⟩ : ∃ x1 x2, ys = x1 ++ x2 ∧ x1.length = k1.length := ⟨ys.take k1.length, ys.drop k1.length, (List.take_append_drop _ _).symm, by simp; omega⟩
            simp only [List.length_append] at hx hy
            have hpart : ∀ (Z : Array Value) (z1 z2 : List Int), z1.length = k1.length → Z.toList.drop off = zz (k1 ++ k2) (z1 ++ z2) → (part f.type Z f.offset).run P w = .ok (mkV P f.type k1 z1) w ∧ Z.toList.drop (off + k1.length) = zz k2 z2 := by
              intro Z z1 z2 hz hZ
              rw [zz_append _ _ _ _ hz.symm] at hZ
              have hl := zz_len k1 z1 hz
              refine ⟨?_, ?_⟩
              · unfold part
                obtain ⟨d0, rfl⟩ : ∃ d0, d = d0 + 1 := by cases d with | zero => simp [eqK] at hk | succ d0 => exact ⟨d0, rfl⟩
                simp only [eqK] at hk
                have hszr : (sizeOf f.type).run P w = .ok k1.length w := by simp [sizeOf, typeInfo, program, Sem.run, bind, Sem.bind, pure, hi, hsz]
                split at hk
                · rename_i k hu
                  simp only [Option.some.injEq] at hk
                  subst hk
                  have ha : (isAgg f.type).run P w = .ok false w := by unfold isAgg; rw [run_bind, run_underlying hu]; rfl
                  rw [run_bind, ha]
                  simp only [Bool.false_eq_true, if_false]
                  match z1, hz with
                  | [z], _ =>
                    have : Z[f.offset]? = some (.int k z) := by
                      rw [hoff]
                      have h1 : (Z.toList.drop off)[0]? = some (.int k z) := by rw [hZ]; rfl
                      rw [List.getElem?_drop] at h1
                      simpa using h1
                    rw [this]
                    simp only [mkV, hu]
                    rfl
                · rename_i fs' hu
                  have ha : (isAgg f.type).run P w = .ok true w := by unfold isAgg; rw [run_bind, run_underlying hu]; rfl
                  rw [run_bind, ha]
                  simp only [if_true]
                  rw [run_bind, hszr]
                  simp only [mkV, hu, run_pure]
                  congr 2
                  apply Array.ext'
                  rw [Array.toList_extract, List.extract_eq_take_drop]
                  rw [hoff, hZ, Nat.add_sub_cancel_left, ← hl]
                  simp
                · cases hk
              · rw [← List.drop_drop, hZ, ← hl]; simp
            obtain ⟨p1, q1⟩ := hpart X x1 x2 hx1 hX
            obtain ⟨p2, q2⟩ := hpart Y y1 y2 hy1 hY
            have h1 := ihK f.type k1 hk e (by omega) x1 y1 hx1 hy1
            have h2 := ihF fs _ k2 hq e (by omega) X Y x2 y2 (by omega) (by omega) q1 q2
            have hn' : f.name ≠ "_" := by simpa using hn
            have hsplit : ((x1 ++ x2) == (y1 ++ y2)) = ((x1 == y1) && (x2 == y2)) := by
              rw [Bool.eq_iff_iff]
              simp only [beq_iff_eq, Bool.and_eq_true]
              constructor
              · intro hh; exact List.append_inj hh (by omega)
              · rintro ⟨rfl, rfl⟩; rfl
            rw [hsplit]
            simp only [Op.eqFields, if_pos hn']
            rw [run_bind, p1]; simp only []
            rw [run_bind, p2]; simp only []
            rw [run_bind, h1]; simp only []
            cases hb : (x1 == y1) with
            | true => simp only [Bool.not_true, Bool.false_eq_true, if_false, Bool.true_and]; exact h2
            | false => simp only [Bool.not_false, if_true, Bool.false_and]; rfl
        · cases h
      · cases h
    · cases h

theorem eq_ok (P : Program) (w : World) : ∀ d,
    (∀ t ks, eqK P d t = some ks → ∀ e, d ≤ e → ∀ xs ys : List Int, xs.length = ks.length → ys.length = ks.length → (Op.equalIn e t (mkV P t ks xs) (mkV P t ks ys)).run P w = .ok (xs == ys) w) ∧
    (∀ fs off ks, eqF P d fs off = some ks → ∀ e, d ≤ e → ∀ (X Y : Array Value) (xs ys : List Int), xs.length = ks.length → ys.length = ks.length → X.toList.drop off = zz ks xs → Y.toList.drop off = zz ks ys → (Op.eqFields e X Y fs).run P w = .ok (xs == ys) w) := by
  intro d
  induction d with
  | zero =>
    refine ⟨fun t ks h => by simp [eqK] at h, fun fs off ks h e he X Y xs ys hx hy hX hY => ?_⟩
    cases fs with
    | nil =>
      simp only [eqF, Option.some.injEq] at h
      subst h
      have hx0 : xs = [] := List.eq_nil_of_length_eq_zero hx
      have hy0 : ys = [] := List.eq_nil_of_length_eq_zero hy
      subst hx0; subst hy0
      simp [Op.eqFields, run_pure]
    | cons f fs => simp [eqF] at h
  | succ d ih =>
    obtain ⟨ihK, ihF⟩ := ih
    have hK : ∀ t ks, eqK P (d + 1) t = some ks → ∀ e, d + 1 ≤ e → ∀ xs ys : List Int, xs.length = ks.length → ys.length = ks.length → (Op.equalIn e t (mkV P t ks xs) (mkV P t ks ys)).run P w = .ok (xs == ys) w := by
      intro t ks h e he xs ys hx hy
      obtain ⟨e, rfl⟩ : ∃ e', e = e' + 1 := ⟨e - 1, by omega⟩
      simp only [eqK] at h
      split at h
      · rename_i k hu
        simp only [Option.some.injEq] at h
        subst h
        match xs, ys, hx, hy with
        | [x], [y], _, _ =>
          simp only [mkV, hu]
          have := run_equalIn_int w e t k k x y hu
          simpa [zz, undef] using this
      · rename_i fs hu
        split at h
        · cases h
        · rename_i hst
          simp only [mkV, hu]
          have hf : P.fieldsOf t = fs := by simp [Program.fieldsOf, hu]
          rw [run_equalIn_struct (P := P) w e t _ _ (by rw [hf]; exact hu) (by simpa using hst), hf]
          cases d with
          | zero =>
              cases hfs : fs.toList with
              | nil =>
                rw [hfs] at h
                simp only [eqF, Option.some.injEq] at h
                subst h
                have hx0 : xs = [] := List.eq_nil_of_length_eq_zero hx
                have hy0 : ys = [] := List.eq_nil_of_length_eq_zero hy
                subst hx0; subst hy0
                simp [Op.eqFields, run_pure]
              | cons f r => rw [hfs] at h; simp [eqF] at h
          | succ d' => exact ihF fs.toList 0 ks h e (by omega) _ _ xs ys hx hy (by simp) (by simp)
      · cases h
    exact ⟨hK, fun fs off ks h e he => eqF_ok d ihK (fun fs off ks h e he => ihF fs off ks h e he) fs off ks h e (by omega)⟩

/-- The struct types that are compared: each with the kinds of its numbers. -/
def eqT (L : List (TypeId × List IntKind)) (t : TypeId) : Option (List IntKind) := (L.find? fun p => Nat.beq p.1 t).map (·.2)
def isStruct : Option TypeDesc → Bool
  | some (.struct _) => true
  | _ => false
theorem hE_of {P : Program} (L : List (TypeId × List IntKind)) (h : (L.all fun p => match eqK P 20 p.1 with | some ks => decide (ks = p.2) && (isStruct (P.underlying p.1) && !P.eqGuardType P.depth p.1) | none => false) = true) :
    ∀ t ks, eqT L t = some ks → ∀ (xs ys : List Int), xs.length = ks.length → ys.length = ks.length → ∀ (w : World) (x y : Operand),
    (∀ op, (eqGuard op t x y (.agg ⟨(ks.zip xs).map fun p => .int p.1 p.2⟩) (.agg ⟨(ks.zip ys).map fun p => .int p.1 p.2⟩)).run P w = .ok () w) ∧
    (Op.equal t (.agg ⟨(ks.zip xs).map fun p => .int p.1 p.2⟩) (.agg ⟨(ks.zip ys).map fun p => .int p.1 p.2⟩)).run P w = .ok (xs == ys) w := by
  intro t ks ht xs ys hx hy w x y
  unfold eqT at ht
  cases hf : L.find? fun p => Nat.beq p.1 t with
  | none => rw [hf] at ht; cases ht
  | some p =>
    rw [hf] at ht
    simp only [Option.map_some, Option.some.injEq] at ht
    have h1 := List.all_eq_true.1 h p (List.mem_of_find?_eq_some hf)
    have h2 : p.1 = t := by have := List.find?_some hf; exact Nat.eq_of_beq_eq_true this
    rw [h2] at h1
    split at h1
    · rename_i ks' hk
      simp only [Bool.and_eq_true, decide_eq_true_eq, Bool.not_eq_true'] at h1
      obtain ⟨h3, h4, h5⟩ := h1
      have h6 : ks' = ks := h3.trans ht
      subst h6
      have hs : ∃ fs, P.underlying t = some (.struct fs) := by
        cases hu : P.underlying t with
        | none => rw [hu] at h4; cases h4
        | some d => rw [hu] at h4; cases d <;> first | exact ⟨_, rfl⟩ | cases h4
      obtain ⟨fs, hu⟩ := hs
      refine ⟨fun op => run_eqGuard_agg w op t x y _ _ h5, ?_⟩
      have h7 := (eq_ok P w 20).1 t ks' hk 10000 (by omega) xs ys hx hy
      simp only [mkV, hu] at h7
      exact h7
    · cases h1

end Go.Aw

/- A region whose order the machine draws: what stands in the text's order holds of every order, where what is not ordered does not touch. -/
namespace Go.Aw
set_option linter.unusedVariables false
set_option linter.unusedSimpArgs false

variable {G : Env} {c : Ctx} {w w' : World} {M M' : Nat → Prop} {φ φ' : Pm} {S S' : St} {a : Act}

/-! ### The last that was written -/
def look {α : Type} (D : Nat → Bool) (val : Nat → Option α) (d : α) : Nat → α
  | 0 => d
  | n + 1 => if D n then (match val n with | some v => v | none => look D val d n) else look D val d n
theorem look_congr {α : Type} {D D' : Nat → Bool} {val : Nat → Option α} {d : α} : ∀ n, (∀ j, j < n → val j ≠ none → D j = D' j) → look D val d n = look D' val d n := by
  intro n
  induction n with
  | zero => intro _; rfl
  | succ n ih =>
    intro h
    have h1 := ih fun j hj => h j (by omega)
    simp only [look, h1]
    cases hv : val n with
    | none => simp
    | some v => rw [h n (by omega) (by rw [hv]; simp)]
theorem look_set {α : Type} {D : Nat → Bool} {val : Nat → Option α} {d v : α} {i : Nat} (hi : D i = true) (hv : val i = some v) : ∀ n, i < n → (∀ j, i < j → j < n → D j = true → val j = none) → look D val d n = v := by
  intro n
  induction n with
  | zero => intro h; omega
  | succ n ih =>
    intro h hn
    simp only [look]
    by_cases e : n = i
    · subst e; rw [if_pos hi, hv]
    · have h1 := ih (by omega) fun j h1 h2 => hn j h1 (by omega)
      by_cases hd : D n = true
      · rw [if_pos hd, hn n (by omega) (by omega) hd]; exact h1
      · rw [if_neg hd]; exact h1

/-! ### What an operation does, wherever its operands and blocks are the same -/
def Runs (G : Env) (o : Oper) (S : St) (out : Out) : Prop :=
  ∀ (w : World) (M : Nat → Prop) (φ : Pm) (h : Hp) (a : Act), HRel w M φ h → (∀ x ∈ o.op.operands.toList, Rep w M φ (S.eval x) (a.eval x)) → (∀ l ∈ out.rd, h l = S.blk l) → (∀ l k, (l, k) ∈ out.ins → l ∉ out.rd → φ l = none) →
    ∀ (N : Act → World → Prop) (Q : Exit → Act → World → Prop), (∀ val w' M' φ', StepOk w M φ w' M' φ' → HRel w' M' φ' (insH h out.ins) → Rep w' M' φ' out.v val → (∀ l, φ' l ≠ none → φ l ≠ none ∨ (l ∈ out.ins.map (·.1) ∧ l ∉ out.rd)) → N (a.put o.dst val) w') → o.wp G.P a w N Q

theorem Runs.ev {o : Oper} {out : Out} (h : evOp G o.op S.eval S.blk S.nx = some out) : Runs G o S out := by
  intro w M φ hp a HR hx hrd hnw N Q hN
  obtain ⟨nxt, val, w', M', φ', h1, h2, h3, h4, h5, h6⟩ := evOp_sound (ρ' := a.eval) h hx HR hrd hnw
  unfold Oper.wp
  rw [h1]
  rcases h2 with rfl | ⟨rfl, rfl⟩
  · exact hN _ _ _ _ h3 h4 h5 h6
  · exact hN _ _ _ _ h3 h4 h5 h6

theorem pw_args {o : Oper} {f : Operand} {args : Array Operand} {ts : Array TypeId} (ho : o.op = .call ⟨.value f, args, ts⟩) {φ : Pm} {fid : FuncId} {caps : List AV} (hf : S.eval f = .fn fid caps) (hx : ∀ x ∈ o.op.operands.toList, Rep w M φ (S.eval x) (a.eval x)) :
    ∃ vl, a.eval f = .func (.func fid) #[] ⟨vl⟩ ∧ PW (Rep w M φ) (args.toList.map S.eval ++ caps) (args.toList.map a.eval ++ vl) := by
  rw [ho] at hx
  have hfe := hx f (by simp [Op.operands, Call.operands])
  rw [hf] at hfe
  generalize hv : a.eval f = fv at hfe
  cases hfe with
  | fn _ _ _ vl hl hh =>
    refine ⟨vl, rfl, PW.append ⟨by simp, fun i hi => ?_⟩ ⟨hl, hh⟩⟩
    simp only [List.length_map] at hi
    have := hx (args.toList.getD i (.const .nilFunc)) (by simp only [Op.operands, Call.operands, Array.toList_append]; exact List.mem_append_right _ (getD_mem _ hi))
    have e1 : (args.toList.map S.eval).getD i .bad = S.eval (args.toList.getD i (.const .nilFunc)) := by simp only [List.getD_eq_getElem?_getD, List.getElem?_map, List.getElem?_eq_getElem hi, Option.map_some, Option.getD_some]
    have e2 : (args.toList.map a.eval).getD i undef = a.eval (args.toList.getD i (.const .nilFunc)) := by simp only [List.getD_eq_getElem?_getD, List.getElem?_map, List.getElem?_eq_getElem hi, Option.map_some, Option.getD_some]
    rw [e1, e2]; exact this

theorem Runs.ext {o : Oper} {f : Operand} {args : Array Operand} {ts : Array TypeId} {fid : FuncId} {caps : List AV} {r : AV} (ho : o.op = .call ⟨.value f, args, ts⟩) (hf : S.eval f = .fn fid caps) (he : Ext G.P fid (args.toList.map S.eval ++ caps) r) :
    Runs G o S ⟨r, [], [], S.nx⟩ := by
  intro w M φ hp a HR hx hrd hnw N Q hN
  obtain ⟨vl, hfv, hpw⟩ := pw_args ho hf hx
  unfold Oper.wp
  rw [exec_call ho hfv]
  obtain ⟨v, h1, h2⟩ := he w M φ _ hpw
  rw [h1]
  exact hN _ _ _ _ (.refl _ _ _) HR h2 fun _ h => .inl h

/-- Arguments that hold no block of the code. -/
def noHp : Hp := fun _ => none
theorem fz_noHp {ok : Okf} : ∀ n, (∀ v v', fz noHp okRead n v = some v' → ∀ h, fz h ok n v = some v') ∧ (∀ l l', fzL noHp okRead n l = some l' → ∀ h, fzL h ok n l = some l') := by
  intro n
  induction n with
  | zero =>
    refine ⟨fun v v' hv h => ?_, fun l l' hl h => ?_⟩
    · cases v <;> simp only [fz, reduceCtorEq] at hv ⊢ <;> exact hv
    · cases l <;> simp only [fzL, reduceCtorEq] at hl ⊢; exact hl
  | succ n ih =>
    refine ⟨fun v v' hv h => ?_, fun l l' hl h => ?_⟩
    · cases v <;> simp only [fz, noHp, reduceCtorEq] at hv ⊢ <;> try exact hv
      · simp only [Option.map_eq_some_iff] at hv ⊢; obtain ⟨cs, h1, h2⟩ := hv; exact ⟨cs, ih.2 _ _ h1 h, h2⟩
      · simp only [Option.map_eq_some_iff] at hv ⊢; obtain ⟨cs, h1, h2⟩ := hv; exact ⟨cs, ih.2 _ _ h1 h, h2⟩
      · simp only [Option.map_eq_some_iff] at hv ⊢; obtain ⟨cs, h1, h2⟩ := hv; exact ⟨cs, ih.2 _ _ h1 h, h2⟩
    · cases l with
      | nil => exact hl
      | cons v r =>
        simp only [fzL] at hl ⊢
        split at hl
        · rename_i x y e1 e2; rw [ih.1 _ _ e1 h, ih.2 _ _ e2 h]; exact hl
        · cases hl

theorem Runs.pure {o : Oper} {f : Operand} {args : Array Operand} {ts : Array TypeId} {fid : FuncId} {caps args' : List AV} {r : AV} (ho : o.op = .call ⟨.value f, args, ts⟩) (hf : S.eval f = .fn fid caps)
    (hv : ∀ h, vwL h okRead (fun _ => none) 6 (args.toList.map S.eval ++ caps) = some args') (hs : Fun G fid args' [] r []) : Runs G o S ⟨r, [], [], S.nx⟩ := by
  intro w M φ hp a HR hx hrd hnw N Q hN
  obtain ⟨vl, hfv, hpw⟩ := pw_args ho hf hx
  unfold Oper.wp
  rw [exec_call ho hfv, run_callFunc hs.1]
  refine (call_pure HR (hv hp) hs.2 hpw).mono ?_
  rintro e w' ⟨v, M', rfl, h1, h2, h3⟩
  exact hN _ _ _ _ h1 h2 h3 fun _ h => .inl h

end Go.Aw

/- A region whose order the machine draws: every order comes to what the text's order comes to. -/
namespace Go.Aw
set_option linter.unusedVariables false
set_option linter.unusedSimpArgs false

variable {G : Env} {c : Ctx} {w w' : World} {M M' : Nat → Prop} {φ φ' : Pm} {S S' : St} {a : Act}

/-! ### What must be ahead of what -/
def mk1 (acc : List Nat) (o : Oper) : Nat := o.after.toList.foldl (fun s e => if Region.binds .any e then (s ||| 2 ^ e.on) ||| acc.getD e.on 0 else s) 0
def mks : List Oper → List Nat → List Nat
  | [], acc => acc
  | o :: r, acc => mks r (acc ++ [mk1 acc o])
inductive Rch (ops : List Oper) : Nat → Nat → Prop
  | one (i : Nat) (o : Oper) (e : Edge) (ho : ops[i]? = some o) (he : e ∈ o.after.toList) (hb : Region.binds .any e = true) : Rch ops i e.on
  | step (i j : Nat) (o : Oper) (e : Edge) (ho : ops[i]? = some o) (he : e ∈ o.after.toList) (hb : Region.binds .any e = true) (h : Rch ops e.on j) : Rch ops i j

theorem mk1_rch {ops : List Oper} {acc : List Nat} {i : Nat} {o : Oper} (ho : ops[i]? = some o) (hacc : ∀ k j, (acc.getD k 0).testBit j = true → Rch ops k j) : ∀ j, (mk1 acc o).testBit j = true → Rch ops i j := by
  have key : ∀ (l : List Edge) (s : Nat), (∀ e ∈ l, e ∈ o.after.toList) → (∀ j, s.testBit j = true → Rch ops i j) → ∀ j, (l.foldl (fun s e => if Region.binds .any e then (s ||| 2 ^ e.on) ||| acc.getD e.on 0 else s) s).testBit j = true → Rch ops i j := by
    intro l
    induction l with
    | nil => intro s _ hs j hj; exact hs j hj
    | cons e r ih =>
      intro s hl hs
      simp only [List.foldl_cons]
      refine ih _ (fun x hx => hl x (by simp [hx])) fun j hj => ?_
      split at hj
      · rename_i hb
        simp only [Nat.testBit_or, Bool.or_eq_true] at hj
        rcases hj with (h1 | h1) | h1
        · exact hs j h1
        · have : e.on = j := by
            rw [Nat.testBit_two_pow] at h1; simpa using h1
          subst this
          exact .one i o e ho (hl e (by simp)) hb
        · exact .step i j o e ho (hl e (by simp)) hb (hacc _ _ h1)
      · exact hs j hj
  intro j hj
  exact key o.after.toList 0 (fun e he => he) (by simp) j hj

theorem mks_rch (ops : List Oper) : ∀ (rest : List Oper) (acc : List Nat), ops = ops.take acc.length ++ rest → acc.length ≤ ops.length → (∀ k j, (acc.getD k 0).testBit j = true → Rch ops k j) → ∀ k j, ((mks rest acc).getD k 0).testBit j = true → Rch ops k j := by
  intro rest
  induction rest with
  | nil => intro acc _ _ h; exact h
  | cons o r ih =>
    intro acc he hle h
    have ho : ops[acc.length]? = some o := by
      rw [he, List.getElem?_append_right (by simp; omega)]
      simp [Nat.min_eq_left hle]
    have hlt : acc.length < ops.length := by
      rcases Nat.lt_or_ge acc.length ops.length with q | q
      · exact q
      · rw [List.getElem?_eq_none q] at ho; cases ho
    refine ih (acc ++ [mk1 acc o]) ?_ (by simp; omega) fun k j hj => ?_
    · have : ops.take (acc ++ [mk1 acc o]).length = ops.take acc.length ++ [o] := by
        simp only [List.length_append, List.length_cons, List.length_nil, Nat.zero_add]
        rw [List.take_succ_eq_append_getElem hlt]
        rw [List.getElem?_eq_getElem hlt] at ho
        rw [Option.some.inj ho]
      rw [this, List.append_assoc]
      exact he
    · simp only [List.getD_eq_getElem?_getD] at hj
      by_cases q : k < acc.length
      · rw [List.getElem?_append_left q] at hj
        exact h k j (by simpa [List.getD_eq_getElem?_getD] using hj)
      · rw [List.getElem?_append_right (by omega)] at hj
        by_cases q2 : k = acc.length
        · subst q2
          simp at hj
          exact mk1_rch ho h j hj
        · have : k - acc.length ≠ 0 := by omega
          obtain ⟨m, hm⟩ := Nat.exists_eq_succ_of_ne_zero this
          rw [hm] at hj
          simp at hj

/-! ### What the operations came to, in the text's order -/
structure Rec where
  S : St
  sk : Bool
  out : Out
def Rec.next (o : Oper) (r : Rec) : St := if r.sk then r.S.put o.dst (.s undef) else r.S.upd o.dst r.out
def Rec.ws (r : Rec) : List Nat := if r.sk then [] else r.out.ins.map (·.1)
def Rec.rs (r : Rec) : List Nat := if r.sk then [] else r.out.rd
def gOk (ops : List Oper) (o : Oper) (S : St) (go : Bool) : Prop :=
  match o.guard with
  | none => go = true
  | some (j, want) => ∃ t, gdst ops j = some t ∧ ((∃ b, S.get t = .s (.bool b) ∧ go = (b == want)) ∨ (∃ q, S.get t = .s (.tuple q) ∧ go = false))
structure RecOk (G : Env) (ops : List Oper) (o : Oper) (r : Rec) : Prop where
  d : dstOk r.S o.dst
  g : gOk ops o r.S (!r.sk)
  run : r.sk = false → Runs G o r.S r.out
  nx : r.sk = false → r.S.nx ≤ r.out.nx ∧ ∀ l k, (l, k) ∈ r.out.ins → l ∉ r.out.rd → r.S.nx ≤ l ∧ l < r.out.nx

def tmpsOf (ops : List Oper) (o : Oper) (sk : Bool) : List Nat :=
  (match o.guard with | some (j, _) => (gdst ops j).toList | none => []) ++ (if sk then [] else o.op.operands.toList.filterMap fun | .tmp t => some t | _ => none)
def meets (x y : List Nat) : Bool := x.any fun t => y.contains t
/-- Two operations that may stand either way. -/
def apartB (ops : List Oper) (o1 o2 : Oper) (r1 r2 : Rec) : Bool :=
  !(meets o1.dst.toList (tmpsOf ops o2 r2.sk)) && (!(meets o2.dst.toList (tmpsOf ops o1 r1.sk)) && (!(meets o1.dst.toList o2.dst.toList) && (!(meets r1.ws (r2.rs ++ r2.ws)) && !(meets r2.ws r1.rs))))

theorem Same.get (h : Same S S') (t : Nat) : S.get t = S'.get t := h.2.2.2.1 t
theorem Same.blk (h : Same S S') (l : Nat) : S.blk l = S'.blk l := by unfold St.blk; rw [h.2.2.2.2]

structure Trc (G : Env) (ops : Array Oper) (S0 Sf : St) (at_ : Nat → St) (rec : Nat → Rec) : Prop where
  first : Same (at_ 0) S0
  last : at_ ops.size = Sf
  here : ∀ i, i < ops.size → (rec i).S = at_ i
  next : ∀ i o, ops[i]? = some o → Same (at_ (i + 1)) ((rec i).next o)
  ok : ∀ i o, ops[i]? = some o → RecOk G ops.toList o (rec i)
  ap : ∀ i j oi oj, j < i → ops[i]? = some oi → ops[j]? = some oj → Rch ops.toList i j ∨ apartB ops.toList oj oi (rec j) (rec i) = true
  back : ∀ i o e, ops[i]? = some o → e ∈ o.after → Region.binds .any e = true → e.on < i

theorem meets_no {x y : List Nat} (h : meets x y = false) {t : Nat} (hx : t ∈ x) : t ∉ y := by
  intro hy
  unfold meets at h
  rw [List.any_eq_false] at h
  exact h t hx (by simpa using hy)

def slv (ops : Array Oper) (rec : Nat → Rec) (t j : Nat) : Option AV := match (ops[j]?).bind (·.dst) with
  | some d => if d = t then some (if (rec j).sk then .s undef else (rec j).out.v) else none
  | none => none
def lastB : List (Nat × Blk) → Nat → Option Blk
  | [], _ => none
  | (x, k) :: r, l => match lastB r l with | some k' => some k' | none => if l = x then some k else none
theorem lastB_ins (l : Nat) : ∀ (L : List (Nat × Blk)) (h : Hp), insH h L l = match lastB L l with | some k => some k | none => h l := by
  intro L
  induction L with
  | nil => intro h; rfl
  | cons p r ih =>
    intro h
    obtain ⟨x, k⟩ := p
    simp only [insH, lastB, ih]
    cases lastB r l with
    | some k' => rfl
    | none => simp only [updH]; split <;> rfl
theorem lastB_mem {l : Nat} : ∀ {L : List (Nat × Blk)}, lastB L l ≠ none → l ∈ L.map (·.1) := by
  intro L
  induction L with
  | nil => intro h; exact absurd rfl h
  | cons p r ih =>
    intro h
    obtain ⟨x, k⟩ := p
    simp only [lastB] at h
    cases hq : lastB r l with
    | some k' => have := ih (by rw [hq]; simp); simp only [List.map_cons, List.mem_cons]; exact .inr this
    | none =>
      rw [hq] at h
      simp only at h
      split at h
      · rename_i e; subst e; simp
      · exact absurd rfl h
def hpv (rec : Nat → Rec) (l j : Nat) : Option (Option Blk) := if (rec j).sk then none else (lastB (rec j).out.ins l).map some

section
variable {ops : Array Oper} {S0 Sf : St} {at_ : Nat → St} {rec : Nat → Rec}

theorem Trc.get (T : Trc G ops S0 Sf at_ rec) (t : Nat) : ∀ i, i ≤ ops.size → (at_ i).get t = look (fun _ => true) (slv ops rec t) (S0.get t) i := by
  intro i
  induction i with
  | zero => intro _; rw [T.first.get]; rfl
  | succ i ih =>
    intro hi
    have ho : ops[i]? = some ops[i] := Array.getElem?_eq_getElem (by omega)
    rw [(T.next i _ ho).get]
    simp only [look, if_true]
    have hS := T.here i (by omega)
    have ih' := ih (by omega)
    have hsl : slv ops rec t i = match ops[i].dst with | some d => if d = t then some (if (rec i).sk then .s undef else (rec i).out.v) else none | none => none := by
      unfold slv; rw [ho]; rfl
    rw [hsl]
    unfold Rec.next
    cases hd : ops[i].dst with
    | none =>
      simp only []
      rw [← ih', ← hS]
      split <;> rfl
    | some d =>
      simp only []
      split
      · rename_i hsk
        rw [St.get_put]
        by_cases e : t = d
        · subst e; simp
        · rw [if_neg e, if_neg (Ne.symm e), hS]; exact ih'
      · rename_i hsk
        rw [St.upd_get, St.get_put]
        by_cases e : t = d
        · subst e; simp
        · rw [if_neg e, if_neg (Ne.symm e), hS]; exact ih'
theorem Trc.blk (T : Trc G ops S0 Sf at_ rec) (l : Nat) : ∀ i, i ≤ ops.size → (at_ i).blk l = look (fun _ => true) (hpv rec l) (S0.blk l) i := by
  intro i
  induction i with
  | zero => intro _; rw [T.first.blk]; rfl
  | succ i ih =>
    intro hi
    have ho : ops[i]? = some ops[i] := Array.getElem?_eq_getElem (by omega)
    rw [(T.next i _ ho).blk]
    simp only [look, if_true]
    have hS := T.here i (by omega)
    have ih' := ih (by omega)
    unfold Rec.next
    split
    · rename_i hsk
      have hh : hpv rec l i = none := by unfold hpv; rw [if_pos hsk]
      rw [St.put_blk, hS, hh]; exact ih'
    · rename_i hsk
      have hh : hpv rec l i = (lastB (rec i).out.ins l).map some := by unfold hpv; rw [if_neg hsk]
      rw [St.upd_blk, lastB_ins, hh]
      cases lastB (rec i).out.ins l with
      | none => simp only [Option.map_none]; rw [hS]; exact ih'
      | some k => rfl
theorem Trc.nx (T : Trc G ops S0 Sf at_ rec) : ∀ i j, i ≤ j → j ≤ ops.size → (at_ i).nx ≤ (at_ j).nx := by
  intro i j hij
  induction j with
  | zero => intro _; have : i = 0 := by omega
            subst this; exact Nat.le_refl _
  | succ j ih =>
    intro hj
    by_cases e : i = j + 1
    · subst e; exact Nat.le_refl _
    · have h1 := ih (by omega) (by omega)
      have ho : ops[j]? = some ops[j] := Array.getElem?_eq_getElem (by omega)
      rw [(T.next j _ ho).2.2.1]
      have hS := T.here j (by omega)
      have hok := T.ok j _ ho
      unfold Rec.next
      split
      · rw [St.put_nx, hS]; exact h1
      · rename_i hsk
        have := (hok.nx (by simpa using hsk)).1
        rw [hS] at this
        exact Nat.le_trans h1 this
theorem Trc.same (T : Trc G ops S0 Sf at_ rec) : ∀ i, i ≤ ops.size → (at_ i).n = S0.n ∧ (at_ i).k = S0.k := by
  intro i
  induction i with
  | zero => intro _; exact ⟨T.first.1, T.first.2.1⟩
  | succ i ih =>
    intro hi
    have ho : ops[i]? = some ops[i] := Array.getElem?_eq_getElem (by omega)
    rw [(T.next i _ ho).1, (T.next i _ ho).2.1]
    have hS := T.here i (by omega)
    obtain ⟨h1, h2⟩ := ih (by omega)
    unfold Rec.next
    split
    · rw [St.put_n, St.put_k, hS]; exact ⟨h1, h2⟩
    · show ((rec i).S.put _ _).n = _ ∧ ((rec i).S.put _ _).k = _
      rw [St.put_n, St.put_k, hS]; exact ⟨h1, h2⟩

/-- Which operations have been done. -/
def inD (listed : Array Bool) : Nat → Bool := fun j => listed.getD j false
def Closed (ops : Array Oper) (listed : Array Bool) : Prop := ∀ i o e, inD listed i = true → ops[i]? = some o → e ∈ o.after → Region.binds .any e = true → inD listed e.on = true
theorem Closed.rch {listed : Array Bool} (h : Closed ops listed) {i j : Nat} (hr : Rch ops.toList i j) : inD listed i = true → inD listed j = true := by
  induction hr with
  | one i o e ho he hb => intro hi; exact h i o e hi (by simpa using ho) (by simpa using he) hb
  | step i j o e ho he hb hr ih => intro hi; exact ih (h i o e hi (by simpa using ho) (by simpa using he) hb)
theorem Closed.ready {listed : Array Bool} (h : Closed ops listed) {i : Nat} {o : Oper} (ho : ops[i]? = some o) (hp : ∀ e ∈ o.after, Region.binds .any e = true → inD listed e.on = true) {j : Nat} (hr : Rch ops.toList i j) : inD listed j = true := by
  cases hr with
  | one _ o' e ho' he hb =>
    have : o' = o := by simp only [Array.getElem?_toList] at ho'; rw [ho] at ho'; exact (Option.some.inj ho').symm
    subst this; exact hp e (by simpa using he) hb
  | step _ _ o' e ho' he hb hr =>
    have : o' = o := by simp only [Array.getElem?_toList] at ho'; rw [ho] at ho'; exact (Option.some.inj ho').symm
    subst this; exact h.rch hr (hp e (by simpa using he) hb)

end

end Go.Aw

/- Every order of a drawn region comes to what its trace comes to. -/
namespace Go.Aw
set_option linter.unusedVariables false
set_option linter.unusedSimpArgs false

variable {G : Env} {c : Ctx} {w w' : World} {M M' : Nat → Prop} {φ φ' : Pm} {S S' : St} {a : Act}
variable {ops : Array Oper} {S0 Sf : St} {at_ : Nat → St} {rec : Nat → Rec}

theorem look_upto {α : Type} {D : Nat → Bool} {val : Nat → Option α} {d : α} {i : Nat} (h1 : ∀ j, j < i → val j ≠ none → D j = true) : ∀ n, i ≤ n → (∀ j, i ≤ j → j < n → D j = true → val j = none) → look D val d n = look (fun _ => true) val d i := by
  intro n
  induction n with
  | zero => intro h _; have : i = 0 := by omega
            subst this; rfl
  | succ n ih =>
    intro hn h2
    by_cases e : i = n + 1
    · subst e
      exact look_congr _ fun j hj hv => h1 j hj hv
    · have h3 := ih (by omega) fun j a b => h2 j a (by omega)
      show (if D n then _ else _) = _
      by_cases hd : D n = true
      · rw [if_pos hd, h2 n (by omega) (by omega) hd]; exact h3
      · rw [if_neg hd]; exact h3

theorem apartB_spec {ops : List Oper} {o1 o2 : Oper} {r1 r2 : Rec} (h : apartB ops o1 o2 r1 r2 = true) :
    (∀ t, o1.dst = some t → t ∉ tmpsOf ops o2 r2.sk) ∧ (∀ t, o2.dst = some t → t ∉ tmpsOf ops o1 r1.sk) ∧ (∀ t, o1.dst = some t → o2.dst ≠ some t) ∧ (∀ l ∈ r1.ws, l ∉ r2.rs ∧ l ∉ r2.ws) ∧ (∀ l ∈ r2.ws, l ∉ r1.rs) := by
  unfold apartB at h
  simp only [Bool.and_eq_true, Bool.not_eq_true'] at h
  obtain ⟨h1, h2, h3, h4, h5⟩ := h
  refine ⟨fun t ht => meets_no h1 (by simp [ht]), fun t ht => meets_no h2 (by simp [ht]), fun t ht e => meets_no h3 (t := t) (by simp [ht]) (by simp [e]), fun l hl => ?_, fun l hl => meets_no h5 hl⟩
  have := meets_no h4 hl
  simp only [List.mem_append, not_or] at this
  exact this

theorem slv_some {t j : Nat} (h : slv ops rec t j ≠ none) : ∃ o, ops[j]? = some o ∧ o.dst = some t := by
  unfold slv at h
  split at h
  · rename_i d hd
    split at h
    · rename_i e; subst e
      cases ho : ops[j]? with
      | none => rw [ho] at hd; cases hd
      | some o => rw [ho] at hd; exact ⟨o, rfl, hd⟩
    · exact absurd rfl h
  · exact absurd rfl h
theorem hpv_some {l j : Nat} (h : hpv rec l j ≠ none) : l ∈ (rec j).ws := by
  unfold hpv at h
  split at h
  · exact absurd rfl h
  · rename_i hsk
    unfold Rec.ws
    rw [if_neg hsk]
    refine lastB_mem fun e => h ?_
    rw [e]; rfl

/-- Where the machine stands when what is listed has been done. -/
structure DS (c : Ctx) (ops : Array Oper) (S0 : St) (rec : Nat → Rec) (listed : Array Bool) (a : Act) (w : World) : Prop where
  size : listed.size = ops.size
  closed : Closed ops listed
  out : ∃ M φ, a.tmps.size = S0.n ∧ a.defers = [] ∧ (∀ t, Rep w M φ (look (inD listed) (slv ops rec t) (S0.get t) ops.size) (a.tmps.getD t undef)) ∧ HRel w M φ (fun l => look (inD listed) (hpv rec l) (S0.blk l) ops.size) ∧ Inv c w M φ ∧
    (∀ l, φ l ≠ none → l < S0.nx ∨ ∃ j k, inD listed j = true ∧ j < ops.size ∧ (rec j).sk = false ∧ (l, k) ∈ (rec j).out.ins ∧ l ∉ (rec j).out.rd)

theorem wanted_rep {ops : Array Oper} {o : Oper} {go : Bool} {a : Act} {S : St} (h : gOk ops.toList o S go) (hs : ∀ j want t, o.guard = some (j, want) → gdst ops.toList j = some t → Rep w M φ (S.get t) (a.tmps.getD t undef)) : Region.wanted o (yielded ops a.tmps) = go := by
  unfold gOk at h
  split at h
  · rename_i hg; simp [Region.wanted, hg, h]
  · rename_i j want hg
    obtain ⟨t, ht, h⟩ := h
    have h1 := hs j want t hg ht
    have h3 : ((ops[j]?).bind (·.dst)) = some t := by simpa [gdst] using ht
    rcases h with ⟨b, hb, e⟩ | ⟨q, hb, e⟩
    · rw [hb] at h1
      generalize hv : a.tmps.getD t undef = v at h1
      cases h1
      have h2 : a.tmps[t]? = some (.bool b) := by
        cases hq : a.tmps[t]? with
        | none => simp [Array.getD_eq_getD_getElem?, hq, undef] at hv
        | some q => simp [Array.getD_eq_getD_getElem?, hq] at hv; rw [hv]
      simp [Region.wanted, hg, yielded, h3, h2, e]
    · rw [hb] at h1
      generalize hv : a.tmps.getD t undef = v at h1
      cases h1
      cases hq : a.tmps[t]? with
      | none => simp [Region.wanted, hg, yielded, h3, hq, e]
      | some r =>
        simp [Array.getD_eq_getD_getElem?, hq] at hv
        subst hv
        simp [Region.wanted, hg, yielded, h3, hq, e]

theorem inD_set {listed : Array Bool} {i : Nat} (hi : i < listed.size) (j : Nat) : inD (listed.setIfInBounds i true) j = (if j = i then true else inD listed j) := by
  unfold inD
  by_cases e : j = i
  · subst e; simp [hi]
  · rw [if_neg e]; exact getD_set_ne _ (Ne.symm e)

section
variable {listed : Array Bool} {i : Nat} {o : Oper}

theorem Trc.pre (T : Trc G ops S0 Sf at_ rec) (hs : listed.size = ops.size) (hc : Closed ops listed) (ho : ops[i]? = some o) (hi : inD listed i = false) (hp : ∀ e ∈ o.after, Region.binds .any e = true → inD listed e.on = true) :
    (∀ t ∈ tmpsOf ops.toList o (rec i).sk, look (inD listed) (slv ops rec t) (S0.get t) ops.size = (at_ i).get t) ∧
    (∀ l ∈ (rec i).rs, look (inD listed) (hpv rec l) (S0.blk l) ops.size = (at_ i).blk l) := by
  have hlt : i < ops.size := (Array.getElem?_eq_some_iff.1 ho).1
  refine ⟨fun t ht => ?_, fun l hl => ?_⟩
  · rw [T.get t i (by omega)]
    refine look_upto (fun j hj hv => ?_) _ (by omega) fun j hj hjn hD => ?_
    · obtain ⟨oj, hoj, hd⟩ := slv_some hv
      rcases T.ap i j o oj hj ho hoj with q | q
      · exact hc.ready ho hp q
      · exact absurd ht ((apartB_spec q).1 t hd)
    · by_cases e : j = i
      · subst e; rw [hi] at hD; cases hD
      · cases hv : slv ops rec t j with
        | none => rfl
        | some x =>
          obtain ⟨oj, hoj, hd⟩ := slv_some (by rw [hv]; simp : slv ops rec t j ≠ none)
          rcases T.ap j i oj o (by omega) hoj ho with q | q
          · have := hc.rch q hD; rw [hi] at this; cases this
          · exact absurd ht ((apartB_spec q).2.1 t hd)
  · rw [T.blk l i (by omega)]
    refine look_upto (fun j hj hv => ?_) _ (by omega) fun j hj hjn hD => ?_
    · obtain ⟨oj, hoj⟩ : ∃ oj, ops[j]? = some oj := ⟨_, Array.getElem?_eq_getElem (by omega)⟩
      rcases T.ap i j o oj hj ho hoj with q | q
      · exact hc.ready ho hp q
      · exact absurd hl ((apartB_spec q).2.2.2.1 l (hpv_some hv)).1
    · by_cases e : j = i
      · subst e; rw [hi] at hD; cases hD
      · cases hv : hpv rec l j with
        | none => rfl
        | some x =>
          obtain ⟨oj, hoj⟩ : ∃ oj, ops[j]? = some oj := ⟨_, Array.getElem?_eq_getElem (by omega)⟩
          rcases T.ap j i oj o (by omega) hoj ho with q | q
          · have := hc.rch q hD; rw [hi] at this; cases this
          · exact absurd hl ((apartB_spec q).2.2.2.2 l (hpv_some (by rw [hv]; simp)))

/-- What is written stands: nothing that is done already and comes later in the text writes there. -/
theorem Trc.post_slot (T : Trc G ops S0 Sf at_ rec) (hs : listed.size = ops.size) (hc : Closed ops listed) (ho : ops[i]? = some o) (hi : inD listed i = false) {v : AV} (hv : (if (rec i).sk then .s undef else (rec i).out.v) = v) (t : Nat) :
    look (inD (listed.setIfInBounds i true)) (slv ops rec t) (S0.get t) ops.size = if o.dst = some t then v else look (inD listed) (slv ops rec t) (S0.get t) ops.size := by
  have hlt : i < ops.size := (Array.getElem?_eq_some_iff.1 ho).1
  by_cases hd : o.dst = some t
  · rw [if_pos hd]
    have hsl : slv ops rec t i = some v := by unfold slv; rw [ho]; simp only [Option.bind_some, hd, if_true, hv]
    refine look_set (i := i) (by rw [inD_set (by omega)]; simp) hsl _ hlt fun j hj hjn hD => ?_
    rw [inD_set (by omega), if_neg (by omega)] at hD
    cases hv : slv ops rec t j with
    | none => rfl
    | some x =>
      obtain ⟨oj, hoj, hdj⟩ := slv_some (by rw [hv]; simp : slv ops rec t j ≠ none)
      rcases T.ap j i oj o (by omega) hoj ho with q | q
      · have := hc.rch q hD; rw [hi] at this; cases this
      · exact absurd hdj ((apartB_spec q).2.2.1 t hd)
  · rw [if_neg hd]
    refine look_congr _ fun j hj hvj => ?_
    rw [inD_set (by omega)]
    split
    · rename_i e; subst e
      obtain ⟨oj, hoj, hdj⟩ := slv_some hvj
      rw [ho] at hoj; cases hoj; exact absurd hdj hd
    · rfl
theorem Trc.post_blk (T : Trc G ops S0 Sf at_ rec) (hs : listed.size = ops.size) (hc : Closed ops listed) (ho : ops[i]? = some o) (hi : inD listed i = false) (l : Nat) :
    look (inD (listed.setIfInBounds i true)) (hpv rec l) (S0.blk l) ops.size = match hpv rec l i with | some x => x | none => look (inD listed) (hpv rec l) (S0.blk l) ops.size := by
  have hlt : i < ops.size := (Array.getElem?_eq_some_iff.1 ho).1
  cases hh : hpv rec l i with
  | some x =>
    refine look_set (i := i) (by rw [inD_set (by omega)]; simp) hh _ hlt fun j hj hjn hD => ?_
    rw [inD_set (by omega), if_neg (by omega)] at hD
    cases hv : hpv rec l j with
    | none => rfl
    | some y =>
      obtain ⟨oj, hoj⟩ : ∃ oj, ops[j]? = some oj := ⟨_, Array.getElem?_eq_getElem hjn⟩
      rcases T.ap j i oj o (by omega) hoj ho with q | q
      · have := hc.rch q hD; rw [hi] at this; cases this
      · exact absurd (hpv_some (by rw [hv]; simp : hpv rec l j ≠ none)) ((apartB_spec q).2.2.2.1 l (hpv_some (by rw [hh]; simp))).2
  | none =>
    refine look_congr _ fun j hj hv => ?_
    rw [inD_set (by omega)]
    split
    · rename_i e; subst e; exact absurd hh hv
    · rfl
end

theorem Closed.set {listed : Array Bool} {i : Nat} {o : Oper} (hc : Closed ops listed) (hs : listed.size = ops.size) (ho : ops[i]? = some o) (hp : ∀ e ∈ o.after, Region.binds .any e = true → inD listed e.on = true) : Closed ops (listed.setIfInBounds i true) := by
  have hlt : i < ops.size := (Array.getElem?_eq_some_iff.1 ho).1
  intro j oj e hj hoj he hb
  rw [inD_set (by omega)] at hj ⊢
  by_cases q : e.on = i
  · rw [if_pos q]
  · rw [if_neg q]
    by_cases q2 : j = i
    · subst q2; rw [ho] at hoj; cases hoj; exact hp e he hb
    · rw [if_neg q2] at hj; exact hc j oj e hj hoj he hb

theorem DS.step (T : Trc G ops S0 Sf at_ rec) {listed : Array Bool} {i : Nat} (h : DS c ops S0 rec listed a w) (hnx0 : c.k ≤ S0.nx) (hr : i ∈ Region.ready .any ops listed) {N : Act → World → Prop} {Q : Exit → Act → World → Prop}
    (hN : ∀ a' w', DS c ops S0 rec (listed.setIfInBounds i true) a' w' → N a' w') : wpOp G.P ops Q i N a w := by
  obtain ⟨hi0, o, ho, hp⟩ := mem_ready.1 hr
  have hlt : i < ops.size := (Array.getElem?_eq_some_iff.1 ho).1
  have hs := h.size
  have hi : inD listed i = false := by
    unfold inD
    rw [Array.getD_eq_getD_getElem?] at hi0 ⊢
    rw [Array.getElem?_eq_getElem (by omega)] at hi0 ⊢
    exact hi0
  have hc := h.closed
  obtain ⟨hpt, hpb⟩ := T.pre hs hc ho hi hp
  have hok := T.ok i o ho
  have hS := T.here i hlt
  obtain ⟨M, φ, hn, hdf, hsl, hH, hI, hnw⟩ := h.out
  have hcl := hc.set hs ho hp
  have hsz : (listed.setIfInBounds i true).size = ops.size := by simp [hs]
  have hdn : dstOk S0 o.dst := by
    have := hok.d
    rw [hS] at this
    have e := (T.same i (by omega)).1
    unfold dstOk at this ⊢
    split at this <;> simp_all
  have hwant : Region.wanted o (yielded ops a.tmps) = !(rec i).sk := by
    refine wanted_rep (w := w) (M := M) (φ := φ) hok.g fun j want t hg ht => ?_
    rw [hS, ← hpt t (by unfold tmpsOf; rw [hg]; simp [ht])]
    exact hsl t
  unfold wpOp
  simp only [ho, hwant]
  have hmono : ∀ j, inD listed j = true → inD (listed.setIfInBounds i true) j = true := fun j hj => by rw [inD_set (by omega)]; split <;> simp_all
  cases hsk : (rec i).sk with
  | true =>
    simp only [Bool.not_true, Bool.false_eq_true, if_false]
    refine hN _ _ ⟨hsz, hcl, M, φ, ?_⟩
    have h3 := slots_put (S := ⟨S0.n, S0.k, [], [], 0⟩) (w' := w) (M' := M) (φ' := φ) (dst := o.dst) (x := undef) (v := .s undef) hn hdn (a := a) (by intro t; exact .bad _ _) (.s _ _)
    refine ⟨h3.1, h3.2.1.trans hdf, fun t => ?_, ?_, hI, fun l hl => ?_⟩
    · rw [T.post_slot hs hc ho hi (v := .s undef) (by rw [hsk]; rfl)]
      cases hd : o.dst with
      | none => simp only [reduceCtorEq, if_false]; exact hsl t
      | some d =>
        simp only [Option.some.injEq]
        have hd' : d < a.tmps.size := by rw [hd] at hdn; rw [hn]; exact hdn
        by_cases e : d = t
        · subst e
          rw [if_pos rfl]
          have : (a.put (some d) undef).tmps.getD d undef = undef := by simp [Act.put, hd']
          rw [this]; exact .s _ _
        · rw [if_neg e]
          have : (a.put (some d) undef).tmps.getD t undef = a.tmps.getD t undef := by
            simp [Act.put, Array.getElem?_setIfInBounds, e, Array.getD_eq_getD_getElem?]
          rw [this]; exact hsl t
    · have : (fun l => look (inD (listed.setIfInBounds i true)) (hpv rec l) (S0.blk l) ops.size) = fun l => look (inD listed) (hpv rec l) (S0.blk l) ops.size := by
        funext l
        rw [T.post_blk hs hc ho hi l]
        have : hpv rec l i = none := by unfold hpv; rw [if_pos hsk]
        rw [this]
      rw [this]; exact hH
    · rcases hnw l hl with q | ⟨j, k, q1, q2, q3⟩
      · exact .inl q
      · exact .inr ⟨j, k, hmono j q1, q2, q3⟩
  | false =>
    simp only [Bool.not_false, if_true]
    left
    have hnx := hok.nx hsk
    rw [hS] at hnx
    have hle : S0.nx ≤ (at_ i).nx := by have := T.nx 0 i (by omega) (by omega); rw [T.first.2.2.1] at this; exact this
    have hrun := hok.run hsk
    rw [hS] at hrun
    have hev : ∀ x ∈ o.op.operands.toList, Rep w M φ ((at_ i).eval x) (a.eval x) := fun x hx => by
      cases x with
      | tmp t =>
        have ht : t ∈ tmpsOf ops.toList o (rec i).sk := by
          unfold tmpsOf; rw [hsk]
          refine List.mem_append_right _ ?_
          simp only [Bool.false_eq_true, if_false]
          exact List.mem_filterMap.2 ⟨_, hx, rfl⟩
        have := hsl t
        rw [hpt t ht] at this
        exact this
      | const v => exact .s _ _
      | global g => exact .s _ _
      | func f => exact .fn _ _ _ [] rfl (by intro i hi; simp at hi)
    have hpb' : ∀ l ∈ (rec i).out.rd, look (inD listed) (hpv rec l) (S0.blk l) ops.size = (at_ i).blk l := fun l hl => hpb l (by unfold Rec.rs; rw [hsk]; exact hl)
    refine hrun w M φ _ a hH hev hpb' (fun l k hl hrd => ?_) _ _ fun val w' M' φ' hst hH' hv hfr => ?_
    · have hr := hnx.2 l k hl hrd
      cases hq : φ l with
      | none => rfl
      | some p =>
        exfalso
        rcases hnw l (by rw [hq]; simp) with q | ⟨j, k', q1, q2, q3, q4, q5⟩
        · omega
        · obtain ⟨oj, hoj⟩ : ∃ oj, ops[j]? = some oj := ⟨_, Array.getElem?_eq_getElem q2⟩
          have hj := (T.ok j oj hoj).nx q3
          have hjl := hj.2 l k' q4 q5
          have hSj := T.here j q2
          rw [hSj] at hjl
          rcases Nat.lt_trichotomy j i with z | z | z
          · have h1 := T.nx (j + 1) i (by omega) (by omega)
            rw [(T.next j oj hoj).2.2.1] at h1
            have : ((rec j).next oj).nx = (rec j).out.nx := by unfold Rec.next; rw [q3]; rfl
            rw [this] at h1; omega
          · subst z; rw [hi] at q1; cases q1
          · have h1 := T.nx (i + 1) j (by omega) (by omega)
            rw [(T.next i o ho).2.2.1] at h1
            have : ((rec i).next o).nx = (rec i).out.nx := by unfold Rec.next; rw [hsk]; rfl
            rw [this] at h1; omega
    · refine hN _ _ ⟨hsz, hcl, M', φ', ?_⟩
      have h3 := slots_put (S := ⟨S0.n, S0.k, [], [], 0⟩) (w' := w') (M' := M') (φ' := φ') (dst := o.dst) (x := val) (v := (rec i).out.v) hn hdn (a := a) (by intro t; exact .bad _ _) hv
      refine ⟨h3.1, h3.2.1.trans hdf, fun t => ?_, ?_, hI.step hst (fun l hl => ?_), fun l hl => ?_⟩
      · have hold := (hsl t).mono hst.ext (fun b hb => (hst.m b hb).1) hst.pext
        rw [T.post_slot hs hc ho hi (v := (rec i).out.v) (by rw [hsk]; rfl)]
        cases hd : o.dst with
        | none => simp only [reduceCtorEq, if_false]; exact hold
        | some d =>
          simp only [Option.some.injEq]
          have hd' : d < a.tmps.size := by rw [hd] at hdn; rw [hn]; exact hdn
          by_cases e : d = t
          · subst e
            rw [if_pos rfl]
            have : (a.put (some d) val).tmps.getD d undef = val := by simp [Act.put, hd']
            rw [this]; exact hv
          · rw [if_neg e]
            have : (a.put (some d) val).tmps.getD t undef = a.tmps.getD t undef := by
              simp [Act.put, Array.getElem?_setIfInBounds, e, Array.getD_eq_getD_getElem?]
            rw [this]; exact hold
      · have : (fun l => look (inD (listed.setIfInBounds i true)) (hpv rec l) (S0.blk l) ops.size) = insH (fun l => look (inD listed) (hpv rec l) (S0.blk l) ops.size) (rec i).out.ins := by
          funext l
          rw [T.post_blk hs hc ho hi l, lastB_ins]
          have : hpv rec l i = (lastB (rec i).out.ins l).map some := by unfold hpv; rw [hsk]; rfl
          rw [this]
          cases lastB (rec i).out.ins l <;> rfl
        rw [this]; exact hH'
      · rcases hfr l hl with q | ⟨q, hrd⟩
        · exact .inl q
        · obtain ⟨⟨l', k⟩, hm, rfl⟩ := List.mem_map.1 q
          have := (hnx.2 _ k hm hrd).1
          right; simp only; omega
      · rcases hfr l hl with q | ⟨q, hrd⟩
        · rcases hnw l q with q | ⟨j, k, q1, q2, q3⟩
          · exact .inl q
          · exact .inr ⟨j, k, hmono j q1, q2, q3⟩
        · obtain ⟨⟨l', k⟩, hm, rfl⟩ := List.mem_map.1 q
          exact .inr ⟨i, k, by rw [inD_set (by omega)]; simp, hlt, hsk, hm, hrd⟩

theorem DS.done (T : Trc G ops S0 Sf at_ rec) {listed : Array Bool} (h : DS c ops S0 rec listed a w) (hk0 : S0.k = c.k) (hnx0 : c.k ≤ S0.nx) (hr : Region.ready .any ops listed = []) : Sim c Sf a w := by
  have hs := h.size
  have hall : ∀ j, j < ops.size → inD listed j = true := by
    intro j
    induction j using Nat.strongRecOn with
    | _ j ih =>
      intro hj
      cases hq : inD listed j with
      | true => rfl
      | false =>
        exfalso
        have ho : ops[j]? = some ops[j] := Array.getElem?_eq_getElem hj
        have : j ∈ Region.ready .any ops listed := mem_ready.2 ⟨by
          unfold inD at hq
          rw [Array.getD_eq_getD_getElem?] at hq ⊢
          rw [Array.getElem?_eq_getElem (by omega)] at hq ⊢
          exact hq, _, ho, fun e he hb => by
            have hlt := T.back j _ e ho he hb
            exact ih e.on hlt (by omega)⟩
        rw [hr] at this; cases this
  obtain ⟨M, φ, hn, hdf, hsl, hH, hI, hnw⟩ := h.out
  have hsame := T.same ops.size (by omega)
  rw [T.last] at hsame
  have hle : S0.nx ≤ Sf.nx := by have := T.nx 0 ops.size (by omega) (by omega); rw [T.first.2.2.1, T.last] at this; exact this
  refine ⟨M, φ, ⟨by rw [hn, hsame.1], hdf, fun t => ?_, ?_⟩, hI, fun l hl => ?_, by rw [hsame.2, hk0], by omega⟩
  · rw [← T.last, T.get t _ (Nat.le_refl _), ← look_congr (D := inD listed) _ fun j hj _ => hall j hj]
    exact hsl t
  · have : Sf.blk = fun l => look (inD listed) (hpv rec l) (S0.blk l) ops.size := by
      funext l
      rw [← T.last, T.blk l _ (Nat.le_refl _)]
      exact (look_congr _ fun j hj _ => hall j hj).symm
    rw [this]; exact hH
  · cases hq : φ l with
    | none => rfl
    | some p =>
      exfalso
      rcases hnw l (by rw [hq]; simp) with q | ⟨j, k', q1, q2, q3, q4, q5⟩
      · omega
      · obtain ⟨oj, hoj⟩ : ∃ oj, ops[j]? = some oj := ⟨_, Array.getElem?_eq_getElem q2⟩
        have hj := ((T.ok j oj hoj).nx q3).2 l k' q4 q5
        have h1 := T.nx (j + 1) ops.size (by omega) (by omega)
        rw [(T.next j oj hoj).2.2.1, T.last] at h1
        have : ((rec j).next oj).nx = (rec j).out.nx := by unfold Rec.next; rw [q3]; rfl
        rw [this] at h1; omega

def unl (listed : Array Bool) : Nat := listed.toList.count false
theorem unl_set {listed : Array Bool} {i : Nat} (hi : i < listed.size) (h : inD listed i = false) : unl listed = unl (listed.setIfInBounds i true) + 1 := by
  unfold unl
  have h1 : listed.toList[i]'(by simpa using hi) = false := by
    unfold inD at h
    rw [Array.getD_eq_getD_getElem?, Array.getElem?_eq_getElem hi] at h
    simpa using h
  rw [Array.toList_setIfInBounds, List.count_set (by simpa using hi), h1]
  have : 0 < listed.toList.count false := List.count_pos_iff.2 (h1 ▸ List.getElem_mem _)
  have e1 : ((true == false) = true) = False := by simp
  simp only [beq_self_eq_true, if_true, e1, if_false]
  omega

theorem DS.go (T : Trc G ops S0 Sf at_ rec) (hk0 : S0.k = c.k) (hnx0 : c.k ≤ S0.nx) {Q : Exit → Act → World → Prop} (hQ : ∀ a w, Sim c Sf a w → Q .normal a w) : ∀ fuel listed a w, unl listed ≤ fuel → DS c ops S0 rec listed a w → wpAny G.P .any ops Q fuel listed a w := by
  intro fuel
  induction fuel with
  | zero =>
    intro listed a w hu h
    have hr : Region.ready .any ops listed = [] := by
      rw [List.eq_nil_iff_forall_not_mem]
      intro j hj
      obtain ⟨hj0, o, ho, _⟩ := mem_ready.1 hj
      have hlt : j < ops.size := (Array.getElem?_eq_some_iff.1 ho).1
      have hs := h.size
      have : inD listed j = false := by
        unfold inD
        rw [Array.getD_eq_getD_getElem?] at hj0 ⊢
        rw [Array.getElem?_eq_getElem (by omega)] at hj0 ⊢
        exact hj0
      have := unl_set (by omega) this
      omega
    exact ⟨hr, hQ _ _ (h.done T hk0 hnx0 hr)⟩
  | succ fuel ih =>
    intro listed a w hu h
    refine ⟨fun hr => hQ _ _ (h.done T hk0 hnx0 hr), fun j hj => h.step T hnx0 hj fun a' w' h' => ih _ _ _ ?_ h'⟩
    obtain ⟨hj0, o, ho, _⟩ := mem_ready.1 hj
    have hlt : j < ops.size := (Array.getElem?_eq_some_iff.1 ho).1
    have hs := h.size
    have : inD listed j = false := by
      unfold inD
      rw [Array.getD_eq_getD_getElem?] at hj0 ⊢
      rw [Array.getElem?_eq_getElem (by omega)] at hj0 ⊢
      exact hj0
    have := unl_set (by omega) this
    omega

theorem drawn_of_trc (T : Trc G ops S0 Sf at_ rec) : Drawn G ops S0 Sf := by
  intro c id Q a w h hQ
  obtain ⟨M, φ, hR, hI, hnx, hk, hkn⟩ := h.out
  have hst : StepOk w M φ { w with drawn := w.drawn + 1 } M φ := ⟨⟨Nat.le_refl _, fun _ _ _ => rfl, fun _ _ h => h⟩, .refl _, fun _ _ => Iff.rfl, fun _ _ _ => rfl, fun _ _ h => .inl h, rfl, rfl, rfl⟩
  have hno : ∀ j, inD (Array.replicate ops.size false) j = false := fun j => by
    unfold inD
    rw [Array.getD_eq_getD_getElem?, Array.getElem?_replicate]; split <;> rfl
  have look_none : ∀ {α : Type} {val : Nat → Option α} {d : α} (n : Nat), look (inD (Array.replicate ops.size false)) val d n = d := by
    intro α val d n
    induction n with
    | zero => rfl
    | succ n ih => simp only [look, hno, Bool.false_eq_true, if_false]; exact ih
  refine wp_region_any G.mixed (DS.go T hk hkn (fun a w hs => hQ a w hs) _ _ _ _ (by simp [unl]) ⟨by simp, fun i o e hi => ?_, M, φ, hR.n, hR.defers, fun t => ?_, ?_, ?_, fun l hl => ?_⟩)
  · rw [hno] at hi; cases hi
  · have : look (inD (Array.replicate ops.size false)) (slv ops rec t) (S0.get t) ops.size = S0.get t := look_none _
    rw [this]
    exact (hR.slot t).mono hst.ext (fun b hb => (hst.m b hb).1) hst.pext
  · have : (fun l => look (inD (Array.replicate ops.size false)) (hpv rec l) (S0.blk l) ops.size) = S0.blk := by funext l; exact look_none _
    rw [this]
    exact ⟨fun l k hk => (hR.heap.ok l k hk).mono hst.ext (fun _ _ => Iff.rfl) (.refl _) (fun p hp => hR.heap.lt l p hp) (fun _ _ => rfl), hR.heap.inj, hR.heap.lt⟩
  · exact hI.step hst fun l hl => .inl hl
  · left
    rcases Nat.lt_or_ge l S0.nx with q | q
    · exact q
    · exact absurd (hnx l q) hl

end Go.Aw

/- Drawn regions in computing form: the text's order, and a check that what is not ordered does not touch. -/
namespace Go.Aw
set_option linter.unusedVariables false
set_option linter.unusedSimpArgs false

variable {G : Env} {S S' : St}

/-- An operation's run, wherever it stands: with its outcome and what it tells of new blocks. -/
def RunsN (G : Env) (o : Oper) (S : St) (out : Out) : Prop := Runs G o S out ∧ S.nx ≤ out.nx ∧ ∀ l k, (l, k) ∈ out.ins → l ∉ out.rd → S.nx ≤ l ∧ l < out.nx
def dCall (G : Env) (o : Oper) (f : AV) (args : List AV) (S : St) (K : Out → St → Prop) : Prop := S.eval (match o.op with | .call ⟨.value f, _, _⟩ => f | _ => .const undef) = f → args = (match o.op with | .call ⟨_, args, _⟩ => args.toList.map S.eval | _ => []) → ∃ out, RunsN G o S out ∧ dstOk S o.dst ∧ K out (S.upd o.dst out)
def dApp (G : Env) (o : Oper) (s x : AV) (S : St) (K : Out → St → Prop) : Prop := ∃ out, RunsN G o S out ∧ dstOk S o.dst ∧ K out (S.upd o.dst out)
attribute [irreducible] dCall dApp
def dEv (F : AV → (AV → Prop) → Prop) (S : St) (dst : Option Nat) (e : R Out) (K : Out → St → Prop) : Prop :=
  match e with
  | .no => False
  | .ok out => eUpd F S dst out (K out)
  | .iff p out => p ∧ eUpd F S dst out (K out)
def dOp (G : Env) (o : Oper) (S : St) (K : Out → St → Prop) : Prop :=
  match S with
  | ⟨n, k, sl, hp, nx⟩ => match o.op with
    | .call ⟨.value f, args, _⟩ => dCall G o (St.eval ⟨n, k, sl, hp, nx⟩ f) (args.toList.map (St.eval ⟨n, k, sl, hp, nx⟩)) ⟨n, k, sl, hp, nx⟩ K
    | .call ⟨.builtin .append, args, ts⟩ => match args.toList with | [s, x] => dApp G o (St.eval ⟨n, k, sl, hp, nx⟩ s) (St.eval ⟨n, k, sl, hp, nx⟩ x) ⟨n, k, sl, hp, nx⟩ K | _ => False
    | .build t ps => dEv fA ⟨n, k, sl, hp, nx⟩ o.dst (evOpR G (.build t ps) (St.eval ⟨n, k, sl, hp, nx⟩) (St.blk ⟨n, k, sl, hp, nx⟩) nx) K
    | op => dEv fv ⟨n, k, sl, hp, nx⟩ o.dst (evOpR G op (St.eval ⟨n, k, sl, hp, nx⟩) (St.blk ⟨n, k, sl, hp, nx⟩) nx) K
def noOut : Out := ⟨.bad, [], [], 0⟩
def dOps (G : Env) (ops : List Oper) : List Oper → List Rec → St → (List Rec → St → Prop) → Prop
  | [], acc, S, K => K acc S
  | o :: r, acc, S, K =>
    match o.guard with
    | none => dOp G o S fun out S' => dOps G ops r (⟨S, false, out⟩ :: acc) S' K
    | some (j, want) => match gdst ops j with
      | some t => match S.get t with
        | .s (.bool b) => match want with
          | true => bc b (eSet S t (.s (.bool true)) fun S => dOp G o S fun out S' => dOps G ops r (⟨S, false, out⟩ :: acc) S' K)
              (eSet S t (.s (.bool false)) fun S => ePut S o.dst (.s undef) fun S' => dOps G ops r (⟨S, true, noOut⟩ :: acc) S' K)
          | false => bc b (eSet S t (.s (.bool true)) fun S => ePut S o.dst (.s undef) fun S' => dOps G ops r (⟨S, true, noOut⟩ :: acc) S' K)
              (eSet S t (.s (.bool false)) fun S => dOp G o S fun out S' => dOps G ops r (⟨S, false, out⟩ :: acc) S' K)
        | .s (.tuple _) => ePut S o.dst (.s undef) fun S' => dOps G ops r (⟨S, true, noOut⟩ :: acc) S' K
        | _ => False
      | none => False

/-! ### The check -/
def chkOne (ops : List Oper) (m : Nat) (o : Oper) (r : Rec) : Nat → List Oper → List Rec → Bool
  | j, oj :: os, rj :: rs => (Nat.testBit m j || apartB ops oj o rj r) && chkOne ops m o r (j + 1) os rs
  | _, _, _ => true
def chkAll (ops : List Oper) (ops0 : List Oper) (recs0 : List Rec) : Nat → List Nat → List Oper → List Rec → Bool
  | i, m :: ms, o :: os, r :: rs => o.after.toList.all (fun e => !Region.binds .any e || Nat.blt e.on i) && (chkOne ops m o r 0 (ops0.take i) (recs0.take i) && chkAll ops ops0 recs0 (i + 1) ms os rs)
  | _, _, _, _ => true
def chk (ops : List Oper) (recs : List Rec) : Bool := chkAll ops ops recs 0 (mks ops []) ops recs

inductive Chain (G : Env) (ops : List Oper) : St → List Oper → List Rec → St → Prop
  | nil (S : St) : Chain G ops S [] [] S
  | cons (S : St) (o : Oper) (os : List Oper) (r : Rec) (rs : List Rec) (Sf : St) (h1 : Same r.S S) (h2 : RecOk G ops o r) (h3 : Chain G ops (r.next o) os rs Sf) : Chain G ops S (o :: os) (r :: rs) Sf

theorem Same.refl (S : St) : Same S S := ⟨rfl, rfl, rfl, fun _ => rfl, rfl⟩
theorem Same.symm (h : Same S S') : Same S' S := ⟨h.1.symm, h.2.1.symm, h.2.2.1.symm, fun t => (h.2.2.2.1 t).symm, h.2.2.2.2.symm⟩

theorem dEv_ok {F : AV → (AV → Prop) → Prop} (hF : ∀ v k, F v k = k v) {dst : Option Nat} {e : R Out} {K : Out → St → Prop} (h : dEv F S dst e K) : ∃ out, e.is out ∧ dstOk S dst ∧ K out (S.upd dst out) := by
  unfold dEv at h
  split at h
  · exact h.elim
  · exact ⟨_, rfl, eUpd_ok hF h⟩
  · exact ⟨_, ⟨h.1, rfl⟩, eUpd_ok hF h.2⟩

theorem dOp_ok {o : Oper} {K : Out → St → Prop} (h : dOp G o S K) : ∃ out, RunsN G o S out ∧ dstOk S o.dst ∧ K out (S.upd o.dst out) := by
  have ev : ∀ {out}, evOp G o.op S.eval S.blk S.nx = some out → RunsN G o S out := fun {out} he => by
    obtain ⟨h1, h2⟩ := evOp_nx he
    exact ⟨.ev he, h1, fun l k a b => ⟨Nat.le_of_eq (h2 l k a b).1.symm, (h2 l k a b).2⟩⟩
  obtain ⟨n, k, sl, hp, nx⟩ := S
  unfold dOp at h
  simp only [] at h
  split at h
  · rename_i f args ts ho
    unfold dCall at h
    exact h (by rw [ho]) (by rw [ho])
  · split at h
    · unfold dApp at h; exact h
    · exact h.elim
  · rename_i ho
    obtain ⟨out, h3, h4, h5⟩ := dEv_ok fA_eq h
    have h6 := evOpR_is h3
    rw [← ho] at h6
    exact ⟨out, ev h6, h4, h5⟩
  · obtain ⟨out, h3, h4, h5⟩ := dEv_ok fv_eq h
    exact ⟨out, ev (evOpR_is h3), h4, h5⟩

theorem dOps_chain (ops : List Oper) {K : List Rec → St → Prop} : ∀ (rest : List Oper) (acc : List Rec) (S : St), dOps G ops rest acc S K → ∃ recs Sf, Chain G ops S rest recs Sf ∧ K (recs.reverse ++ acc) Sf := by
  intro rest
  induction rest with
  | nil => intro acc S h; exact ⟨[], S, .nil S, h⟩
  | cons o r ih =>
    intro acc S h
    have run : ∀ (S1 : St), Same S1 S → gOk ops o S1 true → (dOp G o S1 fun out S' => dOps G ops r (⟨S1, false, out⟩ :: acc) S' K) → ∃ recs Sf, Chain G ops S (o :: r) recs Sf ∧ K (recs.reverse ++ acc) Sf := fun S1 hs hg h => by
      obtain ⟨out, ⟨hr, hnx⟩, hd, hk⟩ := dOp_ok h
      obtain ⟨recs, Sf, hc, hk⟩ := ih _ _ hk
      exact ⟨⟨S1, false, out⟩ :: recs, Sf, .cons _ _ _ _ _ _ hs ⟨hd, hg, fun _ => hr, fun _ => hnx⟩ hc, by simpa using hk⟩
    have skip : ∀ (S1 : St), Same S1 S → gOk ops o S1 false → (ePut S1 o.dst (.s undef) fun S' => dOps G ops r (⟨S1, true, noOut⟩ :: acc) S' K) → ∃ recs Sf, Chain G ops S (o :: r) recs Sf ∧ K (recs.reverse ++ acc) Sf := fun S1 hs hg h => by
      obtain ⟨hd, hk⟩ := ePut_ok h
      obtain ⟨recs, Sf, hc, hk⟩ := ih _ _ hk
      exact ⟨⟨S1, true, noOut⟩ :: recs, Sf, .cons _ _ _ _ _ _ hs ⟨hd, hg, fun h => (by cases h), fun h => (by cases h)⟩ hc, by simpa using hk⟩
    simp only [dOps] at h
    split at h
    · rename_i hg
      exact run S (.refl S) (by unfold gOk; rw [hg]) h
    · rename_i j want hg
      split at h
      · rename_i t ht
        split at h
        · rename_i b hb
          simp only [eSet_eq] at h
          have hgo : ∀ (b' : Bool), gOk ops o (S.put (some t) (.s (.bool b'))) (b' == want) := fun b' => by
            unfold gOk; rw [hg]
            exact ⟨t, ht, .inl ⟨b', by rw [St.get_put, if_pos rfl], rfl⟩⟩
          have hsm := (same_put hb).symm
          cases want with
          | true => cases b with
            | true => exact run _ hsm (hgo true) h
            | false => exact skip _ hsm (hgo false) h
          | false => cases b with
            | true => exact skip _ hsm (hgo true) h
            | false => exact run _ hsm (hgo false) h
        · rename_i q hq
          exact skip S (.refl S) (by unfold gOk; rw [hg]; exact ⟨t, ht, .inr ⟨q, hq, rfl⟩⟩) h
        · exact h.elim
      · exact h.elim

def atL (recs : List Rec) (Sf : St) (i : Nat) : St := match recs[i]? with | some r => r.S | none => Sf
def rec0 : Rec := ⟨⟨0, 0, [], [], 0⟩, true, noOut⟩

theorem Chain.len {ops : List Oper} {os : List Oper} {recs : List Rec} {Sf : St} (h : Chain G ops S os recs Sf) : recs.length = os.length := by
  induction h with
  | nil => rfl
  | cons _ _ _ _ _ _ _ _ _ ih => simp [ih]
theorem Chain.first {ops : List Oper} {os : List Oper} {recs : List Rec} {Sf : St} (h : Chain G ops S os recs Sf) : Same (atL recs Sf 0) S := by
  cases h with
  | nil => exact .refl _
  | cons _ _ _ _ _ _ h1 => exact h1
theorem Chain.at {ops : List Oper} {os : List Oper} {recs : List Rec} {Sf : St} (h : Chain G ops S os recs Sf) : ∀ i o, os[i]? = some o → ∃ r, recs[i]? = some r ∧ RecOk G ops o r ∧ Same (atL recs Sf (i + 1)) (r.next o) := by
  induction h with
  | nil => intro i o h; cases h
  | cons S o os r rs Sf h1 h2 h3 ih =>
    intro i o' ho
    cases i with
    | zero => cases ho; exact ⟨r, rfl, h2, by have := h3.first; unfold atL at this ⊢; rwa [List.getElem?_cons_succ]⟩
    | succ i =>
      rw [List.getElem?_cons_succ] at ho
      obtain ⟨r', h4, h5, h6⟩ := ih i o' ho
      refine ⟨r', by rw [List.getElem?_cons_succ]; exact h4, h5, ?_⟩
      unfold atL at h6 ⊢
      rwa [List.getElem?_cons_succ]

theorem chkOne_spec {ops : List Oper} {m : Nat} {o : Oper} {r : Rec} : ∀ (os : List Oper) (rs : List Rec) (j : Nat), chkOne ops m o r j os rs = true → ∀ k oj rj, os[k]? = some oj → rs[k]? = some rj → Nat.testBit m (j + k) = true ∨ apartB ops oj o rj r = true := by
  intro os
  induction os with
  | nil => intro rs j _ k oj rj h; cases h
  | cons o' os ih =>
    intro rs j h k oj rj ho hr
    cases rs with
    | nil => cases hr
    | cons r' rs =>
      simp only [chkOne, Bool.and_eq_true, Bool.or_eq_true] at h
      cases k with
      | zero => cases ho; cases hr; exact h.1
      | succ k =>
        rw [List.getElem?_cons_succ] at ho hr
        have := ih rs (j + 1) h.2 k oj rj ho hr
        rwa [show j + 1 + k = j + (k + 1) by omega] at this
theorem chkAll_spec {ops ops0 : List Oper} {recs0 : List Rec} : ∀ (os : List Oper) (ms : List Nat) (rs : List Rec) (i : Nat), ms.length = os.length → rs.length = os.length → chkAll ops ops0 recs0 i ms os rs = true → ∀ k o r, os[k]? = some o → rs[k]? = some r →
    (∀ e ∈ o.after.toList, Region.binds .any e = true → e.on < i + k) ∧ ∀ j oj rj, j < i + k → ops0[j]? = some oj → recs0[j]? = some rj → Nat.testBit (ms.getD k 0) j = true ∨ apartB ops oj o rj r = true := by
  intro os
  induction os with
  | nil => intro ms rs i _ _ _ k o r h; cases h
  | cons o' os ih =>
    intro ms rs i hm hr h k o r ho hrr
    match ms, rs, hm, hr with
    | m :: ms, r' :: rs, hm, hr =>
      simp only [chkAll, Bool.and_eq_true] at h
      obtain ⟨h1, h2, h3⟩ := h
      cases k with
      | zero =>
        cases ho; cases hrr
        refine ⟨fun e he hb => ?_, fun j oj rj hj ho hr => ?_⟩
        · have := List.all_eq_true.1 h1 e he
          rw [hb] at this; simpa using this
        · have := chkOne_spec _ _ 0 h2 j oj rj (by rw [List.getElem?_take, if_pos (by omega)]; exact ho) (by rw [List.getElem?_take, if_pos (by omega)]; exact hr)
          simpa using this
      | succ k =>
        rw [List.getElem?_cons_succ] at ho hrr
        have := ih ms rs (i + 1) (by simpa using hm) (by simpa using hr) h3 k o r ho hrr
        rw [show i + 1 + k = i + (k + 1) by omega] at this
        simpa using this
theorem mks_len : ∀ (os : List Oper) (acc : List Nat), (mks os acc).length = acc.length + os.length := by
  intro os
  induction os with
  | nil => intro acc; rfl
  | cons o r ih => intro acc; simp only [mks, ih, List.length_append, List.length_cons, List.length_nil]; omega

/-- A drawn region comes to what the text's order comes to. -/
theorem eDraw_ok {ops : Array Oper} {K : St → Prop} (h : dOps G ops.toList ops.toList [] S fun acc S' => chk ops.toList acc.reverse = true ∧ K S') : eDraw G ops S K := by
  unfold eDraw
  obtain ⟨recs, Sf, hc, hch, hk⟩ := dOps_chain _ _ _ _ h
  rw [List.append_nil, List.reverse_reverse] at hch
  refine ⟨Sf, drawn_of_trc (at_ := atL recs Sf) (rec := fun i => recs.getD i rec0) ?_, hk⟩
  have hlen := hc.len
  have hat : ∀ i o, ops[i]? = some o → ∃ r, recs[i]? = some r ∧ RecOk G ops.toList o r ∧ Same (atL recs Sf (i + 1)) (r.next o) := fun i o ho => hc.at i o (by simpa using ho)
  have hrec : ∀ i r, recs[i]? = some r → recs.getD i rec0 = r := fun i r hr => by rw [List.getD_eq_getElem?_getD, hr]; rfl
  have hall := chkAll_spec _ _ _ 0 (by rw [mks_len]; simp) hlen hch
  refine ⟨hc.first, ?_, fun i hi => ?_, fun i o ho => ?_, fun i o ho => ?_, fun i j oi oj hj hoi hoj => ?_, fun i o e ho he hb => ?_⟩
  · unfold atL; rw [List.getElem?_eq_none (by rw [hlen]; simp)]
  · have hi' : i < recs.length := by rw [hlen]; simpa using hi
    unfold atL
    rw [List.getElem?_eq_getElem hi', List.getD_eq_getElem?_getD, List.getElem?_eq_getElem hi']; rfl
  · obtain ⟨r, h1, h2, h3⟩ := hat i o ho
    rw [hrec i r h1]; exact h3
  · obtain ⟨r, h1, h2, h3⟩ := hat i o ho
    simp only [hrec i r h1]; exact h2
  · obtain ⟨ri, h1, _⟩ := hat i oi hoi
    obtain ⟨rj, h2, _⟩ := hat j oj hoj
    simp only [hrec i ri h1, hrec j rj h2]
    rcases (hall i oi ri (by simpa using hoi) h1).2 j oj rj (by omega) (by simpa using hoj) h2 with q | q
    · exact .inl (mks_rch ops.toList ops.toList [] (by simp) (by simp) (by simp) _ _ q)
    · exact .inr q
  · obtain ⟨ri, h1, _⟩ := hat i o ho
    have := (hall i o ri (by simpa using ho) h1).1 e (by simpa using he) hb
    omega

/-! ### Calls that read some of the code's blocks -/
theorem fz_mono {h1 h2 : Hp} {ok : Okf} (hh : ∀ l k, h1 l = some k → h2 l = some k) : ∀ n, (∀ v v', fz h1 ok n v = some v' → fz h2 ok n v = some v') ∧ (∀ l l', fzL h1 ok n l = some l' → fzL h2 ok n l = some l') ∧ (∀ l l', fzLL h1 ok n l = some l' → fzLL h2 ok n l = some l') := by
  intro n
  induction n with
  | zero =>
    refine ⟨fun v v' hv => ?_, fun l l' hl => ?_, fun l l' hl => ?_⟩
    · cases v <;> simp only [fz, reduceCtorEq] at hv ⊢ <;> exact hv
    · cases l <;> simp only [fzL, reduceCtorEq] at hl ⊢; exact hl
    · cases l <;> simp only [fzLL, reduceCtorEq] at hl ⊢; exact hl
  | succ n ih =>
    obtain ⟨i1, i2, i3⟩ := ih
    refine ⟨fun v v' hv => ?_, fun l l' hl => ?_, fun l l' hl => ?_⟩
    · cases v <;> simp only [fz, reduceCtorEq] at hv ⊢ <;> try exact hv
      · simp only [Option.map_eq_some_iff] at hv ⊢; obtain ⟨cs, e1, e2⟩ := hv; exact ⟨cs, i2 _ _ e1, e2⟩
      · simp only [Option.map_eq_some_iff] at hv ⊢; obtain ⟨cs, e1, e2⟩ := hv; exact ⟨cs, i2 _ _ e1, e2⟩
      · split at hv
        · rename_i k hk
          rw [hh _ _ hk]
          simp only []
          split at hv
          · rename_i hc
            rw [if_pos hc]
            split at hv
            · rename_i hcl; rw [if_pos hcl]; exact hv
            · rename_i hcl
              rw [if_neg hcl]
              simp only [Option.map_eq_some_iff] at hv ⊢; obtain ⟨cs, e1, e2⟩ := hv; exact ⟨cs, i3 _ _ e1, e2⟩
          · cases hv
        · cases hv
      · split at hv
        · rename_i k hk
          rw [hh _ _ hk]
          simp only []
          split at hv
          · rename_i hc
            rw [if_pos hc]
            split at hv
            · rename_i hcl; rw [if_pos hcl]; exact hv
            · rename_i hcl
              rw [if_neg hcl]
              simp only [Option.map_eq_some_iff] at hv ⊢; obtain ⟨cs, e1, e2⟩ := hv; exact ⟨cs, i2 _ _ e1, e2⟩
          · cases hv
        · cases hv
      · simp only [Option.map_eq_some_iff] at hv ⊢; obtain ⟨cs, e1, e2⟩ := hv; exact ⟨cs, i2 _ _ e1, e2⟩
    · cases l with
      | nil => exact hl
      | cons v r =>
        simp only [fzL] at hl ⊢
        split at hl
        · rename_i x y e1 e2; rw [i1 _ _ e1, i2 _ _ e2]; exact hl
        · cases hl
    · cases l with
      | nil => exact hl
      | cons v r =>
        simp only [fzLL] at hl ⊢
        split at hl
        · rename_i x y e1 e2; rw [i2 _ _ e1, i3 _ _ e2]; exact hl
        · cases hl
mutual
theorem vw_mono {h1 h2 : Hp} {ok : Okf} {σ : Nat → Option Nat} {n : Nat} (hh : ∀ l k, h1 l = some k → h2 l = some k) : ∀ (v v' : AV), vw h1 ok σ n v = some v' → vw h2 ok σ n v = some v'
  | .agg cs, v', h => by simp only [vw, Option.map_eq_some_iff] at h ⊢; obtain ⟨c, e1, e2⟩ := h; exact ⟨c, vwL_mono hh cs c e1, e2⟩
  | .tup cs, v', h => by simp only [vw, Option.map_eq_some_iff] at h ⊢; obtain ⟨c, e1, e2⟩ := h; exact ⟨c, vwL_mono hh cs c e1, e2⟩
  | .fn f cs, v', h => by simp only [vw, Option.map_eq_some_iff] at h ⊢; obtain ⟨c, e1, e2⟩ := h; exact ⟨c, vwL_mono hh cs c e1, e2⟩
  | .loc l sz off len, v', h => by simp only [vw] at h ⊢; split at h; exact h; exact (fz_mono hh n).1 _ _ h
  | .ptr l i o, v', h => by simp only [vw] at h ⊢; split at h; exact h; exact (fz_mono hh n).1 _ _ h
  | .s v, v', h => h
  | .sl nn sz es, v', h => h
  | .e nl, v', h => h
  | .rp m cs, v', h => h
  | .bad, v', h => h
theorem vwL_mono {h1 h2 : Hp} {ok : Okf} {σ : Nat → Option Nat} {n : Nat} (hh : ∀ l k, h1 l = some k → h2 l = some k) : ∀ (l l' : List AV), vwL h1 ok σ n l = some l' → vwL h2 ok σ n l = some l'
  | [], l', h => h
  | v :: r, l', h => by
    simp only [vwL] at h ⊢
    split at h
    · rename_i x y e1 e2; rw [vw_mono hh v x e1, vwL_mono hh r y e2]; exact h
    · cases h
end
def cutH (h : Hp) (L : List Nat) : Hp := fun l => if L.contains l then h l else none
theorem cutH_le {h h' : Hp} {L : List Nat} (e : ∀ l ∈ L, h' l = h l) : ∀ l k, cutH h L l = some k → h' l = some k := fun l k hk => by
  unfold cutH at hk
  split at hk
  · rename_i hc; rw [e l (by simpa using hc)]; exact hk
  · cases hk

theorem Runs.read {o : Oper} {f : Operand} {args : Array Operand} {ts : Array TypeId} {fid : FuncId} {caps args' : List AV} {r : AV} (L : List Nat) (ho : o.op = .call ⟨.value f, args, ts⟩) (hf : S.eval f = .fn fid caps)
    (hv : vwL (cutH S.blk L) okRead (fun _ => none) 6 (args.toList.map S.eval ++ caps) = some args') (hs : Fun G fid args' [] r []) : Runs G o S ⟨r, [], L, S.nx⟩ := by
  intro w M φ hp a HR hx hrd hnw N Q hN
  obtain ⟨vl, hfv, hpw⟩ := pw_args ho hf hx
  unfold Oper.wp
  rw [exec_call ho hfv, run_callFunc hs.1]
  refine (call_pure HR (vwL_mono (cutH_le hrd) _ _ hv) hs.2 hpw).mono ?_
  rintro e w' ⟨v, M', rfl, h1, h2, h3⟩
  exact hN _ _ _ _ h1 h2 h3 fun _ h => .inl h
theorem Runs.flat {o : Oper} {f : Operand} {args : Array Operand} {ts : Array TypeId} {fid : FuncId} {caps args' : List AV} {r : AV} (L : List Nat) (ho : o.op = .call ⟨.value f, args, ts⟩) (hf : S.eval f = .fn fid caps)
    (hv : vwL (cutH S.blk L) okAll (fun _ => none) 6 (args.toList.map S.eval ++ caps) = some args') (hs : Fun G fid args' [] r []) (hr : flat r = true) : Runs G o S ⟨r, [], L, S.nx⟩ := by
  intro w M φ hp a HR hx hrd hnw N Q hN
  obtain ⟨vl, hfv, hpw⟩ := pw_args ho hf hx
  unfold Oper.wp
  rw [exec_call ho hfv, run_callFunc hs.1]
  refine (call_flat HR (vwL_mono (cutH_le hrd) _ _ hv) hs.2 hr hpw).mono ?_
  rintro e w' ⟨v, rfl, h1, h2, h3⟩
  exact hN _ _ _ _ h1 h2 h3 fun _ h => .inl h

/-- A call in a drawn region; it reads the blocks L at most. -/
theorem dCall_pure {o : Oper} {f : FuncId} {caps args args' : List AV} {K : Out → St → Prop} {r : AV} (L : List Nat) (hs : Fun G f args' [] r []) {fo : Operand} {ao : Array Operand} {ts : Array TypeId} (ho : o.op = .call ⟨.value fo, ao, ts⟩) (hv : vwL (cutH S.blk L) okRead (fun _ => none) 6 (args ++ caps) = some args') (hk : eUpd fv S o.dst ⟨r, [], L, S.nx⟩ (K ⟨r, [], L, S.nx⟩)) :
    dCall G o (.fn f caps) args S K := by
  unfold dCall
  intro hf ha
  rw [ho] at hf ha
  subst ha
  obtain ⟨h1, h2⟩ := eUpd_ok fv_eq hk
  exact ⟨_, ⟨.read L ho hf hv hs, Nat.le_refl _, fun l k hl => (by cases hl)⟩, h1, h2⟩
theorem dCall_flat {o : Oper} {f : FuncId} {caps args args' : List AV} {K : Out → St → Prop} {r : AV} (L : List Nat) (hs : Fun G f args' [] r []) {fo : Operand} {ao : Array Operand} {ts : Array TypeId} (ho : o.op = .call ⟨.value fo, ao, ts⟩) (hv : vwL (cutH S.blk L) okAll (fun _ => none) 6 (args ++ caps) = some args') (hr : Aw.flat r = true) (hk : eUpd fv S o.dst ⟨r, [], L, S.nx⟩ (K ⟨r, [], L, S.nx⟩)) :
    dCall G o (.fn f caps) args S K := by
  unfold dCall
  intro hf ha
  rw [ho] at hf ha
  subst ha
  obtain ⟨h1, h2⟩ := eUpd_ok fv_eq hk
  exact ⟨_, ⟨.flat L ho hf hv hs hr, Nat.le_refl _, fun l k hl => (by cases hl)⟩, h1, h2⟩
theorem dCall_ext {o : Oper} {f : FuncId} {caps args : List AV} {fo : Operand} {ao : Array Operand} {ts : Array TypeId} {K : Out → St → Prop} {r : AV} (hs : Ext G.P f (args ++ caps) r) (ho : o.op = .call ⟨.value fo, ao, ts⟩) (hk : eUpd fv S o.dst ⟨r, [], [], S.nx⟩ (K ⟨r, [], [], S.nx⟩)) :
    dCall G o (.fn f caps) args S K := by
  unfold dCall
  intro hf ha
  rw [ho] at hf ha
  subst ha
  obtain ⟨h1, h2⟩ := eUpd_ok fv_eq hk
  exact ⟨_, ⟨.ext ho hf hs, Nat.le_refl _, fun l k hl => (by cases hl)⟩, h1, h2⟩

end Go.Aw

/- Rules at the evaluator's marks: calls, append, loops, returns. -/
namespace Go.Aw
set_option linter.unusedVariables false
set_option linter.unusedSimpArgs false

variable {G : Env} {S S' : St}

/-- Go on with another heap. -/
def eHp (S : St) (ins : List (Nat × Blk)) (nx : Nat) (dst : Option Nat) (r : AV) (K : St → Prop) : Prop :=
  match S with
  | ⟨n, k, sl, hp, _⟩ => setAllK ins hp fun hp' => ePut ⟨n, k, sl, hp', nx⟩ dst r K
theorem eHp_ok {ins : List (Nat × Blk)} {nx : Nat} {dst : Option Nat} {r : AV} {K : St → Prop} (h : eHp S ins nx dst r K) : ePut { S with hp := setAll ins S.hp, nx := nx } dst r K := by
  obtain ⟨n, k, sl, hp, nx'⟩ := S
  simp only [eHp, setAllK_eq] at h
  exact h
theorem dstOk_of {S S' : St} {d : Option Nat} (h : S'.n = S.n) (hd : dstOk S' d) : dstOk S d := by
  unfold dstOk at hd ⊢; rw [← h]; exact hd

/-- A call that is lent the blocks σl, reads all others, and brings blocks of its own; it hands back no block that it only read. -/
theorem eCall_own {f : FuncId} {caps args args' : List AV} {dst : Option Nat} {K : St → Prop} {r : AV} {Hin Hout : List Blk} (σl : List Nat) (n : Nat) (hs : Fun G f args' Hin r Hout) (hd : σl.Nodup) (hv : vwL (onlyB σl S.blk) okRead (idx · σl) n (args ++ caps) = some args')
    (hB : lent (onlyB σl S.blk) okRead (idx · σl) n σl = some Hin) (hr : oflat r = true) (hf : Hout.all oflatB = true)
    (hk : eHp S (insB (back σl S.nx Hout.length) 0 Hout) (S.nx + (Hout.length - σl.length)) dst (ren (back σl S.nx Hout.length) r) K) : eCall G (.fn f caps) args dst S K := by
  unfold eCall
  obtain ⟨h1, h2⟩ := ePut_ok (eHp_ok hk)
  exact .inl ⟨dstOk_of (by rfl) h1, _, _, .own σl n args' Hin Hout r hs.1 hd hv hB hs.2 hr hf, h2⟩
/-- A call that is lent the blocks σl; the blocks F it may hand back, and nobody writes them any more. -/
theorem eCall_gen {f : FuncId} {caps args args' : List AV} {dst : Option Nat} {K : St → Prop} {r : AV} {Hin Hout : List Blk} (F σl : List Nat) (n : Nat) (hs : Fun G f args' Hin r Hout) (hF : ∀ l ∈ F, S.k ≤ l) (hd : σl.Nodup) (hv : vwL (S.frz F).blk okRead (idx · σl) n (args ++ caps) = some args')
    (hB : lent (S.frz F).blk okRead (idx · σl) n σl = some Hin)
    (hk : eHp (S.frz F) (insB (back σl S.nx Hout.length) 0 Hout) (S.nx + (Hout.length - σl.length)) dst (ren (back σl S.nx Hout.length) r) K) : eCall G (.fn f caps) args dst S K := by
  unfold eCall
  obtain ⟨h1, h2⟩ := ePut_ok (eHp_ok hk)
  exact .inl ⟨dstOk_of (by rfl) h1, _, _, .gen F σl n args' Hin Hout r hs.1 hF hd hv hB hs.2, h2⟩

theorem eApp_same {ts : Array TypeId} {s x : AV} {dst : Option Nat} {K : St → Prop} (ti : TI) (sz : Nat) (cl : Bool) (ht : appTy G ts = some ti) (hx : xel S.blk x = some (sz, [], cl)) (hs : ∃ nl, s = .e nl ∨ ∃ z q, s = .sl nl z q) (hk : ePut S dst s K) : eApp G ts s x dst S K := by
  unfold eApp
  obtain ⟨h1, h2⟩ := ePut_ok hk
  exact ⟨h1, _, _, .same ti sz [] cl ht hx rfl hs, h2⟩
theorem eApp_new {ts : Array TypeId} {nl : Bool} {x : AV} {dst : Option Nat} {K : St → Prop} (ti : TI) (es : List (List AV)) (cl : Bool) (ht : appTy G ts = some ti) (hx : xel S.blk x = some (ti.sz, es, cl)) (he : es ≠ []) (hb : es.length * ti.by_ ≤ 35184372088832)
    (hk : eHp S [(S.nx, ⟨true, cl, ti.sz, es⟩)] (S.nx + 1) dst (.loc S.nx ti.sz 0 es.length) K) : eApp G ts (.e nl) x dst S K := by
  unfold eApp
  obtain ⟨h1, h2⟩ := ePut_ok (eHp_ok hk)
  exact ⟨dstOk_of (by rfl) h1, _, _, .new ti ti.sz es cl ht hx he rfl (.inl ⟨_, rfl⟩) hb, h2⟩
theorem eApp_newz {ts : Array TypeId} {z : Nat} {x : AV} {dst : Option Nat} {K : St → Prop} (ti : TI) (es : List (List AV)) (cl : Bool) (ht : appTy G ts = some ti) (hx : xel S.blk x = some (ti.sz, es, cl)) (he : es ≠ []) (hb : es.length * ti.by_ ≤ 35184372088832)
    (hk : eHp S [(S.nx, ⟨true, cl, ti.sz, es⟩)] (S.nx + 1) dst (.loc S.nx ti.sz 0 es.length) K) : eApp G ts (.sl true z []) x dst S K := by
  unfold eApp
  obtain ⟨h1, h2⟩ := ePut_ok (eHp_ok hk)
  exact ⟨dstOk_of (by rfl) h1, _, _, .new ti ti.sz es cl ht hx he rfl (.inr ⟨_, rfl⟩) hb, h2⟩
theorem eApp_grow {ts : Array TypeId} {x : AV} {dst : Option Nat} {K : St → Prop} {l sz off len : Nat} (ti : TI) (es : List (List AV)) (cl : Bool) (k : Blk) (ht : appTy G ts = some ti) (hx : xel S.blk x = some (sz, es, cl)) (hz : sz = ti.sz)
    (hk : S.blk l = some k) (hw : k.wr = true) (hl : S.k ≤ l) (hks : k.sz = ti.sz) (hlen : off + len = k.es.length) (hb : (len + es.length) * ti.by_ ≤ 35184372088832)
    (hK : ePut (S.grow l ⟨true, k.cl && cl, ti.sz, (if off = 0 then k.es else k.es.drop off) ++ es⟩) dst (.loc l ti.sz 0 (len + es.length)) K) : eApp G ts (.loc l sz off len) x dst S K := by
  unfold eApp
  obtain ⟨h1, h2⟩ := ePut_ok hK
  subst hz
  exact ⟨dstOk_of (by rfl) h1, _, _, .grow ti ti.sz es cl l off len k ht hx (.inr rfl) rfl hk hw hl hks hlen hb, h2⟩

/-! ### Returns -/
theorem ret_pure {fn : Func} {r r' : AV} {vs : List AV} {e : Exit} {S : St} (he : e = .normal ∨ e = .ret) (h1 : resL G S fn.results.toList = some vs) (h2 : vw S.blk (okOut []) (fun _ => none) 6 (oneV vs) = some r') (h3 : r' = r) : Ret G fn 0 r [] e S :=
  ⟨he, [], 6, vs, h1, .nil, rfl, Nat.le_refl _, h3 ▸ h2, rfl⟩
/-- Returned with blocks: first the lent ones, then of the code's own. -/
theorem ret_own {fn : Func} {k : Nat} {r r' : AV} {vs : List AV} {e : Exit} {S : St} {Hout Hout' : List Blk} (E : List Nat) (n : Nat) (he : e = .normal ∨ e = .ret) (h1 : resL G S fn.results.toList = some vs) (hd : E.Nodup) (ht : E.take k = List.range k) (hk : k ≤ E.length)
    (h2 : vw S.blk (okOut E) (idx · E) n (oneV vs) = some r') (h3 : r' = r) (h4 : lent S.blk (okOut E) (idx · E) n E = some Hout') (h5 : Hout' = Hout) : Ret G fn k r Hout e S :=
  ⟨he, E, n, vs, h1, hd, ht, hk, h3 ▸ h2, h5 ▸ h4⟩

/-! ### Symbolic heaps -/
theorem setAllK_sym {L h : List (Nat × Blk)} {k : List (Nat × Blk) → Prop} (h1 : k (setAll L h)) : setAllK L h k := by rw [setAllK_eq]; exact h1
theorem asetK_sym {α : Type} {t : Nat} {x : α} {l l' : List (Nat × α)} {k : List (Nat × α) → Prop} (e : aset t x l = l') (h1 : k l') : asetK t x l k := by rw [asetK_eq, e]; exact h1
theorem aget_initH' (l : List Blk) (i t : Nat) (h : i ≤ t) : aget t (initH i l) = l[t - i]? := by rw [aget_initH, if_pos h]
theorem aset_initH : ∀ (l : List Blk) (i : Nat) (b : Blk), aset (i + l.length) b (initH i l) = initH i (l ++ [b]) := by
  intro l
  induction l with
  | nil => intro i b; rfl
  | cons x r ih =>
    intro i b
    simp only [initH, aset, List.length_cons, List.cons_append]
    rw [if_neg (by omega), if_neg (by omega), show i + (r.length + 1) = (i + 1) + r.length by omega, ih]

end Go.Aw

/- Loops by a state for each thing still to do. -/
namespace Go.Aw
set_option linter.unusedVariables false

variable {G : Env} {S S' : St}

/-- A loop by a state for each thing still to do; what is to do gets less. -/
theorem eLoop_pre {α : Type} {b : Code} {Q : Exit → St → Prop} {S : St} (st : α → St) (pre : α → Prop) (μ : α → Nat) (x : α) (hw : Weak S (st x)) (hx : pre x) (hr : ∀ x, pre x → ew G b (st x) (seqQ (fun S' => ∃ y, Weak S' (st y) ∧ pre y ∧ μ y < μ x) Q)) : eLoop (ew G b) S Q := by
  unfold eLoop
  refine ⟨st x, hw, fun X hX => ?_⟩
  have key : ∀ n x, μ x = n → pre x → X (st x) := by
    intro n
    induction n using Nat.strongRecOn with
    | _ n ih =>
      intro x hn hp
      refine hX _ (ew_mono b _ _ _ (seqQ_mono (fun S' h => ?_) (fun _ _ h => h)) (hr x hp))
      obtain ⟨y, h1, h2, h3⟩ := h
      exact ⟨_, h1, ih _ (hn ▸ h3) y rfl h2⟩
  exact key _ x rfl hx
/-- The first loop's body. -/
def loop1 : Code → Option Code
  | .loop b => some b
  | .seq x y => match loop1 x with | some b => some b | none => loop1 y
  | .block _ b => loop1 b
  | .cond _ x y => match loop1 x with | some b => some b | none => loop1 y
  | _ => none
def bodyOf (f : Func) : Code := f.body.getD .skip
def loopOf (f : Func) : Code := (loop1 (bodyOf f)).getD .skip

/-- What stands of r stands of r'. -/
def Lax (r r' : AV) : Prop := ∀ (w : World) (M : Nat → Prop) (φ : Pm) (x : Value), Rep w M φ r x → Rep w M φ r' x
theorem Lax.refl (r : AV) : Lax r r := fun _ _ _ _ h => h
theorem Lax.e (nl : Bool) (sz : Nat) : Lax (.e nl) (.sl false sz []) := fun w M φ x h => by
  cases h with
  | e _ _ a h => exact .sl _ _ _ _ a 0 0 (fun _ _ => undef) rfl (Nat.le_refl _) ⟨by simp, by simp⟩ (by simp) (by simp) (by simp)
theorem Lax.ez (nl : Bool) (sz : Nat) : Lax (.e nl) (.sl true sz []) := fun w M φ x h => by
  cases h with
  | e _ _ a h => exact .sl _ _ _ _ a 0 0 (fun _ _ => undef) rfl (Nat.le_refl _) ⟨fun _ _ => rfl, by simp⟩ (by simp) (by simp) (by simp)
theorem Lax.ne (nn : Bool) (sz : Nat) (e : List AV) (es : List (List AV)) : Lax (.sl nn sz (e :: es)) (.sl true sz (e :: es)) := fun w M φ x h => by
  cases h with
  | sl _ _ _ _ a n cap mem hn hc hnn hz ha h => exact .sl _ _ _ _ a n cap mem hn hc ⟨fun _ q => (by cases q), hnn.2⟩ hz ha h
theorem Lax.sl (nn : Bool) (sz : Nat) (es : List (List AV)) : Lax (.sl nn sz es) (.sl false sz es) := fun w M φ x h => by
  cases h with
  | sl _ _ _ _ a n cap mem hn hc hnn hz ha h => exact .sl _ _ _ _ a n cap mem hn hc ⟨by simp, hnn.2⟩ hz ha h
theorem Lax.agg {cs cs' : List AV} (hl : cs.length = cs'.length) (h : ∀ i, i < cs.length → Lax (cs.getD i .bad) (cs'.getD i .bad)) : Lax (.agg cs) (.agg cs') := fun w M φ x hx => by
  cases hx with
  | agg _ _ vl h1 h2 => exact .agg _ _ _ (by omega) fun i hi => h i (by omega) _ _ _ _ (h2 i (by omega))
theorem Fun.lax {f : FuncId} {args : List AV} {Hin Hout : List Blk} {r r' : AV} (h : Fun G f args Hin r Hout) (hl : Lax r r') : Fun G f args Hin r' Hout :=
  ⟨h.1, fun w M φ vl h1 h2 h3 => (h.2 w M φ vl h1 h2 h3).mono fun e w' ⟨v, M', φ', a, b, c, d, q⟩ => ⟨v, M', φ', a, b, c, hl _ _ _ _ d, q⟩⟩
/-- A theorem of laxer arguments tells of these. -/
theorem Fun.args {f : FuncId} {args args' : List AV} {Hin Hout : List Blk} {r : AV} (h : Fun G f args' Hin r Hout) (hl : args.length = args'.length) (ha : ∀ i, i < args.length → Lax (args.getD i .bad) (args'.getD i .bad)) : Fun G f args Hin r Hout :=
  ⟨h.1, fun w M φ vl h1 h2 h3 => h.2 w M φ vl h1 h2 ⟨by rw [h3.1, hl], fun i hi => ha i (by omega) _ _ _ _ (h3.2 i (by omega))⟩⟩

/-- Only the temporaries L and the blocks B are kept, and the blocks from n on are free. -/
theorem weak_in {S S' : St} (L B : List Nat) (n : Nat) (hk : Nat.ble S.k n = true) (hB : ∀ l, l < S.k → B.contains l = true) (h : ((S.keep L).res fun l => B.contains l).cut n = S') : Weak S S' := fun c a w hs => by
  have h1 := hs.keep L
  have h2 : Sim c ((S.keep L).res fun l => B.contains l) a w := Sim.res _ (fun l hl => hB l hl) h1
  rw [← h]
  exact h2.cut (by exact Nat.le_of_ble_eq_true hk)

end Go.Aw
