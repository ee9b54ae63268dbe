/- Returns that tell less than they know; lists of cells told laxly. A drawn region walked in every order: for small regions with calls and appends. A drawn region whose last operations come behind all others: the others by the text's order, the last ones in turn. Blocks that nobody writes any more are taken into the values that name them. A block gets another number. Calls that are lent blocks, in a region whose order the machine draws. A call that is lent blocks and freezes none. Functions of whose answers no more is told than what holds of them. Blocks get other numbers, and what is not named  -/
import Derived.Test.YtendgiieolkleaaM6

/- Returns that tell less than they know; lists of cells told laxly. -/
namespace Go.Aw
set_option linter.unusedVariables false
set_option linter.unusedSimpArgs false

variable {G : Env} {S S' : St}

theorem Lax.of_eq {r r' : AV} (h : r = r') : Lax r r' := h ▸ .refl r
theorem Lax.trans {a b c : AV} (h : Lax a b) (k : Lax b c) : Lax a c := fun w M φ x hx => k w M φ x (h w M φ x hx)
def LaxL (l l' : List AV) : Prop := l.length = l'.length ∧ ∀ i, i < l.length → Lax (l.getD i .bad) (l'.getD i .bad)
theorem LaxL.nil : LaxL [] [] := ⟨rfl, by simp⟩
theorem LaxL.refl (l : List AV) : LaxL l l := ⟨rfl, fun _ _ => .refl _⟩
theorem LaxL.cons {a b : AV} {l l' : List AV} (h : Lax a b) (k : LaxL l l') : LaxL (a :: l) (b :: l') :=
  ⟨by simp [k.1], fun i hi => by
    cases i with
    | zero => exact h
    | succ i => simpa using k.2 i (by simpa using hi)⟩
theorem Lax.aggL {l l' : List AV} (h : LaxL l l') : Lax (.agg l) (.agg l') := .agg h.1 h.2
theorem Lax.tupL {l l' : List AV} (h : LaxL l l') : Lax (.tup l) (.tup l') := fun w M φ x hx => by
  cases hx with
  | tup _ _ vl h1 h2 => exact .tup _ _ _ (by rw [h1, h.1]) fun i hi => h.2 i (by rw [h.1]; exact hi) _ _ _ _ (h2 i (by rw [h.1]; exact hi))
theorem Lax.rows {nn : Bool} {sz : Nat} {es es' : List (List AV)} (hl : es.length = es'.length) (h : ∀ i, i < es.length → LaxL (es.getD i []) (es'.getD i [])) (hz : ∀ e ∈ es', e.length = sz) : Lax (.sl nn sz es) (.sl nn sz es') := fun w M φ x hx => by
  cases hx with
  | sl _ _ _ _ a n cap mem hn hc hnn hz0 ha hr =>
    refine .sl _ _ _ _ a n cap mem (by rw [hn, hl]) hc ⟨fun q e => hnn.1 q (List.length_eq_zero_iff.1 (by rw [hl, e]; rfl)), fun i j hi hj => hnn.2 i j (by omega) hj⟩ hz (fun hne => ?_) fun i j hi hj => ?_
    · obtain ⟨b, o, h1, h2, h3, h4⟩ := ha (by rintro rfl; exact hne (List.length_eq_zero_iff.1 (by rw [← hl]; rfl)))
      exact ⟨b, o, h1, h2, h3, fun i j hi hj => h4 i j (by omega) hj⟩
    · have h1 := hr i j (by omega) hj
      have h2 := h i (by omega)
      have h3 : (es.getD i []).length = sz := hz0 _ (by rw [List.getD_eq_getElem?_getD, List.getElem?_eq_getElem (by omega)]; exact List.getElem_mem _)
      exact h2.2 j (by omega) _ _ _ _ h1
theorem Lax.nn (nn : Bool) (sz : Nat) (es : List (List AV)) : Lax (.sl nn sz es) (.sl false sz es) := .sl nn sz es

/-- The function ends here, and tells no more than r. -/
def RetL (G : Env) (fn : Func) (k : Nat) (r : AV) (Hout : List Blk) (e : Exit) (S : St) : Prop := ∃ r0, Lax r0 r ∧ Ret G fn k r0 Hout e S

/-- What the evaluator says of a function's body holds of its calls. -/
theorem spec_of_wpL {fid : FuncId} {fn : Func} {code : Code} (hf : G.P.funcs[fid]? = some fn) (hb : fn.body = some code) {args : List AV} {Hin : List Blk} {r : AV} {Hout : List Blk} (hlen : args.length ≤ fn.ntmps) {W : St → (Exit → St → Prop) → Prop}
    (hW : ∀ (c : Ctx) (S0 : St) (a : Act) (w : World), Sim c S0 a w → ∀ {Q : Exit → St → Prop}, W S0 Q → code.wp G.P (Up c Q) a w)
    (h : W (St.init fn.ntmps args Hin) (RetL G fn Hin.length r Hout)) : Spec G.P fid args Hin r Hout := by
  intro w M φ vl HR hφ hpw
  refine calls_of_wp hf hb ?_
  let c : Ctx := ⟨w, M, φ, Hin.length⟩
  have hbk : (St.init fn.ntmps args Hin).blk = fun l => Hin[l]? := by
    funext l
    show aget l (initH 0 Hin) = _
    rw [aget_initH]; simp
  have hsim : Sim c (St.init fn.ntmps args Hin) { tmps := (⟨vl⟩ : Array Value) ++ Array.replicate (fn.ntmps - (⟨vl⟩ : Array Value).size) undef, defers := [] } w := by
    have hl := hpw.1
    refine ⟨M, φ, ⟨?_, rfl, fun t => ?_, by rw [hbk]; exact HR⟩, ⟨.refl _ _, fun _ _ _ => rfl, fun _ _ => Iff.rfl, fun _ _ => rfl, fun l p hp => ?_, rfl, rfl, rfl, hφ, fun l hl' => ?_⟩, hφ, rfl, Nat.le_refl _⟩
    · simp [St.init]; omega
    · have hg : (St.init fn.ntmps args Hin).get t = args.getD t .bad := by
        show (aget t (initL 0 args)).getD .bad = _
        rw [aget_initL]; simp [List.getD_eq_getElem?_getD]
      rw [hg]
      by_cases q : t < args.length
      · have := hpw.2 t q
        have e : ((⟨vl⟩ : Array Value) ++ Array.replicate (fn.ntmps - (⟨vl⟩ : Array Value).size) undef).getD t undef = vl.getD t undef := by
          simp [Array.getD_eq_getD_getElem?, Array.getElem?_append, show t < vl.length by omega]
        rw [e]; exact this
      · have : args.getD t .bad = .bad := by simp [List.getD_eq_getElem?_getD, List.getElem?_eq_none (by omega : args.length ≤ t)]
        rw [this]; exact .bad _ _
    · rcases Nat.lt_or_ge l Hin.length with q | q
      · exact .inl ⟨q, hp⟩
      · rw [hφ l q] at hp; cases hp
    · obtain ⟨b, o, cs, T, h1, _⟩ := (HR.ok l Hin[l] (List.getElem?_eq_getElem hl')).out
      show φ l ≠ none
      rw [h1]; simp
  refine wp_mono (hW c _ _ _ hsim h) ?_
  rintro e a' w' ⟨S, hs, r0, hlx, hret⟩
  obtain ⟨he, E, n, vs, hvs, hnd, htk, hkE, hvw, hln⟩ := hret
  obtain ⟨M', φ', hR, hI, hnx, hk, hkn⟩ := hs.out
  obtain ⟨v, hres, hrv⟩ := run_results hR hvs
  obtain ⟨hBl, hBg⟩ := lent_spec _ _ hln
  have hEk : ∀ l, l < Hin.length → E[l]? = some l := fun l hl => by
    have h1 : (E.take Hin.length)[l]? = some l := by rw [htk]; simp [hl]
    rwa [List.getElem?_take, if_pos hl] at h1
  let φr : Pm := fun j => (E[j]?).bind φ'
  let Mr : Nat → Prop := fun b => M' b ∧ (b < w.heap.size ∨ ∃ j p, φr j = some p ∧ p.b = b)
  have hlive : ∀ j l, E[j]? = some l → ∃ k b, S.blk l = some k ∧ Hout[j]? = some b ∧ vwB S.blk (okOut E) (idx · E) n k = some b := fun j l hj => by
    have hjl : j < E.length := by
      rcases Nat.lt_or_ge j E.length with q | q
      · exact q
      · rw [List.getElem?_eq_none q] at hj; cases hj
    obtain ⟨b, hb⟩ : ∃ b, Hout[j]? = some b := ⟨Hout[j]'(by omega), List.getElem?_eq_getElem (by omega)⟩
    obtain ⟨k, hk, hkb⟩ := hBg j l b hj hb
    exact ⟨k, b, hk, hb, hkb⟩
  have hσ : ∀ l p j, φ' l = some p → idx l E = some j → φr j = some p := fun l p j hp hj => by
    simp only [φr, idx_get hj, Option.bind_some, hp]
  -- blocks that stay behind are looked at as if nobody wrote them
  have F0 : ∀ l k p, S.blk l = some k → (∀ j, E[j]? ≠ some l) → φ' l = some p → ¬ Mr p.b := fun l k p hkl hne hp hM => by
    rcases hM.2 with q | ⟨j, p', hj, e⟩
    · rcases hI.fresh l p hp with z | z
      · exact hne l (hEk l z.1)
      · have : w.heap.size ≤ p.b := z.2
        omega
    · simp only [φr, Option.bind_eq_some_iff] at hj
      obtain ⟨l', hl', hp'⟩ := hj
      obtain ⟨k', _, hk', _⟩ := hlive j l' hl'
      have := hR.heap.inj l' l k' k p' p hk' hkl hp' hp e
      subst this
      exact hne j hl'
  have F : FzOk w' M' Mr φ' S.blk (okOut E) := ⟨hR.heap, fun _ _ q => q.1, fun l k p hkl hok hp => F0 l k p hkl (fun j hj => by
    have : E.contains l = true := by simpa using List.mem_of_getElem? hj
    simp only [okOut, this] at hok; cases hok) hp⟩
  have hm : ∀ l p, φ' l = some p → (∃ j, E[j]? = some l) → (Mr p.b ↔ M' p.b) := fun l p hp ⟨j, hj⟩ =>
    ⟨fun q => q.1, fun q => ⟨q, .inr ⟨j, p, by simp only [φr, hj, Option.bind_some, hp], rfl⟩⟩⟩
  have hEl : ∀ j l, E[j]? = some l → j < E.length := fun j l hj => by
    rcases Nat.lt_or_ge j E.length with q | q
    · exact q
    · rw [List.getElem?_eq_none q] at hj; cases hj
  have hpost : ∃ v, (results fn a'.tmps).run G.P w' = .ok v w' ∧ ∃ v0 M1 φ1, Ending.returned v = .returned v0 ∧ StepOk w M φ w' M1 φ1 ∧ HRel w' M1 φ1 (fun l => Hout[l]?) ∧ Rep w' M1 φ1 r v0 ∧ Hin.length ≤ Hout.length ∧ (∀ l, Hout.length ≤ l → φ1 l = none) := by
    refine ⟨v, hres, v, Mr, φr, rfl, ⟨hI.ext, fun l p hp => ?_, fun b hb => ⟨fun q => (hI.m b hb).1 q.1, fun q => ⟨(hI.m b hb).2 q, .inl hb⟩⟩, hI.frame, fun j p hp => ?_, hI.os, hI.tape, hI.out⟩, ⟨fun j b hb => ?_, fun j j' b b' p p' hb hb' hp hp' e => ?_, fun j p hp => ?_⟩, hlx _ _ _ _ (vw_rep F hrv F hvw hσ), by omega, fun l hl => ?_⟩
    · rcases Nat.lt_or_ge l Hin.length with q | q
      · simp only [φr, hEk l q, Option.bind_some]
        have h1 := hI.lent l q
        have h2 : c.φ0 l = some p := hp
        rw [h2] at h1; exact h1
      · rw [hφ l q] at hp; cases hp
    · simp only [φr, Option.bind_eq_some_iff] at hp
      obtain ⟨l, hl, hp⟩ := hp
      rcases hI.fresh l p hp with q | q
      · left
        have h1 := hEk l q.1
        have : j = l := (List.getElem?_inj (hEl j l hl) hnd).1 (hl.trans h1.symm)
        subst this; exact q.2
      · exact .inr q.2
    · have hjl : j < E.length := by
        rcases Nat.lt_or_ge j E.length with q | q
        · exact q
        · rw [List.getElem?_eq_none (by omega)] at hb; cases hb
      obtain ⟨k, b1, hk, hb1, hkb⟩ := hlive j E[j] (List.getElem?_eq_getElem hjl)
      have : b1 = b := by rw [hb1] at hb; exact Option.some.inj hb
      subst this
      exact vwB_ok F (hR.heap.ok _ _ hk) hkb (fun p hp => by simp only [φr, List.getElem?_eq_getElem hjl, Option.bind_some, hp]) hσ (fun p hp => hm _ p hp ⟨j, List.getElem?_eq_getElem hjl⟩)
    · simp only [φr, Option.bind_eq_some_iff] at hp hp'
      obtain ⟨l, hl, hp⟩ := hp
      obtain ⟨l', hl', hp'⟩ := hp'
      obtain ⟨k, _, hk, _⟩ := hlive j l hl
      obtain ⟨k', _, hk', _⟩ := hlive j' l' hl'
      have := hR.heap.inj l l' k k' p p' hk hk' hp hp' e
      subst this
      exact (List.getElem?_inj (hEl j l hl) hnd).1 (hl.trans hl'.symm)
    · simp only [φr, Option.bind_eq_some_iff] at hp
      obtain ⟨l, hl, hp⟩ := hp
      exact hR.heap.lt l p hp
    · simp only [φr]; rw [List.getElem?_eq_none (by omega)]; rfl
  rcases he with rfl | rfl
  · exact ⟨hR.defers, hpost⟩
  · exact ⟨hR.defers, hpost⟩


theorem spec_ewL {fid : FuncId} {fn : Func} {code : Code} (hf : G.P.funcs[fid]? = some fn) (hn : (fn.name == "runtime.NumGoroutine") = false) (hb : fn.body = some code) {args : List AV} {Hin : List Blk} {r : AV} {Hout : List Blk} (hlen : Nat.ble args.length fn.ntmps = true)
    (h : ew G code ⟨fn.ntmps, Hin.length, initL 0 args, initH 0 Hin, Hin.length⟩ (RetL G fn Hin.length r Hout)) : Fun G fid args Hin r Hout :=
  ⟨⟨fn, hf, hn, by rw [hb]; rfl⟩, spec_of_wpL hf hb (Nat.le_of_ble_eq_true hlen) (W := ew G code) (fun c S0 a w hs Q hq => ew_sound code S0 Q a w hs hq) h⟩
theorem ret_lax {fn : Func} {r r' : AV} {vs : List AV} {e : Exit} {S : St} (he : e = .normal ∨ e = .ret) (h1 : resL G S fn.results.toList = some vs) (h2 : vw S.blk (okOut []) (fun _ => none) 6 (oneV vs) = some r') (h3 : Lax r' r) : RetL G fn 0 r [] e S :=
  ⟨r', h3, ret_pure he h1 h2 rfl⟩
theorem ret_eq {fn : Func} {r r' : AV} {vs : List AV} {e : Exit} {S : St} (he : e = .normal ∨ e = .ret) (h1 : resL G S fn.results.toList = some vs) (h2 : vw S.blk (okOut []) (fun _ => none) 6 (oneV vs) = some r') (h3 : r' = r) : RetL G fn 0 r [] e S :=
  ⟨r', .of_eq h3, ret_pure he h1 h2 rfl⟩
theorem ret_ownL {fn : Func} {k : Nat} {r r' : AV} {vs : List AV} {e : Exit} {S : St} {Hout Hout' : List Blk} (E : List Nat) (n : Nat) (he : e = .normal ∨ e = .ret) (h1 : resL G S fn.results.toList = some vs) (hd : E.Nodup) (ht : E.take k = List.range k) (hk : k ≤ E.length)
    (h2 : vw S.blk (okOut E) (idx · E) n (oneV vs) = some r') (h3 : Lax r' r) (h4 : lent S.blk (okOut E) (idx · E) n E = some Hout') (h5 : Hout' = Hout) : RetL G fn k r Hout e S :=
  ⟨r', h3, ret_own E n he h1 hd ht hk h2 rfl h4 h5⟩

theorem ret_ownR {fn : Func} {k : Nat} {r : AV} {vs : List AV} {e : Exit} {S : St} {Hout Hout' : List Blk} (E : List Nat) (n : Nat) (he : e = .normal ∨ e = .ret) (h1 : resL G S fn.results.toList = some vs) (hd : E.Nodup) (ht : E.take k = List.range k) (hk : k ≤ E.length)
    (h2 : vw S.blk (okOut E) (idx · E) n (oneV vs) = some r) (h4 : lent S.blk (okOut E) (idx · E) n E = some Hout') (h5 : Hout' = Hout) : RetL G fn k r Hout e S :=
  ⟨r, .refl r, ret_own E n he h1 hd ht hk h2 rfl h4 h5⟩

/-- What a call brings of its own may be looked at as if nobody wrote it. -/
theorem Fun.freeze {f : FuncId} {args : List AV} {Hout : List Blk} {r r' : AV} (n : Nat) (h : Fun G f args [] r Hout) (hv : vw (fun l => Hout[l]?) okAll (fun _ => none) n r = some r') : Fun G f args [] r' [] :=
  ⟨h.1, fun w M φ vl HR hφ hpw => (h.2 w M φ vl HR hφ hpw).mono fun e w' ⟨v, M', φ', he, hs, hH, hr, hl, hno⟩ => by
    refine ⟨v, fun b => M' b ∧ b < w.heap.size, φ, he, ?_, ?_, ?_, Nat.le_refl _, hφ⟩
    · exact ⟨hs.ext, .refl _, fun b hb => ⟨fun q => (hs.m b hb).1 q.1, fun q => ⟨(hs.m b hb).2 q, hb⟩⟩, hs.frame, fun l p hp => .inl hp, hs.os, hs.tape, hs.out⟩
    · exact ⟨fun l k hk => by simp at hk, fun l l' k k' p p' hk => by simp at hk, fun l p hp => by rw [hφ l (Nat.zero_le _)] at hp; cases hp⟩
    · have hf : FzOk w' M' (fun b => M' b ∧ b < w.heap.size) φ' (fun l => Hout[l]?) okAll := ⟨hH, fun b hb q => q.1, fun l k p hk _ hp q => by
        rcases hs.fresh l p hp with z | z
        · rw [hφ l (Nat.zero_le _)] at z; cases z
        · have := q.2; omega⟩
      exact vw_rep hf hr hf hv (fun l p j _ hj => by cases hj)⟩

/-! ### Values that are handed back, part by part -/
section vws
variable {h : Hp} {ok : Okf} {σ : Nat → Option Nat} {n : Nat}
theorem vw_tup {cs cs' : List AV} (e : vwL h ok σ n cs = some cs') : vw h ok σ n (.tup cs) = some (.tup cs') := by simp only [vw, e, Option.map_some]
theorem vw_agg {cs cs' : List AV} (e : vwL h ok σ n cs = some cs') : vw h ok σ n (.agg cs) = some (.agg cs') := by simp only [vw, e, Option.map_some]
theorem vwL_nil : vwL h ok σ n [] = some [] := rfl
theorem vwL_cons {v v' : AV} {r r' : List AV} (e : vw h ok σ n v = some v') (er : vwL h ok σ n r = some r') : vwL h ok σ n (v :: r) = some (v' :: r') := by simp only [vwL, e, er]
theorem vw_rowE {l sz len : Nat} {w : Bool} {es : List (List AV)} (hs : σ l = none) (hk : h l = some ⟨w, true, sz, es⟩) (ho : ok l ⟨w, true, sz, es⟩ = true) (hl : len = es.length) : vw h ok σ (n + 1) (.loc l sz 0 len) = some (.sl false sz es) := by
  subst hl
  simp [vw, hs, fz, hk, ho]
end vws

theorem Weak.trans {a b c : St} (h : Weak a b) (k : Weak b c) : Weak a c := fun x y z s => k x y z (h x y z s)
/-- At a loop's head less is known. -/
theorem eLoop_weak {b : St → (Exit → St → Prop) → Prop} {Q : Exit → St → Prop} {S S' : St} (hw : Weak S S') (h : eLoop b S' Q) : eLoop b S Q := by
  unfold eLoop at h ⊢
  obtain ⟨T, h1, h2⟩ := h
  exact ⟨T, hw.trans h1, h2⟩

end Go.Aw

/- A drawn region walked in every order: for small regions with calls and appends. -/
namespace Go.Aw
set_option linter.unusedVariables false
set_option linter.unusedSimpArgs false

variable {G : Env} {S S' : St} {c : Ctx} {a : Act} {w : World}

theorem eGuard_step {ops : Array Oper} {o : Oper} {i : Nat} {K : St → Prop} {N : Act → World → Prop} {Q : Exit → Act → World → Prop} (ho : ops[i]? = some o) (h : Sim c S a w) (ha : eGuard G ops.toList o S K) (hN : ∀ S' a' w', Sim c S' a' w' → K S' → N a' w') : wpOp G.P ops Q i N a w := by
  unfold wpOp
  rw [ho]
  simp only []
  unfold eGuard at ha
  split at ha
  · rename_i hg
    have hw : Region.wanted o (yielded ops a.tmps) = true := by simp [Region.wanted, hg]
    rw [if_pos hw]
    exact .inl (eOp_sound h ha fun S' a' w' hs hk => hN S' a' w' hs hk)
  · rename_i j want hg
    split at ha
    · rename_i t ht
      split at ha
      · rename_i b hb
        simp only [eSet_eq] at ha
        have hw := wanted_of hg ht h hb
        have hsame := (same_put (S := S) hb).weak c a w h
        cases b with
        | true =>
          cases want with
          | true =>
            rw [if_pos (by rw [hw]; rfl)]
            exact .inl (eOp_sound hsame ha fun S' a' w' hs hk => hN S' a' w' hs hk)
          | false =>
            rw [if_neg (by rw [hw]; simp)]
            have ha' : ePut (S.put (some t) (.s (.bool true))) o.dst (.s undef) K := ha
            obtain ⟨hd, hk⟩ := ePut_ok ha'
            exact hN _ _ _ (hsame.skip hd) hk
        | false =>
          cases want with
          | true =>
            rw [if_neg (by rw [hw]; simp)]
            have ha' : ePut (S.put (some t) (.s (.bool false))) o.dst (.s undef) K := ha
            obtain ⟨hd, hk⟩ := ePut_ok ha'
            exact hN _ _ _ (hsame.skip hd) hk
          | false =>
            rw [if_pos (by rw [hw]; rfl)]
            exact .inl (eOp_sound hsame ha fun S' a' w' hs hk => hN S' a' w' hs hk)
      · rename_i q hq
        rw [if_neg (by rw [wanted_tup hg ht h hq]; simp)]
        obtain ⟨hd, hk⟩ := ePut_ok ha
        exact hN _ _ _ (h.skip hd) hk
      · exact ha.elim
    · exact ha.elim

def allL (p : Nat → Prop) : List Nat → Prop
  | [] => True
  | [i] => p i
  | i :: r => p i ∧ allL p r
theorem allL_mem {p : Nat → Prop} : ∀ {l : List Nat}, allL p l → ∀ i ∈ l, p i
  | [], _, i, h => by cases h
  | [x], h, i, hi => by simp only [List.mem_singleton] at hi; subst hi; exact h
  | x :: y :: r, h, i, hi => by
    rcases List.mem_cons.1 hi with rfl | hi
    · exact h.1
    · exact allL_mem h.2 i hi
def rdy (ops : List Oper) (ld : List Bool) : List Nat := (List.range ops.length).filter fun i => match ops[i]? with
  | some o => !(ld.getD i true) && o.after.toList.all fun e => !Region.binds .any e || ld.getD e.on false
  | none => false
theorem mem_rdy {ops : Array Oper} {listed : Array Bool} {i : Nat} : i ∈ Region.ready .any ops listed ↔ i ∈ rdy ops.toList listed.toList := by
  rw [mem_ready]
  unfold rdy
  rw [List.mem_filter]
  have e1 : ∀ (n : Nat) (d : Bool), listed.toList.getD n d = listed.getD n d := fun n d => by
    rw [Array.getD_eq_getD_getElem?, List.getD_eq_getElem?_getD, Array.getElem?_toList]
  constructor
  · rintro ⟨h1, o, ho, h2⟩
    have hlt : i < ops.size := (Array.getElem?_eq_some_iff.1 ho).1
    refine ⟨by simpa using hlt, ?_⟩
    rw [Array.getElem?_toList, ho]
    simp only [e1, h1, Bool.not_false, Bool.true_and, List.all_eq_true, Bool.or_eq_true, Bool.not_eq_true']
    intro e he
    cases hb : Region.binds .any e with
    | false => exact .inl rfl
    | true => exact .inr (h2 e (by simpa using he) hb)
  · rintro ⟨h1, h2⟩
    rw [Array.getElem?_toList] at h2
    cases ho : ops[i]? with
    | none => rw [ho] at h2; cases h2
    | some o =>
      rw [ho] at h2
      simp only [e1, Bool.and_eq_true, Bool.not_eq_true', List.all_eq_true, Bool.or_eq_true] at h2
      refine ⟨h2.1, o, rfl, fun e he hb => ?_⟩
      rcases h2.2 e (by simpa using he) with q | q
      · rw [hb] at q; cases q
      · exact q
/-- Every order. -/
def eAny (G : Env) (ops : List Oper) : Nat → List Bool → St → (St → Prop) → Prop
  | 0, ld, S, K => rdy ops ld = [] ∧ K S
  | n + 1, ld, S, K => match rdy ops ld with
    | [] => K S
    | l => allL (fun i => match ops[i]? with | some o => eGuard G ops o S fun S' => eAny G ops n (ld.set i true) S' K | none => False) l
theorem eAny_sound {ops : Array Oper} {K : St → Prop} {Q : Exit → Act → World → Prop} (hQ : ∀ S' a' w', Sim c S' a' w' → K S' → Q .normal a' w') : ∀ (n : Nat) (listed : Array Bool) (S : St) (a : Act) (w : World), Sim c S a w → eAny G ops.toList n listed.toList S K → wpAny G.P .any ops Q n listed a w := by
  have hnil : ∀ listed : Array Bool, rdy ops.toList listed.toList = [] ↔ Region.ready .any ops listed = [] := fun listed => by
    rw [List.eq_nil_iff_forall_not_mem, List.eq_nil_iff_forall_not_mem]
    exact forall_congr' fun i => not_congr mem_rdy.symm
  intro n
  induction n with
  | zero => intro listed S a w h ha; exact ⟨(hnil _).1 ha.1, hQ _ _ _ h ha.2⟩
  | succ n ih =>
    intro listed S a w h ha
    simp only [eAny] at ha
    refine ⟨fun hr => ?_, fun i hi => ?_⟩
    · rw [(hnil _).2 hr] at ha; exact hQ _ _ _ h ha
    · have hi' := mem_rdy.1 hi
      split at ha
      · rename_i hr; rw [hr] at hi'; cases hi'
      · have := allL_mem ha i hi'
        split at this
        · rename_i o ho
          refine eGuard_step (by simpa using ho) h this fun S' a' w' hs hk => ih _ _ _ _ hs ?_
          rw [Array.toList_setIfInBounds]; exact hk
        · exact this.elim
theorem Sim.drew (h : Sim c S a w) : Sim c S a { w with drawn := w.drawn + 1 } := by
  obtain ⟨M, φ, hR, hI, hnx, hk, hkn⟩ := h.out
  have hst : StepOk w M φ { w with drawn := w.drawn + 1 } M φ := ⟨⟨Nat.le_refl _, fun _ _ _ => rfl, fun _ _ h => h⟩, .refl _, fun _ _ => Iff.rfl, fun _ _ _ => rfl, fun _ _ h => .inl h, rfl, rfl, rfl⟩
  exact ⟨M, φ, ⟨hR.n, hR.defers, fun t => (hR.slot t).mono hst.ext (fun b hb => (hst.m b hb).1) hst.pext,
    ⟨fun l k hk => (hR.heap.ok l k hk).mono hst.ext (fun _ _ => Iff.rfl) (.refl _) (fun p hp => hR.heap.lt l p hp) (fun _ _ => rfl), hR.heap.inj, hR.heap.lt⟩⟩, hI.step hst (fun l hl => .inl hl), hnx, hk, hkn⟩
theorem eDraw_any {ops : Array Oper} {K : St → Prop} (S' : St) (h : eAny G ops.toList ops.size (List.replicate ops.size false) S fun T => Weak T S') (hk : K S') : eDraw G ops S K := by
  unfold eDraw
  refine ⟨S', fun c id Q a w hs hQ => ?_, hk⟩
  exact wp_region_any G.mixed (eAny_sound (c := c) (K := fun T => Weak T S') (fun T a' w' ht hw => hQ _ _ (hw c a' w' ht)) _ _ _ _ _ hs.drew (by simpa using h))

end Go.Aw

/- A drawn region whose last operations come behind all others: the others by the text's order, the last ones in turn. -/
namespace Go.Aw
set_option linter.unusedVariables false
set_option linter.unusedSimpArgs false

variable {G : Env} {S S' : St} {c : Ctx} {a : Act} {w : World}

theorem trc_of {ops : Array Oper} {K : St → Prop} (h : dOps G ops.toList ops.toList [] S fun acc S' => chk ops.toList acc.reverse = true ∧ K S') : ∃ Sf at_ rec, Trc G ops S Sf at_ rec ∧ K Sf := by
  obtain ⟨recs, Sf, hc, hch, hk⟩ := dOps_chain _ _ _ _ h
  rw [List.append_nil, List.reverse_reverse] at hch
  refine ⟨Sf, atL recs Sf, fun i => recs.getD i rec0, ?_, hk⟩
  have hlen := hc.len
  have hat : ∀ i o, ops[i]? = some o → ∃ r, recs[i]? = some r ∧ RecOk G ops.toList o r ∧ Same (atL recs Sf (i + 1)) (r.next o) := fun i o ho => hc.at i o (by simpa using ho)
  have hrec : ∀ i r, recs[i]? = some r → recs.getD i rec0 = r := fun i r hr => by rw [List.getD_eq_getElem?_getD, hr]; rfl
  have hall := chkAll_spec _ _ _ 0 (by rw [mks_len]; simp) hlen hch
  refine ⟨hc.first, ?_, fun i hi => ?_, fun i o ho => ?_, fun i o ho => ?_, fun i j oi oj hj hoi hoj => ?_, fun i o e ho he hb => ?_⟩
  · unfold atL; rw [List.getElem?_eq_none (by rw [hlen]; simp)]
  · have hi' : i < recs.length := by rw [hlen]; simpa using hi
    unfold atL
    rw [List.getElem?_eq_getElem hi', List.getD_eq_getElem?_getD, List.getElem?_eq_getElem hi']; rfl
  · obtain ⟨r, h1, h2, h3⟩ := hat i o ho
    rw [hrec i r h1]; exact h3
  · obtain ⟨r, h1, h2, h3⟩ := hat i o ho
    simp only [hrec i r h1]; exact h2
  · obtain ⟨ri, h1, _⟩ := hat i oi hoi
    obtain ⟨rj, h2, _⟩ := hat j oj hoj
    simp only [hrec i ri h1, hrec j rj h2]
    rcases (hall i oi ri (by simpa using hoi) h1).2 j oj rj (by omega) (by simpa using hoj) h2 with q | q
    · exact .inl (mks_rch ops.toList ops.toList [] (by simp) (by simp) (by simp) _ _ q)
    · exact .inr q
  · obtain ⟨ri, h1, _⟩ := hat i o ho
    have := (hall i o ri (by simpa using ho) h1).1 e (by simpa using he) hb
    omega

def sufOk (ops : List Oper) (m : Nat) : Bool := (List.range ops.length).all fun j => Nat.blt j m || (List.range m).all fun i => ((mks ops []).getD j 0).testBit i
theorem sufOk_rch {ops : List Oper} {m : Nat} (h : sufOk ops m = true) {j i : Nat} (hj : m ≤ j) (hj2 : j < ops.length) (hi : i < m) : Rch ops j i := by
  unfold sufOk at h
  have h1 := List.all_eq_true.1 h j (by simpa using hj2)
  simp only [Bool.or_eq_true] at h1
  rcases h1 with h1 | h1
  · have : j < m := by simpa using h1
    omega
  · exact mks_rch ops ops [] (by simp) (by simp) (by simp) _ _ (List.all_eq_true.1 h1 i (by simpa using hi))

def preA (ops : Array Oper) (m : Nat) : Array Oper := (ops.toList.take m).toArray
theorem preA_get {ops : Array Oper} {m i : Nat} (h : i < m) : (preA ops m)[i]? = ops[i]? := by
  unfold preA; simp [List.getElem?_take, h]
theorem preA_ge {ops : Array Oper} {m i : Nat} (h : m ≤ i) : (preA ops m)[i]? = none := by
  unfold preA; simp [List.getElem?_take, show ¬ i < m by omega]
theorem preA_size {ops : Array Oper} {m : Nat} (h : m ≤ ops.size) : (preA ops m).size = m := by
  unfold preA; simp; omega

theorem inD_app {listed : Array Bool} {s i : Nat} : inD (listed ++ Array.replicate s false) i = inD listed i := by
  unfold inD
  rw [Array.getD_eq_getD_getElem?, Array.getD_eq_getD_getElem?, Array.getElem?_append]
  split
  · rfl
  · rename_i hge
    rw [Array.getElem?_replicate, Array.getElem?_eq_none (by omega)]
    split <;> rfl
theorem getD_tt {listed : Array Bool} {i : Nat} (h : i < listed.size) : listed.getD i true = inD listed i := by
  unfold inD; rw [Array.getD_eq_getD_getElem?, Array.getD_eq_getD_getElem?, Array.getElem?_eq_getElem h]; rfl

theorem goPre {ops : Array Oper} {m : Nat} (hm : m ≤ ops.size) (hsuf : sufOk ops.toList m = true) {S0 Sf : St} {at_ : Nat → St} {rec : Nat → Rec} (T : Trc G (preA ops m) S0 Sf at_ rec) (hk0 : S0.k = c.k) (hnx0 : c.k ≤ S0.nx) {Q : Exit → Act → World → Prop}
    (hQ : ∀ a w, Sim c Sf a w → wpAny G.P .any ops Q (ops.size - m) (Array.replicate m true ++ Array.replicate (ops.size - m) false) a w) :
    ∀ fuel listed a w, unl listed = fuel → DS c (preA ops m) S0 rec listed a w → wpAny G.P .any ops Q (fuel + (ops.size - m)) (listed ++ Array.replicate (ops.size - m) false) a w := by
  have hsz := preA_size hm
  intro fuel
  induction fuel with
  | zero =>
    intro listed a w hu h
    have hs := h.size
    have hall : ∀ i, i < m → listed[i]? = some true := fun i hi => by
      have hi' : i < listed.size := by omega
      rw [Array.getElem?_eq_getElem hi']
      cases hb : listed[i] with
      | true => rfl
      | false =>
        have : inD listed i = false := by unfold inD; rw [Array.getD_eq_getD_getElem?, Array.getElem?_eq_getElem hi', hb]; rfl
        have := unl_set hi' this
        omega
    have he : listed = Array.replicate m true := by
      apply Array.ext
      · simp; omega
      · intro i h1 h2
        have := hall i (by omega)
        rw [Array.getElem?_eq_getElem h1] at this
        simpa using this
    have hr : Region.ready .any (preA ops m) listed = [] := by
      rw [List.eq_nil_iff_forall_not_mem]
      intro j hj
      obtain ⟨hj0, o, ho, _⟩ := mem_ready.1 hj
      have hlt : j < (preA ops m).size := (Array.getElem?_eq_some_iff.1 ho).1
      rw [Array.getD_eq_getD_getElem?, hall j (by omega)] at hj0
      cases hj0
    have := hQ a w (h.done T hk0 hnx0 hr)
    rw [Nat.zero_add, he]; exact this
  | succ fuel ih =>
    intro listed a w hu h
    have hs := h.size
    have hmin : ∃ i, i < m ∧ inD listed i = false ∧ ∀ j, j < i → inD listed j = true := by
      have hex : ∃ i, i < m ∧ inD listed i = false := by
        have : false ∈ listed.toList := List.count_pos_iff.1 (by unfold unl at hu; omega)
        obtain ⟨i, hi, e⟩ := List.getElem_of_mem this
        refine ⟨i, by simp at hi; omega, ?_⟩
        unfold inD
        rw [Array.getD_eq_getD_getElem?, Array.getElem?_eq_getElem (by simpa using hi)]
        simpa using e
      have key : ∀ n i, i < n → i < m → inD listed i = false → ∃ i, i < m ∧ inD listed i = false ∧ ∀ j, j < i → inD listed j = true := by
        intro n
        induction n with
        | zero => intro i hi; omega
        | succ n ihn =>
          intro i hi him hf
          by_cases hq : ∃ j, j < i ∧ inD listed j = false
          · obtain ⟨j, hj, hjf⟩ := hq
            exact ihn j (by omega) (by omega) hjf
          · refine ⟨i, him, hf, fun j hj => ?_⟩
            cases hb : inD listed j with
            | true => rfl
            | false => exact absurd ⟨j, hj, hb⟩ hq
      obtain ⟨i, him, hf⟩ := hex
      exact key (i + 1) i (by omega) him hf
    have hcl : Closed ops (listed ++ Array.replicate (ops.size - m) false) := fun i o e hi ho he hb => by
      rw [inD_app] at hi ⊢
      have him : i < m := by
        rcases Nat.lt_or_ge i m with q | q
        · exact q
        · unfold inD at hi; rw [Array.getD_eq_getD_getElem?, Array.getElem?_eq_none (by omega)] at hi; cases hi
      exact h.closed i o e hi (by rw [preA_get him]; exact ho) he hb
    have hlen : (listed ++ Array.replicate (ops.size - m) false).size = ops.size := by simp; omega
    have hback : ∀ i o, i < m → ops[i]? = some o → ∀ e ∈ o.after, Region.binds .any e = true → e.on < i := fun i o hi ho e he hb => T.back i o e (by rw [preA_get hi]; exact ho) he hb
    show wpAny G.P .any ops Q (fuel + 1 + (ops.size - m)) _ a w
    rw [show fuel + 1 + (ops.size - m) = (fuel + (ops.size - m)) + 1 by omega]
    refine ⟨fun hr => ?_, fun i hi => ?_⟩
    · exfalso
      obtain ⟨i, him, hf, hlow⟩ := hmin
      have : i ∈ Region.ready .any ops (listed ++ Array.replicate (ops.size - m) false) := by
        refine mem_ready.2 ⟨?_, ops[i]'(by omega), Array.getElem?_eq_getElem (by omega), fun e he hb => ?_⟩
        · rw [getD_tt (by omega), inD_app]; exact hf
        · have := hback i _ him (Array.getElem?_eq_getElem (by omega)) e he hb
          have h2 := hlow _ this
          rw [← inD_app (s := ops.size - m)] at h2
          exact h2
      rw [hr] at this; cases this
    · obtain ⟨hi0, o, ho, hp⟩ := mem_ready.1 hi
      have hlt : i < ops.size := (Array.getElem?_eq_some_iff.1 ho).1
      have him : i < m := by
        rcases Nat.lt_or_ge i m with q | q
        · exact q
        · exfalso
          obtain ⟨i0, him0, hf, _⟩ := hmin
          have := hcl.ready ho (fun e he hb => hp e he hb) (sufOk_rch hsuf q (by simpa using hlt) him0)
          rw [inD_app, hf] at this; cases this
      have hf : inD listed i = false := by
        rw [getD_tt (by omega), inD_app] at hi0; exact hi0
      have hr : i ∈ Region.ready .any (preA ops m) listed := by
        refine mem_ready.2 ⟨?_, o, by rw [preA_get him]; exact ho, fun e he hb => ?_⟩
        · rw [getD_tt (by omega)]; exact hf
        · have h2 := hp e he hb
          have h3 : inD (listed ++ Array.replicate (ops.size - m) false) e.on = true := h2
          rw [inD_app] at h3; exact h3
      have hst := h.step T hnx0 hr (Q := Q) (N := wpAny G.P .any ops Q (fuel + (ops.size - m)) ((listed ++ Array.replicate (ops.size - m) false).setIfInBounds i true)) fun a' w' h' => by
        have hu' := unl_set (by omega) hf
        have := ih _ a' w' (by omega) h'
        have e : (listed ++ Array.replicate (ops.size - m) false).setIfInBounds i true = listed.setIfInBounds i true ++ Array.replicate (ops.size - m) false := by
          apply Array.ext'
          simp only [Array.toList_setIfInBounds, Array.toList_append]
          rw [List.set_append_left _ _ (by simpa using (by omega : i < listed.size))]
        rw [e]; exact this
      unfold wpOp at hst ⊢
      rw [preA_get him] at hst
      rw [ho] at hst ⊢
      simp only [] at hst ⊢
      have hw : Region.wanted o (yielded (preA ops m) a.tmps) = Region.wanted o (yielded ops a.tmps) := by
        have hg := (T.ok i o (by rw [preA_get him]; exact ho)).g
        unfold gOk at hg
        unfold Region.wanted
        cases hgd : o.guard with
        | none => rfl
        | some p =>
          obtain ⟨j, want⟩ := p
          rw [hgd] at hg
          obtain ⟨t, ht, _⟩ := hg
          have hjm : j < m := by
            rcases Nat.lt_or_ge j m with q | q
            · exact q
            · unfold gdst at ht
              have := preA_ge (ops := ops) q
              rw [← Array.getElem?_toList] at this
              rw [this] at ht; cases ht
          simp only [yielded, preA_get hjm]
      rw [hw] at hst
      exact hst
/-- A drawn region, the operations from m on in turn. -/
theorem eDraw_pre {ops : Array Oper} {K : St → Prop} (m : Nat) (S' : St) (hm : Nat.ble m ops.size = true) (hsuf : sufOk ops.toList m = true)
    (h : dOps G (preA ops m).toList (preA ops m).toList [] S fun acc S1 => chk (preA ops m).toList acc.reverse = true ∧ eAny G ops.toList (ops.size - m) (List.replicate m true ++ List.replicate (ops.size - m) false) S1 fun T => Weak T S') (hk : K S') : eDraw G ops S K := by
  have hm := Nat.le_of_ble_eq_true hm
  unfold eDraw
  obtain ⟨Sf, at_, rec, T, hany⟩ := trc_of h
  refine ⟨S', fun c id Q a w hs hQ => ?_, hk⟩
  have hs' := hs.drew
  obtain ⟨M, φ, hR, hI, hnx, hk, hkn⟩ := hs'.out
  have hno : ∀ j, inD (Array.replicate m false) j = false := fun j => by
    unfold inD
    rw [Array.getD_eq_getD_getElem?, Array.getElem?_replicate]; split <;> rfl
  have look_none : ∀ {α : Type} {val : Nat → Option α} {d : α} (n : Nat), look (inD (Array.replicate m false)) val d n = d := by
    intro α val d n
    induction n with
    | zero => rfl
    | succ n ih => simp only [look, hno, Bool.false_eq_true, if_false]; exact ih
  have key := goPre hm hsuf T (c := c) hk hkn (Q := Q) (fun a w hsf => eAny_sound (c := c) (K := fun T => Weak T S') (fun T a' w' ht hw => hQ _ _ (hw c a' w' ht)) _ _ _ _ _ hsf (by simpa using hany)) m (Array.replicate m false) a { w with drawn := w.drawn + 1 } (by simp [unl]) ⟨by simp [preA_size hm], fun i o e hi => (by rw [hno] at hi; cases hi), M, φ, hR.n, hR.defers, fun t => ?_, ?_, hI, fun l hl => ?_⟩
  · refine wp_region_any G.mixed ?_
    have e1 : m + (ops.size - m) = ops.size := by omega
    have e2 : Array.replicate m false ++ Array.replicate (ops.size - m) false = Array.replicate ops.size false := by
      rw [Array.replicate_append_replicate, e1]
    rw [e1, e2] at key
    exact key
  · rw [look_none]; exact hR.slot t
  · have : (fun l => look (inD (Array.replicate m false)) (hpv rec l) (S.blk l) (preA ops m).size) = S.blk := by funext l; exact look_none _
    rw [this]; exact hR.heap
  · left
    rcases Nat.lt_or_ge l S.nx with q | q
    · exact q
    · exact absurd (hnx l q) hl

end Go.Aw

/- Blocks that nobody writes any more are taken into the values that name them. -/
namespace Go.Aw
set_option linter.unusedVariables false
set_option linter.unusedSimpArgs false

variable {G : Env} {S S' : St} {c : Ctx} {a : Act} {w : World}

/-- With such blocks, what stands of v stands of v', and v' names no block. -/
def Seal (h : Hp) (v v' : AV) : Prop := ∀ (w : World) (M : Nat → Prop) (φ : Pm) (x : Value), HRel w M φ h → Rep w M φ v x → Rep w M noPm v' x
def SealL (h : Hp) (l l' : List AV) : Prop := l.length = l'.length ∧ ∀ i, i < l.length → Seal h (l.getD i .bad) (l'.getD i .bad)
def SealR (h : Hp) (l l' : List (List AV)) : Prop := l.length = l'.length ∧ ∀ i, i < l.length → SealL h (l.getD i []) (l'.getD i [])
variable {h : Hp}
theorem Seal.s (v : Value) : Seal h (.s v) (.s v) := fun w M φ x _ hx => by cases hx; exact .s _ _
theorem Seal.cl {v v' : AV} (hc : isCl v = true) (hl : Lax v v') : Seal h v v' := fun w M φ x _ hx => hl _ _ _ _ (hx.toNo hc)
theorem Seal.refl {v : AV} (hc : isCl v = true) : Seal h v v := .cl hc (.refl v)
theorem Seal.lax {v v' v'' : AV} (k : Seal h v v') (hl : Lax v' v'') : Seal h v v'' := fun w M φ x hr hx => hl _ _ _ _ (k _ _ _ _ hr hx)
theorem Seal.fz {v v' : AV} (n : Nat) (hf : Aw.fz h okRead n v = some v') : Seal h v v' := fun w M φ x hr hx => by
  have F : FzOk w M M φ h okRead := ⟨hr, fun _ _ h => h, fun l k p hk ho hp hM => by
    obtain ⟨b, o, cs, T, h1, h2, h3, h4, h5, h6⟩ := (hr.ok l k hk).out
    rw [hp] at h1; cases h1
    have := h6.2 hM
    simp only [okRead, this] at ho; cases ho⟩
  exact (fz_rep F n).1 _ _ _ hf hx
theorem Seal.loc {l sz len : Nat} {es : List (List AV)} (hk : h l = some ⟨false, true, sz, es⟩) (hl : len = es.length) : Seal h (.loc l sz 0 len) (.sl false sz es) :=
  .fz 1 (by subst hl; simp [Aw.fz, hk, okRead])
theorem SealL.nil : SealL h [] [] := ⟨rfl, by simp⟩
theorem SealL.cons {a b : AV} {l l' : List AV} (k : Seal h a b) (ks : SealL h l l') : SealL h (a :: l) (b :: l') :=
  ⟨by simp [ks.1], fun i hi => by
    cases i with
    | zero => exact k
    | succ i => simpa using ks.2 i (by simpa using hi)⟩
theorem SealR.nil : SealR h [] [] := ⟨rfl, by simp⟩
theorem SealR.cons {a b : List AV} {l l' : List (List AV)} (k : SealL h a b) (ks : SealR h l l') : SealR h (a :: l) (b :: l') :=
  ⟨by simp [ks.1], fun i hi => by
    cases i with
    | zero => exact k
    | succ i => simpa using ks.2 i (by simpa using hi)⟩
theorem SealL.refl {l : List AV} (hc : allCl l = true) : SealL h l l := ⟨rfl, fun i hi => .refl (by
  unfold allCl at hc
  refine List.all_eq_true.1 hc _ ?_
  rw [List.getD_eq_getElem?_getD, List.getElem?_eq_getElem hi]; exact List.getElem_mem _)⟩
theorem SealR.refl {l : List (List AV)} (hc : l.all allCl = true) : SealR h l l := ⟨rfl, fun i hi => .refl (by
  refine List.all_eq_true.1 hc _ ?_
  rw [List.getD_eq_getElem?_getD, List.getElem?_eq_getElem hi]; exact List.getElem_mem _)⟩
theorem SealR.append {a b l l' : List (List AV)} (k : SealR h a b) (ks : SealR h l l') : SealR h (a ++ l) (b ++ l') :=
  ⟨by simp [k.1, ks.1], fun i hi => by
    simp only [List.getD_eq_getElem?_getD] at *
    by_cases q : i < a.length
    · rw [List.getElem?_append_left q, List.getElem?_append_left (by have := k.1; omega)]
      have := k.2 i q; simpa only [List.getD_eq_getElem?_getD] using this
    · rw [List.getElem?_append_right (by omega), List.getElem?_append_right (by have := k.1; omega), ← k.1]
      have := ks.2 (i - a.length) (by simp at hi; omega); simpa only [List.getD_eq_getElem?_getD] using this⟩

/-- A block's elements are taken to name no block. -/
theorem weak_seal {l : Nat} {k : Blk} (hk : S.blk l = some k) (es' : List (List AV)) (hs : SealR S.blk k.es es') : Weak S (S.setBlk l ⟨k.wr, true, k.sz, es'⟩) := by
  intro c a w hsim
  obtain ⟨M, φ, hR, hI, hnx, hkk, hkn⟩ := hsim.out
  have hb : (S.setBlk l ⟨k.wr, true, k.sz, es'⟩).blk = fun x => if x = l then some ⟨k.wr, true, k.sz, es'⟩ else S.blk x := by
    funext x
    simp only [St.blk, St.setBlk, aget_aset]
  refine ⟨M, φ, ⟨hR.n, hR.defers, hR.slot, ?_⟩, hI, hnx, hkk, hkn⟩
  rw [hb]
  have hH := hR.heap
  have hkey : ∀ x kk, (if x = l then some (⟨k.wr, true, k.sz, es'⟩ : Blk) else S.blk x) = some kk → ∃ k0, S.blk x = some k0 := fun x kk hx => by
    split at hx
    · rename_i e; subst e; exact ⟨k, hk⟩
    · exact ⟨kk, hx⟩
  refine ⟨fun x kk hx => ?_, fun x x' k1 k2 p p' h1 h2 hp hp' e => ?_, hH.lt⟩
  · split at hx
    · rename_i e
      subst e
      cases hx
      obtain ⟨b, o, cs, T, h1, h2, h3, h4, h5, h6⟩ := (hH.ok x k hk).out
      refine ⟨b, o, cs, T, h1, h2, ⟨?_, fun i j hi hj => h3.2 i j (by have := hs.1; have hi3 : i < es'.length := hi; omega) hj⟩, ?_, fun i j hi hj => ?_, h6⟩
      · have := hs.1; simp only; rw [← this]; exact h3.1
      · intro e he
        obtain ⟨i, hi, rfl⟩ := List.getElem_of_mem he
        have hi3 : i < es'.length := hi
        have h7 := hs.2 i (by have := hs.1; omega)
        have h8 := h7.1
        simp only [List.getD_eq_getElem?_getD, List.getElem?_eq_getElem hi3, Option.getD_some] at h8
        rw [← h8]
        have hi2 : i < k.es.length := by have := hs.1; omega
        rw [List.getElem?_eq_getElem hi2, Option.getD_some]
        exact h4 _ (List.getElem_mem _)
      · simp only at hi hj ⊢
        have hi2 : i < k.es.length := by have := hs.1; omega
        have h7 := hs.2 i hi2
        have h9 : (k.es.getD i []).length = k.sz := by
          rw [List.getD_eq_getElem?_getD, List.getElem?_eq_getElem hi2, Option.getD_some]; exact h4 _ (List.getElem_mem _)
        have h10 := h5 i j hi2 hj
        have h11 : Rep w M φ ((k.es.getD i []).getD j .bad) (cs.toList.getD (o + i * k.sz + j) undef) := by
          split at h10
          · exact h10.up
          · exact h10
        exact h7.2 j (by omega) _ _ _ _ hH h11
    · exact hH.ok x kk hx
  · obtain ⟨q1, hq1⟩ := hkey x k1 h1
    obtain ⟨q2, hq2⟩ := hkey x' k2 h2
    exact hH.inj x x' q1 q2 p p' hq1 hq2 hp hp' e
/-- A temporary's value is taken to name no block. -/
theorem weak_slot {t : Nat} {v' : AV} (hs : Seal S.blk (S.get t) v') : Weak S (S.put (some t) v') := by
  intro c a w hsim
  obtain ⟨M, φ, hR, hI, hnx, hkk, hkn⟩ := hsim.out
  refine ⟨M, φ, ⟨hR.n, hR.defers, fun u => ?_, hR.heap⟩, hI, hnx, hkk, hkn⟩
  rw [St.get_put]
  split
  · rename_i e; subst e; exact (hs _ _ _ _ hR.heap (hR.slot u)).up
  · exact hR.slot u
theorem weak_frz (F : List Nat) (hF : F.all (fun l => Nat.ble S.k l) = true) : Weak S (S.frz F) :=
  .frz F (fun l hl => Nat.le_of_ble_eq_true (List.all_eq_true.1 hF l hl)) (.refl _)

end Go.Aw

/- A block gets another number. -/
namespace Go.Aw
set_option linter.unusedVariables false
set_option linter.unusedSimpArgs false

variable {G : Env} {S S' : St} {c : Ctx} {a : Act} {w : World}

def mvR (x y : Nat) : Nat → Option Nat := fun l => if l = x then some y else some l
def mvS (x y : Nat) : List (Nat × AV) → List (Nat × AV)
  | [] => []
  | (t, v) :: r => (t, ren (mvR x y) v) :: mvS x y r
def mvH (x y : Nat) : List (Nat × Blk) → List (Nat × Blk)
  | [] => []
  | (l, k) :: r => if l = x then mvH x y r else (l, renB (mvR x y) k) :: mvH x y r
def mvT (x y : Nat) (h : List (Nat × Blk)) : List (Nat × Blk) := match aget x h with | some k => mvH x y h ++ [(y, renB (mvR x y) k)] | none => mvH x y h
def St.mv (x y : Nat) (S : St) : St := ⟨S.n, S.k, mvS x y S.sl, mvT x y S.hp, y + 1⟩
theorem aget_mvS (x y t : Nat) : ∀ h : List (Nat × AV), aget t (mvS x y h) = (aget t h).map (ren (mvR x y)) := by
  intro h
  induction h with
  | nil => rfl
  | cons q r ih => obtain ⟨u, v⟩ := q; simp only [mvS, aget]; split; rfl; exact ih
theorem aget_mvH (x y l : Nat) : ∀ h : List (Nat × Blk), aget l (mvH x y h) = if l = x then none else (aget l h).map (renB (mvR x y)) := by
  intro h
  induction h with
  | nil => simp [mvH, aget]
  | cons q r ih =>
    obtain ⟨u, k⟩ := q
    simp only [mvH]
    by_cases e : u = x
    · subst e
      rw [if_pos rfl, ih]
      by_cases e2 : l = u
      · subst e2; simp
      · simp only [if_neg e2, aget]
    · rw [if_neg e]
      simp only [aget]
      by_cases e2 : l = u
      · subst e2; simp [e]
      · simp only [if_neg e2, ih]
theorem aget_app {α : Type} (l : Nat) : ∀ (h g : List (Nat × α)), aget l (h ++ g) = match aget l h with | some k => some k | none => aget l g := by
  intro h g
  induction h with
  | nil => rfl
  | cons q r ih => obtain ⟨u, k⟩ := q; simp only [List.cons_append, aget]; split; rfl; exact ih
theorem weak_mv (x y : Nat) (hk : Nat.ble S.k x = true) (hy : Nat.ble S.nx y = true) : Weak S (S.mv x y) := by
  have hk := Nat.le_of_ble_eq_true hk
  have hy := Nat.le_of_ble_eq_true hy
  intro c a w h
  obtain ⟨M, φ, hR, hI, hnx, hkk, hkn⟩ := h.out
  have hby : φ y = none := hnx y hy
  have hblk : ∀ l k, S.blk l = some k → φ l ≠ none := fun l k hl => by
    obtain ⟨b, o, cs, T, h1, _⟩ := (hR.heap.ok l k hl).out
    rw [h1]; simp
  have hyb : S.blk y = none := by
    cases hq : S.blk y with
    | none => rfl
    | some k => exact absurd hby (hblk y k hq)
  let φ' : Pm := fun l => if l = y then φ x else if l = x then none else φ l
  have hρ : ∀ l p j, φ l = some p → mvR x y l = some j → φ' j = some p := fun l p j hp hj => by
    unfold mvR at hj
    simp only [φ']
    split at hj
    · rename_i e; cases hj; subst e; rw [if_pos rfl]; exact hp
    · rename_i e; cases hj
      have : l ≠ y := by rintro rfl; rw [hby] at hp; cases hp
      rw [if_neg this, if_neg e]; exact hp
  have hb : ∀ l, (S.mv x y).blk l = if l = y then (S.blk x).map (renB (mvR x y)) else if l = x then none else (S.blk l).map (renB (mvR x y)) := fun l => by
    show aget l (mvT x y S.hp) = _
    unfold mvT
    by_cases e : l = y
    · subst e
      have h1 : aget l S.hp = none := hyb
      rw [if_pos rfl]
      cases hq : aget x S.hp with
      | none =>
        have h2 : S.blk x = none := hq
        rw [h2]
        simp only [aget_mvH, h1]; split <;> rfl
      | some k =>
        have h2 : S.blk x = some k := hq
        rw [h2]
        simp only [aget_app, aget_mvH, h1]
        by_cases e3 : l = x
        · simp [e3, aget]
        · simp [e3, aget]
    · rw [if_neg e]
      cases hq : aget x S.hp with
      | none => simp only [aget_mvH]; rfl
      | some k =>
        simp only [aget_app, aget_mvH]
        by_cases e3 : l = x
        · simp [e3, aget, show ¬ x = y from fun z => e (e3.trans z)]
        · simp only [if_neg e3]
          cases hl : aget l S.hp with
          | none =>
            have h2 : S.blk l = none := hl
            rw [h2]; simp [aget, e]
          | some k2 =>
            have h2 : S.blk l = some k2 := hl
            rw [h2]; rfl
  have hkey : ∀ l k, (S.mv x y).blk l = some k → ∃ l0 k0, S.blk l0 = some k0 ∧ k = renB (mvR x y) k0 ∧ (l0 = x ∧ l = y ∨ l0 ≠ x ∧ l = l0 ∧ l ≠ y) := fun l k hl => by
    rw [hb] at hl
    split at hl
    · rename_i e
      cases hq : S.blk x with
      | none => rw [hq] at hl; cases hl
      | some k0 => rw [hq] at hl; cases hl; exact ⟨x, k0, hq, rfl, .inl ⟨rfl, e⟩⟩
    · split at hl
      · cases hl
      · rename_i e1 e2
        cases hq : S.blk l with
        | none => rw [hq] at hl; cases hl
        | some k0 => rw [hq] at hl; cases hl; exact ⟨l, k0, hq, rfl, .inr ⟨e2, rfl, e1⟩⟩
  have hφ : ∀ l l0 p, (l0 = x ∧ l = y ∨ l0 ≠ x ∧ l = l0 ∧ l ≠ y) → φ' l = some p → φ l0 = some p := fun l l0 p hc hp => by
    simp only [φ'] at hp
    rcases hc with ⟨rfl, rfl⟩ | ⟨h1, rfl, h2⟩
    · rwa [if_pos rfl] at hp
    · rwa [if_neg h2, if_neg h1] at hp
  have hφ2 : ∀ l l0 p, (l0 = x ∧ l = y ∨ l0 ≠ x ∧ l = l0 ∧ l ≠ y) → φ l0 = some p → φ' l = some p := fun l l0 p hc hp => by
    simp only [φ']
    rcases hc with ⟨rfl, rfl⟩ | ⟨h1, rfl, h2⟩
    · rwa [if_pos rfl]
    · rwa [if_neg h2, if_neg h1]
  refine ⟨M, φ', ⟨hR.n, hR.defers, fun t => ?_, ⟨fun l k hl => ?_, fun l l' k k' p p' hl hl' hp hp' e => ?_, fun l p hp => ?_⟩⟩, { hI with lent := fun l hl => ?_, fresh := fun l p hp => ?_ }, fun l hl => ?_, hkk, ?_⟩
  · have hg : (S.mv x y).get t = ren (mvR x y) (S.get t) := by
      unfold St.get St.mv
      rw [aget_mvS]
      cases aget t S.sl <;> rfl
    rw [hg]; exact (hR.slot t).ren hρ
  · obtain ⟨l0, k0, h1, rfl, h2⟩ := hkey l k hl
    exact (hR.heap.ok l0 k0 h1).ren (fun p hp => hφ2 l l0 p h2 hp) hρ
  · obtain ⟨l0, k0, h1, _, h2⟩ := hkey l k hl
    obtain ⟨l0', k0', h1', _, h2'⟩ := hkey l' k' hl'
    have := hR.heap.inj l0 l0' k0 k0' p p' h1 h1' (hφ _ _ _ h2 hp) (hφ _ _ _ h2' hp') e
    subst this
    rcases h2 with ⟨a1, a2⟩ | ⟨a1, a2, a3⟩ <;> rcases h2' with ⟨b1, b2⟩ | ⟨b1, b2, b3⟩
    · rw [a2, b2]
    · exact absurd a1 b1
    · exact absurd b1 a1
    · rw [a2, b2]
  · simp only [φ'] at hp
    split at hp
    · exact hR.heap.lt _ _ hp
    · split at hp
      · cases hp
      · exact hR.heap.lt _ _ hp
  · have h1 : l ≠ x := by omega
    have h2 : l ≠ y := by omega
    simp only [φ', if_neg h1, if_neg h2]; exact hI.lent l hl
  · simp only [φ'] at hp
    split at hp
    · rename_i e
      rcases hI.fresh _ _ hp with q | q
      · omega
      · exact .inr ⟨by omega, q.2⟩
    · split at hp
      · cases hp
      · exact hI.fresh _ _ hp
  · have hl2 : y + 1 ≤ l := hl
    have h2 : l ≠ y := by omega
    simp only [φ', if_neg h2]
    split
    · rfl
    · exact hnx l (by omega)
  · show c.k ≤ y + 1
    omega

theorem weak_in0 {S S' : St} (L B : List Nat) (n : Nat) (h0 : Nat.beq S.k 0 = true) (h : ((S.keep L).res fun l => B.contains l).cut n = S') : Weak S S' :=
  have h0 : S.k = 0 := Nat.eq_of_beq_eq_true h0
  weak_in L B n (by rw [h0]; exact Nat.ble_eq_true_of_le (Nat.zero_le n)) (fun l hl => absurd (h0 ▸ hl) (Nat.not_lt_zero l)) h

end Go.Aw

/- Calls that are lent blocks, in a region whose order the machine draws. -/
namespace Go.Aw
set_option linter.unusedVariables false
set_option linter.unusedSimpArgs false

section
variable {G : Env} {w : World} {M M' : Nat → Prop} {φ φ' : Pm} {h : Hp}

/-- A call that is lent some of the caller's blocks, and reads others that nobody writes any more. -/
theorem call_gen2 {P : Program} {f : FuncId} {vs args' : List AV} {vl : List Value} {σl : List Nat} {Hin Hout : List Blk} {r : AV} {nx n : Nat} {ok : Okf} (HR : HRel w M φ h) (hnx : ∀ l, nx ≤ l → l < nx + (Hout.length - σl.length) → φ l = none) (hsn : ∀ l ∈ σl, l < nx)
    (hok : ∀ l k, ok l k = true → k.wr = false) (hd : σl.Nodup) (hv : vwL h ok (idx · σl) n vs = some args') (hB : lent h ok (idx · σl) n σl = some Hin) (hs : Spec P f args' Hin r Hout) (ha : PW (Rep w M φ) vs vl) :
    Calls P f ⟨vl⟩ w fun e w' => ∃ v M' φ', e = .returned v ∧ StepOk w M φ w' M' φ' ∧ HRel w' M' φ' (insH h (insB (back σl nx Hout.length) 0 Hout)) ∧ Rep w' M' φ' (ren (back σl nx Hout.length) r) v ∧ σl.length ≤ Hout.length ∧
      (∀ l, φ' l ≠ none → φ l ≠ none ∨ (nx ≤ l ∧ l < nx + (Hout.length - σl.length))) := by
  obtain ⟨hBl, hBg⟩ := lent_spec _ _ hB
  have F : FzOk w M M φ h ok := ⟨HR, fun _ _ h => h, fun l k p hk ho hp hM => by
    obtain ⟨b, o, cs, T, h1, h2, h3, h4, h5, h6⟩ := (HR.ok l k hk).out
    rw [hp] at h1; cases h1
    have := h6.2 hM
    rw [hok l k ho] at this; cases this⟩
  let φc : Pm := fun j => (σl[j]?).bind φ
  have hσ : ∀ l p j, φ l = some p → idx l σl = some j → φc j = some p := fun l p j hp hj => by
    simp only [φc, idx_get hj, Option.bind_some, hp]
  have hlive : ∀ j l, σl[j]? = some l → ∃ k b, h l = some k ∧ Hin[j]? = some b ∧ vwB h ok (idx · σl) n k = some b := fun j l hj => by
    have hjl : j < σl.length := by
      rcases Nat.lt_or_ge j σl.length with q | q
      · exact q
      · rw [List.getElem?_eq_none q] at hj; cases hj
    obtain ⟨b, hb⟩ : ∃ b, Hin[j]? = some b := ⟨Hin[j]'(by omega), List.getElem?_eq_getElem (by omega)⟩
    obtain ⟨k, hk, hkb⟩ := hBg j l b hj hb
    exact ⟨k, b, hk, hb, hkb⟩
  have HRc : HRel w M φc (fun l => Hin[l]?) := by
    refine ⟨fun j b hb => ?_, fun j j' b b' p p' hb hb' hp hp' e => ?_, fun j p hp => ?_⟩
    · have hjl : j < σl.length := by
        rcases Nat.lt_or_ge j σl.length with q | q
        · exact q
        · rw [List.getElem?_eq_none (by omega)] at hb; cases hb
      obtain ⟨k, b1, hk, hb1, hkb⟩ := hlive j σl[j] (List.getElem?_eq_getElem hjl)
      have : b1 = b := by rw [hb1] at hb; exact Option.some.inj hb
      subst this
      exact vwB_ok F (HR.ok _ _ hk) hkb (fun p hp => by simp only [φc, List.getElem?_eq_getElem hjl, Option.bind_some, hp]) hσ (fun _ _ => Iff.rfl)
    · simp only [φc, Option.bind_eq_some_iff] at hp hp'
      obtain ⟨l, hl, hp⟩ := hp
      obtain ⟨l', hl', hp'⟩ := hp'
      obtain ⟨k, _, hk, _⟩ := hlive j l hl
      obtain ⟨k', _, hk', _⟩ := hlive j' l' hl'
      have := HR.inj l l' k k' p p' hk hk' hp hp' e
      subst this
      have h1 : j < σl.length := by
        rcases Nat.lt_or_ge j σl.length with q | q
        · exact q
        · rw [List.getElem?_eq_none q] at hl; cases hl
      have h2 : j' < σl.length := by
        rcases Nat.lt_or_ge j' σl.length with q | q
        · exact q
        · rw [List.getElem?_eq_none q] at hl'; cases hl'
      exact (List.getElem?_inj h1 hd).1 (hl.trans hl'.symm)
    · simp only [φc, Option.bind_eq_some_iff] at hp
      obtain ⟨l, hl, hp⟩ := hp
      exact HR.lt l p hp
  have hargs : PW (Rep w M φc) args' vl := by
    have hl := vwL_len _ _ hv
    exact ⟨by have := ha.1; omega, fun i hi => vw_rep F (ha.2 i (by omega)) F (vwL_get _ _ hv i (by omega)) hσ⟩
  have hc0 : ∀ l, Hin.length ≤ l → φc l = none := fun l hl => by simp only [φc]; rw [List.getElem?_eq_none (by omega)]; rfl
  refine (hs w M φc vl HRc hc0 hargs).mono ?_
  rintro e w' ⟨v, M1, φ1, rfl, hst, hH, hr, hle, hdom⟩
  rw [hBl] at hle
  let φ' : Pm := fun l => if nx ≤ l ∧ l < nx + (Hout.length - σl.length) then φ1 (σl.length + (l - nx)) else φ l
  have hext : ∀ l p, φ l = some p → φ' l = some p := fun l p hp => by
    simp only [φ']
    rw [if_neg]; exact hp
    intro h1; rw [hnx l h1.1 h1.2] at hp; cases hp
  have hτ : ∀ j p l, φ1 j = some p → back σl nx Hout.length j = some l → φ' l = some p := fun j p l hp hl => by
    by_cases hj : j < σl.length
    · rw [back_lt hj] at hl
      obtain ⟨k, _, hk, _⟩ := hlive j l hl
      obtain ⟨b', o, cs, T, h1, _⟩ := (HR.ok l k hk).out
      have h2 : φc j = some ⟨b', o, k.sz⟩ := by simp only [φc, hl, Option.bind_some, h1]
      have h3 := hst.pext _ _ h2
      rw [hp] at h3
      rw [Option.some.inj h3]
      exact hext _ _ h1
    · have hj2 : j < Hout.length := by
        rcases Nat.lt_or_ge j Hout.length with q | q
        · exact q
        · rw [hdom j q] at hp; cases hp
      rw [back_ge (by omega) hj2] at hl
      cases hl
      simp only [φ']
      rw [if_pos (by omega), show σl.length + (nx + (j - σl.length) - nx) = j by omega]; exact hp
  have hnew : ∀ l p, φ' l = some p → φ l = some p ∨ (nx ≤ l ∧ l < nx + (Hout.length - σl.length) ∧ φ1 (σl.length + (l - nx)) = some p ∧ w.heap.size ≤ p.b) := fun l p hp => by
    simp only [φ'] at hp
    split at hp
    · rename_i hc
      right
      refine ⟨hc.1, hc.2, hp, ?_⟩
      rcases hst.fresh _ _ hp with q | q
      · rw [hc0 _ (by omega)] at q; cases q
      · exact q
    · exact .inl hp
  refine ⟨v, M1, φ', rfl, ⟨hst.ext, hext, hst.m, fun b hb hf => hst.frame b hb fun l p hp => ?_, fun l p hp => ?_, hst.os, hst.tape, hst.out⟩, ?_, hr.ren hτ, hle, fun l hl => ?_⟩
  · simp only [φc, Option.bind_eq_some_iff] at hp
    obtain ⟨l', hl', hp⟩ := hp
    exact hf l' p hp
  · rcases hnew l p hp with q | q
    · exact .inl q
    · exact .inr q.2.2.2
  · -- the blocks
    have hinj := back_inj (m := Hout.length) hd hsn
    have hat : ∀ j k l, Hout[j]? = some k → back σl nx Hout.length j = some l → insH h (insB (back σl nx Hout.length) 0 Hout) l = some (renB (back σl nx Hout.length) k) := fun j k l hj hl =>
      insB_at Hout 0 j k h hj (by rw [Nat.zero_add]; exact hl) (fun a b x _ _ => hinj a b x)
    have hcase : ∀ l k, insH h (insB (back σl nx Hout.length) 0 Hout) l = some k → (∃ j kk, Hout[j]? = some kk ∧ back σl nx Hout.length j = some l ∧ k = renB (back σl nx Hout.length) kk) ∨ (h l = some k ∧ (∀ j, σl[j]? ≠ some l)) := fun l k hk => by
      by_cases hex : ∃ j, j < Hout.length ∧ back σl nx Hout.length j = some l
      · obtain ⟨j, hj, hl⟩ := hex
        have := hat j Hout[j] l (List.getElem?_eq_getElem hj) hl
        rw [hk] at this
        exact .inl ⟨j, Hout[j], List.getElem?_eq_getElem hj, hl, Option.some.inj this⟩
      · right
        rw [insB_no Hout 0 h (fun i hi e => hex ⟨i, hi, by rwa [Nat.zero_add] at e⟩)] at hk
        refine ⟨hk, fun j hj => hex ?_⟩
        have hjl : j < σl.length := by
          rcases Nat.lt_or_ge j σl.length with q | q
          · exact q
          · rw [List.getElem?_eq_none q] at hj; cases hj
        exact ⟨j, by omega, by rw [back_lt hjl]; exact hj⟩
    have hold : ∀ l k p, h l = some k → (∀ j, σl[j]? ≠ some l) → φ l = some p → w'.heap[p.b]? = w.heap[p.b]? := fun l k p hk hn hp => by
      refine hst.frame p.b (HR.lt l p hp) fun j q hq e => ?_
      simp only [φc, Option.bind_eq_some_iff] at hq
      obtain ⟨l', hl', hq⟩ := hq
      obtain ⟨k', _, hk', _⟩ := hlive j l' hl'
      have := HR.inj l' l k' k q p hk' hk hq hp e
      subst this
      exact hn j hl'
    refine ⟨fun l k hk => ?_, fun l l' k k' p p' hk hk' hp hp' e => ?_, fun l p hp => ?_⟩
    · rcases hcase l k hk with ⟨j, kk, hj, hl, rfl⟩ | ⟨hk0, hn⟩
      · exact (hH.ok j kk hj).ren (fun p hp => hτ j p l hp hl) (fun l p j => hτ l p j)
      · exact (HR.ok l k hk0).mono hst.ext hst.m hext (fun p hp => HR.lt l p hp) fun p hp => hold l k p hk0 hn hp
    · have hloc : ∀ l k p, insH h (insB (back σl nx Hout.length) 0 Hout) l = some k → φ' l = some p → (∃ j kk, Hout[j]? = some kk ∧ back σl nx Hout.length j = some l ∧ φ1 j = some p) ∨ (h l = some k ∧ (∀ j, σl[j]? ≠ some l) ∧ φ l = some p ∧ p.b < w.heap.size) := fun l k p hk hp => by
        rcases hcase l k hk with ⟨j, kk, hj, hl, rfl⟩ | ⟨hk0, hn⟩
        · left
          obtain ⟨b', o, cs, T, h1, _⟩ := (hH.ok j kk hj).out
          have h2 := hτ j _ l h1 hl
          rw [hp] at h2
          exact ⟨j, kk, hj, hl, by rw [Option.some.inj h2]; exact h1⟩
        · right
          obtain ⟨b', o, cs, T, h1, _⟩ := (HR.ok l k hk0).out
          have h2 := hext _ _ h1
          rw [hp] at h2
          have h3 : φ l = some p := by rw [Option.some.inj h2]; exact h1
          exact ⟨hk0, hn, h3, HR.lt l p h3⟩
      have hmix : ∀ j kk l2 k2 p q, Hout[j]? = some kk → φ1 j = some p → h l2 = some k2 → (∀ j, σl[j]? ≠ some l2) → φ l2 = some q → q.b < w.heap.size → p.b ≠ q.b := fun j kk l2 k2 p q hj hp hk2 hn2 hq hlt e => by
        rcases hst.fresh j p hp with q1 | q1
        · simp only [φc, Option.bind_eq_some_iff] at q1
          obtain ⟨l', hl', hp2⟩ := q1
          obtain ⟨k', _, hk', _⟩ := hlive j l' hl'
          have := HR.inj l' l2 k' k2 p q hk' hk2 hp2 hq e
          subst this
          exact hn2 j hl'
        · omega
      rcases hloc l k p hk hp with ⟨j, kk, hj, hl, hp1⟩ | ⟨hk0, hn, hp0, hlt⟩ <;> rcases hloc l' k' p' hk' hp' with ⟨j', kk', hj', hl', hp1'⟩ | ⟨hk0', hn', hp0', hlt'⟩
      · have := hH.inj j j' kk kk' p p' hj hj' hp1 hp1' e
        subst this
        rw [hl] at hl'; exact Option.some.inj hl'
      · exact absurd e (hmix j kk l' k' p p' hj hp1 hk0' hn' hp0' hlt')
      · exact absurd e.symm (hmix j' kk' l k p' p hj' hp1' hk0 hn hp0 hlt)
      · exact HR.inj l l' k k' p p' hk0 hk0' hp0 hp0' e
    · rcases hnew l p hp with q | q
      · exact Nat.lt_of_lt_of_le (HR.lt l p q) hst.ext.size
      · exact hH.lt _ _ q.2.2.1
  · by_cases hc : φ l = none
    · cases hq : φ' l with
      | none => exact absurd hq hl
      | some p =>
        rcases hnew l p hq with q | q
        · rw [hc] at q; cases q
        · exact .inr ⟨q.1, q.2.1⟩
    · exact .inl hc


end
variable {G : Env} {S S' : St} {c : Ctx} {a : Act} {w : World}

theorem vwE_mono {h1 h2 : Hp} {ok : Okf} {σ : Nat → Option Nat} {n : Nat} (hh : ∀ l k, h1 l = some k → h2 l = some k) : ∀ (l l' : List (List AV)), vwE h1 ok σ n l = some l' → vwE h2 ok σ n l = some l'
  | [], l', h => h
  | v :: r, l', h => by
    simp only [vwE] at h ⊢
    split at h
    · rename_i x y e1 e2; rw [vwL_mono hh _ _ e1, vwE_mono hh _ _ e2]; exact h
    · cases h
theorem vwB_mono {h1 h2 : Hp} {ok : Okf} {σ : Nat → Option Nat} {n : Nat} (hh : ∀ l k, h1 l = some k → h2 l = some k) {k k' : Blk} (h : vwB h1 ok σ n k = some k') : vwB h2 ok σ n k = some k' := by
  unfold vwB at h ⊢
  split
  · rename_i e; rw [if_pos e] at h; exact h
  · rename_i e
    rw [if_neg e] at h
    simp only [Option.map_eq_some_iff] at h ⊢
    obtain ⟨es, e1, e2⟩ := h
    exact ⟨es, vwE_mono hh _ _ e1, e2⟩
theorem lent_mono {h1 h2 : Hp} {ok : Okf} {σ : Nat → Option Nat} {n : Nat} (hh : ∀ l k, h1 l = some k → h2 l = some k) : ∀ (L : List Nat) (B : List Blk), lent h1 ok σ n L = some B → lent h2 ok σ n L = some B
  | [], B, h => h
  | l :: r, B, h => by
    simp only [lent] at h ⊢
    split at h
    · rename_i x y e1 e2
      rw [lent_mono hh _ _ e2]
      simp only [Option.bind_eq_some_iff] at e1
      obtain ⟨k, e3, e4⟩ := e1
      rw [hh _ _ e3, Option.bind_some, vwB_mono hh e4]; exact h
    · cases h
/-- A call that is lent the blocks σl, and brings none of its own. -/
theorem Runs.gen {o : Oper} {f : Operand} {args : Array Operand} {ts : Array TypeId} {fid : FuncId} {caps args' : List AV} {r : AV} {Hin Hout : List Blk} (σl L : List Nat) (n : Nat) (ho : o.op = .call ⟨.value f, args, ts⟩) (hf : S.eval f = .fn fid caps)
    (hd : σl.Nodup) (hsL : ∀ l ∈ σl, l ∈ L) (hsn : ∀ l ∈ σl, l < S.nx) (hlen : Hout.length = σl.length) (hv : vwL (cutH S.blk L) okRead (idx · σl) n (args.toList.map S.eval ++ caps) = some args') (hB : lent (cutH S.blk L) okRead (idx · σl) n σl = some Hin)
    (hs : Fun G fid args' Hin r Hout) : Runs G o S ⟨ren (back σl S.nx Hout.length) r, insB (back σl S.nx Hout.length) 0 Hout, L, S.nx⟩ := by
  intro w M φ hp a HR hx hrd hnw N Q hN
  obtain ⟨vl, hfv, hpw⟩ := pw_args ho hf hx
  unfold Oper.wp
  rw [exec_call ho hfv, run_callFunc hs.1]
  refine (call_gen2 (ok := okRead) (nx := S.nx) HR (fun l h1 h2 => by omega) hsn (fun l k hq => by simpa [okRead] using hq) hd (vwL_mono (cutH_le hrd) _ _ hv) (lent_mono (cutH_le hrd) _ _ hB) hs.2 hpw).mono ?_
  rintro e w' ⟨v, M', φ', rfl, h1, h2, h3, h4, h5⟩
  refine hN _ _ _ _ h1 h2 h3 fun l hl => ?_
  rcases h5 l hl with q | q
  · exact .inl q
  · omega
theorem insB_keys {τ : Nat → Option Nat} {l : Nat} {k : Blk} : ∀ (L : List Blk) (j : Nat), (l, k) ∈ insB τ j L → ∃ i, i < L.length ∧ τ (j + i) = some l := by
  intro L
  induction L with
  | nil => intro j h; cases h
  | cons b r ih =>
    intro j h
    simp only [insB] at h
    split at h
    · rename_i l0 e
      rcases List.mem_cons.1 h with q | q
      · cases q; exact ⟨0, by simp, by rwa [Nat.add_zero]⟩
      · obtain ⟨i, hi, hτ⟩ := ih _ q; exact ⟨i + 1, by simp; omega, by rwa [show j + (i + 1) = j + 1 + i by omega]⟩
    · obtain ⟨i, hi, hτ⟩ := ih _ h; exact ⟨i + 1, by simp; omega, by rwa [show j + (i + 1) = j + 1 + i by omega]⟩
theorem dCall_gen {o : Oper} {f : FuncId} {caps args args' : List AV} {K : Out → St → Prop} {r : AV} {Hin Hout : List Blk} (σl L : List Nat) (n : Nat) (hs : Fun G f args' Hin r Hout) {fo : Operand} {ao : Array Operand} {ts : Array TypeId} (ho : o.op = .call ⟨.value fo, ao, ts⟩)
    (hd : σl.Nodup) (hsL : (σl.all fun l => L.contains l && Nat.blt l S.nx) = true) (hlen : Nat.beq Hout.length σl.length = true) (hv : vwL (cutH S.blk L) okRead (idx · σl) n (args ++ caps) = some args') (hB : lent (cutH S.blk L) okRead (idx · σl) n σl = some Hin)
    (hk : eUpd fv S o.dst ⟨ren (back σl S.nx Hout.length) r, insB (back σl S.nx Hout.length) 0 Hout, L, S.nx⟩ (K ⟨ren (back σl S.nx Hout.length) r, insB (back σl S.nx Hout.length) 0 Hout, L, S.nx⟩)) : dCall G o (.fn f caps) args S K := by
  have hlen := Nat.eq_of_beq_eq_true hlen
  have h1 : ∀ l ∈ σl, l ∈ L ∧ l < S.nx := fun l hl => by
    have := List.all_eq_true.1 hsL l hl
    simpa using this
  unfold dCall
  intro hf ha
  rw [ho] at hf ha
  subst ha
  obtain ⟨h2, h3⟩ := eUpd_ok fv_eq hk
  refine ⟨_, ⟨.gen σl L n ho hf hd (fun l hl => (h1 l hl).1) (fun l hl => (h1 l hl).2) hlen hv hB hs, Nat.le_refl _, fun l k hl hn => ?_⟩, h2, h3⟩
  exfalso
  obtain ⟨i, hi, hτ⟩ := insB_keys _ _ hl
  rw [Nat.zero_add, back_lt (by omega)] at hτ
  exact hn (h1 l (List.mem_of_getElem? hτ)).1
/-- As weak_in0, where blocks are lent. -/
theorem weak_inK {S S' : St} (L B : List Nat) (n : Nat) (h0 : ((List.range S.k).all (fun l => B.contains l) && Nat.ble S.k n) = true) (h : ((S.keep L).res fun l => B.contains l).cut n = S') : Weak S S' := by
  simp only [Bool.and_eq_true] at h0
  exact weak_in L B n h0.2 (fun l hl => List.all_eq_true.1 h0.1 l (by simpa using hl)) h

end Go.Aw

/- A call that is lent blocks and freezes none. -/
namespace Go.Aw
set_option linter.unusedVariables false
variable {G : Env} {S S' : St}
theorem frzH_nil (h : List (Nat × Blk)) : frzH [] h = h := by
  induction h with
  | nil => rfl
  | cons q r ih => obtain ⟨x, k⟩ := q; simp [frzH, ih]
theorem frz_nil (S : St) : S.frz [] = S := by
  obtain ⟨n, k, sl, hp, nx⟩ := S
  simp only [St.frz, frzH_nil]
def gHp (S : St) (σl : List Nat) (Hout : List Blk) (dst : Option Nat) (r : AV) (K : St → Prop) : Prop :=
  match S with
  | ⟨n, k, sl, hp, nx⟩ => setAllK (insB (back σl nx Hout.length) 0 Hout) hp fun hp' => ePut ⟨n, k, sl, hp', nx + (Hout.length - σl.length)⟩ dst (ren (back σl nx Hout.length) r) K
theorem eCall_lent {f : FuncId} {caps args args' : List AV} {dst : Option Nat} {K : St → Prop} {r : AV} {Hin Hout : List Blk} (σl : List Nat) (n : Nat) (hs : Fun G f args' Hin r Hout) (hd : σl.Nodup) (hv : vwL S.blk okRead (idx · σl) n (args ++ caps) = some args')
    (hB : lent S.blk okRead (idx · σl) n σl = some Hin) (hk : gHp S σl Hout dst r K) : eCall G (.fn f caps) args dst S K := by
  refine eCall_gen [] σl n hs (fun _ h => nomatch h) hd (by rw [frz_nil]; exact hv) (by rw [frz_nil]; exact hB) ?_
  rw [frz_nil]
  obtain ⟨n, k, sl, hp, nx⟩ := S
  exact hk
end Go.Aw

/- Functions of whose answers no more is told than what holds of them. -/
namespace Go.Aw
set_option linter.unusedVariables false
set_option linter.unusedSimpArgs false

variable {G : Env} {S S' : St}
def RetE (G : Env) (fn : Func) (k : Nat) (Post : AV → List Blk → Prop) (e : Exit) (S : St) : Prop := ∃ r Hout, Post r Hout ∧ RetL G fn k r Hout e S

/-- What the evaluator says of a function's body holds of its calls. -/
theorem spec_of_wpE {fid : FuncId} {fn : Func} {code : Code} (hf : G.P.funcs[fid]? = some fn) (hb : fn.body = some code) {args : List AV} {Hin : List Blk} {Post : AV → List Blk → Prop} (hlen : args.length ≤ fn.ntmps) {W : St → (Exit → St → Prop) → Prop}
    (hW : ∀ (c : Ctx) (S0 : St) (a : Act) (w : World), Sim c S0 a w → ∀ {Q : Exit → St → Prop}, W S0 Q → code.wp G.P (Up c Q) a w)
    (h : W (St.init fn.ntmps args Hin) (RetE G fn Hin.length Post)) : SpecE G.P fid args Hin Post := by
  intro w M φ vl HR hφ hpw
  refine calls_of_wp hf hb ?_
  let c : Ctx := ⟨w, M, φ, Hin.length⟩
  have hbk : (St.init fn.ntmps args Hin).blk = fun l => Hin[l]? := by
    funext l
    show aget l (initH 0 Hin) = _
    rw [aget_initH]; simp
  have hsim : Sim c (St.init fn.ntmps args Hin) { tmps := (⟨vl⟩ : Array Value) ++ Array.replicate (fn.ntmps - (⟨vl⟩ : Array Value).size) undef, defers := [] } w := by
    have hl := hpw.1
    refine ⟨M, φ, ⟨?_, rfl, fun t => ?_, by rw [hbk]; exact HR⟩, ⟨.refl _ _, fun _ _ _ => rfl, fun _ _ => Iff.rfl, fun _ _ => rfl, fun l p hp => ?_, rfl, rfl, rfl, hφ, fun l hl' => ?_⟩, hφ, rfl, Nat.le_refl _⟩
    · simp [St.init]; omega
    · have hg : (St.init fn.ntmps args Hin).get t = args.getD t .bad := by
        show (aget t (initL 0 args)).getD .bad = _
        rw [aget_initL]; simp [List.getD_eq_getElem?_getD]
      rw [hg]
      by_cases q : t < args.length
      · have := hpw.2 t q
        have e : ((⟨vl⟩ : Array Value) ++ Array.replicate (fn.ntmps - (⟨vl⟩ : Array Value).size) undef).getD t undef = vl.getD t undef := by
          simp [Array.getD_eq_getD_getElem?, Array.getElem?_append, show t < vl.length by omega]
        rw [e]; exact this
      · have : args.getD t .bad = .bad := by simp [List.getD_eq_getElem?_getD, List.getElem?_eq_none (by omega : args.length ≤ t)]
        rw [this]; exact .bad _ _
    · rcases Nat.lt_or_ge l Hin.length with q | q
      · exact .inl ⟨q, hp⟩
      · rw [hφ l q] at hp; cases hp
    · obtain ⟨b, o, cs, T, h1, _⟩ := (HR.ok l Hin[l] (List.getElem?_eq_getElem hl')).out
      show φ l ≠ none
      rw [h1]; simp
  refine wp_mono (hW c _ _ _ hsim h) ?_
  rintro e a' w' ⟨S, hs, r, Hout, hpost', r0, hlx, hret⟩
  obtain ⟨he, E, n, vs, hvs, hnd, htk, hkE, hvw, hln⟩ := hret
  obtain ⟨M', φ', hR, hI, hnx, hk, hkn⟩ := hs.out
  obtain ⟨v, hres, hrv⟩ := run_results hR hvs
  obtain ⟨hBl, hBg⟩ := lent_spec _ _ hln
  have hEk : ∀ l, l < Hin.length → E[l]? = some l := fun l hl => by
    have h1 : (E.take Hin.length)[l]? = some l := by rw [htk]; simp [hl]
    rwa [List.getElem?_take, if_pos hl] at h1
  let φr : Pm := fun j => (E[j]?).bind φ'
  let Mr : Nat → Prop := fun b => M' b ∧ (b < w.heap.size ∨ ∃ j p, φr j = some p ∧ p.b = b)
  have hlive : ∀ j l, E[j]? = some l → ∃ k b, S.blk l = some k ∧ Hout[j]? = some b ∧ vwB S.blk (okOut E) (idx · E) n k = some b := fun j l hj => by
    have hjl : j < E.length := by
      rcases Nat.lt_or_ge j E.length with q | q
      · exact q
      · rw [List.getElem?_eq_none q] at hj; cases hj
    obtain ⟨b, hb⟩ : ∃ b, Hout[j]? = some b := ⟨Hout[j]'(by omega), List.getElem?_eq_getElem (by omega)⟩
    obtain ⟨k, hk, hkb⟩ := hBg j l b hj hb
    exact ⟨k, b, hk, hb, hkb⟩
  have hσ : ∀ l p j, φ' l = some p → idx l E = some j → φr j = some p := fun l p j hp hj => by
    simp only [φr, idx_get hj, Option.bind_some, hp]
  -- blocks that stay behind are looked at as if nobody wrote them
  have F0 : ∀ l k p, S.blk l = some k → (∀ j, E[j]? ≠ some l) → φ' l = some p → ¬ Mr p.b := fun l k p hkl hne hp hM => by
    rcases hM.2 with q | ⟨j, p', hj, e⟩
    · rcases hI.fresh l p hp with z | z
      · exact hne l (hEk l z.1)
      · have : w.heap.size ≤ p.b := z.2
        omega
    · simp only [φr, Option.bind_eq_some_iff] at hj
      obtain ⟨l', hl', hp'⟩ := hj
      obtain ⟨k', _, hk', _⟩ := hlive j l' hl'
      have := hR.heap.inj l' l k' k p' p hk' hkl hp' hp e
      subst this
      exact hne j hl'
  have F : FzOk w' M' Mr φ' S.blk (okOut E) := ⟨hR.heap, fun _ _ q => q.1, fun l k p hkl hok hp => F0 l k p hkl (fun j hj => by
    have : E.contains l = true := by simpa using List.mem_of_getElem? hj
    simp only [okOut, this] at hok; cases hok) hp⟩
  have hm : ∀ l p, φ' l = some p → (∃ j, E[j]? = some l) → (Mr p.b ↔ M' p.b) := fun l p hp ⟨j, hj⟩ =>
    ⟨fun q => q.1, fun q => ⟨q, .inr ⟨j, p, by simp only [φr, hj, Option.bind_some, hp], rfl⟩⟩⟩
  have hEl : ∀ j l, E[j]? = some l → j < E.length := fun j l hj => by
    rcases Nat.lt_or_ge j E.length with q | q
    · exact q
    · rw [List.getElem?_eq_none q] at hj; cases hj
  have hpost : ∃ v, (results fn a'.tmps).run G.P w' = .ok v w' ∧ ∃ r Hout, Post r Hout ∧ ∃ v0 M1 φ1, Ending.returned v = .returned v0 ∧ StepOk w M φ w' M1 φ1 ∧ HRel w' M1 φ1 (fun l => Hout[l]?) ∧ Rep w' M1 φ1 r v0 ∧ Hin.length ≤ Hout.length ∧ (∀ l, Hout.length ≤ l → φ1 l = none) := by
    refine ⟨v, hres, r, Hout, hpost', v, Mr, φr, rfl, ⟨hI.ext, fun l p hp => ?_, fun b hb => ⟨fun q => (hI.m b hb).1 q.1, fun q => ⟨(hI.m b hb).2 q, .inl hb⟩⟩, hI.frame, fun j p hp => ?_, hI.os, hI.tape, hI.out⟩, ⟨fun j b hb => ?_, fun j j' b b' p p' hb hb' hp hp' e => ?_, fun j p hp => ?_⟩, hlx _ _ _ _ (vw_rep F hrv F hvw hσ), by omega, fun l hl => ?_⟩
    · rcases Nat.lt_or_ge l Hin.length with q | q
      · simp only [φr, hEk l q, Option.bind_some]
        have h1 := hI.lent l q
        have h2 : c.φ0 l = some p := hp
        rw [h2] at h1; exact h1
      · rw [hφ l q] at hp; cases hp
    · simp only [φr, Option.bind_eq_some_iff] at hp
      obtain ⟨l, hl, hp⟩ := hp
      rcases hI.fresh l p hp with q | q
      · left
        have h1 := hEk l q.1
        have : j = l := (List.getElem?_inj (hEl j l hl) hnd).1 (hl.trans h1.symm)
        subst this; exact q.2
      · exact .inr q.2
    · have hjl : j < E.length := by
        rcases Nat.lt_or_ge j E.length with q | q
        · exact q
        · rw [List.getElem?_eq_none (by omega)] at hb; cases hb
      obtain ⟨k, b1, hk, hb1, hkb⟩ := hlive j E[j] (List.getElem?_eq_getElem hjl)
      have : b1 = b := by rw [hb1] at hb; exact Option.some.inj hb
      subst this
      exact vwB_ok F (hR.heap.ok _ _ hk) hkb (fun p hp => by simp only [φr, List.getElem?_eq_getElem hjl, Option.bind_some, hp]) hσ (fun p hp => hm _ p hp ⟨j, List.getElem?_eq_getElem hjl⟩)
    · simp only [φr, Option.bind_eq_some_iff] at hp hp'
      obtain ⟨l, hl, hp⟩ := hp
      obtain ⟨l', hl', hp'⟩ := hp'
      obtain ⟨k, _, hk, _⟩ := hlive j l hl
      obtain ⟨k', _, hk', _⟩ := hlive j' l' hl'
      have := hR.heap.inj l l' k k' p p' hk hk' hp hp' e
      subst this
      exact (List.getElem?_inj (hEl j l hl) hnd).1 (hl.trans hl'.symm)
    · simp only [φr, Option.bind_eq_some_iff] at hp
      obtain ⟨l, hl, hp⟩ := hp
      exact hR.heap.lt l p hp
    · simp only [φr]; rw [List.getElem?_eq_none (by omega)]; rfl
  rcases he with rfl | rfl
  · exact ⟨hR.defers, hpost⟩
  · exact ⟨hR.defers, hpost⟩



def FunE (G : Env) (f : FuncId) (args : List AV) (Hin : List Blk) (Post : AV → List Blk → Prop) : Prop := FnOk G.P f ∧ SpecE G.P f args Hin Post
theorem spec_ewE {fid : FuncId} {fn : Func} {code : Code} (hf : G.P.funcs[fid]? = some fn) (hn : (fn.name == "runtime.NumGoroutine") = false) (hb : fn.body = some code) {args : List AV} {Hin : List Blk} {Post : AV → List Blk → Prop} (hlen : Nat.ble args.length fn.ntmps = true)
    (h : ew G code ⟨fn.ntmps, Hin.length, initL 0 args, initH 0 Hin, Hin.length⟩ (RetE G fn Hin.length Post)) : FunE G fid args Hin Post :=
  ⟨⟨fn, hf, hn, by rw [hb]; rfl⟩, spec_of_wpE hf hb (Nat.le_of_ble_eq_true hlen) (W := ew G code) (fun c S0 a w hs Q hq => ew_sound code S0 Q a w hs hq) h⟩
theorem retE {fn : Func} {k : Nat} {Post : AV → List Blk → Prop} {r : AV} {Hout : List Blk} {e : Exit} {S : St} (hp : Post r Hout) (h : RetL G fn k r Hout e S) : RetE G fn k Post e S := ⟨r, Hout, hp, h⟩
theorem Fun.toE {f : FuncId} {args : List AV} {Hin Hout : List Blk} {r : AV} {Post : AV → List Blk → Prop} (h : Fun G f args Hin r Hout) (hp : Post r Hout) : FunE G f args Hin Post :=
  ⟨h.1, fun w M φ vl a b d => (h.2 w M φ vl a b d).mono fun e w' q => ⟨r, Hout, hp, q⟩⟩
theorem FunE.mono {f : FuncId} {args : List AV} {Hin : List Blk} {Post Post' : AV → List Blk → Prop} (h : FunE G f args Hin Post) (hp : ∀ r Hout, Post r Hout → Post' r Hout) : FunE G f args Hin Post' :=
  ⟨h.1, fun w M φ vl a b d => (h.2 w M φ vl a b d).mono fun e w' ⟨r, Hout, q, z⟩ => ⟨r, Hout, hp _ _ q, z⟩⟩
theorem FunE.args {f : FuncId} {args args' : List AV} {Hin : List Blk} {Post : AV → List Blk → Prop} (h : FunE G f args' Hin Post) (hl : args.length = args'.length) (ha : ∀ i, i < args.length → Lax (args.getD i .bad) (args'.getD i .bad)) : FunE G f args Hin Post :=
  ⟨h.1, fun w M φ vl h1 h2 h3 => h.2 w M φ vl h1 h2 ⟨by rw [h3.1, hl], fun i hi => ha i (by omega) _ _ _ _ (h3.2 i (by omega))⟩⟩
/-- A call: whatever holds of its answer, the code goes on with. -/
theorem eCallE {f : FuncId} {caps args args' : List AV} {dst : Option Nat} {K : St → Prop} {Hin : List Blk} {Post : AV → List Blk → Prop} (σl : List Nat) (n : Nat) (hs : FunE G f args' Hin Post) (hdst : (match dst with | some d => Nat.blt d S.n | none => true) = true) (hd : σl.Nodup) (hv : vwL S.blk okRead (idx · σl) n (args ++ caps) = some args')
    (hB : lent S.blk okRead (idx · σl) n σl = some Hin) (hk : ∀ r Hout, Post r Hout → gHp S σl Hout dst r K) : eCall G (.fn f caps) args dst S K := by
  unfold eCall
  right
  refine ⟨?_, [], σl, n, args', Hin, Post, hs.1, (fun _ h => nomatch h), hd, by rw [frz_nil]; exact hv, by rw [frz_nil]; exact hB, hs.2, fun r Hout hp => ?_⟩
  · unfold dstOk
    cases dst with
    | none => trivial
    | some d => simpa using hdst
  · rw [frz_nil]
    have h1 := hk r Hout hp
    obtain ⟨n, k, sl, hp', nx⟩ := S
    simp only [gHp, setAllK_eq] at h1
    exact (ePut_ok h1).2
/-- The same, and the blocks F nobody writes any more. -/
theorem eCallEF {f : FuncId} {caps args args' : List AV} {dst : Option Nat} {K : St → Prop} {Hin : List Blk} {Post : AV → List Blk → Prop} (F σl : List Nat) (n : Nat) (hs : FunE G f args' Hin Post) (hdst : (match dst with | some d => Nat.blt d S.n | none => true) = true) (hF : F.all (fun l => Nat.ble S.k l) = true) (hd : σl.Nodup) (hv : vwL (S.frz F).blk okRead (idx · σl) n (args ++ caps) = some args')
    (hB : lent (S.frz F).blk okRead (idx · σl) n σl = some Hin) (hk : ∀ r Hout, Post r Hout → gHp (S.frz F) σl Hout dst r K) : eCall G (.fn f caps) args dst S K := by
  unfold eCall
  right
  refine ⟨?_, F, σl, n, args', Hin, Post, hs.1, (fun l hl => Nat.le_of_ble_eq_true (List.all_eq_true.1 hF l hl)), hd, hv, hB, hs.2, fun r Hout hp => ?_⟩
  · unfold dstOk
    cases dst with
    | none => trivial
    | some d => simpa using hdst
  · have h1 := hk r Hout hp
    obtain ⟨n, k, sl, hp', nx⟩ := S
    simp only [gHp, St.frz, setAllK_eq] at h1
    exact (ePut_ok h1).2
end Go.Aw

/- Blocks get other numbers, and what is not named is forgotten. -/
namespace Go.Aw
set_option linter.unusedVariables false
set_option linter.unusedSimpArgs false

variable {G : Env} {S S' : St} {c : Ctx} {a : Act} {w : World}

def rnR (ps : List (Nat × Nat)) : Nat → Option Nat := fun l => aget l ps
def rnS (ps : List (Nat × Nat)) : List (Nat × AV) → List (Nat × AV)
  | [] => []
  | (t, v) :: r => (t, ren (rnR ps) v) :: rnS ps r
def rnH (ps : List (Nat × Nat)) (h : List (Nat × Blk)) : List (Nat × Nat) → List (Nat × Blk)
  | [] => []
  | (l, j) :: r => match aget l h with | some k => (j, renB (rnR ps) k) :: rnH ps h r | none => rnH ps h r
def St.rn (ps : List (Nat × Nat)) (n : Nat) (S : St) : St := ⟨S.n, S.k, rnS ps S.sl, rnH ps S.hp ps, n⟩
def rnOk (k n : Nat) (ps : List (Nat × Nat)) : Bool :=
  decide (ps.map Prod.fst).Nodup && (decide (ps.map Prod.snd).Nodup && (ps.all (fun p => Nat.blt p.2 n && (Nat.blt p.1 k || Nat.ble k p.2)) && ((List.range k).all (fun l => decide (aget l ps = some l)) && Nat.ble k n)))
theorem aget_mem {α : Type} {t : Nat} {x : α} : ∀ {l : List (Nat × α)}, aget t l = some x → (t, x) ∈ l := by
  intro l
  induction l with
  | nil => intro h; cases h
  | cons p r ih =>
    obtain ⟨u, v⟩ := p
    intro h
    simp only [aget] at h
    split at h
    · rename_i e; subst e; cases h; exact List.mem_cons_self
    · exact List.mem_cons_of_mem _ (ih h)
theorem aget_of_mem {α : Type} {t : Nat} {x : α} : ∀ {l : List (Nat × α)}, (l.map Prod.fst).Nodup → (t, x) ∈ l → aget t l = some x := by
  intro l
  induction l with
  | nil => intro _ h; cases h
  | cons p r ih =>
    obtain ⟨u, v⟩ := p
    intro hn h
    simp only [List.map_cons, List.nodup_cons] at hn
    simp only [aget]
    rcases List.mem_cons.1 h with q | q
    · cases q; rw [if_pos rfl]
    · rw [if_neg]
      · exact ih hn.2 q
      · rintro rfl; exact hn.1 (List.mem_map.2 ⟨_, q, rfl⟩)
theorem aget_rnS (ps : List (Nat × Nat)) (t : Nat) : ∀ h : List (Nat × AV), aget t (rnS ps h) = (aget t h).map (ren (rnR ps)) := by
  intro h
  induction h with
  | nil => rfl
  | cons q r ih => obtain ⟨u, v⟩ := q; simp only [rnS, aget]; split; rfl; exact ih
theorem rnH_key (ps : List (Nat × Nat)) (h : List (Nat × Blk)) {j : Nat} {k : Blk} : ∀ qs : List (Nat × Nat), aget j (rnH ps h qs) = some k → ∃ l k0, (l, j) ∈ qs ∧ aget l h = some k0 ∧ k = renB (rnR ps) k0 := by
  intro qs
  induction qs with
  | nil => intro e; cases e
  | cons q r ih =>
    obtain ⟨l, j'⟩ := q
    intro e
    simp only [rnH] at e
    split at e
    · rename_i k0 hk
      simp only [aget] at e
      split at e
      · rename_i ej; subst ej; cases e; exact ⟨l, k0, List.mem_cons_self, hk, rfl⟩
      · obtain ⟨l', k', h1, h2, h3⟩ := ih e; exact ⟨l', k', List.mem_cons_of_mem _ h1, h2, h3⟩
    · obtain ⟨l', k', h1, h2, h3⟩ := ih e; exact ⟨l', k', List.mem_cons_of_mem _ h1, h2, h3⟩
theorem weak_rn0 (ps : List (Nat × Nat)) (n : Nat) (hc : rnOk S.k n ps = true) : Weak S (S.rn ps n) := by
  simp only [rnOk, Bool.and_eq_true, decide_eq_true_eq, List.all_eq_true, Bool.or_eq_true] at hc
  obtain ⟨hn1, hn2, hall, hk0, hkn'⟩ := hc
  have hkn' := Nat.le_of_ble_eq_true hkn'
  intro c a w h
  obtain ⟨M, φ, hR, hI, hnx, hkk, hkn⟩ := h.out
  let bk : List (Nat × Nat) := ps.map fun p => (p.2, p.1)
  have hbk : (bk.map Prod.fst) = ps.map Prod.snd := by simp [bk]
  let φ' : Pm := fun j => (aget j bk).bind φ
  have hbk1 : ∀ l j, (l, j) ∈ ps → aget j bk = some l := fun l j hm => aget_of_mem (by rw [hbk]; exact hn2) (List.mem_map.2 ⟨(l, j), hm, rfl⟩)
  have hbk2 : ∀ l j, aget j bk = some l → (l, j) ∈ ps := fun l j e => by
    obtain ⟨p, hp, e2⟩ := List.mem_map.1 (aget_mem e)
    cases e2; exact hp
  have hρ : ∀ l p j, φ l = some p → rnR ps l = some j → φ' j = some p := fun l p j hp hj => by
    simp only [φ', hbk1 l j (aget_mem hj), Option.bind_some, hp]
  have hφ : ∀ j p, φ' j = some p → ∃ l, (l, j) ∈ ps ∧ φ l = some p := fun j p hp => by
    simp only [φ', Option.bind_eq_some_iff] at hp
    obtain ⟨l, h1, h2⟩ := hp
    exact ⟨l, hbk2 _ _ h1, h2⟩
  have hkey : ∀ j k, (S.rn ps n).blk j = some k → ∃ l k0, (l, j) ∈ ps ∧ S.blk l = some k0 ∧ k = renB (rnR ps) k0 := fun j k hj => rnH_key ps S.hp ps hj
  have huni : ∀ l l' j, (l, j) ∈ ps → (l', j) ∈ ps → l = l' := fun l l' j h1 h2 => by
    have e1 := hbk1 _ _ h1
    have e2 := hbk1 _ _ h2
    rw [e1] at e2; exact Option.some.inj e2
  have huni2 : ∀ l j j', (l, j) ∈ ps → (l, j') ∈ ps → j = j' := fun l j j' h1 h2 => by
    have e1 := aget_of_mem hn1 h1
    have e2 := aget_of_mem hn1 h2
    rw [e1] at e2; exact Option.some.inj e2
  have hlow : ∀ l, l < S.k → (l, l) ∈ ps := fun l hl => aget_mem (hk0 l (by simpa using hl))
  refine ⟨M, φ', ⟨hR.n, hR.defers, fun t => ?_, ⟨fun j k hj => ?_, fun j j' k k' p p' hj hj' hp hp' e => ?_, fun j p hp => ?_⟩⟩, { hI with lent := fun l hl => ?_, fresh := fun j p hp => ?_ }, fun j hj => ?_, hkk, ?_⟩
  · have hg : (S.rn ps n).get t = ren (rnR ps) (S.get t) := by
      unfold St.get St.rn
      rw [aget_rnS]
      cases aget t S.sl <;> rfl
    rw [hg]; exact (hR.slot t).ren hρ
  · obtain ⟨l, k0, h1, h2, rfl⟩ := hkey j k hj
    exact (hR.heap.ok l k0 h2).ren (fun p hp => hρ l p j hp (aget_of_mem hn1 h1)) hρ
  · obtain ⟨l, k0, h1, h2, _⟩ := hkey j k hj
    obtain ⟨l', k0', h1', h2', _⟩ := hkey j' k' hj'
    obtain ⟨l2, h3, h4⟩ := hφ j p hp
    obtain ⟨l2', h3', h4'⟩ := hφ j' p' hp'
    have := huni l l2 j h1 h3
    subst this
    have := huni l' l2' j' h1' h3'
    subst this
    have := hR.heap.inj l l' k0 k0' p p' h2 h2' h4 h4' e
    subst this
    exact huni2 l j j' h1 h1'
  · obtain ⟨l, _, h2⟩ := hφ j p hp
    exact hR.heap.lt _ _ h2
  · have h1 : l < S.k := by omega
    simp only [φ', hbk1 l l (hlow l h1), Option.bind_some]
    exact hI.lent l hl
  · obtain ⟨l, h1, h2⟩ := hφ j p hp
    rcases hI.fresh _ _ h2 with q | q
    · have h3 := hlow l (by omega)
      have := huni2 _ _ _ h3 h1
      subst this
      exact .inl q
    · right
      have h3 := (hall _ h1).2
      simp only at h3
      rcases h3 with z | z
      · have : l < S.k := by simpa using z
        omega
      · have := Nat.le_of_ble_eq_true z
        exact ⟨by omega, q.2⟩
  · cases hq : φ' j with
    | none => rfl
    | some p =>
      obtain ⟨l, h1, _⟩ := hφ j p hq
      have h3 := (hall _ h1).1
      have : j < n := by simpa using h3
      have hj' : n ≤ j := hj
      omega
  · show c.k ≤ n; omega
/-- Only the temporaries L and the blocks named in ps are kept; these get other numbers; those from n on are free. -/
theorem weak_rn (L : List Nat) (ps : List (Nat × Nat)) (n : Nat) (hc : rnOk S.k n ps = true) (h : (S.keep L).rn ps n = S') : Weak S S' :=
  .keep L (h ▸ weak_rn0 ps n hc)

end Go.Aw

/- Calls that bring blocks of their own, in a region whose order the machine draws. -/
namespace Go.Aw
set_option linter.unusedVariables false
set_option linter.unusedSimpArgs false
variable {G : Env} {S S' : St} {c : Ctx} {a : Act} {w : World}
theorem insB_has {τ : Nat → Option Nat} {l : Nat} : ∀ (L : List Blk) (j i : Nat), i < L.length → τ (j + i) = some l → ∃ k, (l, k) ∈ insB τ j L := by
  intro L
  induction L with
  | nil => intro j i h; simp at h
  | cons b r ih =>
    intro j i h hτ
    simp only [insB]
    cases i with
    | zero =>
      rw [Nat.add_zero] at hτ
      rw [hτ]; exact ⟨_, List.mem_cons_self⟩
    | succ i =>
      obtain ⟨k, hk⟩ := ih (j + 1) i (by simpa using h) (by rwa [show j + 1 + i = j + (i + 1) by omega])
      split
      · exact ⟨k, List.mem_cons_of_mem _ hk⟩
      · exact ⟨k, hk⟩
theorem Runs.new {o : Oper} {f : Operand} {args : Array Operand} {ts : Array TypeId} {fid : FuncId} {caps args' : List AV} {r : AV} {Hin Hout : List Blk} (σl L : List Nat) (n : Nat) (ho : o.op = .call ⟨.value f, args, ts⟩) (hf : S.eval f = .fn fid caps)
    (hd : σl.Nodup) (hsL : ∀ l ∈ σl, l ∈ L) (hL : ∀ l ∈ L, l < S.nx) (hle : σl.length ≤ Hout.length) (hv : vwL (cutH S.blk L) okRead (idx · σl) n (args.toList.map S.eval ++ caps) = some args') (hB : lent (cutH S.blk L) okRead (idx · σl) n σl = some Hin)
    (hs : Fun G fid args' Hin r Hout) : Runs G o S ⟨ren (back σl S.nx Hout.length) r, insB (back σl S.nx Hout.length) 0 Hout, L, S.nx + (Hout.length - σl.length)⟩ := by
  intro w M φ hp a HR hx hrd hnw N Q hN
  obtain ⟨vl, hfv, hpw⟩ := pw_args ho hf hx
  have hkey : ∀ l, S.nx ≤ l → l < S.nx + (Hout.length - σl.length) → ∃ k, (l, k) ∈ insB (back σl S.nx Hout.length) 0 Hout := fun l h1 h2 => by
    refine insB_has Hout 0 (σl.length + (l - S.nx)) (by omega) ?_
    rw [Nat.zero_add, back_ge (by omega) (by omega)]; congr 1; omega
  unfold Oper.wp
  rw [exec_call ho hfv, run_callFunc hs.1]
  refine (call_gen2 (ok := okRead) (nx := S.nx) HR (fun l h1 h2 => ?_) (fun l hl => hL l (hsL l hl)) (fun l k hq => by simpa [okRead] using hq) hd (vwL_mono (cutH_le hrd) _ _ hv) (lent_mono (cutH_le hrd) _ _ hB) hs.2 hpw).mono ?_
  · obtain ⟨k, hk⟩ := hkey l h1 h2
    exact hnw l k hk fun hl => by have := hL l hl; omega
  rintro e w' ⟨v, M', φ', rfl, h1, h2, h3, h4, h5⟩
  refine hN _ _ _ _ h1 h2 h3 fun l hl => ?_
  rcases h5 l hl with q | q
  · exact .inl q
  · obtain ⟨k, hk⟩ := hkey l q.1 q.2
    exact .inr ⟨List.mem_map.2 ⟨_, hk, rfl⟩, fun hl => by have := hL l hl; omega⟩
theorem dCall_new {o : Oper} {f : FuncId} {caps args args' : List AV} {K : Out → St → Prop} {r : AV} {Hin Hout : List Blk} (σl L : List Nat) (n : Nat) (hs : Fun G f args' Hin r Hout) {fo : Operand} {ao : Array Operand} {ts : Array TypeId} (ho : o.op = .call ⟨.value fo, ao, ts⟩)
    (hd : σl.Nodup) (hsL : ((σl.all fun l => L.contains l) && L.all fun l => Nat.blt l S.nx) = true) (hlen : Nat.ble σl.length Hout.length = true) (hv : vwL (cutH S.blk L) okRead (idx · σl) n (args ++ caps) = some args') (hB : lent (cutH S.blk L) okRead (idx · σl) n σl = some Hin)
    (hk : eUpd fv S o.dst ⟨ren (back σl S.nx Hout.length) r, insB (back σl S.nx Hout.length) 0 Hout, L, S.nx + (Hout.length - σl.length)⟩ (K ⟨ren (back σl S.nx Hout.length) r, insB (back σl S.nx Hout.length) 0 Hout, L, S.nx + (Hout.length - σl.length)⟩)) : dCall G o (.fn f caps) args S K := by
  have hlen := Nat.le_of_ble_eq_true hlen
  simp only [Bool.and_eq_true, List.all_eq_true] at hsL
  have h1 : ∀ l ∈ σl, l ∈ L := fun l hl => by simpa using hsL.1 l hl
  have h2 : ∀ l ∈ L, l < S.nx := fun l hl => by simpa using hsL.2 l hl
  unfold dCall
  intro hf ha
  rw [ho] at hf ha
  subst ha
  obtain ⟨h4, h3⟩ := eUpd_ok fv_eq hk
  refine ⟨_, ⟨.new σl L n ho hf hd h1 h2 hlen hv hB hs, Nat.le_add_right _ _, fun l k hl hn => ?_⟩, h4, h3⟩
  obtain ⟨i, hi, hτ⟩ := insB_keys _ _ hl
  rw [Nat.zero_add] at hτ
  by_cases hlt : i < σl.length
  · rw [back_lt hlt] at hτ
    exact absurd (h1 l (List.mem_of_getElem? hτ)) hn
  · rw [back_ge (by omega) hi] at hτ
    cases hτ; simp only; omega
end Go.Aw
