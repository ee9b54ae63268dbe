/- What the evaluator forgets or freezes; calls and append in the evaluated frame. Calls and append in the evaluated frame. append in the evaluated frame. The evaluator over a function's code, and that a function's calls do what it says. -/
import Derived.Test.YtendgiieolkleaaM3

/- What the evaluator forgets or freezes; calls and append in the evaluated frame. -/
namespace Go.Aw
set_option linter.unusedVariables false
set_option linter.unusedSimpArgs false

variable {G : Env} {c : Ctx} {w w' : World} {M M' : Nat → Prop} {φ φ' : Pm} {S S' : St} {a : Act}

/-! ### Forgetting blocks -/
def onlyR (p : Nat → Bool) : Nat → Option Nat := fun l => if p l then some l else none
def resP (p : Nat → Bool) (φ : Pm) : Pm := fun l => if p l then φ l else none
def resH (p : Nat → Bool) : List (Nat × Blk) → List (Nat × Blk)
  | [] => []
  | (l, k) :: r => if p l then (l, renB (onlyR p) k) :: resH p r else resH p r
def resS (p : Nat → Bool) : List (Nat × AV) → List (Nat × AV)
  | [] => []
  | (t, v) :: r => (t, ren (onlyR p) v) :: resS p r
def St.res (p : Nat → Bool) (S : St) : St := { S with sl := resS p S.sl, hp := resH p S.hp }

theorem aget_resH (p : Nat → Bool) (l : Nat) : ∀ h : List (Nat × Blk), aget l (resH p h) = if p l then (aget l h).map (renB (onlyR p)) else none := by
  intro h
  induction h with
  | nil => simp [resH, aget]
  | cons q r ih =>
    obtain ⟨x, k⟩ := q
    simp only [resH]
    by_cases hp : p x
    · rw [if_pos hp]; simp only [aget]
      by_cases e : l = x
      · subst e; simp [hp]
      · simp only [if_neg e]; exact ih
    · rw [if_neg hp, ih]; simp only [aget]
      by_cases e : l = x
      · subst e; simp [hp]
      · simp only [if_neg e]
theorem aget_resS (p : Nat → Bool) (t : Nat) : ∀ h : List (Nat × AV), aget t (resS p h) = (aget t h).map (ren (onlyR p)) := by
  intro h
  induction h with
  | nil => simp [resS, aget]
  | cons q r ih =>
    obtain ⟨x, k⟩ := q
    simp only [resS, aget]
    split
    · simp
    · exact ih
theorem St.res_blk (p : Nat → Bool) (S : St) (l : Nat) : (S.res p).blk l = if p l then (S.blk l).map (renB (onlyR p)) else none := aget_resH p l S.hp
theorem St.res_get (p : Nat → Bool) (S : St) (t : Nat) : (S.res p).get t = ren (onlyR p) (S.get t) := by
  unfold St.get St.res
  simp only [aget_resS]
  cases aget t S.sl <;> simp [ren]
theorem resP_ren (p : Nat → Bool) (φ : Pm) : ∀ l q j, φ l = some q → onlyR p l = some j → resP p φ j = some q := by
  intro l q j hq hj
  unfold onlyR at hj
  split at hj
  · cases hj; unfold resP; rw [if_pos (by assumption)]; exact hq
  · cases hj

theorem HRel.res {h : Hp} {h' : Hp} (p : Nat → Bool) (H : HRel w M φ h) (hh : ∀ l, h' l = if p l then (h l).map (renB (onlyR p)) else none) : HRel w M (resP p φ) h' := by
  have key : ∀ l k, h' l = some k → p l = true ∧ ∃ k0, h l = some k0 ∧ k = renB (onlyR p) k0 := fun l k hk => by
    rw [hh] at hk
    split at hk
    · rename_i hp
      cases h0 : h l with
      | none => rw [h0] at hk; cases hk
      | some k0 => rw [h0] at hk; exact ⟨hp, k0, rfl, by simpa using hk.symm⟩
    · cases hk
  have kφ : ∀ l q, resP p φ l = some q → φ l = some q := fun l q hq => by
    unfold resP at hq; split at hq; exact hq; cases hq
  refine ⟨fun l k hk => ?_, fun l l' k k' q q' hk hk' hq hq' e => ?_, fun l q hq => H.lt l q (kφ l q hq)⟩
  · obtain ⟨hp, k0, h0, rfl⟩ := key l k hk
    exact (H.ok l k0 h0).ren (fun q hq => by unfold resP; rw [if_pos hp]; exact hq) (resP_ren p φ)
  · obtain ⟨_, k0, h0, _⟩ := key l k hk
    obtain ⟨_, k0', h0', _⟩ := key l' k' hk'
    exact H.inj l l' k0 k0' q q' h0 h0' (kφ _ _ hq) (kφ _ _ hq') e

theorem Rel.res (p : Nat → Bool) (h : Rel w M φ S a) : Rel w M (resP p φ) (S.res p) a :=
  ⟨h.n, h.defers, fun t => by rw [St.res_get]; exact (h.slot t).ren (resP_ren p φ), h.heap.res p (St.res_blk p S)⟩

theorem Inv.res (p : Nat → Bool) (hp : ∀ l, l < c.k → p l = true) (h : Inv c w M φ) : Inv c w M (resP p φ) :=
  { h with
    lent := fun l hl => by unfold resP; rw [if_pos (hp l hl)]; exact h.lent l hl
    fresh := fun l q hq => h.fresh l q (by unfold resP at hq; split at hq; exact hq; cases hq) }

theorem Sim.res (p : Nat → Bool) (hp : ∀ l, l < S.k → p l = true) (h : Sim c S a w) : Sim c (S.res p) a w := by
  obtain ⟨M, φ, hR, hI, hnx, hk, hkn⟩ := h.out
  exact ⟨M, _, hR.res p, hI.res p (fun l hl => hp l (by omega)), fun l hl => by unfold resP; split; exact hnx l hl; rfl, hk, hkn⟩

/-- All blocks from n on are forgotten, the next new one has the number n. -/
def St.cut (n : Nat) (S : St) : St := { S.res (fun l => decide (l < n)) with nx := n }
theorem Sim.cut {n : Nat} (hk : S.k ≤ n) (h : Sim c S a w) : Sim c (S.cut n) a w := by
  obtain ⟨M, φ, hR, hI, hnx, hk', hkn⟩ := h.out
  have h2 := hR.res (fun l => decide (l < n))
  refine ⟨M, resP (fun l => decide (l < n)) φ, ⟨h2.n, h2.defers, h2.slot, h2.heap⟩, hI.res _ (fun l hl => by have : c.k = S.k := hk'.symm; simp; omega), fun l hl => ?_, hk', ?_⟩
  · unfold resP; rw [if_neg]; simp; exact hl
  · have : c.k = S.k := hk'.symm
    show c.k ≤ n; omega

/-- Temporaries are forgotten. -/
def keepS (L : List Nat) : List (Nat × AV) → List (Nat × AV)
  | [] => []
  | (t, v) :: r => if L.contains t then (t, v) :: keepS L r else keepS L r
def St.keep (L : List Nat) (S : St) : St := { S with sl := keepS L S.sl }
theorem aget_keepS (L : List Nat) (t : Nat) : ∀ h : List (Nat × AV), aget t (keepS L h) = if L.contains t then aget t h else none := by
  intro h
  induction h with
  | nil => simp [keepS, aget]
  | cons q r ih =>
    obtain ⟨x, v⟩ := q
    simp only [keepS]
    by_cases hx : L.contains x = true
    · rw [if_pos hx]
      by_cases e : t = x
      · subst e; rw [if_pos hx]; simp [aget]
      · simp only [aget, if_neg e]; exact ih
    · rw [if_neg hx, ih]
      by_cases e : t = x
      · subst e; rw [if_neg hx, if_neg hx]
      · simp only [aget, if_neg e]
theorem Sim.keep (L : List Nat) (h : Sim c S a w) : Sim c (S.keep L) a w := by
  obtain ⟨M, φ, hR, hI, hnx, hk, hkn⟩ := h.out
  refine ⟨M, φ, ⟨hR.n, hR.defers, fun t => ?_, hR.heap⟩, hI, hnx, hk, hkn⟩
  unfold St.get St.keep
  simp only [aget_keepS]
  split
  · exact hR.slot t
  · exact .bad _ _

/-! ### Freezing blocks -/
def frzH (F : List Nat) : List (Nat × Blk) → List (Nat × Blk)
  | [] => []
  | (l, k) :: r => (l, if F.contains l then { k with wr := false } else k) :: frzH F r
def St.frz (F : List Nat) (S : St) : St := { S with hp := frzH F S.hp }
theorem aget_frzH (F : List Nat) (l : Nat) : ∀ h : List (Nat × Blk), aget l (frzH F h) = (aget l h).map fun k => if F.contains l then { k with wr := false } else k := by
  intro h
  induction h with
  | nil => simp [frzH, aget]
  | cons q r ih =>
    obtain ⟨x, k⟩ := q
    simp only [frzH, aget]
    split
    · rename_i e; subst e; rfl
    · exact ih

theorem Sim.frz (F : List Nat) (hF : ∀ l ∈ F, S.k ≤ l) (h : Sim c S a w) : Sim c (S.frz F) a w := by
  obtain ⟨M, φ, hR, hI, hnx, hk, hkn⟩ := h.out
  let M' : Nat → Prop := fun b => M b ∧ ∀ l ∈ F, ∀ k p, S.blk l = some k → φ l = some p → p.b ≠ b
  have hM : ∀ b, M' b → M b := fun b h => h.1
  have hb : ∀ l, (S.frz F).blk l = (S.blk l).map fun k => if F.contains l then { k with wr := false } else k := fun l => aget_frzH F l S.hp
  refine ⟨M', φ, ⟨hR.n, hR.defers, fun t => (hR.slot t).mono (.refl _ _) (fun b _ => hM b) (.refl _), ?_⟩, { hI with m := fun b hb' => ?_ }, hnx, hk, hkn⟩
  · have key : ∀ l k, (S.frz F).blk l = some k → ∃ k0, S.blk l = some k0 ∧ k = if F.contains l then { k0 with wr := false } else k0 := fun l k hk => by
      rw [hb] at hk
      cases h0 : S.blk l with
      | none => rw [h0] at hk; cases hk
      | some k0 => rw [h0] at hk; exact ⟨k0, rfl, by simpa using hk.symm⟩
    refine ⟨fun l k hk => ?_, fun l l' k k' q q' hk hk' hq hq' e => ?_, hR.heap.lt⟩
    · obtain ⟨k0, h0, rfl⟩ := key l k hk
      obtain ⟨b, o, cs, T, h1, h2, h3, h4, h5, h6⟩ := (hR.heap.ok l k0 h0).out
      have hup : ∀ i j, i < k0.es.length → j < k0.sz → Rep w M' (if k0.cl then noPm else φ) ((k0.es.getD i []).getD j .bad) (cs.toList.getD (o + i * k0.sz + j) undef) := fun i j hi hj =>
        (h5 i j hi hj).mono (.refl _ _) (fun b _ => hM b) (.refl _)
      by_cases e : F.contains l = true
      · rw [if_pos e]
        refine ⟨b, o, cs, T, h1, h2, h3, h4, hup, ⟨fun q => (by cases q), fun q => ?_⟩⟩
        exact absurd rfl (q.2 l (by simpa using e) k0 _ h0 h1)
      · rw [if_neg e]
        refine ⟨b, o, cs, T, h1, h2, h3, h4, hup, ⟨fun q => ⟨h6.1 q, fun l' hl' k' p' hk' hp' eb => ?_⟩, fun q => h6.2 q.1⟩⟩
        have := hR.heap.inj l' l k' k0 p' _ hk' h0 hp' h1 eb
        subst this
        exact e (by simpa using hl')
    · obtain ⟨k0, h0, _⟩ := key l k hk
      obtain ⟨k0', h0', _⟩ := key l' k' hk'
      exact hR.heap.inj l l' k0 k0' q q' h0 h0' hq hq' e
  · refine ⟨fun q => (hI.m b hb').1 q.1, fun q => ⟨(hI.m b hb').2 q, fun l hl k p hk' hp e => ?_⟩⟩
    have := hF l hl
    rcases hI.fresh l p hp with q1 | q1
    · omega
    · omega

end Go.Aw

/- Calls and append in the evaluated frame. -/
namespace Go.Aw
set_option linter.unusedVariables false
set_option linter.unusedSimpArgs false

variable {G : Env} {c : Ctx} {w w' : World} {M M' : Nat → Prop} {φ φ' : Pm} {S S' : St} {a : Act}

/-! ### Calls -/
/-- A function with a body. -/
def FnOk (P : Program) (f : FuncId) : Prop := ∃ fn, P.funcs[f]? = some fn ∧ (fn.name == "runtime.NumGoroutine") = false ∧ fn.body.isNone = false
/-- A function of the model's own: it tells a value at once. -/
def Ext (P : Program) (f : FuncId) (args : List AV) (r : AV) : Prop :=
  ∀ (w : World) (M : Nat → Prop) (φ : Pm) (vl : List Value), PW (Rep w M φ) args vl → ∃ v, (callFunc f ⟨vl⟩).run P w = .ok (.value v) w ∧ Rep w M φ r v

/-! ### Calls that read blocks which stay writable: the answer holds numbers and blocks of its own -/
mutual
def oflat : AV → Bool
  | .s _ => true
  | .e _ => true
  | .loc _ _ _ _ => true
  | .ptr _ _ _ => true
  | .bad => true
  | .agg cs => oflatL cs
  | .tup cs => oflatL cs
  | _ => false
def oflatL : List AV → Bool
  | [] => true
  | v :: r => oflat v && oflatL r
end
theorem oflatL_get : ∀ (l : List AV), oflatL l = true → ∀ i, oflat (l.getD i .bad) = true := by
  intro l
  induction l with
  | nil => intro _ i; simp [oflat]
  | cons v r ih =>
    intro h i
    simp only [oflatL, Bool.and_eq_true] at h
    cases i with
    | zero => simpa using h.1
    | succ i => simpa using ih h.2 i
theorem Rep.oflat {M M' : Nat → Prop} {v : AV} {x : Value} (hr : Rep w M φ v x) : Aw.oflat v = true → Rep w M' φ v x := by
  induction hr with
  | s φ v => intro _; exact .s _ _
  | agg φ cs vl hl _ ih => intro hf; exact .agg _ _ _ hl fun i hi => ih i hi (oflatL_get _ hf i)
  | tup φ cs vl hl _ ih => intro hf; exact .tup _ _ _ hl fun i hi => ih i hi (oflatL_get _ hf i)
  | e φ nl a h => intro _; exact .e _ _ _ h
  | loc φ l sz off len cap p hp hz hc hs => intro _; exact .loc _ _ _ _ _ _ p hp hz hc hs
  | ptr φ l i off p hp => intro _; exact .ptr _ _ _ _ p hp
  | bad φ v => intro _; exact .bad _ _
  | _ => intro hf; cases hf
mutual
theorem oflat_ren (ρ : Nat → Option Nat) : ∀ v : AV, oflat v = true → oflat (ren ρ v) = true
  | .s _, _ => rfl
  | .e _, _ => rfl
  | .loc l _ _ _, _ => by simp only [ren]; split <;> rfl
  | .ptr l _ _, _ => by simp only [ren]; split <;> rfl
  | .bad, _ => rfl
  | .agg cs, h => by simp only [ren, oflat] at h ⊢; exact oflatL_ren ρ cs h
  | .tup cs, h => by simp only [ren, oflat] at h ⊢; exact oflatL_ren ρ cs h
theorem oflatL_ren (ρ : Nat → Option Nat) : ∀ l : List AV, oflatL l = true → oflatL (renL ρ l) = true
  | [], _ => rfl
  | v :: r, h => by
    simp only [oflatL, renL, Bool.and_eq_true] at h ⊢
    exact ⟨oflat_ren ρ v h.1, oflatL_ren ρ r h.2⟩
end
def oflatB (k : Blk) : Bool := k.es.all oflatL
theorem oflatB_ren {ρ : Nat → Option Nat} {k : Blk} (h : oflatB k = true) : oflatB (renB ρ k) = true := by
  unfold renB
  split
  · exact h
  · unfold oflatB at h ⊢
    simp only [List.all_map, List.all_eq_true] at h ⊢
    exact fun e he => oflatL_ren ρ e (h e he)
theorem BlkOk.oflat {M M' : Nat → Prop} {l : Nat} {k : Blk} (h : BlkOk w M φ l k) (hf : oflatB k = true) (hm : ∀ p, φ l = some p → (M' p.b ↔ M p.b)) : BlkOk w M' φ l k := by
  obtain ⟨b, o, cs, T, h1, h2, h3, h4, h5, h6⟩ := h.out
  refine ⟨b, o, cs, T, h1, h2, h3, h4, fun i j hi hj => (h5 i j hi hj).oflat ?_, h6.trans (hm _ h1).symm⟩
  unfold oflatB at hf
  rw [List.all_eq_true] at hf
  refine oflatL_get _ (hf _ ?_) j
  rw [List.getD_eq_getElem?_getD, List.getElem?_eq_getElem hi]; exact List.getElem_mem _

/-- The blocks, of which those not lent are only looked at. -/
def onlyB (σl : List Nat) (h : Hp) : Hp := fun l => (h l).map fun k => if σl.contains l then k else { k with wr := false }
def onlyM (σl : List Nat) (M : Nat → Prop) (φ : Pm) (h : Hp) : Nat → Prop := fun b => M b ∧ ∀ l, l ∉ σl → ∀ k p, h l = some k → φ l = some p → p.b ≠ b
theorem onlyB_key {σl : List Nat} {h : Hp} {l : Nat} {k : Blk} (hk : onlyB σl h l = some k) : ∃ k0, h l = some k0 ∧ k = if σl.contains l then k0 else { k0 with wr := false } := by
  unfold onlyB at hk
  cases h0 : h l with
  | none => rw [h0] at hk; cases hk
  | some k0 => rw [h0] at hk; exact ⟨k0, rfl, by simpa using hk.symm⟩
theorem HRel.only {h : Hp} (σl : List Nat) (hr : HRel w M φ h) : HRel w (onlyM σl M φ h) φ (onlyB σl h) := by
  refine ⟨fun l k hk => ?_, fun l l' k k' q q' hk hk' hq hq' e => ?_, hr.lt⟩
  · obtain ⟨k0, h0, rfl⟩ := onlyB_key hk
    obtain ⟨b, o, cs, T, h1, h2, h3, h4, h5, h6⟩ := (hr.ok l k0 h0).out
    have hup : ∀ i j, i < k0.es.length → j < k0.sz → Rep w (onlyM σl M φ h) (if k0.cl then noPm else φ) ((k0.es.getD i []).getD j .bad) (cs.toList.getD (o + i * k0.sz + j) undef) := fun i j hi hj =>
      (h5 i j hi hj).mono (.refl _ _) (fun b _ q => q.1) (.refl _)
    by_cases e : σl.contains l = true
    · rw [if_pos e]
      refine ⟨b, o, cs, T, h1, h2, h3, h4, hup, ⟨fun q => ⟨h6.1 q, fun l' hl' k' p' hk' hp' eb => ?_⟩, fun q => h6.2 q.1⟩⟩
      have := hr.inj l' l k' k0 p' _ hk' h0 hp' h1 eb
      subst this
      exact hl' (by simpa using e)
    · rw [if_neg e]
      refine ⟨b, o, cs, T, h1, h2, h3, h4, hup, ⟨fun q => (by cases q), fun q => ?_⟩⟩
      exact absurd rfl (q.2 l (by simpa using e) k0 _ h0 h1)
  · obtain ⟨k0, h0, _⟩ := onlyB_key hk
    obtain ⟨k0', h0', _⟩ := onlyB_key hk'
    exact hr.inj l l' k0 k0' q q' h0 h0' hq hq' e

theorem call_own {P : Program} {f : FuncId} {vs args' : List AV} {vl : List Value} {σl : List Nat} {Hin Hout : List Blk} {r : AV} {nx n : Nat} {h : Hp} (HR : HRel w M φ h) (hnx : ∀ l, nx ≤ l → φ l = none)
    (hd : σl.Nodup) (hv : vwL (onlyB σl h) okRead (idx · σl) n vs = some args') (hB : lent (onlyB σl h) okRead (idx · σl) n σl = some Hin) (hs : Spec P f args' Hin r Hout) (ha : PW (Rep w M φ) vs vl)
    (hr : oflat r = true) (ho : Hout.all oflatB = true) :
    Calls P f ⟨vl⟩ w fun e w' => ∃ v M' φ', e = .returned v ∧ StepOk w M φ w' M' φ' ∧ HRel w' M' φ' (insH h (insB (back σl nx Hout.length) 0 Hout)) ∧ Rep w' M' φ' (ren (back σl nx Hout.length) r) v ∧ σl.length ≤ Hout.length ∧
      (∀ l, φ' l ≠ none → φ l ≠ none ∨ (nx ≤ l ∧ l < nx + (Hout.length - σl.length))) := by
  have HF := HR.only σl
  have ha' : PW (Rep w (onlyM σl M φ h) φ) vs vl := ⟨ha.1, fun i hi => (ha.2 i hi).mono (.refl _ _) (fun b _ q => q.1) (.refl _)⟩
  obtain ⟨hBl, hBg⟩ := lent_spec _ _ hB
  have hlive : ∀ l ∈ σl, ∃ k, h l = some k := fun l hl => by
    obtain ⟨j, hj⟩ := List.getElem?_of_mem hl
    have hjl : j < σl.length := by
      rcases Nat.lt_or_ge j σl.length with q | q
      · exact q
      · rw [List.getElem?_eq_none q] at hj; cases hj
    obtain ⟨k, hk, _⟩ := hBg j l (Hin[j]'(by omega)) hj (List.getElem?_eq_getElem (by omega))
    obtain ⟨k0, h0, _⟩ := onlyB_key hk
    exact ⟨k0, h0⟩
  have hsn : ∀ l ∈ σl, l < nx := fun l hl => by
    obtain ⟨k, hk⟩ := hlive l hl
    obtain ⟨b', o, cs, T, h1, _⟩ := (HR.ok l k hk).out
    rcases Nat.lt_or_ge l nx with q | q
    · exact q
    · rw [hnx l q] at h1; cases h1
  refine (call_gen (ok := okRead) HF hnx (fun l k hq => by simpa [okRead] using hq) hd hv hB hs ha').mono ?_
  rintro e w' ⟨v, M1, φ', rfl, h1, h2, h3, h4, h5⟩
  let M' : Nat → Prop := fun b => if b < w.heap.size then M b else M1 b
  have hM'lt : ∀ b, b < w.heap.size → (M' b ↔ M b) := fun b hb => by simp only [M', if_pos hb]
  have hM'ge : ∀ b, ¬ b < w.heap.size → (M' b ↔ M1 b) := fun b hb => by simp only [M', if_neg hb]
  have hext : WExt M w w' := ⟨h1.ext.size, fun b hb hM => h1.ext.same b hb fun q => hM q.1, h1.ext.shape⟩
  have hst : StepOk w M φ w' M' φ' := ⟨hext, h1.pext, hM'lt, h1.frame, h1.fresh, h1.os, h1.tape, h1.out⟩
  have hback : ∀ j l, back σl nx Hout.length j = some l → l ∈ σl ∨ nx ≤ l := fun j l hj => by
    by_cases q : j < σl.length
    · rw [back_lt q] at hj; exact .inl (List.mem_of_getElem? hj)
    · by_cases q2 : j < Hout.length
      · rw [back_ge (by omega) q2] at hj; cases hj; right; omega
      · unfold back at hj; rw [if_neg q, if_neg q2] at hj; cases hj
  have hinj := back_inj (m := Hout.length) hd hsn
  have hcase : ∀ l, (∃ kk ∈ Hout, (l ∈ σl ∨ nx ≤ l) ∧ ∀ g, insH g (insB (back σl nx Hout.length) 0 Hout) l = some (renB (back σl nx Hout.length) kk)) ∨ (l ∉ σl ∧ ∀ g, insH g (insB (back σl nx Hout.length) 0 Hout) l = g l) := fun l => by
    by_cases hex : ∃ j, j < Hout.length ∧ back σl nx Hout.length j = some l
    · obtain ⟨j, hj, hl⟩ := hex
      exact .inl ⟨Hout[j], List.getElem_mem _, hback j l hl, fun g => insB_at Hout 0 j _ g (List.getElem?_eq_getElem hj) (by rw [Nat.zero_add]; exact hl) (fun a b x _ _ => hinj a b x)⟩
    · refine .inr ⟨fun hl => hex ?_, fun g => insB_no Hout 0 g fun i hi e => hex ⟨i, hi, by rwa [Nat.zero_add] at e⟩⟩
      obtain ⟨j, hj⟩ := List.getElem?_of_mem hl
      have hjl : j < σl.length := by
        rcases Nat.lt_or_ge j σl.length with q | q
        · exact q
        · rw [List.getElem?_eq_none q] at hj; cases hj
      exact ⟨j, by omega, by rw [back_lt hjl]; exact hj⟩
  have hdom : ∀ l k, insH h (insB (back σl nx Hout.length) 0 Hout) l = some k → ∃ k', insH (onlyB σl h) (insB (back σl nx Hout.length) 0 Hout) l = some k' := fun l k hk => by
    rcases hcase l with ⟨kk, _, _, hg⟩ | ⟨_, hg⟩
    · exact ⟨_, hg _⟩
    · rw [hg] at hk ⊢
      unfold onlyB; rw [hk]; exact ⟨_, rfl⟩
  refine ⟨v, M', φ', rfl, hst, ⟨fun l k hk => ?_, fun l l' k k' p p' hk hk' hp hp' e => ?_, h2.lt⟩, h3.oflat (oflat_ren _ _ hr), h4, h5⟩
  · rcases hcase l with ⟨kk, hkk, hl, hg⟩ | ⟨hl, hg⟩
    · rw [hg] at hk
      cases hk
      refine (h2.ok l _ (hg _)).oflat (oflatB_ren (List.all_eq_true.1 ho kk hkk)) fun p hp => ?_
      rcases h1.fresh l p hp with q | q
      · have hlt := HR.lt l p q
        rw [hM'lt _ hlt, h1.m _ hlt]
        refine ⟨fun hM => ⟨hM, fun l' hl' k' p' hk' hp' eb => ?_⟩, fun q => q.1⟩
        rcases hl with hl | hl
        · obtain ⟨k0, hk0⟩ := hlive l hl
          have := HR.inj l' l k' k0 p' p hk' hk0 hp' q eb
          subst this
          exact hl' hl
        · rw [hnx l hl] at q; cases q
      · rw [hM'ge _ (by omega)]
    · rw [hg] at hk
      refine (HR.ok l k hk).mono hext hM'lt h1.pext (fun p hp => HR.lt l p hp) fun p hp => ?_
      exact h1.ext.same p.b (HR.lt l p hp) fun q => q.2 l hl k p hk hp rfl
  · obtain ⟨k1, hk1⟩ := hdom l k hk
    obtain ⟨k1', hk1'⟩ := hdom l' k' hk'
    exact h2.inj l l' k1 k1' p p' hk1 hk1' hp hp' e

inductive CallTo (G : Env) (f : FuncId) (vs : List AV) (S : St) : St → AV → Prop
  | ext (r : AV) (h : Ext G.P f vs r) : CallTo G f vs S S r
  | flat (n : Nat) (args' : List AV) (r : AV) (ho : FnOk G.P f) (hv : vwL S.blk okAll (fun _ => none) n vs = some args') (hs : Spec G.P f args' [] r []) (hf : flat r = true) : CallTo G f vs S S r
  | pure (n : Nat) (args' : List AV) (r : AV) (ho : FnOk G.P f) (hv : vwL S.blk okRead (fun _ => none) n vs = some args') (hs : Spec G.P f args' [] r []) : CallTo G f vs S S r
  | gen (F σl : List Nat) (n : Nat) (args' : List AV) (Hin Hout : List Blk) (r : AV) (ho : FnOk G.P f) (hF : ∀ l ∈ F, S.k ≤ l) (hd : σl.Nodup) (hv : vwL (S.frz F).blk okRead (idx · σl) n vs = some args')
      (hB : lent (S.frz F).blk okRead (idx · σl) n σl = some Hin) (hs : Spec G.P f args' Hin r Hout) :
      CallTo G f vs S { S.frz F with hp := setAll (insB (back σl S.nx Hout.length) 0 Hout) (S.frz F).hp, nx := S.nx + (Hout.length - σl.length) } (ren (back σl S.nx Hout.length) r)
  | own (σl : List Nat) (n : Nat) (args' : List AV) (Hin Hout : List Blk) (r : AV) (ho : FnOk G.P f) (hd : σl.Nodup) (hv : vwL (onlyB σl S.blk) okRead (idx · σl) n vs = some args')
      (hB : lent (onlyB σl S.blk) okRead (idx · σl) n σl = some Hin) (hs : Spec G.P f args' Hin r Hout) (hr : oflat r = true) (hf : Hout.all oflatB = true) :
      CallTo G f vs S { S with hp := setAll (insB (back σl S.nx Hout.length) 0 Hout) S.hp, nx := S.nx + (Hout.length - σl.length) } (ren (back σl S.nx Hout.length) r)

theorem Rel.pw (h : Rel w M φ S a) (args : Array Operand) : PW (Rep w M φ) (args.toList.map S.eval) (args.toList.map a.eval) :=
  ⟨by simp, fun i hi => by
    simp only [List.length_map] at hi
    have e1 : (args.toList.map S.eval).getD i .bad = S.eval (args.toList.getD i (.const .nilFunc)) := by simp only [List.getD_eq_getElem?_getD, List.getElem?_map, List.getElem?_eq_getElem hi, Option.map_some, Option.getD_some]
    have e2 : (args.toList.map a.eval).getD i undef = a.eval (args.toList.getD i (.const .nilFunc)) := by simp only [List.getD_eq_getElem?_getD, List.getElem?_map, List.getElem?_eq_getElem hi, Option.map_some, Option.getD_some]
    rw [e1, e2]; exact h.eval _⟩
theorem PW.append {R : AV → Value → Prop} {l1 l2 : List AV} {v1 v2 : List Value} (h1 : PW R l1 v1) (h2 : PW R l2 v2) : PW R (l1 ++ l2) (v1 ++ v2) :=
  ⟨by simp [h1.1, h2.1], fun i hi => by
    have hl := h1.1
    simp only [List.getD_eq_getElem?_getD]
    by_cases q : i < l1.length
    · rw [List.getElem?_append_left q, List.getElem?_append_left (by omega)]
      simpa [List.getD_eq_getElem?_getD] using h1.2 i q
    · rw [List.getElem?_append_right (by omega), List.getElem?_append_right (by omega), hl]
      simp only [List.length_append] at hi
      simpa [List.getD_eq_getElem?_getD] using h2.2 (i - l1.length) (by omega)⟩

/-- What a call of a function value comes to. -/
theorem exec_call {o : Oper} {f : Operand} {args : Array Operand} {ts : Array TypeId} (ho : o.op = .call ⟨.value f, args, ts⟩) {fid : FuncId} {vl : List Value} {ρ : Operand → Value} (hf : ρ f = .func (.func fid) #[] ⟨vl⟩) :
    (execOp ρ o).run G.P w = (callFunc fid ⟨args.toList.map ρ ++ vl⟩).run G.P w := by
  unfold execOp
  rw [ho]
  simp only [resolve, hf, Deferred.ofValue]
  rw [run_bind, run_pure]
  simp only [invoke]
  congr 2
  apply Array.ext'
  simp

theorem run_callFunc {f : FuncId} (h : FnOk G.P f) (args : Array Value) : (callFunc f args).run G.P w = .ok (.enter f args) w := by
  obtain ⟨fn, h1, h2, h3⟩ := h
  unfold callFunc
  simp only [program]
  rw [run_bind]
  simp only [Sem.run, h1, h2, h3]
  rfl

theorem sim_call {o : Oper} {f : Operand} {args : Array Operand} {ts : Array TypeId} {fid : FuncId} {caps : List AV} {r : AV} (h : Sim c S a w) (ho : o.op = .call ⟨.value f, args, ts⟩) (hf : S.eval f = .fn fid caps)
    (hc : CallTo G fid (args.toList.map S.eval ++ caps) S S' r) (hd : dstOk S o.dst) {N : Act → World → Prop} {Q : Exit → Act → World → Prop}
    (hN : ∀ a' w', Sim c (S'.put o.dst r) a' w' → N a' w') : o.wp G.P a w N Q := by
  obtain ⟨M, φ, hR, hI, hnx, hk, hkn⟩ := h.out
  have hfe := hR.eval f
  rw [hf] at hfe
  generalize hfv : a.eval f = fv at hfe
  cases hfe with
  | fn _ _ _ vl hl hh =>
    have hpw : PW (Rep w M φ) (args.toList.map S.eval ++ caps) (args.toList.map a.eval ++ vl) := (hR.pw args).append ⟨hl, hh⟩
    unfold Oper.wp
    rw [exec_call ho hfv]
    cases hc with
    | ext _ he =>
      obtain ⟨v, h1, h2⟩ := he w M φ _ hpw
      rw [h1]
      exact hN _ _ ⟨M, φ, hR.step (.refl _ _ _) hd h2 hR.heap (by cases o.dst <;> rfl) (St.put_n _ _ _) (St.put_blk _ _ _), hI, by rw [St.put_nx]; exact hnx, (St.put_k _ _ _).trans hk, by rw [St.put_nx]; exact hkn⟩
    | flat n args' _ hok hv hs hfl =>
      rw [run_callFunc hok]
      refine (call_flat hR.heap hv hs hfl hpw).mono ?_
      rintro e w' ⟨v, rfl, h1, h2, h3⟩
      exact hN _ _ ⟨M, φ, hR.step h1 hd h3 h2 (by cases o.dst <;> rfl) (St.put_n _ _ _) (St.put_blk _ _ _), hI.step h1 (fun l hl => .inl hl), by rw [St.put_nx]; exact hnx, (St.put_k _ _ _).trans hk, by rw [St.put_nx]; exact hkn⟩
    | pure n args' _ hok hv hs =>
      rw [run_callFunc hok]
      refine (call_pure hR.heap hv hs hpw).mono ?_
      rintro e w' ⟨v, M', rfl, h1, h2, h3⟩
      exact hN _ _ ⟨M', φ, hR.step h1 hd h3 h2 (by cases o.dst <;> rfl) (St.put_n _ _ _) (St.put_blk _ _ _), hI.step h1 (fun l hl => .inl hl), by rw [St.put_nx]; exact hnx, (St.put_k _ _ _).trans hk, by rw [St.put_nx]; exact hkn⟩
    | gen F σl n args' Hin Hout r0 hok hF hdd hv hB hs =>
      obtain ⟨M, φ, hR, hI, hnx, hk, hkn⟩ := (h.frz F hF).out
      have hfe := hR.eval f
      have hpw : PW (Rep w M φ) (args.toList.map S.eval ++ caps) (args.toList.map a.eval ++ vl) := by
        have h1 := hR.pw args
        have h2 := hR.eval f
        rw [hfv] at h2
        have e1 : (S.frz F).eval = S.eval := by funext x; cases x <;> rfl
        rw [e1] at h1 h2
        rw [hf] at h2
        cases h2 with
        | fn _ _ _ _ hl' hh' => exact h1.append ⟨hl', hh'⟩
      rw [run_callFunc hok]
      refine (call_gen (ok := okRead) hR.heap hnx (fun l k hq => by simpa [okRead] using hq) hdd hv hB hs hpw).mono ?_
      rintro e w' ⟨v, M', φ', rfl, h1, h2, h3, h4, h5⟩
      refine hN _ _ ⟨M', φ', hR.step h1 hd h3 h2 (by cases o.dst <;> rfl) (St.put_n _ _ _) ?_, hI.step h1 (fun l hl => (h5 l hl).imp id fun q => Nat.le_trans hkn q.1), fun l hl => ?_, (St.put_k _ _ _).trans hk, ?_⟩
      · rw [St.put_blk]; funext l; exact aget_setAll _ _ _
      · rw [St.put_nx] at hl
        cases hq : φ' l with
        | none => rfl
        | some p =>
          have hl' : S.nx + (Hout.length - σl.length) ≤ l := hl
          rcases h5 l (by rw [hq]; simp) with q | q
          · exact absurd (hnx l (Nat.le_trans (Nat.le_add_right _ _) hl')) q
          · have : (S.frz F).nx = S.nx := rfl
            omega
      · rw [St.put_nx]; exact Nat.le_trans hkn (Nat.le_add_right _ _)
    | own σl n args' Hin Hout r0 hok hdd hv hB hs hr0 hf0 =>
      rw [run_callFunc hok]
      refine (call_own hR.heap hnx hdd hv hB hs hpw hr0 hf0).mono ?_
      rintro e w' ⟨v, M', φ', rfl, h1, h2, h3, h4, h5⟩
      refine hN _ _ ⟨M', φ', hR.step h1 hd h3 h2 (by cases o.dst <;> rfl) (St.put_n _ _ _) ?_, hI.step h1 (fun l hl => (h5 l hl).imp id fun q => Nat.le_trans hkn q.1), fun l hl => ?_, (St.put_k _ _ _).trans hk, ?_⟩
      · rw [St.put_blk]; funext l; exact aget_setAll _ _ _
      · rw [St.put_nx] at hl
        cases hq : φ' l with
        | none => rfl
        | some p =>
          have hl' : S.nx + (Hout.length - σl.length) ≤ l := hl
          rcases h5 l (by rw [hq]; simp) with q | q
          · exact absurd (hnx l (Nat.le_trans (Nat.le_add_right _ _) hl')) q
          · omega
      · rw [St.put_nx]; exact Nat.le_trans hkn (Nat.le_add_right _ _)

/-! ### append -/
def appTy (G : Env) (ts : Array TypeId) : Option TI :=
  match ts[0]?, ts[1]? with
  | some t, some x => match tkOf G.P t, tkOf G.P x with
    | some (.slice e), some k => match k with
      | .int _ => none
      | _ => match tinfo G.P e with
        | some ti => if 0 < ti.sz ∧ ti.zero.length = ti.sz ∧ 0 < ti.by_ ∧ ti.by_ ≤ 4294967296 then some ti else none
        | none => none
    | _, _ => none
  | _, _ => none
theorem appTy_spec {ts : Array TypeId} {ti : TI} (h : appTy G ts = some ti) : ∃ t x e d1, ts[0]? = some t ∧ ts[1]? = some x ∧ G.P.underlying t = some (.slice e) ∧ G.P.underlying x = some d1 ∧ isInt d1 = false ∧ tinfo G.P e = some ti ∧ 0 < ti.sz ∧ ti.zero.length = ti.sz ∧ 0 < ti.by_ ∧ ti.by_ ≤ 4294967296 := by
  unfold appTy at h
  split at h
  · rename_i t x ht hx
    split at h
    · rename_i e k hk1 hk2
      obtain ⟨d, hd, hdk⟩ := tkOf_spec hk1
      obtain ⟨d1, hd1, hdk1⟩ := tkOf_spec hk2
      have := tk_slice hdk
      subst this
      split at h
      · cases h
      · rename_i hni
        split at h
        · rename_i ti' hti
          split at h
          · rename_i hcc
            cases h
            refine ⟨t, x, e, d1, ht, hx, hd, hd1, ?_, hti, hcc⟩
            cases d1 <;> first | rfl | exact absurd hdk1.symm (hni _)
          · cases h
        · cases h
    · cases h
  · cases h

def St.alloc (S : St) (k : Blk) : St := { S with hp := aset S.nx k S.hp, nx := S.nx + 1 }
/-- The block l has new contents; whatever else names it is forgotten. -/
def St.grow (S : St) (l : Nat) (k : Blk) : St := let S1 := S.res (fun x => x != l); { S1 with hp := aset l (renB (onlyR fun x => x != l) k) S1.hp }

inductive AppTo (G : Env) (ts : Array TypeId) (s x : AV) (S : St) : St → AV → Prop
  | same (ti : TI) (sz : Nat) (es : List (List AV)) (cl : Bool) (ht : appTy G ts = some ti) (hx : xel S.blk x = some (sz, es, cl)) (he : es = []) (hs : ∃ nl, s = .e nl ∨ ∃ z q, s = .sl nl z q) : AppTo G ts s x S S s
  | new (ti : TI) (sz : Nat) (es : List (List AV)) (cl : Bool) (ht : appTy G ts = some ti) (hx : xel S.blk x = some (sz, es, cl)) (he : es ≠ []) (hz : sz = ti.sz) (hs : (∃ nl, s = .e nl) ∨ ∃ z, s = .sl true z []) (hb : es.length * ti.by_ ≤ 35184372088832) :
      AppTo G ts s x S (S.alloc ⟨true, cl, ti.sz, es⟩) (.loc S.nx ti.sz 0 es.length)
  | grow (ti : TI) (sz : Nat) (es : List (List AV)) (cl : Bool) (l off len : Nat) (k : Blk) (ht : appTy G ts = some ti) (hx : xel S.blk x = some (sz, es, cl)) (he : es = [] ∨ sz = ti.sz) (hs : s = .loc l ti.sz off len)
      (hk : S.blk l = some k) (hw : k.wr = true) (hl : S.k ≤ l) (hks : k.sz = ti.sz) (hlen : off + len = k.es.length) (hb : (len + es.length) * ti.by_ ≤ 35184372088832) :
      AppTo G ts s x S (S.grow l ⟨true, k.cl && cl, ti.sz, (if off = 0 then k.es else k.es.drop off) ++ es⟩) (.loc l ti.sz 0 (len + es.length))

theorem drew1_ext (w : World) : StepOk w M φ (drew1 w) M φ :=
  ⟨⟨Nat.le_refl _, fun _ _ _ => rfl, fun _ _ h => h⟩, .refl _, fun _ _ => Iff.rfl, fun _ _ _ => rfl, fun _ _ h => .inl h, rfl, rfl, rfl⟩
theorem HRel.drew {h : Hp} (H : HRel w M φ h) : HRel (drew1 w) M φ h :=
  ⟨fun l k hk => (H.ok l k hk).mono (drew1_ext (φ := φ) w).ext (fun _ _ => Iff.rfl) (.refl _) (fun p hp => H.lt l p hp) (fun _ _ => rfl), H.inj, H.lt⟩

/-- A row that no block of the code is any more is written, and is one again. -/
theorem adopt_step {h : Hp} (HR : HRel w M φ h) {l : Nat} (hl : φ l = none) {b o : Nat} {cs cs' : Array Value} {T : TypeId} (hb : w.heap[b]? = some (.cells cs T (0, 0))) (hM : M b) (hsz : cs'.size = cs.size) (k : Blk) (hkw : k.wr = true)
    (hun : ∀ l' k' p, h l' = some k' → φ l' = some p → p.b ≠ b) (hlen : o + k.es.length * k.sz ≤ cs.size) (hu : ∀ e ∈ k.es, e.length = k.sz) (hna : ∀ i j, i < k.es.length → j < k.sz → notAgg (cs'.toList.getD (o + i * k.sz + j) undef) = true)
    (hc : ∀ i j, i < k.es.length → j < k.sz → Rep w M (if k.cl then noPm else φ) ((k.es.getD i []).getD j .bad) (cs'.toList.getD (o + i * k.sz + j) undef)) :
    WExt M w (setB w b (.cells cs' T (0, 0))) ∧ HRel (setB w b (.cells cs' T (0, 0))) M (updP φ l ⟨b, o, k.sz⟩) (updH h l k) ∧ (∀ x, x ≠ b → (setB w b (.cells cs' T (0, 0))).heap[x]? = w.heap[x]?) := by
  have hlt : b < w.heap.size := by
    rcases Nat.lt_or_ge b w.heap.size with q | q
    · exact q
    · rw [Array.getElem?_eq_none q] at hb; cases hb
  have hget : ∀ x, x ≠ b → (setB w b (.cells cs' T (0, 0))).heap[x]? = w.heap[x]? := fun x hx => by simp [setB, Array.getElem?_setIfInBounds, Ne.symm hx]
  have hself : (setB w b (.cells cs' T (0, 0))).heap[b]? = some (.cells cs' T (0, 0)) := by simp [setB, hlt]
  have hext : WExt M w (setB w b (.cells cs' T (0, 0))) := by
    refine ⟨by simp [setB], fun x hx hMx => hget x (fun e => hMx (e ▸ hM)), ?_⟩
    rintro x n ⟨c0, U, fz, hc0, hn⟩
    by_cases e : x = b
    · subst e; rw [hb] at hc0; cases hc0; exact ⟨cs', T, _, hself, by omega⟩
    · exact ⟨c0, U, fz, (hget x e).trans hc0, hn⟩
  refine ⟨hext, ⟨fun x k' hk' => ?_, fun x y kx ky px py hx hy hpx hpy e => ?_, fun x p hp => ?_⟩, hget⟩
  · unfold updH at hk'
    split at hk'
    · rename_i e; subst e; cases hk'
      refine ⟨b, o, cs', T, by simp [updP], hself, ⟨by omega, hna⟩, hu, fun i j hi hj => ?_, ⟨fun _ => hM, fun _ => hkw⟩⟩
      exact (hc i j hi hj).mono hext (fun _ _ h => h) (by split; exact .refl _; exact updP_ext _ hl)
    · rename_i hne
      exact (HR.ok x k' hk').mono hext (fun _ _ => Iff.rfl) (updP_ext _ hl) (fun p hp => HR.lt x p hp) fun p hp => hget _ (hun x k' p hk' hp)
  · unfold updH at hx hy
    unfold updP at hpx hpy
    split at hx <;> split at hy
    · rename_i e1 e2; exact e1.trans e2.symm
    · rename_i e1 e2; rw [if_pos e1] at hpx; rw [if_neg e2] at hpy; cases hpx; exact absurd e.symm (hun y ky py hy hpy)
    · rename_i e1 e2; rw [if_neg e1] at hpx; rw [if_pos e2] at hpy; cases hpy; exact absurd e (hun x kx px hx hpx)
    · rename_i e1 e2; rw [if_neg e1] at hpx; rw [if_neg e2] at hpy; exact HR.inj x y kx ky px py hx hy hpx hpy e
  · unfold updP at hp
    split at hp
    · cases hp; simpa [setB] using hlt
    · have := HR.lt x p hp; simpa [setB] using this

end Go.Aw

/- append in the evaluated frame. -/
namespace Go.Aw
set_option linter.unusedVariables false
set_option linter.unusedSimpArgs false

variable {G : Env} {c : Ctx} {w w' : World} {M M' : Nat → Prop} {φ φ' : Pm} {S S' : St} {a : Act}

theorem RF_append {sz : Nat} {es1 es2 : List (List AV)} {c1 c2 c3 : Array Value} (h1 : RF w M φ sz es1 c1) (h2 : RF w M φ sz es2 c2) (hs1 : c1.size = es1.length * sz) : RF w M φ sz (es1 ++ es2) (c1 ++ c2 ++ c3) := by
  obtain ⟨a1, b1, d1⟩ := h1
  obtain ⟨a2, b2, d2⟩ := h2
  have hget : ∀ q, (c1 ++ c2 ++ c3).toList.getD q undef = if q < c1.size then c1.toList.getD q undef else if q - c1.size < c2.size then c2.toList.getD (q - c1.size) undef else c3.toList.getD (q - c1.size - c2.size) undef := fun q => by
      simp only [Array.toList_append, List.getD_eq_getElem?_getD]
      by_cases h1 : q < c1.size
      · rw [if_pos h1, List.append_assoc, List.getElem?_append_left (by simpa using h1)]
      · rw [if_neg h1]
        by_cases h2 : q - c1.size < c2.size
        · rw [if_pos h2, List.append_assoc, List.getElem?_append_right (by simp; omega), List.getElem?_append_left (by simpa using h2)]; simp
        · rw [if_neg h2, List.append_assoc, List.getElem?_append_right (by simp; omega), List.getElem?_append_right (by simp; omega)]; simp
  refine ⟨⟨by have := a1.1; have := a2.1; simp [Nat.add_mul]; omega, fun i j hi hj => ?_⟩, fun e he => ?_, fun i j hi hj => ?_⟩
  · simp only [List.length_append] at hi
    rw [hget]
    by_cases hi1 : i < es1.length
    · have := mul_le (sz := sz) hi1
      rw [if_pos (by omega)]; exact a1.2 i j hi1 hj
    · have hi2 : i - es1.length < es2.length := by omega
      have hm := mul_le (sz := sz) hi2
      have e0 : i * sz = es1.length * sz + (i - es1.length) * sz := by rw [← Nat.add_mul]; congr 1; omega
      have := a2.1
      rw [if_neg (by omega), if_pos (by omega), show i * sz + j - c1.size = (i - es1.length) * sz + j by omega]; exact a2.2 _ j hi2 hj
  · rcases List.mem_append.1 he with q | q
    · exact b1 e q
    · exact b2 e q
  · simp only [List.length_append] at hi
    have hget : ∀ q, (c1 ++ c2 ++ c3).toList.getD q undef = if q < c1.size then c1.toList.getD q undef else if q - c1.size < c2.size then c2.toList.getD (q - c1.size) undef else c3.toList.getD (q - c1.size - c2.size) undef := fun q => by
      simp only [Array.toList_append, List.getD_eq_getElem?_getD]
      by_cases h1 : q < c1.size
      · rw [if_pos h1, List.append_assoc, List.getElem?_append_left (by simpa using h1)]
      · rw [if_neg h1]
        by_cases h2 : q - c1.size < c2.size
        · rw [if_pos h2, List.append_assoc, List.getElem?_append_right (by simp; omega), List.getElem?_append_left (by simpa using h2)]; simp
        · rw [if_neg h2, List.append_assoc, List.getElem?_append_right (by simp; omega), List.getElem?_append_right (by simp; omega)]; simp
    rw [hget]
    by_cases hi1 : i < es1.length
    · have := mul_le (sz := sz) hi1
      rw [if_pos (by omega)]
      have e1 : (es1 ++ es2).getD i [] = es1.getD i [] := by simp [List.getD_eq_getElem?_getD, List.getElem?_append_left hi1]
      rw [e1]; exact d1 i j hi1 hj
    · have hi2 : i - es1.length < es2.length := by omega
      have hm := mul_le (sz := sz) hi2
      have e0 : i * sz = es1.length * sz + (i - es1.length) * sz := by rw [← Nat.add_mul]; congr 1; omega
      have hge : es1.length * sz ≤ i * sz := by omega
      rw [if_neg (by omega), if_pos (by omega)]
      have e1 : (es1 ++ es2).getD i [] = es2.getD (i - es1.length) [] := by simp [List.getD_eq_getElem?_getD, List.getElem?_append_right (show es1.length ≤ i by omega)]
      have e2 : i * sz + j - c1.size = (i - es1.length) * sz + j := by omega
      rw [e1, e2]; exact d2 (i - es1.length) j hi2 hj

theorem RF.up {sz : Nat} {es : List (List AV)} {cv : Array Value} {b1 b2 : Bool} (hb : b1 = true → b2 = true) (h : RF w M (if b2 then noPm else φ) sz es cv) : RF w M (if b1 then noPm else φ) sz es cv :=
  ⟨h.1, h.2.1, fun i j hi hj => by
    have := h.2.2 i j hi hj
    cases b1 with
    | true => rw [hb rfl] at this; exact this
    | false => split at this
               · exact this.up
               · exact this⟩

theorem RF.ren {sz : Nat} {es : List (List AV)} {cv : Array Value} {cl : Bool} {ρ : Nat → Option Nat} (h : RF w M (if cl then noPm else φ) sz es cv) (hp : ∀ l p j, φ l = some p → ρ l = some j → φ' j = some p) (wr : Bool) :
    RF w M (if (renB ρ ⟨wr, cl, sz, es⟩).cl then noPm else φ') sz (renB ρ ⟨wr, cl, sz, es⟩).es cv := by
  unfold renB
  cases cl with
  | true => exact h
  | false =>
    refine ⟨by simpa using h.1, fun e he => ?_, fun i j hi hj => ?_⟩
    · simp only [Bool.false_eq_true, if_false, List.mem_map] at he
      obtain ⟨e', he', rfl⟩ := he
      rw [renL_len]; exact h.2.1 e' he'
    · simp only [Bool.false_eq_true, if_false, List.length_map] at hi ⊢
      have := h.2.2 i j hi hj
      have hl : (es.getD i []).length = sz := h.2.1 _ (getD_mem _ hi)
      have hg : (es.map (renL ρ)).getD i [] = renL ρ (es.getD i []) := by simp [List.getD_eq_getElem?_getD, hi]
      rw [hg, renL_get _ _ _ (by omega)]
      exact Rep.ren this hp

theorem exec_append {o : Oper} {s x : Operand} {ts : Array TypeId} (ho : o.op = .call ⟨.builtin .append, #[s, x], ts⟩) {ρ : Operand → Value} {v : Value} (h : (Builtin.append_ ts o.type #[ρ s, ρ x]).run G.P w = .ok v w') :
    (execOp ρ o).run G.P w = .ok (.value v) w' := by
  unfold execOp
  rw [ho]
  simp only [resolve]
  rw [run_bind, run_pure]
  simp only [invoke, builtin]
  rw [run_bind]
  have : (#[s, x] : Array Operand).map ρ = #[ρ s, ρ x] := by simp
  rw [this, h]; rfl

theorem sim_append {o : Oper} {s x : Operand} {ts : Array TypeId} {r : AV} (h : Sim c S a w) (ho : o.op = .call ⟨.builtin .append, #[s, x], ts⟩) (hc : AppTo G ts (S.eval s) (S.eval x) S S' r) (hd : dstOk S o.dst) {N : Act → World → Prop} {Q : Exit → Act → World → Prop}
    (hN : ∀ a' w', Sim c (S'.put o.dst r) a' w' → N a' w') : o.wp G.P a w N Q := by
  obtain ⟨M, φ, hR, hI, hnx, hk, hkn⟩ := h.out
  have hs := hR.eval s
  have hx := hR.eval x
  generalize hsv : S.eval s = sv at hc hs
  generalize hxv : S.eval x = xv at hc hx
  unfold Oper.wp
  cases hc with
  | same ti sz es cl ht hxe he hss =>
    subst he
    obtain ⟨t, x1, e, d1, ht0, ht1, hd0, hd1, hi1, hti, hz, hzl, hb1, hb2⟩ := appTy_spec ht
    obtain ⟨hl, cv, hf, hcs, _⟩ := xel_spec (G := G) hR.heap hx hxe ti.sz (.inl rfl)
    have hcv : cv = #[] := Array.eq_empty_of_size_eq_zero (by simpa using hcs)
    subst hcv
    have hsl : ∃ base len cap, a.eval s = .slice base len cap ∧ len ≤ cap := by
      generalize a.eval s = sval at hs
      rcases hss with ⟨nl, rfl | ⟨z, q, rfl⟩⟩
      · cases hs; exact ⟨_, _, _, rfl, Nat.le_refl _⟩
      · cases hs; exact ⟨_, _, _, rfl, ‹_›⟩
    obtain ⟨base, len, cap, hse, hlc⟩ := hsl
    have hrun := append_old (G := G) (w := w) (w' := w) (ty := o.type) (base := base) (sLen := len) (sCap := cap) ht0 hd0 hti ht1 hd1 hi1 hl (by simpa using hlc) hf (fun a _ => by simp [storeCells, run_pure]) (fun _ => rfl)
    simp only [List.length_nil, Nat.add_zero] at hrun
    rw [exec_append ho (by rw [hse]; exact hrun), ← hse]
    exact hN _ _ ⟨M, φ, hR.step (.refl _ _ _) hd hs hR.heap (by cases o.dst <;> rfl) (St.put_n _ _ _) (St.put_blk _ _ _), hI, by rw [St.put_nx]; exact hnx, (St.put_k _ _ _).trans hk, by rw [St.put_nx]; exact hkn⟩
  | new ti sz es cl ht hxe he hsz hss hb =>
    subst hsz
    obtain ⟨t, x1, e, d1, ht0, ht1, hd0, hd1, hi1, hti, hz, hzl, hb1, hb2⟩ := appTy_spec ht
    have hR1 := hR.heap.drew
    have hx1 := hx.mono (drew1_ext (φ := φ) w).ext (fun _ _ h => h) (PExt.refl φ)
    obtain ⟨hl, cv0, hf0, _, _⟩ := xel_spec (G := G) hR.heap hx hxe ti.sz (.inr rfl)
    obtain ⟨hl', cv, hf, hcs, hRF⟩ := xel_spec (G := G) hR1 hx1 hxe ti.sz (.inr rfl)
    generalize hse : a.eval s = sval at hs
    obtain ⟨base, rfl⟩ : ∃ base, sval = .slice base 0 0 := by
      rcases hss with ⟨nl, q⟩ | ⟨z, q⟩
      · rw [q] at hs; cases hs; exact ⟨_, rfl⟩
      · rw [q] at hs
        cases hs with
        | sl _ _ _ _ a n cap mem hn hc hnn hz ha h =>
          have h1 := hnn.1 rfl rfl
          have h2 : n = 0 := hn
          subst h1 h2
          exact ⟨_, rfl⟩
    have hpos : 0 < es.length := List.length_pos_iff.2 he
    obtain ⟨cc, rest, hrun, hcc, hrest⟩ := append_new (G := G) (w := w) (ty := o.type) (base := base) (sLen := 0) (sCap := 0) (old := #[]) ht0 hd0 hti hz hzl ht1 hd1 hi1 hl (by omega) (by simpa using hb) hb1 hb2
      (by cases base with
          | none => rfl
          | some q => simp [Builtin.firstCells, loadCells, loadCellsFrom, run_pure]) hf
    rw [exec_append ho (by rw [hse]; exact hrun)]
    simp only [Nat.zero_add] at hcc hrest ⊢
    have hRF2 : RF (drew1 w) M (if cl then noPm else φ) ti.sz es ((#[] : Array Value) ++ cv ++ rest) := by
      have := RF_append (c3 := rest) (show RF (drew1 w) M (if cl then noPm else φ) ti.sz [] #[] from ⟨⟨by simp, by simp⟩, by simp, by simp⟩) hRF (by simp)
      simpa using this
    obtain ⟨g1, g2⟩ := alloc_step hR1 (hnx S.nx (Nat.le_refl _)) ⟨true, cl, ti.sz, es⟩ rfl ((#[] : Array Value) ++ cv ++ rest) e hRF2.1.1 hRF2.2.1 hRF2.1.2 hRF2.2.2
    have hst := (drew1_ext (M := M) (φ := φ) w).trans g1
    have hsz' : cc * ti.sz ≤ ((#[] : Array Value) ++ cv ++ rest).size := by
      have e1 : es.length * ti.sz + (cc - es.length) * ti.sz = cc * ti.sz := by rw [← Nat.add_mul]; congr 1; omega
      simp only [Array.empty_append, Array.size_append, hcs, hrest]; omega
    refine hN _ _ ⟨_, _, hR.step hst hd ?_ g2 (by cases o.dst <;> rfl) (St.put_n _ _ _) ?_, hI.step hst (fun l hl => ?_), fun l hl => ?_, (St.put_k _ _ _).trans hk, ?_⟩
    · have := Rep.loc (w := pushB (drew1 w) (.cells ((#[] : Array Value) ++ cv ++ rest) e)) (M := orM M (drew1 w).heap.size) (updP φ S.nx ⟨(drew1 w).heap.size, 0, ti.sz⟩) S.nx ti.sz 0 es.length cc ⟨(drew1 w).heap.size, 0, ti.sz⟩ (by simp [updP]) rfl hcc
        ⟨_, e, (0, 0), pushB_new (drew1 w) _, by simpa using hsz'⟩
      simpa [drew1] using this
    · rw [St.put_blk]; funext l; show aget l (aset S.nx _ S.hp) = _; rw [aget_aset]; rfl
    · unfold updP at hl
      split at hl
      · rename_i e; right; omega
      · exact .inl hl
    · rw [St.put_nx] at hl
      have : S.nx + 1 ≤ l := hl
      unfold updP; rw [if_neg (by omega)]; exact hnx l (by omega)
    · rw [St.put_nx]; exact Nat.le_succ_of_le hkn
  | grow ti sz es cl l off len k ht hxe he hss hkb hw hlk hks hlen hb =>
    subst hss
    obtain ⟨t, x1, e, d1, ht0, ht1, hd0, hd1, hi1, hti, hz, hzl, hb1, hb2⟩ := appTy_spec ht
    generalize hse : a.eval s = sval at hs
    obtain ⟨bb, oo, cs, T, h1, h2, h3, h4, h5, h6⟩ := (hR.heap.ok l k hkb).out
    have hes0 : (if off = 0 then k.es else k.es.drop off) = k.es.drop off := by
      split
      · rename_i e; rw [e]; rfl
      · rfl
    rw [hes0] at hN
    let p : Nat → Bool := fun q => q != l
    have hpl : p l = false := by simp [p]
    have hRr := hR.res p
    have hIr := hI.res p (fun q hq => by simp [p]; omega)
    have hφl : resP p φ l = none := by unfold resP; rw [if_neg (by rw [hpl]; simp)]
    have hφne : ∀ q r, resP p φ q = some r → φ q = some r ∧ q ≠ l := fun q r hq => by
      unfold resP at hq
      split at hq
      · rename_i e; exact ⟨hq, by simpa [p] using e⟩
      · cases hq
    rw [hks] at h1 h3 h5
    have hs0 := hs
    cases hs with
    | loc _ _ _ _ _ cap pp hpp hzz hcap hshape =>
      rw [h1] at hpp; cases hpp
      obtain ⟨cs2, T2, fz2, hsh1, hsh2⟩ := hshape
      rw [h2] at hsh1; cases hsh1
      simp only at hsh2
      have hlt : bb < w.heap.size := hR.heap.lt l _ h1
      have hbw : c.w0.heap.size ≤ bb := by
        rcases hI.fresh l _ h1 with q | q
        · omega
        · exact q.2
      have hMb : M bb := h6.1 hw
      -- the old elements
      have hold : RF w M (if k.cl then noPm else φ) ti.sz (k.es.drop off) ⟨(List.range (len * ti.sz)).map fun q => cs.toList.getD (oo + off * ti.sz + q) undef⟩ := by
        have hll : (k.es.drop off).length = len := by simp; omega
        refine ⟨⟨by rw [hll]; simp, fun i j hi hj => ?_⟩, fun e he => by rw [← hks]; exact h4 e (List.mem_of_mem_drop he), fun i j hi hj => ?_⟩
        · rw [hll] at hi
          have hm := mul_le (sz := ti.sz) hi
          show notAgg (((List.range (len * ti.sz)).map fun q => cs.toList.getD (oo + off * ti.sz + q) undef).getD (i * ti.sz + j) undef) = true
          rw [getD_map_range _ _ _ (by omega)]
          have := h3.2 (off + i) j (by omega) hj
          have e2 : oo + off * ti.sz + (i * ti.sz + j) = oo + (off + i) * ti.sz + j := by rw [Nat.add_mul]; omega
          rw [e2]; exact this
        rw [hll] at hi
        have hm := mul_le (sz := ti.sz) hi
        show Rep w M _ _ (((List.range (len * ti.sz)).map fun q => cs.toList.getD (oo + off * ti.sz + q) undef).getD (i * ti.sz + j) undef)
        rw [getD_map_range _ _ _ (by omega)]
        have := h5 (off + i) j (by omega) hj
        have e1 : (k.es.drop off).getD i [] = k.es.getD (off + i) [] := by simp [List.getD_eq_getElem?_getD]
        have e2 : oo + off * ti.sz + (i * ti.sz + j) = oo + (off + i) * ti.sz + j := by rw [Nat.add_mul]; omega
        rw [e1, e2]; exact this
      have hll : (k.es.drop off).length = len := by simp; omega
      have hsH : (⟨(List.range (len * ti.sz)).map fun q => cs.toList.getD (oo + off * ti.sz + q) undef⟩ : Array Value).size = (k.es.drop off).length * ti.sz := by rw [hll]; simp
      have hren : ∀ q r j, φ q = some r → onlyR p q = some j → resP p φ j = some r := resP_ren p φ
      let kk : Blk := renB (onlyR p) ⟨true, k.cl && cl, ti.sz, k.es.drop off ++ es⟩
      have hkw : kk.wr = true := renB_wr _ _
      have hksz : kk.sz = ti.sz := renB_sz _ _
      have hkl : kk.es.length = len + es.length := by rw [renB_len, List.length_append, hll]
      by_cases hroom : len + es.length ≤ cap
      · -- there is room
        obtain ⟨hl, cv, hf, hcs, hRF⟩ := xel_spec (G := G) hR.heap hx hxe ti.sz he
        have hcapm : (off + (len + es.length)) * ti.sz ≤ (off + cap) * ti.sz := Nat.mul_le_mul_right _ (by omega)
        have hexp : (off + (len + es.length)) * ti.sz = off * ti.sz + len * ti.sz + es.length * ti.sz := by rw [Nat.add_mul, Nat.add_mul, ← Nat.add_assoc]
        have hnot : ∀ v ∈ cv.toList, notAgg v = true := by
          intro v hv
          obtain ⟨q, hq, rfl⟩ := List.mem_iff_getElem.1 hv
          rw [list_get _ _ hq]
          have hq' : q < es.length * ti.sz := by simp at hq; omega
          have h1 := hRF.1.2 (q / ti.sz) (q % ti.sz) ((Nat.div_lt_iff_lt_mul hz).2 hq') (Nat.mod_lt _ hz)
          rwa [Nat.mul_comm, Nat.div_add_mod] at h1
        have hst := run_storeCells (P := G.P) (b := bb) (o := oo + off * ti.sz + len * ti.sz) (T := T) cv.toList w cs 0 h2 (by simp only [Nat.add_zero, Array.length_toList, hcs]; omega) hnot
        rw [Nat.add_zero] at hst
        let cs' := wrA cs (oo + off * ti.sz + len * ti.sz) cv.toList
        have hw' : (if cv.toList = [] then w else setB w bb (.cells cs' T (0, 0))) = setB w bb (.cells cs' T (0, 0)) := by
          split
          · rename_i e
            have e1 : cs' = cs := by simp only [cs', e]; rfl
            rw [e1]
            unfold setB
            have : w.heap.setIfInBounds bb (.cells cs T (0, 0)) = w.heap := by
              apply Array.ext
              · simp
              · intro j h1 h2'
                rw [Array.getElem_setIfInBounds]
                split
                · rename_i e2; subst e2; rw [Array.getElem?_eq_getElem hlt] at h2; exact (Option.some.inj h2).symm
                · rfl
            rw [this]
          · rfl
        rw [hw'] at hst
        have hrun := append_old (G := G) (w := w) (w' := setB w bb (.cells cs' T (0, 0))) (ty := o.type) (base := some ⟨bb, oo + off * ti.sz, none⟩) (sLen := len) (sCap := cap) ht0 hd0 hti ht1 hd1 hi1 hl hroom hf
          (fun a ha => by cases ha; rw [addr_plain]; exact hst) (fun e => by cases e)
        rw [exec_append ho (by rw [hse]; exact hrun)]
        have hRFA := ((RF_append (c3 := #[]) (RF.up (b1 := k.cl && cl) (fun q => by simp at q; exact q.1) hold) (RF.up (b1 := k.cl && cl) (fun q => by simp at q; exact q.2) hRF) hsH).ren hren true)
        have hcell : ∀ i j, i < len + es.length → j < ti.sz → cs'.toList.getD (oo + off * ti.sz + i * ti.sz + j) undef = ((⟨(List.range (len * ti.sz)).map fun q => cs.toList.getD (oo + off * ti.sz + q) undef⟩ : Array Value) ++ cv ++ #[]).toList.getD (i * ti.sz + j) undef := fun i j hi hj => by
          have hm := mul_le (sz := ti.sz) hi
          have e0 : (len + es.length) * ti.sz = len * ti.sz + es.length * ti.sz := Nat.add_mul _ _ _
          have hg := wrA_get cv.toList cs (oo + off * ti.sz + len * ti.sz) (oo + off * ti.sz + i * ti.sz + j) (by simp only [Array.length_toList, hcs]; omega)
          rw [hg]
          simp only [Array.append_empty, Array.toList_append, Array.length_toList, hcs]
          by_cases hi1 : i * ti.sz + j < len * ti.sz
          · rw [if_neg (by omega)]
            simp only [List.getD_eq_getElem?_getD]
            rw [List.getElem?_append_left (by simpa using hi1)]
            have := getD_map_range (len * ti.sz) (fun q => cs.toList.getD (oo + off * ti.sz + q) undef) (i * ti.sz + j) hi1
            simp only [List.getD_eq_getElem?_getD] at this
            rw [this, Nat.add_assoc]
          · rw [if_pos (by omega)]
            simp only [List.getD_eq_getElem?_getD]
            rw [List.getElem?_append_right (by simp; omega)]
            congr 2
            simp; omega
        obtain ⟨g1, g2, g3⟩ := adopt_step hRr.heap hφl (b := bb) (o := oo + off * ti.sz) (cs' := cs') h2 hMb (wrA_size _ _ _) kk hkw
          (fun l' k' q hk' hq eb => by
            obtain ⟨q1, q2⟩ := hφne l' q hq
            have hkS : ∃ k0, S.blk l' = some k0 := by
              have := St.res_blk p S l'
              rw [hk'] at this
              split at this
              · cases h0 : S.blk l' with
                | none => rw [h0] at this; cases this
                | some k0 => exact ⟨k0, rfl⟩
              · cases this
            obtain ⟨k0, hk0⟩ := hkS
            exact q2 (hR.heap.inj l' l k0 k q _ hk0 hkb q1 h1 eb))
          (by rw [hkl, hksz]; have e0 : (len + es.length) * ti.sz = len * ti.sz + es.length * ti.sz := Nat.add_mul _ _ _
              omega)
          (fun e he' => by rw [hksz]; exact hRFA.2.1 e he')
          (fun i j hi hj => by rw [hkl] at hi; rw [hksz] at hj ⊢; rw [hcell i j hi hj]; exact hRFA.1.2 i j (by rw [renB_len]; simpa [hll] using hi) hj)
          (fun i j hi hj => by rw [hkl] at hi; rw [hksz] at hj ⊢; rw [hcell i j hi hj]; exact hRFA.2.2 i j (by rw [renB_len]; simpa [hll] using hi) hj)
        have hext' := updP_ext ⟨bb, oo + off * ti.sz, kk.sz⟩ hφl
        obtain ⟨s1, s2, s3⟩ := slots_put (S := S.grow l ⟨true, k.cl && cl, ti.sz, k.es.drop off ++ es⟩) (a := a) (dst := o.dst) hR.n hd (φ' := updP (resP p φ) l ⟨bb, oo + off * ti.sz, kk.sz⟩) (M' := M) (w' := setB w bb (.cells cs' T (0, 0)))
          (v := .loc l ti.sz 0 (len + es.length)) (x := .slice (some ⟨bb, oo + off * ti.sz, none⟩) (len + es.length) cap) (fun t => (hRr.slot t).mono g1 (fun _ _ h => h) hext') (by
            have := Rep.loc (w := setB w bb (.cells cs' T (0, 0))) (M := M) (updP (resP p φ) l ⟨bb, oo + off * ti.sz, kk.sz⟩) l ti.sz 0 (len + es.length) cap ⟨bb, oo + off * ti.sz, kk.sz⟩ (by simp [updP]) hksz hroom
              (g1.shape _ _ ⟨cs, T, (0, 0), h2, by simp only [Nat.zero_add]; rw [Nat.add_mul] at hsh2; omega⟩)
            simpa using this)
        refine hN _ _ ⟨M, updP (resP p φ) l ⟨bb, oo + off * ti.sz, kk.sz⟩, ⟨by rw [St.put_n]; exact s1, s2.trans hR.defers, s3, ?_⟩, ⟨?_, ?_, hI.m, ?_, ?_, hI.os, hI.tape, hI.out, hI.no, hI.yes⟩, ?_, (St.put_k _ _ _).trans hk, by rw [St.put_nx]; exact hkn⟩
        · have : ((S.grow l ⟨true, k.cl && cl, ti.sz, k.es.drop off ++ es⟩).put o.dst (.loc l ti.sz 0 (len + es.length))).blk = updH (S.res p).blk l kk := by
            rw [St.put_blk]; funext x; show aget x (aset l _ _) = _; rw [aget_aset]; rfl
          rw [this]; exact g2
        · exact ⟨Nat.le_trans hI.ext.size g1.size, fun b hb hM0 => (g3 b (by omega)).trans (hI.ext.same b hb hM0), fun b n q => g1.shape b n (hI.ext.shape b n q)⟩
        · intro b hb hf0; exact (g3 b (by omega)).trans (hI.frame b hb hf0)
        · intro q hq
          unfold updP; rw [if_neg (by omega)]
          exact hIr.lent q hq
        · intro q r hq
          unfold updP at hq
          split at hq
          · cases hq; right; exact ⟨by omega, hbw⟩
          · exact hIr.fresh q r hq
        · intro q hq
          rw [St.put_nx] at hq
          have hq' : S.nx ≤ q := hq
          unfold updP
          have hln : l < S.nx := by
            rcases Nat.lt_or_ge l S.nx with z | z
            · exact z
            · rw [hnx l z] at h1; cases h1
          rw [if_neg (by omega)]
          unfold resP; split
          · exact hnx q hq'
          · rfl
      · -- a new row
        have hR1 := hR.heap.drew
        have hx1 := hx.mono (drew1_ext (φ := φ) w).ext (fun _ _ h => h) (PExt.refl φ)
        obtain ⟨hl, cv0, hf0, _, _⟩ := xel_spec (G := G) hR.heap hx hxe ti.sz he
        obtain ⟨hl', cv, hf, hcs, hRF⟩ := xel_spec (G := G) hR1 hx1 hxe ti.sz he
        have hold1 : RF (drew1 w) M (if k.cl then noPm else φ) ti.sz (k.es.drop off) ⟨(List.range (len * ti.sz)).map fun q => cs.toList.getD (oo + off * ti.sz + q) undef⟩ :=
          ⟨hold.1, hold.2.1, fun i j hi hj => (hold.2.2 i j hi hj).mono (drew1_ext (φ := φ) w).ext (fun _ _ h => h) (.refl _)⟩
        have hexp : (off + len) * ti.sz = off * ti.sz + len * ti.sz := Nat.add_mul _ _ _
        have hle : (off + len) * ti.sz ≤ (off + cap) * ti.sz := Nat.mul_le_mul_right _ (by omega)
        have hfo : (Builtin.firstCells ti.sz len (.slice (some ⟨bb, oo + off * ti.sz, none⟩) len cap)).run G.P (drew1 w) = .ok ⟨(List.range (len * ti.sz)).map fun q => cs.toList.getD (oo + off * ti.sz + q) undef⟩ (drew1 w) := by
          show (loadCells ⟨bb, oo + off * ti.sz, none⟩ (len * ti.sz)).run G.P (drew1 w) = _
          have := run_loadCells (P := G.P) (w := drew1 w) (b := bb) (o := oo + off * ti.sz) (fun q => cs.toList.getD (oo + off * ti.sz + q) undef) (len * ti.sz) 0 #[] (fun q hq => by
            have hlt' : oo + off * ti.sz + q < cs.size := by omega
            have h2' : (drew1 w).heap[bb]? = some (.cells cs T (0, 0)) := h2
            simp only [World.cell?, h2', Option.isSome_none, Bool.false_eq_true, if_false, Nat.zero_add]
            exact arr_get _ _ hlt')
          simpa [loadCells] using this
        obtain ⟨cc, rest, hrun, hcc, hrest⟩ := append_new (G := G) (w := w) (ty := o.type) (base := some ⟨bb, oo + off * ti.sz, none⟩) (sLen := len) (sCap := cap) ht0 hd0 hti hz hzl ht1 hd1 hi1 hl (by omega) hb hb1 hb2 hfo hf
        rw [exec_append ho (by rw [hse]; exact hrun)]
        have hRFA := ((RF_append (c3 := rest) (RF.up (b1 := k.cl && cl) (fun q => by simp at q; exact q.1) hold1) (RF.up (b1 := k.cl && cl) (fun q => by simp at q; exact q.2) hRF) hsH).ren hren true)
        have hRr1 := hRr.heap.drew
        obtain ⟨g1, g2⟩ := alloc_step hRr1 hφl kk hkw ((⟨(List.range (len * ti.sz)).map fun q => cs.toList.getD (oo + off * ti.sz + q) undef⟩ : Array Value) ++ cv ++ rest) e
          (by rw [hksz]; exact hRFA.1.1) (fun e he' => by rw [hksz]; exact hRFA.2.1 e he') (fun i j hi hj => by rw [hksz] at hj ⊢; exact hRFA.1.2 i j hi hj) (fun i j hi hj => by rw [hksz] at hj ⊢; exact hRFA.2.2 i j hi hj)
        have hst := (drew1_ext (M := M) (φ := resP p φ) w).trans g1
        have hszz : cc * ti.sz ≤ ((⟨(List.range (len * ti.sz)).map fun q => cs.toList.getD (oo + off * ti.sz + q) undef⟩ : Array Value) ++ cv ++ rest).size := by
          have e1 : len * ti.sz + es.length * ti.sz + (cc - (len + es.length)) * ti.sz = cc * ti.sz := by rw [← Nat.add_mul, ← Nat.add_mul]; congr 1; omega
          simp only [Array.size_append, hcs, hrest]
          have : (⟨(List.range (len * ti.sz)).map fun q => cs.toList.getD (oo + off * ti.sz + q) undef⟩ : Array Value).size = len * ti.sz := by simp
          omega
        refine hN _ _ ⟨_, _, hRr.step (S' := (S.grow l ⟨true, k.cl && cl, ti.sz, k.es.drop off ++ es⟩).put o.dst (.loc l ti.sz 0 (len + es.length))) hst hd ?_ g2 (by cases o.dst <;> rfl) (by rw [St.put_n]; rfl) ?_, hIr.step hst (fun q hq => ?_), fun q hq => ?_, (St.put_k _ _ _).trans hk, by rw [St.put_nx]; exact hkn⟩
        · have := Rep.loc (w := pushB (drew1 w) (.cells ((⟨(List.range (len * ti.sz)).map fun q => cs.toList.getD (oo + off * ti.sz + q) undef⟩ : Array Value) ++ cv ++ rest) e)) (M := orM M (drew1 w).heap.size) (updP (resP p φ) l ⟨(drew1 w).heap.size, 0, kk.sz⟩) l ti.sz 0 (len + es.length) cc ⟨(drew1 w).heap.size, 0, kk.sz⟩ (by simp [updP]) hksz hcc
            ⟨_, e, (0, 0), pushB_new (drew1 w) _, by simpa using hszz⟩
          simpa [drew1] using this
        · rw [St.put_blk]; funext x; show aget x (aset l _ _) = _; rw [aget_aset]; rfl
        · unfold updP at hq
          split at hq
          · right; omega
          · exact .inl hq
        · rw [St.put_nx] at hq
          have hq' : S.nx ≤ q := hq
          have hln : l < S.nx := by
            rcases Nat.lt_or_ge l S.nx with z | z
            · exact z
            · rw [hnx l z] at h1; cases h1
          unfold updP
          rw [if_neg (by omega)]
          unfold resP; split
          · exact hnx q hq'
          · rfl

end Go.Aw

/- The evaluator over a function's code, and that a function's calls do what it says. -/
namespace Go.Aw
set_option linter.unusedVariables false
set_option linter.unusedSimpArgs false

variable {G : Env} {c : Ctx} {w w' : World} {M M' : Nat → Prop} {φ φ' : Pm} {S S' : St} {a : Act}

def gdst (ops : List Oper) (j : Nat) : Option Nat := (ops[j]?).bind (·.dst)

/-- What an operation comes to. -/
def aCall (G : Env) (f : AV) (args : List AV) (dst : Option Nat) (S : St) (K : St → Prop) : Prop :=
  match f with
  | .fn fid caps => dstOk S dst ∧ ∃ S' r, CallTo G fid (args ++ caps) S S' r ∧ K (S'.put dst r)
  | _ => False
def aApp (G : Env) (ts : Array TypeId) (s x : AV) (dst : Option Nat) (S : St) (K : St → Prop) : Prop :=
  dstOk S dst ∧ ∃ S' r, AppTo G ts s x S S' r ∧ K (S'.put dst r)
def aEv (S : St) (dst : Option Nat) (e : Option Out) (K : St → Prop) : Prop :=
  match e with
  | some out => dstOk S dst ∧ K (S.upd dst out)
  | none => False
def aOp (G : Env) (o : Oper) (S : St) (K : St → Prop) : Prop :=
  match o.op with
  | .call ⟨.value f, args, _⟩ => aCall G (S.eval f) (args.toList.map S.eval) o.dst S K
  | .call ⟨.builtin .append, args, ts⟩ => match args.toList with | [s, x] => aApp G ts (S.eval s) (S.eval x) o.dst S K | _ => False
  | op => aEv S o.dst (evOp G op S.eval S.blk S.nx) K
def aSkip (o : Oper) (S : St) (K : St → Prop) : Prop := dstOk S o.dst ∧ K (S.put o.dst (.s undef))
def aGuard (G : Env) (ops : List Oper) (o : Oper) (S : St) (K : St → Prop) : Prop :=
  match o.guard with
  | none => aOp G o S K
  | some (j, want) => match gdst ops j with
    | some t => match S.get t with
      | .s (.bool b) => (b = want → aOp G o S K) ∧ (b = !want → aSkip o S K)
      | .s (.tuple _) => aSkip o S K
      | _ => False
    | none => False
def aOps (G : Env) (ops : List Oper) : List Oper → St → (St → Prop) → Prop
  | [], S, K => K S
  | o :: r, S, K => aGuard G ops o S fun S' => aOps G ops r S' K

theorem aOp_sound {o : Oper} {K : St → Prop} {N : Act → World → Prop} {Q : Exit → Act → World → Prop} (h : Sim c S a w) (ha : aOp G o S K) (hN : ∀ S' a' w', Sim c S' a' w' → K S' → N a' w') : o.wp G.P a w N Q := by
  unfold aOp at ha
  split at ha
  · rename_i f args ts ho
    unfold aCall at ha
    split at ha
    · rename_i fid caps hf
      obtain ⟨hd, S', r, hc, hk⟩ := ha
      exact sim_call h ho hf hc hd fun a' w' hs => hN _ _ _ hs hk
    · exact ha.elim
  · rename_i args ts ho
    split at ha
    · rename_i s x he
      obtain ⟨hd, S', r, hc, hk⟩ := ha
      have hargs : args = #[s, x] := by apply Array.ext'; simp [he]
      exact sim_append h (by rw [ho, hargs]) hc hd fun a' w' hs => hN _ _ _ hs hk
    · exact ha.elim
  · unfold aEv at ha
    split at ha
    · rename_i out hev
      exact sim_op h hev ha.1 fun a' w' hs => hN _ _ _ hs ha.2
    · exact ha.elim

theorem Sim.skip (h : Sim c S a w) {dst : Option Nat} (hd : dstOk S dst) : Sim c (S.put dst (.s undef)) (a.put dst undef) w := by
  obtain ⟨M, φ, hR, hI, hnx, hk, hkn⟩ := h.out
  exact ⟨M, φ, hR.step (.refl _ _ _) hd (.s _ _) hR.heap (by cases dst <;> rfl) (St.put_n _ _ _) (St.put_blk _ _ _), hI, by rw [St.put_nx]; exact hnx, (St.put_k _ _ _).trans hk, by rw [St.put_nx]; exact hkn⟩

theorem wanted_of {ops : Array Oper} {o : Oper} {j : Nat} {want b : Bool} {t : Nat} (hg : o.guard = some (j, want)) (ht : gdst ops.toList j = some t) (h : Sim c S a w) (hs : S.get t = .s (.bool b)) : Region.wanted o (yielded ops a.tmps) = (b == want) := by
  obtain ⟨M, φ, hR, hI, hnx, hk, hkn⟩ := h.out
  have h1 := hR.slot t
  rw [hs] at h1
  generalize hv : a.tmps.getD t undef = v at h1
  cases h1
  have h2 : a.tmps[t]? = some (.bool b) := by
    cases hq : a.tmps[t]? with
    | none => simp [Array.getD_eq_getD_getElem?, hq, undef] at hv
    | some q => simp [Array.getD_eq_getD_getElem?, hq] at hv; rw [hv]
  have h3 : ((ops[j]?).bind (·.dst)) = some t := by simpa [gdst] using ht
  simp [Region.wanted, hg, yielded, h3, h2]
theorem wanted_tup {ops : Array Oper} {o : Oper} {j : Nat} {want : Bool} {t : Nat} {q : Array Value} (hg : o.guard = some (j, want)) (ht : gdst ops.toList j = some t) (h : Sim c S a w) (hs : S.get t = .s (.tuple q)) : Region.wanted o (yielded ops a.tmps) = false := by
  obtain ⟨M, φ, hR, hI, hnx, hk, hkn⟩ := h.out
  have h1 := hR.slot t
  rw [hs] at h1
  generalize hv : a.tmps.getD t undef = v at h1
  cases h1
  have h3 : ((ops[j]?).bind (·.dst)) = some t := by simpa [gdst] using ht
  cases hq : a.tmps[t]? with
  | none => simp [Region.wanted, hg, yielded, h3, hq]
  | some r =>
    simp [Array.getD_eq_getD_getElem?, hq] at hv
    subst hv
    simp [Region.wanted, hg, yielded, h3, hq]

theorem aOps_sound {ops : Array Oper} {Q : Exit → Act → World → Prop} {K : St → Prop} (hQ : ∀ S' a' w', Sim c S' a' w' → K S' → Q .normal a' w') : ∀ (rest : List Oper) (i : Nat), (∀ j, rest[j]? = ops[i + j]?) → i + rest.length = ops.size →
    ∀ S a w, Sim c S a w → aOps G ops.toList rest S K → wpOps G.P ops Q ((List.range rest.length).map (i + ·)) a w := by
  intro rest
  induction rest with
  | nil => intro i _ _ S a w h ha; exact hQ S a w h ha
  | cons o r ih =>
    intro i hr hl S a w h ha
    have ho : ops[i]? = some o := by have := hr 0; simpa using this.symm
    have hnext : ∀ S' a' w', Sim c S' a' w' → aOps G ops.toList r S' K → wpOps G.P ops Q ((List.range r.length).map (i + 1 + ·)) a' w' := fun S' a' w' hs hk =>
      ih (i + 1) (fun j => by have := hr (j + 1); simpa [Nat.add_assoc, Nat.add_comm 1 j] using this) (by simp at hl; omega) S' a' w' hs hk
    have hlist : (List.range (o :: r).length).map (i + ·) = i :: (List.range r.length).map (i + 1 + ·) := by
      simp only [List.length_cons, List.range_succ_eq_map, List.map_cons, List.map_map, Nat.add_zero]
      congr 1
      apply List.map_congr_left
      intro j _
      simp only [Function.comp]; omega
    rw [hlist, wpOps_cons]
    unfold wpOp
    rw [ho]
    simp only []
    simp only [aOps] at ha
    unfold aGuard at ha
    split at ha
    · rename_i hg
      have hw : Region.wanted o (yielded ops a.tmps) = true := by simp [Region.wanted, hg]
      rw [if_pos hw]
      exact .inl (aOp_sound h ha fun S' a' w' hs hk => hnext S' a' w' hs hk)
    · rename_i j want hg
      split at ha
      · rename_i t ht
        split at ha
        · rename_i b hb
          have hw := wanted_of hg ht h hb
          by_cases e : b = want
          · rw [if_pos (by rw [hw]; simpa using e)]
            exact .inl (aOp_sound h (ha.1 e) fun S' a' w' hs hk => hnext S' a' w' hs hk)
          · rw [if_neg (by rw [hw]; simpa using e)]
            obtain ⟨hd, hk⟩ := ha.2 (by cases b <;> cases want <;> simp_all)
            exact hnext _ _ _ (h.skip hd) hk
        · rename_i q hq
          rw [if_neg (by rw [wanted_tup hg ht h hq]; simp)]
          exact hnext _ _ _ (h.skip ha.1) ha.2
        · exact ha.elim
      · exact ha.elim

/-- Less is known. -/
def Weak (S S' : St) : Prop := ∀ c a w, Sim c S a w → Sim c S' a w
theorem Weak.refl (S : St) : Weak S S := fun _ _ _ h => h
theorem Weak.keep {S S' : St} (L : List Nat) (h : Weak (S.keep L) S') : Weak S S' := fun c a w hs => h c a w (hs.keep L)
theorem Weak.cut {S S' : St} (n : Nat) (hk : S.k ≤ n) (h : Weak (S.cut n) S') : Weak S S' := fun c a w hs => h c a w (hs.cut hk)
theorem Weak.frz {S S' : St} (F : List Nat) (hF : ∀ l ∈ F, S.k ≤ l) (h : Weak (S.frz F) S') : Weak S S' := fun c a w hs => h c a w (hs.frz F hF)

/-- A region whose order the machine draws comes to S', whatever the order. -/
def Drawn (G : Env) (ops : Array Oper) (S S' : St) : Prop :=
  ∀ (c : Ctx) (id : Nat) (Q : Exit → Act → World → Prop) (a : Act) (w : World), Sim c S a w → (∀ a' w', Sim c S' a' w' → Q .normal a' w') → (Code.region id ops true).wp G.P Q a w

def blkQ (id : Nat) (Q : Exit → St → Prop) : Exit → St → Prop
  | .exit id', S => if id' = id then Q .normal S else Q (.exit id') S
  | e, S => Q e S
def seqQ (N : St → Prop) (Q : Exit → St → Prop) : Exit → St → Prop
  | .normal, S => N S
  | e, S => Q e S
def aLoop (body : St → (Exit → St → Prop) → Prop) (S : St) (Q : Exit → St → Prop) : Prop :=
  ∃ (I : St → Prop) (μ : St → Nat), I S ∧ ∀ S, I S → body S (seqQ (fun S' => ∃ S'', Weak S' S'' ∧ I S'' ∧ μ S'' < μ S) Q)
def aCond (v : AV) (x y : Prop) : Prop :=
  match v with
  | .s (.bool b) => (b = true → x) ∧ (b = false → y)
  | _ => False

def aw (G : Env) : Code → St → (Exit → St → Prop) → Prop
  | .skip, S, Q => Q .normal S
  | .region _ ops false, S, Q => aOps G ops.toList ops.toList S (Q .normal)
  | .region _ ops true, S, Q => ∃ S', Drawn G ops S S' ∧ Q .normal S'
  | .seq x y, S, Q => aw G x S (seqQ (fun S' => aw G y S' Q) Q)
  | .cond v x y, S, Q => aCond (S.eval v) (aw G x S Q) (aw G y S Q)
  | .block id b, S, Q => aw G b S (blkQ id Q)
  | .loop b, S, Q => aLoop (aw G b) S Q
  | .exit id, S, Q => Q (.exit id) S
  | .ret, S, Q => Q .ret S
  | .label _, S, Q => Q .normal S
  | _, _, _ => False

/-- What the machine must come to for what the evaluator comes to. -/
def Up (c : Ctx) (Q : Exit → St → Prop) : Exit → Act → World → Prop := fun e a w => ∃ S, Sim c S a w ∧ Q e S

theorem aw_sound (code : Code) : ∀ (S : St) (Q : Exit → St → Prop) (a : Act) (w : World), Sim c S a w → aw G code S Q → code.wp G.P (Up c Q) a w := by
  induction code with
  | skip => intro S Q a w h ha; exact wp_skip ⟨S, h, ha⟩
  | region id ops d =>
    intro S Q a w h ha
    cases d with
    | false =>
      refine wp_region ?_
      have := aOps_sound (G := G) (Q := Up c Q) (K := Q .normal) (fun S' a' w' hs hk => ⟨S', hs, hk⟩) ops.toList 0 (fun j => by simp) (by simp) S a w h ha
      simpa using this
    | true =>
      obtain ⟨S', hd, hq⟩ := ha
      exact hd c id _ a w h fun a' w' hs => ⟨S', hs, hq⟩
  | seq x y ihx ihy =>
    intro S Q a w h ha
    refine wp_seq (wp_mono (ihx S _ a w h ha) ?_)
    rintro e a' w' ⟨S', hs, hq⟩
    cases e with
    | normal => exact ihy S' Q a' w' hs hq
    | _ => exact ⟨S', hs, hq⟩
  | cond v x y ihx ihy =>
    intro S Q a w h ha
    simp only [aw] at ha
    unfold aCond at ha
    split at ha
    · rename_i b hb
      obtain ⟨M, φ, hR, _⟩ := h.out
      have h1 := hR.eval v
      rw [hb] at h1
      generalize hv : a.eval v = u at h1
      cases h1
      exact wp_cond_split hv (fun e => ihx S Q a w h (ha.1 e)) (fun e => ihy S Q a w h (ha.2 e))
    · exact ha.elim
  | block id b ih =>
    intro S Q a w h ha
    refine wp_block (wp_mono (ih S _ a w h ha) ?_)
    rintro e a' w' ⟨S', hs, hq⟩
    cases e with
    | exit id' =>
      simp only [blkQ] at hq
      simp only [Exit.inBlock]
      split
      · rw [if_pos (by assumption)] at hq; exact ⟨S', hs, hq⟩
      · rw [if_neg (by assumption)] at hq; exact ⟨S', hs, hq⟩
    | _ => exact ⟨S', hs, hq⟩
  | loop b ih =>
    intro S Q a w h ha
    obtain ⟨I, μ, h0, hr⟩ := ha
    intro bb k cs
    have key : ∀ n S a w, μ S = n → I S → Sim c S a w → ∃ e a' w', Up c Q e a' w' ∧ Arrives G.P (lone (bb.at a (.code b :: .inLoop b :: k)) cs w) bb k cs e a' w' := by
      intro n
      induction n using Nat.strongRecOn with
      | _ n ihn =>
        intro S a w hn hI hs
        obtain ⟨e, a₁, w₁, hq, harr⟩ := ih S _ a w hs (hr S hI) bb (.inLoop b :: k) cs
        obtain ⟨S₁, hs₁, hq⟩ := hq
        cases e with
        | normal =>
          obtain ⟨S₂, hwk, hI₂, hlt⟩ := hq
          obtain ⟨e₂, a₂, w₂, hq₂, harr₂⟩ := ihn (μ S₂) (hn ▸ hlt) S₂ a₁ w₁ rfl hI₂ (hwk c a₁ w₁ hs₁)
          exact ⟨e₂, a₂, w₂, hq₂, .of_steps (Steps.trans harr (.one step_inLoop)) harr₂⟩
        | exit id => exact ⟨_, a₁, w₁, ⟨S₁, hs₁, hq⟩, .pass (x := .inLoop b) rfl (fun _ _ => .inl (by simp)) harr⟩
        | goto l => exact ⟨_, a₁, w₁, ⟨S₁, hs₁, hq⟩, .pass (x := .inLoop b) rfl (fun _ _ => .inl (by simp)) harr⟩
        | ret => exact ⟨_, a₁, w₁, ⟨S₁, hs₁, hq⟩, .pass (x := .inLoop b) rfl (fun _ _ => .inl (by simp)) harr⟩
        | panic ch => exact ⟨_, a₁, w₁, ⟨S₁, hs₁, hq⟩, .pass (x := .inLoop b) rfl (fun _ _ => .inl (by simp)) harr⟩
        | outgrown => exact ⟨_, a₁, w₁, ⟨S₁, hs₁, hq⟩, .pass (x := .inLoop b) rfl (fun _ _ => .inl (by simp)) harr⟩
    obtain ⟨e, a', w', hq, harr⟩ := key _ S a w rfl h0 h
    exact ⟨e, a', w', hq, .of_steps (.one step_loop) harr⟩
  | exit id => intro S Q a w h ha; exact wp_exit ⟨S, h, ha⟩
  | ret => intro S Q a w h ha; exact wp_ret ⟨S, h, ha⟩
  | label l => intro S Q a w h ha; exact wp_label ⟨S, h, ha⟩
  | _ => intros; contradiction

/-! ### A function -/
def initL : Nat → List AV → List (Nat × AV)
  | _, [] => []
  | i, v :: r => (i, v) :: initL (i + 1) r
def initH : Nat → List Blk → List (Nat × Blk)
  | _, [] => []
  | i, v :: r => (i, v) :: initH (i + 1) r
theorem aget_initL : ∀ (l : List AV) (i t : Nat), aget t (initL i l) = if i ≤ t then l[t - i]? else none := by
  intro l
  induction l with
  | nil => intro i t; simp [initL, aget]
  | cons v r ih =>
    intro i t
    simp only [initL, aget, ih]
    by_cases e : t = i
    · subst e; simp
    · rw [if_neg e]
      by_cases q : i ≤ t
      · rw [if_pos (by omega), if_pos q]
        have : t - i = (t - (i + 1)) + 1 := by omega
        rw [this, List.getElem?_cons_succ]
      · rw [if_neg (by omega), if_neg q]
theorem aget_initH : ∀ (l : List Blk) (i t : Nat), aget t (initH i l) = if i ≤ t then l[t - i]? else none := by
  intro l
  induction l with
  | nil => intro i t; simp [initH, aget]
  | cons v r ih =>
    intro i t
    simp only [initH, aget, ih]
    by_cases e : t = i
    · subst e; simp
    · rw [if_neg e]
      by_cases q : i ≤ t
      · rw [if_pos (by omega), if_pos q]
        have : t - i = (t - (i + 1)) + 1 := by omega
        rw [this, List.getElem?_cons_succ]
      · rw [if_neg (by omega), if_neg q]
def St.init (n : Nat) (args : List AV) (Hin : List Blk) : St := ⟨n, Hin.length, initL 0 args, initH 0 Hin, Hin.length⟩

def resV (G : Env) (S : St) : ResultVar → Option AV
  | .tmp t => some (S.get t)
  | .cell t ty => (evLoad G ty (S.get t) S.blk S.nx).map (·.v)
def resL (G : Env) (S : St) : List ResultVar → Option (List AV)
  | [] => some []
  | r :: rs => match resV G S r, resL G S rs with
    | some a, some b => some (a :: b)
    | _, _ => none
def oneV : List AV → AV
  | [v] => v
  | vs => .tup vs
def okOut (E : List Nat) : Okf := fun l _ => !E.contains l
/-- The function ends here, and tells r. -/
def Ret (G : Env) (fn : Func) (k : Nat) (r : AV) (Hout : List Blk) (e : Exit) (S : St) : Prop :=
  (e = .normal ∨ e = .ret) ∧ ∃ (E : List Nat) (n : Nat) (vs : List AV), resL G S fn.results.toList = some vs ∧ E.Nodup ∧ E.take k = List.range k ∧ k ≤ E.length ∧
    vw S.blk (okOut E) (idx · E) n (oneV vs) = some r ∧ lent S.blk (okOut E) (idx · E) n E = some Hout

def resF (a : Act) : ResultVar → Sem Value
  | .tmp t => pure (a.tmps.getD t undef)
  | .cell x t => do loadVar t (← asAddr (a.tmps.getD x undef))
theorem run_results {fn : Func} {vs : List AV} (h : Rel w M φ S a) (hv : resL G S fn.results.toList = some vs) : ∃ v, (results fn a.tmps).run G.P w = .ok v w ∧ Rep w M φ (oneV vs) v := by
  have key : ∀ (l : List ResultVar) (vs : List AV), resL G S l = some vs → ∃ vl, (l.mapM (resF a)).run G.P w = .ok vl w ∧ PW (Rep w M φ) vs vl := by
    intro l
    induction l with
    | nil => intro vs hv; simp only [resL, Option.some.injEq] at hv; subst hv; exact ⟨[], rfl, by simp, by simp⟩
    | cons r rs ih =>
      intro vs hv
      simp only [resL] at hv
      split at hv
      · rename_i x y hx hy
        simp only [Option.some.injEq] at hv
        subst hv
        obtain ⟨vl, h1, h2⟩ := ih y hy
        have : ∃ v, (resF a r).run G.P w = .ok v w ∧ Rep w M φ x v := by
          cases r with
          | tmp t => simp only [resV, Option.some.injEq] at hx; subst hx; exact ⟨_, rfl, h.slot t⟩
          | cell t ty =>
            simp only [resV, Option.map_eq_some_iff] at hx
            obtain ⟨out, ho, rfl⟩ := hx
            obtain ⟨_, val, h3, h8⟩ := run_load (nx := S.nx) ho (h.slot t) h.heap (fun _ _ => rfl)
            refine ⟨val, ?_, h8⟩
            simp only [resF]
            generalize a.tmps.getD t undef = av at h3 ⊢
            cases av with
            | pointer p =>
              cases p with
              | none => exact absurd h3 (by simp [Instr.loadAt, Instr.sureAddr, stuck, Sem.run, bind, Sem.bind])
              | some ad => exact h3
            | _ => exact absurd h3 (by simp [Instr.loadAt, Instr.sureAddr, stuck, Sem.run, bind, Sem.bind])
        obtain ⟨v, h3, h4⟩ := this
        refine ⟨v :: vl, ?_, h2.cons h4⟩
        rw [List.mapM_cons, run_bind, h3]; simp only []
        rw [run_bind, h1]; rfl
      · cases hv
  obtain ⟨vl, h1, h2⟩ := key _ _ hv
  have hres : results fn a.tmps = (do let vs ← fn.results.mapM (resF a); pure (if h : vs.size = 1 then vs[0] else .tuple vs)) := rfl
  rw [hres, run_bind, Array.mapM_eq_mapM_toList, run_bindm, h1]
  simp only [run_pure]
  refine ⟨_, rfl, ?_⟩
  have hl := h2.1
  match vs, vl, h2, hl with
  | [], [], _, _ => exact .tup _ _ _ rfl (by simp)
  | [x], [v], h2, _ => exact h2.head
  | x :: y :: r, v :: u :: s, h2, hl =>
    have : ¬ ((v :: u :: s).toArray.size = 1) := by simp
    rw [dif_neg this]
    exact .tup _ _ _ h2.1 h2.2

/-- What the evaluator says of a function's body holds of its calls. -/
theorem spec_of_wp {fid : FuncId} {fn : Func} {code : Code} (hf : G.P.funcs[fid]? = some fn) (hb : fn.body = some code) {args : List AV} {Hin : List Blk} {r : AV} {Hout : List Blk} (hlen : args.length ≤ fn.ntmps) {W : St → (Exit → St → Prop) → Prop}
    (hW : ∀ (c : Ctx) (S0 : St) (a : Act) (w : World), Sim c S0 a w → ∀ {Q : Exit → St → Prop}, W S0 Q → code.wp G.P (Up c Q) a w)
    (h : W (St.init fn.ntmps args Hin) (Ret G fn Hin.length r Hout)) : Spec G.P fid args Hin r Hout := by
  intro w M φ vl HR hφ hpw
  refine calls_of_wp hf hb ?_
  let c : Ctx := ⟨w, M, φ, Hin.length⟩
  have hbk : (St.init fn.ntmps args Hin).blk = fun l => Hin[l]? := by
    funext l
    show aget l (initH 0 Hin) = _
    rw [aget_initH]; simp
  have hsim : Sim c (St.init fn.ntmps args Hin) { tmps := (⟨vl⟩ : Array Value) ++ Array.replicate (fn.ntmps - (⟨vl⟩ : Array Value).size) undef, defers := [] } w := by
    have hl := hpw.1
    refine ⟨M, φ, ⟨?_, rfl, fun t => ?_, by rw [hbk]; exact HR⟩, ⟨.refl _ _, fun _ _ _ => rfl, fun _ _ => Iff.rfl, fun _ _ => rfl, fun l p hp => ?_, rfl, rfl, rfl, hφ, fun l hl' => ?_⟩, hφ, rfl, Nat.le_refl _⟩
    · simp [St.init]; omega
    · have hg : (St.init fn.ntmps args Hin).get t = args.getD t .bad := by
        show (aget t (initL 0 args)).getD .bad = _
        rw [aget_initL]; simp [List.getD_eq_getElem?_getD]
      rw [hg]
      by_cases q : t < args.length
      · have := hpw.2 t q
        have e : ((⟨vl⟩ : Array Value) ++ Array.replicate (fn.ntmps - (⟨vl⟩ : Array Value).size) undef).getD t undef = vl.getD t undef := by
          simp [Array.getD_eq_getD_getElem?, Array.getElem?_append, show t < vl.length by omega]
        rw [e]; exact this
      · have : args.getD t .bad = .bad := by simp [List.getD_eq_getElem?_getD, List.getElem?_eq_none (by omega : args.length ≤ t)]
        rw [this]; exact .bad _ _
    · rcases Nat.lt_or_ge l Hin.length with q | q
      · exact .inl ⟨q, hp⟩
      · rw [hφ l q] at hp; cases hp
    · obtain ⟨b, o, cs, T, h1, _⟩ := (HR.ok l Hin[l] (List.getElem?_eq_getElem hl')).out
      show φ l ≠ none
      rw [h1]; simp
  refine wp_mono (hW c _ _ _ hsim h) ?_
  rintro e a' w' ⟨S, hs, hret⟩
  obtain ⟨he, E, n, vs, hvs, hnd, htk, hkE, hvw, hln⟩ := hret
  obtain ⟨M', φ', hR, hI, hnx, hk, hkn⟩ := hs.out
  obtain ⟨v, hres, hrv⟩ := run_results hR hvs
  obtain ⟨hBl, hBg⟩ := lent_spec _ _ hln
  have hEk : ∀ l, l < Hin.length → E[l]? = some l := fun l hl => by
    have h1 : (E.take Hin.length)[l]? = some l := by rw [htk]; simp [hl]
    rwa [List.getElem?_take, if_pos hl] at h1
  let φr : Pm := fun j => (E[j]?).bind φ'
  let Mr : Nat → Prop := fun b => M' b ∧ (b < w.heap.size ∨ ∃ j p, φr j = some p ∧ p.b = b)
  have hlive : ∀ j l, E[j]? = some l → ∃ k b, S.blk l = some k ∧ Hout[j]? = some b ∧ vwB S.blk (okOut E) (idx · E) n k = some b := fun j l hj => by
    have hjl : j < E.length := by
      rcases Nat.lt_or_ge j E.length with q | q
      · exact q
      · rw [List.getElem?_eq_none q] at hj; cases hj
    obtain ⟨b, hb⟩ : ∃ b, Hout[j]? = some b := ⟨Hout[j]'(by omega), List.getElem?_eq_getElem (by omega)⟩
    obtain ⟨k, hk, hkb⟩ := hBg j l b hj hb
    exact ⟨k, b, hk, hb, hkb⟩
  have hσ : ∀ l p j, φ' l = some p → idx l E = some j → φr j = some p := fun l p j hp hj => by
    simp only [φr, idx_get hj, Option.bind_some, hp]
  -- blocks that stay behind are looked at as if nobody wrote them
  have F0 : ∀ l k p, S.blk l = some k → (∀ j, E[j]? ≠ some l) → φ' l = some p → ¬ Mr p.b := fun l k p hkl hne hp hM => by
    rcases hM.2 with q | ⟨j, p', hj, e⟩
    · rcases hI.fresh l p hp with z | z
      · exact hne l (hEk l z.1)
      · have : w.heap.size ≤ p.b := z.2
        omega
    · simp only [φr, Option.bind_eq_some_iff] at hj
      obtain ⟨l', hl', hp'⟩ := hj
      obtain ⟨k', _, hk', _⟩ := hlive j l' hl'
      have := hR.heap.inj l' l k' k p' p hk' hkl hp' hp e
      subst this
      exact hne j hl'
  have F : FzOk w' M' Mr φ' S.blk (okOut E) := ⟨hR.heap, fun _ _ q => q.1, fun l k p hkl hok hp => F0 l k p hkl (fun j hj => by
    have : E.contains l = true := by simpa using List.mem_of_getElem? hj
    simp only [okOut, this] at hok; cases hok) hp⟩
  have hm : ∀ l p, φ' l = some p → (∃ j, E[j]? = some l) → (Mr p.b ↔ M' p.b) := fun l p hp ⟨j, hj⟩ =>
    ⟨fun q => q.1, fun q => ⟨q, .inr ⟨j, p, by simp only [φr, hj, Option.bind_some, hp], rfl⟩⟩⟩
  have hEl : ∀ j l, E[j]? = some l → j < E.length := fun j l hj => by
    rcases Nat.lt_or_ge j E.length with q | q
    · exact q
    · rw [List.getElem?_eq_none q] at hj; cases hj
  have hpost : ∃ v, (results fn a'.tmps).run G.P w' = .ok v w' ∧ ∃ v0 M1 φ1, Ending.returned v = .returned v0 ∧ StepOk w M φ w' M1 φ1 ∧ HRel w' M1 φ1 (fun l => Hout[l]?) ∧ Rep w' M1 φ1 r v0 ∧ Hin.length ≤ Hout.length ∧ (∀ l, Hout.length ≤ l → φ1 l = none) := by
    refine ⟨v, hres, v, Mr, φr, rfl, ⟨hI.ext, fun l p hp => ?_, fun b hb => ⟨fun q => (hI.m b hb).1 q.1, fun q => ⟨(hI.m b hb).2 q, .inl hb⟩⟩, hI.frame, fun j p hp => ?_, hI.os, hI.tape, hI.out⟩, ⟨fun j b hb => ?_, fun j j' b b' p p' hb hb' hp hp' e => ?_, fun j p hp => ?_⟩, vw_rep F hrv F hvw hσ, by omega, fun l hl => ?_⟩
    · rcases Nat.lt_or_ge l Hin.length with q | q
      · simp only [φr, hEk l q, Option.bind_some]
        have h1 := hI.lent l q
        have h2 : c.φ0 l = some p := hp
        rw [h2] at h1; exact h1
      · rw [hφ l q] at hp; cases hp
    · simp only [φr, Option.bind_eq_some_iff] at hp
      obtain ⟨l, hl, hp⟩ := hp
      rcases hI.fresh l p hp with q | q
      · left
        have h1 := hEk l q.1
        have : j = l := (List.getElem?_inj (hEl j l hl) hnd).1 (hl.trans h1.symm)
        subst this; exact q.2
      · exact .inr q.2
    · have hjl : j < E.length := by
        rcases Nat.lt_or_ge j E.length with q | q
        · exact q
        · rw [List.getElem?_eq_none (by omega)] at hb; cases hb
      obtain ⟨k, b1, hk, hb1, hkb⟩ := hlive j E[j] (List.getElem?_eq_getElem hjl)
      have : b1 = b := by rw [hb1] at hb; exact Option.some.inj hb
      subst this
      exact vwB_ok F (hR.heap.ok _ _ hk) hkb (fun p hp => by simp only [φr, List.getElem?_eq_getElem hjl, Option.bind_some, hp]) hσ (fun p hp => hm _ p hp ⟨j, List.getElem?_eq_getElem hjl⟩)
    · simp only [φr, Option.bind_eq_some_iff] at hp hp'
      obtain ⟨l, hl, hp⟩ := hp
      obtain ⟨l', hl', hp'⟩ := hp'
      obtain ⟨k, _, hk, _⟩ := hlive j l hl
      obtain ⟨k', _, hk', _⟩ := hlive j' l' hl'
      have := hR.heap.inj l l' k k' p p' hk hk' hp hp' e
      subst this
      exact (List.getElem?_inj (hEl j l hl) hnd).1 (hl.trans hl'.symm)
    · simp only [φr, Option.bind_eq_some_iff] at hp
      obtain ⟨l, hl, hp⟩ := hp
      exact hR.heap.lt l p hp
    · simp only [φr]; rw [List.getElem?_eq_none (by omega)]; rfl
  rcases he with rfl | rfl
  · exact ⟨hR.defers, hpost⟩
  · exact ⟨hR.defers, hpost⟩

end Go.Aw
