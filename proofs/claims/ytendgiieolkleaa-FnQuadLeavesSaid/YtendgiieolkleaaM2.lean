/- The machine's operations do what the evaluator's do: values that are built, slices that are made and cut; all operations together. -/
import Derived.Laws.Sem
import Derived.Test.YtendgiieolkleaaM1

/- The machine's operations do what the evaluator's do: values that are built, slices that are made and cut; all operations together. -/
namespace Go.Aw
set_option linter.unusedVariables false
set_option linter.unusedSimpArgs false

variable {G : Env} {w : World} {M : Nat → Prop} {φ : Pm} {h : Hp}

theorem fold_wrL (l : List Value) : ∀ (cs : Array Value) (off k : Nat), (l.zipIdx k).foldl (fun cs (p : Value × Nat) => cs.setIfInBounds (off + p.2) p.1) cs = wrA cs (off + k) l := by
  induction l with
  | nil => intro cs off k; rfl
  | cons v r ih => intro cs off k; simp only [List.zipIdx_cons, List.foldl_cons, wrA]; rw [ih]; rfl
theorem fold_wr (vs : Array Value) (cs : Array Value) (off : Nat) : vs.zipIdx.foldl (fun cs (c, j) => cs.setIfInBounds (off + j) c) cs = wrA cs off vs.toList := by
  have := fold_wrL vs.toList cs off 0
  rw [← Array.foldl_toList, Array.toList_zipIdx]
  exact this

def RL (w : World) (M : Nat → Prop) (φ : Pm) (cs : List AV) (vl : List Value) : Prop := vl.length = cs.length ∧ ∀ i, i < cs.length → Rep w M φ (cs.getD i .bad) (vl.getD i undef)
def RPs (w : World) (M : Nat → Prop) (φ : Pm) : List (Nat × AV) → List (Nat × Value) → Prop
  | [], [] => True
  | (i, a) :: r, (j, b) :: s => i = j ∧ Rep w M φ a b ∧ RPs w M φ r s
  | _, _ => False

theorem spl_RL {cells cs : List AV} {cv : Array Value} {vs : List Value} {off size : Nat} (h1 : RL w M φ cells cv.toList) (h2 : RL w M φ cs vs) (hs : cs.length = size) (ho : off + size ≤ cells.length) :
    RL w M φ (cells.take off ++ cs ++ cells.drop (off + size)) (wrA cv off vs).toList := by
  have hcv : cv.size = cells.length := by have := h1.1; simpa using this
  have hvs : vs.length = size := by rw [h2.1, hs]
  refine ⟨by simp [wrA_size, hcv]; omega, fun i hi => ?_⟩
  rw [wrA_get vs cv off i (by omega)]
  simp only [List.getD_eq_getElem?_getD]
  by_cases a : i < off
  · rw [if_neg (by omega), List.append_assoc, List.getElem?_append_left (by simp; omega), List.getElem?_take, if_pos a]
    have := h1.2 i (by omega)
    simpa [List.getD_eq_getElem?_getD] using this
  · by_cases b : i < off + size
    · rw [if_pos (by omega), List.append_assoc, List.getElem?_append_right (by simp; omega), List.getElem?_append_left (by simp; omega)]
      have hl : (cells.take off).length = off := by simp; omega
      rw [hl]
      have := h2.2 (i - off) (by omega)
      simpa [List.getD_eq_getElem?_getD] using this
    · rw [if_neg (by omega), List.getElem?_append_right (by simp; omega), List.getElem?_drop]
      have hl : off + size + (i - (cells.take off ++ cs).length) = i := by simp; omega
      rw [hl]
      have hi' : i < cells.length := by simp at hi; omega
      have := h1.2 i hi'
      simpa [List.getD_eq_getElem?_getD] using this

theorem run_fillA (flds : List (Nat × Nat)) (place : Nat → Option (Nat × Nat)) (hp : ∀ i x, flds[i]? = some x → place i = some x) : ∀ (parts : List (Nat × AV)) (vparts : List (Nat × Value)) (cells cells' : List AV) (cv : Array Value),
    fillA flds cells parts = some cells' → RPs w M φ parts vparts → RL w M φ cells cv.toList → ∃ cv', Instr.fill place cv vparts = some cv' ∧ RL w M φ cells' cv'.toList := by
  intro parts
  induction parts with
  | nil =>
    intro vparts cells cells' cv hf hr hc
    cases vparts with
    | nil => simp only [fillA, Option.some.injEq] at hf; subst hf; exact ⟨cv, rfl, hc⟩
    | cons => exact hr.elim
  | cons p r ih =>
    intro vparts cells cells' cv hf hr hc
    obtain ⟨i, a⟩ := p
    cases vparts with
    | nil => exact hr.elim
    | cons q s =>
      obtain ⟨j, b⟩ := q
      obtain ⟨rfl, hab, hrs⟩ := hr
      simp only [fillA] at hf
      split at hf
      · rename_i off size cs he hcs
        split at hf
        · rename_i hcc
          obtain ⟨hb1, hb2⟩ := rep_cells hab hcs
          have hcl : cv.size = cells.length := by have := hc.1; simpa using this
          have hbs : b.cells.size = cs.length := by simpa using hb1
          obtain ⟨cv', e1, e2⟩ := ih s _ cells' (wrA cv off b.cells.toList) hf hrs (spl_RL hc ⟨hb1, hb2⟩ hcc.1 hcc.2.1)
          refine ⟨cv', ?_, e2⟩
          simp only [Instr.fill, hp _ _ he]
          rw [if_neg (by simp [hbs, hcc.1, hcl]; omega), fold_wr]
          exact e1
        · cases hf
      · cases hf

theorem RPs_of {ρ : Operand → AV} {ρ' : Operand → Value} (l : List (Nat × Operand)) (hr : ∀ x ∈ l.map (·.2), Rep w M φ (ρ x) (ρ' x)) : RPs w M φ (l.map fun p => (p.1, ρ p.2)) (l.map fun p => (p.1, ρ' p.2)) := by
  induction l with
  | nil => trivial
  | cons p r ih => exact ⟨rfl, hr _ (by simp), ih fun x hx => hr x (by simp at hx ⊢; exact .inr hx)⟩

theorem zero_RL (ti : TI) (z : Value) (hz : z.cells.toList = ti.zero) : RL w M φ (ti.zero.map zAV) z.cells.toList := by
  rw [hz]
  exact ⟨by simp, fun i hi => by simp only [List.length_map] at hi; rw [getD_map_zAV _ _ hi]; exact (rep_zAV _).up⟩

theorem run_places {P : Program} (l : List Field) (hl : ∀ f ∈ l, (P.info? f.type).isSome = true) :
    (l.mapM (fun f => do pure (f.offset, ← sizeOf f.type)) : Sem (List (Nat × Nat))).run P w = .ok (l.map fun f => (f.offset, ((P.info? f.type).map (·.size)).getD 0)) w := by
  induction l with
  | nil => rfl
  | cons f r ih =>
    rw [List.mapM_cons, run_bind, run_bind]
    obtain ⟨j, hj⟩ := Option.isSome_iff_exists.1 (hl f (by simp))
    have : (sizeOf f.type).run P w = .ok j.size w := by simp [sizeOf, typeInfo, program, Sem.run, bind, Sem.bind, pure, hj]
    rw [this]; simp only [run_pure]
    rw [run_bind, ih fun f hf => hl f (by simp [hf])]
    simp [run_pure, hj]
theorem run_bindm {P : Program} {α β : Type} (f : α → β) (s : Sem α) : (f <$> s).run P w = match s.run P w with | .ok a w' => .ok (f a) w' | .halt h w' => .halt h w' := by
  show (s >>= fun a => pure (f a)).run P w = _
  rw [run_bind]; rfl
theorem ran_build {t : TypeId} {ps : Array (Nat × Operand)} {ρ : Operand → AV} {ρ' : Operand → Value} {nx : Nat} {out : Out} (hev : evBuild G t (ps.toList.map fun p => (p.1, ρ p.2)) nx = some out)
    (hr : ∀ x ∈ ps.toList.map (·.2), Rep w M φ (ρ x) (ρ' x)) (HR : HRel w M φ h) : Ran G.P (Instr.build t (ps.map fun (i, x) => (i, ρ' x))) w M φ h out.v out.ins := by
  unfold evBuild at hev
  split at hev
  · rename_i ti ht
    split at hev
    · rename_i hk
      split at hev
      · rename_i hc
        split at hev
        · rename_i cs hf
          cases hev
          obtain ⟨z, hz, hzl⟩ := tinfo_zero (w := w) ht hc.1 hc.2
          obtain ⟨fs, hd, hfs, hfl⟩ := fld_spec ht hk
          have hpl : (fs.mapM (fun f => do pure (f.offset, ← sizeOf f.type)) : Sem (Array (Nat × Nat))).run G.P w = .ok ⟨ti.flds⟩ w := by
            rw [Array.mapM_eq_mapM_toList, run_bindm, run_places fs.toList hfs, hfl]
          obtain ⟨cv', e1, e2⟩ := run_fillA ti.flds (fun i => (⟨ti.flds⟩ : Array (Nat × Nat))[i]?) (fun i x hx => by simpa using hx) _ _ _ _ z.cells hf (RPs_of (w := w) (M := M) (φ := φ) (ρ := ρ) (ρ' := ρ') ps.toList hr) (zero_RL ti z hzl)
          refine .same HR (val := .agg cv') ?_ ?_
          · unfold Instr.build
            rw [run_bind, hz]; simp only []
            rw [run_bind, run_underlying hd]; simp only []
            rw [run_bind, hpl]; simp only []
            have : (ps.map fun (x : Nat × Operand) => (x.1, ρ' x.2)).toList = ps.toList.map fun p => (p.1, ρ' p.2) := by simp
            rw [this, e1]; rfl
          · exact .agg _ _ cv'.toList e2.1 e2.2
        · cases hev
      · cases hev
    · cases hev
  · cases hev

end Go.Aw
