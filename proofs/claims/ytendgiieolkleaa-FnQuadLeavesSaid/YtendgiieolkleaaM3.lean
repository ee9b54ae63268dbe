/- Slices that are made, built and cut; all operations that call nothing together. Slices that are cut; every operation that calls nothing does what the evaluator says. Every operation of the evaluator that calls nothing is what the machine does. Numbers of blocks are renamed; values are looked at as if nobody wrote them. What is proved of a function's calls ('Spec'), and what a call does to the caller's blocks. Calls whose answer holds numbers alone; append. The evaluated frame against the machine's frame; what keeps it so. -/
import Derived.IntWalk
import Derived.Test.YtendgiieolkleaaM2

/- Slices that are made, built and cut; all operations that call nothing together. -/
namespace Go.Aw
set_option linter.unusedVariables false
set_option linter.unusedSimpArgs false

variable {G : Env} {w : World} {M : Nat → Prop} {φ : Pm} {h : Hp}

def RF (w : World) (M : Nat → Prop) (φ : Pm) (sz : Nat) (es : List (List AV)) (cv : Array Value) : Prop :=
  (es.length * sz ≤ cv.size ∧ ∀ i j, i < es.length → j < sz → notAgg (cv.toList.getD (i * sz + j) undef) = true) ∧ (∀ e ∈ es, e.length = sz) ∧ ∀ i j, i < es.length → j < sz → Rep w M φ ((es.getD i []).getD j .bad) (cv.toList.getD (i * sz + j) undef)

theorem mul_le {i n sz : Nat} (h : i < n) : i * sz + sz ≤ n * sz := by
  have := Nat.mul_le_mul_right sz (show i + 1 ≤ n by omega)
  rw [Nat.add_mul, Nat.one_mul] at this; exact this
theorem slot_apart {i i' j j' sz : Nat} (h : i ≠ i') (hj : j < sz) (hj' : j' < sz) : i * sz + j ≠ i' * sz + j' := by
  rcases Nat.lt_or_gt_of_ne h with a | a
  · have := mul_le (sz := sz) a; omega
  · have := mul_le (sz := sz) a; omega

theorem run_fillS (sz : Nat) : ∀ (parts : List (Nat × AV)) (vparts : List (Nat × Value)) (es es' : List (List AV)) (cv : Array Value),
    fillS sz es parts = some es' → RPs w M φ parts vparts → RF w M φ sz es cv → ∃ cv', Instr.fill (fun i => some (i * sz, sz)) cv vparts = some cv' ∧ RF w M φ sz es' cv' ∧ es'.length = es.length := by
  intro parts
  induction parts with
  | nil =>
    intro vparts es es' cv hf hr hc
    cases vparts with
    | nil => simp only [fillS, Option.some.injEq] at hf; subst hf; exact ⟨cv, rfl, hc, rfl⟩
    | cons => exact hr.elim
  | cons p r ih =>
    intro vparts es es' cv hf hr hc
    obtain ⟨i, a⟩ := p
    cases vparts with
    | nil => exact hr.elim
    | cons q s =>
      obtain ⟨j, b⟩ := q
      obtain ⟨rfl, hab, hrs⟩ := hr
      simp only [fillS] at hf
      split at hf
      · rename_i cs hcs
        split at hf
        · rename_i hcc
          obtain ⟨hb1, hb2⟩ := rep_cells hab hcs
          obtain ⟨hl, hu, hcon⟩ := hc
          have hbs : b.cells.size = sz := by rw [← hcc.1, ← hb1]; simp
          have hb1' : b.cells.toList.length = sz := by simpa using hbs
          have hm := mul_le (sz := sz) hcc.2.1
          have hRF : RF w M φ sz (es.set i cs) (wrA cv (i * sz) b.cells.toList) := by
            have hbn : ∀ j, j < sz → notAgg (b.cells.toList.getD j undef) = true := fun j hj =>
              (hb2 j (by omega)).notAgg (List.all_eq_true.1 hcc.2.2 _ (getD_mem _ (by omega)))
            refine ⟨⟨by simpa [wrA_size] using hl.1, fun i' j hi' hj => ?_⟩, fun e he => ?_, fun i' j hi' hj => ?_⟩
            · simp only [List.length_set] at hi'
              have hg := wrA_get b.cells.toList cv (i * sz) (i' * sz + j) (by omega)
              rw [hg]
              split
              · exact hbn _ (by omega)
              · exact hl.2 i' j hi' hj
            · rcases List.mem_or_eq_of_mem_set he with he | he
              · exact hu e he
              · rw [he]; exact hcc.1
            · simp only [List.length_set] at hi'
              have hm' := mul_le (sz := sz) hi'
              have hg := wrA_get b.cells.toList cv (i * sz) (i' * sz + j) (by omega)
              by_cases e : i' = i
              · subst e
                rw [if_pos (by omega)] at hg
                rw [hg, show i' * sz + j - i' * sz = j by omega]
                have : (es.set i' cs).getD i' [] = cs := by simp [List.getD_eq_getElem?_getD, hi']
                rw [this]
                exact hb2 j (by omega)
              · have : (es.set i cs).getD i' [] = es.getD i' [] := by simp [List.getD_eq_getElem?_getD, List.getElem?_set, Ne.symm e]
                rw [this]
                have hne : ¬ (i * sz ≤ i' * sz + j ∧ i' * sz + j < i * sz + b.cells.toList.length) := by
                  rcases Nat.lt_or_gt_of_ne e with a | a
                  · have := mul_le (sz := sz) a; omega
                  · have := mul_le (sz := sz) a; omega
                rw [if_neg hne] at hg
                rw [hg]; exact hcon i' j hi' hj
          obtain ⟨cv', e1, e2, e3⟩ := ih s _ es' (wrA cv (i * sz) b.cells.toList) hf hrs hRF
          refine ⟨cv', ?_, e2, by simpa using e3⟩
          simp only [Instr.fill]
          rw [if_neg (by simp [hbs]; omega), fold_wr]
          exact e1
        · cases hf
      · cases hf

theorem zeros_RF (zl : List Value) (n c sz : Nat) (hna : zl.all notAgg = true) (hz : zl.length = sz) (hpos : 0 < sz) (hnc : n ≤ c) : RF w M φ sz (List.replicate n (zl.map zAV)) ((Array.range (c * sz)).map (fun i => (⟨zl⟩ : Array Value)[i % (⟨zl⟩ : Array Value).size]!)) := by
  have hget : ∀ i j, i < n → j < sz → ((Array.range (c * sz)).map (fun i => (⟨zl⟩ : Array Value)[i % (⟨zl⟩ : Array Value).size]!)).toList.getD (i * sz + j) undef = zl.getD j undef := fun i j hi hj => by
    have hm := mul_le (sz := sz) (show i < c by omega)
    simp [List.getD_eq_getElem?_getD, show i * sz + j < c * sz by omega, hz, Nat.mod_eq_of_lt hj, Nat.add_mod]
    simp [getElem!_def, show j < zl.length by omega]
  refine ⟨⟨?_, fun i j hi hj => ?_⟩, fun e he => ?_, fun i j hi hj => ?_⟩
  · simp; exact Nat.mul_le_mul_right _ hnc
  · simp only [List.length_replicate] at hi
    rw [hget i j hi hj]; exact List.all_eq_true.1 hna _ (getD_mem _ (by omega))
  · rw [List.eq_of_mem_replicate he]; simp [hz]
  · simp only [List.length_replicate] at hi
    have hm := mul_le (sz := sz) (show i < c by omega)
    have : ((Array.range (c * sz)).map (fun i => (⟨zl⟩ : Array Value)[i % (⟨zl⟩ : Array Value).size]!)).toList.getD (i * sz + j) undef = zl.getD j undef := by
      simp [List.getD_eq_getElem?_getD, show i * sz + j < c * sz by omega, hz, Nat.mod_eq_of_lt hj, Nat.add_mod]
      simp [getElem!_def, show j < zl.length by omega]
    rw [this]
    have h2 : (List.replicate n (zl.map zAV)).getD i [] = zl.map zAV := by simp [List.getD_eq_getElem?_getD, hi]
    rw [h2, getD_map_zAV _ _ (by omega)]
    exact (rep_zAV _).up

/-- A new row. -/
theorem ran_newRow (HR : HRel w M φ h) {nx : Nat} (hn : φ nx = none) {s : Sem Value} {t : TypeId} (cl : Bool) (sz n c : Nat) (es : List (List AV)) (cv : Array Value) (hnn : n = es.length) (hc : n ≤ c) (hcs : c * sz ≤ cv.size)
    (hr : RF w M (if cl then noPm else φ) sz es cv)
    (hs : s.run G.P w = .ok (.slice (some ⟨w.heap.size, 0, none⟩) n c) (pushB w (.cells cv t))) : Ran G.P s w M φ h (.loc nx sz 0 n) [(nx, ⟨true, cl, sz, es⟩)] := by
  obtain ⟨h1, h2⟩ := alloc_step HR hn ⟨true, cl, sz, es⟩ rfl cv t hr.1.1 hr.2.1 hr.1.2 hr.2.2
  refine ⟨_, _, _, _, hs, h1, h2, ?_, dom_upd⟩
  have := Rep.loc (w := pushB w (.cells cv t)) (M := orM M w.heap.size) (updP φ nx ⟨w.heap.size, 0, sz⟩) nx sz 0 n c ⟨w.heap.size, 0, sz⟩ (by simp [updP]) rfl hc
    ⟨cv, t, (0, 0), pushB_new w _, by simpa using hcs⟩
  simpa using this

theorem RF_cl {sz : Nat} {es : List (List AV)} {cv : Array Value} (hr : RF w M φ sz es cv) (hc : es.all allCl = true) : RF w M noPm sz es cv :=
  ⟨hr.1, hr.2.1, fun i j hi hj => (hr.2.2 i j hi hj).toNo (by
    have h1 := List.all_eq_true.1 hc _ (getD_mem [] hi)
    have hl : (es.getD i []).length = sz := hr.2.1 _ (getD_mem _ hi)
    exact List.all_eq_true.1 h1 _ (getD_mem _ (by omega)))⟩

theorem ran_buildSlice {t : TypeId} {n : Nat} {ps : Array (Nat × Operand)} {ρ : Operand → AV} {ρ' : Operand → Value} {nx : Nat} {out : Out} (hev : evBuildSlice G t n (ps.toList.map fun p => (p.1, ρ p.2)) nx = some out)
    (hr : ∀ x ∈ ps.toList.map (·.2), Rep w M φ (ρ x) (ρ' x)) (HR : HRel w M φ h) (hn : ∀ l k, (l, k) ∈ out.ins → l ∉ out.rd → φ l = none) : Ran G.P (Instr.buildSlice t n (ps.map fun (i, x) => (i, ρ' x))) w M φ h out.v out.ins := by
  unfold evBuildSlice at hev
  split at hev
  · rename_i e hk
    split at hev
    · rename_i ti ht
      split at hev
      · rename_i hc
        split at hev
        · rename_i es hf
          cases hev
          obtain ⟨d, hd, hk⟩ := tkOf_spec hk
          have := tk_slice hk
          subst this
          obtain ⟨z, hz, hzl⟩ := tinfo_zero (w := w) ht hc.1 hc.2.1
          have hzc : z.cells = ⟨ti.zero⟩ := by rw [← hzl]
          obtain ⟨cv', e1, e2, e3⟩ := run_fillS ti.sz _ _ _ es _ hf (RPs_of (w := w) (M := M) (φ := φ) (ρ := ρ) (ρ' := ρ') ps.toList hr) (zeros_RF ti.zero n n ti.sz hc.2.2.2 hc.2.1 hc.1 (Nat.le_refl _))
          simp only [List.length_replicate] at e3
          refine ran_newRow HR (hn nx _ (List.mem_singleton.2 rfl) (by simp)) (es.all allCl) ti.sz n n es cv' (by omega) (Nat.le_refl _) (by rw [← e3]; exact e2.1.1) ?_ (t := e) ?_
          · split
            · exact RF_cl e2 ‹_›
            · exact e2
          · unfold Instr.buildSlice
            rw [run_bind, run_underlying hd]; simp only []
            rw [run_bind, run_sizeOf ht]; simp only []
            rw [if_neg (by omega)]
            have hpl : (ps.map fun (x : Nat × Operand) => (x.1, ρ' x.2)).toList = ps.toList.map fun p => (p.1, ρ' p.2) := by simp
            have hnew : ∀ (cc : Array Value), (newRow e cc).run G.P w = .ok ⟨w.heap.size, 0, none⟩ (pushB w (.cells cc e)) := fun cc => by
              simp [newRow, newObj, Sem.run, bind, Sem.bind, pure, pushB]
            by_cases h0 : n * ti.sz = 0
            · have hn0 : n = 0 := by
                rcases Nat.mul_eq_zero.1 h0 with q | q
                · exact q
                · omega
              subst hn0
              simp only [Nat.zero_mul, if_true] at e1 ⊢
              rw [run_bind, run_pure]; simp only []
              have hemp : (Array.map (fun x => (#[] : Array Value)[x % (#[] : Array Value).size]!) (Array.range 0)) = (Array.map (fun i => (⟨ti.zero⟩ : Array Value)[i % (⟨ti.zero⟩ : Array Value).size]!) (Array.range 0)) := by simp
              rw [hemp, hpl, e1]; simp only []
              rw [run_bind, hnew]; rfl
            · rw [if_neg h0, run_bind, hz]; simp only []
              rw [run_bind, run_pure]; simp only []
              rw [hzc, hpl, e1]; simp only []
              rw [run_bind, hnew]; rfl
        · cases hev
      · cases hev
    · cases hev
  · cases hev

theorem ran_makeSlice {t : TypeId} {x y : AV} {a b : Value} {nx : Nat} {out : Out} (hev : evMakeSlice G t x y nx = some out) (hx : Rep w M φ x a) (hy : Rep w M φ y b) (HR : HRel w M φ h)
    (hn : ∀ l k, (l, k) ∈ out.ins → l ∉ out.rd → φ l = none) : Ran G.P (Instr.makeSlice t a b) w M φ h out.v out.ins := by
  unfold evMakeSlice at hev
  split at hev
  · rename_i e k1 l k2 c hk
    split at hev
    · rename_i ti ht
      split at hev
      · rename_i hc
        cases hev; cases hx; cases hy
        obtain ⟨h1, h2, h3, h4, h5, h6, h7⟩ := hc
        obtain ⟨d, hd, hk⟩ := tkOf_spec hk
        have := tk_slice hk
        subst this
        obtain ⟨z, hz, hzl⟩ := tinfo_zero (w := w) ht h5 h6
        have hzc : z.cells = ⟨ti.zero⟩ := by rw [← hzl]
        have hcb : c ≤ c * ti.by_ := by
          have := Int.mul_le_mul_of_nonneg_left (show (1 : Int) ≤ ti.by_ by omega) (show 0 ≤ c by omega)
          simpa using this
        have hlb : l * ti.by_ ≤ c * ti.by_ := Int.mul_le_mul_of_nonneg_right h2 (by omega)
        have hwl : IntKind.i64.wrap l = l := by rw [IntKind.wrap_i64]; omega
        have hwc : IntKind.i64.wrap c = c := by rw [IntKind.wrap_i64]; omega
        obtain ⟨j, d', hj, hd', ha, hkk, hs, hb, hzr, _⟩ := tinfo_spec ht
        have hti : (typeInfo e).run G.P w = .ok j w := by simp [typeInfo, program, Sem.run, bind, Sem.bind, pure, hj]
        refine ran_newRow HR (hn nx _ (List.mem_singleton.2 rfl) (by simp)) true ti.sz l.toNat c.toNat (List.replicate l.toNat (ti.zero.map zAV)) ((Array.range (c.toNat * ti.sz)).map (fun i => (⟨ti.zero⟩ : Array Value)[i % (⟨ti.zero⟩ : Array Value).size]!))
          (by simp) (by omega) (by simp) (zeros_RF ti.zero l.toNat c.toNat ti.sz h7 h6 h5 (by omega)) (t := e) ?_
        unfold Instr.makeSlice asInt asIntOf
        rw [run_bind, run_underlying hd]; simp only []
        rw [run_bind, run_bind, run_pure]; simp only [run_pure]
        rw [run_bind, run_bind, run_pure]; simp only [run_pure]
        rw [run_bind, hti]; simp only [hwl, hwc]
        have hb2 : (j.bytes : Int) * c = c * ti.by_ := by rw [hb, Int.mul_comm]
        have hcond : ((decide (c < 0) || decide ((j.bytes : Int) * c > 2 ^ 48)) || decide (l < 0) || decide (l > c)) = false := by
          simp only [Bool.or_eq_false_iff, decide_eq_false_iff_not]
          rw [hb2]
          refine ⟨⟨⟨by omega, ?_⟩, by omega⟩, by omega⟩
          have : (2 : Int) ^ 48 = 281474976710656 := by decide
          omega
        have hif : ∀ (A B : Sem Value), (if ((decide (c < 0) || decide ((j.bytes : Int) * c > 2 ^ 48)) || decide (l < 0) || decide (l > c)) = true then A else B) = B := fun A B => by rw [hcond]; rfl
        rw [hif]
        have hask : (askRoom (c.toNat * j.bytes)).run G.P w = .ok () w := by
          unfold askRoom
          split <;> rfl
        rw [run_bind, hask]; simp only []
        rw [run_bind, run_sizeOf ht]; simp only []
        have hnew : ∀ (cc : Array Value), (newRow e cc).run G.P w = .ok ⟨w.heap.size, 0, none⟩ (pushB w (.cells cc e)) := fun cc => by
          simp [newRow, newObj, Sem.run, bind, Sem.bind, pure, pushB]
        by_cases h0 : c.toNat * ti.sz = 0
        · have hc0 : c.toNat = 0 := by
            rcases Nat.mul_eq_zero.1 h0 with q | q
            · exact q
            · omega
          rw [if_pos h0, run_bind, run_pure]; simp only []
          rw [run_bind]
          have : (Array.map (fun x => (#[] : Array Value)[x % (#[] : Array Value).size]!) (Array.range (c.toNat * ti.sz))) = (Array.map (fun i => (⟨ti.zero⟩ : Array Value)[i % (⟨ti.zero⟩ : Array Value).size]!) (Array.range (c.toNat * ti.sz))) := by
            rw [h0]; simp
          rw [this, hnew]; rfl
        · rw [if_neg h0, run_bind, hz]; simp only []
          rw [run_bind, run_pure]; simp only []
          rw [hzc, run_bind, hnew]; rfl
      · cases hev
    · cases hev
  · cases hev

end Go.Aw

/- Slices that are cut; every operation that calls nothing does what the evaluator says. -/
namespace Go.Aw
set_option linter.unusedVariables false
set_option linter.unusedSimpArgs false

variable {G : Env} {w : World} {M : Nat → Prop} {φ : Pm} {h : Hp}

theorem run_bound {x : AV} {a : Value} {i y : Nat} (hb : bnd (some x) 0 = some i) (hx : Rep w M φ x a) (hy : i ≤ y) (code : BoundsCode) : (Instr.sliceBound a y code).run G.P w = .ok i w := by
  unfold bnd at hb
  split at hb
  · rename_i q; cases q
  · rename_i k i' he
    cases he
    split at hb
    · cases hb; cases hx
      unfold Instr.sliceBound asIntOf
      rw [run_bind, run_pure]; simp only []
      rw [if_pos (by omega)]; rfl
    · cases hb
  · cases hb

theorem bnd_some {x : AV} {d i : Nat} (h : bnd (some x) d = some i) : bnd (some x) 0 = some i := by
  unfold bnd at *
  split at h
  · rename_i q; cases q
  · exact h
  · cases h

def OR (w : World) (M : Nat → Prop) (φ : Pm) : Option AV → Option Value → Prop
  | none, none => True
  | some x, some a => Rep w M φ x a
  | _, _ => False

theorem run_bounds {lo hi : Option AV} {la ha : Option Value} {len cap l r : Nat} (isS : Bool) (hl : bnd lo 0 = some l) (hr : bnd hi len = some r) (hlo : OR w M φ lo la) (hhi : OR w M φ hi ha) (h1 : l ≤ r) (h2 : r ≤ cap) :
    (Instr.sliceBounds isS len cap la ha none).run G.P w = .ok (l, r, cap) w := by
  unfold Instr.sliceBounds
  rw [run_bind, run_pure]; simp only []
  cases ha with
  | none =>
    cases hi with
    | some => exact hhi.elim
    | none =>
      simp only [bnd, Option.some.injEq] at hr; subst hr
      simp only []
      rw [run_bind, run_pure]; simp only []
      cases la with
      | none => cases lo with
        | none => simp only [bnd, Option.some.injEq] at hl; subst hl; rw [run_bind, run_pure]; rfl
        | some => exact hlo.elim
      | some v => cases lo with
        | none => exact hlo.elim
        | some x => rw [run_bind, run_bound (bnd_some hl) hlo h1]; rfl
  | some v =>
    cases hi with
    | none => exact hhi.elim
    | some x =>
      simp only []
      rw [run_bind, run_bound (bnd_some hr) hhi h2]; simp only []
      cases la with
      | none => cases lo with
        | none => simp only [bnd, Option.some.injEq] at hl; subst hl; rw [run_bind, run_pure]; rfl
        | some => exact hlo.elim
      | some v => cases lo with
        | none => exact hlo.elim
        | some x => rw [run_bind, run_bound (bnd_some hl) hlo h1]; rfl

theorem run_bounds0 {lo hi : Option AV} {m : AV} {la ha : Option Value} {ma : Value} {len cap : Nat} (isS : Bool) (hl : bnd lo 0 = some 0) (hr : (hi.bind fun q => bnd (some q) 0) = some 0) (hm : bnd (some m) 0 = some 0) (hlo : OR w M φ lo la) (hhi : OR w M φ hi ha) (hma : Rep w M φ m ma) :
    (Instr.sliceBounds isS len cap la ha (some ma)).run G.P w = .ok (0, 0, 0) w := by
  unfold Instr.sliceBounds
  simp only []
  rw [run_bind, run_bound (bnd_some hm) hma (Nat.zero_le _)]; simp only []
  cases hi with
  | none => cases hr
  | some x =>
    simp only [Option.bind_some] at hr
    cases ha with
    | none => exact hhi.elim
    | some v =>
      simp only []
      rw [run_bind, run_bound (bnd_some hr) hhi (Nat.zero_le _)]; simp only []
      cases la with
      | none => cases lo with
        | none => rw [run_bind, run_pure]; rfl
        | some => exact hlo.elim
      | some v => cases lo with
        | none => exact hlo.elim
        | some x => simp only []; rw [run_bind, run_bound (bnd_some hl) hlo (Nat.zero_le _)]; rfl

theorem sliceAt_eq {t : TypeId} {d : TypeDesc} (hd : G.P.underlying t = some d) (hna : ∀ n e, d ≠ .array n e) (x : Value) (l r m : Option Value) : (Instr.sliceAt t x l r m).run G.P w = (Instr.slice t x l r m).run G.P w := by
  unfold Instr.sliceAt
  rw [run_bind, run_underlying hd]; simp only []

theorem run_evSlice {t : TypeId} {x v : AV} {a : Value} {lo hi mx : Option AV} {la ha ma : Option Value} (hev : evSlice G t x lo hi mx = some v) (hx : Rep w M φ x a) (hlo : OR w M φ lo la) (hhi : OR w M φ hi ha) (hmx : OR w M φ mx ma) :
    ∃ val, (Instr.sliceAt t a la ha ma).run G.P w = .ok val w ∧ Rep w M φ v val := by
  unfold evSlice at hev
  split at hev
  · rename_i hk
    obtain ⟨d, hd, hk⟩ := tkOf_spec hk
    have hds : d = .string := by cases d <;> simp_all [tk]
    subst hds
    rw [sliceAt_eq hd (by simp)]
    split at hev
    · rename_i s
      split at hev
      · rename_i l r hl hr
        split at hev
        · rename_i hc
          cases hev; cases hx
          cases ma with
          | some => exact hmx.elim
          | none =>
            refine ⟨_, ?_, .s _ _⟩
            unfold Instr.slice
            rw [run_bind, run_underlying hd]; simp only []
            rw [if_neg (by simp), run_bind, run_bounds false hl hr hlo hhi hc.1 hc.2]; rfl
        · cases hev
      · cases hev
    · cases hev
  · rename_i e hk
    obtain ⟨d, hd, hk⟩ := tkOf_spec hk
    have hds := tk_slice hk
    subst hds
    rw [sliceAt_eq hd (by simp)]
    split at hev
    · rename_i ti ht
      have hslice : ∀ (ad : Option Addr) (len cap l r m : Nat) (ma : Option Value), (Instr.sliceBounds true len cap la ha ma).run G.P w = .ok (l, r, m) w →
          (Instr.slice t (.slice ad len cap) la ha ma).run G.P w = .ok (.slice (if m = l then ad else ad.map (·.add (l * ti.sz))) (r - l) (m - l)) w := by
        intro ad len cap l r m ma hb
        unfold Instr.slice
        rw [run_bind, run_underlying hd]; simp only []
        rw [run_bind, hb]; simp only []
        rw [run_bind, run_sizeOf ht]; rfl
      split at hev
      · rename_i nn sz es
        split at hev
        · rename_i l r hl hr
          split at hev
          · rename_i hc
            obtain ⟨h1, h2, h3⟩ := hc
            subst h3
            cases hev
            cases ma with
            | some => exact hmx.elim
            | none =>
              cases hx with
              | sl _ _ _ _ ad n cap mem hn hcp hnn hz hcell hr' =>
                subst hn
                refine ⟨_, hslice _ _ _ _ _ _ _ (run_bounds true hl hr hlo hhi h1 (by omega)), ?_⟩
                have hes : (if l = 0 then (if r = es.length then es else es.take r) else (if r = es.length then es.drop l else (es.take r).drop l)) = (es.take r).drop l := by
                  by_cases e1 : l = 0
                  · rw [if_pos e1, e1]; simp only [List.drop_zero]; split
                    · rename_i e2; rw [e2, List.take_length]
                    · rfl
                  · rw [if_neg e1]; split
                    · rename_i e2; rw [e2, List.take_length]
                    · rfl
                rw [hes]
                have hlen : ((es.take r).drop l).length = r - l := by simp; omega
                refine .sl _ false ti.sz _ _ (r - l) (cap - l) (fun i j => mem (l + i) j) hlen.symm (by omega) ⟨fun hq => (by cases hq), fun i j hi hj => hnn.2 (l + i) j (by omega) hj⟩ (fun e he => hz e (List.mem_of_mem_take (List.mem_of_mem_drop he))) (fun hne => ?_) (fun i j hi hj => ?_)
                · have hlt : l < r := by
                    rcases Nat.lt_or_ge l r with q | q
                    · exact q
                    · exact absurd (List.eq_nil_of_length_eq_zero (by omega)) hne
                  have hne0 : es ≠ [] := by intro q; subst q; simp at h2; omega
                  obtain ⟨b, o, rfl, hM, hb, hcl⟩ := hcell hne0
                  refine ⟨b, o + l * ti.sz, ?_, hM, hb, fun i j hi hj => ?_⟩
                  · rw [if_neg (by omega)]; simp [addr_plain]
                  · rw [hlen] at hi
                    have := hcl (l + i) j (by omega) hj
                    rw [Nat.add_mul] at this
                    rw [← this]; congr 2; omega
                · rw [hlen] at hi
                  have := hr' (l + i) j (by omega) hj
                  have hg : ((es.take r).drop l).getD i [] = es.getD (l + i) [] := by
                    simp [List.getD_eq_getElem?_getD, List.getElem?_take, show l + i < r by omega]
                  rw [hg]; exact this
          · cases hev
        · cases hev
      · rename_i b sz off len
        split at hev
        · rename_i l r hl hr
          split at hev
          · rename_i hc
            obtain ⟨h1, h2, h3⟩ := hc
            subst h3
            cases hev
            cases ma with
            | some => exact hmx.elim
            | none =>
              cases hx with
              | loc _ _ _ _ _ cap p hp hz hcp hs =>
                refine ⟨_, hslice _ _ _ _ _ _ _ (run_bounds true hl hr hlo hhi h1 (by omega)), ?_⟩
                split
                · rename_i hlt
                  have hadv : (if cap = l then some (⟨p.b, p.o + off * ti.sz, none⟩ : Addr) else (some (⟨p.b, p.o + off * ti.sz, none⟩ : Addr)).map (·.add (l * ti.sz))) = some ⟨p.b, p.o + (off + l) * ti.sz, none⟩ := by
                    rw [Nat.add_mul, ← Nat.add_assoc]
                    split
                    · have : l = 0 := by omega
                      subst this; simp
                    · simp only [Option.map_some, addr_plain]
                  rw [hadv]
                  exact .loc (w := w) (M := M) φ b ti.sz (off + l) (r - l) (cap - l) p hp hz (by omega) (by rw [show off + l + (cap - l) = off + cap by omega]; exact hs)
                · have : r - l = 0 := by omega
                  rw [this]
                  exact .sl _ false ti.sz [] _ 0 (cap - l) (fun _ _ => undef) rfl (Nat.zero_le _) ⟨by simp, by simp⟩ (by simp) (by simp) (by simp)
          · cases hev
        · cases hev
      · rename_i nl
        split at hev
        · rename_i l r hl hr
          split at hev
          · rename_i hc
            obtain ⟨rfl, rfl⟩ := hc
            cases hev
            cases ma with
            | some => exact hmx.elim
            | none =>
              cases hx with
              | e _ _ ad he =>
                exact ⟨_, hslice _ _ _ _ _ _ _ (run_bounds true hl hr hlo hhi (Nat.le_refl _) (Nat.le_refl _)), .e _ _ _ (by simpa using he)⟩
          · cases hev
        · cases hev
      · rename_i nn sz es m
        split at hev
        · rename_i hl hr hm
          cases hev
          cases ma with
          | none => exact hmx.elim
          | some mv =>
            cases hx with
            | sl _ _ _ _ ad n cap mem hn hcp hnn hz hcell hr' =>
              subst hn
              exact ⟨_, hslice _ _ _ _ _ _ _ (run_bounds0 true hl hr hm hlo hhi hmx), .sl _ true sz [] _ 0 0 (fun _ _ => undef) rfl (Nat.le_refl _) ⟨fun _ _ => rfl, by simp⟩ (by simp) (by simp) (by simp)⟩
        · cases hev
      · rename_i b sz off len m
        split at hev
        · rename_i hl hr hm
          cases hev
          cases ma with
          | none => exact hmx.elim
          | some mv =>
            cases hx with
            | loc _ _ _ _ _ cap p hp hz hcp hs =>
              exact ⟨_, hslice _ _ _ _ _ _ _ (run_bounds0 true hl hr hm hlo hhi hmx), .e _ _ _ rfl⟩
        · cases hev
      · cases hev
    · cases hev
  · cases hev

end Go.Aw

/- Every operation of the evaluator that calls nothing is what the machine does. -/
namespace Go.Aw
set_option linter.unusedVariables false
set_option linter.unusedSimpArgs false

variable {G : Env} {w : World} {M : Nat → Prop} {φ : Pm} {h : Hp}

def RanN (P : Program) (s : Sem Next) (w : World) (M : Nat → Prop) (φ : Pm) (h : Hp) (v : AV) (ins : List (Nat × Blk)) (rd : List Nat) : Prop :=
  ∃ nxt val w' M' φ', s.run P w = .ok nxt w' ∧ (nxt = .value val ∨ (nxt = .skip ∧ val = undef)) ∧ StepOk w M φ w' M' φ' ∧ HRel w' M' φ' (insH h ins) ∧ Rep w' M' φ' v val ∧ (∀ l, φ' l ≠ none → φ l ≠ none ∨ (l ∈ ins.map (·.1) ∧ l ∉ rd))

theorem Ran.n {s : Sem Value} {v : AV} {ins : List (Nat × Blk)} {rd : List Nat} (hr : Ran G.P s w M φ h v ins) (hrd : ∀ l ∈ ins.map (·.1), l ∉ rd) : RanN G.P (do pure (.value (← s))) w M φ h v ins rd := by
  obtain ⟨val, w', M', φ', h1, h2, h3, h4, h5⟩ := hr
  exact ⟨.value val, val, w', M', φ', by rw [run_bind, h1]; rfl, .inl rfl, h2, h3, h4, fun l hl => (h5 l hl).imp id fun q => ⟨q, hrd l q⟩⟩
theorem RanN.val {x : AV} {val : Value} (HR : HRel w M φ h) (hv : Rep w M φ x val) : RanN G.P (pure (.value val)) w M φ h x [] [] :=
  ⟨.value val, val, w, M, φ, rfl, .inl rfl, .refl _ _ _, HR, hv, fun _ h => .inl h⟩
theorem Ran.of {s : Sem Value} {v : AV} {nx : Nat} {out : Out} {x : Option AV} (HR : HRel w M φ h) (hx : x.bind (po · nx) = some out) (hs : ∀ v, x = some v → ∃ val, s.run G.P w = .ok val w ∧ Rep w M φ v val) :
    Ran G.P s w M φ h out.v out.ins := by
  cases x with
  | none => cases hx
  | some v =>
    cases hx
    obtain ⟨val, h1, h2⟩ := hs v rfl
    exact .same HR h1 h2

theorem evOp_rd {op : Op} {ρ : Operand → AV} {h' : Hp} {nx : Nat} {out : Out} (hev : evOp G op ρ h' nx = some out) : (∀ l ∈ out.ins.map (·.1), l ∉ out.rd) ∨ ∃ t x y, op = .store t x y := by
  have hpo : ∀ {x : Option AV}, x.bind (po · nx) = some out → ∀ l ∈ out.ins.map (·.1), l ∉ out.rd := by
    intro x hx
    cases x with
    | none => cases hx
    | some v => cases hx; simp
  have hpv : ∀ {v : AV}, po v nx = some out → ∀ l ∈ out.ins.map (·.1), l ∉ out.rd := fun {v} hx => hpo (x := some v) hx
  unfold evOp at hev
  split at hev
  all_goals first | exact .inr ⟨_, _, _, rfl⟩ | left
  · exact hpv hev
  · exact hpv hev
  · split at hev
    · exact hpv hev
    · cases hev
  · unfold evAlloc at hev
    repeat' split at hev
    all_goals first | (cases hev; done) | (cases hev; simp)
  · unfold evBox at hev
    repeat' split at hev
    all_goals first | (cases hev; done) | (cases hev; simp)
  · unfold evBuild at hev
    repeat' split at hev
    all_goals first | (cases hev; done) | exact hpv hev
  · unfold evBuildSlice at hev
    repeat' split at hev
    all_goals first | (cases hev; done) | (cases hev; simp)
  · unfold evLoad at hev
    repeat' split at hev
    all_goals first | (cases hev; done) | exact hpv hev | (cases hev; simp)
  · repeat' split at hev
    all_goals first | (cases hev; done) | exact hpv hev
  · exact hpo hev
  · exact hpo hev
  · exact hpo hev
  · repeat' split at hev
    all_goals first | (cases hev; done) | exact hpv hev
  · unfold evMakeSlice at hev
    repeat' split at hev
    all_goals first | (cases hev; done) | (cases hev; simp)
  · exact hpo hev
  · exact hpo hev
  · exact hpo hev
  · exact hpo hev
  · exact hpo hev
  · repeat' split at hev
    all_goals first | (cases hev; done) | exact hpo hev
  · exact hpo hev
  · exact hpo hev
  · cases hev

theorem evOp_sound {o : Oper} {ρ : Operand → AV} {ρ' : Operand → Value} {h' : Hp} {nx : Nat} {out : Out} (hev : evOp G o.op ρ h' nx = some out) (hρ : ∀ x ∈ o.op.operands.toList, Rep w M φ (ρ x) (ρ' x))
    (HR : HRel w M φ h) (hrd : ∀ l ∈ out.rd, h l = h' l) (hn : ∀ l k, (l, k) ∈ out.ins → l ∉ out.rd → φ l = none) : RanN G.P (execOp ρ' o) w M φ h out.v out.ins out.rd := by
  have hrdi := evOp_rd hev
  obtain ⟨dst, op, ty, pos, after, guard⟩ := o
  simp only at hev hρ hrdi
  cases op with
  | move x => simp only [evOp, po, Option.some.injEq] at hev; subst hev; exact .val HR (hρ x (by simp [Op.operands]))
  | assign x => simp only [evOp, po, Option.some.injEq] at hev; subst hev; exact .val HR (hρ x (by simp [Op.operands]))
  | pick c a b =>
    have hc := hρ c (by simp [Op.operands])
    have ha := hρ a (by simp [Op.operands])
    have hb := hρ b (by simp [Op.operands])
    simp only [evOp] at hev
    split at hev
    · rename_i t he
      rw [he] at hc
      simp only [po, Option.some.injEq] at hev; subst hev
      generalize hv : ρ' c = vc at hc
      cases hc
      refine ⟨.value (if t then ρ' a else ρ' b), (if t then ρ' a else ρ' b), w, M, φ, ?_, .inl rfl, .refl _ _ _, HR, ?_, fun _ h => .inl h⟩
      · simp only [execOp, hv]; rw [run_bind]; rfl
      · cases t
        · exact hb
        · exact ha
    · cases hev
  | alloc t => exact (ran_alloc hev HR hn).n (hrdi.resolve_right (by simp))
  | box t x => exact (ran_box hev (hρ x (by simp [Op.operands])) HR hn).n (hrdi.resolve_right (by simp))
  | build t ps => exact (ran_build (ρ' := ρ') hev (fun x hx => hρ x (by simp only [Op.operands, List.toList_toArray]; exact hx)) HR).n (hrdi.resolve_right (by simp))
  | buildSlice t n ps => exact (ran_buildSlice (ρ' := ρ') hev (fun x hx => hρ x (by simp only [Op.operands, List.toList_toArray]; exact hx)) HR hn).n (hrdi.resolve_right (by simp))
  | load t x => exact (ran_load hev (hρ x (by simp [Op.operands])) HR hrd).n (hrdi.resolve_right (by simp))
  | store t x y =>
    obtain ⟨w', M', h1, h2, h3, h4⟩ := ran_store hev (hρ x (by simp [Op.operands])) (hρ y (by simp [Op.operands])) HR hrd
    exact ⟨.skip, undef, w', M', φ, by simp only [execOp]; rw [run_bind, h1]; rfl, .inr ⟨rfl, rfl⟩, h2, h3, by rw [h4]; exact .bad _ _, fun _ h => .inl h⟩
  | nilCheck x =>
    have hx := hρ x (by simp [Op.operands])
    simp only [evOp] at hev
    split at hev
    · rename_i l i o he
      rw [he] at hx
      simp only [po, Option.some.injEq] at hev; subst hev
      generalize hv : ρ' x = vx at hx
      have hx' := hx
      cases hx
      simp only [execOp, hv]; exact .val HR hx'
    · rename_i n cs he
      rw [he] at hx
      simp only [po, Option.some.injEq] at hev; subst hev
      generalize hv : ρ' x = vx at hx
      have hx' := hx
      cases hx
      simp only [execOp, hv]; exact .val HR hx'
    · rename_i f cs he
      rw [he] at hx
      simp only [po, Option.some.injEq] at hev; subst hev
      generalize hv : ρ' x = vx at hx
      have hx' := hx
      cases hx
      simp only [execOp, hv]; exact .val HR hx'
    · cases hev
  | binOp op t x y yt => exact (Ran.of (v := .bad) HR hev fun v hv => run_evBin hv (hρ x (by simp [Op.operands])) (hρ y (by simp [Op.operands])) x y).n (hrdi.resolve_right (by simp))
  | unOp op t x => exact (Ran.of (v := .bad) HR hev fun v hv => run_evUn hv (hρ x (by simp [Op.operands]))).n (hrdi.resolve_right (by simp))
  | convert s d x => exact (Ran.of (v := .bad) HR hev fun v hv => run_evConv hv (hρ x (by simp [Op.operands]))).n (hrdi.resolve_right (by simp))
  | makeFunc fn first cap =>
    cases fn with
    | func f =>
      simp only [evOp] at hev
      split at hev
      · rename_i hf
        simp only [po, Option.some.injEq] at hev; subst hev
        have hfe : first = #[] := Array.eq_empty_of_size_eq_zero hf
        subst hfe
        refine ⟨.value (.func (.func f) #[] ⟨cap.toList.map ρ'⟩), _, w, M, φ, ?_, .inl rfl, .refl _ _ _, HR, ?_, fun _ h => .inl h⟩
        · have : cap.map ρ' = ⟨cap.toList.map ρ'⟩ := by apply Array.ext'; simp
          simp [execOp, Instr.makeFunc, this, run_pure]
        · refine .fn _ _ _ _ (by simp) fun i hi => ?_
          simp only [List.length_map] at hi
          have := hρ (cap.toList.getD i (.const .nilFunc)) (by simp only [Op.operands, Array.empty_append]; exact getD_mem _ hi)
          have e1 : (cap.toList.map ρ).getD i .bad = ρ (cap.toList.getD i (.const .nilFunc)) := by simp only [List.getD_eq_getElem?_getD, List.getElem?_map, List.getElem?_eq_getElem hi, Option.map_some, Option.getD_some]
          have e2 : (cap.toList.map ρ').getD i undef = ρ' (cap.toList.getD i (.const .nilFunc)) := by simp only [List.getD_eq_getElem?_getD, List.getElem?_map, List.getElem?_eq_getElem hi, Option.map_some, Option.getD_some]
          rw [e1, e2]; exact this
      · cases hev
    | method => cases hev
    | methodOf => cases hev
    | via => cases hev
    | yield => cases hev
  | makeSlice t l c => exact (ran_makeSlice hev (hρ l (by simp [Op.operands])) (hρ c (by simp [Op.operands])) HR hn).n (hrdi.resolve_right (by simp))
  | slice t x lo hi mx =>
    refine (Ran.of (v := .bad) HR hev fun v hv => run_evSlice hv (hρ x (by simp [Op.operands])) ?_ ?_ ?_).n (hrdi.resolve_right (by simp))
    · cases lo with
      | none => trivial
      | some q => exact hρ q (by simp [Op.operands])
    · cases hi with
      | none => trivial
      | some q => exact hρ q (by simp [Op.operands])
    · cases mx with
      | none => trivial
      | some q => exact hρ q (by simp [Op.operands])
  | fieldAddr t x f => exact (Ran.of (v := .bad) HR hev fun v hv => run_fieldAddr hv (hρ x (by simp [Op.operands]))).n (hrdi.resolve_right (by simp))
  | indexAddr t x i => exact (Ran.of (v := .bad) HR hev fun v hv => run_indexAddr hv (hρ x (by simp [Op.operands])) (hρ i (by simp [Op.operands]))).n (hrdi.resolve_right (by simp))
  | index t x i => exact (Ran.of (v := .bad) HR hev fun v hv => run_index hv (hρ x (by simp [Op.operands])) (hρ i (by simp [Op.operands]))).n (hrdi.resolve_right (by simp))
  | extract x i => exact (Ran.of (v := .bad) HR hev fun v hv => run_extract hv (hρ x (by simp [Op.operands]))).n (hrdi.resolve_right (by simp))
  | call c =>
    obtain ⟨cal, args, ts⟩ := c
    cases cal with
    | builtin b =>
      have hargs : ∀ i, i < (args.toList.map ρ).length → Rep w M φ ((args.toList.map ρ).getD i .bad) ((args.map ρ').toList.getD i undef) := fun i hi => by
        simp only [List.length_map] at hi
        have := hρ (args.toList.getD i (.const .nilFunc)) (by simp only [Op.operands, Call.operands, Array.empty_append]; exact getD_mem _ hi)
        have e1 : (args.toList.map ρ).getD i .bad = ρ (args.toList.getD i (.const .nilFunc)) := by simp only [List.getD_eq_getElem?_getD, List.getElem?_map, List.getElem?_eq_getElem hi, Option.map_some, Option.getD_some]
        have e2 : (args.map ρ').toList.getD i undef = ρ' (args.toList.getD i (.const .nilFunc)) := by simp only [Array.toList_map, List.getD_eq_getElem?_getD, List.getElem?_map, List.getElem?_eq_getElem hi, Option.map_some, Option.getD_some]
        rw [e1, e2]; exact this
      cases b with
      | len =>
        simp only [evOp] at hev
        split at hev
        · rename_i x t hx ht
          refine (Ran.of (v := .bad) HR hev (s := Builtin.len_ ts ty (args.map ρ')) fun v hv => ?_).n (hrdi.resolve_right (by simp))
          have hxm : x ∈ args := Array.mem_of_getElem? hx
          exact run_len hv (hρ x (by simp [Op.operands, Call.operands, hxm])) _ (by simp [hx]) ts ht ty
        · cases hev
      | max =>
        refine (Ran.of (v := .bad) HR hev (s := Builtin.max_ ts ty (args.map ρ')) fun v hv => ?_).n (hrdi.resolve_right (by simp))
        exact run_mm (mx := true) hv (by simp) hargs ts ty
      | min =>
        refine (Ran.of (v := .bad) HR hev (s := Builtin.min_ ts ty (args.map ρ')) fun v hv => ?_).n (hrdi.resolve_right (by simp))
        exact run_mm (mx := false) hv (by simp) hargs ts ty
      | _ => cases hev
    | value f => cases hev
    | invoke r m => cases hev
  | _ => cases hev

theorem evOp_nx {op : Op} {ρ : Operand → AV} {h' : Hp} {nx : Nat} {out : Out} (hev : evOp G op ρ h' nx = some out) : nx ≤ out.nx ∧ ∀ l k, (l, k) ∈ out.ins → l ∉ out.rd → l = nx ∧ l < out.nx := by
  have hpo : ∀ {x : Option AV}, x.bind (po · nx) = some out → nx ≤ out.nx ∧ ∀ l k, (l, k) ∈ out.ins → l ∉ out.rd → l = nx ∧ l < out.nx := by
    intro x hx
    cases x with
    | none => cases hx
    | some v => cases hx; exact ⟨Nat.le_refl _, fun l k h => by cases h⟩
  have hpv : ∀ {v : AV}, po v nx = some out → nx ≤ out.nx ∧ ∀ l k, (l, k) ∈ out.ins → l ∉ out.rd → l = nx ∧ l < out.nx := fun {v} hx => hpo (x := some v) hx
  unfold evOp at hev
  split at hev
  · exact hpv hev
  · exact hpv hev
  · split at hev
    · exact hpv hev
    · cases hev
  · unfold evAlloc at hev
    repeat' split at hev
    all_goals first | (cases hev; done) | (cases hev; exact ⟨by simp, fun l k h => by simp at h; simp [h.1]⟩)
  · unfold evBox at hev
    repeat' split at hev
    all_goals first | (cases hev; done) | (cases hev; exact ⟨by simp, fun l k h => by simp at h; simp [h.1]⟩)
  · unfold evBuild at hev
    repeat' split at hev
    all_goals first | (cases hev; done) | exact hpv hev
  · unfold evBuildSlice at hev
    repeat' split at hev
    all_goals first | (cases hev; done) | (cases hev; exact ⟨by simp, fun l k h => by simp at h; simp [h.1]⟩)
  · unfold evLoad at hev
    repeat' split at hev
    all_goals first | (cases hev; done) | exact hpv hev | (cases hev; exact ⟨by simp, fun l k h => by simp at h⟩)
  · unfold evStore at hev
    repeat' split at hev
    all_goals first | (cases hev; done) | (cases hev; exact ⟨by simp, fun l k h hr => by simp at h hr; exact absurd h.1 hr⟩)
  · repeat' split at hev
    all_goals first | (cases hev; done) | exact hpv hev
  · exact hpo hev
  · exact hpo hev
  · exact hpo hev
  · repeat' split at hev
    all_goals first | (cases hev; done) | exact hpv hev
  · unfold evMakeSlice at hev
    repeat' split at hev
    all_goals first | (cases hev; done) | (cases hev; exact ⟨by simp, fun l k h => by simp at h; simp [h.1]⟩)
  · exact hpo hev
  · exact hpo hev
  · exact hpo hev
  · exact hpo hev
  · exact hpo hev
  · repeat' split at hev
    all_goals first | (cases hev; done) | exact hpo hev
  · exact hpo hev
  · exact hpo hev
  · cases hev

end Go.Aw

/- Numbers of blocks are renamed; values are looked at as if nobody wrote them. -/
namespace Go.Aw
set_option linter.unusedVariables false
set_option linter.unusedSimpArgs false

mutual
def ren (ρ : Nat → Option Nat) : AV → AV
  | .agg cs => .agg (renL ρ cs)
  | .tup cs => .tup (renL ρ cs)
  | .fn f cs => .fn f (renL ρ cs)
  | .loc l sz off len => match ρ l with | some j => .loc j sz off len | none => .bad
  | .ptr l i o => match ρ l with | some j => .ptr j i o | none => .bad
  | .s v => .s v
  | .sl nn sz es => .sl nn sz es
  | .e nl => .e nl
  | .rp n cs => .rp n cs
  | .bad => .bad
def renL (ρ : Nat → Option Nat) : List AV → List AV
  | [] => []
  | v :: r => ren ρ v :: renL ρ r
end
theorem renL_eq (ρ : Nat → Option Nat) (l : List AV) : renL ρ l = l.map (ren ρ) := by
  induction l with
  | nil => rfl
  | cons v r ih => simp [renL, ih]
theorem renL_len (ρ : Nat → Option Nat) (l : List AV) : (renL ρ l).length = l.length := by simp [renL_eq]
theorem renL_get (ρ : Nat → Option Nat) (l : List AV) (i : Nat) (h : i < l.length) : (renL ρ l).getD i .bad = ren ρ (l.getD i .bad) := by
  simp [renL_eq, List.getD_eq_getElem?_getD, h]

variable {G : Env} {w : World} {M : Nat → Prop} {φ : Pm} {h : Hp}

theorem Rep.ren {ρ : Nat → Option Nat} {v : AV} {x : Value} (hr : Rep w M φ v x) : ∀ {φ' : Pm}, (∀ l p j, φ l = some p → ρ l = some j → φ' j = some p) → Rep w M φ' (ren ρ v) x := by
  induction hr with
  | s φ v => intro φ' _; exact .s _ _
  | agg φ cs vl hl _ ih => intro φ' hp; exact .agg _ _ _ (by rw [renL_len]; exact hl) fun i hi => by rw [renL_len] at hi; rw [renL_get _ _ _ hi]; exact ih i hi hp
  | tup φ cs vl hl _ ih => intro φ' hp; exact .tup _ _ _ (by rw [renL_len]; exact hl) fun i hi => by rw [renL_len] at hi; rw [renL_get _ _ _ hi]; exact ih i hi hp
  | fn φ f cs vl hl _ ih => intro φ' hp; exact .fn _ _ _ _ (by rw [renL_len]; exact hl) fun i hi => by rw [renL_len] at hi; rw [renL_get _ _ _ hi]; exact ih i hi hp
  | sl φ nn sz es a n cap mem hn hc hnn hz ha hh ih => intro φ' hp; exact .sl _ nn sz es a n cap mem hn hc hnn hz ha hh
  | e φ nl a h => intro φ' _; exact .e _ _ _ h
  | loc φ l sz off len cap p hp hz hc hs =>
    intro φ' hpe
    simp only [Aw.ren]
    split
    · exact .loc _ _ _ _ _ _ p (hpe _ _ _ hp ‹_›) hz hc hs
    · exact .bad _ _
  | ptr φ l i off p hp =>
    intro φ' hpe
    simp only [Aw.ren]
    split
    · exact .ptr _ _ _ _ p (hpe _ _ _ hp ‹_›)
    · exact .bad _ _
  | rp φ n cs b o hn mem hMb hb ha hh ih => intro φ' _; exact .rp _ n cs b o hn mem hMb hb ha hh
  | bad φ v => intro φ' _; exact .bad _ _

/-- A block under other numbers. -/
def renB (ρ : Nat → Option Nat) (k : Blk) : Blk := if k.cl then k else { k with es := k.es.map (renL ρ) }
theorem renB_len (ρ : Nat → Option Nat) (k : Blk) : (renB ρ k).es.length = k.es.length := by unfold renB; split <;> simp
theorem renB_sz (ρ : Nat → Option Nat) (k : Blk) : (renB ρ k).sz = k.sz := by unfold renB; split <;> rfl
theorem renB_wr (ρ : Nat → Option Nat) (k : Blk) : (renB ρ k).wr = k.wr := by unfold renB; split <;> rfl

theorem BlkOk.ren {ρ : Nat → Option Nat} {l j : Nat} {k : Blk} (hk : BlkOk w M φ l k) {φ' : Pm} (hj : ∀ p, φ l = some p → φ' j = some p) (hp : ∀ l p j, φ l = some p → ρ l = some j → φ' j = some p) : BlkOk w M φ' j (renB ρ k) := by
  obtain ⟨b, o, cs, T, h1, h2, h3, h4, h5, h6⟩ := hk.out
  refine ⟨b, o, cs, T, by rw [renB_sz]; exact hj _ h1, h2, by rw [renB_len, renB_sz]; exact h3, ?_, ?_, by rw [renB_wr]; exact h6⟩
  · unfold renB
    split
    · exact h4
    · intro e he
      simp only [List.mem_map] at he
      obtain ⟨e', he', rfl⟩ := he
      rw [renL_len]; exact h4 e' he'
  · intro i j hi hj'
    rw [renB_len] at hi; rw [renB_sz] at hj' ⊢
    have := h5 i j hi hj'
    by_cases hc : k.cl = true
    · have e : Aw.renB ρ k = k := by simp [Aw.renB, hc]
      rw [e, if_pos hc]; rw [if_pos hc] at this; exact this
    · have e : Aw.renB ρ k = { k with es := k.es.map (renL ρ) } := by simp [Aw.renB, hc]
      rw [e]
      rw [if_neg hc] at this
      simp only [if_neg hc]
      have hl : (k.es.getD i []).length = k.sz := h4 _ (getD_mem _ hi)
      have hg : (k.es.map (renL ρ)).getD i [] = renL ρ (k.es.getD i []) := by simp [List.getD_eq_getElem?_getD, hi]
      rw [hg, renL_get _ _ _ (by omega)]
      exact this.ren hp

/-! ### Looking at values as if nobody wrote them -/
abbrev Okf := Nat → Blk → Bool
mutual
def fz (h : Hp) (ok : Okf) : Nat → AV → Option AV
  | _, .s v => some (.s v)
  | _, .sl nn sz es => some (.sl nn sz es)
  | _, .e nl => some (.e nl)
  | _, .rp n cs => some (.rp n cs)
  | _, .bad => some .bad
  | 0, _ => none
  | n + 1, .agg cs => (fzL h ok n cs).map .agg
  | n + 1, .tup cs => (fzL h ok n cs).map .tup
  | n + 1, .fn f cs => (fzL h ok n cs).map (.fn f)
  | n + 1, .loc l sz off len => match h l with
    | some k => if off + len ≤ k.es.length ∧ k.sz = sz ∧ ok l k = true then
        (if k.cl = true then some (.sl false sz (if off = 0 ∧ len = k.es.length then k.es else (k.es.drop off).take len)) else (fzLL h ok n ((k.es.drop off).take len)).map (.sl false sz)) else none
    | none => none
  | n + 1, .ptr l i off => match h l with
    | some k => if i < k.es.length ∧ off ≤ k.sz ∧ ok l k = true then
        (if k.cl = true then some (.rp (k.sz - off) ((k.es.getD i []).drop off)) else (fzL h ok n ((k.es.getD i []).drop off)).map (.rp (k.sz - off))) else none
    | none => none
def fzL (h : Hp) (ok : Okf) : Nat → List AV → Option (List AV)
  | _, [] => some []
  | 0, _ => none
  | n + 1, v :: r => match fz h ok n v, fzL h ok n r with
    | some a, some b => some (a :: b)
    | _, _ => none
def fzLL (h : Hp) (ok : Okf) : Nat → List (List AV) → Option (List (List AV))
  | _, [] => some []
  | 0, _ => none
  | n + 1, v :: r => match fzL h ok n v, fzLL h ok n r with
    | some a, some b => some (a :: b)
    | _, _ => none
end

structure FzOk (w : World) (M M' : Nat → Prop) (φ : Pm) (h : Hp) (ok : Okf) : Prop where
  hr : HRel w M φ h
  sub : ∀ b, b < w.heap.size → M' b → M b
  live : ∀ l k p, h l = some k → ok l k = true → φ l = some p → ¬ M' p.b

def PW (R : AV → Value → Prop) (cs : List AV) (vl : List Value) : Prop := vl.length = cs.length ∧ ∀ i, i < cs.length → R (cs.getD i .bad) (vl.getD i undef)

theorem PW.cons {R : AV → Value → Prop} {c : AV} {cs : List AV} {v : Value} {vl : List Value} (h0 : R c v) (h : PW R cs vl) : PW R (c :: cs) (v :: vl) :=
  ⟨by simp [h.1], fun i hi => by
    cases i with
    | zero => exact h0
    | succ i => simpa using h.2 i (by simpa using hi)⟩
theorem PW.head {R : AV → Value → Prop} {c : AV} {cs : List AV} {v : Value} {vl : List Value} (h : PW R (c :: cs) (v :: vl)) : R c v := by simpa using h.2 0 (by simp)
theorem PW.tail {R : AV → Value → Prop} {c : AV} {cs : List AV} {v : Value} {vl : List Value} (h : PW R (c :: cs) (v :: vl)) : PW R cs vl :=
  ⟨by simpa using h.1, fun i hi => by simpa using h.2 (i + 1) (by simpa using hi)⟩

theorem fz_rep {M' : Nat → Prop} {ok : Okf} (F : FzOk w M M' φ h ok) : ∀ (n : Nat),
    (∀ v v' x, fz h ok n v = some v' → Rep w M φ v x → Rep w M' noPm v' x) ∧
    (∀ cs cs' vl, fzL h ok n cs = some cs' → PW (Rep w M φ) cs vl → PW (Rep w M' noPm) cs' vl ∧ cs'.length = cs.length) ∧
    (∀ es es', fzLL h ok n es = some es' → es'.length = es.length ∧ ∀ i, i < es.length → ∀ vl, PW (Rep w M φ) (es.getD i []) vl → PW (Rep w M' noPm) (es'.getD i []) vl ∧ (es'.getD i []).length = (es.getD i []).length) := by
  have hM := F.sub
  have up : ∀ {v : AV} {x : Value}, Rep w M noPm v x → Rep w M' noPm v x := fun hr => hr.mono (.refl _ _) hM (.refl _)
  intro n
  induction n with
  | zero =>
    refine ⟨fun v v' x hf hr => ?_, fun cs cs' vl hf hr => ?_, fun es es' hf => ?_⟩
    · cases hr <;> simp only [fz, Option.some.injEq, reduceCtorEq] at hf <;> subst hf
      · exact .s _ _
      · rename_i a b c d e f; exact up (.sl _ _ _ _ _ _ _ _ ‹_› ‹_› ‹_› ‹_› ‹_› ‹_›)
      · exact .e _ _ _ ‹_›
      · exact up (.rp _ _ _ _ _ ‹_› _ ‹_› ‹_› ‹_› ‹_›)
      · exact .bad _ _
    · cases cs with
      | nil => simp only [fzL, Option.some.injEq] at hf; subst hf; exact ⟨⟨by simpa using hr.1, fun i hi => by simp at hi⟩, rfl⟩
      | cons => simp [fzL] at hf
    · cases es with
      | nil => simp only [fzLL, Option.some.injEq] at hf; subst hf; exact ⟨rfl, fun i hi => by simp at hi⟩
      | cons => simp [fzLL] at hf
  | succ n ih =>
    obtain ⟨ih1, ih2, ih3⟩ := ih
    refine ⟨fun v v' x hf hr => ?_, fun cs cs' vl hf hr => ?_, fun es es' hf => ?_⟩
    · cases hr with
      | s => simp only [fz, Option.some.injEq] at hf; subst hf; exact .s _ _
      | sl _ nn sz es a n' cap mem hn hc hnn hz ha hh => simp only [fz, Option.some.injEq] at hf; subst hf; exact up (.sl _ nn sz es a n' cap mem hn hc hnn hz ha hh)
      | e _ nl a h => simp only [fz, Option.some.injEq] at hf; subst hf; exact .e _ _ _ h
      | rp _ m cs b o hn mem hMb hb ha hh => simp only [fz, Option.some.injEq] at hf; subst hf; exact up (.rp _ m cs b o hn mem hMb hb ha hh)
      | bad => simp only [fz, Option.some.injEq] at hf; subst hf; exact .bad _ _
      | agg _ cs vl hl hh =>
        simp only [fz, Option.map_eq_some_iff] at hf
        obtain ⟨cs', hf, rfl⟩ := hf
        obtain ⟨h1, h2⟩ := ih2 cs cs' vl hf ⟨hl, hh⟩
        exact .agg _ _ _ h1.1 h1.2
      | tup _ cs vl hl hh =>
        simp only [fz, Option.map_eq_some_iff] at hf
        obtain ⟨cs', hf, rfl⟩ := hf
        obtain ⟨h1, h2⟩ := ih2 cs cs' vl hf ⟨hl, hh⟩
        exact .tup _ _ _ h1.1 h1.2
      | fn _ f cs vl hl hh =>
        simp only [fz, Option.map_eq_some_iff] at hf
        obtain ⟨cs', hf, rfl⟩ := hf
        obtain ⟨h1, h2⟩ := ih2 cs cs' vl hf ⟨hl, hh⟩
        exact .fn _ _ _ _ h1.1 h1.2
      | loc _ l sz off len cap p hp hz hc hs =>
        simp only [fz] at hf
        split at hf
        · rename_i k hk
          split at hf
          · rename_i hcc
            obtain ⟨hle, hsz, hok⟩ := hcc
            obtain ⟨b, o, cs, T, h1, h2, h3, h4, h5, h6⟩ := (F.hr.ok l k hk).out
            rw [hp] at h1; cases h1
            have hnM := F.live l k _ hk hok hp
            have hblt := F.hr.lt l _ hp
            subst hsz
            have hlen : ((k.es.drop off).take len).length = len := by simp; omega
            have hget : ∀ i, i < len → ((k.es.drop off).take len).getD i [] = k.es.getD (off + i) [] := fun i hi => by
              simp [List.getD_eq_getElem?_getD, List.getElem?_take, hi]
            have hcell : ∀ i j, i < len → j < k.sz → w.cell? ⟨b, o + off * k.sz + i * k.sz + j, none⟩ = some (cs.toList.getD (o + (off + i) * k.sz + j) undef) := fun i j hi hj => by
              have := mul_le (sz := k.sz) (show off + i < k.es.length by omega)
              rw [Nat.add_mul] at this
              have e : o + off * k.sz + i * k.sz + j = o + (off + i) * k.sz + j := by rw [Nat.add_mul]; omega
              have hlt : o + (off + i) * k.sz + j < cs.size := by omega
              rw [e]
              simp only [World.cell?, h2, Option.isSome_none, Bool.false_eq_true, if_false]
              rw [arr_get _ _ hlt]
            split at hf
            · rename_i hcl
              simp only [Option.some.injEq] at hf
              have hes : (if off = 0 ∧ len = k.es.length then k.es else (k.es.drop off).take len) = (k.es.drop off).take len := by
                split
                · rename_i e; rw [e.1, e.2]; simp
                · rfl
              rw [hes] at hf
              subst hf
              refine .sl _ false k.sz _ _ len cap (fun i j => cs.toList.getD (o + (off + i) * k.sz + j) undef) hlen.symm hc ⟨by simp, fun i j hi hj => h3.2 (off + i) j (by omega) hj⟩ (fun e he => h4 e (List.mem_of_mem_drop (List.mem_of_mem_take he)))
                (fun _ => ⟨b, _, rfl, hnM, hblt, fun i j hi hj => hcell i j (by omega) hj⟩) (fun i j hi hj => ?_)
              rw [hlen] at hi
              rw [hget i hi]
              have := h5 (off + i) j (by omega) hj
              rw [if_pos hcl] at this
              exact up this
            · rename_i hcl
              simp only [Option.map_eq_some_iff] at hf
              obtain ⟨es', hf, rfl⟩ := hf
              obtain ⟨g1, g2⟩ := ih3 _ es' hf
              rw [hlen] at g1 g2
              have hrow : ∀ i, i < len → PW (Rep w M φ) (((k.es.drop off).take len).getD i []) ((List.range k.sz).map fun j => cs.toList.getD (o + (off + i) * k.sz + j) undef) := fun i hi => by
                rw [hget i hi]
                have hl : (k.es.getD (off + i) []).length = k.sz := h4 _ (getD_mem _ (by omega))
                refine ⟨by rw [hl, List.length_map, List.length_range], fun j hj => ?_⟩
                rw [getD_map_range _ _ _ (by omega)]
                have := h5 (off + i) j (by omega) (by omega)
                rw [if_neg hcl] at this
                exact this
              refine .sl _ false k.sz _ _ len cap (fun i j => cs.toList.getD (o + (off + i) * k.sz + j) undef) g1.symm hc ⟨by simp, fun i j hi hj => h3.2 (off + i) j (by omega) hj⟩ (fun e he => ?_)
                (fun _ => ⟨b, _, rfl, hnM, hblt, fun i j hi hj => hcell i j (by omega) hj⟩) (fun i j hi hj => ?_)
              · obtain ⟨i, hi, rfl⟩ := List.mem_iff_getElem.1 he
                have := (g2 i (by omega) _ (hrow i (by omega))).2
                have hl4 : (k.es.getD (off + i) []).length = k.sz := h4 _ (getD_mem _ (by omega))
                rw [hget i (by omega), hl4] at this
                simpa [List.getD_eq_getElem?_getD, hi] using this
              · rw [g1] at hi
                have := (g2 i hi _ (hrow i hi)).1
                have h9 := (g2 i hi _ (hrow i hi)).2
                have hl4 : (k.es.getD (off + i) []).length = k.sz := h4 _ (getD_mem _ (by omega))
                rw [hget i hi, hl4] at h9
                have h10 := this.2 j (by omega)
                rwa [getD_map_range _ _ _ hj] at h10
          · cases hf
        · cases hf
      | ptr _ l i off p hp =>
        simp only [fz] at hf
        split at hf
        · rename_i k hk
          split at hf
          · rename_i hcc
            obtain ⟨hi, hoff, hok⟩ := hcc
            obtain ⟨b, o, cs, T, h1, h2, h3, h4, h5, h6⟩ := (F.hr.ok l k hk).out
            rw [hp] at h1; cases h1
            have hnM := F.live l k _ hk hok hp
            have hblt := F.hr.lt l _ hp
            have hl : (k.es.getD i []).length = k.sz := h4 _ (getD_mem _ hi)
            have hm := mul_le (sz := k.sz) hi
            have hcell : ∀ j, j < k.sz - off → w.cell? ⟨b, o + i * k.sz + off + j, none⟩ = some (cs.toList.getD (o + i * k.sz + (off + j)) undef) := fun j hj => by
              have hlt : o + i * k.sz + off + j < cs.size := by omega
              simp only [World.cell?, h2, Option.isSome_none, Bool.false_eq_true, if_false]
              rw [arr_get _ _ hlt, Nat.add_assoc]
            split at hf
            · rename_i hcl
              simp only [Option.some.injEq] at hf
              subst hf
              refine .rp _ _ _ _ _ (by rw [List.length_drop, hl]) (fun j => cs.toList.getD (o + i * k.sz + (off + j)) undef) hnM hblt (fun j hj => hcell j (by rw [List.length_drop, hl] at hj; exact hj)) (fun j hj => ?_)
              simp only [List.length_drop, hl] at hj
              have := h5 i (off + j) hi (by omega)
              rw [if_pos hcl] at this
              have h7 : ((k.es.getD i []).drop off).getD j .bad = (k.es.getD i []).getD (off + j) .bad := by simp [List.getD_eq_getElem?_getD]
              rw [h7]; exact up this
            · rename_i hcl
              simp only [Option.map_eq_some_iff] at hf
              obtain ⟨cs', hf, rfl⟩ := hf
              have hrow : PW (Rep w M φ) ((k.es.getD i []).drop off) ((List.range (k.sz - off)).map fun j => cs.toList.getD (o + i * k.sz + (off + j)) undef) := by
                refine ⟨by rw [List.length_drop, hl, List.length_map, List.length_range], fun j hj => ?_⟩
                simp only [List.length_drop, hl] at hj
                rw [getD_map_range _ _ _ hj]
                have := h5 i (off + j) hi (by omega)
                rw [if_neg hcl] at this
                have h7 : ((k.es.getD i []).drop off).getD j .bad = (k.es.getD i []).getD (off + j) .bad := by simp [List.getD_eq_getElem?_getD]
                rw [h7]; exact this
              obtain ⟨g1, g2⟩ := ih2 _ cs' _ hf hrow
              simp only [List.length_drop, hl] at g2
              refine .rp _ _ _ _ _ g2 (fun j => cs.toList.getD (o + i * k.sz + (off + j)) undef) hnM hblt (fun j hj => hcell j (by omega)) (fun j hj => ?_)
              have := g1.2 j hj
              rwa [getD_map_range _ _ _ (by omega)] at this
          · cases hf
        · cases hf
    · cases cs with
      | nil => simp only [fzL, Option.some.injEq] at hf; subst hf; exact ⟨⟨by simpa using hr.1, fun i hi => by simp at hi⟩, rfl⟩
      | cons c r =>
        simp only [fzL] at hf
        split at hf
        · rename_i a b e1 e2
          simp only [Option.some.injEq] at hf
          subst hf
          cases vl with
          | nil => have := hr.1; simp at this
          | cons v vl =>
            obtain ⟨g1, g2⟩ := ih2 r b vl e2 hr.tail
            exact ⟨g1.cons (ih1 c a v e1 hr.head), by simp [g2]⟩
        · cases hf
    · cases es with
      | nil => simp only [fzLL, Option.some.injEq] at hf; subst hf; exact ⟨rfl, fun i hi => by simp at hi⟩
      | cons c r =>
        simp only [fzLL] at hf
        split at hf
        · rename_i a b e1 e2
          simp only [Option.some.injEq] at hf
          subst hf
          obtain ⟨g1, g2⟩ := ih3 r b e2
          refine ⟨by simp [g1], fun i hi vl hv => ?_⟩
          cases i with
          | zero => simpa using ih2 c a vl e1 (by simpa using hv)
          | succ i => simpa using g2 i (by simpa using hi) vl (by simpa using hv)
        · cases hf

end Go.Aw

/- What is proved of a function's calls ('Spec'), and what a call does to the caller's blocks. -/
namespace Go.Aw
set_option linter.unusedVariables false
set_option linter.unusedSimpArgs false

variable {G : Env} {w : World} {M M' : Nat → Prop} {φ φ' : Pm} {h : Hp}

mutual
def vw (h : Hp) (ok : Okf) (σ : Nat → Option Nat) (n : Nat) : AV → Option AV
  | .agg cs => (vwL h ok σ n cs).map .agg
  | .tup cs => (vwL h ok σ n cs).map .tup
  | .fn f cs => (vwL h ok σ n cs).map (.fn f)
  | .loc l sz off len => match σ l with | some j => some (.loc j sz off len) | none => fz h ok n (.loc l sz off len)
  | .ptr l i o => match σ l with | some j => some (.ptr j i o) | none => fz h ok n (.ptr l i o)
  | .s v => some (.s v)
  | .sl nn sz es => some (.sl nn sz es)
  | .e nl => some (.e nl)
  | .rp m cs => some (.rp m cs)
  | .bad => some .bad
def vwL (h : Hp) (ok : Okf) (σ : Nat → Option Nat) (n : Nat) : List AV → Option (List AV)
  | [] => some []
  | v :: r => match vw h ok σ n v, vwL h ok σ n r with
    | some a, some b => some (a :: b)
    | _, _ => none
end
theorem vwL_len {h : Hp} {ok : Okf} {σ : Nat → Option Nat} {n : Nat} : ∀ (l l' : List AV), vwL h ok σ n l = some l' → l'.length = l.length := by
  intro l
  induction l with
  | nil => intro l' hl; simp only [vwL, Option.some.injEq] at hl; subst hl; rfl
  | cons v r ih =>
    intro l' hl
    simp only [vwL] at hl
    split at hl
    · rename_i a b e1 e2; simp only [Option.some.injEq] at hl; subst hl; simp [ih b e2]
    · cases hl
theorem vwL_get {h : Hp} {ok : Okf} {σ : Nat → Option Nat} {n : Nat} : ∀ (l l' : List AV), vwL h ok σ n l = some l' → ∀ i, i < l.length → vw h ok σ n (l.getD i .bad) = some (l'.getD i .bad) := by
  intro l
  induction l with
  | nil => intro l' hl i hi; simp at hi
  | cons v r ih =>
    intro l' hl i hi
    simp only [vwL] at hl
    split at hl
    · rename_i a b e1 e2
      simp only [Option.some.injEq] at hl; subst hl
      cases i with
      | zero => simpa using e1
      | succ i => simpa using ih b e2 i (by simpa using hi)
    · cases hl

theorem vw_rep {ok : Okf} {σ : Nat → Option Nat} {n : Nat} (F : FzOk w M M' φ h ok) {v : AV} {x : Value} (hr : Rep w M φ v x) :
    ∀ {v' : AV} {φ' : Pm}, FzOk w M M' φ h ok → vw h ok σ n v = some v' → (∀ l p j, φ l = some p → σ l = some j → φ' j = some p) → Rep w M' φ' v' x := by
  have hM := F.sub
  clear F
  induction hr with
  | s φ v => intro v' φ' _ hv _; simp only [vw, Option.some.injEq] at hv; subst hv; exact .s _ _
  | agg φ cs vl hl _ ih =>
    intro v' φ' F hv hσ
    simp only [vw, Option.map_eq_some_iff] at hv
    obtain ⟨cs', hv, rfl⟩ := hv
    have h1 := vwL_len _ _ hv
    exact .agg _ _ _ (by omega) fun i hi => ih i (by omega) F (vwL_get _ _ hv i (by omega)) hσ
  | tup φ cs vl hl _ ih =>
    intro v' φ' F hv hσ
    simp only [vw, Option.map_eq_some_iff] at hv
    obtain ⟨cs', hv, rfl⟩ := hv
    have h1 := vwL_len _ _ hv
    exact .tup _ _ _ (by omega) fun i hi => ih i (by omega) F (vwL_get _ _ hv i (by omega)) hσ
  | fn φ f cs vl hl _ ih =>
    intro v' φ' F hv hσ
    simp only [vw, Option.map_eq_some_iff] at hv
    obtain ⟨cs', hv, rfl⟩ := hv
    have h1 := vwL_len _ _ hv
    exact .fn _ _ _ _ (by omega) fun i hi => ih i (by omega) F (vwL_get _ _ hv i (by omega)) hσ
  | sl φ nn sz es a n' cap mem hn hc hnn hz ha hh ih =>
    intro v' φ' F hv _; simp only [vw, Option.some.injEq] at hv; subst hv
    exact (Rep.sl noPm nn sz es a n' cap mem hn hc hnn hz ha hh).mono (.refl _ _) hM (PExt.no _)
  | e φ nl a h => intro v' φ' _ hv _; simp only [vw, Option.some.injEq] at hv; subst hv; exact .e _ _ _ h
  | rp φ m cs b o hn mem hMb hb ha hh ih =>
    intro v' φ' _ hv _; simp only [vw, Option.some.injEq] at hv; subst hv
    exact (Rep.rp noPm m cs b o hn mem hMb hb ha hh).mono (.refl _ _) hM (PExt.no _)
  | bad φ v => intro v' φ' _ hv _; simp only [vw, Option.some.injEq] at hv; subst hv; exact .bad _ _
  | loc φ l sz off len cap p hp hz hc hs =>
    intro v' φ' F hv hσ
    simp only [vw] at hv
    split at hv
    · rename_i j hj; simp only [Option.some.injEq] at hv; subst hv; exact .loc _ _ _ _ _ _ p (hσ _ _ _ hp hj) hz hc hs
    · exact ((fz_rep F n).1 _ _ _ hv (.loc φ l sz off len cap p hp hz hc hs)).up
  | ptr φ l i off p hp =>
    intro v' φ' F hv hσ
    simp only [vw] at hv
    split at hv
    · rename_i j hj; simp only [Option.some.injEq] at hv; subst hv; exact .ptr _ _ _ _ p (hσ _ _ _ hp hj)
    · exact ((fz_rep F n).1 _ _ _ hv (.ptr φ l i off p hp)).up

def vwE (h : Hp) (ok : Okf) (σ : Nat → Option Nat) (n : Nat) : List (List AV) → Option (List (List AV))
  | [] => some []
  | v :: r => match vwL h ok σ n v, vwE h ok σ n r with
    | some a, some b => some (a :: b)
    | _, _ => none
def vwB (h : Hp) (ok : Okf) (σ : Nat → Option Nat) (n : Nat) (k : Blk) : Option Blk :=
  if k.cl then some k else (vwE h ok σ n k.es).map fun es => { k with es := es }
theorem vwE_spec {h : Hp} {ok : Okf} {σ : Nat → Option Nat} {n : Nat} : ∀ (l l' : List (List AV)), vwE h ok σ n l = some l' → l'.length = l.length ∧ ∀ i, i < l.length → vwL h ok σ n (l.getD i []) = some (l'.getD i []) := by
  intro l
  induction l with
  | nil => intro l' hl; simp only [vwE, Option.some.injEq] at hl; subst hl; exact ⟨rfl, fun i hi => by simp at hi⟩
  | cons v r ih =>
    intro l' hl
    simp only [vwE] at hl
    split at hl
    · rename_i a b e1 e2
      simp only [Option.some.injEq] at hl; subst hl
      obtain ⟨g1, g2⟩ := ih b e2
      exact ⟨by simp [g1], fun i hi => by
        cases i with
        | zero => simpa using e1
        | succ i => simpa using g2 i (by simpa using hi)⟩
    · cases hl

theorem vwB_ok {ok : Okf} {σ : Nat → Option Nat} {n l j : Nat} {k k' : Blk} (F : FzOk w M M' φ h ok) (hk : BlkOk w M φ l k) (hv : vwB h ok σ n k = some k') (hj : ∀ p, φ l = some p → φ' j = some p)
    (hσ : ∀ l p j, φ l = some p → σ l = some j → φ' j = some p) (hm : ∀ p, φ l = some p → (M' p.b ↔ M p.b)) : BlkOk w M' φ' j k' := by
  obtain ⟨b, o, cs, T, h1, h2, h3, h4, h5, h6⟩ := hk.out
  unfold vwB at hv
  split at hv
  · rename_i hc
    simp only [Option.some.injEq] at hv; subst hv
    refine ⟨b, o, cs, T, hj _ h1, h2, h3, h4, fun i q hi hq => ?_, h6.trans (hm _ h1).symm⟩
    have := h5 i q hi hq
    rw [if_pos hc] at this ⊢
    exact this.mono (.refl _ _) F.sub (.refl _)
  · rename_i hc
    simp only [Option.map_eq_some_iff] at hv
    obtain ⟨es', hv, rfl⟩ := hv
    obtain ⟨g1, g2⟩ := vwE_spec _ _ hv
    refine ⟨b, o, cs, T, hj _ h1, h2, by rw [← g1] at h3; exact h3, fun e he => ?_, fun i q hi hq => ?_, h6.trans (hm _ h1).symm⟩
    · obtain ⟨i, hi, rfl⟩ := List.mem_iff_getElem.1 he
      have hi' : i < k.es.length := by simp at hi; omega
      have := vwL_len _ _ (g2 i hi')
      have hl4 : (k.es.getD i []).length = k.sz := h4 _ (getD_mem _ hi')
      rw [hl4] at this
      simpa [List.getD_eq_getElem?_getD, hi] using this
    · simp only at hi hq ⊢
      rw [g1] at hi
      have := h5 i q hi hq
      rw [if_neg hc] at this ⊢
      have hl4 : (k.es.getD i []).length = k.sz := h4 _ (getD_mem _ hi)
      exact vw_rep F this F (vwL_get _ _ (g2 i hi) q (by omega)) hσ

/-- Of every call of f with such arguments, and such blocks that f may write: it returns such a value. -/
def Spec (P : Program) (f : FuncId) (args : List AV) (Hin : List Blk) (r : AV) (Hout : List Blk) : Prop :=
  ∀ (w : World) (M : Nat → Prop) (φ : Pm) (vl : List Value), HRel w M φ (fun l => Hin[l]?) → (∀ l, Hin.length ≤ l → φ l = none) → PW (Rep w M φ) args vl →
    Calls P f ⟨vl⟩ w fun e w' => ∃ v M' φ', e = .returned v ∧ StepOk w M φ w' M' φ' ∧ HRel w' M' φ' (fun l => Hout[l]?) ∧ Rep w' M' φ' r v ∧ Hin.length ≤ Hout.length ∧ (∀ l, Hout.length ≤ l → φ' l = none)

def idx (l : Nat) : List Nat → Option Nat
  | [] => none
  | x :: r => if l = x then some 0 else (idx l r).map (· + 1)
theorem idx_get {l : Nat} : ∀ {L : List Nat} {j : Nat}, idx l L = some j → L[j]? = some l := by
  intro L
  induction L with
  | nil => intro j h; cases h
  | cons x r ih =>
    intro j h
    simp only [idx] at h
    split at h
    · cases h; simp [*]
    · simp only [Option.map_eq_some_iff] at h
      obtain ⟨i, hi, rfl⟩ := h
      simpa using ih hi

def lent (h : Hp) (ok : Okf) (σ : Nat → Option Nat) (n : Nat) : List Nat → Option (List Blk)
  | [] => some []
  | l :: r => match (h l).bind (vwB h ok σ n), lent h ok σ n r with
    | some a, some b => some (a :: b)
    | _, _ => none
theorem lent_spec {h : Hp} {ok : Okf} {σ : Nat → Option Nat} {n : Nat} : ∀ (L : List Nat) (B : List Blk), lent h ok σ n L = some B → B.length = L.length ∧ ∀ (i l : Nat) (b : Blk), L[i]? = some l → B[i]? = some b → ∃ k, h l = some k ∧ vwB h ok σ n k = some b := by
  intro L
  induction L with
  | nil => intro B hB; simp only [lent, Option.some.injEq] at hB; subst hB; exact ⟨rfl, fun i l b h => by simp at h⟩
  | cons l r ih =>
    intro B hB
    simp only [lent] at hB
    split at hB
    · rename_i a b e1 e2
      simp only [Option.some.injEq] at hB; subst hB
      obtain ⟨g1, g2⟩ := ih b e2
      refine ⟨by simp [g1], fun i l' b' hl hb => ?_⟩
      cases i with
      | zero =>
        simp at hl hb; subst hl; subst hb
        cases hk : h l with
        | none => rw [hk] at e1; cases e1
        | some k => rw [hk] at e1; exact ⟨k, rfl, e1⟩
      | succ i => exact g2 i l' b' (by simpa using hl) (by simpa using hb)
    · cases hB

/-- Where the callee's numbers lie among the caller's. -/
def back (σl : List Nat) (nx m : Nat) (j : Nat) : Option Nat := if j < σl.length then σl[j]? else if j < m then some (nx + (j - σl.length)) else none
def okRead : Okf := fun _ k => !k.wr
/-- The caller's blocks behind the call. -/
def insB (τ : Nat → Option Nat) : Nat → List Blk → List (Nat × Blk)
  | _, [] => []
  | j, k :: r => match τ j with | some l => (l, renB τ k) :: insB τ (j + 1) r | none => insB τ (j + 1) r

theorem insB_no {τ : Nat → Option Nat} {l : Nat} : ∀ (L : List Blk) (j : Nat) (h : Hp), (∀ i, i < L.length → τ (j + i) ≠ some l) → insH h (insB τ j L) l = h l := by
  intro L
  induction L with
  | nil => intro j h _; rfl
  | cons k r ih =>
    intro j h hn
    simp only [insB]
    have h0 := hn 0 (by simp)
    have hr : ∀ i, i < r.length → τ (j + 1 + i) ≠ some l := fun i hi => by have := hn (i + 1) (by simp; omega); rwa [show j + (i + 1) = j + 1 + i by omega] at this
    split
    · rename_i l0 e
      simp only [insH]
      rw [ih _ _ hr]
      unfold updH
      rw [if_neg]
      intro e'; subst e'; exact h0 e
    · exact ih _ _ hr
theorem insB_at {τ : Nat → Option Nat} {l : Nat} : ∀ (L : List Blk) (j i : Nat) (k : Blk) (h : Hp), L[i]? = some k → τ (j + i) = some l → (∀ a b x, a < j + L.length → b < j + L.length → τ a = some x → τ b = some x → a = b) →
    insH h (insB τ j L) l = some (renB τ k) := by
  intro L
  induction L with
  | nil => intro j i k h hi _ _; simp at hi
  | cons k0 r ih =>
    intro j i k h hi hτ hinj
    simp only [insB]
    cases i with
    | zero =>
      simp only [List.getElem?_cons_zero, Option.some.injEq] at hi; subst hi
      rw [Nat.add_zero] at hτ
      rw [hτ]
      simp only [insH]
      rw [insB_no]
      · simp [updH]
      · intro i hi e
        have := hinj j (j + 1 + i) l (by simp) (by simp; omega) hτ e
        omega
    | succ i =>
      simp only [List.getElem?_cons_succ] at hi
      have hτ' : τ (j + 1 + i) = some l := by rwa [show j + (i + 1) = j + 1 + i by omega] at hτ
      have hinj' : ∀ a b x, a < j + 1 + r.length → b < j + 1 + r.length → τ a = some x → τ b = some x → a = b := fun a b x ha hb => hinj a b x (by simp; omega) (by simp; omega)
      split
      · simp only [insH]; exact ih _ _ _ _ hi hτ' hinj'
      · exact ih _ _ _ _ hi hτ' hinj'

theorem back_lt {σl : List Nat} {nx m j : Nat} (h : j < σl.length) : back σl nx m j = σl[j]? := if_pos h
theorem back_ge {σl : List Nat} {nx m j : Nat} (h : σl.length ≤ j) (hm : j < m) : back σl nx m j = some (nx + (j - σl.length)) := by
  unfold back; rw [if_neg (by omega), if_pos hm]
theorem back_inj {σl : List Nat} {nx m : Nat} (hd : σl.Nodup) (hs : ∀ l ∈ σl, l < nx) (a b x : Nat) (ha : back σl nx m a = some x) (hb : back σl nx m b = some x) : a = b := by
  unfold back at ha hb
  split at ha <;> split at hb
  · rename_i h1 h2
    exact (List.getElem?_inj h1 hd).1 (ha.trans hb.symm)
  · rename_i h1 h2
    split at hb
    · simp only [Option.some.injEq] at hb; subst hb
      have := hs _ (List.mem_of_getElem? ha); omega
    · cases hb
  · rename_i h1 h2
    split at ha
    · simp only [Option.some.injEq] at ha; subst ha
      have := hs _ (List.mem_of_getElem? hb); omega
    · cases ha
  · split at ha <;> split at hb <;> first | (cases ha; done) | (cases hb; done) | (simp only [Option.some.injEq] at ha hb; omega)

/-- A call that is lent some of the caller's blocks, and reads others that nobody writes any more. -/
theorem call_gen {P : Program} {f : FuncId} {vs args' : List AV} {vl : List Value} {σl : List Nat} {Hin Hout : List Blk} {r : AV} {nx n : Nat} {ok : Okf} (HR : HRel w M φ h) (hnx : ∀ l, nx ≤ l → φ l = none)
    (hok : ∀ l k, ok l k = true → k.wr = false) (hd : σl.Nodup) (hv : vwL h ok (idx · σl) n vs = some args') (hB : lent h ok (idx · σl) n σl = some Hin) (hs : Spec P f args' Hin r Hout) (ha : PW (Rep w M φ) vs vl) :
    Calls P f ⟨vl⟩ w fun e w' => ∃ v M' φ', e = .returned v ∧ StepOk w M φ w' M' φ' ∧ HRel w' M' φ' (insH h (insB (back σl nx Hout.length) 0 Hout)) ∧ Rep w' M' φ' (ren (back σl nx Hout.length) r) v ∧ σl.length ≤ Hout.length ∧
      (∀ l, φ' l ≠ none → φ l ≠ none ∨ (nx ≤ l ∧ l < nx + (Hout.length - σl.length))) := by
  obtain ⟨hBl, hBg⟩ := lent_spec _ _ hB
  have F : FzOk w M M φ h ok := ⟨HR, fun _ _ h => h, fun l k p hk ho hp hM => by
    obtain ⟨b, o, cs, T, h1, h2, h3, h4, h5, h6⟩ := (HR.ok l k hk).out
    rw [hp] at h1; cases h1
    have := h6.2 hM
    rw [hok l k ho] at this; cases this⟩
  let φc : Pm := fun j => (σl[j]?).bind φ
  have hσ : ∀ l p j, φ l = some p → idx l σl = some j → φc j = some p := fun l p j hp hj => by
    simp only [φc, idx_get hj, Option.bind_some, hp]
  have hlive : ∀ j l, σl[j]? = some l → ∃ k b, h l = some k ∧ Hin[j]? = some b ∧ vwB h ok (idx · σl) n k = some b := fun j l hj => by
    have hjl : j < σl.length := by
      rcases Nat.lt_or_ge j σl.length with q | q
      · exact q
      · rw [List.getElem?_eq_none q] at hj; cases hj
    obtain ⟨b, hb⟩ : ∃ b, Hin[j]? = some b := ⟨Hin[j]'(by omega), List.getElem?_eq_getElem (by omega)⟩
    obtain ⟨k, hk, hkb⟩ := hBg j l b hj hb
    exact ⟨k, b, hk, hb, hkb⟩
  have hsn : ∀ l ∈ σl, l < nx := fun l hl => by
    obtain ⟨j, hj⟩ := List.getElem?_of_mem hl
    obtain ⟨k, b, hk, _⟩ := hlive j l hj
    obtain ⟨b', o, cs, T, h1, _⟩ := (HR.ok l k hk).out
    rcases Nat.lt_or_ge l nx with q | q
    · exact q
    · rw [hnx l q] at h1; cases h1
  have HRc : HRel w M φc (fun l => Hin[l]?) := by
    refine ⟨fun j b hb => ?_, fun j j' b b' p p' hb hb' hp hp' e => ?_, fun j p hp => ?_⟩
    · have hjl : j < σl.length := by
        rcases Nat.lt_or_ge j σl.length with q | q
        · exact q
        · rw [List.getElem?_eq_none (by omega)] at hb; cases hb
      obtain ⟨k, b1, hk, hb1, hkb⟩ := hlive j σl[j] (List.getElem?_eq_getElem hjl)
      have : b1 = b := by rw [hb1] at hb; exact Option.some.inj hb
      subst this
      exact vwB_ok F (HR.ok _ _ hk) hkb (fun p hp => by simp only [φc, List.getElem?_eq_getElem hjl, Option.bind_some, hp]) hσ (fun _ _ => Iff.rfl)
    · simp only [φc, Option.bind_eq_some_iff] at hp hp'
      obtain ⟨l, hl, hp⟩ := hp
      obtain ⟨l', hl', hp'⟩ := hp'
      obtain ⟨k, _, hk, _⟩ := hlive j l hl
      obtain ⟨k', _, hk', _⟩ := hlive j' l' hl'
      have := HR.inj l l' k k' p p' hk hk' hp hp' e
      subst this
      have h1 : j < σl.length := by
        rcases Nat.lt_or_ge j σl.length with q | q
        · exact q
        · rw [List.getElem?_eq_none q] at hl; cases hl
      have h2 : j' < σl.length := by
        rcases Nat.lt_or_ge j' σl.length with q | q
        · exact q
        · rw [List.getElem?_eq_none q] at hl'; cases hl'
      exact (List.getElem?_inj h1 hd).1 (hl.trans hl'.symm)
    · simp only [φc, Option.bind_eq_some_iff] at hp
      obtain ⟨l, hl, hp⟩ := hp
      exact HR.lt l p hp
  have hargs : PW (Rep w M φc) args' vl := by
    have hl := vwL_len _ _ hv
    exact ⟨by have := ha.1; omega, fun i hi => vw_rep F (ha.2 i (by omega)) F (vwL_get _ _ hv i (by omega)) hσ⟩
  have hc0 : ∀ l, Hin.length ≤ l → φc l = none := fun l hl => by simp only [φc]; rw [List.getElem?_eq_none (by omega)]; rfl
  refine (hs w M φc vl HRc hc0 hargs).mono ?_
  rintro e w' ⟨v, M1, φ1, rfl, hst, hH, hr, hle, hdom⟩
  rw [hBl] at hle
  let φ' : Pm := fun l => if nx ≤ l ∧ l < nx + (Hout.length - σl.length) then φ1 (σl.length + (l - nx)) else φ l
  have hext : ∀ l p, φ l = some p → φ' l = some p := fun l p hp => by
    simp only [φ']
    rw [if_neg]; exact hp
    intro h1; rw [hnx l h1.1] at hp; cases hp
  have hτ : ∀ j p l, φ1 j = some p → back σl nx Hout.length j = some l → φ' l = some p := fun j p l hp hl => by
    by_cases hj : j < σl.length
    · rw [back_lt hj] at hl
      obtain ⟨k, _, hk, _⟩ := hlive j l hl
      obtain ⟨b', o, cs, T, h1, _⟩ := (HR.ok l k hk).out
      have h2 : φc j = some ⟨b', o, k.sz⟩ := by simp only [φc, hl, Option.bind_some, h1]
      have h3 := hst.pext _ _ h2
      rw [hp] at h3
      rw [Option.some.inj h3]
      exact hext _ _ h1
    · have hj2 : j < Hout.length := by
        rcases Nat.lt_or_ge j Hout.length with q | q
        · exact q
        · rw [hdom j q] at hp; cases hp
      rw [back_ge (by omega) hj2] at hl
      cases hl
      simp only [φ']
      rw [if_pos (by omega), show σl.length + (nx + (j - σl.length) - nx) = j by omega]; exact hp
  have hnew : ∀ l p, φ' l = some p → φ l = some p ∨ (nx ≤ l ∧ l < nx + (Hout.length - σl.length) ∧ φ1 (σl.length + (l - nx)) = some p ∧ w.heap.size ≤ p.b) := fun l p hp => by
    simp only [φ'] at hp
    split at hp
    · rename_i hc
      right
      refine ⟨hc.1, hc.2, hp, ?_⟩
      rcases hst.fresh _ _ hp with q | q
      · rw [hc0 _ (by omega)] at q; cases q
      · exact q
    · exact .inl hp
  refine ⟨v, M1, φ', rfl, ⟨hst.ext, hext, hst.m, fun b hb hf => hst.frame b hb fun l p hp => ?_, fun l p hp => ?_, hst.os, hst.tape, hst.out⟩, ?_, hr.ren hτ, hle, fun l hl => ?_⟩
  · simp only [φc, Option.bind_eq_some_iff] at hp
    obtain ⟨l', hl', hp⟩ := hp
    exact hf l' p hp
  · rcases hnew l p hp with q | q
    · exact .inl q
    · exact .inr q.2.2.2
  · -- the blocks
    have hinj := back_inj (m := Hout.length) hd hsn
    have hat : ∀ j k l, Hout[j]? = some k → back σl nx Hout.length j = some l → insH h (insB (back σl nx Hout.length) 0 Hout) l = some (renB (back σl nx Hout.length) k) := fun j k l hj hl =>
      insB_at Hout 0 j k h hj (by rw [Nat.zero_add]; exact hl) (fun a b x _ _ => hinj a b x)
    have hcase : ∀ l k, insH h (insB (back σl nx Hout.length) 0 Hout) l = some k → (∃ j kk, Hout[j]? = some kk ∧ back σl nx Hout.length j = some l ∧ k = renB (back σl nx Hout.length) kk) ∨ (h l = some k ∧ (∀ j, σl[j]? ≠ some l)) := fun l k hk => by
      by_cases hex : ∃ j, j < Hout.length ∧ back σl nx Hout.length j = some l
      · obtain ⟨j, hj, hl⟩ := hex
        have := hat j Hout[j] l (List.getElem?_eq_getElem hj) hl
        rw [hk] at this
        exact .inl ⟨j, Hout[j], List.getElem?_eq_getElem hj, hl, Option.some.inj this⟩
      · right
        rw [insB_no Hout 0 h (fun i hi e => hex ⟨i, hi, by rwa [Nat.zero_add] at e⟩)] at hk
        refine ⟨hk, fun j hj => hex ?_⟩
        have hjl : j < σl.length := by
          rcases Nat.lt_or_ge j σl.length with q | q
          · exact q
          · rw [List.getElem?_eq_none q] at hj; cases hj
        exact ⟨j, by omega, by rw [back_lt hjl]; exact hj⟩
    have hold : ∀ l k p, h l = some k → (∀ j, σl[j]? ≠ some l) → φ l = some p → w'.heap[p.b]? = w.heap[p.b]? := fun l k p hk hn hp => by
      refine hst.frame p.b (HR.lt l p hp) fun j q hq e => ?_
      simp only [φc, Option.bind_eq_some_iff] at hq
      obtain ⟨l', hl', hq⟩ := hq
      obtain ⟨k', _, hk', _⟩ := hlive j l' hl'
      have := HR.inj l' l k' k q p hk' hk hq hp e
      subst this
      exact hn j hl'
    refine ⟨fun l k hk => ?_, fun l l' k k' p p' hk hk' hp hp' e => ?_, fun l p hp => ?_⟩
    · rcases hcase l k hk with ⟨j, kk, hj, hl, rfl⟩ | ⟨hk0, hn⟩
      · exact (hH.ok j kk hj).ren (fun p hp => hτ j p l hp hl) (fun l p j => hτ l p j)
      · exact (HR.ok l k hk0).mono hst.ext hst.m hext (fun p hp => HR.lt l p hp) fun p hp => hold l k p hk0 hn hp
    · have hloc : ∀ l k p, insH h (insB (back σl nx Hout.length) 0 Hout) l = some k → φ' l = some p → (∃ j kk, Hout[j]? = some kk ∧ back σl nx Hout.length j = some l ∧ φ1 j = some p) ∨ (h l = some k ∧ (∀ j, σl[j]? ≠ some l) ∧ φ l = some p ∧ p.b < w.heap.size) := fun l k p hk hp => by
        rcases hcase l k hk with ⟨j, kk, hj, hl, rfl⟩ | ⟨hk0, hn⟩
        · left
          obtain ⟨b', o, cs, T, h1, _⟩ := (hH.ok j kk hj).out
          have h2 := hτ j _ l h1 hl
          rw [hp] at h2
          exact ⟨j, kk, hj, hl, by rw [Option.some.inj h2]; exact h1⟩
        · right
          obtain ⟨b', o, cs, T, h1, _⟩ := (HR.ok l k hk0).out
          have h2 := hext _ _ h1
          rw [hp] at h2
          have h3 : φ l = some p := by rw [Option.some.inj h2]; exact h1
          exact ⟨hk0, hn, h3, HR.lt l p h3⟩
      have hmix : ∀ j kk l2 k2 p q, Hout[j]? = some kk → φ1 j = some p → h l2 = some k2 → (∀ j, σl[j]? ≠ some l2) → φ l2 = some q → q.b < w.heap.size → p.b ≠ q.b := fun j kk l2 k2 p q hj hp hk2 hn2 hq hlt e => by
        rcases hst.fresh j p hp with q1 | q1
        · simp only [φc, Option.bind_eq_some_iff] at q1
          obtain ⟨l', hl', hp2⟩ := q1
          obtain ⟨k', _, hk', _⟩ := hlive j l' hl'
          have := HR.inj l' l2 k' k2 p q hk' hk2 hp2 hq e
          subst this
          exact hn2 j hl'
        · omega
      rcases hloc l k p hk hp with ⟨j, kk, hj, hl, hp1⟩ | ⟨hk0, hn, hp0, hlt⟩ <;> rcases hloc l' k' p' hk' hp' with ⟨j', kk', hj', hl', hp1'⟩ | ⟨hk0', hn', hp0', hlt'⟩
      · have := hH.inj j j' kk kk' p p' hj hj' hp1 hp1' e
        subst this
        rw [hl] at hl'; exact Option.some.inj hl'
      · exact absurd e (hmix j kk l' k' p p' hj hp1 hk0' hn' hp0' hlt')
      · exact absurd e.symm (hmix j' kk' l k p' p hj' hp1' hk0 hn hp0 hlt)
      · exact HR.inj l l' k k' p p' hk0 hk0' hp0 hp0' e
    · rcases hnew l p hp with q | q
      · exact Nat.lt_of_lt_of_le (HR.lt l p q) hst.ext.size
      · exact hH.lt _ _ q.2.2.1
  · by_cases hc : φ l = none
    · cases hq : φ' l with
      | none => exact absurd hq hl
      | some p =>
        rcases hnew l p hq with q | q
        · rw [hc] at q; cases q
        · exact .inr ⟨q.1, q.2.1⟩
    · exact .inl hc

end Go.Aw

/- Calls whose answer holds numbers alone; append. -/
namespace Go.Aw
set_option linter.unusedVariables false
set_option linter.unusedSimpArgs false

variable {G : Env} {w : World} {M M' : Nat → Prop} {φ φ' : Pm} {h : Hp}

mutual
def flat : AV → Bool
  | .s _ => true
  | .agg cs => flatL cs
  | .tup cs => flatL cs
  | _ => false
def flatL : List AV → Bool
  | [] => true
  | v :: r => flat v && flatL r
end
theorem flatL_get : ∀ (l : List AV), flatL l = true → ∀ i, i < l.length → flat (l.getD i .bad) = true := by
  intro l
  induction l with
  | nil => intro _ i hi; simp at hi
  | cons v r ih =>
    intro h i hi
    simp only [flatL, Bool.and_eq_true] at h
    cases i with
    | zero => simpa using h.1
    | succ i => simpa using ih h.2 i (by simpa using hi)
theorem Rep.flat {w' : World} {v : AV} {x : Value} (hr : Rep w M φ v x) : Aw.flat v = true → Rep w' M' φ' v x := by
  induction hr with
  | s φ v => intro _; exact .s _ _
  | agg φ cs vl hl _ ih => intro hf; exact .agg _ _ _ hl fun i hi => ih i hi (flatL_get _ hf i hi)
  | tup φ cs vl hl _ ih => intro hf; exact .tup _ _ _ hl fun i hi => ih i hi (flatL_get _ hf i hi)
  | _ => intro hf; cases hf

def okAll : Okf := fun _ _ => true

theorem call_flat {P : Program} {f : FuncId} {vs args' : List AV} {vl : List Value} {r : AV} {n : Nat} (HR : HRel w M φ h)
    (hv : vwL h okAll (fun _ => none) n vs = some args') (hs : Spec P f args' [] r []) (hf : flat r = true) (ha : PW (Rep w M φ) vs vl) :
    Calls P f ⟨vl⟩ w fun e w' => ∃ v, e = .returned v ∧ StepOk w M φ w' M φ ∧ HRel w' M φ h ∧ Rep w' M φ r v := by
  let Mc : Nat → Prop := fun b => M b ∧ ∀ l k p, h l = some k → φ l = some p → p.b ≠ b
  have F : FzOk w M Mc φ h okAll := ⟨HR, fun _ _ h => h.1, fun l k p hk _ hp hM => hM.2 l k p hk hp rfl⟩
  have hargs : PW (Rep w Mc noPm) args' vl := by
    have hl := vwL_len _ _ hv
    exact ⟨by have := ha.1; omega, fun i hi => vw_rep F (ha.2 i (by omega)) F (vwL_get _ _ hv i (by omega)) (fun _ _ _ _ h => by cases h)⟩
  have H0 : HRel w Mc noPm (fun l => ([] : List Blk)[l]?) := ⟨fun l k hk => by simp at hk, fun l l' k k' p p' hk => by simp at hk, fun l p hp => by cases hp⟩
  refine (hs w Mc noPm vl H0 (fun _ _ => rfl) hargs).mono ?_
  rintro e w' ⟨v, M1, φ1, rfl, hst, hH, hr, _, hdom⟩
  have hall : ∀ b, b < w.heap.size → w'.heap[b]? = w.heap[b]? := fun b hb => hst.frame b hb fun l p hp => by cases hp
  have hext : WExt M w w' := ⟨hst.ext.size, fun b hb _ => hall b hb, hst.ext.shape⟩
  exact ⟨v, rfl, ⟨hext, .refl _, fun _ _ => Iff.rfl, fun b hb _ => hall b hb, fun _ _ h => .inl h, hst.os, hst.tape, hst.out⟩,
    ⟨fun l k hk => (HR.ok l k hk).mono hext (fun _ _ => Iff.rfl) (.refl _) (fun p hp => HR.lt l p hp) fun p hp => hall _ (HR.lt l p hp), HR.inj, fun l p hp => Nat.lt_of_lt_of_le (HR.lt l p hp) hst.ext.size⟩, hr.flat hf⟩

/-- A call that is lent nothing, and may hand back what it was given: blocks that nobody writes any more. -/
theorem call_pure {P : Program} {f : FuncId} {vs args' : List AV} {vl : List Value} {r : AV} {n : Nat} (HR : HRel w M φ h)
    (hv : vwL h okRead (fun _ => none) n vs = some args') (hs : Spec P f args' [] r []) (ha : PW (Rep w M φ) vs vl) :
    Calls P f ⟨vl⟩ w fun e w' => ∃ v M', e = .returned v ∧ StepOk w M φ w' M' φ ∧ HRel w' M' φ h ∧ Rep w' M' φ r v := by
  have F : FzOk w M M φ h okRead := ⟨HR, fun _ _ h => h, fun l k p hk ho hp hM => by
    obtain ⟨b, o, cs, T, h1, h2, h3, h4, h5, h6⟩ := (HR.ok l k hk).out
    rw [hp] at h1; cases h1
    have := h6.2 hM
    simp [okRead, this] at ho⟩
  have hargs : PW (Rep w M noPm) args' vl := by
    have hl := vwL_len _ _ hv
    exact ⟨by have := ha.1; omega, fun i hi => vw_rep F (ha.2 i (by omega)) F (vwL_get _ _ hv i (by omega)) (fun _ _ _ _ h => by cases h)⟩
  have H0 : HRel w M noPm (fun l => ([] : List Blk)[l]?) := ⟨fun l k hk => by simp at hk, fun l l' k k' p p' hk => by simp at hk, fun l p hp => by cases hp⟩
  refine (hs w M noPm vl H0 (fun _ _ => rfl) hargs).mono ?_
  rintro e w' ⟨v, M1, φ1, rfl, hst, hH, hr, _, hdom⟩
  have hall : ∀ b, b < w.heap.size → w'.heap[b]? = w.heap[b]? := fun b hb => hst.frame b hb fun l p hp => by cases hp
  have hφ1 : φ1 = noPm := by funext l; exact hdom l (Nat.zero_le _)
  subst hφ1
  exact ⟨v, M1, rfl, ⟨hst.ext, .refl _, hst.m, fun b hb _ => hall b hb, fun _ _ h => .inl h, hst.os, hst.tape, hst.out⟩,
    ⟨fun l k hk => (HR.ok l k hk).mono hst.ext hst.m (.refl _) (fun p hp => HR.lt l p hp) fun p hp => hall _ (HR.lt l p hp), HR.inj, fun l p hp => Nat.lt_of_lt_of_le (HR.lt l p hp) hst.ext.size⟩, hr.up⟩

/-! ### append -/
/-- The elements of what is appended: how many cells each has, they, and whether none leads to a block of the code. -/
def xel (h : Hp) : AV → Option (Nat × List (List AV) × Bool)
  | .sl _ sz es => some (sz, es, true)
  | .e _ => some (0, [], true)
  | .loc l sz off len => match h l with
    | some k => if off + len ≤ k.es.length ∧ k.sz = sz then some (sz, (if off = 0 ∧ len = k.es.length then k.es else (k.es.drop off).take len), k.cl) else none
    | none => none
  | _ => none

theorem load_flat {P : Program} {b o n sz : Nat} (mem : Nat → Nat → Value) (hc : ∀ i j, i < n → j < sz → w.cell? ⟨b, o + i * sz + j, none⟩ = some (mem i j)) :
    ∃ cv : Array Value, (loadCells ⟨b, o, none⟩ (n * sz)).run P w = .ok cv w ∧ cv.size = n * sz ∧ ∀ i j, i < n → j < sz → cv.toList.getD (i * sz + j) undef = mem i j := by
  have h1 := run_loadCells (P := P) (w := w) (b := b) (o := o) (fun q => mem (q / sz) (q % sz)) (n * sz) 0 #[] (fun q hq => by
    simp only [Nat.zero_add]
    rcases Nat.eq_zero_or_pos sz with e | e
    · subst e; simp at hq
    · have hi : q / sz < n := (Nat.div_lt_iff_lt_mul e).2 hq
      have hj : q % sz < sz := Nat.mod_lt _ e
      have := hc (q / sz) (q % sz) hi hj
      rwa [Nat.add_assoc, Nat.mul_comm, Nat.div_add_mod] at this)
  refine ⟨_, h1, by simp, fun i j hi hj => ?_⟩
  have hm := mul_le (sz := sz) hi
  simp only [Nat.zero_add, Array.empty_append]
  rw [getD_map_range _ _ _ (by omega)]
  have hpos : 0 < sz := by omega
  have e1 : (i * sz + j) / sz = i := by rw [Nat.mul_comm, Nat.mul_add_div hpos, Nat.div_eq_of_lt hj]; omega
  have e2 : (i * sz + j) % sz = j := by rw [Nat.mul_comm, Nat.mul_add_mod, Nat.mod_eq_of_lt hj]
  rw [e1, e2]

theorem take_drop_get {es : List (List AV)} {off len i : Nat} (hi : i < len) : ((es.drop off).take len).getD i [] = es.getD (off + i) [] := by
  simp [List.getD_eq_getElem?_getD, List.getElem?_take, hi]

/-- What a slice's memory holds. -/
theorem xel_spec {x : AV} {xv : Value} {sz : Nat} {es : List (List AV)} {cl : Bool} (HR : HRel w M φ h) (hx : Rep w M φ x xv) (he : xel h x = some (sz, es, cl)) (size : Nat) (hsz : es = [] ∨ sz = size) :
    (Builtin.lenOf xv).run G.P w = .ok es.length w ∧ ∃ cv, (Builtin.firstCells size es.length xv).run G.P w = .ok cv w ∧ cv.size = es.length * size ∧ RF w M (if cl then noPm else φ) size es cv := by
  cases hx with
  | s => cases he
  | agg => cases he
  | tup => cases he
  | ptr => cases he
  | rp => cases he
  | fn => cases he
  | bad => cases he
  | e _ nl a hnl =>
    simp only [xel, Option.some.injEq, Prod.mk.injEq] at he
    obtain ⟨rfl, rfl, rfl⟩ := he
    refine ⟨rfl, #[], ?_, by simp, ⟨by simp, by simp⟩, by simp, by simp⟩
    cases a with
    | none => rfl
    | some a => simp [Builtin.firstCells, loadCells, loadCellsFrom, run_pure]
  | sl _ nn sz' es' a n cap mem hn hc hnn hz ha hh =>
    simp only [xel, Option.some.injEq, Prod.mk.injEq] at he
    obtain ⟨rfl, rfl, rfl⟩ := he
    subst hn
    refine ⟨rfl, ?_⟩
    by_cases hne : es' = []
    · subst hne
      refine ⟨#[], ?_, by simp, ⟨by simp, by simp⟩, by simp, by simp⟩
      cases a with
      | none => rfl
      | some a => simp [Builtin.firstCells, loadCells, loadCellsFrom, run_pure]
    · have hszz := hsz.resolve_left hne
      subst hszz
      obtain ⟨b, o, rfl, hM, hb, hcell⟩ := ha hne
      obtain ⟨cv, h1, h2, h3⟩ := load_flat (P := G.P) mem hcell
      exact ⟨cv, h1, h2, ⟨by omega, fun i j hi hj => by rw [h3 i j hi hj]; exact hnn.2 i j hi hj⟩, hz, fun i j hi hj => by rw [h3 i j hi hj]; exact hh i j hi hj⟩
  | loc _ l sz' off len cap p hp hz hc hs =>
    simp only [xel] at he
    split at he
    · rename_i k hk
      split at he
      · rename_i hcc
        simp only [Option.some.injEq, Prod.mk.injEq] at he
        obtain ⟨rfl, he, rfl⟩ := he
        have hes : es = (k.es.drop off).take len := by
          rw [← he]; split
          · rename_i e; rw [e.1, e.2]; simp
          · rfl
        subst hes
        obtain ⟨b, o, cs, T, h1, h2, h3, h4, h5, h6⟩ := (HR.ok l k hk).out
        rw [hp] at h1; cases h1
        have hlen : ((k.es.drop off).take len).length = len := by simp; omega
        rw [hlen]
        refine ⟨rfl, ?_⟩
        by_cases hl0 : len = 0
        · subst hl0
          refine ⟨#[], ?_, by simp, ⟨by simp, by simp⟩, by simp, by simp⟩
          simp [Builtin.firstCells, loadCells, loadCellsFrom, run_pure]
        · have hne : (k.es.drop off).take len ≠ [] := by intro e; rw [e] at hlen; simp at hlen; omega
          have hszz : k.sz = size := by rcases hsz with q | q; exact absurd q hne; omega
          have hks := hcc.2
          subst hszz
          obtain ⟨cv, g1, g2, g3⟩ := load_flat (P := G.P) (w := w) (b := b) (o := o + off * k.sz) (n := len) (sz := k.sz) (fun i j => cs.toList.getD (o + (off + i) * k.sz + j) undef) (fun i j hi hj => by
            have := mul_le (sz := k.sz) (show off + i < k.es.length by omega)
            have e : o + off * k.sz + i * k.sz + j = o + (off + i) * k.sz + j := by rw [Nat.add_mul]; omega
            have hlt : o + (off + i) * k.sz + j < cs.size := by omega
            rw [e]
            simp only [World.cell?, h2, Option.isSome_none, Bool.false_eq_true, if_false]
            rw [arr_get _ _ hlt])
          refine ⟨cv, ?_, g2, ⟨by rw [hlen]; omega, fun i j hi hj => by rw [hlen] at hi; rw [g3 i j hi hj]; exact h3.2 (off + i) j (by omega) hj⟩, fun e he' => h4 e (List.mem_of_mem_drop (List.mem_of_mem_take he')), fun i j hi hj => ?_⟩
          · rw [← hks] at *; exact g1
          · rw [hlen] at hi
            rw [g3 i j hi hj, take_drop_get hi]
            exact h5 (off + i) j (by omega) hj
      · cases he
    · cases he

theorem nextcap_le (need cap : Nat) (h : cap < need) : Builtin.nextslicecap need cap ≤ 4 * need + 4096 := by
  unfold Builtin.nextslicecap
  split
  · omega
  · split
    · omega
    · simp only [Builtin.growBy]
      repeat' split
      all_goals omega

theorem zeroCells_eq (zl : List Value) (n : Nat) : (Builtin.zeroCells ⟨zl⟩ n).size = n * zl.length := by
  simp [Builtin.zeroCells]

def drew1 (w : World) : World := { w with drawn := w.drawn + 1 }
def isInt : TypeDesc → Bool
  | .int _ => true
  | _ => false
theorem hm1 : ∀ d : TypeDesc, isInt d = false → (match d with | .int _ => true | _ => false) = false := by intro d h; cases d <;> first | rfl | simp [isInt] at h
/-- The machine's append where there is no room: a new row. -/
theorem append_new {ts : Array TypeId} {ty t e x1 : TypeId} {d1 : TypeDesc} {ti : TI} {xv : Value} {base : Option Addr} {sLen sCap n : Nat} {old new : Array Value} (ht0 : ts[0]? = some t) (hd : G.P.underlying t = some (.slice e)) (hti : tinfo G.P e = some ti)
    (hz : 0 < ti.sz) (hzl : ti.zero.length = ti.sz) (ht1 : ts[1]? = some x1) (hd1 : G.P.underlying x1 = some d1) (hi1 : isInt d1 = false) (hlen : (Builtin.lenOf xv).run G.P w = .ok n w) (hroom : sCap < sLen + n)
    (hby : (sLen + n) * ti.by_ ≤ 35184372088832) (hb1 : 0 < ti.by_) (hb2 : ti.by_ ≤ 4294967296) (hold : (Builtin.firstCells ti.sz sLen (.slice base sLen sCap)).run G.P (drew1 w) = .ok old (drew1 w)) (hnew : (Builtin.firstCells ti.sz n xv).run G.P (drew1 w) = .ok new (drew1 w)) :
    ∃ c rest, (Builtin.append_ ts ty #[.slice base sLen sCap, xv]).run G.P w = .ok (.slice (some ⟨w.heap.size, 0, none⟩) (sLen + n) c) (pushB (drew1 w) (.cells (old ++ new ++ rest) e)) ∧ sLen + n ≤ c ∧ rest.size = (c - (sLen + n)) * ti.sz := by
  obtain ⟨j, d', hj, hd', ha, hkk, hs, hb, hzr, _⟩ := tinfo_spec hti
  have htinfo : ∀ w : World, (typeInfo e).run G.P w = .ok j w := fun w => by simp [typeInfo, program, Sem.run, bind, Sem.bind, pure, hj]
  obtain ⟨z, hzv, hzc⟩ := tinfo_zero (w := drew1 w) hti hz hzl
  have hzc' : z.cells = ⟨ti.zero⟩ := by rw [← hzc]
  have hcap : Builtin.nextslicecap (sLen + n) sCap * j.bytes ≤ 2 ^ 48 := by
    rw [← hb]
    have h1 := nextcap_le (sLen + n) sCap hroom
    have h2 := Nat.mul_le_mul_right ti.by_ h1
    have h3 : (4 * (sLen + n) + 4096) * ti.by_ = 4 * ((sLen + n) * ti.by_) + 4096 * ti.by_ := by rw [Nat.add_mul, Nat.mul_assoc]
    have : (2 : Nat) ^ 48 = 281474976710656 := by decide
    omega
  have hcut : ∀ q, sLen + n ≤ (Question.appendCap (sLen + n) sCap e).cut q := fun q => by simp [Question.cut]
  have hch : (choose (.appendCap (sLen + n) sCap e)).run G.P w = .ok ((Question.appendCap (sLen + n) sCap e).cut (w.tape w.drawn (.appendCap (sLen + n) sCap e))) (drew1 w) := by
    simp [choose, Sem.run, Question.forced, drew1]
  generalize hc : (Question.appendCap (sLen + n) sCap e).cut (w.tape w.drawn (.appendCap (sLen + n) sCap e)) = c at hch
  have hcc : sLen + n ≤ c := hc ▸ hcut _
  refine ⟨c, Builtin.zeroCells ⟨ti.zero⟩ (c - (sLen + n)), ?_, hcc, by rw [zeroCells_eq, hzl]⟩
  have hask : ∀ (b : Nat) (w : World), (askRoom b).run G.P w = .ok () w := fun b w => by unfold askRoom; split <;> rfl
  have hnr : ∀ (cc : Array Value) (w : World), (newRow e cc).run G.P w = .ok ⟨w.heap.size, 0, none⟩ (pushB w (.cells cc e)) := fun cc w => by
    simp [newRow, newObj, Sem.run, bind, Sem.bind, pure, pushB]
  unfold Builtin.append_
  simp only [ht0, ht1]
  simp only [List.getElem?_toArray, List.getElem?_cons_zero, List.getElem?_cons_succ]
  rw [run_bind, run_underlying hd]; simp only []
  rw [run_bind, run_sizeOf hti]; simp only []
  rw [run_bind, run_underlying hd1]; simp only []
  rw [run_bind, run_pure]; simp only []
  split
  · simp [isInt] at hi1
  simp only [Bool.false_eq_true, if_false]
  rw [run_bind, hlen]; simp only []
  rw [if_neg (by omega)]
  rw [run_bind, htinfo]; simp only []
  rw [if_neg (by simp; intro _; omega)]
  rw [run_bind, htinfo]; simp only []
  rw [if_neg (by omega)]
  rw [run_bind, hch]; simp only []
  rw [run_bind, htinfo]; simp only []
  rw [run_bind, hask]; simp only []
  rw [run_bind, hold]; simp only []
  simp only [Bool.not_false, if_true]
  rw [run_bind, hnew]; simp only []
  rw [run_bind, hzv]; simp only []
  rw [run_bind, hnr, hzc']; rfl

/-- The machine's append where there is room. -/
theorem append_old {ts : Array TypeId} {ty t e x1 : TypeId} {d1 : TypeDesc} {ti : TI} {xv : Value} {base : Option Addr} {sLen sCap n : Nat} {new : Array Value} {w' : World} (ht0 : ts[0]? = some t) (hd : G.P.underlying t = some (.slice e)) (hti : tinfo G.P e = some ti)
    (ht1 : ts[1]? = some x1) (hd1 : G.P.underlying x1 = some d1) (hi1 : isInt d1 = false) (hlen : (Builtin.lenOf xv).run G.P w = .ok n w) (hroom : sLen + n ≤ sCap)
    (hnew : (Builtin.firstCells ti.sz n xv).run G.P w = .ok new w) (hst : ∀ a, base = some a → (storeCells (a.add (sLen * ti.sz)) new.toList).run G.P w = .ok () w') (hno : base = none → w' = w) :
    (Builtin.append_ ts ty #[.slice base sLen sCap, xv]).run G.P w = .ok (.slice base (sLen + n) sCap) w' := by
  unfold Builtin.append_
  simp only [ht0, ht1]
  simp only [List.getElem?_toArray, List.getElem?_cons_zero, List.getElem?_cons_succ]
  rw [run_bind, run_underlying hd]; simp only []
  rw [run_bind, run_sizeOf hti]; simp only []
  rw [run_bind, run_underlying hd1]; simp only []
  rw [run_bind, run_pure]; simp only []
  split
  · simp [isInt] at hi1
  simp only [Bool.false_eq_true, if_false]
  rw [run_bind, hlen]; simp only []
  rw [if_pos hroom]
  simp only [Bool.not_false, if_true]
  rw [run_bind, hnew]; simp only []
  cases base with
  | none => rw [hno rfl]; rfl
  | some a => simp only []; rw [run_bind, hst a rfl]; rfl

end Go.Aw

/- The evaluated frame against the machine's frame; what keeps it so. -/
namespace Go.Aw
set_option linter.unusedVariables false
set_option linter.unusedSimpArgs false

structure Ctx where
  w0 : World
  M0 : Nat → Prop
  φ0 : Pm
  k : Nat

structure Inv (c : Ctx) (w : World) (M : Nat → Prop) (φ : Pm) : Prop where
  ext : WExt c.M0 c.w0 w
  frame : ∀ b, b < c.w0.heap.size → (∀ l p, c.φ0 l = some p → p.b ≠ b) → w.heap[b]? = c.w0.heap[b]?
  m : ∀ b, b < c.w0.heap.size → (M b ↔ c.M0 b)
  lent : ∀ l, l < c.k → φ l = c.φ0 l
  fresh : ∀ l p, φ l = some p → (l < c.k ∧ c.φ0 l = some p) ∨ (c.k ≤ l ∧ c.w0.heap.size ≤ p.b)
  os : w.os = c.w0.os
  tape : w.tape = c.w0.tape
  out : w.output = c.w0.output
  no : ∀ l, c.k ≤ l → c.φ0 l = none
  yes : ∀ l, l < c.k → c.φ0 l ≠ none

structure Sim (c : Ctx) (S : St) (a : Act) (w : World) : Prop where
  out : ∃ M φ, Rel w M φ S a ∧ Inv c w M φ ∧ (∀ l, S.nx ≤ l → φ l = none) ∧ S.k = c.k ∧ c.k ≤ S.nx

variable {G : Env} {c : Ctx} {w w' : World} {M M' : Nat → Prop} {φ φ' : Pm} {S S' : St} {a : Act}

theorem Inv.step (h : Inv c w M φ) (s : StepOk w M φ w' M' φ') (hnew : ∀ l, φ' l ≠ none → φ l ≠ none ∨ c.k ≤ l) : Inv c w' M' φ' where
  ext := ⟨Nat.le_trans h.ext.size s.ext.size, fun b hb hM => (s.ext.same b (Nat.lt_of_lt_of_le hb h.ext.size) (fun e => hM ((h.m b hb).1 e))).trans (h.ext.same b hb hM), fun b n q => s.ext.shape b n (h.ext.shape b n q)⟩
  frame := fun b hb hf => by
    refine (s.frame b (Nat.lt_of_lt_of_le hb h.ext.size) fun l p hp => ?_).trans (h.frame b hb hf)
    rcases h.fresh l p hp with q | q
    · exact hf l p q.2
    · omega
  m := fun b hb => (s.m b (Nat.lt_of_lt_of_le hb h.ext.size)).trans (h.m b hb)
  lent := fun l hl => by
    have h1 := h.lent l hl
    cases hq : c.φ0 l with
    | none => exact absurd hq (h.yes l hl)
    | some p => rw [hq] at h1; exact s.pext l p h1
  fresh := fun l p hp => by
    rcases s.fresh l p hp with q | q
    · exact h.fresh l p q
    · have h2 := Nat.le_trans h.ext.size q
      rcases Nat.lt_or_ge l c.k with hl | hl
      · have h1 := h.lent l hl
        cases hq : c.φ0 l with
        | none => exact absurd hq (h.yes l hl)
        | some p' =>
          rw [hq] at h1
          have := s.pext l p' h1
          rw [hp] at this
          cases this
          exact .inl ⟨hl, rfl⟩
      · exact .inr ⟨hl, h2⟩
  os := s.os.trans h.os
  tape := s.tape.trans h.tape
  out := s.out.trans h.out
  no := h.no
  yes := h.yes

def setAll (L : List (Nat × Blk)) (h : List (Nat × Blk)) : List (Nat × Blk) := L.foldl (fun h p => aset p.1 p.2 h) h
theorem aget_setAll : ∀ (L h : List (Nat × Blk)) (l : Nat), aget l (setAll L h) = insH (fun x => aget x h) L l := by
  intro L
  induction L with
  | nil => intro h l; rfl
  | cons p r ih =>
    intro h l
    show aget l (setAll r (aset p.1 p.2 h)) = _
    rw [ih]
    show insH _ r l = insH _ r l
    congr 1
    funext x
    rw [aget_aset]; rfl

def St.upd (S : St) (dst : Option Nat) (out : Out) : St := { (S.put dst out.v) with hp := setAll out.ins S.hp, nx := out.nx }
def dstOk (S : St) (dst : Option Nat) : Prop := match dst with | some d => d < S.n | none => True

theorem St.put_blk (S : St) (d : Option Nat) (v : AV) : (S.put d v).blk = S.blk := by cases d <;> rfl
theorem St.put_n (S : St) (d : Option Nat) (v : AV) : (S.put d v).n = S.n := by cases d <;> rfl
theorem St.put_k (S : St) (d : Option Nat) (v : AV) : (S.put d v).k = S.k := by cases d <;> rfl
theorem St.put_nx (S : St) (d : Option Nat) (v : AV) : (S.put d v).nx = S.nx := by cases d <;> rfl
theorem St.upd_blk (S : St) (d : Option Nat) (o : Out) : (S.upd d o).blk = insH S.blk o.ins := by
  funext l; exact aget_setAll _ _ _
theorem St.upd_get (S : St) (d : Option Nat) (o : Out) (t : Nat) : (S.upd d o).get t = (S.put d o.v).get t := rfl

/-- The frame's temporaries behind an operation. -/
theorem slots_put {dst : Option Nat} (hn : a.tmps.size = S.n) (hd : dstOk S dst) {v : AV} {x : Value} (hs : ∀ t, Rep w' M' φ' (S.get t) (a.tmps.getD t undef)) (hv : Rep w' M' φ' v x) :
    (a.put dst x).tmps.size = S.n ∧ (a.put dst x).defers = a.defers ∧ ∀ t, Rep w' M' φ' ((S.put dst v).get t) ((a.put dst x).tmps.getD t undef) := by
  cases dst with
  | none => exact ⟨hn, rfl, hs⟩
  | some d =>
    refine ⟨by simp [Act.put, hn], rfl, fun t => ?_⟩
    rw [St.get_put]
    have hd' : d < a.tmps.size := by rw [hn]; exact hd
    by_cases e : t = d
    · subst e
      rw [if_pos rfl]
      have : (a.put (some t) x).tmps.getD t undef = x := by simp [Act.put, hd']
      rw [this]; exact hv
    · rw [if_neg e]
      have : (a.put (some d) x).tmps.getD t undef = a.tmps.getD t undef := by
        simp [Act.put, Array.getElem?_setIfInBounds, Ne.symm e, Array.getD_eq_getD_getElem?]
      rw [this]; exact hs t

theorem Rel.step {dst : Option Nat} (h : Rel w M φ S a) (s : StepOk w M φ w' M' φ') (hd : dstOk S dst) {v : AV} {x : Value} (hv : Rep w' M' φ' v x) {h' : Hp} (hH : HRel w' M' φ' h') {S' : St} (hsl : S'.sl = (S.put dst v).sl) (hn : S'.n = S.n) (hb : S'.blk = h') :
    Rel w' M' φ' S' (a.put dst x) := by
  obtain ⟨h1, h2, h3⟩ := slots_put h.n hd (fun t => (h.slot t).mono s.ext (fun b hb => (s.m b hb).1) s.pext) hv
  refine ⟨by rw [h1, hn], h2.trans h.defers, fun t => ?_, by rw [hb]; exact hH⟩
  have : S'.get t = (S.put dst v).get t := by simp only [St.get, hsl]
  rw [this]; exact h3 t

theorem Sim.blk_lt (h : Sim c S a w) : ∀ l k, S.blk l = some k → l < S.nx := fun l k hk => by
  obtain ⟨M, φ, hR, hI, hnx, _⟩ := h.out
  obtain ⟨b, o, cs, T, h1, _⟩ := (hR.heap.ok l k hk).out
  rcases Nat.lt_or_ge l S.nx with q | q
  · exact q
  · rw [hnx l q] at h1; cases h1

/-- An operation that calls nothing. -/
theorem sim_op {o : Oper} {out : Out} (h : Sim c S a w) (hev : evOp G o.op S.eval S.blk S.nx = some out) (hd : dstOk S o.dst) {N : Act → World → Prop} {Q : Exit → Act → World → Prop}
    (hN : ∀ a' w', Sim c (S.upd o.dst out) a' w' → N a' w') : o.wp G.P a w N Q := by
  obtain ⟨M, φ, hR, hI, hnx, hk, hkn⟩ := h.out
  obtain ⟨hnx1, hnx2⟩ := evOp_nx hev
  obtain ⟨nxt, val, w', M', φ', h1, h2, h3, h4, h5, h6⟩ := evOp_sound (ρ' := a.eval) hev (fun x _ => hR.eval x) hR.heap (fun _ _ => rfl) (fun l k hl hr => by
    have := (hnx2 l k hl hr).1; exact hnx l (by omega))
  have hsim : Sim c (S.upd o.dst out) (a.put o.dst val) w' := by
    refine ⟨M', φ', hR.step h3 hd h5 h4 rfl (St.put_n _ _ _) (St.upd_blk _ _ _), hI.step h3 (fun l hl => ?_), fun l hl => ?_, (St.put_k _ _ _).trans hk, Nat.le_trans hkn hnx1⟩
    · rcases h6 l hl with q | ⟨q, hrd⟩
      · exact .inl q
      · obtain ⟨⟨l', k⟩, hm, rfl⟩ := List.mem_map.1 q
        have := (hnx2 _ k hm hrd).1
        right; simp only; omega
    · cases hq : φ' l with
      | none => rfl
      | some p =>
        rcases h6 l (by rw [hq]; simp) with q | ⟨q, hrd⟩
        · have : S.nx ≤ l := Nat.le_trans hnx1 hl
          exact absurd (hnx l this) q
        · obtain ⟨⟨l', k⟩, hm, rfl⟩ := List.mem_map.1 q
          have := (hnx2 _ k hm hrd).2
          have : out.nx ≤ l' := hl
          omega
  unfold Oper.wp
  rw [h1]
  rcases h2 with rfl | ⟨rfl, rfl⟩
  · exact hN _ _ hsim
  · exact hN _ _ hsim

end Go.Aw
