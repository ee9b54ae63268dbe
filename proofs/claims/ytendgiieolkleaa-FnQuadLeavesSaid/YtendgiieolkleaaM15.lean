/- Proved here: the law FnQuadLeaves returns true for every input and its argument reads afterwards as before (quadLeaves_holds). Conditions: none. -/
import Derived.Test.YtendgiieolkleaaRows
import Derived.ProofKit
import Derived.Test.YtendgiieolkleaaM7
import Derived.Test.YtendgiieolkleaaM14

/- The join: what a law's walk gives, as the row's statement asks it. -/
namespace Go.Aw
open Go.ChangeShapes Go.WideShapes Go.ChangeAt Go.RowKit
/-- What a frame of the evaluator leaves as it was, in the kit's words: no block was lent, so every old block is as it was. -/
theorem below_of_step {w w' : World} {M M' : Nat → Prop} {φ' : Pm} (h : StepOk w M noPm w' M' φ') : Below w.heap.size w w' :=
  ⟨h.os, h.tape, h.out, h.ext.size, fun b hb => h.frame b hb (fun l p hp => by cases hp)⟩

section
variable {H : Type} {enc : TypeId × Value → H} {P : Program}
theorem trodAll_stays (hl : laidOutB P = true) {W W' : World} (hb : Below W.heap.size W W') {sp : Nat → Bool} :
    ∀ {ts : List TypeId} {vs : List Value} {ds : List (DataW H)} {ps : List MemPlace}, (∀ t ∈ ts, P.readableRec t = true ∧ t < P.types.size) → DataW.TrodAll enc P W 0 (fun _ => true) true ts vs ds ps →
      (∀ x ∈ ps, x.block < W.heap.size) → (∀ x ∈ ps, sp x.block = true) → DataW.TrodAll enc P W' 0 sp true ts vs ds ps
  | [], _, _, _, _, h, _, _ => by
    obtain ⟨rfl, rfl, rfl⟩ := trodAll_nil h
    exact rfl
  | t :: ts, _, _, _, hts, h, hlt, hsp => by
    obtain ⟨v, vs1, d, ds1, a, b, rfl, rfl, rfl, h1, h2⟩ := trodAll_cons h
    obtain ⟨r1, r2⟩ := hts t (by simp)
    exact ⟨a, b, WideElems.Trod_stays hl r1 r2 h1 (fun x hx => hb.same (hlt x (by simp [hx]))) (fun x hx => hsp x (by simp [hx])),
      trodAll_stays hl hb (fun t' ht' => hts t' (by simp [ht'])) h2 (fun x hx => hlt x (by simp [hx])) (fun x hx => hsp x (by simp [hx])), rfl⟩

/-- The end of a law's row: it answered true, old memory is as it was. -/
theorem post_law {f : Func} {s : ChangeSpec} {W W' : World} {args : Array Value} {ds gs : List (DataW H)} {before : List MemPlace} {tb : TypeId}
    (hl : laidOutB P = true) (htb : P.underlying tb = some .bool) (hrt : f.resultTypes = #[tb]) (hts : ∀ t ∈ f.params.toList, P.readableRec t = true ∧ t < P.types.size)
    (hvs : s.vars = []) (hfn : s.fn H (ds ++ gs) = ⟨[.lit (.bool true)], ds, []⟩)
    (hW : DataW.Whole enc P f.params.toList s.vars false W args.toList ds gs before) (hb : Below W.heap.size W W') :
    s.post enc P f false true false false W args (.bool true) W' := by
  have hlt := hW.lt
  have hold : ∀ p ∈ before, (fun b => decide (b < W.heap.size)) p.block = true := fun p hp => by simpa using hlt p hp
  have hW0 := hW
  obtain ⟨p, q, hA, hV, rfl, hz, hn⟩ := hW0
  rw [hvs] at hV
  obtain ⟨rfl, rfl⟩ := trodVars_none hV
  have hargs : ∀ sp : Nat → Bool, (∀ x ∈ p, sp x.block = true) → DataW.TrodAll enc P W' 0 sp true f.params.toList args.toList (s.fn H (ds ++ [])).args p := fun sp hsp => by
    rw [hfn]
    exact trodAll_stays hl hb hts hA (fun x hx => hlt x (by simp [hx])) hsp
  have hres : ∀ (b : Nat) (sp : Nat → Bool) (hd : Bool), DataW.TrodAll enc P W' b sp hd f.resultTypes.toList ((Value.bool true).resultList f.resultTypes.size) (s.fn H (ds ++ [])).results [] := fun b sp hd => by
    rw [hfn, hrt]
    exact trodAll_mk1 (shut_bool htb true)
  have hvars : ∀ sp : Nat → Bool, DataW.TrodVars enc P W' sp s.vars (s.fn H (ds ++ [])).vars [] := fun sp => by
    rw [hfn, hvs]
    exact rfl
  refine ⟨ds, [], p ++ [], [], p, [], hW, hres _ _ _, hargs _ (fun x hx => hold x (by simp [hx])), hvars _, World.keptBut_mono (fun x hx => ⟨by simpa using hx, ?_⟩) (hb.frame (fun x => x ∈ p)), fun _ => ?_⟩
  · exact .inr (.inl hx)
  · refine ⟨ok_one hrt rfl (okWide_bool_mk htb true), _, _, ([] ++ p) ++ [], ⟨[] ++ p, [], trodAll_append (hargs _ (fun _ _ => rfl)) (hres _ _ _), hvars _, rfl, ?_, ?_⟩, ?_⟩
    · intro b off hp
      have hp' : MemPlace.cell b off ∈ p := by simpa using hp
      rw [hb.frozen (p := ⟨b, off, none⟩) (hlt (.cell b off) (by simpa using hp'))]
      exact hz b off (by simpa using hp')
    · intro ha
      cases ha
    · intro x hx _
      simpa using hx
end
end Go.Aw

/- FnQuadLeaves: the row. -/
namespace Go.Proofs.Ytendgiieolkleaa
open Go.ChangeShapes Go.WideShapes Go.ChangeAt Go.RowKit Go.Aw

theorem Try.own : ownKnob Try.prog.godebug = none := by kernel_rfl
theorem Try.laidOut : laidOutB Try.prog = true := by kernel_rfl

/-- A slice of bytes that was read is the evaluator's list of bytes. -/
theorem rep_bytes {w : World} {φ : Pm} {a : Addr} {len cap : Nat} {zs : List Int} (hl : len ≤ cap) (hz : zs.length = cap)
    (hcell : ∀ i, i < zs.length → w.cell? (a.add i) = some (.int .u8 (zs.getD i 0))) : Rep w (fun _ => False) φ (.sl false 1 ((zs.take len).map encY)) (.slice (some a) len cap) := by
  have hlen : ((zs.take len).map encY).length = len := by rw [List.length_map, List.length_take]; omega
  have hget : ∀ i, i < len → ((zs.take len).map encY).getD i [] = [.s (.int .u8 (zs.getD i 0))] := by
    intro i hi
    rw [List.getD, List.getElem?_map, List.getElem?_take, if_pos hi, List.getD]
    rw [List.getElem?_eq_getElem (by omega : i < zs.length)]
    rfl
  refine .sl φ false 1 _ (some a) len cap (fun i _ => .int .u8 (zs.getD i 0)) hlen.symm hl ⟨(fun h => by cases h), fun _ _ _ _ => rfl⟩ ?_ ?_ ?_
  · intro e he
    obtain ⟨n, _, rfl⟩ := List.mem_map.1 he
    rfl
  · intro hne
    have h0 : 0 < len := by
      rw [← hlen]
      exact List.length_pos_iff.2 hne
    obtain ⟨b, off, spot⟩ := a
    have hspot : spot = none := by simpa [Addr.add] using World.cell?_spot (hcell 0 (by omega))
    subst hspot
    have hc : ∀ j, j < zs.length → w.cell? ⟨b, off + j, none⟩ = some (.int .u8 (zs.getD j 0)) := fun j hj => by rw [← add_plain]; exact hcell j hj
    refine ⟨b, off, rfl, fun h => h, ?_, fun i j hi hj => ?_⟩
    · have := hc 0 (by omega)
      rw [World.cell?] at this
      by_cases hb : b < w.heap.size
      · exact hb
      · rw [show w.heap[b]? = none from Array.getElem?_eq_none (by omega)] at this
        simp at this
    · have hj0 : j = 0 := by omega
      subst hj0
      rw [hlen] at hi
      simpa using hc i (by omega)
  · intro i j hi hj
    have hj0 : j = 0 := by omega
    subst hj0
    rw [hlen] at hi
    rw [hget i hi]
    exact .s _ _

set_option maxRecDepth 100000 in
theorem quadLeaves_lifted (os : Os) (started : os.Started) (H : Type) (enc : TypeId × Value → H) :
    ReturnsInHanded {} Try.checked os 4 .any (Rows.fnQuadLeavesSpec.pre6 enc Try.prog Try.f4 Rows.fnQuadLeavesRow.domain false) (Rows.fnQuadLeavesSpec.post enc Try.prog Try.f4 false true false false) := by
  refine returnsInHanded_of_change (C := Try.checked) Try.own started (by kernel_rfl) Try.func4
    (ChangeSpec.witness6 (enc := enc) (C := Try.checked) false ⟨#[], #[.slice none 0 0], []⟩ 8 (by kernel_rfl) (by kernel_rfl) (by kernel_rfl) (by kernel_rfl)) ?_
  intro W base args ds gs before hval0 hW hcnd _
  have hval : ∀ (j : Nat) t v, Try.f4.params[j]? = some t → args[j]? = some v → Value.okWide Try.prog W .any base t v := hval0
  have hW' := hW
  obtain ⟨p, q, hA0, hV, rfl, hfz, hnd⟩ := hW
  have hA : DataW.TrodAll enc Try.prog W 0 (fun _ => true) true Try.f4.params.toList args.toList ds p := hA0
  rw [Try.params4] at hA hval
  obtain ⟨v0, d0, rfl, rfl, h0⟩ := trodAll_one hA
  obtain ⟨rfl, rfl⟩ := trodVars_none hV
  obtain ⟨a0, len, cap, rfl⟩ := okWide_slice Try.underlying44 (hval 0 44 v0 rfl rfl)
  obtain ⟨fuel, hf⟩ := h0
  have main : ∀ (code : List Int), (∀ b ∈ code, 0 ≤ b ∧ b ≤ 255) → Rep W (fun _ => False) noPm (.sl false 1 (code.map encY)) (.slice a0 len cap) →
      Calls Try.prog 4 #[.slice a0 len cap] W fun e W' => ∃ v, e = .returned v ∧ Rows.fnQuadLeavesSpec.post enc Try.prog Try.f4 false true false false W #[.slice a0 len cap] v W' := by
    intro code hby hrep
    refine ((law_QuadLeaves (nn := false) hby).2 W (fun _ => False) noPm [.slice a0 len cap] ⟨fun l k h => by simp at h, fun l l' k k' p p' h => by simp at h, fun l p h => by cases h⟩ (fun _ _ => rfl) (PW.cons hrep ⟨rfl, fun i hi => absurd hi (Nat.not_lt_zero i)⟩)).mono ?_
    rintro e W' ⟨v, M', φ', rfl, hst, _, hr, _, _⟩
    cases hr
    exact ⟨_, rfl, post_law Try.laidOut Try.underlying4 rfl (by rw [Try.params4]; intro t ht; simp at ht; subst ht; exact ⟨by kernel_rfl, of_decide_eq_true (by kernel_rfl)⟩) rfl rfl hW' (below_of_step hst)⟩
  rcases open_ints Try.underlying44 Try.underlying5 (by kernel_rfl) hf with ⟨hcs, _⟩ | ⟨a, len', cap', zs, hcs, _, hl, hm, hz, hx, hcell, hwz⟩
  · simp [Value.cells] at hcs
    obtain ⟨rfl, rfl, rfl⟩ := hcs
    exact main [] (fun b hb => by cases hb) (.sl _ false 1 [] none 0 0 (fun _ _ => undef) rfl (Nat.le_refl _) ⟨fun _ _ => rfl, fun i j hi _ => by simp at hi⟩ (fun e he => by cases he) (fun h => absurd rfl h) (fun i j hi _ => by simp at hi))
  · simp [Value.cells] at hcs
    obtain ⟨rfl, rfl, rfl⟩ := hcs
    refine main (zs.take len) (fun b hb => ?_) (rep_bytes hl (by simpa using hz) hcell)
    have := hwz b (List.mem_of_mem_take hb)
    simpa [Lit.wf, IntKind.min, IntKind.max, IntKind.signed, IntKind.bits] using this

theorem quadLeaves_holds : Rows.FnQuadLeavesSaid :=
  OpenClaim.holds_of_wide 4 Try.f4 rfl rfl rfl rfl rfl rfl rfl ⟨rfl, rfl, rfl, rfl, rfl⟩ rfl rfl rfl rfl rfl (by kernel_rfl) Try.func4 (by kernel_rfl)
    (of_decide_eq_true (by kernel_rfl)) (by unfold Func.isWrapper; first | (rw [if_pos (by decide +kernel)]; kernel_rfl) | (rw [if_neg (by decide +kernel)]; exact ⟨rfl, rfl⟩))
    (fun os started H enc _ => quadLeaves_lifted os started H enc)
#print axioms quadLeaves_holds
end Go.Proofs.Ytendgiieolkleaa
