/- The reader of drawn bytes: whatever it tells, it tells it and stays a reader. A number put into a list; the segment of a number. -/
import Derived.Test.YtendgiieolkleaaM9
import Derived.Test.YtendgiieolkleaaM8

/- The reader of drawn bytes: whatever it tells, it tells it and stays a reader. -/
namespace Go.Proofs.Ytendgiieolkleaa
open Go.Aw
set_option maxHeartbeats 1000000
set_option maxRecDepth 100000
set_option linter.unusedSimpArgs false
set_option linter.unusedVariables false
def encY (n : Int) : List AV := [.s (.int .u8 n)]
def rdB (nn : Bool) (code : List Int) (p : Nat) : Blk := ⟨true, true, 2, [[.sl nn 1 (code.map encY), i64 p]]⟩
/-- A method of the reader: from any place it comes to another one, and tells such a value. -/
def RdF (nn : Bool) (code : List Int) (f : Nat) (args : List AV) (P : AV → Prop) : Prop :=
  ∀ p, p ≤ code.length → ∃ p', p' ≤ code.length ∧ ∃ r, P r ∧ Fun G0 f (.ptr 0 0 0 :: args) [rdB nn code p] r [rdB nn code p']
structure Code (code : List Int) : Prop where
  by_ : ∀ b ∈ code, 0 ≤ b ∧ b ≤ 255
  len : code.length ≤ 1048576
variable {nn : Bool} {code : List Int}
theorem RdF.mk {f : Nat} {args : List AV} {P : AV → Prop} {p p' : Nat} {r : AV} (hp' : p' ≤ code.length) (hF : Fun G0 f (.ptr 0 0 0 :: args) [rdB nn code p] r [rdB nn code p']) (hP : P r) : ∃ p', p' ≤ code.length ∧ ∃ r, P r ∧ Fun G0 f (.ptr 0 0 0 :: args) [rdB nn code p] r [rdB nn code p'] :=
  ⟨p', hp', r, hP, hF⟩
theorem rd_open (hl : code.length ≤ 1048576) : Fun G0 64 [.sl nn 1 (code.map encY)] [] (.ptr 0 0 0) [rdB nn code 0] := by
  refine spec_ewL (G := G0) (fid := 64) (fn := Try.f64) Try.func64 (by kernel_rfl) rfl (by kernel_rfl) ?_
  repeat (refine And.intro (of_decide_eq_true rfl) ?_)
  refine ret_ownL [0] 6 (by first | exact .inr rfl | exact .inl rfl) rfl (by decide) rfl (Nat.zero_le 1) rfl (.of_eq ?_) rfl ?_
  · rfl
  · rfl
theorem rd_next (hc : Code code) : RdF nn code 142 [] fun r => ∃ v : Int, 0 ≤ v ∧ v ≤ 255 ∧ r = i64 v := by
  intro p hp
  have hl := hc.len
  rcases Nat.lt_or_ge p code.length with hlt | hge
  · have hb := hc.by_ code[p] (List.getElem_mem _)
    refine ⟨p + 1, hlt, i64 code[p], ⟨_, hb.1, hb.2, rfl⟩, ?_⟩
    refine spec_ewL (G := G0) (fid := 142) (fn := Try.f142) Try.func142 (by kernel_rfl) rfl (by kernel_rfl) ?_
    refine eDraw_ok ?_
    repeat (refine And.intro (of_decide_eq_true rfl) ?_)
    refine bc_split (fun h => ?_) (fun h => ?_)
    · have : code.length ≤ p := by have := of_decide_eq_true h; simp at this; omega
      omega
    repeat (refine And.intro (of_decide_eq_true rfl) ?_)
    refine eDraw_ok ?_
    repeat (refine And.intro (of_decide_eq_true rfl) ?_)
    refine And.intro (?_ : 0 ≤ IntKind.i64.wrap (IntKind.i64.wrap ((p : Int) + 1) - 1) ∧ IntKind.i64.wrap (IntKind.i64.wrap ((p : Int) + 1) - 1) < ((code.map encY).length : Int)) ?_
    · rw [wrap_succ (by omega), wrap_pred (by omega) (by omega)]; exact ix_ok (by omega)
    rw [show IntKind.i64.wrap (IntKind.i64.wrap ((p : Int) + 1) - 1) = (p : Int) by rw [wrap_succ (by omega), wrap_pred (by omega) (by omega)]; omega]
    rw [ix_get hlt]
    repeat (refine And.intro (of_decide_eq_true rfl) ?_)
    refine ret_ownL [0] 6 (by first | exact .inr rfl | exact .inl rfl) rfl (by decide) rfl (Nat.le_refl 1) rfl (.of_eq ?_) rfl ?_
    · show i64 (IntKind.i64.wrap code[p]) = _
      rw [wrap_id (by omega) (by omega)]
    · show [(⟨true, true, 2, [[.sl nn 1 (code.map encY), i64 (IntKind.i64.wrap ((p : Int) + 1))]]⟩ : Blk)] = _
      rw [wrap_succ (by omega)]; rfl
  · refine ⟨p, hp, i64 0, ⟨0, by omega, by omega, rfl⟩, ?_⟩
    refine spec_ewL (G := G0) (fid := 142) (fn := Try.f142) Try.func142 (by kernel_rfl) rfl (by kernel_rfl) ?_
    refine eDraw_ok ?_
    repeat (refine And.intro (of_decide_eq_true rfl) ?_)
    refine bc_split (fun h => ?_) (fun h => ?_)
    · repeat (refine And.intro (of_decide_eq_true rfl) ?_)
      refine ret_ownL [0] 6 (by first | exact .inr rfl | exact .inl rfl) rfl (by decide) rfl (Nat.le_refl 1) rfl (.of_eq ?_) rfl ?_
      · rfl
      · rfl
    · have : ¬ code.length ≤ p := by have := of_decide_eq_false h; simp at this; omega
      omega
theorem tmod_lt {a b : Int} (ha : 0 ≤ a) (hb : 0 < b) : 0 ≤ Int.tmod a b ∧ Int.tmod a b < b := by
  rw [Int.tmod_eq_emod_of_nonneg ha]; exact ⟨Int.emod_nonneg _ (by omega), Int.emod_lt_of_pos _ hb⟩
theorem rd_below (hc : Code code) (n : Int) (hn : 0 < n) (hn2 : n ≤ 256) : RdF nn code 93 [i64 n] fun r => ∃ v : Int, 0 ≤ v ∧ v < n ∧ r = i64 v := by
  intro p hp
  by_cases h1 : n ≤ 1
  · refine ⟨p, hp, i64 0, ⟨0, by omega, by omega, rfl⟩, ?_⟩
    refine spec_ewL (G := G0) (fid := 93) (fn := Try.f93) Try.func93 (by kernel_rfl) rfl (by kernel_rfl) ?_
    refine bc_split (fun h => ?_) (fun h => ?_)
    · repeat (refine And.intro (of_decide_eq_true rfl) ?_)
      refine ret_ownL [0] 6 (by first | exact .inr rfl | exact .inl rfl) rfl (by decide) rfl (Nat.le_refl 1) rfl (.of_eq ?_) rfl ?_
      · rfl
      · rfl
    · have := of_decide_eq_false h; omega
  · obtain ⟨p', hp', r, ⟨v, hv0, hv1, rfl⟩, hs⟩ := rd_next (nn := nn) hc p hp
    have := tmod_lt hv0 hn
    refine ⟨p', hp', i64 (Int.tmod v n), ⟨_, this.1, this.2, rfl⟩, ?_⟩
    refine spec_ewL (G := G0) (fid := 93) (fn := Try.f93) Try.func93 (by kernel_rfl) rfl (by kernel_rfl) ?_
    refine bc_split (fun h => ?_) (fun h => ?_)
    · have := of_decide_eq_true h; omega
    repeat (refine And.intro (of_decide_eq_true rfl) ?_)
    refine bc_split (fun h => ?_) (fun h => ?_)
    · repeat (refine And.intro (of_decide_eq_true rfl) ?_)
      refine eCall_lent [0] 6 (hs) (by decide) rfl rfl ?_
      refine And.intro (by omega) ?_
      repeat (refine And.intro (of_decide_eq_true rfl) ?_)
      refine ret_ownL [0] 6 (by first | exact .inr rfl | exact .inl rfl) rfl (by decide) rfl (Nat.le_refl 1) rfl (.of_eq ?_) rfl ?_
      · rfl
      · rfl
    · have := of_decide_eq_false h; omega
theorem rd_once (hc : Code code) (n : Int) (hn : 0 < n) (hn2 : n ≤ 256) : RdF nn code 92 [i64 n] fun r => ∃ b : Bool, r = bo b := by
  intro p hp
  obtain ⟨p', hp', r, ⟨v, hv0, hv1, rfl⟩, hs⟩ := rd_below (nn := nn) hc n hn hn2 p hp
  refine ⟨p', hp', bo (v == IntKind.i64.wrap (n - 1)), ⟨_, rfl⟩, ?_⟩
  refine spec_ewL (G := G0) (fid := 92) (fn := Try.f92) Try.func92 (by kernel_rfl) rfl (by kernel_rfl) ?_
  repeat (refine And.intro (of_decide_eq_true rfl) ?_)
  refine eCall_lent [0] 6 (hs) (by decide) rfl rfl ?_
  repeat (refine And.intro (of_decide_eq_true rfl) ?_)
  refine ret_ownL [0] 6 (by first | exact .inr rfl | exact .inl rfl) rfl (by decide) rfl (Nat.le_refl 1) rfl (.of_eq ?_) rfl ?_
  · rfl
  · rfl
def u64 (a : Int) : AV := .s (.int .u64 a)
def st166 (nn : Bool) (code : List Int) (p : Nat) (x i : Int) : St := ⟨16, 1, [(0, .ptr 0 0 0), (3, u64 x), (4, i64 i)], [(0, rdB nn code p)], 1⟩
theorem wrap_u (n : Int) : 0 ≤ IntKind.u64.wrap n := by
  unfold IntKind.wrap; simp [IntKind.signed, IntKind.bits]; omega
theorem rd_word (hc : Code code) : RdF nn code 166 [] fun r => ∃ v : Int, 0 ≤ v ∧ r = u64 v := by
  intro p hp
  obtain ⟨p1, h1, _, ⟨v1, a1, b1, rfl⟩, s1⟩ := rd_next (nn := nn) hc p hp
  obtain ⟨p2, h2, _, ⟨v2, a2, b2, rfl⟩, s2⟩ := rd_next (nn := nn) hc p1 h1
  obtain ⟨p3, h3, _, ⟨v3, a3, b3, rfl⟩, s3⟩ := rd_next (nn := nn) hc p2 h2
  obtain ⟨p4, h4, _, ⟨v4, a4, b4, rfl⟩, s4⟩ := rd_next (nn := nn) hc p3 h3
  obtain ⟨p5, h5, _, ⟨v5, a5, b5, rfl⟩, s5⟩ := rd_next (nn := nn) hc p4 h4
  obtain ⟨p6, h6, _, ⟨v6, a6, b6, rfl⟩, s6⟩ := rd_next (nn := nn) hc p5 h5
  obtain ⟨p7, h7, _, ⟨v7, a7, b7, rfl⟩, s7⟩ := rd_next (nn := nn) hc p6 h6
  obtain ⟨p8, h8, _, ⟨v8, a8, b8, rfl⟩, s8⟩ := rd_next (nn := nn) hc p7 h7
  apply RdF.mk h8
  case hF =>
    apply spec_ewL (G := G0) (fid := 166) (fn := Try.f166) Try.func166 (by kernel_rfl) rfl (by kernel_rfl)
    repeat (refine And.intro (of_decide_eq_true rfl) ?_)
    refine eLoop_weak (S' := st166 nn code p _ 0) (weak_to [0, 3, 4] 1 rfl rfl) ?_
    refine eLoop_step ?_
    repeat (refine And.intro (of_decide_eq_true rfl) ?_)
    refine eCall_lent [0] 6 (s1) (by decide) rfl rfl ?_
    repeat (refine And.intro (of_decide_eq_true rfl) ?_)
    refine eLoop_weak (S' := st166 nn code p1 _ 1) (weak_to [0, 3, 4] 1 rfl rfl) ?_
    refine eLoop_step ?_
    repeat (refine And.intro (of_decide_eq_true rfl) ?_)
    refine eCall_lent [0] 6 (s2) (by decide) rfl rfl ?_
    repeat (refine And.intro (of_decide_eq_true rfl) ?_)
    refine eLoop_weak (S' := st166 nn code p2 _ 2) (weak_to [0, 3, 4] 1 rfl rfl) ?_
    refine eLoop_step ?_
    repeat (refine And.intro (of_decide_eq_true rfl) ?_)
    refine eCall_lent [0] 6 (s3) (by decide) rfl rfl ?_
    repeat (refine And.intro (of_decide_eq_true rfl) ?_)
    refine eLoop_weak (S' := st166 nn code p3 _ 3) (weak_to [0, 3, 4] 1 rfl rfl) ?_
    refine eLoop_step ?_
    repeat (refine And.intro (of_decide_eq_true rfl) ?_)
    refine eCall_lent [0] 6 (s4) (by decide) rfl rfl ?_
    repeat (refine And.intro (of_decide_eq_true rfl) ?_)
    refine eLoop_weak (S' := st166 nn code p4 _ 4) (weak_to [0, 3, 4] 1 rfl rfl) ?_
    refine eLoop_step ?_
    repeat (refine And.intro (of_decide_eq_true rfl) ?_)
    refine eCall_lent [0] 6 (s5) (by decide) rfl rfl ?_
    repeat (refine And.intro (of_decide_eq_true rfl) ?_)
    refine eLoop_weak (S' := st166 nn code p5 _ 5) (weak_to [0, 3, 4] 1 rfl rfl) ?_
    refine eLoop_step ?_
    repeat (refine And.intro (of_decide_eq_true rfl) ?_)
    refine eCall_lent [0] 6 (s6) (by decide) rfl rfl ?_
    repeat (refine And.intro (of_decide_eq_true rfl) ?_)
    refine eLoop_weak (S' := st166 nn code p6 _ 6) (weak_to [0, 3, 4] 1 rfl rfl) ?_
    refine eLoop_step ?_
    repeat (refine And.intro (of_decide_eq_true rfl) ?_)
    refine eCall_lent [0] 6 (s7) (by decide) rfl rfl ?_
    repeat (refine And.intro (of_decide_eq_true rfl) ?_)
    refine eLoop_weak (S' := st166 nn code p7 _ 7) (weak_to [0, 3, 4] 1 rfl rfl) ?_
    refine eLoop_step ?_
    repeat (refine And.intro (of_decide_eq_true rfl) ?_)
    refine eCall_lent [0] 6 (s8) (by decide) rfl rfl ?_
    repeat (refine And.intro (of_decide_eq_true rfl) ?_)
    refine eLoop_weak (S' := st166 nn code p8 _ 8) (weak_to [0, 3, 4] 1 rfl rfl) ?_
    refine eLoop_step ?_
    repeat (refine And.intro (of_decide_eq_true rfl) ?_)
    refine ret_ownR [0] 6 (by first | exact .inr rfl | exact .inl rfl) rfl (by decide) rfl (Nat.le_refl 1) rfl rfl ?_
    rfl
  case hP => exact ⟨_, wrap_u _, rfl⟩
def Sm (n : Int) : Prop := -1099511627776 ≤ n ∧ n ≤ 1099511627776
theorem wrapu_id {n : Int} (h1 : 0 ≤ n) (h2 : n < 18446744073709551616) : IntKind.u64.wrap n = n := by
  unfold IntKind.wrap; simp [IntKind.signed, IntKind.bits]; omega
theorem rd_near (hc : Code code) (lo hi : Int) (hlo : Sm lo) (hhi : Sm hi) : RdF nn code 134 [i64 lo, i64 hi] fun r => ∃ v : Int, r = i64 v := by
  intro p hp
  unfold Sm at hlo hhi
  obtain ⟨p1, h1, _, ⟨v, v0, v1, rfl⟩, s1⟩ := rd_below (nn := nn) hc 8 (by omega) (by omega) p hp
  by_cases e0 : (v == 0) = true
  · apply RdF.mk h1
    case hF =>
      apply spec_ewL (G := G0) (fid := 134) (fn := Try.f134) Try.func134 (by kernel_rfl) rfl (by kernel_rfl)
      repeat (refine And.intro (of_decide_eq_true rfl) ?_)
      refine eCall_lent [0] 6 (s1) (by decide) rfl rfl ?_
      repeat (refine And.intro (of_decide_eq_true rfl) ?_)
      refine bc_split (fun g => ?_) (fun g => ?_)
      · repeat (refine And.intro (of_decide_eq_true rfl) ?_)
        refine ret_ownR [0] 6 (by first | exact .inr rfl | exact .inl rfl) rfl (by decide) rfl (Nat.le_refl 1) rfl rfl ?_
        rfl
      · exact absurd e0 (by rw [show (v == 0) = false from g]; simp)
    case hP => exact ⟨_, rfl⟩
  by_cases e1 : (v == 1) = true
  · apply RdF.mk h1
    case hF =>
      apply spec_ewL (G := G0) (fid := 134) (fn := Try.f134) Try.func134 (by kernel_rfl) rfl (by kernel_rfl)
      repeat (refine And.intro (of_decide_eq_true rfl) ?_)
      refine eCall_lent [0] 6 (s1) (by decide) rfl rfl ?_
      repeat (refine And.intro (of_decide_eq_true rfl) ?_)
      refine bc_split (fun g => ?_) (fun g => ?_)
      · exact absurd g e0
      repeat (refine And.intro (of_decide_eq_true rfl) ?_)
      refine bc_split (fun g => ?_) (fun g => ?_)
      · repeat (refine And.intro (of_decide_eq_true rfl) ?_)
        refine ret_ownR [0] 6 (by first | exact .inr rfl | exact .inl rfl) rfl (by decide) rfl (Nat.le_refl 1) rfl rfl ?_
        rfl
      · exact absurd e1 (by rw [show (v == 1) = false from g]; simp)
    case hP => exact ⟨_, rfl⟩
  by_cases e2 : hi < lo
  · apply RdF.mk h1
    case hF =>
      apply spec_ewL (G := G0) (fid := 134) (fn := Try.f134) Try.func134 (by kernel_rfl) rfl (by kernel_rfl)
      repeat (refine And.intro (of_decide_eq_true rfl) ?_)
      refine eCall_lent [0] 6 (s1) (by decide) rfl rfl ?_
      repeat (refine And.intro (of_decide_eq_true rfl) ?_)
      refine bc_split (fun g => ?_) (fun g => ?_)
      · exact absurd g e0
      repeat (refine And.intro (of_decide_eq_true rfl) ?_)
      refine bc_split (fun g => ?_) (fun g => ?_)
      · exact absurd g e1
      repeat (refine And.intro (of_decide_eq_true rfl) ?_)
      refine bc_split (fun g => ?_) (fun g => ?_)
      · repeat (refine And.intro (of_decide_eq_true rfl) ?_)
        refine ret_ownR [0] 6 (by first | exact .inr rfl | exact .inl rfl) rfl (by decide) rfl (Nat.le_refl 1) rfl rfl ?_
        rfl
      · exact absurd e2 (of_decide_eq_false g)
    case hP => exact ⟨_, rfl⟩
  · obtain ⟨p2, h2, _, ⟨x, x0, rfl⟩, s2⟩ := rd_word (nn := nn) hc p1 h1
    apply RdF.mk h2
    case hF =>
      apply spec_ewL (G := G0) (fid := 134) (fn := Try.f134) Try.func134 (by kernel_rfl) rfl (by kernel_rfl)
      repeat (refine And.intro (of_decide_eq_true rfl) ?_)
      refine eCall_lent [0] 6 (s1) (by decide) rfl rfl ?_
      repeat (refine And.intro (of_decide_eq_true rfl) ?_)
      refine bc_split (fun g => ?_) (fun g => ?_)
      · exact absurd g e0
      repeat (refine And.intro (of_decide_eq_true rfl) ?_)
      refine bc_split (fun g => ?_) (fun g => ?_)
      · exact absurd g e1
      repeat (refine And.intro (of_decide_eq_true rfl) ?_)
      refine bc_split (fun g => ?_) (fun g => ?_)
      · exact absurd (of_decide_eq_true g) e2
      repeat (refine And.intro (of_decide_eq_true rfl) ?_)
      refine eCall_lent [0] 6 (s2) (by decide) rfl rfl ?_
      repeat (refine And.intro (of_decide_eq_true rfl) ?_)
      refine And.intro ?_ ?_
      · show IntKind.u64.wrap (IntKind.i64.wrap (IntKind.i64.wrap (hi - lo) + 1)) ≠ 0
        have e : IntKind.i64.wrap (hi - lo) = hi - lo := wrap_id (by omega) (by omega)
        rw [e, wrap_id (by omega) (by omega), wrapu_id (by omega) (by omega)]; omega
      repeat (refine And.intro (of_decide_eq_true rfl) ?_)
      refine ret_ownR [0] 6 (by first | exact .inr rfl | exact .inl rfl) rfl (by decide) rfl (Nat.le_refl 1) rfl rfl ?_
      rfl
    case hP => exact ⟨_, rfl⟩
theorem rd_off (hc : Code code) (lo hi : Int) (hlo : Sm lo) (hhi : Sm hi) : RdF nn code 82 [i64 lo, i64 hi] fun r => ∃ v : Int, r = i64 v := by
  intro p hp
  obtain ⟨p1, h1, _, ⟨b, rfl⟩, s1⟩ := rd_once (nn := nn) hc 24 (by omega) (by omega) p hp
  cases b with
  | true =>
    obtain ⟨p2, h2, _, ⟨v, v0, v1, rfl⟩, s2⟩ := rd_below (nn := nn) hc 4 (by omega) (by omega) p1 h1
    have : v = 0 ∨ v = 1 ∨ v = 2 ∨ v = 3 := by omega
    rcases this with rfl | rfl | rfl | rfl
    all_goals
      apply RdF.mk h2
      case hF =>
        apply spec_ewL (G := G0) (fid := 82) (fn := Try.f82) Try.func82 (by kernel_rfl) rfl (by kernel_rfl)
        repeat (refine And.intro (of_decide_eq_true rfl) ?_)
        refine eCall_lent [0] 6 (s1) (by decide) rfl rfl ?_
        repeat (refine And.intro (of_decide_eq_true rfl) ?_)
        refine eCall_lent [0] 6 (s2) (by decide) rfl rfl ?_
        repeat (refine And.intro (of_decide_eq_true rfl) ?_)
        refine ret_ownR [0] 6 (by first | exact .inr rfl | exact .inl rfl) rfl (by decide) rfl (Nat.le_refl 1) rfl rfl ?_
        rfl
      case hP => exact ⟨_, rfl⟩
  | false =>
    obtain ⟨p2, h2, _, ⟨v, rfl⟩, s2⟩ := rd_near (nn := nn) hc lo hi hlo hhi p1 h1
    apply RdF.mk h2
    case hF =>
      apply spec_ewL (G := G0) (fid := 82) (fn := Try.f82) Try.func82 (by kernel_rfl) rfl (by kernel_rfl)
      repeat (refine And.intro (of_decide_eq_true rfl) ?_)
      refine eCall_lent [0] 6 (s1) (by decide) rfl rfl ?_
      repeat (refine And.intro (of_decide_eq_true rfl) ?_)
      refine eCall_lent [0] 6 (s2) (by decide) rfl rfl ?_
      repeat (refine And.intro (of_decide_eq_true rfl) ?_)
      refine ret_ownR [0] 6 (by first | exact .inr rfl | exact .inl rfl) rfl (by decide) rfl (Nat.le_refl 1) rfl rfl ?_
      rfl
    case hP => exact ⟨_, rfl⟩
theorem rd_spot (hc : Code code) : RdF nn code 135 [] fun r => ∃ x y : Int, r = .agg [i64 x, i64 y] := by
  intro p hp
  obtain ⟨p1, h1, _, ⟨x, rfl⟩, s1⟩ := rd_near (nn := nn) hc (-6) 6 (by unfold Sm; omega) (by unfold Sm; omega) p hp
  obtain ⟨p2, h2, _, ⟨y, rfl⟩, s2⟩ := rd_near (nn := nn) hc (-6) 6 (by unfold Sm; omega) (by unfold Sm; omega) p1 h1
  apply RdF.mk h2
  case hF =>
    apply spec_ewL (G := G0) (fid := 135) (fn := Try.f135) Try.func135 (by kernel_rfl) rfl (by kernel_rfl)
    repeat (refine And.intro (of_decide_eq_true rfl) ?_)
    refine eCall_lent [0] 6 (s1) (by decide) rfl rfl ?_
    repeat (refine And.intro (of_decide_eq_true rfl) ?_)
    refine eCall_lent [0] 6 (s2) (by decide) rfl rfl ?_
    repeat (refine And.intro (of_decide_eq_true rfl) ?_)
    refine ret_ownR [0] 6 (by first | exact .inr rfl | exact .inl rfl) rfl (by decide) rfl (Nat.le_refl 1) rfl rfl ?_
    rfl
  case hP => exact ⟨_, _, rfl⟩
end Go.Proofs.Ytendgiieolkleaa

/- A number put into a list; the segment of a number. -/
namespace Go.Proofs.Ytendgiieolkleaa
open Go.Aw
set_option maxHeartbeats 1000000
set_option maxRecDepth 100000
set_option linter.unusedSimpArgs false
set_option linter.unusedVariables false
def withGo (n : Int) : Bool → List Int → List Int
  | done, [] => if done = true then [] else [n]
  | done, a :: r => (if (!done && decide (n ≤ a)) = true then [n] else []) ++ ((if (a != n) = true then [a] else []) ++ withGo n (done || decide (n ≤ a)) r)
def withL (l : List Int) (n : Int) : List Int := withGo n false l
theorem withGo_len (n : Int) : ∀ (l : List Int) (d : Bool), (withGo n d l).length ≤ 2 * l.length + 1 := by
  intro l
  induction l with
  | nil => intro d; unfold withGo; split <;> simp
  | cons a r ih =>
    intro d
    have := ih (d || decide (n ≤ a))
    unfold withGo
    simp only [List.length_append, List.length_cons]
    split <;> split <;> simp <;> omega
def st130 (nn : Bool) (l : List Int) (n : Int) : Nat × Nat × List (List AV) × Bool × Int → St
  | (_, ln, es, d, i) => ⟨49, 0, [(0, .sl nn 1 (l.map enc1)), (1, i64 n), (5, .loc 0 1 0 ln), (6, bo d), (7, i64 i)], [(0, ⟨true, true, 1, es⟩)], 1⟩
theorem spec_With (nn : Bool) (l : List Int) (n : Int) (hl : l.length ≤ 1048576) : Fun G0 130 [.sl nn 1 (l.map enc1), i64 n] [] (encIds (withL l n)) [] := by
  refine spec_ewL (G := G0) (fid := 130) (fn := Try.f130) Try.func130 (by kernel_rfl) rfl (by kernel_rfl) ?_
  repeat (refine And.intro (of_decide_eq_true rfl) ?_)
  refine eLoop_pre (st130 nn l n) (fun a => a.1 ≤ l.length ∧ a.2.2.2.2 = a.1 ∧ a.2.1 = a.2.2.1.length ∧ a.2.1 ≤ 2 * a.1 ∧ ∃ acc : List Int, a.2.2.1 = acc.map enc1 ∧ acc ++ withGo n a.2.2.2.1 (l.drop a.1) = withL l n) (fun a => l.length - a.1) (0, 0, [], false, 0) (weak_in [0, 1, 5, 6, 7] [0] 1 rfl (fun l hl => absurd hl (Nat.not_lt_zero l)) rfl) ⟨Nat.zero_le _, rfl, rfl, Nat.zero_le _, [], rfl, rfl⟩ ?_
  rintro ⟨i, ln, es, d, iv⟩ ⟨hi, hiv, hln, hle, acc, he, hacc⟩
  simp only at hi hiv hln hle he hacc
  subst hiv he
  refine bc_split (fun h => ?_) (fun h => ?_)
  · have hlt : i < l.length := by have := of_decide_eq_true h; simp at this; omega
    rw [List.drop_eq_getElem_cons hlt] at hacc
    simp only [withGo] at hacc
    cases d with
    | true =>
      repeat (refine And.intro (of_decide_eq_true rfl) ?_)
      refine And.intro (ix_ok hlt) ?_
      rw [ix_get hlt]
      repeat (refine And.intro (of_decide_eq_true rfl) ?_)
      refine bc_split (fun h2 => ?_) (fun h2 => ?_)
      · have h2 : (l[i] != n) = true := h2
        repeat (refine And.intro (of_decide_eq_true rfl) ?_)
        refine And.intro (ix_ok hlt) ?_
        rw [ix_get hlt]
        repeat (refine And.intro (of_decide_eq_true rfl) ?_)
        refine eApp_grow tiI [enc1 l[i]] true ⟨true, true, 1, acc.map enc1⟩ app29 rfl rfl rfl rfl (Nat.zero_le _) rfl ((Nat.zero_add ln).trans hln) (by simp [tiI]; omega) ?_
        repeat (refine And.intro (of_decide_eq_true rfl) ?_)
        refine ⟨(i + 1, ln + 1, acc.map enc1 ++ [enc1 l[i]], true, IntKind.i64.wrap (↑i + 1)), weak_in0 [0, 1, 5, 6, 7] [0] 1 rfl rfl, ⟨hlt, wrap_succ (by omega), by simp [hln], by simp only; omega, acc ++ [l[i]], by simp, by rw [← hacc]; simp [h2]⟩, by simp only; omega⟩
      · have h2 : (l[i] != n) = false := h2
        repeat (refine And.intro (of_decide_eq_true rfl) ?_)
        refine ⟨(i + 1, ln, acc.map enc1, true, IntKind.i64.wrap (↑i + 1)), weak_in0 [0, 1, 5, 6, 7] [0] 1 rfl rfl, ⟨hlt, wrap_succ (by omega), hln, by simp only; omega, acc, rfl, by rw [← hacc]; simp [h2]⟩, by simp only; omega⟩
    | false =>
      repeat (refine And.intro (of_decide_eq_true rfl) ?_)
      refine And.intro (ix_ok hlt) ?_
      rw [ix_get hlt]
      repeat (refine And.intro (of_decide_eq_true rfl) ?_)
      refine bc_split (fun h1 => ?_) (fun h1 => ?_)
      · have h1 : decide (n ≤ l[i]) = true := h1
        repeat (refine And.intro (of_decide_eq_true rfl) ?_)
        refine eApp_grow tiI [enc1 n] true ⟨true, true, 1, acc.map enc1⟩ app29 rfl rfl rfl rfl (Nat.zero_le _) rfl ((Nat.zero_add ln).trans hln) (by simp [tiI]; omega) ?_
        repeat (refine And.intro (of_decide_eq_true rfl) ?_)
        refine And.intro (ix_ok hlt) ?_
        rw [ix_get hlt]
        repeat (refine And.intro (of_decide_eq_true rfl) ?_)
        refine bc_split (fun h2 => ?_) (fun h2 => ?_)
        · have h2 : (l[i] != n) = true := h2
          repeat (refine And.intro (of_decide_eq_true rfl) ?_)
          refine And.intro (ix_ok hlt) ?_
          rw [ix_get hlt]
          repeat (refine And.intro (of_decide_eq_true rfl) ?_)
          refine eApp_grow tiI [enc1 l[i]] true ⟨true, true, 1, acc.map enc1 ++ [enc1 n]⟩ app29 rfl rfl rfl rfl (Nat.zero_le _) rfl (by simp [hln]) (by simp [tiI]; omega) ?_
          repeat (refine And.intro (of_decide_eq_true rfl) ?_)
          refine ⟨(i + 1, ln + 1 + 1, acc.map enc1 ++ [enc1 n] ++ [enc1 l[i]], true, IntKind.i64.wrap (↑i + 1)), weak_in0 [0, 1, 5, 6, 7] [0] 1 rfl rfl, ⟨hlt, wrap_succ (by omega), by simp [hln], by simp only; omega, acc ++ [n] ++ [l[i]], by simp, by rw [← hacc]; simp [h1, h2]⟩, by simp only; omega⟩
        · have h2 : (l[i] != n) = false := h2
          repeat (refine And.intro (of_decide_eq_true rfl) ?_)
          refine ⟨(i + 1, ln + 1, acc.map enc1 ++ [enc1 n], true, IntKind.i64.wrap (↑i + 1)), weak_in0 [0, 1, 5, 6, 7] [0] 1 rfl rfl, ⟨hlt, wrap_succ (by omega), by simp [hln], by simp only; omega, acc ++ [n], by simp, by rw [← hacc]; simp [h1, h2]⟩, by simp only; omega⟩
      · have h1 : decide (n ≤ l[i]) = false := h1
        repeat (refine And.intro (of_decide_eq_true rfl) ?_)
        refine And.intro (ix_ok hlt) ?_
        rw [ix_get hlt]
        repeat (refine And.intro (of_decide_eq_true rfl) ?_)
        refine bc_split (fun h2 => ?_) (fun h2 => ?_)
        · have h2 : (l[i] != n) = true := h2
          repeat (refine And.intro (of_decide_eq_true rfl) ?_)
          refine And.intro (ix_ok hlt) ?_
          rw [ix_get hlt]
          repeat (refine And.intro (of_decide_eq_true rfl) ?_)
          refine eApp_grow tiI [enc1 l[i]] true ⟨true, true, 1, acc.map enc1⟩ app29 rfl rfl rfl rfl (Nat.zero_le _) rfl ((Nat.zero_add ln).trans hln) (by simp [tiI]; omega) ?_
          repeat (refine And.intro (of_decide_eq_true rfl) ?_)
          refine ⟨(i + 1, ln + 1, acc.map enc1 ++ [enc1 l[i]], false, IntKind.i64.wrap (↑i + 1)), weak_in0 [0, 1, 5, 6, 7] [0] 1 rfl rfl, ⟨hlt, wrap_succ (by omega), by simp [hln], by simp only; omega, acc ++ [l[i]], by simp, by rw [← hacc]; simp [h1, h2]⟩, by simp only; omega⟩
        · have h2 : (l[i] != n) = false := h2
          repeat (refine And.intro (of_decide_eq_true rfl) ?_)
          refine ⟨(i + 1, ln, acc.map enc1, false, IntKind.i64.wrap (↑i + 1)), weak_in0 [0, 1, 5, 6, 7] [0] 1 rfl rfl, ⟨hlt, wrap_succ (by omega), hln, by simp only; omega, acc, rfl, by rw [← hacc]; simp [h1, h2]⟩, by simp only; omega⟩
  · have hge : i = l.length := by have := of_decide_eq_false h; simp at this; omega
    subst hge
    rw [List.drop_length] at hacc
    cases d with
    | true =>
      repeat (refine And.intro (of_decide_eq_true rfl) ?_)
      refine ret_lax (.inr rfl) rfl (vw_rowE rfl rfl rfl hln) ?_
      rw [← hacc]
      simp only [withGo, if_true, List.append_nil]
      exact .refl _
    | false =>
      repeat (refine And.intro (of_decide_eq_true rfl) ?_)
      refine eApp_grow tiI [enc1 n] true ⟨true, true, 1, acc.map enc1⟩ app29 rfl rfl rfl rfl (Nat.zero_le _) rfl ((Nat.zero_add ln).trans hln) (by simp [tiI]; omega) ?_
      repeat (refine And.intro (of_decide_eq_true rfl) ?_)
      refine ret_lax (.inr rfl) rfl (vw_rowE (es := acc.map enc1 ++ [enc1 n]) rfl rfl rfl (by simp [hln])) ?_
      rw [← hacc]
      have : encIds (acc ++ withGo n false []) = .sl false 1 (acc.map enc1 ++ [enc1 n]) := by simp [encIds, withGo]
      rw [this]
      exact .refl _
def segOfId (items : List Item) (id : Int) : Int × Int × Int × Int := match items.find? (fun i => i.1 == id) with | some i => i.2 | none => (0, 0, 0, 0)
def encS (s : Int × Int × Int × Int) : AV := .agg [i64 s.1, i64 s.2.1, i64 s.2.2.1, i64 s.2.2.2]
def st141 (nn : Bool) (items : List Item) (id : Int) : Nat × Int → St
  | (_, i) => ⟨25, 0, [(0, .sl nn 5 (items.map encI)), (1, i64 id), (4, .ptr 0 0 0), (5, i64 i)], [(0, ⟨true, true, 4, [[i64 0, i64 0, i64 0, i64 0]]⟩)], 1⟩
theorem spec_Seg (nn : Bool) (items : List Item) (id : Int) (hI : items.length ≤ 1048576) : Fun G0 141 [.sl nn 5 (items.map encI), i64 id] [] (encS (segOfId items id)) [] := by
  refine spec_ewL (G := G0) (fid := 141) (fn := Try.f141) Try.func141 (by kernel_rfl) rfl (by kernel_rfl) ?_
  repeat (refine And.intro (of_decide_eq_true rfl) ?_)
  refine eLoop_pre (st141 nn items id) (fun a => a.1 ≤ items.length ∧ a.2 = a.1 ∧ segOfId (items.drop a.1) id = segOfId items id) (fun a => items.length - a.1) (0, 0) (weak_to [0, 1, 4, 5] 1 rfl rfl) ⟨Nat.zero_le _, rfl, rfl⟩ ?_
  rintro ⟨i, iv⟩ ⟨hi, hiv, hr⟩
  simp only at hi hiv hr
  subst hiv
  refine bc_split (fun h => ?_) (fun h => ?_)
  · have hlt : i < items.length := by have := of_decide_eq_true h; simp at this; omega
    rw [List.drop_eq_getElem_cons hlt] at hr
    repeat (refine And.intro (of_decide_eq_true rfl) ?_)
    refine And.intro (ix_ok hlt) ?_
    rw [ix_get hlt]
    repeat (refine And.intro (of_decide_eq_true rfl) ?_)
    refine bc_split (fun h2 => ?_) (fun h2 => ?_)
    · have h2 : (items[i].1 == id) = true := h2
      repeat (refine And.intro (of_decide_eq_true rfl) ?_)
      refine And.intro (ix_ok hlt) ?_
      rw [ix_get hlt]
      repeat (refine And.intro (of_decide_eq_true rfl) ?_)
      exact ret_eq (by first | exact .inr rfl | exact .inl rfl) rfl rfl (by rw [← hr]; simp only [segOfId, List.find?_cons, h2]; rfl)
    · have h2 : (items[i].1 == id) = false := h2
      repeat (refine And.intro (of_decide_eq_true rfl) ?_)
      refine ⟨(i + 1, IntKind.i64.wrap (↑i + 1)), weak_to [0, 1, 4, 5] 1 rfl rfl, ⟨hlt, wrap_succ (by omega), ?_⟩, by simp only; omega⟩
      rw [← hr]; simp only [segOfId, List.find?_cons, h2]
  · have hge : i = items.length := by have := of_decide_eq_false h; simp at this; omega
    subst hge
    rw [List.drop_length] at hr
    repeat (refine And.intro (of_decide_eq_true rfl) ?_)
    exact ret_eq (by first | exact .inr rfl | exact .inl rfl) rfl rfl (by rw [← hr]; rfl)
end Go.Proofs.Ytendgiieolkleaa
