/-  -/
import Derived.Test.YtendgiieolkleaaChecked
import Derived.KernelRfl
import Derived.Test.YtendgiieolkleaaM6

/- D1 -/
namespace Go.Proofs.Ytendgiieolkleaa
open Go.Aw
def eqs : List (Nat × List IntKind) := [(37, [.i64, .i64]), (56, [.i64, .i64, .i64, .i64])]
@[reducible] noncomputable def G0 : Env := ⟨Try.prog, eqT eqs, Try.checked.mixed, hE_of eqs (by kernel_rfl)⟩
set_option maxHeartbeats 1000000
set_option pp.maxSteps 3000
set_option maxRecDepth 100000
abbrev i64 (a : Int) : AV := .s (.int .i64 a)
abbrev bo (b : Bool) : AV := .s (.bool b)

def inB (a b c : Int) : Bool := decide (b ≤ a) && decide (a ≤ c)
theorem within (a b c : Int) : Fun G0 67 [i64 a, i64 b, i64 c] [] (bo (inB a b c)) [] := by
  refine spec_ew (G := G0) (fid := 67) (fn := Try.f67) Try.func67 (by kernel_rfl) rfl (by kernel_rfl) ?_
  refine bc_split (fun h => ?_) (fun h => ?_)
  · exact ret_pure (.inr rfl) rfl rfl (by simp only [inB, h, Bool.true_and])
  · exact ret_pure (.inr rfl) rfl rfl (by simp only [inB, h, Bool.false_and])
def spotOk (x y : Int) : Bool := inB x (-1000000) 1000000 && inB y (-1000000) 1000000
theorem impl_SpotOk (x y : Int) : Fun G0 102 [.agg [i64 x, i64 y]] [] (bo (spotOk x y)) [] := by
  refine spec_ew (G := G0) (fid := 102) (fn := Try.f102) Try.func102 (by kernel_rfl) rfl (by kernel_rfl) ?_
  repeat (refine And.intro (of_decide_eq_true rfl) ?_)
  refine eCall_flat (within _ _ _) rfl rfl ?_
  refine bc_split (fun h => ?_) (fun h => ?_)
  · repeat (refine And.intro (of_decide_eq_true rfl) ?_)
    refine eCall_flat (within _ _ _) rfl rfl ?_
    exact ret_pure (.inr rfl) rfl rfl (by simp only [spotOk, h, Bool.true_and])
  · exact ret_pure (.inr rfl) rfl rfl (by simp only [spotOk, h, Bool.false_and])
theorem spec_in (a b c : Int) : Fun G0 88 [i64 a, i64 b, i64 c] [] (bo (inB a b c)) [] := by
  refine spec_ew (G := G0) (fid := 88) (fn := Try.f88) Try.func88 (by kernel_rfl) rfl (by kernel_rfl) ?_
  refine bc_split (fun h => ?_) (fun h => ?_)
  · refine ret_pure (.inr rfl) rfl rfl ?_
    have h : decide (b ≤ a) = true := by simpa using h
    simp only [inB, h, Bool.true_and]
  · refine ret_pure (.inr rfl) rfl rfl ?_
    have h : decide (b ≤ a) = false := by simpa using h
    simp only [inB, h, Bool.false_and]
theorem spec_SpotOk (x y : Int) : Fun G0 118 [.agg [i64 x, i64 y]] [] (bo (spotOk x y)) [] := by
  refine spec_ew (G := G0) (fid := 118) (fn := Try.f118) Try.func118 (by kernel_rfl) rfl (by kernel_rfl) ?_
  repeat (refine And.intro (of_decide_eq_true rfl) ?_)
  refine eCall_flat (spec_in _ _ _) rfl rfl ?_
  refine bc_split (fun h => ?_) (fun h => ?_)
  · repeat (refine And.intro (of_decide_eq_true rfl) ?_)
    refine eCall_flat (spec_in _ _ _) rfl rfl ?_
    exact ret_pure (.inr rfl) rfl rfl (by simp only [spotOk, h, Bool.true_and])
  · exact ret_pure (.inr rfl) rfl rfl (by simp only [spotOk, h, Bool.false_and])
def lessB (ax ay bx b_y : Int) : Bool := decide (ax < bx) || (ax == bx && decide (ay < b_y))
theorem impl_cmpSpots (ax ay bx b_y : Int) : Fun G0 128 [.agg [i64 ax, i64 ay], .agg [i64 bx, i64 b_y]] [] (i64 (if [ax, ay] == [bx, b_y] then 0 else if lessB ax ay bx b_y then -1 else 1)) [] := by
  refine spec_ew (G := G0) (fid := 128) (fn := Try.f128) Try.func128 (by kernel_rfl) rfl (by kernel_rfl) ?_
  repeat (refine And.intro (of_decide_eq_true rfl) ?_)
  refine bc_split (fun h0 => ?_) (fun h0 => ?_)
  · exact ret_pure (.inr rfl) rfl rfl (by simp only [h0, if_true])
  · repeat (refine And.intro (of_decide_eq_true rfl) ?_)
    refine bc_split (fun h => ?_) (fun h => ?_)
    · exact ret_pure (.inr rfl) rfl rfl (by simp [h0, lessB, h])
    · repeat (refine And.intro (of_decide_eq_true rfl) ?_)
      refine bc_split (fun h2 => ?_) (fun h2 => ?_)
      · repeat (refine And.intro (of_decide_eq_true rfl) ?_)
        refine bc_split (fun h3 => ?_) (fun h3 => ?_)
        · exact ret_pure (.inr rfl) rfl rfl (by simp only [h0, lessB, h, h2, h3]; rfl)
        · exact ret_pure (.inr rfl) rfl rfl (by simp only [h0, lessB, h, h2, h3]; rfl)
      · exact ret_pure (.inr rfl) rfl rfl (by simp only [h0, lessB, h, h2]; rfl)
theorem spec_less (ax ay bx b_y : Int) : Fun G0 139 [.agg [i64 ax, i64 ay], .agg [i64 bx, i64 b_y]] [] (bo (lessB ax ay bx b_y)) [] := by
  refine spec_ew (G := G0) (fid := 139) (fn := Try.f139) Try.func139 (by kernel_rfl) rfl (by kernel_rfl) ?_
  repeat (refine And.intro (of_decide_eq_true rfl) ?_)
  refine bc_split (fun h => ?_) (fun h => ?_)
  · exact ret_pure (.inr rfl) rfl rfl (by simp only [lessB, h]; rfl)
  · repeat (refine And.intro (of_decide_eq_true rfl) ?_)
    refine bc_split (fun h2 => ?_) (fun h2 => ?_)
    · repeat (refine And.intro (of_decide_eq_true rfl) ?_)
      exact ret_pure (.inr rfl) rfl rfl (by simp only [lessB, h, h2]; rfl)
    · exact ret_pure (.inr rfl) rfl rfl (by simp only [lessB, h, h2]; rfl)
def segOk (ax ay bx b_y : Int) : Bool := (spotOk ax ay && spotOk bx b_y) && lessB ax ay bx b_y
theorem lessB_irrefl (ax ay bx b_y : Int) (h : ([ax, ay] == [bx, b_y]) = true) : lessB ax ay bx b_y = false := by
  simp at h
  obtain ⟨rfl, rfl⟩ := h
  simp [lessB]
theorem cmp_neg (ax ay bx b_y : Int) : decide ((if [ax, ay] == [bx, b_y] then (0 : Int) else if lessB ax ay bx b_y then -1 else 1) < 0) = lessB ax ay bx b_y := by
  split
  · rename_i h; rw [lessB_irrefl _ _ _ _ h]; rfl
  · split
    · rename_i h; rw [h]; rfl
    · rename_i h; simp only [Bool.not_eq_true] at h; rw [h]; rfl
theorem impl_SegOk (ax ay bx b_y : Int) : Fun G0 68 [.agg [i64 ax, i64 ay, i64 bx, i64 b_y]] [] (bo (segOk ax ay bx b_y)) [] := by
  refine spec_ew (G := G0) (fid := 68) (fn := Try.f68) Try.func68 (by kernel_rfl) rfl (by kernel_rfl) ?_
  repeat (refine And.intro (of_decide_eq_true rfl) ?_)
  refine eCall_flat (impl_SpotOk _ _) rfl rfl ?_
  refine bc_split (fun h => ?_) (fun h => ?_)
  · repeat (refine And.intro (of_decide_eq_true rfl) ?_)
    refine eCall_flat (impl_SpotOk _ _) rfl rfl ?_
    refine bc_split (fun h2 => ?_) (fun h2 => ?_)
    · repeat (refine And.intro (of_decide_eq_true rfl) ?_)
      refine eCall_flat (impl_cmpSpots _ _ _ _) rfl rfl ?_
      exact ret_pure (.inr rfl) rfl rfl (by simp only [segOk, h, h2, cmp_neg]; rfl)
    · exact ret_pure (.inr rfl) rfl rfl (by simp only [segOk, h, h2]; rfl)
  · exact ret_pure (.inr rfl) rfl rfl (by simp only [segOk, h]; rfl)
theorem spec_SegOk (ax ay bx b_y : Int) : Fun G0 89 [.agg [i64 ax, i64 ay, i64 bx, i64 b_y]] [] (bo (segOk ax ay bx b_y)) [] := by
  refine spec_ew (G := G0) (fid := 89) (fn := Try.f89) Try.func89 (by kernel_rfl) rfl (by kernel_rfl) ?_
  repeat (refine And.intro (of_decide_eq_true rfl) ?_)
  refine eCall_flat (spec_SpotOk _ _) rfl rfl ?_
  refine bc_split (fun h => ?_) (fun h => ?_)
  · repeat (refine And.intro (of_decide_eq_true rfl) ?_)
    refine eCall_flat (spec_SpotOk _ _) rfl rfl ?_
    refine bc_split (fun h2 => ?_) (fun h2 => ?_)
    · repeat (refine And.intro (of_decide_eq_true rfl) ?_)
      refine eCall_flat (spec_less _ _ _ _) rfl rfl ?_
      exact ret_pure (.inr rfl) rfl rfl (by simp only [segOk, h, h2, Bool.true_and])
    · exact ret_pure (.inr rfl) rfl rfl (by simp only [segOk, h, h2]; rfl)
  · exact ret_pure (.inr rfl) rfl rfl (by simp only [segOk, h]; rfl)
end Go.Proofs.Ytendgiieolkleaa

/- D2 -/
namespace Go.Proofs.Ytendgiieolkleaa
open Go.Aw
set_option maxHeartbeats 1000000
set_option pp.maxSteps 1500
set_option maxRecDepth 100000
def W64 (n : Int) : Int := IntKind.i64.wrap n
def crs (ax ay bx b_y cx cy : Int) : Int := W64 (W64 (W64 (bx - ax) * W64 (cy - ay)) - W64 (W64 (b_y - ay) * W64 (cx - ax)))
def sgn (n : Int) : Int := if decide (n < 0) then -1 else if decide (n > 0) then 1 else 0
theorem impl_cross (ax ay bx b_y cx cy : Int) : Fun G0 123 [.agg [i64 ax, i64 ay], .agg [i64 bx, i64 b_y], .agg [i64 cx, i64 cy]] [] (i64 (crs ax ay bx b_y cx cy)) [] := by
  refine spec_ew (G := G0) (fid := 123) (fn := Try.f123) Try.func123 (by kernel_rfl) rfl (by kernel_rfl) ?_
  repeat (refine And.intro (of_decide_eq_true rfl) ?_)
  exact ret_pure (.inr rfl) rfl rfl rfl
theorem impl_sign (n : Int) : Fun G0 122 [i64 n] [] (i64 (sgn n)) [] := by
  refine spec_ew (G := G0) (fid := 122) (fn := Try.f122) Try.func122 (by kernel_rfl) rfl (by kernel_rfl) ?_
  refine bc_split (fun h => ?_) (fun h => ?_)
  · exact ret_pure (.inr rfl) rfl rfl (by simp only [sgn, h]; rfl)
  · refine bc_split (fun h2 => ?_) (fun h2 => ?_)
    · exact ret_pure (.inr rfl) rfl rfl (by simp only [sgn, h, h2]; rfl)
    · exact ret_pure (.inr rfl) rfl rfl (by simp only [sgn, h, h2]; rfl)
theorem spec_turn (ax ay bx b_y cx cy : Int) : Fun G0 119 [.agg [i64 ax, i64 ay], .agg [i64 bx, i64 b_y], .agg [i64 cx, i64 cy]] [] (i64 (sgn (crs ax ay bx b_y cx cy))) [] := by
  refine spec_ew (G := G0) (fid := 119) (fn := Try.f119) Try.func119 (by kernel_rfl) rfl (by kernel_rfl) ?_
  repeat (refine And.intro (of_decide_eq_true rfl) ?_)
  refine bc_split (fun h => ?_) (fun h => ?_)
  · have h : decide (crs ax ay bx b_y cx cy < 0) = true := h
    exact ret_pure (.inr rfl) rfl rfl (by simp only [sgn, h]; rfl)
  · have h : decide (crs ax ay bx b_y cx cy < 0) = false := h
    refine bc_split (fun h2 => ?_) (fun h2 => ?_)
    · have h2 : decide (crs ax ay bx b_y cx cy > 0) = true := h2
      exact ret_pure (.inr rfl) rfl rfl (by simp only [sgn, h, h2]; rfl)
    · have h2 : decide (crs ax ay bx b_y cx cy > 0) = false := h2
      exact ret_pure (.inr rfl) rfl rfl (by simp only [sgn, h, h2]; rfl)
end Go.Proofs.Ytendgiieolkleaa

/- D3 -/
namespace Go.Proofs.Ytendgiieolkleaa
open Go.Aw
set_option maxHeartbeats 1000000
set_option pp.maxSteps 800
set_option maxRecDepth 100000
def mx (a b : Int) : Int := if b > a then b else a
def mn (a b : Int) : Int := if b < a then b else a
def sideOf (s : Int × Int × Int × Int) (cx cy : Int) : Int := sgn (crs s.1 s.2.1 s.2.2.1 s.2.2.2 cx cy)
def outB (s : Int × Int × Int × Int) (lx ly hx hy : Int) : Bool :=
  ((decide (s.2.2.1 < lx) || decide (hx < s.1)) || decide (mx s.2.1 s.2.2.2 < ly)) || decide (hy < mn s.2.1 s.2.2.2)
def leastB (s : Int × Int × Int × Int) (lx ly hx hy : Int) : Int := mn (mn (mn (mn 1 (sideOf s lx ly)) (sideOf s lx hy)) (sideOf s hx ly)) (sideOf s hx hy)
def mostB (s : Int × Int × Int × Int) (lx ly hx hy : Int) : Int := mx (mx (mx (mx (-1) (sideOf s lx ly)) (sideOf s lx hy)) (sideOf s hx ly)) (sideOf s hx hy)
def meetsB (s : Int × Int × Int × Int) (lx ly hx hy : Int) : Bool :=
  !outB s lx ly hx hy && (decide (leastB s lx ly hx hy ≤ 0) && decide (0 ≤ mostB s lx ly hx hy))
theorem impl_meetsBox (ax ay bx b_y lx ly hx hy : Int) : Fun G0 59 [.agg [i64 ax, i64 ay, i64 bx, i64 b_y], .agg [i64 lx, i64 ly], .agg [i64 hx, i64 hy]] [] (bo (meetsB (ax, ay, bx, b_y) lx ly hx hy)) [] := by
  refine spec_ew (G := G0) (fid := 59) (fn := Try.f59) Try.func59 (by kernel_rfl) rfl (by kernel_rfl) ?_
  repeat (refine And.intro (of_decide_eq_true rfl) ?_)
  refine bc_split (fun h1 => ?_) (fun h1 => ?_)
  · exact ret_pure (.inr rfl) rfl rfl (by simp only [meetsB, outB, h1]; rfl)
  repeat (refine And.intro (of_decide_eq_true rfl) ?_)
  refine bc_split (fun h2 => ?_) (fun h2 => ?_)
  · exact ret_pure (.inr rfl) rfl rfl (by simp only [meetsB, outB, h1, h2]; rfl)
  repeat (refine And.intro (of_decide_eq_true rfl) ?_)
  refine bc_split (fun h3 => ?_) (fun h3 => ?_)
  · have h3 : decide (mx ay b_y < ly) = true := h3
    exact ret_pure (.inr rfl) rfl rfl (by simp only [meetsB, outB, h1, h2, h3]; rfl)
  have h3 : decide (mx ay b_y < ly) = false := h3
  repeat (refine And.intro (of_decide_eq_true rfl) ?_)
  refine bc_split (fun h4 => ?_) (fun h4 => ?_)
  · have h4 : decide (hy < mn ay b_y) = true := h4
    exact ret_pure (.inr rfl) rfl rfl (by simp only [meetsB, outB, h1, h2, h3, h4]; rfl)
  have h4 : decide (hy < mn ay b_y) = false := h4
  repeat (refine And.intro (of_decide_eq_true rfl) ?_)
  refine eLoop_step ?_
  repeat (refine And.intro (of_decide_eq_true rfl) ?_)
  refine eLoop_step ?_
  repeat (refine And.intro (of_decide_eq_true rfl) ?_)
  refine eCall_flat (impl_cross _ _ _ _ _ _) rfl rfl ?_
  refine eCall_flat (impl_sign _) rfl rfl ?_
  refine eLoop_step ?_
  repeat (refine And.intro (of_decide_eq_true rfl) ?_)
  refine eCall_flat (impl_cross _ _ _ _ _ _) rfl rfl ?_
  refine eCall_flat (impl_sign _) rfl rfl ?_
  refine eLoop_step ?_
  refine eLoop_step ?_
  repeat (refine And.intro (of_decide_eq_true rfl) ?_)
  refine eLoop_step ?_
  repeat (refine And.intro (of_decide_eq_true rfl) ?_)
  refine eCall_flat (impl_cross _ _ _ _ _ _) rfl rfl ?_
  refine eCall_flat (impl_sign _) rfl rfl ?_
  refine eLoop_step ?_
  repeat (refine And.intro (of_decide_eq_true rfl) ?_)
  refine eCall_flat (impl_cross _ _ _ _ _ _) rfl rfl ?_
  refine eCall_flat (impl_sign _) rfl rfl ?_
  refine eLoop_step ?_
  refine eLoop_step ?_
  refine bc_split (fun h5 => ?_) (fun h5 => ?_)
  · have h5 : decide (leastB (ax, ay, bx, b_y) lx ly hx hy ≤ 0) = true := h5
    refine ret_pure (.inr rfl) rfl rfl ?_
    simp only [meetsB, outB, h1, h2, h3, h4, h5]; rfl
  · have h5 : decide (leastB (ax, ay, bx, b_y) lx ly hx hy ≤ 0) = false := h5
    exact ret_pure (.inr rfl) rfl rfl (by simp only [meetsB, outB, h1, h2, h3, h4, h5]; rfl)
end Go.Proofs.Ytendgiieolkleaa

/- D4 -/
namespace Go.Proofs.Ytendgiieolkleaa
open Go.Aw
set_option maxHeartbeats 1000000
set_option pp.maxSteps 800
set_option maxRecDepth 100000
structure Box4 where
  s : Int × Int × Int × Int
  lx : Int
  ly : Int
  hx : Int
  hy : Int
def Box4.rows (b : Box4) : List (List AV) := [[i64 b.lx, i64 b.ly], [i64 b.hx, i64 b.hy], [i64 b.lx, i64 b.hy], [i64 b.hx, i64 b.ly]]
def Box4.t (b : Box4) : Nat → Int
  | 0 => sideOf b.s b.lx b.ly
  | 1 => sideOf b.s b.hx b.hy
  | 2 => sideOf b.s b.lx b.hy
  | _ => sideOf b.s b.hx b.ly
def Box4.U (b : Box4) : Nat → Int
  | 0 => 0
  | n + 1 => if (b.t n == 1) = true then W64 (b.U n + 1) else b.U n
def Box4.D (b : Box4) : Nat → Int
  | 0 => 0
  | n + 1 => if (b.t n == 1) = true then b.D n else if (b.t n == -1) = true then W64 (b.D n + 1) else b.D n
def st55 (b : Box4) (x : Nat × Int × Int) : St := ⟨96, 0, [(3, .ptr 0 0 0), (4, .ptr 1 0 0), (5, .ptr 2 0 0), (6, bo false), (7, i64 x.2.1), (8, i64 x.2.2), (69, .loc 3 2 0 4), (70, i64 4), (71, i64 x.1)],
  [(0, ⟨true, true, 4, [[i64 b.s.1, i64 b.s.2.1, i64 b.s.2.2.1, i64 b.s.2.2.2]]⟩), (1, ⟨true, true, 2, [[i64 b.lx, i64 b.ly]]⟩), (2, ⟨true, true, 2, [[i64 b.hx, i64 b.hy]]⟩), (3, ⟨true, true, 2, b.rows⟩)], 4⟩
theorem loop55 (b : Box4) (S : St) (Q : Exit → St → Prop) (hw : Weak S (st55 b (0, 0, 0))) (hQ : ePut (st55 b (4, b.U 4, b.D 4)) (some 72) (bo false) (Q (.exit 0))) : eLoop (ew G0 (loopOf Try.f55)) S Q := by
  refine eLoop_pre (st55 b) (fun x => x.1 ≤ 4 ∧ x.2.1 = b.U x.1 ∧ x.2.2 = b.D x.1) (fun x => 4 - x.1) (0, 0, 0) hw ⟨Nat.zero_le _, rfl, rfl⟩ ?_
  rintro ⟨i, up, dn⟩ ⟨hi, hu, hd⟩
  simp only at hi hu hd
  subst hu hd
  have hi : i = 0 ∨ i = 1 ∨ i = 2 ∨ i = 3 ∨ i = 4 := by omega
  rcases hi with rfl | rfl | rfl | rfl | rfl
  · repeat (refine And.intro (of_decide_eq_true rfl) ?_)
    refine eCall_flat (spec_turn _ _ _ _ _ _) rfl rfl ?_
    refine bc_split (fun h => ?_) (fun h => ?_)
    · have h : (b.t 0 == 1) = true := h
      exact ⟨(1, W64 (b.U 0 + 1), b.D 0), weak_to [3, 4, 5, 6, 7, 8, 69, 70, 71] 4 rfl rfl, ⟨by omega, by simp only [Box4.U, h, if_true], by simp only [Box4.D, h, if_true]⟩, by simp⟩
    · have h : (b.t 0 == 1) = false := h
      refine bc_split (fun h2 => ?_) (fun h2 => ?_)
      · have h2 : (b.t 0 == -1) = true := h2
        exact ⟨(1, b.U 0, W64 (b.D 0 + 1)), weak_to [3, 4, 5, 6, 7, 8, 69, 70, 71] 4 rfl rfl, ⟨by omega, by simp only [Box4.U, h, if_false, Bool.false_eq_true], by simp only [Box4.D, h, h2, if_true, if_false, Bool.false_eq_true]⟩, by simp⟩
      · have h2 : (b.t 0 == -1) = false := h2
        exact ⟨(1, b.U 0, b.D 0), weak_to [3, 4, 5, 6, 7, 8, 69, 70, 71] 4 rfl rfl, ⟨by omega, by simp only [Box4.U, h, if_false, Bool.false_eq_true], by simp only [Box4.D, h, h2, if_false, Bool.false_eq_true]⟩, by simp⟩
  · repeat (refine And.intro (of_decide_eq_true rfl) ?_)
    refine eCall_flat (spec_turn _ _ _ _ _ _) rfl rfl ?_
    refine bc_split (fun h => ?_) (fun h => ?_)
    · have h : (b.t 1 == 1) = true := h
      exact ⟨(2, W64 (b.U 1 + 1), b.D 1), weak_to [3, 4, 5, 6, 7, 8, 69, 70, 71] 4 rfl rfl, ⟨by omega, by simp only [Box4.U, h, if_true], by simp only [Box4.D, h, if_true]⟩, by simp⟩
    · have h : (b.t 1 == 1) = false := h
      refine bc_split (fun h2 => ?_) (fun h2 => ?_)
      · have h2 : (b.t 1 == -1) = true := h2
        exact ⟨(2, b.U 1, W64 (b.D 1 + 1)), weak_to [3, 4, 5, 6, 7, 8, 69, 70, 71] 4 rfl rfl, ⟨by omega, by simp only [Box4.U, h, if_false, Bool.false_eq_true], by simp only [Box4.D, h, h2, if_true, if_false, Bool.false_eq_true]⟩, by simp⟩
      · have h2 : (b.t 1 == -1) = false := h2
        exact ⟨(2, b.U 1, b.D 1), weak_to [3, 4, 5, 6, 7, 8, 69, 70, 71] 4 rfl rfl, ⟨by omega, by simp only [Box4.U, h, if_false, Bool.false_eq_true], by simp only [Box4.D, h, h2, if_false, Bool.false_eq_true]⟩, by simp⟩
  · repeat (refine And.intro (of_decide_eq_true rfl) ?_)
    refine eCall_flat (spec_turn _ _ _ _ _ _) rfl rfl ?_
    refine bc_split (fun h => ?_) (fun h => ?_)
    · have h : (b.t 2 == 1) = true := h
      exact ⟨(3, W64 (b.U 2 + 1), b.D 2), weak_to [3, 4, 5, 6, 7, 8, 69, 70, 71] 4 rfl rfl, ⟨by omega, by simp only [Box4.U, h, if_true], by simp only [Box4.D, h, if_true]⟩, by simp⟩
    · have h : (b.t 2 == 1) = false := h
      refine bc_split (fun h2 => ?_) (fun h2 => ?_)
      · have h2 : (b.t 2 == -1) = true := h2
        exact ⟨(3, b.U 2, W64 (b.D 2 + 1)), weak_to [3, 4, 5, 6, 7, 8, 69, 70, 71] 4 rfl rfl, ⟨by omega, by simp only [Box4.U, h, if_false, Bool.false_eq_true], by simp only [Box4.D, h, h2, if_true, if_false, Bool.false_eq_true]⟩, by simp⟩
      · have h2 : (b.t 2 == -1) = false := h2
        exact ⟨(3, b.U 2, b.D 2), weak_to [3, 4, 5, 6, 7, 8, 69, 70, 71] 4 rfl rfl, ⟨by omega, by simp only [Box4.U, h, if_false, Bool.false_eq_true], by simp only [Box4.D, h, h2, if_false, Bool.false_eq_true]⟩, by simp⟩
  · repeat (refine And.intro (of_decide_eq_true rfl) ?_)
    refine eCall_flat (spec_turn _ _ _ _ _ _) rfl rfl ?_
    refine bc_split (fun h => ?_) (fun h => ?_)
    · have h : (b.t 3 == 1) = true := h
      exact ⟨(4, W64 (b.U 3 + 1), b.D 3), weak_to [3, 4, 5, 6, 7, 8, 69, 70, 71] 4 rfl rfl, ⟨by omega, by simp only [Box4.U, h, if_true], by simp only [Box4.D, h, if_true]⟩, by simp⟩
    · have h : (b.t 3 == 1) = false := h
      refine bc_split (fun h2 => ?_) (fun h2 => ?_)
      · have h2 : (b.t 3 == -1) = true := h2
        exact ⟨(4, b.U 3, W64 (b.D 3 + 1)), weak_to [3, 4, 5, 6, 7, 8, 69, 70, 71] 4 rfl rfl, ⟨by omega, by simp only [Box4.U, h, if_false, Bool.false_eq_true], by simp only [Box4.D, h, h2, if_true, if_false, Bool.false_eq_true]⟩, by simp⟩
      · have h2 : (b.t 3 == -1) = false := h2
        exact ⟨(4, b.U 3, b.D 3), weak_to [3, 4, 5, 6, 7, 8, 69, 70, 71] 4 rfl rfl, ⟨by omega, by simp only [Box4.U, h, if_false, Bool.false_eq_true], by simp only [Box4.D, h, h2, if_false, Bool.false_eq_true]⟩, by simp⟩
  · exact hQ
def outS (s : Int × Int × Int × Int) (lx ly hx hy : Int) : Bool :=
  ((decide (s.2.2.1 < lx) || decide (hx < s.1)) || (decide (s.2.1 < ly) && decide (s.2.2.2 < ly))) || (decide (hy < s.2.1) && decide (hy < s.2.2.2))
def Box4.meets (b : Box4) : Bool := !outS b.s b.lx b.ly b.hx b.hy && (decide (b.U 4 < 4) && decide (b.D 4 < 4))
theorem spec_meetsBox0 (ax ay bx b_y lx ly hx hy : Int) : Fun G0 55 [.agg [i64 ax, i64 ay, i64 bx, i64 b_y], .agg [i64 lx, i64 ly], .agg [i64 hx, i64 hy]] [] (bo (Box4.meets ⟨(ax, ay, bx, b_y), lx, ly, hx, hy⟩)) [] := by
  refine spec_ew (G := G0) (fid := 55) (fn := Try.f55) Try.func55 (by kernel_rfl) rfl (by kernel_rfl) ?_
  repeat (refine And.intro (of_decide_eq_true rfl) ?_)
  refine bc_split (fun h1 => ?_) (fun h1 => ?_)
  · exact ret_pure (.inr rfl) rfl rfl (by simp only [Box4.meets, outS, h1]; rfl)
  repeat (refine And.intro (of_decide_eq_true rfl) ?_)
  refine bc_split (fun h2 => ?_) (fun h2 => ?_)
  · exact ret_pure (.inr rfl) rfl rfl (by simp only [Box4.meets, outS, h1, h2]; rfl)
  repeat (refine And.intro (of_decide_eq_true rfl) ?_)
  refine bc_split (fun h3 => ?_) (fun h3 => ?_)
  · repeat (refine And.intro (of_decide_eq_true rfl) ?_)
    refine bc_split (fun h4 => ?_) (fun h4 => ?_)
    · exact ret_pure (.inr rfl) rfl rfl (by simp only [Box4.meets, outS, h1, h2, h3, h4]; rfl)
    · repeat (refine And.intro (of_decide_eq_true rfl) ?_)
      refine bc_split (fun h5 => ?_) (fun h5 => ?_)
      · repeat (refine And.intro (of_decide_eq_true rfl) ?_)
        refine bc_split (fun h6 => ?_) (fun h6 => ?_)
        · exact ret_pure (.inr rfl) rfl rfl (by simp only [Box4.meets, outS, h1, h2, h3, h4, h5, h6]; rfl)
        · repeat (refine And.intro (of_decide_eq_true rfl) ?_)
          refine loop55 ⟨(ax, ay, bx, b_y), lx, ly, hx, hy⟩ _ _ (weak_to [3, 4, 5, 6, 7, 8, 69, 70, 71] 4 rfl rfl) ?_
          refine bc_split (fun h7 => ?_) (fun h7 => ?_)
          · have h7 : decide (Box4.U ⟨(ax, ay, bx, b_y), lx, ly, hx, hy⟩ 4 < 4) = true := h7
            exact ret_pure (.inr rfl) rfl rfl (by simp only [Box4.meets, outS, h1, h2, h3, h4, h5, h6, h7]; rfl)
          · have h7 : decide (Box4.U ⟨(ax, ay, bx, b_y), lx, ly, hx, hy⟩ 4 < 4) = false := h7
            exact ret_pure (.inr rfl) rfl rfl (by simp only [Box4.meets, outS, h1, h2, h3, h4, h5, h6, h7]; rfl)
      · repeat (refine And.intro (of_decide_eq_true rfl) ?_)
        refine loop55 ⟨(ax, ay, bx, b_y), lx, ly, hx, hy⟩ _ _ (weak_to [3, 4, 5, 6, 7, 8, 69, 70, 71] 4 rfl rfl) ?_
        refine bc_split (fun h7 => ?_) (fun h7 => ?_)
        · have h7 : decide (Box4.U ⟨(ax, ay, bx, b_y), lx, ly, hx, hy⟩ 4 < 4) = true := h7
          exact ret_pure (.inr rfl) rfl rfl (by simp only [Box4.meets, outS, h1, h2, h3, h4, h5, h7]; rfl)
        · have h7 : decide (Box4.U ⟨(ax, ay, bx, b_y), lx, ly, hx, hy⟩ 4 < 4) = false := h7
          exact ret_pure (.inr rfl) rfl rfl (by simp only [Box4.meets, outS, h1, h2, h3, h4, h5, h7]; rfl)
  · repeat (refine And.intro (of_decide_eq_true rfl) ?_)
    refine bc_split (fun h5 => ?_) (fun h5 => ?_)
    · repeat (refine And.intro (of_decide_eq_true rfl) ?_)
      refine bc_split (fun h6 => ?_) (fun h6 => ?_)
      · exact ret_pure (.inr rfl) rfl rfl (by simp only [Box4.meets, outS, h1, h2, h3, h5, h6]; rfl)
      · repeat (refine And.intro (of_decide_eq_true rfl) ?_)
        refine loop55 ⟨(ax, ay, bx, b_y), lx, ly, hx, hy⟩ _ _ (weak_to [3, 4, 5, 6, 7, 8, 69, 70, 71] 4 rfl rfl) ?_
        refine bc_split (fun h7 => ?_) (fun h7 => ?_)
        · have h7 : decide (Box4.U ⟨(ax, ay, bx, b_y), lx, ly, hx, hy⟩ 4 < 4) = true := h7
          exact ret_pure (.inr rfl) rfl rfl (by simp only [Box4.meets, outS, h1, h2, h3, h5, h6, h7]; rfl)
        · have h7 : decide (Box4.U ⟨(ax, ay, bx, b_y), lx, ly, hx, hy⟩ 4 < 4) = false := h7
          exact ret_pure (.inr rfl) rfl rfl (by simp only [Box4.meets, outS, h1, h2, h3, h5, h6, h7]; rfl)
    · repeat (refine And.intro (of_decide_eq_true rfl) ?_)
      refine loop55 ⟨(ax, ay, bx, b_y), lx, ly, hx, hy⟩ _ _ (weak_to [3, 4, 5, 6, 7, 8, 69, 70, 71] 4 rfl rfl) ?_
      refine bc_split (fun h7 => ?_) (fun h7 => ?_)
      · have h7 : decide (Box4.U ⟨(ax, ay, bx, b_y), lx, ly, hx, hy⟩ 4 < 4) = true := h7
        exact ret_pure (.inr rfl) rfl rfl (by simp only [Box4.meets, outS, h1, h2, h3, h5, h7]; rfl)
      · have h7 : decide (Box4.U ⟨(ax, ay, bx, b_y), lx, ly, hx, hy⟩ 4 < 4) = false := h7
        exact ret_pure (.inr rfl) rfl rfl (by simp only [Box4.meets, outS, h1, h2, h3, h5, h7]; rfl)
end Go.Proofs.Ytendgiieolkleaa

/- D5 -/
namespace Go.Proofs.Ytendgiieolkleaa
open Go.Aw
set_option maxRecDepth 100000
theorem sgn_cases (n : Int) : sgn n = -1 ∨ sgn n = 0 ∨ sgn n = 1 := by
  unfold sgn; split
  · exact .inl rfl
  · split
    · exact .inr (.inr rfl)
    · exact .inr (.inl rfl)
theorem outS_eq (s : Int × Int × Int × Int) (lx ly hx hy : Int) : outS s lx ly hx hy = outB s lx ly hx hy := by
  unfold outS outB mx mn
  rw [Bool.eq_iff_iff]
  simp only [Bool.or_eq_true, Bool.and_eq_true, decide_eq_true_eq]
  split <;> split <;> omega
def cntU (t0 t1 t2 t3 : Int) : Int :=
  let u1 := if (t0 == 1) = true then W64 (0 + 1) else 0
  let u2 := if (t1 == 1) = true then W64 (u1 + 1) else u1
  let u3 := if (t2 == 1) = true then W64 (u2 + 1) else u2
  if (t3 == 1) = true then W64 (u3 + 1) else u3
def cntD (t0 t1 t2 t3 : Int) : Int :=
  let u1 := if (t0 == 1) = true then 0 else if (t0 == -1) = true then W64 (0 + 1) else 0
  let u2 := if (t1 == 1) = true then u1 else if (t1 == -1) = true then W64 (u1 + 1) else u1
  let u3 := if (t2 == 1) = true then u2 else if (t2 == -1) = true then W64 (u2 + 1) else u2
  if (t3 == 1) = true then u3 else if (t3 == -1) = true then W64 (u3 + 1) else u3
theorem cnt_eq (a b c d : Int) (ha : a = -1 ∨ a = 0 ∨ a = 1) (hb : b = -1 ∨ b = 0 ∨ b = 1) (hc : c = -1 ∨ c = 0 ∨ c = 1) (hd : d = -1 ∨ d = 0 ∨ d = 1) :
    (decide (cntU a b c d < 4) && decide (cntD a b c d < 4)) = (decide (mn (mn (mn (mn 1 a) c) d) b ≤ 0) && decide (0 ≤ mx (mx (mx (mx (-1) a) c) d) b)) := by
  rcases ha with rfl | rfl | rfl <;> rcases hb with rfl | rfl | rfl <;> rcases hc with rfl | rfl | rfl <;> rcases hd with rfl | rfl | rfl <;> decide
theorem meets_eq (s : Int × Int × Int × Int) (lx ly hx hy : Int) : Box4.meets ⟨s, lx, ly, hx, hy⟩ = meetsB s lx ly hx hy := by
  unfold Box4.meets meetsB
  rw [outS_eq]
  congr 1
  have := cnt_eq (sideOf s lx ly) (sideOf s hx hy) (sideOf s lx hy) (sideOf s hx ly) (sgn_cases _) (sgn_cases _) (sgn_cases _) (sgn_cases _)
  exact this
theorem spec_meetsBox (ax ay bx b_y lx ly hx hy : Int) : Fun G0 55 [.agg [i64 ax, i64 ay, i64 bx, i64 b_y], .agg [i64 lx, i64 ly], .agg [i64 hx, i64 hy]] [] (bo (meetsB (ax, ay, bx, b_y) lx ly hx hy)) [] := by
  rw [← meets_eq]; exact spec_meetsBox0 ..
end Go.Proofs.Ytendgiieolkleaa

/- D6 -/
namespace Go.Proofs.Ytendgiieolkleaa
open Go.Aw
set_option maxHeartbeats 1000000
set_option maxRecDepth 100000
set_option pp.maxSteps 300
abbrev Item := Int × Int × Int × Int × Int
def encI (x : Item) : List AV := [i64 x.1, i64 x.2.1, i64 x.2.2.1, i64 x.2.2.2.1, i64 x.2.2.2.2]
def enc1 (i : Int) : List AV := [i64 i]
def encIds0 (l : List Int) : AV := match l with | [] => .e true | _ => .sl false 1 (l.map enc1)
def encIds (l : List Int) : AV := .sl false 1 (l.map enc1)
theorem lax_ids (l : List Int) : Lax (encIds0 l) (encIds l) := by
  cases l with
  | nil => exact .e true 1
  | cons a r => exact .refl _
theorem lax_blk {a b c d e e' : AV} (h : Lax e e') : Lax (.agg [a, b, c, d, e]) (.agg [a, b, c, d, e']) := by
  refine .agg rfl fun i hi => ?_
  match i with
  | 0 => exact .refl _
  | 1 => exact .refl _
  | 2 => exact .refl _
  | 3 => exact .refl _
  | 4 => exact h
  | n + 5 => exact absurd hi (by simp)
def sq (x y n : Int) (items : List Item) : List Int := (items.filter fun i => meetsB i.2 x y (W64 (x + n)) (W64 (y + n))).map (·.1)
def st78 (m d x y n : Int) (nn nb : Bool) (items : List Item) (bs : List (List AV)) : Nat × Int × Option (List (List AV) × Nat) → St
  | (_, i, none) => ⟨45, 0, [(1, i64 x), (2, i64 y), (3, i64 n), (4, .ptr 0 0 0), (8, .ptr 1 0 0), (9, .ptr 2 0 0), (17, .sl nn 5 (items.map encI)), (18, i64 (items.map encI).length), (19, i64 i)],
      [(0, ⟨true, true, 4, [[i64 m, i64 d, .sl nn 5 (items.map encI), .sl nb 5 bs]]⟩), (1, ⟨true, true, 5, [[i64 0, i64 0, i64 0, bo false, .e true]]⟩), (2, ⟨true, true, 5, [[i64 x, i64 y, i64 n, bo false, .e true]]⟩)], 3⟩
  | (_, i, some (l, ln)) => ⟨45, 0, [(1, i64 x), (2, i64 y), (3, i64 n), (4, .ptr 0 0 0), (8, .ptr 1 0 0), (9, .ptr 2 0 0), (17, .sl nn 5 (items.map encI)), (18, i64 (items.map encI).length), (19, i64 i)],
      [(0, ⟨true, true, 4, [[i64 m, i64 d, .sl nn 5 (items.map encI), .sl nb 5 bs]]⟩), (1, ⟨true, true, 5, [[i64 0, i64 0, i64 0, bo false, .e true]]⟩), (2, ⟨true, false, 5, [[i64 x, i64 y, i64 n, bo false, .loc 5 1 0 ln]]⟩), (5, ⟨true, true, 1, l⟩)], 6⟩
def opt (l : List Int) : Option (List (List AV) × Nat) := match l with | [] => none | _ => some (l.map enc1, (l.map enc1).length)
theorem ix_ok {α : Type} {f : α → List AV} {l : List α} {i : Nat} (h : i < l.length) : 0 ≤ (i : Int) ∧ (i : Int) < ((l.map f).length : Int) := by
  rw [List.length_map]; omega
theorem ix_get {α : Type} {f : α → List AV} {l : List α} {i : Nat} (h : i < l.length) : (l.map f).getD (Int.toNat (i : Int)) [] = f l[i] := by
  rw [Int.toNat_natCast, List.getD_eq_getElem?_getD, List.getElem?_map, List.getElem?_eq_getElem h]; rfl
theorem wrap_id {n : Int} (h1 : -9223372036854775808 ≤ n) (h2 : n < 9223372036854775808) : IntKind.i64.wrap n = n := by
  have e : IntKind.i64.wrap n = if (9223372036854775808 : Int) ≤ n % 18446744073709551616 then n % 18446744073709551616 - 18446744073709551616 else n % 18446744073709551616 := by
    unfold IntKind.wrap; simp [IntKind.signed, IntKind.bits]
  rw [e]; split <;> omega
theorem wrap_succ {i : Nat} (h : i < 4611686018427387904) : IntKind.i64.wrap ((i : Int) + 1) = ((i + 1 : Nat) : Int) := by
  rw [wrap_id (by omega) (by omega)]; omega
def tiI : TI := ⟨.int .i64, 1, 8, [.int .i64 0], []⟩
theorem app29 : appTy G0 #[29, 29] = some tiI := by kernel_rfl
theorem sq_succ {x y n : Int} {items : List Item} {i : Nat} (h : i < items.length) : sq x y n (items.take (i + 1)) = sq x y n (items.take i) ++ (if meetsB items[i].2 x y (W64 (x + n)) (W64 (y + n)) = true then [items[i].1] else []) := by
  unfold sq
  rw [List.take_succ_eq_append_getElem h, List.filter_append, List.map_append]
  congr 1
  simp only [List.filter_cons, List.filter_nil]
  split <;> rfl
theorem vw_row {h : Hp} {σ : Nat → Option Nat} {ok : Okf} {m l sz : Nat} {w : Bool} {es : List (List AV)} (hs : σ l = none) (hk : h l = some ⟨w, true, sz, es⟩) (ho : ok l ⟨w, true, sz, es⟩ = true) : vw h ok σ (m + 1) (.loc l sz 0 es.length) = some (.sl false sz es) := by
  simp [vw, hs, fz, hk, ho]
theorem vw_row4 {h : Hp} {m l sz : Nat} {w : Bool} {es : List (List AV)} {a b c d : Value} (hk : h l = some ⟨w, true, sz, es⟩) : vw h (okOut []) (fun _ => none) (m + 1) (.agg [.s a, .s b, .s c, .s d, .loc l sz 0 es.length]) = some (.agg [.s a, .s b, .s c, .s d, .sl false sz es]) := by
  have := vw_row (ok := okOut []) (σ := fun _ => none) (m := m) rfl hk rfl
  simp [vw, vwL] at this ⊢
  simp [this]
theorem impl_square0 (m d x y n : Int) (items : List Item) (bs : List (List AV)) (nn nb : Bool) (hlen : items.length ≤ 1048576) : Fun G0 78 [.agg [i64 m, i64 d, .sl nn 5 (items.map encI), .sl nb 5 bs], i64 x, i64 y, i64 n] [] (.agg [i64 x, i64 y, i64 n, bo false, encIds0 (sq x y n items)]) [] := by
  refine spec_ew (G := G0) (fid := 78) (fn := Try.f78) Try.func78 (by kernel_rfl) rfl (by kernel_rfl) ?_
  repeat (refine And.intro (of_decide_eq_true rfl) ?_)
  refine eLoop_pre (st78 m d x y n nn nb items bs) (fun a => a.1 ≤ items.length ∧ a.2.1 = a.1 ∧ a.2.2 = opt (sq x y n (items.take a.1))) (fun a => items.length - a.1) (0, 0, none) (weak_to [1, 2, 3, 4, 8, 9, 17, 18, 19] 3 rfl rfl) ⟨Nat.zero_le _, rfl, rfl⟩ ?_
  rintro ⟨i, iv, o⟩ ⟨hi, hv, ho⟩
  simp only at hi hv ho
  subst hv
  cases o with
  | none =>
    refine bc_split (fun h => ?_) (fun h => ?_)
    · have hlt : i < items.length := by have := of_decide_eq_true h; simp at this; omega
      refine And.intro (ix_ok hlt) ?_
      rw [ix_get hlt]
      repeat (refine And.intro (of_decide_eq_true rfl) ?_)
      refine eCall_flat (impl_meetsBox _ _ _ _ _ _ _ _) rfl rfl ?_
      refine bc_split (fun h2 => ?_) (fun h2 => ?_)
      · repeat (refine And.intro (of_decide_eq_true rfl) ?_)
        refine eApp_new tiI [enc1 items[i].1] true app29 rfl (List.cons_ne_nil _ _) (of_decide_eq_true rfl) ?_
        repeat (refine And.intro (of_decide_eq_true rfl) ?_)
        refine ⟨(i + 1, IntKind.i64.wrap (↑i + 1), some ([enc1 items[i].1], 1)), weak_in [1, 2, 3, 4, 8, 9, 17, 18, 19] [0, 1, 2, 5] 6 rfl (fun l hl => absurd hl (Nat.not_lt_zero l)) rfl, ⟨hlt, wrap_succ (by omega), ?_⟩, by simp only; omega⟩
        rw [sq_succ hlt, if_pos (by exact h2)]
        cases hq : sq x y n (List.take i items) with
        | nil => rfl
        | cons a r => rw [hq] at ho; cases ho
      · refine ⟨(i + 1, IntKind.i64.wrap (↑i + 1), none), weak_to [1, 2, 3, 4, 8, 9, 17, 18, 19] 3 rfl rfl, ⟨hlt, wrap_succ (by omega), ?_⟩, by simp only; omega⟩
        rw [sq_succ hlt, if_neg, List.append_nil]
        · exact ho
        · exact Bool.eq_false_iff.1 h2
    · have hge : i = items.length := by have := of_decide_eq_false h; simp at this; omega
      subst hge
      rw [List.take_length] at ho
      repeat (refine And.intro (of_decide_eq_true rfl) ?_)
      refine ret_pure (.inr rfl) rfl rfl ?_
      cases hq : sq x y n items with
      | nil => rfl
      | cons a r => rw [hq] at ho; cases ho
  | some p =>
    obtain ⟨l, ln⟩ := p
    have hl : (l = (sq x y n (items.take i)).map enc1 ∧ ln = l.length) ∧ sq x y n (items.take i) ≠ [] := by
      cases hq : sq x y n (items.take i) with
      | nil => rw [hq] at ho; cases ho
      | cons a r =>
        rw [hq] at ho
        have := Option.some.inj ho
        simp only [Prod.mk.injEq] at this
        exact ⟨⟨this.1, by rw [this.2, this.1]⟩, List.cons_ne_nil _ _⟩
    obtain ⟨⟨hl, rfl⟩, hne⟩ := hl
    have hll : l.length ≤ i := by
      rw [hl, List.length_map]
      unfold sq
      rw [List.length_map]
      refine Nat.le_trans (List.length_filter_le _ _) ?_
      rw [List.length_take]; omega
    refine bc_split (fun h => ?_) (fun h => ?_)
    · have hlt : i < items.length := by have := of_decide_eq_true h; simp at this; omega
      refine And.intro (ix_ok hlt) ?_
      rw [ix_get hlt]
      repeat (refine And.intro (of_decide_eq_true rfl) ?_)
      refine eCall_flat (impl_meetsBox _ _ _ _ _ _ _ _) rfl rfl ?_
      refine bc_split (fun h2 => ?_) (fun h2 => ?_)
      · repeat (refine And.intro (of_decide_eq_true rfl) ?_)
        refine eApp_grow tiI [enc1 items[i].1] true ⟨true, true, 1, l⟩ app29 rfl rfl rfl rfl (Nat.zero_le _) rfl (Nat.zero_add _) (by simp [tiI]; omega) ?_
        repeat (refine And.intro (of_decide_eq_true rfl) ?_)
        refine ⟨(i + 1, IntKind.i64.wrap (↑i + 1), some (l ++ [enc1 items[i].1], l.length + 1)), weak_in [1, 2, 3, 4, 8, 9, 17, 18, 19] [0, 1, 2, 5] 6 rfl (fun l hl => absurd hl (Nat.not_lt_zero l)) rfl, ⟨hlt, wrap_succ (by omega), ?_⟩, by simp only; omega⟩
        rw [sq_succ hlt, if_pos (by exact h2)]
        cases hq : sq x y n (List.take i items) with
        | nil => exact absurd hq hne
        | cons a r => rw [hq] at hl; rw [hl]; simp [opt]
      · refine ⟨(i + 1, IntKind.i64.wrap (↑i + 1), some (l, l.length)), weak_in [1, 2, 3, 4, 8, 9, 17, 18, 19] [0, 1, 2, 5] 6 rfl (fun l hl => absurd hl (Nat.not_lt_zero l)) rfl, ⟨hlt, wrap_succ (by omega), ?_⟩, by simp only; omega⟩
        rw [sq_succ hlt, if_neg, List.append_nil]
        · exact ho
        · exact Bool.eq_false_iff.1 h2
    · have hge : i = items.length := by have := of_decide_eq_false h; simp at this; omega
      subst hge
      rw [List.take_length] at hl hne
      repeat (refine And.intro (of_decide_eq_true rfl) ?_)
      refine ret_pure (vs := [.agg [i64 x, i64 y, i64 n, bo false, .loc 5 1 0 l.length]]) (r' := .agg [i64 x, i64 y, i64 n, bo false, .sl false 1 l]) (.inr rfl) rfl ?_ ?_
      · exact vw_row4 rfl
      · rw [hl]
        cases hq : sq x y n items with
        | nil => exact absurd hq hne
        | cons a r => rfl
def blkA (x y n : Int) (sp : Bool) (ids : List Int) : List AV := [i64 x, i64 y, i64 n, bo sp, encIds ids]
theorem impl_square (m d x y n : Int) (items : List Item) (bs : List (List AV)) (nn nb : Bool) (hlen : items.length ≤ 1048576) : Fun G0 78 [.agg [i64 m, i64 d, .sl nn 5 (items.map encI), .sl nb 5 bs], i64 x, i64 y, i64 n] [] (.agg (blkA x y n false (sq x y n items))) [] :=
  (impl_square0 m d x y n items bs nn nb hlen).lax (lax_blk (lax_ids _))
theorem impl_root (m d : Int) (items : List Item) (bs : List (List AV)) (nn nb : Bool) (hlen : items.length ≤ 1048576) : Fun G0 70 [.agg [i64 m, i64 d, .sl nn 5 (items.map encI), .sl nb 5 bs]] [] (.agg (blkA (-1048576) (-1048576) 2097152 false (sq (-1048576) (-1048576) 2097152 items))) [] := by
  refine spec_ew (G := G0) (fid := 70) (fn := Try.f70) Try.func70 (by kernel_rfl) rfl (by kernel_rfl) ?_
  repeat (refine And.intro (of_decide_eq_true rfl) ?_)
  refine eCall_pure (impl_square m d _ _ _ items bs nn nb hlen) rfl ?_
  repeat (refine And.intro (of_decide_eq_true rfl) ?_)
  exact ret_pure (.inr rfl) rfl rfl rfl
end Go.Proofs.Ytendgiieolkleaa

/- D7 -/
namespace Go.Proofs.Ytendgiieolkleaa
open Go.Aw
set_option maxHeartbeats 1000000
set_option maxRecDepth 100000
set_option pp.maxSteps 300
def kidsA (x y h : Int) (items : List Item) : List (List AV) :=
  [blkA x y h false (sq x y h items), blkA (W64 (x + h)) y h false (sq (W64 (x + h)) y h items), blkA x (W64 (y + h)) h false (sq x (W64 (y + h)) h items), blkA (W64 (x + h)) (W64 (y + h)) h false (sq (W64 (x + h)) (W64 (y + h)) h items)]
theorem impl_kids (m d x y n : Int) (sp : Bool) (ids : List Int) (items : List Item) (bs : List (List AV)) (nn nb : Bool) (hlen : items.length ≤ 1048576) : Fun G0 87 [.agg [i64 m, i64 d, .sl nn 5 (items.map encI), .sl nb 5 bs], .agg (blkA x y n sp ids)] [] (.sl false 5 (kidsA x y (IntKind.i64.wrap (Int.tdiv n 2)) items)) [] := by
  refine spec_ew (G := G0) (fid := 87) (fn := Try.f87) Try.func87 (by kernel_rfl) rfl (by kernel_rfl) ?_
  repeat (refine And.intro (of_decide_eq_true rfl) ?_)
  refine eDraw_ok ?_
  repeat (refine And.intro (of_decide_eq_true rfl) ?_)
  refine dCall_pure [] (impl_square m d _ _ _ items bs nn nb hlen) rfl rfl ?_
  repeat (refine And.intro (of_decide_eq_true rfl) ?_)
  refine dCall_pure [] (impl_square m d _ _ _ items bs nn nb hlen) rfl rfl ?_
  repeat (refine And.intro (of_decide_eq_true rfl) ?_)
  refine dCall_pure [] (impl_square m d _ _ _ items bs nn nb hlen) rfl rfl ?_
  repeat (refine And.intro (of_decide_eq_true rfl) ?_)
  refine dCall_pure [] (impl_square m d _ _ _ items bs nn nb hlen) rfl rfl ?_
  refine And.intro (by kernel_rfl) ?_
  exact ret_pure (.inr rfl) rfl rfl rfl
end Go.Proofs.Ytendgiieolkleaa

/- D8 -/
namespace Go.Proofs.Ytendgiieolkleaa
open Go.Aw
set_option maxHeartbeats 1000000
set_option maxRecDepth 100000
set_option pp.maxSteps 300
def st129 (na nb : Bool) (a b : List Int) : Nat × Int → St
  | (_, i) => ⟨26, 0, [(0, .sl na 1 (a.map enc1)), (1, .sl nb 1 (b.map enc1)), (4, bo false), (12, i64 (a.map enc1).length), (13, i64 i)], [], 0⟩
theorem slices_Equal (na nb : Bool) (a b : List Int) (hlen : a.length ≤ 1048576) : Fun G0 129 [.sl na 1 (a.map enc1), .sl nb 1 (b.map enc1)] [] (bo (a == b)) [] := by
  refine spec_ew (G := G0) (fid := 129) (fn := Try.f129) Try.func129 (by kernel_rfl) rfl (by kernel_rfl) ?_
  refine bc_split (fun h => ?_) (fun h => ?_)
  · refine ret_pure (.inr rfl) rfl rfl ?_
    have : (a == b) = false := by
      rw [beq_eq_false_iff_ne]; rintro rfl; simp at h
    rw [this]
  have hl : a.length = b.length := by simp at h; omega
  refine eLoop_pre (st129 na nb a b) (fun x => x.1 ≤ a.length ∧ x.2 = x.1 ∧ a.take x.1 = b.take x.1) (fun x => a.length - x.1) (0, 0) (weak_to [0, 1, 4, 12, 13] 0 rfl rfl) ⟨Nat.zero_le _, rfl, rfl⟩ ?_
  rintro ⟨i, iv⟩ ⟨hi, hv, ho⟩
  simp only at hi hv ho
  subst hv
  refine bc_split (fun h => ?_) (fun h => ?_)
  · have hlt : i < a.length := by have := of_decide_eq_true h; simp at this; omega
    have hlt2 : i < b.length := by omega
    refine eDraw_ok ?_
    refine And.intro (ix_ok hlt) ?_
    rw [ix_get hlt]
    refine And.intro (ix_ok hlt2) ?_
    rw [ix_get hlt2]
    refine And.intro (by kernel_rfl) ?_
    refine bc_split (fun h2 => ?_) (fun h2 => ?_)
    · refine ret_pure (.inr rfl) rfl rfl ?_
      have : (a == b) = false := by
        rw [beq_eq_false_iff_ne]; rintro rfl; simp at h2
      rw [this]
    · refine ⟨(i + 1, IntKind.i64.wrap (↑i + 1)), weak_to [0, 1, 4, 12, 13] 0 rfl rfl, ⟨hlt, wrap_succ (by omega), ?_⟩, by simp only; omega⟩
      have : a[i] = b[i] := by simpa using h2
      rw [List.take_succ_eq_append_getElem hlt, List.take_succ_eq_append_getElem hlt2, ho, this]
  · have hge : i = a.length := by have := of_decide_eq_false h; simp at this; omega
    refine ret_pure (.inr rfl) rfl rfl ?_
    have : a = b := by
      rw [hge] at ho
      rw [List.take_length, hl, List.take_length] at ho; exact ho
    rw [this]; simp
end Go.Proofs.Ytendgiieolkleaa

/- D9 -/
namespace Go.Proofs.Ytendgiieolkleaa
open Go.Aw
set_option maxHeartbeats 1000000
set_option maxRecDepth 100000
set_option pp.maxSteps 300
abbrev Blok := Int × Int × Int × Bool × List Int
def encB (b : Blok) : List AV := blkA b.1 b.2.1 b.2.2.1 b.2.2.2.1 b.2.2.2.2
def half (n : Int) : Int := IntKind.i64.wrap (Int.tdiv n 2)
def chk (items : List Item) (bl : List Blok) : Nat → Nat → Int → Int → Int → Option Nat
  | k, p, x, y, n => match bl[p]? with
    | none => none
    | some b =>
      if ((!(b.1 == x) || !(b.2.1 == y)) || !(b.2.2.1 == n)) = true then none
      else if b.2.2.2.1 = false then (if (b.2.2.2.2 == sq x y n items) = true then some (p + 1) else none)
      else if 0 < b.2.2.2.2.length then none
      else match k with
        | 0 => none
        | k + 1 => (chk items bl k (p + 1) x y (half n)).bind fun p1 => (chk items bl k p1 (W64 (x + half n)) y (half n)).bind fun p2 =>
          (chk items bl k p2 x (W64 (y + half n)) (half n)).bind fun p3 => chk items bl k p3 (W64 (x + half n)) (W64 (y + half n)) (half n)
def encO : Option Nat → Int
  | none => -1
  | some p => p
theorem chk_le (items : List Item) (bl : List Blok) : ∀ k p x y n q, chk items bl k p x y n = some q → p < q ∧ q ≤ bl.length := by
  intro k
  induction k with
  | zero =>
    intro p x y n q h
    unfold chk at h
    split at h
    · cases h
    · rename_i b hb
      have hp : p < bl.length := by
        rcases Nat.lt_or_ge p bl.length with z | z
        · exact z
        · rw [List.getElem?_eq_none z] at hb; cases hb
      split at h
      · cases h
      · split at h
        · split at h
          · cases h; omega
          · cases h
        · split at h <;> cases h
  | succ k ih =>
    intro p x y n q h
    unfold chk at h
    split at h
    · cases h
    · rename_i b hb
      have hp : p < bl.length := by
        rcases Nat.lt_or_ge p bl.length with z | z
        · exact z
        · rw [List.getElem?_eq_none z] at hb; cases hb
      split at h
      · cases h
      · split at h
        · split at h
          · cases h; omega
          · cases h
        · split at h
          · cases h
          · simp only [Option.bind_eq_some_iff] at h
            obtain ⟨p1, h1, p2, h2, p3, h3, h4⟩ := h
            have := ih _ _ _ _ _ h1
            have := ih _ _ _ _ _ h2
            have := ih _ _ _ _ _ h3
            have := ih _ _ _ _ _ h4
            omega
theorem impl_check (m D : Int) (items : List Item) (bl : List Blok) (nn nb : Bool) (hI : items.length ≤ 1048576) (hB : bl.length ≤ 1048576) (hD : 0 ≤ D ∧ D ≤ 1000) (hids : ∀ b ∈ bl, b.2.2.2.2.length ≤ 1048576) : ∀ (k : Nat) (p : Nat) (x y n : Int), (k : Int) ≤ D → p ≤ bl.length →
    Fun G0 69 [.agg [i64 m, i64 D, .sl nn 5 (items.map encI), .sl nb 5 (bl.map encB)], i64 p, .agg (blkA x y n false (sq x y n items)), i64 (D - k)] [] (i64 (encO (chk items bl k p x y n))) [] := by
  intro k
  induction k using Nat.strongRecOn with
  | _ k ih =>
    intro p x y n hk hp
    refine spec_ew (G := G0) (fid := 69) (fn := Try.f69) Try.func69 (by kernel_rfl) rfl (by kernel_rfl) ?_
    repeat (refine And.intro (of_decide_eq_true rfl) ?_)
    refine bc_split (fun h => ?_) (fun h => ?_)
    · refine ret_pure (.inr rfl) rfl rfl ?_
      have hge : bl.length ≤ p := by have := of_decide_eq_true h; simp at this; omega
      unfold chk
      rw [List.getElem?_eq_none hge]; rfl
    repeat (refine And.intro (of_decide_eq_true rfl) ?_)
    have hlt : p < bl.length := by have := of_decide_eq_false h; simp at this; omega
    refine And.intro (ix_ok hlt) ?_
    rw [ix_get hlt]
    have hb : bl[p]? = some bl[p] := List.getElem?_eq_getElem hlt
    have hids := hids bl[p] (List.getElem_mem _)
    generalize bl[p] = b at hb hids ⊢
    repeat (refine And.intro (of_decide_eq_true rfl) ?_)
    refine bc_split (fun h1 => ?_) (fun h1 => ?_)
    · refine ret_pure (.inr rfl) rfl rfl ?_
      have h1 : (!(b.1 == x)) = true := h1
      unfold chk
      simp only [hb, h1, Bool.true_or, if_true]; rfl
    have h1 : (!(b.1 == x)) = false := h1
    repeat (refine And.intro (of_decide_eq_true rfl) ?_)
    refine bc_split (fun h2 => ?_) (fun h2 => ?_)
    · refine ret_pure (.inr rfl) rfl rfl ?_
      have h2 : (!(b.2.1 == y)) = true := h2
      unfold chk
      simp only [hb, h1, h2, Bool.true_or, Bool.false_or, if_true]; rfl
    have h2 : (!(b.2.1 == y)) = false := h2
    repeat (refine And.intro (of_decide_eq_true rfl) ?_)
    refine bc_split (fun h3 => ?_) (fun h3 => ?_)
    · refine ret_pure (.inr rfl) rfl rfl ?_
      have h3 : (!(b.2.2.1 == n)) = true := h3
      unfold chk
      simp only [hb, h1, h2, h3, Bool.true_or, Bool.false_or, if_true]; rfl
    have h3 : (!(b.2.2.1 == n)) = false := h3
    repeat (refine And.intro (of_decide_eq_true rfl) ?_)
    refine bc_split (fun h4 => ?_) (fun h4 => ?_)
    · have h4 : b.2.2.2.1 = false := by simpa using h4
      repeat (refine And.intro (of_decide_eq_true rfl) ?_)
      refine eCall_flat (slices_Equal false false b.2.2.2.2 (sq x y n items) hids) rfl rfl ?_
      refine bc_split (fun h5 => ?_) (fun h5 => ?_)
      · refine ret_pure (.inr rfl) rfl rfl ?_
        have h5 : (b.2.2.2.2 == sq x y n items) = false := by simpa using h5
        unfold chk
        simp only [hb, h1, h2, h3, h4, h5, Bool.false_or, if_true, if_false, Bool.false_eq_true]; rfl
      · refine ret_pure (.inr rfl) rfl rfl ?_
        have h5 : (b.2.2.2.2 == sq x y n items) = true := by simpa using h5
        unfold chk
        simp only [hb, h1, h2, h3, h4, h5, Bool.false_or, if_true, if_false, Bool.false_eq_true]
        exact congrArg i64 (wrap_succ (by omega))
    · have h4 : b.2.2.2.1 = true := by simpa using h4
      repeat (refine And.intro (of_decide_eq_true rfl) ?_)
      refine bc_split (fun h5 => ?_) (fun h5 => ?_)
      · refine ret_pure (.inr rfl) rfl rfl ?_
        have h5 : 0 < b.2.2.2.2.length := by simpa using h5
        unfold chk
        simp only [hb, h1, h2, h3, h4, h5, Bool.false_or, if_true, if_false, Bool.false_eq_true, Bool.true_eq_false]; rfl
      have h5 : ¬ 0 < b.2.2.2.2.length := by simpa using h5
      repeat (refine And.intro (of_decide_eq_true rfl) ?_)
      refine bc_split (fun h6 => ?_) (fun h6 => ?_)
      · refine ret_pure (.inr rfl) rfl rfl ?_
        have h6 : k = 0 := by simp at h6; omega
        subst h6
        unfold chk
        simp only [hb, h1, h2, h3, h4, h5, Bool.false_or, if_true, if_false, Bool.false_eq_true, Bool.true_eq_false]; rfl
      obtain ⟨k', rfl⟩ : ∃ k', k = k' + 1 := ⟨k - 1, by simp at h6; omega⟩
      repeat (refine And.intro (of_decide_eq_true rfl) ?_)
      refine eCall_pure (impl_kids m D x y n false _ items (bl.map encB) nn nb hI) rfl ?_
      have hkk : ((k' + 1 : Nat) : Int) = (k' : Int) + 1 := by omega
      have e1 : IntKind.i64.wrap (D - ((k' + 1 : Nat) : Int) + 1) = D - (k' : Int) := by rw [wrap_id (by omega) (by omega)]; omega
      have e2 : IntKind.i64.wrap ((p : Int) + 1) = ((p + 1 : Nat) : Int) := wrap_succ (by omega)
      have ih' : ∀ (p : Nat) (x y n : Int), p ≤ bl.length → Fun G0 69 [.agg [i64 m, i64 D, .sl nn 5 (items.map encI), .sl nb 5 (bl.map encB)], i64 p, .agg (blkA x y n false (sq x y n items)), i64 (IntKind.i64.wrap (D - ((k' + 1 : Nat) : Int) + 1))] [] (i64 (encO (chk items bl k' p x y n))) [] := by
        intro p x y n hp
        rw [e1]; exact ih k' (by omega) p x y n (by omega) hp
      have hun : chk items bl (k' + 1) p x y n = ((chk items bl k' (p + 1) x y (half n)).bind fun p1 => (chk items bl k' p1 (W64 (x + half n)) y (half n)).bind fun p2 =>
          (chk items bl k' p2 x (W64 (y + half n)) (half n)).bind fun p3 => chk items bl k' p3 (W64 (x + half n)) (W64 (y + half n)) (half n)) := by
        rw [chk]
        simp only [hb, h1, h2, h3, h4, h5, Bool.false_or, if_false, Bool.false_eq_true, Bool.true_eq_false]
      rw [hun]
      refine eLoop_step ?_
      repeat (refine And.intro (of_decide_eq_true rfl) ?_)
      have hs := ih' (p + 1) x y (half n) hlt
      rw [← e2] at hs
      cases hq1 : chk items bl k' (p + 1) x y (half n) with
      | none =>
        rw [hq1] at hs
        refine eCall_flat hs rfl rfl ?_
        exact ret_pure (.inr rfl) rfl rfl rfl
      | some p1 =>
        rw [hq1] at hs
        have hle1 := chk_le _ _ _ _ _ _ _ _ hq1
        refine eCall_flat hs rfl rfl ?_
        refine eLoop_step ?_
        repeat (refine And.intro (of_decide_eq_true rfl) ?_)
        have hs := ih' p1 (W64 (x + half n)) y (half n) hle1.2
        cases hq2 : chk items bl k' p1 (W64 (x + half n)) y (half n) with
        | none =>
          rw [hq2] at hs
          refine eCall_flat hs rfl rfl ?_
          exact ret_pure (.inr rfl) rfl rfl (by rw [Option.bind_some, hq2]; rfl)
        | some p2 =>
          rw [hq2] at hs
          have hle2 := chk_le _ _ _ _ _ _ _ _ hq2
          refine eCall_flat hs rfl rfl ?_
          refine eLoop_step ?_
          repeat (refine And.intro (of_decide_eq_true rfl) ?_)
          have hs := ih' p2 x (W64 (y + half n)) (half n) hle2.2
          cases hq3 : chk items bl k' p2 x (W64 (y + half n)) (half n) with
          | none =>
            rw [hq3] at hs
            refine eCall_flat hs rfl rfl ?_
            exact ret_pure (.inr rfl) rfl rfl (by rw [Option.bind_some, hq2, Option.bind_some, hq3]; rfl)
          | some p3 =>
            rw [hq3] at hs
            have hle3 := chk_le _ _ _ _ _ _ _ _ hq3
            refine eCall_flat hs rfl rfl ?_
            refine eLoop_step ?_
            repeat (refine And.intro (of_decide_eq_true rfl) ?_)
            have hs := ih' p3 (W64 (x + half n)) (W64 (y + half n)) (half n) hle3.2
            cases hq4 : chk items bl k' p3 (W64 (x + half n)) (W64 (y + half n)) (half n) with
            | none =>
              rw [hq4] at hs
              refine eCall_flat hs rfl rfl ?_
              exact ret_pure (.inr rfl) rfl rfl (by rw [Option.bind_some, hq2, Option.bind_some, hq3, Option.bind_some, hq4]; rfl)
            | some p4 =>
              rw [hq4] at hs
              have hle4 := chk_le _ _ _ _ _ _ _ _ hq4
              refine eCall_flat hs rfl rfl ?_
              refine eLoop_step ?_
              exact ret_pure (.inr rfl) rfl rfl (by rw [Option.bind_some, hq2, Option.bind_some, hq3, Option.bind_some, hq4])
end Go.Proofs.Ytendgiieolkleaa
