/- The evaluator in a form that computes: what can be decided is decided, what can't be is asked. Of a call's answer no more is told than what holds of it. The evaluator over code, in a form that computes. -/
import Derived.Test.YtendgiieolkleaaM4

/- The evaluator in a form that computes: what can be decided is decided, what can't be is asked. -/
namespace Go.Aw
set_option linter.unusedVariables false
set_option linter.unusedSimpArgs false

inductive R (α : Type) where
  | no
  | ok (x : α)
  | iff (p : Prop) (x : α)
def R.is {α : Type} : R α → α → Prop
  | .no, _ => False
  | .ok x, y => x = y
  | .iff p x, y => p ∧ x = y
def R.of {α : Type} : Option α → R α
  | some x => .ok x
  | none => .no
def R.map {α β : Type} (f : α → β) : R α → R β
  | .no => .no
  | .ok x => .ok (f x)
  | .iff p x => .iff p (f x)
theorem R.of_is {α : Type} {o : Option α} {y : α} (h : (R.of o).is y) : o = some y := by cases o <;> simp_all [R.of, R.is]
theorem R.map_is {α β : Type} {f : α → β} {o : R α} {y : β} (h : (o.map f).is y) : ∃ x, o.is x ∧ f x = y := by
  cases o with
  | no => exact h.elim
  | ok x => exact ⟨x, rfl, h⟩
  | iff p x => exact ⟨x, ⟨h.1, rfl⟩, h.2⟩
def bthen {α : Type} (b : Bool) (x : R α) : R α := match b with | true => x | false => .no
theorem bthen_is {α : Type} {b : Bool} {x : R α} {y : α} (h : (bthen b x).is y) : b = true ∧ x.is y := by cases b; exact h.elim; exact ⟨rfl, h⟩

variable {G : Env}

def intOpR (op : BinOp) (k : IntKind) (a b : Int) : R Value :=
  match op with
  | .add => .ok (.int k (k.wrap (a + b)))
  | .sub => .ok (.int k (k.wrap (a - b)))
  | .mul => .ok (.int k (k.wrap (a * b)))
  | .quo => .iff (b ≠ 0) (.int k (k.wrap (a.tdiv b)))
  | .rem => .iff (b ≠ 0) (.int k (a.tmod b))
  | .and => .ok (.int k (k.wrap (BitVec.ofInt k.bits a &&& BitVec.ofInt k.bits b).toNat))
  | .or => .ok (.int k (k.wrap (BitVec.ofInt k.bits a ||| BitVec.ofInt k.bits b).toNat))
  | .xor => .ok (.int k (k.wrap (BitVec.ofInt k.bits a ^^^ BitVec.ofInt k.bits b).toNat))
  | .eql => .ok (.bool (a == b))
  | .neq => .ok (.bool (a != b))
  | .lss => .ok (.bool (decide (a < b)))
  | .leq => .ok (.bool (decide (a ≤ b)))
  | .gtr => .ok (.bool (decide (b < a)))
  | .geq => .ok (.bool (decide (b ≤ a)))
  | _ => .no
theorem intOpR_is {op : BinOp} {k : IntKind} {a b : Int} {v : Value} (h : (intOpR op k a b).is v) : intOp op k a b = some v := by
  cases op <;> simp only [intOpR, R.is] at h <;> first | exact h.elim | (subst h; rfl) | (obtain ⟨h1, rfl⟩ := h; simp [intOp, h1])
def shiftOpR (op : BinOp) (k : IntKind) (a b : Int) : R Value :=
  match op with
  | .shl => .iff (0 ≤ b) (.int k (k.wrap (a * 2 ^ min b.toNat k.bits)))
  | .shr => .iff (0 ≤ b) (.int k (a.fdiv (2 ^ min b.toNat k.bits)))
  | _ => .no
theorem shiftOpR_is {op : BinOp} {k : IntKind} {a b : Int} {v : Value} (h : (shiftOpR op k a b).is v) : shiftOp op k a b = some v := by
  cases op <;> simp only [shiftOpR, R.is] at h <;> first | exact h.elim | (obtain ⟨h1, rfl⟩ := h; simp [shiftOp, show ¬ b < 0 by omega])
def strOpR (op : BinOp) (a b : ByteArray) : R Value :=
  match op with
  | .add => .iff (a.size + b.size < 9223372036854775808) (.string (a ++ b))
  | .eql => .ok (.bool (a.toList == b.toList))
  | .neq => .ok (.bool (!(a.toList == b.toList)))
  | .lss => .ok (.bool (Op.bytesLess a.toList b.toList))
  | .leq => .ok (.bool (Op.bytesLess a.toList b.toList || a.toList == b.toList))
  | .gtr => .ok (.bool (!(Op.bytesLess a.toList b.toList || a.toList == b.toList)))
  | .geq => .ok (.bool (!(Op.bytesLess a.toList b.toList)))
  | _ => .no
theorem strOpR_is {op : BinOp} {a b : ByteArray} {v : Value} (h : (strOpR op a b).is v) : strOp op a b = some v := by
  cases op <;> simp only [strOpR, R.is] at h <;> first | exact h.elim | (subst h; rfl) | (obtain ⟨h1, rfl⟩ := h; simp [strOp, h1])

def kindEq : IntKind → IntKind → Bool
  | .i8, .i8 => true | .i16, .i16 => true | .i32, .i32 => true | .i64, .i64 => true
  | .u8, .u8 => true | .u16, .u16 => true | .u32, .u32 => true | .u64, .u64 => true
  | _, _ => false
theorem kindEq_eq {a b : IntKind} (h : kindEq a b = true) : a = b := by cases a <;> cases b <;> first | rfl | cases h
def eqIntsR : List IntKind → List AV → Option (List Int)
  | [], [] => some []
  | k :: ks, .s (.int k' a) :: r => match kindEq k k', eqIntsR ks r with | true, some l => some (a :: l) | _, _ => none
  | _, _ => none
theorem eqIntsR_is : ∀ (ks : List IntKind) (cs : List AV) (xs : List Int), eqIntsR ks cs = some xs → eqInts ks cs = some xs := by
  intro ks
  induction ks with
  | nil => intro cs xs h; cases cs with
    | nil => exact h
    | cons => simp [eqIntsR] at h
  | cons k ks ih =>
    intro cs xs h
    cases cs with
    | nil => simp [eqIntsR] at h
    | cons c r =>
      match c, h with
      | .s (.int k' a), h =>
        simp only [eqIntsR] at h
        split at h
        · rename_i l hk hl
          cases h
          simp only [eqInts, if_pos (kindEq_eq hk), ih r l hl, Option.map_some]
        · cases h

def evBinR (G : Env) (op : BinOp) (t : TypeId) (x y : AV) : R AV :=
  match x, y with
  | .s (.int k a), .s (.int k' b) => match isSh op with
    | true => (shiftOpR op k a b).map .s
    | false => bthen (kindEq k k') ((intOpR op k a b).map .s)
  | .s (.string a), .s (.string b) => (strOpR op a b).map .s
  | .s (.bool a), .s (.bool b) =>
    match tkOf G.P t, op with
    | some .bool, .eql => .ok (.s (.bool (a == b)))
    | some .bool, .neq => .ok (.s (.bool (!(a == b))))
    | _, _ => .no
  | .agg cs, .agg ds =>
    match G.E t with
    | none => .no
    | some ks =>
      match eqIntsR ks cs, eqIntsR ks ds, op with
      | some a, some b, .eql => .ok (.s (.bool (a == b)))
      | some a, some b, .neq => .ok (.s (.bool (!(a == b))))
      | _, _, _ => .no
  | a, .s (.slice none _ _) =>
    match tkOf G.P t, isNilS a, op with
    | some (.slice _), some b, .eql => .ok (.s (.bool b))
    | some (.slice _), some b, .neq => .ok (.s (.bool (!b)))
    | _, _, _ => .no
  | _, _ => .no

theorem evBinR_is {op : BinOp} {t : TypeId} {x y v : AV} (h : (evBinR G op t x y).is v) : evBin G op t x y = some v := by
  unfold evBinR at h
  split at h
  · rename_i k a k' b
    split at h
    · rename_i hs
      obtain ⟨u, hu, rfl⟩ := R.map_is h
      simp [evBin, hs, shiftOpR_is hu]
    · rename_i hs
      obtain ⟨hk, h⟩ := bthen_is h
      obtain ⟨u, hu, rfl⟩ := R.map_is h
      have := kindEq_eq hk
      subst this
      simp [evBin, hs, intOpR_is hu]
  · obtain ⟨u, hu, rfl⟩ := R.map_is h
    simp [evBin, strOpR_is hu]
  · split at h
    · rename_i heq; cases h; simp [evBin, heq]
    · rename_i heq; cases h; simp [evBin, heq]
    · exact h.elim
  · split at h
    · exact h.elim
    · rename_i ks hE
      split at h
      · rename_i a b h1 h2; cases h; simp [evBin, hE, eqIntsR_is _ _ _ h1, eqIntsR_is _ _ _ h2]
      · rename_i a b h1 h2; cases h; simp [evBin, hE, eqIntsR_is _ _ _ h1, eqIntsR_is _ _ _ h2]
      · exact h.elim
  · rename_i a q1 q2 hne
    split at h
    · rename_i e b h1 h2; cases h
      unfold evBin
      cases x <;> first | (simp only []; simp [h1, h2]; done) | simp [isNilS] at h2
    · rename_i e b h1 h2; cases h
      unfold evBin
      cases x <;> first | (simp only []; simp [h1, h2]; done) | simp [isNilS] at h2
    · exact h.elim
  · exact h.elim

def natEq : Nat → Nat → Bool := fun a b => Nat.beq a b
theorem natEq_eq {a b : Nat} (h : natEq a b = true) : a = b := Nat.eq_of_beq_eq_true h
def natLe : Nat → Nat → Bool := fun a b => Nat.ble a b
theorem natLe_le {a b : Nat} (h : natLe a b = true) : a ≤ b := Nat.le_of_ble_eq_true h

def loadCR (ti : TI) (n : Nat) (cs : List AV) : R AV :=
  match ti.k.agg with
  | true => match natEq ti.sz n with | true => .ok (.agg cs) | false => bthen (natLe ti.sz n) (.ok (.agg (cs.take ti.sz)))
  | false => bthen (natLe 1 n) (.ok (cs.getD 0 .bad))
theorem loadCR_is {ti : TI} {n : Nat} {cs : List AV} {v : AV} (h : (loadCR ti n cs).is v) : loadC ti n cs = some v := by
  unfold loadCR at h
  unfold loadC
  split at h
  · rename_i ha
    rw [if_pos ha]
    split at h
    · rename_i e; have := natEq_eq e; cases h; rw [if_pos (by omega), if_pos this]
    · rename_i e
      obtain ⟨h1, h⟩ := bthen_is h
      cases h
      rw [if_pos (natLe_le h1), if_neg]
      intro q; rw [natEq, q] at e; simp at e
  · rename_i ha
    rw [if_neg (by simp [ha])]
    obtain ⟨h1, h⟩ := bthen_is h
    cases h
    rw [if_pos (show 0 < n from natLe_le h1)]
def evLoadR (G : Env) (t : TypeId) (x : AV) (h : Hp) (nx : Nat) : R Out :=
  match tinfo G.P t with
  | some ti => match x with
    | .rp n cs => (loadCR ti n cs).map fun v => ⟨v, [], [], nx⟩
    | .ptr l i off => match h l with
      | some k => bthen (natLe off k.sz) (match off with
        | 0 => (match loadCR ti k.sz (k.es.getD i []) with | .ok v => .iff (i < k.es.length) ⟨v, [], [l], nx⟩ | _ => .no)
        | off + 1 => (match loadCR ti (k.sz - (off + 1)) ((k.es.getD i []).drop (off + 1)) with | .ok v => .iff (i < k.es.length) ⟨v, [], [l], nx⟩ | _ => .no))
      | none => .no
    | _ => .no
  | none => .no
theorem evLoadR_is {t : TypeId} {x : AV} {h : Hp} {nx : Nat} {o : Out} (hh : (evLoadR G t x h nx).is o) : evLoad G t x h nx = some o := by
  unfold evLoadR at hh
  unfold evLoad
  cases ht : tinfo G.P t with
  | none => rw [ht] at hh; exact hh.elim
  | some ti =>
    rw [ht] at hh
    cases x with
    | rp n cs =>
      obtain ⟨v, h1, rfl⟩ := R.map_is hh
      simp only [loadCR_is h1, po]
    | ptr l i off =>
      simp only [] at hh ⊢
      cases hk : h l with
      | none => rw [hk] at hh; exact hh.elim
      | some k =>
        rw [hk] at hh
        obtain ⟨hle, hh⟩ := bthen_is hh
        have hle := natLe_le hle
        simp only []
        cases off with
        | zero =>
          simp only [] at hh
          cases hv : loadCR ti k.sz (k.es.getD i []) with
          | ok v =>
            rw [hv] at hh
            obtain ⟨hi, rfl⟩ := hh
            have := loadCR_is (v := v) (by rw [hv]; rfl)
            rw [if_pos (And.intro hi hle)]
            simp only [if_true, Nat.sub_zero, this]
          | no => rw [hv] at hh; exact hh.elim
          | iff => rw [hv] at hh; exact hh.elim
        | succ off =>
          simp only [] at hh
          cases hv : loadCR ti (k.sz - (off + 1)) ((k.es.getD i []).drop (off + 1)) with
          | ok v =>
            rw [hv] at hh
            obtain ⟨hi, rfl⟩ := hh
            have := loadCR_is (v := v) (by rw [hv]; rfl)
            rw [if_pos (And.intro hi hle), if_neg (by omega)]
            simp only [this]
          | no => rw [hv] at hh; exact hh.elim
          | iff => rw [hv] at hh; exact hh.elim
    | _ => exact hh.elim

def splR (off sz : Nat) (cells row : List AV) : List AV := match natEq off 0, natEq cells.length sz with | true, true => cells | _, _ => row.take off ++ cells ++ row.drop (off + cells.length)
theorem splR_eq (off sz : Nat) (cells row : List AV) : splR off sz cells row = spl off sz cells row := by
  unfold splR spl
  split
  · rename_i h1 h2; rw [if_pos ⟨natEq_eq h1, natEq_eq h2⟩]
  · rename_i hne
    rw [if_neg]
    rintro ⟨h1, h2⟩
    exact hne (by simp [natEq, h1]) (by simp [natEq, h2])
def evStoreR (G : Env) (t : TypeId) (x y : AV) (h : Hp) (nx : Nat) : R Out :=
  match tinfo G.P t, x, acells y with
  | some ti, .ptr l i off, some cs => match h l with
    | some k => bthen (k.wr && (natEq cs.length ti.sz && (natLe 1 ti.sz && (natLe (off + cs.length) k.sz && okCells cs))))
        (.iff (i < k.es.length) ⟨.bad, [(l, ⟨k.wr, k.cl && allCl cs, k.sz, k.es.set i (splR off k.sz cs (k.es.getD i []))⟩)], [l], nx⟩)
    | none => .no
  | _, _, _ => .no
theorem evStoreR_is {t : TypeId} {x y : AV} {h : Hp} {nx : Nat} {o : Out} (hh : (evStoreR G t x y h nx).is o) : evStore G t x y h nx = some o := by
  unfold evStoreR at hh
  unfold evStore
  split at hh
  · rename_i ti l i off cs ht hc
    simp only [ht, hc]
    split at hh
    · rename_i k hk
      obtain ⟨hb, hi, rfl⟩ := bthen_is hh
      simp only [Bool.and_eq_true] at hb
      obtain ⟨h1, h2, h3, h4, h5⟩ := hb
      simp only [hk]
      rw [if_pos ⟨h1, natEq_eq h2, natLe_le h3, natLe_le h4, hi, h5⟩, splR_eq]
    · exact hh.elim
  · exact hh.elim

def evUnR (op : UnOp) (x : AV) : R AV := R.of (evUn op x)
def evMakeSliceR (G : Env) (t : TypeId) (x y : AV) (nx : Nat) : R Out :=
  match tkOf G.P t, x, y with
  | some (.slice e), .s (.int _ l), .s (.int _ c) => match tinfo G.P e with
    | some ti => bthen (natLe 1 ti.by_ && (natLe 1 ti.sz && (natEq ti.zero.length ti.sz && ti.zero.all notAgg)))
        (.iff (0 ≤ l ∧ l ≤ c ∧ c * ti.by_ ≤ 140737488355328) ⟨.loc nx ti.sz 0 l.toNat, [(nx, ⟨true, true, ti.sz, List.replicate l.toNat (ti.zero.map zAV)⟩)], [], nx + 1⟩)
    | none => .no
  | _, _, _ => .no
theorem evMakeSliceR_is {t : TypeId} {x y : AV} {nx : Nat} {o : Out} (hh : (evMakeSliceR G t x y nx).is o) : evMakeSlice G t x y nx = some o := by
  unfold evMakeSliceR at hh
  unfold evMakeSlice
  split at hh
  · rename_i e k1 l k2 c hk
    simp only [hk]
    split at hh
    · rename_i ti ht
      obtain ⟨hb, ⟨h1, h2, h3⟩, rfl⟩ := bthen_is hh
      simp only [Bool.and_eq_true] at hb
      obtain ⟨b1, b2, b3, b4⟩ := hb
      simp only [ht]
      rw [if_pos ⟨h1, h2, h3, natLe_le b1, natLe_le b2, natEq_eq b3, b4⟩]
    · exact hh.elim
  · exact hh.elim

/-- A bound of a cut: none, or a number; and what must hold of it. -/
def bndR (x : Option AV) (d : Nat) : Option (Prop × Nat) :=
  match x with
  | none => some (True, d)
  | some (.s (.int _ i)) => some (0 ≤ i, i.toNat)
  | _ => none
theorem bndR_is {x : Option AV} {d : Nat} {p : Prop} {n : Nat} (h : bndR x d = some (p, n)) (hp : p) : bnd x d = some n := by
  unfold bndR at h
  split at h
  · cases h; rfl
  · cases h; simp only [bnd]; rw [if_pos hp]
  · cases h
def evSliceR (G : Env) (t : TypeId) (x : AV) (lo hi mx : Option AV) : R AV :=
  match tkOf G.P t with
  | some .str => match x, mx with
    | .s (.string s), none => match bndR lo 0, bndR hi s.size with
      | some (p, l), some (q, r) => .iff ((p ∧ q) ∧ l ≤ r ∧ r ≤ s.size) (.s (.string (s.extract l r)))
      | _, _ => .no
    | _, _ => .no
  | some (.slice e) => match tinfo G.P e with
    | some ti => match x, mx with
      | .sl nn sz es, none => bthen (natEq sz ti.sz) (match lo, hi with
        | none, none => .ok (.sl false sz es)
        | none, some _ => (match bndR hi 0 with | some (q, r) => .iff (q ∧ r ≤ es.length) (.sl false sz (es.take r)) | none => .no)
        | some _, none => (match bndR lo 0 with | some (p, l) => .iff (p ∧ l ≤ es.length) (.sl false sz (es.drop l)) | none => .no)
        | some _, some _ => (match bndR lo 0, bndR hi 0 with | some (p, l), some (q, r) => .iff ((p ∧ q) ∧ l ≤ r ∧ r ≤ es.length) (.sl false sz ((es.take r).drop l)) | _, _ => .no))
      | .loc b sz off len, none => bthen (natEq sz ti.sz) (match lo with
        | none => (match bndR hi len with | some (q, r) => .iff (q ∧ r ≤ len) (.loc b sz off r) | none => .no)
        | some _ => (match bndR lo 0, bndR hi len with | some (p, l), some (q, r) => .iff ((p ∧ q) ∧ l ≤ r ∧ r ≤ len ∧ (l < len ∨ l = 0)) (.loc b sz (off + l) (r - l)) | _, _ => .no))
      | .e nl, none => (match bndR lo 0, bndR hi 0 with | some (p, l), some (q, r) => .iff ((p ∧ q) ∧ l = 0 ∧ r = 0) (.e nl) | _, _ => .no)
      | .sl nn sz es, some m => (match bndR lo 0, hi.bind fun q => bndR (some q) 0, bndR (some m) 0 with | some (p, l), some (q, r), some (z, mm) => .iff ((p ∧ q ∧ z) ∧ l = 0 ∧ r = 0 ∧ mm = 0) (.sl true sz []) | _, _, _ => .no)
      | .loc b sz off len, some m => (match bndR lo 0, hi.bind fun q => bndR (some q) 0, bndR (some m) 0 with | some (p, l), some (q, r), some (z, mm) => .iff ((p ∧ q ∧ z) ∧ l = 0 ∧ r = 0 ∧ mm = 0) (.e false) | _, _, _ => .no)
      | _, _ => .no
    | none => .no
  | _ => .no
theorem bnd_no (d : Nat) : bnd none d = some d := rfl
theorem bnd_mono {x : AV} {d d' : Nat} : bnd (some x) d = bnd (some x) d' := by
  cases x with
  | s v => cases v <;> rfl
  | _ => rfl
theorem evSliceR_is {t : TypeId} {x v : AV} {lo hi mx : Option AV} (hh : (evSliceR G t x lo hi mx).is v) : evSlice G t x lo hi mx = some v := by
  unfold evSliceR at hh
  unfold evSlice
  split at hh
  · rename_i hk
    simp only [hk]
    split at hh
    · split at hh
      · rename_i s p l q r h1 h2
        obtain ⟨⟨⟨hp, hq⟩, h3⟩, rfl⟩ := hh
        simp only [bndR_is h1 hp, bndR_is h2 hq]
        rw [if_pos h3]
      · exact hh.elim
    · exact hh.elim
  · rename_i e hk
    simp only [hk]
    split at hh
    · rename_i ti ht
      simp only [ht]
      split at hh
      · rename_i nn sz es
        obtain ⟨hsz, hh⟩ := bthen_is hh
        have hsz := natEq_eq hsz
        split at hh
        · cases hh
          simp only [bnd_no]
          rw [if_pos ⟨Nat.zero_le _, Nat.le_refl _, hsz⟩]; simp
        · rename_i hiv
          split at hh
          · rename_i q r h2
            obtain ⟨⟨hq, hr⟩, rfl⟩ := hh
            have := bndR_is h2 hq
            rw [bnd_mono (d' := es.length)] at this
            simp only [this, bnd_no]
            rw [if_pos ⟨Nat.zero_le _, hr, hsz⟩]
            simp only [if_true]
            split
            · rename_i e; rw [e, List.take_length]
            · rfl
          · exact hh.elim
        · rename_i lov
          split at hh
          · rename_i p l h2
            obtain ⟨⟨hp, hl⟩, rfl⟩ := hh
            simp only [bndR_is h2 hp, bnd_no]
            rw [if_pos ⟨hl, Nat.le_refl _, hsz⟩]
            simp only [if_true]
            split
            · rename_i e; rw [e]; rfl
            · rfl
          · exact hh.elim
        · split at hh
          · rename_i p l q r h1 h2
            obtain ⟨⟨⟨hp, hq⟩, h3, h4⟩, rfl⟩ := hh
            have := bndR_is h2 hq
            rw [bnd_mono (d' := es.length)] at this
            simp only [bndR_is h1 hp, this]
            rw [if_pos ⟨h3, h4, hsz⟩]
            have : (if l = 0 then (if r = es.length then es else es.take r) else (if r = es.length then es.drop l else (es.take r).drop l)) = (es.take r).drop l := by
              by_cases e1 : l = 0
              · rw [if_pos e1, e1]; simp only [List.drop_zero]; split
                · rename_i e2; rw [e2, List.take_length]
                · rfl
              · rw [if_neg e1]; split
                · rename_i e2; rw [e2, List.take_length]
                · rfl
            rw [this]
          · exact hh.elim
      · rename_i b sz off len
        obtain ⟨hsz, hh⟩ := bthen_is hh
        have hsz := natEq_eq hsz
        split at hh
        · split at hh
          · rename_i q r h2
            obtain ⟨⟨hq, hr⟩, rfl⟩ := hh
            simp only [bndR_is h2 hq, bnd_no]
            rw [if_pos ⟨Nat.zero_le _, hr, hsz⟩]; simp
          · exact hh.elim
        · split at hh
          · rename_i p l q r h1 h2
            obtain ⟨⟨⟨hp, hq⟩, h3, h4, h5⟩, rfl⟩ := hh
            simp only [bndR_is h1 hp, bndR_is h2 hq]
            rw [if_pos ⟨h3, h4, hsz⟩, if_pos h5]
          · exact hh.elim
      · split at hh
        · rename_i p l q r h1 h2
          obtain ⟨⟨⟨hp, hq⟩, rfl, rfl⟩, rfl⟩ := hh
          simp [bndR_is h1 hp, bndR_is h2 hq]
        · exact hh.elim
      · split at hh
        · rename_i p l q r z mm h1 h2 h3
          obtain ⟨⟨⟨hp, hq, hz⟩, rfl, rfl, rfl⟩, rfl⟩ := hh
          cases hi with
          | none => cases h2
          | some hv =>
            simp only [Option.bind_some] at h2
            simp only [bndR_is h1 hp, Option.bind_some, bndR_is h2 hq, bndR_is h3 hz]
        · exact hh.elim
      · split at hh
        · rename_i p l q r z mm h1 h2 h3
          obtain ⟨⟨⟨hp, hq, hz⟩, rfl, rfl, rfl⟩, rfl⟩ := hh
          cases hi with
          | none => cases h2
          | some hv =>
            simp only [Option.bind_some] at h2
            simp only [bndR_is h1 hp, Option.bind_some, bndR_is h2 hq, bndR_is h3 hz]
        · exact hh.elim
      · exact hh.elim
    · exact hh.elim
  · exact hh.elim

def evIndexAddrR (G : Env) (t : TypeId) (x y : AV) : R AV :=
  match tkOf G.P t, y with
  | some (.slice e), .s (.int _ i) => match tinfo G.P e with
    | some ti => match x with
      | .sl _ sz es => bthen (natEq sz ti.sz) (.iff (0 ≤ i ∧ i < es.length) (.rp sz (es.getD i.toNat [])))
      | .loc l sz off len => bthen (natEq sz ti.sz) (.iff (0 ≤ i ∧ i < len) (.ptr l (off + i.toNat) 0))
      | _ => .no
    | none => .no
  | _, _ => .no
theorem evIndexAddrR_is {t : TypeId} {x y v : AV} (hh : (evIndexAddrR G t x y).is v) : evIndexAddr G t x y = some v := by
  unfold evIndexAddrR at hh
  unfold evIndexAddr
  split at hh
  · rename_i e k i hk
    simp only [hk]
    split at hh
    · rename_i ti ht
      simp only [ht]
      split at hh
      · obtain ⟨h1, ⟨h2, h3⟩, rfl⟩ := bthen_is hh
        simp only []
        rw [if_pos ⟨h2, h3, natEq_eq h1⟩]
      · obtain ⟨h1, ⟨h2, h3⟩, rfl⟩ := bthen_is hh
        simp only []
        rw [if_pos ⟨h2, h3, natEq_eq h1⟩]
      · exact hh.elim
    · exact hh.elim
  · exact hh.elim
def evIndexR (G : Env) (t : TypeId) (x y : AV) : R AV :=
  match tkOf G.P t, x, y with
  | some .str, .s (.string s), .s (.int _ i) => .iff (0 ≤ i ∧ i < s.size) (.s (.int .u8 (byteAt s i)))
  | _, _, _ => .no
theorem evIndexR_is {t : TypeId} {x y v : AV} (hh : (evIndexR G t x y).is v) : evIndex G t x y = some v := by
  unfold evIndexR at hh
  unfold evIndex
  split at hh
  · rename_i s k i hk
    simp only [hk]
    obtain ⟨h1, rfl⟩ := hh
    rw [if_pos h1]
  · exact hh.elim

def vo (nx : Nat) (v : AV) : Out := ⟨v, [], [], nx⟩
def evOpR (G : Env) (op : Op) (ρ : Operand → AV) (h : Hp) (nx : Nat) : R Out :=
  match op with
  | .move x => .ok (vo nx (ρ x))
  | .assign x => .ok (vo nx (ρ x))
  | .pick c a b => match ρ c with | .s (.bool true) => .ok (vo nx (ρ a)) | .s (.bool false) => .ok (vo nx (ρ b)) | _ => .no
  | .load t x => evLoadR G t (ρ x) h nx
  | .store t x y => evStoreR G t (ρ x) (ρ y) h nx
  | .binOp op t x y _ => (evBinR G op t (ρ x) (ρ y)).map (vo nx)
  | .makeSlice t l c => evMakeSliceR G t (ρ l) (ρ c) nx
  | .slice t x lo hi mx => (evSliceR G t (ρ x) (lo.map ρ) (hi.map ρ) (mx.map ρ)).map (vo nx)
  | .indexAddr t x i => (evIndexAddrR G t (ρ x) (ρ i)).map (vo nx)
  | .index t x i => (evIndexR G t (ρ x) (ρ i)).map (vo nx)
  | op => R.of (evOp G op ρ h nx)
theorem evOpR_is {op : Op} {ρ : Operand → AV} {h : Hp} {nx : Nat} {o : Out} (hh : (evOpR G op ρ h nx).is o) : evOp G op ρ h nx = some o := by
  unfold evOpR at hh
  split at hh
  · cases hh; rfl
  · cases hh; rfl
  · unfold evOp
    split at hh
    · rename_i hc; cases hh; simp [hc, po, vo]
    · rename_i hc; cases hh; simp [hc, po, vo]
    · exact hh.elim
  · exact evLoadR_is hh
  · exact evStoreR_is hh
  · obtain ⟨v, hv, rfl⟩ := R.map_is hh; simp [evOp, evBinR_is hv, po, vo]
  · exact evMakeSliceR_is hh
  · obtain ⟨v, hv, rfl⟩ := R.map_is hh; simp [evOp, evSliceR_is hv, po, vo]
  · obtain ⟨v, hv, rfl⟩ := R.map_is hh; simp [evOp, evIndexAddrR_is hv, po, vo]
  · obtain ⟨v, hv, rfl⟩ := R.map_is hh; simp [evOp, evIndexR_is hv, po, vo]
  · exact R.of_is hh

end Go.Aw

/- Of a call's answer no more is told than what holds of it. -/
namespace Go.Aw
set_option linter.unusedVariables false
set_option linter.unusedSimpArgs false

section
variable {G : Env} {w : World} {M M' : Nat → Prop} {φ φ' : Pm} {h : Hp}
/-- Of every call of f with such arguments, and such blocks that f may write: of its value, and of the blocks then, this holds. -/
def SpecE (P : Program) (f : FuncId) (args : List AV) (Hin : List Blk) (Post : AV → List Blk → Prop) : Prop :=
  ∀ (w : World) (M : Nat → Prop) (φ : Pm) (vl : List Value), HRel w M φ (fun l => Hin[l]?) → (∀ l, Hin.length ≤ l → φ l = none) → PW (Rep w M φ) args vl →
    Calls P f ⟨vl⟩ w fun e w' => ∃ r Hout, Post r Hout ∧ ∃ v M' φ', e = .returned v ∧ StepOk w M φ w' M' φ' ∧ HRel w' M' φ' (fun l => Hout[l]?) ∧ Rep w' M' φ' r v ∧ Hin.length ≤ Hout.length ∧ (∀ l, Hout.length ≤ l → φ' l = none)

/-- A call that is lent some of the caller's blocks, and reads others that nobody writes any more. -/
theorem call_genE {P : Program} {f : FuncId} {vs args' : List AV} {vl : List Value} {σl : List Nat} {Hin : List Blk} {Post : AV → List Blk → Prop} {nx n : Nat} {ok : Okf} (HR : HRel w M φ h) (hnx : ∀ l, nx ≤ l → φ l = none)
    (hok : ∀ l k, ok l k = true → k.wr = false) (hd : σl.Nodup) (hv : vwL h ok (idx · σl) n vs = some args') (hB : lent h ok (idx · σl) n σl = some Hin) (hs : SpecE P f args' Hin Post) (ha : PW (Rep w M φ) vs vl) :
    Calls P f ⟨vl⟩ w fun e w' => ∃ r Hout, Post r Hout ∧ ∃ v M' φ', e = .returned v ∧ StepOk w M φ w' M' φ' ∧ HRel w' M' φ' (insH h (insB (back σl nx Hout.length) 0 Hout)) ∧ Rep w' M' φ' (ren (back σl nx Hout.length) r) v ∧ σl.length ≤ Hout.length ∧
      (∀ l, φ' l ≠ none → φ l ≠ none ∨ (nx ≤ l ∧ l < nx + (Hout.length - σl.length))) := by
  obtain ⟨hBl, hBg⟩ := lent_spec _ _ hB
  have F : FzOk w M M φ h ok := ⟨HR, fun _ _ h => h, fun l k p hk ho hp hM => by
    obtain ⟨b, o, cs, T, h1, h2, h3, h4, h5, h6⟩ := (HR.ok l k hk).out
    rw [hp] at h1; cases h1
    have := h6.2 hM
    rw [hok l k ho] at this; cases this⟩
  let φc : Pm := fun j => (σl[j]?).bind φ
  have hσ : ∀ l p j, φ l = some p → idx l σl = some j → φc j = some p := fun l p j hp hj => by
    simp only [φc, idx_get hj, Option.bind_some, hp]
  have hlive : ∀ j l, σl[j]? = some l → ∃ k b, h l = some k ∧ Hin[j]? = some b ∧ vwB h ok (idx · σl) n k = some b := fun j l hj => by
    have hjl : j < σl.length := by
      rcases Nat.lt_or_ge j σl.length with q | q
      · exact q
      · rw [List.getElem?_eq_none q] at hj; cases hj
    obtain ⟨b, hb⟩ : ∃ b, Hin[j]? = some b := ⟨Hin[j]'(by omega), List.getElem?_eq_getElem (by omega)⟩
    obtain ⟨k, hk, hkb⟩ := hBg j l b hj hb
    exact ⟨k, b, hk, hb, hkb⟩
  have hsn : ∀ l ∈ σl, l < nx := fun l hl => by
    obtain ⟨j, hj⟩ := List.getElem?_of_mem hl
    obtain ⟨k, b, hk, _⟩ := hlive j l hj
    obtain ⟨b', o, cs, T, h1, _⟩ := (HR.ok l k hk).out
    rcases Nat.lt_or_ge l nx with q | q
    · exact q
    · rw [hnx l q] at h1; cases h1
  have HRc : HRel w M φc (fun l => Hin[l]?) := by
    refine ⟨fun j b hb => ?_, fun j j' b b' p p' hb hb' hp hp' e => ?_, fun j p hp => ?_⟩
    · have hjl : j < σl.length := by
        rcases Nat.lt_or_ge j σl.length with q | q
        · exact q
        · rw [List.getElem?_eq_none (by omega)] at hb; cases hb
      obtain ⟨k, b1, hk, hb1, hkb⟩ := hlive j σl[j] (List.getElem?_eq_getElem hjl)
      have : b1 = b := by rw [hb1] at hb; exact Option.some.inj hb
      subst this
      exact vwB_ok F (HR.ok _ _ hk) hkb (fun p hp => by simp only [φc, List.getElem?_eq_getElem hjl, Option.bind_some, hp]) hσ (fun _ _ => Iff.rfl)
    · simp only [φc, Option.bind_eq_some_iff] at hp hp'
      obtain ⟨l, hl, hp⟩ := hp
      obtain ⟨l', hl', hp'⟩ := hp'
      obtain ⟨k, _, hk, _⟩ := hlive j l hl
      obtain ⟨k', _, hk', _⟩ := hlive j' l' hl'
      have := HR.inj l l' k k' p p' hk hk' hp hp' e
      subst this
      have h1 : j < σl.length := by
        rcases Nat.lt_or_ge j σl.length with q | q
        · exact q
        · rw [List.getElem?_eq_none q] at hl; cases hl
      have h2 : j' < σl.length := by
        rcases Nat.lt_or_ge j' σl.length with q | q
        · exact q
        · rw [List.getElem?_eq_none q] at hl'; cases hl'
      exact (List.getElem?_inj h1 hd).1 (hl.trans hl'.symm)
    · simp only [φc, Option.bind_eq_some_iff] at hp
      obtain ⟨l, hl, hp⟩ := hp
      exact HR.lt l p hp
  have hargs : PW (Rep w M φc) args' vl := by
    have hl := vwL_len _ _ hv
    exact ⟨by have := ha.1; omega, fun i hi => vw_rep F (ha.2 i (by omega)) F (vwL_get _ _ hv i (by omega)) hσ⟩
  have hc0 : ∀ l, Hin.length ≤ l → φc l = none := fun l hl => by simp only [φc]; rw [List.getElem?_eq_none (by omega)]; rfl
  refine (hs w M φc vl HRc hc0 hargs).mono ?_
  rintro e w' ⟨r, Hout, hpost, v, M1, φ1, rfl, hst, hH, hr, hle, hdom⟩
  rw [hBl] at hle
  let φ' : Pm := fun l => if nx ≤ l ∧ l < nx + (Hout.length - σl.length) then φ1 (σl.length + (l - nx)) else φ l
  have hext : ∀ l p, φ l = some p → φ' l = some p := fun l p hp => by
    simp only [φ']
    rw [if_neg]; exact hp
    intro h1; rw [hnx l h1.1] at hp; cases hp
  have hτ : ∀ j p l, φ1 j = some p → back σl nx Hout.length j = some l → φ' l = some p := fun j p l hp hl => by
    by_cases hj : j < σl.length
    · rw [back_lt hj] at hl
      obtain ⟨k, _, hk, _⟩ := hlive j l hl
      obtain ⟨b', o, cs, T, h1, _⟩ := (HR.ok l k hk).out
      have h2 : φc j = some ⟨b', o, k.sz⟩ := by simp only [φc, hl, Option.bind_some, h1]
      have h3 := hst.pext _ _ h2
      rw [hp] at h3
      rw [Option.some.inj h3]
      exact hext _ _ h1
    · have hj2 : j < Hout.length := by
        rcases Nat.lt_or_ge j Hout.length with q | q
        · exact q
        · rw [hdom j q] at hp; cases hp
      rw [back_ge (by omega) hj2] at hl
      cases hl
      simp only [φ']
      rw [if_pos (by omega), show σl.length + (nx + (j - σl.length) - nx) = j by omega]; exact hp
  have hnew : ∀ l p, φ' l = some p → φ l = some p ∨ (nx ≤ l ∧ l < nx + (Hout.length - σl.length) ∧ φ1 (σl.length + (l - nx)) = some p ∧ w.heap.size ≤ p.b) := fun l p hp => by
    simp only [φ'] at hp
    split at hp
    · rename_i hc
      right
      refine ⟨hc.1, hc.2, hp, ?_⟩
      rcases hst.fresh _ _ hp with q | q
      · rw [hc0 _ (by omega)] at q; cases q
      · exact q
    · exact .inl hp
  refine ⟨r, Hout, hpost, v, M1, φ', rfl, ⟨hst.ext, hext, hst.m, fun b hb hf => hst.frame b hb fun l p hp => ?_, fun l p hp => ?_, hst.os, hst.tape, hst.out⟩, ?_, hr.ren hτ, hle, fun l hl => ?_⟩
  · simp only [φc, Option.bind_eq_some_iff] at hp
    obtain ⟨l', hl', hp⟩ := hp
    exact hf l' p hp
  · rcases hnew l p hp with q | q
    · exact .inl q
    · exact .inr q.2.2.2
  · -- the blocks
    have hinj := back_inj (m := Hout.length) hd hsn
    have hat : ∀ j k l, Hout[j]? = some k → back σl nx Hout.length j = some l → insH h (insB (back σl nx Hout.length) 0 Hout) l = some (renB (back σl nx Hout.length) k) := fun j k l hj hl =>
      insB_at Hout 0 j k h hj (by rw [Nat.zero_add]; exact hl) (fun a b x _ _ => hinj a b x)
    have hcase : ∀ l k, insH h (insB (back σl nx Hout.length) 0 Hout) l = some k → (∃ j kk, Hout[j]? = some kk ∧ back σl nx Hout.length j = some l ∧ k = renB (back σl nx Hout.length) kk) ∨ (h l = some k ∧ (∀ j, σl[j]? ≠ some l)) := fun l k hk => by
      by_cases hex : ∃ j, j < Hout.length ∧ back σl nx Hout.length j = some l
      · obtain ⟨j, hj, hl⟩ := hex
        have := hat j Hout[j] l (List.getElem?_eq_getElem hj) hl
        rw [hk] at this
        exact .inl ⟨j, Hout[j], List.getElem?_eq_getElem hj, hl, Option.some.inj this⟩
      · right
        rw [insB_no Hout 0 h (fun i hi e => hex ⟨i, hi, by rwa [Nat.zero_add] at e⟩)] at hk
        refine ⟨hk, fun j hj => hex ?_⟩
        have hjl : j < σl.length := by
          rcases Nat.lt_or_ge j σl.length with q | q
          · exact q
          · rw [List.getElem?_eq_none q] at hj; cases hj
        exact ⟨j, by omega, by rw [back_lt hjl]; exact hj⟩
    have hold : ∀ l k p, h l = some k → (∀ j, σl[j]? ≠ some l) → φ l = some p → w'.heap[p.b]? = w.heap[p.b]? := fun l k p hk hn hp => by
      refine hst.frame p.b (HR.lt l p hp) fun j q hq e => ?_
      simp only [φc, Option.bind_eq_some_iff] at hq
      obtain ⟨l', hl', hq⟩ := hq
      obtain ⟨k', _, hk', _⟩ := hlive j l' hl'
      have := HR.inj l' l k' k q p hk' hk hq hp e
      subst this
      exact hn j hl'
    refine ⟨fun l k hk => ?_, fun l l' k k' p p' hk hk' hp hp' e => ?_, fun l p hp => ?_⟩
    · rcases hcase l k hk with ⟨j, kk, hj, hl, rfl⟩ | ⟨hk0, hn⟩
      · exact (hH.ok j kk hj).ren (fun p hp => hτ j p l hp hl) (fun l p j => hτ l p j)
      · exact (HR.ok l k hk0).mono hst.ext hst.m hext (fun p hp => HR.lt l p hp) fun p hp => hold l k p hk0 hn hp
    · have hloc : ∀ l k p, insH h (insB (back σl nx Hout.length) 0 Hout) l = some k → φ' l = some p → (∃ j kk, Hout[j]? = some kk ∧ back σl nx Hout.length j = some l ∧ φ1 j = some p) ∨ (h l = some k ∧ (∀ j, σl[j]? ≠ some l) ∧ φ l = some p ∧ p.b < w.heap.size) := fun l k p hk hp => by
        rcases hcase l k hk with ⟨j, kk, hj, hl, rfl⟩ | ⟨hk0, hn⟩
        · left
          obtain ⟨b', o, cs, T, h1, _⟩ := (hH.ok j kk hj).out
          have h2 := hτ j _ l h1 hl
          rw [hp] at h2
          exact ⟨j, kk, hj, hl, by rw [Option.some.inj h2]; exact h1⟩
        · right
          obtain ⟨b', o, cs, T, h1, _⟩ := (HR.ok l k hk0).out
          have h2 := hext _ _ h1
          rw [hp] at h2
          have h3 : φ l = some p := by rw [Option.some.inj h2]; exact h1
          exact ⟨hk0, hn, h3, HR.lt l p h3⟩
      have hmix : ∀ j kk l2 k2 p q, Hout[j]? = some kk → φ1 j = some p → h l2 = some k2 → (∀ j, σl[j]? ≠ some l2) → φ l2 = some q → q.b < w.heap.size → p.b ≠ q.b := fun j kk l2 k2 p q hj hp hk2 hn2 hq hlt e => by
        rcases hst.fresh j p hp with q1 | q1
        · simp only [φc, Option.bind_eq_some_iff] at q1
          obtain ⟨l', hl', hp2⟩ := q1
          obtain ⟨k', _, hk', _⟩ := hlive j l' hl'
          have := HR.inj l' l2 k' k2 p q hk' hk2 hp2 hq e
          subst this
          exact hn2 j hl'
        · omega
      rcases hloc l k p hk hp with ⟨j, kk, hj, hl, hp1⟩ | ⟨hk0, hn, hp0, hlt⟩ <;> rcases hloc l' k' p' hk' hp' with ⟨j', kk', hj', hl', hp1'⟩ | ⟨hk0', hn', hp0', hlt'⟩
      · have := hH.inj j j' kk kk' p p' hj hj' hp1 hp1' e
        subst this
        rw [hl] at hl'; exact Option.some.inj hl'
      · exact absurd e (hmix j kk l' k' p p' hj hp1 hk0' hn' hp0' hlt')
      · exact absurd e.symm (hmix j' kk' l k p' p hj' hp1' hk0 hn hp0 hlt)
      · exact HR.inj l l' k k' p p' hk0 hk0' hp0 hp0' e
    · rcases hnew l p hp with q | q
      · exact Nat.lt_of_lt_of_le (HR.lt l p q) hst.ext.size
      · exact hH.lt _ _ q.2.2.1
  · by_cases hc : φ l = none
    · cases hq : φ' l with
      | none => exact absurd hq hl
      | some p =>
        rcases hnew l p hq with q | q
        · rw [hc] at q; cases q
        · exact .inr ⟨q.1, q.2.1⟩
    · exact .inl hc


end

variable {G : Env} {c : Ctx} {w w' : World} {M M' : Nat → Prop} {φ φ' : Pm} {S S' : St} {a : Act}

def CallE (G : Env) (f : FuncId) (vs : List AV) (S : St) (K : St → AV → Prop) : Prop :=
  ∃ (F σl : List Nat) (n : Nat) (args' : List AV) (Hin : List Blk) (Post : AV → List Blk → Prop), FnOk G.P f ∧ (∀ l ∈ F, S.k ≤ l) ∧ σl.Nodup ∧ vwL (S.frz F).blk okRead (idx · σl) n vs = some args' ∧ lent (S.frz F).blk okRead (idx · σl) n σl = some Hin ∧ SpecE G.P f args' Hin Post ∧
    ∀ r Hout, Post r Hout → K { S.frz F with hp := setAll (insB (back σl S.nx Hout.length) 0 Hout) (S.frz F).hp, nx := S.nx + (Hout.length - σl.length) } (ren (back σl S.nx Hout.length) r)
def aCallE (G : Env) (f : AV) (args : List AV) (dst : Option Nat) (S : St) (K : St → Prop) : Prop :=
  match f with
  | .fn fid caps => dstOk S dst ∧ CallE G fid (args ++ caps) S fun S' r => K (S'.put dst r)
  | _ => False
theorem sim_callE {o : Oper} {f : Operand} {args : Array Operand} {ts : Array TypeId} {fid : FuncId} {caps : List AV} {K : St → AV → Prop} (h : Sim c S a w) (ho : o.op = .call ⟨.value f, args, ts⟩) (hf : S.eval f = .fn fid caps)
    (hc : CallE G fid (args.toList.map S.eval ++ caps) S K) (hd : dstOk S o.dst) {N : Act → World → Prop} {Q : Exit → Act → World → Prop}
    (hN : ∀ S' r a' w', K S' r → Sim c (S'.put o.dst r) a' w' → N a' w') : o.wp G.P a w N Q := by
  obtain ⟨F, σl, n, args', Hin, Post, hok, hF, hdd, hv, hB, hs, hK⟩ := hc
  obtain ⟨M, φ, hR, hI, hnx, hk, hkn⟩ := (h.frz F hF).out
  have hfe := hR.eval f
  have e1 : (S.frz F).eval = S.eval := by funext x; cases x <;> rfl
  rw [e1, hf] at hfe
  generalize hfv : a.eval f = fv at hfe
  cases hfe with
  | fn _ _ _ vl hl hh =>
    have hpw : PW (Rep w M φ) (args.toList.map S.eval ++ caps) (args.toList.map a.eval ++ vl) := by
      have h1 := hR.pw args
      rw [e1] at h1
      exact h1.append ⟨hl, hh⟩
    unfold Oper.wp
    rw [exec_call ho hfv, run_callFunc hok]
    refine (call_genE (ok := okRead) hR.heap hnx (fun l k hq => by simpa [okRead] using hq) hdd hv hB hs hpw).mono ?_
    rintro e w' ⟨r, Hout, hpost, v, M', φ', rfl, h1, h2, h3, h4, h5⟩
    refine hN _ _ _ _ (hK r Hout hpost) ⟨M', φ', hR.step h1 hd h3 h2 (by cases o.dst <;> rfl) (St.put_n _ _ _) ?_, hI.step h1 (fun l hl => (h5 l hl).imp id fun q => Nat.le_trans hkn q.1), fun l hl => ?_, (St.put_k _ _ _).trans hk, ?_⟩
    · rw [St.put_blk]; funext l; exact aget_setAll _ _ _
    · rw [St.put_nx] at hl
      cases hq : φ' l with
      | none => rfl
      | some p =>
        have hl' : S.nx + (Hout.length - σl.length) ≤ l := hl
        rcases h5 l (by rw [hq]; simp) with q | q
        · exact absurd (hnx l (Nat.le_trans (Nat.le_add_right _ _) hl')) q
        · have : (S.frz F).nx = S.nx := rfl
          omega
    · rw [St.put_nx]; exact Nat.le_trans hkn (Nat.le_add_right _ _)
end Go.Aw

/- The evaluator over code, in a form that computes. -/
namespace Go.Aw
set_option linter.unusedVariables false
set_option linter.unusedSimpArgs false

variable {G : Env} {S S' : St}

/-- Strict forms: what is kept is kept in its last form. -/
def fv : AV → (AV → Prop) → Prop
  | .s v, k => match v with | .int q n => k (.s (.int q n)) | .bool b => k (.s (.bool b)) | v => k (.s v)
  | .agg cs, k => k (.agg cs)
  | .tup cs, k => k (.tup cs)
  | .sl nn sz es, k => k (.sl nn sz es)
  | .e nl, k => k (.e nl)
  | .loc l sz off len, k => k (.loc l sz off len)
  | .ptr l i o, k => k (.ptr l i o)
  | .rp n cs, k => k (.rp n cs)
  | .fn f cs, k => k (.fn f cs)
  | .bad, k => k .bad
theorem fv_eq (v : AV) (k : AV → Prop) : fv v k = k v := by
  cases v with
  | s v => cases v <;> rfl
  | _ => rfl
def fL : List AV → (List AV → Prop) → Prop
  | [], k => k []
  | v :: r, k => fv v fun v' => fL r fun r' => k (v' :: r')
theorem fL_eq (l : List AV) : ∀ k : List AV → Prop, fL l k = k l := by
  induction l with
  | nil => intro k; rfl
  | cons v r ih => intro k; simp only [fL, fv_eq, ih]
def fA : AV → (AV → Prop) → Prop
  | .agg cs, k => fL cs fun cs' => k (.agg cs')
  | v, k => fv v k
theorem fA_eq (v : AV) (k : AV → Prop) : fA v k = k v := by
  cases v <;> simp only [fA, fv_eq, fL_eq]
def asetK {α : Type} (t : Nat) (x : α) : List (Nat × α) → (List (Nat × α) → Prop) → Prop
  | [], k => k [(t, x)]
  | (u, v) :: r, k => match Nat.beq t u with
    | true => k ((t, x) :: r)
    | false => match Nat.blt t u with
      | true => k ((t, x) :: (u, v) :: r)
      | false => asetK t x r fun r' => k ((u, v) :: r')
theorem asetK_eq {α : Type} (t : Nat) (x : α) (l : List (Nat × α)) : ∀ k : List (Nat × α) → Prop, asetK t x l k = k (aset t x l) := by
  induction l with
  | nil => intro k; rfl
  | cons p r ih =>
    intro k
    obtain ⟨u, v⟩ := p
    simp only [asetK, aset]
    by_cases h : t = u
    · subst h; simp
    · have h1 : Nat.beq t u = false := by cases e : Nat.beq t u; rfl; exact absurd (Nat.eq_of_beq_eq_true e) h
      simp only [h1, if_neg h]
      by_cases h2 : t < u
      · have : Nat.blt t u = true := by simpa using h2
        simp only [this, if_pos h2]
      · have : Nat.blt t u = false := by cases e : Nat.blt t u; rfl; exact absurd (by simpa using e) h2
        simp only [this, if_neg h2, ih]
def setAllK : List (Nat × Blk) → List (Nat × Blk) → (List (Nat × Blk) → Prop) → Prop
  | [], h, k => k h
  | (l, b) :: r, h, k => asetK l b h fun h' => setAllK r h' k
theorem setAllK_eq : ∀ (L h : List (Nat × Blk)) (k : List (Nat × Blk) → Prop), setAllK L h k = k (setAll L h) := by
  intro L
  induction L with
  | nil => intro h k; rfl
  | cons p r ih => intro h k; obtain ⟨l, b⟩ := p; simp only [setAllK, asetK_eq, ih]; rfl
/-- Go on with a value in a temporary. -/
def ePut (S : St) (dst : Option Nat) (v : AV) (K : St → Prop) : Prop :=
  match S, dst with
  | ⟨n, k, sl, hp, nx⟩, some d => match Nat.blt d n with
    | true => fv v fun v' => asetK d v' sl fun sl' => K ⟨n, k, sl', hp, nx⟩
    | false => False
  | ⟨n, k, sl, hp, nx⟩, none => K ⟨n, k, sl, hp, nx⟩
theorem ePut_ok {dst : Option Nat} {v : AV} {K : St → Prop} (h : ePut S dst v K) : dstOk S dst ∧ K (S.put dst v) := by
  obtain ⟨n, k, sl, hp, nx⟩ := S
  cases dst with
  | none => exact ⟨trivial, h⟩
  | some d =>
    simp only [ePut] at h
    split at h
    · rename_i hb
      rw [fv_eq, asetK_eq] at h
      exact ⟨by simpa [dstOk] using hb, h⟩
    · exact h.elim
def eUpd (F : AV → (AV → Prop) → Prop) (S : St) (dst : Option Nat) (o : Out) (K : St → Prop) : Prop :=
  match S, dst, o with
  | ⟨n, k, sl, hp, _⟩, some d, ⟨v, ins, _, nx⟩ => match Nat.blt d n with
    | true => F v fun v' => asetK d v' sl fun sl' => setAllK ins hp fun hp' => K ⟨n, k, sl', hp', nx⟩
    | false => False
  | ⟨n, k, sl, hp, _⟩, none, ⟨_, ins, _, nx⟩ => setAllK ins hp fun hp' => K ⟨n, k, sl, hp', nx⟩
theorem eUpd_ok {F : AV → (AV → Prop) → Prop} (hF : ∀ v k, F v k = k v) {dst : Option Nat} {o : Out} {K : St → Prop} (h : eUpd F S dst o K) : dstOk S dst ∧ K (S.upd dst o) := by
  obtain ⟨n, k, sl, hp, nx⟩ := S
  obtain ⟨v, ins, rd, nx'⟩ := o
  cases dst with
  | none => simp only [eUpd, setAllK_eq] at h; exact ⟨trivial, h⟩
  | some d =>
    simp only [eUpd] at h
    split at h
    · rename_i hb
      rw [hF, asetK_eq, setAllK_eq] at h
      exact ⟨by simpa [dstOk] using hb, h⟩
    · exact h.elim
def eEv (F : AV → (AV → Prop) → Prop) (S : St) (dst : Option Nat) (e : R Out) (K : St → Prop) : Prop :=
  match e with
  | .no => False
  | .ok out => eUpd F S dst out K
  | .iff p out => p ∧ eUpd F S dst out K
theorem eEv_ok {F : AV → (AV → Prop) → Prop} (hF : ∀ v k, F v k = k v) {dst : Option Nat} {e : R Out} {K : St → Prop} (h : eEv F S dst e K) : ∃ out, e.is out ∧ dstOk S dst ∧ K (S.upd dst out) := by
  unfold eEv at h
  split at h
  · exact h.elim
  · exact ⟨_, rfl, eUpd_ok hF h⟩
  · exact ⟨_, ⟨h.1, rfl⟩, eUpd_ok hF h.2⟩
/-- A call: it stands till a contract is named. -/
def eCall (G : Env) (f : AV) (args : List AV) (dst : Option Nat) (S : St) (K : St → Prop) : Prop := aCall G f args dst S K ∨ aCallE G f args dst S K
def eApp (G : Env) (ts : Array TypeId) (s x : AV) (dst : Option Nat) (S : St) (K : St → Prop) : Prop := aApp G ts s x dst S K
def eDraw (G : Env) (ops : Array Oper) (S : St) (K : St → Prop) : Prop := ∃ S', Drawn G ops S S' ∧ K S'
def lfpL (body : St → (Exit → St → Prop) → Prop) (S : St) (Q : Exit → St → Prop) : Prop :=
  ∀ X : St → Prop, (∀ T, body T (seqQ (fun S' => ∃ S'', Weak S' S'' ∧ X S'') Q) → X T) → X S
def eLoop (body : St → (Exit → St → Prop) → Prop) (S : St) (Q : Exit → St → Prop) : Prop := ∃ S', Weak S S' ∧ lfpL body S' Q
attribute [irreducible] eCall eApp eDraw eLoop

def eSet (S : St) (t : Nat) (v : AV) (K : St → Prop) : Prop :=
  match S with
  | ⟨n, k, sl, hp, nx⟩ => asetK t v sl fun sl' => K ⟨n, k, sl', hp, nx⟩
theorem eSet_eq (S : St) (t : Nat) (v : AV) (K : St → Prop) : eSet S t v K = K (S.put (some t) v) := by
  obtain ⟨n, k, sl, hp, nx⟩ := S
  simp only [eSet, asetK_eq]; rfl
def eOp (G : Env) (o : Oper) (S : St) (K : St → Prop) : Prop :=
  match S with
  | ⟨n, k, sl, hp, nx⟩ => match o.op with
    | .call ⟨.value f, args, _⟩ => eCall G (St.eval ⟨n, k, sl, hp, nx⟩ f) (args.toList.map (St.eval ⟨n, k, sl, hp, nx⟩)) o.dst ⟨n, k, sl, hp, nx⟩ K
    | .call ⟨.builtin .append, args, ts⟩ => match args.toList with | [s, x] => eApp G ts (St.eval ⟨n, k, sl, hp, nx⟩ s) (St.eval ⟨n, k, sl, hp, nx⟩ x) o.dst ⟨n, k, sl, hp, nx⟩ K | _ => False
    | .build t ps => eEv fA ⟨n, k, sl, hp, nx⟩ o.dst (evOpR G (.build t ps) (St.eval ⟨n, k, sl, hp, nx⟩) (St.blk ⟨n, k, sl, hp, nx⟩) nx) K
    | op => eEv fv ⟨n, k, sl, hp, nx⟩ o.dst (evOpR G op (St.eval ⟨n, k, sl, hp, nx⟩) (St.blk ⟨n, k, sl, hp, nx⟩) nx) K
/-- A test that may not be known. -/
def bc (b : Bool) (X Y : Prop) : Prop := match b with | true => X | false => Y
theorem bc_split {b : Bool} {X Y : Prop} (h1 : b = true → X) (h2 : b = false → Y) : bc b X Y := by cases b; exact h2 rfl; exact h1 rfl
def eGuard (G : Env) (ops : List Oper) (o : Oper) (S : St) (K : St → Prop) : Prop :=
  match o.guard with
  | none => eOp G o S K
  | some (j, want) => match gdst ops j with
    | some t => match S.get t with
      | .s (.bool b) => match want with
        | true => bc b (eSet S t (.s (.bool true)) fun S => eOp G o S K) (eSet S t (.s (.bool false)) fun S => ePut S o.dst (.s undef) K)
        | false => bc b (eSet S t (.s (.bool true)) fun S => ePut S o.dst (.s undef) K) (eSet S t (.s (.bool false)) fun S => eOp G o S K)
      | .s (.tuple _) => ePut S o.dst (.s undef) K
      | _ => False
    | none => False
def eOps (G : Env) (ops : List Oper) : List Oper → St → (St → Prop) → Prop
  | [], S, K => K S
  | o :: r, S, K => eGuard G ops o S fun S' => eOps G ops r S' K

def ew (G : Env) : Code → St → (Exit → St → Prop) → Prop
  | .skip, S, Q => Q .normal S
  | .region _ ops d, S, Q => match d with
    | false => eOps G ops.toList ops.toList S (Q .normal)
    | true => eDraw G ops S (Q .normal)
  | .seq x y, S, Q => ew G x S (seqQ (fun S' => ew G y S' Q) Q)
  | .cond v x y, S, Q => match S.eval v with
    | .s (.bool b) => bc b (ew G x S Q) (ew G y S Q)
    | _ => False
  | .block id b, S, Q => ew G b S (blkQ id Q)
  | .loop b, S, Q => eLoop (ew G b) S Q
  | .exit id, S, Q => Q (.exit id) S
  | .ret, S, Q => Q .ret S
  | .label _, S, Q => Q .normal S
  | _, _, _ => False

/-- The same frame, known otherwise. -/
def Same (S S' : St) : Prop := S.n = S'.n ∧ S.k = S'.k ∧ S.nx = S'.nx ∧ (∀ t, S.get t = S'.get t) ∧ S.hp = S'.hp
theorem Same.weak (h : Same S S') : Weak S S' := by
  intro c a w hs
  obtain ⟨M, φ, hR, hI, hnx, hk, hkn⟩ := hs.out
  obtain ⟨h1, h2, h3, h4, h5⟩ := h
  have hb : S'.blk = S.blk := by funext l; unfold St.blk; rw [h5]
  exact ⟨M, φ, ⟨by rw [hR.n, h1], hR.defers, fun t => by rw [← h4]; exact hR.slot t, by rw [hb]; exact hR.heap⟩, hI, by rw [← h3]; exact hnx, by rw [← h2]; exact hk, by rw [← h3]; exact hkn⟩
theorem same_put {t : Nat} {v : AV} (h : S.get t = v) : Same S (S.put (some t) v) :=
  ⟨rfl, rfl, rfl, fun u => by rw [St.get_put]; split; (subst_vars; rfl); rfl, rfl⟩

variable {c : Ctx} {a : Act} {w : World}

theorem eOp_sound {o : Oper} {K : St → Prop} {N : Act → World → Prop} {Q : Exit → Act → World → Prop} (h : Sim c S a w) (ha : eOp G o S K) (hN : ∀ S' a' w', Sim c S' a' w' → K S' → N a' w') : o.wp G.P a w N Q := by
  by_cases hcase : ∃ f args ts, o.op = .call ⟨.value f, args, ts⟩ ∧ aCallE G (S.eval f) (args.toList.map S.eval) o.dst S K
  · obtain ⟨f, args, ts, ho, hc⟩ := hcase
    unfold aCallE at hc
    split at hc
    · rename_i fid caps hf
      exact sim_callE h ho hf hc.2 hc.1 fun S' r a' w' hk hs => hN _ _ _ hs hk
    · exact hc.elim
  refine aOp_sound h (K := K) ?_ hN
  obtain ⟨n, k, sl, hp, nx⟩ := S
  unfold eOp at ha
  unfold aOp
  simp only [] at ha
  split at ha
  · rename_i ho
    rw [ho]
    unfold eCall at ha
    rcases ha with ha | ha
    · exact ha
    · exact absurd ⟨_, _, _, ho, ha⟩ hcase
  · rename_i ho
    rw [ho]
    simp only []
    split at ha
    · rename_i he; rw [he]; unfold eApp at ha; exact ha
    · exact ha.elim
  · rename_i ho
    obtain ⟨out, h3, h4, h5⟩ := eEv_ok fA_eq ha
    have h6 := evOpR_is h3
    rw [ho]
    simp only []
    unfold aEv; rw [h6]; exact ⟨h4, h5⟩
  · rename_i h1 h2 h3
    obtain ⟨out, h3, h4, h5⟩ := eEv_ok fv_eq ha
    have h6 := evOpR_is h3
    split
    · rename_i ho; exact (h1 _ _ _ ho).elim
    · rename_i ho; exact (h2 _ _ ho).elim
    · unfold aEv; rw [h6]; exact ⟨h4, h5⟩

theorem eOps_sound {ops : Array Oper} {Q : Exit → Act → World → Prop} {K : St → Prop} (hQ : ∀ S' a' w', Sim c S' a' w' → K S' → Q .normal a' w') : ∀ (rest : List Oper) (i : Nat), (∀ j, rest[j]? = ops[i + j]?) → i + rest.length = ops.size →
    ∀ S a w, Sim c S a w → eOps G ops.toList rest S K → wpOps G.P ops Q ((List.range rest.length).map (i + ·)) a w := by
  intro rest
  induction rest with
  | nil => intro i _ _ S a w h ha; exact hQ S a w h ha
  | cons o r ih =>
    intro i hr hl S a w h ha
    have ho : ops[i]? = some o := by have := hr 0; simpa using this.symm
    have hnext : ∀ S' a' w', Sim c S' a' w' → eOps G ops.toList r S' K → wpOps G.P ops Q ((List.range r.length).map (i + 1 + ·)) a' w' := fun S' a' w' hs hk =>
      ih (i + 1) (fun j => by have := hr (j + 1); simpa [Nat.add_assoc, Nat.add_comm 1 j] using this) (by simp at hl; omega) S' a' w' hs hk
    have hlist : (List.range (o :: r).length).map (i + ·) = i :: (List.range r.length).map (i + 1 + ·) := by
      simp only [List.length_cons, List.range_succ_eq_map, List.map_cons, List.map_map, Nat.add_zero]
      congr 1
      apply List.map_congr_left
      intro j _
      simp only [Function.comp]; omega
    rw [hlist, wpOps_cons]
    unfold wpOp
    rw [ho]
    simp only []
    simp only [eOps] at ha
    unfold eGuard at ha
    split at ha
    · rename_i hg
      have hw : Region.wanted o (yielded ops a.tmps) = true := by simp [Region.wanted, hg]
      rw [if_pos hw]
      exact .inl (eOp_sound h ha fun S' a' w' hs hk => hnext S' a' w' hs hk)
    · rename_i j want hg
      split at ha
      · rename_i t ht
        split at ha
        · rename_i b hb
          simp only [eSet_eq] at ha
          have hw := wanted_of hg ht h hb
          have hsame := (same_put (S := S) hb).weak c a w h
          cases b with
          | true =>
            cases want with
            | true =>
              rw [if_pos (by rw [hw]; rfl)]
              exact .inl (eOp_sound hsame ha fun S' a' w' hs hk => hnext S' a' w' hs hk)
            | false =>
              rw [if_neg (by rw [hw]; simp)]
              have ha' : ePut (S.put (some t) (.s (.bool true))) o.dst (.s undef) (fun S' => eOps G ops.toList r S' K) := ha
              obtain ⟨hd, hk⟩ := ePut_ok ha'
              exact hnext _ _ _ (hsame.skip hd) hk
          | false =>
            cases want with
            | true =>
              rw [if_neg (by rw [hw]; simp)]
              have ha' : ePut (S.put (some t) (.s (.bool false))) o.dst (.s undef) (fun S' => eOps G ops.toList r S' K) := ha
              obtain ⟨hd, hk⟩ := ePut_ok ha'
              exact hnext _ _ _ (hsame.skip hd) hk
            | false =>
              rw [if_pos (by rw [hw]; rfl)]
              exact .inl (eOp_sound hsame ha fun S' a' w' hs hk => hnext S' a' w' hs hk)
        · rename_i q hq
          rw [if_neg (by rw [wanted_tup hg ht h hq]; simp)]
          obtain ⟨hd, hk⟩ := ePut_ok ha
          exact hnext _ _ _ (h.skip hd) hk
        · exact ha.elim
      · exact ha.elim

theorem ew_sound (code : Code) : ∀ (S : St) (Q : Exit → St → Prop) (a : Act) (w : World), Sim c S a w → ew G code S Q → code.wp G.P (Up c Q) a w := by
  induction code with
  | skip => intro S Q a w h ha; exact wp_skip ⟨S, h, ha⟩
  | region id ops d =>
    intro S Q a w h ha
    cases d with
    | false =>
      refine wp_region ?_
      have := eOps_sound (G := G) (Q := Up c Q) (K := Q .normal) (fun S' a' w' hs hk => ⟨S', hs, hk⟩) ops.toList 0 (fun j => by simp) (by simp) S a w h ha
      simpa using this
    | true =>
      simp only [ew] at ha
      unfold eDraw at ha
      obtain ⟨S', hd, hq⟩ := ha
      exact hd c id _ a w h fun a' w' hs => ⟨S', hs, hq⟩
  | seq x y ihx ihy =>
    intro S Q a w h ha
    refine wp_seq (wp_mono (ihx S _ a w h ha) ?_)
    rintro e a' w' ⟨S', hs, hq⟩
    cases e with
    | normal => exact ihy S' Q a' w' hs hq
    | _ => exact ⟨S', hs, hq⟩
  | cond v x y ihx ihy =>
    intro S Q a w h ha
    simp only [ew] at ha
    split at ha
    · rename_i b hb
      obtain ⟨M, φ, hR, _⟩ := h.out
      have h1 := hR.eval v
      rw [hb] at h1
      generalize hv : a.eval v = u at h1
      cases h1
      refine wp_cond_split hv (fun e => ?_) (fun e => ?_)
      · subst e; exact ihx S Q a w h ha
      · subst e; exact ihy S Q a w h ha
    · exact ha.elim
  | block id b ih =>
    intro S Q a w h ha
    refine wp_block (wp_mono (ih S _ a w h ha) ?_)
    rintro e a' w' ⟨S', hs, hq⟩
    cases e with
    | exit id' =>
      simp only [blkQ] at hq
      simp only [Exit.inBlock]
      split
      · rw [if_pos (by assumption)] at hq; exact ⟨S', hs, hq⟩
      · rw [if_neg (by assumption)] at hq; exact ⟨S', hs, hq⟩
    | _ => exact ⟨S', hs, hq⟩
  | loop b ih =>
    intro S Q a w h ha
    simp only [ew] at ha
    unfold eLoop at ha
    obtain ⟨S0, hw0, ha⟩ := ha
    have h := hw0 c a w h
    have key := ha (fun T => ∀ a w, Sim c T a w → ∀ bb k cs, ∃ e a' w', Up c Q e a' w' ∧ Arrives G.P (lone (bb.at a (.code b :: .inLoop b :: k)) cs w) bb k cs e a' w') (fun T hT a w hs bb k cs => by
      obtain ⟨e, a₁, w₁, hq, harr⟩ := ih T _ a w hs hT bb (.inLoop b :: k) cs
      obtain ⟨S₁, hs₁, hq⟩ := hq
      cases e with
      | normal =>
        obtain ⟨S₂, hwk, hX⟩ := hq
        obtain ⟨e₂, a₂, w₂, hq₂, harr₂⟩ := hX a₁ w₁ (hwk c a₁ w₁ hs₁) bb k cs
        exact ⟨e₂, a₂, w₂, hq₂, .of_steps (Steps.trans harr (.one step_inLoop)) harr₂⟩
      | exit id => exact ⟨_, a₁, w₁, ⟨S₁, hs₁, hq⟩, .pass (x := .inLoop b) rfl (fun _ _ => .inl (by simp)) harr⟩
      | goto l => exact ⟨_, a₁, w₁, ⟨S₁, hs₁, hq⟩, .pass (x := .inLoop b) rfl (fun _ _ => .inl (by simp)) harr⟩
      | ret => exact ⟨_, a₁, w₁, ⟨S₁, hs₁, hq⟩, .pass (x := .inLoop b) rfl (fun _ _ => .inl (by simp)) harr⟩
      | panic ch => exact ⟨_, a₁, w₁, ⟨S₁, hs₁, hq⟩, .pass (x := .inLoop b) rfl (fun _ _ => .inl (by simp)) harr⟩
      | outgrown => exact ⟨_, a₁, w₁, ⟨S₁, hs₁, hq⟩, .pass (x := .inLoop b) rfl (fun _ _ => .inl (by simp)) harr⟩) a w h
    intro bb k cs
    obtain ⟨e, a', w', hq, harr⟩ := key bb k cs
    exact ⟨e, a', w', hq, .of_steps (.one step_loop) harr⟩
  | exit id => intro S Q a w h ha; exact wp_exit ⟨S, h, ha⟩
  | ret => intro S Q a w h ha; exact wp_ret ⟨S, h, ha⟩
  | label l => intro S Q a w h ha; exact wp_label ⟨S, h, ha⟩
  | _ => intros; contradiction

/-- A function and what its calls come to. -/
def Fun (G : Env) (f : FuncId) (args : List AV) (Hin : List Blk) (r : AV) (Hout : List Blk) : Prop := FnOk G.P f ∧ Spec G.P f args Hin r Hout

theorem eCall_pure {f : FuncId} {caps args args' : List AV} {dst : Option Nat} {K : St → Prop} {r : AV} (hs : Fun G f args' [] r []) (hv : vwL S.blk okRead (fun _ => none) 6 (args ++ caps) = some args') (hk : ePut S dst r K) :
    eCall G (.fn f caps) args dst S K := by
  unfold eCall
  obtain ⟨h1, h2⟩ := ePut_ok hk
  exact .inl ⟨h1, S, r, .pure 6 args' r hs.1 hv hs.2, h2⟩
theorem eCall_flat {f : FuncId} {caps args args' : List AV} {dst : Option Nat} {K : St → Prop} {r : AV} (hs : Fun G f args' [] r []) (hv : vwL S.blk okAll (fun _ => none) 6 (args ++ caps) = some args') (hf : flat r = true) (hk : ePut S dst r K) :
    eCall G (.fn f caps) args dst S K := by
  unfold eCall
  obtain ⟨h1, h2⟩ := ePut_ok hk
  exact .inl ⟨h1, S, r, .flat 6 args' r hs.1 hv hs.2 hf, h2⟩
theorem eCall_ext {f : FuncId} {caps args : List AV} {dst : Option Nat} {K : St → Prop} {r : AV} (hs : Ext G.P f (args ++ caps) r) (hk : ePut S dst r K) :
    eCall G (.fn f caps) args dst S K := by
  unfold eCall
  obtain ⟨h1, h2⟩ := ePut_ok hk
  exact .inl ⟨h1, S, r, .ext r hs, h2⟩
/-! ### More is told of less -/
theorem ePut_mono {dst : Option Nat} {v : AV} {K K' : St → Prop} (hk : ∀ S, K S → K' S) (h : ePut S dst v K) : ePut S dst v K' := by
  obtain ⟨n, k, sl, hp, nx⟩ := S
  cases dst with
  | none => exact hk _ h
  | some d =>
    simp only [ePut] at h ⊢
    split
    · rename_i hb; rw [hb] at h; simp only [fv_eq, asetK_eq] at h ⊢; exact hk _ h
    · rename_i hb; rw [hb] at h; exact h.elim
theorem eUpd_mono {F : AV → (AV → Prop) → Prop} (hF : ∀ v k, F v k = k v) {dst : Option Nat} {o : Out} {K K' : St → Prop} (hk : ∀ S, K S → K' S) (h : eUpd F S dst o K) : eUpd F S dst o K' := by
  obtain ⟨n, k, sl, hp, nx⟩ := S
  obtain ⟨v, ins, rd, nx'⟩ := o
  cases dst with
  | none => simp only [eUpd, setAllK_eq] at h ⊢; exact hk _ h
  | some d =>
    simp only [eUpd] at h ⊢
    split
    · rename_i hb; rw [hb] at h; simp only [hF, asetK_eq, setAllK_eq] at h ⊢; exact hk _ h
    · rename_i hb; rw [hb] at h; exact h.elim
theorem eEv_mono {F : AV → (AV → Prop) → Prop} (hF : ∀ v k, F v k = k v) {dst : Option Nat} {e : R Out} {K K' : St → Prop} (hk : ∀ S, K S → K' S) (h : eEv F S dst e K) : eEv F S dst e K' := by
  cases e with
  | no => exact h
  | ok out => exact eUpd_mono hF hk h
  | iff p out => exact ⟨h.1, eUpd_mono hF hk h.2⟩
theorem eOp_mono {o : Oper} {K K' : St → Prop} (hk : ∀ S, K S → K' S) (h : eOp G o S K) : eOp G o S K' := by
  obtain ⟨n, k, sl, hp, nx⟩ := S
  unfold eOp at h ⊢
  simp only [] at h ⊢
  split at h
  · unfold eCall at h ⊢
    rcases h with h | h
    · left
      unfold aCall at h ⊢
      split at h
      · obtain ⟨h1, S', r, h2, h3⟩ := h; exact ⟨h1, S', r, h2, hk _ h3⟩
      · exact h.elim
    · right
      unfold aCallE at h ⊢
      split at h
      · obtain ⟨h1, F, σl, n, args', Hin, Post, g1, g2, g3, g4, g5, g6, g7⟩ := h
        exact ⟨h1, F, σl, n, args', Hin, Post, g1, g2, g3, g4, g5, g6, fun r Hout hp => hk _ (g7 r Hout hp)⟩
      · exact h.elim
  · split at h
    · unfold eApp aApp at h ⊢; obtain ⟨h1, S', r, h2, h3⟩ := h; exact ⟨h1, S', r, h2, hk _ h3⟩
    · exact h.elim
  · exact eEv_mono fA_eq hk h
  · exact eEv_mono fv_eq hk h
theorem bc_mono {b : Bool} {X Y X' Y' : Prop} (h1 : X → X') (h2 : Y → Y') (h : bc b X Y) : bc b X' Y' := by cases b; exact h2 h; exact h1 h
theorem eGuard_mono {ops : List Oper} {o : Oper} {K K' : St → Prop} (hk : ∀ S, K S → K' S) (h : eGuard G ops o S K) : eGuard G ops o S K' := by
  unfold eGuard at h ⊢
  split at h
  · exact eOp_mono hk h
  · split at h
    · split at h
      · simp only [eSet_eq] at h ⊢
        split at h
        · exact bc_mono (eOp_mono hk) (ePut_mono hk) h
        · exact bc_mono (ePut_mono hk) (eOp_mono hk) h
      · exact ePut_mono hk h
      · exact h.elim
    · exact h.elim
theorem eOps_mono {ops : List Oper} {K K' : St → Prop} (hk : ∀ S, K S → K' S) : ∀ (l : List Oper) (S : St), eOps G ops l S K → eOps G ops l S K' := by
  intro l
  induction l with
  | nil => intro S h; exact hk _ h
  | cons o r ih => intro S h; exact eGuard_mono (fun S' => ih S') h
theorem seqQ_mono {N N' : St → Prop} {Q Q' : Exit → St → Prop} (hn : ∀ S, N S → N' S) (hq : ∀ e S, Q e S → Q' e S) : ∀ e S, seqQ N Q e S → seqQ N' Q' e S := by
  intro e S h
  cases e with
  | normal => exact hn S h
  | _ => exact hq _ S h
theorem blkQ_mono {id : Nat} {Q Q' : Exit → St → Prop} (hq : ∀ e S, Q e S → Q' e S) : ∀ e S, blkQ id Q e S → blkQ id Q' e S := by
  intro e S h
  cases e with
  | exit id' => simp only [blkQ] at h ⊢; split <;> rename_i e <;> simp only [e, if_true, if_false] at h <;> exact hq _ S h
  | _ => exact hq _ S h
theorem ew_mono (code : Code) : ∀ (S : St) (Q Q' : Exit → St → Prop), (∀ e S, Q e S → Q' e S) → ew G code S Q → ew G code S Q' := by
  induction code with
  | skip => intro S Q Q' hq h; exact hq _ _ h
  | region id ops d =>
    intro S Q Q' hq h
    cases d with
    | false => exact eOps_mono (hq _) _ _ h
    | true => simp only [ew] at h ⊢; unfold eDraw at h ⊢; obtain ⟨S', h1, h2⟩ := h; exact ⟨S', h1, hq _ _ h2⟩
  | seq x y ihx ihy => intro S Q Q' hq h; exact ihx _ _ _ (seqQ_mono (fun S h => ihy _ _ _ hq h) hq) h
  | cond v x y ihx ihy =>
    intro S Q Q' hq h
    simp only [ew] at h ⊢
    split at h
    · exact bc_mono (ihx _ _ _ hq) (ihy _ _ _ hq) h
    · exact h.elim
  | block id b ih => intro S Q Q' hq h; exact ih _ _ _ (blkQ_mono hq) h
  | loop b ih =>
    intro S Q Q' hq h
    simp only [ew] at h ⊢
    unfold eLoop at h ⊢
    obtain ⟨S0, hw0, h⟩ := h
    refine ⟨S0, hw0, fun X hX => ?_⟩
    refine h X fun T hT => hX T (ih _ _ _ (seqQ_mono (fun _ h => h) hq) hT)
  | exit id => intro S Q Q' hq h; exact hq _ _ h
  | ret => intro S Q Q' hq h; exact hq _ _ h
  | label l => intro S Q Q' hq h; exact hq _ _ h
  | _ => intros; contradiction

/-- A loop, by what holds at its head, and a number that falls. -/
theorem eLoop_inv {b : Code} {Q : Exit → St → Prop} {S S0 : St} (I : St → Prop) (μ : St → Nat) (hw : Weak S S0) (h0 : I S0) (hr : ∀ S, I S → ew G b S (seqQ (fun S' => ∃ S'', Weak S' S'' ∧ I S'' ∧ μ S'' < μ S) Q)) : eLoop (ew G b) S Q := by
  unfold eLoop
  refine ⟨S0, hw, fun X hX => ?_⟩
  have key : ∀ n S, μ S = n → I S → X S := by
    intro n
    induction n using Nat.strongRecOn with
    | _ n ihn =>
      intro S hn hI
      refine hX S (ew_mono b _ _ _ (seqQ_mono (fun S' h => ?_) (fun _ _ h => h)) (hr S hI))
      obtain ⟨S'', h1, h2, h3⟩ := h
      exact ⟨S'', h1, ihn _ (hn ▸ h3) S'' rfl h2⟩
  exact key _ S0 rfl h0
/-- A loop by a state for each thing still to do; what is to do gets less. -/
theorem eLoop_dn {α : Type} {b : Code} {Q : Exit → St → Prop} {S : St} (st : α → St) (μ : α → Nat) (x : α) (hw : Weak S (st x)) (hr : ∀ x, ew G b (st x) (seqQ (fun S' => ∃ y, Weak S' (st y) ∧ μ y < μ x) Q)) : eLoop (ew G b) S Q := by
  unfold eLoop
  refine ⟨st x, hw, fun X hX => ?_⟩
  have key : ∀ n x, μ x = n → X (st x) := by
    intro n
    induction n using Nat.strongRecOn with
    | _ n ih =>
      intro x hn
      refine hX _ (ew_mono b _ _ _ (seqQ_mono (fun S' h => ?_) (fun _ _ h => h)) (hr x))
      obtain ⟨y, h1, h2⟩ := h
      exact ⟨_, h1, ih _ (hn ▸ h2) y rfl⟩
  exact key _ x rfl
/-- One round of a loop. -/
theorem eLoop_step {b : Code} {Q : Exit → St → Prop} {S : St} (h : ew G b S (seqQ (fun S' => eLoop (ew G b) S' Q) Q)) : eLoop (ew G b) S Q := by
  unfold eLoop
  refine ⟨S, .refl S, fun X hX => hX S (ew_mono b _ _ _ (seqQ_mono (fun S' h => ?_) (fun _ _ h => h)) h)⟩
  unfold eLoop at h
  obtain ⟨S'', hw, h⟩ := h
  exact ⟨S'', hw, h X hX⟩
/-- What is no more looked at is forgotten: all but the temporaries L, and the blocks from n on. -/
theorem weak_to {S S' : St} (L : List Nat) (n : Nat) (hk : Nat.ble S.k n = true) (h : (S.keep L).cut n = S') : Weak S S' :=
  .keep L (.cut n (by exact Nat.le_of_ble_eq_true hk) (by rw [h]; exact .refl _))

theorem spec_ew {fid : FuncId} {fn : Func} {code : Code} (hf : G.P.funcs[fid]? = some fn) (hn : (fn.name == "runtime.NumGoroutine") = false) (hb : fn.body = some code) {args : List AV} {Hin : List Blk} {r : AV} {Hout : List Blk} (hlen : Nat.ble args.length fn.ntmps = true)
    (h : ew G code ⟨fn.ntmps, Hin.length, initL 0 args, initH 0 Hin, Hin.length⟩ (Ret G fn Hin.length r Hout)) : Fun G fid args Hin r Hout :=
  ⟨⟨fn, hf, hn, by rw [hb]; rfl⟩, spec_of_wp hf hb (Nat.le_of_ble_eq_true hlen) (W := ew G code) (fun c S0 a w hs Q hq => ew_sound code S0 Q a w hs hq) h⟩

end Go.Aw
