/- The abstract values of an evaluator over the model's code, what they stand for in the machine's memory, and that this lasts while memory grows. The evaluator's operations that leave memory as it is, and that the machine's operations do the same. What the evaluator's steps do to memory: a new block, a store, a load. The evaluator's operations, and that the machine's operations do the same. The machine's operations do what the evaluator's do. The machine's operations do what the evaluator's do: the others. -/
import Derived.Calls
import Derived.Orders

/- The abstract values of an evaluator over the model's code, what they stand for in the machine's memory, and that this lasts while memory grows. -/
namespace Go.Aw
set_option linter.unusedVariables false

/-- A value as the evaluator sees it: a slice that nobody writes is its list of elements, each a list of cells. -/
inductive AV where
  | s (v : Value)
  | agg (cs : List AV)
  | tup (vs : List AV)
  | sl (nn : Bool) (sz : Nat) (es : List (List AV))
  | e (nl : Bool)
  | loc (l sz off len : Nat)
  | ptr (l i off : Nat)
  | rp (n : Nat) (cs : List AV)
  | fn (f : Nat) (caps : List AV)
  | bad
  deriving Inhabited

/-- A block that the evaluated code may write (or has frozen): its elements. 'cl': no cell of them leads to such a block. -/
structure Blk where
  wr : Bool
  cl : Bool
  sz : Nat
  es : List (List AV)

def notAgg : Value → Bool
  | .agg _ => false
  | .tuple _ => false
  | _ => true

structure Pl where
  b : Nat
  o : Nat
  sz : Nat

abbrev Pm := Nat → Option Pl
def noPm : Pm := fun _ => none

def Shape (w : World) (b n : Nat) : Prop := ∃ cs T fz, w.heap[b]? = some (.cells cs T fz) ∧ n ≤ cs.size

inductive Rep (w : World) (M : Nat → Prop) : Pm → AV → Value → Prop
  | s (φ : Pm) (v : Value) : Rep w M φ (.s v) v
  | agg (φ : Pm) (cs : List AV) (vl : List Value) (hl : vl.length = cs.length) (h : ∀ i, i < cs.length → Rep w M φ (cs.getD i .bad) (vl.getD i undef)) :
      Rep w M φ (.agg cs) (.agg ⟨vl⟩)
  | tup (φ : Pm) (cs : List AV) (vl : List Value) (hl : vl.length = cs.length) (h : ∀ i, i < cs.length → Rep w M φ (cs.getD i .bad) (vl.getD i undef)) :
      Rep w M φ (.tup cs) (.tuple ⟨vl⟩)
  | sl (φ : Pm) (nn : Bool) (sz : Nat) (es : List (List AV)) (a : Option Addr) (n cap : Nat) (mem : Nat → Nat → Value)
      (hn : n = es.length) (hc : n ≤ cap) (hnn : (nn = true → es = [] → cap = 0) ∧ ∀ i j, i < es.length → j < sz → notAgg (mem i j) = true) (hz : ∀ e ∈ es, e.length = sz)
      (ha : es ≠ [] → ∃ b o, a = some ⟨b, o, none⟩ ∧ ¬ M b ∧ b < w.heap.size ∧ ∀ i j, i < es.length → j < sz → w.cell? ⟨b, o + i * sz + j, none⟩ = some (mem i j))
      (h : ∀ i j, i < es.length → j < sz → Rep w M noPm ((es.getD i []).getD j .bad) (mem i j)) :
      Rep w M φ (.sl nn sz es) (.slice a n cap)
  | e (φ : Pm) (nl : Bool) (a : Option Addr) (h : a.isNone = nl) : Rep w M φ (.e nl) (.slice a 0 0)
  | loc (φ : Pm) (l sz off len cap : Nat) (p : Pl) (hp : φ l = some p) (hz : p.sz = sz) (hc : len ≤ cap) (hs : Shape w p.b (p.o + (off + cap) * sz)) :
      Rep w M φ (.loc l sz off len) (.slice (some ⟨p.b, p.o + off * sz, none⟩) len cap)
  | ptr (φ : Pm) (l i off : Nat) (p : Pl) (hp : φ l = some p) : Rep w M φ (.ptr l i off) (.pointer (some ⟨p.b, p.o + i * p.sz + off, none⟩))
  | rp (φ : Pm) (n : Nat) (cs : List AV) (b o : Nat) (hn : cs.length = n) (mem : Nat → Value) (hM : ¬ M b) (hb : b < w.heap.size)
      (ha : ∀ j, j < cs.length → w.cell? ⟨b, o + j, none⟩ = some (mem j))
      (h : ∀ j, j < cs.length → Rep w M noPm (cs.getD j .bad) (mem j)) :
      Rep w M φ (.rp n cs) (.pointer (some ⟨b, o, none⟩))
  | fn (φ : Pm) (f : Nat) (cs : List AV) (vl : List Value) (hl : vl.length = cs.length) (h : ∀ i, i < cs.length → Rep w M φ (cs.getD i .bad) (vl.getD i undef)) :
      Rep w M φ (.fn f cs) (.func (.func f) #[] ⟨vl⟩)
  | bad (φ : Pm) (v : Value) : Rep w M φ .bad v

/-- Memory has grown: old blocks keep their shapes, and their cells where M does not let them be written. -/
structure WExt (M : Nat → Prop) (w w' : World) : Prop where
  size : w.heap.size ≤ w'.heap.size
  same : ∀ b, b < w.heap.size → ¬ M b → w'.heap[b]? = w.heap[b]?
  shape : ∀ b n, Shape w b n → Shape w' b n

theorem WExt.refl (M : Nat → Prop) (w : World) : WExt M w w := ⟨Nat.le_refl _, fun _ _ _ => rfl, fun _ _ h => h⟩

theorem WExt.cell {M : Nat → Prop} {w w' : World} (h : WExt M w w') {b : Nat} (hb : b < w.heap.size) (hM : ¬ M b) (o : Nat) :
    w'.cell? ⟨b, o, none⟩ = w.cell? ⟨b, o, none⟩ := by
  unfold World.cell?
  simp only [h.same b hb hM]

def PExt (φ φ' : Pm) : Prop := ∀ l p, φ l = some p → φ' l = some p
theorem PExt.refl (φ : Pm) : PExt φ φ := fun _ _ h => h
theorem PExt.trans {a b c : Pm} (h : PExt a b) (k : PExt b c) : PExt a c := fun l p e => k l p (h l p e)
theorem PExt.no (φ : Pm) : PExt noPm φ := fun _ _ h => by cases h

theorem Rep.mono {w w' : World} {M M' : Nat → Prop} (hw : WExt M w w') (hM : ∀ b, b < w.heap.size → M' b → M b) {φ : Pm} {v : AV} {x : Value}
    (h : Rep w M φ v x) : ∀ {φ' : Pm}, PExt φ φ' → Rep w' M' φ' v x := by
  induction h with
  | s φ v => intro φ' _; exact .s _ _
  | agg φ cs vl hl _ ih => intro φ' hp; exact .agg _ _ _ hl fun i hi => ih i hi hp
  | tup φ cs vl hl _ ih => intro φ' hp; exact .tup _ _ _ hl fun i hi => ih i hi hp
  | sl φ nn sz es a n cap mem hn hc hnn hz ha _ ih =>
    intro φ' hp
    refine .sl _ nn sz es a n cap mem hn hc hnn hz (fun hne => ?_) fun i j hi hj => ih i j hi hj (.refl _)
    obtain ⟨b, o, rfl, hMb, hb, hcell⟩ := ha hne
    exact ⟨b, o, rfl, fun h' => hMb (hM b hb h'), Nat.lt_of_lt_of_le hb hw.size, fun i j hi hj => (hw.cell hb hMb _).trans (hcell i j hi hj)⟩
  | e φ nl a h => intro φ' _; exact .e _ _ _ h
  | loc φ l sz off len cap p hp hz hc hs => intro φ' hpe; exact .loc _ _ _ _ _ _ p (hpe _ _ hp) hz hc (hw.shape _ _ hs)
  | ptr φ l i off p hp => intro φ' hpe; exact .ptr _ _ _ _ p (hpe _ _ hp)
  | rp φ n cs b o hn mem hMb hb ha _ ih =>
    intro φ' _
    exact .rp _ n cs b o hn mem (fun h' => hMb (hM b hb h')) (Nat.lt_of_lt_of_le hb hw.size) (fun j hj => (hw.cell hb hMb _).trans (ha j hj)) fun j hj => ih j hj (.refl _)
  | fn φ f cs vl hl _ ih => intro φ' hp; exact .fn _ _ _ _ hl fun i hi => ih i hi hp
  | bad φ v => intro φ' _; exact .bad _ _

/-- What is known of the blocks that the code may name. -/
structure BlkOk (w : World) (M : Nat → Prop) (φ : Pm) (l : Nat) (k : Blk) : Prop where
  out : ∃ b o cs T, φ l = some ⟨b, o, k.sz⟩ ∧ w.heap[b]? = some (.cells cs T (0, 0)) ∧ (o + k.es.length * k.sz ≤ cs.size ∧ ∀ i j, i < k.es.length → j < k.sz → notAgg (cs.toList.getD (o + i * k.sz + j) undef) = true) ∧ (∀ e ∈ k.es, e.length = k.sz) ∧
    (∀ i j, i < k.es.length → j < k.sz → Rep w M (if k.cl then noPm else φ) ((k.es.getD i []).getD j .bad) (cs.toList.getD (o + i * k.sz + j) undef)) ∧ (k.wr = true ↔ M b)

abbrev Hp := Nat → Option Blk
structure HRel (w : World) (M : Nat → Prop) (φ : Pm) (h : Hp) : Prop where
  ok : ∀ l k, h l = some k → BlkOk w M φ l k
  inj : ∀ l l' k k' p p', h l = some k → h l' = some k' → φ l = some p → φ l' = some p' → p.b = p'.b → l = l'
  lt : ∀ l p, φ l = some p → p.b < w.heap.size

/-- The evaluated frame: its temporaries that are known, its blocks. -/
structure St where
  n : Nat
  k : Nat
  sl : List (Nat × AV)
  hp : List (Nat × Blk)
  nx : Nat

def aget {α : Type} (t : Nat) : List (Nat × α) → Option α
  | [] => none
  | (k, v) :: r => if t = k then some v else aget t r
def aset {α : Type} (t : Nat) (x : α) : List (Nat × α) → List (Nat × α)
  | [] => [(t, x)]
  | (k, v) :: r => if t = k then (t, x) :: r else if t < k then (t, x) :: (k, v) :: r else (k, v) :: aset t x r
theorem aget_aset {α : Type} (t u : Nat) (x : α) (l : List (Nat × α)) : aget u (aset t x l) = if u = t then some x else aget u l := by
  induction l with
  | nil => simp only [aset, aget]
  | cons p r ih =>
    obtain ⟨k, v⟩ := p
    simp only [aset]
    by_cases h : t = k
    · subst h; simp only [if_true, aget]; by_cases e : u = t <;> simp [e]
    · rw [if_neg h]
      by_cases h2 : t < k
      · rw [if_pos h2]; simp only [aget]
      · rw [if_neg h2]; simp only [aget, ih]
        by_cases e : u = k
        · subst e; simp [Ne.symm h]
        · simp [e]

def St.get (S : St) (t : Nat) : AV := (aget t S.sl).getD .bad
def St.put (S : St) (d : Option Nat) (v : AV) : St := match d with | some d => { S with sl := aset d v S.sl } | none => S
def St.blk (S : St) (l : Nat) : Option Blk := aget l S.hp
def St.setBlk (S : St) (l : Nat) (k : Blk) : St := { S with hp := aset l k S.hp }
def St.eval (S : St) : Operand → AV
  | .tmp t => S.get t
  | .const v => .s v
  | .global g => .s (.pointer (some ⟨g, 0, none⟩))
  | .func f => .fn f []

theorem St.get_put (S : St) (d : Nat) (v : AV) (t : Nat) : (S.put (some d) v).get t = if t = d then v else S.get t := by
  simp only [St.get, St.put, aget_aset]; split <;> simp

structure Rel (w : World) (M : Nat → Prop) (φ : Pm) (S : St) (a : Act) : Prop where
  n : a.tmps.size = S.n
  defers : a.defers = []
  slot : ∀ t, Rep w M φ (S.get t) (a.tmps.getD t undef)
  heap : HRel w M φ S.blk

theorem Rel.eval {w : World} {M : Nat → Prop} {φ : Pm} {S : St} {a : Act} (h : Rel w M φ S a) (x : Operand) : Rep w M φ (S.eval x) (a.eval x) := by
  cases x with
  | tmp t => exact h.slot t
  | const v => exact .s _ _
  | global g => exact .s _ _
  | func f => exact .fn _ _ _ [] rfl (by intro i hi; simp at hi)

theorem BlkOk.mono {w w' : World} {M M' : Nat → Prop} {φ φ' : Pm} {l : Nat} {k : Blk} (hw : WExt M w w') (hM : ∀ b, b < w.heap.size → (M' b ↔ M b)) (hp : PExt φ φ') (hlt : ∀ p, φ l = some p → p.b < w.heap.size)
    (hs : ∀ p, φ l = some p → w'.heap[p.b]? = w.heap[p.b]?) (h : BlkOk w M φ l k) : BlkOk w' M' φ' l k := by
  obtain ⟨b, o, cs, T, h1, h2, h3, h4, h5, h6⟩ := h.out
  exact ⟨b, o, cs, T, hp _ _ h1, (hs _ h1).trans h2, h3, h4, fun i j hi hj => (h5 i j hi hj).mono hw (fun b hb => (hM b hb).1) (by split; exact .refl _; exact hp), h6.trans (hM b (hlt _ h1)).symm⟩

end Go.Aw

/- The evaluator's operations that leave memory as it is, and that the machine's operations do the same. -/
namespace Go.Aw
set_option linter.unusedVariables false
set_option linter.unusedSimpArgs false

/-! ### Types -/
inductive TK where
  | int (k : IntKind) | bool | str | slice (e : TypeId) | struct | other
structure TI where
  k : TK
  sz : Nat
  by_ : Nat
  zero : List Value
  flds : List (Nat × Nat)
def tk : TypeDesc → TK
  | .int k => .int k
  | .bool => .bool
  | .string => .str
  | .slice e => .slice e
  | .struct _ => .struct
  | .array _ _ => .struct
  | _ => .other
def okD (P : Program) : TypeDesc → Bool
  | .array _ _ => false
  | .struct fs => fs.toList.all fun f => (P.info? f.type).isSome
  | _ => true
def tinfo (P : Program) (t : TypeId) : Option TI :=
  match P.info? t, P.underlying t with
  | some i, some d =>
    if okD P d = false then none else
    some { k := tk d, sz := i.size, by_ := i.bytes, zero := (i.zero.map (·.cells.toList)).getD [],
           flds := match d with | .struct fs => fs.toList.map (fun f => (f.offset, ((P.info? f.type).map (·.size)).getD 0)) | _ => [] }
  | _, _ => none
def TK.agg : TK → Bool
  | .struct => true
  | _ => false

structure Env where
  P : Program
  E : TypeId → Option (List IntKind)
  mixed : P.follows .mixedOrders = true
  hE : ∀ t ks, E t = some ks → ∀ (xs ys : List Int), xs.length = ks.length → ys.length = ks.length → ∀ (w : World) (x y : Operand),
    (∀ op, (eqGuard op t x y (.agg ⟨(ks.zip xs).map fun p => .int p.1 p.2⟩) (.agg ⟨(ks.zip ys).map fun p => .int p.1 p.2⟩)).run P w = .ok () w) ∧
    (Op.equal t (.agg ⟨(ks.zip xs).map fun p => .int p.1 p.2⟩) (.agg ⟨(ks.zip ys).map fun p => .int p.1 p.2⟩)).run P w = .ok (xs == ys) w

section types
variable {P : Program} {t : TypeId} {i : TI} (h : tinfo P t = some i)
include h
theorem tinfo_spec : ∃ j d, P.info? t = some j ∧ P.underlying t = some d ∧ okD P d = true ∧ i.k = tk d ∧ i.sz = j.size ∧ i.by_ = j.bytes ∧ i.zero = (j.zero.map (·.cells.toList)).getD [] ∧
    i.flds = (match d with | .struct fs => fs.toList.map (fun f => (f.offset, ((P.info? f.type).map (·.size)).getD 0)) | _ => []) := by
  unfold tinfo at h
  split at h
  · rename_i j d hj hd
    split at h
    · cases h
    · rename_i ha
      cases h
      exact ⟨j, d, hj, hd, by simpa using ha, rfl, rfl, rfl, rfl, rfl⟩
  · cases h
theorem run_sizeOf {w : World} : (sizeOf t).run P w = .ok i.sz w := by
  obtain ⟨j, d, hj, hd, _, _, hs, _⟩ := tinfo_spec h
  simp [sizeOf, typeInfo, program, Sem.run, bind, Sem.bind, pure, hj, hs]
theorem run_isAgg {w : World} : (isAgg t).run P w = .ok i.k.agg w := by
  obtain ⟨j, d, hj, hd, ha, hk, _⟩ := tinfo_spec h
  rw [hk]
  cases d <;> first | (simp [okD] at ha; done) | simp [isAgg, underlying, program, Sem.run, bind, Sem.bind, pure, hd, TK.agg, tk]
end types

theorem run_bind {P : Program} {α β : Type} (s : Sem α) (f : α → Sem β) (w : World) :
    (s >>= f).run P w = match s.run P w with | .ok a w' => (f a).run P w' | .halt h w' => .halt h w' := by
  show (s.bind f).run P w = _
  induction s generalizing w with
  | pure a => simp [Sem.bind, Sem.run]
  | load m a k ih => simp only [Sem.bind, Sem.run]; split; exact ih _ _; split; exact ih _ _; rfl
  | store m a v k ih =>
    cases v <;> simp only [Sem.bind, Sem.run] <;> first | rfl | (split; (split; rfl; exact ih _); (split; exact ih _; rfl))
  | new o k ih => simp only [Sem.bind, Sem.run]; exact ih _ _
  | shape r k ih => simp only [Sem.bind, Sem.run]; exact ih _ _
  | freeze a n k ih => simp only [Sem.bind, Sem.run]; exact ih _
  | frozen a k ih => simp only [Sem.bind, Sem.run]; exact ih _ _
  | getObj r k ih => simp only [Sem.bind, Sem.run]; split; rfl; exact ih _ _; rfl
  | setObj r o k ih => simp only [Sem.bind, Sem.run]; split; rfl; exact ih _; rfl
  | choose q k ih => simp only [Sem.bind, Sem.run]; split; exact ih _ _; exact ih _ _
  | sys c k ih => simp only [Sem.bind, Sem.run]; exact ih _ _
  | program k ih => simp only [Sem.bind, Sem.run]; exact ih _ _
  | mark m k ih => simp only [Sem.bind, Sem.run]; exact ih _
  | halt h => simp [Sem.bind, Sem.run]

theorem run_pure {P : Program} {α : Type} (a : α) (w : World) : (pure a : Sem α).run P w = .ok a w := rfl

/-! ### Numbers -/
def intOp (op : BinOp) (k : IntKind) (a b : Int) : Option Value :=
  match op with
  | .add => some (.int k (k.wrap (a + b)))
  | .sub => some (.int k (k.wrap (a - b)))
  | .mul => some (.int k (k.wrap (a * b)))
  | .quo => if b = 0 then none else some (.int k (k.wrap (a.tdiv b)))
  | .rem => if b = 0 then none else some (.int k (a.tmod b))
  | .and => some (.int k (k.wrap (BitVec.ofInt k.bits a &&& BitVec.ofInt k.bits b).toNat))
  | .or => some (.int k (k.wrap (BitVec.ofInt k.bits a ||| BitVec.ofInt k.bits b).toNat))
  | .xor => some (.int k (k.wrap (BitVec.ofInt k.bits a ^^^ BitVec.ofInt k.bits b).toNat))
  | .eql => some (.bool (a == b))
  | .neq => some (.bool (a != b))
  | .lss => some (.bool (decide (a < b)))
  | .leq => some (.bool (decide (a ≤ b)))
  | .gtr => some (.bool (decide (b < a)))
  | .geq => some (.bool (decide (b ≤ a)))
  | _ => none
def shiftOp (op : BinOp) (k : IntKind) (a b : Int) : Option Value :=
  if b < 0 then none else
  match op with
  | .shl => some (.int k (k.wrap (a * 2 ^ min b.toNat k.bits)))
  | .shr => some (.int k (a.fdiv (2 ^ min b.toNat k.bits)))
  | _ => none
def strOp (op : BinOp) (a b : ByteArray) : Option Value :=
  match op with
  | .add => if a.size + b.size < 9223372036854775808 then some (.string (a ++ b)) else none
  | .eql => some (.bool (a.toList == b.toList))
  | .neq => some (.bool (!(a.toList == b.toList)))
  | .lss => some (.bool (Op.bytesLess a.toList b.toList))
  | .leq => some (.bool (Op.bytesLess a.toList b.toList || a.toList == b.toList))
  | .gtr => some (.bool (!(Op.bytesLess a.toList b.toList || a.toList == b.toList)))
  | .geq => some (.bool (!(Op.bytesLess a.toList b.toList)))
  | _ => none
def eqInts : List IntKind → List AV → Option (List Int)
  | [], [] => some []
  | k :: ks, .s (.int k' a) :: r => if k = k' then (eqInts ks r).map (a :: ·) else none
  | _, _ => none
def isNilS : AV → Option Bool
  | .e nl => some nl
  | .sl _ _ (_ :: _) => some false
  | .loc _ _ _ _ => some false
  | _ => none
def tkOf (P : Program) (t : TypeId) : Option TK := (tinfo P t).map TI.k
theorem tkOf_spec {P : Program} {t : TypeId} {k : TK} (h : tkOf P t = some k) : ∃ d, P.underlying t = some d ∧ tk d = k := by
  unfold tkOf at h
  cases ht : tinfo P t with
  | none => rw [ht] at h; cases h
  | some i =>
    rw [ht] at h; cases h
    obtain ⟨j, d, hj, hd, ha, hk, _⟩ := tinfo_spec ht
    exact ⟨d, hd, hk.symm⟩
theorem tk_bool {d : TypeDesc} (h : tk d = .bool) : d = .bool := by cases d <;> simp_all [tk]
theorem tk_slice {d : TypeDesc} {e : TypeId} (h : tk d = .slice e) : d = .slice e := by cases d <;> simp_all [tk]
theorem run_underlying {P : Program} {w : World} {t : TypeId} {d : TypeDesc} (h : P.underlying t = some d) : (underlying t).run P w = .ok d w := by
  simp [underlying, program, Sem.run, bind, Sem.bind, pure, h]
theorem equal_bool {P : Program} {w : World} {t : TypeId} (h : P.underlying t = some .bool) (a b : Bool) : (Op.equal t (.bool a) (.bool b)).run P w = .ok (a == b) w := by
  show (Op.equalIn (9999 + 1) t _ _).run P w = _
  generalize 9999 = n
  simp only [Op.equalIn]; rw [run_bind, run_underlying h]; rfl
theorem equal_nil {P : Program} {w : World} {t e : TypeId} (h : P.underlying t = some (.slice e)) (a : Option Addr) (l c n m : Nat) : (Op.equal t (.slice a l c) (.slice none n m)).run P w = .ok a.isNone w := by
  show (Op.equalIn (9999 + 1) t _ _).run P w = _
  generalize 9999 = q
  cases a <;> (simp only [Op.equalIn]; rw [run_bind, run_underlying h]; rfl)
def isSh : BinOp → Bool
  | .shl => true
  | .shr => true
  | _ => false
def evBin (G : Env) (op : BinOp) (t : TypeId) (x y : AV) : Option AV :=
  match x, y with
  | .s (.int k a), .s (.int k' b) => if isSh op then (shiftOp op k a b).map .s else if k = k' then (intOp op k a b).map .s else none
  | .s (.string a), .s (.string b) => (strOp op a b).map .s
  | .s (.bool a), .s (.bool b) =>
    match tkOf G.P t, op with
    | some .bool, .eql => some (.s (.bool (a == b)))
    | some .bool, .neq => some (.s (.bool (!(a == b))))
    | _, _ => none
  | .agg cs, .agg ds =>
    match G.E t with
    | none => none
    | some ks =>
      match eqInts ks cs, eqInts ks ds, op with
      | some a, some b, .eql => some (.s (.bool (a == b)))
      | some a, some b, .neq => some (.s (.bool (!(a == b))))
      | _, _, _ => none
  | a, .s (.slice none _ _) =>
    match tkOf G.P t, isNilS a, op with
    | some (.slice _), some b, .eql => some (.s (.bool b))
    | some (.slice _), some b, .neq => some (.s (.bool (!b)))
    | _, _, _ => none
  | _, _ => none

theorem eqInts_spec {w : World} {M : Nat → Prop} {φ : Pm} : ∀ (ks : List IntKind) (cs : List AV) (xs : List Int) (vl : List Value), eqInts ks cs = some xs → vl.length = cs.length →
    (∀ i, i < cs.length → Rep w M φ (cs.getD i .bad) (vl.getD i undef)) → xs.length = ks.length ∧ vl = (ks.zip xs).map fun p => .int p.1 p.2 := by
  intro ks
  induction ks with
  | nil =>
    intro cs xs vl h hl _
    cases cs with
    | nil => simp only [eqInts, Option.some.injEq] at h; subst h; simp at hl; simp [hl]
    | cons => simp [eqInts] at h
  | cons k ks ih =>
    intro cs xs vl h hl hr
    cases cs with
    | nil => simp [eqInts] at h
    | cons c r =>
      match c, h with
      | .s (.int k' a), h =>
        simp only [eqInts] at h
        split at h
        · rename_i hk
          subst hk
          cases hq : eqInts ks r with
          | none => rw [hq] at h; cases h
          | some q =>
            rw [hq] at h
            cases h
            cases vl with
            | nil => simp at hl
            | cons v vl =>
              obtain ⟨h1, h2⟩ := ih r q vl hq (by simpa using hl) fun i hi => by simpa using hr (i + 1) (by simpa using hi)
              have h0 := hr 0 (by simp)
              simp only [List.getD_cons_zero] at h0
              cases h0
              exact ⟨by simp [h1], by simp [h2]⟩
        · cases h

theorem run_intOp {P : Program} {w : World} {op : BinOp} {k : IntKind} {a b : Int} {v : Value} (hs : isSh op = false) (t : TypeId) (h : intOp op k a b = some v) :
    (binOp op t (.int k a) (.int k b)).run P w = .ok v w := by
  cases op <;> simp only [isSh, intOp] at hs h <;> (try cases hs) <;> (try (split at h)) <;> (try cases h) <;>
    simp_all [binOp, Op.intArith, Op.intDiv, Op.intBits, Op.intCmp, Sem.run, pure] <;> (try rfl)
theorem run_shiftOp {P : Program} {w : World} {op : BinOp} {k k' : IntKind} {a b : Int} {v : Value} (t : TypeId) (h : shiftOp op k a b = some v) :
    (binOp op t (.int k a) (.int k' b)).run P w = .ok v w := by
  unfold shiftOp at h
  split at h
  · cases h
  · rename_i hb
    cases op <;> simp only [] at h <;> (try cases h) <;> simp [binOp, Op.shift, hb, Sem.run, pure]
theorem run_strOp {P : Program} {w : World} {op : BinOp} {a b : ByteArray} {v : Value} (t : TypeId) (h : strOp op a b = some v) :
    (binOp op t (.string a) (.string b)).run P w = .ok v w := by
  cases op <;> simp only [strOp] at h <;> (try (split at h)) <;> (try cases h) <;> simp [binOp, Op.stringOp, Sem.run, pure]
  rename_i hs
  rw [if_neg]
  · rfl
  · simp [IntKind.max, IntKind.signed, IntKind.bits]; omega

theorem run_evBin {G : Env} {w : World} {M : Nat → Prop} {φ : Pm} {op : BinOp} {t : TypeId} {x y v : AV} {a b : Value} (h : evBin G op t x y = some v)
    (hx : Rep w M φ x a) (hy : Rep w M φ y b) (ox oy : Operand) : ∃ val, (do eqGuard op t ox oy a b; binOp op t a b : Sem Value).run G.P w = .ok val w ∧ Rep w M φ v val := by
  unfold evBin at h
  split at h
  · -- numbers
    cases hx; cases hy
    rename_i k a k' b
    have hg : (eqGuard op t ox oy (.int k a) (.int k' b)).run G.P w = .ok () w := by
      unfold eqGuard; cases op <;> simp [Sem.run, pure, bind, Sem.bind]
    rw [run_bind, hg]
    split at h
    · rename_i hs
      cases hv : shiftOp op k a b with
      | none => rw [hv] at h; cases h
      | some u => rw [hv] at h; cases h; exact ⟨u, run_shiftOp t hv, .s _ _⟩
    · split at h
      · rename_i hs hk
        subst hk
        cases hv : intOp op k a b with
        | none => rw [hv] at h; cases h
        | some u => rw [hv] at h; cases h; exact ⟨u, run_intOp (by simpa using hs) t hv, .s _ _⟩
      · cases h
  · cases hx; cases hy
    rename_i a b
    have hg : (eqGuard op t ox oy (.string a) (.string b)).run G.P w = .ok () w := by
      unfold eqGuard; cases op <;> simp [Sem.run, pure, bind, Sem.bind]
    rw [run_bind, hg]
    cases hv : strOp op a b with
    | none => rw [hv] at h; cases h
    | some u => rw [hv] at h; cases h; exact ⟨u, run_strOp t hv, .s _ _⟩
  · cases hx; cases hy
    rename_i a b
    have hg : (eqGuard op t ox oy (.bool a) (.bool b)).run G.P w = .ok () w := by
      unfold eqGuard; cases op <;> simp [Sem.run, pure, bind, Sem.bind]
    rw [run_bind, hg]
    split at h
    · rename_i e; cases h
      obtain ⟨d, hd, hk⟩ := tkOf_spec e
      rw [tk_bool hk] at hd
      refine ⟨_, ?_, .s _ _⟩
      show (binOp .eql t _ _).run G.P w = _
      simp only [binOp]; rw [run_bind, equal_bool hd]; rfl
    · rename_i e; cases h
      obtain ⟨d, hd, hk⟩ := tkOf_spec e
      rw [tk_bool hk] at hd
      refine ⟨_, ?_, .s _ _⟩
      show (binOp .neq t _ _).run G.P w = _
      simp only [binOp]; rw [run_bind, equal_bool hd]; rfl
    · cases h
  · -- structs
    rename_i cs ds
    cases hE : G.E t with
    | none => rw [hE] at h; cases h
    | some ks =>
      rw [hE] at h
      cases hx with
      | agg _ _ vl hl hr =>
        cases hy with
        | agg _ _ ul hl' hr' =>
          simp only [] at h
          split at h
          · rename_i p q e1 e2
            cases h
            obtain ⟨l1, rfl⟩ := eqInts_spec ks cs p vl e1 hl hr
            obtain ⟨l2, rfl⟩ := eqInts_spec ks ds q ul e2 hl' hr'
            obtain ⟨hg, heq⟩ := G.hE t ks hE p q l1 l2 w ox oy
            refine ⟨.bool (p == q), ?_, .s _ _⟩
            rw [run_bind, hg]
            show (binOp .eql t _ _).run G.P w = _
            simp only [binOp]
            rw [run_bind, heq]; rfl
          · rename_i p q e1 e2
            cases h
            obtain ⟨l1, rfl⟩ := eqInts_spec ks cs p vl e1 hl hr
            obtain ⟨l2, rfl⟩ := eqInts_spec ks ds q ul e2 hl' hr'
            obtain ⟨hg, heq⟩ := G.hE t ks hE p q l1 l2 w ox oy
            refine ⟨.bool (!(p == q)), ?_, .s _ _⟩
            rw [run_bind, hg]
            show (binOp .neq t _ _).run G.P w = _
            simp only [binOp]
            rw [run_bind, heq]; rfl
          · cases h
  · -- slices and nil
    rename_i n c
    cases hy
    have key : ∀ bb, isNilS x = some bb → ∃ ad l cc, a = .slice ad l cc ∧ ad.isNone = bb := by
      intro bb hb
      cases hx with
      | e _ nl ad hq => simp only [isNilS, Option.some.injEq] at hb; subst hb; exact ⟨_, _, _, rfl, hq⟩
      | sl _ nn sz es ad n cap mem hn hc hnn hz ha h =>
        refine ⟨_, _, _, rfl, ?_⟩
        cases es with
        | nil => simp [isNilS] at hb
        | cons e es => simp only [isNilS, Option.some.injEq] at hb; subst hb; obtain ⟨b, o, rfl, _⟩ := ha (by simp); rfl
      | loc _ l sz off len cap p hp hz hc hs => simp only [isNilS, Option.some.injEq] at hb; subst hb; exact ⟨_, _, _, rfl, rfl⟩
      | s _ v => cases hb
      | agg => cases hb
      | tup => cases hb
      | ptr => cases hb
      | rp => cases hb
      | fn => cases hb
      | bad => cases hb
    split at h
    · rename_i e bb he hb; cases h
      obtain ⟨d, hd, hk⟩ := tkOf_spec he
      rw [tk_slice hk] at hd
      obtain ⟨ad, l, cc, rfl, hbb⟩ := key _ hb
      have hg : (eqGuard .eql t ox oy (.slice ad l cc) (.slice none n c)).run G.P w = .ok () w := by
        unfold eqGuard; simp [Sem.run, pure, bind, Sem.bind]
      refine ⟨.bool bb, ?_, .s _ _⟩
      rw [run_bind, hg]
      show (binOp .eql t _ _).run G.P w = _
      simp only [binOp]; rw [run_bind, equal_nil hd, hbb]; rfl
    · rename_i e bb he hb; cases h
      obtain ⟨d, hd, hk⟩ := tkOf_spec he
      rw [tk_slice hk] at hd
      obtain ⟨ad, l, cc, rfl, hbb⟩ := key _ hb
      have hg : (eqGuard .neq t ox oy (.slice ad l cc) (.slice none n c)).run G.P w = .ok () w := by
        unfold eqGuard; simp [Sem.run, pure, bind, Sem.bind]
      refine ⟨.bool (!bb), ?_, .s _ _⟩
      rw [run_bind, hg]
      show (binOp .neq t _ _).run G.P w = _
      simp only [binOp]; rw [run_bind, equal_nil hd, hbb]; rfl
    · cases h
  · cases h

end Go.Aw

/- What the evaluator's steps do to memory: a new block, a store, a load. -/
namespace Go.Aw
set_option linter.unusedVariables false
set_option linter.unusedSimpArgs false

def isCell : AV → Bool
  | .s (.agg _) => false
  | .s (.tuple _) => false
  | .s _ => true
  | .sl _ _ _ => true
  | .e _ => true
  | .loc _ _ _ _ => true
  | .ptr _ _ _ => true
  | .rp _ _ => true
  | .fn _ _ => true
  | _ => false
/-- Does the cell lead to no block of the evaluated code? -/
def isCl : AV → Bool
  | .s _ => true
  | .sl _ _ _ => true
  | .e _ => true
  | .rp _ _ => true
  | _ => false

section
variable {w : World} {M : Nat → Prop} {φ : Pm}
theorem Rep.notAgg {v : AV} {x : Value} (h : Rep w M φ v x) (hc : isCell v = true) : Aw.notAgg x = true := by
  cases h with
  | s _ v => cases x <;> first | rfl | simp [isCell] at hc
  | _ => first | rfl | simp [isCell] at hc
theorem Rep.toNo {v : AV} {x : Value} (h : Rep w M φ v x) (hc : isCl v = true) : Rep w M noPm v x := by
  cases h <;> first | (simp [isCl] at hc; done) | skip
  · exact .s _ _
  · exact .sl _ _ _ _ _ _ _ _ ‹_› ‹_› ‹_› ‹_› ‹_› ‹_›
  · exact .e _ _ _ ‹_›
  · exact .rp _ _ _ _ _ ‹_› _ ‹_› ‹_› ‹_› ‹_›
theorem Rep.up {v : AV} {x : Value} (h : Rep w M noPm v x) : Rep w M φ v x := h.mono (WExt.refl M w) (fun _ _ h => h) (PExt.no φ)
end

structure StepOk (w : World) (M : Nat → Prop) (φ : Pm) (w' : World) (M' : Nat → Prop) (φ' : Pm) : Prop where
  ext : WExt M w w'
  pext : PExt φ φ'
  m : ∀ b, b < w.heap.size → (M' b ↔ M b)
  frame : ∀ b, b < w.heap.size → (∀ l p, φ l = some p → p.b ≠ b) → w'.heap[b]? = w.heap[b]?
  fresh : ∀ l p, φ' l = some p → φ l = some p ∨ w.heap.size ≤ p.b
  os : w'.os = w.os
  tape : w'.tape = w.tape
  out : w'.output = w.output

theorem StepOk.refl (w : World) (M : Nat → Prop) (φ : Pm) : StepOk w M φ w M φ :=
  ⟨.refl _ _, .refl _, fun _ _ => Iff.rfl, fun _ _ _ => rfl, fun _ _ h => .inl h, rfl, rfl, rfl⟩
theorem StepOk.trans {w w1 w2 : World} {M M1 M2 : Nat → Prop} {φ φ1 φ2 : Pm} (h : StepOk w M φ w1 M1 φ1) (k : StepOk w1 M1 φ1 w2 M2 φ2) : StepOk w M φ w2 M2 φ2 where
  ext := ⟨Nat.le_trans h.ext.size k.ext.size,
    fun b hb hM => (k.ext.same b (Nat.lt_of_lt_of_le hb h.ext.size) (fun h1 => hM ((h.m b hb).1 h1))).trans (h.ext.same b hb hM),
    fun b n hs => k.ext.shape b n (h.ext.shape b n hs)⟩
  pext := h.pext.trans k.pext
  m := fun b hb => (k.m b (Nat.lt_of_lt_of_le hb h.ext.size)).trans (h.m b hb)
  frame := fun b hb hf => by
    refine (k.frame b (Nat.lt_of_lt_of_le hb h.ext.size) fun l p hp => ?_).trans (h.frame b hb hf)
    rcases h.fresh l p hp with h1 | h1
    · exact hf l p h1
    · omega
  fresh := fun l p hp => by
    rcases k.fresh l p hp with h1 | h1
    · exact h.fresh l p h1
    · exact .inr (Nat.le_trans h.ext.size h1)
  os := k.os.trans h.os
  tape := k.tape.trans h.tape
  out := k.out.trans h.out

def updP (φ : Pm) (l : Nat) (p : Pl) : Pm := fun x => if x = l then some p else φ x
def updH (h : Hp) (l : Nat) (k : Blk) : Hp := fun x => if x = l then some k else h x
def orM (M : Nat → Prop) (b : Nat) : Nat → Prop := fun x => M x ∨ x = b

theorem updP_ext {φ : Pm} {l : Nat} (p : Pl) (hl : φ l = none) : PExt φ (updP φ l p) := fun x q hq => by
  unfold updP; split
  · rename_i e; subst e; rw [hl] at hq; cases hq
  · exact hq

def pushB (w : World) (o : Obj) : World := { w with heap := w.heap.push o }
theorem pushB_get (w : World) (o : Obj) (b : Nat) (hb : b < w.heap.size) : (pushB w o).heap[b]? = w.heap[b]? := by
  simp [pushB, Array.getElem?_push, Nat.ne_of_lt hb]
theorem pushB_new (w : World) (o : Obj) : (pushB w o).heap[w.heap.size]? = some o := by simp [pushB]

theorem alloc_step {w : World} {M : Nat → Prop} {φ : Pm} {h : Hp} (HR : HRel w M φ h) {l : Nat} (hl : φ l = none) (k : Blk) (hkw : k.wr = true) (cs : Array Value) (T : TypeId)
    (hsz : k.es.length * k.sz ≤ cs.size) (hu : ∀ e ∈ k.es, e.length = k.sz) (hna : ∀ i j, i < k.es.length → j < k.sz → notAgg (cs.toList.getD (i * k.sz + j) undef) = true)
    (hc : ∀ i j, i < k.es.length → j < k.sz → Rep w M (if k.cl then noPm else φ) ((k.es.getD i []).getD j .bad) (cs.toList.getD (i * k.sz + j) undef)) :
    StepOk w M φ (pushB w (.cells cs T)) (orM M w.heap.size) (updP φ l ⟨w.heap.size, 0, k.sz⟩) ∧
    HRel (pushB w (.cells cs T)) (orM M w.heap.size) (updP φ l ⟨w.heap.size, 0, k.sz⟩) (updH h l k) := by
  have hext : WExt M w (pushB w (.cells cs T)) := by
    refine ⟨by simp [pushB], fun b hb _ => pushB_get w _ b hb, ?_⟩
    rintro b n ⟨c, U, fz, hb, hn⟩
    have : b < w.heap.size := by
      rcases Nat.lt_or_ge b w.heap.size with h | h
      · exact h
      · rw [Array.getElem?_eq_none h] at hb; cases hb
    exact ⟨c, U, fz, (pushB_get w _ b this).trans hb, hn⟩
  have hm : ∀ b, b < w.heap.size → (orM M w.heap.size b ↔ M b) := fun b hb => ⟨fun h => h.resolve_right (by omega), .inl⟩
  have hS : StepOk w M φ (pushB w (.cells cs T)) (orM M w.heap.size) (updP φ l ⟨w.heap.size, 0, k.sz⟩) := by
    refine ⟨hext, updP_ext _ hl, hm, fun b hb _ => pushB_get w _ b hb, fun x p hp => ?_, rfl, rfl, rfl⟩
    unfold updP at hp
    split at hp
    · cases hp; exact .inr (Nat.le_refl _)
    · exact .inl hp
  refine ⟨hS, ?_, ?_, ?_⟩
  · intro x q hq
    unfold updH at hq
    split at hq
    · rename_i e; subst e; cases hq
      refine ⟨w.heap.size, 0, cs, T, by simp [updP], pushB_new w _, ⟨by simpa using hsz, fun i j hi hj => by have := hna i j hi hj; rwa [Nat.zero_add]⟩, hu, fun i j hi hj => ?_, ⟨fun _ => .inr rfl, fun _ => hkw⟩⟩
      have := (hc i j hi hj).mono hext (fun b hb h => (hm b hb).1 h) (φ' := if k.cl then noPm else updP φ x ⟨w.heap.size, 0, k.sz⟩) (by split; exact .refl _; exact updP_ext _ hl)
      simpa using this
    · exact (HR.ok x q hq).mono hext hm (updP_ext _ hl) (fun p hp => HR.lt x p hp) fun p hp => pushB_get w _ _ (HR.lt x p hp)
  · intro x y kx ky px py hx hy hpx hpy hb
    unfold updH at hx hy
    unfold updP at hpx hpy
    split at hx <;> split at hy
    · rename_i e1 e2; exact e1.trans e2.symm
    · rename_i e1 e2; rw [if_pos e1] at hpx; rw [if_neg e2] at hpy; cases hpx; have := HR.lt y py hpy; simp at hb; omega
    · rename_i e1 e2; rw [if_neg e1] at hpx; rw [if_pos e2] at hpy; cases hpy; have := HR.lt x px hpx; simp at hb; omega
    · rename_i e1 e2; rw [if_neg e1] at hpx; rw [if_neg e2] at hpy; exact HR.inj x y kx ky px py hx hy hpx hpy hb
  · intro x p hp
    unfold updP at hp
    split at hp
    · cases hp; simp [pushB]
    · have := HR.lt x p hp; simp [pushB]; omega

/-! ### Stores -/
def wrA (cs : Array Value) (o : Nat) : List Value → Array Value
  | [] => cs
  | v :: r => wrA (cs.setIfInBounds o v) (o + 1) r
theorem wrA_size (vs : List Value) : ∀ (cs : Array Value) (o : Nat), (wrA cs o vs).size = cs.size := by
  induction vs with
  | nil => intro cs o; rfl
  | cons v r ih => intro cs o; simp [wrA, ih]
theorem wrA_get (vs : List Value) : ∀ (cs : Array Value) (o k : Nat), o + vs.length ≤ cs.size → (wrA cs o vs).toList.getD k undef = if o ≤ k ∧ k < o + vs.length then vs.getD (k - o) undef else cs.toList.getD k undef := by
  induction vs with
  | nil => intro cs o k _; simp [wrA]; intro h1 h2; omega
  | cons v r ih =>
    intro cs o k h
    simp only [List.length_cons] at h
    rw [wrA, ih _ _ _ (by simp; omega)]
    by_cases h1 : k = o
    · subst h1
      rw [if_neg (by omega), if_pos (by simp)]
      simp [List.getD_eq_getElem?_getD, show k < cs.size by omega]
    · by_cases h2 : o + 1 ≤ k ∧ k < o + 1 + r.length
      · rw [if_pos h2, if_pos (by simp; omega)]
        have : k - o = (k - (o + 1)) + 1 := by omega
        rw [this, List.getD_cons_succ]
      · rw [if_neg h2, if_neg (by simp; omega)]
        simp [List.getD_eq_getElem?_getD, List.getElem?_set, Ne.symm h1]

def setB (w : World) (b : Nat) (o : Obj) : World := { w with heap := w.heap.setIfInBounds b o }

theorem run_storeCells {P : Program} {b o : Nat} {T : TypeId} (vs : List Value) : ∀ (w : World) (cs : Array Value) (i : Nat), w.heap[b]? = some (.cells cs T (0, 0)) → o + i + vs.length ≤ cs.size →
    (∀ v ∈ vs, notAgg v = true) → (storeCells ⟨b, o, none⟩ vs i).run P w = .ok () (if vs = [] then w else setB w b (.cells (wrA cs (o + i) vs) T (0, 0))) := by
  induction vs with
  | nil => intro w cs i hb hn hv; simp [storeCells, run_pure]
  | cons v r ih =>
    intro w cs i hb hn hv
    simp only [List.length_cons] at hn
    have hadd : (⟨b, o, none⟩ : Addr).add i = ⟨b, o + i, none⟩ := by unfold Addr.add; split <;> simp_all
    have hcell : w.cell? ⟨b, o + i, none⟩ = some (cs[o + i]'(by omega)) := by
      simp [World.cell?, hb, show o + i < cs.size by omega]
    have hfz : w.frozen? ⟨b, o + i, none⟩ = false := by simp [World.frozen?, hb]
    have hlt : b < w.heap.size := by
      rcases Nat.lt_or_ge b w.heap.size with h | h
      · exact h
      · rw [Array.getElem?_eq_none h] at hb; cases hb
    have hset : w.setCell ⟨b, o + i, none⟩ v = setB w b (.cells (cs.setIfInBounds (o + i) v) T (0, 0)) := by
      unfold World.setCell setB
      congr 1
      apply Array.ext
      · simp
      · intro j h1 h2
        rw [Array.getElem_modify]
        simp only [Array.getElem_setIfInBounds, Array.size_modify]
        split
        · rename_i e; subst e
          have : w.heap[b] = .cells cs T (0, 0) := by rw [Array.getElem?_eq_getElem hlt] at hb; exact Option.some.inj hb
          simp [this]
        · rename_i e; grind
    have hst : (store ⟨b, o + i, none⟩ v).run P w = .ok () (setB w b (.cells (cs.setIfInBounds (o + i) v) T (0, 0))) := by
      have hv0 := hv v (by simp)
      unfold store
      cases v <;> first | (simp [notAgg] at hv0; done) | (simp only [Sem.run, hcell, hfz, hset]; rfl)
    simp only [storeCells]
    rw [hadd, run_bind, hst]
    simp only []
    rw [ih _ (cs.setIfInBounds (o + i) v) (i + 1) (by simp [setB, hlt]) (by simp; omega) (fun x hx => hv x (by simp [hx]))]
    simp only [List.cons_ne_nil, if_false]
    split
    · rename_i e; subst e; simp [wrA]
    · simp [setB, wrA, Nat.add_assoc]

/-- Cells of one block are written; it is l's. -/
theorem write_step {w : World} {M : Nat → Prop} {φ : Pm} {h : Hp} (HR : HRel w M φ h) {l : Nat} {k : Blk} (hk : h l = some k) (hw : k.wr = true) {b o : Nat} {cs : Array Value} {T : TypeId}
    (hp : φ l = some ⟨b, o, k.sz⟩) (hb : w.heap[b]? = some (.cells cs T (0, 0))) (cs' : Array Value) (hsz : cs'.size = cs.size) (k' : Blk) (hw' : k'.wr = true) (hs' : k'.sz = k.sz)
    (hlen : o + k'.es.length * k.sz ≤ cs.size) (hu : ∀ e ∈ k'.es, e.length = k.sz) (hna : ∀ i j, i < k'.es.length → j < k.sz → notAgg (cs'.toList.getD (o + i * k.sz + j) undef) = true)
    (hc : ∀ i j, i < k'.es.length → j < k.sz → Rep w M (if k'.cl then noPm else φ) ((k'.es.getD i []).getD j .bad) (cs'.toList.getD (o + i * k.sz + j) undef)) :
    StepOk w M φ (setB w b (.cells cs' T (0, 0))) M φ ∧ HRel (setB w b (.cells cs' T (0, 0))) M φ (updH h l k') := by
  have hlt : b < w.heap.size := HR.lt l _ hp
  have hMb : M b := by
    obtain ⟨b', o', cs0, T0, h1, h2, h3, h4, h5, h6⟩ := (HR.ok l k hk).out
    rw [hp] at h1; cases h1; exact h6.1 hw
  have hget : ∀ c, c ≠ b → (setB w b (.cells cs' T (0, 0))).heap[c]? = w.heap[c]? := fun c hc => by
    simp [setB, Array.getElem?_setIfInBounds, Ne.symm hc]
  have hself : (setB w b (.cells cs' T (0, 0))).heap[b]? = some (.cells cs' T (0, 0)) := by simp [setB, hlt]
  have hext : WExt M w (setB w b (.cells cs' T (0, 0))) := by
    refine ⟨by simp [setB], fun c hc hM => hget c (fun e => hM (e ▸ hMb)), ?_⟩
    rintro c n ⟨c0, U, fz, hc0, hn⟩
    by_cases e : c = b
    · subst e; rw [hb] at hc0; cases hc0; exact ⟨cs', T, _, hself, by omega⟩
    · exact ⟨c0, U, fz, (hget c e).trans hc0, hn⟩
  refine ⟨⟨hext, .refl _, fun _ _ => Iff.rfl, fun c hc hf => hget c (Ne.symm (hf l _ hp)), fun _ _ h => .inl h, rfl, rfl, rfl⟩, ?_, ?_, ?_⟩
  · intro x q hq
    unfold updH at hq
    split at hq
    · rename_i e; subst e; cases hq
      refine ⟨b, o, cs', T, by rw [hp, hs'], hself, ⟨by rw [hs', hsz]; exact hlen, by rw [hs']; exact hna⟩, by rw [hs']; exact hu, fun i j hi hj => ?_, ⟨fun _ => hMb, fun _ => hw'⟩⟩
      rw [hs'] at hj ⊢
      exact (hc i j hi hj).mono hext (fun _ _ h => h) (.refl _)
    · rename_i e
      refine (HR.ok x q hq).mono hext (fun _ _ => Iff.rfl) (.refl _) (fun p hpx => HR.lt x p hpx) fun p hpx => hget _ fun eb => e (HR.inj x l q k p _ hq hk hpx hp eb)
  · intro x y kx ky px py hx hy hpx hpy hbb
    unfold updH at hx hy
    have hx' : ∃ q, h x = some q := by split at hx; (rename_i e; exact ⟨k, e ▸ hk⟩); exact ⟨kx, hx⟩
    have hy' : ∃ q, h y = some q := by split at hy; (rename_i e; exact ⟨k, e ▸ hk⟩); exact ⟨ky, hy⟩
    obtain ⟨qx, hqx⟩ := hx'; obtain ⟨qy, hqy⟩ := hy'
    exact HR.inj x y qx qy px py hqx hqy hpx hpy hbb
  · intro x p hpx; have := HR.lt x p hpx; simpa [setB] using this

theorem run_loadCells {P : Program} {w : World} {b o : Nat} (mem : Nat → Value) : ∀ (n i : Nat) (acc : Array Value), (∀ j, j < n → w.cell? ⟨b, o + (i + j), none⟩ = some (mem (i + j))) →
    (loadCellsFrom ⟨b, o, none⟩ i n acc).run P w = .ok (acc ++ ((List.range n).map fun j => mem (i + j)).toArray) w := by
  intro n
  induction n with
  | zero => intro i acc _; simp [loadCellsFrom, run_pure]
  | succ n ih =>
    intro i acc h
    have hadd : (⟨b, o, none⟩ : Addr).add i = ⟨b, o + i, none⟩ := by unfold Addr.add; split <;> simp_all
    have h0 := h 0 (by omega)
    simp only [Nat.add_zero] at h0
    have hl : (load ⟨b, o + i, none⟩).run P w = .ok (mem i) w := by simp [load, Sem.run, h0]
    simp only [loadCellsFrom]
    rw [hadd, run_bind, hl]
    simp only []
    rw [ih (i + 1) (acc.push (mem i)) (fun j hj => by have := h (j + 1) (by omega); rwa [show i + (j + 1) = i + 1 + j by omega] at this)]
    congr 1
    rw [List.range_succ_eq_map]
    simp [List.map_map, Function.comp_def, Nat.add_comm, Nat.add_left_comm]

theorem getD_map_range (n : Nat) (f : Nat → Value) (i : Nat) (h : i < n) : ((List.range n).map f).getD i undef = f i := by
  simp [List.getD_eq_getElem?_getD, h]

/-- A variable is read whose cells are known. -/
theorem run_loadVar {P : Program} {w : World} {M : Nat → Prop} {φ : Pm} {t : TypeId} {i : TI} (ht : tinfo P t = some i) {b o : Nat} (cs : List AV) (mem : Nat → Value)
    (hcell : ∀ j, j < cs.length → w.cell? ⟨b, o + j, none⟩ = some (mem j)) (hr : ∀ j, j < cs.length → Rep w M φ (cs.getD j .bad) (mem j)) (v : AV)
    (hv : (if i.k.agg then (if i.sz ≤ cs.length then some (.agg (if i.sz = cs.length then cs else cs.take i.sz)) else none) else (if 0 < cs.length then some (cs.getD 0 .bad) else none)) = some v) :
    ∃ val, (loadVar t ⟨b, o, none⟩).run P w = .ok val w ∧ Rep w M φ v val := by
  unfold loadVar
  rw [run_bind, run_isAgg ht]
  simp only []
  split at hv
  · rename_i ha
    split at hv
    · rename_i hle
      cases hv
      rw [if_pos ha, run_bind, run_sizeOf ht]
      simp only [loadCells]
      rw [run_bind, run_loadCells mem i.sz 0 #[] (fun j hj => by simpa using hcell j (by omega))]
      refine ⟨_, rfl, ?_⟩
      simp only [Nat.zero_add, Array.empty_append]
      split
      · rename_i e
        refine .agg _ _ ((List.range i.sz).map mem) (by simp [e]) fun j hj => ?_
        rw [getD_map_range _ _ _ (by omega)]; exact hr j hj
      · refine .agg _ _ ((List.range i.sz).map mem) (by simp; omega) fun j hj => ?_
        simp only [List.length_take] at hj
        rw [getD_map_range _ _ _ (by omega)]
        have := hr j (by omega)
        simpa [List.getD_eq_getElem?_getD, List.getElem?_take, show j < i.sz by omega] using this
    · cases hv
  · rename_i ha
    split at hv
    · rename_i hle
      cases hv
      rw [if_neg (by simpa using ha)]
      have h0 := hcell 0 hle
      simp only [Nat.add_zero] at h0
      exact ⟨mem 0, by simp [load, Sem.run, h0], hr 0 hle⟩
    · cases hv

end Go.Aw

/- The evaluator's operations, and that the machine's operations do the same. -/
namespace Go.Aw
set_option linter.unusedVariables false
set_option linter.unusedSimpArgs false

structure Out where
  v : AV
  ins : List (Nat × Blk)
  rd : List Nat
  nx : Nat

def zAV : Value → AV
  | .slice none 0 0 => .e true
  | v => .s v
def acells : AV → Option (List AV)
  | .agg cs => some cs
  | .s (.agg _) => none
  | .s (.tuple _) => none
  | .s v => some [.s v]
  | .tup _ => none
  | .bad => none
  | v => some [v]
def okCells (cs : List AV) : Bool := cs.all isCell
def allCl (cs : List AV) : Bool := cs.all isCl
def spl (off sz : Nat) (cells row : List AV) : List AV := if off = 0 ∧ cells.length = sz then cells else row.take off ++ cells ++ row.drop (off + cells.length)
def fillA (flds : List (Nat × Nat)) (cells : List AV) : List (Nat × AV) → Option (List AV)
  | [] => some cells
  | (i, v) :: rest =>
    match flds[i]?, acells v with
    | some (off, size), some cs => if cs.length = size ∧ off + size ≤ cells.length ∧ okCells cs then fillA flds (cells.take off ++ cs ++ cells.drop (off + size)) rest else none
    | _, _ => none
def fillS (sz : Nat) (es : List (List AV)) : List (Nat × AV) → Option (List (List AV))
  | [] => some es
  | (i, v) :: rest =>
    match acells v with
    | some cs => if cs.length = sz ∧ i < es.length ∧ okCells cs then fillS sz (es.set i cs) rest else none
    | _ => none
def loadC (ti : TI) (n : Nat) (cs : List AV) : Option AV :=
  if ti.k.agg then (if ti.sz ≤ n then some (.agg (if ti.sz = n then cs else cs.take ti.sz)) else none) else (if 0 < n then some (cs.getD 0 .bad) else none)

def po (v : AV) (nx : Nat) : Option Out := some ⟨v, [], [], nx⟩

def evAlloc (G : Env) (t : TypeId) (nx : Nat) : Option Out :=
  match tinfo G.P t with
  | some ti => if 0 < ti.sz ∧ ti.zero.length = ti.sz ∧ ti.zero.all notAgg = true then some ⟨.ptr nx 0 0, [(nx, ⟨true, true, ti.sz, [ti.zero.map zAV]⟩)], [], nx + 1⟩ else none
  | none => none
def evBox (x : AV) (nx : Nat) : Option Out :=
  match acells x with
  | some cs => if okCells cs = true then some ⟨.ptr nx 0 0, [(nx, ⟨true, allCl cs, cs.length, [cs]⟩)], [], nx + 1⟩ else none
  | none => none
def evBuild (G : Env) (t : TypeId) (parts : List (Nat × AV)) (nx : Nat) : Option Out :=
  match tinfo G.P t with
  | some ti => match ti.k with
    | .struct => if 0 < ti.sz ∧ ti.zero.length = ti.sz then (match fillA ti.flds (ti.zero.map zAV) parts with | some cs => po (.agg cs) nx | none => none) else none
    | _ => none
  | none => none
def evBuildSlice (G : Env) (t : TypeId) (len : Nat) (parts : List (Nat × AV)) (nx : Nat) : Option Out :=
  match tkOf G.P t with
  | some (.slice e) => match tinfo G.P e with
    | some ti => if 0 < ti.sz ∧ ti.zero.length = ti.sz ∧ len * ti.sz ≤ 16777216 ∧ ti.zero.all notAgg = true then
        (match fillS ti.sz (List.replicate len (ti.zero.map zAV)) parts with
         | some es => some ⟨.loc nx ti.sz 0 len, [(nx, ⟨true, es.all allCl, ti.sz, es⟩)], [], nx + 1⟩
         | none => none) else none
    | none => none
  | _ => none
def evLoad (G : Env) (t : TypeId) (x : AV) (h : Hp) (nx : Nat) : Option Out :=
  match tinfo G.P t with
  | some ti => match x with
    | .rp n cs => match loadC ti n cs with | some v => po v nx | none => none
    | .ptr l i off => match h l with
      | some k => if i < k.es.length ∧ off ≤ k.sz then
          (match loadC ti (k.sz - off) (if off = 0 then k.es.getD i [] else (k.es.getD i []).drop off) with | some v => some ⟨v, [], [l], nx⟩ | none => none) else none
      | none => none
    | _ => none
  | none => none
def evStore (G : Env) (t : TypeId) (x y : AV) (h : Hp) (nx : Nat) : Option Out :=
  match tinfo G.P t, x, acells y with
  | some ti, .ptr l i off, some cs => match h l with
    | some k => if k.wr = true ∧ cs.length = ti.sz ∧ 0 < ti.sz ∧ off + cs.length ≤ k.sz ∧ i < k.es.length ∧ okCells cs = true then
        some ⟨.bad, [(l, ⟨k.wr, k.cl && allCl cs, k.sz, k.es.set i (spl off k.sz cs (k.es.getD i []))⟩)], [l], nx⟩ else none
    | none => none
  | _, _, _ => none
def evUn (op : UnOp) (x : AV) : Option AV :=
  match op, x with
  | .not, .s (.bool b) => some (.s (.bool (!b)))
  | .neg, .s (.int k n) => (intOp .sub k 0 n).map .s
  | .xor, .s (.int k n) => (intOp .xor k (if k.signed then -1 else k.max) n).map .s
  | _, _ => none
def evConv (G : Env) (src dst : TypeId) (x : AV) : Option AV :=
  match tkOf G.P src, tkOf G.P dst, x with
  | some _, some (.int k), .s (.int _ n) => some (.s (.int k (k.wrap n)))
  | some _, some .str, .s (.string s) => some (.s (.string s))
  | _, _, _ => none
def evMakeSlice (G : Env) (t : TypeId) (x y : AV) (nx : Nat) : Option Out :=
  match tkOf G.P t, x, y with
  | some (.slice e), .s (.int _ l), .s (.int _ c) => match tinfo G.P e with
    | some ti => if 0 ≤ l ∧ l ≤ c ∧ c * ti.by_ ≤ 140737488355328 ∧ 0 < ti.by_ ∧ 0 < ti.sz ∧ ti.zero.length = ti.sz ∧ ti.zero.all notAgg = true then
        some ⟨.loc nx ti.sz 0 l.toNat, [(nx, ⟨true, true, ti.sz, List.replicate l.toNat (ti.zero.map zAV)⟩)], [], nx + 1⟩ else none
    | none => none
  | _, _, _ => none
def bnd (x : Option AV) (d : Nat) : Option Nat :=
  match x with
  | none => some d
  | some (.s (.int _ i)) => if 0 ≤ i then some i.toNat else none
  | _ => none
def evSlice (G : Env) (t : TypeId) (x : AV) (lo hi mx : Option AV) : Option AV :=
  match tkOf G.P t with
  | some .str => match x, mx with
    | .s (.string s), none => match bnd lo 0, bnd hi s.size with
      | some l, some r => if l ≤ r ∧ r ≤ s.size then some (.s (.string (s.extract l r))) else none
      | _, _ => none
    | _, _ => none
  | some (.slice e) => match tinfo G.P e with
    | some ti => match x, mx with
      | .sl nn sz es, none => match bnd lo 0, bnd hi es.length with
        | some l, some r => if l ≤ r ∧ r ≤ es.length ∧ sz = ti.sz then some (.sl false sz (if l = 0 then (if r = es.length then es else es.take r) else (if r = es.length then es.drop l else (es.take r).drop l))) else none
        | _, _ => none
      | .loc b sz off len, none => match bnd lo 0, bnd hi len with
        | some l, some r => if l ≤ r ∧ r ≤ len ∧ sz = ti.sz then some (if l < len ∨ l = 0 then .loc b sz (off + l) (r - l) else .sl false sz []) else none
        | _, _ => none
      | .e nl, none => match bnd lo 0, bnd hi 0 with
        | some l, some r => if l = 0 ∧ r = 0 then some (.e nl) else none
        | _, _ => none
      | .sl nn sz es, some m => match bnd lo 0, hi.bind fun q => bnd (some q) 0, bnd (some m) 0 with
        | some 0, some 0, some 0 => some (.sl true sz [])
        | _, _, _ => none
      | .loc b sz off len, some m => match bnd lo 0, hi.bind fun q => bnd (some q) 0, bnd (some m) 0 with
        | some 0, some 0, some 0 => some (.e false)
        | _, _, _ => none
      | _, _ => none
    | none => none
  | _ => none
def evFieldAddr (G : Env) (t : TypeId) (x : AV) (f : Nat) : Option AV :=
  match tinfo G.P t with
  | some ti => match ti.k, ti.flds[f]? with
    | .struct, some (off, size) => if 0 < size then (match x with
        | .rp n cs => if off ≤ n then some (.rp (n - off) (if off = 0 then cs else cs.drop off)) else none
        | .ptr l i o => some (.ptr l i (o + off))
        | _ => none) else none
    | _, _ => none
  | none => none
def evField (G : Env) (t : TypeId) (ft : TypeId) (x : AV) (f : Nat) : Option AV := none
def evIndexAddr (G : Env) (t : TypeId) (x y : AV) : Option AV :=
  match tkOf G.P t, y with
  | some (.slice e), .s (.int _ i) => match tinfo G.P e with
    | some ti => match x with
      | .sl _ sz es => if 0 ≤ i ∧ i < es.length ∧ sz = ti.sz then some (.rp sz (es.getD i.toNat [])) else none
      | .loc l sz off len => if 0 ≤ i ∧ i < len ∧ sz = ti.sz then some (.ptr l (off + i.toNat) 0) else none
      | _ => none
    | none => none
  | _, _ => none
def byteAt (s : ByteArray) (i : Int) : Int := ((s.data.toList.getD i.toNat 0).toNat : Int)
def evIndex (G : Env) (t : TypeId) (x y : AV) : Option AV :=
  match tkOf G.P t, x, y with
  | some .str, .s (.string s), .s (.int _ i) => if 0 ≤ i ∧ i < s.size then some (.s (.int .u8 (byteAt s i))) else none
  | _, _, _ => none
def evExtract (x : AV) (i : Nat) : Option AV :=
  match x with
  | .tup vs => if i < vs.length then some (vs.getD i .bad) else none
  | _ => none
def evLen (G : Env) (t : TypeId) (x : AV) : Option AV :=
  match tkOf G.P t, x with
  | some .str, .s (.string s) => some (.s (.int .i64 s.size))
  | some (.slice _), .sl _ _ es => some (.s (.int .i64 es.length))
  | some (.slice _), .loc _ _ _ len => some (.s (.int .i64 len))
  | some (.slice _), .e _ => some (.s (.int .i64 0))
  | _, _ => none
def maxI : Int → List AV → Option Int
  | x, [] => some x
  | x, .s (.int _ y) :: r => maxI (if y > x then y else x) r
  | _, _ => none
def minI : Int → List AV → Option Int
  | x, [] => some x
  | x, .s (.int _ y) :: r => minI (if y < x then y else x) r
  | _, _ => none
def evMM (mx : Bool) (xs : List AV) : Option AV :=
  match xs with
  | .s (.int k x) :: r => ((if mx then maxI x r else minI x r)).map fun z => .s (.int k z)
  | _ => none

def evOp (G : Env) (op : Op) (ρ : Operand → AV) (h : Hp) (nx : Nat) : Option Out :=
  match op with
  | .move x => po (ρ x) nx
  | .assign x => po (ρ x) nx
  | .pick c a b => match ρ c with | .s (.bool t) => po (if t then ρ a else ρ b) nx | _ => none
  | .alloc t => evAlloc G t nx
  | .box t x => evBox (ρ x) nx
  | .build t ps => evBuild G t (ps.toList.map fun p => (p.1, ρ p.2)) nx
  | .buildSlice t n ps => evBuildSlice G t n (ps.toList.map fun p => (p.1, ρ p.2)) nx
  | .load t x => evLoad G t (ρ x) h nx
  | .store t x y => evStore G t (ρ x) (ρ y) h nx
  | .nilCheck x => match ρ x with | .ptr l i o => po (.ptr l i o) nx | .rp n cs => po (.rp n cs) nx | .fn f cs => po (.fn f cs) nx | _ => none
  | .binOp op t x y _ => (evBin G op t (ρ x) (ρ y)).bind (po · nx)
  | .unOp op _ x => (evUn op (ρ x)).bind (po · nx)
  | .convert s d x => (evConv G s d (ρ x)).bind (po · nx)
  | .makeFunc (.func f) first cap => if first.size = 0 then po (.fn f (cap.toList.map ρ)) nx else none
  | .makeSlice t l c => evMakeSlice G t (ρ l) (ρ c) nx
  | .slice t x lo hi mx => (evSlice G t (ρ x) (lo.map ρ) (hi.map ρ) (mx.map ρ)).bind (po · nx)
  | .fieldAddr t x f => (evFieldAddr G t (ρ x) f).bind (po · nx)
  | .indexAddr t x i => (evIndexAddr G t (ρ x) (ρ i)).bind (po · nx)
  | .index t x i => (evIndex G t (ρ x) (ρ i)).bind (po · nx)
  | .extract x i => (evExtract (ρ x) i).bind (po · nx)
  | .call ⟨.builtin .len, args, ts⟩ => match args[0]?, ts[0]? with | some x, some t => (evLen G t (ρ x)).bind (po · nx) | _, _ => none
  | .call ⟨.builtin .max, args, ts⟩ => (evMM true (args.toList.map ρ)).bind (po · nx)
  | .call ⟨.builtin .min, args, ts⟩ => (evMM false (args.toList.map ρ)).bind (po · nx)
  | _ => none

end Go.Aw

/- The machine's operations do what the evaluator's do. -/
namespace Go.Aw
set_option linter.unusedVariables false
set_option linter.unusedSimpArgs false

def insH (h : Hp) : List (Nat × Blk) → Hp
  | [] => h
  | (l, k) :: r => insH (updH h l k) r

/-- What an operation that runs to a value must show. -/
def Ran (P : Program) (s : Sem Value) (w : World) (M : Nat → Prop) (φ : Pm) (h : Hp) (v : AV) (ins : List (Nat × Blk)) : Prop :=
  ∃ val w' M' φ', s.run P w = .ok val w' ∧ StepOk w M φ w' M' φ' ∧ HRel w' M' φ' (insH h ins) ∧ Rep w' M' φ' v val ∧ (∀ l, φ' l ≠ none → φ l ≠ none ∨ l ∈ ins.map (·.1))

variable {G : Env} {w : World} {M : Nat → Prop} {φ : Pm} {h : Hp}

theorem Ran.same {s : Sem Value} {v : AV} {val : Value} (HR : HRel w M φ h) (hs : s.run G.P w = .ok val w) (hv : Rep w M φ v val) : Ran G.P s w M φ h v [] :=
  ⟨val, w, M, φ, hs, .refl _ _ _, HR, hv, fun _ h => .inl h⟩

theorem rep_zAV (v : Value) : Rep w M noPm (zAV v) v := by
  unfold zAV
  split
  · exact .e _ _ _ rfl
  · exact .s _ _

theorem getD_map_zAV (l : List Value) (j : Nat) (hj : j < l.length) : (l.map zAV).getD j .bad = zAV (l.getD j undef) := by
  simp [List.getD_eq_getElem?_getD, hj]

theorem rep_cells {v : AV} {x : Value} {cs : List AV} (hr : Rep w M φ v x) (hc : acells v = some cs) :
    x.cells.toList.length = cs.length ∧ ∀ j, j < cs.length → Rep w M φ (cs.getD j .bad) (x.cells.toList.getD j undef) := by
  cases hr with
  | agg _ cs' vl hl hh => simp only [acells, Option.some.injEq] at hc; subst hc; exact ⟨hl, hh⟩
  | s _ x =>
    cases x <;> simp only [acells, Option.some.injEq, reduceCtorEq] at hc <;> subst hc <;>
      exact ⟨rfl, fun j hj => by simp at hj; subst hj; exact .s _ _⟩
  | tup => simp [acells] at hc
  | bad => simp [acells] at hc
  | sl _ nn sz es a n cap mem hn hcp hnn hz ha hh =>
    simp only [acells, Option.some.injEq] at hc; subst hc
    exact ⟨rfl, fun j hj => by simp at hj; subst hj; exact .sl _ _ _ _ _ _ _ mem hn hcp hnn hz ha hh⟩
  | e _ nl a hh => simp only [acells, Option.some.injEq] at hc; subst hc; exact ⟨rfl, fun j hj => by simp at hj; subst hj; exact .e _ _ _ hh⟩
  | loc _ l sz off len cap p hp hz hcc hs => simp only [acells, Option.some.injEq] at hc; subst hc; exact ⟨rfl, fun j hj => by simp at hj; subst hj; exact .loc _ _ _ _ _ _ p hp hz hcc hs⟩
  | ptr _ l i off p hp => simp only [acells, Option.some.injEq] at hc; subst hc; exact ⟨rfl, fun j hj => by simp at hj; subst hj; exact .ptr _ _ _ _ p hp⟩
  | rp _ n cs' b o hn mem hM hb ha hh => simp only [acells, Option.some.injEq] at hc; subst hc; exact ⟨rfl, fun j hj => by simp at hj; subst hj; exact .rp _ _ _ _ _ hn mem hM hb ha hh⟩
  | fn _ f cs' vl hl hh => simp only [acells, Option.some.injEq] at hc; subst hc; exact ⟨rfl, fun j hj => by simp at hj; subst hj; exact .fn _ _ _ _ hl hh⟩

theorem getD_mem {α : Type} {l : List α} {i : Nat} (d : α) (h : i < l.length) : l.getD i d ∈ l := by
  simp [List.getD_eq_getElem?_getD, h]

theorem rep_cl {cs : List AV} {xs : List Value} (hc : allCl cs = true) (hr : ∀ j, j < cs.length → Rep w M φ (cs.getD j .bad) (xs.getD j undef)) (j : Nat) (hj : j < cs.length) :
    Rep w M noPm (cs.getD j .bad) (xs.getD j undef) :=
  (hr j hj).toNo (List.all_eq_true.1 hc _ (getD_mem _ hj))

theorem run_newVar {P : Program} {t : TypeId} (v : Value) : (newVar t v).run P w = .ok ⟨w.heap.size, 0, none⟩ (pushB w (.cells v.cells t)) := by
  simp [newVar, newRow, newObj, Sem.run, bind, Sem.bind, pure, pushB]

theorem dom_upd {φ : Pm} {nx : Nat} {p : Pl} {k : Blk} : ∀ l, updP φ nx p l ≠ none → φ l ≠ none ∨ l ∈ [(nx, k)].map (·.1) := by
  intro l hl
  unfold updP at hl
  split at hl
  · right; simp [*]
  · exact .inl hl
/-- A new block of one element. -/
theorem ran_newVar (HR : HRel w M φ h) {nx : Nat} (hn : φ nx = none) {s : Sem Value} {x : Value} {t : TypeId} (cs : List AV) (cl : Bool) (hl : x.cells.toList.length = cs.length) (hna : ∀ j, j < cs.length → notAgg (x.cells.toList.getD j undef) = true)
    (hr : ∀ j, j < cs.length → Rep w M (if cl then noPm else φ) (cs.getD j .bad) (x.cells.toList.getD j undef))
    (hs : s.run G.P w = .ok (.pointer (some ⟨w.heap.size, 0, none⟩)) (pushB w (.cells x.cells t))) : Ran G.P s w M φ h (.ptr nx 0 0) [(nx, ⟨true, cl, cs.length, [cs]⟩)] := by
  obtain ⟨h1, h2⟩ := alloc_step HR hn ⟨true, cl, cs.length, [cs]⟩ rfl x.cells t (by simp at hl ⊢; omega) (by simp) (fun i j hi hj => by simp at hi; subst hi; simpa using hna j hj) (fun i j hi hj => by
    simp at hi; subst hi; simpa using hr j hj)
  refine ⟨_, _, _, _, hs, h1, h2, ?_, dom_upd⟩
  have := Rep.ptr (w := pushB w (.cells x.cells t)) (M := orM M w.heap.size) (updP φ nx ⟨w.heap.size, 0, cs.length⟩) nx 0 0 ⟨w.heap.size, 0, cs.length⟩ (by simp [updP])
  simpa using this

theorem tinfo_zero {P : Program} {t : TypeId} {ti : TI} (ht : tinfo P t = some ti) (hz : 0 < ti.sz) (hl : ti.zero.length = ti.sz) :
    ∃ z, (zeroValue t).run P w = .ok z w ∧ z.cells.toList = ti.zero := by
  obtain ⟨j, d, hj, hd, ha, hk, hs, hb, hzr, _⟩ := tinfo_spec ht
  cases hzo : j.zero with
  | none => rw [hzr, hzo] at hl; simp at hl; omega
  | some z => exact ⟨z, by simp [zeroValue, typeInfo, program, Sem.run, bind, Sem.bind, pure, hj, hzo], by rw [hzr, hzo]; rfl⟩

theorem ran_alloc {t : TypeId} {nx : Nat} {out : Out} (hev : evAlloc G t nx = some out) (HR : HRel w M φ h) (hn : ∀ l k, (l, k) ∈ out.ins → l ∉ out.rd → φ l = none) :
    Ran G.P (Instr.alloc t true (.tuple #[])) w M φ h out.v out.ins := by
  unfold evAlloc at hev
  split at hev
  · rename_i ti ht
    split at hev
    · rename_i hc
      cases hev
      obtain ⟨z, hz, hzl⟩ := tinfo_zero (w := w) ht hc.1 hc.2.1
      have hf := hn nx _ (List.mem_singleton.2 rfl) (by simp)
      have := ran_newVar (G := G) HR hf (s := Instr.alloc t true (.tuple #[])) (x := z) (t := t) (ti.zero.map zAV) true (by rw [hzl]; simp) (fun j hj => by rw [hzl]; simp only [List.length_map] at hj; exact List.all_eq_true.1 hc.2.2 _ (getD_mem _ hj))
        (fun j hj => by simp only [List.length_map] at hj; rw [getD_map_zAV _ _ hj, hzl]; exact rep_zAV _)
        (by unfold Instr.alloc; rw [run_bind, hz]; simp only []; rw [run_bind, run_newVar]; rfl)
      simpa [hc.2.1] using this
    · cases hev
  · cases hev

theorem ran_box {t : TypeId} {nx : Nat} {out : Out} {x : AV} {a : Value} (hev : evBox x nx = some out) (hx : Rep w M φ x a) (HR : HRel w M φ h) (hn : ∀ l k, (l, k) ∈ out.ins → l ∉ out.rd → φ l = none) :
    Ran G.P (Instr.box t a) w M φ h out.v out.ins := by
  unfold evBox at hev
  split at hev
  · rename_i cs hc
    split at hev
    rotate_left
    · cases hev
    rename_i hok
    cases hev
    obtain ⟨hl, hr⟩ := rep_cells hx hc
    have hf := hn nx _ (List.mem_singleton.2 rfl) (by simp)
    refine ran_newVar HR hf cs (allCl cs) hl (fun j hj => (hr j hj).notAgg (List.all_eq_true.1 hok _ (getD_mem _ hj))) (fun j hj => ?_) (t := t) (by unfold Instr.box; rw [run_bind, run_newVar]; rfl)
    split
    · exact rep_cl ‹_› hr j hj
    · exact hr j hj
  · cases hev

theorem arr_get (cs : Array Value) (q : Nat) (h : q < cs.size) : cs[q]? = some (cs.toList.getD q undef) := by
  simp [List.getD_eq_getElem?_getD, h]
theorem list_get (l : List Value) (q : Nat) (h : q < l.length) : l[q] = l.getD q undef := by
  simp [List.getD_eq_getElem?_getD, h]
theorem addr_plain (b o i : Nat) : (⟨b, o, none⟩ : Addr).add i = ⟨b, o + i, none⟩ := by unfold Addr.add; split <;> simp_all

theorem run_load {t : TypeId} {x : AV} {a : Value} {nx : Nat} {out : Out} {h' : Hp} (hev : evLoad G t x h' nx = some out) (hx : Rep w M φ x a) (HR : HRel w M φ h) (hrd : ∀ l ∈ out.rd, h l = h' l) :
    out.ins = [] ∧ ∃ val, (Instr.loadAt t a).run G.P w = .ok val w ∧ Rep w M φ out.v val := by
  unfold evLoad at hev
  split at hev
  · rename_i ti ht
    split at hev
    · rename_i n cs
      split at hev
      · rename_i v hv
        cases hev
        cases hx with
        | rp _ _ _ b o hn mem hM hb ha hh =>
          obtain ⟨val, h1, h2⟩ := run_loadVar (φ := noPm) ht cs mem ha hh v (by unfold loadC at hv; rw [hn]; exact hv)
          exact ⟨rfl, val, by unfold Instr.loadAt Instr.sureAddr; rw [run_bind, run_pure]; exact h1, h2.up⟩
      · cases hev
    · rename_i l i off
      split at hev
      · rename_i k hk
        split at hev
        · rename_i hc
          split at hev
          · rename_i v hv
            cases hev
            have hkk : h l = some k := by rw [hrd l (by simp)]; exact hk
            obtain ⟨b, o, cs, T, h1, h2, h3, h4, h5, h6⟩ := (HR.ok l k hkk).out
            cases hx with
            | ptr _ _ _ _ p hp =>
              rw [h1] at hp; cases hp
              have hlen : (k.es.getD i []).length = k.sz := h4 _ (getD_mem _ hc.1)
              have hmul : i * k.sz + k.sz ≤ k.es.length * k.sz := by
                have := Nat.mul_le_mul_right k.sz (show i + 1 ≤ k.es.length by omega)
                rw [Nat.add_mul, Nat.one_mul] at this; exact this
              have hrow : (if off = 0 then k.es.getD i [] else (k.es.getD i []).drop off) = (k.es.getD i []).drop off := by
                split
                · rename_i e; rw [e]; rfl
                · rfl
              rw [hrow] at hv
              obtain ⟨val, h7, h8⟩ := run_loadVar (P := G.P) (w := w) (M := M) (φ := if k.cl then noPm else φ) (b := b) (o := o + i * k.sz + off) ht ((k.es.getD i []).drop off) (fun j => cs.toList.getD (o + i * k.sz + (off + j)) undef)
                (fun j hj => by
                  simp only [List.length_drop, hlen] at hj
                  have : o + i * k.sz + off + j < cs.size := by omega
                  simp only [World.cell?, h2, Option.isSome_none, Bool.false_eq_true, if_false]
                  rw [arr_get _ _ this, Nat.add_assoc])
                (fun j hj => by
                  simp only [List.length_drop, hlen] at hj
                  have := h5 i (off + j) hc.1 (by omega)
                  simpa [List.getD_eq_getElem?_getD, Nat.add_assoc] using this)
                v (by unfold loadC at hv; rw [List.length_drop, hlen]; exact hv)
              refine ⟨rfl, val, by unfold Instr.loadAt Instr.sureAddr; rw [run_bind, run_pure]; exact h7, ?_⟩
              split at h8
              · exact h8.up
              · exact h8
          · cases hev
        · cases hev
      · cases hev
    · cases hev
  · cases hev

theorem ran_load {t : TypeId} {x : AV} {a : Value} {nx : Nat} {out : Out} {h' : Hp} (hev : evLoad G t x h' nx = some out) (hx : Rep w M φ x a) (HR : HRel w M φ h) (hrd : ∀ l ∈ out.rd, h l = h' l) :
    Ran G.P (Instr.loadAt t a) w M φ h out.v out.ins := by
  obtain ⟨h1, val, h2, h3⟩ := run_load hev hx HR hrd
  rw [h1]; exact .same HR h2 h3

theorem spl_len {off sz : Nat} {cs row : List AV} (hr : row.length = sz) (hc : off + cs.length ≤ sz) : (spl off sz cs row).length = sz := by
  unfold spl
  split
  · rename_i e; exact e.2
  · simp; omega
theorem spl_get {off sz : Nat} {cs row : List AV} (hr : row.length = sz) (hc : off + cs.length ≤ sz) (j : Nat) (hj : j < sz) :
    (spl off sz cs row).getD j .bad = if off ≤ j ∧ j < off + cs.length then cs.getD (j - off) .bad else row.getD j .bad := by
  unfold spl
  split
  · rename_i e; rw [if_pos (by omega), e.1]; simp
  · simp only [List.getD_eq_getElem?_getD]
    by_cases h1 : j < off
    · rw [if_neg (by omega), List.append_assoc, List.getElem?_append_left (by simp; omega), List.getElem?_take, if_pos h1]
    · by_cases h2 : j < off + cs.length
      · rw [if_pos (by omega), List.append_assoc, List.getElem?_append_right (by simp; omega), List.getElem?_append_left (by simp; omega)]
        congr 3; simp; omega
      · rw [if_neg (by omega), List.getElem?_append_right (by simp; omega), List.getElem?_drop]
        congr 2; simp; omega

theorem ran_store {t : TypeId} {x y : AV} {a b : Value} {nx : Nat} {out : Out} {h' : Hp} (hev : evStore G t x y h' nx = some out) (hx : Rep w M φ x a) (hy : Rep w M φ y b) (HR : HRel w M φ h) (hrd : ∀ l ∈ out.rd, h l = h' l) :
    ∃ w' M', (Instr.storeAt t a b).run G.P w = .ok () w' ∧ StepOk w M φ w' M' φ ∧ HRel w' M' φ (insH h out.ins) ∧ out.v = .bad := by
  unfold evStore at hev
  split at hev
  · rename_i ti l i off cs ht hcs
    split at hev
    · rename_i k hk
      split at hev
      · rename_i hc
        cases hev
        obtain ⟨hw, hlen, hz, hoff, hi, hcell⟩ := hc
        have hkk : h l = some k := by rw [hrd l (by simp)]; exact hk
        obtain ⟨bb, o, cc, T, h1, h2, h3, h4, h5, h6⟩ := (HR.ok l k hkk).out
        cases hx with
        | ptr _ _ _ _ p hp =>
          rw [h1] at hp; cases hp
          obtain ⟨hbl, hbr⟩ := rep_cells hy hcs
          have hrl : (k.es.getD i []).length = k.sz := h4 _ (getD_mem _ hi)
          have hmul : i * k.sz + k.sz ≤ k.es.length * k.sz := by
            have := Nat.mul_le_mul_right k.sz (show i + 1 ≤ k.es.length by omega)
            rw [Nat.add_mul, Nat.one_mul] at this; exact this
          have hvs : ∀ v ∈ b.cells.toList, notAgg v = true := by
            intro v hv
            obtain ⟨j, hj, rfl⟩ := List.mem_iff_getElem.1 hv
            have hj' : j < cs.length := by omega
            have := (hbr j hj').notAgg (List.all_eq_true.1 hcell _ (getD_mem _ hj'))
            rw [list_get _ _ hj]; exact this
          have hrun := run_storeCells (P := G.P) (b := bb) (o := o + i * k.sz + off) (T := T) b.cells.toList w cc 0 h2 (by omega) hvs
          have hne : b.cells.toList ≠ [] := by intro e; rw [e] at hbl; simp at hbl; omega
          rw [if_neg hne, Nat.add_zero] at hrun
          obtain ⟨hs1, hs2⟩ := write_step HR hkk hw h1 h2 (wrA cc (o + i * k.sz + off) b.cells.toList) (wrA_size _ _ _)
            ⟨k.wr, k.cl && allCl cs, k.sz, k.es.set i (spl off k.sz cs (k.es.getD i []))⟩ hw rfl (by simpa using h3.1)
            (fun e he => by
              rcases List.mem_or_eq_of_mem_set he with he | he
              · exact h4 e he
              · rw [he]; exact spl_len hrl hoff)
            (fun i' j hi' hj => by
              simp only [List.length_set] at hi'
              have hm := wrA_get b.cells.toList cc (o + i * k.sz + off) (o + i' * k.sz + j) (by omega)
              rw [hm]
              split
              · have hlt : o + i' * k.sz + j - (o + i * k.sz + off) < b.cells.toList.length := by omega
                have := hvs _ (List.getElem_mem hlt)
                rwa [list_get] at this
              · exact h3.2 i' j hi' hj)
            (fun i' j hi' hj => by
              simp only [List.length_set] at hi'
              have hgm : ∀ q, (wrA cc (o + i * k.sz + off) b.cells.toList).toList.getD q undef = if o + i * k.sz + off ≤ q ∧ q < o + i * k.sz + off + b.cells.toList.length then b.cells.toList.getD (q - (o + i * k.sz + off)) undef else cc.toList.getD q undef :=
                fun q => wrA_get _ _ _ _ (by omega)
              have hmul' : i' * k.sz + k.sz ≤ k.es.length * k.sz := by
                have := Nat.mul_le_mul_right k.sz (show i' + 1 ≤ k.es.length by omega)
                rw [Nat.add_mul, Nat.one_mul] at this; exact this
              have hm := hgm (o + i' * k.sz + j)
              simp only []
              by_cases e : i' = i
              · subst e
                have hg : (k.es.set i' (spl off k.sz cs (k.es.getD i' []))).getD i' [] = spl off k.sz cs (k.es.getD i' []) := by
                  simp [List.getD_eq_getElem?_getD, hi']
                rw [hg, spl_get hrl hoff j hj]
                by_cases hin : off ≤ j ∧ j < off + cs.length
                · rw [if_pos (by omega), show o + i' * k.sz + j - (o + i' * k.sz + off) = j - off by omega] at hm
                  rw [hm, show (if off ≤ j ∧ j < off + cs.length then cs.getD (j - off) AV.bad else (k.es.getD i' []).getD j AV.bad) = cs.getD (j - off) AV.bad from if_pos hin]
                  have hjj : j - off < cs.length := by omega
                  split
                  · rename_i hcl; simp only [Bool.and_eq_true] at hcl; exact rep_cl hcl.2 hbr _ hjj
                  · exact hbr _ hjj
                · rw [if_neg (by omega)] at hm
                  rw [hm, show (if off ≤ j ∧ j < off + cs.length then cs.getD (j - off) AV.bad else (k.es.getD i' []).getD j AV.bad) = (k.es.getD i' []).getD j AV.bad from if_neg hin]
                  have h5' := h5 i' j hi' hj
                  split
                  · rename_i hcl; simp only [Bool.and_eq_true] at hcl; rw [if_pos hcl.1] at h5'; exact h5'
                  · split at h5'
                    · exact h5'.up
                    · exact h5'
              · have hg : (k.es.set i (spl off k.sz cs (k.es.getD i []))).getD i' [] = k.es.getD i' [] := by
                  simp [List.getD_eq_getElem?_getD, List.getElem?_set, Ne.symm e]
                have hout : ¬ (o + i * k.sz + off ≤ o + i' * k.sz + j ∧ o + i' * k.sz + j < o + i * k.sz + off + b.cells.toList.length) := by
                  rcases Nat.lt_or_gt_of_ne e with hlt | hgt
                  · have := Nat.mul_le_mul_right k.sz (show i' + 1 ≤ i by omega)
                    rw [Nat.add_mul, Nat.one_mul] at this; omega
                  · have := Nat.mul_le_mul_right k.sz (show i + 1 ≤ i' by omega)
                    rw [Nat.add_mul, Nat.one_mul] at this; omega
                rw [if_neg hout] at hm
                rw [hg, hm]
                have h5' := h5 i' j hi' hj
                split
                · rename_i hcl; simp only [Bool.and_eq_true] at hcl; rw [if_pos hcl.1] at h5'; exact h5'
                · split at h5'
                  · exact h5'.up
                  · exact h5')
          refine ⟨_, _, ?_, hs1, hs2, rfl⟩
          unfold Instr.storeAt Instr.sureAddr storeVar
          rw [run_bind, run_pure]
          simp only []
          rw [run_bind, run_sizeOf ht]
          simp only []
          have : b.cells.size = ti.sz := by rw [← hlen, ← hbl]; simp
          simp only [this, ne_eq, not_true_eq_false, if_false]
          exact hrun
      · cases hev
    · cases hev
  · cases hev

end Go.Aw

/- The machine's operations do what the evaluator's do: the others. -/
namespace Go.Aw
set_option linter.unusedVariables false
set_option linter.unusedSimpArgs false

variable {G : Env} {w : World} {M : Nat → Prop} {φ : Pm} {h : Hp}

theorem run_evUn {op : UnOp} {x v : AV} {a : Value} (hev : evUn op x = some v) (hx : Rep w M φ x a) : ∃ val, (Op.unary op a).run G.P w = .ok val w ∧ Rep w M φ v val := by
  unfold evUn at hev
  split at hev
  · cases hev; cases hx; exact ⟨_, rfl, .s _ _⟩
  · cases hx
    rename_i k n
    cases hv : intOp .sub k 0 n with
    | none => rw [hv] at hev; cases hev
    | some u => rw [hv] at hev; cases hev; simp only [intOp, Option.some.injEq] at hv; subst hv; exact ⟨_, rfl, .s _ _⟩
  · cases hx
    rename_i k n
    cases hv : intOp .xor k (if k.signed then -1 else k.max) n with
    | none => rw [hv] at hev; cases hev
    | some u => rw [hv] at hev; cases hev; simp only [intOp, Option.some.injEq] at hv; subst hv; exact ⟨_, rfl, .s _ _⟩
  · cases hev

theorem run_evConv {s d : TypeId} {x v : AV} {a : Value} (hev : evConv G s d x = some v) (hx : Rep w M φ x a) : ∃ val, (convert s d a).run G.P w = .ok val w ∧ Rep w M φ v val := by
  unfold evConv at hev
  split at hev
  · rename_i k' k kk n hs hd
    cases hev; cases hx
    obtain ⟨ds, hs1, hs2⟩ := tkOf_spec hs
    obtain ⟨dd, hd1, hd2⟩ := tkOf_spec hd
    have : dd = .int k := by cases dd <;> simp_all [tk]
    subst this
    refine ⟨.int k (k.wrap n), ?_, .s _ _⟩
    unfold convert
    rw [run_bind, run_underlying hs1]; simp only []
    rw [run_bind, run_underlying hd1]; simp only []
    rfl
  · rename_i k' ss hs hd
    cases hev; cases hx
    obtain ⟨ds, hs1, hs2⟩ := tkOf_spec hs
    obtain ⟨dd, hd1, hd2⟩ := tkOf_spec hd
    have : dd = .string := by cases dd <;> simp_all [tk]
    subst this
    refine ⟨.string ss, ?_, .s _ _⟩
    unfold convert
    rw [run_bind, run_underlying hs1]; simp only []
    rw [run_bind, run_underlying hd1]; simp only []
    rfl
  · cases hev

theorem run_len {t : TypeId} {x v : AV} {a : Value} (hev : evLen G t x = some v) (hx : Rep w M φ x a) (args : Array Value) (h0 : args[0]? = some a) (ts : Array TypeId) (ht : ts[0]? = some t) (tt : TypeId) :
    ∃ val, (Builtin.len_ ts tt args).run G.P w = .ok val w ∧ Rep w M φ v val := by
  unfold evLen at hev
  unfold Builtin.len_
  rw [h0, ht]
  simp only []
  split at hev
  · rename_i s hk
    cases hev; cases hx
    obtain ⟨d, hd, hk⟩ := tkOf_spec hk
    have : d = .string := by cases d <;> simp_all [tk]
    subst this
    exact ⟨_, by rw [run_bind, run_underlying hd]; rfl, .s _ _⟩
  · rename_i e nn sz es hk
    cases hev
    obtain ⟨d, hd, hk⟩ := tkOf_spec hk
    have := tk_slice hk
    subst this
    cases hx with
    | sl _ _ _ _ a n cap mem hn =>
      subst hn
      exact ⟨_, by rw [run_bind, run_underlying hd]; rfl, .s _ _⟩
  · rename_i e l sz off len hk
    cases hev
    obtain ⟨d, hd, hk⟩ := tkOf_spec hk
    have := tk_slice hk
    subst this
    cases hx
    exact ⟨_, by rw [run_bind, run_underlying hd]; rfl, .s _ _⟩
  · rename_i e nl hk
    cases hev
    obtain ⟨d, hd, hk⟩ := tkOf_spec hk
    have := tk_slice hk
    subst this
    cases hx
    exact ⟨_, by rw [run_bind, run_underlying hd]; rfl, .s _ _⟩
  · cases hev

theorem run_maxI (k : IntKind) : ∀ (l : List AV) (vl : List Value) (x z : Int), maxI x l = some z → vl.length = l.length → (∀ i, i < l.length → Rep w M φ (l.getD i .bad) (vl.getD i undef)) →
    (vl.foldlM Builtin.max2 (.int k x)).run G.P w = .ok (.int k z) w := by
  intro l
  induction l with
  | nil => intro vl x z hz hl _; cases vl with
    | nil => simp only [maxI, Option.some.injEq] at hz; subst hz; rfl
    | cons => simp at hl
  | cons c r ih =>
    intro vl x z hz hl hr
    cases vl with
    | nil => simp at hl
    | cons v vl =>
      match c, hz with
      | .s (.int k' y), hz =>
        simp only [maxI] at hz
        have h0 := hr 0 (by simp)
        simp only [List.getD_cons_zero] at h0
        cases h0
        rw [List.foldlM_cons, run_bind]
        have hm : Sem.run G.P (Builtin.max2 (.int k x) (.int k' y)) w = .ok (.int k (if y > x then y else x)) w := rfl
        rw [hm]
        exact ih vl _ z hz (by simpa using hl) fun i hi => by simpa using hr (i + 1) (by simpa using hi)
theorem run_minI (k : IntKind) : ∀ (l : List AV) (vl : List Value) (x z : Int), minI x l = some z → vl.length = l.length → (∀ i, i < l.length → Rep w M φ (l.getD i .bad) (vl.getD i undef)) →
    (vl.foldlM Builtin.min2 (.int k x)).run G.P w = .ok (.int k z) w := by
  intro l
  induction l with
  | nil => intro vl x z hz hl _; cases vl with
    | nil => simp only [minI, Option.some.injEq] at hz; subst hz; rfl
    | cons => simp at hl
  | cons c r ih =>
    intro vl x z hz hl hr
    cases vl with
    | nil => simp at hl
    | cons v vl =>
      match c, hz with
      | .s (.int k' y), hz =>
        simp only [minI] at hz
        have h0 := hr 0 (by simp)
        simp only [List.getD_cons_zero] at h0
        cases h0
        rw [List.foldlM_cons, run_bind]
        have hm : Sem.run G.P (Builtin.min2 (.int k x) (.int k' y)) w = .ok (.int k (if y < x then y else x)) w := rfl
        rw [hm]
        exact ih vl _ z hz (by simpa using hl) fun i hi => by simpa using hr (i + 1) (by simpa using hi)

theorem run_mm {mx : Bool} {xs : List AV} {v : AV} {args : Array Value} (hev : evMM mx xs = some v) (hl : args.size = xs.length) (hr : ∀ i, i < xs.length → Rep w M φ (xs.getD i .bad) (args.toList.getD i undef)) (ts : Array TypeId) (t : TypeId) :
    ∃ val, (if mx then Builtin.max_ ts t args else Builtin.min_ ts t args).run G.P w = .ok val w ∧ Rep w M φ v val := by
  unfold evMM at hev
  split at hev
  · rename_i k x r
    obtain ⟨al⟩ := args
    cases al with
    | nil => simp at hl
    | cons a vl =>
      have h0 := hr 0 (by simp)
      simp only [List.getD_cons_zero] at h0
      cases h0
      have hl' : vl.length = r.length := by simpa using hl
      have hr' : ∀ i, i < r.length → Rep w M φ (r.getD i .bad) (vl.getD i undef) := fun i hi => by simpa using hr (i + 1) (by simpa using hi)
      cases mx with
      | true =>
        simp only [if_true] at hev ⊢
        cases hz : maxI x r with
        | none => rw [hz] at hev; cases hev
        | some z => rw [hz] at hev; cases hev; exact ⟨.int k z, run_maxI k r vl x z hz hl' hr', .s _ _⟩
      | false =>
        simp only [Bool.false_eq_true, if_false] at hev ⊢
        cases hz : minI x r with
        | none => rw [hz] at hev; cases hev
        | some z => rw [hz] at hev; cases hev; exact ⟨.int k z, run_minI k r vl x z hz hl' hr', .s _ _⟩
  · cases hev

theorem run_extract {x v : AV} {a : Value} {i : Nat} (hev : evExtract x i = some v) (hx : Rep w M φ x a) : ∃ val, (Instr.extract a i).run G.P w = .ok val w ∧ Rep w M φ v val := by
  unfold evExtract at hev
  split at hev
  · split at hev
    · rename_i vs hi
      cases hev
      cases hx with
      | tup _ _ vl hl hr =>
        refine ⟨vl.getD i undef, ?_, hr i hi⟩
        have : (⟨vl⟩ : Array Value)[i]? = some (vl.getD i undef) := by
          simp [List.getD_eq_getElem?_getD, show i < vl.length by omega]
        simp only [Instr.extract, this]; rfl
    · cases hev
  · cases hev

theorem run_index {t : TypeId} {x y v : AV} {a b : Value} (hev : evIndex G t x y = some v) (hx : Rep w M φ x a) (hy : Rep w M φ y b) : ∃ val, (Instr.index t a b).run G.P w = .ok val w ∧ Rep w M φ v val := by
  unfold evIndex at hev
  split at hev
  · rename_i s k i hk
    split at hev
    · rename_i hc
      cases hev; cases hx; cases hy
      obtain ⟨d, hd, hk⟩ := tkOf_spec hk
      have : d = .string := by cases d <;> simp_all [tk]
      subst this
      refine ⟨_, ?_, .s _ _⟩
      unfold Instr.index asIntOf
      rw [run_bind, run_pure]; simp only []
      rw [run_bind, run_underlying hd]; simp only []
      have hlt : i.toNat < s.size := by omega
      have : (if 0 ≤ i then s[i.toNat]? else none) = some (s.data.toList.getD i.toNat 0) := by
        rw [if_pos hc.1]
        simp [List.getD_eq_getElem?_getD]
        have h2 : i.toNat < s.data.size := hlt
        simp [h2, hlt]
        rfl
      rw [this]; rfl
    · cases hev
  · cases hev

theorem run_indexAddr {t : TypeId} {x y v : AV} {a b : Value} (hev : evIndexAddr G t x y = some v) (hx : Rep w M φ x a) (hy : Rep w M φ y b) : ∃ val, (Instr.indexAt t a b).run G.P w = .ok val w ∧ Rep w M φ v val := by
  unfold evIndexAddr at hev
  split at hev
  · rename_i e k i hk
    obtain ⟨d, hd, hk⟩ := tkOf_spec hk
    have := tk_slice hk
    subst this
    cases hy
    split at hev
    · rename_i ti hti
      split at hev
      · rename_i nn sz es
        split at hev
        · rename_i hc
          obtain ⟨h1, h2, rfl⟩ := hc
          cases hev
          cases hx with
          | sl _ _ _ _ a n cap mem hn hcp hnn hz ha hr =>
            subst hn
            have hi : i.toNat < es.length := by omega
            have hne : es ≠ [] := by intro e; simp [e] at hi
            obtain ⟨bb, o, rfl, hM, hb, hcell⟩ := ha hne
            refine ⟨.pointer (some ⟨bb, o + i.toNat * ti.sz, none⟩), ?_, ?_⟩
            · unfold Instr.indexAt asIntOf
              rw [run_bind, run_pure]; simp only []
              rw [run_bind, run_underlying hd]; simp only []
              rw [run_bind, run_pure]; simp only []
              rw [run_bind, run_underlying hd]; simp only []
              simp only [if_pos (show 0 ≤ i ∧ i < (es.length : Int) from ⟨h1, h2⟩)]
              rw [run_bind, run_sizeOf hti]; simp only [addr_plain]; rfl
            · refine .rp _ _ _ _ _ (hz _ (getD_mem _ hi)) (fun j => mem i.toNat j) hM hb (fun j hj => ?_) (fun j hj => ?_)
              · have hlen := hz _ (getD_mem [] hi)
                exact hcell _ _ hi (by omega)
              · have hlen := hz _ (getD_mem [] hi)
                exact hr _ _ hi (by omega)
        · cases hev
      · rename_i l sz off len
        split at hev
        · rename_i hc
          obtain ⟨h1, h2, rfl⟩ := hc
          cases hev
          cases hx with
          | loc _ _ _ _ _ cap p hp hz hcp hs =>
            refine ⟨.pointer (some ⟨p.b, p.o + off * ti.sz + i.toNat * ti.sz, none⟩), ?_, ?_⟩
            · unfold Instr.indexAt asIntOf
              rw [run_bind, run_pure]; simp only []
              rw [run_bind, run_underlying hd]; simp only []
              rw [run_bind, run_pure]; simp only []
              rw [run_bind, run_underlying hd]; simp only []
              simp only [if_pos (show 0 ≤ i ∧ i < (len : Int) from ⟨h1, h2⟩)]
              rw [run_bind, run_sizeOf hti]; simp only [addr_plain]; rfl
            · have := Rep.ptr (w := w) (M := M) φ l (off + i.toNat) 0 p hp
              rw [hz, Nat.add_mul, Nat.add_zero, ← Nat.add_assoc] at this
              exact this
        · cases hev
      · cases hev
    · cases hev
  · cases hev

theorem fld_spec {P : Program} {t : TypeId} {ti : TI} (ht : tinfo P t = some ti) (hk : ti.k = .struct) : ∃ fs, P.underlying t = some (.struct fs) ∧ (∀ f ∈ fs.toList, (P.info? f.type).isSome = true) ∧ ti.flds = fs.toList.map (fun f => (f.offset, ((P.info? f.type).map (·.size)).getD 0)) := by
  obtain ⟨j, d, hj, hd, ha, hkk, hs, hb, hzr, hf⟩ := tinfo_spec ht
  rw [hk] at hkk
  cases d with
  | struct fs => exact ⟨fs, hd, by simp only [okD, List.all_eq_true] at ha; exact ha, hf⟩
  | array n e => simp [okD] at ha
  | _ => simp [tk] at hkk

theorem run_fieldAddr {t : TypeId} {x v : AV} {a : Value} {f : Nat} (hev : evFieldAddr G t x f = some v) (hx : Rep w M φ x a) : ∃ val, (Instr.fieldAt t a f).run G.P w = .ok val w ∧ Rep w M φ v val := by
  unfold evFieldAddr at hev
  split at hev
  · rename_i ti ht
    split at hev
    · rename_i off size hk hf
      obtain ⟨fs, hd, _, hfl⟩ := fld_spec ht hk
      rw [hfl] at hf
      simp only [List.getElem?_map, Option.map_eq_some_iff, Array.getElem?_toList] at hf
      obtain ⟨fd, hfd, hfe⟩ := hf
      simp only [Prod.mk.injEq] at hfe
      obtain ⟨rfl, hsz⟩ := hfe
      split at hev
      · rename_i hpos
        have hi : ∃ j, G.P.info? fd.type = some j ∧ j.size = size := by
          cases hj : G.P.info? fd.type with
          | none => rw [hj] at hsz; simp at hsz; omega
          | some j => rw [hj] at hsz; exact ⟨j, rfl, hsz⟩
        obtain ⟨j, hj, hjs⟩ := hi
        have hrun : ∀ (b o : Nat), (Instr.fieldAt t (.pointer (some ⟨b, o, none⟩)) f).run G.P w = .ok (.pointer (some ⟨b, o + fd.offset, none⟩)) w := by
          intro b o
          unfold Instr.fieldAt
          rw [run_bind, run_underlying hd]; simp only []
          simp only [hfd]
          unfold Instr.sureAddr
          rw [run_bind, run_pure]; simp only []
          unfold fieldPlace
          rw [run_bind, run_bind]
          have : (sizeOf fd.type).run G.P w = .ok size w := by
            simp [sizeOf, typeInfo, program, Sem.run, bind, Sem.bind, pure, hj, hjs]
          rw [this]; simp only [if_neg (by omega : ¬ size = 0), run_pure, addr_plain]
        split at hev
        · rename_i n cs
          split at hev
          · rename_i hle
            cases hev
            cases hx with
            | rp _ _ _ b o hn mem hM hb ha hr =>
              refine ⟨_, hrun b o, ?_⟩
              have heq : (if fd.offset = 0 then cs else cs.drop fd.offset) = cs.drop fd.offset := by
                split
                · rename_i e; rw [e]; rfl
                · rfl
              rw [heq]
              refine .rp _ _ _ _ _ (by simp [hn]) (fun j => mem (fd.offset + j)) hM hb (fun j hj => ?_) (fun j hj => ?_)
              · simp only [List.length_drop] at hj
                rw [Nat.add_assoc]; exact ha _ (by omega)
              · simp only [List.length_drop] at hj
                have := hr (fd.offset + j) (by omega)
                simpa [List.getD_eq_getElem?_getD] using this
          · cases hev
        · rename_i l i o
          cases hev
          cases hx with
          | ptr _ _ _ _ p hp =>
            refine ⟨_, hrun _ _, ?_⟩
            have := Rep.ptr (w := w) (M := M) φ l i (o + fd.offset) p hp
            rw [← Nat.add_assoc] at this
            exact this
        · cases hev
      · cases hev
    · cases hev
  · cases hev

end Go.Aw
