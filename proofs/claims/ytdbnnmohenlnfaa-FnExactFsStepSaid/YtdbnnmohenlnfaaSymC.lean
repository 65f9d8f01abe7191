/- Abstract states, and what the operations that call nothing do to them. -/
import Derived.Test.YtdbnnmohenlnfaaSymB
import Derived.Laws.Entries
import Derived.Laws.MakeOwn
import GoSem.Dispatch
namespace Go.Sym
set_option linter.unusedVariables false
set_option linter.unusedSimpArgs false

/-- What the walk asks of the program: a table that answers by sight. -/
structure Tab where
  sz : TypeId → Option Nat
  byt : TypeId → Option Nat
  zero : TypeId → Option Value
  agg : TypeId → Option Bool
  elem : TypeId → Option TypeId
  arr : TypeId → Option (Nat × TypeId)
  str : TypeId → Bool
  field : TypeId → Nat → Option (Nat × TypeId)
  int : TypeId → Option IntKind
  bool : TypeId → Bool
  good : FuncId → Bool
  places : TypeId → Option (List (Nat × Nat))
  ptr : TypeId → Option TypeId

def goodF (P : Program) (g : FuncId) : Bool := match P.funcs[g]? with | some fn => !(fn.name == "runtime.NumGoroutine") && fn.body.isSome | none => false
def pplaces (P : Program) (t : TypeId) : Option (List (Nat × Nat)) := match P.underlying t with | some (.struct fs) => fs.toList.mapM (fun f => (P.info? f.type).map fun i => (f.offset, i.size)) | _ => none
def pfield (P : Program) (t : TypeId) (f : Nat) : Option (Nat × TypeId) := match P.underlying t with | some (.struct fs) => (fs[f]?).map fun f => (f.offset, f.type) | _ => none
/-- Is the type a struct or an array? -/
def isRow : TypeDesc → Bool
  | .struct _ | .array _ _ => true
  | _ => false

/-- The table tells the truth. -/
class Tab.Ok (T : Tab) (P : Program) : Prop where
  sz : ∀ t n, T.sz t = some n → (P.info? t).map (·.size) = some n
  byt : ∀ t n, T.byt t = some n → (P.info? t).map (·.bytes) = some n
  zero : ∀ t v, T.zero t = some v → (P.info? t).bind (·.zero) = some v
  agg : ∀ t b, T.agg t = some b → (P.underlying t).map isRow = some b
  elem : ∀ t e, T.elem t = some e → P.underlying t = some (.slice e)
  arr : ∀ t n e, T.arr t = some (n, e) → P.underlying t = some (.array n e)
  str : ∀ t, T.str t = true → P.underlying t = some .string
  field : ∀ t f o u, T.field t f = some (o, u) → pfield P t f = some (o, u)
  int : ∀ t k, T.int t = some k → P.underlying t = some (.int k)
  bool : ∀ t, T.bool t = true → P.underlying t = some .bool
  good : ∀ g, T.good g = true → goodF P g = true
  places : ∀ t l, T.places t = some l → pplaces P t = some l
  ptr : ∀ t e, T.ptr t = some e → P.underlying t = some (.pointer e)

section
variable {T : Tab} {P : Program} [hT : T.Ok P]
include hT
theorem telem_some {t e : TypeId} (h : T.elem t = some e) : P.underlying t = some (.slice e) := hT.elem _ _ h
theorem tarr_some {t e : TypeId} {n : Nat} (h : T.arr t = some (n, e)) : P.underlying t = some (.array n e) := hT.arr _ _ _ h
theorem tstr_some {t : TypeId} (h : T.str t = true) : P.underlying t = some .string := hT.str _ h
theorem tfield_some {t u : TypeId} {f o : Nat} (h : T.field t f = some (o, u)) : ∃ fs fl, P.underlying t = some (.struct fs) ∧ fs[f]? = some fl ∧ fl.offset = o ∧ fl.type = u := by
  have h := hT.field _ _ _ _ h
  unfold pfield at h
  split at h
  · rename_i fs hu
    cases hf : fs[f]? with
    | none => simp [hf] at h
    | some fl => simp [hf] at h; exact ⟨fs, fl, hu, hf, h.1, h.2⟩
  · cases h

theorem run_sizeOf {t : TypeId} {n : Nat} (h : T.sz t = some n) (w : World) : (sizeOf t).run P w = .ok n w := by
  have h := hT.sz _ _ h
  cases hi : P.info? t with
  | none => simp [hi] at h
  | some i => simp [hi] at h; simp [sizeOf, typeInfo, hi, h]
theorem run_isAgg {t : TypeId} {b : Bool} (h : T.agg t = some b) (w : World) : (isAgg t).run P w = .ok b w := by
  have h := hT.agg _ _ h
  cases hu : P.underlying t with
  | none => simp [hu] at h
  | some d =>
    unfold isAgg
    rw [Sem.run_bind, run_underlying hu]
    cases d <;> simp_all [isRow]
theorem run_zeroValue {t : TypeId} {z : Value} (h : T.zero t = some z) (w : World) : (zeroValue t).run P w = .ok z w := by
  have h := hT.zero _ _ h
  cases hi : P.info? t with
  | none => simp [hi] at h
  | some i => simp [hi] at h; simp [zeroValue, typeInfo, hi, h]
end

/-- A side condition of a step. -/
structure Side (p : Prop) : Prop where
  out : p
/-- The ways through a test. -/
structure Br (b : Bool) (x y : Prop) : Prop where
  yes : b = true → x
  no : b = false → y

structure St where
  ts : List (Nat × V)
  hs : Hp

def cvC : Value → V
  | .slice _ 0 0 => .nil
  | .agg _ | .tuple _ => .un
  | v => .sc v
def cv : Value → V
  | .agg cs => .agg (cs.toList.map cvC)
  | v => cvC v
def ev (st : St) : Operand → V
  | .tmp t => lkV st.ts t
  | .const v => cv v
  | .global _ => .un
  | .func f => .fn f []

structure Abs (G : Nat → Prop) (L : Beta) (w0 : World) (N : Nat) (st : St) (a : Act) (w : World) (β : Beta) : Prop where
  hr : HR G L w0 w β st.hs
  tmp : ∀ n, OKW G L w0 w β (lkV st.ts n) (a.tmps.getD n undef)
  size : a.tmps.size = N
  defers : a.defers = []

theorem VRel.cvC (ok : Nat → Prop) (w : World) (β : Beta) (v : Value) : VRel ok w β (cvC v) v := by
  unfold Sym.cvC
  split
  · exact .nil
  · exact .un
  · exact .un
  · rename_i h1 h2 h3
    refine .sc ?_
    cases v <;> simp_all [Value.oneCell']
theorem VRel.cv (ok : Nat → Prop) (w : World) (β : Beta) (v : Value) : VRel ok w β (cv v) v := by
  unfold Sym.cv
  split
  · refine .agg (by simp) fun i hi => ?_
    rename_i cs
    simp at hi
    have : ((cs.toList.map Sym.cvC).getD i .un) = Sym.cvC (cs.getD i undef) := by simp [hi]
    rw [this]
    exact .cvC _ _ _ _
  · exact .cvC _ _ _ _

section
variable {P : Program} {G : Nat → Prop} {L : Beta} {w0 w : World} {N : Nat} {st : St} {a : Act} {β : Beta}

theorem Abs.ev (h : Abs G L w0 N st a w β) (x : Operand) : OKW G L w0 w β (ev st x) (a.eval x) := by
  cases x with
  | tmp t => exact h.tmp t
  | const v => exact .cv _ _ _ _
  | global g => exact .un
  | func f => exact .fn (by simp) (fun i hi => by simp at hi)

/-- An operation gives a value and a world that the abstract value and state tell. -/
def Step (X : Bool) (P : Program) (G : Nat → Prop) (L : Beta) (w0 : World) (N : Nat) (e : Sem Next) (a : Act) (w : World) (K : V → St → Prop) : Prop :=
  ∃ x w', (e.run P w = .ok (.value x) w' ∨ (e.run P w = .ok .skip w' ∧ x = undef)) ∧ (X = true → Ext w w') ∧ ∃ v st' β', K v st' ∧ Abs G L w0 N st' a w' β' ∧ OKW G L w0 w' β' v x
/-- An operation that only looks: its value is the same in every world that has more. -/
def StepP (P : Program) (G : Nat → Prop) (L : Beta) (w0 w : World) (β : Beta) (e : Sem Next) (K : V → Prop) : Prop :=
  ∃ x v, K v ∧ OKW G L w0 w β v x ∧ ∀ w', Ext w w' → e.run P w' = .ok (.value x) w'
theorem StepP.mk {e : Sem Next} {K : V → Prop} {x : Value} {v : V} (he : ∀ w', Ext w w' → e.run P w' = .ok (.value x) w') (hv : OKW G L w0 w β v x) (hk : K v) : StepP P G L w0 w β e K := ⟨x, v, hk, hv, he⟩
theorem StepP.step {X : Bool} {e : Sem Next} {K : V → St → Prop} (hs : StepP P G L w0 w β e fun v => K v st) (h : Abs G L w0 N st a w β) : Step X P G L w0 N e a w K := by
  obtain ⟨x, v, hk, hv, he⟩ := hs
  exact ⟨x, w, .inl (he w (Ext.refl w)), fun _ => Ext.refl w, v, st, β, hk, h, hv⟩

theorem Step.pure {X : Bool} {e : Sem Next} {K : V → St → Prop} {x : Value} {v : V} (h : Abs G L w0 N st a w β) (he : e.run P w = .ok (.value x) w) (hv : OKW G L w0 w β v x) (hk : K v st) : Step X P G L w0 N e a w K :=
  ⟨x, w, .inl he, fun _ => Ext.refl w, v, st, β, hk, h, hv⟩

/-- What an operation with a value runs. -/
theorem run_v {e : Sem Value} {x : Value} {w w' : World} (h : e.run P w = .ok x w') : (do let y ← e; Pure.pure (Next.value y) : Sem Next).run P w = .ok (.value x) w' := by
  rw [Sem.run_bind, h]; rfl

/-! ### Numbers, bools, strings -/
def intK (op : BinOp) (k : IntKind) (x y : Int) (K : V → Prop) : Prop :=
  match op with
  | .add => K (.sc (.int k (k.wrap (x + y))))
  | .sub => K (.sc (.int k (k.wrap (x - y))))
  | .mul => K (.sc (.int k (k.wrap (x * y))))
  | .quo => Side (y ≠ 0) ∧ K (.sc (.int k (k.wrap (x.tdiv y))))
  | .rem => Side (y ≠ 0) ∧ K (.sc (.int k (x.tmod y)))
  | .and => K (.sc (.int k (k.wrap (BitVec.ofInt k.bits x &&& BitVec.ofInt k.bits y).toNat)))
  | .or => K (.sc (.int k (k.wrap (BitVec.ofInt k.bits x ||| BitVec.ofInt k.bits y).toNat)))
  | .xor => K (.sc (.int k (k.wrap (BitVec.ofInt k.bits x ^^^ BitVec.ofInt k.bits y).toNat)))
  | .andNot => K (.sc (.int k (k.wrap (BitVec.ofInt k.bits x &&& ~~~ BitVec.ofInt k.bits y).toNat)))
  | .eql => K (.sc (.bool (x == y)))
  | .neq => K (.sc (.bool (x != y)))
  | .lss => K (.sc (.bool (decide (x < y))))
  | .leq => K (.sc (.bool (decide (x ≤ y))))
  | .gtr => K (.sc (.bool (decide (x > y))))
  | .geq => K (.sc (.bool (decide (x ≥ y))))
  | _ => False
def strK (op : BinOp) (x y : ByteArray) (K : V → Prop) : Prop :=
  match op with
  | .add => Side (x.size + y.size ≤ 9223372036854775807) ∧ K (.sc (.string (x ++ y)))
  | .eql => K (.sc (.bool (x.toList == y.toList)))
  | .neq => K (.sc (.bool (!(x.toList == y.toList))))
  | .lss => K (.sc (.bool (Op.bytesLess x.toList y.toList)))
  | .leq => K (.sc (.bool (Op.bytesLess x.toList y.toList || x.toList == y.toList)))
  | .gtr => K (.sc (.bool (!(Op.bytesLess x.toList y.toList || x.toList == y.toList))))
  | .geq => K (.sc (.bool (!Op.bytesLess x.toList y.toList)))
  | _ => False
def binK (T : Tab) (op : BinOp) (t : TypeId) (x y : V) (K : V → Prop) : Prop :=
  match x, y with
  | .sc (.int k a), .sc (.int k' b) =>
    match op with
    | .shl => Side (0 ≤ b) ∧ K (.sc (.int k (k.wrap (a * 2 ^ (min b.toNat k.bits)))))
    | .shr => Side (0 ≤ b) ∧ K (.sc (.int k (a.fdiv (2 ^ (min b.toNat k.bits)))))
    | op => k = k' ∧ intK op k a b K
  | .sc (.string a), .sc (.string b) => strK op a b K
  | .sc (.bool a), .sc (.bool b) =>
    match op with
    | .eql => T.bool t = true ∧ K (.sc (.bool (a == b)))
    | .neq => T.bool t = true ∧ K (.sc (.bool (!(a == b))))
    | _ => False
  | .ptr _ _ _, .sc (.pointer none) =>
    match op with
    | .eql => (T.ptr t).isSome = true ∧ K (.sc (.bool false))
    | .neq => (T.ptr t).isSome = true ∧ K (.sc (.bool true))
    | _ => False
  | .sc (.pointer none), .sc (.pointer none) =>
    match op with
    | .eql => (T.ptr t).isSome = true ∧ K (.sc (.bool true))
    | .neq => (T.ptr t).isSome = true ∧ K (.sc (.bool false))
    | _ => False
  | _, _ => False

theorem eqGuard_int (op : BinOp) (t : TypeId) (x y : Operand) (k k' : IntKind) (a b : Int) (w : World) : (eqGuard op t x y (.int k a) (.int k' b)).run P w = .ok () w := by
  unfold eqGuard; cases op <;> rfl
theorem eqGuard_string (op : BinOp) (t : TypeId) (x y : Operand) (a b : ByteArray) (w : World) : (eqGuard op t x y (.string a) (.string b)).run P w = .ok () w := by
  unfold eqGuard; cases op <;> rfl
theorem eqGuard_bool (op : BinOp) (t : TypeId) (x y : Operand) (a b : Bool) (w : World) : (eqGuard op t x y (.bool a) (.bool b)).run P w = .ok () w := by
  unfold eqGuard; cases op <;> rfl

theorem eqGuard_ptr (op : BinOp) (t : TypeId) (x y : Operand) (a b : Option Addr) (w : World) : (eqGuard op t x y (.pointer a) (.pointer b)).run P w = .ok () w := by
  unfold eqGuard; cases op <;> rfl
theorem run_equal_ptr {t e : TypeId} (h : P.underlying t = some (.pointer e)) (a : Option Addr) (w : World) : (Op.equal t (.pointer a) (.pointer none)).run P w = .ok a.isNone w := by
  show (Op.equalIn (9999 + 1) t (.pointer a) (.pointer none)).run P w = _
  rw [Op.equalIn]
  cases a <;> simp [run_underlying h]
theorem run_equal_bool {t : TypeId} (h : P.underlying t = some .bool) (a b : Bool) (w : World) : (Op.equal t (.bool a) (.bool b)).run P w = .ok (a == b) w := by
  show (Op.equalIn (9999 + 1) t (.bool a) (.bool b)).run P w = _
  rw [Op.equalIn]
  simp [run_underlying h]

theorem binK_run {T : Tab} [hT : T.Ok P] {op : BinOp} {t ty : TypeId} {xo yo : Operand} {x y : V} {X Y : Value} {K : V → Prop} (hx : OKW G L w0 w β x X) (hy : OKW G L w0 w β y Y) (h : binK T op t x y K) :
    ∃ v z, K v ∧ (∀ w, (do eqGuard op t xo yo X Y; binOp op t X Y : Sem Value).run P w = .ok z w) ∧ v = .sc z ∧ z.oneCell' = true := by
  unfold binK at h
  split at h
  · cases hx; cases hy
    rename_i k a k' b _ _
    simp only [Sem.run_bind, eqGuard_int]
    cases op <;> simp only [intK] at h <;>
      first
        | (obtain ⟨⟨h1⟩, h2⟩ := h
           refine ⟨_, _, h2, fun w => ?_, rfl, rfl⟩
           have : ¬ b < 0 := by omega
           simp [binOp, Op.shift, this]; done)
        | (obtain ⟨rfl, ⟨h1⟩, h2⟩ := h
           refine ⟨_, _, h2, fun w => ?_, rfl, rfl⟩
           simp [binOp, Op.intDiv, h1]; done)
        | (obtain ⟨rfl, h2⟩ := h
           refine ⟨_, _, h2, fun w => ?_, rfl, rfl⟩
           simp [binOp, Op.intArith, Op.intBits, Op.intCmp]; done)
  · cases hx; cases hy
    rename_i a b _ _
    simp only [Sem.run_bind, eqGuard_string]
    cases op <;> simp only [strK] at h <;>
      first
        | (obtain ⟨⟨h1⟩, h2⟩ := h
           refine ⟨_, _, h2, fun w => ?_, rfl, rfl⟩
           have : ¬ ((a.size : Int) + b.size > 9223372036854775807) := by omega
           simp [binOp, Op.stringOp, IntKind.max, IntKind.signed, IntKind.bits, this]; done)
        | (refine ⟨_, _, h, fun w => ?_, rfl, rfl⟩
           simp [binOp, Op.stringOp]; done)
        | exact h.elim
  · cases hx; cases hy
    rename_i a b _ _
    simp only [Sem.run_bind, eqGuard_bool]
    cases op <;> simp only at h <;>
      first
        | exact h.elim
        | (obtain ⟨h1, h2⟩ := h
           refine ⟨_, _, h2, fun w => ?_, rfl, rfl⟩
           simp only [Result.andThen_ok]
           unfold binOp
           simp only [Sem.run_bind, run_equal_bool (hT.bool _ h1)]
           rfl)
  · cases hx with
    | ptr hk =>
    cases hy
    simp only [Sem.run_bind, eqGuard_ptr]
    cases op <;> simp only at h <;>
      first
        | exact h.elim
        | (obtain ⟨h1, h2⟩ := h
           obtain ⟨e, he⟩ := Option.isSome_iff_exists.1 h1
           refine ⟨_, _, h2, fun w => ?_, rfl, rfl⟩
           simp only [Result.andThen_ok]
           unfold binOp
           simp only [Sem.run_bind, run_equal_ptr (hT.ptr _ _ he)]
           rfl)
  · cases hx; cases hy
    simp only [Sem.run_bind, eqGuard_ptr]
    cases op <;> simp only at h <;>
      first
        | exact h.elim
        | (obtain ⟨h1, h2⟩ := h
           obtain ⟨e, he⟩ := Option.isSome_iff_exists.1 h1
           refine ⟨_, _, h2, fun w => ?_, rfl, rfl⟩
           simp only [Result.andThen_ok]
           unfold binOp
           simp only [Sem.run_bind, run_equal_ptr (hT.ptr _ _ he)]
           rfl)
  · exact h.elim
end
end Go.Sym
