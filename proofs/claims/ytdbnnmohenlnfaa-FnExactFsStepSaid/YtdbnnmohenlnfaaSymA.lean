/- The abstract values and their relation to the model's values and memory. -/
import Derived.Calls
import Derived.Orders
import Derived.RowKit3
import Derived.Laws.AppendOwn
namespace Go.Sym
set_option linter.unusedVariables false
set_option linter.unusedSimpArgs false

/-- Names of the blocks that a call holds as its own. -/
inductive Key where
  | t (n : Nat)
  | a (n : Nat)
  | r (n : Nat)
  | c (d n : Nat)
  deriving DecidableEq

/-- Where a named block lies: the block (none: an empty row without one), where its first element begins, the cells of an element, how many there are. -/
structure Inf where
  blk : Option Nat
  off : Nat
  sz : Nat
  n : Nat

inductive V where
  | un
  | sc (v : Value)
  | agg (cs : List V)
  | tup (vs : List V)
  | ptr (k : Key) (i j : Nat)
  | nil
  | row (k : Key) (lo len : Nat)
  | rd (sz : Nat) (xs : List (List V))
  | rp (cs : List V)
  | fn (f : FuncId) (caps : List V)
  | ifc (t : TypeId) (v : V)
instance : Inhabited V := ⟨.un⟩

abbrev Beta := Key → Option Inf
def Beta.none : Beta := fun _ => Option.none
def adr (A : Option Addr) : Addr := A.getD ⟨0, 0, none⟩

/-- The value of one cell. -/
def V.cell : V → Bool
  | .un | .agg _ | .tup _ => false
  | _ => true
/-- The value of one cell that names no block of the call's own. -/
def V.shut : V → Bool
  | .sc _ | .nil | .rd _ _ | .rp _ => true
  | _ => false

inductive VRel (ok : Nat → Prop) (w : World) : Beta → V → Value → Prop where
  | un {β x} : VRel ok w β .un x
  | sc {β v} : v.oneCell' = true → VRel ok w β (.sc v) v
  | agg {β cs xs} : cs.length = xs.size → (∀ i, i < cs.length → VRel ok w β (cs.getD i .un) (xs.getD i undef)) → VRel ok w β (.agg cs) (.agg xs)
  | tup {β cs xs} : cs.length = xs.size → (∀ i, i < cs.length → VRel ok w β (cs.getD i .un) (xs.getD i undef)) → VRel ok w β (.tup cs) (.tuple xs)
  | ptr {β k b o s m i j} : β k = some ⟨some b, o, s, m⟩ → VRel ok w β (.ptr k i j) (.pointer (some ⟨b, o + (i * s + j), none⟩))
  | nil {β a} : VRel ok w β .nil (.slice a 0 0)
  | rowZ {β k inf lo a} : β k = some inf → VRel ok w β (.row k lo 0) (.slice a 0 0)
  | row {β k b o s m lo len cap C t fr} : β k = some ⟨some b, o, s, m⟩ → lo + len ≤ m → len ≤ cap → w.heap[b]? = some (.cells C t fr) → o + (lo + cap) * s ≤ C.size →
      VRel ok w β (.row k lo len) (.slice (some ⟨b, o + lo * s, none⟩) len cap)
  | rd {β s xs A cap} : xs.length ≤ cap → (∀ x, x ∈ xs → x.length = s ∧ ∀ v, v ∈ x → v.shut = true) → (0 < xs.length → A.isSome = true ∧ (adr A).spot = none ∧ ok (adr A).block) →
      (∀ i j, i < xs.length → j < s → (w.cell? ⟨(adr A).block, (adr A).off + (i * s + j), none⟩).isSome = true) →
      (∀ i j, i < xs.length → j < s → VRel ok w Beta.none ((xs.getD i []).getD j .un) ((w.cell? ⟨(adr A).block, (adr A).off + (i * s + j), none⟩).getD undef)) →
      VRel ok w β (.rd s xs) (.slice A xs.length cap)
  | rp {β cs a} : (∀ v, v ∈ cs → v.shut = true) → a.spot = none → ok a.block →
      (∀ j, j < cs.length → (w.cell? ⟨a.block, a.off + j, none⟩).isSome = true) →
      (∀ j, j < cs.length → VRel ok w Beta.none (cs.getD j .un) ((w.cell? ⟨a.block, a.off + j, none⟩).getD undef)) →
      VRel ok w β (.rp cs) (.pointer (some a))
  | fn {β f cs xs} : cs.length = xs.size → (∀ i, i < cs.length → VRel ok w β (cs.getD i .un) (xs.getD i undef)) → VRel ok w β (.fn f cs) (.func (.func f) #[] xs)
  | ifc {β t v x} : VRel ok w β v x → VRel ok w β (.ifc t v) (.iface t x)

theorem cell?_of_heap {w w' : World} {b o : Nat} (h : w'.heap[b]? = w.heap[b]?) : w'.cell? ⟨b, o, none⟩ = w.cell? ⟨b, o, none⟩ := by simp [World.cell?, h]

/-- What stays when the world goes on: what is readable stands as it was; a block of the call's own keeps at least its size. -/
structure Goes1 (p p' : Nat → Prop) (w w' : World) : Prop where
  ok : ∀ b, p b → p' b
  heap : ∀ b, p b → w'.heap[b]? = w.heap[b]?

def Keeps (w w' : World) (β : Beta) : Prop := ∀ k b o s m C t fr, β k = some ⟨some b, o, s, m⟩ → w.heap[b]? = some (.cells C t fr) → ∃ C' t' fr', w'.heap[b]? = some (.cells C' t' fr') ∧ C.size ≤ C'.size

theorem VRel.mono {ok ok' : Nat → Prop} {w w' : World} (g : Goes1 ok ok' w w') {β : Beta} {v : V} {x : Value} (h : VRel ok w β v x) :
    ∀ {β' : Beta}, (∀ k inf, β k = some inf → β' k = some inf) → Keeps w w' β → VRel ok' w' β' v x := by
  induction h with
  | un => intros; exact .un
  | sc hv => intros; exact .sc hv
  | agg hl _ ih => intro β' hb hk; exact .agg hl fun i hi => ih i hi hb hk
  | tup hl _ ih => intro β' hb hk; exact .tup hl fun i hi => ih i hi hb hk
  | fn hl _ ih => intro β' hb hk; exact .fn hl fun i hi => ih i hi hb hk
  | ifc _ ih => intro β' hb hk; exact .ifc (ih hb hk)
  | ptr hk => intro β' hb _; exact .ptr (hb _ _ hk)
  | nil => intros; exact .nil
  | rowZ hk => intro β' hb _; exact .rowZ (hb _ _ hk)
  | row hk hm hl hh hs =>
    intro β' hb hks
    obtain ⟨C', t', fr', h1, h2⟩ := hks _ _ _ _ _ _ _ _ hk hh
    exact .row (hb _ _ hk) hm hl h1 (Nat.le_trans hs h2)
  | rd hl hx hA hc _ ih =>
    intro β' hb _
    refine .rd hl hx (fun h0 => ⟨(hA h0).1, (hA h0).2.1, g.ok _ (hA h0).2.2⟩) ?_ ?_
    · intro i j hi hj
      rw [cell?_of_heap (g.heap _ (hA (by omega)).2.2)]
      exact hc i j hi hj
    · intro i j hi hj
      rw [cell?_of_heap (g.heap _ (hA (by omega)).2.2)]
      exact ih i j hi hj (fun _ _ h => by simp [Beta.none] at h) (fun _ _ _ _ _ _ _ _ h => by simp [Beta.none] at h)
  | rp h0 h1 h2 hc _ ih =>
    intro β' hb _
    refine .rp h0 h1 (g.ok _ h2) ?_ ?_
    · intro j hj
      rw [cell?_of_heap (g.heap _ h2)]
      exact hc j hj
    · intro j hj
      rw [cell?_of_heap (g.heap _ h2)]
      exact ih j hj (fun _ _ h => by simp [Beta.none] at h) (fun _ _ _ _ _ _ _ _ h => by simp [Beta.none] at h)

theorem VRel.shut {ok w β v x} (h : VRel ok w β v x) (hs : v.shut = true) : VRel ok w Beta.none v x := by
  cases h <;> first | (simp [V.shut] at hs; done) | skip
  · exact .sc ‹_›
  · exact .nil
  · exact .rd ‹_› ‹_› ‹_› ‹_› ‹_›
  · exact .rp ‹_› ‹_› ‹_› ‹_› ‹_›

theorem VRel.open_ {ok w v x} (h : VRel ok w Beta.none v x) (β : Beta) : VRel ok w β v x :=
  h.mono (ok' := ok) (w' := w) ⟨fun _ h => h, fun _ _ => rfl⟩ (fun _ _ h => by simp [Beta.none] at h) (fun _ _ _ _ _ _ _ _ h => by simp [Beta.none] at h)

/-- The lists of the cells of a value. -/
def V.cells : V → Option (List V)
  | .un => none
  | .agg cs => some cs
  | .tup _ => none
  | v => some [v]

theorem VRel.cell {ok w β v x} (h : VRel ok w β v x) (hc : v.cell = true) : x.oneCell' = true := by
  cases h <;> first | rfl | assumption | (simp [V.cell] at hc)
theorem V.cell_of_shut {v : V} (h : v.shut = true) : v.cell = true := by cases v <;> simp_all [V.shut, V.cell]

theorem VRel.oneCell {ok w β v x} (h : VRel ok w β v x) (h1 : ∀ cs, v ≠ .agg cs) (h2 : ∀ cs, v ≠ .tup cs) (h3 : v ≠ .un) : x.cells = #[x] := by
  cases h <;> first | rfl | (exact absurd rfl (h1 _)) | (exact absurd rfl (h2 _)) | (exact absurd rfl h3) | skip
  rename_i hv
  cases x <;> first | rfl | (simp [Value.oneCell'] at hv)

theorem VRel.cells {ok w β v x cs} (h : VRel ok w β v x) (hc : v.cells = some cs) : x.cells.size = cs.length ∧ ∀ i, i < cs.length → VRel ok w β (cs.getD i .un) (x.cells.getD i undef) := by
  by_cases ha : ∃ ds, v = .agg ds
  · obtain ⟨ds, rfl⟩ := ha
    simp [V.cells] at hc
    subst hc
    cases h with
    | agg hl hi => exact ⟨hl.symm, hi⟩
  · have h1 : ∀ ds, v ≠ .agg ds := fun ds e => ha ⟨ds, e⟩
    have h2 : ∀ ds, v ≠ .tup ds := fun ds e => by subst e; simp [V.cells] at hc
    have h3 : v ≠ .un := fun e => by subst e; simp [V.cells] at hc
    have e := h.oneCell h1 h2 h3
    have ec : cs = [v] := by cases v <;> simp_all [V.cells]
    subst ec
    rw [e]
    refine ⟨rfl, fun i hi => ?_⟩
    have : i = 0 := by simpa using hi
    subst this
    exact h

/-- What a block of the call's own holds. -/
inductive Blk where
  | box (cs : List V)
  | row (sz : Nat) (xs : List (List V))
instance : Inhabited Blk := ⟨.box []⟩

inductive BRel (ok : Nat → Prop) (w : World) (β : Beta) : Inf → Blk → Prop where
  | box {b s m cs C t} : w.heap[b]? = some (.cells C t (0, 0)) → C.size = cs.length → (∀ i, i < cs.length → VRel ok w β (cs.getD i .un) (C.getD i undef)) →
      BRel ok w β ⟨some b, 0, s, m⟩ (.box cs)
  | rowE {o s} : BRel ok w β ⟨none, o, s, 0⟩ (.row s [])
  | row {b o s xs C t} : w.heap[b]? = some (.cells C t (0, 0)) → (∀ x, x ∈ xs → x.length = s ∧ ∀ v, v ∈ x → v.shut = true) → o + xs.length * s ≤ C.size →
      (∀ i j, i < xs.length → j < s → VRel ok w Beta.none ((xs.getD i []).getD j .un) (C.getD (o + (i * s + j)) undef)) →
      BRel ok w β ⟨some b, o, s, xs.length⟩ (.row s xs)

abbrev Hp := List (Key × Blk)
def lkB : Hp → Key → Option Blk
  | [], _ => none
  | (k, b) :: h, q => if k = q then some b else lkB h q
def lkV : List (Nat × V) → Nat → V
  | [], _ => .un
  | (n, v) :: l, q => if n = q then v else lkV l q

/-- The blocks of a naming. -/
def Lof (β : Beta) (b : Nat) : Prop := ∃ k o s m, β k = some ⟨some b, o, s, m⟩
def Key.isA : Key → Bool
  | .a _ => true
  | _ => false
/-- What may be read: what the caller allows, what was lent and has been given up, and what is new; none of the call's own blocks. -/
def okF (G : Nat → Prop) (L : Beta) (w0 w : World) (β : Beta) (b : Nat) : Prop := (G b ∨ Lof L b ∨ w0.heap.size ≤ b) ∧ b < w.heap.size ∧ ∀ k o s m, β k ≠ some ⟨some b, o, s, m⟩

/-- No block has shrunk. -/
def Grows (w w' : World) : Prop := ∀ (b : Nat) (C : Array Value) (t : TypeId) (fr : Nat × Nat), w.heap[b]? = some (.cells C t fr) → ∃ C' t' fr', w'.heap[b]? = some (.cells C' t' fr') ∧ C.size ≤ C'.size
theorem Grows.refl (w : World) : Grows w w := fun b C t fr h => ⟨C, t, fr, h, Nat.le_refl _⟩
theorem Grows.trans {a b c : World} (h : Grows a b) (k : Grows b c) : Grows a c := fun q C t fr hq => by
  obtain ⟨C1, t1, f1, h1, l1⟩ := h q C t fr hq
  obtain ⟨C2, t2, f2, h2, l2⟩ := k q C1 t1 f1 h1
  exact ⟨C2, t2, f2, h2, Nat.le_trans l1 l2⟩

/-- The world stands to the abstract heap as it should. L: the blocks that were lent. -/
structure HR (G : Nat → Prop) (L : Beta) (w0 w : World) (β : Beta) (hs : Hp) : Prop where
  os : w.os = w0.os
  tape : w.tape = w0.tape
  output : w.output = w0.output
  size : w0.heap.size ≤ w.heap.size
  keep : ∀ b, b < w0.heap.size → ¬ Lof L b → w.heap[b]? = w0.heap[b]?
  dom : ∀ k, lkB hs k = none → β k = none
  rel : ∀ k B, lkB hs k = some B → ∃ inf, β k = some inf ∧ BRel (okF G L w0 w β) w β inf B
  inj : ∀ k k' b o s m o' s' m', β k = some ⟨some b, o, s, m⟩ → β k' = some ⟨some b, o', s', m'⟩ → k = k'
  own : ∀ k b o s m, β k = some ⟨some b, o, s, m⟩ → w0.heap.size ≤ b ∨ Lof L b
  g : ∀ b, G b → b < w0.heap.size ∧ ¬ Lof L b
  arg : ∀ n inf, β (.a n) = some inf → L (.a n) = some inf
  grow : Grows w0 w

abbrev OKW (G : Nat → Prop) (L : Beta) (w0 w : World) (β : Beta) (v : V) (x : Value) : Prop := VRel (okF G L w0 w β) w β v x

section
variable {G : Nat → Prop} {L : Beta} {w0 w w' : World} {β β' : Beta} {hs : Hp}

theorem BRel.mono {p p' : Nat → Prop} {inf : Inf} {B : Blk} (g : Goes1 p p' w w') (h : BRel p w β inf B) (hb : ∀ k inf, β k = some inf → β' k = some inf) (hk : Keeps w w' β)
    (hh : ∀ b, inf.blk = some b → w'.heap[b]? = w.heap[b]?) : BRel p' w' β' inf B := by
  cases h with
  | box h1 h2 h3 => exact .box (by rw [hh _ rfl]; exact h1) h2 fun i hi => (h3 i hi).mono g hb hk
  | rowE => exact .rowE
  | row h1 h2 h3 h4 => exact .row (by rw [hh _ rfl]; exact h1) h2 h3 fun i j hi hj => (h4 i j hi hj).mono g (fun _ _ h => by simp [Beta.none] at h) (fun _ _ _ _ _ _ _ _ h => by simp [Beta.none] at h)

/-- An own block is there. -/
theorem HR.blk (h : HR G L w0 w β hs) {k : Key} {b o s m : Nat} (hk : β k = some ⟨some b, o, s, m⟩) : ∃ C t, w.heap[b]? = some (.cells C t (0, 0)) := by
  cases hl : lkB hs k with
  | none => have := h.dom k hl; rw [this] at hk; cases hk
  | some B =>
    obtain ⟨inf, h1, h2⟩ := h.rel k B hl
    rw [hk] at h1
    cases h1
    cases h2 with
    | box h1 _ _ => exact ⟨_, _, h1⟩
    | row h1 _ _ _ => exact ⟨_, _, h1⟩
theorem HR.lt (h : HR G L w0 w β hs) {k : Key} {b o s m : Nat} (hk : β k = some ⟨some b, o, s, m⟩) : b < w.heap.size := by
  obtain ⟨C, t, hh⟩ := h.blk hk
  exact (Array.getElem?_eq_some_iff.1 hh).1

/-- The world goes on, its old blocks as they were. -/
structure Ext (w w' : World) : Prop where
  os : w'.os = w.os
  tape : w'.tape = w.tape
  output : w'.output = w.output
  size : w.heap.size ≤ w'.heap.size
  heap : ∀ b, b < w.heap.size → w'.heap[b]? = w.heap[b]?

theorem Ext.refl (w : World) : Ext w w := ⟨rfl, rfl, rfl, Nat.le_refl _, fun _ _ => rfl⟩
theorem Ext.trans {a b c : World} (h : Ext a b) (k : Ext b c) : Ext a c :=
  ⟨k.os.trans h.os, k.tape.trans h.tape, k.output.trans h.output, Nat.le_trans h.size k.size, fun i hi => (k.heap i (Nat.lt_of_lt_of_le hi h.size)).trans (h.heap i hi)⟩
theorem Ext.drew (w : World) : Ext w { w with drawn := w.drawn + 1 } := ⟨rfl, rfl, rfl, Nat.le_refl _, fun _ _ => rfl⟩
theorem Ext.push (w : World) (o : Obj) : Ext w { w with heap := w.heap.push o } :=
  ⟨rfl, rfl, rfl, by simp, fun b hb => by simp [Array.getElem?_push, Nat.ne_of_lt hb]⟩

theorem Ext.grows {w w' : World} (e : Ext w w') : Grows w w' := fun b C t fr h => ⟨C, t, fr, by
  have hb : b < w.heap.size := by
    apply Classical.byContradiction
    intro hn
    simp [Array.getElem?_eq_none (Nat.le_of_not_lt hn)] at h
  rw [e.heap b hb]; exact h, Nat.le_refl _⟩
theorem HR.keeps (h : HR G L w0 w β hs) (e : Ext w w') : Keeps w w' β := fun k b o s m C t fr hk hh => ⟨C, t, fr, by rw [e.heap b (h.lt hk)]; exact hh, Nat.le_refl _⟩
theorem HR.goes (h : HR G L w0 w β hs) (e : Ext w w') : Goes1 (okF G L w0 w β) (okF G L w0 w' β) w w' :=
  ⟨fun b hb => ⟨hb.1, Nat.lt_of_lt_of_le hb.2.1 e.size, hb.2.2⟩, fun b hb => e.heap b hb.2.1⟩

theorem HR.ext (h : HR G L w0 w β hs) (e : Ext w w') : HR G L w0 w' β hs where
  os := e.os.trans h.os
  tape := e.tape.trans h.tape
  output := e.output.trans h.output
  size := Nat.le_trans h.size e.size
  keep b hb hl := (e.heap b (Nat.lt_of_lt_of_le hb h.size)).trans (h.keep b hb hl)
  dom := h.dom
  rel k B hk := by
    obtain ⟨inf, h1, h2⟩ := h.rel k B hk
    refine ⟨inf, h1, h2.mono (h.goes e) (fun _ _ h => h) (h.keeps e) fun b hb => e.heap b ?_⟩
    obtain ⟨bl, o, s, m⟩ := inf
    cases hb
    exact h.lt h1
  inj := h.inj
  own := h.own
  g := h.g
  arg := h.arg
  grow := h.grow.trans e.grows
theorem HR.vext (h : HR G L w0 w β hs) (e : Ext w w') {v : V} {x : Value} (hv : OKW G L w0 w β v x) : OKW G L w0 w' β v x := hv.mono (h.goes e) (fun _ _ h => h) (h.keeps e)

def upB (β : Beta) (k : Key) (inf : Inf) : Beta := fun q => if k = q then some inf else β q

theorem HR.goesA (h : HR G L w0 w β hs) {k : Key} (hk : lkB hs k = none) (o s m : Nat) (e : Ext w w') (hsz : w.heap.size < w'.heap.size) :
    Goes1 (okF G L w0 w β) (okF G L w0 w' (upB β k ⟨some w.heap.size, o, s, m⟩)) w w' :=
  ⟨fun b hb => ⟨hb.1, Nat.lt_trans hb.2.1 hsz, fun q o' s' m' hq => by
    unfold upB at hq
    split at hq
    · cases hq; exact Nat.lt_irrefl _ hb.2.1
    · exact hb.2.2 q o' s' m' hq⟩, fun b hb => e.heap b hb.2.1⟩

theorem upB_arg {β : Beta} {k : Key} {inf : Inf} (ha : k.isA = false) {n : Nat} {i : Inf} (h : upB β k inf (.a n) = some i) : β (.a n) = some i := by
  unfold upB at h
  split at h
  · rename_i e; subst e; cases ha
  · exact h
theorem HR.alloc (h : HR G L w0 w β hs) {k : Key} (hk : lkB hs k = none) {C : Array Value} {t : TypeId} {o s m : Nat} {B : Blk}
    (hB : BRel (okF G L w0 { w with heap := w.heap.push (.cells C t) } (upB β k ⟨some w.heap.size, o, s, m⟩)) { w with heap := w.heap.push (.cells C t) } (upB β k ⟨some w.heap.size, o, s, m⟩) ⟨some w.heap.size, o, s, m⟩ B) (ha : k.isA = false := by rfl) :
    HR G L w0 { w with heap := w.heap.push (.cells C t) } (upB β k ⟨some w.heap.size, o, s, m⟩) ((k, B) :: hs) := by
  have e := Ext.push w (.cells C t)
  have he := h.ext e
  have up : ∀ q inf, β q = some inf → upB β k ⟨some w.heap.size, o, s, m⟩ q = some inf := by
    intro q inf hq
    have : k ≠ q := fun e => by subst e; rw [h.dom k hk] at hq; cases hq
    simp [upB, this, hq]
  refine ⟨he.os, he.tape, he.output, he.size, he.keep, ?_, ?_, ?_, ?_, h.g, fun n inf hn => h.arg n inf (upB_arg ha hn), he.grow⟩
  · intro q hq
    simp only [lkB] at hq
    split at hq
    · cases hq
    · rename_i hne
      simp [upB, hne, h.dom q hq]
  · intro q B' hq
    simp only [lkB] at hq
    split at hq
    · rename_i heq
      subst heq
      cases hq
      exact ⟨_, by simp [upB], hB⟩
    · rename_i hne
      obtain ⟨inf, h1, h2⟩ := h.rel q B' hq
      refine ⟨inf, up _ _ h1, h2.mono (h.goesA hk o s m e (by simp)) up (h.keeps e) fun b hb => e.heap b ?_⟩
      obtain ⟨bl, o', s', m'⟩ := inf
      cases hb
      exact h.lt h1
  · intro q q' b o1 s1 m1 o2 s2 m2 h1 h2
    unfold upB at h1 h2
    split at h1 <;> split at h2
    · exact (by assumption : k = q).symm.trans (by assumption)
    · cases h1; exact absurd (h.lt h2) (Nat.lt_irrefl _)
    · cases h2; exact absurd (h.lt h1) (Nat.lt_irrefl _)
    · exact h.inj _ _ _ _ _ _ _ _ _ h1 h2
  · intro q b o1 s1 m1 h1
    unfold upB at h1
    split at h1
    · cases h1; exact .inl h.size
    · exact h.own _ _ _ _ _ h1
theorem HR.valloc (h : HR G L w0 w β hs) {k : Key} (hk : lkB hs k = none) (C : Array Value) (t : TypeId) (o s m : Nat) {v : V} {x : Value} (hv : OKW G L w0 w β v x) :
    OKW G L w0 { w with heap := w.heap.push (.cells C t) } (upB β k ⟨some w.heap.size, o, s, m⟩) v x := by
  refine hv.mono (h.goesA hk o s m (Ext.push w _) (by simp)) ?_ (h.keeps (Ext.push w _))
  intro q inf hq
  have : k ≠ q := fun e => by subst e; rw [h.dom k hk] at hq; cases hq
  simp [upB, this, hq]
end

end Go.Sym
