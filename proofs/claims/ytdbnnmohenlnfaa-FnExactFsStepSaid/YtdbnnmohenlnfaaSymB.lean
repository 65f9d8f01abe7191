/- Stores into own blocks; names given up; what a slice holds. -/
import Derived.Test.YtdbnnmohenlnfaaSymA
import Derived.Deep.AppendSrc
import Derived.Great.BuildSlice
import Derived.Laws.Tables
import Derived.Laws.CopyRow
import Derived.Laws.Cells
namespace Go.Sym
set_option linter.unusedVariables false
set_option linter.unusedSimpArgs false

def setB : Hp → Key → Blk → Hp
  | [], _, _ => []
  | (k, b) :: h, q, B => if k = q then (k, B) :: h else (k, b) :: setB h q B
def eraseB : Hp → Key → Hp
  | [], _ => []
  | (k, b) :: h, q => if k = q then eraseB h q else (k, b) :: eraseB h q

theorem lkB_setB (hs : Hp) (k q : Key) (B : Blk) : lkB (setB hs k B) q = if k = q then (lkB hs k).map (fun _ => B) else lkB hs q := by
  induction hs with
  | nil => simp [setB, lkB]
  | cons x h ih =>
    obtain ⟨k', b⟩ := x
    simp only [setB]
    split
    · rename_i e
      subst e
      simp only [lkB]
      by_cases hq : k' = q <;> simp [hq]
    · rename_i e
      simp only [lkB]
      by_cases hq : k' = q
      · subst hq
        have e' : ¬ k = k' := fun h => e h.symm
        simp [e']
      · simp [hq, ih, e]
theorem lkB_eraseB (hs : Hp) (k q : Key) : lkB (eraseB hs k) q = if k = q then none else lkB hs q := by
  induction hs with
  | nil => simp [eraseB, lkB]
  | cons x h ih =>
    obtain ⟨k', b⟩ := x
    simp only [eraseB]
    split
    · rename_i e
      subst e
      rw [ih]
      by_cases hq : k' = q <;> simp [hq, lkB]
    · rename_i e
      simp only [lkB, ih]
      by_cases hq : k' = q
      · subst hq
        have e' : ¬ k = k' := fun h => e h.symm
        simp [e']
      · simp [hq]

section
variable {G : Nat → Prop} {L : Beta} {w0 w w' : World} {β β' : Beta} {hs : Hp}

/-- One own block is written, all others stand. -/
structure Wr (w w' : World) (b : Nat) : Prop where
  os : w'.os = w.os
  tape : w'.tape = w.tape
  output : w'.output = w.output
  size : w'.heap.size = w.heap.size
  heap : ∀ q, q ≠ b → w'.heap[q]? = w.heap[q]?
  here : ∀ C t fr, w.heap[b]? = some (.cells C t fr) → ∃ C', w'.heap[b]? = some (.cells C' t fr) ∧ C.size ≤ C'.size

theorem Wr.grows {w w' : World} {b : Nat} (e : Wr w w' b) : Grows w w' := fun q C t fr h => by
  by_cases hq : q = b
  · subst hq
    obtain ⟨C', h1, h2⟩ := e.here C t fr h
    exact ⟨C', t, fr, h1, h2⟩
  · exact ⟨C, t, fr, by rw [e.heap q hq]; exact h, Nat.le_refl _⟩

theorem Wr.setRow (w : World) (b : Nat) (C' : Array Value) (hs : ∀ C t fr, w.heap[b]? = some (.cells C t fr) → C.size ≤ C'.size) : Wr w (w.setRow b C') b :=
  ⟨rfl, rfl, rfl, by simp, fun q hq => setRow_other w b q C' hq, fun C t fr h => ⟨C', setRow_heap w b C C' t fr h, hs C t fr h⟩⟩

theorem HR.keepsW (h : HR G L w0 w β hs) {k : Key} {b o s m : Nat} (hk : β k = some ⟨some b, o, s, m⟩) (e : Wr w w' b) : Keeps w w' β := fun q b' o' s' m' C t fr hq hh => by
  by_cases hb : b' = b
  · subst hb
    obtain ⟨C', h1, h2⟩ := e.here C t fr hh
    exact ⟨C', t, fr, h1, h2⟩
  · exact ⟨C, t, fr, by rw [e.heap _ hb]; exact hh, Nat.le_refl _⟩
theorem HR.goesW (h : HR G L w0 w β hs) {k : Key} {b o s m : Nat} (hk : β k = some ⟨some b, o, s, m⟩) (e : Wr w w' b) : Goes1 (okF G L w0 w β) (okF G L w0 w' β) w w' :=
  ⟨fun q hq => ⟨hq.1, by rw [e.size]; exact hq.2.1, hq.2.2⟩, fun q hq => e.heap q fun eq => by subst eq; exact hq.2.2 _ _ _ _ hk⟩
theorem HR.vwrite (h : HR G L w0 w β hs) {k : Key} {b o s m : Nat} (hk : β k = some ⟨some b, o, s, m⟩) (e : Wr w w' b) {v : V} {x : Value} (hv : OKW G L w0 w β v x) : OKW G L w0 w' β v x :=
  hv.mono (h.goesW hk e) (fun _ _ h => h) (h.keepsW hk e)

theorem HR.write (h : HR G L w0 w β hs) {k : Key} {b o s m : Nat} (hk : β k = some ⟨some b, o, s, m⟩) (e : Wr w w' b) {B : Blk}
    (hB : BRel (okF G L w0 w' β) w' β ⟨some b, o, s, m⟩ B) : HR G L w0 w' β (setB hs k B) := by
  refine ⟨e.os.trans h.os, e.tape.trans h.tape, e.output.trans h.output, by rw [e.size]; exact h.size, ?_, ?_, ?_, h.inj, h.own, h.g, h.arg, h.grow.trans e.grows⟩
  · intro q hq hl
    rw [e.heap q]
    · exact h.keep q hq hl
    · rintro rfl
      rcases h.own _ _ _ _ _ hk with h1 | h1
      · omega
      · exact hl h1
  · intro q hq
    rw [lkB_setB] at hq
    split at hq
    · rename_i eq
      subst eq
      cases hl : lkB hs k with
      | none => exact h.dom k hl
      | some B' => rw [hl] at hq; cases hq
    · exact h.dom q hq
  · intro q B' hq
    rw [lkB_setB] at hq
    split at hq
    · rename_i eq
      subst eq
      cases hl : lkB hs k with
      | none => rw [hl] at hq; cases hq
      | some B'' => rw [hl] at hq; cases hq; exact ⟨_, hk, hB⟩
    · rename_i hne
      obtain ⟨inf, h1, h2⟩ := h.rel q B' hq
      refine ⟨inf, h1, h2.mono (h.goesW hk e) (fun _ _ h => h) (h.keepsW hk e) fun b' hb' => e.heap b' ?_⟩
      rintro rfl
      obtain ⟨bl, o', s', m'⟩ := inf
      cases hb'
      exact hne (h.inj _ _ _ _ _ _ _ _ _ hk h1)

theorem VRel.rd0 {ok : Nat → Prop} {w : World} {β : Beta} {s : Nat} {a : Option Addr} {cap : Nat} : VRel ok w β (.rd s []) (.slice a 0 cap) :=
  VRel.rd (xs := []) (Nat.zero_le _) (fun _ h => by cases h) (fun h => by simp at h) (fun _ _ h => by simp at h) (fun _ _ h => by simp at h)

/-! ### A name is given up -/
def dnB (β : Beta) (k : Key) : Beta := fun q => if k = q then none else β q

mutual
def V.sub (k : Key) (f g : Nat → Nat → V) : V → V
  | .agg cs => .agg (subL k f g cs)
  | .tup cs => .tup (subL k f g cs)
  | .fn i cs => .fn i (subL k f g cs)
  | .ptr q i j => if k = q then g i j else .ptr q i j
  | .row q lo len => if k = q then f lo len else .row q lo len
  | .un => .un
  | .sc v => .sc v
  | .nil => .nil
  | .rd s xs => .rd s xs
  | .rp cs => .rp cs
  | .ifc t v => .ifc t (v.sub k f g)
def subL (k : Key) (f g : Nat → Nat → V) : List V → List V
  | [] => []
  | v :: vs => v.sub k f g :: subL k f g vs
end

theorem subL_length (k : Key) (f g : Nat → Nat → V) (cs : List V) : (subL k f g cs).length = cs.length := by
  induction cs with
  | nil => simp [subL]
  | cons x h ih => simp [subL, ih]
theorem subL_getD (k : Key) (f g : Nat → Nat → V) (cs : List V) (i : Nat) : (subL k f g cs).getD i .un = (cs.getD i .un).sub k f g := by
  induction cs generalizing i with
  | nil => simp [subL, V.sub]
  | cons x h ih =>
    cases i with
    | zero => simp [subL]
    | succ i => simpa [subL] using ih i

/-- How references to a name are told anew when it goes, or is called otherwise. -/
structure Gone (p p' : Nat → Prop) (w : World) (β : Beta) (k : Key) (f g : Nat → Nat → V) (β2 : Beta) : Prop where
  ok : ∀ b, p b → p' b
  f : ∀ lo len x, VRel p w β (.row k lo len) x → VRel p' w β2 (f lo len) x
  g : ∀ i j x, VRel p w β (.ptr k i j) x → VRel p' w β2 (g i j) x
  up : ∀ q inf, q ≠ k → β q = some inf → β2 q = some inf

theorem VRel.sub {p p' : Nat → Prop} {k : Key} {f g : Nat → Nat → V} {v : V} {x : Value} {β2 : Beta} (h : VRel p w β v x) (H : Gone p p' w β k f g β2) : VRel p' w β2 (v.sub k f g) x := by
  have hm : Goes1 p p' w w := ⟨H.ok, fun _ _ => rfl⟩
  revert H
  induction h with
  | un => intro H; simpa [V.sub] using .un
  | sc hv => intro H; simpa [V.sub] using .sc hv
  | nil => intro H; simpa [V.sub] using .nil
  | agg hl _ ih => intro H; simp only [V.sub]; exact .agg (by rw [subL_length]; exact hl) fun i hi => by rw [subL_getD]; exact ih i (by rw [subL_length] at hi; exact hi) H
  | tup hl _ ih => intro H; simp only [V.sub]; exact .tup (by rw [subL_length]; exact hl) fun i hi => by rw [subL_getD]; exact ih i (by rw [subL_length] at hi; exact hi) H
  | fn hl _ ih => intro H; simp only [V.sub]; exact .fn (by rw [subL_length]; exact hl) fun i hi => by rw [subL_getD]; exact ih i (by rw [subL_length] at hi; exact hi) H
  | ptr hk =>
    intro H
    simp only [V.sub]
    split
    · rename_i e; subst e; exact H.g _ _ _ (.ptr hk)
    · rename_i e; exact .ptr (H.up _ _ (Ne.symm e) hk)
  | rowZ hk =>
    intro H
    simp only [V.sub]
    split
    · rename_i e; subst e; exact H.f _ _ _ (.rowZ hk)
    · rename_i e; exact .rowZ (H.up _ _ (Ne.symm e) hk)
  | row hk h0 h1 h2 h3 =>
    intro H
    simp only [V.sub]
    split
    · rename_i e; subst e; exact H.f _ _ _ (.row hk h0 h1 h2 h3)
    · rename_i e; exact .row (H.up _ _ (Ne.symm e) hk) h0 h1 h2 h3
  | rd h1 h2 h3 h4 h5 => intro H; simp only [V.sub]; exact (VRel.rd (β := Beta.none) h1 h2 h3 h4 h5).mono hm (fun _ _ h => by simp [Beta.none] at h) (fun _ _ _ _ _ _ _ _ h => by simp [Beta.none] at h)
  | ifc _ ih => intro H; simp only [V.sub]; exact .ifc (ih H)
  | rp h0 h1 h2 h3 h4 => intro H; simp only [V.sub]; exact (VRel.rp (β := Beta.none) h0 h1 h2 h3 h4).mono hm (fun _ _ h => by simp [Beta.none] at h) (fun _ _ _ _ _ _ _ _ h => by simp [Beta.none] at h)

theorem BRel.sub {p p' : Nat → Prop} {k : Key} {f g : Nat → Nat → V} {inf : Inf} {B : Blk} {β2 : Beta} (h : BRel p w β inf B) (H : Gone p p' w β k f g β2) : BRel p' w β2 inf (match B with | .box cs => .box (subL k f g cs) | .row s xs => .row s xs) := by
  cases h with
  | box g1 g2 g3 => exact .box g1 (by rw [subL_length]; exact g2) fun i hi => by rw [subL_getD]; exact (g3 i (by rw [subL_length] at hi; exact hi)).sub H
  | rowE => exact .rowE
  | row g1 g2 g3 g4 => exact .row g1 g2 g3 fun i j hi hj => (g4 i j hi hj).mono ⟨H.ok, fun _ _ => rfl⟩ (fun _ _ h => by simp [Beta.none] at h) (fun _ _ _ _ _ _ _ _ h => by simp [Beta.none] at h)

def subB (k : Key) (f g : Nat → Nat → V) : Blk → Blk
  | .box cs => .box (subL k f g cs)
  | .row s xs => .row s xs
def subH (k : Key) (f g : Nat → Nat → V) : Hp → Hp
  | [] => []
  | (q, B) :: h => (q, subB k f g B) :: subH k f g h
theorem lkB_subH (k : Key) (f g : Nat → Nat → V) (hs : Hp) (q : Key) : lkB (subH k f g hs) q = (lkB hs q).map (subB k f g) := by
  induction hs with
  | nil => rfl
  | cons x h ih =>
    obtain ⟨k', b⟩ := x
    simp only [subH, lkB]
    split
    · rfl
    · exact ih

theorem okF_dn (h : HR G L w0 w β hs) (k : Key) (b : Nat) (hb : okF G L w0 w β b) : okF G L w0 w (dnB β k) b :=
  ⟨hb.1, hb.2.1, fun q o s m hq => by unfold dnB at hq; split at hq <;> first | (cases hq; done) | exact hb.2.2 q o s m hq⟩

theorem HR.drop (h : HR G L w0 w β hs) {k : Key} {f g : Nat → Nat → V} (H : Gone (okF G L w0 w β) (okF G L w0 w (dnB β k)) w β k f g (dnB β k)) :
    HR G L w0 w (dnB β k) (subH k f g (eraseB hs k)) := by
  refine ⟨h.os, h.tape, h.output, h.size, h.keep, ?_, ?_, ?_, ?_, h.g, fun n inf hn => h.arg n inf (by unfold dnB at hn; split at hn; (first | cases hn | exact hn); (first | cases hn | exact hn)), h.grow⟩
  · intro q hq
    rw [lkB_subH, lkB_eraseB] at hq
    by_cases e : k = q
    · simp [dnB, e]
    · simp [e] at hq; simp [dnB, e]; exact h.dom q hq
  · intro q B hq
    rw [lkB_subH, lkB_eraseB] at hq
    by_cases e : k = q
    · simp [e] at hq
    · simp [e] at hq
      obtain ⟨B0, hB0, rfl⟩ := hq
      obtain ⟨inf, h1, h2⟩ := h.rel q B0 hB0
      refine ⟨inf, by simp [dnB, e, h1], ?_⟩
      have := h2.sub H
      cases B0 <;> exact this
  · intro q q' b o s m o' s' m' h1 h2
    unfold dnB at h1 h2
    split at h1
    · cases h1
    · split at h2
      · cases h2
      · exact h.inj _ _ _ _ _ _ _ _ _ h1 h2
  · intro q b o s m h1
    unfold dnB at h1
    split at h1
    · cases h1
    · exact h.own _ _ _ _ _ h1

abbrev unF : Nat → Nat → V := fun _ _ => .un
theorem dnB_up (β : Beta) (k q : Key) (inf : Inf) (hq : q ≠ k) (h : β q = some inf) : dnB β k q = some inf := by simp [dnB, Ne.symm hq, h]
theorem HR.goneU (h : HR G L w0 w β hs) (k : Key) : Gone (okF G L w0 w β) (okF G L w0 w (dnB β k)) w β k unF unF (dnB β k) :=
  ⟨okF_dn h k, fun _ _ _ _ => .un, fun _ _ _ _ => .un, dnB_up β k⟩

/-- A row of the call's own becomes a thing to read. -/
abbrev frF (s : Nat) (xs : List (List V)) : Nat → Nat → V := fun lo len => .rd s ((xs.drop lo).take len)
theorem HR.gone_row (h : HR G L w0 w β hs) {k : Key} {s : Nat} {xs : List (List V)} (hk : lkB hs k = some (.row s xs)) :
    ∀ β', (∀ q inf, q ≠ k → β q = some inf → β' q = some inf) → Gone (okF G L w0 w β) (okF G L w0 w (dnB β k)) w β k (frF s xs) unF β' := by
  intro β' hup
  refine ⟨okF_dn h k, ?_, fun _ _ _ _ => .un, hup⟩
  intro lo len x hv
  obtain ⟨inf, h1, h2⟩ := h.rel k _ hk
  cases hv with
  | rowZ =>
    show VRel _ _ _ (.rd s ((xs.drop lo).take 0)) _
    rw [List.take_zero]
    exact VRel.rd0
  | row g1 gm g2 g3 g4 =>
    rename_i b o s' m' cap C t fr
    rw [h1] at g1
    cases g1
    cases h2 with
    | row q1 q2 q3 q4 =>
      rw [q1] at g3
      cases g3
      have e : ((xs.drop lo).take len).length = len := by simp; omega
      have hx : ∀ i, i < len → ((xs.drop lo).take len).getD i [] = xs.getD (lo + i) [] := by
        intro i hi
        simp [List.getD_eq_getElem?_getD, hi]
      have hnew : okF G L w0 w (dnB β k) b := by
        refine ⟨?_, h.lt h1, ?_⟩
        · rcases h.own _ _ _ _ _ h1 with h | h
          · exact .inr (.inr h)
          · exact .inr (.inl h)
        · intro q o' s'' m'' hq
          unfold dnB at hq
          split at hq
          · cases hq
          · rename_i hne; exact hne (h.inj _ _ _ _ _ _ _ _ _ h1 hq)
      have key : VRel (okF G L w0 w (dnB β k)) w β' (.rd s ((xs.drop lo).take len)) (.slice (some ⟨b, o + lo * s, none⟩) ((xs.drop lo).take len).length cap) := by
        have hin : ∀ i j, i < len → j < s → o + ((lo + i) * s + j) < C.size := by
          intro i j hi hj
          have : (lo + i + 1) * s ≤ xs.length * s := Nat.mul_le_mul_right _ (by omega)
          rw [Nat.add_mul, Nat.one_mul] at this
          omega
        have ha : ∀ i j, o + lo * s + (i * s + j) = o + ((lo + i) * s + j) := by intro i j; rw [Nat.add_mul]; omega
        have hcell : ∀ i j, i < len → j < s → w.cell? ⟨b, o + lo * s + (i * s + j), none⟩ = some (C.getD (o + ((lo + i) * s + j)) undef) := by
          intro i j hi hj
          rw [ha]
          simp [World.cell?, q1, hin i j hi hj]
        refine .rd (by omega) ?_ (fun _ => ⟨rfl, rfl, hnew⟩) ?_ ?_
        · intro y hy
          exact q2 y (List.mem_of_mem_drop (List.mem_of_mem_take hy))
        · intro i j hi hj
          rw [e] at hi
          show (w.cell? ⟨b, o + lo * s + (i * s + j), none⟩).isSome = true
          rw [hcell i j hi hj]; rfl
        · intro i j hi hj
          rw [e] at hi
          show VRel _ _ _ _ ((w.cell? ⟨b, o + lo * s + (i * s + j), none⟩).getD undef)
          rw [hcell i j hi hj, hx i hi]
          exact (q4 (lo + i) j (by omega) hj).mono ⟨okF_dn h k, fun _ _ => rfl⟩ (fun _ _ h => by simp [Beta.none] at h) (fun _ _ _ _ _ _ _ _ h => by simp [Beta.none] at h)
      rw [e] at key
      exact key
/-! ### A name for another -/
abbrev mvF (k' : Key) : Nat → Nat → V := fun lo len => .row k' lo len
abbrev mvG (k' : Key) : Nat → Nat → V := fun i j => .ptr k' i j
def mvB (β : Beta) (k k' : Key) : Beta := fun q => if k' = q then β k else if k = q then none else β q
theorem HR.move (h : HR G L w0 w β hs) {k k' : Key} (hk : lkB hs k' = none) (hne : k ≠ k') :
    Gone (okF G L w0 w β) (okF G L w0 w (mvB β k k')) w β k (mvF k') (mvG k') (mvB β k k') := by
  refine ⟨fun b hb => ⟨hb.1, hb.2.1, fun q o s m hq => ?_⟩, ?_, ?_, ?_⟩
  · unfold mvB at hq
    split at hq
    · exact hb.2.2 _ _ _ _ hq
    · split at hq
      · cases hq
      · exact hb.2.2 _ _ _ _ hq
  · intro lo len x hv
    cases hv with
    | rowZ g => exact .rowZ (show mvB β k k' k' = some _ by simp only [mvB, if_true]; exact g)
    | row g1 g2 g3 g4 g5 => exact .row (show mvB β k k' k' = some _ by simp only [mvB, if_true]; exact g1) g2 g3 g4 g5
  · intro i j x hv
    cases hv with
    | ptr g => exact .ptr (show mvB β k k' k' = some _ by simp only [mvB, if_true]; exact g)
  · intro q inf hq hqi
    have : k' ≠ q := fun e => by subst e; rw [h.dom _ hk] at hqi; cases hqi
    simp [mvB, this, Ne.symm hq, hqi]
theorem HR.rename (h : HR G L w0 w β hs) {k k' : Key} {B : Blk} (hB : lkB hs k = some B) (hk : lkB hs k' = none) (hne : k ≠ k') (ha : k'.isA = false := by rfl) :
    HR G L w0 w (mvB β k k') ((k', subB k (mvF k') (mvG k') B) :: subH k (mvF k') (mvG k') (eraseB hs k)) := by
  have H := h.move hk hne
  refine ⟨h.os, h.tape, h.output, h.size, h.keep, ?_, ?_, ?_, ?_, h.g, fun n inf hn => h.arg n inf (by
    unfold mvB at hn
    split at hn
    · rename_i e; subst e; cases ha
    · split at hn
      · cases hn
      · exact hn), h.grow⟩
  · intro q hq
    simp only [lkB] at hq
    split at hq
    · cases hq
    · rename_i e
      rw [lkB_subH, lkB_eraseB] at hq
      by_cases e2 : k = q
      · simp [mvB, e, e2]
      · simp [e2] at hq; simp [mvB, e, e2, h.dom _ hq]
  · intro q B' hq
    simp only [lkB] at hq
    split at hq
    · rename_i e
      cases hq
      subst e
      obtain ⟨inf, h1, h2⟩ := h.rel k B hB
      refine ⟨inf, by simp [mvB, h1], ?_⟩
      have := h2.sub H
      cases B <;> exact this
    · rename_i e
      rw [lkB_subH, lkB_eraseB] at hq
      by_cases e2 : k = q
      · simp [e2] at hq
      · simp [e2] at hq
        obtain ⟨B0, hB0, rfl⟩ := hq
        obtain ⟨inf, h1, h2⟩ := h.rel q B0 hB0
        refine ⟨inf, by simp [mvB, e, e2, h1], ?_⟩
        have := h2.sub H
        cases B0 <;> exact this
  · intro q q' b o s m o' s' m' h1 h2
    unfold mvB at h1 h2
    split at h1 <;> split at h2
    · rename_i e1 e2; exact e1.symm.trans e2
    · split at h2
      · cases h2
      · rename_i e3; exact absurd (h.inj _ _ _ _ _ _ _ _ _ h1 h2) e3
    · split at h1
      · cases h1
      · rename_i e3; exact absurd (h.inj _ _ _ _ _ _ _ _ _ h2 h1) e3
    · split at h1
      · cases h1
      · split at h2
        · cases h2
        · exact h.inj _ _ _ _ _ _ _ _ _ h1 h2
  · intro q b o s m h1
    unfold mvB at h1
    split at h1
    · exact h.own _ _ _ _ _ h1
    · split at h1
      · cases h1
      · exact h.own _ _ _ _ _ h1

end
end Go.Sym
