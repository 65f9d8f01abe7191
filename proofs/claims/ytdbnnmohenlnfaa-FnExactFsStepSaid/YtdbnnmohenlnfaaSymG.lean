/- Calls; one operation; a region; code; its soundness. -/
import Derived.Test.YtdbnnmohenlnfaaSymF
namespace Go.Sym
set_option linter.unusedVariables false
set_option linter.unusedSimpArgs false


/-- Arguments tell values. -/
def Args (p : Nat → Prop) (w : World) (β : Beta) (vs : List V) (xs : Array Value) : Prop := vs.length = xs.size ∧ ∀ i, i < vs.length → VRel p w β (vs.getD i .un) (xs.getD i undef)

/-- THE CONTRACT OF A FUNCTION, abstractly: called with values that 'vs' tells, the blocks of 'h' lent to it, it returns; what it returns and what the lent blocks hold then is told by some r, h' that satisfy K; nothing else that was there has turned. -/
def AC (P : Program) (f : FuncId) (vs : List V) (h : Hp) (K : V → Hp → Prop) : Prop :=
  ∀ (G : Nat → Prop) (β : Beta) (w : World) (xs : Array Value), HR G β w w β h → Args (okF G β w w β) w β vs xs →
    Calls P f xs w fun e w' => ∃ x r h' β', e = .returned x ∧ K r h' ∧ HR G β w w' β' h' ∧ OKW G β w w' β' r x

theorem AC.mono {P : Program} {f : FuncId} {vs : List V} {h : Hp} {K K' : V → Hp → Prop} (hc : AC P f vs h K) (hk : ∀ r h', K r h' → K' r h') : AC P f vs h K' :=
  fun G β w xs h1 h2 => (hc G β w xs h1 h2).mono fun e w' ⟨x, r, h', β', e1, e2, e3⟩ => ⟨x, r, h', β', e1, hk _ _ e2, e3⟩

section
variable {P : Program} {G : Nat → Prop} {L : Beta} {w0 w : World} {N : Nat} {st : St} {a : Act} {β : Beta}

/-- A call: the caller's abstract view. 'use' says what follows of the contract. -/
def CallS (X : Bool) (P : Program) (f : FuncId) (vs : List V) (st : St) (K : V → St → Prop) : Prop :=
  ∀ (G : Nat → Prop) (L : Beta) (w0 : World) (N : Nat) (a : Act) (w : World) (β : Beta) (xs : Array Value), Abs G L w0 N st a w β → Args (okF G L w0 w β) w β vs xs →
    Calls P f xs w fun e w' => (X = true → Ext w w') ∧ ∃ x v st' β', e = .returned x ∧ K v st' ∧ Abs G L w0 N st' a w' β' ∧ OKW G L w0 w' β' v x

theorem CallS.mono {X : Bool} {f : FuncId} {vs : List V} {K K' : V → St → Prop} (h : CallS X P f vs st K) (hk : ∀ v s, K v s → K' v s) : CallS X P f vs st K' :=
  fun G L w0 N a w β xs h1 h2 => (h G L w0 N a w β xs h1 h2).mono fun e w' ⟨hx, x, v, s, β', e1, e2, e3⟩ => ⟨hx, x, v, s, β', e1, hk _ _ e2, e3⟩


mutual
/-- It names no block of the call's own. -/
def V.noKey : V → Bool
  | .agg cs => noKeyL cs
  | .tup cs => noKeyL cs
  | .fn _ cs => noKeyL cs
  | .ifc _ v => v.noKey
  | .ptr _ _ _ => false
  | .row _ _ _ => false
  | _ => true
def noKeyL : List V → Bool
  | [] => true
  | v :: vs => v.noKey && noKeyL vs
/-- It leads to no memory but to rows of the call's own. -/
def V.flat : V → Bool
  | .agg cs => flatL cs
  | .tup cs => flatL cs
  | .fn _ cs => flatL cs
  | .ifc _ v => v.flat
  | .ptr _ _ _ => false
  | .rd _ _ => false
  | .rp _ => false
  | _ => true
def flatL : List V → Bool
  | [] => true
  | v :: vs => v.flat && flatL vs
end
theorem noKeyL_get : ∀ {cs : List V}, noKeyL cs = true → ∀ i, (cs.getD i .un).noKey = true
  | [], _, i => by simp [V.noKey]
  | v :: vs, h, i => by
    simp [noKeyL] at h
    cases i with
    | zero => simpa using h.1
    | succ i => simpa using noKeyL_get h.2 i
theorem flatL_get : ∀ {cs : List V}, flatL cs = true → ∀ i, (cs.getD i .un).flat = true
  | [], _, i => by simp [V.flat]
  | v :: vs, h, i => by
    simp [flatL] at h
    cases i with
    | zero => simpa using h.1
    | succ i => simpa using flatL_get h.2 i

theorem VRel.noKey {p : Nat → Prop} {v : V} {x : Value} (h : VRel p w β v x) : v.noKey = true → ∀ β', VRel p w β' v x := by
  induction h with
  | un => intro _ _; exact .un
  | sc hv => intro _ _; exact .sc hv
  | nil => intro _ _; exact .nil
  | agg hl _ ih => intro hn β'; simp [V.noKey] at hn; exact .agg hl fun i hi => ih i hi (noKeyL_get hn i) β'
  | tup hl _ ih => intro hn β'; simp [V.noKey] at hn; exact .tup hl fun i hi => ih i hi (noKeyL_get hn i) β'
  | fn hl _ ih => intro hn β'; simp [V.noKey] at hn; exact .fn hl fun i hi => ih i hi (noKeyL_get hn i) β'
  | ptr => intro hn; simp [V.noKey] at hn
  | rowZ => intro hn; simp [V.noKey] at hn
  | row => intro hn; simp [V.noKey] at hn
  | rd h1 h2 h3 h4 h5 => intro _ _; exact .rd h1 h2 h3 h4 h5
  | rp h0 h1 h2 h3 h4 => intro _ _; exact .rp h0 h1 h2 h3 h4
  | ifc _ ih => intro hn β'; simp [V.noKey] at hn; exact .ifc (ih hn β')

/-- How an argument is handed on: as it is, or a row of ours for reading. -/
inductive Lend (own : Bool) (hs : Hp) : V → V → Prop where
  | same {v} : v.noKey = true → Lend own hs v v
  | un {v} : Lend own hs v .un
  | row {k lo len s xs} : own = true → lkB hs k = some (.row s xs) → Lend own hs (.row k lo len) (.rd s ((xs.drop lo).take len))
  | nil {s} : Lend own hs .nil (.rd s [])
  | agg {cs ds} : cs.length = ds.length → (∀ i, i < cs.length → Lend own hs (cs.getD i .un) (ds.getD i .un)) → Lend own hs (.agg cs) (.agg ds)

/-- What a callee may read: what we may read, and our own blocks. -/
def okL (own : Bool) (G : Nat → Prop) (L : Beta) (w0 w : World) (β : Beta) (b : Nat) : Prop := okF G L w0 w β b ∨ (own = true ∧ Lof β b)

theorem HR.lend {own : Bool} (h : HR G L w0 w β st.hs) {v u : V} {x : Value} (hv : OKW G L w0 w β v x) (hl : Lend own st.hs v u) : VRel (okL own G L w0 w β) w Beta.none u x := by
  induction hl generalizing x with
  | same hn => exact (hv.noKey hn Beta.none).mono ⟨fun _ h => .inl h, fun _ _ => rfl⟩ (fun _ _ h => h) (fun _ _ _ _ _ _ _ _ h => by simp [Beta.none] at h)
  | un => exact .un
  | nil => cases hv; exact VRel.rd0
  | agg hl _ ih =>
    cases hv with
    | agg g1 g2 => exact .agg (by omega) fun i hi => ih i (by omega) (g2 i (by omega))
  | row ho hk =>
    rename_i k lo len s xs
    have H := h.gone_row hk (dnB β k) (dnB_up β k)
    have := (H.f lo len x hv).noKey rfl Beta.none
    refine this.mono (ok := okF G L w0 w (dnB β k)) ⟨fun b hb => ?_, fun _ _ => rfl⟩ (fun _ _ h => h) (fun _ _ _ _ _ _ _ _ h => by simp [Beta.none] at h)
    by_cases hx : Lof β b
    · exact .inr ⟨ho, hx⟩
    · exact .inl ⟨hb.1, hb.2.1, fun q o s' m hq => hx ⟨q, o, s', m, hq⟩⟩

def renK (d : Nat) : Key → Key
  | .r n => .c d n
  | k => k
mutual
def V.ren (d : Nat) : V → V
  | .agg cs => .agg (renL d cs)
  | .tup cs => .tup (renL d cs)
  | .fn f cs => .fn f (renL d cs)
  | .ptr k i j => .ptr (renK d k) i j
  | .row k lo len => .row (renK d k) lo len
  | .un => .un
  | .sc v => .sc v
  | .nil => .nil
  | .rd s xs => .rd s xs
  | .rp cs => .rp cs
  | .ifc t v => .ifc t (v.ren d)
def renL (d : Nat) : List V → List V
  | [] => []
  | v :: vs => v.ren d :: renL d vs
end
theorem renL_length (d : Nat) (cs : List V) : (renL d cs).length = cs.length := by
  induction cs with
  | nil => simp [renL]
  | cons x h ih => simp [renL, ih]
theorem renL_getD (d : Nat) (cs : List V) (i : Nat) : (renL d cs).getD i .un = (cs.getD i .un).ren d := by
  induction cs generalizing i with
  | nil => simp [renL, V.ren]
  | cons x h ih =>
    cases i with
    | zero => simp [renL]
    | succ i => simpa [renL] using ih i
theorem VRel.ren {p p' : Nat → Prop} {w w' : World} {β β' : Beta} {d : Nat} {v : V} {x : Value} (h : VRel p w β v x) : (∀ k inf, β k = some inf → β' (renK d k) = some inf) → (v.flat = true ∨ ∀ b, p b → p' b) → VRel p' w β' (v.ren d) x := by
  induction h with
  | un => intro _ _; simpa [V.ren] using .un
  | sc hv => intro _ _; simpa [V.ren] using .sc hv
  | nil => intro _ _; simpa [V.ren] using .nil
  | agg hl _ ih => intro hb hf; simp only [V.ren]; exact .agg (by rw [renL_length]; exact hl) fun i hi => by rw [renL_getD]; exact ih i (by rw [renL_length] at hi; exact hi) hb (hf.imp (fun h => flatL_get (by simpa [V.flat] using h) i) id)
  | tup hl _ ih => intro hb hf; simp only [V.ren]; exact .tup (by rw [renL_length]; exact hl) fun i hi => by rw [renL_getD]; exact ih i (by rw [renL_length] at hi; exact hi) hb (hf.imp (fun h => flatL_get (by simpa [V.flat] using h) i) id)
  | fn hl _ ih => intro hb hf; simp only [V.ren]; exact .fn (by rw [renL_length]; exact hl) fun i hi => by rw [renL_getD]; exact ih i (by rw [renL_length] at hi; exact hi) hb (hf.imp (fun h => flatL_get (by simpa [V.flat] using h) i) id)
  | ifc _ ih => intro hb hf; simp only [V.ren]; exact .ifc (ih hb (hf.imp (fun h => by simpa [V.flat] using h) id))
  | ptr hk => intro hb _; simp only [V.ren]; exact .ptr (hb _ _ hk)
  | rowZ hk => intro hb _; simp only [V.ren]; exact .rowZ (hb _ _ hk)
  | row hk h0 h1 h2 h3 => intro hb _; simp only [V.ren]; exact .row (hb _ _ hk) h0 h1 h2 h3
  | rd h1 h2 h3 h4 h5 =>
    intro _ hf
    simp only [V.ren]
    rcases hf with hf | hf
    · simp [V.flat] at hf
    · exact (VRel.rd (β := Beta.none) h1 h2 h3 h4 h5).mono ⟨hf, fun _ _ => rfl⟩ (fun _ _ h => by simp [Beta.none] at h) (fun _ _ _ _ _ _ _ _ h => by simp [Beta.none] at h)
  | rp h0 h1 h2 h3 h4 =>
    intro _ hf
    simp only [V.ren]
    rcases hf with hf | hf
    · simp [V.flat] at hf
    · exact (VRel.rp (β := Beta.none) h0 h1 h2 h3 h4).mono ⟨hf, fun _ _ => rfl⟩ (fun _ _ h => by simp [Beta.none] at h) (fun _ _ _ _ _ _ _ _ h => by simp [Beta.none] at h)

abbrev RowsL := List (Nat × Nat × List (List V))
def rowsH : RowsL → Hp
  | [] => []
  | (n, s, xs) :: r => (.r n, .row s xs) :: rowsH r
def rowsC (d : Nat) : RowsL → Hp
  | [] => []
  | (n, s, xs) :: r => (.c d n, .row s xs) :: rowsC d r
theorem lkB_append (a b : Hp) (k : Key) : lkB (a ++ b) k = (lkB a k).or (lkB b k) := by
  induction a with
  | nil => simp [lkB]
  | cons x h ih =>
    obtain ⟨q, B⟩ := x
    simp only [List.cons_append, lkB]
    split
    · rfl
    · exact ih
theorem lkB_rowsC (d : Nat) (rs : RowsL) (n : Nat) : lkB (rowsC d rs) (.c d n) = lkB (rowsH rs) (.r n) := by
  induction rs with
  | nil => rfl
  | cons x h ih =>
    obtain ⟨q, s, xs⟩ := x
    simp only [rowsC, rowsH, lkB, ih]
    by_cases e : q = n <;> simp [e]
theorem lkB_rowsC_none (d : Nat) (rs : RowsL) (k : Key) (h : ∀ n, k ≠ .c d n) : lkB (rowsC d rs) k = none := by
  induction rs with
  | nil => rfl
  | cons x r ih =>
    obtain ⟨q, s, xs⟩ := x
    simp only [rowsC, lkB]
    rw [if_neg (fun e => h q e.symm)]
    exact ih
theorem lkB_rowsH_some {rs : RowsL} {k : Key} {B : Blk} (h : lkB (rowsH rs) k = some B) : ∃ n s xs, k = .r n ∧ B = .row s xs := by
  induction rs with
  | nil => simp [rowsH, lkB] at h
  | cons x r ih =>
    obtain ⟨q, s, xs⟩ := x
    simp only [rowsH, lkB] at h
    split at h
    · rename_i e; cases h; exact ⟨q, s, xs, e.symm, rfl⟩
    · exact ih h

theorem getD_mem {α : Type} {l : List α} {i : Nat} {d : α} (h : i < l.length) : l.getD i d ∈ l := by
  rw [List.getD_eq_getElem?_getD, List.getElem?_eq_getElem h]
  exact List.getElem_mem _

/-- All cells of the rows are plain values. -/
def FlatRows (rs : RowsL) : Prop := ∀ q, q ∈ rs → ∀ x, x ∈ q.2.2 → ∀ v, v ∈ x → v.flat = true
def joinB (β β' : Beta) (d : Nat) (rs : RowsL) : Beta := fun k =>
  match k with
  | .c d' n => if d' = d ∧ (lkB (rowsH rs) (.r n)).isSome = true then β' (.r n) else β k
  | _ => β k

theorem lkB_rowsH_mem {rs : RowsL} {n s : Nat} {xs : List (List V)} (h : lkB (rowsH rs) (.r n) = some (.row s xs)) : (n, s, xs) ∈ rs := by
  induction rs with
  | nil => simp [rowsH, lkB] at h
  | cons x r ih =>
    obtain ⟨q, s', xs'⟩ := x
    simp only [rowsH, lkB] at h
    split at h
    · rename_i e; cases e; cases h; exact List.mem_cons_self
    · exact List.mem_cons_of_mem _ (ih h)

theorem VRel.flatAny {p p' : Nat → Prop} {w w' : World} {v : V} {x : Value} (h : VRel p w Beta.none v x) (hf : v.flat = true) (hs : v.shut = true) : VRel p' w' Beta.none v x := by
  cases h <;> first | (simp [V.flat] at hf; done) | (simp [V.shut] at hs; done) | skip
  · exact .sc ‹_›
  · exact .nil

/-- THE USE OF A CONTRACT whose function is lent nothing to write: arguments as they are, or rows of ours to read. -/
theorem CallS.use {X : Bool} (own : Bool) {f : FuncId} {vs us : List V} {d : Nat} {K0 : V → Hp → Prop} {K : V → St → Prop} (hc : AC P f us [] K0) (hl : vs.length = us.length) (hv : ∀ i, i < vs.length → Lend own st.hs (vs.getD i .un) (us.getD i .un))
    (hk : ∀ r h', K0 r h' → ∃ rs, h' = rowsH rs ∧ (own = true → r.flat = true ∧ FlatRows rs) ∧ (∀ n, lkB (rowsH rs) (.r n) ≠ none → lkB st.hs (.c d n) = none) ∧ K (r.ren d) { st with hs := rowsC d rs ++ st.hs }) : CallS X P f vs st K := by
  intro G L w0 N a w β xs h ha
  have hin : HR (okL own G L w0 w β) Beta.none w w Beta.none [] := by
    refine ⟨rfl, rfl, rfl, Nat.le_refl _, fun _ _ _ => rfl, fun _ _ => rfl, fun _ _ h => by simp [lkB] at h, fun _ _ _ _ _ _ _ _ _ h => by simp [Beta.none] at h, fun _ _ _ _ _ h => by simp [Beta.none] at h, fun b hb => ⟨?_, by rintro ⟨_, _, _, _, h⟩; simp [Beta.none] at h⟩, fun _ _ h => by simp [Beta.none] at h, Grows.refl w⟩
    rcases hb with hb | ⟨_, k, o, s, m, hb⟩
    · exact hb.2.1
    · exact h.hr.lt hb
  have hok : ∀ b, okL own G L w0 w β b → okF (okL own G L w0 w β) Beta.none w w Beta.none b := fun b hb => ⟨.inl hb, (hin.g b hb).1, fun _ _ _ _ h => by simp [Beta.none] at h⟩
  refine (hc (okL own G L w0 w β) Beta.none w xs hin ⟨by rw [← hl]; exact ha.1, fun i hi => ?_⟩).mono ?_
  · exact (h.hr.lend (ha.2 i (by omega)) (hv i (by omega))).mono ⟨hok, fun _ _ => rfl⟩ (fun _ _ h => h) (fun _ _ _ _ _ _ _ _ h => by simp [Beta.none] at h)
  · rintro e w' ⟨x, r, h', β', rfl, hK0, hr, hx⟩
    obtain ⟨rs, rfl, hfl, hfree, hK⟩ := hk r h' hK0
    have ext : Ext w w' := ⟨hr.os, hr.tape, hr.output, hr.size, fun b hb => hr.keep b hb (by rintro ⟨_, _, _, _, h⟩; simp [Beta.none] at h)⟩
    have hnew : ∀ k b o s m, β' k = some ⟨some b, o, s, m⟩ → w.heap.size ≤ b := fun k b o s m hk => (hr.own k b o s m hk).resolve_right (by rintro ⟨_, _, _, _, h⟩; simp [Beta.none] at h)
    have hrext := h.hr.ext ext
    have hjo : ∀ k inf, β k = some inf → joinB β β' d rs k = some inf := by
      intro k inf hkk
      unfold joinB
      split
      · rename_i d' n
        split
        · rename_i hc
          obtain ⟨rfl, hc⟩ := hc
          have := hfree n (by intro e; rw [e] at hc; cases hc)
          rw [h.hr.dom _ this] at hkk
          cases hkk
        · exact hkk
      · exact hkk
    have hjn : ∀ n inf, β' (.r n) = some inf → joinB β β' d rs (.c d n) = some inf := by
      intro n inf hk
      have : lkB (rowsH rs) (.r n) ≠ none := fun e => by rw [hr.dom _ e] at hk; cases hk
      have h2 : (lkB (rowsH rs) (.r n)).isSome = true := by cases hq : lkB (rowsH rs) (.r n) <;> simp_all
      simp [joinB, h2, hk]
    have hinv : ∀ k inf, joinB β β' d rs k = some inf → β k = some inf ∨ ∃ n, k = .c d n ∧ β' (.r n) = some inf := by
      intro k inf hk
      unfold joinB at hk
      split at hk
      · rename_i d' n
        split at hk
        · rename_i hc; exact .inr ⟨n, by rw [hc.1], hk⟩
        · exact .inl hk
      · exact .inl hk
    have hgo : Goes1 (okF G L w0 w β) (okF G L w0 w' (joinB β β' d rs)) w w' := by
      refine ⟨fun b hb => ⟨hb.1, Nat.lt_of_lt_of_le hb.2.1 ext.size, fun k o s m hk => ?_⟩, fun b hb => ext.heap b hb.2.1⟩
      rcases hinv _ _ hk with h1 | ⟨n, _, h1⟩
      · exact hb.2.2 _ _ _ _ h1
      · exact absurd hb.2.1 (Nat.not_lt.2 (hnew _ _ _ _ _ h1))
    have hmv : ∀ {v : V} {x : Value}, OKW G L w0 w β v x → OKW G L w0 w' (joinB β β' d rs) v x := fun hv => hv.mono hgo hjo (h.hr.keeps ext)
    have hback : own = false → ∀ b, okF (okL own G L w0 w β) Beta.none w w' β' b → okF G L w0 w' (joinB β β' d rs) b := by
      intro ho b hb
      have hnj : ∀ k o s m, joinB β β' d rs k = some ⟨some b, o, s, m⟩ → β k = some ⟨some b, o, s, m⟩ := by
        intro k o s m hj
        rcases hinv _ _ hj with h1 | ⟨n, _, h1⟩
        · exact h1
        · exact absurd h1 (hb.2.2 _ _ _ _)
      rcases hb.1 with h1 | h1 | h1
      · rcases h1 with h1 | h1
        · exact ⟨h1.1, hb.2.1, fun k o s m hj => h1.2.2 k o s m (hnj _ _ _ _ hj)⟩
        · rw [ho] at h1; simp at h1
      · obtain ⟨_, _, _, _, h1⟩ := h1; simp [Beta.none] at h1
      · exact ⟨.inr (.inr (Nat.le_trans h.hr.size h1)), hb.2.1, fun k o s m hj => absurd (h.hr.lt (hnj _ _ _ _ hj)) (Nat.not_lt.2 h1)⟩
    refine ⟨fun _ => ext, x, _, _, joinB β β' d rs, rfl, hK, ⟨?_, fun n => hmv (h.tmp n), h.size, h.defers⟩, ?_⟩
    · refine ⟨hrext.os, hrext.tape, hrext.output, hrext.size, hrext.keep, ?_, ?_, ?_, ?_, hrext.g, fun n inf hn => h.hr.arg n inf (by simpa [joinB] using hn), hrext.grow⟩
      · intro k hk
        show joinB β β' d rs k = none
        simp only [lkB_append, Option.or_eq_none_iff] at hk
        cases hj : joinB β β' d rs k with
        | none => rfl
        | some inf =>
          rcases hinv _ _ hj with h1 | ⟨n, rfl, h1⟩
          · rw [h.hr.dom _ hk.2] at h1; cases h1
          · rw [lkB_rowsC] at hk; rw [hr.dom _ hk.1] at h1; cases h1
      · intro k B hk
        simp only [lkB_append] at hk
        cases hq : lkB (rowsC d rs) k with
        | none =>
          rw [hq] at hk
          simp at hk
          obtain ⟨inf, h1, h2⟩ := h.hr.rel k B hk
          refine ⟨inf, hjo _ _ h1, h2.mono hgo hjo (h.hr.keeps ext) fun b hb => ext.heap b ?_⟩
          obtain ⟨bl, o', s', m'⟩ := inf
          cases hb
          exact h.hr.lt h1
        | some B' =>
          rw [hq] at hk
          simp at hk
          subst hk
          have : ∃ n, k = .c d n := by
            apply Classical.byContradiction
            intro hne
            rw [lkB_rowsC_none d rs k (fun n e => hne ⟨n, e⟩)] at hq
            cases hq
          obtain ⟨n, rfl⟩ := this
          rw [lkB_rowsC] at hq
          obtain ⟨inf, h1, h2⟩ := hr.rel _ _ hq
          obtain ⟨n', s', xs', e1, rfl⟩ := lkB_rowsH_some hq
          cases e1
          refine ⟨inf, hjn _ _ h1, ?_⟩
          cases h2 with
          | rowE => exact .rowE
          | row g1 g2 g3 g4 =>
            refine .row g1 g2 g3 fun i j hi hj => ?_
            have hmem : xs'.getD i [] ∈ xs' := getD_mem hi
            have hm2 : (xs'.getD i []).getD j .un ∈ xs'.getD i [] := getD_mem (by rw [(g2 _ hmem).1]; exact hj)
            cases own with
            | true => exact VRel.flatAny (g4 i j hi hj) ((hfl rfl).2 _ (lkB_rowsH_mem hq) _ hmem _ hm2) ((g2 _ hmem).2 _ hm2)
            | false => exact (g4 i j hi hj).mono ⟨hback rfl, fun _ _ => rfl⟩ (fun _ _ h => by simp [Beta.none] at h) (fun _ _ _ _ _ _ _ _ h => by simp [Beta.none] at h)
      · intro k k' b o s m o' s' m' h1 h2
        rcases hinv _ _ h1 with g1 | ⟨n, rfl, g1⟩ <;> rcases hinv _ _ h2 with g2 | ⟨n', rfl, g2⟩
        · exact h.hr.inj _ _ _ _ _ _ _ _ _ g1 g2
        · exact absurd (h.hr.lt g1) (Nat.not_lt.2 (hnew _ _ _ _ _ g2))
        · exact absurd (h.hr.lt g2) (Nat.not_lt.2 (hnew _ _ _ _ _ g1))
        · have := hr.inj _ _ _ _ _ _ _ _ _ g1 g2; cases this; rfl
      · intro k b o s m h1
        rcases hinv _ _ h1 with g1 | ⟨n, rfl, g1⟩
        · exact h.hr.own _ _ _ _ _ g1
        · exact .inl (Nat.le_trans h.hr.size (hnew _ _ _ _ _ g1))
    · refine VRel.ren (w' := w') hx ?_ (by cases own with
        | true => exact .inl (hfl rfl).1
        | false => exact .inr (hback rfl))
      intro k inf hk
      cases hq : lkB (rowsH rs) k with
      | none => rw [hr.dom _ hq] at hk; cases hk
      | some B =>
        obtain ⟨n, s, xs, rfl, rfl⟩ := lkB_rowsH_some hq
        exact hjn n inf hk
end
end Go.Sym
