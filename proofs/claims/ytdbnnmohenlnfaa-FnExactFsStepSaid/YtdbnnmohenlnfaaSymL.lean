/- The use of a contract whose function is lent blocks of the caller's own. -/
import Derived.Test.YtdbnnmohenlnfaaSymJ
namespace Go.Sym
set_option linter.unusedVariables false
set_option linter.unusedSimpArgs false

mutual
def V.rn (σ : Key → Key) : V → V
  | .agg cs => .agg (rnL σ cs)
  | .tup cs => .tup (rnL σ cs)
  | .fn f cs => .fn f (rnL σ cs)
  | .ptr k i j => .ptr (σ k) i j
  | .row k lo len => .row (σ k) lo len
  | .un => .un
  | .sc v => .sc v
  | .nil => .nil
  | .rd s xs => .rd s xs
  | .rp cs => .rp cs
  | .ifc t v => .ifc t (v.rn σ)
def rnL (σ : Key → Key) : List V → List V
  | [] => []
  | v :: vs => v.rn σ :: rnL σ vs
/-- All names are such. -/
def V.kin (q : Key → Bool) : V → Bool
  | .agg cs => kinL q cs
  | .tup cs => kinL q cs
  | .fn _ cs => kinL q cs
  | .ifc _ v => v.kin q
  | .ptr k _ _ => q k
  | .row k _ _ => q k
  | _ => true
def kinL (q : Key → Bool) : List V → Bool
  | [] => true
  | v :: vs => v.kin q && kinL q vs
/-- Some names are given up. -/
def V.fg (q : Key → Bool) : V → V
  | .agg cs => .agg (fgL q cs)
  | .tup cs => .tup (fgL q cs)
  | .fn f cs => .fn f (fgL q cs)
  | .ptr k i j => if q k then .un else .ptr k i j
  | .row k lo len => if q k then .un else .row k lo len
  | .un => .un
  | .sc v => .sc v
  | .nil => .nil
  | .rd s xs => .rd s xs
  | .rp cs => .rp cs
  | .ifc t v => .ifc t (v.fg q)
def fgL (q : Key → Bool) : List V → List V
  | [] => []
  | v :: vs => v.fg q :: fgL q vs
end
def Blk.rn (σ : Key → Key) : Blk → Blk
  | .box cs => .box (rnL σ cs)
  | .row s xs => .row s xs
def Blk.kin (q : Key → Bool) : Blk → Bool
  | .box cs => kinL q cs
  | .row _ _ => true
def Blk.fg (q : Key → Bool) : Blk → Blk
  | .box cs => .box (fgL q cs)
  | .row s xs => .row s xs

theorem rnL_length (σ : Key → Key) (cs : List V) : (rnL σ cs).length = cs.length := by
  induction cs with
  | nil => simp [rnL]
  | cons x h ih => simp [rnL, ih]
theorem rnL_getD (σ : Key → Key) (cs : List V) (i : Nat) : (rnL σ cs).getD i .un = (cs.getD i .un).rn σ := by
  induction cs generalizing i with
  | nil => simp [rnL, V.rn]
  | cons x h ih =>
    cases i with
    | zero => simp [rnL]
    | succ i => simpa [rnL] using ih i
theorem fgL_length (q : Key → Bool) (cs : List V) : (fgL q cs).length = cs.length := by
  induction cs with
  | nil => simp [fgL]
  | cons x h ih => simp [fgL, ih]
theorem fgL_getD (q : Key → Bool) (cs : List V) (i : Nat) : (fgL q cs).getD i .un = (cs.getD i .un).fg q := by
  induction cs generalizing i with
  | nil => simp [fgL, V.fg]
  | cons x h ih =>
    cases i with
    | zero => simp [fgL]
    | succ i => simpa [fgL] using ih i
theorem kinL_get {q : Key → Bool} : ∀ {cs : List V}, kinL q cs = true → ∀ i, (cs.getD i .un).kin q = true
  | [], _, i => by simp [V.kin]
  | v :: vs, h, i => by
    simp [kinL] at h
    cases i with
    | zero => simpa using h.1
    | succ i => simpa using kinL_get h.2 i
mutual
theorem V.fg_none : ∀ (v : V), v.fg (fun _ => false) = v
  | .agg cs => by simp [V.fg, fgL_none cs]
  | .tup cs => by simp [V.fg, fgL_none cs]
  | .fn f cs => by simp [V.fg, fgL_none cs]
  | .ptr k i j => by simp [V.fg]
  | .row k lo len => by simp [V.fg]
  | .un => by simp [V.fg]
  | .sc v => by simp [V.fg]
  | .nil => by simp [V.fg]
  | .rd s xs => by simp [V.fg]
  | .rp cs => by simp [V.fg]
  | .ifc t v => by simp [V.fg, V.fg_none v]
theorem fgL_none : ∀ (cs : List V), fgL (fun _ => false) cs = cs
  | [] => by simp [fgL]
  | v :: vs => by simp [fgL, V.fg_none v, fgL_none vs]
end

theorem VRel.shift {p p' : Nat → Prop} {w : World} {v : V} {x : Value} (h : VRel p w Beta.none v x) (hp : ∀ b, p b → p' b) (β : Beta) : VRel p' w β v x :=
  h.mono ⟨hp, fun _ _ => rfl⟩ (fun _ _ h => by simp [Beta.none] at h) (fun _ _ _ _ _ _ _ _ h => by simp [Beta.none] at h)

theorem VRel.unrn {p p' : Nat → Prop} {w : World} {β β' : Beta} {σ : Key → Key} {q : Key → Bool} (hb : ∀ k inf, q k = true → β (σ k) = some inf → β' k = some inf) (hp : ∀ b, p b → p' b) {u : V} {x : Value} (h : VRel p w β u x) :
    ∀ v : V, v.rn σ = u → v.kin q = true → VRel p' w β' v x := by
  induction h with
  | un => intro v hv _; cases v <;> simp [V.rn] at hv; exact .un
  | sc h0 => intro v hv _; cases v <;> simp [V.rn] at hv; subst hv; exact .sc h0
  | nil => intro v hv _; cases v <;> simp [V.rn] at hv; exact .nil
  | agg hl _ ih =>
    intro v hv hq
    cases v <;> simp [V.rn] at hv
    rename_i cs
    subst hv
    rw [rnL_length] at hl
    exact .agg hl fun i hi => ih i (by rw [rnL_length]; exact hi) hb _ (by rw [rnL_getD]) (kinL_get (by simpa [V.kin] using hq) i)
  | tup hl _ ih =>
    intro v hv hq
    cases v <;> simp [V.rn] at hv
    rename_i cs
    subst hv
    rw [rnL_length] at hl
    exact .tup hl fun i hi => ih i (by rw [rnL_length]; exact hi) hb _ (by rw [rnL_getD]) (kinL_get (by simpa [V.kin] using hq) i)
  | fn hl _ ih =>
    intro v hv hq
    cases v <;> simp [V.rn] at hv
    rename_i f cs
    obtain ⟨rfl, hv⟩ := hv
    subst hv
    rw [rnL_length] at hl
    exact .fn hl fun i hi => ih i (by rw [rnL_length]; exact hi) hb _ (by rw [rnL_getD]) (kinL_get (by simpa [V.kin] using hq) i)
  | ifc _ ih =>
    intro v hv hq
    cases v <;> simp [V.rn] at hv
    obtain ⟨rfl, rfl⟩ := hv
    exact .ifc (ih hb _ rfl (by simpa [V.kin] using hq))
  | ptr hk =>
    intro v hv hq
    cases v <;> simp [V.rn] at hv
    obtain ⟨rfl, rfl, rfl⟩ := hv
    exact .ptr (hb _ _ (by simpa [V.kin] using hq) hk)
  | rowZ hk =>
    intro v hv hq
    cases v <;> simp [V.rn] at hv
    obtain ⟨rfl, rfl, rfl⟩ := hv
    exact .rowZ (hb _ _ (by simpa [V.kin] using hq) hk)
  | row hk h0 h1 h2 h3 =>
    intro v hv hq
    cases v <;> simp [V.rn] at hv
    obtain ⟨rfl, rfl, rfl⟩ := hv
    exact .row (hb _ _ (by simpa [V.kin] using hq) hk) h0 h1 h2 h3
  | rd h1 h2 h3 h4 h5 =>
    intro v hv hq
    cases v <;> simp [V.rn] at hv
    obtain ⟨rfl, rfl⟩ := hv
    exact (VRel.rd (β := Beta.none) h1 h2 h3 h4 h5).shift hp _
  | rp h0 h1 h2 h3 h4 =>
    intro v hv hq
    cases v <;> simp [V.rn] at hv
    subst hv
    exact (VRel.rp (β := Beta.none) h0 h1 h2 h3 h4).shift hp _

theorem VRel.rn {p p' : Nat → Prop} {w : World} {β β' : Beta} {σ : Key → Key} {v : V} {x : Value} (h : VRel p w β v x) (hp : ∀ b, p b → p' b) : (∀ k inf, β k = some inf → β' (σ k) = some inf) → VRel p' w β' (v.rn σ) x := by
  induction h with
  | un => intro _; simpa [V.rn] using .un
  | sc hv => intro _; simpa [V.rn] using .sc hv
  | nil => intro _; simpa [V.rn] using .nil
  | agg hl _ ih => intro hb; simp only [V.rn]; exact .agg (by rw [rnL_length]; exact hl) fun i hi => by rw [rnL_getD]; exact ih i (by rw [rnL_length] at hi; exact hi) hb
  | tup hl _ ih => intro hb; simp only [V.rn]; exact .tup (by rw [rnL_length]; exact hl) fun i hi => by rw [rnL_getD]; exact ih i (by rw [rnL_length] at hi; exact hi) hb
  | fn hl _ ih => intro hb; simp only [V.rn]; exact .fn (by rw [rnL_length]; exact hl) fun i hi => by rw [rnL_getD]; exact ih i (by rw [rnL_length] at hi; exact hi) hb
  | ifc _ ih => intro hb; simp only [V.rn]; exact .ifc (ih hb)
  | ptr hk => intro hb; simp only [V.rn]; exact .ptr (hb _ _ hk)
  | rowZ hk => intro hb; simp only [V.rn]; exact .rowZ (hb _ _ hk)
  | row hk h0 h1 h2 h3 => intro hb; simp only [V.rn]; exact .row (hb _ _ hk) h0 h1 h2 h3
  | rd h1 h2 h3 h4 h5 => intro _; simp only [V.rn]; exact (VRel.rd (β := Beta.none) h1 h2 h3 h4 h5).shift hp _
  | rp h0 h1 h2 h3 h4 => intro _; simp only [V.rn]; exact (VRel.rp (β := Beta.none) h0 h1 h2 h3 h4).shift hp _

theorem VRel.fg {p : Nat → Prop} {w : World} {β : Beta} (q : Key → Bool) {v : V} {x : Value} (h : VRel p w β v x) : ∀ β', (∀ k inf, q k = false → β k = some inf → β' k = some inf) → VRel p w β' (v.fg q) x := by
  induction h with
  | un => intro _ _; simpa [V.fg] using .un
  | sc hv => intro _ _; simpa [V.fg] using .sc hv
  | nil => intro _ _; simpa [V.fg] using .nil
  | agg hl _ ih => intro β' hb; simp only [V.fg]; exact .agg (by rw [fgL_length]; exact hl) fun i hi => by rw [fgL_getD]; exact ih i (by rw [fgL_length] at hi; exact hi) β' hb
  | tup hl _ ih => intro β' hb; simp only [V.fg]; exact .tup (by rw [fgL_length]; exact hl) fun i hi => by rw [fgL_getD]; exact ih i (by rw [fgL_length] at hi; exact hi) β' hb
  | fn hl _ ih => intro β' hb; simp only [V.fg]; exact .fn (by rw [fgL_length]; exact hl) fun i hi => by rw [fgL_getD]; exact ih i (by rw [fgL_length] at hi; exact hi) β' hb
  | ifc _ ih => intro β' hb; simp only [V.fg]; exact .ifc (ih β' hb)
  | ptr hk =>
    intro β' hb; simp only [V.fg]; split
    · exact .un
    · rename_i e; exact .ptr (hb _ _ (by simpa using e) hk)
  | rowZ hk =>
    intro β' hb; simp only [V.fg]; split
    · exact .un
    · rename_i e; exact .rowZ (hb _ _ (by simpa using e) hk)
  | row hk h0 h1 h2 h3 =>
    intro β' hb; simp only [V.fg]; split
    · exact .un
    · rename_i e; exact .row (hb _ _ (by simpa using e) hk) h0 h1 h2 h3
  | rd h1 h2 h3 h4 h5 => intro _ _; simp only [V.fg]; exact .rd h1 h2 h3 h4 h5
  | rp h0 h1 h2 h3 h4 => intro _ _; simp only [V.fg]; exact .rp h0 h1 h2 h3 h4

/-- The callee's names, in the caller's. -/
def sig (ks : List Key) (d : Nat) : Key → Key
  | .a i => ks.getD i (.a i)
  | .r n => .c d n
  | k => k
def inB (h0 : Hp) : Key → Bool
  | .a i => (lkB h0 (.a i)).isSome
  | _ => false
def okH (ks : List Key) (d : Nat) (st : St) (h' : Hp) : Bool :=
  h'.all fun p => match p.1 with | .a i => decide (i < ks.length) | .r n => (lkB st.hs (.c d n)).isNone | _ => false
def lostL (ks : List Key) (h' : Hp) : List Key := (ks.zipIdx.filter fun p => (lkB h' (.a p.2)).isNone).map (·.1)
def fgT (l : List Key) (ts : List (Nat × V)) : List (Nat × V) := match l with | [] => ts | l => ts.map fun p => (p.1, p.2.fg fun k => l.contains k)
def fgH (l : List Key) (hs : Hp) : Hp := match l with | [] => hs | l => hs.map fun p => (p.1, p.2.fg fun k => l.contains k)
/-- The caller's state after the call. -/
def after (ks : List Key) (d : Nat) (h' : Hp) (st : St) : St :=
  { ts := fgT (lostL ks h') st.ts, hs := (h'.map fun p => (sig ks d p.1, p.2.rn (sig ks d))) ++ fgH (lostL ks h') (st.hs.filter fun p => !ks.contains p.1) }
def lendOK (ks : List Key) (d : Nat) (st : St) (h0 : Hp) : Hp → Prop
  | [] => True
  | (k, B) :: r => ((match k with | .a i => decide (i < ks.length) | _ => false) && B.kin (inB h0)) = true ∧ lkB st.hs (sig ks d k) = some (B.rn (sig ks d)) ∧ lendOK ks d st h0 r

theorem lendOK_get {ks : List Key} {d : Nat} {st : St} {h0 : Hp} : ∀ {h : Hp}, lendOK ks d st h0 h → ∀ k B, lkB h k = some B → (∃ i, k = .a i ∧ i < ks.length) ∧ lkB st.hs (sig ks d k) = some (B.rn (sig ks d)) ∧ B.kin (inB h0) = true
  | [], _, k, B, h => by simp [lkB] at h
  | (q, B') :: r, hl, k, B, h => by
    simp only [lkB] at h
    split at h
    · rename_i e
      subst e
      cases h
      obtain ⟨h1, h2, _⟩ := hl
      simp only [Bool.and_eq_true] at h1
      refine ⟨?_, h2, h1.2⟩
      have h3 := h1.1
      split at h3
      · exact ⟨_, rfl, by simpa using h3⟩
      · cases h3
    · exact lendOK_get hl.2.2 k B h

theorem lkV_fgT (l : List Key) (ts : List (Nat × V)) (n : Nat) : lkV (fgT l ts) n = (lkV ts n).fg fun k => l.contains k := by
  unfold fgT
  split
  · have : (fun k => List.contains ([] : List Key) k) = fun _ => false := by funext k; rfl
    rw [this, V.fg_none]
  · induction ts with
    | nil => simp [lkV, V.fg]
    | cons x ts ih =>
      obtain ⟨q, v⟩ := x
      simp only [List.map_cons, lkV]
      split
      · rfl
      · exact ih
theorem lkB_fgH (l : List Key) (hs : Hp) (k : Key) : lkB (fgH l hs) k = (lkB hs k).map fun B => B.fg fun k => l.contains k := by
  unfold fgH
  split
  · have : (fun k => List.contains ([] : List Key) k) = fun _ => false := by funext k; rfl
    rw [this]
    cases lkB hs k with
    | none => rfl
    | some B => cases B <;> simp [Blk.fg, fgL_none]
  · induction hs with
    | nil => simp [lkB]
    | cons x hs ih =>
      obtain ⟨q, B⟩ := x
      simp only [List.map_cons, lkB]
      split
      · rfl
      · exact ih
theorem lkB_filter (ks : List Key) (hs : Hp) (k : Key) : lkB (hs.filter fun p => !ks.contains p.1) k = if ks.contains k then none else lkB hs k := by
  induction hs with
  | nil => simp [lkB]
  | cons x hs ih =>
    obtain ⟨q, B⟩ := x
    simp only [List.filter_cons]
    by_cases hq : ks.contains q = true
    · simp only [hq, Bool.not_true, Bool.false_eq_true, if_false, ih, lkB]
      by_cases e : q = k
      · subst e; rw [if_pos hq, if_pos hq]
      · simp [e]
    · simp only [hq, Bool.not_false, if_true, lkB, ih]
      by_cases e : q = k
      · subst e; rw [if_pos rfl, if_neg hq, if_pos rfl]
      · simp [e]
theorem lkB_mapA1 {σ : Key → Key} {ok : Key → Prop} (hinj : ∀ k k', ok k → ok k' → σ k = σ k' → k = k') : ∀ {h : Hp}, (∀ p, p ∈ h → ok p.1) → ∀ {k : Key} {B : Blk}, lkB h k = some B → lkB (h.map fun p => (σ p.1, p.2.rn σ)) (σ k) = some (B.rn σ)
  | [], _, k, B, h => by simp [lkB] at h
  | (q, B') :: r, hok, k, B, h => by
    simp only [lkB] at h
    simp only [List.map_cons, lkB]
    split at h
    · rename_i e; subst e; cases h; simp
    · rename_i e
      have hk : ok k := by
        have key : ∀ {r : Hp}, (∀ p, p ∈ r → ok p.1) → lkB r k = some B → ok k := by
          intro r
          induction r with
          | nil => intro _ h; simp [lkB] at h
          | cons x r ih =>
            obtain ⟨q2, B2⟩ := x
            intro ho h
            simp only [lkB] at h
            split at h
            · rename_i e; subst e; exact ho _ List.mem_cons_self
            · exact ih (fun p hp => ho p (List.mem_cons_of_mem _ hp)) h
        exact key (fun p hp => hok p (List.mem_cons_of_mem _ hp)) h
      rw [if_neg (fun e2 => e (hinj _ _ (hok _ List.mem_cons_self) hk e2))]
      exact lkB_mapA1 hinj (fun p hp => hok p (List.mem_cons_of_mem _ hp)) h
theorem lkB_mapA2 {σ : Key → Key} : ∀ {h : Hp} {k : Key} {B : Blk}, lkB (h.map fun p => (σ p.1, p.2.rn σ)) k = some B → ∃ k' B', lkB h k' = some B' ∧ k = σ k' ∧ B = B'.rn σ
  | [], k, B, h => by simp [lkB] at h
  | (q, B') :: r, k, B, h => by
    simp only [List.map_cons, lkB] at h
    split at h
    · rename_i e; cases h; exact ⟨q, B', by simp [lkB], e.symm, rfl⟩
    · rename_i e
      obtain ⟨k', B2, h1, h2, h3⟩ := lkB_mapA2 h
      refine ⟨k', B2, ?_, h2, h3⟩
      simp only [lkB]
      rw [if_neg (fun e2 => e (by rw [e2]; exact h2.symm))]
      exact h1
theorem lkB_mem {h : Hp} {k : Key} {B : Blk} (hk : lkB h k = some B) : ∃ p, p ∈ h ∧ p.1 = k := by
  induction h with
  | nil => simp [lkB] at hk
  | cons x r ih =>
    obtain ⟨q, B'⟩ := x
    simp only [lkB] at hk
    split at hk
    · rename_i e; exact ⟨_, List.mem_cons_self, e⟩
    · obtain ⟨p, h1, h2⟩ := ih hk; exact ⟨p, List.mem_cons_of_mem _ h1, h2⟩

section
variable {P : Program} {st : St}

theorem CallS.lend {f : FuncId} {vs us : List V} {h0 : Hp} (ks : List Key) (d : Nat) {K0 : V → Hp → Prop} {K : V → St → Prop} (hc : AC P f us h0 K0) (hn : ks.Nodup) (hks : ks.all (fun k => (lkB st.hs k).isSome) = true)
    (hv : vs = rnL (sig ks d) us) (hu : kinL (inB h0) us = true) (hl : lendOK ks d st h0 h0)
    (hk : ∀ r h', K0 r h' → okH ks d st h' = true ∧ K (r.rn (sig ks d)) (after ks d h' st)) : CallS false P f vs st K := by
  intro G L w0 N a w β xs h ha
  subst hv
  have hlg := lendOK_get hl
  generalize hσ : sig ks d = σ at *
  have sa : ∀ i, i < ks.length → σ (.a i) ∈ ks ∧ ks.idxOf (σ (.a i)) = i := by
    intro i hi
    have e : σ (.a i) = ks[i] := by rw [← hσ]; simp [sig, hi]
    rw [e]
    exact ⟨List.getElem_mem _, hn.idxOf_getElem i hi⟩
  have sr : ∀ n, σ (.r n) = .c d n := fun n => by rw [← hσ]; rfl
  have hin' : ∀ k, k ∈ ks → (lkB st.hs k).isSome = true := by simpa using hks
  have hmem : ∀ k, k ∈ ks → ∃ i, i < ks.length ∧ k = σ (.a i) := by
    intro k hk
    obtain ⟨i, hi, e⟩ := List.mem_iff_getElem.1 hk
    exact ⟨i, hi, by rw [← e, ← hσ]; simp [sig, hi]⟩
  -- the callee's naming
  let βi : Beta := fun k => match k with | .a i => if (lkB h0 (.a i)).isSome then β (σ (.a i)) else none | _ => none
  have hbi : ∀ k inf, βi k = some inf → ∃ i, k = .a i ∧ i < ks.length ∧ β (σ k) = some inf ∧ (lkB h0 k).isSome = true := by
    intro k inf hk
    cases k with
    | a i =>
      simp only [βi] at hk
      split at hk
      · rename_i hs
        obtain ⟨B, hB⟩ := Option.isSome_iff_exists.1 hs
        obtain ⟨⟨i', e, hi⟩, _⟩ := hlg _ _ hB
        cases e
        exact ⟨i, rfl, hi, hk, hs⟩
      · cases hk
    | _ => simp [βi] at hk
  have hbi' : ∀ k, inB h0 k = true → ∀ inf, β (σ k) = some inf → βi k = some inf := by
    intro k hk inf hi
    cases k with
    | a i => simp only [inB] at hk; simp [βi, hk, hi]
    | _ => simp [inB] at hk
  have hpp : ∀ b, okF G L w0 w β b → okF (okF G L w0 w β) βi w w βi b := fun b hb =>
    ⟨.inl hb, hb.2.1, fun k o s m hk => by obtain ⟨i, _, _, h1, _⟩ := hbi k _ hk; exact hb.2.2 _ _ _ _ h1⟩
  have hin : HR (okF G L w0 w β) βi w w βi h0 := by
    refine ⟨rfl, rfl, rfl, Nat.le_refl _, fun _ _ _ => rfl, ?_, ?_, ?_, fun k b o s m hk => .inr ⟨k, o, s, m, hk⟩, ?_, fun _ _ h => h, Grows.refl w⟩
    · intro k hk
      cases hq : βi k with
      | none => rfl
      | some inf => obtain ⟨i, _, _, _, h1⟩ := hbi k _ hq; rw [hk] at h1; cases h1
    · intro k B hB
      obtain ⟨⟨i, rfl, hi⟩, h1, h2⟩ := hlg k B hB
      obtain ⟨inf, g1, g2⟩ := h.hr.rel _ _ h1
      refine ⟨inf, hbi' _ (by simp [inB, hB]) _ g1, ?_⟩
      cases B with
      | box cs =>
        simp only [Blk.rn] at g2
        simp only [Blk.kin] at h2
        cases g2 with
        | box q1 q2 q3 =>
          rw [rnL_length] at q2
          exact .box q1 q2 fun i hi => VRel.unrn (fun k inf hk => hbi' k hk inf) hpp (q3 i (by rw [rnL_length]; exact hi)) _ (by rw [rnL_getD]) (kinL_get h2 i)
      | row s xs =>
        simp only [Blk.rn] at g2
        cases g2 with
        | rowE => exact .rowE
        | row q1 q2 q3 q4 => exact .row q1 q2 q3 fun i j hi hj => (q4 i j hi hj).shift hpp _
    · intro k k' b o s m o' s' m' h1 h2
      obtain ⟨i, rfl, hi, g1, _⟩ := hbi _ _ h1
      obtain ⟨j, rfl, hj, g2, _⟩ := hbi _ _ h2
      have := h.hr.inj _ _ _ _ _ _ _ _ _ g1 g2
      have e1 := (sa i hi).2
      rw [this, (sa j hj).2] at e1
      rw [e1]
    · intro b hb
      refine ⟨hb.2.1, ?_⟩
      rintro ⟨k, o, s, m, hk⟩
      obtain ⟨i, _, _, h1, _⟩ := hbi k _ hk
      exact hb.2.2 _ _ _ _ h1
  have hlo : ∀ b, Lof βi b → ∃ k o s m, k ∈ ks ∧ β k = some ⟨some b, o, s, m⟩ := by
    rintro b ⟨k, o, s, m, hk⟩
    obtain ⟨i, rfl, hi, h1, _⟩ := hbi k _ hk
    exact ⟨_, o, s, m, (sa i hi).1, h1⟩
  refine (hc (okF G L w0 w β) βi w xs hin ⟨by rw [← ha.1, rnL_length], fun i hi => ?_⟩).mono ?_
  · exact VRel.unrn (fun k inf hk => hbi' k hk inf) hpp (ha.2 i (by rw [rnL_length]; exact hi)) _ (by rw [rnL_getD]) (kinL_get hu i)
  rintro e w' ⟨x, r, h', β', rfl, hK0, hr, hx⟩
  obtain ⟨hok, hK⟩ := hk r h' hK0
  -- names that the callee may leave
  let okk : Key → Prop := fun k => match k with | .a i => i < ks.length | .r n => lkB st.hs (.c d n) = none | _ => False
  have hokk : ∀ p, p ∈ h' → okk p.1 := by
    intro p hp
    simp only [okH, List.all_eq_true] at hok
    have := hok p hp
    obtain ⟨k, B⟩ := p
    cases k <;> simp only at this <;> simp only [okk]
    · cases this
    · simpa using this
    · simpa using this
    · cases this
  have hin2 : ∀ k, lkB h' k ≠ none → okk k := by
    intro k hk
    cases hq : lkB h' k with
    | none => exact absurd hq hk
    | some B => obtain ⟨p, h1, h2⟩ := lkB_mem hq; rw [← h2]; exact hokk p h1
  have hinj : ∀ k k', okk k → okk k' → σ k = σ k' → k = k' := by
    intro k k' h1 h2 he
    cases k <;> simp only [okk] at h1 <;> cases k' <;> simp only [okk] at h2
    · rename_i i j
      have := (sa i h1).2
      rw [he, (sa j h2).2] at this
      rw [this]
    · rename_i i n
      have := hin' _ (sa i h1).1
      rw [he, sr, h2] at this
      cases this
    · rename_i n i
      have := hin' _ (sa i h2).1
      rw [← he, sr, h1] at this
      cases this
    · rw [sr, sr] at he; cases he; rfl
  have A1 : ∀ i inf, β' (.a i) = some inf → i < ks.length ∧ β (σ (.a i)) = some inf := by
    intro i inf hi
    obtain ⟨j, e, hj, h1, _⟩ := hbi (.a i) inf (hr.arg i inf hi)
    cases e
    exact ⟨hj, h1⟩
  let β2 : Beta := fun k => if k ∈ ks then β' (.a (ks.idxOf k)) else match k with | .c d' n => if d' = d ∧ (lkB h' (.r n)).isSome = true then β' (.r n) else β k | _ => β k
  have hdom' : ∀ k inf, β' k = some inf → lkB h' k ≠ none := fun k inf hk e => by rw [hr.dom _ e] at hk; cases hk
  have B1 : ∀ k inf, β' k = some inf → β2 (σ k) = some inf := by
    intro k inf hk
    have hk2 := hdom' _ _ hk
    have ho := hin2 k hk2
    cases k <;> simp only [okk] at ho
    · rename_i i
      simp only [β2, (sa i ho).1, if_true, (sa i ho).2]; exact hk
    · rename_i n
      have hnm : Key.c d n ∉ ks := fun hm => by have := hin' _ hm; rw [ho] at this; cases this
      have hs : (lkB h' (.r n)).isSome = true := by cases hq : lkB h' (.r n) <;> simp_all
      simp only [sr, β2, hnm, if_false, hs, and_self, if_true]; exact hk
  have B2 : ∀ k inf, β2 k = some inf → (∃ i, i < ks.length ∧ k = σ (.a i) ∧ β' (.a i) = some inf ∧ β k = some inf) ∨ (∃ n, k = .c d n ∧ β' (.r n) = some inf) ∨ (k ∉ ks ∧ β k = some inf) := by
    intro k inf hk
    by_cases hm : k ∈ ks
    · obtain ⟨i, hi, rfl⟩ := hmem k hm
      simp only [β2, hm, if_true, (sa i hi).2] at hk
      exact .inl ⟨i, hi, rfl, hk, (A1 i inf hk).2⟩
    · simp only [β2, hm, if_false] at hk
      split at hk
      · rename_i d' n
        split at hk
        · rename_i hc; exact .inr (.inl ⟨n, by rw [hc.1], hk⟩)
        · exact .inr (.inr ⟨hm, hk⟩)
      · exact .inr (.inr ⟨hm, hk⟩)
  generalize hlost : lostL ks h' = lost at hK
  have B3 : ∀ k inf, lost.contains k = false → β k = some inf → β2 k = some inf := by
    intro k inf hlk hk
    by_cases hm : k ∈ ks
    · obtain ⟨i, hi, rfl⟩ := hmem k hm
      cases hq : lkB h' (.a i) with
      | none =>
        exfalso
        have : σ (.a i) ∈ lost := by
          rw [← hlost]
          simp only [lostL, List.mem_map, List.mem_filter]
          refine ⟨(σ (.a i), i), ⟨?_, by simp [hq]⟩, rfl⟩
          have e : σ (.a i) = ks[i] := by rw [← hσ]; simp [sig, hi]
          rw [e, List.mem_zipIdx_iff_getElem?]
          simp [hi]
        have h2 : lost.contains (σ (.a i)) = true := by simpa using this
        rw [hlk] at h2; cases h2
      | some B =>
        obtain ⟨inf', g1, _⟩ := hr.rel _ _ hq
        have := (A1 _ _ g1).2
        rw [hk] at this
        cases this
        simp only [β2, hm, if_true, (sa i hi).2]; exact g1
    · simp only [β2, hm, if_false]
      split
      · rename_i d' n
        split
        · rename_i hc
          obtain ⟨hcd, hc⟩ := hc
          have := hin2 (.r n) (by intro e; rw [e] at hc; cases hc)
          simp only [okk] at this
          rw [hcd, h.hr.dom _ this] at hk
          cases hk
        · exact hk
      · exact hk
  have hnew : ∀ n b o s m, β' (.r n) = some ⟨some b, o, s, m⟩ → w.heap.size ≤ b ∨ Lof βi b := fun n b o s m hk => hr.own _ _ _ _ _ hk
  have C1 : Goes1 (okF G L w0 w β) (okF G L w0 w' β2) w w' := by
    have hnl : ∀ b, okF G L w0 w β b → ¬ Lof βi b := fun b hb hl => by obtain ⟨k, o, s, m, _, hk⟩ := hlo b hl; exact hb.2.2 _ _ _ _ hk
    refine ⟨fun b hb => ⟨hb.1, Nat.lt_of_lt_of_le hb.2.1 hr.size, fun k o s m hk => ?_⟩, fun b hb => hr.keep b hb.2.1 (hnl b hb)⟩
    rcases B2 _ _ hk with ⟨i, _, _, _, h1⟩ | ⟨n, _, h1⟩ | ⟨_, h1⟩
    · exact hb.2.2 _ _ _ _ h1
    · rcases hnew _ _ _ _ _ h1 with h2 | h2
      · exact absurd hb.2.1 (Nat.not_lt.2 h2)
      · exact hnl b hb h2
    · exact hb.2.2 _ _ _ _ h1
  have C2 : ∀ b, okF (okF G L w0 w β) βi w w' β' b → okF G L w0 w' β2 b := by
    intro b hb
    have hno : ∀ k o s m, β2 k = some ⟨some b, o, s, m⟩ → k ∉ ks ∧ β k = some ⟨some b, o, s, m⟩ := by
      intro k o s m hk
      rcases B2 _ _ hk with ⟨i, _, _, h1, _⟩ | ⟨n, _, h1⟩ | h1
      · exact absurd h1 (hb.2.2 _ _ _ _)
      · exact absurd h1 (hb.2.2 _ _ _ _)
      · exact h1
    rcases hb.1 with h1 | h1 | h1
    · exact ⟨h1.1, hb.2.1, fun k o s m hk => h1.2.2 _ _ _ _ (hno _ _ _ _ hk).2⟩
    · obtain ⟨k1, o1, s1, m1, hm1, hk1⟩ := hlo b h1
      refine ⟨?_, hb.2.1, fun k o s m hk => ?_⟩
      · rcases h.hr.own _ _ _ _ _ hk1 with h2 | h2
        · exact .inr (.inr h2)
        · exact .inr (.inl h2)
      · obtain ⟨g1, g2⟩ := hno _ _ _ _ hk
        have := h.hr.inj _ _ _ _ _ _ _ _ _ hk1 g2
        subst this
        exact g1 hm1
    · exact ⟨.inr (.inr (Nat.le_trans h.hr.size h1)), hb.2.1, fun k o s m hk => absurd (h.hr.lt (hno _ _ _ _ hk).2) (Nat.not_lt.2 h1)⟩
  have hkeeps : ∀ b : Beta, Keeps w w' b := fun _ k b o s m C t fr _ hh => hr.grow b C t fr hh
  let βl : Beta := fun k => if lost.contains k then none else β k
  have vold : ∀ {v : V} {x : Value}, OKW G L w0 w β v x → OKW G L w0 w' β2 (v.fg fun k => lost.contains k) x := by
    intro v x hv
    refine (hv.fg (fun k => lost.contains k) βl (fun k inf h1 h2 => by simp only [βl, h1]; exact h2)).mono C1 ?_ (hkeeps βl)
    intro k inf hk
    simp only [βl] at hk
    split at hk
    · cases hk
    · rename_i e; exact B3 k inf (by simpa using e) hk
  have vnew : ∀ {v : V} {x : Value}, OKW (okF G L w0 w β) βi w w' β' v x → OKW G L w0 w' β2 (v.rn σ) x := fun hv => hv.rn C2 B1
  refine ⟨fun hX => (by cases hX), x, _, _, β2, rfl, hK, ⟨?_, fun n => ?_, h.size, h.defers⟩, vnew hx⟩
  · have hcon : ∀ k, ks.contains k = true ↔ k ∈ ks := fun k => by simp
    have hnewhs : ∀ k, lkB (after ks d h' st).hs k = (lkB (h'.map fun p => (σ p.1, p.2.rn σ)) k).or (if k ∈ ks then none else (lkB st.hs k).map fun B => B.fg fun k => lost.contains k) := by
      intro k
      simp only [after, lkB_append, lkB_fgH, lkB_filter, hcon, hσ, hlost]
      congr 1
      split <;> rfl
    refine ⟨hr.os.trans h.hr.os, hr.tape.trans h.hr.tape, hr.output.trans h.hr.output, Nat.le_trans h.hr.size hr.size, ?_, ?_, ?_, ?_, ?_, h.hr.g, ?_, h.hr.grow.trans hr.grow⟩
    · intro b hb hnl
      have : ¬ Lof βi b := fun hl => by
        obtain ⟨k, o, s, m, _, hk⟩ := hlo b hl
        rcases h.hr.own _ _ _ _ _ hk with h2 | h2
        · omega
        · exact hnl h2
      exact (hr.keep b (Nat.lt_of_lt_of_le hb h.hr.size) this).trans (h.hr.keep b hb hnl)
    · intro k hk
      rw [hnewhs, Option.or_eq_none_iff] at hk
      cases hq : β2 k with
      | none => rfl
      | some inf =>
        exfalso
        have go : ∀ k', β' k' = some inf → k = σ k' → False := by
          intro k' h1 h2
          have h3 := hdom' _ _ h1
          cases h4 : lkB h' k' with
          | none => exact h3 h4
          | some B => have := lkB_mapA1 hinj hokk h4; rw [← h2, hk.1] at this; cases this
        rcases B2 _ _ hq with ⟨i, _, h1, h2, _⟩ | ⟨n, h1, h2⟩ | ⟨h1, h2⟩
        · exact go _ h2 h1
        · exact go _ h2 (by rw [sr]; exact h1)
        · have h3 := hk.2
          rw [if_neg h1] at h3
          have h4 : lkB st.hs k = none := by simpa using h3
          rw [h.hr.dom _ h4] at h2
          cases h2
    · intro k B hk
      rw [hnewhs] at hk
      cases hA : lkB (h'.map fun p => (σ p.1, p.2.rn σ)) k with
      | some B1 =>
        rw [hA] at hk
        simp at hk
        subst hk
        obtain ⟨k', B', h1, rfl, rfl⟩ := lkB_mapA2 hA
        obtain ⟨inf, g1, g2⟩ := hr.rel _ _ h1
        refine ⟨inf, B1 _ _ g1, ?_⟩
        cases g2 with
        | box q1 q2 q3 =>
          simp only [Blk.rn]
          exact .box q1 (by rw [rnL_length]; exact q2) fun i hi => by
            rw [rnL_getD]
            exact vnew (q3 i (by rw [rnL_length] at hi; exact hi))
        | rowE => exact .rowE
        | row q1 q2 q3 q4 =>
          simp only [Blk.rn]
          exact .row q1 q2 q3 fun i j hi hj => (q4 i j hi hj).shift C2 _
      | none =>
        rw [hA] at hk
        simp only [Option.none_or] at hk
        split at hk
        · cases hk
        · rename_i hm
          cases hB0 : lkB st.hs k with
          | none => rw [hB0] at hk; cases hk
          | some B0 =>
            rw [hB0] at hk
            cases hk
            obtain ⟨inf, g1, g2⟩ := h.hr.rel _ _ hB0
            have hlk : lost.contains k = false := by
              cases hq : lost.contains k with
              | false => rfl
              | true =>
                exfalso
                have : k ∈ lost := by simpa using hq
                rw [← hlost] at this
                simp only [lostL, List.mem_map, List.mem_filter] at this
                obtain ⟨p, ⟨h1, _⟩, h2⟩ := this
                obtain ⟨q, i⟩ := p
                simp only at h2
                subst h2
                rw [List.mem_zipIdx_iff_getElem?] at h1
                exact hm (List.mem_of_getElem? h1)
            refine ⟨inf, B3 _ _ hlk g1, ?_⟩
            have hnb : ∀ b, inf.blk = some b → w'.heap[b]? = w.heap[b]? := by
              intro b hb
              obtain ⟨bl, o, s, m⟩ := inf
              cases hb
              refine hr.keep b (h.hr.lt g1) fun hl => ?_
              obtain ⟨k2, o2, s2, m2, hm2, hk2⟩ := hlo b hl
              have := h.hr.inj _ _ _ _ _ _ _ _ _ g1 hk2
              subst this
              exact hm hm2
            cases g2 with
            | box q1 q2 q3 =>
              simp only [Blk.fg]
              exact .box (by rw [hnb _ rfl]; exact q1) (by rw [fgL_length]; exact q2) fun i hi => by
                rw [fgL_getD]
                exact vold (q3 i (by rw [fgL_length] at hi; exact hi))
            | rowE => exact .rowE
            | row q1 q2 q3 q4 =>
              simp only [Blk.fg]
              exact .row (by rw [hnb _ rfl]; exact q1) q2 q3 fun i j hi hj => (q4 i j hi hj).mono C1 (fun _ _ h => by simp [Beta.none] at h) (fun _ _ _ _ _ _ _ _ h => by simp [Beta.none] at h)
    · intro k k' b o s m o' s' m' h1 h2
      have low : ∀ n o s m k o' s' m', β' (.r n) = some ⟨some b, o, s, m⟩ → k ∉ ks → β k = some ⟨some b, o', s', m'⟩ → False := by
        intro n o s m k o' s' m' g1 g2 g3
        rcases hnew _ _ _ _ _ g1 with g4 | g4
        · exact absurd (h.hr.lt g3) (Nat.not_lt.2 g4)
        · obtain ⟨k2, o2, s2, m2, hm2, hk2⟩ := hlo b g4
          have := h.hr.inj _ _ _ _ _ _ _ _ _ g3 hk2
          subst this
          exact g2 hm2
      rcases B2 _ _ h1 with ⟨i, hi, rfl, g1, g2⟩ | ⟨n, rfl, g1⟩ | ⟨g1, g2⟩ <;> rcases B2 _ _ h2 with ⟨j, hj, rfl, q1, q2⟩ | ⟨n', rfl, q1⟩ | ⟨q1, q2⟩
      · exact h.hr.inj _ _ _ _ _ _ _ _ _ g2 q2
      · have := hr.inj _ _ _ _ _ _ _ _ _ g1 q1; cases this
      · exact h.hr.inj _ _ _ _ _ _ _ _ _ g2 q2
      · have := hr.inj _ _ _ _ _ _ _ _ _ g1 q1; cases this
      · have := hr.inj _ _ _ _ _ _ _ _ _ g1 q1; cases this; rfl
      · exact (low _ _ _ _ _ _ _ _ g1 q1 q2).elim
      · exact h.hr.inj _ _ _ _ _ _ _ _ _ g2 q2
      · exact (low _ _ _ _ _ _ _ _ q1 g1 g2).elim
      · exact h.hr.inj _ _ _ _ _ _ _ _ _ g2 q2
    · intro k b o s m h1
      rcases B2 _ _ h1 with ⟨i, hi, rfl, g1, g2⟩ | ⟨n, rfl, g1⟩ | ⟨g1, g2⟩
      · exact h.hr.own _ _ _ _ _ g2
      · rcases hnew _ _ _ _ _ g1 with g4 | g4
        · exact .inl (Nat.le_trans h.hr.size g4)
        · obtain ⟨k2, o2, s2, m2, _, hk2⟩ := hlo b g4
          exact h.hr.own _ _ _ _ _ hk2
      · exact h.hr.own _ _ _ _ _ g2
    · intro n inf hn
      rcases B2 _ _ hn with ⟨i, hi, _, _, g2⟩ | ⟨n', g1, _⟩ | ⟨_, g2⟩
      · exact h.hr.arg _ _ g2
      · cases g1
      · exact h.hr.arg _ _ g2
  · have : lkV (after ks d h' st).ts n = (lkV st.ts n).fg fun k => lost.contains k := by simp only [after, hlost, lkV_fgT]
    rw [this]
    exact vold (h.tmp n)
end
end Go.Sym
