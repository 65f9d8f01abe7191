/- The contract of a function out of the abstract walk of its body. -/
import Derived.Test.YtdbnnmohenlnfaaSymH
namespace Go.Sym
set_option linter.unusedVariables false
set_option linter.unusedSimpArgs false

section
variable {T : Tab} {P : Program} [hT : T.Ok P]

theorem lkV_st0 (vs : List V) (h : Hp) (n : Nat) : lkV (st0 vs h).ts n = vs.getD n .un := by
  have key : ∀ (vs : List V) (k n : Nat), lkV ((vs.zipIdx k).map fun (v, i) => (i, v)) n = if k ≤ n then vs.getD (n - k) .un else .un := by
    intro vs
    induction vs with
    | nil => intro k n; simp [lkV]
    | cons v vs ih =>
      intro k n
      simp only [List.zipIdx_cons, List.map_cons, lkV, ih]
      by_cases e : k = n
      · subst e; simp
      · by_cases h1 : k ≤ n
        · have h2 : k + 1 ≤ n := by omega
          have h3 : n - k = (n - (k + 1)) + 1 := by omega
          simp [e, h1, h2, h3]
        · have h2 : ¬ k + 1 ≤ n := by omega
          simp [e, h1, h2]
  have := key vs 0 n
  simpa [st0] using this

/-- What a function hands back, out of a state. -/
def resK (T : Tab) (st : St) : List ResultVar → (List V → Prop) → Prop
  | [], K => K []
  | .tmp t :: rs, K => resK T st rs fun vs => K (lkV st.ts t :: vs)
  | .cell a t :: rs, K => loadK T t (lkV st.ts a) st fun v _ => resK T st rs fun vs => K (v :: vs)
/-- One abstract result and heap say no less than others. -/
def RetV (K : V → Hp → Prop) (v : V) (hs : Hp) : Prop := ∃ s, Ent { ts := [(0, v)], hs := hs } s ∧ K (lkV s.ts 0) s.hs
/-- What is asked of a state at a return. -/
def RetK (T : Tab) (rs : List ResultVar) (K : V → Hp → Prop) (st : St) : Prop :=
  match rs with
  | [r] => resK T st [r] fun vs => RetV K (vs.headD .un) st.hs
  | rs => resK T st rs fun vs => RetV K (.tup vs) st.hs
def BodyQ (T : Tab) (rs : List ResultVar) (K : V → Hp → Prop) : Exit → St → Prop
  | .normal, st => RetK T rs K st
  | .ret, st => RetK T rs K st
  | _, _ => False

theorem resK_run {G : Nat → Prop} {L : Beta} {w0 w : World} {N : Nat} {st : St} {a : Act} {β : Beta} (h : Abs G L w0 N st a w β) (f : ResultVar → Sem Value) (hf : ∀ t, f (.tmp t) = pure (a.tmps.getD t undef)) (hg : ∀ c t, f (.cell c t) = do loadVar t (← asAddr (a.tmps.getD c undef))) :
    ∀ (rs : List ResultVar) (K : List V → Prop), resK T st rs K → ∃ (vs : List V) (xs : List Value), (rs.mapM f).run P w = .ok xs w ∧ K vs ∧ vs.length = rs.length ∧ xs.length = rs.length ∧ ∀ i, i < vs.length → OKW G L w0 w β (vs.getD i .un) (xs.getD i undef)
  | [], K, hk => ⟨[], [], by simp, hk, rfl, rfl, fun i hi => by simp at hi⟩
  | .tmp t :: rs, K, hk => by
    obtain ⟨vs, xs, h1, h2, h3, h4, h5⟩ := resK_run h f hf hg rs _ hk
    refine ⟨_, a.tmps.getD t undef :: xs, by simp [List.mapM_cons, hf, h1], h2, by simp [h3], by simp [h4], fun i hi => ?_⟩
    cases i with
    | zero => exact h.tmp t
    | succ i => simpa using h5 i (by simpa using hi)
  | .cell c t :: rs, K, hk => by
    simp only [resK] at hk
    obtain ⟨ad, cs, e1, e2, hk, e4⟩ := atK_sound h.hr (h.tmp c) hk
    obtain ⟨v, x, hk, hr, hv⟩ := loadC_run (P := P) e2 e4 hk
    have hr := hr w (Ext.refl w)
    obtain ⟨vs, xs, h1, h2, h3, h4, h5⟩ := resK_run h f hf hg rs _ hk
    have hl : (f (.cell c t)).run P w = .ok x w := by
      rw [hg, e1]
      simpa [Instr.loadAt, Instr.sureAddr, asAddr] using hr
    refine ⟨_, x :: xs, by simp [List.mapM_cons, hl, h1], h2, by simp [h3], by simp [h4], fun i hi => ?_⟩
    cases i with
    | zero => exact hv
    | succ i => simpa using h5 i (by simpa using hi)

theorem retK_run {G : Nat → Prop} {L : Beta} {w0 w : World} {N : Nat} {st : St} {a : Act} {β : Beta} {fn : Func} {rs : List ResultVar} {K : V → Hp → Prop} (hrs : fn.results = rs.toArray) (h : Abs G L w0 N st a w β) (hk : RetK T rs K st) :
    ∃ x r, (results fn a.tmps).run P w = .ok x w ∧ RetV K r st.hs ∧ OKW G L w0 w β r x := by
  have go : ∀ K' : List V → Prop, resK T st rs K' → ∃ (vs : List V) (xs : List Value), (results fn a.tmps).run P w = .ok (if h : xs.toArray.size = 1 then xs.toArray[0] else .tuple xs.toArray) w ∧ K' vs ∧ vs.length = rs.length ∧ xs.length = rs.length ∧ ∀ i, i < vs.length → OKW G L w0 w β (vs.getD i .un) (xs.getD i undef) := by
    intro K' hk
    obtain ⟨vs, xs, h1, h2, h3, h4, h5⟩ := resK_run (P := P) h (fun
      | .tmp t => pure (a.tmps.getD t undef)
      | .cell c t => do loadVar t (← asAddr (a.tmps.getD c undef))) (fun _ => rfl) (fun _ _ => rfl) rs K' hk
    refine ⟨vs, xs, ?_, h2, h3, h4, h5⟩
    unfold results
    rw [hrs, Sem.run_bind, List.mapM_toArray]
    rw [show (List.toArray <$> rs.mapM _ : Sem (Array Value)) = (do let l ← rs.mapM _; pure l.toArray) from rfl]
    rw [Sem.run_bind]
    erw [h1]
    rfl
  unfold RetK at hk
  split at hk
  · rename_i r
    obtain ⟨vs, xs, h1, h2, h3, h4, h5⟩ := go _ hk
    match vs, xs, h3, h4 with
    | [v], [x], _, _ => exact ⟨x, v, by simpa using h1, h2, by simpa using h5 0 (by simp)⟩
  · rename_i hne
    obtain ⟨vs, xs, h1, h2, h3, h4, h5⟩ := go _ hk
    have hl : ¬ xs.toArray.size = 1 := by
      intro e
      simp at e
      obtain ⟨r, rfl⟩ := List.length_eq_one_iff.1 (h4.symm.trans e)
      exact hne r rfl
    refine ⟨.tuple xs.toArray, _, by rw [h1, dif_neg hl], h2, .tup (by simp; omega) fun i hi => ?_⟩
    have := h5 i hi
    have e : xs.toArray.getD i undef = xs.getD i undef := by simp [List.getD_eq_getElem?_getD]
    rw [e]
    exact this

/-- THE CONTRACT, by the abstract walk. -/
theorem AC.of_body {f : FuncId} {fn : Func} {c : Code} {rs : List ResultVar} {N : Nat} {vs : List V} {h : Hp} {K : V → Hp → Prop} (hf : P.funcs[f]? = some fn) (hb : fn.body = some c) (hrs : fn.results = rs.toArray) (hN : fn.ntmps = N) (hv : vs.length ≤ N)
    (hw : awp T P N c (BodyQ T rs K) (st0 vs h)) : AC P f vs h K := by
  intro G β w xs hr ha
  refine calls_of_wp hf hb ?_
  have hA : Abs G β w N (st0 vs h) { tmps := xs ++ Array.replicate (fn.ntmps - xs.size) undef, defers := [] } w β := by
    refine ⟨hr, fun n => ?_, ?_, rfl⟩
    · rw [lkV_st0]
      by_cases hn : n < vs.length
      · have := ha.2 n hn
        have hl := ha.1
        have e : (xs ++ Array.replicate (fn.ntmps - xs.size) undef).getD n undef = xs.getD n undef := by
          have : n < xs.size := by omega
          simp [Array.getElem?_append, this]
        rw [e]
        exact this
      · have : vs.getD n .un = .un := by simp [Nat.le_of_not_lt hn]
        rw [this]
        exact .un
    · have hl := ha.1
      have : xs.size ≤ N := by omega
      simp [hN]; omega
  refine wp_mono (awp_sound (T := T) c hA hw) fun e a w' hq => ?_
  cases e with
  | normal =>
    obtain ⟨st1, β1, h1, h20⟩ := hq
    obtain ⟨x, r, g1, ⟨s2, he, g2⟩, g3⟩ := retK_run (P := P) hrs h20 h1
    obtain ⟨β', h2⟩ := he _ _ _ 1 { tmps := #[x], defers := [] } _ _ ⟨h20.hr, fun n => (by
      cases n with
      | zero => simpa [lkV] using g3
      | succ n => simp only [lkV]; exact .un), rfl, rfl⟩
    refine ⟨h20.defers, x, g1, x, _, _, β', rfl, g2, h2.hr, ?_⟩
    simpa using h2.tmp 0
  | ret =>
    obtain ⟨st1, β1, h1, h20⟩ := hq
    obtain ⟨x, r, g1, ⟨s2, he, g2⟩, g3⟩ := retK_run (P := P) hrs h20 h1
    obtain ⟨β', h2⟩ := he _ _ _ 1 { tmps := #[x], defers := [] } _ _ ⟨h20.hr, fun n => (by
      cases n with
      | zero => simpa [lkV] using g3
      | succ n => simp only [lkV]; exact .un), rfl, rfl⟩
    refine ⟨h20.defers, x, g1, x, _, _, β', rfl, g2, h2.hr, ?_⟩
    simpa using h2.tmp 0
  | exit id => obtain ⟨st', β', h1, h2⟩ := hq; exact h1.elim
  | _ => exact hq.elim
end
end Go.Sym
namespace Go.Sym
/-- Tables as lists. -/
def lkL {κ α : Type} [DecidableEq κ] : List (κ × α) → κ → Option α
  | [], _ => none
  | (k, v) :: l, q => if k = q then some v else lkL l q
def AllL {κ α : Type} (Q : κ → α → Prop) : List (κ × α) → Prop
  | [] => True
  | (k, v) :: l => Q k v ∧ AllL Q l
theorem allL_get {κ α : Type} [DecidableEq κ] {Q : κ → α → Prop} : ∀ {l : List (κ × α)}, AllL Q l → ∀ (t : κ) (v : α), lkL l t = some v → Q t v
  | [], _, _, _, h => by simp [lkL] at h
  | (k, v) :: l, h, t, u, e => by
    simp only [lkL] at e
    split at e
    · rename_i he; cases e; subst he; exact h.1
    · exact allL_get h.2 t u e
theorem allU_get {κ : Type} [DecidableEq κ] {Q : κ → Prop} {l : List (κ × Unit)} (h : AllL (fun k _ => Q k) l) (t : κ) (e : (lkL l t).isSome = true) : Q t := by
  obtain ⟨v, hv⟩ := Option.isSome_iff_exists.1 e
  exact allL_get h t v hv
end Go.Sym
