/- Regions whose order is drawn: operations that only look come first; the rest in every order. -/
import Derived.Test.YtdbnnmohenlnfaaSymJ
namespace Go.Sym
set_option linter.unusedVariables false
set_option linter.unusedSimpArgs false

section
variable {P : Program} {ops : Array Oper} {Q : Exit → Act → World → Prop} {md : Region.Mode}

/-- Every order; an operation outside 'NE' leaves what was there. -/
def wpX (P : Program) (md : Region.Mode) (ops : Array Oper) (NE : List Nat) (Q : Exit → Act → World → Prop) : Nat → Array Bool → Act → World → Prop
  | 0, listed, a, w => Region.ready md ops listed = [] ∧ Q .normal a w
  | fuel + 1, listed, a, w =>
    (Region.ready md ops listed = [] → Q .normal a w) ∧
    ∀ i ∈ Region.ready md ops listed, wpOp P ops Q i (fun a' w' => (NE.contains i = false → Ext w w') ∧ wpX P md ops NE Q fuel (listed.setIfInBounds i true) a' w') a w

theorem wpAny_of_X {NE : List Nat} : ∀ (fuel : Nat) (listed : Array Bool) (a : Act) (w : World), wpX P md ops NE Q fuel listed a w → wpAny P md ops Q fuel listed a w
  | 0, _, _, _, h => h
  | fuel + 1, _, _, _, h => ⟨h.1, fun i hi => wpOp_mono (fun a w hk => wpAny_of_X fuel _ a w hk.2) (h.2 i hi)⟩

/-- One operation apart from 'oi': whether the value of 'oi' is in its place already makes no difference. -/
theorem wpOp_put2 {j : Nat} {oi oj : Oper} {v : Value} (hj : ops[j]? = some oj) (hap : oi.apart ops oj = true)
    (hsi : ∀ cs b, oi.op ≠ .select cs b) (hsj : ∀ cs b, oj.op ≠ .select cs b)
    (hQ : ∀ c a w, Q (.panic c) (a.put oi.dst v) w → Q (.panic c) a w) {K : Act → World → Prop} {a : Act} {w : World}
    (h : wpOp P ops Q j K (a.put oi.dst v) w) :
    wpOp P ops Q j (fun a' w' => (execOp a'.eval oi = execOp a.eval oi ∧ Region.wanted oi (yielded ops a'.tmps) = Region.wanted oi (yielded ops a.tmps)) ∧ K (a'.put oi.dst v) w') a w := by
  obtain ⟨h1, h2, h3⟩ := Oper.apart_spec hap
  have keep : ∀ (a : Act) u, execOp (a.put oj.dst u).eval oi = execOp a.eval oi ∧ Region.wanted oi (yielded ops (a.put oj.dst u).tmps) = Region.wanted oi (yielded ops a.tmps) := fun a u =>
    ⟨execOp_put oi hsi a oj.dst u h3, wanted_put oi a oj.dst u h3⟩
  unfold wpOp at *
  simp only [hj] at *
  rw [wanted_put oj a oi.dst v h1] at h
  split
  · rename_i hw
    simp only [hw, if_true] at h
    rcases h with h | ⟨hasks, hlets⟩
    case inr => exact .inr ⟨by unfold Oper.asks at *; rw [execOp_put oj hsj a oi.dst v h1] at hasks; exact hasks, hlets⟩
    refine .inl ?_
    unfold Oper.wp at *
    rw [execOp_put oj hsj a oi.dst v h1] at h
    generalize (execOp a.eval oj).run P w = r at *
    cases r with
    | ok n w' =>
      cases n <;> simp only [Oper.upon] at h ⊢
      case value u => exact ⟨keep a u, by rw [← Act.put_comm a v u h2]; exact h⟩
      case skip => exact ⟨keep a _, by rw [← Act.put_comm a v undef h2]; exact h⟩
      case defer d =>
        refine ⟨keep { a with defers := d :: a.defers } _, ?_⟩
        rw [← Act.put_comm _ v undef h2, ← Act.put_defers]
        exact h
      case enter f args =>
        refine Calls.mono h fun e w'' he => ?_
        cases e with
        | returned u => exact ⟨keep a u, by rw [← Act.put_comm a v u h2]; exact he⟩
        | panicked c => exact hQ _ _ _ he
        | outgrown => exact he
      case row row args => exact Rows.mono h fun u w'' he => ⟨keep a u, by rw [← Act.put_comm a v u h2]; exact he⟩
    | halt x w' =>
      cases x <;> simp only [Oper.upon] at h ⊢
      case panic u => exact hQ _ _ _ h
  · rename_i hw
    simp only [hw] at h
    exact ⟨keep a _, by rw [← Act.put_comm a v undef h2]; exact h⟩

/-- In this state, in every world that has more, 'o' leaves 'v'. -/
def YieldsX (P : Program) (ops : Array Oper) (w : World) (o : Oper) (v : Value) (a : Act) : Prop :=
  (Region.wanted o (yielded ops a.tmps) = true ∧ ∀ w', Ext w w' → (execOp a.eval o).run P w' = .ok (.value v) w') ∨
  (Region.wanted o (yielded ops a.tmps) = false ∧ v = undef)

theorem YieldsX.op {w : World} {i : Nat} {o : Oper} {v : Value} {a : Act} {K : Act → World → Prop} (hi : ops[i]? = some o) (hy : YieldsX P ops w o v a) (h : K (a.put o.dst v) w) : wpOp P ops Q i K a w := by
  unfold wpOp
  simp only [hi]
  rcases hy with ⟨hw, hv⟩ | ⟨hw, rfl⟩
  · simp only [hw, if_true, Oper.wp, hv w (Ext.refl w), Oper.upon]; exact .inl h
  · simp only [hw, Bool.false_eq_true, if_false]; exact h

theorem getD_un {listed : Array Bool} {i : Nat} (h : listed.getD i true = false) : listed.getD i false = false := by
  rcases Nat.lt_or_ge i listed.size with h' | h'
  · simp [h'] at h ⊢; exact h
  · simp [Array.getElem?_eq_none h'] at h

/-- An operation that asks nothing of memory. -/
def isPure (o : Oper) : Bool :=
  match o.op with
  | .move _ | .assign _ | .extract .. => true
  | _ => false
theorem pure_any {o : Oper} (hp : isPure o = true) {a : Act} {w : World} {x : Value} (h : (execOp a.eval o).run P w = .ok (.value x) w) (w' : World) : (execOp a.eval o).run P w' = .ok (.value x) w' := by
  obtain ⟨dst, op, ty, pos, after, guard⟩ := o
  unfold isPure at hp
  simp only at hp
  split at hp <;> first | cases hp | skip
  · simp only [execOp] at h ⊢
    simpa using h
  · simp only [execOp] at h ⊢
    simpa using h
  · simp only [execOp, Instr.extract] at h ⊢
    split at h
    · split at h
      · simpa using h
      · simp [stuck] at h
    · simp [stuck] at h
/-- What waits for operation 'i', and what is apart from it. -/
structure Free (md : Region.Mode) (ops : Array Oper) (NE : List Nat) (i : Nat) (oi : Oper) (D : List Nat) (listed : Array Bool) : Prop where
  un : ∀ k, k ∈ D → listed.getD k true = false
  wait : ∀ k, k ∈ D → k ≠ i → ∃ o, ops[k]? = some o ∧ ∃ e, e ∈ o.after ∧ Region.binds md e = true ∧ e.on ∈ D
  rest : ∀ j oj, ops[j]? = some oj → j ∉ D → listed.getD j true = false → (NE.contains j = false ∨ isPure oi = true) ∧ oi.apart ops oj = true

theorem wpX_first {NE : List Nat} {i : Nat} {oi : Oper} {v : Value} {D : List Nat} (hi : ops[i]? = some oi) (hD : i ∈ D) (hsel : ∀ (j : Nat) (o : Oper) cs b, ops[j]? = some o → o.op ≠ .select cs b)
    (hQ : ∀ c a w, Q (.panic c) (a.put oi.dst v) w → Q (.panic c) a w) :
    ∀ (fuel : Nat) (listed : Array Bool) (a : Act) (w : World), Free md ops NE i oi D listed → i ∈ Region.ready md ops listed → YieldsX P ops w oi v a →
      wpX P md ops NE Q fuel (listed.setIfInBounds i true) (a.put oi.dst v) w → wpX P md ops NE Q (fuel + 1) listed a w := by
  intro fuel
  induction fuel with
  | zero =>
    intro listed a w _ hr hy H
    refine ⟨fun h => (by rw [h] at hr; cases hr), fun j hj => ?_⟩
    by_cases hji : j = i
    · subst hji; exact hy.op hi ⟨fun _ => Ext.refl w, H⟩
    · have := ready_mono hj hji
      rw [H.1] at this
      cases this
  | succ fuel ih =>
    intro listed a w hf hr hy H
    refine ⟨fun h => (by rw [h] at hr; cases hr), fun j hj => ?_⟩
    by_cases hji : j = i
    · subst hji; exact hy.op hi ⟨fun _ => Ext.refl w, H⟩
    · have h1 := H.2 j (ready_mono hj hji)
      obtain ⟨hjun, oj, hoj, hall⟩ := mem_ready.1 hj
      have hjD : j ∉ D := fun hjD => by
        obtain ⟨o, ho, e, he, hb, hon⟩ := hf.wait j hjD hji
        rw [hoj] at ho
        cases ho
        have h2 := hall e he hb
        rw [getD_un (hf.un _ hon)] at h2
        cases h2
      obtain ⟨hne, hap⟩ := hf.rest j oj hoj hjD hjun
      have h2 := wpOp_put2 hoj hap (fun cs b => hsel i oi cs b hi) (fun cs b => hsel j oj cs b hoj) hQ h1
      refine wpOp_mono (fun a' w' h3 => ?_) h2
      obtain ⟨⟨e1, e2⟩, h4, h5⟩ := h3
      refine ⟨h4, ih (listed.setIfInBounds j true) a' w' ?_ (ready_mono hr (Ne.symm hji)) ?_ ?_⟩
      · refine ⟨fun k hk => ?_, hf.wait, fun k ok hk hkD hun => ?_⟩
        · rw [getD_set_ne true (fun e => hjD (by rw [e]; exact hk))]; exact hf.un k hk
        · refine hf.rest k ok hk hkD ?_
          by_cases hjk : j = k
          · subst hjk; exact hjun
          · rw [getD_set_ne true hjk] at hun; exact hun
      · unfold YieldsX at *
        rw [e1, e2]
        exact hy.imp (fun ⟨p, q⟩ => ⟨p, fun w2 hw2 => hne.elim (fun hne => q w2 ((h4 hne).trans hw2)) fun hp => pure_any hp (q w (Ext.refl w)) w2⟩) id
      · rw [Array.setIfInBounds_comm _ _ hji]; exact h5
end

/-! ### The abstract walk, by a plan -/
inductive Plan where
  | done
  | look (i : Nat) (D : List Nat) (p : Plan)
  | all (l : List (Nat × Plan))

def isLook (o : Oper) : Bool :=
  match o.op with
  | .move _ | .assign _ | .load .. | .nilCheck _ | .binOp .. | .unOp .. | .convert .. | .slice .. | .fieldAddr .. | .field .. | .indexAddr .. | .index .. | .extract .. | .build .. => true
  | .call { callee := .builtin .len, .. } => true
  | _ => false

/-- The operations that only look. -/
def lookK (T : Tab) (o : Oper) (st : St) (K : V → Prop) : Prop :=
  match o.op with
  | .move x => K (ev st x)
  | .assign x => K (ev st x)
  | .load t x => loadK T t (ev st x) st fun v _ => K v
  | .nilCheck x => nilCheckK (ev st x) K
  | .binOp op t x y _ => binK T op t (ev st x) (ev st y) K
  | .unOp op _ x => unK op (ev st x) K
  | .convert s t x => convK T s t (ev st x) st K
  | .slice t x lo hi mx => sliceK T st t (ev st x) (lo.map (ev st)) (hi.map (ev st)) (mx.map (ev st)) K
  | .fieldAddr t x f => faddrK T t f (ev st x) st fun v _ => K v
  | .field t x f => fieldK T t f (ev st x) K
  | .indexAddr t x i => iaddrK T t (ev st x) (ev st i) st fun v _ => K v
  | .index t x i => indexK T t (ev st x) (ev st i) K
  | .extract x i => extractK (ev st x) i K
  | .build t ps => buildK T t (ps.toList.map fun (i, x) => (i, ev st x)) K
  | .call c => (match c.callee with | .builtin .len => Side (0 < c.args.size) ∧ lenK T c.argTypes[0]? (arg0 st c.args 0) K | _ => False)
  | _ => False

section
variable {T : Tab} {P : Program} [hT : T.Ok P] {G : Nat → Prop} {L : Beta} {w0 w : World} {N : Nat} {st : St} {a : Act} {β : Beta}

theorem StepP.pure {e : Sem Next} {K : V → Prop} {x : Value} {v : V} (he : ∀ w', e.run P w' = .ok (.value x) w') (hv : OKW G L w0 w β v x) (hk : K v) : StepP P G L w0 w β e K := StepP.mk (fun w' _ => he w') hv hk

theorem lookK_sound {o : Oper} {K : V → Prop} (h : Abs G L w0 N st a w β) (hk : lookK T o st K) : StepP P G L w0 w β (execOp a.eval o) K := by
  obtain ⟨dst, op, ty, pos, after, guard⟩ := o
  unfold lookK at hk
  simp only at hk
  split at hk
  · exact StepP.pure (fun _ => rfl) (h.ev _) hk
  · exact StepP.pure (fun _ => rfl) (h.ev _) hk
  · exact loadK_sound (K := fun v _ => K v) h (h.ev _) hk
  · rename_i x
    have hx := h.ev x
    have hr := nilCheckK_run (K := fun v _ => K v) h hx hk
    refine StepP.pure (x := a.eval x) (v := ev st x) (fun w' => ?_) hx ?_
    · rcases hr with ⟨ad, e⟩ | ⟨f, ys, e⟩ <;> simp [execOp, e]
    · unfold nilCheckK at hk; split at hk <;> first | exact hk.elim | exact hk
  · rename_i op t x y yt
    obtain ⟨v, z, hv, hr, rfl, h1⟩ := binK_run (P := P) (T := T) (ty := t) (xo := x) (yo := y) (h.ev x) (h.ev y) hk
    exact StepP.pure (fun w' => run_v (hr w')) (.sc h1) hv
  · exact unK_sound (K := fun v _ => K v) h (h.ev _) hk
  · exact convK_sound (K := fun v _ => K v) h (h.ev _) hk
  · exact sliceK_sound (K := fun v _ => K v) h (h.ev _) (h.evo _) (h.evo _) (h.evo _) hk
  · exact faddrK_sound (K := fun v _ => K v) h (h.ev _) hk
  · exact fieldK_sound (K := fun v _ => K v) h (h.ev _) hk
  · exact iaddrK_sound (K := fun v _ => K v) h (h.ev _) (h.ev _) hk
  · exact indexK_sound (K := fun v _ => K v) h (h.ev _) (h.ev _) hk
  · exact extractK_sound (K := fun v _ => K v) h (h.ev _) hk
  · exact buildK_sound (K := fun v _ => K v) h hk
  · rename_i c
    split at hk
    · rename_i hc
      obtain ⟨callee, xs, ts⟩ := c
      simp only at hc hk
      subst hc
      obtain ⟨⟨h0⟩, hk⟩ := hk
      have hx : (xs.map a.eval)[0]? = some (a.eval xs[0]) := by simp [h0]
      have he : arg0 st xs 0 = ev st xs[0] := by simp [arg0, h0]
      rw [he] at hk
      exact lenK_sound (ty := ty) (K := fun v _ => K v) h rfl hx (h.ev _) hk
    · exact hk.elim
  · exact hk.elim
end

mutual
def Plan.ok (ops : Array Oper) (NE : List Nat) : Nat → Array Bool → Plan → Bool
  | fuel, listed, .done => (Region.ready .any ops listed).isEmpty
  | 0, _, _ => false
  | fuel + 1, listed, .look i D p =>
    (match ops[i]? with
     | some oi => (Region.ready .any ops listed).contains i && D.contains i && D.all (fun k => !listed.getD k true) &&
         D.all (fun k => k == i || (match ops[k]? with | some o => o.after.any fun e => Region.binds .any e && D.contains e.on | none => false)) &&
         (List.range ops.size).all (fun j => D.contains j || listed.getD j true || ((!NE.contains j || isPure oi) && (match ops[j]? with | some oj => oi.apart ops oj | none => true))) &&
         Plan.ok ops NE fuel (listed.setIfInBounds i true) p
     | none => false)
  | fuel + 1, listed, .all l => (!l.isEmpty && Region.ready .any ops listed == l.map (·.1)) && Plan.okL ops NE fuel listed l
def Plan.okL (ops : Array Oper) (NE : List Nat) : Nat → Array Bool → List (Nat × Plan) → Bool
  | _, _, [] => true
  | fuel, listed, (i, p) :: l => Plan.ok ops NE fuel (listed.setIfInBounds i true) p && Plan.okL ops NE fuel listed l
end

/-- An operation, or nothing, as its guard says. -/
def guardK (ops : Array Oper) (o : Oper) (st : St) (yes no : Prop) : Prop :=
  match o.guard with
  | none => yes
  | some (j, want) =>
    match (ops[j]?).bind (·.dst) with
    | some t => (match lkV st.ts t with | .sc (.bool b) => (match want with | true => Br b yes no | false => Br b no yes) | .tup _ => no | _ => False)
    | none => False

mutual
def planK (T : Tab) (P : Program) (N : Nat) (ops : Array Oper) (NE : List Nat) (K : St → Prop) : Plan → St → Prop
  | .done, st => K st
  | .look i _ p, st => (match ops[i]? with | some o => dstK o N = true ∧ guardK ops o st (lookK T o st fun v => putK o v st (planK T P N ops NE K p)) (putK o (.tup []) st (planK T P N ops NE K p)) | none => False)
  | .all l, st => planL T P N ops NE K l st
def planL (T : Tab) (P : Program) (N : Nat) (ops : Array Oper) (NE : List Nat) (K : St → Prop) : List (Nat × Plan) → St → Prop
  | [], _ => True
  | (i, p) :: l, st => planL T P N ops NE K l st ∧ (match ops[i]? with | some o => dstK o N = true ∧ guardK ops o st (withDst o fun d => opK (!NE.contains i) T P d o st fun v s => putK o v s (planK T P N ops NE K p)) (putK o (.tup []) st (planK T P N ops NE K p)) | none => False)
end

section
variable {T : Tab} {P : Program} [hT : T.Ok P] {G : Nat → Prop} {L : Beta} {w0 : World} {N : Nat} {ops : Array Oper} {NE : List Nat} {K : St → Prop}

def QN (G : Nat → Prop) (L : Beta) (w0 : World) (N : Nat) (K : St → Prop) : Exit → Act → World → Prop := fun e a w => match e with | .normal => ∃ st β, K st ∧ Abs G L w0 N st a w β | _ => False

theorem guard_wanted {st : St} {a : Act} {w : World} {β : Beta} {o : Oper} {yes no : Prop} (h : Abs G L w0 N st a w β) (hN : ∀ j t, o.guard.map (·.1) = some j → (ops[j]?).bind (·.dst) = some t → t < N) (hk : guardK ops o st yes no) :
    (Region.wanted o (yielded ops a.tmps) = true ∧ yes) ∨ (Region.wanted o (yielded ops a.tmps) = false ∧ no) := by
  unfold guardK at hk
  split at hk
  · rename_i hg
    exact .inl ⟨by simp [Region.wanted, hg], hk⟩
  · rename_i j want hg
    split at hk
    · rename_i t ht
      split at hk
      · rename_i b hb
        have hy := yielded_of h ht hb (hN j t (by rw [hg]; rfl) ht)
        by_cases e : b = want
        · exact .inl ⟨by simp [Region.wanted, hg, hy, e], by subst e; cases b; exact hk.no rfl; exact hk.yes rfl⟩
        · exact .inr ⟨by simp [Region.wanted, hg, hy, e], by cases b <;> cases want <;> first | exact absurd rfl e | exact hk.no rfl | exact hk.yes rfl⟩
      · rename_i cs hb
        have hy := yielded_tup h ht hb
        exact .inr ⟨by simp [Region.wanted, hg, hy], hk⟩
      · exact hk.elim
    · exact hk.elim

theorem planK_sound (hsel : ∀ (j : Nat) (o : Oper) cs b, ops[j]? = some o → o.op ≠ .select cs b) (hN : ∀ (i : Nat) (o : Oper), ops[i]? = some o → ∀ j t, o.guard.map (·.1) = some j → (ops[j]?).bind (·.dst) = some t → t < N) :
    ∀ (fuel : Nat) (p : Plan) (listed : Array Bool) (st : St) (a : Act) (w : World) (β : Beta), Plan.ok ops NE fuel listed p = true → planK T P N ops NE K p st → Abs G L w0 N st a w β → wpX P .any ops NE (QN G L w0 N K) fuel listed a w := by
  intro fuel
  induction fuel with
  | zero =>
    intro p listed st a w β hok hk h
    cases p with
    | done => exact ⟨by simpa [Plan.ok] using hok, st, β, by simpa [planK] using hk, h⟩
    | look i D p => simp [Plan.ok] at hok
    | all l => simp [Plan.ok] at hok
  | succ fuel ih =>
    intro p listed st a w β hok hk h
    cases p with
    | done =>
      simp only [Plan.ok, List.isEmpty_iff] at hok
      exact ⟨fun _ => ⟨st, β, by simpa [planK] using hk, h⟩, fun i hi => by rw [hok] at hi; cases hi⟩
    | look i D p =>
      simp only [Plan.ok] at hok
      simp only [planK, putK_eq] at hk
      cases ho : ops[i]? with
      | none => rw [ho] at hok; cases hok
      | some o =>
        rw [ho] at hok hk
        simp only [Bool.and_eq_true, List.all_eq_true, List.mem_range] at hok
        obtain ⟨⟨⟨⟨⟨h1, h2⟩, h3⟩, h4⟩, h5⟩, h6⟩ := hok
        obtain ⟨hd, hk⟩ := hk
        have hD : i ∈ D := by simpa using h2
        have hfree : Free .any ops NE i o D listed := by
          refine ⟨fun k hk => by simpa using h3 k hk, fun k hk hne => ?_, fun j oj hj hjD hun => ?_⟩
          · have := h4 k hk
            simp only [Bool.or_eq_true, beq_iff_eq, hne, false_or] at this
            cases hok : ops[k]? with
            | none => rw [hok] at this; cases this
            | some ok =>
              rw [hok] at this
              obtain ⟨e, he, hb⟩ := Array.any_eq_true'.1 this
              simp only [Bool.and_eq_true, List.contains_iff_mem] at hb
              exact ⟨ok, rfl, e, he, hb.1, hb.2⟩
          · have := h5 j (Array.getElem?_eq_some_iff.1 hj).1
            simp only [Bool.or_eq_true, List.contains_iff_mem, hjD, false_or, hun, Bool.false_eq_true, hj, Bool.and_eq_true] at this
            exact ⟨by simpa [Bool.or_eq_true] using this.1, this.2⟩
        have hr : i ∈ Region.ready .any ops listed := by simpa using h1
        rcases guard_wanted h (hN i o ho) hk with ⟨hw, hk⟩ | ⟨hw, hk⟩
        · obtain ⟨x, v, hkv, hv, hrun⟩ := lookK_sound (P := P) h hk
          exact wpX_first (v := x) ho hD hsel (fun _ _ _ hq => hq.elim) fuel listed a w hfree hr (.inl ⟨hw, hrun⟩) (ih p _ _ _ _ _ h6 hkv (h.put hd hv))
        · exact wpX_first (v := undef) ho hD hsel (fun _ _ _ hq => hq.elim) fuel listed a w hfree hr (.inr ⟨hw, rfl⟩) (ih p _ _ _ _ _ h6 hk (h.put hd (.skipped _ _ _)))
    | all l =>
      simp only [Plan.ok, Bool.and_eq_true, beq_iff_eq] at hok
      simp only [planK] at hk
      obtain ⟨⟨hne, hrd⟩, hl⟩ := hok
      have go : ∀ (l : List (Nat × Plan)), Plan.okL ops NE fuel listed l = true → planL T P N ops NE K l st → ∀ i, i ∈ l.map (·.1) → wpOp P ops (QN G L w0 N K) i (fun a' w' => (NE.contains i = false → Ext w w') ∧ wpX P .any ops NE (QN G L w0 N K) fuel (listed.setIfInBounds i true) a' w') a w := by
        intro l
        induction l with
        | nil => intro _ _ i hi; cases hi
        | cons q l ihl =>
          obtain ⟨j, p⟩ := q
          intro hok hk i hi
          simp only [Plan.okL, Bool.and_eq_true] at hok
          simp only [planL, withDst_eq, putK_eq] at hk
          rcases List.mem_cons.1 hi with rfl | hi
          · have hk := hk.2
            cases ho : ops[i]? with
            | none => rw [ho] at hk; exact hk.elim
            | some o =>
              rw [ho] at hk
              obtain ⟨hd, hk⟩ := hk
              unfold wpOp
              simp only [ho]
              rcases guard_wanted h (hN i o ho) hk with ⟨hw, hk⟩ | ⟨hw, hk⟩
              · rw [if_pos hw]
                refine .inl (opK_sound h hk fun v s β' w' x hE hKv hA hV => ⟨fun hne => hE (by simpa using hne), ih p _ _ _ _ _ hok.1 hKv (hA.put hd hV)⟩)
              · rw [hw]
                simp only [Bool.false_eq_true, if_false]
                exact ⟨fun _ => Ext.refl w, ih p _ _ _ _ _ hok.1 hk (h.put hd (.skipped _ _ _))⟩
          · exact ihl hok.2 hk.1 i hi
      refine ⟨fun h0 => ?_, fun i hi => go l hl hk i (by rw [← hrd]; exact hi)⟩
      rw [h0] at hrd
      cases l with
      | nil => simp at hne
      | cons q l => cases hrd

/-- What a plan must be, as a Bool. -/
def planB (ops : Array Oper) (NE : List Nat) (N : Nat) (p : Plan) : Bool :=
  Region.noSelect ops && (ops.all fun o => match o.guard with | some (j, _) => (match (ops[j]?).bind (·.dst) with | some t => decide (t < N) | none => true) | none => true) && Plan.ok ops NE ops.size (Array.replicate ops.size false) p

theorem DrawK.plan {st : St} (NE : List Nat) (p : Plan) (hm : P.follows .mixedOrders = true) (hB : planB ops NE N p = true) (hk : planK T P N ops NE K p st) : DrawK P N ops st K := by
  intro G L w0 a w β id h
  simp only [planB, Bool.and_eq_true, Array.all_eq_true_iff_forall_mem] at hB
  obtain ⟨⟨h1, h2⟩, h3⟩ := hB
  have hA : Abs G L w0 N st a { w with drawn := w.drawn + 1 } β := ⟨h.hr.ext (Ext.drew w), fun n => h.hr.vext (Ext.drew w) (h.tmp n), h.size, h.defers⟩
  have key := planK_sound (T := T) (G := G) (L := L) (w0 := w0) (NE := NE) (K := K) (Region.noSelect_spec h1) (fun i o ho j t hg ht => by
    have := h2 o (Array.mem_of_getElem? ho)
    cases hgd : o.guard with
    | none => rw [hgd] at hg; cases hg
    | some q =>
      rw [hgd] at hg this
      obtain ⟨q1, q2⟩ := q
      cases hg
      simp only [ht] at this
      simpa using this) ops.size p _ st a _ β h3 hk hA
  exact wp_mono (wp_region_any (id := id) hm (wpAny_of_X (NE := NE) _ _ _ _ key)) fun e a w hq => by cases e <;> first | exact hq | exact hq.elim

/-- The orders meet in one state. -/
theorem DrawK.to {st : St} (NE : List Nat) (p : Plan) (s1 : St) (hm : P.follows .mixedOrders = true) (hB : planB ops NE N p = true) (hk : planK T P N ops NE (fun s => Ent s s1) p st) (h1 : K s1) : DrawK P N ops st K := by
  intro G L w0 a w β id h
  refine wp_mono (DrawK.plan (T := T) NE p hm hB hk G L w0 a w β id h) fun e a' w' hq => ?_
  cases e with
  | normal =>
    obtain ⟨s, β', he, hA⟩ := hq
    obtain ⟨β2, hA2⟩ := he _ _ _ _ _ _ _ hA
    exact ⟨s1, β2, h1, hA2⟩
  | _ => exact hq.elim
end

/-! ### Small words -/
theorem Br.pos {b : Bool} {x y : Prop} (h : b = true) (hx : x) : Br b x y := ⟨fun _ => hx, fun e => by rw [h] at e; cases e⟩
theorem Br.neg {b : Bool} {x y : Prop} (h : b = false) (hy : y) : Br b x y := ⟨(fun e => by rw [h] at e; cases e), fun _ => hy⟩

/-- A call that hands back a plain value. -/
theorem CallS.val {X : Bool} {P : Program} {st : St} {f : FuncId} {vs : List V} {v : V} {K : V → St → Prop} (hc : AC P f vs [] fun r h => r = v ∧ h = []) (hn : noKeyL vs = true) (hk : K (v.ren 0) st) : CallS X P f vs st K :=
  CallS.use (d := 0) false hc rfl (fun i _ => .same (noKeyL_get hn i)) fun r h' ⟨e1, e2⟩ => ⟨[], by rw [e2]; rfl, (fun e => by cases e), (fun n hn => by simp [rowsH, lkB] at hn), by rw [e1]; exact hk⟩

theorem Lend.rowAll {hs : Hp} {k : Key} {s n : Nat} {xs : List (List V)} (hk : lkB hs k = some (.row s xs)) (hn : n = xs.length) : Lend true hs (.row k 0 n) (.rd s xs) := by
  have := Lend.row (own := true) (lo := 0) (len := n) rfl hk
  rw [List.drop_zero, hn, List.take_length] at this
  rw [hn]
  exact this
theorem lend_nil {own : Bool} {hs : Hp} : ∀ i, i < ([] : List V).length → Lend own hs (([] : List V).getD i .un) (([] : List V).getD i .un) := fun i hi => by simp at hi
theorem lend_cons {own : Bool} {hs : Hp} {v u : V} {vs us : List V} (h : Lend own hs v u) (t : ∀ i, i < vs.length → Lend own hs (vs.getD i .un) (us.getD i .un)) : ∀ i, i < (v :: vs).length → Lend own hs ((v :: vs).getD i .un) ((u :: us).getD i .un) := fun i hi => by
  cases i with
  | zero => simpa using h
  | succ i => simpa using t i (by simpa using hi)
theorem lend_same {own : Bool} {hs : Hp} {vs : List V} (h : noKeyL vs = true) : ∀ i, i < vs.length → Lend own hs (vs.getD i .un) (vs.getD i .un) := fun i _ => .same (noKeyL_get h i)

/-- A call that reads our rows and hands back a plain value. -/
theorem CallS.valO {X : Bool} {P : Program} {st : St} {f : FuncId} {vs us : List V} {v : V} {K : V → St → Prop} (hc : AC P f us [] fun r h => r = v ∧ h = []) (hlen : vs.length = us.length)
    (hl : ∀ i, i < vs.length → Lend true st.hs (vs.getD i .un) (us.getD i .un)) (hf : v.flat = true) (hk : K (v.ren 0) st) : CallS X P f vs st K :=
  CallS.use (d := 0) true hc hlen hl fun r h' ⟨e1, e2⟩ => ⟨[], by rw [e2]; rfl, (fun _ => ⟨by rw [e1]; exact hf, fun q hq => by cases hq⟩), (fun n hn => by simp [rowsH, lkB] at hn), by rw [e1]; exact hk⟩
/-- A call that hands back a value with a new row. -/
theorem CallS.row1 {X : Bool} {P : Program} {st : St} {f : FuncId} {vs us : List V} {v : V} {s : Nat} {xs : List (List V)} {K : V → St → Prop} (own : Bool) (d : Nat) (hc : AC P f us [] fun r h => r = v ∧ h = [(.r 0, .row s xs)]) (hlen : vs.length = us.length)
    (hl : ∀ i, i < vs.length → Lend own st.hs (vs.getD i .un) (us.getD i .un)) (hf : own = true → v.flat = true ∧ ∀ x, x ∈ xs → ∀ v, v ∈ x → v.flat = true) (hfree : (lkB st.hs (.c d 0)).isNone = true)
    (hk : K (v.ren d) { st with hs := (.c d 0, .row s xs) :: st.hs }) : CallS X P f vs st K :=
  CallS.use (d := d) own hc hlen hl fun r h' ⟨e1, e2⟩ => ⟨[(0, s, xs)], by rw [e2]; rfl, (fun ho => ⟨by rw [e1]; exact (hf ho).1, fun q hq => by
    have : q = (0, s, xs) := by simpa using hq
    subst this
    exact (hf ho).2⟩), (fun n hn => by
      by_cases e : n = 0
      · subst e; simpa using hfree
      · exfalso; apply hn; simp [rowsH, lkB, Ne.symm e]), by rw [e1]; exact hk⟩
end Go.Sym
