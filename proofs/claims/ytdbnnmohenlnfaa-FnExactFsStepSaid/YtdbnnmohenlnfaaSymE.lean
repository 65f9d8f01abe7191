/- New variables, literals, fields, elements, parts, conversions, lengths. -/
import Derived.Test.YtdbnnmohenlnfaaSymD
namespace Go.Sym
set_option linter.unusedVariables false
set_option linter.unusedSimpArgs false

def intOf? : V → Option Int
  | .sc (.int _ n) => some n
  | _ => none
/-- The number of a byte of a string. -/
def byteAt (s : ByteArray) (i : Nat) : Int := if h : i < s.size then ((s[i]'h).toNat : Int) else 0

section
variable {X : Bool} {T : Tab} {P : Program} [hT : T.Ok P] {G : Nat → Prop} {L : Beta} {w0 w : World} {N : Nat} {st : St} {a : Act} {β : Beta}

/-! ### A new variable -/
def newK (d : Nat) (cs : List V) (st : St) (K : V → St → Prop) : Prop :=
  lkB st.hs (.t d) = none ∧ K (.ptr (.t d) 0 0) { st with hs := (.t d, .box cs) :: st.hs }

theorem newK_sound {d : Nat} {cs : List V} {x : Value} {K : V → St → Prop} {e : Sem Value} {t : TypeId} (h : Abs G L w0 N st a w β) (hc : x.cells.size = cs.length ∧ ∀ i, i < cs.length → OKW G L w0 w β (cs.getD i .un) (x.cells.getD i undef))
    (he : e.run P w = .ok (.pointer (some ⟨w.heap.size, 0, none⟩)) { w with heap := w.heap.push (.cells x.cells t) }) (hk : newK d cs st K) : Step X P G L w0 N (do let y ← e; pure (Next.value y)) a w K := by
  obtain ⟨h1, h2⟩ := hk
  have hv : ∀ {v : V} {x' : Value}, OKW G L w0 w β v x' → OKW G L w0 { w with heap := w.heap.push (.cells x.cells t) } (upB β (.t d) ⟨some w.heap.size, 0, 0, 0⟩) v x' := fun hv => h.hr.valloc h1 x.cells t 0 0 0 hv
  refine ⟨_, _, .inl (run_v he), fun _ => Ext.push w _, _, _, upB β (.t d) ⟨some w.heap.size, 0, 0, 0⟩, h2, ⟨?_, fun n => hv (h.tmp n), h.size, h.defers⟩, ?_⟩
  · exact h.hr.alloc h1 (.box (C := x.cells) (t := t) (by simp) hc.1 fun i hi => hv (hc.2 i hi))
  · have := VRel.ptr (ok := okF G L w0 { w with heap := w.heap.push (.cells x.cells t) } (upB β (.t d) ⟨some w.heap.size, 0, 0, 0⟩)) (w := { w with heap := w.heap.push (.cells x.cells t) }) (β := upB β (.t d) ⟨some w.heap.size, 0, 0, 0⟩) (k := .t d) (b := w.heap.size) (o := 0) (s := 0) (m := 0) (i := 0) (j := 0) (by simp [upB])
    simpa using this

def boxK (d : Nat) (v : V) (st : St) (K : V → St → Prop) : Prop := match v.cells with | some cs => newK d cs st K | none => False
theorem boxK_sound {d : Nat} {t : TypeId} {v : V} {x : Value} {K : V → St → Prop} (h : Abs G L w0 N st a w β) (hv : OKW G L w0 w β v x) (hk : boxK d v st K) :
    Step X P G L w0 N (do let y ← Instr.box t x; pure (Next.value y)) a w K := by
  unfold boxK at hk
  split at hk
  · rename_i cs hcs
    exact newK_sound (t := t) h (hv.cells hcs) (by simp [Instr.box, newVar, newRow, newObj, Sem.run]) hk
  · exact hk.elim
def allocK (T : Tab) (d : Nat) (t : TypeId) (st : St) (K : V → St → Prop) : Prop :=
  match T.zero t with | some z => (match (cv z).cells with | some cs => newK d cs st K | none => False) | none => False
theorem allocK_sound {d : Nat} {t : TypeId} {K : V → St → Prop} (h : Abs G L w0 N st a w β) (hk : allocK T d t st K) :
    Step X P G L w0 N (do let y ← Instr.alloc t true (.tuple #[]); pure (Next.value y)) a w K := by
  unfold allocK at hk
  split at hk
  · rename_i z hz
    split at hk
    · rename_i cs hcs
      refine newK_sound (t := t) (x := z) h ((VRel.cv _ _ _ z).cells hcs) ?_ hk
      simp [Instr.alloc, run_zeroValue hz, newVar, newRow, newObj, Sem.run]
    · exact hk.elim
  · exact hk.elim

/-! ### Fields -/
def faddrK (T : Tab) (t : TypeId) (f : Nat) (v : V) (st : St) (K : V → St → Prop) : Prop :=
  match T.field t f with
  | some (o, u) =>
    (match T.sz u with | some (_ + 1) => true | _ => false) = true ∧
    (match v with
     | .ptr k i j => K (.ptr k i (j + o)) st
     | .rp cs => K (.rp (cs.drop o)) st
     | _ => False)
  | none => False
theorem run_fieldAt {t u : TypeId} {f o n : Nat} (hf : T.field t f = some (o, u)) (hs : T.sz u = some (n + 1)) (ad : Addr) (h0 : ad.spot = none) (w : World) :
    (Instr.fieldAt t (.pointer (some ad)) f).run P w = .ok (.pointer (some ⟨ad.block, ad.off + o, none⟩)) w := by
  obtain ⟨fs, fl, hu, hfl, rfl, rfl⟩ := tfield_some (P := P) hf
  simp [Instr.fieldAt, run_underlying hu, hfl, Instr.sureAddr, fieldPlace, run_sizeOf hs, add_at h0]
theorem faddrK_sound {t : TypeId} {f : Nat} {v : V} {x : Value} {K : V → St → Prop} (h : Abs G L w0 N st a w β) (hv : OKW G L w0 w β v x) (hk : faddrK T t f v st K) :
    StepP P G L w0 w β (do let y ← Instr.fieldAt t x f; pure (Next.value y)) (fun u => K u st) := by
  unfold faddrK at hk
  split at hk
  · rename_i o u hf
    obtain ⟨hs, hk⟩ := hk
    split at hs
    · rename_i n hq
      split at hk
      · cases hv with
        | ptr hb =>
        refine StepP.mk (fun w' _ => run_v (run_fieldAt hf hq _ rfl w')) ?_ hk
        have := VRel.ptr (ok := okF G L w0 w β) (w := w) (i := ‹Nat›) (j := ‹Nat› + o) hb
        simp only [Nat.add_assoc] at this ⊢
        exact VRel.ptr hb
      · cases hv with
        | rp h0 h1 h2 h3 h4 =>
        refine StepP.mk (fun w' _ => run_v (run_fieldAt hf hq _ h1 w')) ?_ hk
        refine .rp (fun v hv => h0 v (List.mem_of_mem_drop hv)) rfl h2 ?_ ?_
        · intro j hj
          simp at hj
          have := h3 (o + j) (by omega)
          simpa [Nat.add_assoc] using this
        · intro j hj
          simp at hj
          have := h4 (o + j) (by omega)
          rw [getD_drop]
          simpa [Nat.add_assoc] using this
      · exact hk.elim
    · cases hs
  · exact hk.elim

def fieldK (T : Tab) (t : TypeId) (f : Nat) (v : V) (K : V → Prop) : Prop :=
  match T.field t f, v with
  | some (o, u), .agg cs => loadC T u (cs.drop o) K
  | _, _ => False
theorem run_part {u : TypeId} {o : Nat} {cs : List V} {xs : Array Value} {K : V → Prop} {p : Nat → Prop} (hl : cs.length = xs.size) (hx : ∀ i, i < cs.length → VRel p w β (cs.getD i .un) (xs.getD i undef)) (hk : loadC T u (cs.drop o) K) :
    ∃ v x, K v ∧ (∀ w : World, (part u xs o).run P w = .ok x w) ∧ VRel p w β v x := by
  unfold loadC at hk
  split at hk
  · rename_i n hn ha
    obtain ⟨⟨h1⟩, h2⟩ := hk
    simp at h1
    refine ⟨_, .agg (xs.extract o (o + n)), h2, by simp [part, run_isAgg ha, run_sizeOf hn], .agg (by simp; omega) fun i hi => ?_⟩
    have hi : i < n ∧ o + i < cs.length := by simp at hi; omega
    have e1 : ((cs.drop o).take n).getD i .un = cs.getD (o + i) .un := by simp [List.getD_eq_getElem?_getD, hi.1]
    have e2 : (xs.extract o (o + n)).getD i undef = xs.getD (o + i) undef := by
      have h3 : o + i < xs.size := by omega
      have h4 : i < min (o + n) xs.size - o := by omega
      simp [h3, h4]
    rw [e1, e2]
    exact hx _ hi.2
  · rename_i n hn ha
    obtain ⟨⟨h1⟩, h2⟩ := hk
    simp at h1
    refine ⟨_, xs.getD o undef, h2, ?_, ?_⟩
    · have h3 : o < xs.size := by omega
      simp [part, run_isAgg ha, h3]
    · rw [getD_drop]; exact hx _ (by omega)
  · exact hk.elim
theorem fieldK_sound {t : TypeId} {f : Nat} {v : V} {x : Value} {K : V → St → Prop} (h : Abs G L w0 N st a w β) (hv : OKW G L w0 w β v x) (hk : fieldK T t f v fun u => K u st) :
    StepP P G L w0 w β (do let y ← Instr.field t x f; pure (Next.value y)) (fun u => K u st) := by
  unfold fieldK at hk
  split at hk
  · rename_i o u cs hf
    obtain ⟨fs, fl, hu, hfl, rfl, rfl⟩ := tfield_some (P := P) hf
    cases hv with
    | agg hl hx =>
    obtain ⟨v, y, hv, hr, hvr⟩ := run_part (P := P) (w := w) hl hx hk
    refine StepP.mk (fun w' _ => run_v ?_) hvr hv
    simp [Instr.field, run_underlying hu, hfl, asAgg, hr]
  · exact hk.elim

/-! ### Elements -/
def iaddrK (T : Tab) (t : TypeId) (v i : V) (st : St) (K : V → St → Prop) : Prop :=
  match i with
  | .sc (.int _ n) =>
    (match T.elem t with
     | some e =>
       (match T.sz e, v with
        | some s, .row k lo len => Side (0 ≤ n) ∧ Side (n < len) ∧ (match lkB st.hs k with | some (.row s' _) => s' == s | _ => false) = true ∧ K (.ptr k (lo + n.toNat) 0) st
        | some s, .rd s' xs => Side (0 ≤ n) ∧ Side (n < xs.length) ∧ s' = s ∧ K (.rp (xs.getD n.toNat [])) st
        | _, _ => False)
     | none =>
       (match T.arr t with
        | some (len, e) =>
          (match T.sz e, v with
           | some s, .ptr k q j => Side (0 ≤ n) ∧ Side (n < len) ∧ K (.ptr k q (j + n.toNat * s)) st
           | _, _ => False)
        | none => False))
  | _ => False
theorem iaddrK_sound {t : TypeId} {v i : V} {x y : Value} {K : V → St → Prop} (h : Abs G L w0 N st a w β) (hv : OKW G L w0 w β v x) (hi : OKW G L w0 w β i y) (hk : iaddrK T t v i st K) :
    StepP P G L w0 w β (do let z ← Instr.indexAt t x y; pure (Next.value z)) (fun u => K u st) := by
  unfold iaddrK at hk
  split at hk
  · cases hi with
    | sc _ =>
    rename_i k n _
    split at hk
    · rename_i e he
      have hu := telem_some (P := P) he
      split at hk
      · rename_i s key lo len hs
        obtain ⟨⟨h0⟩, ⟨h1⟩, h2, hk⟩ := hk
        cases hv with
        | rowZ => exfalso; omega
        | row g1 gm g2 g3 g4 =>
        rename_i b o s' m cap C tt fr
        cases hl : lkB st.hs key with
        | none => rw [hl] at h2; cases h2
        | some B =>
          rw [hl] at h2
          obtain ⟨inf, q1, q2⟩ := h.hr.rel key B hl
          rw [g1] at q1
          cases q1
          cases q2 with
          | box => cases h2
          | row =>
          have h2 := beq_iff_eq.1 h2
          subst h2
          have hc : 0 ≤ n ∧ n < (len : Int) := ⟨h0, h1⟩
          refine StepP.mk (fun w' _ => run_v (x := .pointer (some ⟨b, o + lo * s' + n.toNat * s', none⟩)) ?_) ?_ hk
          · simp [Instr.indexAt, asIntOf, run_underlying hu, hc, run_sizeOf hs, add_at]
          · have := VRel.ptr (ok := okF G L w0 w β) (w := w) (i := lo + n.toNat) (j := 0) g1
            rw [Nat.add_mul] at this
            simpa [Nat.add_assoc] using this
      · rename_i s s' xs hs
        obtain ⟨⟨h0⟩, ⟨h1⟩, rfl, hk⟩ := hk
        generalize hlen : xs.length = len at *
        cases hv with
        | rd g1 g2 g3 g4 g5 =>
        rename_i A cap
        have hpos : 0 < xs.length := by omega
        obtain ⟨ga, gb, gc⟩ := g3 hpos
        obtain ⟨ad, rfl⟩ := Option.isSome_iff_exists.1 ga
        subst hlen
        have hc : 0 ≤ n ∧ n < (xs.length : Int) := ⟨h0, h1⟩
        have hin : n.toNat < xs.length := by omega
        have hmem : xs.getD n.toNat [] ∈ xs := by simp [hin]
        refine StepP.mk (fun w' _ => run_v (x := .pointer (some ⟨ad.block, ad.off + n.toNat * s', none⟩)) ?_) ?_ hk
        · have gb' : ad.spot = none := gb
          simp [Instr.indexAt, asIntOf, run_underlying hu, hc, run_sizeOf hs, add_at gb']
        · refine .rp (g2 _ hmem).2 rfl gc ?_ ?_
          · intro j hj
            have := g4 n.toNat j hin (by rw [(g2 _ hmem).1] at hj; exact hj)
            simpa [adr, Nat.add_assoc] using this
          · intro j hj
            have := g5 n.toNat j hin (by rw [(g2 _ hmem).1] at hj; exact hj)
            simpa [adr, Nat.add_assoc] using this
      · exact hk.elim
    · split at hk
      · rename_i len e ha
        have hu := tarr_some (P := P) ha
        split at hk
        · rename_i s key q j hs
          obtain ⟨⟨h0⟩, ⟨h1⟩, hk⟩ := hk
          cases hv with
          | ptr hb =>
          rename_i b o s' m
          have hc : 0 ≤ n ∧ n < (len : Int) := ⟨h0, h1⟩
          refine StepP.mk (fun w' _ => run_v (x := .pointer (some ⟨b, o + (q * s' + (j + n.toNat * s)), none⟩)) ?_) (.ptr hb) hk
          simp [Instr.indexAt, asIntOf, run_underlying hu, hc, run_sizeOf hs, Instr.sureAddr, add_at, Nat.add_assoc]
        · exact hk.elim
      · exact hk.elim
  · exact hk.elim

def indexK (T : Tab) (t : TypeId) (v i : V) (K : V → Prop) : Prop :=
  match v, i with
  | .sc (.string s), .sc (.int _ n) => T.str t = true ∧ Side (0 ≤ n) ∧ Side (n < s.size) ∧ K (.sc (.int .u8 (byteAt s n.toNat)))
  | .agg cs, .sc (.int _ n) =>
    (match T.arr t with
     | some (len, e) => (match T.sz e with | some s => Side (0 ≤ n) ∧ Side (n < len) ∧ loadC T e (cs.drop (n.toNat * s)) K | none => False)
     | none => False)
  | _, _ => False
theorem indexK_sound {t : TypeId} {v i : V} {x y : Value} {K : V → St → Prop} (h : Abs G L w0 N st a w β) (hv : OKW G L w0 w β v x) (hi : OKW G L w0 w β i y) (hk : indexK T t v i fun u => K u st) :
    StepP P G L w0 w β (do let z ← Instr.index t x y; pure (Next.value z)) (fun u => K u st) := by
  unfold indexK at hk
  split at hk
  · cases hv with
    | sc _ =>
    cases hi with
    | sc _ =>
    rename_i s k n _ _
    obtain ⟨h1, ⟨h2⟩, ⟨h3⟩, hk⟩ := hk
    have hin : n.toNat < s.size := by omega
    refine StepP.mk (fun w' _ => run_v ?_) (.sc rfl) hk
    simp [Instr.index, asIntOf, run_underlying (tstr_some h1), h2, byteAt, hin]
  · cases hi with
    | sc _ =>
    cases hv with
    | agg hl hx =>
    rename_i cs k n _ xs
    split at hk
    · rename_i len e ha
      split at hk
      · rename_i s hs
        obtain ⟨⟨h1⟩, ⟨h2⟩, hk⟩ := hk
        obtain ⟨v, y, hv, hr, hvr⟩ := run_part (P := P) (w := w) hl hx hk
        have hc : 0 ≤ n ∧ n < (len : Int) := ⟨h1, h2⟩
        refine StepP.mk (fun w' _ => run_v ?_) hvr hv
        simp [Instr.index, asIntOf, run_underlying (tarr_some ha), hc, run_sizeOf hs, hr]
      · exact hk.elim
    · exact hk.elim
  · exact hk.elim

/-! ### Small ones -/
def extractK (v : V) (i : Nat) (K : V → Prop) : Prop := match v with | .tup vs => Side (i < vs.length) ∧ K (vs.getD i .un) | _ => False
theorem extractK_sound {v : V} {i : Nat} {x : Value} {K : V → St → Prop} (h : Abs G L w0 N st a w β) (hv : OKW G L w0 w β v x) (hk : extractK v i fun u => K u st) :
    StepP P G L w0 w β (do let z ← Instr.extract x i; pure (Next.value z)) (fun u => K u st) := by
  unfold extractK at hk
  split at hk
  · cases hv with
    | tup hl hx =>
    rename_i xs
    have h0 := hk.1.out
    have h1 : i < xs.size := by omega
    refine StepP.mk (fun w' _ => run_v (x := xs.getD i undef) ?_) (hx i hk.1.out) hk.2
    simp [Instr.extract, h1]
  · exact hk.elim

def unK (op : UnOp) (v : V) (K : V → Prop) : Prop :=
  match op, v with
  | .neg, .sc (.int k n) => K (.sc (.int k (k.wrap (0 - n))))
  | .not, .sc (.bool b) => K (.sc (.bool (!b)))
  | .xor, .sc (.int k n) => intK .xor k (if k.signed then -1 else k.max) n K
  | _, _ => False
theorem unK_sound {op : UnOp} {v : V} {x : Value} {K : V → St → Prop} (h : Abs G L w0 N st a w β) (hv : OKW G L w0 w β v x) (hk : unK op v fun u => K u st) :
    StepP P G L w0 w β (do let z ← Op.unary op x; pure (Next.value z)) (fun u => K u st) := by
  unfold unK at hk
  split at hk
  · cases hv; exact StepP.mk (fun w' _ => run_v (by simp [Op.unary, Op.intArith])) (.sc rfl) hk
  · cases hv; exact StepP.mk (fun w' _ => run_v (by simp [Op.unary])) (.sc rfl) hk
  · cases hv; exact StepP.mk (fun w' _ => run_v (by simp [Op.unary, Op.intBits])) (.sc rfl) hk
  · exact hk.elim

def nilCheckK (v : V) (K : V → Prop) : Prop := match v with | .ptr .. | .rp _ | .fn .. => K v | _ => False
theorem nilCheckK_run {v : V} {x : Value} {K : V → St → Prop} (h : Abs G L w0 N st a w β) (hv : OKW G L w0 w β v x) (hk : nilCheckK v fun u => K u st) :
    (∃ ad, x = .pointer (some ad)) ∨ (∃ f ys, x = .func (.func f) #[] ys) := by
  unfold nilCheckK at hk
  split at hk
  · cases hv; exact .inl ⟨_, rfl⟩
  · cases hv; exact .inl ⟨_, rfl⟩
  · cases hv; exact .inr ⟨_, _, rfl⟩
  · exact hk.elim
end
end Go.Sym
