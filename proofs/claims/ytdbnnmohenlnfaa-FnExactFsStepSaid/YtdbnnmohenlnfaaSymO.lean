/- Literals: structs, arrays, slices; make; the least and the greatest. -/
import Derived.Test.YtdbnnmohenlnfaaSymM
import Derived.Great.BuildSlice
import Derived.Laws.MakeOwn
namespace Go.Sym
set_option linter.unusedVariables false
set_option linter.unusedSimpArgs false

theorem foldl_put (off : Nat) : ∀ (l : List Value) (k : Nat) (A : Array Value), off + k + l.length ≤ A.size →
    let B := (l.zipIdx k).foldl (fun cs (c, j) => cs.setIfInBounds (off + j) c) A
    B.size = A.size ∧ ∀ q, B.getD q undef = if off + k ≤ q ∧ q < off + k + l.length then l.getD (q - (off + k)) undef else A.getD q undef
  | [], k, A, h => by simp; intro q h1 h2; omega
  | c :: l, k, A, h => by
    simp only [List.zipIdx_cons, List.foldl_cons]
    simp only [List.length_cons] at h
    have ih := foldl_put off l (k + 1) (A.setIfInBounds (off + k) c) (by simp; omega)
    refine ⟨by rw [ih.1]; simp, fun q => ?_⟩
    rw [ih.2 q]
    by_cases h1 : off + (k + 1) ≤ q ∧ q < off + (k + 1) + l.length
    · rw [if_pos h1, if_pos (by simp; omega)]
      have e : q - (off + k) = (q - (off + (k + 1))) + 1 := by omega
      rw [e]; simp
    · rw [if_neg h1]
      by_cases h2 : q = off + k
      · subst h2
        rw [if_pos (by simp)]
        have : off + k < A.size := by omega
        simp [this]
      · rw [if_neg (by simp; omega)]
        simp [Ne.symm h2]

section
variable {T : Tab} {P : Program} [hT : T.Ok P] {G : Nat → Prop} {L : Beta} {w0 w : World} {N : Nat} {st : St} {a : Act} {β : Beta}

/-- Cells, one told by one. -/
def Tells (p : Nat → Prop) (w : World) (β : Beta) (vs : List V) (A : Array Value) : Prop := vs.length = A.size ∧ ∀ i, i < vs.length → VRel p w β (vs.getD i .un) (A.getD i undef)

def fillV (place : Nat → Option (Nat × Nat)) (cs : List V) : List (Nat × V) → Option (List V)
  | [] => some cs
  | (i, v) :: rest =>
    match place i, v.cells with
    | some (off, size), some us => if us.length == size && decide (off + us.length ≤ cs.length) then fillV place (splice cs off us) rest else none
    | _, _ => none

theorem fillV_sound {p : Nat → Prop} {place : Nat → Option (Nat × Nat)} : ∀ {parts : List (Nat × V)} {xs : List (Nat × Value)} {cs ds : List V} {A : Array Value}, Tells p w β cs A → parts.length = xs.length → (∀ q, q < parts.length → (parts.getD q (0, .un)).1 = (xs.getD q (0, undef)).1 ∧ VRel p w β (parts.getD q (0, .un)).2 (xs.getD q (0, undef)).2) →
      fillV place cs parts = some ds → ∃ B, Instr.fill place A xs = some B ∧ Tells p w β ds B
  | [], xs, cs, ds, A, h, hl, hx, hf => by
    simp [fillV] at hf
    subst hf
    cases xs with
    | nil => exact ⟨A, rfl, h⟩
    | cons _ _ => simp at hl
  | (i, v) :: parts, [], cs, ds, A, h, hl, hx, hf => by simp at hl
  | (i, v) :: parts, (i', x) :: xs, cs, ds, A, h, hl, hx, hf => by
    have h0 := hx 0 (by simp)
    simp at h0
    obtain ⟨rfl, hv⟩ := h0
    simp only [fillV] at hf
    split at hf
    · rename_i off size us hp hus
      split at hf
      · rename_i hc
        simp at hc
        obtain ⟨hc1, hc2⟩ := hc
        obtain ⟨g1, g2⟩ := hv.cells hus
        have hfp := foldl_put off x.cells.toList 0 A (by simp; have := h.1; omega)
        obtain ⟨B, hB, hT⟩ := fillV_sound (xs := xs) (A := (x.cells.toList.zipIdx 0).foldl (fun cs (c, j) => cs.setIfInBounds (off + j) c) A) (parts := parts) (cs := splice cs off us) (ds := ds) ⟨by rw [splice_length _ _ _ hc2, hfp.1]; exact h.1, fun q hq => by
            rw [splice_length _ _ _ hc2] at hq
            rw [splice_getD _ _ _ hc2, hfp.2 q]
            simp only [Nat.add_zero, Array.length_toList, g1]
            by_cases c1 : q < off
            · rw [if_pos c1, if_neg (by omega)]; exact h.2 q hq
            · rw [if_neg c1]
              by_cases c2 : q < off + us.length
              · rw [if_pos c2, if_pos (by omega)]
                have := g2 (q - off) (by omega)
                have e : x.cells.toList.getD (q - off) undef = x.cells.getD (q - off) undef := by rw [← getD_toArray]
                rw [e]
                exact this
              · rw [if_neg c2, if_neg (by omega)]; exact h.2 q hq⟩ (by simpa using hl) (fun q hq => by simpa using hx (q + 1) (by simp; omega)) hf
        refine ⟨B, ?_, hT⟩
        simp only [Instr.fill, hp]
        rw [if_neg (by simp; refine ⟨by omega, ?_⟩; have := h.1; omega)]
        rw [← hB]
        congr 1
        rw [← Array.foldl_toList, Array.toList_zipIdx]
      · cases hf
    · cases hf

/-- A struct or array literal. -/
def buildK (T : Tab) (t : TypeId) (parts : List (Nat × V)) (K : V → Prop) : Prop :=
  match T.zero t with
  | some (.agg zs) =>
    (match T.places t with
     | some pl => (match fillV (pl.toArray[·]?) (zs.toList.map cvC) parts with | some cs => K (.agg cs) | none => False)
     | none =>
       match T.arr t with
       | some (_, e) => (match T.sz e with | some s => (match fillV (fun i => some (i * s, s)) (zs.toList.map cvC) parts with | some cs => K (.agg cs) | none => False) | none => False)
       | none => False)
  | _ => False

theorem parts_eval (h : Abs G L w0 N st a w β) (ps : Array (Nat × Operand)) : ((ps.toList.map fun (i, x) => (i, ev st x)) : List (Nat × V)).length = (ps.map fun (i, x) => (i, a.eval x)).toList.length ∧
    ∀ q, q < ((ps.toList.map fun (i, x) => (i, ev st x)) : List (Nat × V)).length → (((ps.toList.map fun (i, x) => (i, ev st x)) : List (Nat × V)).getD q (0, .un)).1 = ((ps.map fun (i, x) => (i, a.eval x)).toList.getD q (0, undef)).1 ∧
      OKW G L w0 w β (((ps.toList.map fun (i, x) => (i, ev st x)) : List (Nat × V)).getD q (0, .un)).2 ((ps.map fun (i, x) => (i, a.eval x)).toList.getD q (0, undef)).2 := by
  refine ⟨by simp, fun q hq => ?_⟩
  simp at hq
  simp [List.getD_eq_getElem?_getD, hq]
  exact h.ev _

theorem tells_zero (p : Nat → Prop) (w : World) (β : Beta) (zs : Array Value) : Tells p w β (zs.toList.map cvC) zs := by
  refine ⟨by simp, fun i hi => ?_⟩
  simp at hi
  have : ((zs.toList.map cvC).getD i .un) = cvC (zs.getD i undef) := by simp [hi]
  rw [this]
  exact .cvC _ _ _ _

theorem buildK_sound {t : TypeId} {ps : Array (Nat × Operand)} {K : V → St → Prop} (h : Abs G L w0 N st a w β) (hk : buildK T t (ps.toList.map fun (i, x) => (i, ev st x)) fun u => K u st) :
    StepP P G L w0 w β (do let y ← Instr.build t (ps.map fun (i, x) => (i, a.eval x)); pure (Next.value y)) (fun u => K u st) := by
  obtain ⟨q1, q2⟩ := parts_eval h ps
  unfold buildK at hk
  split at hk
  · rename_i zs hz
    have hz' := hT.zero _ _ hz
    split at hk
    · rename_i pl hpl
      split at hk
      · rename_i cs hcs
        obtain ⟨B, hB, hTl⟩ := fillV_sound (tells_zero _ _ _ zs) q1 q2 hcs
        have hp := hT.places _ _ hpl
        refine StepP.mk (fun w' _ => run_v (run_build w' t _ B ?_)) (.agg hTl.1 hTl.2) hk
        unfold pplaces at hp
        unfold Program.built
        cases hi : P.info? t with
        | none => simp [hi] at hz'
        | some i =>
          simp [hi] at hz'
          split at hp
          · rename_i fs hu
            simp only [hu, hz', hp, Value.cells]
            exact hB
          · cases hp
      · exact hk.elim
    · split at hk
      · rename_i n e ha
        split at hk
        · rename_i s hs
          split at hk
          · rename_i cs hcs
            obtain ⟨B, hB, hTl⟩ := fillV_sound (tells_zero _ _ _ zs) q1 q2 hcs
            have hu := tarr_some (P := P) ha
            have hsz := hT.sz _ _ hs
            refine StepP.mk (fun w' _ => run_v (run_build w' t _ B ?_)) (.agg hTl.1 hTl.2) hk
            unfold Program.built
            cases hi : P.info? t with
            | none => simp [hi] at hz'
            | some i =>
              simp [hi] at hz'
              cases hie : P.info? e with
              | none => simp [hie] at hsz
              | some ie =>
                simp [hie] at hsz
                simp only [hu, hz', hie, Value.cells, hsz]
                exact hB
          · exact hk.elim
        · exact hk.elim
      · exact hk.elim
  · exact hk.elim

/-! ### A slice literal -/
def rowsK (sz : Nat) : Nat → List (Nat × V) → (List (List V) → Prop) → Prop
  | _, [], K => K []
  | i, (j, v) :: r, K => (j == i) = true ∧ match v.cells with
    | some us => (us.length == sz && us.all V.shut) = true ∧ rowsK sz (i + 1) r fun xs => K (us :: xs)
    | none => False
def bsliceK (T : Tab) (d : Nat) (t : TypeId) (len : Nat) (parts : List (Nat × V)) (st : St) (K : V → St → Prop) : Prop :=
  match T.elem t with
  | none => False
  | some e =>
    match T.sz e, T.zero e with
    | some sz, some z =>
      (parts.length == len) = true ∧ (z.cells.size == sz) = true ∧ (decide (len * sz ≤ 16777216) && decide (0 < sz)) = true ∧
      (match len with
       | 0 => K .nil st
       | len + 1 => (lkB st.hs (.t d)).isNone = true ∧ rowsK sz 0 parts fun xs => K (.row (.t d) 0 (len + 1)) { st with hs := (.t d, .row sz xs) :: st.hs })
    | _, _ => False

theorem rowsK_fill {sz : Nat} (hs : 0 < sz) : ∀ {parts : List (Nat × V)} {i : Nat} {K : List (List V) → Prop} {cs : List V}, rowsK sz i parts K → (i + parts.length) * sz ≤ cs.length →
    ∃ xs ds, K xs ∧ fillV (fun i => some (i * sz, sz)) cs parts = some ds ∧ ds.length = cs.length ∧ xs.length = parts.length ∧ (∀ x, x ∈ xs → x.length = sz ∧ ∀ v, v ∈ x → v.shut = true) ∧
      (∀ q, q < i * sz → ds.getD q .un = cs.getD q .un) ∧ ∀ p q, p < xs.length → q < sz → ds.getD ((i + p) * sz + q) .un = (xs.getD p []).getD q .un
  | [], i, K, cs, hk, hl => ⟨[], cs, hk, rfl, rfl, rfl, by simp, fun _ _ => rfl, fun p q hp => by simp at hp⟩
  | (j, v) :: r, i, K, cs, hk, hl => by
    simp only [rowsK] at hk
    obtain ⟨hj, hk⟩ := hk
    have hj := beq_iff_eq.1 hj
    subst hj
    split at hk
    · rename_i us hus
      obtain ⟨hc, hk⟩ := hk
      simp at hc
      obtain ⟨hc1, hc2⟩ := hc
      simp only [List.length_cons] at hl
      have hmul : (j + (r.length + 1)) * sz = (j + 1 + r.length) * sz := by congr 1; omega
      have hle : j * sz + us.length ≤ cs.length := by
        have h1 : (j + 1) * sz ≤ (j + (r.length + 1)) * sz := Nat.mul_le_mul_right _ (by omega)
        rw [Nat.add_mul, Nat.one_mul] at h1
        omega
      obtain ⟨xs, ds, h1, h2, h3, h4, h5, h6, h7⟩ := rowsK_fill hs (cs := splice cs (j * sz) us) hk (by rw [splice_length _ _ _ hle]; omega)
      refine ⟨us :: xs, ds, h1, ?_, by rw [h3, splice_length _ _ _ hle], by simp [h4], ?_, ?_, ?_⟩
      · simp only [fillV, hus]
        rw [if_pos (by simp; exact ⟨hc1, hle⟩)]
        exact h2
      · intro x hx
        rcases List.mem_cons.1 hx with rfl | hx
        · exact ⟨hc1, hc2⟩
        · exact h5 x hx
      · intro q hq
        have : q < (j + 1) * sz := by rw [Nat.add_mul, Nat.one_mul]; omega
        rw [h6 q this, splice_getD _ _ _ hle, if_pos hq]
      · intro p q hp hq
        cases p with
        | zero =>
          have : (j + 0) * sz + q < (j + 1) * sz := by rw [Nat.add_zero, Nat.add_mul, Nat.one_mul]; omega
          rw [h6 _ this, splice_getD _ _ _ hle, if_neg (by rw [Nat.add_zero]; omega), if_pos (by rw [Nat.add_zero]; omega)]
          have e : (j + 0) * sz + q - j * sz = q := by rw [Nat.add_zero]; omega
          rw [e]; simp
        | succ p =>
          have := h7 p q (by simpa using hp) hq
          have e : j + (p + 1) = j + 1 + p := by omega
          rw [e, this]; simp
    · exact hk.elim

theorem bsliceK_sound {X : Bool} {d : Nat} {t : TypeId} {len : Nat} {ps : Array (Nat × Operand)} {K : V → St → Prop} (h : Abs G L w0 N st a w β) (hk : bsliceK T d t len (ps.toList.map fun (i, x) => (i, ev st x)) st K) :
    Step X P G L w0 N (do let y ← Instr.buildSlice t len (ps.map fun (i, x) => (i, a.eval x)); pure (Next.value y)) a w K := by
  obtain ⟨q1, q2⟩ := parts_eval h ps
  unfold bsliceK at hk
  split at hk
  · exact hk.elim
  · rename_i e he
    split at hk
    · rename_i sz z hsz hz
      obtain ⟨hpl, hzc, hsm, hk⟩ := hk
      have hpl := beq_iff_eq.1 hpl
      have hzc := beq_iff_eq.1 hzc
      simp at hsm
      have hu := telem_some (P := P) he
      have hi0 := hT.sz _ _ hsz
      have hz0 := hT.zero _ _ hz
      cases hie : P.info? e with
      | none => simp [hie] at hi0
      | some ie =>
        simp [hie] at hi0 hz0
        subst hi0
        cases len with
        | zero =>
          have hps : ps = #[] := by
            have : ps.size = 0 := by simpa using hpl
            exact Array.eq_empty_of_size_eq_zero this
          subst hps
          have hr : (Instr.buildSlice t 0 ((#[] : Array (Nat × Operand)).map fun (i, x) => (i, a.eval x))).run P w = .ok (.slice (some ⟨w.heap.size, 0, none⟩) 0 0) { w with heap := w.heap.push (.cells #[] e) } := by
            simp [Instr.buildSlice, run_underlying hu, sizeOf, typeInfo, hie, Instr.fill, newRow, newObj, Sem.run]
            have e0 : (Array.range 0).map (fun _ => (default : Value)) = #[] := Array.eq_empty_of_size_eq_zero (by simp)
            rw [e0]
          exact ⟨_, _, .inl (run_v hr), fun _ => Ext.push w _, _, _, β, hk, ⟨h.hr.ext (Ext.push w _), fun n => h.hr.vext (Ext.push w _) (h.tmp n), h.size, h.defers⟩, .nil⟩
        | succ len =>
          obtain ⟨hfree, hk⟩ := hk
          have hfree : lkB st.hs (.t d) = none := by simpa using hfree
          obtain ⟨xs, ds, h1, h2, h3, h4, h5, h6, h7⟩ := rowsK_fill hsm.2 (cs := List.replicate ((len + 1) * ie.size) V.un) hk (by simp [hpl])
          have hpos : ¬ (len + 1) * ie.size = 0 := by exact Nat.ne_of_gt (Nat.mul_pos (Nat.succ_pos _) hsm.2)
          have htz : Tells (okF G L w0 w β) w β (List.replicate ((len + 1) * ie.size) V.un) ((Array.range ((len + 1) * ie.size)).map (z.cells[· % z.cells.size]!)) := ⟨by simp, fun q hq => by
            have : (List.replicate ((len + 1) * ie.size) V.un).getD q .un = .un := by simp [List.getD_eq_getElem?_getD, List.getElem?_replicate]; split <;> rfl
            rw [this]; exact .un⟩
          obtain ⟨B, hB, hTl⟩ := fillV_sound htz q1 q2 h2
          have hr := run_buildSlice (P := P) w t e (len + 1) (ps.map fun (i, x) => (i, a.eval x)) B ie z hu hie hz0 (by omega) hpos hB
          have hxl : xs.length = len + 1 := by omega
          have hcs : CellsOf (okF G L w0 w β) w ie.size xs B.toList := by
            refine ⟨?_, h5, fun p q hp hq => ?_⟩
            · have := hTl.1
              rw [h3] at this
              simp at this
              rw [Array.length_toList, hxl]; exact this.symm
            · have e1 : p * ie.size + q < ds.length := by
                rw [h3]; simp
                exact mul_in (by omega) hq
              have := hTl.2 _ e1
              have e2 := h7 p q hp hq
              rw [Nat.zero_add] at e2
              rw [e2] at this
              have e3 : B.toList.getD (p * ie.size + q) undef = B.getD (p * ie.size + q) undef := by rw [← getD_toArray]
              rw [e3]
              have hm := h5 _ (getD_mem (d := []) hp)
              exact this.shut (hm.2 _ (getD_mem (d := V.un) (by rw [hm.1]; exact hq)))
          have hfin := h.hr.newRow (t := e) (C := B) hfree hcs (by simp) (fun q hq => by rw [← getD_toArray])
          refine ⟨_, _, .inl (run_v hr), fun _ => Ext.push w _, _, _, _, h1, ⟨hfin, fun n => h.hr.valloc hfree _ _ _ _ _ (h.tmp n), h.size, h.defers⟩, ?_⟩
          have hB2 : B.size = (len + 1) * ie.size := by have := hcs.1; rw [Array.length_toList, hxl] at this; exact this
          have := VRel.row (ok := okF G L w0 (w.alloc (.cells B e)) (upB β (.t d) ⟨some w.heap.size, 0, ie.size, xs.length⟩)) (w := w.alloc (.cells B e)) (β := upB β (.t d) ⟨some w.heap.size, 0, ie.size, xs.length⟩) (k := .t d) (b := w.heap.size) (o := 0) (s := ie.size) (m := xs.length) (lo := 0) (len := len + 1) (cap := len + 1) (by simp [upB]) (by omega) (Nat.le_refl _) (heap_alloc_new _ _) (by rw [hB2, Nat.zero_add, Nat.zero_add]; exact Nat.le_refl _)
          simpa using this
    · exact hk.elim

/-! ### make -/
def makeK (T : Tab) (d : Nat) (t : TypeId) (l c : V) (st : St) (K : V → St → Prop) : Prop :=
  match T.elem t, l, c with
  | some e, .sc (.int _ n), .sc (.int _ m) =>
    (match T.sz e, T.byt e, T.zero e with
     | some sz, some bt, some z =>
       (match (cv z).cells with
        | some zs => (zs.length == sz && zs.all V.shut && z.cells.size == sz) = true ∧ (lkB st.hs (.t d)).isNone = true ∧ Side (0 ≤ n) ∧ Side (n ≤ m) ∧ Side ((bt : Int) * m ≤ 281474976710656) ∧ Side (m ≤ 9223372036854775807) ∧
            K (.row (.t d) 0 n.toNat) { st with hs := (.t d, .row sz (List.replicate n.toNat zs)) :: st.hs }
        | none => False)
     | _, _, _ => False)
  | _, _, _ => False
theorem makeK_sound {X : Bool} {d : Nat} {t : TypeId} {l c : V} {x y : Value} {K : V → St → Prop} (h : Abs G L w0 N st a w β) (hl : OKW G L w0 w β l x) (hc : OKW G L w0 w β c y) (hk : makeK T d t l c st K) :
    Step X P G L w0 N (do let z ← Instr.makeSlice t x y; pure (Next.value z)) a w K := by
  unfold makeK at hk
  split at hk
  · rename_i e k n k' m he
    cases hl
    cases hc
    split at hk
    · rename_i sz bt z hsz hbt hz
      split at hk
      · rename_i zs hzs
        obtain ⟨hz1, hfree, ⟨h0⟩, ⟨h1⟩, ⟨h2⟩, ⟨h3⟩, hK⟩ := hk
        simp at hz1
        obtain ⟨⟨z1, z2⟩, z3⟩ := hz1
        have hfree : lkB st.hs (.t d) = none := by simpa using hfree
        obtain ⟨i, hi, hi1, hi2, hi3⟩ := tab_info (P := P) hsz hbt hz
        have hr := run_make (P := P) w t e i z (telem_some (P := P) he) hi hi3 k k' n m h0 h1 (by rw [hi2]; exact h2) h3
        rw [hi1] at hr
        have hM : ∀ q, q < m.toNat * sz → (madeCells z.cells (m.toNat * sz)).getD q undef = z.cells.getD (q % sz) undef := by
          intro q hq
          have hs0 : 0 < sz := Nat.pos_of_ne_zero (by rintro rfl; simp at hq)
          have : q % sz < z.cells.size := by rw [z3]; exact Nat.mod_lt _ hs0
          simp only [madeCells, z3]
          have e4 : (Array.map (fun x => z.cells[x % sz]!) (Array.range (m.toNat * sz))).getD q undef = z.cells[q % sz]! := by simp [hq]
          rw [e4, getElem!_pos z.cells (q % sz) this]
          simp [this]
        have hMs : (madeCells z.cells (m.toNat * sz)).size = m.toNat * sz := by simp [madeCells]
        obtain ⟨g1, g2⟩ := (VRel.cv (okF G L w0 w β) w β z).cells hzs
        have hcs : CellsOf (okF G L w0 w β) w sz (List.replicate n.toNat zs) ((madeCells z.cells (m.toNat * sz)).toList.take (n.toNat * sz)) := by
          have hnm := Nat.mul_le_mul_right sz (show n.toNat ≤ m.toNat by omega)
          refine ⟨by rw [List.length_take, Array.length_toList, hMs, List.length_replicate]; omega, ?_, ?_⟩
          · intro x hx
            have := List.eq_of_mem_replicate hx
            subst this
            exact ⟨z1, fun v hv => z2 v hv⟩
          · intro p q hp hq
            rw [List.length_replicate] at hp
            have hpq := mul_in hp hq
            have e1 : (List.replicate n.toNat zs).getD p [] = zs := by simp [List.getD_eq_getElem?_getD, hp]
            have e2 : ((madeCells z.cells (m.toNat * sz)).toList.take (n.toNat * sz)).getD (p * sz + q) undef = z.cells.getD q undef := by
              have : ((madeCells z.cells (m.toNat * sz)).toList.take (n.toNat * sz)).getD (p * sz + q) undef = (madeCells z.cells (m.toNat * sz)).getD (p * sz + q) undef := by
                rw [← getD_toArray]; simp [hpq]
              rw [this, hM _ (by omega), Nat.mul_comm p sz, Nat.mul_add_mod, Nat.mod_eq_of_lt hq]
            rw [e1, e2]
            have := g2 q (by omega)
            exact this.shut (z2 _ (getD_mem (by omega)))
        have hfin := h.hr.newRow (t := e) (C := madeCells z.cells (m.toNat * sz)) hfree hcs (by rw [List.length_take]; rw [Array.length_toList]; omega) (fun q hq => by
          rw [List.length_take, Array.length_toList] at hq
          have h4 : q < (madeCells z.cells (m.toNat * sz)).size := by omega
          have h5 : q < n.toNat * sz := by omega
          simp [List.getD_eq_getElem?_getD, h5, h4])
        refine ⟨_, _, .inl (run_v hr), fun _ => Ext.push w _, _, _, _, hK, ⟨hfin, fun q => h.hr.valloc hfree _ _ _ _ _ (h.tmp q), h.size, h.defers⟩, ?_⟩
        have := VRel.row (ok := okF G L w0 (w.alloc (.cells (madeCells z.cells (m.toNat * sz)) e)) (upB β (.t d) ⟨some w.heap.size, 0, sz, (List.replicate n.toNat zs).length⟩)) (w := w.alloc (.cells (madeCells z.cells (m.toNat * sz)) e)) (β := upB β (.t d) ⟨some w.heap.size, 0, sz, (List.replicate n.toNat zs).length⟩) (k := .t d) (b := w.heap.size) (o := 0) (s := sz) (m := (List.replicate n.toNat zs).length) (lo := 0) (len := n.toNat) (cap := m.toNat) (by simp [upB]) (by simp) (by omega) (heap_alloc_new _ _) (by rw [hMs, Nat.zero_add, Nat.zero_add]; exact Nat.le_refl _)
        simpa using this
      · exact hk.elim
    · exact hk.elim
  · exact hk.elim
end
end Go.Sym
