/- Reading and writing memory; fields; elements. -/
import Derived.Test.YtdbnnmohenlnfaaSymC
import Derived.Laws.Tables
import Derived.Laws.CopyRow
import Derived.Laws.Cells
namespace Go.Sym
set_option linter.unusedVariables false
set_option linter.unusedSimpArgs false

theorem add_at {a : Addr} (h : a.spot = none) (n : Nat) : a.add n = ⟨a.block, a.off + n, none⟩ := by
  unfold Addr.add
  split
  · rename_i e; subst e; cases a; simp_all
  · obtain ⟨b, o, s⟩ := a; simp_all

section
variable {T : Tab} {P : Program} [hT : T.Ok P] {G : Nat → Prop} {L : Beta} {w0 w : World} {N : Nat} {st : St} {a : Act} {β : Beta}

/-- The cells that begin where a pointer points. -/
def CellsAt (p : Nat → Prop) (w : World) (β : Beta) (b o : Nat) (cs : List V) : Prop :=
  ∀ j, j < cs.length → ∃ c, w.cell? ⟨b, o + j, none⟩ = some c ∧ VRel p w β (cs.getD j .un) c

def atK (st : St) (v : V) (K : List V → Prop) : Prop :=
  match v with
  | .ptr k i j =>
    match lkB st.hs k with
    | some (.box cs) => i = 0 ∧ K (cs.drop j)
    | some (.row _ xs) => Side (i < xs.length) ∧ K ((xs.getD i []).drop j)
    | none => False
  | .rp cs => K cs
  | _ => False

theorem getD_drop {α : Type} (l : List α) (n i : Nat) (d : α) : (l.drop n).getD i d = l.getD (n + i) d := by
  simp [List.getD_eq_getElem?_getD]

theorem atK_sound {v : V} {x : Value} {K : List V → Prop} (h : HR G L w0 w β st.hs) (hv : OKW G L w0 w β v x) (hk : atK st v K) :
    ∃ ad cs, x = .pointer (some ad) ∧ ad.spot = none ∧ K cs ∧ CellsAt (okF G L w0 w β) w β ad.block ad.off cs := by
  unfold atK at hk
  split at hk
  · cases hv
    rename_i k i j b o s m hb
    cases hl : lkB st.hs k with
    | none => rw [hl] at hk; exact hk.elim
    | some B =>
      obtain ⟨inf, h1, h2⟩ := h.rel k B hl
      rw [hb] at h1
      cases h1
      rw [hl] at hk
      cases h2 with
      | box g1 g2 g3 =>
        obtain ⟨rfl, hk⟩ := hk
        refine ⟨_, _, rfl, rfl, hk, fun q hq => ?_⟩
        rename_i cs C t
        simp at hq
        refine ⟨C.getD (j + q) undef, ?_, ?_⟩
        · simp [World.cell?, g1]
          have : j + q < C.size := by omega
          simp [this]
        · rw [getD_drop]; exact g3 _ (by omega)
      | row g1 g2 g3 g4 =>
        obtain ⟨⟨hi⟩, hk⟩ := hk
        refine ⟨_, _, rfl, rfl, hk, fun q hq => ?_⟩
        rename_i xs C t
        have hx : (xs.getD i []).length = s := by
          simp [hi]
          exact (g2 _ (List.getElem_mem _)).1
        simp only [List.length_drop, hx] at hq
        have hin : o + (i * s + (j + q)) < C.size := by
          have : (i + 1) * s ≤ xs.length * s := Nat.mul_le_mul_right _ hi
          rw [Nat.add_mul, Nat.one_mul] at this
          omega
        refine ⟨C.getD (o + (i * s + (j + q))) undef, ?_, ?_⟩
        · have e : o + (i * s + j) + q = o + (i * s + (j + q)) := by omega
          simp [World.cell?, g1, e, hin]
        · rw [getD_drop]; exact (g4 i (j + q) hi (by omega)).open_ β
  · cases hv with
    | rp h0 h1 h2 h3 h4 =>
    refine ⟨_, _, rfl, h1, hk, fun q hq => ?_⟩
    have := h3 q hq
    obtain ⟨c, hc⟩ := Option.isSome_iff_exists.1 this
    refine ⟨c, hc, ?_⟩
    have h5 := h4 q hq
    rw [hc] at h5
    exact VRel.open_ h5 β
  · exact hk.elim

def loadC (T : Tab) (t : TypeId) (cs : List V) (K : V → Prop) : Prop :=
  match T.sz t, T.agg t with
  | some n, some true => Side (n ≤ cs.length) ∧ K (.agg (cs.take n))
  | some _, some false => Side (0 < cs.length) ∧ K (cs.getD 0 .un)
  | _, _ => False

theorem cells_list {p : Nat → Prop} {b o : Nat} {cs : List V} (h : CellsAt p w β b o cs) : ∃ xs : List Value, xs.length = cs.length ∧ ∀ j, j < cs.length → w.cell? ⟨b, o + j, none⟩ = some (xs.getD j undef) ∧ VRel p w β (cs.getD j .un) (xs.getD j undef) := by
  refine ⟨(List.range cs.length).map fun j => (w.cell? ⟨b, o + j, none⟩).getD undef, by simp, fun j hj => ?_⟩
  obtain ⟨c, h1, h2⟩ := h j hj
  have e : ((List.range cs.length).map fun j => (w.cell? ⟨b, o + j, none⟩).getD undef).getD j undef = c := by simp [hj, h1]
  rw [e]
  exact ⟨h1, h2⟩

theorem Ext.cell {w w' : World} {ad : Addr} {x : Value} (h : Ext w w') (hc : w.cell? ad = some x) : w'.cell? ad = some x := by
  have hb : ad.block < w.heap.size := by
    apply Classical.byContradiction
    intro hn
    simp [World.cell?, Array.getElem?_eq_none (Nat.le_of_not_lt hn)] at hc
  unfold World.cell? at *
  rw [h.heap _ hb]
  exact hc

theorem loadC_run {p : Nat → Prop} {t : TypeId} {ad : Addr} {cs : List V} {K : V → Prop} (hs : ad.spot = none) (hc : CellsAt p w β ad.block ad.off cs) (hk : loadC T t cs K) :
    ∃ v x, K v ∧ (∀ w', Ext w w' → (Instr.loadAt t (.pointer (some ad))).run P w' = .ok x w') ∧ VRel p w β v x := by
  unfold loadC at hk
  obtain ⟨b, o, s⟩ := ad
  cases hs
  obtain ⟨xs, hl, hx⟩ := cells_list hc
  split at hk
  · rename_i n hn ha
    obtain ⟨⟨h1⟩, h2⟩ := hk
    refine ⟨_, .agg (xs.take n).toArray, h2, ?_, ?_⟩
    · intro w' hE
      have hr := run_loadCells_list (P := P) w' ⟨b, o, none⟩ (xs.take n) (fun j v hj => by
        rw [add_at rfl]
        have hjn : j < n := by
          have := (List.getElem?_eq_some_iff.1 hj).1
          simp at this; omega
        rw [List.getElem?_take, if_pos hjn] at hj
        rw [hE.cell (hx j (by omega)).1, List.getD_eq_getElem?_getD, hj]; rfl)
      have e : (xs.take n).length = n := by simp; omega
      rw [e] at hr
      simp [Instr.loadAt, Instr.sureAddr, loadVar, run_isAgg ha, run_sizeOf hn, hr]
    · refine .agg (by simp; omega) fun i hi => ?_
      have hi : i < n ∧ i < cs.length := by simp at hi; omega
      have e1 : (cs.take n).getD i .un = cs.getD i .un := by simp [List.getD_eq_getElem?_getD, hi.1]
      have e2 : (xs.take n).toArray.getD i undef = xs.getD i undef := by
        have h3 : i < xs.length := by omega
        simp [hi.1, List.getD_eq_getElem?_getD, h3]
      rw [e1, e2]
      exact (hx i hi.2).2
  · rename_i n hn ha
    obtain ⟨⟨h1⟩, h2⟩ := hk
    have := hx 0 h1
    refine ⟨_, _, h2, fun w' hE => ?_, this.2⟩
    simp [Instr.loadAt, Instr.sureAddr, loadVar, run_isAgg ha, load, Sem.run]
    have h0 := hE.cell this.1
    simp only [Nat.add_zero] at h0
    rw [h0]
    simp
  · exact hk.elim

def loadK (T : Tab) (t : TypeId) (v : V) (st : St) (K : V → St → Prop) : Prop := atK st v fun cs => loadC T t cs fun u => K u st

theorem loadK_sound {t : TypeId} {v : V} {x : Value} {K : V → St → Prop} (h : Abs G L w0 N st a w β) (hv : OKW G L w0 w β v x) (hk : loadK T t v st K) :
    StepP P G L w0 w β (do let y ← Instr.loadAt t x; pure (Next.value y)) (fun u => K u st) := by
  obtain ⟨ad, cs, rfl, h1, h2, h3⟩ := atK_sound h.hr hv hk
  obtain ⟨u, y, hu, hr, hv'⟩ := loadC_run (P := P) h1 h3 h2
  exact StepP.mk (fun w' hE => run_v (hr w' hE)) hv' hu

/-! ### Stores -/
def splice (cs : List V) (j : Nat) (us : List V) : List V :=
  match us with
  | [u] => cs.set j u
  | us => cs.take j ++ us ++ cs.drop (j + us.length)
theorem splice_eq (cs : List V) (j : Nat) (us : List V) (h : j + us.length ≤ cs.length) : splice cs j us = cs.take j ++ us ++ cs.drop (j + us.length) := by
  unfold splice
  split
  · simp at h
    rw [List.set_eq_take_append_cons_drop, if_pos (show j < cs.length from h)]
    simp
  · rfl
theorem splice_length (cs : List V) (j : Nat) (us : List V) (h : j + us.length ≤ cs.length) : (splice cs j us).length = cs.length := by
  rw [splice_eq _ _ _ h]; simp; omega
theorem splice_getD (cs : List V) (j : Nat) (us : List V) (h : j + us.length ≤ cs.length) (i : Nat) : (splice cs j us).getD i .un = if i < j then cs.getD i .un else if i < j + us.length then us.getD (i - j) .un else cs.getD i .un := by
  rw [splice_eq _ _ _ h]
  simp only [List.getD_eq_getElem?_getD, List.getElem?_append, List.length_append, List.length_take]
  have e : min j cs.length = j := by omega
  rw [e]
  by_cases h1 : i < j
  · have : i < j + us.length := by omega
    simp [h1, this]
  · by_cases h2 : i < j + us.length
    · simp [h1, h2]
    · simp only [h1, h2, if_false]
      rw [List.getElem?_drop]
      congr 2
      omega

def storeK (T : Tab) (t : TypeId) (v u : V) (st : St) (K : V → St → Prop) : Prop :=
  match v, u.cells with
  | .ptr k i j, some us =>
    (T.sz t == some us.length) = true ∧
    match lkB st.hs k with
    | some (.box cs) => i = 0 ∧ Side (j + us.length ≤ cs.length) ∧ us.all V.cell = true ∧ K .un { st with hs := setB st.hs k (.box (splice cs j us)) }
    | some (.row s xs) => Side (i < xs.length) ∧ Side (j + us.length ≤ s) ∧ us.all V.shut = true ∧ K .un { st with hs := setB st.hs k (.row s (xs.set i (splice (xs.getD i []) j us))) }
    | none => False
  | _, _ => False

theorem run_storeAt {t : TypeId} {b o : Nat} {x : Value} {C : Array Value} {e : TypeId} (hs : T.sz t = some x.cells.size) (hg : w.heap[b]? = some (.cells C e (0, 0))) (hin : o + x.cells.size ≤ C.size)
    (h1 : ∀ i, i < x.cells.size → (x.cells.getD i undef).oneCell' = true) :
    (Instr.storeAt t (.pointer (some ⟨b, o, none⟩)) x).run P w = .ok () (w.setRow b (C.toList.take o ++ x.cells.toList ++ C.toList.drop (o + x.cells.size)).toArray) := by
  have hr := run_storeCells_at (P := P) b o e x.cells.toList 0 C w hg (by simpa using hin) (fun v hv => by
    obtain ⟨i, hi, rfl⟩ := List.mem_iff_getElem.1 hv
    simp at hi
    have := h1 i hi
    simpa [hi] using this)
  simp only [Nat.add_zero, Array.length_toList] at hr
  simp [Instr.storeAt, Instr.sureAddr, storeVar, run_sizeOf hs, hr]

theorem getD_splice3 {C : Array Value} {xs : Array Value} {o : Nat} (h : o + xs.size ≤ C.size) (i : Nat) :
    ((C.toList.take o ++ xs.toList ++ C.toList.drop (o + xs.size)).toArray).getD i undef = if i < o then C.getD i undef else if i < o + xs.size then xs.getD (i - o) undef else C.getD i undef := by
  have e0 : ∀ (l : List Value) (i : Nat), l.toArray.getD i undef = l.getD i undef := by
    intro l i
    simp [List.getD_eq_getElem?_getD]
  have e1 : ∀ (A : Array Value) (i : Nat), A.getD i undef = A.toList.getD i undef := by intro A i; rw [← e0]
  rw [e0, e1, e1]
  simp only [List.getD_eq_getElem?_getD, List.getElem?_append, List.length_append, List.length_take, Array.length_toList]
  have e : min o C.size = o := by omega
  rw [e]
  by_cases h1 : i < o
  · have : i < o + xs.size := by omega
    simp [h1, this]
  · by_cases h2 : i < o + xs.size
    · simp [h1, h2]
    · simp only [h1, h2, if_false]
      rw [List.getElem?_drop]
      simp [show o + xs.size + (i - (o + xs.size)) = i from by omega]

theorem storeK_sound {t : TypeId} {v u : V} {x y : Value} {K : V → St → Prop} (h : Abs G L w0 N st a w β) (hv : OKW G L w0 w β v x) (hu : OKW G L w0 w β u y) (hk : storeK T t v u st K) :
    Step false P G L w0 N (do Instr.storeAt t x y; pure Next.skip) a w K := by
  unfold storeK at hk
  split at hk
  · rename_i v1 v2 k i j us hus
    obtain ⟨hsz, hk⟩ := hk
    have hsz := beq_iff_eq.1 hsz
    cases hv
    rename_i b o s m hb
    obtain ⟨hc1, hc2⟩ := hu.cells hus
    have fin : ∀ (C : Array Value) (e : TypeId) (B : Blk), w.heap[b]? = some (.cells C e (0, 0)) → o + (i * s + j) + y.cells.size ≤ C.size → (∀ q, q < y.cells.size → (y.cells.getD q undef).oneCell' = true) →
        (∀ C', (∀ q, C'.getD q undef = if q < o + (i * s + j) then C.getD q undef else if q < o + (i * s + j) + y.cells.size then y.cells.getD (q - (o + (i * s + j))) undef else C.getD q undef) → C'.size = C.size → Wr w (w.setRow b C') b →
          (w.setRow b C').heap[b]? = some (.cells C' e (0, 0)) → BRel (okF G L w0 (w.setRow b C') β) (w.setRow b C') β ⟨some b, o, s, m⟩ B) → K .un { st with hs := setB st.hs k B } → Step false P G L w0 N (do Instr.storeAt t (.pointer (some ⟨b, o + (i * s + j), none⟩)) y; pure Next.skip) a w K := by
      intro C e B hg hin h1 hB hK
      have hr := run_storeAt (P := P) (o := o + (i * s + j)) (by rw [hc1]; exact hsz) hg hin h1
      generalize hC' : (C.toList.take (o + (i * s + j)) ++ y.cells.toList ++ C.toList.drop (o + (i * s + j) + y.cells.size)).toArray = C' at hr
      have hsize : C'.size = C.size := by rw [← hC']; simp; omega
      have hw : Wr w (w.setRow b C') b := Wr.setRow w b C' (fun C0 t0 fr h0 => by rw [hg] at h0; cases h0; omega)
      refine ⟨undef, w.setRow b C', .inr ⟨by rw [Sem.run_bind, hr]; rfl, rfl⟩, (fun hx => by cases hx), .un, _, β, hK, ?_, .un⟩
      exact ⟨h.hr.write hb hw (hB C' (fun q => by rw [← hC']; exact getD_splice3 hin q) hsize hw (setRow_heap w b C C' e _ hg)), fun n => h.hr.vwrite hb hw (h.tmp n), h.size, h.defers⟩
    cases hl : lkB st.hs k with
    | none => rw [hl] at hk; exact hk.elim
    | some B =>
      obtain ⟨inf, h1, h2⟩ := h.hr.rel k B hl
      rw [hb] at h1
      cases h1
      rw [hl] at hk
      cases h2 with
      | box g1 g2 g3 =>
        rename_i cs C e
        obtain ⟨rfl, ⟨hj⟩, hall, hK⟩ := hk
        rw [List.all_eq_true] at hall
        refine fin C e _ g1 (by omega) ?_ ?_ hK
        · intro q hq
          have hq' : q < us.length := by omega
          exact (hc2 q hq').cell (hall _ (by simp [hq']))
        · intro C' hC' hsize hw hh
          refine .box hh (by rw [splice_length _ _ _ hj]; omega) fun q hq => ?_
          rw [splice_length _ _ _ hj] at hq
          rw [splice_getD _ _ _ hj, hC' q]
          simp only [Nat.zero_mul, Nat.zero_add, hc1]
          split
          · exact h.hr.vwrite hb hw (g3 q hq)
          · split
            · exact h.hr.vwrite hb hw (hc2 _ (by omega))
            · exact h.hr.vwrite hb hw (g3 q hq)
      | row g1 g2 g3 g4 =>
        rename_i xs C e
        obtain ⟨⟨hi⟩, ⟨hj⟩, hall, hK⟩ := hk
        rw [List.all_eq_true] at hall
        have hx : (xs.getD i []).length = s ∧ ∀ v, v ∈ xs.getD i [] → v.shut = true := by
          simp [hi]
          exact g2 _ (List.getElem_mem _)
        have hmul : (i + 1) * s ≤ xs.length * s := Nat.mul_le_mul_right _ hi
        rw [Nat.add_mul, Nat.one_mul] at hmul
        have hj' : j + us.length ≤ (xs.getD i []).length := by omega
        refine fin C e _ g1 (by omega) ?_ ?_ hK
        · intro q hq
          have hq' : q < us.length := by omega
          exact (hc2 q hq').cell (V.cell_of_shut (hall _ (by simp [hq'])))
        · intro C' hC' hsize hw hh
          have e : (xs.set i (splice (xs.getD i []) j us)).length = xs.length := by simp
          rw [← e]
          refine .row hh ?_ (by rw [e]; omega) ?_
          · intro z hz
            rcases List.mem_or_eq_of_mem_set hz with hz | rfl
            · exact g2 z hz
            · refine ⟨by rw [splice_length _ _ _ hj']; exact hx.1, ?_⟩
              intro v hv
              rw [splice_eq _ _ _ hj'] at hv
              simp only [List.mem_append] at hv
              rcases hv with (hv | hv) | hv
              · exact hx.2 v (List.mem_of_mem_take hv)
              · exact hall v hv
              · exact hx.2 v (List.mem_of_mem_drop hv)
          · intro p q hp hq
            rw [e] at hp
            have hgo := h.hr.goesW hb hw
            have mv : ∀ {v : V} {x : Value}, VRel (okF G L w0 w β) w Beta.none v x → VRel (okF G L w0 (w.setRow b C') β) (w.setRow b C') Beta.none v x := fun hv =>
              hv.mono hgo (fun _ _ h => by simp [Beta.none] at h) (fun _ _ _ _ _ _ _ _ h => by simp [Beta.none] at h)
            have hpm : (p + 1) * s ≤ xs.length * s := Nat.mul_le_mul_right _ hp
            rw [Nat.add_mul, Nat.one_mul] at hpm
            rw [hC']
            by_cases hpi : p = i
            · subst hpi
              have e2 : (xs.set p (splice (xs.getD p []) j us)).getD p [] = splice (xs.getD p []) j us := by simp [hp]
              rw [e2, splice_getD _ _ _ hj', hc1]
              by_cases c1 : q < j
              · have d1 : o + (p * s + q) < o + (p * s + j) := by omega
                rw [if_pos c1, if_pos d1]; exact mv (g4 p q hp hq)
              · have d1 : ¬ o + (p * s + q) < o + (p * s + j) := by omega
                rw [if_neg c1, if_neg d1]
                by_cases c2 : q < j + us.length
                · have d2 : o + (p * s + q) < o + (p * s + j) + us.length := by omega
                  rw [if_pos c2, if_pos d2]
                  have e3 : o + (p * s + q) - (o + (p * s + j)) = q - j := by omega
                  rw [e3]
                  exact (h.hr.vwrite hb hw (hc2 (q - j) (by omega))).shut (hall _ (by
                    have : q - j < us.length := by omega
                    simp [this]))
                · have d2 : ¬ o + (p * s + q) < o + (p * s + j) + us.length := by omega
                  rw [if_neg c2, if_neg d2]; exact mv (g4 p q hp hq)
            · have e2 : (xs.set i (splice (xs.getD i []) j us)).getD p [] = xs.getD p [] := by
                simp [List.getD_eq_getElem?_getD, Ne.symm hpi]
              rw [e2]
              have hout : o + (p * s + q) < o + (i * s + j) ∨ ¬ o + (p * s + q) < o + (i * s + j) + y.cells.size := by
                rcases Nat.lt_or_gt_of_ne hpi with hlt | hlt
                · left
                  have := Nat.mul_le_mul_right s (show p + 1 ≤ i from hlt)
                  rw [Nat.add_mul, Nat.one_mul] at this
                  omega
                · right
                  have := Nat.mul_le_mul_right s (show i + 1 ≤ p from hlt)
                  rw [Nat.add_mul, Nat.one_mul] at this
                  omega
              rcases hout with ho | ho
              · rw [if_pos ho]; exact mv (g4 p q hp hq)
              · have d1 : ¬ o + (p * s + q) < o + (i * s + j) := by omega
                rw [if_neg d1, if_neg ho]; exact mv (g4 p q hp hq)
  · exact hk.elim
end
end Go.Sym
