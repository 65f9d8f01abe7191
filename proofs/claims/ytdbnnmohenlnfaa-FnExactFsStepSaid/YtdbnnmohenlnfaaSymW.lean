/- A law's arguments, told abstractly; its row. -/
import Derived.Test.YtdbnnmohenlnfaaSymT
import Derived.WalkKit
import Derived.ProofKit
import Derived.OpenShut
import Derived.ChangeOld
import Derived.Below
import Derived.SizedLaws
import Derived.JoinedOf
import Derived.Carry
import Derived.ChangeArms
namespace Go.Sym
open Go.ChangeShapes Go.WideShapes Go.ChangeAt Go.RowKit
set_option linter.unusedVariables false
set_option linter.unusedSimpArgs false

/-- The shape of a cell. -/
inductive Sh where
  | int (k : IntKind)
  | bool
  | str
  | sl (ss : List Sh)

def shF (g : TypeId → Option (List Sh)) (P : Program) : List Field → Nat → Option (List Sh)
  | [], _ => some []
  | f :: fs, off =>
    if f.offset = off then
      match g f.type with
      | some ss => if ss.length = P.cellsOf f.type then (match shF g P fs (off + ss.length) with | some r => some (ss ++ r) | none => none) else none
      | none => none
    else none
def shOf (P : Program) : Nat → TypeId → Option (List Sh)
  | 0, _ => none
  | n + 1, t =>
    match P.underlying t with
    | some .bool => some [.bool]
    | some (.int k) => some [.int k]
    | some .string => some [.str]
    | some (.slice e) => (match shOf P n e with | some ss => if ss.length = P.cellsOf e ∧ 0 < ss.length ∧ 0 < P.bytesOf e then some [.sl ss] else none | none => none)
    | some (.struct fs) => (match shF (shOf P n) P fs.toList 0 with | some ss => if ss.length = P.cellsOf t then some ss else none | none => none)
    | _ => none

mutual
def Fit : Sh → V → Prop
  | .int k, v => ∃ n, v = .sc (.int k n) ∧ (Lit.int k n).wf = true
  | .bool, v => ∃ b, v = .sc (.bool b)
  | .str, v => ∃ s, v = .sc (.string s) ∧ s.size ≤ 140737488351232
  | .sl ss, v => ∃ xs, v = .rd ss.length xs ∧ xs.length ≤ 140737488351232 ∧ ∀ x, x ∈ xs → FitL ss x
def FitL : List Sh → List V → Prop
  | [], vs => vs = []
  | s :: ss, vs => ∃ v r, vs = v :: r ∧ Fit s v ∧ FitL ss r
end

theorem Fit.shut {s : Sh} {v : V} (h : Fit s v) : v.shut = true := by
  cases s <;> simp only [Fit] at h
  · obtain ⟨n, rfl, _⟩ := h; rfl
  · obtain ⟨b, rfl⟩ := h; rfl
  · obtain ⟨b, rfl, _⟩ := h; rfl
  · obtain ⟨xs, rfl, _⟩ := h; rfl
theorem FitL.len : ∀ {ss : List Sh} {vs : List V}, FitL ss vs → vs.length = ss.length
  | [], vs, h => by simp only [FitL] at h; rw [h]; rfl
  | s :: ss, vs, h => by
    simp only [FitL] at h
    obtain ⟨v, r, rfl, _, h2⟩ := h
    simp [FitL.len h2]
theorem FitL.shut : ∀ {ss : List Sh} {vs : List V}, FitL ss vs → ∀ v, v ∈ vs → v.shut = true
  | [], vs, h, v, hv => by simp only [FitL] at h; rw [h] at hv; cases hv
  | s :: ss, vs, h, v, hv => by
    simp only [FitL] at h
    obtain ⟨u, r, rfl, h1, h2⟩ := h
    rcases List.mem_cons.1 hv with rfl | hv
    · exact h1.shut
    · exact FitL.shut h2 v hv
theorem FitL.append : ∀ {ss ss' : List Sh} {vs vs' : List V}, FitL ss vs → FitL ss' vs' → FitL (ss ++ ss') (vs ++ vs')
  | [], _, vs, _, h, h' => by simp only [FitL] at h; rw [h]; exact h'
  | s :: ss, _, vs, _, h, h' => by
    simp only [FitL] at h
    obtain ⟨v, r, rfl, h1, h2⟩ := h
    exact ⟨v, _, rfl, h1, FitL.append h2 h'⟩

abbrev oldB (w : World) (b : Nat) : Prop := b < w.heap.size
def RelL (w : World) (vs : List V) (cs : List Value) : Prop := vs.length = cs.length ∧ ∀ i, i < vs.length → VRel (oldB w) w Beta.none (vs.getD i .un) (cs.getD i undef)

section
variable {H : Type} {enc : TypeId × Value → H} {P : Program} {w : World} {base : Nat} {spare : Nat → Bool} {held : Bool}

theorem RelL.append {vs vs' : List V} {cs cs' : List Value} (h : RelL w vs cs) (h' : RelL w vs' cs') : RelL w (vs ++ vs') (cs ++ cs') := by
  refine ⟨by simp [h.1, h'.1], fun i hi => ?_⟩
  by_cases hlt : i < vs.length
  · have := h.2 i hlt
    have hc : i < cs.length := by rw [← h.1]; exact hlt
    simpa [List.getD_eq_getElem?_getD, List.getElem?_append, hlt, hc] using this
  · have hi' : i - vs.length < vs'.length := by simp at hi; omega
    have := h'.2 _ hi'
    have hc : ¬ i < cs.length := by rw [← h.1]; exact hlt
    have hc2 : ¬ i < cs.length := hc
    simp only [List.getD_eq_getElem?_getD, List.getElem?_append, hlt, hc, if_false] at this ⊢
    rw [← h.1]; exact this
theorem RelL.one {v : V} {x : Value} (h : VRel (oldB w) w Beta.none v x) : RelL w [v] [x] := ⟨rfl, fun i hi => by
  have : i = 0 := by simpa using hi
  subst this; exact h⟩

theorem weights_each : ∀ {ts : List TypeId} {ds : List (DataW H)}, (DataW.weightsEach P ts ds).all (· ≤ reachBytes) = true → ∀ (i : Nat) t d, ts[i]? = some t → ds[i]? = some d → (d.weights P t).all (· ≤ reachBytes) = true := by
  intro ts ds h i t d ht hd
  exact List.all_eq_true.2 fun n hn => List.all_eq_true.1 h n (DataW.weights_mem_each ht hd n hn)
theorem weights_all {e : TypeId} : ∀ {ds : List (DataW H)}, (DataW.weightsAll P e ds).all (· ≤ reachBytes) = true → ∀ (i : Nat) d, ds[i]? = some d → (d.weights P e).all (· ≤ reachBytes) = true
  | [], _, i, d, hd => by simp at hd
  | a :: r, h, i, d, hd => by
    simp only [DataW.weightsAll, List.all_append, Bool.and_eq_true] at h
    cases i with
    | zero => simp at hd; subst hd; exact h.1
    | succ i => exact weights_all h.2 i d (by simpa using hd)

theorem cells_get {a : Addr} {n : Nat} {cs : List Value} (h : w.cells? base a n = some cs) : cs.length = n ∧ ∀ j, j < n → w.cell? (a.add j) = cs[j]? := by
  unfold World.cells? at h
  split at h
  · refine ⟨by simpa using mapM_some_length h, fun j hj => ?_⟩
    exact mapM_some_get h j j (by simp [hj])
  · cases h

theorem read : ∀ (n : Nat) (t : TypeId) (ss : List Sh) (fuel : Nat) (cs : List Value) (x : DataW H × List MemPlace), shOf P n t = some ss → DataW.trod enc P w base spare held fuel t cs = some x → (x.1.weights P t).all (· ≤ reachBytes) = true → ∃ vs, FitL ss vs ∧ RelL w vs cs := by
  intro n
  induction n with
  | zero => intro t ss fuel cs x h; simp [shOf] at h
  | succ n ih =>
    intro t ss fuel cs x h hx hwt
    unfold shOf at h
    split at h
    · rename_i ht
      cases h
      obtain ⟨b, rfl, rfl⟩ := DataW.trod_bool ht hx
      exact ⟨[.sc (.bool b)], ⟨_, _, rfl, ⟨b, rfl⟩, rfl⟩, RelL.one (.sc rfl)⟩
    · rename_i k ht
      cases h
      obtain ⟨b, rfl, rfl, hw⟩ := DataW.trod_int ht hx
      exact ⟨[.sc (.int k b)], ⟨_, _, rfl, ⟨b, rfl, hw⟩, rfl⟩, RelL.one (.sc rfl)⟩
    · rename_i ht
      cases h
      obtain ⟨b, rfl, rfl, hw⟩ := DataW.trod_string ht hx
      refine ⟨[.sc (.string b)], ⟨_, _, rfl, ⟨b, rfl, ?_⟩, rfl⟩, RelL.one (.sc rfl)⟩
      have : b.data.toList.length ≤ reachBytes := by simpa [DataW.weights] using hwt
      rw [Array.length_toList] at this
      exact this
    · rename_i e ht
      split at h
      · rename_i se hse
        split at h
        · rename_i hlen
          obtain ⟨hlen, hpos, hby⟩ := hlen
          cases h
          rcases DataW.trod_slice ht hx with ⟨rfl, rfl⟩ | ⟨a, len, cap, elems, rest, m, rfl, rfl, rfl, hb, hlc, hcm, hel, hel2, _, _⟩
          · exact ⟨[.rd se.length []], ⟨_, _, rfl, ⟨[], rfl, by simp, fun x hx => by cases hx⟩, rfl⟩, RelL.one VRel.rd0⟩
          · simp only [DataW.weights, ht, List.all_cons, List.all_append, Bool.and_eq_true, decide_eq_true_eq, List.length_map] at hwt
            obtain ⟨hw1, hw2, _⟩ := hwt
            have hlenB : len ≤ 140737488351232 := by
              have : elems.length ≤ (elems.length + rest.length) * P.bytesOf e := Nat.le_trans (Nat.le_add_right _ _) (Nat.le_mul_of_pos_right _ hby)
              have h3 : reachBytes = 140737488351232 := rfl
              omega
            have each : ∀ i : Fin len, ∃ vs, FitL se vs ∧ ∃ ci, w.cells? base (a.add (i.1 * P.cellsOf e)) (P.cellsOf e) = some ci ∧ RelL w vs ci := by
              intro ⟨i, hi⟩
              have h1 := hel2 i hi
              have hie : i < elems.length := by omega
              rw [List.getElem?_eq_getElem hie] at h1
              obtain ⟨ci, h2, h3⟩ := Option.bind_eq_some_iff.1 h1
              obtain ⟨vs, f1, f2⟩ := ih e se m ci _ hse h3 (weights_all hw2 i _ (by simp [hie]))
              exact ⟨vs, f1, ci, h2, f2⟩
            obtain ⟨g, hg⟩ := Classical.axiomOfChoice each
            let xs : List (List V) := List.ofFn g
            have hxl : xs.length = len := by simp [xs]
            have hxg : ∀ i (h : i < len), xs.getD i [] = g ⟨i, h⟩ := by
              intro i h
              simp [xs, List.getD_eq_getElem?_getD, h]
            have cell : ∀ i j, i < len → j < se.length → a.spot = none ∧ ∃ z, w.cell? ⟨a.block, a.off + (i * se.length + j), none⟩ = some z ∧ VRel (oldB w) w Beta.none ((xs.getD i []).getD j .un) z := by
              intro i j hi hj
              obtain ⟨f1, ci, f2, f3⟩ := hg ⟨i, hi⟩
              obtain ⟨c1, c2⟩ := cells_get f2
              have spot : a.spot = none := by
                obtain ⟨_, c0, z2, _⟩ := hg ⟨0, by omega⟩
                have := (cells_get z2).2 0 (by omega)
                have e0 : (cells_get z2).1 = (cells_get z2).1 := rfl
                have hc0 : 0 < c0.length := by rw [(cells_get z2).1]; omega
                rw [List.getElem?_eq_getElem hc0] at this
                have : w.cell? a = some c0[0] := by simpa [Addr.add] using this
                unfold World.cell? at this
                split at this
                · split at this
                  · cases this
                  · rename_i hs; simpa using hs
                · cases this
              have cj := c2 j (by omega)
              have hjc : j < ci.length := by omega
              rw [List.getElem?_eq_getElem hjc, add_at (a := a) spot, add_at (a := ⟨a.block, a.off + i * P.cellsOf e, none⟩) rfl] at cj
              refine ⟨spot, ci[j], ?_, ?_⟩
              · rw [← cj, hlen]
                have : a.off + (i * P.cellsOf e + j) = a.off + i * P.cellsOf e + j := by omega
                rw [this]
              · have := f3.2 j (by rw [f1.len]; exact hj)
                rw [hxg i hi]
                simpa [List.getD_eq_getElem?_getD, hjc] using this
            have hrd : VRel (oldB w) w Beta.none (.rd se.length xs) (.slice (some a) xs.length cap) := by
              refine .rd (by omega) (fun x hx => ?_) (fun h0 => ?_) (fun i j hi hj => ?_) (fun i j hi hj => ?_)
              · obtain ⟨i, hi, rfl⟩ := List.mem_iff_getElem.1 hx
                have : xs[i] = g ⟨i, by omega⟩ := by simp [xs]
                rw [this]
                have f1 := (hg ⟨i, by omega⟩).1
                exact ⟨f1.len, f1.shut⟩
              · obtain ⟨c1, z, c2, _⟩ := cell 0 0 (by omega) hpos
                refine ⟨rfl, c1, ?_⟩
                show a.block < w.heap.size
                unfold World.cell? at c2
                split at c2
                · rename_i hb; exact (Array.getElem?_eq_some_iff.1 hb).1
                · cases c2
              · obtain ⟨c1, z, c2, _⟩ := cell i j (by omega) hj
                show (w.cell? ⟨a.block, a.off + (i * se.length + j), none⟩).isSome = true
                rw [c2]; rfl
              · obtain ⟨c1, z, c2, c3⟩ := cell i j (by omega) hj
                show VRel _ _ _ _ ((w.cell? ⟨a.block, a.off + (i * se.length + j), none⟩).getD undef)
                rw [c2]; exact c3
            refine ⟨[.rd se.length xs], ⟨_, _, rfl, ⟨xs, rfl, by omega, fun x hx => ?_⟩, rfl⟩, RelL.one ?_⟩
            · obtain ⟨i, hi, rfl⟩ := List.mem_iff_getElem.1 hx
              have : xs[i] = g ⟨i, by omega⟩ := by simp [xs]
              rw [this]
              exact (hg ⟨i, by omega⟩).1
            · rw [hxl] at hrd; exact hrd
        · cases h
      · cases h
    · rename_i fs ht
      split at h
      · rename_i sf hsf
        split at h
        · rename_i hlen
          cases h
          obtain ⟨xs, m, rfl, rfl, hcl, hxl, hf⟩ := DataW.trod_struct ht hx
          simp only [DataW.weights, ht] at hwt
          have key : ∀ (fl : List Field) (xl : List (DataW H × List MemPlace)) (off : Nat) (s2 : List Sh), shF (shOf P n) P fl off = some s2 → xl.length = fl.length →
              (∀ (i : Nat) (f : Field), fl[i]? = some f → DataW.trod enc P w base spare held m f.type ((cs.drop f.offset).take (P.cellsOf f.type)) = xl[i]?) →
              (∀ (i : Nat) (f : Field) x, fl[i]? = some f → xl[i]? = some x → (x.1.weights P f.type).all (· ≤ reachBytes) = true) → ∃ vs, FitL s2 vs ∧ RelL w vs ((cs.drop off).take s2.length) := by
            intro fl
            induction fl with
            | nil =>
              intro xl off s2 hs _ _ _
              simp [shF] at hs
              subst hs
              exact ⟨[], rfl, by simp [RelL]⟩
            | cons f fl ihf =>
              intro xl off s2 hs hl hfx hwx
              simp only [shF] at hs
              split at hs
              · rename_i hoff
                split at hs
                · rename_i s0 hs0
                  split at hs
                  · rename_i hs0l
                    split at hs
                    · rename_i r hr
                      cases hs
                      cases xl with
                      | nil => simp at hl
                      | cons x xl =>
                        have h0 := hfx 0 f rfl
                        simp only [List.getElem?_cons_zero] at h0
                        obtain ⟨vs, f1, f2⟩ := ih f.type s0 m _ x hs0 h0 (hwx 0 f x rfl rfl)
                        obtain ⟨us, u1, u2⟩ := ihf xl (off + s0.length) r hr (by simpa using hl) (fun i g hg => by simpa using hfx (i + 1) g (by simpa using hg)) (fun i g x hg hx => hwx (i + 1) g x (by simpa using hg) (by simpa using hx))
                        refine ⟨vs ++ us, f1.append u1, ?_⟩
                        rw [hoff, ← hs0l] at f2
                        have : (cs.drop off).take (s0 ++ r).length = (cs.drop off).take s0.length ++ (cs.drop (off + s0.length)).take r.length := by
                          rw [List.length_append, List.take_add, List.drop_drop]
                        rw [this]
                        exact f2.append u2
                    · cases hs
                  · cases hs
                · cases hs
              · cases hs
          obtain ⟨vs, f1, f2⟩ := key fs.toList xs 0 ss hsf (by simpa using hxl) (fun i f hf2 => hf i f (by simpa using hf2)) (fun i f x hf2 hx2 => weights_each hwt i _ _ (by rw [List.getElem?_map, hf2]; rfl) (by rw [List.getElem?_map, hx2]; rfl))
          refine ⟨vs, f1, ?_⟩
          rw [hlen, ← hcl] at f2
          simpa using f2
        · cases h
      · cases h
    · cases h

/-- A value of a type: its cells together, or its one cell. -/
def topB (b : Bool) (vs : List V) : V := match b with | true => .agg vs | false => vs.headD .un
def isSt (P : Program) (t : TypeId) : Bool := match P.underlying t with | some (.struct _) => true | _ => false

theorem readTop {n : Nat} {t : TypeId} {ss : List Sh} {v : Value} {d : DataW H} {ps : List MemPlace} {b0 : Nat} (h : shOf P n t = some ss) (hd : DataW.Trod enc P w base spare held t v d ps) (hok : Value.okWide P w .any b0 t v) (hwt : (d.weights P t).all (· ≤ reachBytes) = true) :
    ∃ vs, FitL ss vs ∧ VRel (oldB w) w Beta.none (topB (isSt P t) vs) v := by
  obtain ⟨fuel, hd⟩ := hd
  obtain ⟨vs, f1, f2⟩ := read n t ss fuel _ _ h hd hwt
  refine ⟨vs, f1, ?_⟩
  have one : v.cells = #[v] → isSt P t = false → VRel (oldB w) w Beta.none (topB (isSt P t) vs) v := by
    intro hc hs
    rw [hc] at f2
    have hl := f2.1
    simp at hl
    have := f2.2 0 (by omega)
    rw [hs]
    unfold topB
    cases vs with
    | nil => simp at hl
    | cons u r => simpa using this
  unfold Value.okWide at hok
  cases n with
  | zero => simp [shOf] at h
  | succ n =>
  unfold shOf at h
  split at h
  · rename_i ht
    refine one ?_ (by simp [isSt, ht])
    simp only [ht, Cell.okWide, Cell.ok] at hok
    cases v <;> first | rfl | (simp at hok)
  · rename_i ht
    refine one ?_ (by simp [isSt, ht])
    simp only [ht, Cell.okWide, Cell.ok] at hok
    cases v <;> first | rfl | (simp at hok)
  · rename_i ht
    refine one ?_ (by simp [isSt, ht])
    simp only [ht, Cell.okWide, Cell.ok] at hok
    cases v <;> first | rfl | (simp at hok)
  · rename_i ht
    refine one ?_ (by simp [isSt, ht])
    simp only [ht, Cell.okWide, Cell.ok] at hok
    cases v <;> first | rfl | (simp at hok)
  · rename_i fs ht
    simp only [ht] at hok
    obtain ⟨cs, rfl, _⟩ := hok
    have : isSt P t = true := by simp [isSt, ht]
    rw [this]
    refine .agg (by simpa [Value.cells] using f2.1) fun i hi => ?_
    have := f2.2 i hi
    simpa [Value.cells, List.getD_eq_getElem?_getD] using this
  · cases h

def FitLL : List (List Sh) → List (List V) → Prop
  | [], vss => vss = []
  | ss :: r, vss => ∃ vs r', vss = vs :: r' ∧ FitL ss vs ∧ FitLL r r'
def tops : List Bool → List (List V) → List V
  | b :: bs, vs :: vss => topB b vs :: tops bs vss
  | _, _ => []

theorem readAll {n b0 : Nat} : ∀ {ts : List TypeId} {vals : List Value} {ds : List (DataW H)} {ps : List MemPlace} {shs : List (List Sh)} {bs : List Bool}, ts.map (shOf P n) = shs.map some → ts.map (isSt P) = bs → DataW.TrodAll enc P w base spare held ts vals ds ps →
    (∀ (j : Nat) t v, ts[j]? = some t → vals[j]? = some v → Value.okWide P w .any b0 t v) → (DataW.weightsEach P ts ds).all (· ≤ reachBytes) = true →
    ∃ vss, FitLL shs vss ∧ (tops bs vss).length = vals.length ∧ ∀ i, i < vals.length → VRel (oldB w) w Beta.none ((tops bs vss).getD i .un) (vals.getD i undef)
  | [], vals, ds, ps, shs, bs, hs, hb, hA, _, _ => by
    obtain ⟨rfl, rfl, rfl⟩ := trodAll_nil hA
    simp at hs hb
    subst hb
    have : shs = [] := by simpa using hs
    subst this
    exact ⟨[], rfl, rfl, fun i hi => by simp at hi⟩
  | t :: ts, vals, ds, ps, shs, bs, hs, hb, hA, hok, hwt => by
    obtain ⟨v, vs', d, ds', p, q, rfl, rfl, rfl, h1, h2⟩ := trodAll_cons hA
    cases shs with
    | nil => simp at hs
    | cons ss shs =>
      simp only [List.map_cons, List.cons.injEq] at hs hb
      subst hb
      have hw := weights_each hwt
      simp only [DataW.weightsEach, List.all_append, Bool.and_eq_true] at hwt
      obtain ⟨us, f1, f2⟩ := readTop (b0 := b0) hs.1 h1 (hok 0 t v rfl rfl) hwt.1
      obtain ⟨vss, g1, g2, g3⟩ := readAll hs.2 rfl h2 (fun j t v ht hv => hok (j + 1) t v (by simpa using ht) (by simpa using hv)) hwt.2
      refine ⟨us :: vss, ⟨us, vss, rfl, f1, g1⟩, by simp [tops, g2], fun i hi => ?_⟩
      cases i with
      | zero => simpa [tops] using f2
      | succ i => simpa [tops] using g3 i (by simpa using hi)
end

theorem trodAll_carry {H : Type} {enc : TypeId × Value → H} {P : Program} (hl : laidOutB P = true) {W W' : World} (hb : Go.RowKit.Below W.heap.size W W') : ∀ {ts : List TypeId} {vals : List Value} {ds : List (DataW H)} {ps : List MemPlace}, (∀ t, t ∈ ts → P.readableRec t = true ∧ t < P.types.size) →
    DataW.TrodAll enc P W 0 (fun _ => true) true ts vals ds ps → DataW.TrodAll enc P W' 0 (fun b => decide (b < W.heap.size)) true ts vals ds ps
  | [], vals, ds, ps, _, h => by
    obtain ⟨rfl, rfl, rfl⟩ := trodAll_nil h
    exact trodAll_mk0
  | t :: ts, vals, ds, ps, hr, h => by
    obtain ⟨v, vs', d, ds', p, q, rfl, rfl, rfl, h1, h2⟩ := trodAll_cons h
    have ht := hr t List.mem_cons_self
    refine trodAll_cons_mk (Go.RowKit.Below.trod hl ht.1 ht.2 h1 hb ?_) (trodAll_carry hl hb (fun t ht => hr t (List.mem_cons_of_mem _ ht)) h2)
    obtain ⟨m, hm⟩ := h1
    exact DataW.trod_lt m _ _ _ hm

/-- A law's row: what the walk of the law gives is what its statement asks. -/
theorem law_contract {P : Program} {f : FuncId} {fn : Func} {s : ChangeSpec} {tb : TypeId} (hl : laidOutB P = true) (hp : fn.params.toList.all (fun t => P.readableRec t && decide (t < P.types.size)) = true) (hr : fn.resultTypes = #[tb]) (htb : P.underlying tb = some .bool) (hvars : s.vars = [])
    (hfn : ∀ (H : Type) (ds : List (DataW H)), ds.length = fn.params.toList.length → s.fn H ds = { results := [.lit (.bool true)], args := ds })
    {n : Nat} {shs : List (List Sh)} {bs : List Bool} (hsh : fn.params.toList.map (shOf P n) = shs.map some) (hbs : fn.params.toList.map (isSt P) = bs)
    (main : ∀ vss, FitLL shs vss → AC P f (tops bs vss) [] fun r h => r = .sc (.bool true) ∧ h = [])
    {H : Type} {enc : TypeId × Value → H} {W : World} {base : Nat} {args : Array Value} {ds gs : List (DataW H)} {before : List MemPlace}
    (hval : ∀ (j : Nat) t v, fn.params[j]? = some t → args[j]? = some v → Value.okWide P W .any base t v)
    (hW : DataW.Whole enc P fn.params.toList s.vars false W args.toList ds gs before)
    (hwt : (DataW.weightsEach P (fn.params.toList ++ s.plain.varTypes P) (ds ++ gs)).all (· ≤ reachBytes) = true) :
    Calls P f args W fun e W' => ∃ v, e = .returned v ∧ s.post enc P fn false true false false W args v W' := by
  have hW' := hW
  obtain ⟨p, q, hA, hV, rfl, hfz, hnd⟩ := hW
  rw [hvars] at hV
  obtain ⟨rfl, rfl⟩ := trodVars_none hV
  have hlen : ∀ {ts : List TypeId} {vals : List Value} {ds : List (DataW H)} {ps : List MemPlace}, DataW.TrodAll enc P W 0 (fun _ => true) true ts vals ds ps → ds.length = ts.length ∧ vals.length = ts.length := by
    intro ts
    induction ts with
    | nil => intro vals ds ps h; obtain ⟨rfl, rfl, rfl⟩ := trodAll_nil h; exact ⟨rfl, rfl⟩
    | cons t ts ih =>
      intro vals ds ps h
      obtain ⟨v, vs', d, ds', p, q, rfl, rfl, rfl, h1, h2⟩ := trodAll_cons h
      have := ih h2
      simp [this.1, this.2]
  have hdl := (hlen hA).1
  have hal := (hlen hA).2
  have hw1 : (DataW.weightsEach P fn.params.toList ds).all (· ≤ reachBytes) = true := by
    refine List.all_eq_true.2 fun m hm => List.all_eq_true.1 hwt m ?_
    have : ∀ (ts us : List TypeId) (ds es : List (DataW H)), ds.length = ts.length → ∀ m, m ∈ DataW.weightsEach P ts ds → m ∈ DataW.weightsEach P (ts ++ us) (ds ++ es) := by
      intro ts
      induction ts with
      | nil => intro us ds es hl m hm; cases ds <;> simp [DataW.weightsEach] at hm
      | cons t ts ih =>
        intro us ds es hl m hm
        cases ds with
        | nil => simp at hl
        | cons d ds =>
          simp only [DataW.weightsEach, List.mem_append, List.cons_append] at hm ⊢
          rcases hm with hm | hm
          · exact .inl hm
          · exact .inr (ih us ds es (by simpa using hl) m hm)
    exact this _ _ _ _ hdl m hm
  obtain ⟨vss, hf, hl2, hv⟩ := readAll (b0 := base) hsh hbs hA (fun j t v ht hv => hval j t v (by simpa using ht) (by simpa using hv)) hw1
  have hin : HR (oldB W) Beta.none W W Beta.none [] :=
    ⟨rfl, rfl, rfl, Nat.le_refl _, fun _ _ _ => rfl, fun _ _ => rfl, fun _ _ h => by simp [lkB] at h, fun _ _ _ _ _ _ _ _ _ h => by simp [Beta.none] at h, fun _ _ _ _ _ h => by simp [Beta.none] at h, fun b hb => ⟨hb, by rintro ⟨_, _, _, _, h⟩; simp [Beta.none] at h⟩, fun _ _ h => by simp [Beta.none] at h, Grows.refl W⟩
  refine (main vss hf (oldB W) Beta.none W args hin ⟨by rw [hl2]; simp, fun i hi => ?_⟩).mono ?_
  · have := hv i (by rw [← hl2]; exact hi)
    have e : args.getD i undef = args.toList.getD i undef := by simp [List.getD_eq_getElem?_getD]
    rw [e]
    exact this.mono ⟨fun b hb => ⟨.inl hb, hb, fun _ _ _ _ h => by simp [Beta.none] at h⟩, fun _ _ => rfl⟩ (fun _ _ h => h) (fun _ _ _ _ _ _ _ _ h => by simp [Beta.none] at h)
  · rintro e W' ⟨x, r, h', β', rfl, ⟨rfl, rfl⟩, hr', hx⟩
    have hxe := VRel.sc_inv hx
    subst hxe
    have bel : Go.RowKit.Below W.heap.size W W' := ⟨hr'.os, hr'.tape, hr'.output, hr'.size, fun k hk => hr'.keep k hk (by rintro ⟨_, _, _, _, h⟩; simp [Beta.none] at h)⟩
    have hsp : s.fn H (ds ++ []) = { results := [.lit (.bool true)], args := ds } := by rw [List.append_nil]; exact hfn H ds hdl
    refine ⟨_, rfl, ds, [], _, [], p, [], hW', ?_, ?_, ?_, ?_, fun h => by cases h⟩
    · rw [hsp, hr]; exact trodAll_mk1 (shut_bool htb true)
    · rw [hsp]; exact trodAll_carry hl bel (fun t ht => by have := List.all_eq_true.1 hp t ht; simpa using this) hA
    · rw [hsp, hvars]; exact rfl
    · exact bel.frame _
end Go.Sym
