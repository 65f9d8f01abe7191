/- sort.Slice over a row of the call's own: the shelf's contract, told abstractly. -/
import Derived.Test.YtdbnnmohenlnfaaSymL
import Derived.Shelf.SlSortFuncK.WholeK
import Derived.Shelf.GgSortFunc.Tiny
namespace Go.Sym
open Go.Sort Go.Shelf Go.Lib Go.Proofs
set_option linter.unusedVariables false
set_option linter.unusedSimpArgs false

theorem ext_ahead (w : World) (n : Nat) : Ext w (Sort.ahead w n) := ⟨rfl, rfl, rfl, Nat.le_refl _, fun _ _ => rfl⟩
theorem ext_grow (w : World) (os : Array Obj) : Ext w (Sort.grow w os) := ⟨rfl, rfl, rfl, by simp [Sort.grow], fun b hb => by simp [Sort.grow, Array.getElem?_append, hb]⟩
theorem ext_drewN (w : World) (n : Nat) : Ext w (w.drewN n) := ⟨rfl, rfl, rfl, Nat.le_refl _, fun _ _ => rfl⟩

theorem putRow_wr (w : World) (b o : Nat) (F : Array Value) : Wr w (putRow id w b o F) b := by
  refine ⟨rfl, rfl, rfl, by simp, fun q hq => ?_, fun C t fr h => ?_⟩
  · simp [putRow, mapBlock, Array.getElem?_modify, Ne.symm hq]
  · refine ⟨putCells id o F C, ?_, by simp [putCells]⟩
    simp [putRow, mapBlock, Array.getElem?_modify, h, onCells]
theorem putRow_heap {w : World} {b o : Nat} {F C : Array Value} {t : TypeId} {fr : Nat × Nat} (h : w.heap[b]? = some (.cells C t fr)) : (putRow id w b o F).heap[b]? = some (.cells (putCells id o F C) t fr) := by
  simp [putRow, mapBlock, Array.getElem?_modify, h, onCells]

section
variable {G : Nat → Prop} {L : Beta} {w0 w : World} {β : Beta} {hs : Hp}

theorem HR.reRow (h : HR G L w0 w β hs) {k : Key} {b o s m : Nat} (hk : β k = some ⟨some b, o, s, m⟩) {C : Array Value} {t : TypeId} (hh : w.heap[b]? = some (.cells C t (0, 0))) {ys : List (List V)} {F : Array Value}
    (hm : m = ys.length) (hF : F.size = ys.length * s) (hC : o + ys.length * s ≤ C.size) (hy : ∀ x, x ∈ ys → x.length = s ∧ ∀ v, v ∈ x → v.shut = true)
    (hv : ∀ i j, i < ys.length → j < s → VRel (okF G L w0 w β) w Beta.none ((ys.getD i []).getD j .un) (F.getD (i * s + j) undef)) (n : Nat) (os : Array Obj) :
    HR G L w0 (Sort.grow (putRow id (Sort.ahead w n) b o F) os) β (setB hs k (.row s ys)) ∧ ∀ v x, OKW G L w0 w β v x → OKW G L w0 (Sort.grow (putRow id (Sort.ahead w n) b o F) os) β v x := by
  have h1 := h.ext (ext_ahead w n)
  have e2 := putRow_wr (Sort.ahead w n) b o F
  have hh1 : (Sort.ahead w n).heap[b]? = some (.cells C t (0, 0)) := hh
  have h2 : HR G L w0 (putRow id (Sort.ahead w n) b o F) β (setB hs k (.row s ys)) := by
    refine h1.write hk e2 ?_
    rw [hm]
    refine .row (putRow_heap hh1) hy (by simpa [putCells] using hC) fun i j hi hj => ?_
    have hlt : i * s + j < ys.length * s := by
      have := Nat.mul_le_mul_right s (show i + 1 ≤ ys.length from hi)
      rw [Nat.add_mul, Nat.one_mul] at this
      omega
    have e : (putCells id o F C).getD (o + (i * s + j)) undef = F.getD (i * s + j) undef := by
      have g1 : o + (i * s + j) < C.size := by omega
      have g2 : i * s + j < F.size := by omega
      simp [putCells, g1, g2]

    rw [e]
    have := (hv i j hi hj)
    exact (this.mono (h.goes (ext_ahead w n)) (fun _ _ h => h) (fun _ _ _ _ _ _ _ _ h => by simp [Beta.none] at h)).mono (h1.goesW hk e2) (fun _ _ h => h) (fun _ _ _ _ _ _ _ _ h => by simp [Beta.none] at h)
  have hq2 : ∀ v x, OKW G L w0 w β v x → OKW G L w0 (putRow id (Sort.ahead w n) b o F) β v x := fun v x hx => h1.vwrite hk e2 (h.vext (ext_ahead w n) hx)
  exact ⟨h2.ext (ext_grow _ os), fun v x hx => h2.vext (ext_grow _ os) (hq2 v x hx)⟩

theorem VRel.sc_inv {p : Nat → Prop} {v x : Value} (h : VRel p w β (.sc v) x) : x = v := by cases h; rfl
theorem VRel.ptr_inv {p : Nat → Prop} {k : Key} {i j : Nat} {x : Value} (h : VRel p w β (.ptr k i j) x) : ∃ b o s m, β k = some ⟨some b, o, s, m⟩ ∧ x = .pointer (some ⟨b, o + (i * s + j), none⟩) := by
  cases h with
  | ptr h => exact ⟨_, _, _, _, h, rfl⟩
theorem VRel.row_inv {p : Nat → Prop} {k : Key} {lo len : Nat} {x : Value} (h : VRel p w β (.row k lo len) x) (hl : 0 < len) : ∃ b o s m cap, β k = some ⟨some b, o, s, m⟩ ∧ lo + len ≤ m ∧ len ≤ cap ∧ x = .slice (some ⟨b, o + lo * s, none⟩) len cap := by
  cases h with
  | rowZ => omega
  | row h1 h2 h3 h4 h5 => exact ⟨_, _, _, _, _, h1, h2, h3, rfl⟩
/-- A cell of a struct of the call's own. -/
theorem HR.boxCell (h : HR G L w0 w β hs) {k : Key} {cs : List V} (hk : lkB hs k = some (.box cs)) {b o s m : Nat} (hb : β k = some ⟨some b, o, s, m⟩) : o = 0 ∧ ∀ i, i < cs.length → ∃ x, w.cell? ⟨b, i, none⟩ = some x ∧ OKW G L w0 w β (cs.getD i .un) x := by
  obtain ⟨inf, h1, h2⟩ := h.rel k _ hk
  rw [hb] at h1
  cases h1
  cases h2 with
  | box q1 q2 q3 =>
  refine ⟨rfl, fun i hi => ?_⟩
  have := q3 i hi
  rename_i C t
  have hlt : i < C.size := by omega
  refine ⟨C[i], by simp [World.cell?, q1, hlt], ?_⟩
  simpa [hlt] using this
/-- A cell of a row of the call's own. -/
theorem HR.rowCell (h : HR G L w0 w β hs) {k : Key} {sz : Nat} {xs : List (List V)} (hk : lkB hs k = some (.row sz xs)) {b o s m : Nat} (hb : β k = some ⟨some b, o, s, m⟩) : s = sz ∧ m = xs.length ∧ ∀ i j, i < xs.length → j < sz → ∃ x, w.cell? ⟨b, o + (i * sz + j), none⟩ = some x ∧ VRel (okF G L w0 w β) w Beta.none ((xs.getD i []).getD j .un) x := by
  obtain ⟨inf, h1, h2⟩ := h.rel k _ hk
  rw [hb] at h1
  cases h1
  cases h2 with
  | row q1 q2 q3 q4 =>
  refine ⟨rfl, rfl, fun i j hi hj => ?_⟩
  have := q4 i j hi hj
  rename_i C t
  have hlt : i * sz + j < xs.length * sz := by
    have := Nat.mul_le_mul_right sz (show i + 1 ≤ xs.length from hi)
    rw [Nat.add_mul, Nat.one_mul] at this
    omega
  have hlt2 : o + (i * sz + j) < C.size := by omega
  refine ⟨C[o + (i * sz + j)], by simp [World.cell?, q1, hlt2], ?_⟩
  simpa [hlt2] using this

/-- An element of the row: what tells it, what it is. -/
abbrev Elt (p : Nat → Prop) (w : World) (s : Nat) (xs : List (List V)) := { q : List V × List Value // q.1 ∈ xs ∧ q.2.length = s ∧ ∀ j, j < s → VRel p w Beta.none (q.1.getD j .un) (q.2.getD j undef) }

theorem Elt.one {p : Nat → Prop} {w : World} {s : Nat} {xs : List (List V)} (hx : ∀ x, x ∈ xs → x.length = s ∧ ∀ v, v ∈ x → v.shut = true) (e : Elt p w s xs) : ∀ v, v ∈ e.1.2 → v.oneCell' = true := by
  intro v hv
  obtain ⟨j, hj, rfl⟩ := List.mem_iff_getElem.1 hv
  have h1 := hx _ e.2.1
  have h2 := e.2.2.2 j (by rw [← e.2.2.1]; exact hj)
  have h3 : (e.1.1.getD j .un) ∈ e.1.1 := getD_mem (by rw [h1.1, ← e.2.2.1]; exact hj)
  have := h2.cell (V.cell_of_shut (h1.2 _ h3))
  simpa [List.getD_eq_getElem?_getD, hj] using this
end

/-- sort.Slice at elements of s cells, 2 of them or more. 'less' is asked in every world in which the row holds elements of ours. -/
theorem CallS.sortK {P : Program} {ρ : Ren} (Ly : LaysGg.n6 P ρ) {t e : TypeId} {ti ie : TypeInfo} (hi : P.info? t = some ti) (hd : ti.desc = .slice e) (hpk : P.packed t = false) (hie : P.info? e = some ie) {ke : Nat} (hke : ∀ w, (Extern.Rtype.kind e).run P w = .ok ke w)
    {st : St} {k : Key} {s : Nat} {xs : List (List V)} {g : Nat} {caps : List V} (hk : lkB st.hs k = some (.row s xs)) (hs0 : 0 < s) (hs1 : ie.size = s) (hagg : ∀ w, (isAgg e).run P w = .ok true w) (lt : List V → List V → Bool) (hO : SWO lt)
    (eg : ∀ args w, (callFunc g args).run P w = .ok (.enter g args) w) {nn : Nat} (hnn : nn = xs.length) (h2 : 2 ≤ xs.length) (hsz : xs.length < 4611686018427387904)
    {f : Nat} (hf : P.funcs.findIdx? (·.name == "internal/reflectlite" ++ ".Swapper$" ++ toString (swapperK xs.length ie ke)) = some f)
    (gS : Bool) (hx : ∀ args W, (callFunc f args).run P W = ((Extern.ReflectliteSwapper.swap gS args).run P W).andThen fun v w' => .ok (.value v) w')
    (hless : ∀ (G : Nat → Prop) (L : Beta) (w0 w : World) (β : Beta) (ys : List (List V)) (cs : Array Value), ys.length = xs.length → (∀ y, y ∈ ys → y ∈ xs) → HR G L w0 w β (setB st.hs k (.row s ys)) → Args (okF G L w0 w β) w β caps cs → ∀ i j : Nat, i < xs.length → j < xs.length →
      Calls P g (#[.int .i64 i, .int .i64 j] ++ cs) w fun e w' => e = .returned (.bool (lt (ys.getD i []) (ys.getD j []))) ∧ ∃ q, w' = w.drewN q)
    {K : V → St → Prop} (hK : ∀ ys : List (List V), ys.Perm xs → (∀ i j, i < j → j < xs.length → lt (ys.getD j []) (ys.getD i []) = false) → K (.tup []) { st with hs := setB st.hs k (.row s ys) }) :
    CallS false P (ρ.f 6) [.ifc t (.row k 0 nn), .fn g caps] st K := by
  subst hnn
  intro G L w0 N a w β args hA ha
  obtain ⟨hl, hv⟩ := ha
  have hargs : ∃ x0 x1, args = #[x0, x1] := by
    obtain ⟨l⟩ := args
    match l, hl with
    | [x, y], _ => exact ⟨x, y, rfl⟩
  obtain ⟨x0, x1, rfl⟩ := hargs
  have v0 := hv 0 (by simp)
  have v1 := hv 1 (by simp)
  simp at v0 v1
  cases v0 with
  | ifc v0 =>
  cases v1 with
  | fn c1 c2 =>
  rename_i y cs
  have h := hA.hr
  obtain ⟨inf, hb, hrel⟩ := h.rel k _ hk
  generalize hn : xs.length = n at v0
  cases v0 with
  | rowZ => omega
  | row r1 r2 r3 r4 r5 =>
  rename_i b o s' m cap C t' fr
  rw [r1] at hb
  cases hb
  cases hrel with
  | row g1 g2 g3 g4 =>
  rename_i C' t''
  subst hn
  have hne : xs ≠ [] := by intro e; rw [e] at h2; simp at h2
  let α := Elt (okF G L w0 w β) w s xs
  have mk : ∀ i, i < xs.length → ∃ q : α, q.1.1 = xs.getD i [] ∧ ∀ j, j < s → q.1.2.getD j undef = C'.getD (o + (i * s + j)) undef := by
    intro i hi'
    refine ⟨⟨(xs.getD i [], (List.range s).map fun j => C'.getD (o + (i * s + j)) undef), getD_mem hi', by simp, fun j hj => ?_⟩, rfl, fun j hj => ?_⟩
    · have := g4 i j hi' hj
      simpa [List.getD_eq_getElem?_getD, hj] using this
    · simp [List.getD_eq_getElem?_getD, hj]
  haveI : Inhabited α := ⟨(mk 0 (by omega)).choose⟩
  let d : Array α := Array.ofFn fun i : Fin xs.length => (mk i.1 i.2).choose
  have hd1 : ∀ i, i < xs.length → (d[i]!).1.1 = xs.getD i [] ∧ ∀ j, j < s → (d[i]!).1.2.getD j undef = C'.getD (o + (i * s + j)) undef := by
    intro i hi'
    have : d[i]! = (mk i hi').choose := by simp [d, hi']
    rw [this]
    exact (mk i hi').choose_spec
  have hds : d.size = xs.length := by simp [d]
  let enc : α → List Value := fun q => q.1.2
  have henc : ∀ q : α, (enc q).length = s := fun q => q.2.2.1
  have hH : HoldsK enc s w b o d := by
    intro j hj
    rw [size_flatK] at hj
    have hj1 : j / s < d.size := Nat.div_lt_of_lt_mul (by rw [Nat.mul_comm]; exact hj)
    have hj2 : j % s < s := Nat.mod_lt _ hs0
    have e1 : j / s * s + j % s = j := by rw [Nat.mul_comm]; exact Nat.div_add_mod j s
    have hlt : o + j < C'.size := by rw [hds] at hj; omega
    have := (hd1 (j / s) (by omega)).2 (j % s) hj2
    rw [e1] at this
    refine ⟨?_, by simp [World.frozen?, g1]⟩
    rw [get_flatK _ _ _ _ hj]
    simp only [World.cell?, g1]
    have h3 : (enc d[j / s]!)[j % s]! = (d[j / s]!).1.2.getD (j % s) undef := by
      have : j % s < (enc d[j / s]!).length := by rw [henc]; exact hj2
      simp [enc, List.getD_eq_getElem?_getD] at this ⊢
      simp [this]
    show (if (none : Option _).isSome = true then none else C'[o + j]?) = some (id _)
    rw [h3, this]
    simp [hlt]
  have hW : ∀ (dk : Array α), dk.size = xs.length → ∀ (q : Nat) (os : Array Obj),
      HR G L w0 (Sort.grow (putRowK enc s (Sort.ahead w q) b o dk) os) β (setB st.hs k (.row s (dk.toList.map (·.1.1)))) ∧ ∀ v x, OKW G L w0 w β v x → OKW G L w0 (Sort.grow (putRowK enc s (Sort.ahead w q) b o dk) os) β v x := by
    intro dk hdk q os
    have hl : (dk.toList.map (·.1.1)).length = xs.length := by simp [hdk]
    refine h.reRow r1 g1 (by rw [hl]) (by rw [size_flatK, hl, hdk]) (by rw [hl]; exact g3) ?_ ?_ q os
    · intro x hx'
      obtain ⟨z, _, rfl⟩ := List.mem_map.1 hx'
      exact g2 _ z.2.1
    · intro i j hi' hj
      rw [hl] at hi'
      have hlt : i * s + j < dk.size * s := by
        have := Nat.mul_le_mul_right s (show i + 1 ≤ dk.size by omega)
        rw [Nat.add_mul, Nat.one_mul] at this
        omega
      have e1 : (i * s + j) / s = i := (blk_iff s i _ hs0).1 ⟨by omega, by omega⟩
      have e2 : (i * s + j) % s = j := by rw [Nat.mod_eq_sub_div_mul, e1]; omega
      have e3 : (flatK enc s dk).getD (i * s + j) undef = (dk[i]!).1.2.getD j undef := by
        have hlt' : i * s + j < (flatK enc s dk).size := by simpa using hlt
        have h0 := get_flatK enc s dk _ hlt
        rw [e1, e2] at h0
        have : (flatK enc s dk).getD (i * s + j) undef = (flatK enc s dk)[i * s + j]! := by
          rw [getElem!_pos (flatK enc s dk) _ hlt', Array.getD_eq_getD_getElem?, Array.getElem?_eq_getElem hlt', Option.getD_some]
        rw [this, h0]
        have : j < (enc dk[i]!).length := by rw [henc]; exact hj
        simp [enc, List.getD_eq_getElem?_getD] at this ⊢
        simp [this]
      have e4 : (dk.toList.map (·.1.1)).getD i [] = (dk[i]!).1.1 := by
        have : i < dk.size := by omega
        simp [List.getD_eq_getElem?_getD, this]
      rw [e3, e4]
      exact (dk[i]!).2.2.2 j hj
  have hlt0 : b < w.heap.size := h.lt r1
  have key := Any.sort_Slice_cells_sorted Ly t e ti ie hi hd hpk hie ke hke enc s henc hs1 hagg (fun q => Elt.one g2 q) (fun p q : α => lt p.1.1 q.1.1) ⟨fun p => hO.irrefl _, fun p q r => hO.trans _ _ _, fun p q r => hO.ntrans _ _ _⟩ g cs eg b o cap d (by omega) (by omega)
    f (by rw [hds]; exact hf) gS hx w ?_ hH hlt0
  · have es : (Value.slice (some ⟨b, o + 0 * s, none⟩) xs.length cap) = Value.slice (some ⟨b, o, none⟩) d.size cap := by rw [hds]; simp
    rw [es]
    refine key.mono ?_
    rintro e' w' ⟨rfl, d', n', os, hp, hsrt, rfl⟩
    have hd's : d'.size = xs.length := by rw [hp.1, hds]
    obtain ⟨q1, q2⟩ := hW d' hd's n' os
    refine ⟨(fun h => by cases h), _, _, _, β, rfl, hK (d'.toList.map (·.1.1)) ?_ ?_, ⟨q1, fun n => q2 _ _ (hA.tmp n), hA.size, hA.defers⟩, .tup (by simp) (fun i hi => by simp at hi)⟩
    · have hp3 := hp.2.2
      have ee : ∀ z : Array α, z.size = xs.length → z.extract 0 d.size = z := by
        intro z hz
        rw [hds, ← hz]; exact Array.extract_size
      rw [ee d' hd's, ee d hds] at hp3
      have : d.toList.map (·.1.1) = xs := by
        apply List.ext_getElem (by simp [hds])
        intro i h1' h2'
        have := (hd1 i h2').1
        have hi3 : i < d.size := by omega
        simp [List.getD_eq_getElem?_getD, h2'] at this
        simp [hi3] at this
        simpa using this
      exact (hp3.map _).trans (List.Perm.of_eq this)
    · intro i j hij hj
      have := hsrt i j (Nat.zero_le _) hij (by omega)
      have gi : i < d'.size := by omega
      have gj : j < d'.size := by omega
      simp [gi, gj] at this
      simp [List.getD_eq_getElem?_getD, gi, gj, this]
  · intro m' os dk hdk i j hi' hj'
    have hdk : dk.size = xs.length := by omega
    obtain ⟨q1, q2⟩ := hW dk hdk m' os
    have := hless G L w0 _ β (dk.toList.map (·.1.1)) cs (by simp [hdk]) (fun y hy => by obtain ⟨z, _, rfl⟩ := List.mem_map.1 hy; exact z.2.1) q1 ⟨by simpa using c1, fun i hi => q2 _ _ (c2 i hi)⟩ i j (by omega) (by omega)
    have gi : i < dk.size := by omega
    have gj : j < dk.size := by omega
    have ei : (dk.toList.map (·.1.1)).getD i [] = (dk[i]!).1.1 := by simp [List.getD_eq_getElem?_getD, gi]
    have ej : (dk.toList.map (·.1.1)).getD j [] = (dk[j]!).1.1 := by simp [List.getD_eq_getElem?_getD, gj]
    rw [ei, ej] at this
    exact this
/-- sort.Slice at one element or none. -/
theorem CallS.sortTiny {P : Program} {ρ : Ren} (Ly : LaysGg.n6 P ρ) {t e : TypeId} {ti ie : TypeInfo} (hi : P.info? t = some ti) (hd : ti.desc = .slice e) (hpk : P.packed t = false) (hie : P.info? e = some ie) {ke : Nat} (hke : ∀ w, (Extern.Rtype.kind e).run P w = .ok ke w)
    {st : St} {k : Key} {lo len : Nat} {g : Nat} {caps : List V} (h1 : len ≤ 1)
    {f : Nat} (hf : P.funcs.findIdx? (·.name == "internal/reflectlite" ++ ".Swapper$" ++ toString (swapperK len ie ke)) = some f)
    {K : V → St → Prop} (hK : K (.tup []) st) : CallS false P (ρ.f 6) [.ifc t (.row k lo len), .fn g caps] st K := by
  intro G L w0 N a w β args hA ha
  obtain ⟨hl, hv⟩ := ha
  have hargs : ∃ x0 x1, args = #[x0, x1] := by
    obtain ⟨l⟩ := args
    match l, hl with
    | [x, y], _ => exact ⟨x, y, rfl⟩
  obtain ⟨x0, x1, rfl⟩ := hargs
  have v0 := hv 0 (by simp)
  have v1 := hv 1 (by simp)
  simp at v0 v1
  cases v0 with
  | ifc v0 =>
  cases v1 with
  | fn c1 c2 =>
  have go : ∀ p c cs, Calls P (ρ.f 6) #[.iface t (.slice p len c), .func (.func g) #[] cs] w fun e w' => (false = true → Ext w w') ∧ ∃ x v st' β', e = .returned x ∧ K v st' ∧ Abs G L w0 N st' a w' β' ∧ OKW G L w0 w' β' v x := by
    intro p c cs
    refine (Any.sort_Slice_tiny Ly t e ti ie hi hd hpk hie ke hke p len c h1 f hf (.func g) #[] cs w).mono ?_
    rintro e' w' ⟨rfl, os, rfl⟩
    exact ⟨(fun h => by cases h), _, _, st, β, rfl, hK, ⟨hA.hr.ext (ext_grow w os), fun n => hA.hr.vext (ext_grow w os) (hA.tmp n), hA.size, hA.defers⟩, .tup (by simp) (fun i hi => by simp at hi)⟩
  cases v0 with
  | rowZ => exact go _ _ _
  | row => exact go _ _ _
end Go.Sym
