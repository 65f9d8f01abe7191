/- append, make, literals. -/
import Derived.Test.YtdbnnmohenlnfaaSymG
import Derived.Deep.AppendSrc
import Derived.Deep.Upon
import Derived.Laws.MakeOwn
namespace Go.Sym
set_option linter.unusedVariables false
set_option linter.unusedSimpArgs false

def subT (k : Key) (f g : Nat → Nat → V) : List (Nat × V) → List (Nat × V)
  | [] => []
  | (n, v) :: l => (n, v.sub k f g) :: subT k f g l
theorem lkV_subT (k : Key) (f g : Nat → Nat → V) (l : List (Nat × V)) (n : Nat) : lkV (subT k f g l) n = (lkV l n).sub k f g := by
  induction l with
  | nil => simp [subT, lkV, V.sub]
  | cons x l ih =>
    obtain ⟨q, v⟩ := x
    simp only [subT, lkV, ih]
    split <;> rfl


section
variable {T : Tab} {P : Program} [hT : T.Ok P] {G : Nat → Prop} {L : Beta} {w0 w : World} {N : Nat} {st : St} {a : Act} {β : Beta}

def byteRow (s : ByteArray) : List (List V) := s.data.toList.map fun b => [.sc (.int .u8 b.toNat)]
def V.isTxt : V → Bool
  | .sc _ => true
  | _ => false
/-- What a slice (or, where bytes are appended, a text) holds. -/
def conts (st : St) (sz : Nat) (u : V) : Option (List (List V)) :=
  match u with
  | .nil => some []
  | .rd s xs => if s = sz then some xs else none
  | .row k lo len => (match lkB st.hs k with | some (.row s xs) => if s = sz then some ((xs.drop lo).take len) else none | _ => none)
  | .sc (.string s) => if sz = 1 then some (byteRow s) else none
  | _ => none

theorem mul_in {i j n s : Nat} (hi : i < n) (hj : j < s) : i * s + j < n * s := by
  have := Nat.mul_le_mul_right s (show i + 1 ≤ n from hi)
  rw [Nat.add_mul, Nat.one_mul] at this
  omega
theorem div_of {s i : Nat} (h : 0 < s) : i = (i / s) * s + i % s ∧ i % s < s := ⟨by rw [Nat.mul_comm]; exact (Nat.div_add_mod i s).symm, Nat.mod_lt _ h⟩

/-- Cells in a row, and what tells them. -/
def CellsOf (p : Nat → Prop) (w : World) (sz : Nat) (xs : List (List V)) (cs : List Value) : Prop :=
  cs.length = xs.length * sz ∧ (∀ x, x ∈ xs → x.length = sz ∧ ∀ v, v ∈ x → v.shut = true) ∧ ∀ i j, i < xs.length → j < sz → VRel p w Beta.none ((xs.getD i []).getD j .un) (cs.getD (i * sz + j) undef)

theorem CellsOf.one {p : Nat → Prop} {sz : Nat} {xs : List (List V)} {cs : List Value} (h : CellsOf p w sz xs cs) : ∀ u ∈ cs, u.oneCell' = true := by
  intro u hu
  obtain ⟨i, hi, rfl⟩ := List.mem_iff_getElem.1 hu
  have hl := h.1
  rcases Nat.eq_zero_or_pos sz with rfl | hs
  · rw [Nat.mul_zero] at hl; omega
  · obtain ⟨e, hm⟩ := div_of (i := i) hs
    have hq : i / sz < xs.length := by
      rw [Nat.div_lt_iff_lt_mul hs]; omega
    have := h.2.2 (i / sz) (i % sz) hq hm
    rw [← e] at this
    have e2 : cs.getD i undef = cs[i] := by simp [hi]
    rw [e2] at this
    have hmem := h.2.1 _ (getD_mem (d := []) hq)
    have hsh := hmem.2 _ (getD_mem (d := .un) (by rw [hmem.1]; exact hm))
    exact this.cell (V.cell_of_shut hsh)

theorem CellsOf.mono {p p' : Nat → Prop} {w' : World} {sz : Nat} {xs : List (List V)} {cs : List Value} (h : CellsOf p w sz xs cs) (g : Goes1 p p' w w') : CellsOf p' w' sz xs cs :=
  ⟨h.1, h.2.1, fun i j hi hj => (h.2.2 i j hi hj).mono g (fun _ _ h => by simp [Beta.none] at h) (fun _ _ _ _ _ _ _ _ h => by simp [Beta.none] at h)⟩
theorem CellsOf.ext {hs : Hp} {w' : World} {sz : Nat} {xs : List (List V)} {cs : List Value} (h : CellsOf (okF G L w0 w β) w sz xs cs) (hr : HR G L w0 w β hs) (e : Ext w w') : CellsOf (okF G L w0 w' β) w' sz xs cs := h.mono (hr.goes e)

theorem CellsOf.nil (p : Nat → Prop) (w : World) (sz : Nat) : CellsOf p w sz [] [] := ⟨by simp, by simp, by simp⟩
theorem CellsOf.append {p : Nat → Prop} {sz : Nat} {xs ys : List (List V)} {cs ds : List Value} (h : CellsOf p w sz xs cs) (k : CellsOf p w sz ys ds) : CellsOf p w sz (xs ++ ys) (cs ++ ds) := by
  refine ⟨by simp [h.1, k.1, Nat.add_mul], fun x hx => (List.mem_append.1 hx).elim (h.2.1 x) (k.2.1 x), fun i j hi hj => ?_⟩
  by_cases hlt : i < xs.length
  · have h1 := mul_in hlt hj
    rw [← h.1] at h1
    have e1 : (xs ++ ys).getD i [] = xs.getD i [] := by simp [List.getD_eq_getElem?_getD, List.getElem?_append, hlt]
    have e2 : (cs ++ ds).getD (i * sz + j) undef = cs.getD (i * sz + j) undef := by simp [List.getD_eq_getElem?_getD, List.getElem?_append, h1]
    rw [e1, e2]
    exact h.2.2 i j hlt hj
  · have hl2 : i - xs.length < ys.length := by simp at hi; omega
    have hge : ¬ i * sz + j < cs.length := by
      rw [h.1]
      have := Nat.mul_le_mul_right sz (Nat.le_of_not_lt hlt)
      omega
    have e1 : (xs ++ ys).getD i [] = ys.getD (i - xs.length) [] := by simp [List.getD_eq_getElem?_getD, List.getElem?_append, hlt]
    have e2 : (cs ++ ds).getD (i * sz + j) undef = ds.getD ((i - xs.length) * sz + j) undef := by
      have : i * sz + j - cs.length = (i - xs.length) * sz + j := by
        rw [h.1, Nat.sub_mul]
        have := Nat.mul_le_mul_right sz (Nat.le_of_not_lt hlt)
        omega
      simp only [List.getD_eq_getElem?_getD, List.getElem?_append, hge, if_false, this]
    rw [e1, e2]
    exact k.2.2 _ j hl2 hj

/-- What an own row's slice holds in memory. -/
theorem row_cells (h : HR G L w0 w β st.hs) {k : Key} {lo len s : Nat} {xs : List (List V)} (hk : lkB st.hs k = some (.row s xs)) {A : Option Addr} {n cap : Nat} (hv : OKW G L w0 w β (.row k lo len) (.slice A n cap)) :
    n = len ∧ n ≤ cap ∧ ((xs.drop lo).take len).length = len ∧ ∃ cs, CellsOf (okF G L w0 w β) w s ((xs.drop lo).take len) cs ∧ (A = none → len = 0) ∧ ∀ ad, A = some ad → (len = 0 ∨ ad.spot = none) ∧ ∀ j v, cs[j]? = some v → w.cell? (ad.add j) = some v := by
  obtain ⟨inf, r1, r2⟩ := h.rel k _ hk
  cases hv with
  | rowZ hb => exact ⟨rfl, Nat.le_refl _, by simp, [], by simpa using CellsOf.nil _ _ _, fun _ => rfl, fun ad _ => ⟨.inl rfl, fun j v hj => by simp at hj⟩⟩
  | row g1 gm g2 g3 g4 =>
    rename_i b o s' m C t fr
    rw [r1] at g1
    cases g1
    cases r2 with
    | row q1 q2 q3 q4 =>
    have hln : ((xs.drop lo).take len).length = len := by simp; omega
    have hget : ∀ i, i < len → ((xs.drop lo).take len).getD i [] = xs.getD (lo + i) [] := by
      intro i hi
      simp [List.getD_eq_getElem?_getD, hi]
    rename_i C' t'
    have hCe : C' = C := by rw [q1] at g3; cases g3; rfl
    subst hCe
    refine ⟨rfl, g2, hln, (List.range (len * s)).map (fun j => C'.getD (o + lo * s + j) undef), ⟨by rw [hln]; simp, ?_, ?_⟩, (fun h => by cases h), ?_⟩
    · intro x hx
      exact q2 x (List.mem_of_mem_drop (List.mem_of_mem_take hx))
    · intro i j hi hj
      rw [hln] at hi
      rw [hget i hi]
      have h1 := mul_in hi hj
      have e : ((List.range (len * s)).map (fun j => C'.getD (o + lo * s + j) undef)).getD (i * s + j) undef = C'.getD (o + ((lo + i) * s + j)) undef := by
        have e3 : o + lo * s + (i * s + j) = o + ((lo + i) * s + j) := by rw [Nat.add_mul]; omega
        simp [List.getD_eq_getElem?_getD, h1, e3]
      rw [e]
      exact q4 (lo + i) j (by omega) hj
    · intro ad hA
      cases hA
      refine ⟨.inr rfl, fun j v hj => ?_⟩
      have hjl : j < len * s := by
        have := (List.getElem?_eq_some_iff.1 hj).1
        simpa using this
      simp [hjl] at hj
      rw [add_at rfl]
      have hin : o + lo * s + j < C'.size := by
        have h1 := Nat.mul_le_mul_right s gm
        rw [Nat.add_mul] at h1
        omega
      simp [World.cell?, q1, hin] at hj ⊢
      exact hj

theorem rd_cells {s : Nat} {xs : List (List V)} {A : Option Addr} {n cap : Nat} {p : Nat → Prop} (hv : VRel p w β (.rd s xs) (.slice A n cap)) :
    n = xs.length ∧ n ≤ cap ∧ ∃ cs, CellsOf p w s xs cs ∧ (A = none → xs.length = 0) ∧ ∀ ad, A = some ad → (xs.length = 0 ∨ ad.spot = none) ∧ ∀ j v, cs[j]? = some v → w.cell? (ad.add j) = some v := by
  cases hv with
  | rd g1 g2 g3 g4 g5 =>
  refine ⟨rfl, g1, (List.range (xs.length * s)).map (fun j => (w.cell? ⟨(adr A).block, (adr A).off + j, none⟩).getD undef), ⟨by simp, g2, ?_⟩, ?_, ?_⟩
  · intro i j hi hj
    have h1 := mul_in hi hj
    have e : ((List.range (xs.length * s)).map (fun j => (w.cell? ⟨(adr A).block, (adr A).off + j, none⟩).getD undef)).getD (i * s + j) undef = (w.cell? ⟨(adr A).block, (adr A).off + (i * s + j), none⟩).getD undef := by
      simp [List.getD_eq_getElem?_getD, h1]
    rw [e]
    exact g5 i j hi hj
  · intro hA
    rcases Nat.eq_zero_or_pos xs.length with h | h
    · exact h
    · have := (g3 h).1; rw [hA] at this; cases this
  · rintro ad rfl
    rcases Nat.eq_zero_or_pos xs.length with h | h
    · refine ⟨.inl h, fun j v hj => ?_⟩
      simp [h] at hj
    · have hsp : ad.spot = none := (g3 h).2.1
      refine ⟨.inr hsp, fun j v hj => ?_⟩
      have hjl : j < xs.length * s := by
        have := (List.getElem?_eq_some_iff.1 hj).1
        simpa using this
      have hs : 0 < s := by
        rcases Nat.eq_zero_or_pos s with rfl | hs
        · simp at hjl
        · exact hs
      obtain ⟨e, hm⟩ := div_of (i := j) hs
      have := g4 (j / s) (j % s) (by rw [Nat.div_lt_iff_lt_mul hs]; omega) hm
      rw [← e] at this
      simp [hjl] at hj
      rw [add_at hsp]
      obtain ⟨c, hc⟩ := Option.isSome_iff_exists.1 this
      simp only [adr, Option.getD_some] at hj hc
      rw [hc] at hj
      simp at hj
      rw [hc, hj]

/-- The source of an append. -/
theorem conts_src {t tx e : TypeId} {sz : Nat} {u : V} {x : Value} {ns : List (List V)} (h : Abs G L w0 N st a w β) (hu : OKW G L w0 w β u x) (hc : conts st sz u = some ns) (htx : (if u.isTxt then T.str tx else (T.elem tx).isSome) = true) :
    ∃ news, Src P sz tx x ns.length news w ∧ CellsOf (okF G L w0 w β) w sz ns news := by
  have sl : ∀ {A : Option Addr} {n cap : Nat} {cs : List Value} {e' : TypeId}, P.underlying tx = some (.slice e') → n = ns.length → CellsOf (okF G L w0 w β) w sz ns cs → (A = none → ns.length = 0) → (∀ ad, A = some ad → ∀ j v, cs[j]? = some v → w.cell? (ad.add j) = some v) →
      ∃ news, Src P sz tx (.slice A n cap) ns.length news w ∧ CellsOf (okF G L w0 w β) w sz ns news := by
    intro A n cap cs e' he hn hcs hA hcell
    refine ⟨cs, ?_, hcs⟩
    subst hn
    cases A with
    | none =>
      have h0 := hA rfl
      have hcs0 : cs = [] := List.length_eq_zero_iff.1 (by rw [hcs.1, h0]; simp)
      subst hcs0
      exact ⟨.inl ⟨_, he⟩, fun _ => rfl, by simp [Builtin.firstCells], by simp [Builtin.firstCells], hcs.1, by simp⟩
    | some ad => exact Src.ofSlice w he ad ns.length cap cs hcs.1 (hcell ad rfl) hcs.one
  unfold conts at hc
  cases u with
  | nil =>
    have htx : (T.elem tx).isSome = true := htx
    obtain ⟨e', he⟩ := Option.isSome_iff_exists.1 htx
    cases hc
    cases hu
    exact sl (cs := []) (telem_some (P := P) he) rfl (CellsOf.nil _ _ _) (fun _ => rfl) (fun ad _ j v hj => by simp at hj)
  | rd s xs =>
    have htx : (T.elem tx).isSome = true := htx
    simp only at hc
    split at hc
    · rename_i es
      subst es
      cases hc
      obtain ⟨e', he⟩ := Option.isSome_iff_exists.1 htx
      have : ∃ A n cap, x = .slice A n cap := by cases hu; exact ⟨_, _, _, rfl⟩
      obtain ⟨A, n, cap, rfl⟩ := this
      obtain ⟨h1, h2, cs, h3, h4, h5⟩ := rd_cells hu
      exact sl (telem_some (P := P) he) h1 h3 h4 (fun ad hA => (h5 ad hA).2)
    · cases hc
  | row k lo len =>
    have htx : (T.elem tx).isSome = true := htx
    simp only at hc
    split at hc
    · rename_i s xs hk
      split at hc
      · rename_i es
        subst es
        cases hc
        obtain ⟨e', he⟩ := Option.isSome_iff_exists.1 htx
        have : ∃ A n cap, x = .slice A n cap := by cases hu <;> exact ⟨_, _, _, rfl⟩
        obtain ⟨A, n, cap, rfl⟩ := this
        obtain ⟨h1, h2, hln, cs, h3, h4, h5⟩ := row_cells h.hr hk hu
        exact sl (telem_some (P := P) he) (by omega) h3 (fun hA => by rw [hln]; exact h4 hA) (fun ad hA => (h5 ad hA).2)
      · cases hc
    · cases hc
  | sc v =>
    have htx : T.str tx = true := htx
    cases v with
    | string s =>
      simp only at hc
      split at hc
      · rename_i es
        subst es
        cases hc
        cases hu
        refine ⟨byteCells s, ?_, ?_⟩
        · have := Src.ofString (P := P) w (tstr_some (P := P) htx) s
          simpa [byteRow] using this
        · refine ⟨by simp [byteCells, byteRow], ?_, ?_⟩
          · intro y hy
            obtain ⟨b, _, rfl⟩ := List.mem_map.1 hy
            exact ⟨rfl, fun v hv => by simp at hv; subst hv; rfl⟩
          · intro i j hi hj
            have : j = 0 := by omega
            subst this
            simp [byteRow] at hi
            simp [byteRow, byteCells, List.getD_eq_getElem?_getD, hi]
            exact .sc rfl
      · cases hc
    | _ => all_goals cases hc
  | _ => all_goals cases hc

/-- An own block, written, goes on under another name; the references to the old one are gone. -/
theorem HR.rewrite {hs : Hp} {w' : World} (h : HR G L w0 w β hs) {k k' : Key} {b o s m o' s' m' : Nat} {xs : List (List V)} (hk : β k = some ⟨some b, o, s, m⟩) (e : Wr w w' b) (hfree : lkB (eraseB hs k) k' = none)
    (hB : BRel (okF G L w0 w' (upB (dnB β k) k' ⟨some b, o', s', m'⟩)) w' (upB (dnB β k) k' ⟨some b, o', s', m'⟩) ⟨some b, o', s', m'⟩ (.row s' xs)) (ha : k'.isA = false := by rfl) :
    HR G L w0 w' (upB (dnB β k) k' ⟨some b, o', s', m'⟩) ((k', .row s' xs) :: subH k unF unF (eraseB hs k)) ∧
    ∀ v x, OKW G L w0 w β v x → OKW G L w0 w' (upB (dnB β k) k' ⟨some b, o', s', m'⟩) (v.sub k unF unF) x := by
  have hup : ∀ q inf, dnB β k q = some inf → upB (dnB β k) k' ⟨some b, o', s', m'⟩ q = some inf := by
    intro q inf hq
    have : k' ≠ q := by
      rintro rfl
      by_cases e2 : k = k'
      · simp [dnB, e2] at hq
      · have h1 : lkB hs k' = none := by rw [lkB_eraseB] at hfree; simpa [e2] using hfree
        simp [dnB, e2, h.dom _ h1] at hq
    simp [upB, this, hq]
  have hinv : ∀ q inf, upB (dnB β k) k' ⟨some b, o', s', m'⟩ q = some inf → (q = k' ∧ inf = ⟨some b, o', s', m'⟩) ∨ (q ≠ k ∧ β q = some inf) := by
    intro q inf hq
    unfold upB at hq
    split at hq
    · rename_i e1; cases hq; exact .inl ⟨e1.symm, rfl⟩
    · unfold dnB at hq
      split at hq
      · cases hq
      · rename_i e2; exact .inr ⟨Ne.symm e2, hq⟩
  have hG : Gone (okF G L w0 w β) (okF G L w0 w β) w β k unF unF (dnB β k) := ⟨fun _ h => h, fun _ _ _ _ => .un, fun _ _ _ _ => .un, dnB_up β k⟩
  have hgo : Goes1 (okF G L w0 w β) (okF G L w0 w' (upB (dnB β k) k' ⟨some b, o', s', m'⟩)) w w' := by
    refine ⟨fun q hq => ⟨hq.1, by rw [e.size]; exact hq.2.1, fun k2 o2 s2 m2 h2 => ?_⟩, fun q hq => e.heap q fun eq => by subst eq; exact hq.2.2 _ _ _ _ hk⟩
    rcases hinv _ _ h2 with ⟨_, h3⟩ | ⟨_, h3⟩
    · cases h3; exact hq.2.2 _ _ _ _ hk
    · exact hq.2.2 _ _ _ _ h3
  have hkeep : Keeps w w' (dnB β k) := by
    intro q b2 o2 s2 m2 C t fr hq hh
    have hq' : β q = some ⟨some b2, o2, s2, m2⟩ ∧ k ≠ q := by
      unfold dnB at hq
      split at hq
      · cases hq
      · rename_i e2; exact ⟨hq, e2⟩
    have hne : b2 ≠ b := fun eq => by subst eq; exact hq'.2 (h.inj _ _ _ _ _ _ _ _ _ hk hq'.1)
    exact ⟨C, t, fr, by rw [e.heap _ hne]; exact hh, Nat.le_refl _⟩
  have hval : ∀ v x, OKW G L w0 w β v x → OKW G L w0 w' (upB (dnB β k) k' ⟨some b, o', s', m'⟩) (v.sub k unF unF) x := fun v x hv => (hv.sub hG).mono hgo hup hkeep
  refine ⟨⟨e.os.trans h.os, e.tape.trans h.tape, e.output.trans h.output, by rw [e.size]; exact h.size, ?_, ?_, ?_, ?_, ?_, h.g, fun n inf hn => h.arg n inf (by
    have h2 := upB_arg ha hn
    unfold dnB at h2
    split at h2
    · cases h2
    · exact h2), h.grow.trans e.grows⟩, hval⟩
  · intro q hq hl
    rw [e.heap q]
    · exact h.keep q hq hl
    · rintro rfl
      rcases h.own _ _ _ _ _ hk with h1 | h1
      · omega
      · exact hl h1
  · intro q hq
    simp only [lkB] at hq
    split at hq
    · cases hq
    · rename_i e1
      rw [lkB_subH] at hq
      have hq : lkB (eraseB hs k) q = none := by simpa using hq
      rw [lkB_eraseB] at hq
      by_cases e2 : k = q
      · simp [upB, e1, dnB, e2]
      · simp [e2] at hq; simp [upB, e1, dnB, e2, h.dom _ hq]
  · intro q B hq
    simp only [lkB] at hq
    split at hq
    · rename_i e1
      cases hq
      subst e1
      exact ⟨_, by simp [upB], hB⟩
    · rename_i e1
      rw [lkB_subH, lkB_eraseB] at hq
      by_cases e2 : k = q
      · simp [e2] at hq
      · simp [e2] at hq
        obtain ⟨B0, hB0, rfl⟩ := hq
        obtain ⟨inf, h1, h2⟩ := h.rel q B0 hB0
        have h3 := (h2.sub hG).mono hgo hup hkeep (fun b2 hb2 => by
          obtain ⟨bl, o2, s2, m2⟩ := inf
          cases hb2
          exact e.heap _ fun eq => by subst eq; exact e2 (h.inj _ _ _ _ _ _ _ _ _ hk h1))
        refine ⟨inf, hup _ _ (dnB_up β k q inf (Ne.symm e2) h1), ?_⟩
        cases B0 <;> exact h3
  · intro q q' b2 o2 s2 m2 o3 s3 m3 h1 h2
    rcases hinv _ _ h1 with ⟨g1, g2⟩ | ⟨g1, g2⟩ <;> rcases hinv _ _ h2 with ⟨g3, g4⟩ | ⟨g3, g4⟩
    · rw [g1, g3]
    · cases g2; exact absurd (h.inj _ _ _ _ _ _ _ _ _ hk g4).symm g3
    · cases g4; exact absurd (h.inj _ _ _ _ _ _ _ _ _ hk g2).symm g1
    · exact h.inj _ _ _ _ _ _ _ _ _ g2 g4
  · intro q b2 o2 s2 m2 h1
    rcases hinv _ _ h1 with ⟨g1, g2⟩ | ⟨g1, g2⟩
    · cases g2; exact h.own _ _ _ _ _ hk
    · exact h.own _ _ _ _ _ g2

/-- An empty row without a block, under a free name. -/
theorem HR.virt {hs : Hp} (h : HR G L w0 w β hs) {k : Key} (s : Nat) (hk : lkB hs k = none) (ha : k.isA = false := by rfl) :
    HR G L w0 w (upB β k ⟨none, 0, s, 0⟩) ((k, .row s []) :: hs) ∧ ∀ v x, OKW G L w0 w β v x → OKW G L w0 w (upB β k ⟨none, 0, s, 0⟩) v x := by
  have hup : ∀ q inf, β q = some inf → upB β k ⟨none, 0, s, 0⟩ q = some inf := by
    intro q inf hq
    have : k ≠ q := fun e => by subst e; rw [h.dom _ hk] at hq; cases hq
    simp [upB, this, hq]
  have hinv : ∀ q b o s' m, upB β k ⟨none, 0, s, 0⟩ q = some ⟨some b, o, s', m⟩ → β q = some ⟨some b, o, s', m⟩ := by
    intro q b o s' m hq
    unfold upB at hq
    split at hq
    · cases hq
    · exact hq
  have hgo : Goes1 (okF G L w0 w β) (okF G L w0 w (upB β k ⟨none, 0, s, 0⟩)) w w := ⟨fun b hb => ⟨hb.1, hb.2.1, fun q o s' m hq => hb.2.2 _ _ _ _ (hinv _ _ _ _ _ hq)⟩, fun _ _ => rfl⟩
  have hkeep : Keeps w w β := fun _ _ _ _ _ C t fr _ hh => ⟨C, t, fr, hh, Nat.le_refl _⟩
  refine ⟨⟨h.os, h.tape, h.output, h.size, h.keep, ?_, ?_, ?_, ?_, h.g, fun n inf hn => h.arg n inf (upB_arg ha hn), h.grow⟩, fun v x hv => hv.mono hgo hup hkeep⟩
  · intro q hq
    simp only [lkB] at hq
    split at hq
    · cases hq
    · rename_i e; simp [upB, e, h.dom _ hq]
  · intro q B hq
    simp only [lkB] at hq
    split at hq
    · rename_i e; cases hq; subst e; exact ⟨⟨none, 0, s, 0⟩, by simp [upB], .rowE⟩
    · obtain ⟨inf, h1, h2⟩ := h.rel q B hq
      exact ⟨inf, hup _ _ h1, h2.mono hgo hup hkeep fun _ _ => rfl⟩
  · intro q q' b o s1 m o' s' m' h1 h2
    exact h.inj _ _ _ _ _ _ _ _ _ (hinv _ _ _ _ _ h1) (hinv _ _ _ _ _ h2)
  · intro q b o s1 m h1
    exact h.own _ _ _ _ _ (hinv _ _ _ _ _ h1)

theorem getD_toArray (l : List Value) (i : Nat) : l.toArray.getD i undef = l.getD i undef := by simp [List.getD_eq_getElem?_getD]
theorem getD_arr_append (A B : Array Value) (i : Nat) (h : i < A.size) : (A ++ B).getD i undef = A.getD i undef := by simp [Array.getElem?_append, h]

/-- A new row with these cells (and perhaps more behind them). -/
theorem HR.newRow {hs : Hp} (h : HR G L w0 w β hs) {k : Key} {C : Array Value} {t : TypeId} {s : Nat} {xs : List (List V)} {cs : List Value} (hk : lkB hs k = none) (hc : CellsOf (okF G L w0 w β) w s xs cs) (hC : cs.length ≤ C.size) (hg : ∀ i, i < cs.length → C.getD i undef = cs.getD i undef) (ha : k.isA = false := by rfl) :
    HR G L w0 { w with heap := w.heap.push (.cells C t) } (upB β k ⟨some w.heap.size, 0, s, xs.length⟩) ((k, .row s xs) :: hs) := by
  refine h.alloc hk (.row (C := C) (t := t) (by simp) hc.2.1 (by rw [← hc.1]; omega) fun i j hi hj => ?_) ha
  have h1 := mul_in hi hj
  rw [← hc.1] at h1
  rw [Nat.zero_add, hg _ h1]
  exact (h.valloc hk C t 0 s xs.length ((hc.2.2 i j hi hj).open_ β)).shut (by
    have hm := hc.2.1 _ (getD_mem (d := []) hi)
    exact hm.2 _ (getD_mem (d := V.un) (by rw [hm.1]; exact hj)))

/-! ### append -/
def purge (k : Key) (st : St) : St := { ts := subT k unF unF st.ts, hs := subH k unF unF (eraseB st.hs k) }
def appendK (T : Tab) (d : Nat) (t tx : TypeId) (v u : V) (st : St) (K : V → St → Prop) : Prop :=
  match T.elem t with
  | none => False
  | some e =>
    match T.sz e, T.byt e, T.zero e with
    | some sz, some bt, some z =>
      (z.cells.size == sz) = true ∧ (if u.isTxt then T.str tx else (T.elem tx).isSome) = true ∧
      (match conts st sz u with
       | none => False
       | some news =>
         match v with
         | .nil => (lkB st.hs (.t d)).isNone = true ∧ Side (news.length * bt ≤ 140737488355328) ∧ Side (news.length ≤ 9223372036854775807) ∧ K (.row (.t d) 0 news.length) { st with hs := (.t d, .row sz news) :: st.hs }
         | .row k lo len =>
           (match lkB st.hs k with
            | some (.row s xs) => (s == sz) = true ∧ (lkB (eraseB st.hs k) (.t d)).isNone = true ∧ Side ((len + news.length) * bt ≤ 140737488355328) ∧ Side (len + news.length ≤ 9223372036854775807) ∧
                K (.row (.t d) 0 (len + news.length)) { ts := subT k unF unF st.ts, hs := (.t d, .row sz ((xs.drop lo).take len ++ news)) :: subH k unF unF (eraseB st.hs k) }
            | _ => False)
         | _ => False)
    | _, _, _ => False

theorem tab_info {e : TypeId} {sz bt : Nat} {z : Value} (h1 : T.sz e = some sz) (h2 : T.byt e = some bt) (h3 : T.zero e = some z) : ∃ i, P.info? e = some i ∧ i.size = sz ∧ i.bytes = bt ∧ i.zero = some z := by
  have g1 := hT.sz _ _ h1
  have g2 := hT.byt _ _ h2
  have g3 := hT.zero _ _ h3
  cases hi : P.info? e with
  | none => simp [hi] at g1
  | some i => simp [hi] at g1 g2 g3; exact ⟨i, rfl, g1, g2, g3⟩

theorem run_append_room_row {t tx ty e : TypeId} {i : TypeInfo} (ht : P.underlying t = some (.slice e)) (hi : P.info? e = some i) {b off sLen sCap : Nat} {x : Value} {n : Nat} {news : List Value} {C : Array Value} {te : TypeId} (hs : Src P i.size tx x n news w)
    (hroom : sLen + n ≤ sCap) (hg : w.heap[b]? = some (.cells C te (0, 0))) (hin : off + sLen * i.size + news.length ≤ C.size) :
    (Builtin.append_ #[t, tx] ty #[.slice (some ⟨b, off, none⟩) sLen sCap, x]).run P w = .ok (.slice (some ⟨b, off, none⟩) (sLen + n) sCap) (w.setRow b (C.toList.take (off + sLen * i.size) ++ news ++ C.toList.drop (off + sLen * i.size + news.length)).toArray) := by
  have hst := run_storeCells_at (P := P) b (off + sLen * i.size) te news 0 C w hg (by simpa using hin) hs.one
  simp only [Nat.add_zero] at hst
  rcases hs.kind with ⟨e', hk⟩ | hk <;> simp [Builtin.append_, run_underlying ht, run_underlying hk, sizeOf, typeInfo, hi, hs.len, hroom, hs.cells, Addr.add_lit, hst]

theorem appendK_sound {X : Bool} {d : Nat} {t tx ty : TypeId} {v u : V} {x y : Value} {K : V → St → Prop} (h : Abs G L w0 N st a w β) (hv : OKW G L w0 w β v x) (hu : OKW G L w0 w β u y) (hk : appendK T d t tx v u st K) (hX : X = true → v = .nil) :
    Step X P G L w0 N (do let z ← Builtin.append_ #[t, tx] ty #[x, y]; pure (Next.value z)) a w K := by
  unfold appendK at hk
  split at hk
  · exact hk.elim
  · rename_i e he
    split at hk
    · rename_i sz bt z hsz hbt hz
      obtain ⟨hzc, htx, hk⟩ := hk
      have hzc : z.cells.size = sz := beq_iff_eq.1 hzc
      split at hk
      · exact hk.elim
      · rename_i ns hns
        have hte := telem_some (P := P) he
        obtain ⟨i, hi, hi1, hi2, hi3⟩ := tab_info (P := P) hsz hbt hz
        obtain ⟨news, hsrc, hcn⟩ := conts_src (P := P) (t := t) (e := e) h hu hns htx
        rw [← hi1] at hsrc
        have hgrow : ∀ (base : Option Addr) (sLen sCap : Nat) (olds : List Value), (Builtin.firstCells i.size sLen (.slice base sLen sCap)).run P w.drew = .ok olds.toArray w.drew → sCap < sLen + ns.length → (sLen + ns.length) * bt ≤ 140737488355328 → sLen + ns.length ≤ 9223372036854775807 →
            (Builtin.append_ #[t, tx] ty #[.slice base sLen sCap, y]).run P w = .ok (.slice (some ⟨w.heap.size, 0, none⟩) (sLen + ns.length) (grownCap w (sLen + ns.length) sCap e)) (w.drew.alloc (.cells ((olds ++ news).toArray ++ Builtin.zeroCells z.cells (grownCap w (sLen + ns.length) sCap e - (sLen + ns.length))) e)) := by
          intro base sLen sCap olds hold hg hb h63
          exact run_append_grow_src w t tx ty e i z hte hi hi3 base sLen sCap olds hold y ns.length news hsrc hg (by omega) (growslice_fits hg (by rw [hi2]; exact hb))
        have hcap : ∀ (n old : Nat), n ≤ grownCap w n old e := fun n old => by unfold grownCap Question.cut; exact Nat.le_add_right _ _
        split at hk
        · obtain ⟨hfree, ⟨hb⟩, ⟨h63⟩, hK⟩ := hk
          have hfree : lkB st.hs (.t d) = none := by simpa using hfree
          cases hv with
          | nil =>
          rename_i A
          rcases Nat.eq_zero_or_pos ns.length with h0 | hpos
          · have hns0 : ns = [] := List.length_eq_zero_iff.1 h0
            subst hns0
            have hn0 : news = [] := List.length_eq_zero_iff.1 (by rw [hcn.1]; simp)
            subst hn0
            have hr := run_append_nothing w t tx ty e i hte hi A 0 0 (Nat.le_refl _) y hsrc
            obtain ⟨g1, g2⟩ := h.hr.virt sz hfree
            refine ⟨_, w, .inl (run_v hr), fun _ => Ext.refl w, _, _, _, hK, ⟨g1, fun n => g2 _ _ (h.tmp n), h.size, h.defers⟩, ?_⟩
            exact .rowZ (inf := ⟨none, 0, sz, 0⟩) (by simp [upB])
          · have hr := hgrow A 0 0 [] (by
              cases A with
              | none => simp [Builtin.firstCells]
              | some ad => simp [Builtin.firstCells, loadCells, loadCellsFrom]) (by omega) (by simpa using hb) (by omega)
            simp only [Nat.zero_add, List.nil_append] at hr
            have hx : Ext w w.drew := Ext.drew w
            have hcn' : CellsOf (okF G L w0 w.drew β) w.drew sz ns news := hcn.ext h.hr hx
            have hC : ∀ q, q < news.length → (news.toArray ++ Builtin.zeroCells z.cells (grownCap w ns.length 0 e - ns.length)).getD q undef = news.getD q undef := fun q hq => by
              rw [getD_arr_append _ _ _ (by simpa using hq), getD_toArray]
            have hfin := (h.hr.ext hx).newRow (t := e) hfree hcn' (by simp) hC
            refine ⟨_, _, .inl (run_v hr), fun _ => hx.trans (Ext.push _ _), _, _, _, hK, ⟨hfin, fun n => (h.hr.ext hx).valloc hfree _ _ _ _ _ (h.hr.vext hx (h.tmp n)), h.size, h.defers⟩, ?_⟩
            have hl : news.length = ns.length * sz := hcn.1
            have hm := Nat.mul_le_mul_right sz (hcap ns.length 0)
            have := VRel.row (ok := okF G L w0 (w.drew.alloc (.cells (news.toArray ++ Builtin.zeroCells z.cells (grownCap w ns.length 0 e - ns.length)) e)) (upB β (.t d) ⟨some w.drew.heap.size, 0, sz, ns.length⟩)) (w := w.drew.alloc (.cells (news.toArray ++ Builtin.zeroCells z.cells (grownCap w ns.length 0 e - ns.length)) e)) (β := upB β (.t d) ⟨some w.drew.heap.size, 0, sz, ns.length⟩) (k := .t d) (b := w.drew.heap.size) (o := 0) (s := sz) (m := ns.length) (lo := 0) (len := ns.length) (cap := grownCap w ns.length 0 e) (by simp [upB]) (by omega) (hcap _ _) (heap_alloc_new _ _) (by simp [Builtin.zeroCells, hzc]; rw [Nat.sub_mul]; omega)
            simpa using this
        · rename_i k lo len
          split at hk
          · rename_i s xs hB
            obtain ⟨hs, hfree, ⟨hb⟩, ⟨h63⟩, hK⟩ := hk
            have hs : s = sz := beq_iff_eq.1 hs
            subst hs
            have hfree : lkB (eraseB st.hs k) (.t d) = none := by simpa using hfree
            have : ∃ A n cap, x = .slice A n cap := by cases hv <;> exact ⟨_, _, _, rfl⟩
            obtain ⟨A, n, cap, rfl⟩ := this
            obtain ⟨hn, hcapn, hln, cs, hcs, hA0, hcell⟩ := row_cells h.hr hB hv
            subst hn
            have hcall := hcs.append hcn
            have hlen2 : ((xs.drop lo).take n ++ ns).length = n + ns.length := by rw [List.length_append, hln]
            -- the grown case
            have grow : cap < n + ns.length → Step X P G L w0 N (do let z ← Builtin.append_ #[t, tx] ty #[.slice A n cap, y]; pure (Next.value z)) a w K := by
              intro hg
              have hold : (Builtin.firstCells i.size n (.slice A n cap)).run P w.drew = .ok cs.toArray w.drew := by
                rw [hi1]
                cases A with
                | none =>
                  have h0 := hA0 rfl
                  subst h0
                  have : cs = [] := List.length_eq_zero_iff.1 (by rw [hcs.1, hln]; simp)
                  subst this
                  simp [Builtin.firstCells]
                | some ad => exact run_firstCells_some w.drew s n ad n cap cs (by rw [hcs.1, hln]) (fun j v hj => by simpa using (hcell ad rfl).2 j v hj)
              have hr := hgrow A n cap cs hold hg hb h63
              have hx : Ext w w.drew := Ext.drew w
              have h1 := h.hr.ext hx
              have hH := h1.goneU k
              have h2 := h1.drop hH
              have hcall' : CellsOf (okF G L w0 w.drew (dnB β k)) w.drew s ((xs.drop lo).take n ++ ns) (cs ++ news) := (hcall.ext h.hr hx).mono ⟨okF_dn h1 k, fun _ _ => rfl⟩
              have hfree' : lkB (subH k unF unF (eraseB st.hs k)) (.t d) = none := by rw [lkB_subH, hfree]; rfl
              have hC : ∀ q, q < (cs ++ news).length → ((cs ++ news).toArray ++ Builtin.zeroCells z.cells (grownCap w (n + ns.length) cap e - (n + ns.length))).getD q undef = (cs ++ news).getD q undef := fun q hq => by
                rw [getD_arr_append _ _ _ (by simpa using hq), getD_toArray]
              have hfin := h2.newRow (t := e) hfree' hcall' (by simp) hC
              refine ⟨_, _, .inl (run_v hr), (fun hq => by cases hX hq), _, _, _, hK, ⟨hfin, fun q => ?_, h.size, h.defers⟩, ?_⟩
              · rw [lkV_subT]
                exact h2.valloc hfree' _ _ _ _ _ ((h.hr.vext hx (h.tmp q)).sub hH)
              · have hl : (cs ++ news).length = ((xs.drop lo).take n ++ ns).length * s := hcall.1
                rw [hlen2] at hl
                have hm := Nat.mul_le_mul_right s (hcap (n + ns.length) cap)
                rw [hlen2]
                have := VRel.row (ok := okF G L w0 (w.drew.alloc (.cells ((cs ++ news).toArray ++ Builtin.zeroCells z.cells (grownCap w (n + ns.length) cap e - (n + ns.length))) e)) (upB (dnB β k) (.t d) ⟨some w.drew.heap.size, 0, s, n + ns.length⟩)) (w := w.drew.alloc (.cells ((cs ++ news).toArray ++ Builtin.zeroCells z.cells (grownCap w (n + ns.length) cap e - (n + ns.length))) e)) (β := upB (dnB β k) (.t d) ⟨some w.drew.heap.size, 0, s, n + ns.length⟩) (k := .t d) (b := w.drew.heap.size) (o := 0) (s := s) (m := n + ns.length) (lo := 0) (len := n + ns.length) (cap := grownCap w (n + ns.length) cap e) (by simp [upB]) (by omega) (hcap _ _) (heap_alloc_new _ _) (by
                  have hzl : (Builtin.zeroCells z.cells (grownCap w (n + ns.length) cap e - (n + ns.length))).size = (grownCap w (n + ns.length) cap e - (n + ns.length)) * s := by simp [Builtin.zeroCells, hzc]
                  rw [Nat.zero_add, Nat.zero_add, Array.size_append, hzl, List.size_toArray, hl, Nat.sub_mul]; omega)
                simpa using this
            by_cases hroom : n + ns.length ≤ cap
            · cases hv with
              | rowZ hbk =>
                rename_i inf
                have h0 : ns.length = 0 := by omega
                have hns0 : ns = [] := List.length_eq_zero_iff.1 h0
                subst hns0
                have hn0 : news = [] := List.length_eq_zero_iff.1 (by rw [hcn.1]; simp)
                subst hn0
                have hr := run_append_nothing w t tx ty e i hte hi A 0 0 (Nat.le_refl _) y hsrc
                have hH := h.hr.goneU k
                have h2 := h.hr.drop hH
                have hfree' : lkB (subH k unF unF (eraseB st.hs k)) (.t d) = none := by rw [lkB_subH, hfree]; rfl
                obtain ⟨g1, g2⟩ := h2.virt s hfree'
                refine ⟨_, w, .inl (run_v hr), fun _ => Ext.refl w, _, _, _, hK, ⟨by simpa using g1, fun q => ?_, h.size, h.defers⟩, ?_⟩
                · rw [lkV_subT]; exact g2 _ _ ((h.tmp q).sub hH)
                · exact .rowZ (inf := ⟨none, 0, s, 0⟩) (by simp [upB])
              | row g1 gm g2 g3 g4 =>
                rename_i b o s' m C tt fr
                obtain ⟨inf, r1, r2⟩ := h.hr.rel k _ hB
                rw [g1] at r1
                cases r1
                cases r2 with
                | row q1 q2 q3 q4 =>
                rename_i C' t'
                have hCe : C = C' := by rw [q1] at g3; cases g3; rfl
                subst hCe
                have hnl : news.length = ns.length * s := hcn.1
                have hm1 := Nat.mul_le_mul_right s hroom
                rw [Nat.add_mul] at hm1
                rw [Nat.add_mul] at g4
                have hin : (o + lo * s) + n * i.size + news.length ≤ C.size := by rw [hi1, hnl]; omega
                have hr := run_append_room_row (P := P) (ty := ty) hte hi hsrc hroom q1 hin
                rw [hi1] at hr hin
                generalize hC2 : (C.toList.take (o + lo * s + n * s) ++ news ++ C.toList.drop (o + lo * s + n * s + news.length)).toArray = C2 at hr
                have hsz2 : C2.size = C.size := by rw [← hC2]; simp; omega
                have hget2 : ∀ q, C2.getD q undef = if q < o + lo * s + n * s then C.getD q undef else if q < o + lo * s + n * s + news.length then news.getD (q - (o + lo * s + n * s)) undef else C.getD q undef := by
                  intro q
                  rw [← hC2]
                  have := getD_splice3 (C := C) (xs := news.toArray) (o := o + lo * s + n * s) (by simpa using hin) q
                  simpa using this
                have hw : Wr w (w.setRow b C2) b := Wr.setRow w b C2 (fun C0 t0 fr0 h0 => by rw [q1] at h0; cases h0; omega)
                have hh2 := setRow_heap w b C C2 t' _ q1
                have hcsv : ∀ q, q < cs.length → cs.getD q undef = C.getD (o + lo * s + q) undef := by
                  intro q hq
                  have := (hcell _ rfl).2 q (cs.getD q undef) (by simp [hq])
                  rw [add_at rfl] at this
                  simp [World.cell?, q1] at this
                  have hq3 : o + lo * s + q < C.size := (Array.getElem?_eq_some_iff.1 this).1
                  rw [Array.getElem?_eq_getElem hq3] at this
                  have h5 := Option.some.inj this
                  rw [List.getD_eq_getElem?_getD, ← h5]
                  simp [hq3]
                have hgo0 := h.hr.goesW g1 hw
                have hrw := h.hr.rewrite (k' := .t d) (o' := o + lo * s) (s' := s) (m' := n + ns.length) (xs := (xs.drop lo).take n ++ ns) g1 hw hfree (by
                  rw [← hlen2]
                  refine .row hh2 hcall.2.1 (by rw [hlen2, Nat.add_mul, hsz2]; omega) fun p q hp hq => ?_
                  have h1 := mul_in hp hq
                  rw [← hcall.1] at h1
                  have e1 : C2.getD (o + lo * s + (p * s + q)) undef = (cs ++ news).getD (p * s + q) undef := by
                    rw [hget2]
                    have hcl : cs.length = n * s := by rw [hcs.1, hln]
                    by_cases hlt : p * s + q < cs.length
                    · rw [if_pos (by omega), ← hcsv _ hlt]
                      simp [List.getD_eq_getElem?_getD, List.getElem?_append, hlt]
                    · have h2 : p * s + q < cs.length + news.length := by simpa using h1
                      have d1 : ¬ o + lo * s + (p * s + q) < o + lo * s + n * s := by omega
                      have d2 : o + lo * s + (p * s + q) < o + lo * s + n * s + news.length := by omega
                      rw [if_neg d1, if_pos d2]
                      have d3 : o + lo * s + (p * s + q) - (o + lo * s + n * s) = p * s + q - cs.length := by omega
                      rw [d3]
                      simp [List.getD_eq_getElem?_getD, List.getElem?_append, hlt]
                  rw [e1]
                  refine (hcall.2.2 p q hp hq).mono ?_ (fun _ _ h => by simp [Beta.none] at h) (fun _ _ _ _ _ _ _ _ h => by simp [Beta.none] at h)
                  refine ⟨fun b2 hb2 => ⟨hb2.1, by rw [hw.size]; exact hb2.2.1, fun k2 o2 s2 m2 hk2 => ?_⟩, fun b2 hb2 => hw.heap b2 fun eq => by subst eq; exact hb2.2.2 _ _ _ _ g1⟩
                  unfold upB at hk2
                  split at hk2
                  · cases hk2; exact hb2.2.2 _ _ _ _ g1
                  · unfold dnB at hk2
                    split at hk2
                    · cases hk2
                    · exact hb2.2.2 _ _ _ _ hk2)
                refine ⟨_, _, .inl (run_v hr), (fun hq => by cases hX hq), _, _, _, hK, ⟨hrw.1, fun q => ?_, h.size, h.defers⟩, ?_⟩
                · rw [lkV_subT]; exact hrw.2 _ _ (h.tmp q)
                · have := VRel.row (ok := okF G L w0 (w.setRow b C2) (upB (dnB β k) (.t d) ⟨some b, o + lo * s, s, n + ns.length⟩)) (w := w.setRow b C2) (β := upB (dnB β k) (.t d) ⟨some b, o + lo * s, s, n + ns.length⟩) (k := .t d) (b := b) (o := o + lo * s) (s := s) (m := n + ns.length) (lo := 0) (len := n + ns.length) (cap := cap) (by simp [upB]) (by omega) hroom hh2 (by rw [Nat.zero_add, hsz2]; omega)
                  simpa using this
            · exact grow (by omega)
          · exact hk.elim
        · exact hk.elim
    · exact hk.elim
end
end Go.Sym
