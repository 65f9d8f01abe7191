/- Abstract states that say less: temporaries forgotten, names given up. -/
import Derived.Test.YtdbnnmohenlnfaaSymI
namespace Go.Sym
set_option linter.unusedVariables false
set_option linter.unusedSimpArgs false

def St.drop (s : St) (k : Key) : St := { ts := subT k unF unF s.ts, hs := subH k unF unF (eraseB s.hs k) }
def St.freeze (s : St) (k : Key) (sz : Nat) (xs : List (List V)) : St := { ts := subT k (frF sz xs) unF s.ts, hs := subH k (frF sz xs) unF (eraseB s.hs k) }

theorem Ent.refl (s : St) : Ent s s := fun _ _ _ _ _ _ β h => ⟨β, h⟩
theorem Ent.trans {a b c : St} (h : Ent a b) (k : Ent b c) : Ent a c := fun G L w0 N ac w β hA => by
  obtain ⟨β1, h1⟩ := h G L w0 N ac w β hA
  exact k G L w0 N ac w β1 h1

theorem Ent.gone {s : St} {k : Key} {f g : Nat → Nat → V} (H : ∀ (G : Nat → Prop) (L : Beta) (w0 w : World) (β : Beta), HR G L w0 w β s.hs → Gone (okF G L w0 w β) (okF G L w0 w (dnB β k)) w β k f g (dnB β k)) :
    Ent s { ts := subT k f g s.ts, hs := subH k f g (eraseB s.hs k) } := fun G L w0 N a w β h =>
  ⟨dnB β k, h.hr.drop (H G L w0 w β h.hr), fun n => by rw [lkV_subT]; exact (h.tmp n).sub (H G L w0 w β h.hr), h.size, h.defers⟩
theorem Ent.drop (s : St) (k : Key) : Ent s (s.drop k) := Ent.gone fun G L w0 w β h => h.goneU k
theorem Ent.freeze {s : St} {k : Key} {sz : Nat} {xs : List (List V)} (hk : lkB s.hs k = some (.row sz xs)) : Ent s (s.freeze k sz xs) := Ent.gone fun G L w0 w β h => h.gone_row hk (dnB β k) (dnB_up β k)

def St.mv (s : St) (k k' : Key) : St :=
  match lkB s.hs k with
  | some B => { ts := subT k (mvF k') (mvG k') s.ts, hs := (k', subB k (mvF k') (mvG k') B) :: subH k (mvF k') (mvG k') (eraseB s.hs k) }
  | none => s
theorem Ent.mv {s : St} (k k' : Key) (hk : (lkB s.hs k').isNone = true) (hne : k ≠ k') (ha : k'.isA = false := by rfl) : Ent s (s.mv k k') := fun G L w0 N a w β h => by
  unfold St.mv
  have hk : lkB s.hs k' = none := by simpa using hk
  split
  · rename_i B hB
    exact ⟨mvB β k k', h.hr.rename hB hk hne ha, fun n => by rw [lkV_subT]; exact (h.tmp n).sub (h.hr.move hk hne), h.size, h.defers⟩
  · exact ⟨β, h⟩

/-- A nil slice is a row without a block. -/
theorem Ent.virt {s : St} {n : Nat} (k : Key) (sz : Nat) (hn : lkV s.ts n = .nil) (hk : (lkB s.hs k).isNone = true) (ha : k.isA = false := by rfl) : Ent s { ts := (n, .row k 0 0) :: s.ts, hs := (k, .row sz []) :: s.hs } := fun G L w0 N a w β h => by
  have hk : lkB s.hs k = none := by simpa using hk
  obtain ⟨g1, g2⟩ := h.hr.virt sz hk ha
  refine ⟨_, g1, fun q => ?_, h.size, h.defers⟩
  simp only [lkV]
  split
  · rename_i e
    subst e
    have := h.tmp n
    rw [hn] at this
    generalize a.tmps.getD n undef = x at this
    cases this
    exact .rowZ (inf := ⟨none, 0, sz, 0⟩) (by simp [upB])
  · exact g2 _ _ (h.tmp q)

/-- All names go but some. -/
def keepK (KS : List Key) (s : St) : St := (s.hs.map (·.1)).foldl (fun s k => if KS.contains k then s else s.drop k) s
theorem Ent.keepK (KS : List Key) (s : St) : Ent s (Sym.keepK KS s) := by
  unfold Sym.keepK
  generalize s.hs.map (·.1) = ks
  induction ks generalizing s with
  | nil => exact Ent.refl s
  | cons k ks ih =>
    simp only [List.foldl_cons]
    split
    · exact ih s
    · exact (Ent.drop s k).trans (ih _)

def SameT (s : St) : List (Nat × V) → Prop
  | [] => True
  | (n, v) :: l => lkV s.ts n = v ∧ SameT s l
theorem sameT_get {s : St} : ∀ {l : List (Nat × V)}, SameT s l → ∀ n, lkV l n = .un ∨ lkV l n = lkV s.ts n
  | [], _, n => .inl rfl
  | (q, v) :: l, h, n => by
    simp only [lkV]
    split
    · rename_i e; subst e; exact .inr h.1.symm
    · exact sameT_get h.2 n

theorem Ent.temps {s s' : St} (hh : s.hs = s'.hs) (ht : SameT s s'.ts) : Ent s s' := fun G L w0 N a w β h =>
  ⟨β, by rw [← hh]; exact h.hr, fun n => by
    rcases sameT_get ht n with e | e
    · rw [e]; exact .un
    · rw [e]; exact h.tmp n, h.size, h.defers⟩

/-- To a state that is written out: some names kept, the temporaries that it tells. -/
theorem Ent.to (KS : List Key) {s s' : St} (hh : (Sym.keepK KS s).hs = s'.hs) (ht : SameT (Sym.keepK KS s) s'.ts) : Ent s s' := (Ent.keepK KS s).trans (Ent.temps hh ht)

theorem wrap64_id (x : Int) (h1 : -9223372036854775808 ≤ x) (h2 : x ≤ 9223372036854775807) : IntKind.wrap .i64 x = x := by
  unfold IntKind.wrap
  simp only [IntKind.bits, IntKind.signed, Bool.true_and, decide_eq_true_eq, ge_iff_le]
  split <;> omega

theorem getD_map_enc {α : Type} (f : α → List V) (xs : List α) (d : α) {i : Nat} (h : i < xs.length) : (xs.map f).getD i [] = f (xs.getD i d) := by
  simp [List.getD_eq_getElem?_getD, h]
end Go.Sym
