/- Heaps told in another order. -/
import Derived.Test.YtdbnnmohenlnfaaSymS
namespace Go.Sym
set_option linter.unusedVariables false
set_option linter.unusedSimpArgs false

def SameH (h : Hp) : Hp → Prop
  | [] => True
  | (k, B) :: l => lkB h k = some B ∧ SameH h l
theorem sameH_get {h : Hp} : ∀ {l : Hp}, SameH h l → ∀ k B, lkB l k = some B → lkB h k = some B
  | [], _, k, B, hk => by simp [lkB] at hk
  | (q, C) :: l, hs, k, B, hk => by
    simp only [lkB] at hk
    split at hk
    · rename_i e; subst e; cases hk; exact hs.1
    · exact sameH_get hs.2 k B hk

theorem HR.same {G : Nat → Prop} {L : Beta} {w0 w : World} {β : Beta} {hs hs' : Hp} (h : HR G L w0 w β hs) (h1 : ∀ k, lkB hs' k = lkB hs k) : HR G L w0 w β hs' :=
  ⟨h.os, h.tape, h.output, h.size, h.keep, fun k hk => h.dom k (by rw [← h1]; exact hk), fun k B hk => h.rel k B (by rw [← h1]; exact hk), h.inj, h.own, h.g, h.arg, h.grow⟩

theorem Ent.hs {s s' : St} (hk : s.hs.all (fun p => (lkB s'.hs p.1).isSome) = true) (hh : SameH s.hs s'.hs) (ht : SameT s s'.ts) : Ent s s' := fun G L w0 N a w β h => by
  have h1 : ∀ k, lkB s'.hs k = lkB s.hs k := by
    intro k
    cases e : lkB s'.hs k with
    | some B => exact (sameH_get hh k B e).symm
    | none =>
      cases e2 : lkB s.hs k with
      | none => rfl
      | some B =>
        obtain ⟨p, hp, rfl⟩ := lkB_mem e2
        have := List.all_eq_true.1 hk p hp
        rw [e] at this; cases this
  refine ⟨β, h.hr.same h1, fun n => ?_, h.size, h.defers⟩
  rcases sameT_get ht n with e | e
  · rw [e]; exact .un
  · rw [e]; exact h.tmp n

/-- To a state that is written out, its blocks in any order. -/
theorem Ent.at (KS : List Key) {s s' : St} (hk : (Sym.keepK KS s).hs.all (fun p => (lkB s'.hs p.1).isSome) = true) (hh : SameH (Sym.keepK KS s).hs s'.hs) (ht : SameT (Sym.keepK KS s) s'.ts) : Ent s s' :=
  (Ent.keepK KS s).trans (Ent.hs hk hh ht)
end Go.Sym
