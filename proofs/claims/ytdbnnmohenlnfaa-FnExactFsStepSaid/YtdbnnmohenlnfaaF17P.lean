/- Plain facts on lists of files sorted by name. -/
import Derived.Test.YtdbnnmohenlnfaaF16
import Derived.Sort.Walk0
namespace Go.Proofs.Try
open Go Go.Sym
set_option linter.unusedVariables false
set_option linter.unusedSimpArgs false

def nmLt (a b : ByteArray) : Bool := Op.bytesLess a.toList b.toList
theorem nmLt_iff (a b : ByteArray) : nmLt a b = true ↔ a.toList < b.toList := by unfold nmLt; rw [Go.Proofs.bytesLess_eq]; simp
theorem nmLt_irrefl (a : ByteArray) : nmLt a a = false := by
  cases h : nmLt a a with
  | false => rfl
  | true => exact absurd ((nmLt_iff _ _).1 h) (List.lt_irrefl _)
theorem nmLt_trans {a b c : ByteArray} (h : nmLt a b = true) (k : nmLt b c = true) : nmLt a c = true := by
  rw [nmLt_iff] at *; exact List.lt_trans h k
theorem nmLt_asymm {a b : ByteArray} (h : nmLt a b = true) : nmLt b a = false := by
  cases k : nmLt b a with
  | false => rfl
  | true => have := nmLt_trans h k; rw [nmLt_irrefl] at this; cases this
theorem nm_tri {a b : ByteArray} (h : nmLt a b = false) (k : nmLt b a = false) : a.toList = b.toList := by
  have h1 : ¬ a.toList < b.toList := fun e => by rw [← nmLt_iff] at e; rw [h] at e; cases e
  have h2 : ¬ b.toList < a.toList := fun e => by rw [← nmLt_iff] at e; rw [k] at e; cases e
  exact List.le_antisymm (List.not_lt.1 h2) (List.not_lt.1 h1)
/-- The files with one more, in the order of names. -/
def fileLt (a b : File) : Bool := nmLt a.name b.name
def insF (fs : List File) (f : File) : List File := fs.takeWhile (fileLt · f) ++ f :: fs.dropWhile (fileLt · f)
def SortedF (fs : List File) : Prop := fs.Pairwise fun a b => fileLt a b = true
def Absent (fs : List File) (nm : ByteArray) : Prop := ∀ g, g ∈ fs → (g.name.toList == nm.toList) = false

theorem insF_perm (fs : List File) (f : File) : (insF fs f).Perm (fs ++ [f]) := by
  unfold insF
  have h := List.takeWhile_append_dropWhile (p := (fileLt · f)) (l := fs)
  have : (fs.takeWhile (fileLt · f) ++ f :: fs.dropWhile (fileLt · f)).Perm (f :: (fs.takeWhile (fileLt · f) ++ fs.dropWhile (fileLt · f))) := List.perm_middle
  rw [h] at this
  exact this.trans (List.perm_append_comm (l₁ := [f]) (l₂ := fs))

theorem insF_sorted : ∀ {fs : List File} {f : File}, SortedF fs → Absent fs f.name → SortedF (insF fs f)
  | [], f, _, _ => by simp [insF, SortedF]
  | g :: fs, f, h, ha => by
    have hs := List.pairwise_cons.1 h
    unfold insF
    cases hg : fileLt g f with
    | true =>
      simp only [List.takeWhile_cons, List.dropWhile_cons, hg, if_true, List.cons_append]
      have ih := insF_sorted (f := f) hs.2 fun x hx => ha x (List.mem_cons_of_mem _ hx)
      refine List.pairwise_cons.2 ⟨fun x hx => ?_, ih⟩
      have : x ∈ fs ++ [f] := (insF_perm fs f).mem_iff.1 hx
      rcases List.mem_append.1 this with h1 | h1
      · exact hs.1 x h1
      · rw [List.mem_singleton.1 h1]; exact hg
    | false =>
      simp only [List.takeWhile_cons, List.dropWhile_cons, hg, if_false, List.nil_append, Bool.false_eq_true]
      have hfg : fileLt f g = true := by
        cases hk : fileLt f g with
        | true => rfl
        | false =>
          have := nm_tri (a := g.name) (b := f.name) hg hk
          have hh := ha g List.mem_cons_self
          rw [this] at hh
          simp at hh
      refine List.pairwise_cons.2 ⟨fun x hx => ?_, h⟩
      rcases List.mem_cons.1 hx with rfl | hx
      · exact hfg
      · exact nmLt_trans hfg (hs.1 x hx)

theorem sortedF_inj {fs : List File} (h : SortedF fs) {a b : File} (ha : a ∈ fs) (hb : b ∈ fs) (hab : fileLt a b = false) (hba : fileLt b a = false) : a = b := by
  induction fs with
  | nil => cases ha
  | cons g fs ih =>
    have hs := List.pairwise_cons.1 h
    rcases List.mem_cons.1 ha with e1 | ha' <;> rcases List.mem_cons.1 hb with e2 | hb'
    · rw [e1, e2]
    · rw [e1, hs.1 _ hb'] at hab; cases hab
    · rw [e2, hs.1 _ ha'] at hba; cases hba
    · exact ih hs.2 ha' hb'

theorem sortedF_uniq {l fs : List File} (hp : l.Perm fs) (hs : SortedF fs) (hl : l.Pairwise fun a b => fileLt b a = false) : l = fs := by
  refine List.Perm.eq_of_pairwise (le := fun a b => fileLt b a = false) (fun a b ha hb h1 h2 => sortedF_inj hs (hp.mem_iff.1 ha) hb h2 h1) hl ?_ hp
  exact List.Pairwise.imp (fun h => nmLt_asymm h) hs

theorem perm_map_ex {α β : Type} (f : α → β) {xs ys : List β} (h : xs.Perm ys) : ∀ L : List α, xs = L.map f → ∃ zs : List α, ys = zs.map f ∧ zs.Perm L := by
  induction h with
  | nil => intro L hL; exact ⟨[], rfl, by have := List.map_eq_nil_iff.1 hL.symm; rw [this]⟩
  | cons x _ ih =>
    intro L hL
    cases L with
    | nil => simp at hL
    | cons a L =>
      simp at hL
      obtain ⟨zs, h1, h2⟩ := ih L hL.2
      exact ⟨a :: zs, by rw [hL.1, h1]; rfl, h2.cons a⟩
  | swap x y l =>
    intro L hL
    match L, hL with
    | a :: b :: L, hL =>
      simp at hL
      exact ⟨b :: a :: L, by rw [hL.1, hL.2.1, hL.2.2]; rfl, List.Perm.swap a b L⟩
  | trans _ _ ih1 ih2 =>
    intro L hL
    obtain ⟨zs, h1, h2⟩ := ih1 L hL
    obtain ⟨us, h3, h4⟩ := ih2 zs h1
    exact ⟨us, h3, h4.trans h2⟩
end Go.Proofs.Try
