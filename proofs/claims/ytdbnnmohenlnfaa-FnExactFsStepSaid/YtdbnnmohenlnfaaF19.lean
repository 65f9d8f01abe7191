/- The program's step. -/
import Derived.Test.YtdbnnmohenlnfaaF18
namespace Go.Proofs.Try
open Go Go.Sym
set_option linter.unusedVariables false
set_option linter.unusedSimpArgs false
set_option maxHeartbeats 8000000

theorem sortedF_adj : ∀ {fs : List File}, (∀ i, 0 < i → i < fs.length → nmLt (fs.getD (i - 1) default).name (fs.getD i default).name = true) → SortedF fs
  | [], _ => List.Pairwise.nil
  | [a], _ => by simp [SortedF]
  | a :: b :: fs, h => by
    have ih : SortedF (b :: fs) := sortedF_adj fun i h0 hi => by
      have := h (i + 1) (by omega) (by simp at hi ⊢; omega)
      obtain ⟨j, rfl⟩ : ∃ j, i = j + 1 := ⟨i - 1, by omega⟩
      simpa using this
    have hab : fileLt a b = true := by simpa [fileLt] using h 1 (by omega) (by simp)
    refine List.pairwise_cons.2 ⟨fun x hx => ?_, ih⟩
    rcases List.mem_cons.1 hx with rfl | hx
    · exact hab
    · exact nmLt_trans hab ((List.pairwise_cons.1 ih).1 x hx)
theorem validF_sorted {f : Fs} (h : validF f = true) : SortedF f.files := by
  refine sortedF_adj fun i h0 hi => ?_
  have h1 : (List.range f.files.length).all (fun i => !(badFile f.files i)) = true := by
    simp only [validF, Bool.and_eq_true] at h; exact h.1.2
  have h2 := List.all_eq_true.1 h1 i (by simpa using hi)
  simp only [badFile, Bool.not_eq_true', Bool.or_eq_false_iff] at h2
  have h3 := h2.2
  have : decide ((i : Int) > 0) = true := decide_eq_true (by omega)
  rw [this, Bool.true_and] at h3
  simpa [nmLt] using h3

def stepRI (f : Fs) (o : Fop) (r : V) (h : Hp) : Prop :=
  (stepOk f o = false ∧ r = .tup [.agg [.nil, scI 0, scI 0, scI 0, scI 0, scB false], scI 16] ∧ h = []) ∨
  (stepOk f o = true ∧ r = .tup [.agg [.row (.r 0) 0 (doI f o).1.files.length, scI (doI f o).1.cap, scI (doI f o).1.count, scI (doI f o).1.crashAt, scI (doI f o).1.failAt, scB (doI f o).1.down], scI (doI f o).2] ∧ h = [(.r 0, .row 3 ((doI f o).1.files.map File.enc))])

theorem implStep_spec (f : Fs) (o : Fop) (hl : f.files.length ≤ 1000000000) (hs : dataSum f.files ≤ 1000000000000) (hd : o.data.size ≤ 1000000000) :
    AC Try.prog 9 [f.rd, .agg o.enc] [] (stepRI f o) := by
  refine AC.of_body (T := tab) (fn := Try.f9) (rs := [.cell 4 31, .tmp 5]) (N := 36) Try.func9 rfl rfl rfl (by simp) ?_
  repeat (first | refine ⟨rfl, ?_⟩ | refine ⟨trivial, ?_⟩ | refine Br.pos (by assumption) ?_ | refine Br.neg (by assumption) ?_ | refine Br.pos rfl ?_ | refine Br.neg rfl ?_ | refine Br.pos (decide_eq_true (by omega)) ?_ | refine Br.neg (decide_eq_false (by omega)) ?_ | refine ⟨⟨by first | exact Nat.le_of_ble_eq_true rfl | omega | (simp; done) | (simp; omega)⟩, ?_⟩)
  refine CallS.val (FsValidI_spec f hl hs) rfl ?_
  repeat (first | refine ⟨rfl, ?_⟩ | refine ⟨trivial, ?_⟩ | refine Br.pos (by assumption) ?_ | refine Br.neg (by assumption) ?_ | refine Br.pos rfl ?_ | refine Br.neg rfl ?_ | refine Br.pos (decide_eq_true (by omega)) ?_ | refine Br.neg (decide_eq_false (by omega)) ?_ | refine ⟨⟨by first | exact Nat.le_of_ble_eq_true rfl | omega | (simp; done) | (simp; omega)⟩, ?_⟩)
  refine Br.mk (fun h1 => ?_) (fun h1 => ?_)
  · have : validF f = false := by simpa using h1
    repeat (first | refine ⟨rfl, ?_⟩ | refine ⟨trivial, ?_⟩ | refine Br.pos (by assumption) ?_ | refine Br.neg (by assumption) ?_ | refine Br.pos rfl ?_ | refine Br.neg rfl ?_ | refine Br.pos (decide_eq_true (by omega)) ?_ | refine Br.neg (decide_eq_false (by omega)) ?_ | refine ⟨⟨by first | exact Nat.le_of_ble_eq_true rfl | omega | (simp; done) | (simp; omega)⟩, ?_⟩)
    exact ⟨_, Ent.keepK [] _, .inl ⟨by simp only [stepOk, this, Bool.false_and], rfl, rfl⟩⟩
  have hv : validF f = true := by simpa using h1
  obtain ⟨b1, b2, b3, b4, b5, b6⟩ := validF_bounds f hv
  repeat (first | refine ⟨rfl, ?_⟩ | refine ⟨trivial, ?_⟩ | refine Br.pos (by assumption) ?_ | refine Br.neg (by assumption) ?_ | refine Br.pos rfl ?_ | refine Br.neg rfl ?_ | refine Br.pos (decide_eq_true (by omega)) ?_ | refine Br.neg (decide_eq_false (by omega)) ?_ | refine ⟨⟨by first | exact Nat.le_of_ble_eq_true rfl | omega | (simp; done) | (simp; omega)⟩, ?_⟩)
  refine Br.mk (fun h2 => ?_) (fun h2 => ?_)
  · have : btw o.kind 1 5 = false := btw_false _ _ _ (by have := of_decide_eq_true h2; omega)
    repeat (first | refine ⟨rfl, ?_⟩ | refine ⟨trivial, ?_⟩ | refine Br.pos (by assumption) ?_ | refine Br.neg (by assumption) ?_ | refine Br.pos rfl ?_ | refine Br.neg rfl ?_ | refine Br.pos (decide_eq_true (by omega)) ?_ | refine Br.neg (decide_eq_false (by omega)) ?_ | refine ⟨⟨by first | exact Nat.le_of_ble_eq_true rfl | omega | (simp; done) | (simp; omega)⟩, ?_⟩)
    exact ⟨_, Ent.keepK [] _, .inl ⟨by simp only [stepOk, this, Bool.and_false, Bool.false_and], rfl, rfl⟩⟩
  repeat (first | refine ⟨rfl, ?_⟩ | refine ⟨trivial, ?_⟩ | refine Br.pos (by assumption) ?_ | refine Br.neg (by assumption) ?_ | refine Br.pos rfl ?_ | refine Br.neg rfl ?_ | refine Br.pos (decide_eq_true (by omega)) ?_ | refine Br.neg (decide_eq_false (by omega)) ?_ | refine ⟨⟨by first | exact Nat.le_of_ble_eq_true rfl | omega | (simp; done) | (simp; omega)⟩, ?_⟩)
  refine Br.mk (fun h3 => ?_) (fun h3 => ?_)
  · have : btw o.kind 1 5 = false := btw_false _ _ _ (by have := of_decide_eq_true h3; omega)
    repeat (first | refine ⟨rfl, ?_⟩ | refine ⟨trivial, ?_⟩ | refine Br.pos (by assumption) ?_ | refine Br.neg (by assumption) ?_ | refine Br.pos rfl ?_ | refine Br.neg rfl ?_ | refine Br.pos (decide_eq_true (by omega)) ?_ | refine Br.neg (decide_eq_false (by omega)) ?_ | refine ⟨⟨by first | exact Nat.le_of_ble_eq_true rfl | omega | (simp; done) | (simp; omega)⟩, ?_⟩)
    exact ⟨_, Ent.keepK [] _, .inl ⟨by simp only [stepOk, this, Bool.and_false, Bool.false_and], rfl, rfl⟩⟩
  have hk : btw o.kind 1 5 = true := btw_true _ _ _ (by have := of_decide_eq_false h2; omega) (by have := of_decide_eq_false h3; omega)
  repeat (first | refine ⟨rfl, ?_⟩ | refine ⟨trivial, ?_⟩ | refine Br.pos (by assumption) ?_ | refine Br.neg (by assumption) ?_ | refine Br.pos rfl ?_ | refine Br.neg rfl ?_ | refine Br.pos (decide_eq_true (by omega)) ?_ | refine Br.neg (decide_eq_false (by omega)) ?_ | refine ⟨⟨by first | exact Nat.le_of_ble_eq_true rfl | omega | (simp; done) | (simp; omega)⟩, ?_⟩)
  refine CallS.val (isFileName_spec _) rfl ?_
  repeat (first | refine ⟨rfl, ?_⟩ | refine ⟨trivial, ?_⟩ | refine Br.pos (by assumption) ?_ | refine Br.neg (by assumption) ?_ | refine Br.pos rfl ?_ | refine Br.neg rfl ?_ | refine Br.pos (decide_eq_true (by omega)) ?_ | refine Br.neg (decide_eq_false (by omega)) ?_ | refine ⟨⟨by first | exact Nat.le_of_ble_eq_true rfl | omega | (simp; done) | (simp; omega)⟩, ?_⟩)
  refine Br.mk (fun h4 => ?_) (fun h4 => ?_)
  · have : isNameB o.name = false := by simpa using h4
    repeat (first | refine ⟨rfl, ?_⟩ | refine ⟨trivial, ?_⟩ | refine Br.pos (by assumption) ?_ | refine Br.neg (by assumption) ?_ | refine Br.pos rfl ?_ | refine Br.neg rfl ?_ | refine Br.pos (decide_eq_true (by omega)) ?_ | refine Br.neg (decide_eq_false (by omega)) ?_ | refine ⟨⟨by first | exact Nat.le_of_ble_eq_true rfl | omega | (simp; done) | (simp; omega)⟩, ?_⟩)
    exact ⟨_, Ent.keepK [] _, .inl ⟨by simp only [stepOk, this, Bool.and_false], rfl, rfl⟩⟩
  have hn : isNameB o.name = true := by simpa using h4
  have hok : stepOk f o = true := by simp only [stepOk, hv, hk, hn, Bool.and_self]
  repeat (first | refine ⟨rfl, ?_⟩ | refine ⟨trivial, ?_⟩ | refine Br.pos (by assumption) ?_ | refine Br.neg (by assumption) ?_ | refine Br.pos rfl ?_ | refine Br.neg rfl ?_ | refine Br.pos (decide_eq_true (by omega)) ?_ | refine Br.neg (decide_eq_false (by omega)) ?_ | refine ⟨⟨by first | exact Nat.le_of_ble_eq_true rfl | omega | (simp; done) | (simp; omega)⟩, ?_⟩)
  refine CallS.lend [] 1 (systemOf_spec f (by omega)) (by decide) rfl rfl rfl trivial ?_
  rintro r h ⟨rfl, rfl⟩
  refine ⟨rfl, ?_⟩
  repeat (first | refine ⟨rfl, ?_⟩ | refine ⟨trivial, ?_⟩ | refine Br.pos (by assumption) ?_ | refine Br.neg (by assumption) ?_ | refine Br.pos rfl ?_ | refine Br.neg rfl ?_ | refine Br.pos (decide_eq_true (by omega)) ?_ | refine Br.neg (decide_eq_false (by omega)) ?_ | refine ⟨⟨by first | exact Nat.le_of_ble_eq_true rfl | omega | (simp; done) | (simp; omega)⟩, ?_⟩)
  refine CallS.lend [.c 1 0, .c 1 1] 2 (do_spec f o (by omega) (validF_sorted hv) b4 b3 hd b5 b6) (by decide) rfl rfl rfl ⟨rfl, rfl, rfl, rfl, trivial⟩ ?_
  rintro r h ⟨rfl, hh⟩
  generalize hg : doI f o = g at *
  obtain ⟨g, c⟩ := g
  rcases hh with rfl | rfl | rfl
  · refine ⟨rfl, ?_⟩
    repeat (first | refine ⟨rfl, ?_⟩ | refine ⟨trivial, ?_⟩ | refine Br.pos (by assumption) ?_ | refine Br.neg (by assumption) ?_ | refine Br.pos rfl ?_ | refine Br.neg rfl ?_ | refine Br.pos (decide_eq_true (by omega)) ?_ | refine Br.neg (decide_eq_false (by omega)) ?_ | refine ⟨⟨by first | exact Nat.le_of_ble_eq_true rfl | omega | (simp; done) | (simp; omega)⟩, ?_⟩)
    refine CallS.lend [.c 1 0, .c 1 1] 3 (fs_spec g) (by decide) rfl rfl rfl ⟨rfl, rfl, rfl, rfl, trivial⟩ ?_
    rintro r h ⟨rfl, rfl⟩
    refine ⟨rfl, ?_⟩
    repeat (first | refine ⟨rfl, ?_⟩ | refine ⟨trivial, ?_⟩ | refine Br.pos (by assumption) ?_ | refine Br.neg (by assumption) ?_ | refine Br.pos rfl ?_ | refine Br.neg rfl ?_ | refine Br.pos (decide_eq_true (by omega)) ?_ | refine Br.neg (decide_eq_false (by omega)) ?_ | refine ⟨⟨by first | exact Nat.le_of_ble_eq_true rfl | omega | (simp; done) | (simp; omega)⟩, ?_⟩)
    exact ⟨_, Ent.trans (Ent.mv (.c 1 1) (.r 0) rfl (by decide)) (Ent.to [.r 0] (s' := { ts := [(0, .tup [.agg [.row (.r 0) 0 g.files.length, scI g.cap, scI g.count, scI g.crashAt, scI g.failAt, scB g.down], scI c])], hs := [(.r 0, .row 3 (g.files.map File.enc))] }) rfl ⟨rfl, trivial⟩), .inr ⟨hok, by rw [hg]; rfl, by rw [hg]⟩⟩
  · refine ⟨rfl, ?_⟩
    repeat (first | refine ⟨rfl, ?_⟩ | refine ⟨trivial, ?_⟩ | refine Br.pos (by assumption) ?_ | refine Br.neg (by assumption) ?_ | refine Br.pos rfl ?_ | refine Br.neg rfl ?_ | refine Br.pos (decide_eq_true (by omega)) ?_ | refine Br.neg (decide_eq_false (by omega)) ?_ | refine ⟨⟨by first | exact Nat.le_of_ble_eq_true rfl | omega | (simp; done) | (simp; omega)⟩, ?_⟩)
    refine CallS.lend [.c 1 0, .c 1 1] 3 (fs_spec g) (by decide) rfl rfl rfl ⟨rfl, rfl, rfl, rfl, trivial⟩ ?_
    rintro r h ⟨rfl, rfl⟩
    refine ⟨rfl, ?_⟩
    repeat (first | refine ⟨rfl, ?_⟩ | refine ⟨trivial, ?_⟩ | refine Br.pos (by assumption) ?_ | refine Br.neg (by assumption) ?_ | refine Br.pos rfl ?_ | refine Br.neg rfl ?_ | refine Br.pos (decide_eq_true (by omega)) ?_ | refine Br.neg (decide_eq_false (by omega)) ?_ | refine ⟨⟨by first | exact Nat.le_of_ble_eq_true rfl | omega | (simp; done) | (simp; omega)⟩, ?_⟩)
    exact ⟨_, Ent.trans (Ent.mv (.c 1 1) (.r 0) rfl (by decide)) (Ent.to [.r 0] (s' := { ts := [(0, .tup [.agg [.row (.r 0) 0 g.files.length, scI g.cap, scI g.count, scI g.crashAt, scI g.failAt, scB g.down], scI c])], hs := [(.r 0, .row 3 (g.files.map File.enc))] }) rfl ⟨rfl, trivial⟩), .inr ⟨hok, by rw [hg]; rfl, by rw [hg]⟩⟩
  · refine ⟨rfl, ?_⟩
    repeat (first | refine ⟨rfl, ?_⟩ | refine ⟨trivial, ?_⟩ | refine Br.pos (by assumption) ?_ | refine Br.neg (by assumption) ?_ | refine Br.pos rfl ?_ | refine Br.neg rfl ?_ | refine Br.pos (decide_eq_true (by omega)) ?_ | refine Br.neg (decide_eq_false (by omega)) ?_ | refine ⟨⟨by first | exact Nat.le_of_ble_eq_true rfl | omega | (simp; done) | (simp; omega)⟩, ?_⟩)
    refine CallS.lend [.c 1 0, .c 2 0] 3 (fs_spec g) (by decide) rfl rfl rfl ⟨rfl, rfl, rfl, rfl, trivial⟩ ?_
    rintro r h ⟨rfl, rfl⟩
    refine ⟨rfl, ?_⟩
    repeat (first | refine ⟨rfl, ?_⟩ | refine ⟨trivial, ?_⟩ | refine Br.pos (by assumption) ?_ | refine Br.neg (by assumption) ?_ | refine Br.pos rfl ?_ | refine Br.neg rfl ?_ | refine Br.pos (decide_eq_true (by omega)) ?_ | refine Br.neg (decide_eq_false (by omega)) ?_ | refine ⟨⟨by first | exact Nat.le_of_ble_eq_true rfl | omega | (simp; done) | (simp; omega)⟩, ?_⟩)
    exact ⟨_, Ent.trans (Ent.mv (.c 2 0) (.r 0) rfl (by decide)) (Ent.to [.r 0] (s' := { ts := [(0, .tup [.agg [.row (.r 0) 0 g.files.length, scI g.cap, scI g.count, scI g.crashAt, scI g.failAt, scB g.down], scI c])], hs := [(.r 0, .row 3 (g.files.map File.enc))] }) rfl ⟨rfl, trivial⟩), .inr ⟨hok, by rw [hg]; rfl, by rw [hg]⟩⟩
end Go.Proofs.Try
