/- The plain law: the program's step is the reference's. -/
import Derived.Test.YtdbnnmohenlnfaaF19
namespace Go.Proofs.Try
open Go Go.Sym
set_option linter.unusedVariables false
set_option linter.unusedSimpArgs false

def keepN (name : ByteArray) (fs : List File) : List File := fs.filter fun g => !(g.name.toList == name.toList)
def wrec (name : ByteArray) (f : File) : List File → List File
  | [] => [f]
  | g :: r => if nmLt f.name g.name = true then f :: keepN name (g :: r) else keepN name [g] ++ wrec name f r

theorem fold_true (name : ByteArray) (f : File) : ∀ (fs acc : List File), fs.foldl (withStep name f) (acc, true) = (acc ++ keepN name fs, true)
  | [], acc => by simp [keepN]
  | g :: r, acc => by
    rw [List.foldl_cons]
    have : withStep name f (acc, true) g = (acc ++ keepN name [g], true) := by
      unfold withStep keepN
      cases h : (!(g.name.toList == name.toList)) <;> simp [h]
    rw [this, fold_true name f r]
    congr 1
    rw [List.append_assoc]
    congr 1
    show _ = keepN name ([g] ++ r)
    unfold keepN
    rw [List.filter_append]
theorem fold_false (name : ByteArray) (f : File) : ∀ (fs acc : List File), (let p := fs.foldl (withStep name f) (acc, false); if (!p.2) = true then p.1 ++ [f] else p.1) = acc ++ wrec name f fs
  | [], acc => by simp [wrec]
  | g :: r, acc => by
    dsimp only
    rw [List.foldl_cons]
    cases h : nmLt f.name g.name with
    | true =>
      have : withStep name f (acc, false) g = (acc ++ [f] ++ keepN name [g], true) := by
        unfold withStep keepN
        have h' : Op.bytesLess f.name.toList g.name.toList = true := h
        cases k : (!(g.name.toList == name.toList)) <;> simp [h', k]
      rw [this, fold_true]
      simp only [Bool.not_true, Bool.false_eq_true, if_false, wrec, h, if_true]
      have : keepN name (g :: r) = keepN name [g] ++ keepN name r := by
        show keepN name ([g] ++ r) = _
        unfold keepN; rw [List.filter_append]
      rw [this]
      simp
    | false =>
      have : withStep name f (acc, false) g = (acc ++ keepN name [g], false) := by
        unfold withStep keepN
        have h' : Op.bytesLess f.name.toList g.name.toList = false := h
        cases k : (!(g.name.toList == name.toList)) <;> simp [h', k]
      rw [this]
      have ih := fold_false name f r (acc ++ keepN name [g])
      dsimp only at ih
      rw [ih]
      simp only [wrec, h, Bool.false_eq_true, if_false, List.append_assoc]

theorem withF_eq (files : List File) (name : ByteArray) (f : File) : withF files name f = if (f.name.toList == (⟨#[]⟩ : ByteArray).toList) = true then keepN name files else wrec name f files := by
  unfold withF withFold
  cases h : (f.name.toList == (⟨#[]⟩ : ByteArray).toList) with
  | true => rw [fold_true]; simp
  | false => have := fold_false name f files []; dsimp only at this ⊢; rw [this]; simp

theorem keepN_all {name : ByteArray} {fs : List File} (h : Absent fs name) : keepN name fs = fs := by
  unfold keepN
  rw [List.filter_eq_self]
  intro g hg
  rw [h g hg]; rfl

theorem wrec_ins {nm : ByteArray} {f : File} : ∀ {fs : List File}, SortedF fs → Absent fs nm → Absent fs f.name → wrec nm f fs = insF fs f
  | [], _, _, _ => rfl
  | g :: r, hs, ha, hb => by
    have h2 := List.pairwise_cons.1 hs
    have ha' : Absent r nm := fun x hx => ha x (List.mem_cons_of_mem _ hx)
    have hb' : Absent r f.name := fun x hx => hb x (List.mem_cons_of_mem _ hx)
    unfold wrec insF
    cases h : nmLt f.name g.name with
    | true =>
      have hn : fileLt g f = false := nmLt_asymm h
      rw [if_pos rfl, keepN_all ha]
      simp [List.takeWhile_cons, List.dropWhile_cons, hn]
    | false =>
      have hn : fileLt g f = true := by
        cases k : fileLt g f with
        | true => rfl
        | false =>
          have e := nm_tri (a := f.name) (b := g.name) h k
          have := hb g List.mem_cons_self
          rw [e] at this
          simp at this
      rw [if_neg (by decide), wrec_ins h2.2 ha' hb', keepN_all (fs := [g]) (fun x hx => ha x (by rw [List.mem_singleton.1 hx]; exact List.mem_cons_self))]
      simp [List.takeWhile_cons, List.dropWhile_cons, hn, insF]

theorem absent_gt {g : File} {r : List File} (h : ∀ x, x ∈ r → fileLt g x = true) {nm : ByteArray} (e : nm.toList = g.name.toList) : Absent r nm := fun x hx => by
  have := h x hx
  cases k : (x.name.toList == nm.toList) with
  | false => rfl
  | true =>
    have k : x.name.toList = nm.toList := by simpa using k
    have : Op.bytesLess g.name.toList x.name.toList = true := this
    rw [k, e] at this
    have h0 := nmLt_irrefl g.name
    unfold nmLt at h0
    rw [h0] at this; cases this

theorem wrec_set {nm : ByteArray} {y : File} (hy : y.name.toList = nm.toList) : ∀ {fs : List File} {i : Nat}, SortedF fs → i < fs.length → (fs.getD i default).name.toList = nm.toList → wrec nm y fs = fs.set i y
  | [], i, _, hi, _ => by simp at hi
  | g :: r, 0, hs, _, hn => by
    have h2 := List.pairwise_cons.1 hs
    have hn : g.name.toList = nm.toList := by simpa using hn
    have e1 : nmLt y.name g.name = false := by
      unfold nmLt; rw [hy, hn]; exact nmLt_irrefl nm
    have hk : keepN nm [g] = [] := by simp [keepN, hn]
    have har : Absent r nm := absent_gt h2.1 hn.symm
    unfold wrec
    rw [if_neg (by rw [e1]; decide), hk, List.nil_append]
    cases r with
    | nil => rfl
    | cons g2 r2 =>
      have e2 : nmLt y.name g2.name = true := by
        have := h2.1 g2 List.mem_cons_self
        unfold fileLt nmLt at *
        rw [hy, ← hn]; exact this
      unfold wrec
      rw [if_pos e2, keepN_all har]
      rfl
  | g :: r, i + 1, hs, hi, hn => by
    have h2 := List.pairwise_cons.1 hs
    have hi' : i < r.length := by simpa using hi
    have hn' : (r.getD i default).name.toList = nm.toList := by simpa using hn
    have hg := h2.1 _ (getD_mem (l := r) (i := i) (d := default) hi')
    have e1 : nmLt y.name g.name = false := by
      have : nmLt y.name g.name = nmLt (r.getD i default).name g.name := by unfold nmLt; rw [hy, hn']
      rw [this]; exact nmLt_asymm hg
    have hne : (g.name.toList == nm.toList) = false := by
      cases k : (g.name.toList == nm.toList) with
      | false => rfl
      | true =>
        have k : g.name.toList = nm.toList := by simpa using k
        have hg : Op.bytesLess g.name.toList (r.getD i default).name.toList = true := hg
        rw [hn', k] at hg
        have h0 := nmLt_irrefl nm
        unfold nmLt at h0
        rw [h0] at hg; cases hg
    unfold wrec
    rw [if_neg (by rw [e1]; decide), wrec_set hy h2.2 hi' hn', keepN_all (fs := [g]) (fun x hx => by rw [List.mem_singleton.1 hx]; exact hne)]
    rfl

theorem noText_ne {nm : ByteArray} (h : isNameB nm = true) : (nm.toList == (⟨#[]⟩ : ByteArray).toList) = false := by
  cases k : (nm.toList == (⟨#[]⟩ : ByteArray).toList) with
  | false => rfl
  | true =>
    have k : nm.toList = (⟨#[]⟩ : ByteArray).toList := by simpa using k
    have hs : 1 ≤ nm.size := by
      simp only [isNameB, Bool.and_eq_true, decide_eq_true_eq] at h; exact h.1.1
    have hl : nm.toList.length = nm.size := by rw [ByteArray.toList_eq, Array.length_toList]; rfl
    rw [k] at hl
    have : (⟨#[]⟩ : ByteArray).toList.length = 0 := by rw [ByteArray.toList_eq]; rfl
    omega
theorem validF_names {f : Fs} (h : validF f = true) : Absent f.files noText := by
  intro g hg
  obtain ⟨i, hi, rfl⟩ := List.mem_iff_getElem.1 hg
  have h1 : (List.range f.files.length).all (fun i => !(badFile f.files i)) = true := by
    simp only [validF, Bool.and_eq_true] at h; exact h.1.2
  have h2 := List.all_eq_true.1 h1 i (by simpa using hi)
  simp only [badFile, Bool.not_eq_true', Bool.or_eq_false_iff] at h2
  have h3 : isNameB (f.files.getD i default).name = true := by simpa using h2.1.1
  have e : f.files.getD i default = f.files[i] := by simp [List.getD_eq_getElem?_getD, hi]
  rw [e] at h3
  exact noText_ne h3

theorem opI_eq (g : Fs) (o : Fop) (hs : SortedF g.files) (hab : Absent g.files noText) (hl : g.files.length ≤ 300) (hk : btw o.kind 1 5 = true) (hn : isNameB o.name = true) (hd : (dataSum g.files : Int) ≤ g.cap) :
    opI g o = ({ g with files := (doF g o).1 }, (doF g o).2) := by
  have hne := noText_ne hn
  cases hf : g.files.findIdx? (fun f => f.name.toList == o.name.toList) with
  | none =>
    have hfi : findIx g.files o.name = -1 := by simp only [findIx, hf]
    have habs : Absent g.files o.name := fun x hx => by simpa using List.findIdx?_eq_none_iff.1 hf x hx
    cases h1 : (o.kind == 1) with
    | true =>
      simp only [opI, doF, h1, if_true, createF, hf, hfi]
      have e0 : decide ((-1 : Int) ≥ 0) = false := by decide
      rw [e0]
      simp only [Bool.false_eq_true, if_false]
      cases h2 : ((g.files.length : Int) == 300) with
      | true =>
        have : decide ((g.files.length : Int) ≥ 300) = true := by simp at h2 ⊢; omega
        rw [this]; simp
      | false =>
        have : decide ((g.files.length : Int) ≥ 300) = false := by simp at h2 ⊢; omega
        rw [this]
        simp only [Bool.false_eq_true, if_false]
        rw [withF_eq]
        have e1 : ((⟨o.name, noText, 0⟩ : File).name.toList == (⟨#[]⟩ : ByteArray).toList) = false := hne
        rw [e1, if_neg (by decide), wrec_ins hs hab habs]
        rfl
    | false =>
      simp only [opI, doF, h1, if_false, hf, hfi, Bool.false_eq_true]
      have e0 : decide ((-1 : Int) < 0) = true := by decide
      rw [e0]; rfl
  | some i =>
    obtain ⟨hi, hp, _⟩ := List.findIdx?_eq_some_iff_getElem.1 hf
    have hfi : findIx g.files o.name = (i : Int) := by simp only [findIx, hf]
    have hnm : (g.files.getD i default).name.toList = o.name.toList := by
      have e : g.files.getD i default = g.files[i] := by simp [List.getD_eq_getElem?_getD, hi]
      rw [e]; simpa using hp
    have e0 : decide ((i : Int) ≥ 0) = true := decide_eq_true (by omega)
    have e1 : decide ((i : Int) < 0) = false := decide_eq_false (by omega)
    have hset : ∀ y : File, y.name = (g.files.getD i default).name → withF g.files o.name y = g.files.set i y := by
      intro y hy
      have hy' : y.name.toList = o.name.toList := by rw [hy]; exact hnm
      rw [withF_eq]
      have : (y.name.toList == (⟨#[]⟩ : ByteArray).toList) = false := by rw [hy']; exact hne
      rw [this, if_neg (by decide)]
      exact wrec_set hy' hs hi hnm
    cases h1 : (o.kind == 1) with
    | true => simp only [opI, doF, h1, if_true, createF, hf, hfi, e0]
    | false =>
      simp only [opI, doF, h1, if_false, hf, hfi, e1, Bool.false_eq_true, Int.toNat_natCast]
      cases h2 : (o.kind == 2) with
      | true =>
        simp only [if_true]
        by_cases hlt : g.cap - (dataSum g.files : Int) < o.data.size
        · have a1 : decide ((o.data.size : Int) > g.cap - dataSum g.files) = true := decide_eq_true hlt
          have a2 : decide (g.cap - (dataSum g.files : Int) < o.data.size) = true := decide_eq_true hlt
          simp only [hlt, if_true, a1]
          rw [hset]
          · simp
          · rfl
        · have a1 : decide ((o.data.size : Int) > g.cap - dataSum g.files) = false := decide_eq_false hlt
          simp only [hlt, if_false, a1, Bool.false_eq_true, Int.toNat_natCast]
          have : o.data.extract 0 o.data.size = o.data := ByteArray.extract_zero_size
          rw [this]
          have e8 : ¬ ((o.data.size : Int) < o.data.size) := by omega
          simp only [e8, decide_false, Bool.false_eq_true, if_false]
          rw [hset]
          rfl
      | false =>
        simp only [if_false, Bool.false_eq_true]
        cases h3 : (o.kind == 3) with
        | true => simp only [if_true]; rw [hset]; rfl
        | false =>
          simp only [if_false, Bool.false_eq_true]
          cases h4 : (o.kind == 4) with
          | true =>
            simp only [if_true]
            cases hb : (!(btw o.size 0 (g.files.getD i default).data.size)) with
            | true => simp
            | false => simp only [if_false, Bool.false_eq_true]; rw [hset]; rfl
          | false =>
            simp only [if_false, Bool.false_eq_true]
            have h5 : (o.kind == 5) = true := by simp [btw] at hk h1 h2 h3 h4 ⊢; omega
            simp only [h5, if_true]
            rw [withF_eq]
            have : ((⟨noText, noText, 0⟩ : File).name.toList == (⟨#[]⟩ : ByteArray).toList) = true := by simp
            rw [if_pos this]
            rfl

theorem step_same {f : Fs} {o : Fop} (h : stepOk f o = true) : doI f o = ({ files := (stepF f o).1, cap := f.cap, count := (stepF f o).2.1, crashAt := f.crashAt, failAt := f.failAt, down := (stepF f o).2.2.1 }, (stepF f o).2.2.2) := by
  simp only [stepOk, Bool.and_eq_true] at h
  obtain ⟨⟨hv, hk⟩, hn⟩ := h
  obtain ⟨b1, b2, b3, b4, b5, b6⟩ := validF_bounds f hv
  have hop := opI_eq { f with count := f.count + 1 } o (show SortedF f.files from validF_sorted hv) (show Absent f.files noText from validF_names hv) b1 hk hn b4
  cases h1 : f.down with
  | true =>
    have a : tickF f = (f, 11) := by simp only [tickF, h1, if_true]
    simp only [doI, a, stepF, h1, if_true]
    obtain ⟨files, cap, count, crashAt, failAt, down⟩ := f
    simp at h1; subst h1
    rfl
  | false =>
    cases h2 : (f.count == 1000000000000000) with
    | true =>
      have a : tickF f = (f, 12) := by simp only [tickF, h1, h2, if_true, if_false, Bool.false_eq_true]
      simp only [doI, a, stepF, h1, h2, if_true, if_false, Bool.false_eq_true]
      obtain ⟨files, cap, count, crashAt, failAt, down⟩ := f
      simp at h1; subst h1
      rfl
    | false =>
      cases h3 : ((f.crashAt != 0) && (f.count + 1 == f.crashAt)) with
      | true =>
        have a : tickF f = ({ f with count := f.count + 1, down := true }, 11) := by simp only [tickF, h1, h2, h3, if_true, if_false, Bool.false_eq_true]
        simp only [doI, a, stepF, h1, h2, h3, if_true, if_false, Bool.false_eq_true]
        rfl
      | false =>
        cases h4 : ((f.failAt != 0) && (f.count + 1 == f.failAt)) with
        | true =>
          have a : tickF f = ({ f with count := f.count + 1 }, 12) := by simp only [tickF, h1, h2, h3, h4, if_true, if_false, Bool.false_eq_true]
          simp only [doI, a, stepF, h1, h2, h3, h4, if_true, if_false, Bool.false_eq_true]
          rfl
        | false =>
          have a : tickF f = ({ f with count := f.count + 1 }, 0) := by simp only [tickF, h1, h2, h3, h4, if_true, if_false, Bool.false_eq_true]
          simp only [doI, a, stepF, h1, h2, h3, h4, if_true, if_false, Bool.false_eq_true]
          have z : ((0 : Int) != 0) = false := rfl
          rw [z, if_neg (by decide)]
          rw [h1] at hop
          exact hop
end Go.Proofs.Try
