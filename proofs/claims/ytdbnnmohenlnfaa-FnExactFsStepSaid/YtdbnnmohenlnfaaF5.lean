/- The reference's step of a file system. -/
import Derived.Test.YtdbnnmohenlnfaaF4
namespace Go.Proofs.Try
open Go Go.Sym
set_option linter.unusedVariables false
set_option linter.unusedSimpArgs false
set_option maxHeartbeats 8000000

structure Fop where
  kind : Int
  name : ByteArray
  data : ByteArray
  size : Int
def Fop.enc (o : Fop) : List V := [scI o.kind, scS o.name, scS o.data, scI o.size]
abbrev noText : ByteArray := ⟨#[]⟩

theorem findIx_cases (fs : List File) (name : ByteArray) : (∃ i, i < fs.length ∧ findIx fs name = (i : Int)) ∨ findIx fs name = -1 := by
  unfold findIx
  cases h : fs.findIdx? (fun f => f.name.toList == name.toList) with
  | none => exact .inr rfl
  | some i => exact .inl ⟨i, (List.findIdx?_eq_some_iff_getElem.1 h).1, rfl⟩
theorem data_le (fs : List File) (i : Nat) : (fs.getD i default).data.size ≤ dataSum fs := by
  by_cases h : i < fs.length
  · have h1 := dataSum_succ fs i h
    have h2 := dataSum_le fs (i + 1)
    omega
  · have : fs.getD i default = default := by simp [List.getD_eq_getElem?_getD, Nat.le_of_not_lt h]
    rw [this]; exact Nat.zero_le _

/-- The operation itself: the files then, and the code. -/
def doF (f : Fs) (o : Fop) : List File × Int :=
  if (o.kind == 1) = true then
    if decide (findIx f.files o.name ≥ 0) = true then (f.files, 15)
    else if ((f.files.length : Int) == 300) = true then (f.files, 13)
    else (withF f.files noText ⟨o.name, noText, 0⟩, 0)
  else if decide (findIx f.files o.name < 0) = true then (f.files, 14)
  else
    let g := f.files.getD (findIx f.files o.name).toNat default
    if (o.kind == 2) = true then
      if decide ((o.data.size : Int) > f.cap - dataSum f.files) = true then (withF f.files o.name { g with data := g.data ++ o.data.extract 0 (f.cap - dataSum f.files).toNat }, 13)
      else (withF f.files o.name { g with data := g.data ++ o.data }, 0)
    else if (o.kind == 3) = true then (withF f.files o.name { g with synced := g.data.size }, 0)
    else if (o.kind == 4) = true then
      if (!(btw o.size 0 g.data.size)) = true then (f.files, 16) else (withF f.files o.name { g with data := g.data.extract 0 o.size.toNat, synced := o.size }, 0)
    else if (o.kind == 5) = true then (withF f.files o.name ⟨noText, noText, 0⟩, 0)
    else (withF f.files o.name g, 0)

theorem files_flat (fs : List File) : ∀ x, x ∈ fs.map File.enc → ∀ v, v ∈ x → v.flat = true := by
  intro x hx v hv
  obtain ⟨f, _, rfl⟩ := List.mem_map.1 hx
  simp only [File.enc, List.mem_cons, List.not_mem_nil, or_false] at hv
  rcases hv with rfl | rfl | rfl <;> rfl

theorem l6Do_spec (f : Fs) (o : Fop) (hl : f.files.length ≤ 1000) (hs : (dataSum f.files : Int) ≤ f.cap) (hc : f.cap ≤ 1000000000) (hd : o.data.size ≤ 1000000000) :
    AC Try.prog 18 [.agg [.row (.a 0) 0 f.files.length, scI f.cap, scI f.count, scI f.crashAt, scI f.failAt, scB f.down], .agg o.enc] [(.a 0, .row 3 (f.files.map File.enc))] fun r h =>
      r = .tup [.agg [.row (.r 0) 0 (doF f o).1.length, scI f.cap, scI f.count, scI f.crashAt, scI f.failAt, scB f.down], scI (doF f o).2] ∧ h = [(.r 0, .row 3 ((doF f o).1.map File.enc))] := by
  refine AC.of_body (T := tab) (fn := Try.f18) (rs := [.cell 4 31, .tmp 5]) (N := 110) Try.func18 rfl rfl rfl (by simp) ?_
  have hF := l6Find_spec f.files o.name (scI f.cap) (scI f.count) (scI f.crashAt) (scI f.failAt) (scB f.down) (by omega)
  repeat (first | refine ⟨rfl, ?_⟩ | refine ⟨trivial, ?_⟩ | refine Br.pos (by assumption) ?_ | refine Br.neg (by assumption) ?_ | refine Br.pos rfl ?_ | refine Br.neg rfl ?_ | refine Br.pos (decide_eq_true (by omega)) ?_ | refine Br.neg (decide_eq_false (by omega)) ?_ | refine ⟨⟨by first | exact Nat.le_of_ble_eq_true rfl | omega | (simp; done) | (simp; omega)⟩, ?_⟩)
  rcases findIx_cases f.files o.name with ⟨i, hi, hfi⟩ | hfi
  · rw [hfi] at hF
    have h0 : decide ((i : Int) ≥ 0) = true := decide_eq_true (by omega)
    have h0' : decide ((i : Int) < 0) = false := decide_eq_false (by omega)
    have e : (f.files.map File.enc).getD (0 + (i : Int).toNat) [] = File.enc (f.files.getD i default) := by rw [Nat.zero_add]; exact getD_map_enc _ _ _ hi
    have hg := data_le f.files i
    refine CallS.valO hF rfl (lend_cons (.agg rfl (lend_cons (Lend.rowAll rfl (by simp)) (lend_same rfl))) (lend_cons (.same rfl) lend_nil)) rfl ?_
    repeat (first | refine ⟨rfl, ?_⟩ | refine ⟨trivial, ?_⟩ | refine Br.pos (by assumption) ?_ | refine Br.neg (by assumption) ?_ | refine Br.pos rfl ?_ | refine Br.neg rfl ?_ | refine Br.pos (decide_eq_true (by omega)) ?_ | refine Br.neg (decide_eq_false (by omega)) ?_ | refine ⟨⟨by first | exact Nat.le_of_ble_eq_true rfl | omega | (simp; done) | (simp; omega)⟩, ?_⟩)
    refine Br.mk (fun h1 => ?_) (fun h1 => ?_)
    · have hv : doF f o = (f.files, 15) := by simp only [doF, hfi, h1, h0, if_true, if_false, Bool.false_eq_true, Int.toNat_natCast]
      rw [hv]
      repeat (first | refine ⟨rfl, ?_⟩ | refine ⟨trivial, ?_⟩ | refine Br.pos (by assumption) ?_ | refine Br.neg (by assumption) ?_ | refine Br.pos rfl ?_ | refine Br.neg rfl ?_ | refine Br.pos (decide_eq_true (by omega)) ?_ | refine Br.neg (decide_eq_false (by omega)) ?_ | refine ⟨⟨by first | exact Nat.le_of_ble_eq_true rfl | omega | (simp; done) | (simp; omega)⟩, ?_⟩)
      refine ⟨_, Ent.trans (Ent.mv (.a 0) (.r 0) rfl (by decide)) (Ent.to [.r 0] (s' := { ts := [(0, .tup [.agg [.row (.r 0) 0 f.files.length, scI f.cap, scI f.count, scI f.crashAt, scI f.failAt, scB f.down], scI 15])], hs := [(.r 0, .row 3 (f.files.map File.enc))] }) rfl ⟨rfl, trivial⟩), rfl, rfl⟩
    repeat (first | refine ⟨rfl, ?_⟩ | refine ⟨trivial, ?_⟩ | refine Br.pos (by assumption) ?_ | refine Br.neg (by assumption) ?_ | refine Br.pos rfl ?_ | refine Br.neg rfl ?_ | refine Br.pos (decide_eq_true (by omega)) ?_ | refine Br.neg (decide_eq_false (by omega)) ?_ | refine ⟨⟨by first | exact Nat.le_of_ble_eq_true rfl | omega | (simp; done) | (simp; omega)⟩, ?_⟩ | rw [e])
    refine Br.mk (fun h2 => ?_) (fun h2 => ?_)
    · have e1 : IntKind.wrap .i64 (f.cap - (dataSum f.files : Int)) = f.cap - dataSum f.files := wrap64_id _ (by omega) (by omega)
      repeat (first | refine ⟨rfl, ?_⟩ | refine ⟨trivial, ?_⟩ | refine Br.pos (by assumption) ?_ | refine Br.neg (by assumption) ?_ | refine Br.pos rfl ?_ | refine Br.neg rfl ?_ | refine Br.pos (decide_eq_true (by omega)) ?_ | refine Br.neg (decide_eq_false (by omega)) ?_ | refine ⟨⟨by first | exact Nat.le_of_ble_eq_true rfl | omega | (simp; done) | (simp; omega)⟩, ?_⟩)
      refine DrawK.plan (T := tab) [] (.look 0 [0, 1, 4, 5] (.look 1 [1, 4, 5] (.look 2 [2, 3, 4, 5] (.all [(3, .look 4 [4, 5] (.look 5 [5] (.done)))])))) mixed (by decide +kernel) ?_
      repeat (first | refine ⟨rfl, ?_⟩ | refine ⟨trivial, ?_⟩ | refine Br.pos (by assumption) ?_ | refine Br.neg (by assumption) ?_ | refine Br.pos rfl ?_ | refine Br.neg rfl ?_ | refine Br.pos (decide_eq_true (by omega)) ?_ | refine Br.neg (decide_eq_false (by omega)) ?_ | refine ⟨⟨by first | exact Nat.le_of_ble_eq_true rfl | omega | (simp; done) | (simp; omega)⟩, ?_⟩)
      refine CallS.valO (l6Bytes_spec f.files _ _ _ _ _ (by omega) (by omega) rfl) rfl (lend_cons (.agg rfl (lend_cons (Lend.rowAll rfl (by simp)) (lend_same rfl))) lend_nil) rfl ?_
      repeat (first | refine ⟨rfl, ?_⟩ | refine ⟨trivial, ?_⟩ | refine Br.pos (by assumption) ?_ | refine Br.neg (by assumption) ?_ | refine Br.pos rfl ?_ | refine Br.neg rfl ?_ | refine Br.pos (decide_eq_true (by omega)) ?_ | refine Br.neg (decide_eq_false (by omega)) ?_ | refine ⟨⟨by first | exact Nat.le_of_ble_eq_true rfl | omega | (simp; done) | (simp; omega)⟩, ?_⟩ | rw [e1])
      refine Br.mk (fun h3 => ?_) (fun h3 => ?_)
      · have hv : doF f o = ((withF f.files o.name { (f.files.getD i default) with data := (f.files.getD i default).data ++ o.data.extract 0 (f.cap - dataSum f.files).toNat }), 13) := by simp only [doF, hfi, h0', h1, h2, h3, if_true, if_false, Bool.false_eq_true, Int.toNat_natCast]
        rw [hv]
        have h3' := of_decide_eq_true h3
        have hx : (o.data.extract 0 (f.cap - dataSum f.files).toNat).size ≤ 1000000000 := by simp; omega
        repeat (first | refine ⟨rfl, ?_⟩ | refine ⟨trivial, ?_⟩ | refine Br.pos (by assumption) ?_ | refine Br.neg (by assumption) ?_ | refine Br.pos rfl ?_ | refine Br.neg rfl ?_ | refine Br.pos (decide_eq_true (by omega)) ?_ | refine Br.neg (decide_eq_false (by omega)) ?_ | refine ⟨⟨by first | exact Nat.le_of_ble_eq_true rfl | omega | (simp; done) | (simp; omega)⟩, ?_⟩)
        refine CallS.row1 true 1 (l6With_spec f.files o.name { (f.files.getD i default) with data := (f.files.getD i default).data ++ o.data.extract 0 (f.cap - dataSum f.files).toNat } (by omega)) rfl (lend_cons (Lend.rowAll rfl (by simp)) (lend_cons (.same rfl) (lend_cons (.same rfl) lend_nil))) (fun _ => ⟨rfl, files_flat _⟩) rfl ?_
        repeat (first | refine ⟨rfl, ?_⟩ | refine ⟨trivial, ?_⟩ | refine Br.pos (by assumption) ?_ | refine Br.neg (by assumption) ?_ | refine Br.pos rfl ?_ | refine Br.neg rfl ?_ | refine Br.pos (decide_eq_true (by omega)) ?_ | refine Br.neg (decide_eq_false (by omega)) ?_ | refine ⟨⟨by first | exact Nat.le_of_ble_eq_true rfl | omega | (simp; done) | (simp; omega)⟩, ?_⟩)
        refine ⟨_, Ent.trans (Ent.mv (.c 1 0) (.r 0) rfl (by decide)) (Ent.to [.r 0] (s' := { ts := [(0, .tup [.agg [.row (.r 0) 0 (withF f.files o.name { (f.files.getD i default) with data := (f.files.getD i default).data ++ o.data.extract 0 (f.cap - dataSum f.files).toNat }).length, scI f.cap, scI f.count, scI f.crashAt, scI f.failAt, scB f.down], scI 13])], hs := [(.r 0, .row 3 ((withF f.files o.name { (f.files.getD i default) with data := (f.files.getD i default).data ++ o.data.extract 0 (f.cap - dataSum f.files).toNat }).map File.enc))] }) rfl ⟨rfl, trivial⟩), rfl, rfl⟩
      · have hv : doF f o = ((withF f.files o.name { (f.files.getD i default) with data := (f.files.getD i default).data ++ o.data }), 0) := by simp only [doF, hfi, h0', h1, h2, h3, if_true, if_false, Bool.false_eq_true, Int.toNat_natCast]
        rw [hv]
        repeat (first | refine ⟨rfl, ?_⟩ | refine ⟨trivial, ?_⟩ | refine Br.pos (by assumption) ?_ | refine Br.neg (by assumption) ?_ | refine Br.pos rfl ?_ | refine Br.neg rfl ?_ | refine Br.pos (decide_eq_true (by omega)) ?_ | refine Br.neg (decide_eq_false (by omega)) ?_ | refine ⟨⟨by first | exact Nat.le_of_ble_eq_true rfl | omega | (simp; done) | (simp; omega)⟩, ?_⟩)
        refine CallS.row1 true 1 (l6With_spec f.files o.name { (f.files.getD i default) with data := (f.files.getD i default).data ++ o.data } (by omega)) rfl (lend_cons (Lend.rowAll rfl (by simp)) (lend_cons (.same rfl) (lend_cons (.same rfl) lend_nil))) (fun _ => ⟨rfl, files_flat _⟩) rfl ?_
        repeat (first | refine ⟨rfl, ?_⟩ | refine ⟨trivial, ?_⟩ | refine Br.pos (by assumption) ?_ | refine Br.neg (by assumption) ?_ | refine Br.pos rfl ?_ | refine Br.neg rfl ?_ | refine Br.pos (decide_eq_true (by omega)) ?_ | refine Br.neg (decide_eq_false (by omega)) ?_ | refine ⟨⟨by first | exact Nat.le_of_ble_eq_true rfl | omega | (simp; done) | (simp; omega)⟩, ?_⟩)
        refine ⟨_, Ent.trans (Ent.mv (.c 1 0) (.r 0) rfl (by decide)) (Ent.to [.r 0] (s' := { ts := [(0, .tup [.agg [.row (.r 0) 0 (withF f.files o.name { (f.files.getD i default) with data := (f.files.getD i default).data ++ o.data }).length, scI f.cap, scI f.count, scI f.crashAt, scI f.failAt, scB f.down], scI 0])], hs := [(.r 0, .row 3 ((withF f.files o.name { (f.files.getD i default) with data := (f.files.getD i default).data ++ o.data }).map File.enc))] }) rfl ⟨rfl, trivial⟩), rfl, rfl⟩
    repeat (first | refine ⟨rfl, ?_⟩ | refine ⟨trivial, ?_⟩ | refine Br.pos (by assumption) ?_ | refine Br.neg (by assumption) ?_ | refine Br.pos rfl ?_ | refine Br.neg rfl ?_ | refine Br.pos (decide_eq_true (by omega)) ?_ | refine Br.neg (decide_eq_false (by omega)) ?_ | refine ⟨⟨by first | exact Nat.le_of_ble_eq_true rfl | omega | (simp; done) | (simp; omega)⟩, ?_⟩)
    refine Br.mk (fun h3 => ?_) (fun h3 => ?_)
    · have hv : doF f o = ((withF f.files o.name { (f.files.getD i default) with synced := (f.files.getD i default).data.size }), 0) := by simp only [doF, hfi, h0', h1, h2, h3, if_true, if_false, Bool.false_eq_true, Int.toNat_natCast]
      rw [hv]
      repeat (first | refine ⟨rfl, ?_⟩ | refine ⟨trivial, ?_⟩ | refine Br.pos (by assumption) ?_ | refine Br.neg (by assumption) ?_ | refine Br.pos rfl ?_ | refine Br.neg rfl ?_ | refine Br.pos (decide_eq_true (by omega)) ?_ | refine Br.neg (decide_eq_false (by omega)) ?_ | refine ⟨⟨by first | exact Nat.le_of_ble_eq_true rfl | omega | (simp; done) | (simp; omega)⟩, ?_⟩)
      refine CallS.row1 true 1 (l6With_spec f.files o.name { (f.files.getD i default) with synced := (f.files.getD i default).data.size } (by omega)) rfl (lend_cons (Lend.rowAll rfl (by simp)) (lend_cons (.same rfl) (lend_cons (.same rfl) lend_nil))) (fun _ => ⟨rfl, files_flat _⟩) rfl ?_
      repeat (first | refine ⟨rfl, ?_⟩ | refine ⟨trivial, ?_⟩ | refine Br.pos (by assumption) ?_ | refine Br.neg (by assumption) ?_ | refine Br.pos rfl ?_ | refine Br.neg rfl ?_ | refine Br.pos (decide_eq_true (by omega)) ?_ | refine Br.neg (decide_eq_false (by omega)) ?_ | refine ⟨⟨by first | exact Nat.le_of_ble_eq_true rfl | omega | (simp; done) | (simp; omega)⟩, ?_⟩)
      refine ⟨_, Ent.trans (Ent.mv (.c 1 0) (.r 0) rfl (by decide)) (Ent.to [.r 0] (s' := { ts := [(0, .tup [.agg [.row (.r 0) 0 (withF f.files o.name { (f.files.getD i default) with synced := (f.files.getD i default).data.size }).length, scI f.cap, scI f.count, scI f.crashAt, scI f.failAt, scB f.down], scI 0])], hs := [(.r 0, .row 3 ((withF f.files o.name { (f.files.getD i default) with synced := (f.files.getD i default).data.size }).map File.enc))] }) rfl ⟨rfl, trivial⟩), rfl, rfl⟩
    repeat (first | refine ⟨rfl, ?_⟩ | refine ⟨trivial, ?_⟩ | refine Br.pos (by assumption) ?_ | refine Br.neg (by assumption) ?_ | refine Br.pos rfl ?_ | refine Br.neg rfl ?_ | refine Br.pos (decide_eq_true (by omega)) ?_ | refine Br.neg (decide_eq_false (by omega)) ?_ | refine ⟨⟨by first | exact Nat.le_of_ble_eq_true rfl | omega | (simp; done) | (simp; omega)⟩, ?_⟩)
    refine Br.mk (fun h4 => ?_) (fun h4 => ?_)
    · repeat (first | refine ⟨rfl, ?_⟩ | refine ⟨trivial, ?_⟩ | refine Br.pos (by assumption) ?_ | refine Br.neg (by assumption) ?_ | refine Br.pos rfl ?_ | refine Br.neg rfl ?_ | refine Br.pos (decide_eq_true (by omega)) ?_ | refine Br.neg (decide_eq_false (by omega)) ?_ | refine ⟨⟨by first | exact Nat.le_of_ble_eq_true rfl | omega | (simp; done) | (simp; omega)⟩, ?_⟩)
      refine CallS.val (l1Between_spec _ _ _) rfl ?_
      repeat (first | refine ⟨rfl, ?_⟩ | refine ⟨trivial, ?_⟩ | refine Br.pos (by assumption) ?_ | refine Br.neg (by assumption) ?_ | refine Br.pos rfl ?_ | refine Br.neg rfl ?_ | refine Br.pos (decide_eq_true (by omega)) ?_ | refine Br.neg (decide_eq_false (by omega)) ?_ | refine ⟨⟨by first | exact Nat.le_of_ble_eq_true rfl | omega | (simp; done) | (simp; omega)⟩, ?_⟩)
      refine Br.mk (fun h5 => ?_) (fun h5 => ?_)
      · have hv : doF f o = (f.files, 16) := by simp only [doF, hfi, h0', h1, h2, h3, h4, btw, h5, if_true, if_false, Bool.false_eq_true, Int.toNat_natCast]
        rw [hv]
        repeat (first | refine ⟨rfl, ?_⟩ | refine ⟨trivial, ?_⟩ | refine Br.pos (by assumption) ?_ | refine Br.neg (by assumption) ?_ | refine Br.pos rfl ?_ | refine Br.neg rfl ?_ | refine Br.pos (decide_eq_true (by omega)) ?_ | refine Br.neg (decide_eq_false (by omega)) ?_ | refine ⟨⟨by first | exact Nat.le_of_ble_eq_true rfl | omega | (simp; done) | (simp; omega)⟩, ?_⟩)
        refine ⟨_, Ent.trans (Ent.mv (.a 0) (.r 0) rfl (by decide)) (Ent.to [.r 0] (s' := { ts := [(0, .tup [.agg [.row (.r 0) 0 f.files.length, scI f.cap, scI f.count, scI f.crashAt, scI f.failAt, scB f.down], scI 16])], hs := [(.r 0, .row 3 (f.files.map File.enc))] }) rfl ⟨rfl, trivial⟩), rfl, rfl⟩
      · have h5' : 0 ≤ o.size ∧ o.size ≤ (f.files.getD i default).data.size := by simp at h5 ⊢; omega
        have hv : doF f o = ((withF f.files o.name { (f.files.getD i default) with data := (f.files.getD i default).data.extract 0 o.size.toNat, synced := o.size }), 0) := by simp only [doF, hfi, h0', h1, h2, h3, h4, btw, h5, if_true, if_false, Bool.false_eq_true, Int.toNat_natCast]
        rw [hv]
        repeat (first | refine ⟨rfl, ?_⟩ | refine ⟨trivial, ?_⟩ | refine Br.pos (by assumption) ?_ | refine Br.neg (by assumption) ?_ | refine Br.pos rfl ?_ | refine Br.neg rfl ?_ | refine Br.pos (decide_eq_true (by omega)) ?_ | refine Br.neg (decide_eq_false (by omega)) ?_ | refine ⟨⟨by first | exact Nat.le_of_ble_eq_true rfl | omega | (simp; done) | (simp; omega)⟩, ?_⟩)
        refine CallS.row1 true 1 (l6With_spec f.files o.name { (f.files.getD i default) with data := (f.files.getD i default).data.extract 0 o.size.toNat, synced := o.size } (by omega)) rfl (lend_cons (Lend.rowAll rfl (by simp)) (lend_cons (.same rfl) (lend_cons (.same rfl) lend_nil))) (fun _ => ⟨rfl, files_flat _⟩) rfl ?_
        repeat (first | refine ⟨rfl, ?_⟩ | refine ⟨trivial, ?_⟩ | refine Br.pos (by assumption) ?_ | refine Br.neg (by assumption) ?_ | refine Br.pos rfl ?_ | refine Br.neg rfl ?_ | refine Br.pos (decide_eq_true (by omega)) ?_ | refine Br.neg (decide_eq_false (by omega)) ?_ | refine ⟨⟨by first | exact Nat.le_of_ble_eq_true rfl | omega | (simp; done) | (simp; omega)⟩, ?_⟩)
        refine ⟨_, Ent.trans (Ent.mv (.c 1 0) (.r 0) rfl (by decide)) (Ent.to [.r 0] (s' := { ts := [(0, .tup [.agg [.row (.r 0) 0 (withF f.files o.name { (f.files.getD i default) with data := (f.files.getD i default).data.extract 0 o.size.toNat, synced := o.size }).length, scI f.cap, scI f.count, scI f.crashAt, scI f.failAt, scB f.down], scI 0])], hs := [(.r 0, .row 3 ((withF f.files o.name { (f.files.getD i default) with data := (f.files.getD i default).data.extract 0 o.size.toNat, synced := o.size }).map File.enc))] }) rfl ⟨rfl, trivial⟩), rfl, rfl⟩
    repeat (first | refine ⟨rfl, ?_⟩ | refine ⟨trivial, ?_⟩ | refine Br.pos (by assumption) ?_ | refine Br.neg (by assumption) ?_ | refine Br.pos rfl ?_ | refine Br.neg rfl ?_ | refine Br.pos (decide_eq_true (by omega)) ?_ | refine Br.neg (decide_eq_false (by omega)) ?_ | refine ⟨⟨by first | exact Nat.le_of_ble_eq_true rfl | omega | (simp; done) | (simp; omega)⟩, ?_⟩)
    refine Br.mk (fun h5 => ?_) (fun h5 => ?_)
    · have hv : doF f o = ((withF f.files o.name ⟨noText, noText, 0⟩), 0) := by simp only [doF, hfi, h0', h1, h2, h3, h4, h5, if_true, if_false, Bool.false_eq_true, Int.toNat_natCast]
      rw [hv]
      repeat (first | refine ⟨rfl, ?_⟩ | refine ⟨trivial, ?_⟩ | refine Br.pos (by assumption) ?_ | refine Br.neg (by assumption) ?_ | refine Br.pos rfl ?_ | refine Br.neg rfl ?_ | refine Br.pos (decide_eq_true (by omega)) ?_ | refine Br.neg (decide_eq_false (by omega)) ?_ | refine ⟨⟨by first | exact Nat.le_of_ble_eq_true rfl | omega | (simp; done) | (simp; omega)⟩, ?_⟩)
      refine CallS.row1 true 1 (l6With_spec f.files o.name ⟨noText, noText, 0⟩ (by omega)) rfl (lend_cons (Lend.rowAll rfl (by simp)) (lend_cons (.same rfl) (lend_cons (.same rfl) lend_nil))) (fun _ => ⟨rfl, files_flat _⟩) rfl ?_
      repeat (first | refine ⟨rfl, ?_⟩ | refine ⟨trivial, ?_⟩ | refine Br.pos (by assumption) ?_ | refine Br.neg (by assumption) ?_ | refine Br.pos rfl ?_ | refine Br.neg rfl ?_ | refine Br.pos (decide_eq_true (by omega)) ?_ | refine Br.neg (decide_eq_false (by omega)) ?_ | refine ⟨⟨by first | exact Nat.le_of_ble_eq_true rfl | omega | (simp; done) | (simp; omega)⟩, ?_⟩)
      refine ⟨_, Ent.trans (Ent.mv (.c 1 0) (.r 0) rfl (by decide)) (Ent.to [.r 0] (s' := { ts := [(0, .tup [.agg [.row (.r 0) 0 (withF f.files o.name ⟨noText, noText, 0⟩).length, scI f.cap, scI f.count, scI f.crashAt, scI f.failAt, scB f.down], scI 0])], hs := [(.r 0, .row 3 ((withF f.files o.name ⟨noText, noText, 0⟩).map File.enc))] }) rfl ⟨rfl, trivial⟩), rfl, rfl⟩
    · have hv : doF f o = ((withF f.files o.name (f.files.getD i default)), 0) := by simp only [doF, hfi, h0', h1, h2, h3, h4, h5, if_true, if_false, Bool.false_eq_true, Int.toNat_natCast]
      rw [hv]
      repeat (first | refine ⟨rfl, ?_⟩ | refine ⟨trivial, ?_⟩ | refine Br.pos (by assumption) ?_ | refine Br.neg (by assumption) ?_ | refine Br.pos rfl ?_ | refine Br.neg rfl ?_ | refine Br.pos (decide_eq_true (by omega)) ?_ | refine Br.neg (decide_eq_false (by omega)) ?_ | refine ⟨⟨by first | exact Nat.le_of_ble_eq_true rfl | omega | (simp; done) | (simp; omega)⟩, ?_⟩)
      refine CallS.row1 true 1 (l6With_spec f.files o.name (f.files.getD i default) (by omega)) rfl (lend_cons (Lend.rowAll rfl (by simp)) (lend_cons (.same rfl) (lend_cons (.same rfl) lend_nil))) (fun _ => ⟨rfl, files_flat _⟩) rfl ?_
      repeat (first | refine ⟨rfl, ?_⟩ | refine ⟨trivial, ?_⟩ | refine Br.pos (by assumption) ?_ | refine Br.neg (by assumption) ?_ | refine Br.pos rfl ?_ | refine Br.neg rfl ?_ | refine Br.pos (decide_eq_true (by omega)) ?_ | refine Br.neg (decide_eq_false (by omega)) ?_ | refine ⟨⟨by first | exact Nat.le_of_ble_eq_true rfl | omega | (simp; done) | (simp; omega)⟩, ?_⟩)
      refine ⟨_, Ent.trans (Ent.mv (.c 1 0) (.r 0) rfl (by decide)) (Ent.to [.r 0] (s' := { ts := [(0, .tup [.agg [.row (.r 0) 0 (withF f.files o.name (f.files.getD i default)).length, scI f.cap, scI f.count, scI f.crashAt, scI f.failAt, scB f.down], scI 0])], hs := [(.r 0, .row 3 ((withF f.files o.name (f.files.getD i default)).map File.enc))] }) rfl ⟨rfl, trivial⟩), rfl, rfl⟩
  · rw [hfi] at hF
    have h0 : decide ((-1 : Int) ≥ 0) = false := by decide
    have h0' : decide ((-1 : Int) < 0) = true := by decide
    refine CallS.valO hF rfl (lend_cons (.agg rfl (lend_cons (Lend.rowAll rfl (by simp)) (lend_same rfl))) (lend_cons (.same rfl) lend_nil)) rfl ?_
    repeat (first | refine ⟨rfl, ?_⟩ | refine ⟨trivial, ?_⟩ | refine Br.pos (by assumption) ?_ | refine Br.neg (by assumption) ?_ | refine Br.pos rfl ?_ | refine Br.neg rfl ?_ | refine Br.pos (decide_eq_true (by omega)) ?_ | refine Br.neg (decide_eq_false (by omega)) ?_ | refine ⟨⟨by first | exact Nat.le_of_ble_eq_true rfl | omega | (simp; done) | (simp; omega)⟩, ?_⟩)
    refine Br.mk (fun h1 => ?_) (fun h1 => ?_)
    · repeat (first | refine ⟨rfl, ?_⟩ | refine ⟨trivial, ?_⟩ | refine Br.pos (by assumption) ?_ | refine Br.neg (by assumption) ?_ | refine Br.pos rfl ?_ | refine Br.neg rfl ?_ | refine Br.pos (decide_eq_true (by omega)) ?_ | refine Br.neg (decide_eq_false (by omega)) ?_ | refine ⟨⟨by first | exact Nat.le_of_ble_eq_true rfl | omega | (simp; done) | (simp; omega)⟩, ?_⟩)
      refine Br.mk (fun h2 => ?_) (fun h2 => ?_)
      · have hv : doF f o = (f.files, 13) := by simp only [doF, hfi, h0, h1, h2, if_true, if_false, Bool.false_eq_true, Int.toNat_natCast]
        rw [hv]
        repeat (first | refine ⟨rfl, ?_⟩ | refine ⟨trivial, ?_⟩ | refine Br.pos (by assumption) ?_ | refine Br.neg (by assumption) ?_ | refine Br.pos rfl ?_ | refine Br.neg rfl ?_ | refine Br.pos (decide_eq_true (by omega)) ?_ | refine Br.neg (decide_eq_false (by omega)) ?_ | refine ⟨⟨by first | exact Nat.le_of_ble_eq_true rfl | omega | (simp; done) | (simp; omega)⟩, ?_⟩)
        refine ⟨_, Ent.trans (Ent.mv (.a 0) (.r 0) rfl (by decide)) (Ent.to [.r 0] (s' := { ts := [(0, .tup [.agg [.row (.r 0) 0 f.files.length, scI f.cap, scI f.count, scI f.crashAt, scI f.failAt, scB f.down], scI 13])], hs := [(.r 0, .row 3 (f.files.map File.enc))] }) rfl ⟨rfl, trivial⟩), rfl, rfl⟩
      · have hv : doF f o = ((withF f.files noText ⟨o.name, noText, 0⟩), 0) := by simp only [doF, hfi, h0, h1, h2, if_true, if_false, Bool.false_eq_true, Int.toNat_natCast]
        rw [hv]
        repeat (first | refine ⟨rfl, ?_⟩ | refine ⟨trivial, ?_⟩ | refine Br.pos (by assumption) ?_ | refine Br.neg (by assumption) ?_ | refine Br.pos rfl ?_ | refine Br.neg rfl ?_ | refine Br.pos (decide_eq_true (by omega)) ?_ | refine Br.neg (decide_eq_false (by omega)) ?_ | refine ⟨⟨by first | exact Nat.le_of_ble_eq_true rfl | omega | (simp; done) | (simp; omega)⟩, ?_⟩)
        refine CallS.row1 true 1 (l6With_spec f.files noText ⟨o.name, noText, 0⟩ (by omega)) rfl (lend_cons (Lend.rowAll rfl (by simp)) (lend_cons (.same rfl) (lend_cons (.same rfl) lend_nil))) (fun _ => ⟨rfl, files_flat _⟩) rfl ?_
        repeat (first | refine ⟨rfl, ?_⟩ | refine ⟨trivial, ?_⟩ | refine Br.pos (by assumption) ?_ | refine Br.neg (by assumption) ?_ | refine Br.pos rfl ?_ | refine Br.neg rfl ?_ | refine Br.pos (decide_eq_true (by omega)) ?_ | refine Br.neg (decide_eq_false (by omega)) ?_ | refine ⟨⟨by first | exact Nat.le_of_ble_eq_true rfl | omega | (simp; done) | (simp; omega)⟩, ?_⟩)
        refine ⟨_, Ent.trans (Ent.mv (.c 1 0) (.r 0) rfl (by decide)) (Ent.to [.r 0] (s' := { ts := [(0, .tup [.agg [.row (.r 0) 0 (withF f.files noText ⟨o.name, noText, 0⟩).length, scI f.cap, scI f.count, scI f.crashAt, scI f.failAt, scB f.down], scI 0])], hs := [(.r 0, .row 3 ((withF f.files noText ⟨o.name, noText, 0⟩).map File.enc))] }) rfl ⟨rfl, trivial⟩), rfl, rfl⟩
    · have hv : doF f o = (f.files, 14) := by simp only [doF, hfi, h0', h1, if_true, if_false, Bool.false_eq_true, Int.toNat_natCast]
      rw [hv]
      repeat (first | refine ⟨rfl, ?_⟩ | refine ⟨trivial, ?_⟩ | refine Br.pos (by assumption) ?_ | refine Br.neg (by assumption) ?_ | refine Br.pos rfl ?_ | refine Br.neg rfl ?_ | refine Br.pos (decide_eq_true (by omega)) ?_ | refine Br.neg (decide_eq_false (by omega)) ?_ | refine ⟨⟨by first | exact Nat.le_of_ble_eq_true rfl | omega | (simp; done) | (simp; omega)⟩, ?_⟩)
      refine ⟨_, Ent.trans (Ent.mv (.a 0) (.r 0) rfl (by decide)) (Ent.to [.r 0] (s' := { ts := [(0, .tup [.agg [.row (.r 0) 0 f.files.length, scI f.cap, scI f.count, scI f.crashAt, scI f.failAt, scB f.down], scI 14])], hs := [(.r 0, .row 3 (f.files.map File.enc))] }) rfl ⟨rfl, trivial⟩), rfl, rfl⟩
end Go.Proofs.Try
