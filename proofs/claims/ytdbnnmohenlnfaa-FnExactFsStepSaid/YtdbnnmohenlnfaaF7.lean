/- The law's helpers: sizes, copies. -/
import Derived.Test.YtdbnnmohenlnfaaF6
namespace Go.Proofs.Try
open Go Go.Sym
set_option linter.unusedVariables false
set_option linter.unusedSimpArgs false
set_option maxHeartbeats 8000000

def szFileF (f : File) (l : Int) : Int := if decide (l - f.name.size < 0) = true then -1 else if decide (l - f.name.size - f.data.size < 0) = true then -1 else l - f.name.size - f.data.size
theorem szFile_spec (f : File) (l : Int) (h0 : 0 ≤ l) (h1 : l ≤ 1048576) (hn : f.name.size ≤ 1000000000000000) (hd : f.data.size ≤ 1000000000000000) :
    AC Try.prog 28 [.agg f.enc, scI l] [] fun r h => r = scI (szFileF f l) ∧ h = [] := by
  refine AC.of_body (T := tab) (fn := Try.f28) (rs := [.tmp 4]) (N := 20) Try.func28 rfl rfl rfl (by simp) ?_
  have e1 : IntKind.wrap .i64 (l - f.name.size) = l - f.name.size := wrap64_id _ (by omega) (by omega)
  have e2 : IntKind.wrap .i64 (l - f.name.size - f.data.size) = l - f.name.size - f.data.size := wrap64_id _ (by omega) (by omega)
  repeat (first | refine ⟨rfl, ?_⟩ | refine ⟨trivial, ?_⟩ | refine Br.pos (by assumption) ?_ | refine Br.neg (by assumption) ?_ | refine Br.pos rfl ?_ | refine Br.neg rfl ?_ | refine Br.pos (decide_eq_true (by omega)) ?_ | refine Br.neg (decide_eq_false (by omega)) ?_ | refine ⟨⟨by first | exact Nat.le_of_ble_eq_true rfl | omega | (simp; done) | (simp; omega)⟩, ?_⟩ | rw [e1] | rw [e2])
  refine Br.mk (fun h2 => ?_) (fun h2 => ?_)
  · repeat (first | refine ⟨rfl, ?_⟩ | refine ⟨trivial, ?_⟩ | refine Br.pos (by assumption) ?_ | refine Br.neg (by assumption) ?_ | refine Br.pos rfl ?_ | refine Br.neg rfl ?_ | refine Br.pos (decide_eq_true (by omega)) ?_ | refine Br.neg (decide_eq_false (by omega)) ?_ | refine ⟨⟨by first | exact Nat.le_of_ble_eq_true rfl | omega | (simp; done) | (simp; omega)⟩, ?_⟩)
    refine ⟨_, Ent.keepK [] _, ?_, rfl⟩
    simp only [szFileF, h2, if_true]; rfl
  repeat (first | refine ⟨rfl, ?_⟩ | refine ⟨trivial, ?_⟩ | refine Br.pos (by assumption) ?_ | refine Br.neg (by assumption) ?_ | refine Br.pos rfl ?_ | refine Br.neg rfl ?_ | refine Br.pos (decide_eq_true (by omega)) ?_ | refine Br.neg (decide_eq_false (by omega)) ?_ | refine ⟨⟨by first | exact Nat.le_of_ble_eq_true rfl | omega | (simp; done) | (simp; omega)⟩, ?_⟩ | rw [e1] | rw [e2])
  refine Br.mk (fun h3 => ?_) (fun h3 => ?_)
  · repeat (first | refine ⟨rfl, ?_⟩ | refine ⟨trivial, ?_⟩ | refine Br.pos (by assumption) ?_ | refine Br.neg (by assumption) ?_ | refine Br.pos rfl ?_ | refine Br.neg rfl ?_ | refine Br.pos (decide_eq_true (by omega)) ?_ | refine Br.neg (decide_eq_false (by omega)) ?_ | refine ⟨⟨by first | exact Nat.le_of_ble_eq_true rfl | omega | (simp; done) | (simp; omega)⟩, ?_⟩)
    refine ⟨_, Ent.keepK [] _, ?_, rfl⟩
    simp only [szFileF, h2, h3, if_true, if_false, Bool.false_eq_true]; rfl
  repeat (first | refine ⟨rfl, ?_⟩ | refine ⟨trivial, ?_⟩ | refine Br.pos (by assumption) ?_ | refine Br.neg (by assumption) ?_ | refine Br.pos rfl ?_ | refine Br.neg rfl ?_ | refine Br.pos (decide_eq_true (by omega)) ?_ | refine Br.neg (decide_eq_false (by omega)) ?_ | refine ⟨⟨by first | exact Nat.le_of_ble_eq_true rfl | omega | (simp; done) | (simp; omega)⟩, ?_⟩)
  refine ⟨_, Ent.keepK [] _, ?_, rfl⟩
  simp only [szFileF, h2, h3, if_true, if_false, Bool.false_eq_true]; rfl

def szGo : List File → Int → Int
  | [], l => l
  | f :: r, l => if decide (szFileF f l < 0) = true then -1 else szGo r (szFileF f l)
def szFileSF (fs : List File) (l : Int) : Int := if decide (l - fs.length < 0) = true then -1 else szGo fs (l - fs.length)
theorem szFileF_le (f : File) (l : Int) : szFileF f l ≤ l ∨ szFileF f l = -1 := by
  unfold szFileF; split
  · exact .inr rfl
  · split
    · exact .inr rfl
    · left; omega
def small (fs : List File) : Prop := ∀ f, f ∈ fs → f.name.size ≤ 1000000000000000 ∧ f.data.size ≤ 1000000000000000

theorem szFileS_spec (fs : List File) (l : Int) (h0 : 0 ≤ l) (h1 : l ≤ 1048576) (hl : fs.length ≤ 1000000000000000) (hsm : small fs) :
    AC Try.prog 13 [.rd 3 (fs.map File.enc), scI l] [] fun r h => r = scI (szFileSF fs l) ∧ h = [] := by
  refine AC.of_body (T := tab) (fn := Try.f13) (rs := [.tmp 4]) (N := 27) Try.func13 rfl rfl rfl (by simp) ?_
  have e1 : IntKind.wrap .i64 (l - fs.length) = l - fs.length := wrap64_id _ (by omega) (by omega)
  repeat (first | refine ⟨rfl, ?_⟩ | refine ⟨trivial, ?_⟩ | refine Br.pos (by assumption) ?_ | refine Br.neg (by assumption) ?_ | refine Br.pos rfl ?_ | refine Br.neg rfl ?_ | refine Br.pos (decide_eq_true (by omega)) ?_ | refine Br.neg (decide_eq_false (by omega)) ?_ | refine ⟨⟨by first | exact Nat.le_of_ble_eq_true rfl | omega | (simp; done) | (simp; omega)⟩, ?_⟩ | rw [List.length_map] | rw [e1])
  refine Br.mk (fun h2 => ?_) (fun h2 => ?_)
  · repeat (first | refine ⟨rfl, ?_⟩ | refine ⟨trivial, ?_⟩ | refine Br.pos (by assumption) ?_ | refine Br.neg (by assumption) ?_ | refine Br.pos rfl ?_ | refine Br.neg rfl ?_ | refine Br.pos (decide_eq_true (by omega)) ?_ | refine Br.neg (decide_eq_false (by omega)) ?_ | refine ⟨⟨by first | exact Nat.le_of_ble_eq_true rfl | omega | (simp; done) | (simp; omega)⟩, ?_⟩)
    refine ⟨_, Ent.keepK [] _, ?_, rfl⟩
    simp only [szFileSF, h2, if_true]; rfl
  have h2' := of_decide_eq_false h2
  have hv : szFileSF fs l = szGo fs (l - fs.length) := by simp only [szFileSF, h2, if_false, Bool.false_eq_true]
  rw [hv]
  repeat (first | refine ⟨rfl, ?_⟩ | refine ⟨trivial, ?_⟩ | refine Br.pos (by assumption) ?_ | refine Br.neg (by assumption) ?_ | refine Br.pos rfl ?_ | refine Br.neg rfl ?_ | refine Br.pos (decide_eq_true (by omega)) ?_ | refine Br.neg (decide_eq_false (by omega)) ?_ | refine ⟨⟨by first | exact Nat.le_of_ble_eq_true rfl | omega | (simp; done) | (simp; omega)⟩, ?_⟩)
  refine ⟨fun n s => ∃ (i : Nat) (m : Int), i ≤ fs.length ∧ 0 ≤ m ∧ m ≤ 1048576 ∧ szGo (fs.drop i) m = szGo fs (l - fs.length) ∧ n = fs.length - i ∧ s = { ts := [(5, scI i), (1, scI m), (0, .rd 3 (fs.map File.enc))], hs := [] }, fs.length, _, Ent.to [] ?_ ?_, ⟨0, l - fs.length, by omega, by omega, by omega, rfl, rfl, rfl⟩, ?_⟩
  · rfl
  · exact ⟨rfl, rfl, rfl, trivial⟩
  rintro n s ⟨i, m, hi, hm0, hm1, hgo, rfl, rfl⟩
  repeat (first | refine ⟨rfl, ?_⟩ | refine ⟨trivial, ?_⟩ | refine Br.pos (by assumption) ?_ | refine Br.neg (by assumption) ?_ | refine Br.pos rfl ?_ | refine Br.neg rfl ?_ | refine Br.pos (decide_eq_true (by omega)) ?_ | refine Br.neg (decide_eq_false (by omega)) ?_ | refine ⟨⟨by first | exact Nat.le_of_ble_eq_true rfl | omega | (simp; done) | (simp; omega)⟩, ?_⟩ | rw [List.length_map])
  refine Br.mk (fun hc => ?_) (fun hc => ?_)
  · have hc := of_decide_eq_true hc
    have hlt : i < fs.length := by omega
    have e : (fs.map File.enc).getD (i : Int).toNat [] = File.enc (fs.getD i default) := getD_map_enc _ _ _ hlt
    have hmem : fs.getD i default ∈ fs := getD_mem hlt
    have hstep : szGo (fs.drop i) m = if decide (szFileF (fs.getD i default) m < 0) = true then -1 else szGo (fs.drop (i + 1)) (szFileF (fs.getD i default) m) := by
      rw [List.drop_eq_getElem_cons hlt]
      have : fs.getD i default = fs[i] := by simp [List.getD_eq_getElem?_getD, hlt]
      rw [this]; rfl
    have hle := szFileF_le (fs.getD i default) m
    repeat (first | refine ⟨rfl, ?_⟩ | refine ⟨trivial, ?_⟩ | refine Br.pos (by assumption) ?_ | refine Br.neg (by assumption) ?_ | refine Br.pos rfl ?_ | refine Br.neg rfl ?_ | refine Br.pos (decide_eq_true (by omega)) ?_ | refine Br.neg (decide_eq_false (by omega)) ?_ | refine ⟨⟨by first | exact Nat.le_of_ble_eq_true rfl | omega | (simp; done) | (simp; omega)⟩, ?_⟩ | rw [e])
    refine CallS.val (szFile_spec (fs.getD i default) m hm0 hm1 (hsm _ hmem).1 (hsm _ hmem).2) rfl ?_
    repeat (first | refine ⟨rfl, ?_⟩ | refine ⟨trivial, ?_⟩ | refine Br.pos (by assumption) ?_ | refine Br.neg (by assumption) ?_ | refine Br.pos rfl ?_ | refine Br.neg rfl ?_ | refine Br.pos (decide_eq_true (by omega)) ?_ | refine Br.neg (decide_eq_false (by omega)) ?_ | refine ⟨⟨by first | exact Nat.le_of_ble_eq_true rfl | omega | (simp; done) | (simp; omega)⟩, ?_⟩)
    refine Br.mk (fun h3 => ?_) (fun h3 => ?_)
    · repeat (first | refine ⟨rfl, ?_⟩ | refine ⟨trivial, ?_⟩ | refine Br.pos (by assumption) ?_ | refine Br.neg (by assumption) ?_ | refine Br.pos rfl ?_ | refine Br.neg rfl ?_ | refine Br.pos (decide_eq_true (by omega)) ?_ | refine Br.neg (decide_eq_false (by omega)) ?_ | refine ⟨⟨by first | exact Nat.le_of_ble_eq_true rfl | omega | (simp; done) | (simp; omega)⟩, ?_⟩)
      refine ⟨_, Ent.keepK [] _, ?_, rfl⟩
      rw [← hgo, hstep, h3]; rfl
    · have h3' := of_decide_eq_false h3
      repeat (first | refine ⟨rfl, ?_⟩ | refine ⟨trivial, ?_⟩ | refine Br.pos (by assumption) ?_ | refine Br.neg (by assumption) ?_ | refine Br.pos rfl ?_ | refine Br.neg rfl ?_ | refine Br.pos (decide_eq_true (by omega)) ?_ | refine Br.neg (decide_eq_false (by omega)) ?_ | refine ⟨⟨by first | exact Nat.le_of_ble_eq_true rfl | omega | (simp; done) | (simp; omega)⟩, ?_⟩)
      refine ⟨fs.length - (i + 1), _, by omega, Ent.to [] ?_ ?_, i + 1, szFileF (fs.getD i default) m, by omega, by omega, by omega, ?_, rfl, rfl⟩
      · rfl
      · refine ⟨?_, rfl, rfl, trivial⟩
        show scI (IntKind.wrap .i64 ((i : Int) + 1)) = _
        rw [wrap64_id _ (by omega) (by omega)]; rfl
      · rw [← hgo, hstep, h3]; rfl
  · have hc := of_decide_eq_false hc
    repeat (first | refine ⟨rfl, ?_⟩ | refine ⟨trivial, ?_⟩ | refine Br.pos (by assumption) ?_ | refine Br.neg (by assumption) ?_ | refine Br.pos rfl ?_ | refine Br.neg rfl ?_ | refine Br.pos (decide_eq_true (by omega)) ?_ | refine Br.neg (decide_eq_false (by omega)) ?_ | refine ⟨⟨by first | exact Nat.le_of_ble_eq_true rfl | omega | (simp; done) | (simp; omega)⟩, ?_⟩)
    refine ⟨_, Ent.keepK [] _, ?_, rfl⟩
    rw [← hgo, List.drop_of_length_le (by omega)]; rfl

def szFsF (f : Fs) (l : Int) : Int := if decide (szFileSF f.files l < 0) = true then -1 else szFileSF f.files l
theorem szFs_spec (f : Fs) (l : Int) (h0 : 0 ≤ l) (h1 : l ≤ 1048576) (hl : f.files.length ≤ 1000000000000000) (hsm : small f.files) :
    AC Try.prog 4 [f.rd, scI l] [] fun r h => r = scI (szFsF f l) ∧ h = [] := by
  refine AC.of_body (T := tab) (fn := Try.f4) (rs := [.tmp 4]) (N := 12) Try.func4 rfl rfl rfl (by simp) ?_
  repeat (first | refine ⟨rfl, ?_⟩ | refine ⟨trivial, ?_⟩ | refine Br.pos (by assumption) ?_ | refine Br.neg (by assumption) ?_ | refine Br.pos rfl ?_ | refine Br.neg rfl ?_ | refine Br.pos (decide_eq_true (by omega)) ?_ | refine Br.neg (decide_eq_false (by omega)) ?_ | refine ⟨⟨by first | exact Nat.le_of_ble_eq_true rfl | omega | (simp; done) | (simp; omega)⟩, ?_⟩)
  refine CallS.val (szFileS_spec f.files l h0 h1 hl hsm) rfl ?_
  repeat (first | refine ⟨rfl, ?_⟩ | refine ⟨trivial, ?_⟩ | refine Br.pos (by assumption) ?_ | refine Br.neg (by assumption) ?_ | refine Br.pos rfl ?_ | refine Br.neg rfl ?_ | refine Br.pos (decide_eq_true (by omega)) ?_ | refine Br.neg (decide_eq_false (by omega)) ?_ | refine ⟨⟨by first | exact Nat.le_of_ble_eq_true rfl | omega | (simp; done) | (simp; omega)⟩, ?_⟩)
  refine Br.mk (fun h2 => ?_) (fun h2 => ?_)
  · repeat (first | refine ⟨rfl, ?_⟩ | refine ⟨trivial, ?_⟩ | refine Br.pos (by assumption) ?_ | refine Br.neg (by assumption) ?_ | refine Br.pos rfl ?_ | refine Br.neg rfl ?_ | refine Br.pos (decide_eq_true (by omega)) ?_ | refine Br.neg (decide_eq_false (by omega)) ?_ | refine ⟨⟨by first | exact Nat.le_of_ble_eq_true rfl | omega | (simp; done) | (simp; omega)⟩, ?_⟩)
    refine ⟨_, Ent.keepK [] _, ?_, rfl⟩
    simp only [szFsF, h2, if_true]; rfl
  · repeat (first | refine ⟨rfl, ?_⟩ | refine ⟨trivial, ?_⟩ | refine Br.pos (by assumption) ?_ | refine Br.neg (by assumption) ?_ | refine Br.pos rfl ?_ | refine Br.neg rfl ?_ | refine Br.pos (decide_eq_true (by omega)) ?_ | refine Br.neg (decide_eq_false (by omega)) ?_ | refine ⟨⟨by first | exact Nat.le_of_ble_eq_true rfl | omega | (simp; done) | (simp; omega)⟩, ?_⟩)
    refine ⟨_, Ent.keepK [] _, ?_, rfl⟩
    simp only [szFsF, h2, if_false, Bool.false_eq_true]; rfl

def szFsOpF (o : Fop) (l : Int) : Int := if decide (l - o.name.size < 0) = true then -1 else if decide (l - o.name.size - o.data.size < 0) = true then -1 else l - o.name.size - o.data.size
theorem szFsOp_spec (f : Fop) (l : Int) (h0 : 0 ≤ l) (h1 : l ≤ 1048576) (hn : f.name.size ≤ 1000000000000000) (hd : f.data.size ≤ 1000000000000000) :
    AC Try.prog 5 [.agg f.enc, scI l] [] fun r h => r = scI (szFsOpF f l) ∧ h = [] := by
  refine AC.of_body (T := tab) (fn := Try.f5) (rs := [.tmp 4]) (N := 20) Try.func5 rfl rfl rfl (by simp) ?_
  have e1 : IntKind.wrap .i64 (l - f.name.size) = l - f.name.size := wrap64_id _ (by omega) (by omega)
  have e2 : IntKind.wrap .i64 (l - f.name.size - f.data.size) = l - f.name.size - f.data.size := wrap64_id _ (by omega) (by omega)
  repeat (first | refine ⟨rfl, ?_⟩ | refine ⟨trivial, ?_⟩ | refine Br.pos (by assumption) ?_ | refine Br.neg (by assumption) ?_ | refine Br.pos rfl ?_ | refine Br.neg rfl ?_ | refine Br.pos (decide_eq_true (by omega)) ?_ | refine Br.neg (decide_eq_false (by omega)) ?_ | refine ⟨⟨by first | exact Nat.le_of_ble_eq_true rfl | omega | (simp; done) | (simp; omega)⟩, ?_⟩ | rw [e1] | rw [e2])
  refine Br.mk (fun h2 => ?_) (fun h2 => ?_)
  · repeat (first | refine ⟨rfl, ?_⟩ | refine ⟨trivial, ?_⟩ | refine Br.pos (by assumption) ?_ | refine Br.neg (by assumption) ?_ | refine Br.pos rfl ?_ | refine Br.neg rfl ?_ | refine Br.pos (decide_eq_true (by omega)) ?_ | refine Br.neg (decide_eq_false (by omega)) ?_ | refine ⟨⟨by first | exact Nat.le_of_ble_eq_true rfl | omega | (simp; done) | (simp; omega)⟩, ?_⟩)
    refine ⟨_, Ent.keepK [] _, ?_, rfl⟩
    simp only [szFsOpF, h2, if_true]; rfl
  repeat (first | refine ⟨rfl, ?_⟩ | refine ⟨trivial, ?_⟩ | refine Br.pos (by assumption) ?_ | refine Br.neg (by assumption) ?_ | refine Br.pos rfl ?_ | refine Br.neg rfl ?_ | refine Br.pos (decide_eq_true (by omega)) ?_ | refine Br.neg (decide_eq_false (by omega)) ?_ | refine ⟨⟨by first | exact Nat.le_of_ble_eq_true rfl | omega | (simp; done) | (simp; omega)⟩, ?_⟩ | rw [e1] | rw [e2])
  refine Br.mk (fun h3 => ?_) (fun h3 => ?_)
  · repeat (first | refine ⟨rfl, ?_⟩ | refine ⟨trivial, ?_⟩ | refine Br.pos (by assumption) ?_ | refine Br.neg (by assumption) ?_ | refine Br.pos rfl ?_ | refine Br.neg rfl ?_ | refine Br.pos (decide_eq_true (by omega)) ?_ | refine Br.neg (decide_eq_false (by omega)) ?_ | refine ⟨⟨by first | exact Nat.le_of_ble_eq_true rfl | omega | (simp; done) | (simp; omega)⟩, ?_⟩)
    refine ⟨_, Ent.keepK [] _, ?_, rfl⟩
    simp only [szFsOpF, h2, h3, if_true, if_false, Bool.false_eq_true]; rfl
  repeat (first | refine ⟨rfl, ?_⟩ | refine ⟨trivial, ?_⟩ | refine Br.pos (by assumption) ?_ | refine Br.neg (by assumption) ?_ | refine Br.pos rfl ?_ | refine Br.neg rfl ?_ | refine Br.pos (decide_eq_true (by omega)) ?_ | refine Br.neg (decide_eq_false (by omega)) ?_ | refine ⟨⟨by first | exact Nat.le_of_ble_eq_true rfl | omega | (simp; done) | (simp; omega)⟩, ?_⟩)
  refine ⟨_, Ent.keepK [] _, ?_, rfl⟩
  simp only [szFsOpF, h2, h3, if_true, if_false, Bool.false_eq_true]; rfl

theorem toFile_spec (f : File) : AC Try.prog 33 [.agg f.enc] [] fun r h => r = .agg f.enc ∧ h = [] := by
  refine AC.of_body (T := tab) (fn := Try.f33) (rs := [.cell 2 56]) (N := 14) Try.func33 rfl rfl rfl (by simp) ?_
  repeat (first | refine ⟨rfl, ?_⟩ | refine ⟨trivial, ?_⟩ | refine Br.pos (by assumption) ?_ | refine Br.neg (by assumption) ?_ | refine Br.pos rfl ?_ | refine Br.neg rfl ?_ | refine Br.pos (decide_eq_true (by omega)) ?_ | refine Br.neg (decide_eq_false (by omega)) ?_ | refine ⟨⟨by first | exact Nat.le_of_ble_eq_true rfl | omega | (simp; done) | (simp; omega)⟩, ?_⟩)
  exact ⟨_, Ent.to [] (s' := { ts := [(0, .agg f.enc)], hs := [] }) rfl ⟨rfl, trivial⟩, rfl, rfl⟩
theorem toFsOp_spec (f : Fop) : AC Try.prog 8 [.agg f.enc] [] fun r h => r = .agg f.enc ∧ h = [] := by
  refine AC.of_body (T := tab) (fn := Try.f8) (rs := [.cell 2 35]) (N := 17) Try.func8 rfl rfl rfl (by simp) ?_
  repeat (first | refine ⟨rfl, ?_⟩ | refine ⟨trivial, ?_⟩ | refine Br.pos (by assumption) ?_ | refine Br.neg (by assumption) ?_ | refine Br.pos rfl ?_ | refine Br.neg rfl ?_ | refine Br.pos (decide_eq_true (by omega)) ?_ | refine Br.neg (decide_eq_false (by omega)) ?_ | refine ⟨⟨by first | exact Nat.le_of_ble_eq_true rfl | omega | (simp; done) | (simp; omega)⟩, ?_⟩)
  exact ⟨_, Ent.to [] (s' := { ts := [(0, .agg f.enc)], hs := [] }) rfl ⟨rfl, trivial⟩, rfl, rfl⟩
end Go.Proofs.Try
