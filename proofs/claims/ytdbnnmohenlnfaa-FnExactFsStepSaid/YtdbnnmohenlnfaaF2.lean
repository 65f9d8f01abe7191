/- The functions of the reference over the files. -/
import Derived.Test.YtdbnnmohenlnfaaF1
namespace Go.Proofs.Try
open Go Go.Sym
set_option linter.unusedVariables false
set_option linter.unusedSimpArgs false
set_option maxHeartbeats 8000000

abbrev scI (n : Int) : V := .sc (.int .i64 n)
abbrev scB (b : Bool) : V := .sc (.bool b)
abbrev scS (s : ByteArray) : V := .sc (.string s)

theorem take_succ_getD {α : Type} (l : List α) (i : Nat) (d : α) (h : i < l.length) : l.take (i + 1) = l.take i ++ [l.getD i d] := by
  rw [List.take_succ_eq_append_getElem h]; simp [List.getD_eq_getElem?_getD, h]

def dataSum (fs : List File) : Nat := (fs.map fun f => f.data.size).sum
theorem dataSum_succ (fs : List File) (i : Nat) (h : i < fs.length) : dataSum (fs.take (i + 1)) = dataSum (fs.take i) + (fs.getD i default).data.size := by
  rw [take_succ_getD _ _ default h]; simp [dataSum]
theorem dataSum_le (fs : List File) (i : Nat) : dataSum (fs.take i) ≤ dataSum fs := by
  have : dataSum fs = dataSum (fs.take i) + dataSum (fs.drop i) := by
    simp only [dataSum]; rw [← List.sum_append_nat, ← List.map_append, List.take_append_drop]
  omega

theorem l6Bytes_spec (fs : List File) (a b c d e : V) (hl : fs.length ≤ 1000000000) (hs : dataSum fs ≤ 1000000000000) (hn : noKeyL [a, b, c, d, e] = true) :
    AC Try.prog 29 [.agg [.rd 3 (fs.map File.enc), a, b, c, d, e]] [] fun r h => r = scI (dataSum fs) ∧ h = [] := by
  refine AC.of_body (T := tab) (fn := Try.f29) (rs := [.tmp 2]) (N := 20) Try.func29 rfl rfl rfl (by simp) ?_
  repeat (first | refine ⟨rfl, ?_⟩ | refine ⟨trivial, ?_⟩ | refine Br.pos (by assumption) ?_ | refine Br.neg (by assumption) ?_ | refine Br.pos rfl ?_ | refine Br.neg rfl ?_ | refine Br.pos (decide_eq_true (by omega)) ?_ | refine Br.neg (decide_eq_false (by omega)) ?_ | refine ⟨⟨by first | exact Nat.le_of_ble_eq_true rfl | omega | (simp; done) | (simp; omega)⟩, ?_⟩)
  refine ⟨fun n s => ∃ i : Nat, i ≤ fs.length ∧ n = fs.length - i ∧ s = { ts := [(9, scI i), (8, scI fs.length), (7, .rd 3 (fs.map File.enc)), (3, scI (dataSum (fs.take i)))], hs := [] }, fs.length, _, Ent.to [] ?_ ?_, ⟨0, by omega, rfl, rfl⟩, ?_⟩
  · rfl
  · exact ⟨rfl, by simp; rfl, rfl, rfl, trivial⟩
  · rintro n s ⟨i, hi, rfl, rfl⟩
    repeat (first | refine ⟨rfl, ?_⟩ | refine ⟨trivial, ?_⟩ | refine Br.pos (by assumption) ?_ | refine Br.neg (by assumption) ?_ | refine Br.pos rfl ?_ | refine Br.neg rfl ?_ | refine Br.pos (decide_eq_true (by omega)) ?_ | refine Br.neg (decide_eq_false (by omega)) ?_ | refine ⟨⟨by first | exact Nat.le_of_ble_eq_true rfl | omega | (simp; done) | (simp; omega)⟩, ?_⟩)
    refine Br.mk (fun hc => ?_) (fun hc => ?_)
    · have hc := of_decide_eq_true hc
      have hlt : i < fs.length := by omega
      have e : (fs.map File.enc).getD (i : Int).toNat [] = File.enc (fs.getD i default) := getD_map_enc _ _ _ hlt
      repeat (first | refine ⟨rfl, ?_⟩ | refine ⟨trivial, ?_⟩ | refine Br.pos (by assumption) ?_ | refine Br.neg (by assumption) ?_ | refine Br.pos rfl ?_ | refine Br.neg rfl ?_ | refine Br.pos (decide_eq_true (by omega)) ?_ | refine Br.neg (decide_eq_false (by omega)) ?_ | refine ⟨⟨by first | exact Nat.le_of_ble_eq_true rfl | omega | (simp; done) | (simp; omega)⟩, ?_⟩ | rw [e])
      have h1 := dataSum_succ fs i hlt
      have h2 := dataSum_le fs (i + 1)
      refine ⟨fs.length - (i + 1), _, by omega, Ent.to [] ?_ ?_, i + 1, by omega, rfl, rfl⟩
      · rfl
      · refine ⟨?_, rfl, rfl, ?_, trivial⟩
        · show scI (IntKind.wrap .i64 ((i : Int) + 1)) = _
          rw [wrap64_id _ (by omega) (by omega)]; rfl
        · show scI (IntKind.wrap .i64 ((dataSum (fs.take i) : Int) + ((fs.getD i default).data.size : Int))) = _
          rw [wrap64_id _ (by omega) (by omega), h1]; rfl
    · have hc := of_decide_eq_false hc
      repeat (first | refine ⟨rfl, ?_⟩ | refine ⟨trivial, ?_⟩ | refine Br.pos (by assumption) ?_ | refine Br.neg (by assumption) ?_ | refine Br.pos rfl ?_ | refine Br.neg rfl ?_ | refine Br.pos (decide_eq_true (by omega)) ?_ | refine Br.neg (decide_eq_false (by omega)) ?_ | refine ⟨⟨by first | exact Nat.le_of_ble_eq_true rfl | omega | (simp; done) | (simp; omega)⟩, ?_⟩)
      refine ⟨_, Ent.refl _, ?_, rfl⟩
      show scI (dataSum (fs.take i)) = _
      rw [List.take_of_length_le (by omega)]

/-- The place of the file of that name; none: -1. -/
def findIx (fs : List File) (name : ByteArray) : Int := match fs.findIdx? (fun f => f.name.toList == name.toList) with | some i => (i : Int) | none => -1

theorem l6Find_spec (fs : List File) (name : ByteArray) (a b c d e : V) (hl : fs.length ≤ 1000000000) :
    AC Try.prog 31 [.agg [.rd 3 (fs.map File.enc), a, b, c, d, e], scS name] [] fun r h => r = scI (findIx fs name) ∧ h = [] := by
  refine AC.of_body (T := tab) (fn := Try.f31) (rs := [.tmp 4]) (N := 21) Try.func31 rfl rfl rfl (by simp) ?_
  repeat (first | refine ⟨rfl, ?_⟩ | refine ⟨trivial, ?_⟩ | refine Br.pos (by assumption) ?_ | refine Br.neg (by assumption) ?_ | refine Br.pos rfl ?_ | refine Br.neg rfl ?_ | refine Br.pos (decide_eq_true (by omega)) ?_ | refine Br.neg (decide_eq_false (by omega)) ?_ | refine ⟨⟨by first | exact Nat.le_of_ble_eq_true rfl | omega | (simp; done) | (simp; omega)⟩, ?_⟩)
  refine ⟨fun n s => ∃ i : Nat, i ≤ fs.length ∧ (∀ j, j < i → ((fs.getD j default).name.toList == name.toList) = false) ∧ n = fs.length - i ∧ s = { ts := [(10, scI i), (9, scI fs.length), (8, .rd 3 (fs.map File.enc)), (1, scS name)], hs := [] }, fs.length, _, Ent.to [] ?_ ?_, ⟨0, by omega, by omega, rfl, rfl⟩, ?_⟩
  · rfl
  · exact ⟨rfl, by simp; rfl, rfl, rfl, trivial⟩
  · rintro n s ⟨i, hi, hall, rfl, rfl⟩
    repeat (first | refine ⟨rfl, ?_⟩ | refine ⟨trivial, ?_⟩ | refine Br.pos (by assumption) ?_ | refine Br.neg (by assumption) ?_ | refine Br.pos rfl ?_ | refine Br.neg rfl ?_ | refine Br.pos (decide_eq_true (by omega)) ?_ | refine Br.neg (decide_eq_false (by omega)) ?_ | refine ⟨⟨by first | exact Nat.le_of_ble_eq_true rfl | omega | (simp; done) | (simp; omega)⟩, ?_⟩)
    refine Br.mk (fun hc => ?_) (fun hc => ?_)
    · have hc := of_decide_eq_true hc
      have hlt : i < fs.length := by omega
      have e : (fs.map File.enc).getD (i : Int).toNat [] = File.enc (fs.getD i default) := getD_map_enc _ _ _ hlt
      repeat (first | refine ⟨rfl, ?_⟩ | refine ⟨trivial, ?_⟩ | refine Br.pos (by assumption) ?_ | refine Br.neg (by assumption) ?_ | refine Br.pos rfl ?_ | refine Br.neg rfl ?_ | refine Br.pos (decide_eq_true (by omega)) ?_ | refine Br.neg (decide_eq_false (by omega)) ?_ | refine ⟨⟨by first | exact Nat.le_of_ble_eq_true rfl | omega | (simp; done) | (simp; omega)⟩, ?_⟩ | rw [e])
      refine Br.mk (fun h1 => ?_) (fun h1 => ?_)
      · repeat (first | refine ⟨rfl, ?_⟩ | refine ⟨trivial, ?_⟩ | refine Br.pos (by assumption) ?_ | refine Br.neg (by assumption) ?_ | refine Br.pos rfl ?_ | refine Br.neg rfl ?_ | refine Br.pos (decide_eq_true (by omega)) ?_ | refine Br.neg (decide_eq_false (by omega)) ?_ | refine ⟨⟨by first | exact Nat.le_of_ble_eq_true rfl | omega | (simp; done) | (simp; omega)⟩, ?_⟩)
        refine ⟨_, Ent.keepK [] _, ?_, rfl⟩
        show scI i = _
        have : fs.findIdx? (fun f => f.name.toList == name.toList) = some i := by
          rw [List.findIdx?_eq_some_iff_getElem]
          refine ⟨hlt, by simpa [List.getD_eq_getElem?_getD, hlt] using h1, fun j hj => ?_⟩
          have := hall j hj
          have hj2 : j < fs.length := by omega
          simpa [List.getD_eq_getElem?_getD, hj2] using this
        simp only [findIx, this]
      · repeat (first | refine ⟨rfl, ?_⟩ | refine ⟨trivial, ?_⟩ | refine Br.pos (by assumption) ?_ | refine Br.neg (by assumption) ?_ | refine Br.pos rfl ?_ | refine Br.neg rfl ?_ | refine Br.pos (decide_eq_true (by omega)) ?_ | refine Br.neg (decide_eq_false (by omega)) ?_ | refine ⟨⟨by first | exact Nat.le_of_ble_eq_true rfl | omega | (simp; done) | (simp; omega)⟩, ?_⟩)
        refine ⟨fs.length - (i + 1), _, by omega, Ent.to [] ?_ ?_, i + 1, by omega, (fun j hj => ?_), rfl, rfl⟩
        · rfl
        · refine ⟨?_, rfl, rfl, rfl, trivial⟩
          show scI (IntKind.wrap .i64 ((i : Int) + 1)) = _
          rw [wrap64_id _ (by omega) (by omega)]; rfl
        · by_cases e : j = i
          · rw [e]; exact h1
          · exact hall j (by omega)
    · have hc := of_decide_eq_false hc
      repeat (first | refine ⟨rfl, ?_⟩ | refine ⟨trivial, ?_⟩ | refine Br.pos (by assumption) ?_ | refine Br.neg (by assumption) ?_ | refine Br.pos rfl ?_ | refine Br.neg rfl ?_ | refine Br.pos (decide_eq_true (by omega)) ?_ | refine Br.neg (decide_eq_false (by omega)) ?_ | refine ⟨⟨by first | exact Nat.le_of_ble_eq_true rfl | omega | (simp; done) | (simp; omega)⟩, ?_⟩)
      refine ⟨_, Ent.refl _, ?_, rfl⟩
      show scI (-1) = _
      have : fs.findIdx? (fun f => f.name.toList == name.toList) = none := by
        rw [List.findIdx?_eq_none_iff]
        intro x hx
        obtain ⟨j, hj, rfl⟩ := List.mem_iff_getElem.1 hx
        have := hall j (by omega)
        simpa [List.getD_eq_getElem?_getD, hj] using this
      simp only [findIx, this]
end Go.Proofs.Try
