/- The law's helpers: comparisons, marks. -/
import Derived.Test.YtdbnnmohenlnfaaF7
namespace Go.Proofs.Try
open Go Go.Sym
set_option linter.unusedVariables false
set_option linter.unusedSimpArgs false
set_option maxHeartbeats 8000000

def eqFileF (a b : File) : Bool := (a.name.toList == b.name.toList) && (a.data.toList == b.data.toList) && (a.synced == b.synced)
theorem eqFile_spec (a b : File) : AC Try.prog 44 [.agg a.enc, .agg b.enc] [] fun r h => r = scB (eqFileF a b) ∧ h = [] := by
  refine AC.of_body (T := tab) (fn := Try.f44) (rs := [.tmp 4]) (N := 20) Try.func44 rfl rfl rfl (by simp) ?_
  repeat (first | refine ⟨rfl, ?_⟩ | refine ⟨trivial, ?_⟩ | refine Br.pos (by assumption) ?_ | refine Br.neg (by assumption) ?_ | refine Br.pos rfl ?_ | refine Br.neg rfl ?_ | refine Br.pos (decide_eq_true (by omega)) ?_ | refine Br.neg (decide_eq_false (by omega)) ?_ | refine ⟨⟨by first | exact Nat.le_of_ble_eq_true rfl | omega | (simp; done) | (simp; omega)⟩, ?_⟩)
  refine Br.mk (fun h1 => ?_) (fun h1 => ?_)
  · have h1' : (a.name.toList == b.name.toList) = false := by simpa using h1
    repeat (first | refine ⟨rfl, ?_⟩ | refine ⟨trivial, ?_⟩ | refine Br.pos (by assumption) ?_ | refine Br.neg (by assumption) ?_ | refine Br.pos rfl ?_ | refine Br.neg rfl ?_ | refine Br.pos (decide_eq_true (by omega)) ?_ | refine Br.neg (decide_eq_false (by omega)) ?_ | refine ⟨⟨by first | exact Nat.le_of_ble_eq_true rfl | omega | (simp; done) | (simp; omega)⟩, ?_⟩)
    refine ⟨_, Ent.keepK [] _, ?_, rfl⟩
    simp only [eqFileF, h1', Bool.false_and]; rfl
  have h1' : (a.name.toList == b.name.toList) = true := by simpa using h1
  repeat (first | refine ⟨rfl, ?_⟩ | refine ⟨trivial, ?_⟩ | refine Br.pos (by assumption) ?_ | refine Br.neg (by assumption) ?_ | refine Br.pos rfl ?_ | refine Br.neg rfl ?_ | refine Br.pos (decide_eq_true (by omega)) ?_ | refine Br.neg (decide_eq_false (by omega)) ?_ | refine ⟨⟨by first | exact Nat.le_of_ble_eq_true rfl | omega | (simp; done) | (simp; omega)⟩, ?_⟩)
  refine Br.mk (fun h2 => ?_) (fun h2 => ?_)
  · have h2' : (a.data.toList == b.data.toList) = false := by simpa using h2
    repeat (first | refine ⟨rfl, ?_⟩ | refine ⟨trivial, ?_⟩ | refine Br.pos (by assumption) ?_ | refine Br.neg (by assumption) ?_ | refine Br.pos rfl ?_ | refine Br.neg rfl ?_ | refine Br.pos (decide_eq_true (by omega)) ?_ | refine Br.neg (decide_eq_false (by omega)) ?_ | refine ⟨⟨by first | exact Nat.le_of_ble_eq_true rfl | omega | (simp; done) | (simp; omega)⟩, ?_⟩)
    refine ⟨_, Ent.keepK [] _, ?_, rfl⟩
    simp only [eqFileF, h2', Bool.false_and, Bool.and_false]; rfl
  have h2' : (a.data.toList == b.data.toList) = true := by simpa using h2
  repeat (first | refine ⟨rfl, ?_⟩ | refine ⟨trivial, ?_⟩ | refine Br.pos (by assumption) ?_ | refine Br.neg (by assumption) ?_ | refine Br.pos rfl ?_ | refine Br.neg rfl ?_ | refine Br.pos (decide_eq_true (by omega)) ?_ | refine Br.neg (decide_eq_false (by omega)) ?_ | refine ⟨⟨by first | exact Nat.le_of_ble_eq_true rfl | omega | (simp; done) | (simp; omega)⟩, ?_⟩)
  refine Br.mk (fun h3 => ?_) (fun h3 => ?_)
  · have h3' : (a.synced == b.synced) = false := by simpa using h3
    repeat (first | refine ⟨rfl, ?_⟩ | refine ⟨trivial, ?_⟩ | refine Br.pos (by assumption) ?_ | refine Br.neg (by assumption) ?_ | refine Br.pos rfl ?_ | refine Br.neg rfl ?_ | refine Br.pos (decide_eq_true (by omega)) ?_ | refine Br.neg (decide_eq_false (by omega)) ?_ | refine ⟨⟨by first | exact Nat.le_of_ble_eq_true rfl | omega | (simp; done) | (simp; omega)⟩, ?_⟩)
    refine ⟨_, Ent.keepK [] _, ?_, rfl⟩
    simp only [eqFileF, h3', Bool.and_false]; rfl
  have h3' : (a.synced == b.synced) = true := by simpa using h3
  repeat (first | refine ⟨rfl, ?_⟩ | refine ⟨trivial, ?_⟩ | refine Br.pos (by assumption) ?_ | refine Br.neg (by assumption) ?_ | refine Br.pos rfl ?_ | refine Br.neg rfl ?_ | refine Br.pos (decide_eq_true (by omega)) ?_ | refine Br.neg (decide_eq_false (by omega)) ?_ | refine ⟨⟨by first | exact Nat.le_of_ble_eq_true rfl | omega | (simp; done) | (simp; omega)⟩, ?_⟩)
  refine ⟨_, Ent.keepK [] _, ?_, rfl⟩
  simp only [eqFileF, h1', h2', h3', Bool.and_self]; rfl

def eqFileSF (a b : List File) : Bool := (a.length == b.length) && (List.range a.length).all fun i => eqFileF (a.getD i default) (b.getD i default)
theorem eqFileS_spec (a b : List File) (hl : a.length ≤ 1000000000000) : AC Try.prog 25 [.rd 3 (a.map File.enc), .rd 3 (b.map File.enc)] [] fun r h => r = scB (eqFileSF a b) ∧ h = [] := by
  refine AC.of_body (T := tab) (fn := Try.f25) (rs := [.tmp 4]) (N := 27) Try.func25 rfl rfl rfl (by simp) ?_
  repeat (first | refine ⟨rfl, ?_⟩ | refine ⟨trivial, ?_⟩ | refine Br.pos (by assumption) ?_ | refine Br.neg (by assumption) ?_ | refine Br.pos rfl ?_ | refine Br.neg rfl ?_ | refine Br.pos (decide_eq_true (by omega)) ?_ | refine Br.neg (decide_eq_false (by omega)) ?_ | refine ⟨⟨by first | exact Nat.le_of_ble_eq_true rfl | omega | (simp; done) | (simp; omega)⟩, ?_⟩ | rw [List.length_map])
  refine Br.mk (fun h1 => ?_) (fun h1 => ?_)
  · have h1' : (a.length == b.length) = false := by simp at h1 ⊢; omega
    repeat (first | refine ⟨rfl, ?_⟩ | refine ⟨trivial, ?_⟩ | refine Br.pos (by assumption) ?_ | refine Br.neg (by assumption) ?_ | refine Br.pos rfl ?_ | refine Br.neg rfl ?_ | refine Br.pos (decide_eq_true (by omega)) ?_ | refine Br.neg (decide_eq_false (by omega)) ?_ | refine ⟨⟨by first | exact Nat.le_of_ble_eq_true rfl | omega | (simp; done) | (simp; omega)⟩, ?_⟩)
    refine ⟨_, Ent.keepK [] _, ?_, rfl⟩
    simp only [eqFileSF, h1', Bool.false_and]; rfl
  have h1' : a.length = b.length := by simp at h1; omega
  repeat (first | refine ⟨rfl, ?_⟩ | refine ⟨trivial, ?_⟩ | refine Br.pos (by assumption) ?_ | refine Br.neg (by assumption) ?_ | refine Br.pos rfl ?_ | refine Br.neg rfl ?_ | refine Br.pos (decide_eq_true (by omega)) ?_ | refine Br.neg (decide_eq_false (by omega)) ?_ | refine ⟨⟨by first | exact Nat.le_of_ble_eq_true rfl | omega | (simp; done) | (simp; omega)⟩, ?_⟩)
  refine ⟨fun n s => ∃ i : Nat, i ≤ a.length ∧ (∀ j, j < i → eqFileF (a.getD j default) (b.getD j default) = true) ∧ n = a.length - i ∧ s = { ts := [(5, scI i), (1, .rd 3 (b.map File.enc)), (0, .rd 3 (a.map File.enc))], hs := [] }, a.length, _, Ent.to [] ?_ ?_, ⟨0, by omega, by omega, rfl, rfl⟩, ?_⟩
  · rfl
  · exact ⟨rfl, rfl, rfl, trivial⟩
  rintro n s ⟨i, hi, hall, rfl, rfl⟩
  repeat (first | refine ⟨rfl, ?_⟩ | refine ⟨trivial, ?_⟩ | refine Br.pos (by assumption) ?_ | refine Br.neg (by assumption) ?_ | refine Br.pos rfl ?_ | refine Br.neg rfl ?_ | refine Br.pos (decide_eq_true (by omega)) ?_ | refine Br.neg (decide_eq_false (by omega)) ?_ | refine ⟨⟨by first | exact Nat.le_of_ble_eq_true rfl | omega | (simp; done) | (simp; omega)⟩, ?_⟩ | rw [List.length_map])
  refine Br.mk (fun hc => ?_) (fun hc => ?_)
  · have hc := of_decide_eq_true hc
    have hlt : i < a.length := by omega
    have e : (a.map File.enc).getD (i : Int).toNat [] = File.enc (a.getD i default) := getD_map_enc _ _ _ hlt
    have e2 : (b.map File.enc).getD (i : Int).toNat [] = File.enc (b.getD i default) := getD_map_enc _ _ _ (by omega)
    repeat (first | refine ⟨rfl, ?_⟩ | refine ⟨trivial, ?_⟩ | refine Br.pos (by assumption) ?_ | refine Br.neg (by assumption) ?_ | refine Br.pos rfl ?_ | refine Br.neg rfl ?_ | refine Br.pos (decide_eq_true (by omega)) ?_ | refine Br.neg (decide_eq_false (by omega)) ?_ | refine ⟨⟨by first | exact Nat.le_of_ble_eq_true rfl | omega | (simp; done) | (simp; omega)⟩, ?_⟩)
    refine DrawK.plan (T := tab) [] (.look 0 [0, 2, 3, 8, 9] (.look 1 [1, 2, 3, 8, 9] (.look 2 [2, 3, 8, 9] (.look 3 [3, 8, 9] (.look 4 [4, 6, 7, 8, 9] (.look 5 [5, 6, 7, 8, 9] (.look 6 [6, 7, 8, 9] (.look 7 [7, 8, 9] (.all [(8, .look 9 [9] (.done))]))))))))) mixed (by decide +kernel) ?_
    repeat (first | refine ⟨rfl, ?_⟩ | refine ⟨trivial, ?_⟩ | refine Br.pos (by assumption) ?_ | refine Br.neg (by assumption) ?_ | refine Br.pos rfl ?_ | refine Br.neg rfl ?_ | refine Br.pos (decide_eq_true (by omega)) ?_ | refine Br.neg (decide_eq_false (by omega)) ?_ | refine ⟨⟨by first | exact Nat.le_of_ble_eq_true rfl | omega | (simp; done) | (simp; omega)⟩, ?_⟩ | rw [e] | rw [e2])
    refine CallS.val (eqFile_spec (a.getD i default) (b.getD i default)) rfl ?_
    repeat (first | refine ⟨rfl, ?_⟩ | refine ⟨trivial, ?_⟩ | refine Br.pos (by assumption) ?_ | refine Br.neg (by assumption) ?_ | refine Br.pos rfl ?_ | refine Br.neg rfl ?_ | refine Br.pos (decide_eq_true (by omega)) ?_ | refine Br.neg (decide_eq_false (by omega)) ?_ | refine ⟨⟨by first | exact Nat.le_of_ble_eq_true rfl | omega | (simp; done) | (simp; omega)⟩, ?_⟩)
    refine Br.mk (fun h3 => ?_) (fun h3 => ?_)
    · have h3' : eqFileF (a.getD i default) (b.getD i default) = false := by simpa using h3
      repeat (first | refine ⟨rfl, ?_⟩ | refine ⟨trivial, ?_⟩ | refine Br.pos (by assumption) ?_ | refine Br.neg (by assumption) ?_ | refine Br.pos rfl ?_ | refine Br.neg rfl ?_ | refine Br.pos (decide_eq_true (by omega)) ?_ | refine Br.neg (decide_eq_false (by omega)) ?_ | refine ⟨⟨by first | exact Nat.le_of_ble_eq_true rfl | omega | (simp; done) | (simp; omega)⟩, ?_⟩)
      refine ⟨_, Ent.keepK [] _, ?_, rfl⟩
      have : (List.range a.length).all (fun i => eqFileF (a.getD i default) (b.getD i default)) = false := by
        rw [List.all_eq_false]; exact ⟨i, by simpa using hlt, by rw [h3']; simp⟩
      simp only [eqFileSF, this, Bool.and_false]; rfl
    · have h3' : eqFileF (a.getD i default) (b.getD i default) = true := by simpa using h3
      repeat (first | refine ⟨rfl, ?_⟩ | refine ⟨trivial, ?_⟩ | refine Br.pos (by assumption) ?_ | refine Br.neg (by assumption) ?_ | refine Br.pos rfl ?_ | refine Br.neg rfl ?_ | refine Br.pos (decide_eq_true (by omega)) ?_ | refine Br.neg (decide_eq_false (by omega)) ?_ | refine ⟨⟨by first | exact Nat.le_of_ble_eq_true rfl | omega | (simp; done) | (simp; omega)⟩, ?_⟩)
      refine ⟨a.length - (i + 1), _, by omega, Ent.to [] ?_ ?_, i + 1, by omega, (fun j hj => ?_), rfl, rfl⟩
      · rfl
      · refine ⟨?_, rfl, rfl, trivial⟩
        show scI (IntKind.wrap .i64 ((i : Int) + 1)) = _
        rw [wrap64_id _ (by omega) (by omega)]; rfl
      · by_cases e : j = i
        · rw [e]; exact h3'
        · exact hall j (by omega)
  · have hc := of_decide_eq_false hc
    repeat (first | refine ⟨rfl, ?_⟩ | refine ⟨trivial, ?_⟩ | refine Br.pos (by assumption) ?_ | refine Br.neg (by assumption) ?_ | refine Br.pos rfl ?_ | refine Br.neg rfl ?_ | refine Br.pos (decide_eq_true (by omega)) ?_ | refine Br.neg (decide_eq_false (by omega)) ?_ | refine ⟨⟨by first | exact Nat.le_of_ble_eq_true rfl | omega | (simp; done) | (simp; omega)⟩, ?_⟩)
    refine ⟨_, Ent.keepK [] _, ?_, rfl⟩
    have : (List.range a.length).all (fun i => eqFileF (a.getD i default) (b.getD i default)) = true := by
      rw [List.all_eq_true]; intro j hj; exact hall j (by have := List.mem_range.1 hj; omega)
    have h4 : (a.length == b.length) = true := by simp [h1']
    simp only [eqFileSF, this, h4, Bool.and_self]; rfl

def eqFsF (a b : Fs) : Bool := eqFileSF a.files b.files && (a.cap == b.cap) && (a.count == b.count) && (a.crashAt == b.crashAt) && (a.failAt == b.failAt) && (a.down == b.down)
theorem eqFs_spec (a b : Fs) (hl : a.files.length ≤ 1000000000000) : AC Try.prog 10 [a.rd, b.rd] [] fun r h => r = scB (eqFsF a b) ∧ h = [] := by
  refine AC.of_body (T := tab) (fn := Try.f10) (rs := [.tmp 4]) (N := 36) Try.func10 rfl rfl rfl (by simp) ?_
  repeat (first | refine ⟨rfl, ?_⟩ | refine ⟨trivial, ?_⟩ | refine Br.pos (by assumption) ?_ | refine Br.neg (by assumption) ?_ | refine Br.pos rfl ?_ | refine Br.neg rfl ?_ | refine Br.pos (decide_eq_true (by omega)) ?_ | refine Br.neg (decide_eq_false (by omega)) ?_ | refine ⟨⟨by first | exact Nat.le_of_ble_eq_true rfl | omega | (simp; done) | (simp; omega)⟩, ?_⟩)
  refine CallS.val (eqFileS_spec a.files b.files hl) rfl ?_
  repeat (first | refine ⟨rfl, ?_⟩ | refine ⟨trivial, ?_⟩ | refine Br.pos (by assumption) ?_ | refine Br.neg (by assumption) ?_ | refine Br.pos rfl ?_ | refine Br.neg rfl ?_ | refine Br.pos (decide_eq_true (by omega)) ?_ | refine Br.neg (decide_eq_false (by omega)) ?_ | refine ⟨⟨by first | exact Nat.le_of_ble_eq_true rfl | omega | (simp; done) | (simp; omega)⟩, ?_⟩)
  refine Br.mk (fun h1 => ?_) (fun h1 => ?_)
  · have h1' : eqFileSF a.files b.files = false := by simpa using h1
    repeat (first | refine ⟨rfl, ?_⟩ | refine ⟨trivial, ?_⟩ | refine Br.pos (by assumption) ?_ | refine Br.neg (by assumption) ?_ | refine Br.pos rfl ?_ | refine Br.neg rfl ?_ | refine Br.pos (decide_eq_true (by omega)) ?_ | refine Br.neg (decide_eq_false (by omega)) ?_ | refine ⟨⟨by first | exact Nat.le_of_ble_eq_true rfl | omega | (simp; done) | (simp; omega)⟩, ?_⟩)
    refine ⟨_, Ent.keepK [] _, ?_, rfl⟩
    simp only [eqFsF, h1', Bool.false_and]; rfl
  have h1' : eqFileSF a.files b.files = true := by simpa using h1
  repeat (first | refine ⟨rfl, ?_⟩ | refine ⟨trivial, ?_⟩ | refine Br.pos (by assumption) ?_ | refine Br.neg (by assumption) ?_ | refine Br.pos rfl ?_ | refine Br.neg rfl ?_ | refine Br.pos (decide_eq_true (by omega)) ?_ | refine Br.neg (decide_eq_false (by omega)) ?_ | refine ⟨⟨by first | exact Nat.le_of_ble_eq_true rfl | omega | (simp; done) | (simp; omega)⟩, ?_⟩)
  refine Br.mk (fun h2 => ?_) (fun h2 => ?_)
  · have h2' : (a.cap == b.cap) = false := by simpa using h2
    repeat (first | refine ⟨rfl, ?_⟩ | refine ⟨trivial, ?_⟩ | refine Br.pos (by assumption) ?_ | refine Br.neg (by assumption) ?_ | refine Br.pos rfl ?_ | refine Br.neg rfl ?_ | refine Br.pos (decide_eq_true (by omega)) ?_ | refine Br.neg (decide_eq_false (by omega)) ?_ | refine ⟨⟨by first | exact Nat.le_of_ble_eq_true rfl | omega | (simp; done) | (simp; omega)⟩, ?_⟩)
    refine ⟨_, Ent.keepK [] _, ?_, rfl⟩
    simp only [eqFsF, h2', Bool.false_and, Bool.and_false]; rfl
  have h2' : (a.cap == b.cap) = true := by simpa using h2
  repeat (first | refine ⟨rfl, ?_⟩ | refine ⟨trivial, ?_⟩ | refine Br.pos (by assumption) ?_ | refine Br.neg (by assumption) ?_ | refine Br.pos rfl ?_ | refine Br.neg rfl ?_ | refine Br.pos (decide_eq_true (by omega)) ?_ | refine Br.neg (decide_eq_false (by omega)) ?_ | refine ⟨⟨by first | exact Nat.le_of_ble_eq_true rfl | omega | (simp; done) | (simp; omega)⟩, ?_⟩)
  refine Br.mk (fun h3 => ?_) (fun h3 => ?_)
  · have h3' : (a.count == b.count) = false := by simpa using h3
    repeat (first | refine ⟨rfl, ?_⟩ | refine ⟨trivial, ?_⟩ | refine Br.pos (by assumption) ?_ | refine Br.neg (by assumption) ?_ | refine Br.pos rfl ?_ | refine Br.neg rfl ?_ | refine Br.pos (decide_eq_true (by omega)) ?_ | refine Br.neg (decide_eq_false (by omega)) ?_ | refine ⟨⟨by first | exact Nat.le_of_ble_eq_true rfl | omega | (simp; done) | (simp; omega)⟩, ?_⟩)
    refine ⟨_, Ent.keepK [] _, ?_, rfl⟩
    simp only [eqFsF, h3', Bool.false_and, Bool.and_false]; rfl
  have h3' : (a.count == b.count) = true := by simpa using h3
  repeat (first | refine ⟨rfl, ?_⟩ | refine ⟨trivial, ?_⟩ | refine Br.pos (by assumption) ?_ | refine Br.neg (by assumption) ?_ | refine Br.pos rfl ?_ | refine Br.neg rfl ?_ | refine Br.pos (decide_eq_true (by omega)) ?_ | refine Br.neg (decide_eq_false (by omega)) ?_ | refine ⟨⟨by first | exact Nat.le_of_ble_eq_true rfl | omega | (simp; done) | (simp; omega)⟩, ?_⟩)
  refine Br.mk (fun h4 => ?_) (fun h4 => ?_)
  · have h4' : (a.crashAt == b.crashAt) = false := by simpa using h4
    repeat (first | refine ⟨rfl, ?_⟩ | refine ⟨trivial, ?_⟩ | refine Br.pos (by assumption) ?_ | refine Br.neg (by assumption) ?_ | refine Br.pos rfl ?_ | refine Br.neg rfl ?_ | refine Br.pos (decide_eq_true (by omega)) ?_ | refine Br.neg (decide_eq_false (by omega)) ?_ | refine ⟨⟨by first | exact Nat.le_of_ble_eq_true rfl | omega | (simp; done) | (simp; omega)⟩, ?_⟩)
    refine ⟨_, Ent.keepK [] _, ?_, rfl⟩
    simp only [eqFsF, h4', Bool.false_and, Bool.and_false]; rfl
  have h4' : (a.crashAt == b.crashAt) = true := by simpa using h4
  repeat (first | refine ⟨rfl, ?_⟩ | refine ⟨trivial, ?_⟩ | refine Br.pos (by assumption) ?_ | refine Br.neg (by assumption) ?_ | refine Br.pos rfl ?_ | refine Br.neg rfl ?_ | refine Br.pos (decide_eq_true (by omega)) ?_ | refine Br.neg (decide_eq_false (by omega)) ?_ | refine ⟨⟨by first | exact Nat.le_of_ble_eq_true rfl | omega | (simp; done) | (simp; omega)⟩, ?_⟩)
  refine Br.mk (fun h5 => ?_) (fun h5 => ?_)
  · have h5' : (a.failAt == b.failAt) = false := by simpa using h5
    repeat (first | refine ⟨rfl, ?_⟩ | refine ⟨trivial, ?_⟩ | refine Br.pos (by assumption) ?_ | refine Br.neg (by assumption) ?_ | refine Br.pos rfl ?_ | refine Br.neg rfl ?_ | refine Br.pos (decide_eq_true (by omega)) ?_ | refine Br.neg (decide_eq_false (by omega)) ?_ | refine ⟨⟨by first | exact Nat.le_of_ble_eq_true rfl | omega | (simp; done) | (simp; omega)⟩, ?_⟩)
    refine ⟨_, Ent.keepK [] _, ?_, rfl⟩
    simp only [eqFsF, h5', Bool.false_and, Bool.and_false]; rfl
  have h5' : (a.failAt == b.failAt) = true := by simpa using h5
  repeat (first | refine ⟨rfl, ?_⟩ | refine ⟨trivial, ?_⟩ | refine Br.pos (by assumption) ?_ | refine Br.neg (by assumption) ?_ | refine Br.pos rfl ?_ | refine Br.neg rfl ?_ | refine Br.pos (decide_eq_true (by omega)) ?_ | refine Br.neg (decide_eq_false (by omega)) ?_ | refine ⟨⟨by first | exact Nat.le_of_ble_eq_true rfl | omega | (simp; done) | (simp; omega)⟩, ?_⟩)
  refine Br.mk (fun h6 => ?_) (fun h6 => ?_)
  · have h6' : (a.down == b.down) = false := by simpa using h6
    repeat (first | refine ⟨rfl, ?_⟩ | refine ⟨trivial, ?_⟩ | refine Br.pos (by assumption) ?_ | refine Br.neg (by assumption) ?_ | refine Br.pos rfl ?_ | refine Br.neg rfl ?_ | refine Br.pos (decide_eq_true (by omega)) ?_ | refine Br.neg (decide_eq_false (by omega)) ?_ | refine ⟨⟨by first | exact Nat.le_of_ble_eq_true rfl | omega | (simp; done) | (simp; omega)⟩, ?_⟩)
    refine ⟨_, Ent.keepK [] _, ?_, rfl⟩
    simp only [eqFsF, h6', Bool.and_false]; rfl
  have h6' : (a.down == b.down) = true := by simpa using h6
  repeat (first | refine ⟨rfl, ?_⟩ | refine ⟨trivial, ?_⟩ | refine Br.pos (by assumption) ?_ | refine Br.neg (by assumption) ?_ | refine Br.pos rfl ?_ | refine Br.neg rfl ?_ | refine Br.pos (decide_eq_true (by omega)) ?_ | refine Br.neg (decide_eq_false (by omega)) ?_ | refine ⟨⟨by first | exact Nat.le_of_ble_eq_true rfl | omega | (simp; done) | (simp; omega)⟩, ?_⟩)
  refine ⟨_, Ent.keepK [] _, ?_, rfl⟩
  simp only [eqFsF, h1', h2', h3', h4', h5', h6', Bool.and_self]; rfl

/-! ### Marks -/
def digitB (m : Int) : ByteArray := ofBytes [IntKind.wrap .u8 (IntKind.wrap .i64 (48 + m.tmod 10))]
def markGo : Nat → Int → ByteArray → ByteArray
  | 0, _, out => out
  | n + 1, m, out => if decide (m > 0) = true then markGo n (m.tdiv 10) (digitB m ++ out) else out
def markT (k : Int) : ByteArray := if decide (k ≤ 0) = true then ⟨#[109, 48]⟩ else ⟨#[109]⟩ ++ markGo (k.toNat + 1) k ⟨#[]⟩

theorem markText_spec (k : Int) (hk : k ≤ 1000000000) : AC Try.prog 45 [scI k] [] fun r h => r = scS (markT k) ∧ h = [] := by
  refine AC.of_body (T := tab) (fn := Try.f45) (rs := [.tmp 2]) (N := 20) Try.func45 rfl rfl rfl (by simp) ?_
  repeat (first | refine ⟨rfl, ?_⟩ | refine ⟨trivial, ?_⟩ | refine Br.pos (by assumption) ?_ | refine Br.neg (by assumption) ?_ | refine Br.pos rfl ?_ | refine Br.neg rfl ?_ | refine Br.pos (decide_eq_true (by omega)) ?_ | refine Br.neg (decide_eq_false (by omega)) ?_ | refine ⟨⟨by first | exact Nat.le_of_ble_eq_true rfl | omega | (simp; done) | (simp; omega)⟩, ?_⟩)
  refine Br.mk (fun h1 => ?_) (fun h1 => ?_)
  · repeat (first | refine ⟨rfl, ?_⟩ | refine ⟨trivial, ?_⟩ | refine Br.pos (by assumption) ?_ | refine Br.neg (by assumption) ?_ | refine Br.pos rfl ?_ | refine Br.neg rfl ?_ | refine Br.pos (decide_eq_true (by omega)) ?_ | refine Br.neg (decide_eq_false (by omega)) ?_ | refine ⟨⟨by first | exact Nat.le_of_ble_eq_true rfl | omega | (simp; done) | (simp; omega)⟩, ?_⟩)
    refine ⟨_, Ent.keepK [] _, ?_, rfl⟩
    simp only [markT, h1, if_true]; rfl
  have h1' := of_decide_eq_false h1
  have hv : markT k = ⟨#[109]⟩ ++ markGo (k.toNat + 1) k ⟨#[]⟩ := by simp only [markT, h1, if_false, Bool.false_eq_true]
  rw [hv]
  repeat (first | refine ⟨rfl, ?_⟩ | refine ⟨trivial, ?_⟩ | refine Br.pos (by assumption) ?_ | refine Br.neg (by assumption) ?_ | refine Br.pos rfl ?_ | refine Br.neg rfl ?_ | refine Br.pos (decide_eq_true (by omega)) ?_ | refine Br.neg (decide_eq_false (by omega)) ?_ | refine ⟨⟨by first | exact Nat.le_of_ble_eq_true rfl | omega | (simp; done) | (simp; omega)⟩, ?_⟩)
  refine ⟨fun n s => ∃ (m : Int) (out : ByteArray), 0 ≤ m ∧ m ≤ k ∧ out.size + m.toNat ≤ k.toNat ∧ markGo (m.toNat + 1) m out = markGo (k.toNat + 1) k ⟨#[]⟩ ∧ n = m.toNat ∧ s = { ts := [(3, scS out), (0, scI m)], hs := [] }, k.toNat, _, Ent.to [] ?_ ?_, ⟨k, ⟨#[]⟩, by omega, by omega, by simp [ByteArray.size], rfl, rfl, rfl⟩, ?_⟩
  · rfl
  · exact ⟨rfl, rfl, trivial⟩
  rintro n s ⟨m, out, hm0, hmk, hsz, hgo, rfl, rfl⟩
  repeat (first | refine ⟨rfl, ?_⟩ | refine ⟨trivial, ?_⟩ | refine Br.pos (by assumption) ?_ | refine Br.neg (by assumption) ?_ | refine Br.pos rfl ?_ | refine Br.neg rfl ?_ | refine Br.pos (decide_eq_true (by omega)) ?_ | refine Br.neg (decide_eq_false (by omega)) ?_ | refine ⟨⟨by first | exact Nat.le_of_ble_eq_true rfl | omega | (simp; done) | (simp; omega)⟩, ?_⟩)
  refine Br.mk (fun hc => ?_) (fun hc => ?_)
  · have hc' := of_decide_eq_true hc
    have hd1 : m.tdiv 10 = m / 10 := Int.tdiv_eq_ediv_of_nonneg (by omega)
    have e1 : IntKind.wrap .i64 (m.tdiv 10) = m.tdiv 10 := wrap64_id _ (by omega) (by omega)
    have hs1 : (digitB m).size = 1 := rfl
    repeat (first | refine ⟨rfl, ?_⟩ | refine ⟨trivial, ?_⟩ | refine Br.pos (by assumption) ?_ | refine Br.neg (by assumption) ?_ | refine Br.pos rfl ?_ | refine Br.neg rfl ?_ | refine Br.pos (decide_eq_true (by omega)) ?_ | refine Br.neg (decide_eq_false (by omega)) ?_ | refine ⟨⟨by first | exact Nat.le_of_ble_eq_true rfl | omega | (simp; done) | (simp; omega)⟩, ?_⟩)
    refine ⟨⟨by show (digitB m).size + out.size ≤ _; omega⟩, ?_⟩
    repeat (first | refine ⟨rfl, ?_⟩ | refine ⟨trivial, ?_⟩ | refine Br.pos (by assumption) ?_ | refine Br.neg (by assumption) ?_ | refine Br.pos rfl ?_ | refine Br.neg rfl ?_ | refine Br.pos (decide_eq_true (by omega)) ?_ | refine Br.neg (decide_eq_false (by omega)) ?_ | refine ⟨⟨by first | exact Nat.le_of_ble_eq_true rfl | omega | (simp; done) | (simp; omega)⟩, ?_⟩ | rw [e1])
    have hgoN : ∀ (a b : Nat) (x : Int) (o : ByteArray), x.toNat < a → x.toNat < b → 0 ≤ x → markGo a x o = markGo b x o := by
      intro a
      induction a with
      | zero => intro b x o h; omega
      | succ a ih =>
        intro b x o h1 h2 h3
        cases b with
        | zero => omega
        | succ b =>
          simp only [markGo]
          split
          · rename_i hx
            have hx := of_decide_eq_true hx
            have : x.tdiv 10 = x / 10 := Int.tdiv_eq_ediv_of_nonneg h3
            exact ih b _ _ (by omega) (by omega) (by omega)
          · rfl
    refine ⟨(m.tdiv 10).toNat, _, by omega, Ent.to [] ?_ ?_, m.tdiv 10, digitB m ++ out, by omega, by omega, ?_, ?_, rfl, rfl⟩
    · rfl
    · exact ⟨rfl, rfl, trivial⟩
    · rw [ByteArray.size_append, hs1]; omega
    · rw [← hgo]
      have h5 : m.toNat + 1 = (m.toNat - 1 + 1) + 1 := by omega
      rw [hgoN ((m.tdiv 10).toNat + 1) (m.toNat - 1 + 1) _ _ (by omega) (by omega) (by omega), h5]
      conv => rhs; unfold markGo
      rw [if_pos hc]
  · repeat (first | refine ⟨rfl, ?_⟩ | refine ⟨trivial, ?_⟩ | refine Br.pos (by assumption) ?_ | refine Br.neg (by assumption) ?_ | refine Br.pos rfl ?_ | refine Br.neg rfl ?_ | refine Br.pos (decide_eq_true (by omega)) ?_ | refine Br.neg (decide_eq_false (by omega)) ?_ | refine ⟨⟨by first | exact Nat.le_of_ble_eq_true rfl | omega | (simp; done) | (simp; omega)⟩, ?_⟩)
    refine ⟨⟨by show 1 + out.size ≤ _; omega⟩, ?_⟩
    repeat (first | refine ⟨rfl, ?_⟩ | refine ⟨trivial, ?_⟩ | refine Br.pos (by assumption) ?_ | refine Br.neg (by assumption) ?_ | refine Br.pos rfl ?_ | refine Br.neg rfl ?_ | refine Br.pos (decide_eq_true (by omega)) ?_ | refine Br.neg (decide_eq_false (by omega)) ?_ | refine ⟨⟨by first | exact Nat.le_of_ble_eq_true rfl | omega | (simp; done) | (simp; omega)⟩, ?_⟩)
    refine ⟨_, Ent.keepK [] _, ?_, rfl⟩
    have : markGo (m.toNat + 1) m out = out := by simp only [markGo, hc, if_false, Bool.false_eq_true]
    rw [← hgo, this]; rfl
end Go.Proofs.Try
