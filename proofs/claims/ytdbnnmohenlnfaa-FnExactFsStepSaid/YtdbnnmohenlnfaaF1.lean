/- The small functions of the law and of the reference. -/
import Derived.Test.YtdbnnmohenlnfaaTab
namespace Go.Proofs.Try
open Go Go.Sym
set_option linter.unusedVariables false
set_option linter.unusedSimpArgs false
set_option maxHeartbeats 8000000

structure File where
  name : ByteArray
  data : ByteArray
  synced : Int
instance : Inhabited File := ⟨⟨⟨#[]⟩, ⟨#[]⟩, 0⟩⟩
def File.enc (f : File) : List V := [.sc (.string f.name), .sc (.string f.data), .sc (.int .i64 f.synced)]

theorem l1Between_spec (x lo hi : Int) : AC Try.prog 15 [.sc (.int .i64 x), .sc (.int .i64 lo), .sc (.int .i64 hi)] [] fun r h => r = .sc (.bool (decide (lo ≤ x) && decide (x ≤ hi))) ∧ h = [] := by
  refine AC.of_body (T := tab) (fn := Try.f15) (rs := [.tmp 6]) (N := 15) Try.func15 rfl rfl rfl (by simp) ?_
  repeat (first | refine ⟨rfl, ?_⟩ | refine ⟨trivial, ?_⟩ | refine Br.pos (by assumption) ?_ | refine Br.neg (by assumption) ?_ | refine Br.pos rfl ?_ | refine Br.neg rfl ?_ | refine Br.pos (decide_eq_true (by omega)) ?_ | refine Br.neg (decide_eq_false (by omega)) ?_ | refine ⟨⟨by first | exact Nat.le_of_ble_eq_true rfl | omega | (simp; done) | (simp; omega)⟩, ?_⟩)
  refine Br.mk (fun h1 => ?_) (fun h1 => ?_)
  · repeat (first | refine ⟨rfl, ?_⟩ | refine ⟨trivial, ?_⟩ | refine Br.pos (by assumption) ?_ | refine Br.neg (by assumption) ?_ | refine Br.pos rfl ?_ | refine Br.neg rfl ?_ | refine Br.pos (decide_eq_true (by omega)) ?_ | refine Br.neg (decide_eq_false (by omega)) ?_ | refine ⟨⟨by first | exact Nat.le_of_ble_eq_true rfl | omega | (simp; done) | (simp; omega)⟩, ?_⟩)
    exact ⟨_, Ent.refl _, by rw [h1]; rfl, rfl⟩
  · repeat (first | refine ⟨rfl, ?_⟩ | refine ⟨trivial, ?_⟩ | refine Br.pos (by assumption) ?_ | refine Br.neg (by assumption) ?_ | refine Br.pos rfl ?_ | refine Br.neg rfl ?_ | refine Br.pos (decide_eq_true (by omega)) ?_ | refine Br.neg (decide_eq_false (by omega)) ?_ | refine ⟨⟨by first | exact Nat.le_of_ble_eq_true rfl | omega | (simp; done) | (simp; omega)⟩, ?_⟩)
    exact ⟨_, Ent.refl _, by rw [h1]; rfl, rfl⟩

theorem l4Letter_spec (x : Int) : AC Try.prog 30 [.sc (.int .u8 x)] [] fun r h => r = .sc (.bool (decide (x ≥ 97) && decide (x ≤ 122))) ∧ h = [] := by
  refine AC.of_body (T := tab) (fn := Try.f30) (rs := [.tmp 2]) (N := 9) Try.func30 rfl rfl rfl (by simp) ?_
  repeat (first | refine ⟨rfl, ?_⟩ | refine ⟨trivial, ?_⟩ | refine Br.pos (by assumption) ?_ | refine Br.neg (by assumption) ?_ | refine Br.pos rfl ?_ | refine Br.neg rfl ?_ | refine Br.pos (decide_eq_true (by omega)) ?_ | refine Br.neg (decide_eq_false (by omega)) ?_ | refine ⟨⟨by first | exact Nat.le_of_ble_eq_true rfl | omega | (simp; done) | (simp; omega)⟩, ?_⟩)
  refine Br.mk (fun h1 => ?_) (fun h1 => ?_)
  · repeat (first | refine ⟨rfl, ?_⟩ | refine ⟨trivial, ?_⟩ | refine Br.pos (by assumption) ?_ | refine Br.neg (by assumption) ?_ | refine Br.pos rfl ?_ | refine Br.neg rfl ?_ | refine Br.pos (decide_eq_true (by omega)) ?_ | refine Br.neg (decide_eq_false (by omega)) ?_ | refine ⟨⟨by first | exact Nat.le_of_ble_eq_true rfl | omega | (simp; done) | (simp; omega)⟩, ?_⟩)
    exact ⟨_, Ent.refl _, by rw [h1]; rfl, rfl⟩
  · repeat (first | refine ⟨rfl, ?_⟩ | refine ⟨trivial, ?_⟩ | refine Br.pos (by assumption) ?_ | refine Br.neg (by assumption) ?_ | refine Br.pos rfl ?_ | refine Br.neg rfl ?_ | refine Br.pos (decide_eq_true (by omega)) ?_ | refine Br.neg (decide_eq_false (by omega)) ?_ | refine ⟨⟨by first | exact Nat.le_of_ble_eq_true rfl | omega | (simp; done) | (simp; omega)⟩, ?_⟩)
    exact ⟨_, Ent.refl _, by rw [h1]; rfl, rfl⟩

theorem byteAt_range (s : ByteArray) (i : Nat) : 0 ≤ byteAt s i ∧ byteAt s i ≤ 255 := by
  unfold byteAt
  split
  · rename_i h
    have := UInt8.toNat_lt (s[i]'h)
    omega
  · omega
/-- A byte of a file's name. -/
def nameByte (x : Int) : Bool := (decide (x ≥ 97) && decide (x ≤ 122)) || (decide (48 ≤ x) && decide (x ≤ 57)) || (x == 45)
def isNameB (s : ByteArray) : Bool := (decide (1 ≤ s.size) && decide (s.size ≤ 30)) && (List.range s.size).all fun i => nameByte (byteAt s i)

theorem l6FileName_spec (s : ByteArray) : AC Try.prog 16 [.sc (.string s)] [] fun r h => r = .sc (.bool (isNameB s)) ∧ h = [] := by
  refine AC.of_body (T := tab) (fn := Try.f16) (rs := [.tmp 2]) (N := 33) Try.func16 rfl rfl rfl (by simp) ?_
  repeat (first | refine ⟨rfl, ?_⟩ | refine ⟨trivial, ?_⟩ | refine Br.pos (by assumption) ?_ | refine Br.neg (by assumption) ?_ | refine Br.pos rfl ?_ | refine Br.neg rfl ?_ | refine Br.pos (decide_eq_true (by omega)) ?_ | refine Br.neg (decide_eq_false (by omega)) ?_ | refine ⟨⟨by first | exact Nat.le_of_ble_eq_true rfl | omega | (simp; done) | (simp; omega)⟩, ?_⟩)
  refine CallS.val (l1Between_spec _ _ _) rfl ?_
  repeat (first | refine ⟨rfl, ?_⟩ | refine ⟨trivial, ?_⟩ | refine Br.pos (by assumption) ?_ | refine Br.neg (by assumption) ?_ | refine Br.pos rfl ?_ | refine Br.neg rfl ?_ | refine Br.pos (decide_eq_true (by omega)) ?_ | refine Br.neg (decide_eq_false (by omega)) ?_ | refine ⟨⟨by first | exact Nat.le_of_ble_eq_true rfl | omega | (simp; done) | (simp; omega)⟩, ?_⟩)
  refine Br.mk (fun h1 => ?_) (fun h1 => ?_)
  · repeat (first | refine ⟨rfl, ?_⟩ | refine ⟨trivial, ?_⟩ | refine Br.pos (by assumption) ?_ | refine Br.neg (by assumption) ?_ | refine Br.pos rfl ?_ | refine Br.neg rfl ?_ | refine Br.pos (decide_eq_true (by omega)) ?_ | refine Br.neg (decide_eq_false (by omega)) ?_ | refine ⟨⟨by first | exact Nat.le_of_ble_eq_true rfl | omega | (simp; done) | (simp; omega)⟩, ?_⟩)
    refine ⟨_, Ent.refl _, ?_, rfl⟩
    show V.sc (.bool false) = V.sc (.bool (isNameB s))
    have : (decide (1 ≤ s.size) && decide (s.size ≤ 30)) = false := by
      simp at h1 ⊢; omega
    simp only [isNameB, this, Bool.false_and]
  · repeat (first | refine ⟨rfl, ?_⟩ | refine ⟨trivial, ?_⟩ | refine Br.pos (by assumption) ?_ | refine Br.neg (by assumption) ?_ | refine Br.pos rfl ?_ | refine Br.neg rfl ?_ | refine Br.pos (decide_eq_true (by omega)) ?_ | refine Br.neg (decide_eq_false (by omega)) ?_ | refine ⟨⟨by first | exact Nat.le_of_ble_eq_true rfl | omega | (simp; done) | (simp; omega)⟩, ?_⟩)
    have hs : s.size ≤ 30 ∧ 1 ≤ s.size := by simp at h1; omega
    refine ⟨fun n st => ∃ i : Nat, i ≤ s.size ∧ (∀ j, j < i → nameByte (byteAt s j) = true) ∧ n = s.size - i ∧ st = { ts := [(3, .sc (.int .i64 i)), (0, .sc (.string s))], hs := [] }, s.size, _, Ent.to [] ?_ ?_, ⟨0, by omega, by omega, rfl, rfl⟩, ?_⟩
    · rfl
    · exact ⟨rfl, rfl, trivial⟩
    · rintro n st ⟨i, hi, hall, rfl, rfl⟩
      repeat (first | refine ⟨rfl, ?_⟩ | refine ⟨trivial, ?_⟩ | refine Br.pos (by assumption) ?_ | refine Br.neg (by assumption) ?_ | refine Br.pos rfl ?_ | refine Br.neg rfl ?_ | refine Br.pos (decide_eq_true (by omega)) ?_ | refine Br.neg (decide_eq_false (by omega)) ?_ | refine ⟨⟨by first | exact Nat.le_of_ble_eq_true rfl | omega | (simp; done) | (simp; omega)⟩, ?_⟩)
      refine Br.mk (fun hc => ?_) (fun hc => ?_)
      · have hc := of_decide_eq_true hc
        have hlt : i < s.size := by omega
        repeat (first | refine ⟨rfl, ?_⟩ | refine ⟨trivial, ?_⟩ | refine Br.pos (by assumption) ?_ | refine Br.neg (by assumption) ?_ | refine Br.pos rfl ?_ | refine Br.neg rfl ?_ | refine Br.pos (decide_eq_true (by omega)) ?_ | refine Br.neg (decide_eq_false (by omega)) ?_ | refine ⟨⟨by first | exact Nat.le_of_ble_eq_true rfl | omega | (simp; done) | (simp; omega)⟩, ?_⟩)
        refine CallS.val (l4Letter_spec _) rfl ?_
        repeat (first | refine ⟨rfl, ?_⟩ | refine ⟨trivial, ?_⟩ | refine Br.pos (by assumption) ?_ | refine Br.neg (by assumption) ?_ | refine Br.pos rfl ?_ | refine Br.neg rfl ?_ | refine Br.pos (decide_eq_true (by omega)) ?_ | refine Br.neg (decide_eq_false (by omega)) ?_ | refine ⟨⟨by first | exact Nat.le_of_ble_eq_true rfl | omega | (simp; done) | (simp; omega)⟩, ?_⟩)
        refine Br.mk (fun h2 => ?_) (fun h2 => ?_)
        · repeat (first | refine ⟨rfl, ?_⟩ | refine ⟨trivial, ?_⟩ | refine Br.pos (by assumption) ?_ | refine Br.neg (by assumption) ?_ | refine Br.pos rfl ?_ | refine Br.neg rfl ?_ | refine Br.pos (decide_eq_true (by omega)) ?_ | refine Br.neg (decide_eq_false (by omega)) ?_ | refine ⟨⟨by first | exact Nat.le_of_ble_eq_true rfl | omega | (simp; done) | (simp; omega)⟩, ?_⟩)
          refine CallS.val (l1Between_spec _ _ _) rfl ?_
          repeat (first | refine ⟨rfl, ?_⟩ | refine ⟨trivial, ?_⟩ | refine Br.pos (by assumption) ?_ | refine Br.neg (by assumption) ?_ | refine Br.pos rfl ?_ | refine Br.neg rfl ?_ | refine Br.pos (decide_eq_true (by omega)) ?_ | refine Br.neg (decide_eq_false (by omega)) ?_ | refine ⟨⟨by first | exact Nat.le_of_ble_eq_true rfl | omega | (simp; done) | (simp; omega)⟩, ?_⟩)
          refine Br.mk (fun h3 => ?_) (fun h3 => ?_)
          · repeat (first | refine ⟨rfl, ?_⟩ | refine ⟨trivial, ?_⟩ | refine Br.pos (by assumption) ?_ | refine Br.neg (by assumption) ?_ | refine Br.pos rfl ?_ | refine Br.neg rfl ?_ | refine Br.pos (decide_eq_true (by omega)) ?_ | refine Br.neg (decide_eq_false (by omega)) ?_ | refine ⟨⟨by first | exact Nat.le_of_ble_eq_true rfl | omega | (simp; done) | (simp; omega)⟩, ?_⟩)
            refine Br.mk (fun h4 => ?_) (fun h4 => ?_)
            · repeat (first | refine ⟨rfl, ?_⟩ | refine ⟨trivial, ?_⟩ | refine Br.pos (by assumption) ?_ | refine Br.neg (by assumption) ?_ | refine Br.pos rfl ?_ | refine Br.neg rfl ?_ | refine Br.pos (decide_eq_true (by omega)) ?_ | refine Br.neg (decide_eq_false (by omega)) ?_ | refine ⟨⟨by first | exact Nat.le_of_ble_eq_true rfl | omega | (simp; done) | (simp; omega)⟩, ?_⟩)
              refine ⟨_, Ent.refl _, ?_, rfl⟩
              have hb : nameByte (byteAt s i) = false := by
                have hr := byteAt_range s i; simp [wrap64_id _ (show (-9223372036854775808 : Int) ≤ byteAt s i by omega) (by omega)] at h2 h3 h4; simp [nameByte]; omega
              have : isNameB s = false := by
                simp only [isNameB, Bool.and_eq_false_iff]
                right
                rw [List.all_eq_false]
                exact ⟨i, by simpa using hlt, by simp [hb]⟩
              show V.sc (.bool false) = V.sc (.bool (isNameB s))
              rw [this]
            · repeat (first | refine ⟨rfl, ?_⟩ | refine ⟨trivial, ?_⟩ | refine Br.pos (by assumption) ?_ | refine Br.neg (by assumption) ?_ | refine Br.pos rfl ?_ | refine Br.neg rfl ?_ | refine Br.pos (decide_eq_true (by omega)) ?_ | refine Br.neg (decide_eq_false (by omega)) ?_ | refine ⟨⟨by first | exact Nat.le_of_ble_eq_true rfl | omega | (simp; done) | (simp; omega)⟩, ?_⟩)
              have hb : nameByte (byteAt s i) = true := by
                have hr := byteAt_range s i; simp [wrap64_id _ (show (-9223372036854775808 : Int) ≤ byteAt s i by omega) (by omega)] at h2 h3 h4; simp [nameByte]; omega
              refine ⟨s.size - (i + 1), _, by omega, Ent.to [] ?_ ?_, i + 1, by omega, (fun j hj => ?_), rfl, rfl⟩
              · rfl
              · refine ⟨?_, rfl, trivial⟩
                show V.sc (.int .i64 (IntKind.wrap .i64 ((i : Int) + 1))) = _
                rw [wrap64_id _ (by omega) (by omega)]; rfl
              · by_cases e : j = i
                · rw [e]; exact hb
                · exact hall j (by omega)
          · repeat (first | refine ⟨rfl, ?_⟩ | refine ⟨trivial, ?_⟩ | refine Br.pos (by assumption) ?_ | refine Br.neg (by assumption) ?_ | refine Br.pos rfl ?_ | refine Br.neg rfl ?_ | refine Br.pos (decide_eq_true (by omega)) ?_ | refine Br.neg (decide_eq_false (by omega)) ?_ | refine ⟨⟨by first | exact Nat.le_of_ble_eq_true rfl | omega | (simp; done) | (simp; omega)⟩, ?_⟩)
            have hb : nameByte (byteAt s i) = true := by
              have hr := byteAt_range s i; simp [wrap64_id _ (show (-9223372036854775808 : Int) ≤ byteAt s i by omega) (by omega)] at h2 h3; simp [nameByte]; omega
            refine ⟨s.size - (i + 1), _, by omega, Ent.to [] ?_ ?_, i + 1, by omega, (fun j hj => ?_), rfl, rfl⟩
            · rfl
            · refine ⟨?_, rfl, trivial⟩
              show V.sc (.int .i64 (IntKind.wrap .i64 ((i : Int) + 1))) = _
              rw [wrap64_id _ (by omega) (by omega)]; rfl
            · by_cases e : j = i
              · rw [e]; exact hb
              · exact hall j (by omega)
        · repeat (first | refine ⟨rfl, ?_⟩ | refine ⟨trivial, ?_⟩ | refine Br.pos (by assumption) ?_ | refine Br.neg (by assumption) ?_ | refine Br.pos rfl ?_ | refine Br.neg rfl ?_ | refine Br.pos (decide_eq_true (by omega)) ?_ | refine Br.neg (decide_eq_false (by omega)) ?_ | refine ⟨⟨by first | exact Nat.le_of_ble_eq_true rfl | omega | (simp; done) | (simp; omega)⟩, ?_⟩)
          have hb : nameByte (byteAt s i) = true := by
            simp at h2; simp [nameByte]; omega
          refine ⟨s.size - (i + 1), _, by omega, Ent.to [] ?_ ?_, i + 1, by omega, (fun j hj => ?_), rfl, rfl⟩
          · rfl
          · refine ⟨?_, rfl, trivial⟩
            show V.sc (.int .i64 (IntKind.wrap .i64 ((i : Int) + 1))) = _
            rw [wrap64_id _ (by omega) (by omega)]; rfl
          · by_cases e : j = i
            · rw [e]; exact hb
            · exact hall j (by omega)
      · have hc := of_decide_eq_false hc
        repeat (first | refine ⟨rfl, ?_⟩ | refine ⟨trivial, ?_⟩ | refine Br.pos (by assumption) ?_ | refine Br.neg (by assumption) ?_ | refine Br.pos rfl ?_ | refine Br.neg rfl ?_ | refine Br.pos (decide_eq_true (by omega)) ?_ | refine Br.neg (decide_eq_false (by omega)) ?_ | refine ⟨⟨by first | exact Nat.le_of_ble_eq_true rfl | omega | (simp; done) | (simp; omega)⟩, ?_⟩)
        refine ⟨_, Ent.refl _, ?_, rfl⟩
        have : isNameB s = true := by
          simp only [isNameB, Bool.and_eq_true, decide_eq_true_eq]
          refine ⟨by omega, ?_⟩
          rw [List.all_eq_true]
          intro j hj
          exact hall j (by have := List.mem_range.1 hj; omega)
        show V.sc (.bool true) = V.sc (.bool (isNameB s))
        rw [this]
end Go.Proofs.Try
