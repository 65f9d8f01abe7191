/- The law's marks are found again. -/
import Derived.Test.YtdbnnmohenlnfaaF10
namespace Go.Proofs.Try
open Go Go.Sym
set_option linter.unusedVariables false
set_option linter.unusedSimpArgs false
set_option maxHeartbeats 8000000

theorem markL_len (k : Int) (n : Nat) : (markL k n).length = n := by simp [markL]
theorem markL_get (k : Int) (n i : Nat) (h : i < n) : (markL k n).getD i default = markAt k i := by simp [markL, List.getD_eq_getElem?_getD, h]

theorem heldFileS_spec (k : Int) (m : Nat) (hk : 0 ≤ k) (hl : k + 3 * m ≤ 1000000000) : AC Try.prog 27 [.rd 3 ((markL k m).map File.enc), scI k] [] fun r h => r = scI (k + 3 * m) ∧ h = [] := by
  refine AC.of_body (T := tab) (fn := Try.f27) (rs := [.tmp 4]) (N := 42) Try.func27 rfl rfl rfl (by simp) ?_
  repeat (first | refine ⟨rfl, ?_⟩ | refine ⟨trivial, ?_⟩ | refine Br.pos (by assumption) ?_ | refine Br.neg (by assumption) ?_ | refine Br.pos rfl ?_ | refine Br.neg rfl ?_ | refine Br.pos (decide_eq_true (by omega)) ?_ | refine Br.neg (decide_eq_false (by omega)) ?_ | refine ⟨⟨by first | exact Nat.le_of_ble_eq_true rfl | omega | (simp; done) | (simp; omega)⟩, ?_⟩)
  refine ⟨fun n s => ∃ i : Nat, i ≤ m ∧ n = m - i ∧ s = { ts := [(5, scI i), (1, scI (k + 3 * i)), (0, .rd 3 ((markL k m).map File.enc))], hs := [] }, m, _, Ent.to [] ?_ ?_, ⟨0, by omega, rfl, rfl⟩, ?_⟩
  · rfl
  · refine ⟨rfl, ?_, rfl, trivial⟩
    show scI k = _
    simp
  rintro n s ⟨i, hi, rfl, rfl⟩
  have hL : ((markL k m).map File.enc).length = m := by rw [List.length_map, markL_len]
  repeat (first | refine ⟨rfl, ?_⟩ | refine ⟨trivial, ?_⟩ | refine Br.pos (by assumption) ?_ | refine Br.neg (by assumption) ?_ | refine Br.pos rfl ?_ | refine Br.neg rfl ?_ | refine Br.pos (decide_eq_true (by omega)) ?_ | refine Br.neg (decide_eq_false (by omega)) ?_ | refine ⟨⟨by first | exact Nat.le_of_ble_eq_true rfl | omega | (simp; done) | (simp; omega)⟩, ?_⟩ | rw [hL])
  refine Br.mk (fun hc => ?_) (fun hc => ?_)
  · have hc := of_decide_eq_true hc
    have hlt : i < m := by omega
    have e : ((markL k m).map File.enc).getD (i : Int).toNat [] = File.enc (markAt k i) := by rw [getD_map_enc File.enc _ default (by rw [markL_len]; exact hlt), Int.toNat_natCast, markL_get _ _ _ hlt]
    have e1 : IntKind.wrap .i64 (k + 3 * i + 1) = k + 3 * i + 1 := wrap64_id _ (by omega) (by omega)
    have e2 : IntKind.wrap .i64 (k + 3 * i + 1 + 1) = k + 3 * i + 2 := by rw [wrap64_id _ (by omega) (by omega)]; omega
    have e3 : IntKind.wrap .i64 (k + 3 * i + 2 + 1) = k + 3 * (i + 1 : Nat) := by rw [wrap64_id _ (by omega) (by omega)]; omega
    refine DrawK.plan (T := tab) [] (.look 0 [0, 2, 3, 4, 7] (.look 1 [1, 2, 3, 4, 7] (.look 2 [2, 3, 4, 7] (.look 3 [3, 4, 7] (.look 4 [4, 7] (.look 5 [5, 6, 7] (.all [(6, .look 7 [7] (.done))]))))))) mixed (by decide +kernel) ?_
    repeat (first | refine ⟨rfl, ?_⟩ | refine ⟨trivial, ?_⟩ | refine Br.pos (by assumption) ?_ | refine Br.neg (by assumption) ?_ | refine Br.pos rfl ?_ | refine Br.neg rfl ?_ | refine Br.pos (decide_eq_true (by omega)) ?_ | refine Br.neg (decide_eq_false (by omega)) ?_ | refine ⟨⟨by first | exact Nat.le_of_ble_eq_true rfl | omega | (simp; done) | (simp; omega)⟩, ?_⟩ | rw [hL] | rw [e])
    refine CallS.val (markText_spec _ (by omega)) rfl ?_
    repeat (first | refine ⟨rfl, ?_⟩ | refine ⟨trivial, ?_⟩ | refine Br.pos (by assumption) ?_ | refine Br.neg (by assumption) ?_ | refine Br.pos rfl ?_ | refine Br.neg rfl ?_ | refine Br.pos (decide_eq_true (by omega)) ?_ | refine Br.neg (decide_eq_false (by omega)) ?_ | refine ⟨⟨by first | exact Nat.le_of_ble_eq_true rfl | omega | (simp; done) | (simp; omega)⟩, ?_⟩)
    refine Br.neg (by show (!((markT (k + 3 * i)).toList == (markT (k + 3 * i)).toList)) = false; simp) ?_
    repeat (first | refine ⟨rfl, ?_⟩ | refine ⟨trivial, ?_⟩ | refine Br.pos (by assumption) ?_ | refine Br.neg (by assumption) ?_ | refine Br.pos rfl ?_ | refine Br.neg rfl ?_ | refine Br.pos (decide_eq_true (by omega)) ?_ | refine Br.neg (decide_eq_false (by omega)) ?_ | refine ⟨⟨by first | exact Nat.le_of_ble_eq_true rfl | omega | (simp; done) | (simp; omega)⟩, ?_⟩ | rw [e1])
    refine DrawK.plan (T := tab) [] (.look 0 [0, 2, 3, 4, 7] (.look 1 [1, 2, 3, 4, 7] (.look 2 [2, 3, 4, 7] (.look 3 [3, 4, 7] (.look 4 [4, 7] (.look 5 [5, 6, 7] (.all [(6, .look 7 [7] (.done))]))))))) mixed (by decide +kernel) ?_
    repeat (first | refine ⟨rfl, ?_⟩ | refine ⟨trivial, ?_⟩ | refine Br.pos (by assumption) ?_ | refine Br.neg (by assumption) ?_ | refine Br.pos rfl ?_ | refine Br.neg rfl ?_ | refine Br.pos (decide_eq_true (by omega)) ?_ | refine Br.neg (decide_eq_false (by omega)) ?_ | refine ⟨⟨by first | exact Nat.le_of_ble_eq_true rfl | omega | (simp; done) | (simp; omega)⟩, ?_⟩ | rw [hL] | rw [e])
    refine CallS.val (markText_spec _ (by omega)) rfl ?_
    repeat (first | refine ⟨rfl, ?_⟩ | refine ⟨trivial, ?_⟩ | refine Br.pos (by assumption) ?_ | refine Br.neg (by assumption) ?_ | refine Br.pos rfl ?_ | refine Br.neg rfl ?_ | refine Br.pos (decide_eq_true (by omega)) ?_ | refine Br.neg (decide_eq_false (by omega)) ?_ | refine ⟨⟨by first | exact Nat.le_of_ble_eq_true rfl | omega | (simp; done) | (simp; omega)⟩, ?_⟩)
    refine Br.neg (by show (!((markT (k + 3 * i + 1)).toList == (markT (k + 3 * i + 1)).toList)) = false; simp) ?_
    repeat (first | refine ⟨rfl, ?_⟩ | refine ⟨trivial, ?_⟩ | refine Br.pos (by assumption) ?_ | refine Br.neg (by assumption) ?_ | refine Br.pos rfl ?_ | refine Br.neg rfl ?_ | refine Br.pos (decide_eq_true (by omega)) ?_ | refine Br.neg (decide_eq_false (by omega)) ?_ | refine ⟨⟨by first | exact Nat.le_of_ble_eq_true rfl | omega | (simp; done) | (simp; omega)⟩, ?_⟩ | rw [e2] | rw [hL] | rw [e])
    refine Br.neg (by show ((k + 3 * i + 2 : Int) != (k + 3 * i + 2)) = false; simp) ?_
    repeat (first | refine ⟨rfl, ?_⟩ | refine ⟨trivial, ?_⟩ | refine Br.pos (by assumption) ?_ | refine Br.neg (by assumption) ?_ | refine Br.pos rfl ?_ | refine Br.neg rfl ?_ | refine Br.pos (decide_eq_true (by omega)) ?_ | refine Br.neg (decide_eq_false (by omega)) ?_ | refine ⟨⟨by first | exact Nat.le_of_ble_eq_true rfl | omega | (simp; done) | (simp; omega)⟩, ?_⟩ | rw [e3])
    refine ⟨m - (i + 1), _, by omega, Ent.to [] ?_ ?_, i + 1, by omega, rfl, rfl⟩
    · rfl
    · refine ⟨?_, rfl, rfl, trivial⟩
      show scI (IntKind.wrap .i64 ((i : Int) + 1)) = _
      rw [wrap64_id _ (by omega) (by omega)]; rfl
  · have hc := of_decide_eq_false hc
    have h1 : i = m := by omega
    subst h1
    repeat (first | refine ⟨rfl, ?_⟩ | refine ⟨trivial, ?_⟩ | refine Br.pos (by assumption) ?_ | refine Br.neg (by assumption) ?_ | refine Br.pos rfl ?_ | refine Br.neg rfl ?_ | refine Br.pos (decide_eq_true (by omega)) ?_ | refine Br.neg (decide_eq_false (by omega)) ?_ | refine ⟨⟨by first | exact Nat.le_of_ble_eq_true rfl | omega | (simp; done) | (simp; omega)⟩, ?_⟩)
    exact ⟨_, Ent.keepK [] _, rfl, rfl⟩
theorem heldFileS_nil (k : Int) : AC Try.prog 27 [.rd 3 [], scI k] [] fun r h => r = scI k ∧ h = [] := by
  refine AC.of_body (T := tab) (fn := Try.f27) (rs := [.tmp 4]) (N := 42) Try.func27 rfl rfl rfl (by simp) ?_
  repeat (first | refine ⟨rfl, ?_⟩ | refine ⟨trivial, ?_⟩ | refine Br.pos (by assumption) ?_ | refine Br.neg (by assumption) ?_ | refine Br.pos rfl ?_ | refine Br.neg rfl ?_ | refine Br.pos (decide_eq_true (by omega)) ?_ | refine Br.neg (decide_eq_false (by omega)) ?_ | refine ⟨⟨by first | exact Nat.le_of_ble_eq_true rfl | omega | (simp; done) | (simp; omega)⟩, ?_⟩)
  refine ⟨fun n s => s = { ts := [(5, scI 0), (1, scI k), (0, .rd 3 [])], hs := [] }, 0, _, Ent.to [] ?_ ?_, rfl, ?_⟩
  · rfl
  · exact ⟨rfl, rfl, rfl, trivial⟩
  rintro n s rfl
  repeat (first | refine ⟨rfl, ?_⟩ | refine ⟨trivial, ?_⟩ | refine Br.pos (by assumption) ?_ | refine Br.neg (by assumption) ?_ | refine Br.pos rfl ?_ | refine Br.neg rfl ?_ | refine Br.pos (decide_eq_true (by omega)) ?_ | refine Br.neg (decide_eq_false (by omega)) ?_ | refine ⟨⟨by first | exact Nat.le_of_ble_eq_true rfl | omega | (simp; done) | (simp; omega)⟩, ?_⟩)
  exact ⟨_, Ent.refl _, rfl, rfl⟩
theorem heldFs_spec (k : Int) (m : Nat) (a b c d e : V) (hk : 0 ≤ k) (hl : k + 3 * m ≤ 1000000000) : AC Try.prog 12 [.agg [.rd 3 ((markL k m).map File.enc), a, b, c, d, e], scI k] [] fun r h => r = scI (k + 3 * m) ∧ h = [] := by
  refine AC.of_body (T := tab) (fn := Try.f12) (rs := [.tmp 4]) (N := 12) Try.func12 rfl rfl rfl (by simp) ?_
  repeat (first | refine ⟨rfl, ?_⟩ | refine ⟨trivial, ?_⟩ | refine Br.pos (by assumption) ?_ | refine Br.neg (by assumption) ?_ | refine Br.pos rfl ?_ | refine Br.neg rfl ?_ | refine Br.pos (decide_eq_true (by omega)) ?_ | refine Br.neg (decide_eq_false (by omega)) ?_ | refine ⟨⟨by first | exact Nat.le_of_ble_eq_true rfl | omega | (simp; done) | (simp; omega)⟩, ?_⟩)
  refine CallS.val (heldFileS_spec k m hk hl) rfl ?_
  repeat (first | refine ⟨rfl, ?_⟩ | refine ⟨trivial, ?_⟩ | refine Br.pos (by assumption) ?_ | refine Br.neg (by assumption) ?_ | refine Br.pos rfl ?_ | refine Br.neg rfl ?_ | refine Br.pos (decide_eq_true (by omega)) ?_ | refine Br.neg (decide_eq_false (by omega)) ?_ | refine ⟨⟨by first | exact Nat.le_of_ble_eq_true rfl | omega | (simp; done) | (simp; omega)⟩, ?_⟩)
  exact ⟨_, Ent.keepK [] _, rfl, rfl⟩
end Go.Proofs.Try
