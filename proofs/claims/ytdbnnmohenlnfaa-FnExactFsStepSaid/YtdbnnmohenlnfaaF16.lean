/- The program's count of operations. -/
import Derived.Test.YtdbnnmohenlnfaaF15
namespace Go.Proofs.Try
open Go Go.Sym
set_option linter.unusedVariables false
set_option linter.unusedSimpArgs false
set_option maxHeartbeats 8000000

def tickF (f : Fs) : Fs × Int :=
  if f.down = true then (f, 11)
  else if (f.count == 1000000000000000) = true then (f, 12)
  else if ((f.crashAt != 0) && (f.count + 1 == f.crashAt)) = true then ({ f with count := f.count + 1, down := true }, 11)
  else if ((f.failAt != 0) && (f.count + 1 == f.failAt)) = true then ({ f with count := f.count + 1 }, 12)
  else ({ f with count := f.count + 1 }, 0)

theorem tick_spec (f : Fs) (h0 : 0 ≤ f.count) (h1 : f.count ≤ 1000000000000000) : AC Try.prog 38 [.ptr (.a 0) 0 0] [(.a 0, sysB (.a 1) f), (.a 1, .row 3 (f.files.map File.enc))] fun r h =>
      r = scI (tickF f).2 ∧ h = [(.a 0, sysB (.a 1) (tickF f).1), (.a 1, .row 3 (f.files.map File.enc))] := by
  refine AC.of_body (T := tab) (fn := Try.f38) (rs := [.tmp 2]) (N := 56) Try.func38 rfl rfl rfl (by simp) ?_
  have e1 : IntKind.wrap .i64 (f.count + 1) = f.count + 1 := wrap64_id _ (by omega) (by omega)
  repeat (first | refine ⟨rfl, ?_⟩ | refine ⟨trivial, ?_⟩ | refine Br.pos (by assumption) ?_ | refine Br.neg (by assumption) ?_ | refine Br.pos rfl ?_ | refine Br.neg rfl ?_ | refine Br.pos (decide_eq_true (by omega)) ?_ | refine Br.neg (decide_eq_false (by omega)) ?_ | refine ⟨⟨by first | exact Nat.le_of_ble_eq_true rfl | omega | (simp; done) | (simp; omega)⟩, ?_⟩)
  refine Br.mk (fun h4 => ?_) (fun h4 => ?_)
  · have hv : tickF f = (f, 11) := by simp only [tickF, h4, if_true]
    rw [hv]
    repeat (first | refine ⟨rfl, ?_⟩ | refine ⟨trivial, ?_⟩ | refine Br.pos (by assumption) ?_ | refine Br.neg (by assumption) ?_ | refine Br.pos rfl ?_ | refine Br.neg rfl ?_ | refine Br.pos (decide_eq_true (by omega)) ?_ | refine Br.neg (decide_eq_false (by omega)) ?_ | refine ⟨⟨by first | exact Nat.le_of_ble_eq_true rfl | omega | (simp; done) | (simp; omega)⟩, ?_⟩)
    exact ⟨_, Ent.keepK [.a 0, .a 1] _, rfl, rfl⟩
  repeat (first | refine ⟨rfl, ?_⟩ | refine ⟨trivial, ?_⟩ | refine Br.pos (by assumption) ?_ | refine Br.neg (by assumption) ?_ | refine Br.pos rfl ?_ | refine Br.neg rfl ?_ | refine Br.pos (decide_eq_true (by omega)) ?_ | refine Br.neg (decide_eq_false (by omega)) ?_ | refine ⟨⟨by first | exact Nat.le_of_ble_eq_true rfl | omega | (simp; done) | (simp; omega)⟩, ?_⟩)
  refine Br.mk (fun h5 => ?_) (fun h5 => ?_)
  · have hv : tickF f = (f, 12) := by simp only [tickF, h4, h5, if_true, if_false, Bool.false_eq_true]
    rw [hv]
    repeat (first | refine ⟨rfl, ?_⟩ | refine ⟨trivial, ?_⟩ | refine Br.pos (by assumption) ?_ | refine Br.neg (by assumption) ?_ | refine Br.pos rfl ?_ | refine Br.neg rfl ?_ | refine Br.pos (decide_eq_true (by omega)) ?_ | refine Br.neg (decide_eq_false (by omega)) ?_ | refine ⟨⟨by first | exact Nat.le_of_ble_eq_true rfl | omega | (simp; done) | (simp; omega)⟩, ?_⟩)
    exact ⟨_, Ent.keepK [.a 0, .a 1] _, rfl, rfl⟩
  repeat (first | refine ⟨rfl, ?_⟩ | refine ⟨trivial, ?_⟩ | refine Br.pos (by assumption) ?_ | refine Br.neg (by assumption) ?_ | refine Br.pos rfl ?_ | refine Br.neg rfl ?_ | refine Br.pos (decide_eq_true (by omega)) ?_ | refine Br.neg (decide_eq_false (by omega)) ?_ | refine ⟨⟨by first | exact Nat.le_of_ble_eq_true rfl | omega | (simp; done) | (simp; omega)⟩, ?_⟩ | rw [e1])
  refine DrawK.plan (T := tab) [] (.look 0 [0, 1, 2, 3, 4, 5, 6, 7, 8, 9, 10, 11, 12, 13, 14, 15] (.look 1 [1, 2, 3, 4, 5, 6, 7, 8, 9, 10, 11, 12, 13, 14, 15] (.look 2 [2, 3, 4, 5, 6, 7, 8, 9, 10, 11, 12, 13, 14, 15] (.look 3 [3, 4, 5, 6, 7, 8, 9, 10, 11, 12, 13, 14, 15] (.look 4 [4, 5, 6, 7, 8, 9, 10, 11, 12, 13, 14, 15] (.look 5 [5, 6, 7, 8, 9, 10, 11, 12, 13, 14, 15] (.look 6 [6, 7, 8, 9, 14, 15] (.look 7 [7, 8, 9, 14, 15] (.look 8 [8, 9, 14, 15] (.look 9 [9, 14, 15] (.look 10 [10, 11, 12, 13, 14, 15] (.look 11 [11, 12, 13, 14, 15] (.look 12 [12, 13, 14, 15] (.look 13 [13, 14, 15] (.look 14 [14, 15] (.all [(15, .done)])))))))))))))))) mixed (by decide +kernel) ?_
  repeat (first | refine ⟨rfl, ?_⟩ | refine ⟨trivial, ?_⟩ | refine Br.pos (by assumption) ?_ | refine Br.neg (by assumption) ?_ | refine Br.pos rfl ?_ | refine Br.neg rfl ?_ | refine Br.pos (decide_eq_true (by omega)) ?_ | refine Br.neg (decide_eq_false (by omega)) ?_ | refine ⟨⟨by first | exact Nat.le_of_ble_eq_true rfl | omega | (simp; done) | (simp; omega)⟩, ?_⟩)
  refine Br.mk (fun h6 => ?_) (fun h6 => ?_)
  · repeat (first | refine ⟨rfl, ?_⟩ | refine ⟨trivial, ?_⟩ | refine Br.pos (by assumption) ?_ | refine Br.neg (by assumption) ?_ | refine Br.pos rfl ?_ | refine Br.neg rfl ?_ | refine Br.pos (decide_eq_true (by omega)) ?_ | refine Br.neg (decide_eq_false (by omega)) ?_ | refine ⟨⟨by first | exact Nat.le_of_ble_eq_true rfl | omega | (simp; done) | (simp; omega)⟩, ?_⟩)
    refine Br.mk (fun h7 => ?_) (fun h7 => ?_)
    · have hv : tickF f = ({ f with count := f.count + 1, down := true }, 11) := by simp only [tickF, h4, h5, h6, h7, if_true, if_false, Bool.false_eq_true, Bool.and_self, Bool.true_and, Bool.and_false, Bool.false_and]
      rw [hv]
      repeat (first | refine ⟨rfl, ?_⟩ | refine ⟨trivial, ?_⟩ | refine Br.pos (by assumption) ?_ | refine Br.neg (by assumption) ?_ | refine Br.pos rfl ?_ | refine Br.neg rfl ?_ | refine Br.pos (decide_eq_true (by omega)) ?_ | refine Br.neg (decide_eq_false (by omega)) ?_ | refine ⟨⟨by first | exact Nat.le_of_ble_eq_true rfl | omega | (simp; done) | (simp; omega)⟩, ?_⟩)
      exact ⟨_, Ent.keepK [.a 0, .a 1] _, rfl, rfl⟩
    · repeat (first | refine ⟨rfl, ?_⟩ | refine ⟨trivial, ?_⟩ | refine Br.pos (by assumption) ?_ | refine Br.neg (by assumption) ?_ | refine Br.pos rfl ?_ | refine Br.neg rfl ?_ | refine Br.pos (decide_eq_true (by omega)) ?_ | refine Br.neg (decide_eq_false (by omega)) ?_ | refine ⟨⟨by first | exact Nat.le_of_ble_eq_true rfl | omega | (simp; done) | (simp; omega)⟩, ?_⟩)
      refine DrawK.plan (T := tab) [] (.look 0 [0, 1, 2, 3, 4, 5, 6, 7, 8, 9, 10, 11, 12, 13, 14, 15] (.look 1 [1, 2, 3, 4, 5, 6, 7, 8, 9, 10, 11, 12, 13, 14, 15] (.look 2 [2, 3, 4, 5, 6, 7, 8, 9, 10, 11, 12, 13, 14, 15] (.look 3 [3, 4, 5, 6, 7, 8, 9, 10, 11, 12, 13, 14, 15] (.look 4 [4, 5, 6, 7, 8, 9, 10, 11, 12, 13, 14, 15] (.look 5 [5, 6, 7, 8, 9, 10, 11, 12, 13, 14, 15] (.look 6 [6, 7, 8, 9, 14, 15] (.look 7 [7, 8, 9, 14, 15] (.look 8 [8, 9, 14, 15] (.look 9 [9, 14, 15] (.look 10 [10, 11, 12, 13, 14, 15] (.look 11 [11, 12, 13, 14, 15] (.look 12 [12, 13, 14, 15] (.look 13 [13, 14, 15] (.look 14 [14, 15] (.all [(15, .done)])))))))))))))))) mixed (by decide +kernel) ?_
      repeat (first | refine ⟨rfl, ?_⟩ | refine ⟨trivial, ?_⟩ | refine Br.pos (by assumption) ?_ | refine Br.neg (by assumption) ?_ | refine Br.pos rfl ?_ | refine Br.neg rfl ?_ | refine Br.pos (decide_eq_true (by omega)) ?_ | refine Br.neg (decide_eq_false (by omega)) ?_ | refine ⟨⟨by first | exact Nat.le_of_ble_eq_true rfl | omega | (simp; done) | (simp; omega)⟩, ?_⟩)
      refine Br.mk (fun h8 => ?_) (fun h8 => ?_)
      · repeat (first | refine ⟨rfl, ?_⟩ | refine ⟨trivial, ?_⟩ | refine Br.pos (by assumption) ?_ | refine Br.neg (by assumption) ?_ | refine Br.pos rfl ?_ | refine Br.neg rfl ?_ | refine Br.pos (decide_eq_true (by omega)) ?_ | refine Br.neg (decide_eq_false (by omega)) ?_ | refine ⟨⟨by first | exact Nat.le_of_ble_eq_true rfl | omega | (simp; done) | (simp; omega)⟩, ?_⟩)
        refine Br.mk (fun h9 => ?_) (fun h9 => ?_)
        · have hv : tickF f = ({ f with count := f.count + 1 }, 12) := by simp only [tickF, h4, h5, h6, h7, h8, h9, if_true, if_false, Bool.false_eq_true, Bool.and_self, Bool.true_and, Bool.and_false, Bool.false_and]
          rw [hv]
          repeat (first | refine ⟨rfl, ?_⟩ | refine ⟨trivial, ?_⟩ | refine Br.pos (by assumption) ?_ | refine Br.neg (by assumption) ?_ | refine Br.pos rfl ?_ | refine Br.neg rfl ?_ | refine Br.pos (decide_eq_true (by omega)) ?_ | refine Br.neg (decide_eq_false (by omega)) ?_ | refine ⟨⟨by first | exact Nat.le_of_ble_eq_true rfl | omega | (simp; done) | (simp; omega)⟩, ?_⟩)
          exact ⟨_, Ent.keepK [.a 0, .a 1] _, rfl, rfl⟩
        · have hv : tickF f = ({ f with count := f.count + 1 }, 0) := by simp only [tickF, h4, h5, h6, h7, h8, h9, if_true, if_false, Bool.false_eq_true, Bool.and_self, Bool.true_and, Bool.and_false, Bool.false_and]
          rw [hv]
          repeat (first | refine ⟨rfl, ?_⟩ | refine ⟨trivial, ?_⟩ | refine Br.pos (by assumption) ?_ | refine Br.neg (by assumption) ?_ | refine Br.pos rfl ?_ | refine Br.neg rfl ?_ | refine Br.pos (decide_eq_true (by omega)) ?_ | refine Br.neg (decide_eq_false (by omega)) ?_ | refine ⟨⟨by first | exact Nat.le_of_ble_eq_true rfl | omega | (simp; done) | (simp; omega)⟩, ?_⟩)
          exact ⟨_, Ent.keepK [.a 0, .a 1] _, rfl, rfl⟩
      · have hv : tickF f = ({ f with count := f.count + 1 }, 0) := by simp only [tickF, h4, h5, h6, h7, h8, if_true, if_false, Bool.false_eq_true, Bool.and_self, Bool.true_and, Bool.and_false, Bool.false_and]
        rw [hv]
        repeat (first | refine ⟨rfl, ?_⟩ | refine ⟨trivial, ?_⟩ | refine Br.pos (by assumption) ?_ | refine Br.neg (by assumption) ?_ | refine Br.pos rfl ?_ | refine Br.neg rfl ?_ | refine Br.pos (decide_eq_true (by omega)) ?_ | refine Br.neg (decide_eq_false (by omega)) ?_ | refine ⟨⟨by first | exact Nat.le_of_ble_eq_true rfl | omega | (simp; done) | (simp; omega)⟩, ?_⟩)
        exact ⟨_, Ent.keepK [.a 0, .a 1] _, rfl, rfl⟩
  · repeat (first | refine ⟨rfl, ?_⟩ | refine ⟨trivial, ?_⟩ | refine Br.pos (by assumption) ?_ | refine Br.neg (by assumption) ?_ | refine Br.pos rfl ?_ | refine Br.neg rfl ?_ | refine Br.pos (decide_eq_true (by omega)) ?_ | refine Br.neg (decide_eq_false (by omega)) ?_ | refine ⟨⟨by first | exact Nat.le_of_ble_eq_true rfl | omega | (simp; done) | (simp; omega)⟩, ?_⟩)
    refine DrawK.plan (T := tab) [] (.look 0 [0, 1, 2, 3, 4, 5, 6, 7, 8, 9, 10, 11, 12, 13, 14, 15] (.look 1 [1, 2, 3, 4, 5, 6, 7, 8, 9, 10, 11, 12, 13, 14, 15] (.look 2 [2, 3, 4, 5, 6, 7, 8, 9, 10, 11, 12, 13, 14, 15] (.look 3 [3, 4, 5, 6, 7, 8, 9, 10, 11, 12, 13, 14, 15] (.look 4 [4, 5, 6, 7, 8, 9, 10, 11, 12, 13, 14, 15] (.look 5 [5, 6, 7, 8, 9, 10, 11, 12, 13, 14, 15] (.look 6 [6, 7, 8, 9, 14, 15] (.look 7 [7, 8, 9, 14, 15] (.look 8 [8, 9, 14, 15] (.look 9 [9, 14, 15] (.look 10 [10, 11, 12, 13, 14, 15] (.look 11 [11, 12, 13, 14, 15] (.look 12 [12, 13, 14, 15] (.look 13 [13, 14, 15] (.look 14 [14, 15] (.all [(15, .done)])))))))))))))))) mixed (by decide +kernel) ?_
    repeat (first | refine ⟨rfl, ?_⟩ | refine ⟨trivial, ?_⟩ | refine Br.pos (by assumption) ?_ | refine Br.neg (by assumption) ?_ | refine Br.pos rfl ?_ | refine Br.neg rfl ?_ | refine Br.pos (decide_eq_true (by omega)) ?_ | refine Br.neg (decide_eq_false (by omega)) ?_ | refine ⟨⟨by first | exact Nat.le_of_ble_eq_true rfl | omega | (simp; done) | (simp; omega)⟩, ?_⟩)
    refine Br.mk (fun h8 => ?_) (fun h8 => ?_)
    · repeat (first | refine ⟨rfl, ?_⟩ | refine ⟨trivial, ?_⟩ | refine Br.pos (by assumption) ?_ | refine Br.neg (by assumption) ?_ | refine Br.pos rfl ?_ | refine Br.neg rfl ?_ | refine Br.pos (decide_eq_true (by omega)) ?_ | refine Br.neg (decide_eq_false (by omega)) ?_ | refine ⟨⟨by first | exact Nat.le_of_ble_eq_true rfl | omega | (simp; done) | (simp; omega)⟩, ?_⟩)
      refine Br.mk (fun h9 => ?_) (fun h9 => ?_)
      · have hv : tickF f = ({ f with count := f.count + 1 }, 12) := by simp only [tickF, h4, h5, h6, h8, h9, if_true, if_false, Bool.false_eq_true, Bool.and_self, Bool.true_and, Bool.and_false, Bool.false_and]
        rw [hv]
        repeat (first | refine ⟨rfl, ?_⟩ | refine ⟨trivial, ?_⟩ | refine Br.pos (by assumption) ?_ | refine Br.neg (by assumption) ?_ | refine Br.pos rfl ?_ | refine Br.neg rfl ?_ | refine Br.pos (decide_eq_true (by omega)) ?_ | refine Br.neg (decide_eq_false (by omega)) ?_ | refine ⟨⟨by first | exact Nat.le_of_ble_eq_true rfl | omega | (simp; done) | (simp; omega)⟩, ?_⟩)
        exact ⟨_, Ent.keepK [.a 0, .a 1] _, rfl, rfl⟩
      · have hv : tickF f = ({ f with count := f.count + 1 }, 0) := by simp only [tickF, h4, h5, h6, h8, h9, if_true, if_false, Bool.false_eq_true, Bool.and_self, Bool.true_and, Bool.and_false, Bool.false_and]
        rw [hv]
        repeat (first | refine ⟨rfl, ?_⟩ | refine ⟨trivial, ?_⟩ | refine Br.pos (by assumption) ?_ | refine Br.neg (by assumption) ?_ | refine Br.pos rfl ?_ | refine Br.neg rfl ?_ | refine Br.pos (decide_eq_true (by omega)) ?_ | refine Br.neg (decide_eq_false (by omega)) ?_ | refine ⟨⟨by first | exact Nat.le_of_ble_eq_true rfl | omega | (simp; done) | (simp; omega)⟩, ?_⟩)
        exact ⟨_, Ent.keepK [.a 0, .a 1] _, rfl, rfl⟩
    · have hv : tickF f = ({ f with count := f.count + 1 }, 0) := by simp only [tickF, h4, h5, h6, h8, if_true, if_false, Bool.false_eq_true, Bool.and_self, Bool.true_and, Bool.and_false, Bool.false_and]
      rw [hv]
      repeat (first | refine ⟨rfl, ?_⟩ | refine ⟨trivial, ?_⟩ | refine Br.pos (by assumption) ?_ | refine Br.neg (by assumption) ?_ | refine Br.pos rfl ?_ | refine Br.neg rfl ?_ | refine Br.pos (decide_eq_true (by omega)) ?_ | refine Br.neg (decide_eq_false (by omega)) ?_ | refine ⟨⟨by first | exact Nat.le_of_ble_eq_true rfl | omega | (simp; done) | (simp; omega)⟩, ?_⟩)
      exact ⟨_, Ent.keepK [.a 0, .a 1] _, rfl, rfl⟩
end Go.Proofs.Try
