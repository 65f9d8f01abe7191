/- The program's check of a file system. -/
import Derived.Test.YtdbnnmohenlnfaaF12
namespace Go.Proofs.Try
open Go Go.Sym
set_option linter.unusedVariables false
set_option linter.unusedSimpArgs false
set_option maxHeartbeats 8000000

theorem validF_A (f : Fs) (h : (decide ((f.files.length : Int) > 300) || !(btw f.cap 0 1000000000) || decide ((dataSum f.files : Int) > f.cap)) = true) : validF f = false := by
  simp only [validF, h, Bool.not_true, Bool.false_and]
theorem validF_C (f : Fs) (h : (btw f.count 0 1000000000000000 && btw f.crashAt 0 1000000000000000 && btw f.failAt 0 1000000000000000) = false) : validF f = false := by
  simp only [validF, h, Bool.and_false]
theorem btw_false (x lo hi : Int) (h : x < lo ∨ hi < x) : btw x lo hi = false := by simp [btw]; omega
theorem btw_true (x lo hi : Int) (h1 : lo ≤ x) (h2 : x ≤ hi) : btw x lo hi = true := by simp [btw]; omega

theorem FsValidI_spec (f : Fs) (hl : f.files.length ≤ 1000000000) (hs : dataSum f.files ≤ 1000000000000) :
    AC Try.prog 20 [f.rd] [] fun r h => r = scB (validF f) ∧ h = [] := by
  refine AC.of_body (T := tab) (fn := Try.f20) (rs := [.tmp 2]) (N := 92) Try.func20 rfl rfl rfl (by simp) ?_
  have out : validF f = false → V.sc (.bool false) = scB (validF f) := fun h => by rw [h]
  repeat (first | refine ⟨rfl, ?_⟩ | refine ⟨trivial, ?_⟩ | refine Br.pos (by assumption) ?_ | refine Br.neg (by assumption) ?_ | refine Br.pos rfl ?_ | refine Br.neg rfl ?_ | refine Br.pos (decide_eq_true (by omega)) ?_ | refine Br.neg (decide_eq_false (by omega)) ?_ | refine ⟨⟨by first | exact Nat.le_of_ble_eq_true rfl | omega | (simp; done) | (simp; omega)⟩, ?_⟩ | rw [List.length_map])
  refine Br.mk (fun h1 => ?_) (fun h1 => ?_)
  · repeat (first | refine ⟨rfl, ?_⟩ | refine ⟨trivial, ?_⟩ | refine Br.pos (by assumption) ?_ | refine Br.neg (by assumption) ?_ | refine Br.pos rfl ?_ | refine Br.neg rfl ?_ | refine Br.pos (decide_eq_true (by omega)) ?_ | refine Br.neg (decide_eq_false (by omega)) ?_ | refine ⟨⟨by first | exact Nat.le_of_ble_eq_true rfl | omega | (simp; done) | (simp; omega)⟩, ?_⟩)
    exact ⟨_, Ent.keepK [] _, out (validF_A f (by rw [h1]; rfl)), rfl⟩
  repeat (first | refine ⟨rfl, ?_⟩ | refine ⟨trivial, ?_⟩ | refine Br.pos (by assumption) ?_ | refine Br.neg (by assumption) ?_ | refine Br.pos rfl ?_ | refine Br.neg rfl ?_ | refine Br.pos (decide_eq_true (by omega)) ?_ | refine Br.neg (decide_eq_false (by omega)) ?_ | refine ⟨⟨by first | exact Nat.le_of_ble_eq_true rfl | omega | (simp; done) | (simp; omega)⟩, ?_⟩)
  refine Br.mk (fun h2 => ?_) (fun h2 => ?_)
  · have h2' := of_decide_eq_true h2
    repeat (first | refine ⟨rfl, ?_⟩ | refine ⟨trivial, ?_⟩ | refine Br.pos (by assumption) ?_ | refine Br.neg (by assumption) ?_ | refine Br.pos rfl ?_ | refine Br.neg rfl ?_ | refine Br.pos (decide_eq_true (by omega)) ?_ | refine Br.neg (decide_eq_false (by omega)) ?_ | refine ⟨⟨by first | exact Nat.le_of_ble_eq_true rfl | omega | (simp; done) | (simp; omega)⟩, ?_⟩)
    exact ⟨_, Ent.keepK [] _, out (validF_A f (by rw [btw_false f.cap 0 1000000000 (by omega)]; simp)), rfl⟩
  repeat (first | refine ⟨rfl, ?_⟩ | refine ⟨trivial, ?_⟩ | refine Br.pos (by assumption) ?_ | refine Br.neg (by assumption) ?_ | refine Br.pos rfl ?_ | refine Br.neg rfl ?_ | refine Br.pos (decide_eq_true (by omega)) ?_ | refine Br.neg (decide_eq_false (by omega)) ?_ | refine ⟨⟨by first | exact Nat.le_of_ble_eq_true rfl | omega | (simp; done) | (simp; omega)⟩, ?_⟩)
  refine Br.mk (fun h3 => ?_) (fun h3 => ?_)
  · have h3' := of_decide_eq_true h3
    repeat (first | refine ⟨rfl, ?_⟩ | refine ⟨trivial, ?_⟩ | refine Br.pos (by assumption) ?_ | refine Br.neg (by assumption) ?_ | refine Br.pos rfl ?_ | refine Br.neg rfl ?_ | refine Br.pos (decide_eq_true (by omega)) ?_ | refine Br.neg (decide_eq_false (by omega)) ?_ | refine ⟨⟨by first | exact Nat.le_of_ble_eq_true rfl | omega | (simp; done) | (simp; omega)⟩, ?_⟩)
    exact ⟨_, Ent.keepK [] _, out (validF_A f (by rw [btw_false f.cap 0 1000000000 (by omega)]; simp)), rfl⟩
  have h1' := of_decide_eq_false h1
  have h2' := of_decide_eq_false h2
  have h3' := of_decide_eq_false h3
  repeat (first | refine ⟨rfl, ?_⟩ | refine ⟨trivial, ?_⟩ | refine Br.pos (by assumption) ?_ | refine Br.neg (by assumption) ?_ | refine Br.pos rfl ?_ | refine Br.neg rfl ?_ | refine Br.pos (decide_eq_true (by omega)) ?_ | refine Br.neg (decide_eq_false (by omega)) ?_ | refine ⟨⟨by first | exact Nat.le_of_ble_eq_true rfl | omega | (simp; done) | (simp; omega)⟩, ?_⟩)
  refine ⟨fun n st => ∃ i : Nat, i ≤ f.files.length ∧ (∀ j, j < i → badFile f.files j = false) ∧ n = f.files.length - i ∧ st = { ts := [(25, scI i), (24, scI f.files.length), (23, .rd 3 (f.files.map File.enc)), (3, scI (dataSum (f.files.take i))), (1, .ptr (.t 1) 0 0)], hs := [(.t 1, .box [.rd 3 (f.files.map File.enc), scI f.cap, scI f.count, scI f.crashAt, scI f.failAt, scB f.down])] }, f.files.length, _, Ent.to [.t 1] ?_ ?_, ⟨0, by omega, by omega, rfl, rfl⟩, ?_⟩
  · rfl
  · exact ⟨rfl, by simp; rfl, rfl, rfl, rfl, trivial⟩
  rintro n st ⟨i, hi, hall, rfl, rfl⟩
  repeat (first | refine ⟨rfl, ?_⟩ | refine ⟨trivial, ?_⟩ | refine Br.pos (by assumption) ?_ | refine Br.neg (by assumption) ?_ | refine Br.pos rfl ?_ | refine Br.neg rfl ?_ | refine Br.pos (decide_eq_true (by omega)) ?_ | refine Br.neg (decide_eq_false (by omega)) ?_ | refine ⟨⟨by first | exact Nat.le_of_ble_eq_true rfl | omega | (simp; done) | (simp; omega)⟩, ?_⟩)
  refine Br.mk (fun hc => ?_) (fun hc => ?_)
  · have hc := of_decide_eq_true hc
    have hlt : i < f.files.length := by omega
    have e : (f.files.map File.enc).getD (i : Int).toNat [] = File.enc (f.files.getD i default) := getD_map_enc _ _ _ hlt
    have g1 := dataSum_succ f.files i hlt
    have g2 := dataSum_le f.files (i + 1)
    have e4 : IntKind.wrap .i64 ((dataSum (f.files.take i) : Int) + ((f.files.getD i default).data.size : Int)) = (dataSum (f.files.take (i + 1)) : Int) := by rw [wrap64_id _ (by omega) (by omega), g1]; rfl
    have e5 : IntKind.wrap .i64 ((i : Int) + 1) = ((i + 1 : Nat) : Int) := by rw [wrap64_id _ (by omega) (by omega)]; rfl
    have bad : badFile f.files i = true → V.sc (.bool false) = scB (validF f) := fun h => out (validF_bad f hlt h)
    have hnext : badFile f.files i = false → ∀ j, j < i + 1 → badFile f.files j = false := fun hb j hj => by
      by_cases e : j = i
      · rw [e]; exact hb
      · exact hall j (by omega)
    repeat (first | refine ⟨rfl, ?_⟩ | refine ⟨trivial, ?_⟩ | refine Br.pos (by assumption) ?_ | refine Br.neg (by assumption) ?_ | refine Br.pos rfl ?_ | refine Br.neg rfl ?_ | refine Br.pos (decide_eq_true (by omega)) ?_ | refine Br.neg (decide_eq_false (by omega)) ?_ | refine ⟨⟨by first | exact Nat.le_of_ble_eq_true rfl | omega | (simp; done) | (simp; omega)⟩, ?_⟩ | rw [e])
    refine DrawK.plan (T := tab) [] (.look 0 [0, 1, 2, 3, 4, 5, 6, 7, 8, 9, 10, 11, 12, 13, 14, 15, 16, 17, 18, 19, 20, 21, 22, 23, 24, 25, 26, 27, 28, 29, 30, 31, 32] (.look 1 [1, 2, 3, 4, 5, 6, 7, 8, 9, 10, 11, 12, 13, 14, 15, 16, 17, 18, 19, 20, 21, 22, 23, 24, 25, 26, 27, 28, 29, 30, 31, 32] (.all [(2, .look 3 [3, 4, 5, 6, 7, 8, 9, 10, 11, 12, 13, 14, 15, 16, 17, 18, 19, 20, 21, 22, 23, 24, 25, 26, 27, 28, 29, 30, 31, 32] (.look 4 [4, 5, 6, 7, 8, 9, 10, 11, 12, 13, 14, 15, 16, 17, 18, 19, 20, 21, 22, 23, 24, 25, 26, 27, 28, 29, 30, 31, 32] (.look 5 [5, 6, 7, 8, 9, 10, 11, 12, 13, 14, 15, 16, 17, 18, 19, 20, 21, 22, 23, 24, 25, 26, 27, 28, 29, 30, 31, 32] (.look 6 [6, 7, 8, 9, 10, 11, 12, 13, 14, 15, 16, 17, 18, 19, 20, 21, 22, 23, 24, 25, 26, 27, 28, 29, 30, 31, 32] (.look 7 [7, 8, 9, 10, 11, 12, 13, 14, 15, 16, 17, 18, 19, 20, 21, 22, 23, 24, 25, 26, 27, 28, 29, 30, 31, 32] (.all [(8, .look 9 [9, 10, 11, 12, 13, 14, 15, 16, 17, 18, 19, 20, 21, 22, 23, 24, 25, 26, 27, 28, 29, 30, 31, 32] (.look 10 [10, 11, 15, 16, 17, 18, 19, 20, 21, 22, 23, 24, 25, 26, 27, 28, 29, 30, 31, 32] (.look 11 [11, 15, 16, 17, 18, 19, 20, 21, 22, 23, 24, 25, 26, 27, 28, 29, 30, 31, 32] (.look 12 [12, 13, 14, 15, 16, 17, 18, 19, 20, 21, 22, 23, 24, 25, 26, 27, 28, 29, 30, 31, 32] (.look 13 [13, 14, 15, 16, 17, 18, 19, 20, 21, 22, 23, 24, 25, 26, 27, 28, 29, 30, 31, 32] (.look 14 [14, 15, 16, 17, 18, 19, 20, 21, 22, 23, 24, 25, 26, 27, 28, 29, 30, 31, 32] (.look 15 [15, 16, 17, 18, 19, 20, 21, 22, 23, 24, 25, 26, 27, 28, 29, 30, 31, 32] (.all [(16, .look 17 [17, 18, 19, 20, 21, 22, 23, 24, 25, 26, 27, 28, 29, 30, 31, 32] (.look 18 [18, 19, 20, 21, 22, 23, 24, 25, 26, 27, 28, 29, 30, 31, 32] (.look 19 [19, 20, 21, 22, 23, 24, 25, 26, 27, 28, 29, 30, 31, 32] (.look 20 [20, 21, 22, 23, 24, 25, 26, 27, 28, 29, 30, 31, 32] (.look 21 [21, 22, 25, 26, 27, 30, 31, 32] (.look 22 [22, 25, 26, 27, 30, 31, 32] (.look 23 [23, 24, 25, 26, 27, 30, 31, 32] (.look 24 [24, 25, 26, 27, 30, 31, 32] (.look 25 [25, 26, 27, 30, 31, 32] (.look 26 [26, 27, 30, 31, 32] (.look 27 [27, 30, 31, 32] (.look 28 [28, 29, 30, 31, 32] (.look 29 [29, 30, 31, 32] (.look 30 [30, 31, 32] (.all [(31, .all [(32, .done)])])))))))))))))))]))))))))]))))))]))) mixed (by decide +kernel) ?_
    repeat (first | refine ⟨rfl, ?_⟩ | refine ⟨trivial, ?_⟩ | refine Br.pos (by assumption) ?_ | refine Br.neg (by assumption) ?_ | refine Br.pos rfl ?_ | refine Br.neg rfl ?_ | refine Br.pos (decide_eq_true (by omega)) ?_ | refine Br.neg (decide_eq_false (by omega)) ?_ | refine ⟨⟨by first | exact Nat.le_of_ble_eq_true rfl | omega | (simp; done) | (simp; omega)⟩, ?_⟩)
    refine CallS.val (isFileName_spec _) rfl ?_
    repeat (first | refine ⟨rfl, ?_⟩ | refine ⟨trivial, ?_⟩ | refine Br.pos (by assumption) ?_ | refine Br.neg (by assumption) ?_ | refine Br.pos rfl ?_ | refine Br.neg rfl ?_ | refine Br.pos (decide_eq_true (by omega)) ?_ | refine Br.neg (decide_eq_false (by omega)) ?_ | refine ⟨⟨by first | exact Nat.le_of_ble_eq_true rfl | omega | (simp; done) | (simp; omega)⟩, ?_⟩)
    refine Br.mk (fun h4 => ?_) (fun h4 => ?_)
    · repeat (first | refine ⟨rfl, ?_⟩ | refine ⟨trivial, ?_⟩ | refine Br.pos (by assumption) ?_ | refine Br.neg (by assumption) ?_ | refine Br.pos rfl ?_ | refine Br.neg rfl ?_ | refine Br.pos (decide_eq_true (by omega)) ?_ | refine Br.neg (decide_eq_false (by omega)) ?_ | refine ⟨⟨by first | exact Nat.le_of_ble_eq_true rfl | omega | (simp; done) | (simp; omega)⟩, ?_⟩)
      exact ⟨_, Ent.keepK [] _, bad (by simp only [badFile, h4, Bool.true_or]), rfl⟩
    repeat (first | refine ⟨rfl, ?_⟩ | refine ⟨trivial, ?_⟩ | refine Br.pos (by assumption) ?_ | refine Br.neg (by assumption) ?_ | refine Br.pos rfl ?_ | refine Br.neg rfl ?_ | refine Br.pos (decide_eq_true (by omega)) ?_ | refine Br.neg (decide_eq_false (by omega)) ?_ | refine ⟨⟨by first | exact Nat.le_of_ble_eq_true rfl | omega | (simp; done) | (simp; omega)⟩, ?_⟩)
    refine Br.mk (fun h5 => ?_) (fun h5 => ?_)
    · have h5' := of_decide_eq_true h5
      repeat (first | refine ⟨rfl, ?_⟩ | refine ⟨trivial, ?_⟩ | refine Br.pos (by assumption) ?_ | refine Br.neg (by assumption) ?_ | refine Br.pos rfl ?_ | refine Br.neg rfl ?_ | refine Br.pos (decide_eq_true (by omega)) ?_ | refine Br.neg (decide_eq_false (by omega)) ?_ | refine ⟨⟨by first | exact Nat.le_of_ble_eq_true rfl | omega | (simp; done) | (simp; omega)⟩, ?_⟩)
      exact ⟨_, Ent.keepK [] _, bad (by simp only [badFile, btw_false (f.files.getD i default).synced 0 (f.files.getD i default).data.size (by omega), Bool.not_false, Bool.true_or, Bool.or_true]), rfl⟩
    repeat (first | refine ⟨rfl, ?_⟩ | refine ⟨trivial, ?_⟩ | refine Br.pos (by assumption) ?_ | refine Br.neg (by assumption) ?_ | refine Br.pos rfl ?_ | refine Br.neg rfl ?_ | refine Br.pos (decide_eq_true (by omega)) ?_ | refine Br.neg (decide_eq_false (by omega)) ?_ | refine ⟨⟨by first | exact Nat.le_of_ble_eq_true rfl | omega | (simp; done) | (simp; omega)⟩, ?_⟩)
    refine Br.mk (fun h6 => ?_) (fun h6 => ?_)
    · have h6' := of_decide_eq_true h6
      repeat (first | refine ⟨rfl, ?_⟩ | refine ⟨trivial, ?_⟩ | refine Br.pos (by assumption) ?_ | refine Br.neg (by assumption) ?_ | refine Br.pos rfl ?_ | refine Br.neg rfl ?_ | refine Br.pos (decide_eq_true (by omega)) ?_ | refine Br.neg (decide_eq_false (by omega)) ?_ | refine ⟨⟨by first | exact Nat.le_of_ble_eq_true rfl | omega | (simp; done) | (simp; omega)⟩, ?_⟩)
      exact ⟨_, Ent.keepK [] _, bad (by simp only [badFile, btw_false (f.files.getD i default).synced 0 (f.files.getD i default).data.size (by omega), Bool.not_false, Bool.true_or, Bool.or_true]), rfl⟩
    have h5' := of_decide_eq_false h5
    have h6' := of_decide_eq_false h6
    have hb : (!(btw (f.files.getD i default).synced 0 (f.files.getD i default).data.size)) = false := by rw [btw_true _ _ _ (by omega) (by omega)]; rfl
    repeat (first | refine ⟨rfl, ?_⟩ | refine ⟨trivial, ?_⟩ | refine Br.pos (by assumption) ?_ | refine Br.neg (by assumption) ?_ | refine Br.pos rfl ?_ | refine Br.neg rfl ?_ | refine Br.pos (decide_eq_true (by omega)) ?_ | refine Br.neg (decide_eq_false (by omega)) ?_ | refine ⟨⟨by first | exact Nat.le_of_ble_eq_true rfl | omega | (simp; done) | (simp; omega)⟩, ?_⟩)
    refine Br.mk (fun h7 => ?_) (fun h7 => ?_)
    · have h7' : (i : Int) > 0 := of_decide_eq_true h7
      have e1 : IntKind.wrap .i64 ((i : Int) - 1) = ((i - 1 : Nat) : Int) := by rw [wrap64_id _ (by omega) (by omega)]; omega
      have e2 : (f.files.map File.enc).getD ((i - 1 : Nat) : Int).toNat [] = File.enc (f.files.getD (i - 1) default) := getD_map_enc _ _ _ (by omega)
      repeat (first | refine ⟨rfl, ?_⟩ | refine ⟨trivial, ?_⟩ | refine Br.pos (by assumption) ?_ | refine Br.neg (by assumption) ?_ | refine Br.pos rfl ?_ | refine Br.neg rfl ?_ | refine Br.pos (decide_eq_true (by omega)) ?_ | refine Br.neg (decide_eq_false (by omega)) ?_ | refine ⟨⟨by first | exact Nat.le_of_ble_eq_true rfl | omega | (simp; done) | (simp; omega)⟩, ?_⟩ | rw [e1] | rw [e2])
      refine Br.mk (fun h8 => ?_) (fun h8 => ?_)
      · repeat (first | refine ⟨rfl, ?_⟩ | refine ⟨trivial, ?_⟩ | refine Br.pos (by assumption) ?_ | refine Br.neg (by assumption) ?_ | refine Br.pos rfl ?_ | refine Br.neg rfl ?_ | refine Br.pos (decide_eq_true (by omega)) ?_ | refine Br.neg (decide_eq_false (by omega)) ?_ | refine ⟨⟨by first | exact Nat.le_of_ble_eq_true rfl | omega | (simp; done) | (simp; omega)⟩, ?_⟩)
        exact ⟨_, Ent.keepK [] _, bad (by simp only [badFile, hb, h4, h7, h8, Bool.true_or, Bool.or_true, Bool.and_self]), rfl⟩
      · repeat (first | refine ⟨rfl, ?_⟩ | refine ⟨trivial, ?_⟩ | refine Br.pos (by assumption) ?_ | refine Br.neg (by assumption) ?_ | refine Br.pos rfl ?_ | refine Br.neg rfl ?_ | refine Br.pos (decide_eq_true (by omega)) ?_ | refine Br.neg (decide_eq_false (by omega)) ?_ | refine ⟨⟨by first | exact Nat.le_of_ble_eq_true rfl | omega | (simp; done) | (simp; omega)⟩, ?_⟩ | rw [e4] | rw [e5])
        refine ⟨f.files.length - (i + 1), _, by omega, Ent.to [.t 1] ?_ ?_, i + 1, by omega, hnext (by simp only [badFile, hb, h4, h7, h8, Bool.false_or, Bool.or_false, Bool.and_false]), rfl, rfl⟩
        · rfl
        · exact ⟨rfl, rfl, rfl, rfl, rfl, trivial⟩
    · repeat (first | refine ⟨rfl, ?_⟩ | refine ⟨trivial, ?_⟩ | refine Br.pos (by assumption) ?_ | refine Br.neg (by assumption) ?_ | refine Br.pos rfl ?_ | refine Br.neg rfl ?_ | refine Br.pos (decide_eq_true (by omega)) ?_ | refine Br.neg (decide_eq_false (by omega)) ?_ | refine ⟨⟨by first | exact Nat.le_of_ble_eq_true rfl | omega | (simp; done) | (simp; omega)⟩, ?_⟩ | rw [e4] | rw [e5])
      refine ⟨f.files.length - (i + 1), _, by omega, Ent.to [.t 1] ?_ ?_, i + 1, by omega, hnext (by simp only [badFile, hb, h4, h7, Bool.false_or, Bool.or_false, Bool.false_and]), rfl, rfl⟩
      · rfl
      · exact ⟨rfl, rfl, rfl, rfl, rfl, trivial⟩
  · have hc := of_decide_eq_false hc
    have hi2 : i = f.files.length := by omega
    subst hi2
    rw [List.take_length]
    have hall' : (List.range f.files.length).all (fun i => !(badFile f.files i)) = true := by
      rw [List.all_eq_true]; intro j hj; simp [hall j (List.mem_range.1 hj)]
    repeat (first | refine ⟨rfl, ?_⟩ | refine ⟨trivial, ?_⟩ | refine Br.pos (by assumption) ?_ | refine Br.neg (by assumption) ?_ | refine Br.pos rfl ?_ | refine Br.neg rfl ?_ | refine Br.pos (decide_eq_true (by omega)) ?_ | refine Br.neg (decide_eq_false (by omega)) ?_ | refine ⟨⟨by first | exact Nat.le_of_ble_eq_true rfl | omega | (simp; done) | (simp; omega)⟩, ?_⟩)
    refine ⟨fun n st => ∃ i : Nat, i ≤ 3 ∧ (0 < i → 0 ≤ f.count ∧ f.count ≤ 1000000000000000) ∧ (1 < i → 0 ≤ f.crashAt ∧ f.crashAt ≤ 1000000000000000) ∧ (2 < i → 0 ≤ f.failAt ∧ f.failAt ≤ 1000000000000000) ∧ n = 3 - i ∧ st = { ts := [(77, scI i), (76, scI 3), (75, .row (.t 75) 0 3), (3, scI (dataSum f.files)), (1, .ptr (.t 1) 0 0)], hs := [(.t 75, .row 1 [[scI f.count], [scI f.crashAt], [scI f.failAt]]), (.t 1, .box [.rd 3 (f.files.map File.enc), scI f.cap, scI f.count, scI f.crashAt, scI f.failAt, scB f.down])] }, 3, _, Ent.to [.t 75, .t 1] ?_ ?_, ⟨0, by omega, by omega, by omega, by omega, rfl, rfl⟩, ?_⟩
    · rfl
    · exact ⟨rfl, rfl, rfl, rfl, rfl, trivial⟩
    rintro n st ⟨i, hi, q1, q2, q3, rfl, rfl⟩
    repeat (first | refine ⟨rfl, ?_⟩ | refine ⟨trivial, ?_⟩ | refine Br.pos (by assumption) ?_ | refine Br.neg (by assumption) ?_ | refine Br.pos rfl ?_ | refine Br.neg rfl ?_ | refine Br.pos (decide_eq_true (by omega)) ?_ | refine Br.neg (decide_eq_false (by omega)) ?_ | refine ⟨⟨by first | exact Nat.le_of_ble_eq_true rfl | omega | (simp; done) | (simp; omega)⟩, ?_⟩)
    refine Br.mk (fun hc => ?_) (fun hc => ?_)
    · have hc := of_decide_eq_true hc
      have e5 : IntKind.wrap .i64 ((i : Int) + 1) = ((i + 1 : Nat) : Int) := by rw [wrap64_id _ (by omega) (by omega)]; rfl
      have hi3 : i = 0 ∨ i = 1 ∨ i = 2 := by omega
      rcases hi3 with rfl | rfl | rfl
      all_goals
        repeat (first | refine ⟨rfl, ?_⟩ | refine ⟨trivial, ?_⟩ | refine Br.pos (by assumption) ?_ | refine Br.neg (by assumption) ?_ | refine Br.pos rfl ?_ | refine Br.neg rfl ?_ | refine Br.pos (decide_eq_true (by omega)) ?_ | refine Br.neg (decide_eq_false (by omega)) ?_ | refine ⟨⟨by first | exact Nat.le_of_ble_eq_true rfl | omega | (simp; done) | (simp; omega)⟩, ?_⟩)
        refine Br.mk (fun h4 => ?_) (fun h4 => ?_)
        · have h4' := of_decide_eq_true h4
          repeat (first | refine ⟨rfl, ?_⟩ | refine ⟨trivial, ?_⟩ | refine Br.pos (by assumption) ?_ | refine Br.neg (by assumption) ?_ | refine Br.pos rfl ?_ | refine Br.neg rfl ?_ | refine Br.pos (decide_eq_true (by omega)) ?_ | refine Br.neg (decide_eq_false (by omega)) ?_ | refine ⟨⟨by first | exact Nat.le_of_ble_eq_true rfl | omega | (simp; done) | (simp; omega)⟩, ?_⟩)
          exact ⟨_, Ent.keepK [] _, out (validF_C f (by simp [btw]; omega)), rfl⟩
        repeat (first | refine ⟨rfl, ?_⟩ | refine ⟨trivial, ?_⟩ | refine Br.pos (by assumption) ?_ | refine Br.neg (by assumption) ?_ | refine Br.pos rfl ?_ | refine Br.neg rfl ?_ | refine Br.pos (decide_eq_true (by omega)) ?_ | refine Br.neg (decide_eq_false (by omega)) ?_ | refine ⟨⟨by first | exact Nat.le_of_ble_eq_true rfl | omega | (simp; done) | (simp; omega)⟩, ?_⟩)
        refine Br.mk (fun h5 => ?_) (fun h5 => ?_)
        · have h5' := of_decide_eq_true h5
          repeat (first | refine ⟨rfl, ?_⟩ | refine ⟨trivial, ?_⟩ | refine Br.pos (by assumption) ?_ | refine Br.neg (by assumption) ?_ | refine Br.pos rfl ?_ | refine Br.neg rfl ?_ | refine Br.pos (decide_eq_true (by omega)) ?_ | refine Br.neg (decide_eq_false (by omega)) ?_ | refine ⟨⟨by first | exact Nat.le_of_ble_eq_true rfl | omega | (simp; done) | (simp; omega)⟩, ?_⟩)
          exact ⟨_, Ent.keepK [] _, out (validF_C f (by simp [btw]; omega)), rfl⟩
        have h4' := of_decide_eq_false h4
        have h5' := of_decide_eq_false h5
        repeat (first | refine ⟨rfl, ?_⟩ | refine ⟨trivial, ?_⟩ | refine Br.pos (by assumption) ?_ | refine Br.neg (by assumption) ?_ | refine Br.pos rfl ?_ | refine Br.neg rfl ?_ | refine Br.pos (decide_eq_true (by omega)) ?_ | refine Br.neg (decide_eq_false (by omega)) ?_ | refine ⟨⟨by first | exact Nat.le_of_ble_eq_true rfl | omega | (simp; done) | (simp; omega)⟩, ?_⟩ | rw [e5])
      · refine ⟨2, _, by omega, Ent.to [.t 75, .t 1] ?_ ?_, 1, by omega, by omega, by omega, by omega, rfl, rfl⟩
        · rfl
        · exact ⟨rfl, rfl, rfl, rfl, rfl, trivial⟩
      · refine ⟨1, _, by omega, Ent.to [.t 75, .t 1] ?_ ?_, 2, by omega, by omega, by omega, by omega, rfl, rfl⟩
        · rfl
        · exact ⟨rfl, rfl, rfl, rfl, rfl, trivial⟩
      · refine ⟨0, _, by omega, Ent.to [.t 75, .t 1] ?_ ?_, 3, by omega, by omega, by omega, by omega, rfl, rfl⟩
        · rfl
        · exact ⟨rfl, rfl, rfl, rfl, rfl, trivial⟩
    · have hc := of_decide_eq_false hc
      have h3 : i = 3 := by omega
      subst h3
      have hv : validF f = decide ((dataSum f.files : Int) ≤ f.cap) := by
        have a1 : btw f.count 0 1000000000000000 = true := btw_true _ _ _ (by omega) (by omega)
        have a2 : btw f.crashAt 0 1000000000000000 = true := btw_true _ _ _ (by omega) (by omega)
        have a3 : btw f.failAt 0 1000000000000000 = true := btw_true _ _ _ (by omega) (by omega)
        have a4 : btw f.cap 0 1000000000 = true := btw_true _ _ _ (by omega) (by omega)
        simp only [validF, hall', a1, a2, a3, a4, h1, Bool.not_true, Bool.false_or, Bool.and_true, Bool.or_false]
        by_cases hd : (dataSum f.files : Int) ≤ f.cap
        · have : ¬ (dataSum f.files : Int) > f.cap := by omega
          simp [hd, this]
        · have : (dataSum f.files : Int) > f.cap := by omega
          simp [hd, this]
      repeat (first | refine ⟨rfl, ?_⟩ | refine ⟨trivial, ?_⟩ | refine Br.pos (by assumption) ?_ | refine Br.neg (by assumption) ?_ | refine Br.pos rfl ?_ | refine Br.neg rfl ?_ | refine Br.pos (decide_eq_true (by omega)) ?_ | refine Br.neg (decide_eq_false (by omega)) ?_ | refine ⟨⟨by first | exact Nat.le_of_ble_eq_true rfl | omega | (simp; done) | (simp; omega)⟩, ?_⟩)
      refine ⟨_, Ent.keepK [] _, ?_, rfl⟩
      rw [hv]; rfl
end Go.Proofs.Try
