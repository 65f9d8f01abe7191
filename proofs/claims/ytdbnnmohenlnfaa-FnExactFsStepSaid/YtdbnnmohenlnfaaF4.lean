/- The reference's check of a file system. -/
import Derived.Test.YtdbnnmohenlnfaaF3
namespace Go.Proofs.Try
open Go Go.Sym
set_option linter.unusedVariables false
set_option linter.unusedSimpArgs false
set_option maxHeartbeats 8000000

theorem mixed : Try.prog.follows .mixedOrders = true := by kernel_rfl

structure Fs where
  files : List File
  cap : Int
  count : Int
  crashAt : Int
  failAt : Int
  down : Bool
def Fs.rest (f : Fs) : List V := [scI f.cap, scI f.count, scI f.crashAt, scI f.failAt, scB f.down]
def Fs.rd (f : Fs) : V := .agg [.rd 3 (f.files.map File.enc), scI f.cap, scI f.count, scI f.crashAt, scI f.failAt, scB f.down]

def btw (x lo hi : Int) : Bool := decide (lo ≤ x) && decide (x ≤ hi)
/-- A file that does not fit, in its place. -/
def badFile (fs : List File) (i : Nat) : Bool :=
  let f := fs.getD i default
  !(isNameB f.name) || !(btw f.synced 0 f.data.size) || (decide ((i : Int) > 0) && !(Op.bytesLess (fs.getD (i - 1) default).name.toList f.name.toList))
def validF (f : Fs) : Bool :=
  !(decide ((f.files.length : Int) > 300) || !(btw f.cap 0 1000000000) || decide ((dataSum f.files : Int) > f.cap)) &&
  (List.range f.files.length).all (fun i => !(badFile f.files i)) &&
  (btw f.count 0 1000000000000000 && btw f.crashAt 0 1000000000000000 && btw f.failAt 0 1000000000000000)

theorem validF_bad (f : Fs) {i : Nat} (hi : i < f.files.length) (h : badFile f.files i = true) : validF f = false := by
  have : (List.range f.files.length).all (fun i => !(badFile f.files i)) = false := by
    rw [List.all_eq_false]; exact ⟨i, by simpa using hi, by simp [h]⟩
  simp only [validF, this, Bool.and_false, Bool.false_and]

theorem FsValid_spec (f : Fs) (hl : f.files.length ≤ 1000000000) (hs : dataSum f.files ≤ 1000000000000) :
    AC Try.prog 14 [f.rd] [] fun r h => r = scB (validF f) ∧ h = [] := by
  refine AC.of_body (T := tab) (fn := Try.f14) (rs := [.tmp 2]) (N := 73) Try.func14 rfl rfl rfl (by simp) ?_
  repeat (first | refine ⟨rfl, ?_⟩ | refine ⟨trivial, ?_⟩ | refine Br.pos (by assumption) ?_ | refine Br.neg (by assumption) ?_ | refine Br.pos rfl ?_ | refine Br.neg rfl ?_ | refine Br.pos (decide_eq_true (by omega)) ?_ | refine Br.neg (decide_eq_false (by omega)) ?_ | refine ⟨⟨by first | exact Nat.le_of_ble_eq_true rfl | omega | (simp; done) | (simp; omega)⟩, ?_⟩)
  refine DrawK.plan (T := tab) [] (.look 0 [0, 1, 2, 3, 4, 5, 6, 7, 8, 9, 10, 11, 12, 13, 14, 15, 16] (.look 1 [1, 2, 3, 4, 5, 6, 7, 8, 9, 10, 11, 12, 13, 14, 15, 16] (.look 2 [2, 3, 4, 5, 6, 7, 8, 9, 10, 11, 12, 13, 14, 15, 16] (.look 3 [3, 4, 5, 6, 7, 8, 9, 10, 11, 12, 13, 14, 15, 16] (.look 4 [4, 5, 6, 7, 8, 9, 10, 11, 12, 13, 14, 15, 16] (.look 5 [5, 6, 7, 8, 9, 10, 11, 12, 13, 14, 15, 16] (.look 6 [6, 7, 8, 9, 10, 11, 12, 13, 14, 15, 16] (.all [(7, .look 8 [8, 9, 10, 11, 12, 13, 14, 15, 16] (.all [(9, .look 10 [10, 11, 12, 13, 14, 15, 16] (.look 11 [11, 12, 15, 16] (.look 13 [13, 14, 15, 16] (.look 14 [14, 15, 16] (.all [(12, .look 15 [15, 16] (.all [(16, .done)]))])))))]))])))))))) mixed (by decide +kernel) ?_
  have hH : ∀ b, (decide ((f.files.length : Int) > 300) || !(btw f.cap 0 1000000000) || decide ((dataSum f.files : Int) > f.cap)) = b → b = true → validF f = false := by
    intro b h1 h2; subst h1; simp only [validF, h2, Bool.not_true, Bool.false_and]
  repeat (first | refine ⟨rfl, ?_⟩ | refine ⟨trivial, ?_⟩ | refine Br.pos (by assumption) ?_ | refine Br.neg (by assumption) ?_ | refine Br.pos rfl ?_ | refine Br.neg rfl ?_ | refine Br.pos (decide_eq_true (by omega)) ?_ | refine Br.neg (decide_eq_false (by omega)) ?_ | refine ⟨⟨by first | exact Nat.le_of_ble_eq_true rfl | omega | (simp; done) | (simp; omega)⟩, ?_⟩ | rw [List.length_map])
  refine Br.mk (fun h1 => ?_) (fun h1 => ?_)
  · repeat (first | refine ⟨rfl, ?_⟩ | refine ⟨trivial, ?_⟩ | refine Br.pos (by assumption) ?_ | refine Br.neg (by assumption) ?_ | refine Br.pos rfl ?_ | refine Br.neg rfl ?_ | refine Br.pos (decide_eq_true (by omega)) ?_ | refine Br.neg (decide_eq_false (by omega)) ?_ | refine ⟨⟨by first | exact Nat.le_of_ble_eq_true rfl | omega | (simp; done) | (simp; omega)⟩, ?_⟩)
    refine ⟨_, Ent.keepK [] _, ?_, rfl⟩
    show scB false = scB (validF f)
    rw [hH _ rfl (by rw [h1]; rfl)]
  repeat (first | refine ⟨rfl, ?_⟩ | refine ⟨trivial, ?_⟩ | refine Br.pos (by assumption) ?_ | refine Br.neg (by assumption) ?_ | refine Br.pos rfl ?_ | refine Br.neg rfl ?_ | refine Br.pos (decide_eq_true (by omega)) ?_ | refine Br.neg (decide_eq_false (by omega)) ?_ | refine ⟨⟨by first | exact Nat.le_of_ble_eq_true rfl | omega | (simp; done) | (simp; omega)⟩, ?_⟩)
  refine CallS.val (l1Between_spec _ _ _) rfl ?_
  repeat (first | refine ⟨rfl, ?_⟩ | refine ⟨trivial, ?_⟩ | refine Br.pos (by assumption) ?_ | refine Br.neg (by assumption) ?_ | refine Br.pos rfl ?_ | refine Br.neg rfl ?_ | refine Br.pos (decide_eq_true (by omega)) ?_ | refine Br.neg (decide_eq_false (by omega)) ?_ | refine ⟨⟨by first | exact Nat.le_of_ble_eq_true rfl | omega | (simp; done) | (simp; omega)⟩, ?_⟩)
  refine Br.mk (fun h2 => ?_) (fun h2 => ?_)
  · repeat (first | refine ⟨rfl, ?_⟩ | refine ⟨trivial, ?_⟩ | refine Br.pos (by assumption) ?_ | refine Br.neg (by assumption) ?_ | refine Br.pos rfl ?_ | refine Br.neg rfl ?_ | refine Br.pos (decide_eq_true (by omega)) ?_ | refine Br.neg (decide_eq_false (by omega)) ?_ | refine ⟨⟨by first | exact Nat.le_of_ble_eq_true rfl | omega | (simp; done) | (simp; omega)⟩, ?_⟩)
    refine ⟨_, Ent.keepK [] _, ?_, rfl⟩
    show scB false = scB (validF f)
    rw [hH _ rfl (by show (_ || !(btw _ _ _) || _) = true; unfold btw; rw [h1, h2]; rfl)]
  repeat (first | refine ⟨rfl, ?_⟩ | refine ⟨trivial, ?_⟩ | refine Br.pos (by assumption) ?_ | refine Br.neg (by assumption) ?_ | refine Br.pos rfl ?_ | refine Br.neg rfl ?_ | refine Br.pos (decide_eq_true (by omega)) ?_ | refine Br.neg (decide_eq_false (by omega)) ?_ | refine ⟨⟨by first | exact Nat.le_of_ble_eq_true rfl | omega | (simp; done) | (simp; omega)⟩, ?_⟩)
  refine CallS.val (l6Bytes_spec f.files _ _ _ _ _ hl hs rfl) rfl ?_
  repeat (first | refine ⟨rfl, ?_⟩ | refine ⟨trivial, ?_⟩ | refine Br.pos (by assumption) ?_ | refine Br.neg (by assumption) ?_ | refine Br.pos rfl ?_ | refine Br.neg rfl ?_ | refine Br.pos (decide_eq_true (by omega)) ?_ | refine Br.neg (decide_eq_false (by omega)) ?_ | refine ⟨⟨by first | exact Nat.le_of_ble_eq_true rfl | omega | (simp; done) | (simp; omega)⟩, ?_⟩)
  refine Br.mk (fun h3 => ?_) (fun h3 => ?_)
  · repeat (first | refine ⟨rfl, ?_⟩ | refine ⟨trivial, ?_⟩ | refine Br.pos (by assumption) ?_ | refine Br.neg (by assumption) ?_ | refine Br.pos rfl ?_ | refine Br.neg rfl ?_ | refine Br.pos (decide_eq_true (by omega)) ?_ | refine Br.neg (decide_eq_false (by omega)) ?_ | refine ⟨⟨by first | exact Nat.le_of_ble_eq_true rfl | omega | (simp; done) | (simp; omega)⟩, ?_⟩)
    refine ⟨_, Ent.keepK [] _, ?_, rfl⟩
    show scB false = scB (validF f)
    rw [hH _ rfl (by show (_ || !(btw _ _ _) || _) = true; unfold btw; rw [h1, h2, h3]; rfl)]
  repeat (first | refine ⟨rfl, ?_⟩ | refine ⟨trivial, ?_⟩ | refine Br.pos (by assumption) ?_ | refine Br.neg (by assumption) ?_ | refine Br.pos rfl ?_ | refine Br.neg rfl ?_ | refine Br.pos (decide_eq_true (by omega)) ?_ | refine Br.neg (decide_eq_false (by omega)) ?_ | refine ⟨⟨by first | exact Nat.le_of_ble_eq_true rfl | omega | (simp; done) | (simp; omega)⟩, ?_⟩)
  refine ⟨fun n st => ∃ i : Nat, i ≤ f.files.length ∧ (∀ j, j < i → badFile f.files j = false) ∧ n = f.files.length - i ∧ st = { ts := [(25, scI i), (24, scI f.files.length), (23, .rd 3 (f.files.map File.enc)), (1, .ptr (.t 1) 0 0)], hs := [(.t 1, .box [.rd 3 (f.files.map File.enc), scI f.cap, scI f.count, scI f.crashAt, scI f.failAt, scB f.down])] }, f.files.length, _, Ent.to [.t 1] ?_ ?_, ⟨0, by omega, by omega, rfl, rfl⟩, ?_⟩
  · rfl
  · exact ⟨rfl, by simp; rfl, rfl, rfl, trivial⟩
  rintro n st ⟨i, hi, hall, rfl, rfl⟩
  repeat (first | refine ⟨rfl, ?_⟩ | refine ⟨trivial, ?_⟩ | refine Br.pos (by assumption) ?_ | refine Br.neg (by assumption) ?_ | refine Br.pos rfl ?_ | refine Br.neg rfl ?_ | refine Br.pos (decide_eq_true (by omega)) ?_ | refine Br.neg (decide_eq_false (by omega)) ?_ | refine ⟨⟨by first | exact Nat.le_of_ble_eq_true rfl | omega | (simp; done) | (simp; omega)⟩, ?_⟩)
  refine Br.mk (fun hc => ?_) (fun hc => ?_)
  · have hc := of_decide_eq_true hc
    have hlt : i < f.files.length := by omega
    have e : (f.files.map File.enc).getD (i : Int).toNat [] = File.enc (f.files.getD i default) := getD_map_enc _ _ _ hlt
    repeat (first | refine ⟨rfl, ?_⟩ | refine ⟨trivial, ?_⟩ | refine Br.pos (by assumption) ?_ | refine Br.neg (by assumption) ?_ | refine Br.pos rfl ?_ | refine Br.neg rfl ?_ | refine Br.pos (decide_eq_true (by omega)) ?_ | refine Br.neg (decide_eq_false (by omega)) ?_ | refine ⟨⟨by first | exact Nat.le_of_ble_eq_true rfl | omega | (simp; done) | (simp; omega)⟩, ?_⟩ | rw [e])
    refine DrawK.plan (T := tab) [] (.look 0 [0, 1, 2, 3, 4, 5, 6, 7, 8, 9, 10, 11, 12, 13, 14, 15, 16, 17, 18, 19, 20, 21, 22, 23, 24, 25, 26, 27, 28] (.look 1 [1, 2, 3, 4, 5, 6, 7, 8, 9, 10, 11, 12, 13, 14, 15, 16, 17, 18, 19, 20, 21, 22, 23, 24, 25, 26, 27, 28] (.all [(2, .look 3 [3, 4, 5, 6, 7, 8, 9, 10, 11, 12, 13, 14, 15, 16, 17, 18, 19, 20, 21, 22, 23, 24, 25, 26, 27, 28] (.look 4 [4, 5, 6, 7, 8, 9, 10, 11, 12, 13, 14, 15, 16, 17, 18, 19, 20, 21, 22, 23, 24, 25, 26, 27, 28] (.look 5 [5, 6, 10, 11, 12, 13, 14, 15, 16, 17, 18, 19, 20, 21, 22, 23, 24, 25, 26, 27, 28] (.look 6 [6, 10, 11, 12, 13, 14, 15, 16, 17, 18, 19, 20, 21, 22, 23, 24, 25, 26, 27, 28] (.look 7 [7, 8, 9, 10, 11, 12, 13, 14, 15, 16, 17, 18, 19, 20, 21, 22, 23, 24, 25, 26, 27, 28] (.look 8 [8, 9, 10, 11, 12, 13, 14, 15, 16, 17, 18, 19, 20, 21, 22, 23, 24, 25, 26, 27, 28] (.look 9 [9, 10, 11, 12, 13, 14, 15, 16, 17, 18, 19, 20, 21, 22, 23, 24, 25, 26, 27, 28] (.all [(10, .look 11 [11, 12, 13, 14, 15, 16, 17, 18, 19, 20, 21, 22, 23, 24, 25, 26, 27, 28] (.all [(12, .look 13 [13, 14, 15, 16, 17, 18, 19, 20, 21, 22, 23, 24, 25, 26, 27, 28] (.look 14 [14, 15, 16, 17, 18, 19, 20, 21, 22, 23, 24, 25, 26, 27, 28] (.look 15 [15, 16, 17, 18, 19, 20, 21, 22, 23, 24, 25, 26, 27, 28] (.look 16 [16, 17, 18, 19, 20, 21, 22, 23, 24, 25, 26, 27, 28] (.look 17 [17, 18, 21, 22, 23, 26, 27, 28] (.look 18 [18, 21, 22, 23, 26, 27, 28] (.look 19 [19, 20, 21, 22, 23, 26, 27, 28] (.look 20 [20, 21, 22, 23, 26, 27, 28] (.look 21 [21, 22, 23, 26, 27, 28] (.look 22 [22, 23, 26, 27, 28] (.look 23 [23, 26, 27, 28] (.look 24 [24, 25, 26, 27, 28] (.look 25 [25, 26, 27, 28] (.look 26 [26, 27, 28] (.all [(27, .all [(28, .done)])])))))))))))))))]))]))))))))]))) mixed (by decide +kernel) ?_
    repeat (first | refine ⟨rfl, ?_⟩ | refine ⟨trivial, ?_⟩ | refine Br.pos (by assumption) ?_ | refine Br.neg (by assumption) ?_ | refine Br.pos rfl ?_ | refine Br.neg rfl ?_ | refine Br.pos (decide_eq_true (by omega)) ?_ | refine Br.neg (decide_eq_false (by omega)) ?_ | refine ⟨⟨by first | exact Nat.le_of_ble_eq_true rfl | omega | (simp; done) | (simp; omega)⟩, ?_⟩)
    refine CallS.val (l6FileName_spec _) rfl ?_
    repeat (first | refine ⟨rfl, ?_⟩ | refine ⟨trivial, ?_⟩ | refine Br.pos (by assumption) ?_ | refine Br.neg (by assumption) ?_ | refine Br.pos rfl ?_ | refine Br.neg rfl ?_ | refine Br.pos (decide_eq_true (by omega)) ?_ | refine Br.neg (decide_eq_false (by omega)) ?_ | refine ⟨⟨by first | exact Nat.le_of_ble_eq_true rfl | omega | (simp; done) | (simp; omega)⟩, ?_⟩)
    refine Br.mk (fun h4 => ?_) (fun h4 => ?_)
    · repeat (first | refine ⟨rfl, ?_⟩ | refine ⟨trivial, ?_⟩ | refine Br.pos (by assumption) ?_ | refine Br.neg (by assumption) ?_ | refine Br.pos rfl ?_ | refine Br.neg rfl ?_ | refine Br.pos (decide_eq_true (by omega)) ?_ | refine Br.neg (decide_eq_false (by omega)) ?_ | refine ⟨⟨by first | exact Nat.le_of_ble_eq_true rfl | omega | (simp; done) | (simp; omega)⟩, ?_⟩)
      refine ⟨_, Ent.keepK [] _, ?_, rfl⟩
      show scB false = scB (validF f)
      rw [validF_bad f hlt (by simp only [badFile, h4, Bool.true_or])]
    repeat (first | refine ⟨rfl, ?_⟩ | refine ⟨trivial, ?_⟩ | refine Br.pos (by assumption) ?_ | refine Br.neg (by assumption) ?_ | refine Br.pos rfl ?_ | refine Br.neg rfl ?_ | refine Br.pos (decide_eq_true (by omega)) ?_ | refine Br.neg (decide_eq_false (by omega)) ?_ | refine ⟨⟨by first | exact Nat.le_of_ble_eq_true rfl | omega | (simp; done) | (simp; omega)⟩, ?_⟩)
    refine CallS.val (l1Between_spec _ _ _) rfl ?_
    repeat (first | refine ⟨rfl, ?_⟩ | refine ⟨trivial, ?_⟩ | refine Br.pos (by assumption) ?_ | refine Br.neg (by assumption) ?_ | refine Br.pos rfl ?_ | refine Br.neg rfl ?_ | refine Br.pos (decide_eq_true (by omega)) ?_ | refine Br.neg (decide_eq_false (by omega)) ?_ | refine ⟨⟨by first | exact Nat.le_of_ble_eq_true rfl | omega | (simp; done) | (simp; omega)⟩, ?_⟩)
    refine Br.mk (fun h5 => ?_) (fun h5 => ?_)
    · repeat (first | refine ⟨rfl, ?_⟩ | refine ⟨trivial, ?_⟩ | refine Br.pos (by assumption) ?_ | refine Br.neg (by assumption) ?_ | refine Br.pos rfl ?_ | refine Br.neg rfl ?_ | refine Br.pos (decide_eq_true (by omega)) ?_ | refine Br.neg (decide_eq_false (by omega)) ?_ | refine ⟨⟨by first | exact Nat.le_of_ble_eq_true rfl | omega | (simp; done) | (simp; omega)⟩, ?_⟩)
      refine ⟨_, Ent.keepK [] _, ?_, rfl⟩
      show scB false = scB (validF f)
      rw [validF_bad f hlt (by simp only [badFile, btw, h4, h5, Bool.true_or, Bool.or_true])]
    repeat (first | refine ⟨rfl, ?_⟩ | refine ⟨trivial, ?_⟩ | refine Br.pos (by assumption) ?_ | refine Br.neg (by assumption) ?_ | refine Br.pos rfl ?_ | refine Br.neg rfl ?_ | refine Br.pos (decide_eq_true (by omega)) ?_ | refine Br.neg (decide_eq_false (by omega)) ?_ | refine ⟨⟨by first | exact Nat.le_of_ble_eq_true rfl | omega | (simp; done) | (simp; omega)⟩, ?_⟩)
    have hnext : badFile f.files i = false → ∀ j, j < i + 1 → badFile f.files j = false := fun hb j hj => by
      by_cases e : j = i
      · rw [e]; exact hb
      · exact hall j (by omega)
    refine Br.mk (fun h6 => ?_) (fun h6 => ?_)
    · have h6' : (i : Int) > 0 := of_decide_eq_true h6
      have e1 : IntKind.wrap .i64 ((i : Int) - 1) = ((i - 1 : Nat) : Int) := by rw [wrap64_id _ (by omega) (by omega)]; omega
      have e2 : (f.files.map File.enc).getD ((i - 1 : Nat) : Int).toNat [] = File.enc (f.files.getD (i - 1) default) := getD_map_enc _ _ _ (by omega)
      repeat (first | refine ⟨rfl, ?_⟩ | refine ⟨trivial, ?_⟩ | refine Br.pos (by assumption) ?_ | refine Br.neg (by assumption) ?_ | refine Br.pos rfl ?_ | refine Br.neg rfl ?_ | refine Br.pos (decide_eq_true (by omega)) ?_ | refine Br.neg (decide_eq_false (by omega)) ?_ | refine ⟨⟨by first | exact Nat.le_of_ble_eq_true rfl | omega | (simp; done) | (simp; omega)⟩, ?_⟩ | rw [e1] | rw [e2])
      refine Br.mk (fun h7 => ?_) (fun h7 => ?_)
      · repeat (first | refine ⟨rfl, ?_⟩ | refine ⟨trivial, ?_⟩ | refine Br.pos (by assumption) ?_ | refine Br.neg (by assumption) ?_ | refine Br.pos rfl ?_ | refine Br.neg rfl ?_ | refine Br.pos (decide_eq_true (by omega)) ?_ | refine Br.neg (decide_eq_false (by omega)) ?_ | refine ⟨⟨by first | exact Nat.le_of_ble_eq_true rfl | omega | (simp; done) | (simp; omega)⟩, ?_⟩)
        refine ⟨_, Ent.keepK [] _, ?_, rfl⟩
        show scB false = scB (validF f)
        rw [validF_bad f hlt (by simp only [badFile, btw, h4, h5, h6, h7, Bool.true_or, Bool.or_true, Bool.and_self])]
      · repeat (first | refine ⟨rfl, ?_⟩ | refine ⟨trivial, ?_⟩ | refine Br.pos (by assumption) ?_ | refine Br.neg (by assumption) ?_ | refine Br.pos rfl ?_ | refine Br.neg rfl ?_ | refine Br.pos (decide_eq_true (by omega)) ?_ | refine Br.neg (decide_eq_false (by omega)) ?_ | refine ⟨⟨by first | exact Nat.le_of_ble_eq_true rfl | omega | (simp; done) | (simp; omega)⟩, ?_⟩)
        refine ⟨f.files.length - (i + 1), _, by omega, Ent.to [.t 1] ?_ ?_, i + 1, by omega, hnext (by simp only [badFile, btw, h4, h5, h6, h7, Bool.false_or, Bool.or_false, Bool.and_false]), rfl, rfl⟩
        · rfl
        · refine ⟨?_, rfl, rfl, rfl, trivial⟩
          show scI (IntKind.wrap .i64 ((i : Int) + 1)) = _
          rw [wrap64_id _ (by omega) (by omega)]; rfl
    · repeat (first | refine ⟨rfl, ?_⟩ | refine ⟨trivial, ?_⟩ | refine Br.pos (by assumption) ?_ | refine Br.neg (by assumption) ?_ | refine Br.pos rfl ?_ | refine Br.neg rfl ?_ | refine Br.pos (decide_eq_true (by omega)) ?_ | refine Br.neg (decide_eq_false (by omega)) ?_ | refine ⟨⟨by first | exact Nat.le_of_ble_eq_true rfl | omega | (simp; done) | (simp; omega)⟩, ?_⟩)
      refine ⟨f.files.length - (i + 1), _, by omega, Ent.to [.t 1] ?_ ?_, i + 1, by omega, hnext (by simp only [badFile, btw, h4, h5, h6, Bool.false_or, Bool.or_false, Bool.false_and]), rfl, rfl⟩
      · rfl
      · refine ⟨?_, rfl, rfl, rfl, trivial⟩
        show scI (IntKind.wrap .i64 ((i : Int) + 1)) = _
        rw [wrap64_id _ (by omega) (by omega)]; rfl
  · have hc := of_decide_eq_false hc
    have hall : (List.range f.files.length).all (fun i => !(badFile f.files i)) = true := by
      rw [List.all_eq_true]; intro j hj; simp [hall j (by have := List.mem_range.1 hj; omega)]
    have hv : validF f = (btw f.count 0 1000000000000000 && btw f.crashAt 0 1000000000000000 && btw f.failAt 0 1000000000000000) := by
      have : (decide ((f.files.length : Int) > 300) || !(btw f.cap 0 1000000000) || decide ((dataSum f.files : Int) > f.cap)) = false := by
        unfold btw; rw [h1, h2, h3]; rfl
      simp only [validF, hall, this, Bool.not_false, Bool.true_and, Bool.and_true]
    rw [hv]
    repeat (first | refine ⟨rfl, ?_⟩ | refine ⟨trivial, ?_⟩ | refine Br.pos (by assumption) ?_ | refine Br.neg (by assumption) ?_ | refine Br.pos rfl ?_ | refine Br.neg rfl ?_ | refine Br.pos (decide_eq_true (by omega)) ?_ | refine Br.neg (decide_eq_false (by omega)) ?_ | refine ⟨⟨by first | exact Nat.le_of_ble_eq_true rfl | omega | (simp; done) | (simp; omega)⟩, ?_⟩)
    refine CallS.val (l1Between_spec _ _ _) rfl ?_
    repeat (first | refine ⟨rfl, ?_⟩ | refine ⟨trivial, ?_⟩ | refine Br.pos (by assumption) ?_ | refine Br.neg (by assumption) ?_ | refine Br.pos rfl ?_ | refine Br.neg rfl ?_ | refine Br.pos (decide_eq_true (by omega)) ?_ | refine Br.neg (decide_eq_false (by omega)) ?_ | refine ⟨⟨by first | exact Nat.le_of_ble_eq_true rfl | omega | (simp; done) | (simp; omega)⟩, ?_⟩)
    refine Br.mk (fun h4 => ?_) (fun h4 => ?_)
    · repeat (first | refine ⟨rfl, ?_⟩ | refine ⟨trivial, ?_⟩ | refine Br.pos (by assumption) ?_ | refine Br.neg (by assumption) ?_ | refine Br.pos rfl ?_ | refine Br.neg rfl ?_ | refine Br.pos (decide_eq_true (by omega)) ?_ | refine Br.neg (decide_eq_false (by omega)) ?_ | refine ⟨⟨by first | exact Nat.le_of_ble_eq_true rfl | omega | (simp; done) | (simp; omega)⟩, ?_⟩)
      refine CallS.val (l1Between_spec _ _ _) rfl ?_
      repeat (first | refine ⟨rfl, ?_⟩ | refine ⟨trivial, ?_⟩ | refine Br.pos (by assumption) ?_ | refine Br.neg (by assumption) ?_ | refine Br.pos rfl ?_ | refine Br.neg rfl ?_ | refine Br.pos (decide_eq_true (by omega)) ?_ | refine Br.neg (decide_eq_false (by omega)) ?_ | refine ⟨⟨by first | exact Nat.le_of_ble_eq_true rfl | omega | (simp; done) | (simp; omega)⟩, ?_⟩)
      refine Br.mk (fun h5 => ?_) (fun h5 => ?_)
      · repeat (first | refine ⟨rfl, ?_⟩ | refine ⟨trivial, ?_⟩ | refine Br.pos (by assumption) ?_ | refine Br.neg (by assumption) ?_ | refine Br.pos rfl ?_ | refine Br.neg rfl ?_ | refine Br.pos (decide_eq_true (by omega)) ?_ | refine Br.neg (decide_eq_false (by omega)) ?_ | refine ⟨⟨by first | exact Nat.le_of_ble_eq_true rfl | omega | (simp; done) | (simp; omega)⟩, ?_⟩)
        refine CallS.val (l1Between_spec _ _ _) rfl ?_
        repeat (first | refine ⟨rfl, ?_⟩ | refine ⟨trivial, ?_⟩ | refine Br.pos (by assumption) ?_ | refine Br.neg (by assumption) ?_ | refine Br.pos rfl ?_ | refine Br.neg rfl ?_ | refine Br.pos (decide_eq_true (by omega)) ?_ | refine Br.neg (decide_eq_false (by omega)) ?_ | refine ⟨⟨by first | exact Nat.le_of_ble_eq_true rfl | omega | (simp; done) | (simp; omega)⟩, ?_⟩)
        refine ⟨_, Ent.keepK [] _, ?_, rfl⟩
        show scB _ = scB _
        unfold btw; rw [h4, h5]; rfl
      · repeat (first | refine ⟨rfl, ?_⟩ | refine ⟨trivial, ?_⟩ | refine Br.pos (by assumption) ?_ | refine Br.neg (by assumption) ?_ | refine Br.pos rfl ?_ | refine Br.neg rfl ?_ | refine Br.pos (decide_eq_true (by omega)) ?_ | refine Br.neg (decide_eq_false (by omega)) ?_ | refine ⟨⟨by first | exact Nat.le_of_ble_eq_true rfl | omega | (simp; done) | (simp; omega)⟩, ?_⟩)
        refine ⟨_, Ent.keepK [] _, ?_, rfl⟩
        show scB _ = scB _
        unfold btw; rw [h4, h5]; rfl
    · repeat (first | refine ⟨rfl, ?_⟩ | refine ⟨trivial, ?_⟩ | refine Br.pos (by assumption) ?_ | refine Br.neg (by assumption) ?_ | refine Br.pos rfl ?_ | refine Br.neg rfl ?_ | refine Br.pos (decide_eq_true (by omega)) ?_ | refine Br.neg (decide_eq_false (by omega)) ?_ | refine ⟨⟨by first | exact Nat.le_of_ble_eq_true rfl | omega | (simp; done) | (simp; omega)⟩, ?_⟩)
      refine ⟨_, Ent.keepK [] _, ?_, rfl⟩
      show scB _ = scB _
      unfold btw; rw [h4]; rfl
end Go.Proofs.Try
