/- The reference's FsStep. -/
import Derived.Test.YtdbnnmohenlnfaaF5
namespace Go.Proofs.Try
open Go Go.Sym
set_option linter.unusedVariables false
set_option linter.unusedSimpArgs false
set_option maxHeartbeats 8000000

/-- Is the step asked for a good one? -/
def stepOk (f : Fs) (o : Fop) : Bool := validF f && btw o.kind 1 5 && isNameB o.name
/-- A step: the files, the count, down, the code. -/
def stepF (f : Fs) (o : Fop) : List File × Int × Bool × Int :=
  if f.down = true then (f.files, f.count, true, 11)
  else if (f.count == 1000000000000000) = true then (f.files, f.count, false, 12)
  else if ((f.crashAt != 0) && (f.count + 1 == f.crashAt)) = true then (f.files, f.count + 1, true, 11)
  else if ((f.failAt != 0) && (f.count + 1 == f.failAt)) = true then (f.files, f.count + 1, false, 12)
  else ((doF { f with count := f.count + 1 } o).1, f.count + 1, false, (doF { f with count := f.count + 1 } o).2)
def stepR (f : Fs) (o : Fop) (r : V) (h : Hp) : Prop :=
  (stepOk f o = false ∧ r = .tup [.agg [.nil, scI 0, scI 0, scI 0, scI 0, scB false], scI 16] ∧ h = []) ∨
  (stepOk f o = true ∧ r = .tup [.agg [.row (.r 0) 0 (stepF f o).1.length, scI f.cap, scI (stepF f o).2.1, scI f.crashAt, scI f.failAt, scB (stepF f o).2.2.1], scI (stepF f o).2.2.2] ∧ h = [(.r 0, .row 3 ((stepF f o).1.map File.enc))])

theorem validF_bounds (f : Fs) (h : validF f = true) : f.files.length ≤ 300 ∧ 0 ≤ f.cap ∧ f.cap ≤ 1000000000 ∧ (dataSum f.files : Int) ≤ f.cap ∧ 0 ≤ f.count ∧ f.count ≤ 1000000000000000 := by
  simp [validF, btw] at h
  omega

theorem specStep_spec (f : Fs) (o : Fop) (hl : f.files.length ≤ 1000000000) (hs : dataSum f.files ≤ 1000000000000) (hd : o.data.size ≤ 1000000000) :
    AC Try.prog 6 [f.rd, .agg o.enc] [] (stepR f o) := by
  refine AC.of_body (T := tab) (fn := Try.f6) (rs := [.cell 4 31, .tmp 5]) (N := 63) Try.func6 rfl rfl rfl (by simp) ?_
  repeat (first | refine ⟨rfl, ?_⟩ | refine ⟨trivial, ?_⟩ | refine Br.pos (by assumption) ?_ | refine Br.neg (by assumption) ?_ | refine Br.pos rfl ?_ | refine Br.neg rfl ?_ | refine Br.pos (decide_eq_true (by omega)) ?_ | refine Br.neg (decide_eq_false (by omega)) ?_ | refine ⟨⟨by first | exact Nat.le_of_ble_eq_true rfl | omega | (simp; done) | (simp; omega)⟩, ?_⟩)
  refine CallS.val (FsValid_spec f hl hs) rfl ?_
  repeat (first | refine ⟨rfl, ?_⟩ | refine ⟨trivial, ?_⟩ | refine Br.pos (by assumption) ?_ | refine Br.neg (by assumption) ?_ | refine Br.pos rfl ?_ | refine Br.neg rfl ?_ | refine Br.pos (decide_eq_true (by omega)) ?_ | refine Br.neg (decide_eq_false (by omega)) ?_ | refine ⟨⟨by first | exact Nat.le_of_ble_eq_true rfl | omega | (simp; done) | (simp; omega)⟩, ?_⟩)
  have bad : stepOk f o = false → RetV (stepR f o) (.tup [.agg [.nil, scI 0, scI 0, scI 0, scI 0, scB false], scI 16]) [] := fun hb => ⟨_, Ent.refl _, .inl ⟨hb, rfl, rfl⟩⟩
  refine Br.mk (fun h1 => ?_) (fun h1 => ?_)
  · repeat (first | refine ⟨rfl, ?_⟩ | refine ⟨trivial, ?_⟩ | refine Br.pos (by assumption) ?_ | refine Br.neg (by assumption) ?_ | refine Br.pos rfl ?_ | refine Br.neg rfl ?_ | refine Br.pos (decide_eq_true (by omega)) ?_ | refine Br.neg (decide_eq_false (by omega)) ?_ | refine ⟨⟨by first | exact Nat.le_of_ble_eq_true rfl | omega | (simp; done) | (simp; omega)⟩, ?_⟩)
    refine ⟨_, Ent.keepK [] _, .inl ⟨?_, rfl, rfl⟩⟩
    have : validF f = false := by simpa using h1
    simp only [stepOk, this, Bool.false_and]
  have hv : validF f = true := by simpa using h1
  obtain ⟨b1, b2, b3, b4, b5, b6⟩ := validF_bounds f hv
  repeat (first | refine ⟨rfl, ?_⟩ | refine ⟨trivial, ?_⟩ | refine Br.pos (by assumption) ?_ | refine Br.neg (by assumption) ?_ | refine Br.pos rfl ?_ | refine Br.neg rfl ?_ | refine Br.pos (decide_eq_true (by omega)) ?_ | refine Br.neg (decide_eq_false (by omega)) ?_ | refine ⟨⟨by first | exact Nat.le_of_ble_eq_true rfl | omega | (simp; done) | (simp; omega)⟩, ?_⟩)
  refine CallS.val (l1Between_spec _ _ _) rfl ?_
  repeat (first | refine ⟨rfl, ?_⟩ | refine ⟨trivial, ?_⟩ | refine Br.pos (by assumption) ?_ | refine Br.neg (by assumption) ?_ | refine Br.pos rfl ?_ | refine Br.neg rfl ?_ | refine Br.pos (decide_eq_true (by omega)) ?_ | refine Br.neg (decide_eq_false (by omega)) ?_ | refine ⟨⟨by first | exact Nat.le_of_ble_eq_true rfl | omega | (simp; done) | (simp; omega)⟩, ?_⟩)
  refine Br.mk (fun h2 => ?_) (fun h2 => ?_)
  · repeat (first | refine ⟨rfl, ?_⟩ | refine ⟨trivial, ?_⟩ | refine Br.pos (by assumption) ?_ | refine Br.neg (by assumption) ?_ | refine Br.pos rfl ?_ | refine Br.neg rfl ?_ | refine Br.pos (decide_eq_true (by omega)) ?_ | refine Br.neg (decide_eq_false (by omega)) ?_ | refine ⟨⟨by first | exact Nat.le_of_ble_eq_true rfl | omega | (simp; done) | (simp; omega)⟩, ?_⟩)
    refine ⟨_, Ent.keepK [] _, .inl ⟨?_, rfl, rfl⟩⟩
    have : btw o.kind 1 5 = false := by simp [btw] at h2 ⊢; omega
    simp only [stepOk, this, Bool.and_false, Bool.false_and]
  have hk : btw o.kind 1 5 = true := by simp [btw] at h2 ⊢; omega
  repeat (first | refine ⟨rfl, ?_⟩ | refine ⟨trivial, ?_⟩ | refine Br.pos (by assumption) ?_ | refine Br.neg (by assumption) ?_ | refine Br.pos rfl ?_ | refine Br.neg rfl ?_ | refine Br.pos (decide_eq_true (by omega)) ?_ | refine Br.neg (decide_eq_false (by omega)) ?_ | refine ⟨⟨by first | exact Nat.le_of_ble_eq_true rfl | omega | (simp; done) | (simp; omega)⟩, ?_⟩)
  refine CallS.val (l6FileName_spec _) rfl ?_
  repeat (first | refine ⟨rfl, ?_⟩ | refine ⟨trivial, ?_⟩ | refine Br.pos (by assumption) ?_ | refine Br.neg (by assumption) ?_ | refine Br.pos rfl ?_ | refine Br.neg rfl ?_ | refine Br.pos (decide_eq_true (by omega)) ?_ | refine Br.neg (decide_eq_false (by omega)) ?_ | refine ⟨⟨by first | exact Nat.le_of_ble_eq_true rfl | omega | (simp; done) | (simp; omega)⟩, ?_⟩)
  refine Br.mk (fun h3 => ?_) (fun h3 => ?_)
  · repeat (first | refine ⟨rfl, ?_⟩ | refine ⟨trivial, ?_⟩ | refine Br.pos (by assumption) ?_ | refine Br.neg (by assumption) ?_ | refine Br.pos rfl ?_ | refine Br.neg rfl ?_ | refine Br.pos (decide_eq_true (by omega)) ?_ | refine Br.neg (decide_eq_false (by omega)) ?_ | refine ⟨⟨by first | exact Nat.le_of_ble_eq_true rfl | omega | (simp; done) | (simp; omega)⟩, ?_⟩)
    refine ⟨_, Ent.keepK [] _, .inl ⟨?_, rfl, rfl⟩⟩
    have : isNameB o.name = false := by simpa using h3
    simp only [stepOk, this, Bool.and_false]
  have hn : isNameB o.name = true := by simpa using h3
  have hok : stepOk f o = true := by simp only [stepOk, hv, hk, hn, Bool.and_self]
  have e1 : IntKind.wrap .i64 (f.count + 1) = f.count + 1 := wrap64_id _ (by omega) (by omega)
  repeat (first | refine ⟨rfl, ?_⟩ | refine ⟨trivial, ?_⟩ | refine Br.pos (by assumption) ?_ | refine Br.neg (by assumption) ?_ | refine Br.pos rfl ?_ | refine Br.neg rfl ?_ | refine Br.pos (decide_eq_true (by omega)) ?_ | refine Br.neg (decide_eq_false (by omega)) ?_ | refine ⟨⟨by first | exact Nat.le_of_ble_eq_true rfl | omega | (simp; done) | (simp; omega)⟩, ?_⟩)
  refine CallS.row1 false 1 (l6Copy_spec f.files _ _ _ _ _ (by omega) ⟨_, _, _, _, _, rfl⟩) rfl (lend_same rfl) (fun h => by cases h) rfl ?_
  repeat (first | refine ⟨rfl, ?_⟩ | refine ⟨trivial, ?_⟩ | refine Br.pos (by assumption) ?_ | refine Br.neg (by assumption) ?_ | refine Br.pos rfl ?_ | refine Br.neg rfl ?_ | refine Br.pos (decide_eq_true (by omega)) ?_ | refine Br.neg (decide_eq_false (by omega)) ?_ | refine ⟨⟨by first | exact Nat.le_of_ble_eq_true rfl | omega | (simp; done) | (simp; omega)⟩, ?_⟩)
  refine Br.mk (fun h4 => ?_) (fun h4 => ?_)
  · have hv : stepF f o = (f.files, f.count, true, 11) := by simp only [stepF, h4, if_true]
    repeat (first | refine ⟨rfl, ?_⟩ | refine ⟨trivial, ?_⟩ | refine Br.pos (by assumption) ?_ | refine Br.neg (by assumption) ?_ | refine Br.pos rfl ?_ | refine Br.neg rfl ?_ | refine Br.pos (decide_eq_true (by omega)) ?_ | refine Br.neg (decide_eq_false (by omega)) ?_ | refine ⟨⟨by first | exact Nat.le_of_ble_eq_true rfl | omega | (simp; done) | (simp; omega)⟩, ?_⟩)
    refine ⟨_, Ent.trans (Ent.mv (.c 1 0) (.r 0) rfl (by decide)) (Ent.to [.r 0] (s' := { ts := [(0, .tup [.agg [.row (.r 0) 0 f.files.length, scI f.cap, scI f.count, scI f.crashAt, scI f.failAt, scB f.down], scI 11])], hs := [(.r 0, .row 3 (f.files.map File.enc))] }) rfl ⟨rfl, trivial⟩), .inr ⟨hok, ?_, ?_⟩⟩
    · rw [hv, h4]; rfl
    · rw [hv]
  repeat (first | refine ⟨rfl, ?_⟩ | refine ⟨trivial, ?_⟩ | refine Br.pos (by assumption) ?_ | refine Br.neg (by assumption) ?_ | refine Br.pos rfl ?_ | refine Br.neg rfl ?_ | refine Br.pos (decide_eq_true (by omega)) ?_ | refine Br.neg (decide_eq_false (by omega)) ?_ | refine ⟨⟨by first | exact Nat.le_of_ble_eq_true rfl | omega | (simp; done) | (simp; omega)⟩, ?_⟩)
  refine Br.mk (fun h5 => ?_) (fun h5 => ?_)
  · have hv : stepF f o = (f.files, f.count, false, 12) := by simp only [stepF, h4, h5, if_true, if_false, Bool.false_eq_true, Bool.and_self, Bool.true_and, Bool.and_false, Bool.false_and]
    repeat (first | refine ⟨rfl, ?_⟩ | refine ⟨trivial, ?_⟩ | refine Br.pos (by assumption) ?_ | refine Br.neg (by assumption) ?_ | refine Br.pos rfl ?_ | refine Br.neg rfl ?_ | refine Br.pos (decide_eq_true (by omega)) ?_ | refine Br.neg (decide_eq_false (by omega)) ?_ | refine ⟨⟨by first | exact Nat.le_of_ble_eq_true rfl | omega | (simp; done) | (simp; omega)⟩, ?_⟩ | rw [e1])
    refine ⟨_, Ent.trans (Ent.mv (.c 1 0) (.r 0) rfl (by decide)) (Ent.to [.r 0] (s' := { ts := [(0, .tup [.agg [.row (.r 0) 0 f.files.length, scI f.cap, scI (f.count), scI f.crashAt, scI f.failAt, scB (f.down)], scI 12])], hs := [(.r 0, .row 3 (f.files.map File.enc))] }) rfl ⟨rfl, trivial⟩), .inr ⟨hok, ?_, ?_⟩⟩
    · rw [hv, h4]; rfl
    · rw [hv]
  repeat (first | refine ⟨rfl, ?_⟩ | refine ⟨trivial, ?_⟩ | refine Br.pos (by assumption) ?_ | refine Br.neg (by assumption) ?_ | refine Br.pos rfl ?_ | refine Br.neg rfl ?_ | refine Br.pos (decide_eq_true (by omega)) ?_ | refine Br.neg (decide_eq_false (by omega)) ?_ | refine ⟨⟨by first | exact Nat.le_of_ble_eq_true rfl | omega | (simp; done) | (simp; omega)⟩, ?_⟩ | rw [e1])
  refine Br.mk (fun h6 => ?_) (fun h6 => ?_)
  · repeat (first | refine ⟨rfl, ?_⟩ | refine ⟨trivial, ?_⟩ | refine Br.pos (by assumption) ?_ | refine Br.neg (by assumption) ?_ | refine Br.pos rfl ?_ | refine Br.neg rfl ?_ | refine Br.pos (decide_eq_true (by omega)) ?_ | refine Br.neg (decide_eq_false (by omega)) ?_ | refine ⟨⟨by first | exact Nat.le_of_ble_eq_true rfl | omega | (simp; done) | (simp; omega)⟩, ?_⟩ | rw [e1])
    refine Br.mk (fun h7 => ?_) (fun h7 => ?_)
    · have hv : stepF f o = (f.files, f.count + 1, true, 11) := by simp only [stepF, h4, h5, h6, h7, if_true, if_false, Bool.false_eq_true, Bool.and_self, Bool.true_and, Bool.and_false, Bool.false_and]
      repeat (first | refine ⟨rfl, ?_⟩ | refine ⟨trivial, ?_⟩ | refine Br.pos (by assumption) ?_ | refine Br.neg (by assumption) ?_ | refine Br.pos rfl ?_ | refine Br.neg rfl ?_ | refine Br.pos (decide_eq_true (by omega)) ?_ | refine Br.neg (decide_eq_false (by omega)) ?_ | refine ⟨⟨by first | exact Nat.le_of_ble_eq_true rfl | omega | (simp; done) | (simp; omega)⟩, ?_⟩ | rw [e1])
      refine ⟨_, Ent.trans (Ent.mv (.c 1 0) (.r 0) rfl (by decide)) (Ent.to [.r 0] (s' := { ts := [(0, .tup [.agg [.row (.r 0) 0 f.files.length, scI f.cap, scI (f.count + 1), scI f.crashAt, scI f.failAt, scB (true)], scI 11])], hs := [(.r 0, .row 3 (f.files.map File.enc))] }) rfl ⟨rfl, trivial⟩), .inr ⟨hok, ?_, ?_⟩⟩
      · rw [hv]; rfl
      · rw [hv]
    · repeat (first | refine ⟨rfl, ?_⟩ | refine ⟨trivial, ?_⟩ | refine Br.pos (by assumption) ?_ | refine Br.neg (by assumption) ?_ | refine Br.pos rfl ?_ | refine Br.neg rfl ?_ | refine Br.pos (decide_eq_true (by omega)) ?_ | refine Br.neg (decide_eq_false (by omega)) ?_ | refine ⟨⟨by first | exact Nat.le_of_ble_eq_true rfl | omega | (simp; done) | (simp; omega)⟩, ?_⟩ | rw [e1])
      refine Br.mk (fun h8 => ?_) (fun h8 => ?_)
      · repeat (first | refine ⟨rfl, ?_⟩ | refine ⟨trivial, ?_⟩ | refine Br.pos (by assumption) ?_ | refine Br.neg (by assumption) ?_ | refine Br.pos rfl ?_ | refine Br.neg rfl ?_ | refine Br.pos (decide_eq_true (by omega)) ?_ | refine Br.neg (decide_eq_false (by omega)) ?_ | refine ⟨⟨by first | exact Nat.le_of_ble_eq_true rfl | omega | (simp; done) | (simp; omega)⟩, ?_⟩ | rw [e1])
        refine Br.mk (fun h9 => ?_) (fun h9 => ?_)
        · have hv : stepF f o = (f.files, f.count + 1, false, 12) := by simp only [stepF, h4, h5, h6, h7, h8, h9, if_true, if_false, Bool.false_eq_true, Bool.and_self, Bool.true_and, Bool.and_false, Bool.false_and]
          repeat (first | refine ⟨rfl, ?_⟩ | refine ⟨trivial, ?_⟩ | refine Br.pos (by assumption) ?_ | refine Br.neg (by assumption) ?_ | refine Br.pos rfl ?_ | refine Br.neg rfl ?_ | refine Br.pos (decide_eq_true (by omega)) ?_ | refine Br.neg (decide_eq_false (by omega)) ?_ | refine ⟨⟨by first | exact Nat.le_of_ble_eq_true rfl | omega | (simp; done) | (simp; omega)⟩, ?_⟩ | rw [e1])
          refine ⟨_, Ent.trans (Ent.mv (.c 1 0) (.r 0) rfl (by decide)) (Ent.to [.r 0] (s' := { ts := [(0, .tup [.agg [.row (.r 0) 0 f.files.length, scI f.cap, scI (f.count + 1), scI f.crashAt, scI f.failAt, scB (f.down)], scI 12])], hs := [(.r 0, .row 3 (f.files.map File.enc))] }) rfl ⟨rfl, trivial⟩), .inr ⟨hok, ?_, ?_⟩⟩
          · rw [hv, h4]; rfl
          · rw [hv]
        · have hdo := l6Do_spec { f with count := f.count + 1 } o (by show f.files.length ≤ 1000; omega) b4 b3 hd
          generalize hq : doF { f with count := f.count + 1 } o = q at hdo
          repeat (first | refine ⟨rfl, ?_⟩ | refine ⟨trivial, ?_⟩ | refine Br.pos (by assumption) ?_ | refine Br.neg (by assumption) ?_ | refine Br.pos rfl ?_ | refine Br.neg rfl ?_ | refine Br.pos (decide_eq_true (by omega)) ?_ | refine Br.neg (decide_eq_false (by omega)) ?_ | refine ⟨⟨by first | exact Nat.le_of_ble_eq_true rfl | omega | (simp; done) | (simp; omega)⟩, ?_⟩ | rw [e1])
          refine CallS.lend [.c 1 0] 2 hdo (by decide) rfl rfl rfl ⟨rfl, rfl, trivial⟩ ?_
          rintro r h' ⟨rfl, rfl⟩
          refine ⟨rfl, ?_⟩
          have hv : stepF f o = (q.1, f.count + 1, false, q.2) := by rw [← hq]; simp only [stepF, h4, h5, h6, h7, h8, h9, if_true, if_false, Bool.false_eq_true, Bool.and_self, Bool.true_and, Bool.and_false, Bool.false_and]
          repeat (first | refine ⟨rfl, ?_⟩ | refine ⟨trivial, ?_⟩ | refine Br.pos (by assumption) ?_ | refine Br.neg (by assumption) ?_ | refine Br.pos rfl ?_ | refine Br.neg rfl ?_ | refine Br.pos (decide_eq_true (by omega)) ?_ | refine Br.neg (decide_eq_false (by omega)) ?_ | refine ⟨⟨by first | exact Nat.le_of_ble_eq_true rfl | omega | (simp; done) | (simp; omega)⟩, ?_⟩)
          refine ⟨_, Ent.trans (Ent.mv (.c 2 0) (.r 0) rfl (by decide)) (Ent.to [.r 0] (s' := { ts := [(0, .tup [.agg [.row (.r 0) 0 q.1.length, scI f.cap, scI (f.count + 1), scI f.crashAt, scI f.failAt, scB f.down], scI q.2])], hs := [(.r 0, .row 3 (q.1.map File.enc))] }) rfl ⟨rfl, trivial⟩), .inr ⟨hok, ?_, ?_⟩⟩
          · rw [hv, h4]; rfl
          · rw [hv]
      · have hdo := l6Do_spec { f with count := f.count + 1 } o (by show f.files.length ≤ 1000; omega) b4 b3 hd
        generalize hq : doF { f with count := f.count + 1 } o = q at hdo
        repeat (first | refine ⟨rfl, ?_⟩ | refine ⟨trivial, ?_⟩ | refine Br.pos (by assumption) ?_ | refine Br.neg (by assumption) ?_ | refine Br.pos rfl ?_ | refine Br.neg rfl ?_ | refine Br.pos (decide_eq_true (by omega)) ?_ | refine Br.neg (decide_eq_false (by omega)) ?_ | refine ⟨⟨by first | exact Nat.le_of_ble_eq_true rfl | omega | (simp; done) | (simp; omega)⟩, ?_⟩ | rw [e1])
        refine CallS.lend [.c 1 0] 2 hdo (by decide) rfl rfl rfl ⟨rfl, rfl, trivial⟩ ?_
        rintro r h' ⟨rfl, rfl⟩
        refine ⟨rfl, ?_⟩
        have hv : stepF f o = (q.1, f.count + 1, false, q.2) := by rw [← hq]; simp only [stepF, h4, h5, h6, h7, h8, if_true, if_false, Bool.false_eq_true, Bool.and_self, Bool.true_and, Bool.and_false, Bool.false_and]
        repeat (first | refine ⟨rfl, ?_⟩ | refine ⟨trivial, ?_⟩ | refine Br.pos (by assumption) ?_ | refine Br.neg (by assumption) ?_ | refine Br.pos rfl ?_ | refine Br.neg rfl ?_ | refine Br.pos (decide_eq_true (by omega)) ?_ | refine Br.neg (decide_eq_false (by omega)) ?_ | refine ⟨⟨by first | exact Nat.le_of_ble_eq_true rfl | omega | (simp; done) | (simp; omega)⟩, ?_⟩)
        refine ⟨_, Ent.trans (Ent.mv (.c 2 0) (.r 0) rfl (by decide)) (Ent.to [.r 0] (s' := { ts := [(0, .tup [.agg [.row (.r 0) 0 q.1.length, scI f.cap, scI (f.count + 1), scI f.crashAt, scI f.failAt, scB f.down], scI q.2])], hs := [(.r 0, .row 3 (q.1.map File.enc))] }) rfl ⟨rfl, trivial⟩), .inr ⟨hok, ?_, ?_⟩⟩
        · rw [hv, h4]; rfl
        · rw [hv]
  · repeat (first | refine ⟨rfl, ?_⟩ | refine ⟨trivial, ?_⟩ | refine Br.pos (by assumption) ?_ | refine Br.neg (by assumption) ?_ | refine Br.pos rfl ?_ | refine Br.neg rfl ?_ | refine Br.pos (decide_eq_true (by omega)) ?_ | refine Br.neg (decide_eq_false (by omega)) ?_ | refine ⟨⟨by first | exact Nat.le_of_ble_eq_true rfl | omega | (simp; done) | (simp; omega)⟩, ?_⟩ | rw [e1])
    refine Br.mk (fun h8 => ?_) (fun h8 => ?_)
    · repeat (first | refine ⟨rfl, ?_⟩ | refine ⟨trivial, ?_⟩ | refine Br.pos (by assumption) ?_ | refine Br.neg (by assumption) ?_ | refine Br.pos rfl ?_ | refine Br.neg rfl ?_ | refine Br.pos (decide_eq_true (by omega)) ?_ | refine Br.neg (decide_eq_false (by omega)) ?_ | refine ⟨⟨by first | exact Nat.le_of_ble_eq_true rfl | omega | (simp; done) | (simp; omega)⟩, ?_⟩ | rw [e1])
      refine Br.mk (fun h9 => ?_) (fun h9 => ?_)
      · have hv : stepF f o = (f.files, f.count + 1, false, 12) := by simp only [stepF, h4, h5, h6, h8, h9, if_true, if_false, Bool.false_eq_true, Bool.and_self, Bool.true_and, Bool.and_false, Bool.false_and]
        repeat (first | refine ⟨rfl, ?_⟩ | refine ⟨trivial, ?_⟩ | refine Br.pos (by assumption) ?_ | refine Br.neg (by assumption) ?_ | refine Br.pos rfl ?_ | refine Br.neg rfl ?_ | refine Br.pos (decide_eq_true (by omega)) ?_ | refine Br.neg (decide_eq_false (by omega)) ?_ | refine ⟨⟨by first | exact Nat.le_of_ble_eq_true rfl | omega | (simp; done) | (simp; omega)⟩, ?_⟩ | rw [e1])
        refine ⟨_, Ent.trans (Ent.mv (.c 1 0) (.r 0) rfl (by decide)) (Ent.to [.r 0] (s' := { ts := [(0, .tup [.agg [.row (.r 0) 0 f.files.length, scI f.cap, scI (f.count + 1), scI f.crashAt, scI f.failAt, scB (f.down)], scI 12])], hs := [(.r 0, .row 3 (f.files.map File.enc))] }) rfl ⟨rfl, trivial⟩), .inr ⟨hok, ?_, ?_⟩⟩
        · rw [hv, h4]; rfl
        · rw [hv]
      · have hdo := l6Do_spec { f with count := f.count + 1 } o (by show f.files.length ≤ 1000; omega) b4 b3 hd
        generalize hq : doF { f with count := f.count + 1 } o = q at hdo
        repeat (first | refine ⟨rfl, ?_⟩ | refine ⟨trivial, ?_⟩ | refine Br.pos (by assumption) ?_ | refine Br.neg (by assumption) ?_ | refine Br.pos rfl ?_ | refine Br.neg rfl ?_ | refine Br.pos (decide_eq_true (by omega)) ?_ | refine Br.neg (decide_eq_false (by omega)) ?_ | refine ⟨⟨by first | exact Nat.le_of_ble_eq_true rfl | omega | (simp; done) | (simp; omega)⟩, ?_⟩ | rw [e1])
        refine CallS.lend [.c 1 0] 2 hdo (by decide) rfl rfl rfl ⟨rfl, rfl, trivial⟩ ?_
        rintro r h' ⟨rfl, rfl⟩
        refine ⟨rfl, ?_⟩
        have hv : stepF f o = (q.1, f.count + 1, false, q.2) := by rw [← hq]; simp only [stepF, h4, h5, h6, h8, h9, if_true, if_false, Bool.false_eq_true, Bool.and_self, Bool.true_and, Bool.and_false, Bool.false_and]
        repeat (first | refine ⟨rfl, ?_⟩ | refine ⟨trivial, ?_⟩ | refine Br.pos (by assumption) ?_ | refine Br.neg (by assumption) ?_ | refine Br.pos rfl ?_ | refine Br.neg rfl ?_ | refine Br.pos (decide_eq_true (by omega)) ?_ | refine Br.neg (decide_eq_false (by omega)) ?_ | refine ⟨⟨by first | exact Nat.le_of_ble_eq_true rfl | omega | (simp; done) | (simp; omega)⟩, ?_⟩)
        refine ⟨_, Ent.trans (Ent.mv (.c 2 0) (.r 0) rfl (by decide)) (Ent.to [.r 0] (s' := { ts := [(0, .tup [.agg [.row (.r 0) 0 q.1.length, scI f.cap, scI (f.count + 1), scI f.crashAt, scI f.failAt, scB f.down], scI q.2])], hs := [(.r 0, .row 3 (q.1.map File.enc))] }) rfl ⟨rfl, trivial⟩), .inr ⟨hok, ?_, ?_⟩⟩
        · rw [hv, h4]; rfl
        · rw [hv]
    · have hdo := l6Do_spec { f with count := f.count + 1 } o (by show f.files.length ≤ 1000; omega) b4 b3 hd
      generalize hq : doF { f with count := f.count + 1 } o = q at hdo
      repeat (first | refine ⟨rfl, ?_⟩ | refine ⟨trivial, ?_⟩ | refine Br.pos (by assumption) ?_ | refine Br.neg (by assumption) ?_ | refine Br.pos rfl ?_ | refine Br.neg rfl ?_ | refine Br.pos (decide_eq_true (by omega)) ?_ | refine Br.neg (decide_eq_false (by omega)) ?_ | refine ⟨⟨by first | exact Nat.le_of_ble_eq_true rfl | omega | (simp; done) | (simp; omega)⟩, ?_⟩ | rw [e1])
      refine CallS.lend [.c 1 0] 2 hdo (by decide) rfl rfl rfl ⟨rfl, rfl, trivial⟩ ?_
      rintro r h' ⟨rfl, rfl⟩
      refine ⟨rfl, ?_⟩
      have hv : stepF f o = (q.1, f.count + 1, false, q.2) := by rw [← hq]; simp only [stepF, h4, h5, h6, h8, if_true, if_false, Bool.false_eq_true, Bool.and_self, Bool.true_and, Bool.and_false, Bool.false_and]
      repeat (first | refine ⟨rfl, ?_⟩ | refine ⟨trivial, ?_⟩ | refine Br.pos (by assumption) ?_ | refine Br.neg (by assumption) ?_ | refine Br.pos rfl ?_ | refine Br.neg rfl ?_ | refine Br.pos (decide_eq_true (by omega)) ?_ | refine Br.neg (decide_eq_false (by omega)) ?_ | refine ⟨⟨by first | exact Nat.le_of_ble_eq_true rfl | omega | (simp; done) | (simp; omega)⟩, ?_⟩)
      refine ⟨_, Ent.trans (Ent.mv (.c 2 0) (.r 0) rfl (by decide)) (Ent.to [.r 0] (s' := { ts := [(0, .tup [.agg [.row (.r 0) 0 q.1.length, scI f.cap, scI (f.count + 1), scI f.crashAt, scI f.failAt, scB f.down], scI q.2])], hs := [(.r 0, .row 3 (q.1.map File.enc))] }) rfl ⟨rfl, trivial⟩), .inr ⟨hok, ?_, ?_⟩⟩
      · rw [hv, h4]; rfl
      · rw [hv]
end Go.Proofs.Try
