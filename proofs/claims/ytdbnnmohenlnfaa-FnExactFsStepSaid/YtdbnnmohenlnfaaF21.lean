/- The law FnExactFsStep, walked. -/
import Derived.Test.YtdbnnmohenlnfaaF20P
import Derived.Test.YtdbnnmohenlnfaaSymT
namespace Go.Proofs.Try
open Go Go.Sym
set_option linter.unusedVariables false
set_option linter.unusedSimpArgs false
set_option maxHeartbeats 16000000

theorem szFileF_ge (f : File) (l : Int) (h : 0 ≤ szFileF f l) : (f.data.size : Int) + szFileF f l ≤ l := by
  unfold szFileF at *
  split at h
  · omega
  · rename_i h1
    rw [if_neg h1] 
    split at h
    · omega
    · rename_i h2
      rw [if_neg h2]; omega
theorem szGo_ge : ∀ (fs : List File) (l : Int), 0 ≤ szGo fs l → (dataSum fs : Int) + szGo fs l ≤ l
  | [], l, _ => by simp [szGo, dataSum]
  | f :: r, l, h => by
    unfold szGo at *
    split at h
    · omega
    · rename_i h1
      rw [if_neg h1]
      have h0 : 0 ≤ szFileF f l := by simpa using h1
      have a := szFileF_ge f l h0
      have b := szGo_ge r _ h
      have : dataSum (f :: r) = f.data.size + dataSum r := by simp [dataSum]
      omega
theorem szFsF_ge (f : Fs) (l : Int) (h : 0 ≤ szFsF f l) : (f.files.length : Int) ≤ l ∧ (dataSum f.files : Int) ≤ l ∧ szFsF f l ≤ l := by
  unfold szFsF at *
  split at h
  · omega
  · rename_i h1
    rw [if_neg h1]
    unfold szFileSF at *
    split at h
    · omega
    · rename_i h2
      rw [if_neg h2]
      have := szGo_ge f.files _ h
      have h2 : ¬ (l - (f.files.length : Int) < 0) := by simpa using h2
      omega
theorem szFsOpF_ge (o : Fop) (l : Int) (h : 0 ≤ szFsOpF o l) : (o.data.size : Int) ≤ l := by
  unfold szFsOpF at h
  split at h
  · omega
  · split at h
    · omega
    · rename_i h1 h2
      have h2 : ¬ (l - (o.name.size : Int) - (o.data.size : Int) < 0) := by simpa using h2
      omega

theorem eqFileF_refl (a : File) : eqFileF a a = true := by simp [eqFileF]
theorem eqFsF_refl (a : Fs) : eqFsF a a = true := by
  simp [eqFsF, eqFileSF, eqFileF_refl]

theorem createF_len (f : Fs) (n : ByteArray) : (createF f n).1.files.length ≤ f.files.length + 1 := by
  unfold createF
  split
  · simp
  · split
    · simp
    · show (insF f.files (newF n)).length ≤ _
      rw [(insF_perm _ _).length_eq]; simp
theorem doI_len (f : Fs) (o : Fop) : (doI f o).1.files.length ≤ f.files.length + 1 := by
  unfold doI
  split
  · rw [(tickF_files f).1]; omega
  · rw [← (tickF_files f).1]
    generalize (tickF f).1 = g
    unfold opI
    split
    · exact createF_len g _
    · split
      · simp
      · dsimp only
        split
        · simp
        · split
          · simp
          · split
            · split <;> simp
            · split
              · have := List.length_filter_le (fun f : File => !(f.name.toList == o.name.toList)) g.files
                show (g.files.filter _).length ≤ _
                omega
              · simp

abbrev fsV (k : Key) (g : Fs) : V := .agg [.row k 0 g.files.length, scI g.cap, scI g.count, scI g.crashAt, scI g.failAt, scB g.down]
abbrev fsB (k : Key) (g : Fs) : Blk := .box [.row k 0 g.files.length, scI g.cap, scI g.count, scI g.crashAt, scI g.failAt, scB g.down]
abbrev fsR (g : Fs) : Blk := .row 3 (g.files.map File.enc)
theorem law_spec (f : Fs) (o : Fop) (hl : f.files.length ≤ 1000000000000000) (hsm : small f.files) (hn : o.name.size ≤ 1000000000000000) (hd : o.data.size ≤ 1000000000000000) :
    AC Try.prog 3 [f.rd, .agg o.enc] [] fun r h => r = scB true ∧ h = [] := by
  refine AC.of_body (T := tab) (fn := Try.f3) (rs := [.tmp 4]) (N := 109) Try.func3 rfl rfl rfl (by simp) ?_
  repeat (first | refine ⟨rfl, ?_⟩ | refine ⟨trivial, ?_⟩ | refine Br.pos (by assumption) ?_ | refine Br.neg (by assumption) ?_ | refine Br.pos rfl ?_ | refine Br.neg rfl ?_ | refine Br.pos (decide_eq_true (by omega)) ?_ | refine Br.neg (decide_eq_false (by omega)) ?_ | refine ⟨⟨by first | exact Nat.le_of_ble_eq_true rfl | omega | (simp; done) | (simp; omega)⟩, ?_⟩)
  refine CallS.val (szFs_spec f 1048576 (by omega) (by omega) hl hsm) rfl ?_
  repeat (first | refine ⟨rfl, ?_⟩ | refine ⟨trivial, ?_⟩ | refine Br.pos (by assumption) ?_ | refine Br.neg (by assumption) ?_ | refine Br.pos rfl ?_ | refine Br.neg rfl ?_ | refine Br.pos (decide_eq_true (by omega)) ?_ | refine Br.neg (decide_eq_false (by omega)) ?_ | refine ⟨⟨by first | exact Nat.le_of_ble_eq_true rfl | omega | (simp; done) | (simp; omega)⟩, ?_⟩)
  refine Br.mk (fun h1 => ?_) (fun h1 => ?_)
  · repeat (first | refine ⟨rfl, ?_⟩ | refine ⟨trivial, ?_⟩ | refine Br.pos (by assumption) ?_ | refine Br.neg (by assumption) ?_ | refine Br.pos rfl ?_ | refine Br.neg rfl ?_ | refine Br.pos (decide_eq_true (by omega)) ?_ | refine Br.neg (decide_eq_false (by omega)) ?_ | refine ⟨⟨by first | exact Nat.le_of_ble_eq_true rfl | omega | (simp; done) | (simp; omega)⟩, ?_⟩)
    exact ⟨_, Ent.keepK [] _, rfl, rfl⟩
  have h1 : 0 ≤ szFsF f 1048576 := by simpa using h1
  obtain ⟨b1, b2, b3⟩ := szFsF_ge f _ h1
  repeat (first | refine ⟨rfl, ?_⟩ | refine ⟨trivial, ?_⟩ | refine Br.pos (by assumption) ?_ | refine Br.neg (by assumption) ?_ | refine Br.pos rfl ?_ | refine Br.neg rfl ?_ | refine Br.pos (decide_eq_true (by omega)) ?_ | refine Br.neg (decide_eq_false (by omega)) ?_ | refine ⟨⟨by first | exact Nat.le_of_ble_eq_true rfl | omega | (simp; done) | (simp; omega)⟩, ?_⟩)
  refine CallS.val (szFsOp_spec o (szFsF f 1048576) h1 b3 hn hd) rfl ?_
  repeat (first | refine ⟨rfl, ?_⟩ | refine ⟨trivial, ?_⟩ | refine Br.pos (by assumption) ?_ | refine Br.neg (by assumption) ?_ | refine Br.pos rfl ?_ | refine Br.neg rfl ?_ | refine Br.pos (decide_eq_true (by omega)) ?_ | refine Br.neg (decide_eq_false (by omega)) ?_ | refine ⟨⟨by first | exact Nat.le_of_ble_eq_true rfl | omega | (simp; done) | (simp; omega)⟩, ?_⟩)
  refine Br.mk (fun h2 => ?_) (fun h2 => ?_)
  · repeat (first | refine ⟨rfl, ?_⟩ | refine ⟨trivial, ?_⟩ | refine Br.pos (by assumption) ?_ | refine Br.neg (by assumption) ?_ | refine Br.pos rfl ?_ | refine Br.neg rfl ?_ | refine Br.pos (decide_eq_true (by omega)) ?_ | refine Br.neg (decide_eq_false (by omega)) ?_ | refine ⟨⟨by first | exact Nat.le_of_ble_eq_true rfl | omega | (simp; done) | (simp; omega)⟩, ?_⟩)
    exact ⟨_, Ent.keepK [] _, rfl, rfl⟩
  have h2 : 0 ≤ szFsOpF o (szFsF f 1048576) := by simpa using h2
  have b4 := szFsOpF_ge o _ h2
  have hS := specStep_spec f o (by omega) (by omega) (by omega)
  have hI := implStep_spec f o (by omega) (by omega) (by omega)
  have hT := toFs_spec f (by omega)
  have hO := toFsOp_spec o
  cases hok : stepOk f o with
  | false =>
    have hS : AC Try.prog 6 [f.rd, .agg o.enc] [] fun r h => r = .tup [.agg [.nil, scI 0, scI 0, scI 0, scI 0, scB false], scI 16] ∧ h = [] := hS.mono fun r h hk => by
      rcases hk with ⟨_, h1, h2⟩ | ⟨h0, _⟩
      · exact ⟨h1, h2⟩
      · rw [hok] at h0; cases h0
    have hI : AC Try.prog 9 [f.rd, .agg o.enc] [] fun r h => r = .tup [.agg [.nil, scI 0, scI 0, scI 0, scI 0, scB false], scI 16] ∧ h = [] := hI.mono fun r h hk => by
      rcases hk with ⟨_, h1, h2⟩ | ⟨h0, _⟩
      · exact ⟨h1, h2⟩
      · rw [hok] at h0; cases h0
    have hE := eqFs_spec ⟨[], 0, 0, 0, 0, false⟩ ⟨[], 0, 0, 0, 0, false⟩ (by simp)
    have hF := eqFs_spec f f (by omega)
    rw [eqFsF_refl] at hE hF
    repeat (first | refine ⟨rfl, ?_⟩ | refine ⟨trivial, ?_⟩ | refine Br.pos (by assumption) ?_ | refine Br.neg (by assumption) ?_ | refine Br.pos rfl ?_ | refine Br.neg rfl ?_ | refine Br.pos (decide_eq_true (by omega)) ?_ | refine Br.neg (decide_eq_false (by omega)) ?_ | refine ⟨⟨by first | exact Nat.le_of_ble_eq_true rfl | omega | (simp; done) | (simp; omega)⟩, ?_⟩)
    refine DrawK.to (T := tab) [9] (.look 0 [0, 1, 3, 4, 5, 6, 7, 9, 10] (.look 2 [2, 3, 4, 5, 6, 7, 9, 10] (.all [(1, .all [(3, .all [(4, .look 5 [5, 6, 7, 9, 10] (.look 6 [6, 9, 10] (.look 7 [7, 10] (.all [(8, .all [(9, .look 10 [10] (.done))])])))), (8, .all [(4, .look 5 [5, 6, 7, 9, 10] (.look 6 [6, 9, 10] (.look 7 [7, 10] (.all [(9, .look 10 [10] (.done))]))))])]), (8, .all [(3, .all [(4, .look 5 [5, 6, 7, 9, 10] (.look 6 [6, 9, 10] (.look 7 [7, 10] (.all [(9, .look 10 [10] (.done))]))))])])]), (8, .all [(1, .all [(3, .all [(4, .look 5 [5, 6, 7, 9, 10] (.look 6 [6, 9, 10] (.look 7 [7, 10] (.all [(9, .look 10 [10] (.done))]))))])])])]))) { ts := [(7, scI 16), (6, .ptr (.t 6) 0 0), (3, .ptr (.t 3) 0 0), (2, .ptr (.t 2) 0 0)], hs := [(.t 6, .box [.nil, scI 0, scI 0, scI 0, scI 0, scB false]), (.t 3, .box o.enc), (.t 2, .box [.rd 3 (f.files.map File.enc), scI f.cap, scI f.count, scI f.crashAt, scI f.failAt, scB f.down])] } mixed (by decide +kernel) ?_ ?_
    · repeat' (first | refine ⟨rfl, ?_⟩ | refine ⟨trivial, ?_⟩ | refine Br.pos (by assumption) ?_ | refine Br.neg (by assumption) ?_ | refine Br.pos rfl ?_ | refine Br.neg rfl ?_ | refine Br.pos (decide_eq_true (by omega)) ?_ | refine Br.neg (decide_eq_false (by omega)) ?_ | refine ⟨⟨by first | exact Nat.le_of_ble_eq_true rfl | omega | (simp; done) | (simp; omega)⟩, ?_⟩ | (refine CallS.row1 false 1 hT rfl (lend_same rfl) (fun h => by cases h) rfl ?_) | (refine CallS.val hO rfl ?_) | (refine CallS.valO hS rfl (lend_cons (.agg rfl (lend_cons (Lend.rowAll rfl (by simp)) (lend_same rfl))) (lend_cons (.same rfl) lend_nil)) rfl ?_) | refine ⟨⟨trivial, ?_⟩, ?_⟩ | fail)
      all_goals exact Ent.at [.t 6, .t 3, .t 2] rfl (by repeat (first | exact trivial | refine ⟨rfl, ?_⟩)) (by repeat (first | exact trivial | refine ⟨rfl, ?_⟩))
    repeat (first | refine ⟨rfl, ?_⟩ | refine ⟨trivial, ?_⟩ | refine Br.pos (by assumption) ?_ | refine Br.neg (by assumption) ?_ | refine Br.pos rfl ?_ | refine Br.neg rfl ?_ | refine Br.pos (decide_eq_true (by omega)) ?_ | refine Br.neg (decide_eq_false (by omega)) ?_ | refine ⟨⟨by first | exact Nat.le_of_ble_eq_true rfl | omega | (simp; done) | (simp; omega)⟩, ?_⟩)
    refine CallS.row1 false 3 hT rfl (lend_same rfl) (fun h => by cases h) rfl ?_
    repeat (first | refine ⟨rfl, ?_⟩ | refine ⟨trivial, ?_⟩ | refine Br.pos (by assumption) ?_ | refine Br.neg (by assumption) ?_ | refine Br.pos rfl ?_ | refine Br.neg rfl ?_ | refine Br.pos (decide_eq_true (by omega)) ?_ | refine Br.neg (decide_eq_false (by omega)) ?_ | refine ⟨⟨by first | exact Nat.le_of_ble_eq_true rfl | omega | (simp; done) | (simp; omega)⟩, ?_⟩)
    refine DrawK.to (T := tab) [8] (.look 0 [0, 3, 4, 5, 6, 8, 9] (.look 1 [1, 2, 3, 4, 5, 6, 8, 9] (.all [(2, .all [(3, .look 4 [4, 5, 6, 8, 9] (.look 5 [5, 8, 9] (.look 6 [6, 9] (.all [(7, .all [(8, .look 9 [9] (.done))])])))), (7, .all [(3, .look 4 [4, 5, 6, 8, 9] (.look 5 [5, 8, 9] (.look 6 [6, 9] (.all [(8, .look 9 [9] (.done))]))))])]), (7, .all [(2, .all [(3, .look 4 [4, 5, 6, 8, 9] (.look 5 [5, 8, 9] (.look 6 [6, 9] (.all [(8, .look 9 [9] (.done))]))))])])]))) { ts := [(10, scI 16), (9, .ptr (.t 9) 0 0), (8, .ptr (.t 8) 0 0), (7, scI 16), (6, .ptr (.t 6) 0 0), (3, .ptr (.t 3) 0 0), (2, .ptr (.t 2) 0 0)], hs := [(.t 9, .box [.nil, scI 0, scI 0, scI 0, scI 0, scB false]), (.t 8, fsB (.c 3 0) f), (.c 3 0, fsR f), (.t 6, .box [.nil, scI 0, scI 0, scI 0, scI 0, scB false]), (.t 3, .box o.enc), (.t 2, .box [.rd 3 (f.files.map File.enc), scI f.cap, scI f.count, scI f.crashAt, scI f.failAt, scB f.down])] } mixed (by decide +kernel) ?_ ?_
    · repeat' (first | refine ⟨rfl, ?_⟩ | refine ⟨trivial, ?_⟩ | refine Br.pos (by assumption) ?_ | refine Br.neg (by assumption) ?_ | refine Br.pos rfl ?_ | refine Br.neg rfl ?_ | refine Br.pos (decide_eq_true (by omega)) ?_ | refine Br.neg (decide_eq_false (by omega)) ?_ | refine ⟨⟨by first | exact Nat.le_of_ble_eq_true rfl | omega | (simp; done) | (simp; omega)⟩, ?_⟩ | (refine CallS.val hO rfl ?_) | (refine CallS.valO hI rfl (lend_cons (.agg rfl (lend_cons (Lend.rowAll rfl (by simp)) (lend_same rfl))) (lend_cons (.same rfl) lend_nil)) rfl ?_) | refine ⟨⟨trivial, ?_⟩, ?_⟩ | fail)
      all_goals exact Ent.at [.t 9, .t 8, .c 3 0, .t 6, .t 3, .t 2] rfl (by repeat (first | exact trivial | refine ⟨rfl, ?_⟩)) (by repeat (first | exact trivial | refine ⟨rfl, ?_⟩))
    repeat (first | refine ⟨rfl, ?_⟩ | refine ⟨trivial, ?_⟩ | refine Br.pos (by assumption) ?_ | refine Br.neg (by assumption) ?_ | refine Br.pos rfl ?_ | refine Br.neg rfl ?_ | refine Br.pos (decide_eq_true (by omega)) ?_ | refine Br.neg (decide_eq_false (by omega)) ?_ | refine ⟨⟨by first | exact Nat.le_of_ble_eq_true rfl | omega | (simp; done) | (simp; omega)⟩, ?_⟩)
    refine CallS.valO hE rfl (lend_cons (.agg rfl (lend_cons (.nil (s := 3)) (lend_same rfl))) (lend_cons (.agg rfl (lend_cons (.nil (s := 3)) (lend_same rfl))) lend_nil)) rfl ?_
    repeat (first | refine ⟨rfl, ?_⟩ | refine ⟨trivial, ?_⟩ | refine Br.pos (by assumption) ?_ | refine Br.neg (by assumption) ?_ | refine Br.pos rfl ?_ | refine Br.neg rfl ?_ | refine Br.pos (decide_eq_true (by omega)) ?_ | refine Br.neg (decide_eq_false (by omega)) ?_ | refine ⟨⟨by first | exact Nat.le_of_ble_eq_true rfl | omega | (simp; done) | (simp; omega)⟩, ?_⟩)
    refine DrawK.to (T := tab) [] (.look 0 [0, 3, 4] (.look 1 [1, 2, 3, 4] (.all [(2, .all [(3, .look 4 [4] (.done))])]))) { ts := [(56, scB false), (10, scI 16), (9, .ptr (.t 9) 0 0), (8, .ptr (.t 8) 0 0), (7, scI 16), (6, .ptr (.t 6) 0 0), (3, .ptr (.t 3) 0 0), (2, .ptr (.t 2) 0 0)], hs := [(.t 9, .box [.nil, scI 0, scI 0, scI 0, scI 0, scB false]), (.t 8, fsB (.c 3 0) f), (.c 3 0, fsR f), (.t 6, .box [.nil, scI 0, scI 0, scI 0, scI 0, scB false]), (.t 3, .box o.enc), (.t 2, .box [.rd 3 (f.files.map File.enc), scI f.cap, scI f.count, scI f.crashAt, scI f.failAt, scB f.down])] } mixed (by decide +kernel) ?_ ?_
    · repeat' (first | refine ⟨rfl, ?_⟩ | refine ⟨trivial, ?_⟩ | refine Br.pos (by assumption) ?_ | refine Br.neg (by assumption) ?_ | refine Br.pos rfl ?_ | refine Br.neg rfl ?_ | refine Br.pos (decide_eq_true (by omega)) ?_ | refine Br.neg (decide_eq_false (by omega)) ?_ | refine ⟨⟨by first | exact Nat.le_of_ble_eq_true rfl | omega | (simp; done) | (simp; omega)⟩, ?_⟩ | (refine CallS.row1 false 5 hT rfl (lend_same rfl) (fun h => by cases h) rfl ?_) | (refine CallS.valO hF rfl (lend_cons (.agg rfl (lend_cons (Lend.rowAll rfl (by simp)) (lend_same rfl))) (lend_cons (.agg rfl (lend_cons (Lend.rowAll rfl (by simp)) (lend_same rfl))) lend_nil)) rfl ?_) | refine ⟨⟨trivial, ?_⟩, ?_⟩ | fail)
      all_goals exact Ent.at [.t 9, .t 8, .c 3 0, .t 6, .t 3, .t 2] rfl (by repeat (first | exact trivial | refine ⟨rfl, ?_⟩)) (by repeat (first | exact trivial | refine ⟨rfl, ?_⟩))
    repeat (first | refine ⟨rfl, ?_⟩ | refine ⟨trivial, ?_⟩ | refine Br.pos (by assumption) ?_ | refine Br.neg (by assumption) ?_ | refine Br.pos rfl ?_ | refine Br.neg rfl ?_ | refine Br.pos (decide_eq_true (by omega)) ?_ | refine Br.neg (decide_eq_false (by omega)) ?_ | refine ⟨⟨by first | exact Nat.le_of_ble_eq_true rfl | omega | (simp; done) | (simp; omega)⟩, ?_⟩)
    refine CallS.lend [.c 3 0] 6 (markFs_spec f 1 (by omega) (by omega)) (by decide) rfl rfl rfl ⟨rfl, rfl, trivial⟩ ?_
    rintro r h ⟨rfl, rfl⟩
    refine ⟨rfl, ?_⟩
    repeat (first | refine ⟨rfl, ?_⟩ | refine ⟨trivial, ?_⟩ | refine Br.pos (by assumption) ?_ | refine Br.neg (by assumption) ?_ | refine Br.pos rfl ?_ | refine Br.neg rfl ?_ | refine Br.pos (decide_eq_true (by omega)) ?_ | refine Br.neg (decide_eq_false (by omega)) ?_ | refine ⟨⟨by first | exact Nat.le_of_ble_eq_true rfl | omega | (simp; done) | (simp; omega)⟩, ?_⟩)
    refine CallS.valO hE rfl (lend_cons (.agg rfl (lend_cons (.nil (s := 3)) (lend_same rfl))) (lend_cons (.agg rfl (lend_cons (.nil (s := 3)) (lend_same rfl))) lend_nil)) rfl ?_
    repeat (first | refine ⟨rfl, ?_⟩ | refine ⟨trivial, ?_⟩ | refine Br.pos (by assumption) ?_ | refine Br.neg (by assumption) ?_ | refine Br.pos rfl ?_ | refine Br.neg rfl ?_ | refine Br.pos (decide_eq_true (by omega)) ?_ | refine Br.neg (decide_eq_false (by omega)) ?_ | refine ⟨⟨by first | exact Nat.le_of_ble_eq_true rfl | omega | (simp; done) | (simp; omega)⟩, ?_⟩)
    refine CallS.val (markFs_nil _ _ _ _ _ 1) rfl ?_
    repeat (first | refine ⟨rfl, ?_⟩ | refine ⟨trivial, ?_⟩ | refine Br.pos (by assumption) ?_ | refine Br.neg (by assumption) ?_ | refine Br.pos rfl ?_ | refine Br.neg rfl ?_ | refine Br.pos (decide_eq_true (by omega)) ?_ | refine Br.neg (decide_eq_false (by omega)) ?_ | refine ⟨⟨by first | exact Nat.le_of_ble_eq_true rfl | omega | (simp; done) | (simp; omega)⟩, ?_⟩)
    refine CallS.valO (heldFs_spec 1 0 _ _ _ _ _ (by omega) (by omega)) rfl (lend_cons (.agg rfl (lend_cons (.nil (s := 3)) (lend_same rfl))) (lend_cons (.same rfl) lend_nil)) rfl ?_
    repeat (first | refine ⟨rfl, ?_⟩ | refine ⟨trivial, ?_⟩ | refine Br.pos (by assumption) ?_ | refine Br.neg (by assumption) ?_ | refine Br.pos rfl ?_ | refine Br.neg rfl ?_ | refine Br.pos (decide_eq_true (by omega)) ?_ | refine Br.neg (decide_eq_false (by omega)) ?_ | refine ⟨⟨by first | exact Nat.le_of_ble_eq_true rfl | omega | (simp; done) | (simp; omega)⟩, ?_⟩)
    refine DrawK.to (T := tab) [9] (.look 0 [0, 1, 3, 4, 5, 6, 7, 9, 10] (.look 2 [2, 3, 4, 5, 6, 7, 9, 10] (.all [(1, .all [(3, .all [(4, .look 5 [5, 6, 7, 9, 10] (.look 6 [6, 9, 10] (.look 7 [7, 10] (.all [(8, .all [(9, .look 10 [10] (.done))])])))), (8, .all [(4, .look 5 [5, 6, 7, 9, 10] (.look 6 [6, 9, 10] (.look 7 [7, 10] (.all [(9, .look 10 [10] (.done))]))))])]), (8, .all [(3, .all [(4, .look 5 [5, 6, 7, 9, 10] (.look 6 [6, 9, 10] (.look 7 [7, 10] (.all [(9, .look 10 [10] (.done))]))))])])]), (8, .all [(1, .all [(3, .all [(4, .look 5 [5, 6, 7, 9, 10] (.look 6 [6, 9, 10] (.look 7 [7, 10] (.all [(9, .look 10 [10] (.done))]))))])])])]))) { ts := [(15, scI 16), (14, .ptr (.t 14) 0 0), (12, scI 1), (9, .ptr (.t 9) 0 0), (7, scI 16), (6, .ptr (.t 6) 0 0)], hs := [(.t 14, .box [.nil, scI 0, scI 0, scI 0, scI 0, scB false]), (.t 9, .box [.nil, scI 0, scI 0, scI 0, scI 0, scB false]), (.t 6, .box [.nil, scI 0, scI 0, scI 0, scI 0, scB false])] } mixed (by decide +kernel) ?_ ?_
    · repeat' (first | refine ⟨rfl, ?_⟩ | refine ⟨trivial, ?_⟩ | refine Br.pos (by assumption) ?_ | refine Br.neg (by assumption) ?_ | refine Br.pos rfl ?_ | refine Br.neg rfl ?_ | refine Br.pos (decide_eq_true (by omega)) ?_ | refine Br.neg (decide_eq_false (by omega)) ?_ | refine ⟨⟨by first | exact Nat.le_of_ble_eq_true rfl | omega | (simp; done) | (simp; omega)⟩, ?_⟩ | (refine CallS.row1 false 8 hT rfl (lend_same rfl) (fun h => by cases h) rfl ?_) | (refine CallS.val hO rfl ?_) | (refine CallS.valO hI rfl (lend_cons (.agg rfl (lend_cons (Lend.rowAll rfl (by simp)) (lend_same rfl))) (lend_cons (.same rfl) lend_nil)) rfl ?_) | refine ⟨⟨trivial, ?_⟩, ?_⟩ | fail)
      all_goals exact Ent.at [.t 14, .t 9, .t 6] rfl (by repeat (first | exact trivial | refine ⟨rfl, ?_⟩)) (by repeat (first | exact trivial | refine ⟨rfl, ?_⟩))
    repeat (first | refine ⟨rfl, ?_⟩ | refine ⟨trivial, ?_⟩ | refine Br.pos (by assumption) ?_ | refine Br.neg (by assumption) ?_ | refine Br.pos rfl ?_ | refine Br.neg rfl ?_ | refine Br.pos (decide_eq_true (by omega)) ?_ | refine Br.neg (decide_eq_false (by omega)) ?_ | refine ⟨⟨by first | exact Nat.le_of_ble_eq_true rfl | omega | (simp; done) | (simp; omega)⟩, ?_⟩)
    refine CallS.valO hE rfl (lend_cons (.agg rfl (lend_cons (.nil (s := 3)) (lend_same rfl))) (lend_cons (.agg rfl (lend_cons (.nil (s := 3)) (lend_same rfl))) lend_nil)) rfl ?_
    repeat (first | refine ⟨rfl, ?_⟩ | refine ⟨trivial, ?_⟩ | refine Br.pos (by assumption) ?_ | refine Br.neg (by assumption) ?_ | refine Br.pos rfl ?_ | refine Br.neg rfl ?_ | refine Br.pos (decide_eq_true (by omega)) ?_ | refine Br.neg (decide_eq_false (by omega)) ?_ | refine ⟨⟨by first | exact Nat.le_of_ble_eq_true rfl | omega | (simp; done) | (simp; omega)⟩, ?_⟩)
    refine CallS.valO (heldFs_spec 1 0 _ _ _ _ _ (by omega) (by omega)) rfl (lend_cons (.agg rfl (lend_cons (.nil (s := 3)) (lend_same rfl))) (lend_cons (.same rfl) lend_nil)) rfl ?_
    repeat (first | refine ⟨rfl, ?_⟩ | refine ⟨trivial, ?_⟩ | refine Br.pos (by assumption) ?_ | refine Br.neg (by assumption) ?_ | refine Br.pos rfl ?_ | refine Br.neg rfl ?_ | refine Br.pos (decide_eq_true (by omega)) ?_ | refine Br.neg (decide_eq_false (by omega)) ?_ | refine ⟨⟨by first | exact Nat.le_of_ble_eq_true rfl | omega | (simp; done) | (simp; omega)⟩, ?_⟩)
    exact ⟨_, Ent.keepK [] _, rfl, rfl⟩
  | true =>
    have hlen := doI_len f o
    have hsame := step_same hok
    have hI : AC Try.prog 9 [f.rd, .agg o.enc] [] fun r h => r = .tup [fsV (.r 0) (doI f o).1, scI (doI f o).2] ∧ h = [(.r 0, fsR (doI f o).1)] := hI.mono fun r h hk => by
      rcases hk with ⟨h0, _⟩ | ⟨_, h1, h2⟩
      · rw [hok] at h0; cases h0
      · exact ⟨h1, h2⟩
    have hS : AC Try.prog 6 [f.rd, .agg o.enc] [] fun r h => r = .tup [fsV (.r 0) (doI f o).1, scI (doI f o).2] ∧ h = [(.r 0, fsR (doI f o).1)] := hS.mono fun r h hk => by
      rcases hk with ⟨h0, _⟩ | ⟨_, h1, h2⟩
      · rw [hok] at h0; cases h0
      · rw [hsame]; exact ⟨h1, h2⟩
    generalize doI f o = gc at *
    obtain ⟨g, c⟩ := gc
    dsimp only at hI hS hlen
    repeat (first | refine ⟨rfl, ?_⟩ | refine ⟨trivial, ?_⟩ | refine Br.pos (by assumption) ?_ | refine Br.neg (by assumption) ?_ | refine Br.pos rfl ?_ | refine Br.neg rfl ?_ | refine Br.pos (decide_eq_true (by omega)) ?_ | refine Br.neg (decide_eq_false (by omega)) ?_ | refine ⟨⟨by first | exact Nat.le_of_ble_eq_true rfl | omega | (simp; done) | (simp; omega)⟩, ?_⟩)
    refine DrawK.to (T := tab) [9] (.look 0 [0, 1, 3, 4, 5, 6, 7, 9, 10] (.look 2 [2, 3, 4, 5, 6, 7, 9, 10] (.all [(1, .all [(3, .all [(4, .look 5 [5, 6, 7, 9, 10] (.look 6 [6, 9, 10] (.look 7 [7, 10] (.all [(8, .all [(9, .look 10 [10] (.done))])])))), (8, .all [(4, .look 5 [5, 6, 7, 9, 10] (.look 6 [6, 9, 10] (.look 7 [7, 10] (.all [(9, .look 10 [10] (.done))]))))])]), (8, .all [(3, .all [(4, .look 5 [5, 6, 7, 9, 10] (.look 6 [6, 9, 10] (.look 7 [7, 10] (.all [(9, .look 10 [10] (.done))]))))])])]), (8, .all [(1, .all [(3, .all [(4, .look 5 [5, 6, 7, 9, 10] (.look 6 [6, 9, 10] (.look 7 [7, 10] (.all [(9, .look 10 [10] (.done))]))))])])])]))) { ts := [(7, scI c), (6, .ptr (.t 6) 0 0), (3, .ptr (.t 3) 0 0), (2, .ptr (.t 2) 0 0)], hs := [(.t 6, fsB (.c 2 0) g), (.c 2 0, fsR g), (.t 3, .box o.enc), (.t 2, .box [.rd 3 (f.files.map File.enc), scI f.cap, scI f.count, scI f.crashAt, scI f.failAt, scB f.down])] } mixed (by decide +kernel) ?_ ?_
    · repeat' (first | refine ⟨rfl, ?_⟩ | refine ⟨trivial, ?_⟩ | refine Br.pos (by assumption) ?_ | refine Br.neg (by assumption) ?_ | refine Br.pos rfl ?_ | refine Br.neg rfl ?_ | refine Br.pos (decide_eq_true (by omega)) ?_ | refine Br.neg (decide_eq_false (by omega)) ?_ | refine ⟨⟨by first | exact Nat.le_of_ble_eq_true rfl | omega | (simp; done) | (simp; omega)⟩, ?_⟩ | (refine CallS.row1 false 1 hT rfl (lend_same rfl) (fun h => by cases h) rfl ?_) | (refine CallS.val hO rfl ?_) | (refine CallS.row1 true 2 hS rfl (lend_cons (.agg rfl (lend_cons (Lend.rowAll rfl (by simp)) (lend_same rfl))) (lend_cons (.same rfl) lend_nil)) (fun _ => ⟨rfl, files_flat _⟩) rfl ?_) | refine ⟨⟨trivial, ?_⟩, ?_⟩ | fail)
      all_goals exact Ent.at [.t 6, .c 2 0, .t 3, .t 2] rfl (by repeat (first | exact trivial | refine ⟨rfl, ?_⟩)) (by repeat (first | exact trivial | refine ⟨rfl, ?_⟩))
    have hE := eqFs_spec g g (by omega)
    have hF := eqFs_spec f f (by omega)
    rw [eqFsF_refl] at hE hF
    have hcc : (c != c) = false := by simp
    have hqm : ((1 + 3 * (g.files.length : Int)) != (1 + 3 * (g.files.length : Int))) = false := by simp
    repeat (first | refine ⟨rfl, ?_⟩ | refine ⟨trivial, ?_⟩ | refine Br.pos (by assumption) ?_ | refine Br.neg (by assumption) ?_ | refine Br.pos rfl ?_ | refine Br.neg rfl ?_ | refine Br.pos (decide_eq_true (by omega)) ?_ | refine Br.neg (decide_eq_false (by omega)) ?_ | refine ⟨⟨by first | exact Nat.le_of_ble_eq_true rfl | omega | (simp; done) | (simp; omega)⟩, ?_⟩)
    refine CallS.row1 false 3 hT rfl (lend_same rfl) (fun h => by cases h) rfl ?_
    repeat (first | refine ⟨rfl, ?_⟩ | refine ⟨trivial, ?_⟩ | refine Br.pos (by assumption) ?_ | refine Br.neg (by assumption) ?_ | refine Br.pos rfl ?_ | refine Br.neg rfl ?_ | refine Br.pos (decide_eq_true (by omega)) ?_ | refine Br.neg (decide_eq_false (by omega)) ?_ | refine ⟨⟨by first | exact Nat.le_of_ble_eq_true rfl | omega | (simp; done) | (simp; omega)⟩, ?_⟩)
    refine DrawK.to (T := tab) [8] (.look 0 [0, 3, 4, 5, 6, 8, 9] (.look 1 [1, 2, 3, 4, 5, 6, 8, 9] (.all [(2, .all [(3, .look 4 [4, 5, 6, 8, 9] (.look 5 [5, 8, 9] (.look 6 [6, 9] (.all [(7, .all [(8, .look 9 [9] (.done))])])))), (7, .all [(3, .look 4 [4, 5, 6, 8, 9] (.look 5 [5, 8, 9] (.look 6 [6, 9] (.all [(8, .look 9 [9] (.done))]))))])]), (7, .all [(2, .all [(3, .look 4 [4, 5, 6, 8, 9] (.look 5 [5, 8, 9] (.look 6 [6, 9] (.all [(8, .look 9 [9] (.done))]))))])])]))) { ts := [(10, scI c), (9, .ptr (.t 9) 0 0), (8, .ptr (.t 8) 0 0), (7, scI c), (6, .ptr (.t 6) 0 0), (3, .ptr (.t 3) 0 0), (2, .ptr (.t 2) 0 0)], hs := [(.t 9, fsB (.c 4 0) g), (.c 4 0, fsR g), (.t 8, fsB (.c 3 0) f), (.c 3 0, fsR f), (.t 6, fsB (.c 2 0) g), (.c 2 0, fsR g), (.t 3, .box o.enc), (.t 2, .box [.rd 3 (f.files.map File.enc), scI f.cap, scI f.count, scI f.crashAt, scI f.failAt, scB f.down])] } mixed (by decide +kernel) ?_ ?_
    · repeat' (first | refine ⟨rfl, ?_⟩ | refine ⟨trivial, ?_⟩ | refine Br.pos (by assumption) ?_ | refine Br.neg (by assumption) ?_ | refine Br.pos rfl ?_ | refine Br.neg rfl ?_ | refine Br.pos (decide_eq_true (by omega)) ?_ | refine Br.neg (decide_eq_false (by omega)) ?_ | refine ⟨⟨by first | exact Nat.le_of_ble_eq_true rfl | omega | (simp; done) | (simp; omega)⟩, ?_⟩ | (refine CallS.val hO rfl ?_) | (refine CallS.row1 true 4 hI rfl (lend_cons (.agg rfl (lend_cons (Lend.rowAll rfl (by simp)) (lend_same rfl))) (lend_cons (.same rfl) lend_nil)) (fun _ => ⟨rfl, files_flat _⟩) rfl ?_) | refine ⟨⟨trivial, ?_⟩, ?_⟩ | fail)
      all_goals exact Ent.at [.t 9, .c 4 0, .t 8, .c 3 0, .t 6, .c 2 0, .t 3, .t 2] rfl (by repeat (first | exact trivial | refine ⟨rfl, ?_⟩)) (by repeat (first | exact trivial | refine ⟨rfl, ?_⟩))
    repeat (first | refine ⟨rfl, ?_⟩ | refine ⟨trivial, ?_⟩ | refine Br.pos (by assumption) ?_ | refine Br.neg (by assumption) ?_ | refine Br.pos rfl ?_ | refine Br.neg rfl ?_ | refine Br.pos (decide_eq_true (by omega)) ?_ | refine Br.neg (decide_eq_false (by omega)) ?_ | refine ⟨⟨by first | exact Nat.le_of_ble_eq_true rfl | omega | (simp; done) | (simp; omega)⟩, ?_⟩)
    refine CallS.valO hE rfl (lend_cons (.agg rfl (lend_cons (Lend.rowAll rfl (by simp)) (lend_same rfl))) (lend_cons (.agg rfl (lend_cons (Lend.rowAll rfl (by simp)) (lend_same rfl))) lend_nil)) rfl ?_
    repeat (first | refine ⟨rfl, ?_⟩ | refine ⟨trivial, ?_⟩ | refine Br.pos (by assumption) ?_ | refine Br.neg (by assumption) ?_ | refine Br.pos rfl ?_ | refine Br.neg rfl ?_ | refine Br.pos (decide_eq_true (by omega)) ?_ | refine Br.neg (decide_eq_false (by omega)) ?_ | refine ⟨⟨by first | exact Nat.le_of_ble_eq_true rfl | omega | (simp; done) | (simp; omega)⟩, ?_⟩)
    refine DrawK.to (T := tab) [] (.look 0 [0, 3, 4] (.look 1 [1, 2, 3, 4] (.all [(2, .all [(3, .look 4 [4] (.done))])]))) { ts := [(56, scB false), (10, scI c), (9, .ptr (.t 9) 0 0), (8, .ptr (.t 8) 0 0), (7, scI c), (6, .ptr (.t 6) 0 0), (3, .ptr (.t 3) 0 0), (2, .ptr (.t 2) 0 0)], hs := [(.t 9, fsB (.c 4 0) g), (.c 4 0, fsR g), (.t 8, fsB (.c 3 0) f), (.c 3 0, fsR f), (.t 6, fsB (.c 2 0) g), (.c 2 0, fsR g), (.t 3, .box o.enc), (.t 2, .box [.rd 3 (f.files.map File.enc), scI f.cap, scI f.count, scI f.crashAt, scI f.failAt, scB f.down])] } mixed (by decide +kernel) ?_ ?_
    · repeat' (first | refine ⟨rfl, ?_⟩ | refine ⟨trivial, ?_⟩ | refine Br.pos (by assumption) ?_ | refine Br.neg (by assumption) ?_ | refine Br.pos rfl ?_ | refine Br.neg rfl ?_ | refine Br.pos (decide_eq_true (by omega)) ?_ | refine Br.neg (decide_eq_false (by omega)) ?_ | refine ⟨⟨by first | exact Nat.le_of_ble_eq_true rfl | omega | (simp; done) | (simp; omega)⟩, ?_⟩ | (refine CallS.row1 false 5 hT rfl (lend_same rfl) (fun h => by cases h) rfl ?_) | (refine CallS.valO hF rfl (lend_cons (.agg rfl (lend_cons (Lend.rowAll rfl (by simp)) (lend_same rfl))) (lend_cons (.agg rfl (lend_cons (Lend.rowAll rfl (by simp)) (lend_same rfl))) lend_nil)) rfl ?_) | refine ⟨⟨trivial, ?_⟩, ?_⟩ | fail)
      all_goals exact Ent.at [.t 9, .c 4 0, .t 8, .c 3 0, .t 6, .c 2 0, .t 3, .t 2] rfl (by repeat (first | exact trivial | refine ⟨rfl, ?_⟩)) (by repeat (first | exact trivial | refine ⟨rfl, ?_⟩))
    repeat (first | refine ⟨rfl, ?_⟩ | refine ⟨trivial, ?_⟩ | refine Br.pos (by assumption) ?_ | refine Br.neg (by assumption) ?_ | refine Br.pos rfl ?_ | refine Br.neg rfl ?_ | refine Br.pos (decide_eq_true (by omega)) ?_ | refine Br.neg (decide_eq_false (by omega)) ?_ | refine ⟨⟨by first | exact Nat.le_of_ble_eq_true rfl | omega | (simp; done) | (simp; omega)⟩, ?_⟩)
    refine CallS.lend [.c 3 0] 6 (markFs_spec f 1 (by omega) (by omega)) (by decide) rfl rfl rfl ⟨rfl, rfl, trivial⟩ ?_
    rintro r h ⟨rfl, rfl⟩
    refine ⟨rfl, ?_⟩
    repeat (first | refine ⟨rfl, ?_⟩ | refine ⟨trivial, ?_⟩ | refine Br.pos (by assumption) ?_ | refine Br.neg (by assumption) ?_ | refine Br.pos rfl ?_ | refine Br.neg rfl ?_ | refine Br.pos (decide_eq_true (by omega)) ?_ | refine Br.neg (decide_eq_false (by omega)) ?_ | refine ⟨⟨by first | exact Nat.le_of_ble_eq_true rfl | omega | (simp; done) | (simp; omega)⟩, ?_⟩)
    refine CallS.valO hE rfl (lend_cons (.agg rfl (lend_cons (Lend.rowAll rfl (by simp)) (lend_same rfl))) (lend_cons (.agg rfl (lend_cons (Lend.rowAll rfl (by simp)) (lend_same rfl))) lend_nil)) rfl ?_
    repeat (first | refine ⟨rfl, ?_⟩ | refine ⟨trivial, ?_⟩ | refine Br.pos (by assumption) ?_ | refine Br.neg (by assumption) ?_ | refine Br.pos rfl ?_ | refine Br.neg rfl ?_ | refine Br.pos (decide_eq_true (by omega)) ?_ | refine Br.neg (decide_eq_false (by omega)) ?_ | refine ⟨⟨by first | exact Nat.le_of_ble_eq_true rfl | omega | (simp; done) | (simp; omega)⟩, ?_⟩)
    refine CallS.lend [.c 4 0] 7 (markFs_spec g 1 (by omega) (by omega)) (by decide) rfl rfl rfl ⟨rfl, rfl, trivial⟩ ?_
    rintro r h ⟨rfl, rfl⟩
    refine ⟨rfl, ?_⟩
    repeat (first | refine ⟨rfl, ?_⟩ | refine ⟨trivial, ?_⟩ | refine Br.pos (by assumption) ?_ | refine Br.neg (by assumption) ?_ | refine Br.pos rfl ?_ | refine Br.neg rfl ?_ | refine Br.pos (decide_eq_true (by omega)) ?_ | refine Br.neg (decide_eq_false (by omega)) ?_ | refine ⟨⟨by first | exact Nat.le_of_ble_eq_true rfl | omega | (simp; done) | (simp; omega)⟩, ?_⟩)
    refine CallS.valO (heldFs_spec 1 g.files.length _ _ _ _ _ (by omega) (by omega)) rfl (lend_cons (.agg rfl (lend_cons (Lend.rowAll rfl (by simp [markL])) (lend_same rfl))) (lend_cons (.same rfl) lend_nil)) rfl ?_
    repeat (first | refine ⟨rfl, ?_⟩ | refine ⟨trivial, ?_⟩ | refine Br.pos (by assumption) ?_ | refine Br.neg (by assumption) ?_ | refine Br.pos rfl ?_ | refine Br.neg rfl ?_ | refine Br.pos (decide_eq_true (by omega)) ?_ | refine Br.neg (decide_eq_false (by omega)) ?_ | refine ⟨⟨by first | exact Nat.le_of_ble_eq_true rfl | omega | (simp; done) | (simp; omega)⟩, ?_⟩)
    refine DrawK.to (T := tab) [9] (.look 0 [0, 1, 3, 4, 5, 6, 7, 9, 10] (.look 2 [2, 3, 4, 5, 6, 7, 9, 10] (.all [(1, .all [(3, .all [(4, .look 5 [5, 6, 7, 9, 10] (.look 6 [6, 9, 10] (.look 7 [7, 10] (.all [(8, .all [(9, .look 10 [10] (.done))])])))), (8, .all [(4, .look 5 [5, 6, 7, 9, 10] (.look 6 [6, 9, 10] (.look 7 [7, 10] (.all [(9, .look 10 [10] (.done))]))))])]), (8, .all [(3, .all [(4, .look 5 [5, 6, 7, 9, 10] (.look 6 [6, 9, 10] (.look 7 [7, 10] (.all [(9, .look 10 [10] (.done))]))))])])]), (8, .all [(1, .all [(3, .all [(4, .look 5 [5, 6, 7, 9, 10] (.look 6 [6, 9, 10] (.look 7 [7, 10] (.all [(9, .look 10 [10] (.done))]))))])])])]))) { ts := [(15, scI c), (14, .ptr (.t 14) 0 0), (12, scI (1 + 3 * g.files.length)), (9, .ptr (.t 9) 0 0), (7, scI c), (6, .ptr (.t 6) 0 0)], hs := [(.t 14, fsB (.c 9 0) g), (.c 9 0, fsR g), (.t 9, fsB (.c 4 0) g), (.c 4 0, .row 3 ((markL 1 g.files.length).map File.enc)), (.t 6, fsB (.c 2 0) g), (.c 2 0, fsR g)] } mixed (by decide +kernel) ?_ ?_
    · repeat' (first | refine ⟨rfl, ?_⟩ | refine ⟨trivial, ?_⟩ | refine Br.pos (by assumption) ?_ | refine Br.neg (by assumption) ?_ | refine Br.pos rfl ?_ | refine Br.neg rfl ?_ | refine Br.pos (decide_eq_true (by omega)) ?_ | refine Br.neg (decide_eq_false (by omega)) ?_ | refine ⟨⟨by first | exact Nat.le_of_ble_eq_true rfl | omega | (simp; done) | (simp; omega)⟩, ?_⟩ | (refine CallS.row1 false 8 hT rfl (lend_same rfl) (fun h => by cases h) rfl ?_) | (refine CallS.val hO rfl ?_) | (refine CallS.row1 true 9 hI rfl (lend_cons (.agg rfl (lend_cons (Lend.rowAll rfl (by simp)) (lend_same rfl))) (lend_cons (.same rfl) lend_nil)) (fun _ => ⟨rfl, files_flat _⟩) rfl ?_) | refine ⟨⟨trivial, ?_⟩, ?_⟩ | fail)
      all_goals exact Ent.at [.t 14, .c 9 0, .t 9, .c 4 0, .t 6, .c 2 0] rfl (by repeat (first | exact trivial | refine ⟨rfl, ?_⟩)) (by repeat (first | exact trivial | refine ⟨rfl, ?_⟩))
    repeat (first | refine ⟨rfl, ?_⟩ | refine ⟨trivial, ?_⟩ | refine Br.pos (by assumption) ?_ | refine Br.neg (by assumption) ?_ | refine Br.pos rfl ?_ | refine Br.neg rfl ?_ | refine Br.pos (decide_eq_true (by omega)) ?_ | refine Br.neg (decide_eq_false (by omega)) ?_ | refine ⟨⟨by first | exact Nat.le_of_ble_eq_true rfl | omega | (simp; done) | (simp; omega)⟩, ?_⟩)
    refine CallS.valO hE rfl (lend_cons (.agg rfl (lend_cons (Lend.rowAll rfl (by simp)) (lend_same rfl))) (lend_cons (.agg rfl (lend_cons (Lend.rowAll rfl (by simp)) (lend_same rfl))) lend_nil)) rfl ?_
    repeat (first | refine ⟨rfl, ?_⟩ | refine ⟨trivial, ?_⟩ | refine Br.pos (by assumption) ?_ | refine Br.neg (by assumption) ?_ | refine Br.pos rfl ?_ | refine Br.neg rfl ?_ | refine Br.pos (decide_eq_true (by omega)) ?_ | refine Br.neg (decide_eq_false (by omega)) ?_ | refine ⟨⟨by first | exact Nat.le_of_ble_eq_true rfl | omega | (simp; done) | (simp; omega)⟩, ?_⟩)
    refine CallS.valO (heldFs_spec 1 g.files.length _ _ _ _ _ (by omega) (by omega)) rfl (lend_cons (.agg rfl (lend_cons (Lend.rowAll rfl (by simp [markL])) (lend_same rfl))) (lend_cons (.same rfl) lend_nil)) rfl ?_
    repeat (first | refine ⟨rfl, ?_⟩ | refine ⟨trivial, ?_⟩ | refine Br.pos (by assumption) ?_ | refine Br.neg (by assumption) ?_ | refine Br.pos rfl ?_ | refine Br.neg rfl ?_ | refine Br.pos (decide_eq_true (by omega)) ?_ | refine Br.neg (decide_eq_false (by omega)) ?_ | refine ⟨⟨by first | exact Nat.le_of_ble_eq_true rfl | omega | (simp; done) | (simp; omega)⟩, ?_⟩)
    exact ⟨_, Ent.keepK [] _, rfl, rfl⟩
end Go.Proofs.Try
