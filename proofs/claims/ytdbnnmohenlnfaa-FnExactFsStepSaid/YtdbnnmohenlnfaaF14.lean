/- The program's system of files. -/
import Derived.Test.YtdbnnmohenlnfaaF13
namespace Go.Proofs.Try
open Go Go.Sym
set_option linter.unusedVariables false
set_option linter.unusedSimpArgs false
set_option maxHeartbeats 8000000

theorem systemOf_spec (f : Fs) (hl : f.files.length ≤ 1000000000) : AC Try.prog 22 [f.rd] [] fun r h =>
    r = .ptr (.r 0) 0 0 ∧ h = [(.r 1, .row 3 (f.files.map File.enc)), (.r 0, .box [scI f.count, scI f.crashAt, scI f.failAt, scB f.down, .row (.r 1) 0 f.files.length, scI f.cap])] := by
  refine AC.of_body (T := tab) (fn := Try.f22) (rs := [.tmp 2]) (N := 20) Try.func22 rfl rfl rfl (by simp) ?_
  repeat (first | refine ⟨rfl, ?_⟩ | refine ⟨trivial, ?_⟩ | refine Br.pos (by assumption) ?_ | refine Br.neg (by assumption) ?_ | refine Br.pos rfl ?_ | refine Br.neg rfl ?_ | refine Br.pos (decide_eq_true (by omega)) ?_ | refine Br.neg (decide_eq_false (by omega)) ?_ | refine ⟨⟨by first | exact Nat.le_of_ble_eq_true rfl | omega | (simp; done) | (simp; omega)⟩, ?_⟩)
  refine DrawK.plan (T := tab) [] (.look 0 [0, 1, 8, 15, 16, 17] (.look 1 [1, 8, 15, 16, 17] (.look 2 [2, 3, 8, 15, 16, 17] (.look 3 [3, 8, 15, 16, 17] (.look 4 [4, 5, 8, 15, 16, 17] (.look 5 [5, 8, 15, 16, 17] (.look 6 [6, 7, 8, 15, 16, 17] (.look 7 [7, 8, 15, 16, 17] (.look 8 [8, 15, 16, 17] (.look 10 [10, 11, 12, 15, 16, 17] (.look 11 [11, 12, 15, 16, 17] (.look 13 [13, 14, 15, 16, 17] (.look 14 [14, 15, 16, 17] (.all [(9, .all [(12, .look 15 [15, 16, 17] (.all [(16, .look 17 [17] (.done))]))])])))))))))))))) mixed (by decide +kernel) ?_
  repeat (first | refine ⟨rfl, ?_⟩ | refine ⟨trivial, ?_⟩ | refine Br.pos (by assumption) ?_ | refine Br.neg (by assumption) ?_ | refine Br.pos rfl ?_ | refine Br.neg rfl ?_ | refine Br.pos (decide_eq_true (by omega)) ?_ | refine Br.neg (decide_eq_false (by omega)) ?_ | refine ⟨⟨by first | exact Nat.le_of_ble_eq_true rfl | omega | (simp; done) | (simp; omega)⟩, ?_⟩ | rw [List.length_map])
  refine ⟨_, Ent.trans (Ent.mv (.t 19) (.r 0) rfl (by decide)) (Ent.trans (Ent.mv (.t 15) (.r 1) rfl (by decide)) (Ent.to [.r 1, .r 0] (s' := { ts := [(0, .ptr (.r 0) 0 0)], hs := [(.r 1, .row 3 (f.files.map File.enc)), (.r 0, .box [scI f.count, scI f.crashAt, scI f.failAt, scB f.down, .row (.r 1) 0 f.files.length, scI f.cap])] }) ?_ ⟨rfl, trivial⟩)), rfl, rfl⟩
  rfl

/-- The struct 'system', its files in a row of the call's own. -/
abbrev sysB (k : Key) (f : Fs) : Blk := .box [scI f.count, scI f.crashAt, scI f.failAt, scB f.down, .row k 0 f.files.length, scI f.cap]

theorem room_spec (f : Fs) (hl : f.files.length ≤ 1000000000) (hs : dataSum f.files ≤ 1000000000000) (hc0 : 0 ≤ f.cap) (hc : f.cap ≤ 1000000000) :
    AC Try.prog 41 [.ptr (.a 0) 0 0] [(.a 0, sysB (.a 1) f), (.a 1, .row 3 (f.files.map File.enc))] fun r h =>
      r = scI (f.cap - dataSum f.files) ∧ h = [(.a 0, sysB (.a 1) f), (.a 1, .row 3 (f.files.map File.enc))] := by
  refine AC.of_body (T := tab) (fn := Try.f41) (rs := [.tmp 2]) (N := 26) Try.func41 rfl rfl rfl (by simp) ?_
  repeat (first | refine ⟨rfl, ?_⟩ | refine ⟨trivial, ?_⟩ | refine Br.pos (by assumption) ?_ | refine Br.neg (by assumption) ?_ | refine Br.pos rfl ?_ | refine Br.neg rfl ?_ | refine Br.pos (decide_eq_true (by omega)) ?_ | refine Br.neg (decide_eq_false (by omega)) ?_ | refine ⟨⟨by first | exact Nat.le_of_ble_eq_true rfl | omega | (simp; done) | (simp; omega)⟩, ?_⟩)
  refine ⟨fun n s => ∃ i : Nat, i ≤ f.files.length ∧ n = f.files.length - i ∧ s = { ts := [(15, scI i), (14, scI f.files.length), (13, .row (.a 1) 0 f.files.length), (3, scI (f.cap - dataSum (f.files.take i)))], hs := [(.a 0, sysB (.a 1) f), (.a 1, .row 3 (f.files.map File.enc))] }, f.files.length, _, Ent.to [.a 0, .a 1] ?_ ?_, ⟨0, by omega, rfl, rfl⟩, ?_⟩
  · rfl
  · refine ⟨rfl, rfl, rfl, ?_, trivial⟩
    show scI f.cap = _
    simp [dataSum]
  rintro n s ⟨i, hi, rfl, rfl⟩
  repeat (first | refine ⟨rfl, ?_⟩ | refine ⟨trivial, ?_⟩ | refine Br.pos (by assumption) ?_ | refine Br.neg (by assumption) ?_ | refine Br.pos rfl ?_ | refine Br.neg rfl ?_ | refine Br.pos (decide_eq_true (by omega)) ?_ | refine Br.neg (decide_eq_false (by omega)) ?_ | refine ⟨⟨by first | exact Nat.le_of_ble_eq_true rfl | omega | (simp; done) | (simp; omega)⟩, ?_⟩)
  refine Br.mk (fun hc => ?_) (fun hc => ?_)
  · have hc := of_decide_eq_true hc
    have hlt : i < f.files.length := by omega
    have e := getD_zero_add f.files i hlt
    have h1 := dataSum_succ f.files i hlt
    have h2 := dataSum_le f.files (i + 1)
    have hL : (f.files.map File.enc).length = f.files.length := by simp
    repeat (first | refine ⟨rfl, ?_⟩ | refine ⟨trivial, ?_⟩ | refine Br.pos (by assumption) ?_ | refine Br.neg (by assumption) ?_ | refine Br.pos rfl ?_ | refine Br.neg rfl ?_ | refine Br.pos (decide_eq_true (by omega)) ?_ | refine Br.neg (decide_eq_false (by omega)) ?_ | refine ⟨⟨by first | exact Nat.le_of_ble_eq_true rfl | omega | (simp; done) | (simp; omega)⟩, ?_⟩ | rw [e] | rw [hL])
    refine ⟨f.files.length - (i + 1), _, by omega, Ent.to [.a 0, .a 1] ?_ ?_, i + 1, by omega, rfl, rfl⟩
    · rfl
    · refine ⟨?_, rfl, rfl, ?_, trivial⟩
      · show scI (IntKind.wrap .i64 ((i : Int) + 1)) = _
        rw [wrap64_id _ (by omega) (by omega)]; rfl
      · show scI (IntKind.wrap .i64 (f.cap - (dataSum (f.files.take i) : Int) - ((f.files.getD i default).data.size : Int))) = scI (f.cap - (dataSum (f.files.take (i + 1)) : Int))
        have e9 : f.cap - (dataSum (f.files.take i) : Int) - ((f.files.getD i default).data.size : Int) = f.cap - (dataSum (f.files.take (i + 1)) : Int) := by omega
        rw [wrap64_id _ (by omega) (by omega), e9]
  · have hc := of_decide_eq_false hc
    have hi2 : i = f.files.length := by omega
    subst hi2
    rw [List.take_length]
    repeat (first | refine ⟨rfl, ?_⟩ | refine ⟨trivial, ?_⟩ | refine Br.pos (by assumption) ?_ | refine Br.neg (by assumption) ?_ | refine Br.pos rfl ?_ | refine Br.neg rfl ?_ | refine Br.pos (decide_eq_true (by omega)) ?_ | refine Br.neg (decide_eq_false (by omega)) ?_ | refine ⟨⟨by first | exact Nat.le_of_ble_eq_true rfl | omega | (simp; done) | (simp; omega)⟩, ?_⟩)
    exact ⟨_, Ent.to [.a 0, .a 1] (s' := { ts := [(0, scI (f.cap - dataSum f.files))], hs := [(.a 0, sysB (.a 1) f), (.a 1, .row 3 (f.files.map File.enc))] }) rfl ⟨rfl, trivial⟩, rfl, rfl⟩

theorem fs_spec (f : Fs) : AC Try.prog 24 [.ptr (.a 0) 0 0] [(.a 0, sysB (.a 1) f), (.a 1, .row 3 (f.files.map File.enc))] fun r h =>
      r = .agg [.row (.a 1) 0 f.files.length, scI f.cap, scI f.count, scI f.crashAt, scI f.failAt, scB f.down] ∧ h = [(.a 0, sysB (.a 1) f), (.a 1, .row 3 (f.files.map File.enc))] := by
  refine AC.of_body (T := tab) (fn := Try.f24) (rs := [.cell 2 31]) (N := 32) Try.func24 rfl rfl rfl (by simp) ?_
  repeat (first | refine ⟨rfl, ?_⟩ | refine ⟨trivial, ?_⟩ | refine Br.pos (by assumption) ?_ | refine Br.neg (by assumption) ?_ | refine Br.pos rfl ?_ | refine Br.neg rfl ?_ | refine Br.pos (decide_eq_true (by omega)) ?_ | refine Br.neg (decide_eq_false (by omega)) ?_ | refine ⟨⟨by first | exact Nat.le_of_ble_eq_true rfl | omega | (simp; done) | (simp; omega)⟩, ?_⟩)
  refine DrawK.plan (T := tab) [29] (.look 0 [0, 1, 2, 3, 28, 29] (.look 1 [1, 2, 3, 28, 29] (.look 2 [2, 3, 28, 29] (.look 3 [3, 28, 29] (.look 4 [4, 5, 6, 7, 28, 29] (.look 5 [5, 6, 7, 28, 29] (.look 6 [6, 7, 28, 29] (.look 7 [7, 28, 29] (.look 8 [8, 9, 10, 11, 12, 28, 29] (.look 9 [9, 10, 11, 12, 28, 29] (.look 10 [10, 11, 12, 28, 29] (.look 11 [11, 12, 28, 29] (.look 12 [12, 28, 29] (.look 13 [13, 14, 15, 16, 17, 28, 29] (.look 14 [14, 15, 16, 17, 28, 29] (.look 15 [15, 16, 17, 28, 29] (.look 16 [16, 17, 28, 29] (.look 17 [17, 28, 29] (.look 18 [18, 19, 20, 21, 22, 28, 29] (.look 19 [19, 20, 21, 22, 28, 29] (.look 20 [20, 21, 22, 28, 29] (.look 21 [21, 22, 28, 29] (.look 22 [22, 28, 29] (.look 23 [23, 24, 25, 26, 27, 28, 29] (.look 24 [24, 25, 26, 27, 28, 29] (.look 25 [25, 26, 27, 28, 29] (.look 26 [26, 27, 28, 29] (.look 27 [27, 28, 29] (.look 28 [28, 29] (.all [(29, .done)])))))))))))))))))))))))))))))) mixed (by decide +kernel) ?_
  repeat (first | refine ⟨rfl, ?_⟩ | refine ⟨trivial, ?_⟩ | refine Br.pos (by assumption) ?_ | refine Br.neg (by assumption) ?_ | refine Br.pos rfl ?_ | refine Br.neg rfl ?_ | refine Br.pos (decide_eq_true (by omega)) ?_ | refine Br.neg (decide_eq_false (by omega)) ?_ | refine ⟨⟨by first | exact Nat.le_of_ble_eq_true rfl | omega | (simp; done) | (simp; omega)⟩, ?_⟩)
  exact ⟨_, Ent.to [.a 0, .a 1] (s' := { ts := [(0, .agg [.row (.a 1) 0 f.files.length, scI f.cap, scI f.count, scI f.crashAt, scI f.failAt, scB f.down])], hs := [(.a 0, sysB (.a 1) f), (.a 1, .row 3 (f.files.map File.enc))] }) rfl ⟨rfl, trivial⟩, rfl, rfl⟩

/-- A file in its place is turned. -/
theorem sync_spec (fs : List File) (i : Nat) (hi : i < fs.length) : AC Try.prog 42 [.ptr (.a 0) i 0] [(.a 0, .row 3 (fs.map File.enc))] fun r h =>
    r = .tup [] ∧ h = [(.a 0, .row 3 ((fs.set i { fs.getD i default with synced := (fs.getD i default).data.size }).map File.enc))] := by
  refine AC.of_body (T := tab) (fn := Try.f42) (rs := []) (N := 10) Try.func42 rfl rfl rfl (by simp) ?_
  have hL : (fs.map File.enc).length = fs.length := by simp
  have e : (fs.map File.enc).getD i [] = File.enc (fs.getD i default) := getD_map_enc _ _ _ hi
  repeat (first | refine ⟨rfl, ?_⟩ | refine ⟨trivial, ?_⟩ | refine Br.pos (by assumption) ?_ | refine Br.neg (by assumption) ?_ | refine Br.pos rfl ?_ | refine Br.neg rfl ?_ | refine Br.pos (decide_eq_true (by omega)) ?_ | refine Br.neg (decide_eq_false (by omega)) ?_ | refine ⟨⟨by first | exact Nat.le_of_ble_eq_true rfl | omega | (simp; done) | (simp; omega)⟩, ?_⟩ | rw [e] | rw [hL])
  refine ⟨_, Ent.keepK [.a 0] _, rfl, ?_⟩
  show [(Key.a 0, Blk.row 3 ((fs.map File.enc).set i (File.enc { fs.getD i default with synced := (fs.getD i default).data.size })))] = _
  rw [List.map_set]

theorem truncate_spec (fs : List File) (i : Nat) (hi : i < fs.length) (size : Int) : AC Try.prog 43 [.ptr (.a 0) i 0, scI size] [(.a 0, .row 3 (fs.map File.enc))] fun r h =>
    if (!(btw size 0 (fs.getD i default).data.size)) = true then r = scI 16 ∧ h = [(.a 0, .row 3 (fs.map File.enc))]
    else r = scI 0 ∧ h = [(.a 0, .row 3 ((fs.set i { fs.getD i default with data := (fs.getD i default).data.extract 0 size.toNat, synced := size }).map File.enc))] := by
  refine AC.of_body (T := tab) (fn := Try.f43) (rs := [.tmp 4]) (N := 29) Try.func43 rfl rfl rfl (by simp) ?_
  have hL : (fs.map File.enc).length = fs.length := by simp
  have e : (fs.map File.enc).getD i [] = File.enc (fs.getD i default) := getD_map_enc _ _ _ hi
  have bad : (size < 0 ∨ ((fs.getD i default).data.size : Int) < size) → (!(btw size 0 (fs.getD i default).data.size)) = true := fun h => by rw [btw_false _ _ _ h]; rfl
  repeat (first | refine ⟨rfl, ?_⟩ | refine ⟨trivial, ?_⟩ | refine Br.pos (by assumption) ?_ | refine Br.neg (by assumption) ?_ | refine Br.pos rfl ?_ | refine Br.neg rfl ?_ | refine Br.pos (decide_eq_true (by omega)) ?_ | refine Br.neg (decide_eq_false (by omega)) ?_ | refine ⟨⟨by first | exact Nat.le_of_ble_eq_true rfl | omega | (simp; done) | (simp; omega)⟩, ?_⟩)
  refine Br.mk (fun h1 => ?_) (fun h1 => ?_)
  · have h1' := of_decide_eq_true h1
    rw [bad (by omega)]
    repeat (first | refine ⟨rfl, ?_⟩ | refine ⟨trivial, ?_⟩ | refine Br.pos (by assumption) ?_ | refine Br.neg (by assumption) ?_ | refine Br.pos rfl ?_ | refine Br.neg rfl ?_ | refine Br.pos (decide_eq_true (by omega)) ?_ | refine Br.neg (decide_eq_false (by omega)) ?_ | refine ⟨⟨by first | exact Nat.le_of_ble_eq_true rfl | omega | (simp; done) | (simp; omega)⟩, ?_⟩)
    exact ⟨_, Ent.keepK [.a 0] _, rfl, rfl⟩
  have h1' := of_decide_eq_false h1
  repeat (first | refine ⟨rfl, ?_⟩ | refine ⟨trivial, ?_⟩ | refine Br.pos (by assumption) ?_ | refine Br.neg (by assumption) ?_ | refine Br.pos rfl ?_ | refine Br.neg rfl ?_ | refine Br.pos (decide_eq_true (by omega)) ?_ | refine Br.neg (decide_eq_false (by omega)) ?_ | refine ⟨⟨by first | exact Nat.le_of_ble_eq_true rfl | omega | (simp; done) | (simp; omega)⟩, ?_⟩ | rw [e] | rw [hL])
  refine Br.mk (fun h2 => ?_) (fun h2 => ?_)
  · have h2' := of_decide_eq_true h2
    rw [bad (by omega)]
    repeat (first | refine ⟨rfl, ?_⟩ | refine ⟨trivial, ?_⟩ | refine Br.pos (by assumption) ?_ | refine Br.neg (by assumption) ?_ | refine Br.pos rfl ?_ | refine Br.neg rfl ?_ | refine Br.pos (decide_eq_true (by omega)) ?_ | refine Br.neg (decide_eq_false (by omega)) ?_ | refine ⟨⟨by first | exact Nat.le_of_ble_eq_true rfl | omega | (simp; done) | (simp; omega)⟩, ?_⟩)
    exact ⟨_, Ent.keepK [.a 0] _, rfl, rfl⟩
  have h2' := of_decide_eq_false h2
  have good : (!(btw size 0 (fs.getD i default).data.size)) = false := by rw [btw_true _ _ _ (by omega) (by omega)]; rfl
  rw [good]
  repeat (first | refine ⟨rfl, ?_⟩ | refine ⟨trivial, ?_⟩ | refine Br.pos (by assumption) ?_ | refine Br.neg (by assumption) ?_ | refine Br.pos rfl ?_ | refine Br.neg rfl ?_ | refine Br.pos (decide_eq_true (by omega)) ?_ | refine Br.neg (decide_eq_false (by omega)) ?_ | refine ⟨⟨by first | exact Nat.le_of_ble_eq_true rfl | omega | (simp; done) | (simp; omega)⟩, ?_⟩ | rw [e] | rw [hL] | rw [List.length_set])
  refine ⟨_, Ent.keepK [.a 0] _, rfl, ?_⟩
  have k1 : (fs.map File.enc).set i (File.enc { fs.getD i default with data := (fs.getD i default).data.extract 0 size.toNat }) = (fs.set i { fs.getD i default with data := (fs.getD i default).data.extract 0 size.toNat }).map File.enc := by rw [List.map_set]
  show [(Key.a 0, Blk.row 3 (((fs.map File.enc).set i (File.enc { fs.getD i default with data := (fs.getD i default).data.extract 0 size.toNat })).set i (splice (((fs.map File.enc).set i (File.enc { fs.getD i default with data := (fs.getD i default).data.extract 0 size.toNat })).getD i []) 2 [scI size])))] = _
  rw [k1, getD_map_enc File.enc _ default (by rw [List.length_set]; exact hi), getD_set_self _ _ hi]
  have k2 : ∀ (L : List File) (g : File), (L.map File.enc).set i (File.enc g) = (L.set i g).map File.enc := fun L g => by rw [List.map_set]
  refine congrArg (fun z => [(Key.a 0, Blk.row 3 z)]) ((k2 _ { fs.getD i default with data := (fs.getD i default).data.extract 0 size.toNat, synced := size }).trans ?_)
  rw [List.set_set]
end Go.Proofs.Try
