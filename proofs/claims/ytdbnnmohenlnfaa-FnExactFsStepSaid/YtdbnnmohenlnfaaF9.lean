/- The law's helpers: copies of the files, marks in them. -/
import Derived.Test.YtdbnnmohenlnfaaF8
namespace Go.Proofs.Try
open Go Go.Sym
set_option linter.unusedVariables false
set_option linter.unusedSimpArgs false
set_option maxHeartbeats 8000000

theorem File.cells_eq (f : File) : File.enc f = [scS f.name, scS f.data, scI f.synced] := rfl
theorem getD_zero_add (fs : List File) (i : Nat) (h : i < fs.length) : (fs.map File.enc).getD (0 + (i : Int).toNat) [] = File.enc (fs.getD i default) := by
  rw [Nat.zero_add]; exact getD_map_enc _ _ _ h
theorem splice_all (a b : File) : splice (File.enc a) 0 (File.enc b) = File.enc b := rfl
theorem set_enc (fs : List File) (i : Nat) (g : File) : (fs.map File.enc).set (0 + (i : Int).toNat) (File.enc g) = (fs.set i g).map File.enc := by
  rw [Nat.zero_add, List.map_set]; rfl

/-- The copy when 'i' files are done. -/
def fillC (fs : List File) (i : Nat) : List File := fs.take i ++ List.replicate (fs.length - i) default
theorem fillC_len (fs : List File) (i : Nat) (h : i ≤ fs.length) : (fillC fs i).length = fs.length := by simp [fillC]; omega
theorem fillC_set (fs : List File) (i : Nat) (h : i < fs.length) : (fillC fs i).set i (fs.getD i default) = fillC fs (i + 1) := by
  have h1 : fs.length - i = (fs.length - (i + 1)) + 1 := by omega
  have h2 : (fs.take i).length = i := by simp; omega
  unfold fillC
  rw [take_succ_getD _ _ default h, h1, List.replicate_succ, List.set_append_right _ _ (by omega), h2, Nat.sub_self]
  simp

theorem toFileS_spec (fs : List File) (hl : fs.length ≤ 1000000000) : AC Try.prog 19 [.rd 3 (fs.map File.enc)] [] fun r h => r = .row (.r 0) 0 fs.length ∧ h = [(.r 0, .row 3 (fs.map File.enc))] := by
  refine AC.of_body (T := tab) (fn := Try.f19) (rs := [.tmp 2]) (N := 23) Try.func19 rfl rfl rfl (by simp) ?_
  have hrep : List.replicate ((fs.length : Int)).toNat (File.enc default) = (List.replicate fs.length (default : File)).map File.enc := by simp
  repeat (first | refine ⟨rfl, ?_⟩ | refine ⟨trivial, ?_⟩ | refine Br.pos (by assumption) ?_ | refine Br.neg (by assumption) ?_ | refine Br.pos rfl ?_ | refine Br.neg rfl ?_ | refine Br.pos (decide_eq_true (by omega)) ?_ | refine Br.neg (decide_eq_false (by omega)) ?_ | refine ⟨⟨by first | exact Nat.le_of_ble_eq_true rfl | omega | (simp; done) | (simp; omega)⟩, ?_⟩ | rw [List.length_map])
  refine ⟨fun n s => ∃ i : Nat, i ≤ fs.length ∧ n = fs.length - i ∧ s = { ts := [(4, scI i), (3, .row (.t 7) 0 fs.length), (0, .rd 3 (fs.map File.enc))], hs := [(.t 7, .row 3 ((fillC fs i).map File.enc))] }, fs.length, _, Ent.to [.t 7] ?_ ?_, ⟨0, by omega, rfl, rfl⟩, ?_⟩
  · show [(Key.t 7, Blk.row 3 (List.replicate ((fs.length : Int)).toNat (File.enc default)))] = _
    rw [hrep]; simp [fillC]
  · refine ⟨rfl, ?_, rfl, trivial⟩
    show V.row (.t 7) 0 ((fs.length : Int)).toNat = _
    rw [Int.toNat_natCast]
  rintro n s ⟨i, hi, rfl, rfl⟩
  have hC := fillC_len fs i hi
  repeat (first | refine ⟨rfl, ?_⟩ | refine ⟨trivial, ?_⟩ | refine Br.pos (by assumption) ?_ | refine Br.neg (by assumption) ?_ | refine Br.pos rfl ?_ | refine Br.neg rfl ?_ | refine Br.pos (decide_eq_true (by omega)) ?_ | refine Br.neg (decide_eq_false (by omega)) ?_ | refine ⟨⟨by first | exact Nat.le_of_ble_eq_true rfl | omega | (simp; done) | (simp; omega)⟩, ?_⟩ | rw [List.length_map])
  refine Br.mk (fun hc => ?_) (fun hc => ?_)
  · have hc := of_decide_eq_true hc
    have hlt : i < fs.length := by omega
    have e : (fs.map File.enc).getD (i : Int).toNat [] = File.enc (fs.getD i default) := getD_map_enc _ _ _ hlt
    have hL : ((fillC fs i).map File.enc).length = fs.length := by rw [List.length_map, hC]
    repeat (first | refine ⟨rfl, ?_⟩ | refine ⟨trivial, ?_⟩ | refine Br.pos (by assumption) ?_ | refine Br.neg (by assumption) ?_ | refine Br.pos rfl ?_ | refine Br.neg rfl ?_ | refine Br.pos (decide_eq_true (by omega)) ?_ | refine Br.neg (decide_eq_false (by omega)) ?_ | refine ⟨⟨by first | exact Nat.le_of_ble_eq_true rfl | omega | (simp; done) | (simp; omega)⟩, ?_⟩ | rw [e])
    refine CallS.val (toFile_spec (fs.getD i default)) rfl ?_
    repeat (first | refine ⟨rfl, ?_⟩ | refine ⟨trivial, ?_⟩ | refine Br.pos (by assumption) ?_ | refine Br.neg (by assumption) ?_ | refine Br.pos rfl ?_ | refine Br.neg rfl ?_ | refine Br.pos (decide_eq_true (by omega)) ?_ | refine Br.neg (decide_eq_false (by omega)) ?_ | refine ⟨⟨by first | exact Nat.le_of_ble_eq_true rfl | omega | (simp; done) | (simp; omega)⟩, ?_⟩ | rw [hL])
    refine ⟨fs.length - (i + 1), _, by omega, Ent.to [.t 7] ?_ ?_, i + 1, by omega, rfl, rfl⟩
    · show [(Key.t 7, Blk.row 3 (((fillC fs i).map File.enc).set (0 + (i : Int).toNat) (splice (((fillC fs i).map File.enc).getD (0 + (i : Int).toNat) []) 0 (File.enc (fs.getD i default)))))] = _
      rw [getD_zero_add _ _ (by omega), splice_all, set_enc, fillC_set fs i hlt]
    · refine ⟨?_, rfl, rfl, trivial⟩
      show scI (IntKind.wrap .i64 ((i : Int) + 1)) = _
      rw [wrap64_id _ (by omega) (by omega)]; rfl
  · have hc := of_decide_eq_false hc
    repeat (first | refine ⟨rfl, ?_⟩ | refine ⟨trivial, ?_⟩ | refine Br.pos (by assumption) ?_ | refine Br.neg (by assumption) ?_ | refine Br.pos rfl ?_ | refine Br.neg rfl ?_ | refine Br.pos (decide_eq_true (by omega)) ?_ | refine Br.neg (decide_eq_false (by omega)) ?_ | refine ⟨⟨by first | exact Nat.le_of_ble_eq_true rfl | omega | (simp; done) | (simp; omega)⟩, ?_⟩)
    have h1 : fillC fs i = fs := by
      have : i = fs.length := by omega
      subst this; simp [fillC]
    refine ⟨_, Ent.trans (Ent.mv (.t 7) (.r 0) rfl (by decide)) (Ent.to [.r 0] (s' := { ts := [(0, .row (.r 0) 0 fs.length)], hs := [(.r 0, .row 3 ((fillC fs i).map File.enc))] }) rfl ⟨rfl, trivial⟩), rfl, ?_⟩
    rw [h1]

theorem toFs_spec (f : Fs) (hl : f.files.length ≤ 1000000000) : AC Try.prog 7 [f.rd] [] fun r h =>
    r = .agg [.row (.r 0) 0 f.files.length, scI f.cap, scI f.count, scI f.crashAt, scI f.failAt, scB f.down] ∧ h = [(.r 0, .row 3 (f.files.map File.enc))] := by
  refine AC.of_body (T := tab) (fn := Try.f7) (rs := [.cell 2 31]) (N := 24) Try.func7 rfl rfl rfl (by simp) ?_
  repeat (first | refine ⟨rfl, ?_⟩ | refine ⟨trivial, ?_⟩ | refine Br.pos (by assumption) ?_ | refine Br.neg (by assumption) ?_ | refine Br.pos rfl ?_ | refine Br.neg rfl ?_ | refine Br.pos (decide_eq_true (by omega)) ?_ | refine Br.neg (decide_eq_false (by omega)) ?_ | refine ⟨⟨by first | exact Nat.le_of_ble_eq_true rfl | omega | (simp; done) | (simp; omega)⟩, ?_⟩)
  refine CallS.row1 false 1 (toFileS_spec f.files hl) rfl (lend_same rfl) (fun h => by cases h) rfl ?_
  repeat (first | refine ⟨rfl, ?_⟩ | refine ⟨trivial, ?_⟩ | refine Br.pos (by assumption) ?_ | refine Br.neg (by assumption) ?_ | refine Br.pos rfl ?_ | refine Br.neg rfl ?_ | refine Br.pos (decide_eq_true (by omega)) ?_ | refine Br.neg (decide_eq_false (by omega)) ?_ | refine ⟨⟨by first | exact Nat.le_of_ble_eq_true rfl | omega | (simp; done) | (simp; omega)⟩, ?_⟩)
  exact ⟨_, Ent.trans (Ent.mv (.c 1 0) (.r 0) rfl (by decide)) (Ent.to [.r 0] (s' := { ts := [(0, .agg [.row (.r 0) 0 f.files.length, scI f.cap, scI f.count, scI f.crashAt, scI f.failAt, scB f.down])], hs := [(.r 0, .row 3 (f.files.map File.enc))] }) rfl ⟨rfl, trivial⟩), rfl, rfl⟩
end Go.Proofs.Try
