/- The law's marks in the files. -/
import Derived.Test.YtdbnnmohenlnfaaF9
namespace Go.Proofs.Try
open Go Go.Sym
set_option linter.unusedVariables false
set_option linter.unusedSimpArgs false
set_option maxHeartbeats 8000000

def markAt (k : Int) (i : Nat) : File := ⟨markT (k + 3 * i), markT (k + 3 * i + 1), k + 3 * i + 2⟩
def markL (k : Int) (n : Nat) : List File := (List.range n).map (markAt k)
def markC (fs : List File) (k : Int) (i : Nat) : List File := markL k i ++ fs.drop i
theorem markC_len (fs : List File) (k : Int) (i : Nat) (h : i ≤ fs.length) : (markC fs k i).length = fs.length := by simp [markC, markL]; omega
theorem markC_set (fs : List File) (k : Int) (i : Nat) (h : i < fs.length) : (markC fs k i).set i (markAt k i) = markC fs k (i + 1) := by
  have h2 : (markL k i).length = i := by simp [markL]
  unfold markC
  rw [List.set_append_right _ _ (by omega), h2, Nat.sub_self, List.drop_eq_getElem_cons h, List.set_cons_zero]
  simp [markL, List.range_succ]

theorem set1 (L : List File) (i : Nat) (h : i < L.length) (n : ByteArray) : (L.map File.enc).set (0 + (i : Int).toNat) (splice ((L.map File.enc).getD (0 + (i : Int).toNat) []) 0 [scS n]) = (L.set i { L.getD i default with name := n }).map File.enc := by
  rw [getD_zero_add _ _ h]; exact set_enc L i { L.getD i default with name := n }
theorem set2 (L : List File) (i : Nat) (h : i < L.length) (n : ByteArray) : (L.map File.enc).set (0 + (i : Int).toNat) (splice ((L.map File.enc).getD (0 + (i : Int).toNat) []) 1 [scS n]) = (L.set i { L.getD i default with data := n }).map File.enc := by
  rw [getD_zero_add _ _ h]; exact set_enc L i { L.getD i default with data := n }
theorem set3 (L : List File) (i : Nat) (h : i < L.length) (n : Int) : (L.map File.enc).set (0 + (i : Int).toNat) (splice ((L.map File.enc).getD (0 + (i : Int).toNat) []) 2 [scI n]) = (L.set i { L.getD i default with synced := n }).map File.enc := by
  rw [getD_zero_add _ _ h]; exact set_enc L i { L.getD i default with synced := n }
theorem getD_set_self (L : List File) (i : Nat) (h : i < L.length) (g : File) : (L.set i g).getD i default = g := by simp [List.getD_eq_getElem?_getD, h]

theorem mark3 (L : List File) (i : Nat) (h : i < L.length) (n d : ByteArray) (s : Int) (X1 X2 X3 : List (List V)) (h1 : X1 = (L.map File.enc).set (0 + (i : Int).toNat) (splice ((L.map File.enc).getD (0 + (i : Int).toNat) []) 0 [scS n]))
    (h2 : X2 = X1.set (0 + (i : Int).toNat) (splice (X1.getD (0 + (i : Int).toNat) []) 1 [scS d])) (h3 : X3 = X2.set (0 + (i : Int).toNat) (splice (X2.getD (0 + (i : Int).toNat) []) 2 [scI s])) : X3 = (L.set i ⟨n, d, s⟩).map File.enc := by
  rw [set1 L i h] at h1
  subst h1
  rw [set2 _ i (by rw [List.length_set]; exact h), getD_set_self _ _ h, List.set_set] at h2
  subst h2
  rw [set3 _ i (by rw [List.length_set]; exact h), getD_set_self _ _ h, List.set_set] at h3
  exact h3

theorem markFileS_spec (fs : List File) (k : Int) (hk : 0 ≤ k) (hl : k + 3 * fs.length ≤ 1000000000) : AC Try.prog 26 [.row (.a 0) 0 fs.length, scI k] [(.a 0, .row 3 (fs.map File.enc))] fun r h =>
    r = scI (k + 3 * fs.length) ∧ h = [(.a 0, .row 3 ((markL k fs.length).map File.enc))] := by
  refine AC.of_body (T := tab) (fn := Try.f26) (rs := [.tmp 4]) (N := 36) Try.func26 rfl rfl rfl (by simp) ?_
  repeat (first | refine ⟨rfl, ?_⟩ | refine ⟨trivial, ?_⟩ | refine Br.pos (by assumption) ?_ | refine Br.neg (by assumption) ?_ | refine Br.pos rfl ?_ | refine Br.neg rfl ?_ | refine Br.pos (decide_eq_true (by omega)) ?_ | refine Br.neg (decide_eq_false (by omega)) ?_ | refine ⟨⟨by first | exact Nat.le_of_ble_eq_true rfl | omega | (simp; done) | (simp; omega)⟩, ?_⟩)
  refine ⟨fun n s => ∃ i : Nat, i ≤ fs.length ∧ n = fs.length - i ∧ s = { ts := [(5, scI i), (1, scI (k + 3 * i)), (0, .row (.a 0) 0 fs.length)], hs := [(.a 0, .row 3 ((markC fs k i).map File.enc))] }, fs.length, _, Ent.to [.a 0] ?_ ?_, ⟨0, by omega, rfl, rfl⟩, ?_⟩
  · rfl
  · refine ⟨rfl, ?_, rfl, trivial⟩
    show scI k = _
    simp
  rintro n s ⟨i, hi, rfl, rfl⟩
  have hC := markC_len fs k i hi
  repeat (first | refine ⟨rfl, ?_⟩ | refine ⟨trivial, ?_⟩ | refine Br.pos (by assumption) ?_ | refine Br.neg (by assumption) ?_ | refine Br.pos rfl ?_ | refine Br.neg rfl ?_ | refine Br.pos (decide_eq_true (by omega)) ?_ | refine Br.neg (decide_eq_false (by omega)) ?_ | refine ⟨⟨by first | exact Nat.le_of_ble_eq_true rfl | omega | (simp; done) | (simp; omega)⟩, ?_⟩)
  refine Br.mk (fun hc => ?_) (fun hc => ?_)
  · have hc := of_decide_eq_true hc
    have hlt : i < fs.length := by omega
    have hL : ((markC fs k i).map File.enc).length = fs.length := by rw [List.length_map, hC]
    have e1 : IntKind.wrap .i64 (k + 3 * i + 1) = k + 3 * i + 1 := wrap64_id _ (by omega) (by omega)
    have e2 : IntKind.wrap .i64 (k + 3 * i + 1 + 1) = k + 3 * i + 2 := by rw [wrap64_id _ (by omega) (by omega)]; omega
    have e3 : IntKind.wrap .i64 (k + 3 * i + 2 + 1) = k + 3 * (i + 1 : Nat) := by rw [wrap64_id _ (by omega) (by omega)]; omega
    repeat (first | refine ⟨rfl, ?_⟩ | refine ⟨trivial, ?_⟩ | refine Br.pos (by assumption) ?_ | refine Br.neg (by assumption) ?_ | refine Br.pos rfl ?_ | refine Br.neg rfl ?_ | refine Br.pos (decide_eq_true (by omega)) ?_ | refine Br.neg (decide_eq_false (by omega)) ?_ | refine ⟨⟨by first | exact Nat.le_of_ble_eq_true rfl | omega | (simp; done) | (simp; omega)⟩, ?_⟩)
    refine CallS.val (markText_spec _ (by omega)) rfl ?_
    repeat (first | refine ⟨rfl, ?_⟩ | refine ⟨trivial, ?_⟩ | refine Br.pos (by assumption) ?_ | refine Br.neg (by assumption) ?_ | refine Br.pos rfl ?_ | refine Br.neg rfl ?_ | refine Br.pos (decide_eq_true (by omega)) ?_ | refine Br.neg (decide_eq_false (by omega)) ?_ | refine ⟨⟨by first | exact Nat.le_of_ble_eq_true rfl | omega | (simp; done) | (simp; omega)⟩, ?_⟩ | rw [hL] | rw [List.length_set] | rw [e1])
    refine CallS.val (markText_spec _ (by omega)) rfl ?_
    repeat (first | refine ⟨rfl, ?_⟩ | refine ⟨trivial, ?_⟩ | refine Br.pos (by assumption) ?_ | refine Br.neg (by assumption) ?_ | refine Br.pos rfl ?_ | refine Br.neg rfl ?_ | refine Br.pos (decide_eq_true (by omega)) ?_ | refine Br.neg (decide_eq_false (by omega)) ?_ | refine ⟨⟨by first | exact Nat.le_of_ble_eq_true rfl | omega | (simp; done) | (simp; omega)⟩, ?_⟩ | rw [hL] | rw [List.length_set] | rw [e2])
    repeat (first | refine ⟨rfl, ?_⟩ | refine ⟨trivial, ?_⟩ | refine Br.pos (by assumption) ?_ | refine Br.neg (by assumption) ?_ | refine Br.pos rfl ?_ | refine Br.neg rfl ?_ | refine Br.pos (decide_eq_true (by omega)) ?_ | refine Br.neg (decide_eq_false (by omega)) ?_ | refine ⟨⟨by first | exact Nat.le_of_ble_eq_true rfl | omega | (simp; done) | (simp; omega)⟩, ?_⟩ | rw [hL] | rw [List.length_set] | rw [e3])
    have hget : (markC fs k i).length = fs.length := hC
    refine ⟨fs.length - (i + 1), _, by omega, Ent.to [.a 0] ?_ ?_, i + 1, by omega, rfl, rfl⟩
    · have key := mark3 (markC fs k i) i (by omega) (markT (k + 3 * i)) (markT (k + 3 * i + 1)) (k + 3 * i + 2) _ _ _ rfl rfl rfl
      rw [show (⟨markT (k + 3 * i), markT (k + 3 * i + 1), k + 3 * i + 2⟩ : File) = markAt k i from rfl, markC_set fs k i hlt] at key
      exact congrArg (fun z => [(Key.a 0, Blk.row 3 z)]) key
    · refine ⟨?_, rfl, rfl, trivial⟩
      show scI (IntKind.wrap .i64 ((i : Int) + 1)) = _
      rw [wrap64_id _ (by omega) (by omega)]; rfl
  · have hc := of_decide_eq_false hc
    have h1 : i = fs.length := by omega
    subst h1
    repeat (first | refine ⟨rfl, ?_⟩ | refine ⟨trivial, ?_⟩ | refine Br.pos (by assumption) ?_ | refine Br.neg (by assumption) ?_ | refine Br.pos rfl ?_ | refine Br.neg rfl ?_ | refine Br.pos (decide_eq_true (by omega)) ?_ | refine Br.neg (decide_eq_false (by omega)) ?_ | refine ⟨⟨by first | exact Nat.le_of_ble_eq_true rfl | omega | (simp; done) | (simp; omega)⟩, ?_⟩)
    refine ⟨_, Ent.to [.a 0] (s' := { ts := [(0, scI (k + 3 * fs.length))], hs := [(.a 0, .row 3 ((markC fs k fs.length).map File.enc))] }) rfl ⟨rfl, trivial⟩, rfl, ?_⟩
    simp [markC]
theorem markFileS_nil (k : Int) : AC Try.prog 26 [.nil, scI k] [] fun r h => r = scI k ∧ h = [] := by
  refine AC.of_body (T := tab) (fn := Try.f26) (rs := [.tmp 4]) (N := 36) Try.func26 rfl rfl rfl (by simp) ?_
  repeat (first | refine ⟨rfl, ?_⟩ | refine ⟨trivial, ?_⟩ | refine Br.pos (by assumption) ?_ | refine Br.neg (by assumption) ?_ | refine Br.pos rfl ?_ | refine Br.neg rfl ?_ | refine Br.pos (decide_eq_true (by omega)) ?_ | refine Br.neg (decide_eq_false (by omega)) ?_ | refine ⟨⟨by first | exact Nat.le_of_ble_eq_true rfl | omega | (simp; done) | (simp; omega)⟩, ?_⟩)
  refine ⟨fun n s => s = { ts := [(5, scI 0), (1, scI k), (0, .nil)], hs := [] }, 0, _, Ent.to [] ?_ ?_, rfl, ?_⟩
  · rfl
  · exact ⟨rfl, rfl, rfl, trivial⟩
  rintro n s rfl
  repeat (first | refine ⟨rfl, ?_⟩ | refine ⟨trivial, ?_⟩ | refine Br.pos (by assumption) ?_ | refine Br.neg (by assumption) ?_ | refine Br.pos rfl ?_ | refine Br.neg rfl ?_ | refine Br.pos (decide_eq_true (by omega)) ?_ | refine Br.neg (decide_eq_false (by omega)) ?_ | refine ⟨⟨by first | exact Nat.le_of_ble_eq_true rfl | omega | (simp; done) | (simp; omega)⟩, ?_⟩)
  exact ⟨_, Ent.refl _, rfl, rfl⟩

theorem markFs_spec (f : Fs) (k : Int) (hk : 0 ≤ k) (hl : k + 3 * f.files.length ≤ 1000000000) : AC Try.prog 11 [.agg [.row (.a 0) 0 f.files.length, scI f.cap, scI f.count, scI f.crashAt, scI f.failAt, scB f.down], scI k] [(.a 0, .row 3 (f.files.map File.enc))] fun r h =>
    r = scI (k + 3 * f.files.length) ∧ h = [(.a 0, .row 3 ((markL k f.files.length).map File.enc))] := by
  refine AC.of_body (T := tab) (fn := Try.f11) (rs := [.tmp 4]) (N := 10) Try.func11 rfl rfl rfl (by simp) ?_
  repeat (first | refine ⟨rfl, ?_⟩ | refine ⟨trivial, ?_⟩ | refine Br.pos (by assumption) ?_ | refine Br.neg (by assumption) ?_ | refine Br.pos rfl ?_ | refine Br.neg rfl ?_ | refine Br.pos (decide_eq_true (by omega)) ?_ | refine Br.neg (decide_eq_false (by omega)) ?_ | refine ⟨⟨by first | exact Nat.le_of_ble_eq_true rfl | omega | (simp; done) | (simp; omega)⟩, ?_⟩)
  refine CallS.lend [.a 0] 1 (markFileS_spec f.files k hk hl) (by decide) rfl rfl rfl ⟨rfl, rfl, trivial⟩ ?_
  rintro r h' ⟨rfl, rfl⟩
  refine ⟨rfl, ?_⟩
  repeat (first | refine ⟨rfl, ?_⟩ | refine ⟨trivial, ?_⟩ | refine Br.pos (by assumption) ?_ | refine Br.neg (by assumption) ?_ | refine Br.pos rfl ?_ | refine Br.neg rfl ?_ | refine Br.pos (decide_eq_true (by omega)) ?_ | refine Br.neg (decide_eq_false (by omega)) ?_ | refine ⟨⟨by first | exact Nat.le_of_ble_eq_true rfl | omega | (simp; done) | (simp; omega)⟩, ?_⟩)
  exact ⟨_, Ent.to [.a 0] (s' := { ts := [(0, scI (k + 3 * f.files.length))], hs := [(.a 0, .row 3 ((markL k f.files.length).map File.enc))] }) rfl ⟨rfl, trivial⟩, rfl, rfl⟩
theorem markFs_nil (a b c d e : Value) (k : Int) : AC Try.prog 11 [.agg [.nil, .sc a, .sc b, .sc c, .sc d, .sc e], scI k] [] fun r h => r = scI k ∧ h = [] := by
  refine AC.of_body (T := tab) (fn := Try.f11) (rs := [.tmp 4]) (N := 10) Try.func11 rfl rfl rfl (by simp) ?_
  repeat (first | refine ⟨rfl, ?_⟩ | refine ⟨trivial, ?_⟩ | refine Br.pos (by assumption) ?_ | refine Br.neg (by assumption) ?_ | refine Br.pos rfl ?_ | refine Br.neg rfl ?_ | refine Br.pos (decide_eq_true (by omega)) ?_ | refine Br.neg (decide_eq_false (by omega)) ?_ | refine ⟨⟨by first | exact Nat.le_of_ble_eq_true rfl | omega | (simp; done) | (simp; omega)⟩, ?_⟩)
  refine CallS.val (markFileS_nil k) rfl ?_
  repeat (first | refine ⟨rfl, ?_⟩ | refine ⟨trivial, ?_⟩ | refine Br.pos (by assumption) ?_ | refine Br.neg (by assumption) ?_ | refine Br.pos rfl ?_ | refine Br.neg rfl ?_ | refine Br.pos (decide_eq_true (by omega)) ?_ | refine Br.neg (decide_eq_false (by omega)) ?_ | refine ⟨⟨by first | exact Nat.le_of_ble_eq_true rfl | omega | (simp; done) | (simp; omega)⟩, ?_⟩)
  exact ⟨_, Ent.keepK [] _, rfl, rfl⟩
end Go.Proofs.Try
