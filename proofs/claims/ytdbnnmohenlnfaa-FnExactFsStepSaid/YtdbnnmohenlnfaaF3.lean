/- The reference's copies of the files. -/
import Derived.Test.YtdbnnmohenlnfaaF2
namespace Go.Proofs.Try
open Go Go.Sym
set_option linter.unusedVariables false
set_option linter.unusedSimpArgs false
set_option maxHeartbeats 8000000

theorem l6Copy_spec (fs : List File) (a b c d e : V) (hl : fs.length ≤ 1000000000) (hn : ∃ a' b' c' d' e', [a, b, c, d, e] = [V.sc a', .sc b', .sc c', .sc d', .sc e']) :
    AC Try.prog 17 [.agg [.rd 3 (fs.map File.enc), a, b, c, d, e]] [] fun r h => r = .agg [.row (.r 0) 0 fs.length, a, b, c, d, e] ∧ h = [(.r 0, .row 3 (fs.map File.enc))] := by
  obtain ⟨a', b', c', d', e', hn⟩ := hn
  cases hn
  refine AC.of_body (T := tab) (fn := Try.f17) (rs := [.cell 2 31]) (N := 9) Try.func17 rfl rfl rfl (by simp) ?_
  repeat (first | refine ⟨rfl, ?_⟩ | refine ⟨trivial, ?_⟩ | refine Br.pos (by assumption) ?_ | refine Br.neg (by assumption) ?_ | refine Br.pos rfl ?_ | refine Br.neg rfl ?_ | refine Br.pos (decide_eq_true (by omega)) ?_ | refine Br.neg (decide_eq_false (by omega)) ?_ | refine ⟨⟨by first | exact Nat.le_of_ble_eq_true rfl | omega | (simp; done) | (simp; omega)⟩, ?_⟩)
  refine ⟨_, Ent.trans (Ent.mv (.t 6) (.r 0) rfl (by decide)) (Ent.to [.r 0] (s' := { ts := [(0, .agg [.row (.r 0) 0 fs.length, .sc a', .sc b', .sc c', .sc d', .sc e'])], hs := [(.r 0, .row 3 (fs.map File.enc))] }) ?_ ?_), rfl, rfl⟩
  · rfl
  · refine ⟨?_, trivial⟩
    show V.agg [.row (.r 0) 0 (fs.map File.enc).length, .sc a', .sc b', .sc c', .sc d', .sc e'] = _
    rw [List.length_map]

def withStep (name : ByteArray) (f : File) (st : List File × Bool) (g : File) : List File × Bool :=
  let st := if (!st.2 && Op.bytesLess f.name.toList g.name.toList) = true then (st.1 ++ [f], true) else st
  if (!(g.name.toList == name.toList)) = true then (st.1 ++ [g], st.2) else st
def withFold (name : ByteArray) (f : File) (files : List File) : List File × Bool := files.foldl (withStep name f) ([], f.name.toList == (⟨#[]⟩ : ByteArray).toList)
def withF (files : List File) (name : ByteArray) (f : File) : List File :=
  let p := withFold name f files
  if (!p.2) = true then p.1 ++ [f] else p.1

theorem withFold_succ (name : ByteArray) (f : File) (files : List File) (i : Nat) (h : i < files.length) : withFold name f (files.take (i + 1)) = withStep name f (withFold name f (files.take i)) (files.getD i default) := by
  rw [take_succ_getD _ _ default h]; simp [withFold]
theorem withStep_len (name : ByteArray) (f : File) (st : List File × Bool) (g : File) : (withStep name f st g).1.length ≤ st.1.length + 2 := by
  unfold withStep; dsimp only; split <;> split <;> simp <;> omega
theorem withFold_len (name : ByteArray) (f : File) (files : List File) (i : Nat) (hi : i ≤ files.length) : (withFold name f (files.take i)).1.length ≤ 2 * i := by
  induction i with
  | zero => simp [withFold]
  | succ i ih =>
    rw [withFold_succ _ _ _ _ (by omega)]
    have := withStep_len name f (withFold name f (files.take i)) (files.getD i default)
    have := ih (by omega)
    omega

/-- A row, and one more. -/
theorem row_snoc (o : List File) (f : File) : ((o.map File.enc).drop 0).take o.length ++ (([File.enc f] : List (List V)).drop 0).take 1 = (o ++ [f]).map File.enc := by
  rw [List.drop_zero, List.take_of_length_le (by simp)]; simp

theorem l6With_spec (fs : List File) (name : ByteArray) (f : File) (hl : fs.length ≤ 1000000000) :
    AC Try.prog 32 [.rd 3 (fs.map File.enc), scS name, .agg (File.enc f)] [] fun r h => r = .row (.r 0) 0 (withF fs name f).length ∧ h = [(.r 0, .row 3 ((withF fs name f).map File.enc))] := by
  refine AC.of_body (T := tab) (fn := Try.f32) (rs := [.tmp 6]) (N := 50) Try.func32 rfl rfl rfl (by simp) ?_
  repeat (first | refine ⟨rfl, ?_⟩ | refine ⟨trivial, ?_⟩ | refine Br.pos (by assumption) ?_ | refine Br.neg (by assumption) ?_ | refine Br.pos rfl ?_ | refine Br.neg rfl ?_ | refine Br.pos (decide_eq_true (by omega)) ?_ | refine Br.neg (decide_eq_false (by omega)) ?_ | refine ⟨⟨by first | exact Nat.le_of_ble_eq_true rfl | omega | (simp; done) | (simp; omega)⟩, ?_⟩)
  refine ⟨fun n s => ∃ i : Nat, i ≤ fs.length ∧ n = fs.length - i ∧ s = { ts := [(17, scI i), (16, scI fs.length), (15, .rd 3 (fs.map File.enc)), (8, scB (withFold name f (fs.take i)).2), (7, .row (.r 0) 0 (withFold name f (fs.take i)).1.length), (5, .ptr (.t 5) 0 0), (1, scS name)], hs := [(.r 0, .row 3 ((withFold name f (fs.take i)).1.map File.enc)), (.t 5, .box (File.enc f))] }, fs.length, _, Ent.trans (Ent.virt (n := 7) (.r 0) 3 rfl rfl) (Ent.to [.r 0, .t 5] ?_ ?_), ⟨0, by omega, rfl, rfl⟩, ?_⟩
  · rfl
  · exact ⟨rfl, by simp; rfl, rfl, rfl, rfl, rfl, rfl, trivial⟩
  · rintro n s ⟨i, hi, rfl, rfl⟩
    repeat (first | refine ⟨rfl, ?_⟩ | refine ⟨trivial, ?_⟩ | refine Br.pos (by assumption) ?_ | refine Br.neg (by assumption) ?_ | refine Br.pos rfl ?_ | refine Br.neg rfl ?_ | refine Br.pos (decide_eq_true (by omega)) ?_ | refine Br.neg (decide_eq_false (by omega)) ?_ | refine ⟨⟨by first | exact Nat.le_of_ble_eq_true rfl | omega | (simp; done) | (simp; omega)⟩, ?_⟩)
    have hlen := withFold_len name f fs i hi
    refine Br.mk (fun hc => ?_) (fun hc => ?_)
    · have hc := of_decide_eq_true hc
      have hlt : i < fs.length := by omega
      have e : (fs.map File.enc).getD (i : Int).toNat [] = File.enc (fs.getD i default) := getD_map_enc _ _ _ hlt
      have hsucc := withFold_succ name f fs i hlt
      generalize hg : withFold name f (fs.take i) = st at *
      obtain ⟨o, p⟩ := st
      have hlen : o.length ≤ 2 * i := hlen
      repeat (first | refine ⟨rfl, ?_⟩ | refine ⟨trivial, ?_⟩ | refine Br.pos (by assumption) ?_ | refine Br.neg (by assumption) ?_ | refine Br.pos rfl ?_ | refine Br.neg rfl ?_ | refine Br.pos (decide_eq_true (by omega)) ?_ | refine Br.neg (decide_eq_false (by omega)) ?_ | refine ⟨⟨by first | exact Nat.le_of_ble_eq_true rfl | omega | (simp; done) | (simp; omega)⟩, ?_⟩ | rw [e])
      refine Br.mk (fun h1 => ?_) (fun h1 => ?_)
      · repeat (first | refine ⟨rfl, ?_⟩ | refine ⟨trivial, ?_⟩ | refine Br.pos (by assumption) ?_ | refine Br.neg (by assumption) ?_ | refine Br.pos rfl ?_ | refine Br.neg rfl ?_ | refine Br.pos (decide_eq_true (by omega)) ?_ | refine Br.neg (decide_eq_false (by omega)) ?_ | refine ⟨⟨by first | exact Nat.le_of_ble_eq_true rfl | omega | (simp; done) | (simp; omega)⟩, ?_⟩)
        refine Br.mk (fun h2 => ?_) (fun h2 => ?_)
        · repeat (first | refine ⟨rfl, ?_⟩ | refine ⟨trivial, ?_⟩ | refine Br.pos (by assumption) ?_ | refine Br.neg (by assumption) ?_ | refine Br.pos rfl ?_ | refine Br.neg rfl ?_ | refine Br.pos (decide_eq_true (by omega)) ?_ | refine Br.neg (decide_eq_false (by omega)) ?_ | refine ⟨⟨by first | exact Nat.le_of_ble_eq_true rfl | omega | (simp; done) | (simp; omega)⟩, ?_⟩)
          refine Br.mk (fun h3 => ?_) (fun h3 => ?_)
          · repeat (first | refine ⟨rfl, ?_⟩ | refine ⟨trivial, ?_⟩ | refine Br.pos (by assumption) ?_ | refine Br.neg (by assumption) ?_ | refine Br.pos rfl ?_ | refine Br.neg rfl ?_ | refine Br.pos (decide_eq_true (by omega)) ?_ | refine Br.neg (decide_eq_false (by omega)) ?_ | refine ⟨⟨by first | exact Nat.le_of_ble_eq_true rfl | omega | (simp; done) | (simp; omega)⟩, ?_⟩)
            have hv : withStep name f (o, p) (fs.getD i default) = (o ++ [f] ++ [fs.getD i default], true) := by simp only [withStep, h1, h2, h3, Bool.true_and, Bool.and_true, Bool.and_false, Bool.false_and, Bool.false_eq_true, if_true, if_false]
            refine ⟨fs.length - (i + 1), _, by omega, Ent.trans (Ent.mv (.t 41) (.r 0) rfl (by decide)) (Ent.to [.r 0, .t 5] ?_ ?_), i + 1, by omega, rfl, rfl⟩
            · show [(Key.r 0, Blk.row 3 _), (Key.t 5, Blk.box (File.enc f))] = _
              rw [hsucc, hv]; try simp [File.enc, V.sub, List.take_of_length_le]
            · refine ⟨?_, rfl, rfl, ?_, ?_, rfl, rfl, trivial⟩
              · show scI (IntKind.wrap .i64 ((i : Int) + 1)) = _
                rw [wrap64_id _ (by omega) (by omega)]; rfl
              · show scB _ = scB _
                rw [hsucc, hv]
              · show V.row (.r 0) 0 _ = V.row (.r 0) 0 _
                rw [hsucc, hv]; try simp [File.enc, V.sub, List.take_of_length_le]
          · repeat (first | refine ⟨rfl, ?_⟩ | refine ⟨trivial, ?_⟩ | refine Br.pos (by assumption) ?_ | refine Br.neg (by assumption) ?_ | refine Br.pos rfl ?_ | refine Br.neg rfl ?_ | refine Br.pos (decide_eq_true (by omega)) ?_ | refine Br.neg (decide_eq_false (by omega)) ?_ | refine ⟨⟨by first | exact Nat.le_of_ble_eq_true rfl | omega | (simp; done) | (simp; omega)⟩, ?_⟩)
            have hv : withStep name f (o, p) (fs.getD i default) = (o ++ [f], true) := by simp only [withStep, h1, h2, h3, Bool.true_and, Bool.and_true, Bool.and_false, Bool.false_and, Bool.false_eq_true, if_true, if_false]
            refine ⟨fs.length - (i + 1), _, by omega, Ent.trans (Ent.mv (.t 33) (.r 0) rfl (by decide)) (Ent.to [.r 0, .t 5] ?_ ?_), i + 1, by omega, rfl, rfl⟩
            · show [(Key.r 0, Blk.row 3 _), (Key.t 5, Blk.box (File.enc f))] = _
              rw [hsucc, hv]; try simp [File.enc, V.sub, List.take_of_length_le]
            · refine ⟨?_, rfl, rfl, ?_, ?_, rfl, rfl, trivial⟩
              · show scI (IntKind.wrap .i64 ((i : Int) + 1)) = _
                rw [wrap64_id _ (by omega) (by omega)]; rfl
              · show scB _ = scB _
                rw [hsucc, hv]
              · show V.row (.r 0) 0 _ = V.row (.r 0) 0 _
                rw [hsucc, hv]; try simp [File.enc, V.sub, List.take_of_length_le]
        · repeat (first | refine ⟨rfl, ?_⟩ | refine ⟨trivial, ?_⟩ | refine Br.pos (by assumption) ?_ | refine Br.neg (by assumption) ?_ | refine Br.pos rfl ?_ | refine Br.neg rfl ?_ | refine Br.pos (decide_eq_true (by omega)) ?_ | refine Br.neg (decide_eq_false (by omega)) ?_ | refine ⟨⟨by first | exact Nat.le_of_ble_eq_true rfl | omega | (simp; done) | (simp; omega)⟩, ?_⟩)
          refine Br.mk (fun h3 => ?_) (fun h3 => ?_)
          · repeat (first | refine ⟨rfl, ?_⟩ | refine ⟨trivial, ?_⟩ | refine Br.pos (by assumption) ?_ | refine Br.neg (by assumption) ?_ | refine Br.pos rfl ?_ | refine Br.neg rfl ?_ | refine Br.pos (decide_eq_true (by omega)) ?_ | refine Br.neg (decide_eq_false (by omega)) ?_ | refine ⟨⟨by first | exact Nat.le_of_ble_eq_true rfl | omega | (simp; done) | (simp; omega)⟩, ?_⟩)
            have hv : withStep name f (o, p) (fs.getD i default) = (o ++ [fs.getD i default], p) := by simp only [withStep, h1, h2, h3, Bool.true_and, Bool.and_true, Bool.and_false, Bool.false_and, Bool.false_eq_true, if_true, if_false]
            refine ⟨fs.length - (i + 1), _, by omega, Ent.trans (Ent.mv (.t 41) (.r 0) rfl (by decide)) (Ent.to [.r 0, .t 5] ?_ ?_), i + 1, by omega, rfl, rfl⟩
            · show [(Key.r 0, Blk.row 3 _), (Key.t 5, Blk.box (File.enc f))] = _
              rw [hsucc, hv]; try simp [File.enc, V.sub, List.take_of_length_le]
            · refine ⟨?_, rfl, rfl, ?_, ?_, rfl, rfl, trivial⟩
              · show scI (IntKind.wrap .i64 ((i : Int) + 1)) = _
                rw [wrap64_id _ (by omega) (by omega)]; rfl
              · show scB _ = scB _
                rw [hsucc, hv]
              · show V.row (.r 0) 0 _ = V.row (.r 0) 0 _
                rw [hsucc, hv]; try simp [File.enc, V.sub, List.take_of_length_le]
          · repeat (first | refine ⟨rfl, ?_⟩ | refine ⟨trivial, ?_⟩ | refine Br.pos (by assumption) ?_ | refine Br.neg (by assumption) ?_ | refine Br.pos rfl ?_ | refine Br.neg rfl ?_ | refine Br.pos (decide_eq_true (by omega)) ?_ | refine Br.neg (decide_eq_false (by omega)) ?_ | refine ⟨⟨by first | exact Nat.le_of_ble_eq_true rfl | omega | (simp; done) | (simp; omega)⟩, ?_⟩)
            have hv : withStep name f (o, p) (fs.getD i default) = (o, p) := by simp only [withStep, h1, h2, h3, Bool.true_and, Bool.and_true, Bool.and_false, Bool.false_and, Bool.false_eq_true, if_true, if_false]
            refine ⟨fs.length - (i + 1), _, by omega, Ent.to [.r 0, .t 5] ?_ ?_, i + 1, by omega, rfl, rfl⟩
            · show [(Key.r 0, Blk.row 3 _), (Key.t 5, Blk.box (File.enc f))] = _
              rw [hsucc, hv]; try simp [File.enc, V.sub, List.take_of_length_le]
            · refine ⟨?_, rfl, rfl, ?_, ?_, rfl, rfl, trivial⟩
              · show scI (IntKind.wrap .i64 ((i : Int) + 1)) = _
                rw [wrap64_id _ (by omega) (by omega)]; rfl
              · show scB _ = scB _
                rw [hsucc, hv]
              · show V.row (.r 0) 0 _ = V.row (.r 0) 0 _
                rw [hsucc, hv]; try simp [File.enc, V.sub, List.take_of_length_le]
      · repeat (first | refine ⟨rfl, ?_⟩ | refine ⟨trivial, ?_⟩ | refine Br.pos (by assumption) ?_ | refine Br.neg (by assumption) ?_ | refine Br.pos rfl ?_ | refine Br.neg rfl ?_ | refine Br.pos (decide_eq_true (by omega)) ?_ | refine Br.neg (decide_eq_false (by omega)) ?_ | refine ⟨⟨by first | exact Nat.le_of_ble_eq_true rfl | omega | (simp; done) | (simp; omega)⟩, ?_⟩)
        refine Br.mk (fun h3 => ?_) (fun h3 => ?_)
        · repeat (first | refine ⟨rfl, ?_⟩ | refine ⟨trivial, ?_⟩ | refine Br.pos (by assumption) ?_ | refine Br.neg (by assumption) ?_ | refine Br.pos rfl ?_ | refine Br.neg rfl ?_ | refine Br.pos (decide_eq_true (by omega)) ?_ | refine Br.neg (decide_eq_false (by omega)) ?_ | refine ⟨⟨by first | exact Nat.le_of_ble_eq_true rfl | omega | (simp; done) | (simp; omega)⟩, ?_⟩)
          have hv : withStep name f (o, p) (fs.getD i default) = (o ++ [fs.getD i default], p) := by simp only [withStep, h1, h3, Bool.true_and, Bool.and_true, Bool.and_false, Bool.false_and, Bool.false_eq_true, if_true, if_false]
          refine ⟨fs.length - (i + 1), _, by omega, Ent.trans (Ent.mv (.t 41) (.r 0) rfl (by decide)) (Ent.to [.r 0, .t 5] ?_ ?_), i + 1, by omega, rfl, rfl⟩
          · show [(Key.r 0, Blk.row 3 _), (Key.t 5, Blk.box (File.enc f))] = _
            rw [hsucc, hv]; try simp [File.enc, V.sub, List.take_of_length_le]
          · refine ⟨?_, rfl, rfl, ?_, ?_, rfl, rfl, trivial⟩
            · show scI (IntKind.wrap .i64 ((i : Int) + 1)) = _
              rw [wrap64_id _ (by omega) (by omega)]; rfl
            · show scB _ = scB _
              rw [hsucc, hv]
            · show V.row (.r 0) 0 _ = V.row (.r 0) 0 _
              rw [hsucc, hv]; try simp [File.enc, V.sub, List.take_of_length_le]
        · repeat (first | refine ⟨rfl, ?_⟩ | refine ⟨trivial, ?_⟩ | refine Br.pos (by assumption) ?_ | refine Br.neg (by assumption) ?_ | refine Br.pos rfl ?_ | refine Br.neg rfl ?_ | refine Br.pos (decide_eq_true (by omega)) ?_ | refine Br.neg (decide_eq_false (by omega)) ?_ | refine ⟨⟨by first | exact Nat.le_of_ble_eq_true rfl | omega | (simp; done) | (simp; omega)⟩, ?_⟩)
          have hv : withStep name f (o, p) (fs.getD i default) = (o, p) := by simp only [withStep, h1, h3, Bool.true_and, Bool.and_true, Bool.and_false, Bool.false_and, Bool.false_eq_true, if_true, if_false]
          refine ⟨fs.length - (i + 1), _, by omega, Ent.to [.r 0, .t 5] ?_ ?_, i + 1, by omega, rfl, rfl⟩
          · show [(Key.r 0, Blk.row 3 _), (Key.t 5, Blk.box (File.enc f))] = _
            rw [hsucc, hv]; try simp [File.enc, V.sub, List.take_of_length_le]
          · refine ⟨?_, rfl, rfl, ?_, ?_, rfl, rfl, trivial⟩
            · show scI (IntKind.wrap .i64 ((i : Int) + 1)) = _
              rw [wrap64_id _ (by omega) (by omega)]; rfl
            · show scB _ = scB _
              rw [hsucc, hv]
            · show V.row (.r 0) 0 _ = V.row (.r 0) 0 _
              rw [hsucc, hv]; try simp [File.enc, V.sub, List.take_of_length_le]
    · have hc := of_decide_eq_false hc
      have hi2 : i = fs.length := by omega
      subst hi2
      have hw : withF fs name f = if (!(withFold name f fs).2) = true then (withFold name f fs).1 ++ [f] else (withFold name f fs).1 := rfl
      rw [List.take_of_length_le (Nat.le_refl _)] at hlen ⊢
      generalize hg : withFold name f fs = st at *
      obtain ⟨o, p⟩ := st
      have hlen : o.length ≤ 2 * fs.length := hlen
      repeat (first | refine ⟨rfl, ?_⟩ | refine ⟨trivial, ?_⟩ | refine Br.pos (by assumption) ?_ | refine Br.neg (by assumption) ?_ | refine Br.pos rfl ?_ | refine Br.neg rfl ?_ | refine Br.pos (decide_eq_true (by omega)) ?_ | refine Br.neg (decide_eq_false (by omega)) ?_ | refine ⟨⟨by first | exact Nat.le_of_ble_eq_true rfl | omega | (simp; done) | (simp; omega)⟩, ?_⟩)
      refine Br.mk (fun h1 => ?_) (fun h1 => ?_)
      · rw [if_pos h1] at hw
        rw [hw]
        repeat (first | refine ⟨rfl, ?_⟩ | refine ⟨trivial, ?_⟩ | refine Br.pos (by assumption) ?_ | refine Br.neg (by assumption) ?_ | refine Br.pos rfl ?_ | refine Br.neg rfl ?_ | refine Br.pos (decide_eq_true (by omega)) ?_ | refine Br.neg (decide_eq_false (by omega)) ?_ | refine ⟨⟨by first | exact Nat.le_of_ble_eq_true rfl | omega | (simp; done) | (simp; omega)⟩, ?_⟩)
        refine ⟨_, Ent.trans (Ent.mv (.t 48) (.r 0) rfl (by decide)) (Ent.to [.r 0] (s' := { ts := [(0, .row (.r 0) 0 (o ++ [f]).length)], hs := [(.r 0, .row 3 ((o ++ [f]).map File.enc))] }) ?_ ?_), rfl, rfl⟩
        · show [(Key.r 0, Blk.row 3 _)] = _
          simp [File.enc, V.sub, List.take_of_length_le]
        · refine ⟨?_, trivial⟩
          show V.row (.r 0) 0 _ = V.row (.r 0) 0 _
          simp
      · rw [if_neg (by rw [h1]; simp)] at hw
        rw [hw]
        repeat (first | refine ⟨rfl, ?_⟩ | refine ⟨trivial, ?_⟩ | refine Br.pos (by assumption) ?_ | refine Br.neg (by assumption) ?_ | refine Br.pos rfl ?_ | refine Br.neg rfl ?_ | refine Br.pos (decide_eq_true (by omega)) ?_ | refine Br.neg (decide_eq_false (by omega)) ?_ | refine ⟨⟨by first | exact Nat.le_of_ble_eq_true rfl | omega | (simp; done) | (simp; omega)⟩, ?_⟩)
        exact ⟨_, Ent.to [.r 0] (s' := { ts := [(0, .row (.r 0) 0 o.length)], hs := [(.r 0, .row 3 (o.map File.enc))] }) rfl ⟨rfl, trivial⟩, rfl, rfl⟩
end Go.Proofs.Try
