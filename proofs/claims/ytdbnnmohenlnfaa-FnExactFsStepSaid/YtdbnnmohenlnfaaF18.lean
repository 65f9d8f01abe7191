/- The program's operation. -/
import Derived.Test.YtdbnnmohenlnfaaF17
namespace Go.Proofs.Try
open Go Go.Sym
set_option linter.unusedVariables false
set_option linter.unusedSimpArgs false
set_option maxHeartbeats 8000000

def opI (g : Fs) (o : Fop) : Fs × Int :=
  if (o.kind == 1) = true then createF g o.name
  else match g.files.findIdx? (fun f => f.name.toList == o.name.toList) with
  | none => (g, 14)
  | some i =>
    let x := g.files.getD i default
    let n : Int := if (g.cap - dataSum g.files : Int) < o.data.size then g.cap - dataSum g.files else o.data.size
    if (o.kind == 2) = true then ({ g with files := g.files.set i { x with data := x.data ++ o.data.extract 0 n.toNat } }, if decide (n < o.data.size) = true then 13 else 0)
    else if (o.kind == 3) = true then ({ g with files := g.files.set i { x with synced := x.data.size } }, 0)
    else if (o.kind == 4) = true then
      if (!(btw o.size 0 x.data.size)) = true then (g, 16) else ({ g with files := g.files.set i { x with data := x.data.extract 0 o.size.toNat, synced := o.size } }, 0)
    else if (o.kind == 5) = true then ({ g with files := g.files.filter fun f => !(f.name.toList == o.name.toList) }, 0)
    else (g, 0)
def doI (f : Fs) (o : Fop) : Fs × Int :=
  if ((tickF f).2 != 0) = true then tickF f else opI (tickF f).1 o

def doH (f' : Fs) (h : Hp) : Prop := h = [(.a 0, sysB (.a 1) f'), (.a 1, .row 3 (f'.files.map File.enc))] ∨ h = [(.a 1, .row 3 (f'.files.map File.enc)), (.a 0, sysB (.a 1) f')] ∨ h = [(.r 0, .row 3 (f'.files.map File.enc)), (.a 0, sysB (.r 0) f')]

theorem tickF_files (f : Fs) : (tickF f).1.files = f.files ∧ (tickF f).1.cap = f.cap := by
  unfold tickF; split; · exact ⟨rfl, rfl⟩
  split; · exact ⟨rfl, rfl⟩
  split; · exact ⟨rfl, rfl⟩
  split <;> exact ⟨rfl, rfl⟩

theorem do_spec (f : Fs) (o : Fop) (hl : f.files.length ≤ 1000) (hs : SortedF f.files) (hd : (dataSum f.files : Int) ≤ f.cap) (hc : f.cap ≤ 1000000000) (hod : o.data.size ≤ 1000000000) (h0 : 0 ≤ f.count) (h1 : f.count ≤ 1000000000000000) :
    AC Try.prog 23 [.ptr (.a 0) 0 0, .agg o.enc] [(.a 0, sysB (.a 1) f), (.a 1, .row 3 (f.files.map File.enc))] fun r h =>
      r = scI (doI f o).2 ∧ doH (doI f o).1 h := by
  refine AC.of_body (T := tab) (fn := Try.f23) (rs := [.tmp 4]) (N := 93) Try.func23 rfl rfl rfl (by simp) ?_
  repeat (first | refine ⟨rfl, ?_⟩ | refine ⟨trivial, ?_⟩ | refine Br.pos (by assumption) ?_ | refine Br.neg (by assumption) ?_ | refine Br.pos rfl ?_ | refine Br.neg rfl ?_ | refine Br.pos (decide_eq_true (by omega)) ?_ | refine Br.neg (decide_eq_false (by omega)) ?_ | refine ⟨⟨by first | exact Nat.le_of_ble_eq_true rfl | omega | (simp; done) | (simp; omega)⟩, ?_⟩)
  refine CallS.lend [.a 0, .a 1] 0 (tick_spec f h0 h1) (by decide) rfl rfl rfl ⟨rfl, rfl, rfl, rfl, trivial⟩ ?_
  rintro r h ⟨rfl, rfl⟩
  refine ⟨rfl, ?_⟩
  obtain ⟨hf1, hf2⟩ := tickF_files f
  repeat (first | refine ⟨rfl, ?_⟩ | refine ⟨trivial, ?_⟩ | refine Br.pos (by assumption) ?_ | refine Br.neg (by assumption) ?_ | refine Br.pos rfl ?_ | refine Br.neg rfl ?_ | refine Br.pos (decide_eq_true (by omega)) ?_ | refine Br.neg (decide_eq_false (by omega)) ?_ | refine ⟨⟨by first | exact Nat.le_of_ble_eq_true rfl | omega | (simp; done) | (simp; omega)⟩, ?_⟩)
  refine Br.mk (fun h2 => ?_) (fun h2 => ?_)
  · have hv : doI f o = tickF f := by simp only [doI, h2, if_true]
    rw [hv]
    repeat (first | refine ⟨rfl, ?_⟩ | refine ⟨trivial, ?_⟩ | refine Br.pos (by assumption) ?_ | refine Br.neg (by assumption) ?_ | refine Br.pos rfl ?_ | refine Br.neg rfl ?_ | refine Br.pos (decide_eq_true (by omega)) ?_ | refine Br.neg (decide_eq_false (by omega)) ?_ | refine ⟨⟨by first | exact Nat.le_of_ble_eq_true rfl | omega | (simp; done) | (simp; omega)⟩, ?_⟩)
    have hfl : (tickF f).1.files.length = f.files.length := by rw [hf1]
    exact ⟨_, Ent.to [.a 0, .a 1] (s' := { ts := [(0, scI (tickF f).2)], hs := [(.a 0, sysB (.a 1) (tickF f).1), (.a 1, .row 3 (f.files.map File.enc))] }) rfl ⟨rfl, trivial⟩, rfl, .inl (by rw [hf1])⟩
  have hv : doI f o = opI (tickF f).1 o := by simp only [doI, h2, if_false, Bool.false_eq_true]
  rw [hv]
  rw [← hf1] at hl hs hd ⊢
  rw [← hf2] at hd hc
  generalize (tickF f).1 = g at *
  repeat (first | refine ⟨rfl, ?_⟩ | refine ⟨trivial, ?_⟩ | refine Br.pos (by assumption) ?_ | refine Br.neg (by assumption) ?_ | refine Br.pos rfl ?_ | refine Br.neg rfl ?_ | refine Br.pos (decide_eq_true (by omega)) ?_ | refine Br.neg (decide_eq_false (by omega)) ?_ | refine ⟨⟨by first | exact Nat.le_of_ble_eq_true rfl | omega | (simp; done) | (simp; omega)⟩, ?_⟩)
  refine Br.mk (fun h3 => ?_) (fun h3 => ?_)
  · have hv : opI g o = createF g o.name := by simp only [opI, h3, if_true]
    rw [hv]
    repeat (first | refine ⟨rfl, ?_⟩ | refine ⟨trivial, ?_⟩ | refine Br.pos (by assumption) ?_ | refine Br.neg (by assumption) ?_ | refine Br.pos rfl ?_ | refine Br.neg rfl ?_ | refine Br.pos (decide_eq_true (by omega)) ?_ | refine Br.neg (decide_eq_false (by omega)) ?_ | refine ⟨⟨by first | exact Nat.le_of_ble_eq_true rfl | omega | (simp; done) | (simp; omega)⟩, ?_⟩)
    refine CallS.lend [.a 0, .a 1] 1 (create_spec g o.name (by omega) hs) (by decide) rfl rfl rfl ⟨rfl, rfl, rfl, rfl, trivial⟩ ?_
    rintro r h ⟨rfl, rfl | rfl⟩
    · refine ⟨rfl, ?_⟩
      repeat (first | refine ⟨rfl, ?_⟩ | refine ⟨trivial, ?_⟩ | refine Br.pos (by assumption) ?_ | refine Br.neg (by assumption) ?_ | refine Br.pos rfl ?_ | refine Br.neg rfl ?_ | refine Br.pos (decide_eq_true (by omega)) ?_ | refine Br.neg (decide_eq_false (by omega)) ?_ | refine ⟨⟨by first | exact Nat.le_of_ble_eq_true rfl | omega | (simp; done) | (simp; omega)⟩, ?_⟩)
      exact ⟨_, Ent.to [.a 0, .a 1] (s' := { ts := [(0, scI (createF g o.name).2)], hs := [(.a 0, sysB (.a 1) (createF g o.name).1), (.a 1, .row 3 ((createF g o.name).1.files.map File.enc))] }) rfl ⟨rfl, trivial⟩, rfl, .inl rfl⟩
    · refine ⟨rfl, ?_⟩
      repeat (first | refine ⟨rfl, ?_⟩ | refine ⟨trivial, ?_⟩ | refine Br.pos (by assumption) ?_ | refine Br.neg (by assumption) ?_ | refine Br.pos rfl ?_ | refine Br.neg rfl ?_ | refine Br.pos (decide_eq_true (by omega)) ?_ | refine Br.neg (decide_eq_false (by omega)) ?_ | refine ⟨⟨by first | exact Nat.le_of_ble_eq_true rfl | omega | (simp; done) | (simp; omega)⟩, ?_⟩)
      exact ⟨_, Ent.trans (Ent.mv (.c 1 0) (.r 0) rfl (by decide)) (Ent.to [.a 0, .r 0] (s' := { ts := [(0, scI (createF g o.name).2)], hs := [(.r 0, .row 3 ((createF g o.name).1.files.map File.enc)), (.a 0, sysB (.r 0) (createF g o.name).1)] }) rfl ⟨rfl, trivial⟩), rfl, .inr (.inr rfl)⟩
  repeat (first | refine ⟨rfl, ?_⟩ | refine ⟨trivial, ?_⟩ | refine Br.pos (by assumption) ?_ | refine Br.neg (by assumption) ?_ | refine Br.pos rfl ?_ | refine Br.neg rfl ?_ | refine Br.pos (decide_eq_true (by omega)) ?_ | refine Br.neg (decide_eq_false (by omega)) ?_ | refine ⟨⟨by first | exact Nat.le_of_ble_eq_true rfl | omega | (simp; done) | (simp; omega)⟩, ?_⟩)
  refine CallS.lend [.a 0, .a 1] 2 (find_spec g o.name (by omega)) (by decide) rfl rfl rfl ⟨rfl, rfl, rfl, rfl, trivial⟩ ?_
  rintro r h ⟨rfl, rfl⟩
  refine ⟨rfl, ?_⟩
  cases hf : g.files.findIdx? (fun f => f.name.toList == o.name.toList) with
  | none =>
    have hv : opI g o = (g, 14) := by simp only [opI, h3, if_false, Bool.false_eq_true, hf]
    rw [hv]
    simp only [findV, hf]
    repeat (first | refine ⟨rfl, ?_⟩ | refine ⟨trivial, ?_⟩ | refine Br.pos (by assumption) ?_ | refine Br.neg (by assumption) ?_ | refine Br.pos rfl ?_ | refine Br.neg rfl ?_ | refine Br.pos (decide_eq_true (by omega)) ?_ | refine Br.neg (decide_eq_false (by omega)) ?_ | refine ⟨⟨by first | exact Nat.le_of_ble_eq_true rfl | omega | (simp; done) | (simp; omega)⟩, ?_⟩)
    exact ⟨_, Ent.to [.a 0, .a 1] (s' := { ts := [(0, scI 14)], hs := [(.a 0, sysB (.a 1) g), (.a 1, .row 3 (g.files.map File.enc))] }) rfl ⟨rfl, trivial⟩, rfl, .inl rfl⟩
  | some i =>
    have hi : i < g.files.length := (List.findIdx?_eq_some_iff_getElem.1 hf).1
    simp only [findV, hf]
    repeat (first | refine ⟨rfl, ?_⟩ | refine ⟨trivial, ?_⟩ | refine Br.pos (by assumption) ?_ | refine Br.neg (by assumption) ?_ | refine Br.pos rfl ?_ | refine Br.neg rfl ?_ | refine Br.pos (decide_eq_true (by omega)) ?_ | refine Br.neg (decide_eq_false (by omega)) ?_ | refine ⟨⟨by first | exact Nat.le_of_ble_eq_true rfl | omega | (simp; done) | (simp; omega)⟩, ?_⟩)
    refine Br.mk (fun h4 => ?_) (fun h4 => ?_)
    · repeat (first | refine ⟨rfl, ?_⟩ | refine ⟨trivial, ?_⟩ | refine Br.pos (by assumption) ?_ | refine Br.neg (by assumption) ?_ | refine Br.pos rfl ?_ | refine Br.neg rfl ?_ | refine Br.pos (decide_eq_true (by omega)) ?_ | refine Br.neg (decide_eq_false (by omega)) ?_ | refine ⟨⟨by first | exact Nat.le_of_ble_eq_true rfl | omega | (simp; done) | (simp; omega)⟩, ?_⟩)
      refine DrawK.to (T := tab) [4] (.look 3 [3, 4, 5, 6] (.all [(0, .all [(1, .all [(2, .all [(4, .all [(5, .look 6 [6] (.done))])]), (4, .look 2 [2, 5, 6] (.all [(5, .look 6 [6] (.done))]))]), (4, .look 1 [1, 2, 5, 6] (.look 2 [2, 5, 6] (.all [(5, .look 6 [6] (.done))])))]), (4, .look 0 [0, 1, 2, 5, 6] (.look 1 [1, 2, 5, 6] (.look 2 [2, 5, 6] (.all [(5, .look 6 [6] (.done))]))))])) { ts := [(7, scI (if g.cap - (dataSum g.files : Int) < o.data.size then g.cap - dataSum g.files else o.data.size)), (6, .ptr (.a 1) i 0), (3, .ptr (.t 3) 0 0), (0, .ptr (.a 0) 0 0)], hs := [(.a 0, sysB (.a 1) g), (.a 1, .row 3 (g.files.map File.enc)), (.t 3, .box o.enc)] } mixed (by decide +kernel) ?_ ?_
      · repeat (first | refine ⟨rfl, ?_⟩ | refine ⟨trivial, ?_⟩ | refine Br.pos (by assumption) ?_ | refine Br.neg (by assumption) ?_ | refine Br.pos rfl ?_ | refine Br.neg rfl ?_ | refine Br.pos (decide_eq_true (by omega)) ?_ | refine Br.neg (decide_eq_false (by omega)) ?_ | refine ⟨⟨by first | exact Nat.le_of_ble_eq_true rfl | omega | (simp; done) | (simp; omega)⟩, ?_⟩)
        refine ⟨⟨trivial, ?_⟩, ?_⟩
        · repeat (first | refine ⟨rfl, ?_⟩ | refine ⟨trivial, ?_⟩ | refine Br.pos (by assumption) ?_ | refine Br.neg (by assumption) ?_ | refine Br.pos rfl ?_ | refine Br.neg rfl ?_ | refine Br.pos (decide_eq_true (by omega)) ?_ | refine Br.neg (decide_eq_false (by omega)) ?_ | refine ⟨⟨by first | exact Nat.le_of_ble_eq_true rfl | omega | (simp; done) | (simp; omega)⟩, ?_⟩)
          refine CallS.lend [.a 0, .a 1] 3 (room_spec g (by omega) (by omega) (by omega) hc) (by decide) rfl rfl rfl ⟨rfl, rfl, rfl, rfl, trivial⟩ ?_
          rintro r h ⟨rfl, rfl⟩
          refine ⟨rfl, ?_⟩
          repeat (first | refine ⟨rfl, ?_⟩ | refine ⟨trivial, ?_⟩ | refine Br.pos (by assumption) ?_ | refine Br.neg (by assumption) ?_ | refine Br.pos rfl ?_ | refine Br.neg rfl ?_ | refine Br.pos (decide_eq_true (by omega)) ?_ | refine Br.neg (decide_eq_false (by omega)) ?_ | refine ⟨⟨by first | exact Nat.le_of_ble_eq_true rfl | omega | (simp; done) | (simp; omega)⟩, ?_⟩)
          exact Ent.to [.a 0, .a 1, .t 3] rfl ⟨rfl, rfl, rfl, rfl, trivial⟩
        · repeat (first | refine ⟨rfl, ?_⟩ | refine ⟨trivial, ?_⟩ | refine Br.pos (by assumption) ?_ | refine Br.neg (by assumption) ?_ | refine Br.pos rfl ?_ | refine Br.neg rfl ?_ | refine Br.pos (decide_eq_true (by omega)) ?_ | refine Br.neg (decide_eq_false (by omega)) ?_ | refine ⟨⟨by first | exact Nat.le_of_ble_eq_true rfl | omega | (simp; done) | (simp; omega)⟩, ?_⟩)
          refine ⟨⟨trivial, ?_⟩, ?_⟩
          · repeat (first | refine ⟨rfl, ?_⟩ | refine ⟨trivial, ?_⟩ | refine Br.pos (by assumption) ?_ | refine Br.neg (by assumption) ?_ | refine Br.pos rfl ?_ | refine Br.neg rfl ?_ | refine Br.pos (decide_eq_true (by omega)) ?_ | refine Br.neg (decide_eq_false (by omega)) ?_ | refine ⟨⟨by first | exact Nat.le_of_ble_eq_true rfl | omega | (simp; done) | (simp; omega)⟩, ?_⟩)
            refine CallS.lend [.a 0, .a 1] 3 (room_spec g (by omega) (by omega) (by omega) hc) (by decide) rfl rfl rfl ⟨rfl, rfl, rfl, rfl, trivial⟩ ?_
            rintro r h ⟨rfl, rfl⟩
            refine ⟨rfl, ?_⟩
            repeat (first | refine ⟨rfl, ?_⟩ | refine ⟨trivial, ?_⟩ | refine Br.pos (by assumption) ?_ | refine Br.neg (by assumption) ?_ | refine Br.pos rfl ?_ | refine Br.neg rfl ?_ | refine Br.pos (decide_eq_true (by omega)) ?_ | refine Br.neg (decide_eq_false (by omega)) ?_ | refine ⟨⟨by first | exact Nat.le_of_ble_eq_true rfl | omega | (simp; done) | (simp; omega)⟩, ?_⟩)
            exact Ent.to [.a 0, .a 1, .t 3] rfl ⟨rfl, rfl, rfl, rfl, trivial⟩
          · repeat (first | refine ⟨rfl, ?_⟩ | refine ⟨trivial, ?_⟩ | refine Br.pos (by assumption) ?_ | refine Br.neg (by assumption) ?_ | refine Br.pos rfl ?_ | refine Br.neg rfl ?_ | refine Br.pos (decide_eq_true (by omega)) ?_ | refine Br.neg (decide_eq_false (by omega)) ?_ | refine ⟨⟨by first | exact Nat.le_of_ble_eq_true rfl | omega | (simp; done) | (simp; omega)⟩, ?_⟩)
            refine ⟨⟨trivial, ?_⟩, ?_⟩
            · repeat (first | refine ⟨rfl, ?_⟩ | refine ⟨trivial, ?_⟩ | refine Br.pos (by assumption) ?_ | refine Br.neg (by assumption) ?_ | refine Br.pos rfl ?_ | refine Br.neg rfl ?_ | refine Br.pos (decide_eq_true (by omega)) ?_ | refine Br.neg (decide_eq_false (by omega)) ?_ | refine ⟨⟨by first | exact Nat.le_of_ble_eq_true rfl | omega | (simp; done) | (simp; omega)⟩, ?_⟩)
              refine CallS.lend [.a 0, .a 1] 3 (room_spec g (by omega) (by omega) (by omega) hc) (by decide) rfl rfl rfl ⟨rfl, rfl, rfl, rfl, trivial⟩ ?_
              rintro r h ⟨rfl, rfl⟩
              refine ⟨rfl, ?_⟩
              repeat (first | refine ⟨rfl, ?_⟩ | refine ⟨trivial, ?_⟩ | refine Br.pos (by assumption) ?_ | refine Br.neg (by assumption) ?_ | refine Br.pos rfl ?_ | refine Br.neg rfl ?_ | refine Br.pos (decide_eq_true (by omega)) ?_ | refine Br.neg (decide_eq_false (by omega)) ?_ | refine ⟨⟨by first | exact Nat.le_of_ble_eq_true rfl | omega | (simp; done) | (simp; omega)⟩, ?_⟩)
              exact Ent.to [.a 0, .a 1, .t 3] rfl ⟨rfl, rfl, rfl, rfl, trivial⟩
            · repeat (first | refine ⟨rfl, ?_⟩ | refine ⟨trivial, ?_⟩ | refine Br.pos (by assumption) ?_ | refine Br.neg (by assumption) ?_ | refine Br.pos rfl ?_ | refine Br.neg rfl ?_ | refine Br.pos (decide_eq_true (by omega)) ?_ | refine Br.neg (decide_eq_false (by omega)) ?_ | refine ⟨⟨by first | exact Nat.le_of_ble_eq_true rfl | omega | (simp; done) | (simp; omega)⟩, ?_⟩)
              refine CallS.lend [.a 0, .a 1] 3 (room_spec g (by omega) (by omega) (by omega) hc) (by decide) rfl rfl rfl ⟨rfl, rfl, rfl, rfl, trivial⟩ ?_
              rintro r h ⟨rfl, rfl⟩
              refine ⟨rfl, ?_⟩
              repeat (first | refine ⟨rfl, ?_⟩ | refine ⟨trivial, ?_⟩ | refine Br.pos (by assumption) ?_ | refine Br.neg (by assumption) ?_ | refine Br.pos rfl ?_ | refine Br.neg rfl ?_ | refine Br.pos (decide_eq_true (by omega)) ?_ | refine Br.neg (decide_eq_false (by omega)) ?_ | refine ⟨⟨by first | exact Nat.le_of_ble_eq_true rfl | omega | (simp; done) | (simp; omega)⟩, ?_⟩)
              exact Ent.to [.a 0, .a 1, .t 3] rfl ⟨rfl, rfl, rfl, rfl, trivial⟩
      generalize hnn : (if g.cap - (dataSum g.files : Int) < o.data.size then g.cap - (dataSum g.files : Int) else (o.data.size : Int)) = nn
      have hn0 : 0 ≤ nn ∧ nn ≤ o.data.size := by split at hnn <;> omega
      have hsz : (o.data.extract 0 nn.toNat).size ≤ 1000000000 := by rw [ByteArray.size_extract]; omega
      have hdl := data_le g.files i
      have hL : (g.files.map File.enc).length = g.files.length := by simp
      have e : (g.files.map File.enc).getD i [] = File.enc (g.files.getD i default) := getD_map_enc _ _ _ hi
      have hset : ∀ (y : File), (g.files.map File.enc).set i (File.enc y) = (g.files.set i y).map File.enc := fun y => by rw [List.map_set]
      have hw : opI g o = ({ g with files := g.files.set i { g.files.getD i default with data := (g.files.getD i default).data ++ o.data.extract 0 nn.toNat } }, if decide (nn < o.data.size) = true then 13 else 0) := by
        simp only [opI, h3, if_false, Bool.false_eq_true, hf, h4, if_true, hnn]
      rw [hw]
      generalize hy : ({ g.files.getD i default with data := (g.files.getD i default).data ++ o.data.extract 0 nn.toNat } : File) = y
      have hfin : ∀ {h : Hp}, h = [(.a 0, sysB (.a 1) g), (.a 1, .row 3 ((g.files.map File.enc).set i (File.enc y)))] → h = [(.a 0, sysB (.a 1) { g with files := g.files.set i y }), (.a 1, .row 3 ((g.files.set i y).map File.enc))] := by
        rintro h rfl; rw [hset]
        show [(Key.a 0, Blk.box [scI g.count, scI g.crashAt, scI g.failAt, scB g.down, .row (.a 1) 0 g.files.length, scI g.cap]), _] = [(Key.a 0, Blk.box [scI g.count, scI g.crashAt, scI g.failAt, scB g.down, .row (.a 1) 0 (g.files.set i y).length, scI g.cap]), _]
        rw [List.length_set]
      repeat (first | refine ⟨rfl, ?_⟩ | refine ⟨trivial, ?_⟩ | refine Br.pos (by assumption) ?_ | refine Br.neg (by assumption) ?_ | refine Br.pos rfl ?_ | refine Br.neg rfl ?_ | refine Br.pos (decide_eq_true (by omega)) ?_ | refine Br.neg (decide_eq_false (by omega)) ?_ | refine ⟨⟨by first | exact Nat.le_of_ble_eq_true rfl | omega | (simp; done) | (simp; omega)⟩, ?_⟩)
      refine DrawK.plan (T := tab) [11] (.look 0 [0, 1, 2, 3, 8, 9, 10, 11] (.look 1 [1, 2, 3, 8, 9, 10, 11] (.look 2 [2, 3, 8, 9, 10, 11] (.look 3 [3, 8, 9, 10, 11] (.look 4 [4, 5, 7, 8, 9, 10, 11] (.look 5 [5, 7, 8, 9, 10, 11] (.look 6 [6, 7, 8, 9, 10, 11] (.look 7 [7, 8, 9, 10, 11] (.look 8 [8, 9, 10, 11] (.look 9 [9, 10, 11] (.look 10 [10, 11] (.all [(11, .done)])))))))))))) mixed (by decide +kernel) ?_
      repeat (first | refine ⟨rfl, ?_⟩ | refine ⟨trivial, ?_⟩ | refine Br.pos (by assumption) ?_ | refine Br.neg (by assumption) ?_ | refine Br.pos rfl ?_ | refine Br.neg rfl ?_ | refine Br.pos (decide_eq_true (by omega)) ?_ | refine Br.neg (decide_eq_false (by omega)) ?_ | refine ⟨⟨by first | exact Nat.le_of_ble_eq_true rfl | omega | (simp; done) | (simp; omega)⟩, ?_⟩ | rw [e] | rw [hL])
      refine Br.mk (fun h5 => ?_) (fun h5 => ?_)
      · repeat (first | refine ⟨rfl, ?_⟩ | refine ⟨trivial, ?_⟩ | refine Br.pos (by assumption) ?_ | refine Br.neg (by assumption) ?_ | refine Br.pos rfl ?_ | refine Br.neg rfl ?_ | refine Br.pos (decide_eq_true (by omega)) ?_ | refine Br.neg (decide_eq_false (by omega)) ?_ | refine ⟨⟨by first | exact Nat.le_of_ble_eq_true rfl | omega | (simp; done) | (simp; omega)⟩, ?_⟩)
        refine ⟨_, Ent.to [.a 0, .a 1] (s' := { ts := [(0, scI 13)], hs := [(.a 0, sysB (.a 1) { g with files := g.files.set i y }), (.a 1, .row 3 ((g.files.set i y).map File.enc))] }) (hfin ?_) ⟨rfl, trivial⟩, by rw [h5]; rfl, .inl rfl⟩
        subst hy
        rfl
      · repeat (first | refine ⟨rfl, ?_⟩ | refine ⟨trivial, ?_⟩ | refine Br.pos (by assumption) ?_ | refine Br.neg (by assumption) ?_ | refine Br.pos rfl ?_ | refine Br.neg rfl ?_ | refine Br.pos (decide_eq_true (by omega)) ?_ | refine Br.neg (decide_eq_false (by omega)) ?_ | refine ⟨⟨by first | exact Nat.le_of_ble_eq_true rfl | omega | (simp; done) | (simp; omega)⟩, ?_⟩)
        refine ⟨_, Ent.to [.a 0, .a 1] (s' := { ts := [(0, scI 0)], hs := [(.a 0, sysB (.a 1) { g with files := g.files.set i y }), (.a 1, .row 3 ((g.files.set i y).map File.enc))] }) (hfin ?_) ⟨rfl, trivial⟩, by rw [h5]; rfl, .inl rfl⟩
        subst hy
        rfl
    · have hL : (g.files.map File.enc).length = g.files.length := by simp
      have hfin : ∀ (y : File) {h : Hp}, h = [(.a 1, .row 3 ((g.files.set i y).map File.enc)), (.a 0, sysB (.a 1) g)] → h = [(.a 1, .row 3 ((g.files.set i y).map File.enc)), (.a 0, sysB (.a 1) { g with files := g.files.set i y })] := by
        rintro y h rfl
        show [_, (Key.a 0, Blk.box [scI g.count, scI g.crashAt, scI g.failAt, scB g.down, .row (.a 1) 0 g.files.length, scI g.cap])] = [_, (Key.a 0, Blk.box [scI g.count, scI g.crashAt, scI g.failAt, scB g.down, .row (.a 1) 0 (g.files.set i y).length, scI g.cap])]
        rw [List.length_set]
      repeat (first | refine ⟨rfl, ?_⟩ | refine ⟨trivial, ?_⟩ | refine Br.pos (by assumption) ?_ | refine Br.neg (by assumption) ?_ | refine Br.pos rfl ?_ | refine Br.neg rfl ?_ | refine Br.pos (decide_eq_true (by omega)) ?_ | refine Br.neg (decide_eq_false (by omega)) ?_ | refine ⟨⟨by first | exact Nat.le_of_ble_eq_true rfl | omega | (simp; done) | (simp; omega)⟩, ?_⟩)
      refine Br.mk (fun h5 => ?_) (fun h5 => ?_)
      · have hw : opI g o = ({ g with files := g.files.set i { g.files.getD i default with synced := (g.files.getD i default).data.size } }, 0) := by simp only [opI, h3, if_false, Bool.false_eq_true, hf, h4, h5, if_true]
        rw [hw]
        repeat (first | refine ⟨rfl, ?_⟩ | refine ⟨trivial, ?_⟩ | refine Br.pos (by assumption) ?_ | refine Br.neg (by assumption) ?_ | refine Br.pos rfl ?_ | refine Br.neg rfl ?_ | refine Br.pos (decide_eq_true (by omega)) ?_ | refine Br.neg (decide_eq_false (by omega)) ?_ | refine ⟨⟨by first | exact Nat.le_of_ble_eq_true rfl | omega | (simp; done) | (simp; omega)⟩, ?_⟩)
        refine CallS.lend [.a 1] 3 (sync_spec g.files i hi) (by decide) rfl rfl rfl ⟨rfl, rfl, trivial⟩ ?_
        rintro r h ⟨rfl, rfl⟩
        refine ⟨rfl, ?_⟩
        repeat (first | refine ⟨rfl, ?_⟩ | refine ⟨trivial, ?_⟩ | refine Br.pos (by assumption) ?_ | refine Br.neg (by assumption) ?_ | refine Br.pos rfl ?_ | refine Br.neg rfl ?_ | refine Br.pos (decide_eq_true (by omega)) ?_ | refine Br.neg (decide_eq_false (by omega)) ?_ | refine ⟨⟨by first | exact Nat.le_of_ble_eq_true rfl | omega | (simp; done) | (simp; omega)⟩, ?_⟩)
        refine ⟨_, Ent.to [.a 0, .a 1] (s' := { ts := [(0, scI 0)], hs := [(.a 1, .row 3 ((g.files.set i { g.files.getD i default with synced := (g.files.getD i default).data.size }).map File.enc)), (.a 0, sysB (.a 1) { g with files := g.files.set i { g.files.getD i default with synced := (g.files.getD i default).data.size } })] }) (hfin _ ?_) ⟨rfl, trivial⟩, rfl, .inr (.inl rfl)⟩
        rfl
      repeat (first | refine ⟨rfl, ?_⟩ | refine ⟨trivial, ?_⟩ | refine Br.pos (by assumption) ?_ | refine Br.neg (by assumption) ?_ | refine Br.pos rfl ?_ | refine Br.neg rfl ?_ | refine Br.pos (decide_eq_true (by omega)) ?_ | refine Br.neg (decide_eq_false (by omega)) ?_ | refine ⟨⟨by first | exact Nat.le_of_ble_eq_true rfl | omega | (simp; done) | (simp; omega)⟩, ?_⟩)
      refine Br.mk (fun h6 => ?_) (fun h6 => ?_)
      · repeat (first | refine ⟨rfl, ?_⟩ | refine ⟨trivial, ?_⟩ | refine Br.pos (by assumption) ?_ | refine Br.neg (by assumption) ?_ | refine Br.pos rfl ?_ | refine Br.neg rfl ?_ | refine Br.pos (decide_eq_true (by omega)) ?_ | refine Br.neg (decide_eq_false (by omega)) ?_ | refine ⟨⟨by first | exact Nat.le_of_ble_eq_true rfl | omega | (simp; done) | (simp; omega)⟩, ?_⟩)
        refine CallS.lend [.a 1] 3 (truncate_spec g.files i hi o.size) (by decide) rfl rfl rfl ⟨rfl, rfl, trivial⟩ ?_
        intro r h hr
        cases hb : (!(btw o.size 0 (g.files.getD i default).data.size)) with
        | true =>
          have hw : opI g o = (g, 16) := by simp only [opI, h3, if_false, Bool.false_eq_true, hf, h4, h5, h6, hb, if_true]
          rw [hw]
          rw [if_pos hb] at hr
          obtain ⟨rfl, rfl⟩ := hr
          refine ⟨rfl, ?_⟩
          repeat (first | refine ⟨rfl, ?_⟩ | refine ⟨trivial, ?_⟩ | refine Br.pos (by assumption) ?_ | refine Br.neg (by assumption) ?_ | refine Br.pos rfl ?_ | refine Br.neg rfl ?_ | refine Br.pos (decide_eq_true (by omega)) ?_ | refine Br.neg (decide_eq_false (by omega)) ?_ | refine ⟨⟨by first | exact Nat.le_of_ble_eq_true rfl | omega | (simp; done) | (simp; omega)⟩, ?_⟩)
          refine ⟨_, Ent.to [.a 0, .a 1] (s' := { ts := [(0, scI 16)], hs := [(.a 1, .row 3 (g.files.map File.enc)), (.a 0, sysB (.a 1) g)] }) rfl ⟨rfl, trivial⟩, rfl, .inr (.inl rfl)⟩
        | false =>
          have hw : opI g o = ({ g with files := g.files.set i { g.files.getD i default with data := (g.files.getD i default).data.extract 0 o.size.toNat, synced := o.size } }, 0) := by simp only [opI, h3, if_false, Bool.false_eq_true, hf, h4, h5, h6, hb, if_true]
          rw [hw]
          rw [if_neg (by rw [hb]; decide)] at hr
          obtain ⟨rfl, rfl⟩ := hr
          refine ⟨rfl, ?_⟩
          repeat (first | refine ⟨rfl, ?_⟩ | refine ⟨trivial, ?_⟩ | refine Br.pos (by assumption) ?_ | refine Br.neg (by assumption) ?_ | refine Br.pos rfl ?_ | refine Br.neg rfl ?_ | refine Br.pos (decide_eq_true (by omega)) ?_ | refine Br.neg (decide_eq_false (by omega)) ?_ | refine ⟨⟨by first | exact Nat.le_of_ble_eq_true rfl | omega | (simp; done) | (simp; omega)⟩, ?_⟩)
          refine ⟨_, Ent.to [.a 0, .a 1] (s' := { ts := [(0, scI 0)], hs := [(.a 1, .row 3 ((g.files.set i { g.files.getD i default with data := (g.files.getD i default).data.extract 0 o.size.toNat, synced := o.size }).map File.enc)), (.a 0, sysB (.a 1) { g with files := g.files.set i { g.files.getD i default with data := (g.files.getD i default).data.extract 0 o.size.toNat, synced := o.size } })] }) (hfin _ ?_) ⟨rfl, trivial⟩, rfl, .inr (.inl rfl)⟩
          rfl
      repeat (first | refine ⟨rfl, ?_⟩ | refine ⟨trivial, ?_⟩ | refine Br.pos (by assumption) ?_ | refine Br.neg (by assumption) ?_ | refine Br.pos rfl ?_ | refine Br.neg rfl ?_ | refine Br.pos (decide_eq_true (by omega)) ?_ | refine Br.neg (decide_eq_false (by omega)) ?_ | refine ⟨⟨by first | exact Nat.le_of_ble_eq_true rfl | omega | (simp; done) | (simp; omega)⟩, ?_⟩)
      refine Br.mk (fun h7 => ?_) (fun h7 => ?_)
      · have hw : opI g o = ({ g with files := g.files.filter fun f => !(f.name.toList == o.name.toList) }, 0) := by simp only [opI, h3, if_false, Bool.false_eq_true, hf, h4, h5, h6, h7, if_true]
        rw [hw]
        repeat (first | refine ⟨rfl, ?_⟩ | refine ⟨trivial, ?_⟩ | refine Br.pos (by assumption) ?_ | refine Br.neg (by assumption) ?_ | refine Br.pos rfl ?_ | refine Br.neg rfl ?_ | refine Br.pos (decide_eq_true (by omega)) ?_ | refine Br.neg (decide_eq_false (by omega)) ?_ | refine ⟨⟨by first | exact Nat.le_of_ble_eq_true rfl | omega | (simp; done) | (simp; omega)⟩, ?_⟩)
        let q := fun f : File => !(f.name.toList == o.name.toList)
        refine ⟨fun n s => ∃ j : Nat, j ≤ g.files.length ∧ n = g.files.length - j ∧ s = { ts := [(75, scI j), (74, scI g.files.length), (73, .row (.a 1) 0 g.files.length), (8, .row (.r 0) 0 ((g.files.take j).filter q).length), (3, .ptr (.t 3) 0 0), (0, .ptr (.a 0) 0 0)], hs := [(.r 0, .row 3 (((g.files.take j).filter q).map File.enc)), (.a 0, sysB (.a 1) g), (.a 1, .row 3 (g.files.map File.enc)), (.t 3, .box o.enc)] }, g.files.length, _, Ent.trans (Ent.virt (n := 8) (.r 0) 3 rfl rfl) (Ent.to [.r 0, .a 0, .a 1, .t 3] ?_ ?_), ⟨0, by omega, rfl, rfl⟩, ?_⟩
        · rfl
        · exact ⟨rfl, rfl, rfl, rfl, rfl, rfl, trivial⟩
        rintro n s ⟨j, hj, rfl, rfl⟩
        have hlen : ((g.files.take j).filter q).length ≤ 1000 := by
          have := List.length_filter_le q (g.files.take j)
          rw [List.length_take] at this; omega
        repeat (first | refine ⟨rfl, ?_⟩ | refine ⟨trivial, ?_⟩ | refine Br.pos (by assumption) ?_ | refine Br.neg (by assumption) ?_ | refine Br.pos rfl ?_ | refine Br.neg rfl ?_ | refine Br.pos (decide_eq_true (by omega)) ?_ | refine Br.neg (decide_eq_false (by omega)) ?_ | refine ⟨⟨by first | exact Nat.le_of_ble_eq_true rfl | omega | (simp; done) | (simp; omega)⟩, ?_⟩)
        refine Br.mk (fun hc => ?_) (fun hc => ?_)
        · have hc := of_decide_eq_true hc
          have hlt : j < g.files.length := by omega
          have e : (g.files.map File.enc).getD (0 + (j : Int).toNat) [] = File.enc (g.files.getD j default) := by rw [Nat.zero_add, Int.toNat_natCast]; exact getD_map_enc _ _ _ hlt
          have ht := take_succ_getD g.files j default hlt
          repeat (first | refine ⟨rfl, ?_⟩ | refine ⟨trivial, ?_⟩ | refine Br.pos (by assumption) ?_ | refine Br.neg (by assumption) ?_ | refine Br.pos rfl ?_ | refine Br.neg rfl ?_ | refine Br.pos (decide_eq_true (by omega)) ?_ | refine Br.neg (decide_eq_false (by omega)) ?_ | refine ⟨⟨by first | exact Nat.le_of_ble_eq_true rfl | omega | (simp; done) | (simp; omega)⟩, ?_⟩ | rw [e] | rw [hL])
          refine Br.mk (fun h8 => ?_) (fun h8 => ?_)
          · repeat (first | refine ⟨rfl, ?_⟩ | refine ⟨trivial, ?_⟩ | refine Br.pos (by assumption) ?_ | refine Br.neg (by assumption) ?_ | refine Br.pos rfl ?_ | refine Br.neg rfl ?_ | refine Br.pos (decide_eq_true (by omega)) ?_ | refine Br.neg (decide_eq_false (by omega)) ?_ | refine ⟨⟨by first | exact Nat.le_of_ble_eq_true rfl | omega | (simp; done) | (simp; omega)⟩, ?_⟩)
            have hv : (g.files.take (j + 1)).filter q = (g.files.take j).filter q ++ [g.files.getD j default] := by
              have h8 : q (g.files.getD j default) = true := h8
              rw [ht, List.filter_append, List.filter_cons_of_pos h8]; rfl
            refine ⟨g.files.length - (j + 1), _, by omega, Ent.trans (Ent.mv (.t 87) (.r 0) rfl (by decide)) (Ent.to [.r 0, .a 0, .a 1, .t 3] ?_ ?_), j + 1, by omega, rfl, rfl⟩
            · show [(Key.r 0, Blk.row 3 _), _, _, _] = _
              rw [hv, ← row_snoc]
              rfl
            · refine ⟨?_, rfl, rfl, ?_, rfl, rfl, trivial⟩
              · show scI (IntKind.wrap .i64 ((j : Int) + 1)) = _
                rw [wrap64_id _ (by omega) (by omega)]; rfl
              · show V.row (.r 0) 0 _ = V.row (.r 0) 0 _
                rw [hv, List.length_append]; rfl
          · repeat (first | refine ⟨rfl, ?_⟩ | refine ⟨trivial, ?_⟩ | refine Br.pos (by assumption) ?_ | refine Br.neg (by assumption) ?_ | refine Br.pos rfl ?_ | refine Br.neg rfl ?_ | refine Br.pos (decide_eq_true (by omega)) ?_ | refine Br.neg (decide_eq_false (by omega)) ?_ | refine ⟨⟨by first | exact Nat.le_of_ble_eq_true rfl | omega | (simp; done) | (simp; omega)⟩, ?_⟩)
            have hv : (g.files.take (j + 1)).filter q = (g.files.take j).filter q := by
              have h8 : q (g.files.getD j default) = false := h8
              rw [ht, List.filter_append, List.filter_cons_of_neg (by rw [h8]; decide)]; simp
            refine ⟨g.files.length - (j + 1), _, by omega, Ent.to [.r 0, .a 0, .a 1, .t 3] ?_ ?_, j + 1, by omega, rfl, rfl⟩
            · rw [hv]; rfl
            · refine ⟨?_, rfl, rfl, ?_, rfl, rfl, trivial⟩
              · show scI (IntKind.wrap .i64 ((j : Int) + 1)) = _
                rw [wrap64_id _ (by omega) (by omega)]; rfl
              · rw [hv]; rfl
        · have hc := of_decide_eq_false hc
          have hj2 : j = g.files.length := by omega
          subst hj2
          rw [List.take_length]
          repeat (first | refine ⟨rfl, ?_⟩ | refine ⟨trivial, ?_⟩ | refine Br.pos (by assumption) ?_ | refine Br.neg (by assumption) ?_ | refine Br.pos rfl ?_ | refine Br.neg rfl ?_ | refine Br.pos (decide_eq_true (by omega)) ?_ | refine Br.neg (decide_eq_false (by omega)) ?_ | refine ⟨⟨by first | exact Nat.le_of_ble_eq_true rfl | omega | (simp; done) | (simp; omega)⟩, ?_⟩)
          exact ⟨_, Ent.to [.a 0, .r 0] (s' := { ts := [(0, scI 0)], hs := [(.r 0, .row 3 ((g.files.filter q).map File.enc)), (.a 0, sysB (.r 0) { g with files := g.files.filter q })] }) rfl ⟨rfl, trivial⟩, rfl, .inr (.inr rfl)⟩
      have hw : opI g o = (g, 0) := by simp only [opI, h3, if_false, Bool.false_eq_true, hf, h4, h5, h6, h7, if_true]
      rw [hw]
      repeat (first | refine ⟨rfl, ?_⟩ | refine ⟨trivial, ?_⟩ | refine Br.pos (by assumption) ?_ | refine Br.neg (by assumption) ?_ | refine Br.pos rfl ?_ | refine Br.neg rfl ?_ | refine Br.pos (decide_eq_true (by omega)) ?_ | refine Br.neg (decide_eq_false (by omega)) ?_ | refine ⟨⟨by first | exact Nat.le_of_ble_eq_true rfl | omega | (simp; done) | (simp; omega)⟩, ?_⟩)
      exact ⟨_, Ent.to [.a 0, .a 1] (s' := { ts := [(0, scI 0)], hs := [(.a 0, sysB (.a 1) g), (.a 1, .row 3 (g.files.map File.enc))] }) rfl ⟨rfl, trivial⟩, rfl, .inl rfl⟩
end Go.Proofs.Try
