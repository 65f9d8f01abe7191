/- A new file. -/
import Derived.Test.YtdbnnmohenlnfaaF17P
import Derived.Test.YtdbnnmohenlnfaaSymS
import Derived.Test.YtdbnnmohenlnfaaSlPlain
import Derived.Deep.QuietTactic
namespace Go.Proofs.Try
open Go Go.Sym
set_option linter.unusedVariables false
set_option linter.unusedSimpArgs false
set_option maxHeartbeats 8000000

section
open Go.Shelf Go.RowKit Go.Lib Go.Sort
theorem createLess (blk off c Bs S size : Nat) (W : World) (G : Nat → ByteArray) (hs : W.cell? ⟨Bs, 0, none⟩ = some (.pointer (some ⟨S, 0, none⟩))) (hf : W.cell? ⟨S, 4, none⟩ = some (.slice (some ⟨blk, off, none⟩) size c))
    (hc : ∀ t, t < size → W.cell? ⟨blk, off + t * 3, none⟩ = some (.string (G t))) (i j : Nat) (hi : i < size) (hj : j < size) :
    Calls Try.prog 47 #[.int .i64 i, .int .i64 j, .pointer (some ⟨Bs, 0, none⟩)] W fun e w' => e = .returned (.bool (Op.bytesLess (G i).toList (G j).toList)) ∧ ∃ q, w' = W.drewN q := by
  have ci := hc i hi
  have cj := hc j hj
  go_enter Try.func47, Try.ntmps47
  go_wp2
  go_quiet (fail)
  go_wp2
  go_ret
  exact ⟨rfl, nq, rfl⟩
end

def nameOf (x : List V) : List UInt8 := match x with | .sc (.string n) :: _ => n.toList | _ => []
def ltName (x y : List V) : Bool := Op.bytesLess (nameOf x) (nameOf y)

noncomputable def slTi : TypeInfo := (Try.prog.info? 29).get (by kernel_rfl)
noncomputable def slEi : TypeInfo := (Try.prog.info? 56).get (by kernel_rfl)
theorem slT : True ∧ Try.prog.info? 29 = some slTi ∧ slTi.desc = .slice 56 ∧ Try.prog.packed 29 = false ∧ Try.prog.info? 56 = some slEi ∧ slEi.size = 3 := ⟨trivial, by kernel_rfl, by kernel_rfl, by kernel_rfl, by kernel_rfl, by kernel_rfl⟩
theorem slK (n : Nat) (h2 : 2 ≤ n) : Go.Lib.swapperK n slEi 25 = 9 := by
  have a : slEi.hasPointers = true := by kernel_rfl
  have b : (slEi.bytes == 8) = false := by kernel_rfl
  have c : (n == 0) = false := by simp; omega
  have d : (n == 1) = false := by simp; omega
  simp [Go.Lib.swapperK, a, b, c, d]
theorem slK2 : Try.prog.funcs.findIdx? (fun x => x.name == "internal/reflectlite" ++ ".Swapper$" ++ toString 2) = some 54 := by kernel_rfl
theorem slK1 (n : Nat) (h : n = 1) : Try.prog.funcs.findIdx? (fun x => x.name == "internal/reflectlite" ++ ".Swapper$" ++ toString (Go.Lib.swapperK n slEi 25)) = some 54 := by
  subst h; exact slK2
theorem nameOf_enc (f : File) : nameOf (File.enc f) = f.name.toList := rfl
theorem swo_ltName : Go.Sort.SWO ltName where
  irrefl x := by unfold ltName; rw [Go.Proofs.bytesLess_eq]; exact Go.Sort.swo_ltStr.irrefl _
  trans x y z := by unfold ltName; simp only [Go.Proofs.bytesLess_eq]; exact Go.Sort.swo_ltStr.trans _ _ _
  ntrans x y z := by unfold ltName; simp only [Go.Proofs.bytesLess_eq]; exact Go.Sort.swo_ltStr.ntrans _ _ _

def newF (name : ByteArray) : File := ⟨name, ⟨#[]⟩, 0⟩
def createF (f : Fs) (name : ByteArray) : Fs × Int :=
  match f.files.findIdx? (fun f => f.name.toList == name.toList) with
  | some _ => (f, 15)
  | none => if (decide ((f.files.length : Int) ≥ 300)) = true then (f, 13) else ({ f with files := insF f.files (newF name) }, 0)

theorem createLessA {G : Nat → Prop} {L : Beta} {w0 w : World} {β : Beta} {ys : List (List V)} {f : Fs} {cs : Array Value} (hn : ys.length = f.files.length) (hy : ∀ y, y ∈ ys → ∃ f, y = File.enc f)
    (h : HR G L w0 w β [(.t 23, .row 3 ys), (.a 0, sysB (.t 23) f), (.t 2, .box [.ptr (.a 0) 0 0])]) (ha : Args (okF G L w0 w β) w β [.ptr (.t 2) 0 0] cs) (i j : Nat) (hi : i < ys.length) (hj : j < ys.length) :
    Calls Try.prog 47 (#[.int .i64 i, .int .i64 j] ++ cs) w fun e w' => e = .returned (.bool (ltName (ys.getD i []) (ys.getD j []))) ∧ ∃ q, w' = w.drewN q := by
  have hcs : ∃ x, cs = #[x] := by
    obtain ⟨l⟩ := cs
    match l, ha.1 with
    | [x], _ => exact ⟨x, rfl⟩
  obtain ⟨x, rfl⟩ := hcs
  have hx := ha.2 0 (by simp)
  obtain ⟨_, b1, r1⟩ := h.rel (.t 2) _ rfl
  obtain ⟨_, b2, r2⟩ := h.rel (.a 0) _ rfl
  obtain ⟨_, b3, r3⟩ := h.rel (.t 23) _ rfl
  obtain ⟨bB, oB, sB, mB, e1, rfl⟩ := hx.ptr_inv
  obtain ⟨rfl, g1⟩ := h.boxCell (k := .t 2) rfl e1
  obtain ⟨x1, f1, v1⟩ := g1 0 (by simp)
  obtain ⟨bS, oS, sS, mS, e2, rfl⟩ := VRel.ptr_inv v1
  obtain ⟨rfl, g2⟩ := h.boxCell (k := .a 0) rfl e2
  obtain ⟨x2, f2, v2⟩ := g2 4 (by simp)
  obtain ⟨bR, o, s3, m3, cap, e3, l1, l2, rfl⟩ := VRel.row_inv v2 (by omega)
  obtain ⟨rfl, rfl, g3⟩ := h.rowCell (k := .t 23) rfl e3
  generalize hfl : f.files.length = n at *
  simp only [Nat.zero_mul, Nat.add_zero, Nat.zero_add] at *
  have hget : ∀ t, t < n → ∃ nm, nameOf (ys.getD t []) = nm.toList ∧ w.cell? ⟨bR, o + t * 3, none⟩ = some (.string nm) := by
    intro t ht
    obtain ⟨g, hg⟩ := hy _ (getD_mem (l := ys) (i := t) (d := []) (by omega))
    obtain ⟨x, h1, h2⟩ := g3 t 0 (by omega) (by omega)
    rw [hg] at h2
    have h3 := VRel.sc_inv h2
    subst h3
    exact ⟨g.name, by rw [hg]; rfl, h1⟩
  obtain ⟨Gn, hG⟩ := Classical.axiomOfChoice (fun t : Fin n => hget t.1 t.2)
  have key := createLess bR o cap bB bS n w (fun t => if h : t < n then Gn ⟨t, h⟩ else ⟨#[]⟩) f1 f2 (fun t ht => by rw [dif_pos ht]; exact (hG ⟨t, ht⟩).2) i j (by omega) (by omega)
  have hin : i < n := by omega
  have hjn : j < n := by omega
  simp only [hin, hjn, dif_pos] at key
  rw [← (hG ⟨i, hin⟩).1, ← (hG ⟨j, hjn⟩).1] at key
  simpa [ltName] using key

theorem create_spec (f : Fs) (name : ByteArray) (hl : f.files.length ≤ 1000000000) (hs : SortedF f.files) : AC Try.prog 39 [.ptr (.a 0) 0 0, scS name] [(.a 0, sysB (.a 1) f), (.a 1, .row 3 (f.files.map File.enc))] fun r h =>
      r = scI (createF f name).2 ∧ (h = [(.a 0, sysB (.a 1) (createF f name).1), (.a 1, .row 3 ((createF f name).1.files.map File.enc))] ∨ h = [(.r 0, .row 3 ((createF f name).1.files.map File.enc)), (.a 0, sysB (.r 0) (createF f name).1)]) := by
  refine AC.of_body (T := tab) (fn := Try.f39) (rs := [.tmp 4]) (N := 33) Try.func39 rfl rfl rfl (by simp) ?_
  repeat (first | refine ⟨rfl, ?_⟩ | refine ⟨trivial, ?_⟩ | refine Br.pos (by assumption) ?_ | refine Br.neg (by assumption) ?_ | refine Br.pos rfl ?_ | refine Br.neg rfl ?_ | refine Br.pos (decide_eq_true (by omega)) ?_ | refine Br.neg (decide_eq_false (by omega)) ?_ | refine ⟨⟨by first | exact Nat.le_of_ble_eq_true rfl | omega | (simp; done) | (simp; omega)⟩, ?_⟩)
  refine CallS.lend [.a 0, .a 1] 0 (find_spec f name hl) (by decide) rfl rfl rfl ⟨rfl, rfl, rfl, rfl, trivial⟩ ?_
  rintro r h ⟨rfl, rfl⟩
  refine ⟨rfl, ?_⟩
  cases hf : f.files.findIdx? (fun f => f.name.toList == name.toList) with
  | some i =>
    have hv : createF f name = (f, 15) := by simp only [createF, hf]
    rw [hv]
    simp only [findV, hf]
    repeat (first | refine ⟨rfl, ?_⟩ | refine ⟨trivial, ?_⟩ | refine Br.pos (by assumption) ?_ | refine Br.neg (by assumption) ?_ | refine Br.pos rfl ?_ | refine Br.neg rfl ?_ | refine Br.pos (decide_eq_true (by omega)) ?_ | refine Br.neg (decide_eq_false (by omega)) ?_ | refine ⟨⟨by first | exact Nat.le_of_ble_eq_true rfl | omega | (simp; done) | (simp; omega)⟩, ?_⟩)
    exact ⟨_, Ent.to [.a 0, .a 1] (s' := { ts := [(0, scI 15)], hs := [(.a 0, sysB (.a 1) f), (.a 1, .row 3 (f.files.map File.enc))] }) rfl ⟨rfl, trivial⟩, rfl, .inl rfl⟩
  | none =>
    simp only [findV, hf]
    repeat (first | refine ⟨rfl, ?_⟩ | refine ⟨trivial, ?_⟩ | refine Br.pos (by assumption) ?_ | refine Br.neg (by assumption) ?_ | refine Br.pos rfl ?_ | refine Br.neg rfl ?_ | refine Br.pos (decide_eq_true (by omega)) ?_ | refine Br.neg (decide_eq_false (by omega)) ?_ | refine ⟨⟨by first | exact Nat.le_of_ble_eq_true rfl | omega | (simp; done) | (simp; omega)⟩, ?_⟩)
    refine Br.mk (fun h4 => ?_) (fun h4 => ?_)
    · have hv : createF f name = (f, 13) := by simp only [createF, hf, h4, if_true]
      rw [hv]
      repeat (first | refine ⟨rfl, ?_⟩ | refine ⟨trivial, ?_⟩ | refine Br.pos (by assumption) ?_ | refine Br.neg (by assumption) ?_ | refine Br.pos rfl ?_ | refine Br.neg rfl ?_ | refine Br.pos (decide_eq_true (by omega)) ?_ | refine Br.neg (decide_eq_false (by omega)) ?_ | refine ⟨⟨by first | exact Nat.le_of_ble_eq_true rfl | omega | (simp; done) | (simp; omega)⟩, ?_⟩)
      exact ⟨_, Ent.to [.a 0, .a 1] (s' := { ts := [(0, scI 13)], hs := [(.a 0, sysB (.a 1) f), (.a 1, .row 3 (f.files.map File.enc))] }) rfl ⟨rfl, trivial⟩, rfl, .inl rfl⟩
    have hv : createF f name = ({ f with files := insF f.files (newF name) }, 0) := by simp only [createF, hf, h4, if_false, Bool.false_eq_true]
    rw [hv]
    repeat (first | refine ⟨rfl, ?_⟩ | refine ⟨trivial, ?_⟩ | refine Br.pos (by assumption) ?_ | refine Br.neg (by assumption) ?_ | refine Br.pos rfl ?_ | refine Br.neg rfl ?_ | refine Br.pos (decide_eq_true (by omega)) ?_ | refine Br.neg (decide_eq_false (by omega)) ?_ | refine ⟨⟨by first | exact Nat.le_of_ble_eq_true rfl | omega | (simp; done) | (simp; omega)⟩, ?_⟩)
    refine DrawK.to (T := tab) [8, 11] (.look 1 [1, 2, 3, 4, 8, 9, 10, 11] (.look 2 [2, 3, 4, 8, 9, 10, 11] (.look 3 [3, 4, 8, 9, 10, 11] (.look 4 [4, 8, 9, 10, 11] (.look 5 [5, 6, 7, 8, 9, 10, 11] (.look 6 [6, 7, 8, 9, 10, 11] (.all [(0, .all [(7, .all [(8, .look 9 [9, 10, 11] (.look 10 [10, 11] (.all [(11, .done)])))])]), (7, .all [(0, .all [(8, .look 9 [9, 10, 11] (.look 10 [10, 11] (.all [(11, .done)])))]), (8, .look 0 [0, 9, 10, 11] (.look 9 [9, 10, 11] (.look 10 [10, 11] (.all [(11, .done)]))))])]))))))) { ts := [(2, .ptr (.t 2) 0 0)], hs := [(.t 23, .row 3 ((f.files ++ [newF name]).map File.enc)), (.a 0, sysB (.t 23) { f with files := f.files ++ [newF name] }), (.t 2, .box [.ptr (.a 0) 0 0])] } mixed (by decide +kernel) ?_ ?_
    · have hsn := row_snoc f.files (newF name)
      have hn1 : (f.files ++ [newF name]).length = f.files.length + 1 := by simp
      have hst : ∀ {h : Hp}, h = [(.t 23, .row 3 (((f.files.map File.enc).drop 0).take f.files.length ++ (([File.enc (newF name)] : List (List V)).drop 0).take 1)), (.a 0, .box [scI f.count, scI f.crashAt, scI f.failAt, scB f.down, .row (.t 23) 0 (f.files.length + 1), scI f.cap]), (.t 2, .box [.ptr (.a 0) 0 0])] →
          h = [(.t 23, .row 3 ((f.files ++ [newF name]).map File.enc)), (.a 0, sysB (.t 23) { f with files := f.files ++ [newF name] }), (.t 2, .box [.ptr (.a 0) 0 0])] := by
        rintro h rfl; rw [hsn, ← hn1]
      repeat (first | refine ⟨rfl, ?_⟩ | refine ⟨trivial, ?_⟩ | refine Br.pos (by assumption) ?_ | refine Br.neg (by assumption) ?_ | refine Br.pos rfl ?_ | refine Br.neg rfl ?_ | refine Br.pos (decide_eq_true (by omega)) ?_ | refine Br.neg (decide_eq_false (by omega)) ?_ | refine ⟨⟨by first | exact Nat.le_of_ble_eq_true rfl | omega | (simp; done) | (simp; omega)⟩, ?_⟩ | rw [List.length_map])
      refine ⟨⟨trivial, ?_⟩, ?_⟩
      · repeat (first | refine ⟨rfl, ?_⟩ | refine ⟨trivial, ?_⟩ | refine Br.pos (by assumption) ?_ | refine Br.neg (by assumption) ?_ | refine Br.pos rfl ?_ | refine Br.neg rfl ?_ | refine Br.pos (decide_eq_true (by omega)) ?_ | refine Br.neg (decide_eq_false (by omega)) ?_ | refine ⟨⟨by first | exact Nat.le_of_ble_eq_true rfl | omega | (simp; done) | (simp; omega)⟩, ?_⟩ | rw [List.length_map])
        refine ⟨⟨trivial, ?_⟩, ?_⟩
        · repeat (first | refine ⟨rfl, ?_⟩ | refine ⟨trivial, ?_⟩ | refine Br.pos (by assumption) ?_ | refine Br.neg (by assumption) ?_ | refine Br.pos rfl ?_ | refine Br.neg rfl ?_ | refine Br.pos (decide_eq_true (by omega)) ?_ | refine Br.neg (decide_eq_false (by omega)) ?_ | refine ⟨⟨by first | exact Nat.le_of_ble_eq_true rfl | omega | (simp; done) | (simp; omega)⟩, ?_⟩ | rw [List.length_map])
          refine Ent.to [.t 23, .a 0, .t 2] (hst ?_) ⟨rfl, trivial⟩
          rfl
        · repeat (first | refine ⟨rfl, ?_⟩ | refine ⟨trivial, ?_⟩ | refine Br.pos (by assumption) ?_ | refine Br.neg (by assumption) ?_ | refine Br.pos rfl ?_ | refine Br.neg rfl ?_ | refine Br.pos (decide_eq_true (by omega)) ?_ | refine Br.neg (decide_eq_false (by omega)) ?_ | refine ⟨⟨by first | exact Nat.le_of_ble_eq_true rfl | omega | (simp; done) | (simp; omega)⟩, ?_⟩ | rw [List.length_map])
          refine Ent.to [.t 23, .a 0, .t 2] (hst ?_) ⟨rfl, trivial⟩
          rfl
      · repeat (first | refine ⟨rfl, ?_⟩ | refine ⟨trivial, ?_⟩ | refine Br.pos (by assumption) ?_ | refine Br.neg (by assumption) ?_ | refine Br.pos rfl ?_ | refine Br.neg rfl ?_ | refine Br.pos (decide_eq_true (by omega)) ?_ | refine Br.neg (decide_eq_false (by omega)) ?_ | refine ⟨⟨by first | exact Nat.le_of_ble_eq_true rfl | omega | (simp; done) | (simp; omega)⟩, ?_⟩ | rw [List.length_map])
        refine Ent.to [.t 23, .a 0, .t 2] (hst ?_) ⟨rfl, trivial⟩
        rfl
    · repeat (first | refine ⟨rfl, ?_⟩ | refine ⟨trivial, ?_⟩ | refine Br.pos (by assumption) ?_ | refine Br.neg (by assumption) ?_ | refine Br.pos rfl ?_ | refine Br.neg rfl ?_ | refine Br.pos (decide_eq_true (by omega)) ?_ | refine Br.neg (decide_eq_false (by omega)) ?_ | refine ⟨⟨by first | exact Nat.le_of_ble_eq_true rfl | omega | (simp; done) | (simp; omega)⟩, ?_⟩)
      have hL : (((f.files ++ [newF name]).map File.enc : List (List V))).length = f.files.length + 1 := by simp
      rcases Nat.eq_zero_or_pos f.files.length with h0 | h0
      · refine CallS.sortTiny Try.sl6 (lo := 0) (len := (f.files ++ [newF name]).length) slT.2.1 slT.2.2.1 slT.2.2.2.1 slT.2.2.2.2.1 (ke := 25) (fun w => by kernel_rfl) (by simp [h0]) (f := 54) ?_ ?_
        · exact slK1 _ (by simp [h0])
        · have hnil : f.files = [] := List.eq_nil_of_length_eq_zero h0
          have : insF f.files (newF name) = f.files ++ [newF name] := by rw [hnil]; rfl
          rw [this]
          repeat (first | refine ⟨rfl, ?_⟩ | refine ⟨trivial, ?_⟩ | refine Br.pos (by assumption) ?_ | refine Br.neg (by assumption) ?_ | refine Br.pos rfl ?_ | refine Br.neg rfl ?_ | refine Br.pos (decide_eq_true (by omega)) ?_ | refine Br.neg (decide_eq_false (by omega)) ?_ | refine ⟨⟨by first | exact Nat.le_of_ble_eq_true rfl | omega | (simp; done) | (simp; omega)⟩, ?_⟩)
          refine ⟨_, Ent.trans (Ent.mv (.t 23) (.r 0) rfl (by decide)) (Ent.to [.a 0, .r 0] (s' := { ts := [(0, scI 0)], hs := [(.r 0, .row 3 ((f.files ++ [newF name]).map File.enc)), (.a 0, sysB (.r 0) { f with files := f.files ++ [newF name] })] }) ?_ ⟨rfl, trivial⟩), rfl, .inr rfl⟩
          rfl
      · refine CallS.sortK Try.sl6 slT.2.1 slT.2.2.1 slT.2.2.2.1 slT.2.2.2.2.1 (ke := 25) (fun w => by kernel_rfl) (k := .t 23) (s := 3) (xs := (f.files ++ [newF name]).map File.enc) rfl (by decide) slT.2.2.2.2.2 (fun w => by kernel_rfl) ltName swo_ltName
          (enters_of Try.func47 (by kernel_rfl) rfl) (by simp) (by rw [hL]; omega) (by rw [hL]; omega) (f := 61) ?_ false ?_ ?_ ?_
        · rw [slK _ (by rw [hL]; omega)]; kernel_rfl
        · exact fun args W => run_callFunc_extern Try.func61 (by kernel_rfl) (by kernel_rfl) (by kernel_rfl) (e := Extern.ReflectliteSwapper.swap false) (by kernel_rfl) args W
        · intro G L w0 w β ys cs hn hy hR ha i j hi hj
          exact createLessA (f := { f with files := f.files ++ [newF name] }) (by rw [hn]; simp) (fun y hm => by obtain ⟨z, _, rfl⟩ := List.mem_map.1 (hy y hm); exact ⟨z, rfl⟩) hR ha i j (by omega) (by omega)
        · intro ys hp hsrt
          have hys : ys = (insF f.files (newF name)).map File.enc := by
            have hab : Absent f.files name := fun g hg => by
              have := List.findIdx?_eq_none_iff.1 hf g hg
              simpa using this
            obtain ⟨zs, rfl, hz⟩ : ∃ zs : List File, ys = zs.map File.enc ∧ zs.Perm (f.files ++ [newF name]) := perm_map_ex _ hp.symm _ rfl
            rw [sortedF_uniq (hz.trans (insF_perm f.files (newF name)).symm) (insF_sorted hs hab) ?_]
            rw [List.pairwise_iff_getElem]
            intro i j hi hj hij
            have := hsrt i j hij (by rw [← hp.length_eq]; simpa using hj)
            simpa [List.getD_eq_getElem?_getD, hi, hj, ltName, nameOf_enc, fileLt, nmLt] using this
          rw [hys]
          have hln : (insF f.files (newF name)).length = (f.files ++ [newF name]).length := (insF_perm _ _).length_eq
          have hst : ∀ {h : Hp}, h = [(.r 0, .row 3 ((insF f.files (newF name)).map File.enc)), (.a 0, .box [scI f.count, scI f.crashAt, scI f.failAt, scB f.down, .row (.r 0) 0 (f.files ++ [newF name]).length, scI f.cap])] →
              h = [(.r 0, .row 3 ((insF f.files (newF name)).map File.enc)), (.a 0, sysB (.r 0) { f with files := insF f.files (newF name) })] := by
            rintro h rfl; rw [← hln]
          repeat (first | refine ⟨rfl, ?_⟩ | refine ⟨trivial, ?_⟩ | refine Br.pos (by assumption) ?_ | refine Br.neg (by assumption) ?_ | refine Br.pos rfl ?_ | refine Br.neg rfl ?_ | refine Br.pos (decide_eq_true (by omega)) ?_ | refine Br.neg (decide_eq_false (by omega)) ?_ | refine ⟨⟨by first | exact Nat.le_of_ble_eq_true rfl | omega | (simp; done) | (simp; omega)⟩, ?_⟩)
          refine ⟨_, Ent.trans (Ent.mv (.t 23) (.r 0) rfl (by decide)) (Ent.to [.a 0, .r 0] (s' := { ts := [(0, scI 0)], hs := [(.r 0, .row 3 ((insF f.files (newF name)).map File.enc)), (.a 0, sysB (.r 0) { f with files := insF f.files (newF name) })] }) (hst ?_) ⟨rfl, trivial⟩), rfl, .inr rfl⟩
          rfl
end Go.Proofs.Try
