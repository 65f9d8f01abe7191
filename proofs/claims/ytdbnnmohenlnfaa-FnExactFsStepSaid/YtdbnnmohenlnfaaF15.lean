/- The program's search for a file. -/
import Derived.Test.YtdbnnmohenlnfaaF14
namespace Go.Proofs.Try
open Go Go.Sym
set_option linter.unusedVariables false
set_option linter.unusedSimpArgs false
set_option maxHeartbeats 8000000

/-- What 'find' hands back. -/
def findV (k : Key) (fs : List File) (name : ByteArray) : V := match fs.findIdx? (fun f => f.name.toList == name.toList) with | some i => .ptr k i 0 | none => .sc (.pointer none)

theorem find_spec (f : Fs) (name : ByteArray) (hl : f.files.length ≤ 1000000000) : AC Try.prog 40 [.ptr (.a 0) 0 0, scS name] [(.a 0, sysB (.a 1) f), (.a 1, .row 3 (f.files.map File.enc))] fun r h =>
      r = findV (.a 1) f.files name ∧ h = [(.a 0, sysB (.a 1) f), (.a 1, .row 3 (f.files.map File.enc))] := by
  refine AC.of_body (T := tab) (fn := Try.f40) (rs := [.tmp 4]) (N := 31) Try.func40 rfl rfl rfl (by simp) ?_
  repeat (first | refine ⟨rfl, ?_⟩ | refine ⟨trivial, ?_⟩ | refine Br.pos (by assumption) ?_ | refine Br.neg (by assumption) ?_ | refine Br.pos rfl ?_ | refine Br.neg rfl ?_ | refine Br.pos (decide_eq_true (by omega)) ?_ | refine Br.neg (decide_eq_false (by omega)) ?_ | refine ⟨⟨by first | exact Nat.le_of_ble_eq_true rfl | omega | (simp; done) | (simp; omega)⟩, ?_⟩)
  refine ⟨fun n s => ∃ i : Nat, i ≤ f.files.length ∧ (∀ j, j < i → ((f.files.getD j default).name.toList == name.toList) = false) ∧ n = f.files.length - i ∧ s = { ts := [(11, scI i), (10, scI f.files.length), (0, .ptr (.a 0) 0 0), (1, scS name)], hs := [(.a 0, sysB (.a 1) f), (.a 1, .row 3 (f.files.map File.enc))] }, f.files.length, _, Ent.to [.a 0, .a 1] ?_ ?_, ⟨0, by omega, by omega, rfl, rfl⟩, ?_⟩
  · rfl
  · exact ⟨rfl, rfl, rfl, rfl, trivial⟩
  rintro n s ⟨i, hi, hall, rfl, rfl⟩
  have hL : (f.files.map File.enc).length = f.files.length := by simp
  repeat (first | refine ⟨rfl, ?_⟩ | refine ⟨trivial, ?_⟩ | refine Br.pos (by assumption) ?_ | refine Br.neg (by assumption) ?_ | refine Br.pos rfl ?_ | refine Br.neg rfl ?_ | refine Br.pos (decide_eq_true (by omega)) ?_ | refine Br.neg (decide_eq_false (by omega)) ?_ | refine ⟨⟨by first | exact Nat.le_of_ble_eq_true rfl | omega | (simp; done) | (simp; omega)⟩, ?_⟩)
  refine Br.mk (fun hc => ?_) (fun hc => ?_)
  · have hc := of_decide_eq_true hc
    have hlt : i < f.files.length := by omega
    have e := getD_zero_add f.files i hlt
    repeat (first | refine ⟨rfl, ?_⟩ | refine ⟨trivial, ?_⟩ | refine Br.pos (by assumption) ?_ | refine Br.neg (by assumption) ?_ | refine Br.pos rfl ?_ | refine Br.neg rfl ?_ | refine Br.pos (decide_eq_true (by omega)) ?_ | refine Br.neg (decide_eq_false (by omega)) ?_ | refine ⟨⟨by first | exact Nat.le_of_ble_eq_true rfl | omega | (simp; done) | (simp; omega)⟩, ?_⟩ | rw [e] | rw [hL])
    refine Br.mk (fun h1 => ?_) (fun h1 => ?_)
    · repeat (first | refine ⟨rfl, ?_⟩ | refine ⟨trivial, ?_⟩ | refine Br.pos (by assumption) ?_ | refine Br.neg (by assumption) ?_ | refine Br.pos rfl ?_ | refine Br.neg rfl ?_ | refine Br.pos (decide_eq_true (by omega)) ?_ | refine Br.neg (decide_eq_false (by omega)) ?_ | refine ⟨⟨by first | exact Nat.le_of_ble_eq_true rfl | omega | (simp; done) | (simp; omega)⟩, ?_⟩ | rw [e] | rw [hL])
      have : f.files.findIdx? (fun f => f.name.toList == name.toList) = some i := by
        rw [List.findIdx?_eq_some_iff_getElem]
        refine ⟨hlt, by simpa [List.getD_eq_getElem?_getD, hlt] using h1, fun j hj => ?_⟩
        have := hall j hj
        have hj2 : j < f.files.length := by omega
        simpa [List.getD_eq_getElem?_getD, hj2] using this
      refine ⟨_, Ent.to [.a 0, .a 1] (s' := { ts := [(0, .ptr (.a 1) (0 + (i : Int).toNat) 0)], hs := [(.a 0, sysB (.a 1) f), (.a 1, .row 3 (f.files.map File.enc))] }) rfl ⟨rfl, trivial⟩, ?_, rfl⟩
      simp only [findV, this]
      show V.ptr (.a 1) (0 + (i : Int).toNat) 0 = V.ptr (.a 1) i 0
      rw [Nat.zero_add, Int.toNat_natCast]
    · repeat (first | refine ⟨rfl, ?_⟩ | refine ⟨trivial, ?_⟩ | refine Br.pos (by assumption) ?_ | refine Br.neg (by assumption) ?_ | refine Br.pos rfl ?_ | refine Br.neg rfl ?_ | refine Br.pos (decide_eq_true (by omega)) ?_ | refine Br.neg (decide_eq_false (by omega)) ?_ | refine ⟨⟨by first | exact Nat.le_of_ble_eq_true rfl | omega | (simp; done) | (simp; omega)⟩, ?_⟩)
      refine ⟨f.files.length - (i + 1), _, by omega, Ent.to [.a 0, .a 1] ?_ ?_, i + 1, by omega, (fun j hj => ?_), rfl, rfl⟩
      · rfl
      · refine ⟨?_, rfl, rfl, rfl, trivial⟩
        show scI (IntKind.wrap .i64 ((i : Int) + 1)) = _
        rw [wrap64_id _ (by omega) (by omega)]; rfl
      · by_cases e : j = i
        · rw [e]; exact h1
        · exact hall j (by omega)
  · have hc := of_decide_eq_false hc
    repeat (first | refine ⟨rfl, ?_⟩ | refine ⟨trivial, ?_⟩ | refine Br.pos (by assumption) ?_ | refine Br.neg (by assumption) ?_ | refine Br.pos rfl ?_ | refine Br.neg rfl ?_ | refine Br.pos (decide_eq_true (by omega)) ?_ | refine Br.neg (decide_eq_false (by omega)) ?_ | refine ⟨⟨by first | exact Nat.le_of_ble_eq_true rfl | omega | (simp; done) | (simp; omega)⟩, ?_⟩)
    have : f.files.findIdx? (fun f => f.name.toList == name.toList) = none := by
      rw [List.findIdx?_eq_none_iff]
      intro x hx
      obtain ⟨j, hj, rfl⟩ := List.mem_iff_getElem.1 hx
      have := hall j (by omega)
      simpa [List.getD_eq_getElem?_getD, hj] using this
    refine ⟨_, Ent.to [.a 0, .a 1] (s' := { ts := [(0, .sc (.pointer none))], hs := [(.a 0, sysB (.a 1) f), (.a 1, .row 3 (f.files.map File.enc))] }) rfl ⟨rfl, trivial⟩, ?_, rfl⟩
    simp only [findV, this]; rfl
end Go.Proofs.Try
