/- FnExactFsStep: at every argument the program's FsStep answers as the reference's, and leaves its arguments alone. No condition. -/
import Derived.Test.YtdbnnmohenlnfaaF21
import Derived.Test.YtdbnnmohenlnfaaSymW
import Derived.Test.YtdbnnmohenlnfaaRows
namespace Go.Proofs.Ytdbnnmohenlnfaa
open Go Go.Sym Go.Proofs
set_option linter.unusedVariables false
set_option linter.unusedSimpArgs false

abbrev shFile : List Sh := [.str, .str, .int .i64]
abbrev shFs : List Sh := [.sl shFile, .int .i64, .int .i64, .int .i64, .int .i64, .bool]
abbrev shOp : List Sh := [.int .i64, .str, .str, .int .i64]

theorem ofFit_file {x : List V} (h : FitL shFile x) : ∃ f : Try.File, x = f.enc ∧ f.name.size ≤ 1000000000000000 ∧ f.data.size ≤ 1000000000000000 := by
  obtain ⟨_, _, rfl, ⟨a, rfl, ha⟩, _, _, rfl, ⟨b, rfl, hb⟩, _, _, rfl, ⟨c, rfl, hc⟩, rfl⟩ := h
  exact ⟨⟨a, b, c⟩, rfl, by show a.size ≤ _; omega, by show b.size ≤ _; omega⟩
theorem ofFit_map {α : Type} {Q : α → Prop} {enc : α → List V} : ∀ {xs : List (List V)}, (∀ x, x ∈ xs → ∃ a, x = enc a ∧ Q a) → ∃ ys : List α, xs = ys.map enc ∧ ∀ a, a ∈ ys → Q a
  | [], _ => ⟨[], rfl, fun a h => by cases h⟩
  | x :: xs, h => by
    obtain ⟨a, rfl, ha⟩ := h x List.mem_cons_self
    obtain ⟨ys, rfl, has⟩ := ofFit_map (enc := enc) (Q := Q) fun y hy => h y (List.mem_cons_of_mem _ hy)
    refine ⟨a :: ys, rfl, fun b hb => ?_⟩
    rcases List.mem_cons.1 hb with rfl | hb
    · exact ha
    · exact has b hb
theorem ofFit_fs {x : List V} (h : FitL shFs x) : ∃ f : Try.Fs, V.agg x = f.rd ∧ f.files.length ≤ 1000000000000000 ∧ Try.small f.files := by
  obtain ⟨_, _, rfl, ⟨xs, rfl, hl, hx⟩, _, _, rfl, ⟨a, rfl, _⟩, _, _, rfl, ⟨b, rfl, _⟩, _, _, rfl, ⟨c, rfl, _⟩, _, _, rfl, ⟨d, rfl, _⟩, _, _, rfl, ⟨e, rfl⟩, rfl⟩ := h
  obtain ⟨fs, rfl, hq⟩ := ofFit_map (enc := Try.File.enc) (Q := fun f => f.name.size ≤ 1000000000000000 ∧ f.data.size ≤ 1000000000000000) fun y hy => ofFit_file (hx y hy)
  exact ⟨⟨fs, a, b, c, d, e⟩, rfl, by simp at hl; show fs.length ≤ _; omega, hq⟩
theorem ofFit_op {x : List V} (h : FitL shOp x) : ∃ o : Try.Fop, x = o.enc ∧ o.name.size ≤ 1000000000000000 ∧ o.data.size ≤ 1000000000000000 := by
  obtain ⟨_, _, rfl, ⟨k, rfl, _⟩, _, _, rfl, ⟨a, rfl, ha⟩, _, _, rfl, ⟨b, rfl, hb⟩, _, _, rfl, ⟨c, rfl, hc⟩, rfl⟩ := h
  exact ⟨⟨k, a, b, c⟩, rfl, by show a.size ≤ _; omega, by show b.size ≤ _; omega⟩

theorem main (vss : List (List V)) (h : FitLL [shFs, shOp] vss) : AC Try.prog 3 (tops [true, true] vss) [] fun r h => r = .sc (.bool true) ∧ h = [] := by
  obtain ⟨a, _, rfl, ha, b, _, rfl, hb, rfl⟩ := h
  obtain ⟨f, e1, h1, h2⟩ := ofFit_fs ha
  obtain ⟨o, rfl, h3, h4⟩ := ofFit_op hb
  have := Try.law_spec f o h1 h2 h3 h4
  rw [← e1] at this
  exact this

theorem own : ownKnob Try.prog.godebug = none := by kernel_rfl
theorem laidOut : laidOutB Try.prog = true := by kernel_rfl

set_option maxRecDepth 100000 in
theorem lifted (os : Os) (started : os.Started) (H : Type) (enc : TypeId × Value → H) :
    ReturnsInHanded {} Try.checked os 3 .any (Rows.fnExactFsStepSpec.pre6 enc Try.prog Try.f3 Rows.fnExactFsStepRow.domain false) (Rows.fnExactFsStepSpec.post enc Try.prog Try.f3 false true false false) := by
  refine returnsInHanded_of_change_sized (C := Try.checked) own started (by kernel_rfl) Try.func3
    (ChangeSpec.witness6 (enc := enc) (C := Try.checked) false ⟨#[], #[.agg #[.slice none 0 0, .int .i64 0, .int .i64 0, .int .i64 0, .int .i64 0, .bool false], .agg #[.int .i64 0, .string ByteArray.empty, .string ByteArray.empty, .int .i64 0]], []⟩ 8 (by kernel_rfl) (by kernel_rfl) (by kernel_rfl) (by kernel_rfl)) ?_
  intro W base args ds gs before hval hW _ hsz _
  exact law_contract (P := Try.prog) (f := 3) (fn := Try.f3) (s := Rows.fnExactFsStepSpec) (tb := 4) laidOut (by kernel_rfl) (by kernel_rfl) Try.underlying4 rfl
    (by
      intro H ds hl
      match ds, hl with
      | [a, b], _ => rfl) (n := 20) (shs := [shFs, shOp]) (bs := [true, true]) (by kernel_rfl) (by kernel_rfl) main hval hW hsz

theorem over : Rows.fnExactFsStepRow.holds Try.pinned (OpenSpec.ofChange Rows.fnExactFsStepSpec) :=
  OpenClaim.holds_of_wide 3 Try.f3 rfl rfl rfl rfl rfl rfl rfl ⟨rfl, rfl, rfl, rfl, rfl⟩ rfl rfl rfl rfl rfl (by kernel_rfl) Try.func3 (by kernel_rfl)
    (of_decide_eq_true (by kernel_rfl)) (by unfold Func.isWrapper; first | (rw [if_pos (by decide +kernel)]; kernel_rfl) | (rw [if_neg (by decide +kernel)]; exact ⟨rfl, rfl⟩))
    (fun os started H enc _ => lifted os started H enc)

theorem fnExactFsStep_holds : Rows.FnExactFsStepSaid := over
#print axioms fnExactFsStep_holds
end Go.Proofs.Ytdbnnmohenlnfaa
