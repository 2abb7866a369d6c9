/- The given statement is proved: for every input the law returns true and its argument reads as before. It stands without conditions. -/
import Derived.Test.YtoaajjhcdbbfdaaFwJ1
import Derived.Test.YtoaajjhcdbbfdaaWalk3
import Derived.Test.YtoaajjhcdbbfdaaLaw2
set_option linter.unusedSimpArgs false
set_option linter.unnecessarySimpa false
set_option linter.unusedVariables false
namespace Go.Proofs.Ytoaajjhcdbbfdaa
open Go.ChangeShapes Go.WideShapes Go.ChangeAt Go.RowKit Go.Abs
theorem Try.own : ownKnob Try.prog.godebug = none := by kernel_rfl
theorem Try.laidOut : laidOutB Try.prog = true := by kernel_rfl
set_option maxRecDepth 100000 in
theorem law_lifted (hlaw : ∀ code, (∀ n ∈ code, 0 ≤ n ∧ n ≤ 255) → Pure.laws_FnCopies code = some true) (os : Os) (started : os.Started) (H : Type) (enc : TypeId × Value → H) :
    ReturnsInHanded {} Try.checked os 3 .any (Rows.fnCopiesSpec.pre6 enc Try.prog Try.f3 Rows.fnCopiesRow.domain false) (Rows.fnCopiesSpec.post enc Try.prog Try.f3 false true false false) := by
  refine returnsInHanded_of_change (C := Try.checked) Try.own started (by kernel_rfl) Try.func3
    (ChangeSpec.witness6 (enc := enc) (C := Try.checked) false ⟨#[], #[.slice none 0 0], []⟩ 8 (by kernel_rfl) (by kernel_rfl) (by kernel_rfl) (by kernel_rfl)) ?_
  intro W base args ds gs before hval0 hW _ _
  exact law_bytes (T := 22) (E := 5) (R := 4) Try.laidOut (by kernel_rfl) (of_decide_eq_true (by kernel_rfl)) (by kernel_rfl) (by kernel_rfl) (by kernel_rfl) (by kernel_rfl) (by kernel_rfl) (by kernel_rfl) rfl (fun _ => rfl) (fun code hr => W3 (hlaw code hr)) hval0 hW
theorem law_holds_of (hlaw : ∀ code, (∀ n ∈ code, 0 ≤ n ∧ n ≤ 255) → Pure.laws_FnCopies code = some true) : Rows.FnCopiesSaid :=
  OpenClaim.holds_of_wide 3 Try.f3 rfl rfl rfl rfl rfl rfl rfl ⟨rfl, rfl, rfl, rfl, rfl⟩ rfl rfl rfl rfl rfl (by kernel_rfl) Try.func3 (by kernel_rfl)
    (of_decide_eq_true (by kernel_rfl)) (by unfold Func.isWrapper; first | (rw [if_pos (by decide +kernel)]; kernel_rfl) | (rw [if_neg (by decide +kernel)]; exact ⟨rfl, rfl⟩))
    (fun os started H enc _ => law_lifted hlaw os started H enc)
/-- The given statement. -/
theorem law_holds : Rows.FnCopiesSaid := law_holds_of Pure.law_FnCopies
end Go.Proofs.Ytoaajjhcdbbfdaa
