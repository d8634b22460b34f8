/- WireNames returns true. No condition. -/
import Derived.Test.YtfbakbfljpadlaaRows
import Derived.Test.YtfbakbfljpadlaaArgs
import Derived.Test.YtfbakbfljpadlaaNb
namespace Go.Proofs.Ytfbakbfljpadlaa
open Go.RowKit Go.ChangeShapes Go.WideShapes Go.ChangeAt
set_option linter.unusedSimpArgs false
set_option linter.unusedVariables false

theorem wirenames_walk (W : World) (vs : Array Value) (h : Args Try.prog W [] vs.toList) : 
    Calls Try.prog 8 vs W fun e W' => e = .returned (.bool true) ∧ Below W.heap.size W W' := by
  obtain rfl := Args.zero h
  exact names_any W

set_option maxRecDepth 100000 in
theorem wirenames_lifted (os : Os) (started : os.Started) (H : Type) (enc : TypeId × Value → H) :
    ReturnsInHanded {} Try.checked os 8 .any (Rows.wireNamesSpec.pre6 enc Try.prog Try.f8 Rows.wireNamesRow.domain false) (Rows.wireNamesSpec.post enc Try.prog Try.f8 false true false false) :=
  law_lifted (C := Try.checked) (bt := 4) (by kernel_rfl) started (by kernel_rfl) Try.func8
    (ChangeSpec.witness6 (enc := enc) (C := Try.checked) false ⟨#[], #[], []⟩ 8 (by kernel_rfl) (by kernel_rfl) (by kernel_rfl) (by kernel_rfl))
    (by kernel_rfl) rfl rfl Try.underlying4 (by kernel_rfl)
    (fun ds h => by match ds, h with | [], _ => rfl)
    (fun W vs h => wirenames_walk W vs (by rw [Try.params8] at h; exact h))

theorem wirenames_over : Rows.wireNamesRow.holds Try.pinned (OpenSpec.ofChange Rows.wireNamesSpec) :=
  OpenClaim.holds_of_wide 8 Try.f8 rfl rfl rfl rfl rfl rfl rfl ⟨rfl, rfl, rfl, rfl, rfl⟩ rfl rfl rfl rfl rfl (by kernel_rfl) Try.func8 (by kernel_rfl)
    (of_decide_eq_true (by kernel_rfl)) (by unfold Func.isWrapper; first | (rw [if_pos (by decide +kernel)]; kernel_rfl) | (rw [if_neg (by decide +kernel)]; exact ⟨rfl, rfl⟩))
    (fun os started H enc _ => wirenames_lifted os started H enc)

theorem wirenames_said : Rows.WireNamesSaid := wirenames_over
#print axioms wirenames_said
end Go.Proofs.Ytfbakbfljpadlaa
