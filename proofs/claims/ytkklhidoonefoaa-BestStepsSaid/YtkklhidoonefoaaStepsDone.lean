/- For any three integers BestSteps returns true, and they read afterwards as before. No condition. -/
import Derived.Test.YtkklhidoonefoaaRows
import Derived.Test.YtkklhidoonefoaaOpenRt
import Derived.Test.YtkklhidoonefoaaJ
namespace Go.Proofs.Ytkklhidoonefoaa
open Go.RowKit Go.ChangeShapes Go.WideShapes Go.ChangeAt
set_option linter.unusedSimpArgs false
set_option linter.unusedVariables false

theorem steps_walk (W : World) (vs : Array Value) (h : Args Try.prog W [3, 3, 3] vs.toList) : 
    Calls Try.prog 4 vs W fun e W' => e = .returned (.bool true) ∧ Below W.heap.size W W' := by
  obtain ⟨v0, v1, v2, rfl, h0, h1, h2⟩ := h.open3
  obtain ⟨x, rfl, _⟩ := h0.int Try.underlying3
  obtain ⟨y, rfl, _⟩ := h1.int Try.underlying3
  obtain ⟨z, rfl, _⟩ := h2.int Try.underlying3
  exact steps_any x y z _ _ _ _ W rfl rfl rfl rfl

set_option maxRecDepth 100000 in
theorem steps_lifted (os : Os) (started : os.Started) (H : Type) (enc : TypeId × Value → H) :
    ReturnsInHanded {} Try.checked os 4 .any (Rows.bestStepsSpec.pre6 enc Try.prog Try.f4 Rows.bestStepsRow.domain false) (Rows.bestStepsSpec.post enc Try.prog Try.f4 false true false false) :=
  law_lifted (C := Try.checked) (bt := 4) (by kernel_rfl) started (by kernel_rfl) Try.func4
    (ChangeSpec.witness6 (enc := enc) (C := Try.checked) false ⟨#[], #[.int .i64 0, .int .i64 0, .int .i64 0], []⟩ 8 (by kernel_rfl) (by kernel_rfl) (by kernel_rfl) (by kernel_rfl))
    (by kernel_rfl) rfl rfl Try.underlying4 (by kernel_rfl)
    (fun ds h => by match ds, h with | [_, _, _], _ => rfl)
    (fun W vs h => steps_walk W vs (by rw [Try.params4] at h; exact h))

theorem steps_over : Rows.bestStepsRow.holds Try.pinned (OpenSpec.ofChange Rows.bestStepsSpec) :=
  OpenClaim.holds_of_wide 4 Try.f4 rfl rfl rfl rfl rfl rfl rfl ⟨rfl, rfl, rfl, rfl, rfl⟩ rfl rfl rfl rfl rfl (by kernel_rfl) Try.func4 (by kernel_rfl)
    (of_decide_eq_true (by kernel_rfl)) (by unfold Func.isWrapper; first | (rw [if_pos (by decide +kernel)]; kernel_rfl) | (rw [if_neg (by decide +kernel)]; exact ⟨rfl, rfl⟩))
    (fun os started H enc _ => steps_lifted os started H enc)

theorem steps_said : Rows.BestStepsSaid := steps_over
#print axioms steps_said
end Go.Proofs.Ytkklhidoonefoaa
