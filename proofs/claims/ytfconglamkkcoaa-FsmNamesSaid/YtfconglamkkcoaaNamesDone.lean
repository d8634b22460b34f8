/- FsmNames returns true: the chapter's examples, invalid OPEN messages and invalid configurations. No condition. -/
import Derived.Test.YtfconglamkkcoaaRows
import Derived.Test.YtfconglamkkcoaaArgs
import Derived.Test.YtfconglamkkcoaaS
namespace Go.Proofs.Ytfconglamkkcoaa
open Go.RowKit Go.ChangeShapes Go.WideShapes Go.ChangeAt
set_option linter.unusedSimpArgs false
set_option linter.unusedVariables false

theorem fsmnames_walk (W : World) (vs : Array Value) (h : Args Try.prog W [] vs.toList) : 
    Calls Try.prog 3 vs W fun e W' => e = .returned (.bool true) ∧ Below W.heap.size W W' := by
  obtain rfl := Args.zero h
  exact fsmnames_any W

set_option maxRecDepth 100000 in
theorem fsmnames_lifted (os : Os) (started : os.Started) (H : Type) (enc : TypeId × Value → H) :
    ReturnsInHanded {} Try.checked os 3 .any (Rows.fsmNamesSpec.pre6 enc Try.prog Try.f3 Rows.fsmNamesRow.domain false) (Rows.fsmNamesSpec.post enc Try.prog Try.f3 false true false false) :=
  law_lifted (C := Try.checked) (bt := 4) (by kernel_rfl) started (by kernel_rfl) Try.func3
    (ChangeSpec.witness6 (enc := enc) (C := Try.checked) false ⟨#[], #[], []⟩ 8 (by kernel_rfl) (by kernel_rfl) (by kernel_rfl) (by kernel_rfl))
    (by kernel_rfl) rfl rfl Try.underlying4 (by kernel_rfl)
    (fun ds h => by match ds, h with | [], _ => rfl)
    (fun W vs h => fsmnames_walk W vs (by rw [Try.params3] at h; exact h))

theorem fsmnames_over : Rows.fsmNamesRow.holds Try.pinned (OpenSpec.ofChange Rows.fsmNamesSpec) :=
  OpenClaim.holds_of_wide 3 Try.f3 rfl rfl rfl rfl rfl rfl rfl ⟨rfl, rfl, rfl, rfl, rfl⟩ rfl rfl rfl rfl rfl (by kernel_rfl) Try.func3 (by kernel_rfl)
    (of_decide_eq_true (by kernel_rfl)) (by unfold Func.isWrapper; first | (rw [if_pos (by decide +kernel)]; kernel_rfl) | (rw [if_neg (by decide +kernel)]; exact ⟨rfl, rfl⟩))
    (fun os started H enc _ => fsmnames_lifted os started H enc)

theorem fsmnames_said : Rows.FsmNamesSaid := fsmnames_over
#print axioms fsmnames_said
end Go.Proofs.Ytfconglamkkcoaa
