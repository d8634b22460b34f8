/- For any acts WireBack returns true, and the acts read afterwards as before. No condition. -/
import Derived.Test.YtfbakbfljpadlaaRows
import Derived.Test.YtfbakbfljpadlaaArgs
import Derived.Test.YtfbakbfljpadlaaBc
namespace Go.Proofs.Ytfbakbfljpadlaa
open Go.RowKit Go.ChangeShapes Go.WideShapes Go.ChangeAt
set_option linter.unusedSimpArgs false
set_option linter.unusedVariables false

theorem wireback_walk (W : World) (vs : Array Value) (h : Args Try.prog W [54] vs.toList) : 
    Calls Try.prog 7 vs W fun e W' => e = .returned (.bool true) ∧ Below W.heap.size W W' := by
  obtain ⟨v0, rfl, h0⟩ := h.open1
  obtain ⟨A, m, c, l, rfl, hmc, hc, hl⟩ := arg_acts h0
  unfold maxLen at hc
  exact back_any A m c l W hl (by omega)

set_option maxRecDepth 100000 in
theorem wireback_lifted (os : Os) (started : os.Started) (H : Type) (enc : TypeId × Value → H) :
    ReturnsInHanded {} Try.checked os 7 .any (Rows.wireBackSpec.pre6 enc Try.prog Try.f7 Rows.wireBackRow.domain false) (Rows.wireBackSpec.post enc Try.prog Try.f7 false true false false) :=
  law_lifted (C := Try.checked) (bt := 4) (by kernel_rfl) started (by kernel_rfl) Try.func7
    (ChangeSpec.witness6 (enc := enc) (C := Try.checked) false ⟨#[], #[.slice none 0 0], []⟩ 8 (by kernel_rfl) (by kernel_rfl) (by kernel_rfl) (by kernel_rfl))
    (by kernel_rfl) rfl rfl Try.underlying4 (by kernel_rfl)
    (fun ds h => by match ds, h with | [_], _ => rfl)
    (fun W vs h => wireback_walk W vs (by rw [Try.params7] at h; exact h))

theorem wireback_over : Rows.wireBackRow.holds Try.pinned (OpenSpec.ofChange Rows.wireBackSpec) :=
  OpenClaim.holds_of_wide 7 Try.f7 rfl rfl rfl rfl rfl rfl rfl ⟨rfl, rfl, rfl, rfl, rfl⟩ rfl rfl rfl rfl rfl (by kernel_rfl) Try.func7 (by kernel_rfl)
    (of_decide_eq_true (by kernel_rfl)) (by unfold Func.isWrapper; first | (rw [if_pos (by decide +kernel)]; kernel_rfl) | (rw [if_neg (by decide +kernel)]; exact ⟨rfl, rfl⟩))
    (fun os started H enc _ => wireback_lifted os started H enc)

theorem wireback_said : Rows.WireBackSaid := wireback_over
#print axioms wireback_said
end Go.Proofs.Ytfbakbfljpadlaa
