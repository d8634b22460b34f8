/- For any hold time and any gaps FsmHold returns true. No condition. -/
import Derived.Test.YtfconglamkkcoaaRows
import Derived.Test.YtfconglamkkcoaaArgs
import Derived.Test.YtfconglamkkcoaaR
namespace Go.Proofs.Ytfconglamkkcoaa
open Go.RowKit Go.ChangeShapes Go.WideShapes Go.ChangeAt
set_option linter.unusedSimpArgs false
set_option linter.unusedVariables false

theorem fsmhold_walk (W : World) (vs : Array Value) (h : Args Try.prog W [3, 55] vs.toList) : 
    Calls Try.prog 7 vs W fun e W' => e = .returned (.bool true) ∧ Below W.heap.size W W' := by
  obtain ⟨v0, v1, rfl, h0, h1⟩ := h.open2
  obtain ⟨hold, rfl, _⟩ := h0.int Try.underlying3
  obtain ⟨b, m, c, xs, rfl, hmc, hc, hL, hH, _⟩ := arg_ints Try.underlying55 Try.underlying3 (by kernel_rfl) h1
  exact fsmhold_any hold b m c xs W hH hL (by have : maxLen ≤ 9223372036854775807 := (by decide); omega)

set_option maxRecDepth 100000 in
theorem fsmhold_lifted (os : Os) (started : os.Started) (H : Type) (enc : TypeId × Value → H) :
    ReturnsInHanded {} Try.checked os 7 .any (Rows.fsmHoldSpec.pre6 enc Try.prog Try.f7 Rows.fsmHoldRow.domain false) (Rows.fsmHoldSpec.post enc Try.prog Try.f7 false true false false) :=
  law_lifted (C := Try.checked) (bt := 4) (by kernel_rfl) started (by kernel_rfl) Try.func7
    (ChangeSpec.witness6 (enc := enc) (C := Try.checked) false ⟨#[], #[.int .i64 0, .slice none 0 0], []⟩ 8 (by kernel_rfl) (by kernel_rfl) (by kernel_rfl) (by kernel_rfl))
    (by kernel_rfl) rfl rfl Try.underlying4 (by kernel_rfl)
    (fun ds h => by match ds, h with | [_, _], _ => rfl)
    (fun W vs h => fsmhold_walk W vs (by rw [Try.params7] at h; exact h))

theorem fsmhold_over : Rows.fsmHoldRow.holds Try.pinned (OpenSpec.ofChange Rows.fsmHoldSpec) :=
  OpenClaim.holds_of_wide 7 Try.f7 rfl rfl rfl rfl rfl rfl rfl ⟨rfl, rfl, rfl, rfl, rfl⟩ rfl rfl rfl rfl rfl (by kernel_rfl) Try.func7 (by kernel_rfl)
    (of_decide_eq_true (by kernel_rfl)) (by unfold Func.isWrapper; first | (rw [if_pos (by decide +kernel)]; kernel_rfl) | (rw [if_neg (by decide +kernel)]; exact ⟨rfl, rfl⟩))
    (fun os started H enc _ => fsmhold_lifted os started H enc)

theorem fsmhold_said : Rows.FsmHoldSaid := fsmhold_over
#print axioms fsmhold_said
end Go.Proofs.Ytfconglamkkcoaa
