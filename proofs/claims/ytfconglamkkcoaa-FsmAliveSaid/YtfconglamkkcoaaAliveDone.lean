/- For any hold time and any number of ticks FsmAlive returns true. No condition. -/
import Derived.Test.YtfconglamkkcoaaRows
import Derived.Test.YtfconglamkkcoaaArgs
import Derived.Test.YtfconglamkkcoaaQ
namespace Go.Proofs.Ytfconglamkkcoaa
open Go.RowKit Go.ChangeShapes Go.WideShapes Go.ChangeAt
set_option linter.unusedSimpArgs false
set_option linter.unusedVariables false

theorem fsmalive_walk (W : World) (vs : Array Value) (h : Args Try.prog W [3, 3] vs.toList) : 
    Calls Try.prog 8 vs W fun e W' => e = .returned (.bool true) ∧ Below W.heap.size W W' := by
  obtain ⟨v0, v1, rfl, h0, h1⟩ := h.open2
  obtain ⟨hold, rfl, _⟩ := h0.int Try.underlying3
  obtain ⟨ticks, rfl, _⟩ := h1.int Try.underlying3
  exact fsmalive_any hold ticks W

set_option maxRecDepth 100000 in
theorem fsmalive_lifted (os : Os) (started : os.Started) (H : Type) (enc : TypeId × Value → H) :
    ReturnsInHanded {} Try.checked os 8 .any (Rows.fsmAliveSpec.pre6 enc Try.prog Try.f8 Rows.fsmAliveRow.domain false) (Rows.fsmAliveSpec.post enc Try.prog Try.f8 false true false false) :=
  law_lifted (C := Try.checked) (bt := 4) (by kernel_rfl) started (by kernel_rfl) Try.func8
    (ChangeSpec.witness6 (enc := enc) (C := Try.checked) false ⟨#[], #[.int .i64 0, .int .i64 0], []⟩ 8 (by kernel_rfl) (by kernel_rfl) (by kernel_rfl) (by kernel_rfl))
    (by kernel_rfl) rfl rfl Try.underlying4 (by kernel_rfl)
    (fun ds h => by match ds, h with | [_, _], _ => rfl)
    (fun W vs h => fsmalive_walk W vs (by rw [Try.params8] at h; exact h))

theorem fsmalive_over : Rows.fsmAliveRow.holds Try.pinned (OpenSpec.ofChange Rows.fsmAliveSpec) :=
  OpenClaim.holds_of_wide 8 Try.f8 rfl rfl rfl rfl rfl rfl rfl ⟨rfl, rfl, rfl, rfl, rfl⟩ rfl rfl rfl rfl rfl (by kernel_rfl) Try.func8 (by kernel_rfl)
    (of_decide_eq_true (by kernel_rfl)) (by unfold Func.isWrapper; first | (rw [if_pos (by decide +kernel)]; kernel_rfl) | (rw [if_neg (by decide +kernel)]; exact ⟨rfl, rfl⟩))
    (fun os started H enc _ => fsmalive_lifted os started H enc)

theorem fsmalive_said : Rows.FsmAliveSaid := fsmalive_over
#print axioms fsmalive_said
end Go.Proofs.Ytfconglamkkcoaa
