/- For any limit and any acts WireWrites returns true, and the acts read afterwards as before. No condition. -/
import Derived.Test.YtfbakbfljpadlaaRows
import Derived.Test.YtfbakbfljpadlaaArgs
import Derived.Test.YtfbakbfljpadlaaPf
namespace Go.Proofs.Ytfbakbfljpadlaa
open Go.RowKit Go.ChangeShapes Go.WideShapes Go.ChangeAt
set_option linter.unusedSimpArgs false
set_option linter.unusedVariables false

theorem wirewrites_walk (W : World) (vs : Array Value) (h : Args Try.prog W [3, 54] vs.toList) : 
    Calls Try.prog 6 vs W fun e W' => e = .returned (.bool true) ∧ Below W.heap.size W W' := by
  obtain ⟨v0, v1, rfl, h0, h1⟩ := h.open2
  obtain ⟨lim, rfl, _⟩ := h0.int Try.underlying3
  obtain ⟨A, m, c, l, rfl, hmc, hc, hl⟩ := arg_acts h1
  unfold maxLen at hc
  by_cases hlim : 0 ≤ lim ∧ lim ≤ 65536
  · exact writes_any lim A m c l W hl (by omega) hlim.1 hlim.2
  · exact writes_bad lim A m c l W hl (by omega) (by omega)

set_option maxRecDepth 100000 in
theorem wirewrites_lifted (os : Os) (started : os.Started) (H : Type) (enc : TypeId × Value → H) :
    ReturnsInHanded {} Try.checked os 6 .any (Rows.wireWritesSpec.pre6 enc Try.prog Try.f6 Rows.wireWritesRow.domain false) (Rows.wireWritesSpec.post enc Try.prog Try.f6 false true false false) :=
  law_lifted (C := Try.checked) (bt := 4) (by kernel_rfl) started (by kernel_rfl) Try.func6
    (ChangeSpec.witness6 (enc := enc) (C := Try.checked) false ⟨#[], #[.int .i64 0, .slice none 0 0], []⟩ 8 (by kernel_rfl) (by kernel_rfl) (by kernel_rfl) (by kernel_rfl))
    (by kernel_rfl) rfl rfl Try.underlying4 (by kernel_rfl)
    (fun ds h => by match ds, h with | [_, _], _ => rfl)
    (fun W vs h => wirewrites_walk W vs (by rw [Try.params6] at h; exact h))

theorem wirewrites_over : Rows.wireWritesRow.holds Try.pinned (OpenSpec.ofChange Rows.wireWritesSpec) :=
  OpenClaim.holds_of_wide 6 Try.f6 rfl rfl rfl rfl rfl rfl rfl ⟨rfl, rfl, rfl, rfl, rfl⟩ rfl rfl rfl rfl rfl (by kernel_rfl) Try.func6 (by kernel_rfl)
    (of_decide_eq_true (by kernel_rfl)) (by unfold Func.isWrapper; first | (rw [if_pos (by decide +kernel)]; kernel_rfl) | (rw [if_neg (by decide +kernel)]; exact ⟨rfl, rfl⟩))
    (fun os started H enc _ => wirewrites_lifted os started H enc)

theorem wirewrites_said : Rows.WireWritesSaid := wirewrites_over
#print axioms wirewrites_said
end Go.Proofs.Ytfbakbfljpadlaa
