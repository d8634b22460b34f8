/- For any routes, next hops and any number BestPicked returns true, and the routes and next hops read afterwards as before. No condition. -/
import Derived.Test.YtkklhidoonefoaaRows
import Derived.Test.YtkklhidoonefoaaArgs
import Derived.Test.YtkklhidoonefoaaO
namespace Go.Proofs.Ytkklhidoonefoaa
open Go.RowKit Go.ChangeShapes Go.WideShapes Go.ChangeAt
set_option linter.unusedSimpArgs false
set_option linter.unusedVariables false

theorem bestpicked_walk (W : World) (vs : Array Value) (h : Args Try.prog W [44, 41, 3] vs.toList) : 
    Calls Try.prog 5 vs W fun e W' => e = .returned (.bool true) ∧ Below W.heap.size W W' := by
  obtain ⟨v0, v1, v2, rfl, h0, h1, h2⟩ := h.open3
  obtain ⟨A, n, cap, rs, rfl, hnc, hc, hR, hrd⟩ := arg_routes h0
  obtain ⟨B, m, mc, l, rfl, _, _, hl⟩ := arg_hops h1
  obtain ⟨gone, rfl, _⟩ := h2.int Try.underlying3
  unfold maxLen at hc
  exact picked_any A B n cap m mc gone rs l W hR hl hrd (by omega)

set_option maxRecDepth 100000 in
theorem bestpicked_lifted (os : Os) (started : os.Started) (H : Type) (enc : TypeId × Value → H) :
    ReturnsInHanded {} Try.checked os 5 .any (Rows.bestPickedSpec.pre6 enc Try.prog Try.f5 Rows.bestPickedRow.domain false) (Rows.bestPickedSpec.post enc Try.prog Try.f5 false true false false) :=
  law_lifted (C := Try.checked) (bt := 4) (by kernel_rfl) started (by kernel_rfl) Try.func5
    (ChangeSpec.witness6 (enc := enc) (C := Try.checked) false ⟨#[], #[.slice none 0 0, .slice none 0 0, .int .i64 0], []⟩ 8 (by kernel_rfl) (by kernel_rfl) (by kernel_rfl) (by kernel_rfl))
    (by kernel_rfl) rfl rfl Try.underlying4 (by kernel_rfl)
    (fun ds h => by match ds, h with | [_, _, _], _ => rfl)
    (fun W vs h => bestpicked_walk W vs (by rw [Try.params5] at h; exact h))

theorem bestpicked_over : Rows.bestPickedRow.holds Try.pinned (OpenSpec.ofChange Rows.bestPickedSpec) :=
  OpenClaim.holds_of_wide 5 Try.f5 rfl rfl rfl rfl rfl rfl rfl ⟨rfl, rfl, rfl, rfl, rfl⟩ rfl rfl rfl rfl rfl (by kernel_rfl) Try.func5 (by kernel_rfl)
    (of_decide_eq_true (by kernel_rfl)) (by unfold Func.isWrapper; first | (rw [if_pos (by decide +kernel)]; kernel_rfl) | (rw [if_neg (by decide +kernel)]; exact ⟨rfl, rfl⟩))
    (fun os started H enc _ => bestpicked_lifted os started H enc)

theorem bestpicked_said : Rows.BestPickedSaid := bestpicked_over
#print axioms bestpicked_said
end Go.Proofs.Ytkklhidoonefoaa
