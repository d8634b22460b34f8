/- For any three routes and any next hops BestOrder returns true, and the four arguments read afterwards as before. No condition. -/
import Derived.Test.YtkklhidoonefoaaRows
import Derived.Test.YtkklhidoonefoaaOpenRt
import Derived.Test.YtkklhidoonefoaaE
namespace Go.Proofs.Ytkklhidoonefoaa
open Go.RowKit Go.ChangeShapes Go.WideShapes Go.ChangeAt
set_option linter.unusedSimpArgs false
set_option linter.unusedVariables false

theorem order_walk (W : World) (vs : Array Value) (h : Args Try.prog W [40, 40, 40, 41] vs.toList) : 
    Calls Try.prog 3 vs W fun e W' => e = .returned (.bool true) ∧ Below W.heap.size W W' := by
  obtain ⟨v0, v1, v2, v3, rfl, h0, h1, h2, h3⟩ := h.open4
  obtain ⟨a, rfl, ha⟩ := arg_route h0
  obtain ⟨b, rfl, hb⟩ := arg_route h1
  obtain ⟨c, rfl, hc⟩ := arg_route h2
  obtain ⟨A, n, cap, l, rfl, _, _, hl⟩ := arg_hops h3
  exact order_any a b c l A n cap W hl ha.ok hb.ok hc.ok

set_option maxRecDepth 100000 in
theorem order_lifted (os : Os) (started : os.Started) (H : Type) (enc : TypeId × Value → H) :
    ReturnsInHanded {} Try.checked os 3 .any (Rows.bestOrderSpec.pre6 enc Try.prog Try.f3 Rows.bestOrderRow.domain false) (Rows.bestOrderSpec.post enc Try.prog Try.f3 false true false false) :=
  law_lifted (C := Try.checked) (bt := 4) (by kernel_rfl) started (by kernel_rfl) Try.func3
    (ChangeSpec.witness6 (enc := enc) (C := Try.checked) false ⟨#[], #[.agg (Rt.cs ⟨n0, a0, 0, false⟩), .agg (Rt.cs ⟨n0, a0, 0, false⟩), .agg (Rt.cs ⟨n0, a0, 0, false⟩), .slice none 0 0], []⟩ 8 (by kernel_rfl) (by kernel_rfl) (by kernel_rfl) (by kernel_rfl))
    (by kernel_rfl) rfl rfl Try.underlying4 (by kernel_rfl)
    (fun ds h => by match ds, h with | [_, _, _, _], _ => rfl)
    (fun W vs h => order_walk W vs (by rw [Try.params3] at h; exact h))

theorem order_over : Rows.bestOrderRow.holds Try.pinned (OpenSpec.ofChange Rows.bestOrderSpec) :=
  OpenClaim.holds_of_wide 3 Try.f3 rfl rfl rfl rfl rfl rfl rfl ⟨rfl, rfl, rfl, rfl, rfl⟩ rfl rfl rfl rfl rfl (by kernel_rfl) Try.func3 (by kernel_rfl)
    (of_decide_eq_true (by kernel_rfl)) (by unfold Func.isWrapper; first | (rw [if_pos (by decide +kernel)]; kernel_rfl) | (rw [if_neg (by decide +kernel)]; exact ⟨rfl, rfl⟩))
    (fun os started H enc _ => order_lifted os started H enc)

theorem order_said : Rows.BestOrderSaid := order_over
#print axioms order_said
end Go.Proofs.Ytkklhidoonefoaa
