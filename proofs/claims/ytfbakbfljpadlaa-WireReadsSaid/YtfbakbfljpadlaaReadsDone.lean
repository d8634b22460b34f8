/- For any bytes and any steps WireReads returns true, and both lists read afterwards as before. No condition. -/
import Derived.Test.YtfbakbfljpadlaaRows
import Derived.Test.YtfbakbfljpadlaaArgs
import Derived.Test.YtfbakbfljpadlaaRb
namespace Go.Proofs.Ytfbakbfljpadlaa
open Go.RowKit Go.ChangeShapes Go.WideShapes Go.ChangeAt
set_option linter.unusedSimpArgs false
set_option linter.unusedVariables false

theorem wirereads_walk (W : World) (vs : Array Value) (h : Args Try.prog W [22, 40] vs.toList) : 
    Calls Try.prog 4 vs W fun e W' => e = .returned (.bool true) ∧ Below W.heap.size W W' := by
  obtain ⟨v0, v1, rfl, h0, h1⟩ := h.open2
  obtain ⟨A1, n, c, bs, rfl, _, hc, hb⟩ := arg_bytes Try.underlying22 Try.underlying5 (by kernel_rfl) h0
  obtain ⟨A2, m, d, l, rfl, _, hd, hl, _⟩ := arg_pairs Try.underlying40 Try.underlying45 rfl (by kernel_rfl) (by kernel_rfl) Try.underlying3 Try.underlying3 (by kernel_rfl) h1
  unfold maxLen at hc hd
  exact reads_any A1 A2 n c m d bs l W hb hl (by omega) (by omega)

set_option maxRecDepth 100000 in
theorem wirereads_lifted (os : Os) (started : os.Started) (H : Type) (enc : TypeId × Value → H) :
    ReturnsInHanded {} Try.checked os 4 .any (Rows.wireReadsSpec.pre6 enc Try.prog Try.f4 Rows.wireReadsRow.domain false) (Rows.wireReadsSpec.post enc Try.prog Try.f4 false true false false) :=
  law_lifted (C := Try.checked) (bt := 4) (by kernel_rfl) started (by kernel_rfl) Try.func4
    (ChangeSpec.witness6 (enc := enc) (C := Try.checked) false ⟨#[], #[.slice none 0 0, .slice none 0 0], []⟩ 8 (by kernel_rfl) (by kernel_rfl) (by kernel_rfl) (by kernel_rfl))
    (by kernel_rfl) rfl rfl Try.underlying4 (by kernel_rfl)
    (fun ds h => by match ds, h with | [_, _], _ => rfl)
    (fun W vs h => wirereads_walk W vs (by rw [Try.params4] at h; exact h))

theorem wirereads_over : Rows.wireReadsRow.holds Try.pinned (OpenSpec.ofChange Rows.wireReadsSpec) :=
  OpenClaim.holds_of_wide 4 Try.f4 rfl rfl rfl rfl rfl rfl rfl ⟨rfl, rfl, rfl, rfl, rfl⟩ rfl rfl rfl rfl rfl (by kernel_rfl) Try.func4 (by kernel_rfl)
    (of_decide_eq_true (by kernel_rfl)) (by unfold Func.isWrapper; first | (rw [if_pos (by decide +kernel)]; kernel_rfl) | (rw [if_neg (by decide +kernel)]; exact ⟨rfl, rfl⟩))
    (fun os started H enc _ => wirereads_lifted os started H enc)

theorem wirereads_said : Rows.WireReadsSaid := wirereads_over
#print axioms wirereads_said
end Go.Proofs.Ytfbakbfljpadlaa
