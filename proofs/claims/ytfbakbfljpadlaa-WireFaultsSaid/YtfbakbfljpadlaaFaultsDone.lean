/- For any bytes, any two integers and any steps WireFaults returns true, and the arguments read afterwards as before. No condition. -/
import Derived.Test.YtfbakbfljpadlaaRows
import Derived.Test.YtfbakbfljpadlaaArgs
import Derived.Test.YtfbakbfljpadlaaFa
namespace Go.Proofs.Ytfbakbfljpadlaa
open Go.RowKit Go.ChangeShapes Go.WideShapes Go.ChangeAt
set_option linter.unusedSimpArgs false
set_option linter.unusedVariables false

theorem wirefaults_walk (W : World) (vs : Array Value) (h : Args Try.prog W [22, 3, 3, 40] vs.toList) : 
    Calls Try.prog 5 vs W fun e W' => e = .returned (.bool true) ∧ Below W.heap.size W W' := by
  obtain ⟨v0, v1, v2, v3, rfl, h0, h1, h2, h3⟩ := h.open4
  obtain ⟨A1, n, c, bs, rfl, _, hc, hb⟩ := arg_bytes Try.underlying22 Try.underlying5 (by kernel_rfl) h0
  obtain ⟨x, rfl, _⟩ := h1.int Try.underlying3
  obtain ⟨y, rfl, _⟩ := h2.int Try.underlying3
  obtain ⟨A2, m, d, l, rfl, _, hd, hl, _⟩ := arg_pairs Try.underlying40 Try.underlying45 rfl (by kernel_rfl) (by kernel_rfl) Try.underlying3 Try.underlying3 (by kernel_rfl) h3
  unfold maxLen at hc hd
  exact faults_any A1 A2 n c m d bs l x y W hb hl (by omega) (by omega)

set_option maxRecDepth 100000 in
theorem wirefaults_lifted (os : Os) (started : os.Started) (H : Type) (enc : TypeId × Value → H) :
    ReturnsInHanded {} Try.checked os 5 .any (Rows.wireFaultsSpec.pre6 enc Try.prog Try.f5 Rows.wireFaultsRow.domain false) (Rows.wireFaultsSpec.post enc Try.prog Try.f5 false true false false) :=
  law_lifted (C := Try.checked) (bt := 4) (by kernel_rfl) started (by kernel_rfl) Try.func5
    (ChangeSpec.witness6 (enc := enc) (C := Try.checked) false ⟨#[], #[.slice none 0 0, .int .i64 0, .int .i64 0, .slice none 0 0], []⟩ 8 (by kernel_rfl) (by kernel_rfl) (by kernel_rfl) (by kernel_rfl))
    (by kernel_rfl) rfl rfl Try.underlying4 (by kernel_rfl)
    (fun ds h => by match ds, h with | [_, _, _, _], _ => rfl)
    (fun W vs h => wirefaults_walk W vs (by rw [Try.params5] at h; exact h))

theorem wirefaults_over : Rows.wireFaultsRow.holds Try.pinned (OpenSpec.ofChange Rows.wireFaultsSpec) :=
  OpenClaim.holds_of_wide 5 Try.f5 rfl rfl rfl rfl rfl rfl rfl ⟨rfl, rfl, rfl, rfl, rfl⟩ rfl rfl rfl rfl rfl (by kernel_rfl) Try.func5 (by kernel_rfl)
    (of_decide_eq_true (by kernel_rfl)) (by unfold Func.isWrapper; first | (rw [if_pos (by decide +kernel)]; kernel_rfl) | (rw [if_neg (by decide +kernel)]; exact ⟨rfl, rfl⟩))
    (fun os started H enc _ => wirefaults_lifted os started H enc)

theorem wirefaults_said : Rows.WireFaultsSaid := wirefaults_over
#print axioms wirefaults_said
end Go.Proofs.Ytfbakbfljpadlaa
