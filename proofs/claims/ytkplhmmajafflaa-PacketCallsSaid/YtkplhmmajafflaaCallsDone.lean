/- For any frame, bytes and number PacketCalls returns true. No condition. -/
import Derived.Test.YtkplhmmajafflaaRows
import Derived.Test.YtkplhmmajafflaaArgs
import Derived.Test.YtkplhmmajafflaaPp
import Derived.Test.YtkplhmmajafflaaPq
namespace Go.Proofs.Ytkplhmmajafflaa
open Go.RowKit Go.ChangeShapes Go.WideShapes Go.ChangeAt
set_option linter.unusedSimpArgs false
set_option linter.unusedVariables false

theorem packetcalls_walk (W : World) (vs : Array Value) (h : Args Try.prog W [31, 32, 3] vs.toList) : 
    Calls Try.prog 3 vs W fun e W' => e = .returned (.bool true) ∧ Below W.heap.size W W' := by
  obtain ⟨v0, v1, v2, rfl, h0, h1, h2⟩ := h.open3
  obtain ⟨f, rfl, hf⟩ := arg_fr h0
  obtain ⟨A, n, c, bs, rfl, hnc, hc, hb⟩ := arg_bytes Try.underlying32 Try.underlying5 (by kernel_rfl) h1
  obtain ⟨p, rfl, _⟩ := h2.int Try.underlying3
  exact calls_any f hf A n c bs p W hb hnc (by omega)

set_option maxRecDepth 100000 in
theorem packetcalls_lifted (os : Os) (started : os.Started) (H : Type) (enc : TypeId × Value → H) :
    ReturnsInHanded {} Try.checked os 3 .any (Rows.packetCallsSpec.pre6 enc Try.prog Try.f3 Rows.packetCallsRow.domain false) (Rows.packetCallsSpec.post enc Try.prog Try.f3 false true false false) :=
  law_lifted (C := Try.checked) (bt := 4) (by kernel_rfl) started (by kernel_rfl) Try.func3
    (ChangeSpec.witness6 (enc := enc) (C := Try.checked) false ⟨#[], #[.agg #[.int .u64 0, .int .u64 0, .int .i64 0, .int .i64 0, .int .u64 0, .int .u32 0, .int .u64 0, .int .u32 0, .int .u32 0, .int .u32 0, .int .i64 0, .int .i64 0, .int .i64 0, .int .i64 0, .int .u64 0], .slice none 0 0, .int .i64 0], []⟩ 8 (by kernel_rfl) (by kernel_rfl) (by kernel_rfl) (by kernel_rfl))
    (by kernel_rfl) rfl rfl Try.underlying4 (by kernel_rfl)
    (fun ds h => by match ds, h with | [_, _, _], _ => rfl)
    (fun W vs h => packetcalls_walk W vs (by rw [Try.params3] at h; exact h))

theorem packetcalls_over : Rows.packetCallsRow.holds Try.pinned (OpenSpec.ofChange Rows.packetCallsSpec) :=
  OpenClaim.holds_of_wide 3 Try.f3 rfl rfl rfl rfl rfl rfl rfl ⟨rfl, rfl, rfl, rfl, rfl⟩ rfl rfl rfl rfl rfl (by kernel_rfl) Try.func3 (by kernel_rfl)
    (of_decide_eq_true (by kernel_rfl)) (by unfold Func.isWrapper; first | (rw [if_pos (by decide +kernel)]; kernel_rfl) | (rw [if_neg (by decide +kernel)]; exact ⟨rfl, rfl⟩))
    (fun os started H enc _ => packetcalls_lifted os started H enc)

theorem packetcalls_said : Rows.PacketCallsSaid := packetcalls_over
#print axioms packetcalls_said
end Go.Proofs.Ytkplhmmajafflaa
