import Derived.Test.YtkplhmmajafflaaArgs
import Derived.Test.YtkplhmmajafflaaPg
/- Frames as arguments. -/
namespace Go.Proofs.Ytkplhmmajafflaa
open Go.RowKit
set_option linter.unusedSimpArgs false
set_option linter.unusedVariables false

theorem u64_of_wf {x : Int} (h : (Lit.int .u64 x).wf = true) : u64r x := by
  simp [Lit.wf, IntKind.min, IntKind.max, IntKind.signed, IntKind.bits] at h
  unfold u64r
  omega
theorem u32_of_wf {x : Int} (h : (Lit.int .u32 x).wf = true) : u32r x := by
  simp [Lit.wf, IntKind.min, IntKind.max, IntKind.signed, IntKind.bits] at h
  unfold u32r
  omega
theorem i64_of_wf {x : Int} (h : (Lit.int .i64 x).wf = true) : i64r x := by
  simp [Lit.wf, IntKind.min, IntKind.max, IntKind.signed, IntKind.bits] at h
  unfold i64r
  omega

theorem open_arp {w : World} {cs : List Value} (h : Opn Try.prog w 27 cs) : ∃ x : Arp, cs = x.cs.toList ∧ x.ok := by
  have h := h.struct Try.underlying27 (by kernel_rfl) (by kernel_rfl)
  change Opns Try.prog w [3, 23, 25, 23, 25] cs at h
  obtain ⟨op, q0, rfl, w0, r0⟩ := Opns.int Try.underlying3 h
  obtain ⟨sm, q1, rfl, w1, r1⟩ := Opns.int Try.underlying23 r0
  obtain ⟨si, q2, rfl, w2, r2⟩ := Opns.int Try.underlying25 r1
  obtain ⟨tm, q3, rfl, w3, r3⟩ := Opns.int Try.underlying23 r2
  obtain ⟨ti, q4, rfl, w4, r4⟩ := Opns.int Try.underlying25 r3
  obtain rfl := Opns.nil r4
  exact ⟨⟨op, sm, si, tm, ti⟩, rfl, ⟨i64_of_wf w0, u64_of_wf w1, u32_of_wf w2, u64_of_wf w3, u32_of_wf w4⟩⟩
theorem open_hd {w : World} {cs : List Value} (h : Opn Try.prog w 29 cs) : ∃ x : Hd, cs = x.cs.toList ∧ x.ok := by
  have h := h.struct Try.underlying29 (by kernel_rfl) (by kernel_rfl)
  change Opns Try.prog w [25, 25, 3, 3, 3, 3] cs at h
  obtain ⟨a0, q0, rfl, w0, r0⟩ := Opns.int Try.underlying25 h
  obtain ⟨a1, q1, rfl, w1, r1⟩ := Opns.int Try.underlying25 r0
  obtain ⟨a2, q2, rfl, w2, r2⟩ := Opns.int Try.underlying3 r1
  obtain ⟨a3, q3, rfl, w3, r3⟩ := Opns.int Try.underlying3 r2
  obtain ⟨a4, q4, rfl, w4, r4⟩ := Opns.int Try.underlying3 r3
  obtain ⟨a5, q5, rfl, w5, r5⟩ := Opns.int Try.underlying3 r4
  obtain rfl := Opns.nil r5
  exact ⟨⟨a0, a1, a2, a3, a4, a5⟩, rfl, ⟨u32_of_wf w0, u32_of_wf w1, i64_of_wf w2, i64_of_wf w3, i64_of_wf w4, i64_of_wf w5⟩⟩
theorem open_fr {w : World} {cs : List Value} (h : Opn Try.prog w 31 cs) : ∃ x : Fr, cs = x.cs.toList ∧ x.ok := by
  have h := h.struct Try.underlying31 (by kernel_rfl) (by kernel_rfl)
  change Opns Try.prog w [23, 23, 3, 27, 29, 22] cs at h
  obtain ⟨a0, q0, rfl, w0, r0⟩ := Opns.int Try.underlying23 h
  obtain ⟨a1, q1, rfl, w1, r1⟩ := Opns.int Try.underlying23 r0
  obtain ⟨a2, q2, rfl, w2, r2⟩ := Opns.int Try.underlying3 r1
  obtain ⟨c3, q3, rfl, h3, r3⟩ := Opns.cons r2
  obtain ⟨c4, q4, rfl, h4, r4⟩ := Opns.cons r3
  obtain ⟨a5, q5, rfl, w5, r5⟩ := Opns.int Try.underlying22 r4
  obtain rfl := Opns.nil r5
  obtain ⟨a, rfl, ha⟩ := open_arp h3
  obtain ⟨i, rfl, hi⟩ := open_hd h4
  exact ⟨⟨a0, a1, a2, a, i, a5⟩, by simp [Fr.cs, Arp.cs, Hd.cs], ⟨u64_of_wf w0, u64_of_wf w1, i64_of_wf w2, ha, hi, u64_of_wf w5⟩⟩
theorem arg_fr {w : World} {v : Value} (h : Arg Try.prog w 31 v) : ∃ f : Fr, v = .agg f.cs ∧ f.ok := by
  have h2 := h.2
  obtain ⟨cs, rfl, _⟩ := h.struct Try.underlying31 (by kernel_rfl) (by kernel_rfl)
  obtain ⟨r, e, hr⟩ := open_fr h2
  simp [Value.cells] at e
  have e : cs = r.cs := by apply Array.toList_inj.1; simpa using e
  exact ⟨r, by rw [e], hr⟩
end Go.Proofs.Ytkplhmmajafflaa
