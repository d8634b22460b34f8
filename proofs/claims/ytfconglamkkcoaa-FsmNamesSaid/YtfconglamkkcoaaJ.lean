import Derived.Test.YtfconglamkkcoaaI
/- Valid configurations and sessions. -/
namespace Go.Proofs.Ytfconglamkkcoaa
open Go.RowKit
set_option linter.unusedSimpArgs false
set_option linter.unusedVariables false

def timedB (n : Int) : Bool := n == -1 || (decide (0 ≤ n) && decide (n ≤ 2199023255552))
theorem timed_any (n : Int) (w : World) : Calls Try.prog 33 #[.int .i64 n] w fun e w' => e = .returned (.bool (timedB n)) ∧ w = w' := by
  go_enter Try.func33, Try.ntmps33
  go_wp2_with fail
  all_goals
    go_ret
    refine ⟨ret_bool ?_, rfl⟩
    rw [Bool.eq_iff_iff]
    simp [timedB]
    try omega
def rightB (c : Cfg) : Bool := !(c.id == 0) && !(c.peer == 0) && !(c.id == c.peer) && heldB c.hold && decide (1 ≤ c.retry) && decide (c.retry ≤ 65535) && decide (0 ≤ c.restart) && decide (c.restart ≤ 4095)
def validB (s : Ses) : Bool := rightB s.c && decide (0 ≤ s.phase) && decide (s.phase ≤ 4) && heldB s.hold && timedB s.expire && timedB s.alive && timedB s.retry
theorem right_any (c : Cfg) (w : World) : Calls Try.prog 28 #[.agg c.cs] w fun e w' => e = .returned (.bool (rightB c)) ∧ Below w.heap.size w w' := by
  obtain ⟨b, hb⟩ : ∃ b, heldB c.hold = b := ⟨_, rfl⟩
  have HB := Lib.hid hb
  go_enter Try.func28, Try.ntmps28
  go_wp2_with (go_at_call 32; refine (held_val c.hold _ HB.out _).mono ?_; rintro e w' ⟨rfl, rfl⟩)
  all_goals
    go_ret
    refine ⟨ret_bool ?_, (Below.refl _ _).alloc (Nat.le_refl _) _⟩
    rw [Bool.eq_iff_iff]
    simp [rightB, hb]
    try simp_all
    try omega
set_option maxHeartbeats 1000000 in
theorem valid_any (s : Ses) (w : World) : Calls Try.prog 18 #[.agg s.cs] w fun e w' => e = .returned (.bool (validB s)) ∧ Below w.heap.size w w' := by
  obtain ⟨b0, h0⟩ : ∃ b, rightB s.c = b := ⟨_, rfl⟩
  obtain ⟨b1, h1⟩ : ∃ b, heldB s.hold = b := ⟨_, rfl⟩
  obtain ⟨b2, h2⟩ : ∃ b, timedB s.expire = b := ⟨_, rfl⟩
  obtain ⟨b3, h3⟩ : ∃ b, timedB s.alive = b := ⟨_, rfl⟩
  obtain ⟨b4, h4⟩ : ∃ b, timedB s.retry = b := ⟨_, rfl⟩
  have H0 := Lib.hid h0
  have H1 := Lib.hid h1
  have H2 := Lib.hid h2
  have H3 := Lib.hid h3
  have H4 := Lib.hid h4
  have hv : validB s = (b0 && decide (0 ≤ s.phase) && decide (s.phase ≤ 4) && b1 && b2 && b3 && b4) := by unfold validB; rw [h0, h1, h2, h3, h4]
  have HV := Lib.hid hv
  clear h0 h1 h2 h3 h4 hv
  have hE : (w.alloc (.cells s.cs 30)).heap[w.heap.size]? = some (.cells s.cs 30 (0, 0)) := heap_here rfl
  have HE := Lib.hid hE
  clear hE
  go_enter Try.func18, Try.ntmps18
  go_upto_region 1 with fail
  obtain ⟨wA, hwA⟩ : ∃ wA, w.alloc (.cells s.cs 30) = wA := ⟨_, rfl⟩
  have hbA : Below w.heap.size w wA := by rw [← hwA]; exact (Below.refl _ _).alloc (Nat.le_refl _) _
  have hE := HE.out
  rw [hwA] at hE ⊢
  obtain ⟨g, hg⟩ : ∃ g, w.heap.size = g := ⟨_, rfl⟩
  rw [hg] at hE
  rw [hg]
  have hgl : g < wA.heap.size := (Array.getElem?_eq_some_iff.1 hE).1
  have hrow : wA.row? g 1 8 = some s.c.cs := by unfold World.row?; rw [hE]; exact Ses.sub_c s
  have HBA := Lib.hid hbA
  have HEA := Lib.hid hE
  clear hE hwA hbA hg
  go_wp2_with (first
    | (go_at_call 28; refine (right_any s.c _).mono ?_; rw [H0.out]; rintro e w1 ⟨rfl, hb1⟩; have hE1 := (hb1.block g hgl).trans HEA.out; have c0 : w1.cell? ⟨g, 0, none⟩ = some (.int .i64 s.phase) := by { simp [World.cell?, hE1] }; have c14 : w1.cell? ⟨g, 14, none⟩ = some (.int .i64 s.hold) := by { simp [World.cell?, hE1] }; have c15 : w1.cell? ⟨g, 15, none⟩ = some (.int .i64 s.expire) := by { simp [World.cell?, hE1] }; have c16 : w1.cell? ⟨g, 16, none⟩ = some (.int .i64 s.alive) := by { simp [World.cell?, hE1] }; have c17 : w1.cell? ⟨g, 17, none⟩ = some (.int .i64 s.retry) := by { simp [World.cell?, hE1] }; have HB1 := Lib.hid (HBA.out.trans (hb1.mono HBA.out.size)); clear hE1 hb1)
    | (go_at_call 32; refine (held_val s.hold _ H1.out _).mono ?_; rintro e w' ⟨rfl, rfl⟩)
    | (go_at_call_of 33 (Value.int .i64 s.expire); refine (timed_any s.expire _).mono ?_; rw [H2.out]; rintro e w' ⟨rfl, rfl⟩)
    | (go_at_call_of 33 (Value.int .i64 s.alive); refine (timed_any s.alive _).mono ?_; rw [H3.out]; rintro e w' ⟨rfl, rfl⟩)
    | (go_at_call_of 33 (Value.int .i64 s.retry); refine (timed_any s.retry _).mono ?_; rw [H4.out]; rintro e w' ⟨rfl, rfl⟩))
  all_goals
    go_ret
    refine ⟨ret_bool ?_, HB1.out⟩
    rw [HV.out]
    simp_all
    try (intros; omega)
end Go.Proofs.Ytfconglamkkcoaa
