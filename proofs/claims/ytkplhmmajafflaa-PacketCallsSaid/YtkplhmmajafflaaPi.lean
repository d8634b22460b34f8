import Derived.Test.YtkplhmmajafflaaPh
/- The reference's Check. -/
namespace Go.Proofs.Ytkplhmmajafflaa
open Go.RowKit
set_option linter.unusedSimpArgs false
set_option linter.unusedVariables false

theorem frame_alone (W : World) (o : Obj) : (W.alloc o).heap[W.heap.size]? = some o := heap_here rfl
theorem Boxes.mader1 {W w2 : World} {f : Fr} (hb : Below W.heap.size W w2) (hF : w2.heap[W.heap.size]? = some (.cells f.cs 31 (0, 0))) :
    Boxes W f (((w2.alloc (.cells f.arp.cs 27)).alloc (.cells f.ip.cs 29)).drew) w2.heap.size (w2.heap.size + 1) := by
  have hl : W.heap.size < w2.heap.size := (Array.getElem?_eq_some_iff.1 hF).1
  refine ⟨(Below.heap_alloc _ _ _ (by simp)).trans (heap_here rfl), heap_here (by simp), ?_, ((hb.alloc hb.size _).alloc (by rw [World.size_alloc]; have := hb.size; omega) _).drew⟩
  exact (Below.heap_alloc _ _ _ (by rw [World.size_alloc]; omega)).trans ((Below.heap_alloc _ _ _ (by omega)).trans hF)
theorem Boxes.mader2 {W w2 : World} {f : Fr} (hb : Below W.heap.size W w2) (hF : w2.heap[W.heap.size]? = some (.cells f.cs 31 (0, 0))) :
    Boxes W f (((w2.alloc (.cells f.ip.cs 29)).alloc (.cells f.arp.cs 27)).drew) (w2.heap.size + 1) w2.heap.size := by
  have hl : W.heap.size < w2.heap.size := (Array.getElem?_eq_some_iff.1 hF).1
  refine ⟨heap_here (by simp), (Below.heap_alloc _ _ _ (by simp)).trans (heap_here rfl), ?_, ((hb.alloc hb.size _).alloc (by rw [World.size_alloc]; have := hb.size; omega) _).drew⟩
  exact (Below.heap_alloc _ _ _ (by rw [World.size_alloc]; omega)).trans ((Below.heap_alloc _ _ _ (by omega)).trans hF)
set_option maxRecDepth 100000 in
set_option maxHeartbeats 8000000 in
theorem rCheck_any (f : Fr) (h : f.ok) (W : World) : Calls Try.prog 13 #[.agg f.cs] W fun e w' => e = .returned (.int .i64 (checkF f)) ∧ Below W.heap.size W w' := by
  have hs0 := h.src.1
  have hs1 := h.src.2
  have NA : ∀ (r : Bool) (hr : r = true ↔ f.arp ≠ zeroArp) (W : World), Sem.run Try.prog (binOp .neq 27 (.agg f.arp.cs) (.agg #[.int .i64 0, .int .u64 0, .int .u32 0, .int .u64 0, .int .u32 0])) W = .ok (.bool r) W := fun r hr W => arp_neq f.arp zeroArp h.arp zeroArp.ok r hr W
  have NH : ∀ (r : Bool) (hr : r = true ↔ f.ip ≠ zeroHd) (W : World), Sem.run Try.prog (binOp .neq 29 (.agg f.ip.cs) (.agg #[.int .u32 0, .int .u32 0, .int .i64 0, .int .i64 0, .int .i64 0, .int .i64 0])) W = .ok (.bool r) W := fun r hr W => hd_neq f.ip zeroHd h.ip zeroHd.ok r hr W
  have HNA := Lib.hid NA
  have HNH := Lib.hid NH
  clear NA NH h
  go_enter Try.func13, Try.ntmps13
  go_wp2_with fail
  go_cut [3, 4] (fun s3 s4 wx => ∃ g1 g2, s3 = .pointer (some ⟨g1, 0, none⟩) ∧ s4 = .pointer (some ⟨g2, 0, none⟩) ∧ Boxes W f wx g1 g2)
  case first =>
    have hbl := (Below.refl W.heap.size W).alloc (Nat.le_refl _) (.cells f.cs 31)
    go_region
    all_goals
      go_wp2_with fail
      go_meet
      refine ⟨_, _, rfl, rfl, ?_⟩
      first
        | (have hm := Boxes.mader1 hbl (frame_alone W _); simpa using hm)
        | (have hm := Boxes.mader2 hbl (frame_alone W _); simpa using hm)
  case rest =>
    obtain ⟨g1, g2, rfl, rfl, hB⟩ := hcut
    have hF := hB.frame
    have hA := hB.arp
    have hH := hB.ip
    have HB := Lib.hid hB
    have f0 : wc.cell? ⟨W.heap.size, 0, none⟩ = some (.int .u64 f.src) := by simp [World.cell?, hF]
    have f1 : wc.cell? ⟨W.heap.size, 1, none⟩ = some (.int .u64 f.dst) := by simp [World.cell?, hF]
    have f2 : wc.cell? ⟨W.heap.size, 2, none⟩ = some (.int .i64 f.kind) := by simp [World.cell?, hF]
    have a0 : wc.cell? ⟨g1, 0, none⟩ = some (.int .i64 f.arp.op) := by simp [World.cell?, hA]
    have a1 : wc.cell? ⟨g1, 1, none⟩ = some (.int .u64 f.arp.sm) := by simp [World.cell?, hA]
    have a3 : wc.cell? ⟨g1, 3, none⟩ = some (.int .u64 f.arp.tm) := by simp [World.cell?, hA]
    have i2 : wc.cell? ⟨g2, 2, none⟩ = some (.int .i64 f.ip.ttl) := by simp [World.cell?, hH]
    have i3 : wc.cell? ⟨g2, 3, none⟩ = some (.int .i64 f.ip.proto) := by simp [World.cell?, hH]
    have i4 : wc.cell? ⟨g2, 4, none⟩ = some (.int .i64 f.ip.sp) := by simp [World.cell?, hH]
    have i5 : wc.cell? ⟨g2, 5, none⟩ = some (.int .i64 f.ip.dp) := by simp [World.cell?, hH]
    have ra : wc.row? g1 0 5 = some f.arp.cs := row?_whole hA (by simp)
    have ri : wc.row? g2 0 6 = some f.ip.cs := row?_whole hH (by simp)
    clear hB hF hA hH
    by_cases c1 : 281474976710655 < f.src
    case pos =>
      have dc1 : decide (281474976710655 < f.src) = true := by simpa using c1
      have e := Lib.hid (show checkF f = 2 by unfold checkF; rw [if_pos (.inl c1)])
      clear  c1
      go_wp2_with fail
      go_ret
      exact ⟨by rw [e.out]; rfl, HB.out.below⟩
    have dc1 : decide (281474976710655 < f.src) = false := by simpa using c1
    by_cases c2 : 281474976710655 < f.dst
    case pos =>
      have dc2 : decide (281474976710655 < f.dst) = true := by simpa using c2
      have e := Lib.hid (show checkF f = 2 by unfold checkF; rw [if_pos (.inr c2)])
      clear c1 c2
      go_wp2_with fail
      go_ret
      exact ⟨by rw [e.out]; rfl, HB.out.below⟩
    have dc2 : decide (281474976710655 < f.dst) = false := by simpa using c2
    by_cases c3 : groupB f.src = true
    case pos =>
      have GR := Lib.hid c3
      have e := Lib.hid (show checkF f = 3 by unfold checkF; rw [if_neg (by omega), if_pos c3])
      clear c1 c2 c3
      go_wp2_with (first | (go_at_call 30; refine (rMulti_val f.src (by omega) (by omega) _ GR.out _).mono ?_; rintro e w1 ⟨rfl, rfl⟩))
      go_ret
      exact ⟨by rw [e.out]; rfl, HB.out.below⟩
    have GR := Lib.hid (show groupB f.src = false by simpa using c3)
    by_cases c4 : f.kind < 0
    case pos =>
      have dc4 : decide (f.kind < 0) = true := by simpa using c4
      have e := Lib.hid (show checkF f = 6 by unfold checkF; rw [if_neg (by omega), if_neg c3, if_pos (by omega)])
      clear c1 c2 c3 c4
      go_wp2_with (first | (go_at_call 30; refine (rMulti_val f.src (by omega) (by omega) _ GR.out _).mono ?_; rintro e w1 ⟨rfl, rfl⟩))
      go_ret
      exact ⟨by rw [e.out]; rfl, HB.out.below⟩
    have dc4 : decide (f.kind < 0) = false := by simpa using c4
    by_cases c5 : 2 < f.kind
    case pos =>
      have dc5 : decide (2 < f.kind) = true := by simpa using c5
      have e := Lib.hid (show checkF f = 6 by unfold checkF; rw [if_neg (by omega), if_neg c3, if_pos (by omega)])
      clear c1 c2 c3 c4 c5
      go_wp2_with (first | (go_at_call 30; refine (rMulti_val f.src (by omega) (by omega) _ GR.out _).mono ?_; rintro e w1 ⟨rfl, rfl⟩))
      go_ret
      exact ⟨by rw [e.out]; rfl, HB.out.below⟩
    have dc5 : decide (2 < f.kind) = false := by simpa using c5
    have E1 : checkF f = if (f.kind ≠ 1 ∧ f.arp ≠ zeroArp) ∨ (f.kind ≠ 2 ∧ f.ip ≠ zeroHd) then 3
        else if f.kind = 1 ∧ ¬((f.arp.op = 1 ∨ f.arp.op = 2) ∧ f.arp.sm ≤ 281474976710655 ∧ f.arp.tm ≤ 281474976710655) then 2
        else if f.kind = 2 ∧ ¬((0 ≤ f.ip.ttl ∧ f.ip.ttl ≤ 255) ∧ (0 ≤ f.ip.proto ∧ f.ip.proto ≤ 255) ∧ (0 ≤ f.ip.sp ∧ f.ip.sp ≤ 65535) ∧ (0 ≤ f.ip.dp ∧ f.ip.dp ≤ 65535)) then 2
        else if f.kind = 2 ∧ portedB f.ip.proto = false ∧ ¬(f.ip.sp = 0 ∧ f.ip.dp = 0) then 3
        else 0 := by unfold checkF; rw [if_neg (by omega), if_neg c3, if_neg (by omega)]
    have EE := Lib.hid E1
    clear E1
    have hk3 : f.kind = 0 ∨ f.kind = 1 ∨ f.kind = 2 := by omega
    clear c1 c2 c3 c4 c5
    rcases hk3 with hk0 | hk0 | hk0
    · have n1 : (f.kind != 1) = true := by simp [hk0]
      have n2 : (f.kind != 2) = true := by simp [hk0]
      have e1 : (f.kind == 1) = false := by simp [hk0]
      by_cases x : f.arp = zeroArp
      case neg =>
        have na := HNA.out true (by simpa using x)
        have e := Lib.hid (show checkF f = 3 by rw [EE.out, if_pos (.inl ⟨by omega, x⟩)])
        clear x hk0
        go_wp2_with (first | (go_at_call 30; refine (rMulti_val f.src (by omega) (by omega) _ GR.out _).mono ?_; rintro e w1 ⟨rfl, rfl⟩))
        go_ret
        exact ⟨by rw [e.out]; rfl, HB.out.below⟩
      have na := HNA.out false (by simpa using x)
      by_cases y : f.ip = zeroHd
      case neg =>
        have nh := HNH.out true (by simpa using y)
        have e := Lib.hid (show checkF f = 3 by rw [EE.out, if_pos (.inr ⟨by omega, y⟩)])
        clear x y hk0
        go_wp2_with (first | (go_at_call 30; refine (rMulti_val f.src (by omega) (by omega) _ GR.out _).mono ?_; rintro e w1 ⟨rfl, rfl⟩))
        go_ret
        exact ⟨by rw [e.out]; rfl, HB.out.below⟩
      obtain ⟨z2, z3, z4, z5⟩ : f.ip.ttl = 0 ∧ f.ip.proto = 0 ∧ f.ip.sp = 0 ∧ f.ip.dp = 0 := by rw [y]; exact ⟨rfl, rfl, rfl, rfl⟩
      have PT := Lib.hid (show portedB 0 = false by rfl)
      have nh := HNH.out false (by simp [y])
      rw [z2] at i2
      rw [z3] at i3
      rw [z4] at i4
      rw [z5] at i5
      have e := Lib.hid (show checkF f = 0 by rw [EE.out, if_neg (by rintro (h | h); exact h.2 x; exact h.2 y), if_neg (by omega), if_neg (by omega), if_neg (by omega)])
      clear x y hk0 z2 z3 z4 z5
      go_wp2_with (first | (go_at_call 30; refine (rMulti_val f.src (by omega) (by omega) _ GR.out _).mono ?_; rintro e w1 ⟨rfl, rfl⟩) | (go_at_call 17; refine (rPorted_val 0 _ PT.out _).mono ?_; rintro e w1 ⟨rfl, rfl⟩))
      go_ret
      exact ⟨by rw [e.out]; rfl, HB.out.below⟩
    · have n1 : (f.kind != 1) = false := by simp [hk0]
      have n2 : (f.kind != 2) = true := by simp [hk0]
      have e1 : (f.kind == 1) = true := by simp [hk0]
      by_cases y : f.ip = zeroHd
      case neg =>
        have nh := HNH.out true (by simpa using y)
        have e := Lib.hid (show checkF f = 3 by rw [EE.out, if_pos (.inr ⟨by omega, y⟩)])
        clear y hk0
        go_wp2_with (first | (go_at_call 30; refine (rMulti_val f.src (by omega) (by omega) _ GR.out _).mono ?_; rintro e w1 ⟨rfl, rfl⟩))
        go_ret
        exact ⟨by rw [e.out]; rfl, HB.out.below⟩
      obtain ⟨z2, z3, z4, z5⟩ : f.ip.ttl = 0 ∧ f.ip.proto = 0 ∧ f.ip.sp = 0 ∧ f.ip.dp = 0 := by rw [y]; exact ⟨rfl, rfl, rfl, rfl⟩
      have PT := Lib.hid (show portedB 0 = false by rfl)
      have nh := HNH.out false (by simp [y])
      rw [z2] at i2
      rw [z3] at i3
      rw [z4] at i4
      rw [z5] at i5
      by_cases o1 : f.arp.op < 1
      case pos =>
        have do1 : decide (f.arp.op < 1) = true := by simpa using o1
        have e := Lib.hid (show checkF f = 2 by rw [EE.out, if_neg (by rintro (h | h); exact h.1 hk0; exact h.2 y), if_pos ⟨hk0, by omega⟩])
        clear y hk0 z2 z3 z4 z5 o1
        go_wp2_with (first | (go_at_call 30; refine (rMulti_val f.src (by omega) (by omega) _ GR.out _).mono ?_; rintro e w1 ⟨rfl, rfl⟩))
        go_ret
        exact ⟨by rw [e.out]; rfl, HB.out.below⟩
      have do1 : decide (f.arp.op < 1) = false := by simpa using o1
      by_cases o2 : 2 < f.arp.op
      case pos =>
        have do2 : decide (2 < f.arp.op) = true := by simpa using o2
        have e := Lib.hid (show checkF f = 2 by rw [EE.out, if_neg (by rintro (h | h); exact h.1 hk0; exact h.2 y), if_pos ⟨hk0, by omega⟩])
        clear y hk0 z2 z3 z4 z5 o1 o2
        go_wp2_with (first | (go_at_call 30; refine (rMulti_val f.src (by omega) (by omega) _ GR.out _).mono ?_; rintro e w1 ⟨rfl, rfl⟩))
        go_ret
        exact ⟨by rw [e.out]; rfl, HB.out.below⟩
      have do2 : decide (2 < f.arp.op) = false := by simpa using o2
      by_cases o3 : 281474976710655 < f.arp.sm
      case pos =>
        have do3 : decide (281474976710655 < f.arp.sm) = true := by simpa using o3
        have e := Lib.hid (show checkF f = 2 by rw [EE.out, if_neg (by rintro (h | h); exact h.1 hk0; exact h.2 y), if_pos ⟨hk0, by omega⟩])
        clear y hk0 z2 z3 z4 z5 o1 o2 o3
        go_wp2_with (first | (go_at_call 30; refine (rMulti_val f.src (by omega) (by omega) _ GR.out _).mono ?_; rintro e w1 ⟨rfl, rfl⟩))
        go_ret
        exact ⟨by rw [e.out]; rfl, HB.out.below⟩
      have do3 : decide (281474976710655 < f.arp.sm) = false := by simpa using o3
      by_cases o4 : 281474976710655 < f.arp.tm
      case pos =>
        have do4 : decide (281474976710655 < f.arp.tm) = true := by simpa using o4
        have e := Lib.hid (show checkF f = 2 by rw [EE.out, if_neg (by rintro (h | h); exact h.1 hk0; exact h.2 y), if_pos ⟨hk0, by omega⟩])
        clear y hk0 z2 z3 z4 z5 o1 o2 o3 o4
        go_wp2_with (first | (go_at_call 30; refine (rMulti_val f.src (by omega) (by omega) _ GR.out _).mono ?_; rintro e w1 ⟨rfl, rfl⟩))
        go_ret
        exact ⟨by rw [e.out]; rfl, HB.out.below⟩
      have do4 : decide (281474976710655 < f.arp.tm) = false := by simpa using o4
      have e := Lib.hid (show checkF f = 0 by rw [EE.out, if_neg (by rintro (h | h); exact h.1 hk0; exact h.2 y), if_neg (by omega), if_neg (by omega), if_neg (by omega)])
      clear y hk0 z2 z3 z4 z5 o1 o2 o3 o4
      go_wp2_with (first | (go_at_call 30; refine (rMulti_val f.src (by omega) (by omega) _ GR.out _).mono ?_; rintro e w1 ⟨rfl, rfl⟩) | (go_at_call 17; refine (rPorted_val 0 _ PT.out _).mono ?_; rintro e w1 ⟨rfl, rfl⟩))
      go_ret
      exact ⟨by rw [e.out]; rfl, HB.out.below⟩
    · have n1 : (f.kind != 1) = true := by simp [hk0]
      have n2 : (f.kind != 2) = false := by simp [hk0]
      have e1 : (f.kind == 1) = false := by simp [hk0]
      by_cases x : f.arp = zeroArp
      case neg =>
        have na := HNA.out true (by simpa using x)
        have e := Lib.hid (show checkF f = 3 by rw [EE.out, if_pos (.inl ⟨by omega, x⟩)])
        clear x hk0
        go_wp2_with (first | (go_at_call 30; refine (rMulti_val f.src (by omega) (by omega) _ GR.out _).mono ?_; rintro e w1 ⟨rfl, rfl⟩))
        go_ret
        exact ⟨by rw [e.out]; rfl, HB.out.below⟩
      have na := HNA.out false (by simpa using x)
      by_cases l0 : f.ip.ttl < 0
      case pos =>
        have dl0 : decide (f.ip.ttl < 0) = true := by simpa using l0
        have e := Lib.hid (show checkF f = 2 by rw [EE.out, if_neg (by rintro (h | h); exact h.2 x; exact h.1 hk0), if_neg (by omega), if_pos ⟨hk0, by omega⟩])
        clear x hk0 l0
        go_wp2_with (first | (go_at_call 30; refine (rMulti_val f.src (by omega) (by omega) _ GR.out _).mono ?_; rintro e w1 ⟨rfl, rfl⟩))
        go_ret
        exact ⟨by rw [e.out]; rfl, HB.out.below⟩
      have dl0 : decide (f.ip.ttl < 0) = false := by simpa using l0
      by_cases m0 : 255 < f.ip.ttl
      case pos =>
        have dm0 : decide (255 < f.ip.ttl) = true := by simpa using m0
        have e := Lib.hid (show checkF f = 2 by rw [EE.out, if_neg (by rintro (h | h); exact h.2 x; exact h.1 hk0), if_neg (by omega), if_pos ⟨hk0, by omega⟩])
        clear x hk0 l0 m0
        go_wp2_with (first | (go_at_call 30; refine (rMulti_val f.src (by omega) (by omega) _ GR.out _).mono ?_; rintro e w1 ⟨rfl, rfl⟩))
        go_ret
        exact ⟨by rw [e.out]; rfl, HB.out.below⟩
      have dm0 : decide (255 < f.ip.ttl) = false := by simpa using m0
      by_cases l1 : f.ip.proto < 0
      case pos =>
        have dl1 : decide (f.ip.proto < 0) = true := by simpa using l1
        have e := Lib.hid (show checkF f = 2 by rw [EE.out, if_neg (by rintro (h | h); exact h.2 x; exact h.1 hk0), if_neg (by omega), if_pos ⟨hk0, by omega⟩])
        clear x hk0 l0 m0 l1
        go_wp2_with (first | (go_at_call 30; refine (rMulti_val f.src (by omega) (by omega) _ GR.out _).mono ?_; rintro e w1 ⟨rfl, rfl⟩))
        go_ret
        exact ⟨by rw [e.out]; rfl, HB.out.below⟩
      have dl1 : decide (f.ip.proto < 0) = false := by simpa using l1
      by_cases m1 : 255 < f.ip.proto
      case pos =>
        have dm1 : decide (255 < f.ip.proto) = true := by simpa using m1
        have e := Lib.hid (show checkF f = 2 by rw [EE.out, if_neg (by rintro (h | h); exact h.2 x; exact h.1 hk0), if_neg (by omega), if_pos ⟨hk0, by omega⟩])
        clear x hk0 l0 m0 l1 m1
        go_wp2_with (first | (go_at_call 30; refine (rMulti_val f.src (by omega) (by omega) _ GR.out _).mono ?_; rintro e w1 ⟨rfl, rfl⟩))
        go_ret
        exact ⟨by rw [e.out]; rfl, HB.out.below⟩
      have dm1 : decide (255 < f.ip.proto) = false := by simpa using m1
      by_cases l2 : f.ip.sp < 0
      case pos =>
        have dl2 : decide (f.ip.sp < 0) = true := by simpa using l2
        have e := Lib.hid (show checkF f = 2 by rw [EE.out, if_neg (by rintro (h | h); exact h.2 x; exact h.1 hk0), if_neg (by omega), if_pos ⟨hk0, by omega⟩])
        clear x hk0 l0 m0 l1 m1 l2
        go_wp2_with (first | (go_at_call 30; refine (rMulti_val f.src (by omega) (by omega) _ GR.out _).mono ?_; rintro e w1 ⟨rfl, rfl⟩))
        go_ret
        exact ⟨by rw [e.out]; rfl, HB.out.below⟩
      have dl2 : decide (f.ip.sp < 0) = false := by simpa using l2
      by_cases m2 : 65535 < f.ip.sp
      case pos =>
        have dm2 : decide (65535 < f.ip.sp) = true := by simpa using m2
        have e := Lib.hid (show checkF f = 2 by rw [EE.out, if_neg (by rintro (h | h); exact h.2 x; exact h.1 hk0), if_neg (by omega), if_pos ⟨hk0, by omega⟩])
        clear x hk0 l0 m0 l1 m1 l2 m2
        go_wp2_with (first | (go_at_call 30; refine (rMulti_val f.src (by omega) (by omega) _ GR.out _).mono ?_; rintro e w1 ⟨rfl, rfl⟩))
        go_ret
        exact ⟨by rw [e.out]; rfl, HB.out.below⟩
      have dm2 : decide (65535 < f.ip.sp) = false := by simpa using m2
      by_cases l3 : f.ip.dp < 0
      case pos =>
        have dl3 : decide (f.ip.dp < 0) = true := by simpa using l3
        have e := Lib.hid (show checkF f = 2 by rw [EE.out, if_neg (by rintro (h | h); exact h.2 x; exact h.1 hk0), if_neg (by omega), if_pos ⟨hk0, by omega⟩])
        clear x hk0 l0 m0 l1 m1 l2 m2 l3
        go_wp2_with (first | (go_at_call 30; refine (rMulti_val f.src (by omega) (by omega) _ GR.out _).mono ?_; rintro e w1 ⟨rfl, rfl⟩))
        go_ret
        exact ⟨by rw [e.out]; rfl, HB.out.below⟩
      have dl3 : decide (f.ip.dp < 0) = false := by simpa using l3
      by_cases m3 : 65535 < f.ip.dp
      case pos =>
        have dm3 : decide (65535 < f.ip.dp) = true := by simpa using m3
        have e := Lib.hid (show checkF f = 2 by rw [EE.out, if_neg (by rintro (h | h); exact h.2 x; exact h.1 hk0), if_neg (by omega), if_pos ⟨hk0, by omega⟩])
        clear x hk0 l0 m0 l1 m1 l2 m2 l3 m3
        go_wp2_with (first | (go_at_call 30; refine (rMulti_val f.src (by omega) (by omega) _ GR.out _).mono ?_; rintro e w1 ⟨rfl, rfl⟩))
        go_ret
        exact ⟨by rw [e.out]; rfl, HB.out.below⟩
      have dm3 : decide (65535 < f.ip.dp) = false := by simpa using m3
      by_cases p1 : portedB f.ip.proto = true
      case pos =>
        have PT := Lib.hid p1
        have e := Lib.hid (show checkF f = 0 by rw [EE.out, if_neg (by rintro (h | h); exact h.2 x; exact h.1 hk0), if_neg (by omega), if_neg (by omega), if_neg (by rw [p1]; simp)])
        clear x hk0 l0 m0 l1 m1 l2 m2 l3 m3 p1
        go_wp2_with (first | (go_at_call 30; refine (rMulti_val f.src (by omega) (by omega) _ GR.out _).mono ?_; rintro e w1 ⟨rfl, rfl⟩) | (go_at_call 17; refine (rPorted_val f.ip.proto _ PT.out _).mono ?_; rintro e w1 ⟨rfl, rfl⟩))
        go_ret
        exact ⟨by rw [e.out]; rfl, HB.out.below⟩
      have PT := Lib.hid (show portedB f.ip.proto = false by simpa using p1)
      by_cases q4 : f.ip.sp = 0
      case neg =>
        have dq4 : (f.ip.sp != 0) = true := by simpa using q4
        have e := Lib.hid (show checkF f = 3 by rw [EE.out, if_neg (by rintro (h | h); exact h.2 x; exact h.1 hk0), if_neg (by omega), if_neg (by omega), if_pos ⟨hk0, PT.out, by omega⟩])
        clear x hk0 l0 m0 l1 m1 l2 m2 l3 m3 p1 q4
        go_wp2_with (first | (go_at_call 30; refine (rMulti_val f.src (by omega) (by omega) _ GR.out _).mono ?_; rintro e w1 ⟨rfl, rfl⟩) | (go_at_call 17; refine (rPorted_val f.ip.proto _ PT.out _).mono ?_; rintro e w1 ⟨rfl, rfl⟩))
        go_ret
        exact ⟨by rw [e.out]; rfl, HB.out.below⟩
      have dq4 : (f.ip.sp != 0) = false := by simpa using q4
      by_cases q5 : f.ip.dp = 0
      case neg =>
        have dq5 : (f.ip.dp != 0) = true := by simpa using q5
        have e := Lib.hid (show checkF f = 3 by rw [EE.out, if_neg (by rintro (h | h); exact h.2 x; exact h.1 hk0), if_neg (by omega), if_neg (by omega), if_pos ⟨hk0, PT.out, by omega⟩])
        clear x hk0 l0 m0 l1 m1 l2 m2 l3 m3 p1 q4 q5
        go_wp2_with (first | (go_at_call 30; refine (rMulti_val f.src (by omega) (by omega) _ GR.out _).mono ?_; rintro e w1 ⟨rfl, rfl⟩) | (go_at_call 17; refine (rPorted_val f.ip.proto _ PT.out _).mono ?_; rintro e w1 ⟨rfl, rfl⟩))
        go_ret
        exact ⟨by rw [e.out]; rfl, HB.out.below⟩
      have dq5 : (f.ip.dp != 0) = false := by simpa using q5
      have e := Lib.hid (show checkF f = 0 by rw [EE.out, if_neg (by rintro (h | h); exact h.2 x; exact h.1 hk0), if_neg (by omega), if_neg (by omega), if_neg (by omega)])
      clear x hk0 l0 m0 l1 m1 l2 m2 l3 m3 p1 q4 q5
      go_wp2_with (first | (go_at_call 30; refine (rMulti_val f.src (by omega) (by omega) _ GR.out _).mono ?_; rintro e w1 ⟨rfl, rfl⟩) | (go_at_call 17; refine (rPorted_val f.ip.proto _ PT.out _).mono ?_; rintro e w1 ⟨rfl, rfl⟩))
      go_ret
      exact ⟨by rw [e.out]; rfl, HB.out.below⟩
end Go.Proofs.Ytkplhmmajafflaa
