import Derived.Test.YtkplhmmajafflaaPg
import Derived.Laws.BitsLemmas
/- Check. -/
namespace Go.Proofs.Ytkplhmmajafflaa
open Go.RowKit
set_option linter.unusedSimpArgs false
set_option linter.unusedVariables false

theorem i64_or_zero (a b : Nat) (ha : a < 9223372036854775808) (hb : b < 9223372036854775808) : (bits BinOp.or IntKind.i64 (a : Int) (b : Int) != 0) = !(decide ((a : Int) = 0) && decide ((b : Int) = 0)) := by
  have hx : a ||| b < 2 ^ 63 := Nat.or_lt_two_pow (by omega) (by omega)
  have e : bits BinOp.or IntKind.i64 (a : Int) (b : Int) = ((a ||| b : Nat) : Int) := by
    show IntKind.i64.wrap ((BitVec.ofInt 64 (a : Int) ||| BitVec.ofInt 64 (b : Int)).toNat : Int) = _
    rw [BitVec.toNat_or, BitVec.ofInt_natCast, BitVec.ofInt_natCast, BitVec.toNat_ofNat, BitVec.toNat_ofNat, Nat.mod_eq_of_lt (by omega), Nat.mod_eq_of_lt (by omega), IntKind.wrap_i64]
    omega
  rw [e]
  by_cases h1 : a = 0
  · subst h1; by_cases h2 : b = 0
    · subst h2; rfl
    · simp [h2]
  · have : a ||| b ≠ 0 := fun h => h1 (Nat.or_eq_zero_iff.1 h).1
    simp [h1, this]
def maxMac : Int := 281474976710655
/-- What a check says. -/
def checkF (f : Fr) : Int :=
  if 281474976710655 < f.src ∨ 281474976710655 < f.dst then 2
  else if groupB f.src = true then 3
  else if ¬(0 ≤ f.kind ∧ f.kind ≤ 2) then 6
  else if (f.kind ≠ 1 ∧ f.arp ≠ zeroArp) ∨ (f.kind ≠ 2 ∧ f.ip ≠ zeroHd) then 3
  else if f.kind = 1 ∧ ¬((f.arp.op = 1 ∨ f.arp.op = 2) ∧ f.arp.sm ≤ 281474976710655 ∧ f.arp.tm ≤ 281474976710655) then 2
  else if f.kind = 2 ∧ ¬((0 ≤ f.ip.ttl ∧ f.ip.ttl ≤ 255) ∧ (0 ≤ f.ip.proto ∧ f.ip.proto ≤ 255) ∧ (0 ≤ f.ip.sp ∧ f.ip.sp ≤ 65535) ∧ (0 ≤ f.ip.dp ∧ f.ip.dp ≤ 65535)) then 2
  else if f.kind = 2 ∧ portedB f.ip.proto = false ∧ ¬(f.ip.sp = 0 ∧ f.ip.dp = 0) then 3
  else 0
theorem alloc_arp (w : World) : (Instr.alloc 27 true (.tuple #[])).run Try.prog w = .ok (.pointer (some ⟨w.heap.size, 0, none⟩)) (w.alloc (.cells #[.int .i64 0, .int .u64 0, .int .u32 0, .int .u64 0, .int .u32 0] 27)) := by kernel_rfl
theorem alloc_hd (w : World) : (Instr.alloc 29 true (.tuple #[])).run Try.prog w = .ok (.pointer (some ⟨w.heap.size, 0, none⟩)) (w.alloc (.cells #[.int .u32 0, .int .u32 0, .int .i64 0, .int .i64 0, .int .i64 0, .int .i64 0] 29)) := by kernel_rfl

/-- The boxes of a check. -/
structure Boxes (W : World) (f : Fr) (w : World) (g1 g2 : Nat) : Prop where
  arp : w.heap[g1]? = some (.cells f.arp.cs 27 (0, 0))
  ip : w.heap[g2]? = some (.cells f.ip.cs 29 (0, 0))
  frame : w.heap[W.heap.size]? = some (.cells f.cs 31 (0, 0))
  below : Below W.heap.size W w
theorem frame_here (W : World) (o o' : Obj) : ((W.alloc o).alloc o').heap[W.heap.size]? = some o := (Below.heap_alloc _ _ _ (by simp)).trans (heap_here rfl)
theorem Boxes.made1 {W w2 : World} {f : Fr} {g : Nat} (x : Grow) (hg : g = (w2.ext x).heap.size) (hb : Below W.heap.size W w2) (hF : w2.heap[W.heap.size]? = some (.cells f.cs 31 (0, 0))) :
    Boxes W f ((((w2.ext x).alloc (.cells f.arp.cs 27)).alloc (.cells f.ip.cs 29)).drew) g (g + 1) := by
  have hl : W.heap.size < w2.heap.size := (Array.getElem?_eq_some_iff.1 hF).1
  have hs : (w2.ext x).heap.size = g := hg.symm
  have hb2 := ext_below' hb hb.size x
  have hle : w2.heap.size ≤ (w2.ext x).heap.size := by rw [ext_size]; omega
  refine ⟨(Below.heap_alloc _ _ _ (by simp [hs] <;> omega)).trans (heap_here hs.symm), heap_here (by rw [World.size_alloc, hs]), ?_, ((hb2.alloc hb2.size _).alloc (by rw [World.size_alloc]; have := hb2.size; omega) _).drew⟩
  exact (Below.heap_alloc _ _ _ (by rw [World.size_alloc]; omega)).trans ((Below.heap_alloc _ _ _ (by omega)).trans ((ext_heap _ _ hl).trans hF))
theorem Boxes.made2 {W w2 : World} {f : Fr} {g : Nat} (x : Grow) (hg : g = (w2.ext x).heap.size) (hb : Below W.heap.size W w2) (hF : w2.heap[W.heap.size]? = some (.cells f.cs 31 (0, 0))) :
    Boxes W f ((((w2.ext x).alloc (.cells f.ip.cs 29)).alloc (.cells f.arp.cs 27)).drew) (g + 1) g := by
  have hl : W.heap.size < w2.heap.size := (Array.getElem?_eq_some_iff.1 hF).1
  have hs : (w2.ext x).heap.size = g := hg.symm
  have hb2 := ext_below' hb hb.size x
  have hle : w2.heap.size ≤ (w2.ext x).heap.size := by rw [ext_size]; omega
  refine ⟨heap_here (by rw [World.size_alloc, hs]), (Below.heap_alloc _ _ _ (by simp [hs] <;> omega)).trans (heap_here hs.symm), ?_, ((hb2.alloc hb2.size _).alloc (by rw [World.size_alloc]; have := hb2.size; omega) _).drew⟩
  exact (Below.heap_alloc _ _ _ (by rw [World.size_alloc]; omega)).trans ((Below.heap_alloc _ _ _ (by omega)).trans ((ext_heap _ _ hl).trans hF))
set_option maxRecDepth 100000 in
set_option maxHeartbeats 4000000 in
theorem check_form (f : Fr) (h : f.ok) (W : World) (hs : f.src ≤ 281474976710655) (hd : f.dst ≤ 281474976710655) (hg : groupB f.src = false) (hk : 0 ≤ f.kind ∧ f.kind ≤ 2) :
    Calls Try.prog 12 #[.agg f.cs] W fun e w' => e = .returned (.int .i64 (checkF f)) ∧ Below W.heap.size W w' := by
  have hs0 := h.src.1
  have hs1 := h.src.2
  have C3 := Lib.hid hg
  have C4 := Lib.hid (show [f.kind].all (fits 2) = true by simp [fits]; omega)
  have NA : ∀ (r : Bool) (hr : r = true ↔ f.arp ≠ zeroArp) (W : World), Sem.run Try.prog (binOp .neq 27 (.agg f.arp.cs) (.agg #[.int .i64 0, .int .u64 0, .int .u32 0, .int .u64 0, .int .u32 0])) W = .ok (.bool r) W := fun r hr W => arp_neq f.arp zeroArp h.arp zeroArp.ok r hr W
  have NH : ∀ (r : Bool) (hr : r = true ↔ f.ip ≠ zeroHd) (W : World), Sem.run Try.prog (binOp .neq 29 (.agg f.ip.cs) (.agg #[.int .u32 0, .int .u32 0, .int .i64 0, .int .i64 0, .int .i64 0, .int .i64 0])) W = .ok (.bool r) W := fun r hr W => hd_neq f.ip zeroHd h.ip zeroHd.ok r hr W
  have OK := Lib.hid h
  have d1 : decide (281474976710655 < f.src) = false := by simp; omega
  have d2 : decide (281474976710655 < f.dst) = false := by simp; omega
  have E1 : checkF f = if (f.kind ≠ 1 ∧ f.arp ≠ zeroArp) ∨ (f.kind ≠ 2 ∧ f.ip ≠ zeroHd) then 3
      else if f.kind = 1 ∧ ¬((f.arp.op = 1 ∨ f.arp.op = 2) ∧ f.arp.sm ≤ 281474976710655 ∧ f.arp.tm ≤ 281474976710655) then 2
      else if f.kind = 2 ∧ ¬((0 ≤ f.ip.ttl ∧ f.ip.ttl ≤ 255) ∧ (0 ≤ f.ip.proto ∧ f.ip.proto ≤ 255) ∧ (0 ≤ f.ip.sp ∧ f.ip.sp ≤ 65535) ∧ (0 ≤ f.ip.dp ∧ f.ip.dp ≤ 65535)) then 2
      else if f.kind = 2 ∧ portedB f.ip.proto = false ∧ ¬(f.ip.sp = 0 ∧ f.ip.dp = 0) then 3
      else 0 := by unfold checkF; rw [if_neg (by omega), if_neg (by simp [hg]), if_neg (by simpa using hk)]
  have EE := Lib.hid E1
  clear E1 hg h
  have hk3 : f.kind = 0 ∨ f.kind = 1 ∨ f.kind = 2 := by omega
  by_cases a1 : f.kind ≠ 1 ∧ f.arp ≠ zeroArp
  · have e := Lib.hid (show checkF f = 3 by rw [EE.out, if_pos (.inl a1)])
    have n1 : (f.kind != 1) = true := by simpa using a1.1
    have na := NA true (by simpa using a1.2)
    clear hk3 a1 NA NH
    go_enter Try.func12, Try.ntmps12
    go_wp2_with (first
          | (go_at_call 28; refine (Multi_val f.src (by omega) (by omega) false C3.out _).mono ?_; rintro e w1 ⟨rfl, rfl⟩)
          | (go_at_call 29; refine (within_any 2 _ 1 _ [f.kind] _ (by exact held_one (by simp)) rfl (by omega)).mono ?_; rintro e w1 ⟨rfl, hb1⟩; rw [C4.out]; obtain ⟨x, rfl⟩ := Ext.of_below hb1; clear hb1))
    go_ret
    exact ⟨by rw [e.out]; rfl, ext_below' (((Below.refl _ _).alloc (Nat.le_refl _) _).alloc (by simp) _) (by simp; omega) x⟩
  by_cases a2 : f.kind ≠ 2 ∧ f.ip ≠ zeroHd
  · have e := Lib.hid (show checkF f = 3 by rw [EE.out, if_pos (.inr a2)])
    have n2 : (f.kind != 2) = true := by simpa using a2.1
    have nh := NH true (by simpa using a2.2)
    by_cases k1 : f.kind = 1
    · have n1 : (f.kind != 1) = false := by simpa using k1
      clear hk3 a1 a2 NA NH k1
      go_enter Try.func12, Try.ntmps12
      go_wp2_with (first
            | (go_at_call 28; refine (Multi_val f.src (by omega) (by omega) false C3.out _).mono ?_; rintro e w1 ⟨rfl, rfl⟩)
            | (go_at_call 29; refine (within_any 2 _ 1 _ [f.kind] _ (by exact held_one (by simp)) rfl (by omega)).mono ?_; rintro e w1 ⟨rfl, hb1⟩; rw [C4.out]; obtain ⟨x, rfl⟩ := Ext.of_below hb1; clear hb1))
      go_ret
      exact ⟨by rw [e.out]; rfl, ext_below' (((Below.refl _ _).alloc (Nat.le_refl _) _).alloc (by simp) _) (by simp; omega) x⟩
    · have n1 : (f.kind != 1) = true := by simpa using k1
      have na := NA false (by simp; exact Decidable.byContradiction fun h => a1 ⟨k1, h⟩)
      clear hk3 a1 a2 NA NH k1
      go_enter Try.func12, Try.ntmps12
      go_wp2_with (first
            | (go_at_call 28; refine (Multi_val f.src (by omega) (by omega) false C3.out _).mono ?_; rintro e w1 ⟨rfl, rfl⟩)
            | (go_at_call 29; refine (within_any 2 _ 1 _ [f.kind] _ (by exact held_one (by simp)) rfl (by omega)).mono ?_; rintro e w1 ⟨rfl, hb1⟩; rw [C4.out]; obtain ⟨x, rfl⟩ := Ext.of_below hb1; clear hb1))
      go_ret
      exact ⟨by rw [e.out]; rfl, ext_below' (((Below.refl _ _).alloc (Nat.le_refl _) _).alloc (by simp) _) (by simp; omega) x⟩
  have E2 := EE.out
  rw [if_neg (by rintro (h | h); exact a1 h; exact a2 h)] at E2
  clear EE
  have EE := Lib.hid E2
  clear E2
  rcases hk3 with hk0 | hk0 | hk0
  · have n1 : (f.kind != 1) = true := by simp [hk0]
    have n2 : (f.kind != 2) = true := by simp [hk0]
    have e1 : (f.kind == 1) = false := by simp [hk0]
    have e2 : (f.kind == 2) = false := by simp [hk0]
    have na := NA false (by simp; exact Decidable.byContradiction fun h => a1 ⟨by omega, h⟩)
    have nh := NH false (by simp; exact Decidable.byContradiction fun h => a2 ⟨by omega, h⟩)
    clear a1 a2 NA NH
    have HK := Lib.hid hk0
    clear hk0
    go_enter Try.func12, Try.ntmps12
    go_wp2_with (first
      | (go_at_call 28; refine (Multi_val f.src (by omega) (by omega) false C3.out _).mono ?_; rintro e w1 ⟨rfl, rfl⟩)
      | (go_at_call 29; refine (within_any 2 _ 1 _ [f.kind] _ (by exact held_one (by simp)) rfl (by omega)).mono ?_; rintro e w1 ⟨rfl, hb1⟩; rw [C4.out]; obtain ⟨x, rfl⟩ := Ext.of_below hb1; clear hb1))
    go_cut [3, 4] (fun s3 s4 wx => ∃ g1 g2, s3 = .pointer (some ⟨g1, 0, none⟩) ∧ s4 = .pointer (some ⟨g2, 0, none⟩) ∧ Boxes W f wx g1 g2)
    case first =>
      go_region
      all_goals
        go_wp2_with fail
        go_meet
        refine ⟨_, _, rfl, rfl, ?_⟩
        have hbl := ((Below.refl W.heap.size W).alloc (Nat.le_refl _) (.cells f.cs 31)).alloc (by simp) (.cells #[.int .i64 f.kind] 3)
        first
          | (refine Boxes.made1 x ?_ hbl (frame_here W _ _); simp)
          | (refine Boxes.made2 x ?_ hbl (frame_here W _ _); simp)
    case rest =>
      obtain ⟨g1, g2, rfl, rfl, hB⟩ := hcut
      have hF := hB.frame
      have hA := hB.arp
      have hH := hB.ip
      have HB := Lib.hid hB
      have hck : wc.cell? ⟨W.heap.size, 2, none⟩ = some (.int .i64 f.kind) := by simp [World.cell?, hF]
      clear hB hF hA hH
      have e := Lib.hid (show checkF f = 0 by have hk0 := HK.out; rw [EE.out, if_neg (by omega), if_neg (by omega), if_neg (by omega)])
      go_wp2_with fail
      go_ret
      exact ⟨by rw [e.out]; rfl, HB.out.below⟩
  · have n1 : (f.kind != 1) = false := by simp [hk0]
    have n2 : (f.kind != 2) = true := by simp [hk0]
    have e1 : (f.kind == 1) = true := by simp [hk0]
    have e2 : (f.kind == 2) = false := by simp [hk0]
    have nh := NH false (by simp; exact Decidable.byContradiction fun h => a2 ⟨by omega, h⟩)
    clear a1 a2 NA NH
    have HK := Lib.hid hk0
    clear hk0
    go_enter Try.func12, Try.ntmps12
    go_wp2_with (first
      | (go_at_call 28; refine (Multi_val f.src (by omega) (by omega) false C3.out _).mono ?_; rintro e w1 ⟨rfl, rfl⟩)
      | (go_at_call 29; refine (within_any 2 _ 1 _ [f.kind] _ (by exact held_one (by simp)) rfl (by omega)).mono ?_; rintro e w1 ⟨rfl, hb1⟩; rw [C4.out]; obtain ⟨x, rfl⟩ := Ext.of_below hb1; clear hb1))
    go_cut [3, 4] (fun s3 s4 wx => ∃ g1 g2, s3 = .pointer (some ⟨g1, 0, none⟩) ∧ s4 = .pointer (some ⟨g2, 0, none⟩) ∧ Boxes W f wx g1 g2)
    case first =>
      go_region
      all_goals
        go_wp2_with fail
        go_meet
        refine ⟨_, _, rfl, rfl, ?_⟩
        have hbl := ((Below.refl W.heap.size W).alloc (Nat.le_refl _) (.cells f.cs 31)).alloc (by simp) (.cells #[.int .i64 f.kind] 3)
        first
          | (refine Boxes.made1 x ?_ hbl (frame_here W _ _); simp)
          | (refine Boxes.made2 x ?_ hbl (frame_here W _ _); simp)
    case rest =>
      obtain ⟨g1, g2, rfl, rfl, hB⟩ := hcut
      have hF := hB.frame
      have hA := hB.arp
      have hH := hB.ip
      have HB := Lib.hid hB
      have hck : wc.cell? ⟨W.heap.size, 2, none⟩ = some (.int .i64 f.kind) := by simp [World.cell?, hF]
      have c0 : wc.cell? ⟨g1, 0, none⟩ = some (.int .i64 f.arp.op) := by simp [World.cell?, hA]
      have c1 : wc.cell? ⟨g1, 1, none⟩ = some (.int .u64 f.arp.sm) := by simp [World.cell?, hA]
      have c3 : wc.cell? ⟨g1, 3, none⟩ = some (.int .u64 f.arp.tm) := by simp [World.cell?, hA]
      clear hB hF hA hH
      by_cases o1 : f.arp.op = 1 ∨ f.arp.op = 2
      case neg =>
        have q1 : (f.arp.op != 1) = true := by simp; omega
        have q2 : (f.arp.op != 2) = true := by simp; omega
        have e := Lib.hid (show checkF f = 2 by have hk0 := HK.out; rw [EE.out, if_pos ⟨hk0, by omega⟩])
        clear o1
        go_wp2_with fail
        go_ret
        exact ⟨by rw [e.out]; rfl, HB.out.below⟩
      have q12 : ((f.arp.op != 1) = false ∧ (f.arp.op != 2) = true) ∨ ((f.arp.op != 1) = true ∧ (f.arp.op != 2) = false) := by
        rcases o1 with h | h <;> simp [h]
      rcases q12 with ⟨q1, q2⟩ | ⟨q1, q2⟩
      all_goals
        by_cases s1 : 281474976710655 < f.arp.sm
        case pos =>
          have q3 : decide (281474976710655 < f.arp.sm) = true := by simpa using s1
          have e := Lib.hid (show checkF f = 2 by have hk0 := HK.out; rw [EE.out, if_pos ⟨hk0, by omega⟩])
          clear o1 s1
          go_wp2_with fail
          go_ret
          exact ⟨by rw [e.out]; rfl, HB.out.below⟩
        have q3 : decide (281474976710655 < f.arp.sm) = false := by simpa using s1
        by_cases t1 : 281474976710655 < f.arp.tm
        case pos =>
          have q4 : decide (281474976710655 < f.arp.tm) = true := by simpa using t1
          have e := Lib.hid (show checkF f = 2 by have hk0 := HK.out; rw [EE.out, if_pos ⟨hk0, by omega⟩])
          clear o1 s1 t1
          go_wp2_with fail
          go_ret
          exact ⟨by rw [e.out]; rfl, HB.out.below⟩
        have q4 : decide (281474976710655 < f.arp.tm) = false := by simpa using t1
        have e := Lib.hid (show checkF f = 0 by have hk0 := HK.out; rw [EE.out, if_neg (by omega), if_neg (by omega), if_neg (by omega)])
        clear o1 s1 t1
        go_wp2_with fail
        go_ret
        exact ⟨by rw [e.out]; rfl, HB.out.below⟩
  · have n1 : (f.kind != 1) = true := by simp [hk0]
    have n2 : (f.kind != 2) = false := by simp [hk0]
    have e1 : (f.kind == 1) = false := by simp [hk0]
    have e2 : (f.kind == 2) = true := by simp [hk0]
    have na := NA false (by simp; exact Decidable.byContradiction fun h => a1 ⟨by omega, h⟩)
    clear a1 a2 NA NH
    have HK := Lib.hid hk0
    clear hk0
    go_enter Try.func12, Try.ntmps12
    go_wp2_with (first
      | (go_at_call 28; refine (Multi_val f.src (by omega) (by omega) false C3.out _).mono ?_; rintro e w1 ⟨rfl, rfl⟩)
      | (go_at_call 29; refine (within_any 2 _ 1 _ [f.kind] _ (by exact held_one (by simp)) rfl (by omega)).mono ?_; rintro e w1 ⟨rfl, hb1⟩; rw [C4.out]; obtain ⟨x, rfl⟩ := Ext.of_below hb1; clear hb1))
    go_cut [3, 4] (fun s3 s4 wx => ∃ g1 g2, s3 = .pointer (some ⟨g1, 0, none⟩) ∧ s4 = .pointer (some ⟨g2, 0, none⟩) ∧ Boxes W f wx g1 g2)
    case first =>
      go_region
      all_goals
        go_wp2_with fail
        go_meet
        refine ⟨_, _, rfl, rfl, ?_⟩
        have hbl := ((Below.refl W.heap.size W).alloc (Nat.le_refl _) (.cells f.cs 31)).alloc (by simp) (.cells #[.int .i64 f.kind] 3)
        first
          | (refine Boxes.made1 x ?_ hbl (frame_here W _ _); simp)
          | (refine Boxes.made2 x ?_ hbl (frame_here W _ _); simp)
    case rest =>
      obtain ⟨g1, g2, rfl, rfl, hB⟩ := hcut
      have hF := hB.frame
      have hA := hB.arp
      have hH := hB.ip
      have HB := Lib.hid hB
      have hck : wc.cell? ⟨W.heap.size, 2, none⟩ = some (.int .i64 f.kind) := by simp [World.cell?, hF]
      have c2 : wc.cell? ⟨g2, 2, none⟩ = some (.int .i64 f.ip.ttl) := by simp [World.cell?, hH]
      have c3 : wc.cell? ⟨g2, 3, none⟩ = some (.int .i64 f.ip.proto) := by simp [World.cell?, hH]
      have c4 : wc.cell? ⟨g2, 4, none⟩ = some (.int .i64 f.ip.sp) := by simp [World.cell?, hH]
      have c5 : wc.cell? ⟨g2, 5, none⟩ = some (.int .i64 f.ip.dp) := by simp [World.cell?, hH]
      have hgl : g2 < wc.heap.size := (Array.getElem?_eq_some_iff.1 hH).1
      clear hB hF hA hH
      by_cases r1 : (0 ≤ f.ip.ttl ∧ f.ip.ttl ≤ 255) ∧ (0 ≤ f.ip.proto ∧ f.ip.proto ≤ 255)
      case neg =>
        have W1 := Lib.hid (show [f.ip.ttl, f.ip.proto].all (fits 255) = false by simp [fits]; omega)
        have e := Lib.hid (show checkF f = 2 by have hk0 := HK.out; rw [EE.out, if_neg (by omega), if_pos ⟨hk0, by omega⟩])
        clear r1
        go_wp2_with (first | (go_at_call_of 29 (Value.int .i64 255); refine (within_any 255 _ 2 _ [f.ip.ttl, f.ip.proto] _ (by exact held_row (cs := #[_, _]) (by simp)) rfl (by omega)).mono ?_; rintro e w1 ⟨rfl, hb1⟩; rw [W1.out]; obtain ⟨x1, rfl⟩ := Ext.of_below hb1; clear hb1))
        go_ret
        exact ⟨by rw [e.out]; rfl, ext_below' (HB.out.below.alloc HB.out.below.size _) (by have := HB.out.below.size; simp; omega) x1⟩
      have W1 := Lib.hid (show [f.ip.ttl, f.ip.proto].all (fits 255) = true by simp [fits]; omega)
      by_cases r2 : (0 ≤ f.ip.sp ∧ f.ip.sp ≤ 65535) ∧ (0 ≤ f.ip.dp ∧ f.ip.dp ≤ 65535)
      case neg =>
        have W2 := Lib.hid (show [f.ip.sp, f.ip.dp].all (fits 65535) = false by simp [fits]; omega)
        have e := Lib.hid (show checkF f = 2 by have hk0 := HK.out; rw [EE.out, if_neg (by omega), if_pos ⟨hk0, by omega⟩])
        clear r1 r2
        go_wp2_with (first | (go_at_call_of 29 (Value.int .i64 255); refine (within_any 255 _ 2 _ [f.ip.ttl, f.ip.proto] _ (by exact held_row (cs := #[_, _]) (by simp)) rfl (by omega)).mono ?_; rintro e w1 ⟨rfl, hb1⟩; rw [W1.out]; obtain ⟨x1, rfl⟩ := Ext.of_below hb1; clear hb1) | (go_at_call_of 29 (Value.int .i64 65535); refine (within_any 65535 _ 2 _ [f.ip.sp, f.ip.dp] _ (by exact held_row (cs := #[_, _]) (by simp)) rfl (by omega)).mono ?_; rintro e w1 ⟨rfl, hb1⟩; rw [W2.out]; obtain ⟨x2, rfl⟩ := Ext.of_below hb1; clear hb1))
        go_ret
        exact ⟨by rw [e.out]; rfl, ext_below' ((ext_below' (HB.out.below.alloc HB.out.below.size _) (by have := HB.out.below.size; simp; omega) x1).alloc (by have := HB.out.below.size; simp; omega) _) (by have := HB.out.below.size; simp; omega) x2⟩
      have W2 := Lib.hid (show [f.ip.sp, f.ip.dp].all (fits 65535) = true by simp [fits]; omega)
      by_cases p1 : portedB f.ip.proto = true
      case pos =>
        have PT := Lib.hid p1
        have e := Lib.hid (show checkF f = 0 by have hk0 := HK.out; rw [EE.out, if_neg (by omega), if_neg (by omega), if_neg (by rw [p1]; simp)])
        clear r1 r2 p1
        go_wp2_with (first | (go_at_call_of 29 (Value.int .i64 255); refine (within_any 255 _ 2 _ [f.ip.ttl, f.ip.proto] _ (by exact held_row (cs := #[_, _]) (by simp)) rfl (by omega)).mono ?_; rintro e w1 ⟨rfl, hb1⟩; rw [W1.out]; obtain ⟨x1, rfl⟩ := Ext.of_below hb1; clear hb1) | (go_at_call_of 29 (Value.int .i64 65535); refine (within_any 65535 _ 2 _ [f.ip.sp, f.ip.dp] _ (by exact held_row (cs := #[_, _]) (by simp)) rfl (by omega)).mono ?_; rintro e w1 ⟨rfl, hb1⟩; rw [W2.out]; obtain ⟨x2, rfl⟩ := Ext.of_below hb1; clear hb1) | (go_at_call 16; refine (Ported_val f.ip.proto _ PT.out _).mono ?_; rintro e w1 ⟨rfl, rfl⟩))
        go_ret
        exact ⟨by rw [e.out]; rfl, ext_below' ((ext_below' (HB.out.below.alloc HB.out.below.size _) (by have := HB.out.below.size; simp; omega) x1).alloc (by have := HB.out.below.size; simp; omega) _) (by have := HB.out.below.size; simp; omega) x2⟩
      have PT := Lib.hid (show portedB f.ip.proto = false by simpa using p1)
      have hor := i64_or_zero f.ip.sp.toNat f.ip.dp.toNat (by omega) (by omega)
      rw [Int.toNat_of_nonneg r2.1.1, Int.toNat_of_nonneg r2.2.1] at hor
      by_cases z : f.ip.sp = 0 ∧ f.ip.dp = 0
      case neg =>
        have hz : (bits BinOp.or IntKind.i64 f.ip.sp f.ip.dp != 0) = true := by rw [hor]; simp; omega
        have e := Lib.hid (show checkF f = 3 by have hk0 := HK.out; rw [EE.out, if_neg (by omega), if_neg (by omega), if_pos ⟨hk0, PT.out, z⟩])
        clear r1 r2 p1 hor z
        go_wp2_with (first | (go_at_call_of 29 (Value.int .i64 255); refine (within_any 255 _ 2 _ [f.ip.ttl, f.ip.proto] _ (by exact held_row (cs := #[_, _]) (by simp)) rfl (by omega)).mono ?_; rintro e w1 ⟨rfl, hb1⟩; rw [W1.out]; obtain ⟨x1, rfl⟩ := Ext.of_below hb1; clear hb1) | (go_at_call_of 29 (Value.int .i64 65535); refine (within_any 65535 _ 2 _ [f.ip.sp, f.ip.dp] _ (by exact held_row (cs := #[_, _]) (by simp)) rfl (by omega)).mono ?_; rintro e w1 ⟨rfl, hb1⟩; rw [W2.out]; obtain ⟨x2, rfl⟩ := Ext.of_below hb1; clear hb1) | (go_at_call 16; refine (Ported_val f.ip.proto _ PT.out _).mono ?_; rintro e w1 ⟨rfl, rfl⟩))
        go_ret
        exact ⟨by rw [e.out]; rfl, ext_below' ((ext_below' (HB.out.below.alloc HB.out.below.size _) (by have := HB.out.below.size; simp; omega) x1).alloc (by have := HB.out.below.size; simp; omega) _) (by have := HB.out.below.size; simp; omega) x2⟩
      have hz : (bits BinOp.or IntKind.i64 f.ip.sp f.ip.dp != 0) = false := by rw [hor]; simp [z]
      have e := Lib.hid (show checkF f = 0 by have hk0 := HK.out; rw [EE.out, if_neg (by omega), if_neg (by omega), if_neg (by intro h; exact h.2.2 z)])
      clear r1 r2 p1 hor z
      go_wp2_with (first | (go_at_call_of 29 (Value.int .i64 255); refine (within_any 255 _ 2 _ [f.ip.ttl, f.ip.proto] _ (by exact held_row (cs := #[_, _]) (by simp)) rfl (by omega)).mono ?_; rintro e w1 ⟨rfl, hb1⟩; rw [W1.out]; obtain ⟨x1, rfl⟩ := Ext.of_below hb1; clear hb1) | (go_at_call_of 29 (Value.int .i64 65535); refine (within_any 65535 _ 2 _ [f.ip.sp, f.ip.dp] _ (by exact held_row (cs := #[_, _]) (by simp)) rfl (by omega)).mono ?_; rintro e w1 ⟨rfl, hb1⟩; rw [W2.out]; obtain ⟨x2, rfl⟩ := Ext.of_below hb1; clear hb1) | (go_at_call 16; refine (Ported_val f.ip.proto _ PT.out _).mono ?_; rintro e w1 ⟨rfl, rfl⟩))
      go_ret
      exact ⟨by rw [e.out]; rfl, ext_below' ((ext_below' (HB.out.below.alloc HB.out.below.size _) (by have := HB.out.below.size; simp; omega) x1).alloc (by have := HB.out.below.size; simp; omega) _) (by have := HB.out.below.size; simp; omega) x2⟩
set_option maxRecDepth 100000 in
set_option maxHeartbeats 4000000 in
theorem Check_any (f : Fr) (h : f.ok) (W : World) : Calls Try.prog 12 #[.agg f.cs] W fun e w' => e = .returned (.int .i64 (checkF f)) ∧ Below W.heap.size W w' := by
  have hs0 := h.src.1
  have hs1 := h.src.2
  have OK := Lib.hid h
  clear h
  by_cases c1 : 281474976710655 < f.src
  · have e := Lib.hid (show checkF f = 2 from if_pos (.inl c1))
    have d1 : decide (281474976710655 < f.src) = true := by simpa using c1
    go_enter Try.func12, Try.ntmps12
    go_wp2_with fail
    go_ret
    exact ⟨by rw [e.out]; rfl, (Below.refl _ _).alloc (Nat.le_refl _) _⟩
  have d1 : decide (281474976710655 < f.src) = false := by simpa using c1
  by_cases c2 : 281474976710655 < f.dst
  · have e := Lib.hid (show checkF f = 2 from if_pos (.inr c2))
    have d2 : decide (281474976710655 < f.dst) = true := by simpa using c2
    go_enter Try.func12, Try.ntmps12
    go_wp2_with fail
    go_ret
    exact ⟨by rw [e.out]; rfl, (Below.refl _ _).alloc (Nat.le_refl _) _⟩
  have d2 : decide (281474976710655 < f.dst) = false := by simpa using c2
  have c12 : ¬(281474976710655 < f.src ∨ 281474976710655 < f.dst) := by omega
  by_cases c3 : groupB f.src = true
  · have e := Lib.hid (show checkF f = 3 by unfold checkF; rw [if_neg c12, if_pos c3])
    have C3 := Lib.hid c3
    clear c3
    go_enter Try.func12, Try.ntmps12
    go_wp2_with (go_at_call 28; refine (Multi_val f.src (by omega) (by omega) true C3.out _).mono ?_; rintro e w1 ⟨rfl, rfl⟩)
    go_ret
    exact ⟨by rw [e.out]; rfl, (Below.refl _ _).alloc (Nat.le_refl _) _⟩
  by_cases c4 : 0 ≤ f.kind ∧ f.kind ≤ 2
  · exact check_form f OK.out W (by omega) (by omega) (by simpa using c3) c4
  · have e := Lib.hid (show checkF f = 6 by unfold checkF; rw [if_neg c12, if_neg c3, if_pos c4])
    have C3 := Lib.hid (show groupB f.src = false by simpa using c3)
    have C4 := Lib.hid (show [f.kind].all (fits 2) = false by simp [fits]; omega)
    clear c3 c4
    go_enter Try.func12, Try.ntmps12
    go_wp2_with (first
      | (go_at_call 28; refine (Multi_val f.src (by omega) (by omega) false C3.out _).mono ?_; rintro e w1 ⟨rfl, rfl⟩)
      | (go_at_call 29; refine (within_any 2 _ 1 _ [f.kind] _ (by exact held_one (by simp)) rfl (by omega)).mono ?_; rintro e w1 ⟨rfl, hb1⟩; rw [C4.out]; have HB := Lib.hid hb1; clear hb1))
    go_ret
    exact ⟨by rw [e.out]; rfl, (((Below.refl _ _).alloc (Nat.le_refl _) _).alloc (by simp) _).trans (HB.out.mono (by simp; omega))⟩
end Go.Proofs.Ytkplhmmajafflaa
