import Derived.Test.YtfconglamkkcoaaE
import Derived.DeepKeys
/- The session at work: an OPEN message. -/
namespace Go.Proofs.Ytfconglamkkcoaa
open Go.RowKit
set_option linter.unusedSimpArgs false
set_option linter.unusedVariables false

theorem drewN_pin (w : World) (g : Nat) (c : Array Value) (t : TypeId) (n : Nat) : (w.pin g c t).drewN n = (w.drewN n).pin g c t := rfl
def heldB (n : Int) : Bool := n == 0 || (decide (3 ≤ n) && decide (n ≤ 65535))
theorem held_any (n : Int) (w : World) : Calls Try.prog 32 #[.int .i64 n] w fun e w' => e = .returned (.bool (heldB n)) ∧ w = w' := by
  go_enter Try.func32, Try.ntmps32
  go_wp2_with fail
  all_goals
    go_ret
    refine ⟨ret_bool ?_, rfl⟩
    rw [Bool.eq_iff_iff]
    simp [heldB]
    try omega
theorem held_val (n : Int) (b : Bool) (hb : heldB n = b) (w : World) : Calls Try.prog 32 #[.int .i64 n] w fun e w' => e = .returned (.bool b) ∧ w = w' := by
  subst hb; exact held_any n w
def openedS (s : Ses) (now : Int) (o : OpenV) : Ses := aliveS (heardS { s with o := o, hold := if o.hold < s.c.hold then o.hold else s.c.hold, phase := 3 } now) now
def openS (s : Ses) (now : Int) (o : OpenV) : Ses × List Acn :=
  if o.as ≠ s.c.as then (leaveS s now, failL s 2 2 4)
  else if o.id ≠ s.c.peer then (leaveS s now, failL s 2 3 4)
  else if heldB o.hold = false then (leaveS s now, failL s 2 6 4)
  else (openedS s now o, [⟨1, aliveM, 0⟩])
theorem held_bounds {n : Int} (h : heldB n = true) : 0 ≤ n ∧ n ≤ 65535 := by simp [heldB] at h; omega
set_option maxRecDepth 100000 in
set_option maxHeartbeats 2000000 in
theorem open_any (base g : Nat) (W : World) (s : Ses) (now : Int) (l : List Acn) (v : Sl) (o : OpenV) (h : RunAt 78 base g W s now l v) (hl : l.length < 800) (hbase : base ≤ W.heap.size) :
    Calls Try.prog 68 #[.pointer (some ⟨g, 0, none⟩), .agg o.cs] W fun r w' => r = .returned (.tuple #[]) ∧ Ran 78 base g (openS s now o).1 now (l ++ (openS s now o).2) v W w' := by
  have hbW : Below W.heap.size W (W.alloc (.cells o.cs 28)) := (Below.refl _ _).alloc (Nat.le_refl _) _
  have hE : (W.alloc (.cells o.cs 28)).heap[W.heap.size]? = some (.cells o.cs 28 (0, 0)) := heap_here rfl
  have hA := h.below hbW
  have hgb : W.heap.size ≠ g := by have := h.lt; omega
  have HB := Lib.hid hbW
  have hb1 : base ≤ (W.alloc (.cells o.cs 28)).heap.size := Nat.le_trans hbase hbW.size
  obtain ⟨wA, hwA⟩ : ∃ wA, W.alloc (.cells o.cs 28) = wA := ⟨_, rfl⟩
  have HWA := Lib.hid hwA
  rw [hwA] at hA hE HB hb1
  have HF := Lib.hid (fun (code sub : Int) (w' : World) (hw : Below wA.heap.size wA w') => fail_any base g w' s now l v code sub 4 (hA.below hw) (by omega) (Nat.le_trans hb1 hw.size))
  obtain ⟨La, hLa⟩ : ∃ La, (openS s now o).2 = La := ⟨_, rfl⟩
  obtain ⟨Sa, hSa⟩ : ∃ Sa, (openS s now o).1 = Sa := ⟨_, rfl⟩
  rw [hLa, hSa]
  have HL := Lib.hid hLa
  have HS := Lib.hid hSa
  have HA := Lib.hid hA
  have HE := Lib.hid hE
  have HGB := Lib.hid hgb
  have HB1 := Lib.hid hb1
  have hn0 := h.n0
  have hn1 := h.n1
  have hc0 := h.ok.c0
  have hc1 := h.ok.c1
  have HOK := Lib.hid h.ok
  clear h hA hE hgb hwA hbW hb1 hLa hSa
  by_cases k1 : o.as = s.c.as
  case neg =>
    have q1 : (o.as != s.c.as) = true := by simpa using k1
    have hS : openS s now o = (leaveS s now, failL s 2 2 4) := if_pos k1
    have hL := HL.out
    have hT := HS.out
    rw [hS] at hL hT
    subst hL
    subst hT
    clear k1 hS
    go_enter Try.func68, Try.ntmps68
    go_upto_region 5 with fail
    rw [HWA.out]
    obtain ⟨b1, hb1⟩ : ∃ b1, W.heap.size = b1 := ⟨_, rfl⟩
    have hE := HE.out
    have hgb := HGB.out
    rw [hb1] at hE hgb ⊢
    obtain ⟨w0, rfl, hlt⟩ := HA.out.pin
    have hbl : b1 < w0.heap.size := by have := (Array.getElem?_eq_some_iff.1 hE).1; simpa using this
    have hE0 := box_pin hE hgb
    have he0 : w0.cell? ⟨b1, 0, none⟩ = some (.int .u32 o.as) := by simp [World.cell?, hE0]
    have he1 : w0.cell? ⟨b1, 1, none⟩ = some (.int .i64 o.hold) := by simp [World.cell?, hE0]
    have he2 : w0.cell? ⟨b1, 2, none⟩ = some (.int .u32 o.id) := by simp [World.cell?, hE0]
    have heo : w0.row? b1 0 5 = some o.cs := row?_whole hE0 (by simp)
    clear hE hE0 hb1
    go_quiet (fail)
    go_wp2_with (go_at_call 62; refine (HF.out 2 2 _ (by repeat (first | exact Below.refl _ _ | refine below_drewN ?_ _))).mono ?_; rintro r w3 ⟨rfl, hr3⟩; have HZ := Lib.hid hr3; clear hr3)
    go_returns
    exact ⟨rfl, Rn.then ⟨HA.out.below (by repeat (first | exact Below.refl _ _ | refine below_drewN ?_ _)), fun k hk => .inl hk, (Only.of_below HB.out _).then_below (by repeat (first | exact Below.refl _ _ | refine below_drewN ?_ _))⟩ HZ.out⟩
  have q1 : (o.as != s.c.as) = false := by simpa using k1
  by_cases k2 : o.id = s.c.peer
  case neg =>
    have q2 : (o.id != s.c.peer) = true := by simpa using k2
    have hS : openS s now o = (leaveS s now, failL s 2 3 4) := by unfold openS; rw [if_neg (by simpa using k1), if_pos k2]
    have hL := HL.out
    have hT := HS.out
    rw [hS] at hL hT
    subst hL
    subst hT
    clear k1 k2 hS
    go_enter Try.func68, Try.ntmps68
    go_upto_region 5 with fail
    rw [HWA.out]
    obtain ⟨b1, hb1⟩ : ∃ b1, W.heap.size = b1 := ⟨_, rfl⟩
    have hE := HE.out
    have hgb := HGB.out
    rw [hb1] at hE hgb ⊢
    obtain ⟨w0, rfl, hlt⟩ := HA.out.pin
    have hbl : b1 < w0.heap.size := by have := (Array.getElem?_eq_some_iff.1 hE).1; simpa using this
    have hE0 := box_pin hE hgb
    have he0 : w0.cell? ⟨b1, 0, none⟩ = some (.int .u32 o.as) := by simp [World.cell?, hE0]
    have he1 : w0.cell? ⟨b1, 1, none⟩ = some (.int .i64 o.hold) := by simp [World.cell?, hE0]
    have he2 : w0.cell? ⟨b1, 2, none⟩ = some (.int .u32 o.id) := by simp [World.cell?, hE0]
    have heo : w0.row? b1 0 5 = some o.cs := row?_whole hE0 (by simp)
    clear hE hE0 hb1
    go_quiet (fail)
    go_wp2_with fail
    go_quiet (fail)
    go_wp2_with (go_at_call 62; refine (HF.out 2 3 _ (by repeat (first | exact Below.refl _ _ | refine below_drewN ?_ _))).mono ?_; rintro r w3 ⟨rfl, hr3⟩; have HZ := Lib.hid hr3; clear hr3)
    go_returns
    exact ⟨rfl, Rn.then ⟨HA.out.below (by repeat (first | exact Below.refl _ _ | refine below_drewN ?_ _)), fun k hk => .inl hk, (Only.of_below HB.out _).then_below (by repeat (first | exact Below.refl _ _ | refine below_drewN ?_ _))⟩ HZ.out⟩
  have q2 : (o.id != s.c.peer) = false := by simpa using k2
  cases k3 : heldB o.hold with
  | false =>
    have HK := Lib.hid k3
    have hS : openS s now o = (leaveS s now, failL s 2 6 4) := by unfold openS; rw [if_neg (by simpa using k1), if_neg (by simpa using k2), if_pos k3]
    have hL := HL.out
    have hT := HS.out
    rw [hS] at hL hT
    subst hL
    subst hT
    clear k1 k2 hS k3
    go_enter Try.func68, Try.ntmps68
    go_upto_region 5 with fail
    rw [HWA.out]
    obtain ⟨b1, hb1⟩ : ∃ b1, W.heap.size = b1 := ⟨_, rfl⟩
    have hE := HE.out
    have hgb := HGB.out
    rw [hb1] at hE hgb ⊢
    obtain ⟨w0, rfl, hlt⟩ := HA.out.pin
    have hbl : b1 < w0.heap.size := by have := (Array.getElem?_eq_some_iff.1 hE).1; simpa using this
    have hE0 := box_pin hE hgb
    have he0 : w0.cell? ⟨b1, 0, none⟩ = some (.int .u32 o.as) := by simp [World.cell?, hE0]
    have he1 : w0.cell? ⟨b1, 1, none⟩ = some (.int .i64 o.hold) := by simp [World.cell?, hE0]
    have he2 : w0.cell? ⟨b1, 2, none⟩ = some (.int .u32 o.id) := by simp [World.cell?, hE0]
    have heo : w0.row? b1 0 5 = some o.cs := row?_whole hE0 (by simp)
    clear hE hE0 hb1
    go_quiet (fail)
    go_wp2_with fail
    go_quiet (fail)
    go_wp2_with (first
      | (go_at_call 32; refine (held_val o.hold _ HK.out _).mono ?_; rintro r w' ⟨rfl, rfl⟩)
      | (go_at_call 62; refine (HF.out 2 6 _ (by repeat (first | exact Below.refl _ _ | refine below_drewN ?_ _))).mono ?_; rintro r w3 ⟨rfl, hr3⟩; have HZ := Lib.hid hr3; clear hr3))
    go_returns
    exact ⟨rfl, Rn.then ⟨HA.out.below (by repeat (first | exact Below.refl _ _ | refine below_drewN ?_ _)), fun k hk => .inl hk, (Only.of_below HB.out _).then_below (by repeat (first | exact Below.refl _ _ | refine below_drewN ?_ _))⟩ HZ.out⟩
  | true =>
    have HK := Lib.hid k3
    have hS : openS s now o = (openedS s now o, [⟨1, aliveM, 0⟩]) := by unfold openS; rw [if_neg (by simpa using k1), if_neg (by simpa using k2), if_neg (by rw [k3]; decide)]
    have hL := HL.out
    have hT := HS.out
    rw [hS] at hL hT
    subst hL
    subst hT
    have hob := held_bounds k3
    have OK := Lib.hid (show Ses.ok { s with o := o, hold := if o.hold < s.c.hold then o.hold else s.c.hold, phase := 3 } from ⟨by simp only; split <;> omega, by simp only; split <;> omega, HOK.out.c0, HOK.out.c1, HOK.out.r0, HOK.out.r1, by simp, by simp⟩)
    clear k1 k2 hS k3
    go_enter Try.func68, Try.ntmps68
    go_upto_region 5 with fail
    rw [HWA.out]
    obtain ⟨b1, hb1⟩ : ∃ b1, W.heap.size = b1 := ⟨_, rfl⟩
    have hE := HE.out
    have hgb := HGB.out
    rw [hb1] at hE hgb ⊢
    obtain ⟨w0, rfl, hlt⟩ := HA.out.pin
    have hbl : b1 < w0.heap.size := by have := (Array.getElem?_eq_some_iff.1 hE).1; simpa using this
    have hE0 := box_pin hE hgb
    have he0 : w0.cell? ⟨b1, 0, none⟩ = some (.int .u32 o.as) := by simp [World.cell?, hE0]
    have he1 : w0.cell? ⟨b1, 1, none⟩ = some (.int .i64 o.hold) := by simp [World.cell?, hE0]
    have he2 : w0.cell? ⟨b1, 2, none⟩ = some (.int .u32 o.id) := by simp [World.cell?, hE0]
    have heo : w0.row? b1 0 5 = some o.cs := row?_whole hE0 (by simp)
    clear hE hE0 hb1
    go_quiet (fail)
    go_wp2_with fail
    obtain ⟨wC, hwC⟩ : ∃ wC, w0.drewN nq = wC := ⟨_, rfl⟩
    have hbC : Below w0.heap.size w0 wC := by rw [← hwC]; exact below_drewN (Below.refl _ _) _
    have heoC : wC.row? b1 0 5 = some o.cs := by rw [← hwC]; exact heo
    have heC1 : wC.cell? ⟨b1, 1, none⟩ = some (.int .i64 o.hold) := by rw [← hwC]; exact he1
    have heC2 : wC.cell? ⟨b1, 2, none⟩ = some (.int .u32 o.id) := by rw [← hwC]; exact he2
    have hltC : g < wC.heap.size := Nat.lt_of_lt_of_le hlt hbC.size
    have hblC : b1 < wC.heap.size := Nat.lt_of_lt_of_le hbl hbC.size
    (try rw [drewN_pin])
    rw [hwC]
    clear hwC he0 he1 he2 heo
    go_quiet (fail)
    go_wp2_with (go_at_call 32; refine (held_val o.hold _ HK.out _).mono ?_; rintro r w' ⟨rfl, rfl⟩)
    obtain ⟨wB, hwB⟩ : ∃ wB, wC.drewN nq = wB := ⟨_, rfl⟩
    have hbB : Below w0.heap.size w0 wB := by rw [← hwB]; exact below_drewN hbC _
    have heoB : wB.row? b1 0 5 = some o.cs := by rw [← hwB]; exact heoC
    have heB1 : wB.cell? ⟨b1, 1, none⟩ = some (.int .i64 o.hold) := by rw [← hwB]; exact heC1
    have hltB : g < wB.heap.size := Nat.lt_of_lt_of_le hlt hbB.size
    have hblB : b1 < wB.heap.size := Nat.lt_of_lt_of_le hbl hbB.size
    (try rw [drewN_pin])
    rw [hwB]
    have HBB := Lib.hid hbB
    clear hwB hbB hbC heoC heC1 heC2
    go_region
    rw [drew_pin]
    obtain ⟨mm, hmm⟩ : ∃ mm, (if o.hold < s.c.hold then o.hold else s.c.hold) = mm := ⟨_, rfl⟩
    rw [hmm] at OK ⊢
    have HOP := Lib.hid (show openedS s now o = aliveS (heardS { s with o := o, hold := mm, phase := 3 } now) now by unfold openedS; rw [hmm])
    clear hmm
    have hP := Ran.of_pin (s' := { s with o := o, hold := mm, phase := 3 }) (w1 := wB.drew) HA.out (by decide) HBB.out.drew OK.out
    obtain ⟨v2, hP⟩ := hP
    have HP := Lib.hid hP
    have hb2 : base ≤ (wB.drew.pin g (RunV.cs ⟨{ s with o := o, hold := mm, phase := 3 }, v, now⟩) 78).heap.size := Nat.le_trans HB1.out hP.only.size
    clear hP
    go_wp2_with (first
      | (go_at_call 61; refine (send_any base g _ _ now l v2 aliveM HP.out.at' (by omega) hb2).mono ?_; rintro r w4 ⟨rfl, hr⟩; obtain ⟨v4, hr⟩ := hr; have H4 := Lib.hid hr; clear hr)
      | (go_at_call 69; refine (heard_any base g _ _ now _ v4 H4.out.at').mono ?_; rintro r w5 ⟨rfl, hr⟩; obtain ⟨v5, hr⟩ := hr; have H5 := Lib.hid hr; clear hr)
      | (go_at_call 71; refine (alive_any base g _ _ now _ v5 H5.out.at').mono ?_; rintro r w6 ⟨rfl, hr⟩; obtain ⟨v6, hr⟩ := hr; have H6 := Lib.hid hr; clear hr))
    go_returns
    rw [HOP.out]
    exact ⟨rfl, v6, Rn.trans ⟨HA.out, fun k hk => .inl hk, Only.of_below HB.out _⟩ (((HP.out.trans H4.out).trans H5.out).trans H6.out)⟩
end Go.Proofs.Ytfconglamkkcoaa
