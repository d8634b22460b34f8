import Derived.Test.YtfconglamkkcoaaD
/- The session at work: an event in the phase Connect. -/
namespace Go.Proofs.Ytfconglamkkcoaa
open Go.RowKit
set_option linter.unusedSimpArgs false
set_option linter.unusedVariables false

def openM (c : Cfg) : MsgV := { zeroMsg with kind := 1, o := ⟨c.as, c.hold, c.id, c.restart, c.restarted⟩ }
def stopS (s : Ses) (now : Int) : Ses := { leaveS s now with phase := 0, retry := -1 }
def connectS (s : Ses) (now k : Int) : Ses × List Acn :=
  if k = 2 then (stopS s now, leaveL s 5)
  else if k = 3 then ({ s with phase := 2, expire := now + 30, retry := -1 }, [⟨1, openM s.c, 0⟩])
  else if k = 4 then (leaveS s now, leaveL s 1)
  else if k = 7 then (if s.retry ≠ -1 ∧ s.retry ≤ now then (laterS s now, [⟨2, zeroMsg, 0⟩]) else (s, []))
  else (s, [])
theorem Ses.ok.stop {s : Ses} (h : s.ok) (now : Int) : (stopS s now).ok := ⟨by simp [stopS, leaveS, laterS], by simp [stopS, leaveS, laterS], h.c0, h.c1, h.r0, h.r1, by simp [stopS], by simp [stopS]⟩
set_option maxRecDepth 100000 in
set_option maxHeartbeats 2000000 in
theorem connect_any (base g : Nat) (W : World) (s : Ses) (now : Int) (l : List Acn) (v : Sl) (e : EvV) (h : RunAt 78 base g W s now l v) (hl : l.length < 800) (hbase : base ≤ W.heap.size) :
    Calls Try.prog 48 #[.pointer (some ⟨g, 0, none⟩), .agg e.cs] W fun r w' => r = .returned (.tuple #[]) ∧ Ran 78 base g (connectS s now e.kind).1 now (l ++ (connectS s now e.kind).2) v W w' := by
  have hbW : Below W.heap.size W (W.alloc (.cells e.cs 49)) := (Below.refl _ _).alloc (Nat.le_refl _) _
  have hE : (W.alloc (.cells e.cs 49)).heap[W.heap.size]? = some (.cells e.cs 49 (0, 0)) := heap_here rfl
  have hA := h.below hbW
  have hgb : W.heap.size ≠ g := by have := h.lt; omega
  have HB := Lib.hid hbW
  have H := Lib.hid h
  have hn0 := h.n0
  have hn1 := h.n1
  have OKS := Lib.hid (h.ok.stop now)
  have OKO := Lib.hid (show Ses.ok { s with phase := 2, expire := now + 30, retry := -1 } from ⟨h.ok.h0, h.ok.h1, h.ok.c0, h.ok.c1, h.ok.r0, h.ok.r1, by simp, by simp⟩)
  have HQ (k : Int) (b : Bool) (hb : (e.kind == k) = b) : e.kind = k ↔ b = true := by rw [← hb]; simp
  clear HQ
  by_cases k2 : e.kind = 2
  · have hS : connectS s now e.kind = (stopS s now, leaveL s 5) := if_pos k2
    rw [hS]
    obtain ⟨La, hLa⟩ : ∃ La, leaveL s 5 = La := ⟨_, rfl⟩
    rw [hLa]
    have HLA := Lib.hid hLa
    have q2 : (e.kind == 2) = true := by simpa using k2
    clear hLa k2
    go_enter Try.func48, Try.ntmps48
    go_upto_region 1 with fail
    obtain ⟨wA, hwA⟩ : ∃ wA, W.alloc (.cells e.cs 49) = wA := ⟨_, rfl⟩
    rw [hwA] at hA hE HB ⊢
    obtain ⟨b1, hb1⟩ : ∃ b1, W.heap.size = b1 := ⟨_, rfl⟩
    rw [hb1] at hE hgb ⊢
    have HA := Lib.hid hA
    obtain ⟨w0, rfl, hlt⟩ := hA.pin
    have hE0 := box_pin hE hgb
    have hbl : b1 < w0.heap.size := by have := (Array.getElem?_eq_some_iff.1 hE).1; simpa using this
    have he0 : w0.cell? ⟨b1, 0, none⟩ = some (.int .i64 e.kind) := by simp [World.cell?, hE0]
    have he7 : w0.cell? ⟨b1, 7, none⟩ = some (.int .i64 e.m.code) := by simp [World.cell?, hE0]
    have he8 : w0.cell? ⟨b1, 8, none⟩ = some (.int .i64 e.m.sub) := by simp [World.cell?, hE0]
    have heM : w0.row? b1 1 25 = some e.m.cs := by unfold World.row?; rw [hE0]; exact EvV.sub_m e
    have hwb : base ≤ (w0.pin g (RunV.cs ⟨s, v, now⟩) 78).heap.size := Nat.le_trans hbase HB.out.size
    have H0 := Lib.hid (show Rn 78 base g s now l v v W (w0.pin g (RunV.cs ⟨s, v, now⟩) 78) from ⟨HA.out, fun k hk => .inl hk, Only.of_below HB.out _⟩)
    clear h hA hE hE0 hwA hS hbW hb1
    go_wp2_with (go_at_call 60; refine (leave_any base g _ s now l v 5 HA.out (by omega) hwb).mono ?_; rintro r w3 ⟨rfl, hr3⟩; rw [HLA.out] at hr3; refine Hid.out ?_)
    refine Lib.hid ?_
    obtain ⟨v3, hr3⟩ := hr3
    obtain ⟨w4, rfl, hlt4⟩ := hr3.at'.pin
    have HR := Lib.hid hr3
    clear hr3
    go_wp2_with fail
    go_returns
    refine ⟨rfl, ?_⟩
    have h5 := Ran.of_pin (s' := stopS s now) (w1 := w4) HR.out.at' (by decide) (Below.refl _ _) OKS.out
    exact (H0.out.trans HR.out).then h5
  by_cases k3 : e.kind = 3
  · have hS : connectS s now e.kind = ({ s with phase := 2, expire := now + 30, retry := -1 }, [⟨1, openM s.c, 0⟩]) := by unfold connectS; rw [if_neg k2, if_pos k3]
    rw [hS]
    have q2 : (e.kind == 2) = false := by simpa using k2
    have q3 : (e.kind == 3) = true := by simpa using k3
    clear k2 k3
    go_enter Try.func48, Try.ntmps48
    go_upto_region 1 with fail
    obtain ⟨wA, hwA⟩ : ∃ wA, W.alloc (.cells e.cs 49) = wA := ⟨_, rfl⟩
    rw [hwA] at hA hE HB ⊢
    obtain ⟨b1, hb1⟩ : ∃ b1, W.heap.size = b1 := ⟨_, rfl⟩
    rw [hb1] at hE hgb ⊢
    have HA := Lib.hid hA
    obtain ⟨w0, rfl, hlt⟩ := hA.pin
    have hE0 := box_pin hE hgb
    have hbl : b1 < w0.heap.size := by have := (Array.getElem?_eq_some_iff.1 hE).1; simpa using this
    have he0 : w0.cell? ⟨b1, 0, none⟩ = some (.int .i64 e.kind) := by simp [World.cell?, hE0]
    have he7 : w0.cell? ⟨b1, 7, none⟩ = some (.int .i64 e.m.code) := by simp [World.cell?, hE0]
    have he8 : w0.cell? ⟨b1, 8, none⟩ = some (.int .i64 e.m.sub) := by simp [World.cell?, hE0]
    have heM : w0.row? b1 1 25 = some e.m.cs := by unfold World.row?; rw [hE0]; exact EvV.sub_m e
    have hwb : base ≤ (w0.pin g (RunV.cs ⟨s, v, now⟩) 78).heap.size := Nat.le_trans hbase HB.out.size
    have H0 := Lib.hid (show Rn 78 base g s now l v v W (w0.pin g (RunV.cs ⟨s, v, now⟩) 78) from ⟨HA.out, fun k hk => .inl hk, Only.of_below HB.out _⟩)
    clear h hA hE hE0 hwA hS hbW hb1
    go_wp2_with (go_at_call 61; refine Hid.out ?_)
    refine Lib.hid ?_
    have hb2 : Below (w0.pin g (RunV.cs ⟨s, v, now⟩) 78).heap.size (w0.pin g (RunV.cs ⟨s, v, now⟩) 78) ((w0.pin g (RunV.cs ⟨s, v, now⟩) 78).alloc (.cells s.c.cs 26)) := (Below.refl _ _).alloc (Nat.le_refl _) _
    have HB2 := Lib.hid hb2
    refine (send_any base g _ s now l v (openM s.c) (HA.out.below hb2) (by omega) (Nat.le_trans hwb hb2.size)).mono ?_
    rintro r w3 ⟨rfl, hr3⟩
    obtain ⟨v3, hr3⟩ := hr3
    obtain ⟨w4, rfl, hlt4⟩ := hr3.at'.pin
    have HR := Lib.hid hr3
    clear hr3 hb2
    go_wp2_with fail
    go_returns
    refine ⟨rfl, ?_⟩
    have h5 := Ran.of_pin (s' := { s with phase := 2, expire := now + 30, retry := -1 }) (w1 := w4) HR.out.at' (by decide) (Below.refl _ _) OKO.out
    exact ((H0.out.below HB2.out).trans HR.out).then h5
  by_cases k4 : e.kind = 4
  · have hS : connectS s now e.kind = (leaveS s now, leaveL s 1) := by unfold connectS; rw [if_neg k2, if_neg k3, if_pos k4]
    rw [hS]
    obtain ⟨La, hLa⟩ : ∃ La, leaveL s 1 = La := ⟨_, rfl⟩
    rw [hLa]
    have HLA := Lib.hid hLa
    have q2 : (e.kind == 2) = false := by simpa using k2
    have q3 : (e.kind == 3) = false := by simpa using k3
    have q4 : (e.kind == 4) = true := by simpa using k4
    clear hLa k2 k3 k4
    go_enter Try.func48, Try.ntmps48
    go_upto_region 1 with fail
    obtain ⟨wA, hwA⟩ : ∃ wA, W.alloc (.cells e.cs 49) = wA := ⟨_, rfl⟩
    rw [hwA] at hA hE HB ⊢
    obtain ⟨b1, hb1⟩ : ∃ b1, W.heap.size = b1 := ⟨_, rfl⟩
    rw [hb1] at hE hgb ⊢
    have HA := Lib.hid hA
    obtain ⟨w0, rfl, hlt⟩ := hA.pin
    have hE0 := box_pin hE hgb
    have hbl : b1 < w0.heap.size := by have := (Array.getElem?_eq_some_iff.1 hE).1; simpa using this
    have he0 : w0.cell? ⟨b1, 0, none⟩ = some (.int .i64 e.kind) := by simp [World.cell?, hE0]
    have he7 : w0.cell? ⟨b1, 7, none⟩ = some (.int .i64 e.m.code) := by simp [World.cell?, hE0]
    have he8 : w0.cell? ⟨b1, 8, none⟩ = some (.int .i64 e.m.sub) := by simp [World.cell?, hE0]
    have heM : w0.row? b1 1 25 = some e.m.cs := by unfold World.row?; rw [hE0]; exact EvV.sub_m e
    have hwb : base ≤ (w0.pin g (RunV.cs ⟨s, v, now⟩) 78).heap.size := Nat.le_trans hbase HB.out.size
    have H0 := Lib.hid (show Rn 78 base g s now l v v W (w0.pin g (RunV.cs ⟨s, v, now⟩) 78) from ⟨HA.out, fun k hk => .inl hk, Only.of_below HB.out _⟩)
    clear h hA hE hE0 hwA hS hbW hb1
    go_wp2_with (go_at_call 60; refine (leave_any base g _ s now l v 1 HA.out (by omega) hwb).mono ?_; rintro r w3 ⟨rfl, hr3⟩; rw [HLA.out] at hr3; have HR := Lib.hid hr3; clear hr3)
    go_returns
    exact ⟨rfl, H0.out.then HR.out⟩
  have q2 : (e.kind == 2) = false := by simpa using k2
  have q3 : (e.kind == 3) = false := by simpa using k3
  have q4 : (e.kind == 4) = false := by simpa using k4
  by_cases k7 : e.kind = 7
  · have q7 : (e.kind == 7) = true := by simpa using k7
    by_cases h1 : s.retry ≠ -1 ∧ s.retry ≤ now
    · have hS : connectS s now e.kind = (laterS s now, [⟨2, zeroMsg, 0⟩]) := by unfold connectS; rw [if_neg k2, if_neg k3, if_neg k4, if_pos k7, if_pos h1]
      rw [hS]
      have hq1 : (s.retry != -1) = true := by simpa using h1.1
      have hq2 : decide (s.retry ≤ now) = true := by simpa using h1.2
      clear k2 k3 k4 k7 h1
      go_enter Try.func48, Try.ntmps48
      go_upto_region 1 with fail
      obtain ⟨wA, hwA⟩ : ∃ wA, W.alloc (.cells e.cs 49) = wA := ⟨_, rfl⟩
      rw [hwA] at hA hE HB ⊢
      obtain ⟨b1, hb1⟩ : ∃ b1, W.heap.size = b1 := ⟨_, rfl⟩
      rw [hb1] at hE hgb ⊢
      have HA := Lib.hid hA
      obtain ⟨w0, rfl, hlt⟩ := hA.pin
      have hE0 := box_pin hE hgb
      have hbl : b1 < w0.heap.size := by have := (Array.getElem?_eq_some_iff.1 hE).1; simpa using this
      have he0 : w0.cell? ⟨b1, 0, none⟩ = some (.int .i64 e.kind) := by simp [World.cell?, hE0]
      have he7 : w0.cell? ⟨b1, 7, none⟩ = some (.int .i64 e.m.code) := by simp [World.cell?, hE0]
      have he8 : w0.cell? ⟨b1, 8, none⟩ = some (.int .i64 e.m.sub) := by simp [World.cell?, hE0]
      have heM : w0.row? b1 1 25 = some e.m.cs := by unfold World.row?; rw [hE0]; exact EvV.sub_m e
      have hwb : base ≤ (w0.pin g (RunV.cs ⟨s, v, now⟩) 78).heap.size := Nat.le_trans hbase HB.out.size
      have H0 := Lib.hid (show Rn 78 base g s now l v v W (w0.pin g (RunV.cs ⟨s, v, now⟩) 78) from ⟨HA.out, fun k hk => .inl hk, Only.of_below HB.out _⟩)
      clear h hA hE hE0 hwA hS hbW hb1
      go_wp2_with fail
      go_quiet (fail)
      have hb3 : Below (w0.pin g (RunV.cs ⟨s, v, now⟩) 78).heap.size (w0.pin g (RunV.cs ⟨s, v, now⟩) 78) ((w0.pin g (RunV.cs ⟨s, v, now⟩) 78).drewN nq) := below_drewN (Below.refl _ _) _
      have HB3 := Lib.hid hb3
      clear hb3
      go_wp2_with (first
        | (go_at_call 58; refine (do_any base g _ s now l v ⟨2, zeroMsg, 0⟩ (HA.out.below HB3.out) (by omega) (Nat.le_trans hwb HB3.out.size)).mono ?_; rintro r w3 ⟨rfl, hr3⟩; obtain ⟨v3, hr3⟩ := hr3; have HR := Lib.hid hr3; clear hr3)
        | (go_at_call 59; refine (later_any base g _ s now _ v3 HR.out.at').mono ?_; rintro r w4 ⟨rfl, hr4⟩; have HZ := Lib.hid hr4; clear hr4))
      go_returns
      exact ⟨rfl, ((H0.out.below HB3.out).trans HR.out).then HZ.out⟩
    · have hS : connectS s now e.kind = (s, []) := by unfold connectS; rw [if_neg k2, if_neg k3, if_neg k4, if_pos k7, if_neg h1]
      rw [hS, List.append_nil]
      have H1 : (s.retry != -1) = false ∨ ((s.retry != -1) = true ∧ decide (s.retry ≤ now) = false) := by
        by_cases he : s.retry = -1
        · left; simp [he]
        · right; refine ⟨by simpa using he, ?_⟩; have := fun h => h1 ⟨he, h⟩; simpa using this
      clear k2 k3 k4 k7 h1
      rcases H1 with hq5 | ⟨hq5, hq6⟩
      all_goals
        go_enter Try.func48, Try.ntmps48
        go_upto_region 1 with fail
        obtain ⟨wA, hwA⟩ : ∃ wA, W.alloc (.cells e.cs 49) = wA := ⟨_, rfl⟩
        rw [hwA] at hA hE HB ⊢
        obtain ⟨b1, hb1⟩ : ∃ b1, W.heap.size = b1 := ⟨_, rfl⟩
        rw [hb1] at hE hgb ⊢
        have HA := Lib.hid hA
        obtain ⟨w0, rfl, hlt⟩ := hA.pin
        have hE0 := box_pin hE hgb
        have hbl : b1 < w0.heap.size := by have := (Array.getElem?_eq_some_iff.1 hE).1; simpa using this
        have he0 : w0.cell? ⟨b1, 0, none⟩ = some (.int .i64 e.kind) := by simp [World.cell?, hE0]
        have he7 : w0.cell? ⟨b1, 7, none⟩ = some (.int .i64 e.m.code) := by simp [World.cell?, hE0]
        have he8 : w0.cell? ⟨b1, 8, none⟩ = some (.int .i64 e.m.sub) := by simp [World.cell?, hE0]
        have heM : w0.row? b1 1 25 = some e.m.cs := by unfold World.row?; rw [hE0]; exact EvV.sub_m e
        have hwb : base ≤ (w0.pin g (RunV.cs ⟨s, v, now⟩) 78).heap.size := Nat.le_trans hbase HB.out.size
        have H0 := Lib.hid (show Rn 78 base g s now l v v W (w0.pin g (RunV.cs ⟨s, v, now⟩) 78) from ⟨HA.out, fun k hk => .inl hk, Only.of_below HB.out _⟩)
        clear h hA hE hE0 hwA hS hbW hb1
        go_wp2_with fail
        go_quiet (fail)
        go_wp2_with fail
        go_returns
        exact ⟨rfl, _, H0.out.below (below_drewN (Below.refl _ _) _)⟩
  · have q7 : (e.kind == 7) = false := by simpa using k7
    have hS : connectS s now e.kind = (s, []) := by unfold connectS; rw [if_neg k2, if_neg k3, if_neg k4, if_neg k7]
    rw [hS, List.append_nil]
    clear h hS hE k2 k3 k4 k7 hA
    go_enter Try.func48, Try.ntmps48
    go_wp2_with fail
    go_returns
    exact ⟨rfl, Ran.later H.out HB.out⟩
end Go.Proofs.Ytfconglamkkcoaa

