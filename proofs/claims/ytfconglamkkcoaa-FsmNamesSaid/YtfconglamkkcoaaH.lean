import Derived.Test.YtfconglamkkcoaaG
/- The session at work: an event in a later phase. -/
namespace Go.Proofs.Ytfconglamkkcoaa
open Go.RowKit
set_option linter.unusedSimpArgs false
set_option linter.unusedVariables false

def lateS (s : Ses) (now : Int) (e : EvV) : Ses × List Acn :=
  if e.kind = 2 then (stopS s now, failL s 6 2 5)
  else if e.kind = 4 then (leaveS s now, leaveL s 1)
  else if e.kind = 7 then tickS s now
  else if e.kind = 6 then (leaveS s now, failL s e.m.code e.m.sub 4)
  else if e.kind = 5 then messageS s now e.m
  else (s, [])
set_option maxRecDepth 100000 in
set_option maxHeartbeats 4000000 in
theorem late_any (base g : Nat) (W : World) (s : Ses) (now : Int) (l : List Acn) (v : Sl) (e : EvV) (h : RunAt 78 base g W s now l v) (hl : l.length < 600) (hbase : base ≤ W.heap.size) (hnd : e.kind = 5 → ¬ (s.phase = 4 ∧ (e.m.kind = 2 ∨ e.m.kind = 5))) :
    Calls Try.prog 49 #[.pointer (some ⟨g, 0, none⟩), .agg e.cs] W fun r w' => r = .returned (.tuple #[]) ∧ Ran 78 base g (lateS s now e).1 now (l ++ (lateS s now e).2) v W w' := by
  have hbW : Below W.heap.size W (W.alloc (.cells e.cs 49)) := (Below.refl _ _).alloc (Nat.le_refl _) _
  have hE : (W.alloc (.cells e.cs 49)).heap[W.heap.size]? = some (.cells e.cs 49 (0, 0)) := heap_here rfl
  have hA := h.below hbW
  have hgb : W.heap.size ≠ g := by have := h.lt; omega
  have HB := Lib.hid hbW
  have hb1 : base ≤ (W.alloc (.cells e.cs 49)).heap.size := Nat.le_trans hbase hbW.size
  obtain ⟨wA, hwA⟩ : ∃ wA, W.alloc (.cells e.cs 49) = wA := ⟨_, rfl⟩
  have HWA := Lib.hid hwA
  rw [hwA] at hA hE HB hb1
  obtain ⟨La, hLa⟩ : ∃ La, (lateS s now e).2 = La := ⟨_, rfl⟩
  obtain ⟨Sa, hSa⟩ : ∃ Sa, (lateS s now e).1 = Sa := ⟨_, rfl⟩
  rw [hLa, hSa]
  have HL := Lib.hid hLa
  have HS := Lib.hid hSa
  have HA := Lib.hid hA
  have HE := Lib.hid hE
  have HGB := Lib.hid hgb
  have HB1 := Lib.hid hb1
  have HOK := Lib.hid h.ok
  have HND := Lib.hid hnd
  have H0 := Lib.hid (show Rn 78 base g s now l v v W wA from ⟨hA, fun k hk => .inl hk, Only.of_below HB.out _⟩)
  have OKS := Lib.hid (h.ok.stop now)
  clear h hA hE hgb hwA hbW hb1 hLa hSa hnd
  by_cases k2 : e.kind = 2
  · have q2 : (e.kind == 2) = true := by simpa using k2
    have hS : lateS s now e = ((stopS s now, failL s 6 2 5) : Ses × List Acn) := if_pos k2
    have HL2 := Lib.hid (show ((stopS s now, failL s 6 2 5) : Ses × List Acn).2 = La by rw [← hS]; exact HL.out)
    have HS2 := Lib.hid (show ((stopS s now, failL s 6 2 5) : Ses × List Acn).1 = Sa by rw [← hS]; exact HS.out)
    clear hS HL HS
    clear k2
    go_enter Try.func49, Try.ntmps49
    go_upto_region 1 with fail
    rw [HWA.out]
    obtain ⟨b1, hb1⟩ : ∃ b1, W.heap.size = b1 := ⟨_, rfl⟩
    have hE := HE.out
    have hgb := HGB.out
    rw [hb1] at hE hgb ⊢
    have hbl : b1 < wA.heap.size := (Array.getElem?_eq_some_iff.1 hE).1
    have he0 : wA.cell? ⟨b1, 0, none⟩ = some (.int .i64 e.kind) := by simp [World.cell?, hE]
    have he7 : wA.cell? ⟨b1, 7, none⟩ = some (.int .i64 e.m.code) := by simp [World.cell?, hE]
    have he8 : wA.cell? ⟨b1, 8, none⟩ = some (.int .i64 e.m.sub) := by simp [World.cell?, hE]
    have heM : wA.row? b1 1 25 = some e.m.cs := by unfold World.row?; rw [hE]; exact EvV.sub_m e
    clear hE hb1
    go_wp2_with (go_at_call 62; refine (fail_any base g _ s now l v 6 2 5 HA.out (by omega) HB1.out).mono ?_; rintro r w3 ⟨rfl, hr3⟩; have hl2 := HL2.out; simp only at hl2; rw [hl2] at hr3; refine Hid.out ?_)
    refine Lib.hid ?_
    obtain ⟨v3, hr3⟩ := hr3
    obtain ⟨w4, rfl, hlt4⟩ := hr3.at'.pin
    have HR := Lib.hid hr3
    clear hr3 hl2
    go_wp2_with fail
    go_returns
    refine ⟨rfl, ?_⟩
    have h5 := Ran.of_pin (s' := stopS s now) (w1 := w4) HR.out.at' (by decide) (Below.refl _ _) OKS.out
    have hs2 := HS2.out
    try simp only at hs2
    rw [hs2] at h5
    have := (H0.out.trans HR.out).then h5
    rw [← hs2] at this ⊢
    exact this
  have q2 : (e.kind == 2) = false := by simpa using k2
  by_cases k4 : e.kind = 4
  · have q4 : (e.kind == 4) = true := by simpa using k4
    have hS : lateS s now e = ((leaveS s now, leaveL s 1) : Ses × List Acn) := by unfold lateS; rw [if_neg k2, if_pos k4]
    have HL2 := Lib.hid (show ((leaveS s now, leaveL s 1) : Ses × List Acn).2 = La by rw [← hS]; exact HL.out)
    have HS2 := Lib.hid (show ((leaveS s now, leaveL s 1) : Ses × List Acn).1 = Sa by rw [← hS]; exact HS.out)
    clear hS HL HS
    clear k2 k4
    go_enter Try.func49, Try.ntmps49
    go_upto_region 1 with fail
    rw [HWA.out]
    obtain ⟨b1, hb1⟩ : ∃ b1, W.heap.size = b1 := ⟨_, rfl⟩
    have hE := HE.out
    have hgb := HGB.out
    rw [hb1] at hE hgb ⊢
    have hbl : b1 < wA.heap.size := (Array.getElem?_eq_some_iff.1 hE).1
    have he0 : wA.cell? ⟨b1, 0, none⟩ = some (.int .i64 e.kind) := by simp [World.cell?, hE]
    have he7 : wA.cell? ⟨b1, 7, none⟩ = some (.int .i64 e.m.code) := by simp [World.cell?, hE]
    have he8 : wA.cell? ⟨b1, 8, none⟩ = some (.int .i64 e.m.sub) := by simp [World.cell?, hE]
    have heM : wA.row? b1 1 25 = some e.m.cs := by unfold World.row?; rw [hE]; exact EvV.sub_m e
    clear hE hb1
    go_wp2_with (go_at_call 60; refine (leave_any base g _ s now l v 1 HA.out (by omega) HB1.out).mono ?_; rintro r w3 ⟨rfl, hr⟩; have hl2 := HL2.out; have hs2 := HS2.out; simp only at hl2 hs2; rw [hl2, hs2] at hr; have HR := Lib.hid hr; clear hr hl2 hs2)
    go_returns
    exact ⟨rfl, H0.out.then HR.out⟩
  have q4 : (e.kind == 4) = false := by simpa using k4
  by_cases k7 : e.kind = 7
  · have q7 : (e.kind == 7) = true := by simpa using k7
    have hS : lateS s now e = (tickS s now) := by unfold lateS; rw [if_neg k2, if_neg k4, if_pos k7]
    have HL2 := Lib.hid (show (tickS s now).2 = La by rw [← hS]; exact HL.out)
    have HS2 := Lib.hid (show (tickS s now).1 = Sa by rw [← hS]; exact HS.out)
    clear hS HL HS
    clear k2 k4 k7
    go_enter Try.func49, Try.ntmps49
    go_upto_region 1 with fail
    rw [HWA.out]
    obtain ⟨b1, hb1⟩ : ∃ b1, W.heap.size = b1 := ⟨_, rfl⟩
    have hE := HE.out
    have hgb := HGB.out
    rw [hb1] at hE hgb ⊢
    have hbl : b1 < wA.heap.size := (Array.getElem?_eq_some_iff.1 hE).1
    have he0 : wA.cell? ⟨b1, 0, none⟩ = some (.int .i64 e.kind) := by simp [World.cell?, hE]
    have he7 : wA.cell? ⟨b1, 7, none⟩ = some (.int .i64 e.m.code) := by simp [World.cell?, hE]
    have he8 : wA.cell? ⟨b1, 8, none⟩ = some (.int .i64 e.m.sub) := by simp [World.cell?, hE]
    have heM : wA.row? b1 1 25 = some e.m.cs := by unfold World.row?; rw [hE]; exact EvV.sub_m e
    clear hE hb1
    go_wp2_with (go_at_call 63; refine (tick_any base g _ s now l v HA.out (by omega) HB1.out).mono ?_; rintro r w3 ⟨rfl, hr⟩; rw [HL2.out, HS2.out] at hr; have HR := Lib.hid hr; clear hr)
    go_returns
    exact ⟨rfl, H0.out.then HR.out⟩
  have q7 : (e.kind == 7) = false := by simpa using k7
  by_cases k6 : e.kind = 6
  · have q6 : (e.kind == 6) = true := by simpa using k6
    have hS : lateS s now e = ((leaveS s now, failL s e.m.code e.m.sub 4) : Ses × List Acn) := by unfold lateS; rw [if_neg k2, if_neg k4, if_neg k7, if_pos k6]
    have HL2 := Lib.hid (show ((leaveS s now, failL s e.m.code e.m.sub 4) : Ses × List Acn).2 = La by rw [← hS]; exact HL.out)
    have HS2 := Lib.hid (show ((leaveS s now, failL s e.m.code e.m.sub 4) : Ses × List Acn).1 = Sa by rw [← hS]; exact HS.out)
    clear hS HL HS
    clear k2 k4 k7 k6
    go_enter Try.func49, Try.ntmps49
    go_upto_region 1 with fail
    rw [HWA.out]
    obtain ⟨b1, hb1⟩ : ∃ b1, W.heap.size = b1 := ⟨_, rfl⟩
    have hE := HE.out
    have hgb := HGB.out
    rw [hb1] at hE hgb ⊢
    have hbl : b1 < wA.heap.size := (Array.getElem?_eq_some_iff.1 hE).1
    have he0 : wA.cell? ⟨b1, 0, none⟩ = some (.int .i64 e.kind) := by simp [World.cell?, hE]
    have he7 : wA.cell? ⟨b1, 7, none⟩ = some (.int .i64 e.m.code) := by simp [World.cell?, hE]
    have he8 : wA.cell? ⟨b1, 8, none⟩ = some (.int .i64 e.m.sub) := by simp [World.cell?, hE]
    have heM : wA.row? b1 1 25 = some e.m.cs := by unfold World.row?; rw [hE]; exact EvV.sub_m e
    clear hE hb1
    go_wp2_with (go_at_call 62; refine (fail_any base g _ s now l v e.m.code e.m.sub 4 HA.out (by omega) HB1.out).mono ?_; rintro r w3 ⟨rfl, hr⟩; have hl2 := HL2.out; have hs2 := HS2.out; simp only at hl2 hs2; rw [hl2, hs2] at hr; have HR := Lib.hid hr; clear hr hl2 hs2)
    go_returns
    exact ⟨rfl, H0.out.then HR.out⟩
  have q6 : (e.kind == 6) = false := by simpa using k6
  by_cases k5 : e.kind = 5
  · have q5 : (e.kind == 5) = true := by simpa using k5
    have hND := HND.out k5
    have hS : lateS s now e = (messageS s now e.m) := by unfold lateS; rw [if_neg k2, if_neg k4, if_neg k7, if_neg k6, if_pos k5]
    have HL2 := Lib.hid (show (messageS s now e.m).2 = La by rw [← hS]; exact HL.out)
    have HS2 := Lib.hid (show (messageS s now e.m).1 = Sa by rw [← hS]; exact HS.out)
    clear hS HL HS
    have HN2 := Lib.hid hND
    clear k2 k4 k7 k6 k5 hND HND
    go_enter Try.func49, Try.ntmps49
    go_upto_region 1 with fail
    rw [HWA.out]
    obtain ⟨b1, hb1⟩ : ∃ b1, W.heap.size = b1 := ⟨_, rfl⟩
    have hE := HE.out
    have hgb := HGB.out
    rw [hb1] at hE hgb ⊢
    have hbl : b1 < wA.heap.size := (Array.getElem?_eq_some_iff.1 hE).1
    have he0 : wA.cell? ⟨b1, 0, none⟩ = some (.int .i64 e.kind) := by simp [World.cell?, hE]
    have he7 : wA.cell? ⟨b1, 7, none⟩ = some (.int .i64 e.m.code) := by simp [World.cell?, hE]
    have he8 : wA.cell? ⟨b1, 8, none⟩ = some (.int .i64 e.m.sub) := by simp [World.cell?, hE]
    have heM : wA.row? b1 1 25 = some e.m.cs := by unfold World.row?; rw [hE]; exact EvV.sub_m e
    clear hE hb1
    go_wp2_with (go_at_call 64; refine (message_any base g _ s now l v e.m HA.out (by omega) HB1.out HN2.out).mono ?_; rintro r w3 ⟨rfl, hr⟩; rw [HL2.out, HS2.out] at hr; have HR := Lib.hid hr; clear hr)
    go_returns
    exact ⟨rfl, H0.out.then HR.out⟩
  · have q5 : (e.kind == 5) = false := by simpa using k5
    have hS : lateS s now e = ((s, []) : Ses × List Acn) := by unfold lateS; rw [if_neg k2, if_neg k4, if_neg k7, if_neg k6, if_neg k5]
    have HL2 := Lib.hid (show ((s, []) : Ses × List Acn).2 = La by rw [← hS]; exact HL.out)
    have HS2 := Lib.hid (show ((s, []) : Ses × List Acn).1 = Sa by rw [← hS]; exact HS.out)
    clear hS HL HS
    clear k2 k4 k7 k6 k5 HND
    go_enter Try.func49, Try.ntmps49
    go_upto_region 1 with fail
    rw [HWA.out]
    obtain ⟨b1, hb1⟩ : ∃ b1, W.heap.size = b1 := ⟨_, rfl⟩
    have hE := HE.out
    have hgb := HGB.out
    rw [hb1] at hE hgb ⊢
    have hbl : b1 < wA.heap.size := (Array.getElem?_eq_some_iff.1 hE).1
    have he0 : wA.cell? ⟨b1, 0, none⟩ = some (.int .i64 e.kind) := by simp [World.cell?, hE]
    have he7 : wA.cell? ⟨b1, 7, none⟩ = some (.int .i64 e.m.code) := by simp [World.cell?, hE]
    have he8 : wA.cell? ⟨b1, 8, none⟩ = some (.int .i64 e.m.sub) := by simp [World.cell?, hE]
    have heM : wA.row? b1 1 25 = some e.m.cs := by unfold World.row?; rw [hE]; exact EvV.sub_m e
    clear hE hb1
    go_wp2_with fail
    go_returns
    refine ⟨rfl, ?_⟩
    have hl2 := HL2.out
    have hs2 := HS2.out
    try simp only at hl2 hs2
    subst hl2
    subst hs2
    rw [List.append_nil]
    exact ⟨v, H0.out⟩
end Go.Proofs.Ytfconglamkkcoaa
