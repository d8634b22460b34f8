import Derived.Test.YtfconglamkkcoaaF
import Derived.ChangeKeysEq
/- The session at work: a message that is not delivered. -/
namespace Go.Proofs.Ytfconglamkkcoaa
open Go.RowKit
set_option linter.unusedSimpArgs false
set_option linter.unusedVariables false

theorem info3 : ∃ i, Try.prog.info? 3 = some i := by
  cases h : Try.prog.info? 3 with
  | none => exact absurd h (by have : (Try.prog.info? 3).isSome = true := by kernel_rfl
                               intro e; rw [e] at this; cases this)
  | some i => exact ⟨i, rfl⟩
theorem eq121' (W : World) (a b c d : Int) : (Op.equal 121 (.agg #[.int .i64 a, .int .i64 b]) (.agg #[.int .i64 c, .int .i64 d])).run Try.prog W = .ok (a == c && b == d) W := by
  obtain ⟨i, hi⟩ := info3
  have hc : Try.prog.cellsOf 3 = 1 := by kernel_rfl
  have hp : Try.prog.plainKey 3 = true := by kernel_rfl
  have hpt : ∀ (xs : Array Value) (k : Nat) (x : Value), xs[k]? = some x → (part 3 xs k).run Try.prog W = .ok x W := fun xs k x h => run_part_plain W hp h
  have hu := Try.underlying3
  show (Op.equalIn (9999 + 1) 121 _ _).run Try.prog W = _
  rw [run_equalIn_array W 9999 _ _ Try.underlying121 hi, hc]
  rw [show List.range 2 = [0, 1] from rfl]
  simp only [Op.eqItems, Sem.run_bind, Nat.zero_mul, Nat.one_mul]
  rw [hpt _ 0 (.int .i64 a) rfl, Result.andThen_ok, hpt _ 0 (.int .i64 c) rfl, Result.andThen_ok, run_equalIn_int W 9998 3 .i64 .i64 a c hu, Result.andThen_ok]
  cases h1 : a == c
  · simp
  · simp only [Bool.not_true, Bool.false_eq_true, if_false, Sem.run_bind]
    rw [hpt _ 1 (.int .i64 b) rfl, Result.andThen_ok, hpt _ 1 (.int .i64 d) rfl, Result.andThen_ok, run_equalIn_int W 9998 3 .i64 .i64 b d hu, Result.andThen_ok]
    cases h2 : b == d <;> simp
@[go_sem ↓] theorem eq121 (W : World) (a b c d : Int) : (binOp .eql 121 (.agg #[.int .i64 a, .int .i64 b]) (.agg #[.int .i64 c, .int .i64 d])).run Try.prog W = .ok (.bool (a == c && b == d)) W := by
  simp only [binOp, Sem.run_bind, eq121', Result.andThen_ok, Sem.run_pure]
def upM (o : OpenV) : MsgV := { zeroMsg with kind := 1, o := o }
def messageS (s : Ses) (now : Int) (m : MsgV) : Ses × List Acn :=
  if m.kind = 3 then (leaveS s now, [⟨3, zeroMsg, 0⟩] ++ leaveL s 3)
  else if s.phase = 2 ∧ m.kind = 1 then openS s now m.o
  else if s.phase = 3 ∧ m.kind = 4 then (heardS { s with phase := 4 } now, [⟨4, upM s.o, 0⟩])
  else if s.phase = 4 ∧ m.kind = 4 then (heardS s now, [])
  else if s.phase = 4 ∧ (m.kind = 2 ∨ m.kind = 5) then (heardS s now, [⟨6, m, 0⟩])
  else (leaveS s now, failL s 5 (s.phase - 1) 4)
set_option maxRecDepth 100000 in
set_option maxHeartbeats 4000000 in
theorem message_any (base g : Nat) (W : World) (s : Ses) (now : Int) (l : List Acn) (v : Sl) (m : MsgV) (h : RunAt 78 base g W s now l v) (hl : l.length < 700) (hbase : base ≤ W.heap.size) (hnd : ¬ (s.phase = 4 ∧ (m.kind = 2 ∨ m.kind = 5))) :
    Calls Try.prog 64 #[.pointer (some ⟨g, 0, none⟩), .agg m.cs] W fun r w' => r = .returned (.tuple #[]) ∧ Ran 78 base g (messageS s now m).1 now (l ++ (messageS s now m).2) v W w' := by
  have hbW : Below W.heap.size W (W.alloc (.cells m.cs 47)) := (Below.refl _ _).alloc (Nat.le_refl _) _
  have hE : (W.alloc (.cells m.cs 47)).heap[W.heap.size]? = some (.cells m.cs 47 (0, 0)) := heap_here rfl
  have hA := h.below hbW
  have hgb : W.heap.size ≠ g := by have := h.lt; omega
  have HB := Lib.hid hbW
  have hb1 : base ≤ (W.alloc (.cells m.cs 47)).heap.size := Nat.le_trans hbase hbW.size
  obtain ⟨wA, hwA⟩ : ∃ wA, W.alloc (.cells m.cs 47) = wA := ⟨_, rfl⟩
  have HWA := Lib.hid hwA
  rw [hwA] at hA hE HB hb1
  obtain ⟨La, hLa⟩ : ∃ La, (messageS s now m).2 = La := ⟨_, rfl⟩
  obtain ⟨Sa, hSa⟩ : ∃ Sa, (messageS s now m).1 = Sa := ⟨_, rfl⟩
  rw [hLa, hSa]
  have HL := Lib.hid hLa
  have HS := Lib.hid hSa
  have HA := Lib.hid hA
  have HE := Lib.hid hE
  have HGB := Lib.hid hgb
  have HB1 := Lib.hid hb1
  have hp0 := h.ok.p0
  have hp1 := h.ok.p1
  have HOK := Lib.hid h.ok
  have HND := Lib.hid hnd
  clear h hA hE hgb hwA hbW hb1 hLa hSa hnd
  by_cases k3 : m.kind = 3
  · have q3 : (m.kind == 3) = true := by simpa using k3
    have hS : messageS s now m = (leaveS s now, [⟨3, zeroMsg, 0⟩] ++ leaveL s 3) := if_pos k3
    have hL := HL.out
    have hT := HS.out
    rw [hS] at hL hT
    subst hL
    subst hT
    clear hS
    clear k3
    go_enter Try.func64, Try.ntmps64
    go_upto_region 1 with fail
    rw [HWA.out]
    obtain ⟨b1, hb1⟩ : ∃ b1, W.heap.size = b1 := ⟨_, rfl⟩
    have hE := HE.out
    have hgb := HGB.out
    rw [hb1] at hE hgb ⊢
    obtain ⟨w0, rfl, hlt⟩ := HA.out.pin
    have hbl : b1 < w0.heap.size := by have := (Array.getElem?_eq_some_iff.1 hE).1; simpa using this
    have hE0 := box_pin hE hgb
    have he0 : w0.cell? ⟨b1, 0, none⟩ = some (.int .i64 m.kind) := by simp [World.cell?, hE0]
    have heo : w0.row? b1 1 5 = some m.o.cs := by unfold World.row?; rw [hE0]; exact MsgV.sub_o m
    have H0 := Lib.hid (show Rn 78 base g s now l v v W (w0.pin g (RunV.cs ⟨s, v, now⟩) 78) from ⟨HA.out, fun k hk => .inl hk, Only.of_below HB.out _⟩)
    clear hE hE0 hb1
    obtain ⟨Lb, hLb⟩ : ∃ Lb, leaveL s 3 = Lb := ⟨_, rfl⟩
    have HLB := Lib.hid hLb
    clear hLb
    go_wp2_with (first
      | (go_at_call 58; refine (do_any base g _ s now l v ⟨3, zeroMsg, 0⟩ HA.out (by omega) HB1.out).mono ?_; rintro r w3 ⟨rfl, hr⟩; obtain ⟨v3, hr⟩ := hr; have H3 := Lib.hid hr; clear hr; have hb3 : base ≤ w3.heap.size := Nat.le_trans HB1.out H3.out.only.size)
      | (go_at_call 60; refine (leave_any base g _ s now _ v3 3 H3.out.at' (by simp; omega) hb3).mono ?_; rintro r w4 ⟨rfl, hr⟩; rw [HLB.out] at hr; obtain ⟨v4, hr⟩ := hr; have H4 := Lib.hid hr; clear hr))
    go_returns
    rw [HLB.out]
    refine ⟨rfl, v4, ?_⟩
    have := (H0.out.trans H3.out).trans H4.out
    simpa using this
  have q3 : (m.kind == 3) = false := by simpa using k3
  by_cases c1 : s.phase = 2 ∧ m.kind = 1
  · have q1 : (s.phase == 2) = true := by simpa using c1.1
    have q2 : (m.kind == 1) = true := by simpa using c1.2
    have hpe := c1.1
    have hke := c1.2
    have hS : messageS s now m = openS s now m.o := by unfold messageS; rw [if_neg k3, if_pos c1]
    have HL2 := Lib.hid (show (openS s now m.o).2 = La by rw [← hS]; exact HL.out)
    have HS2 := Lib.hid (show (openS s now m.o).1 = Sa by rw [← hS]; exact HS.out)
    clear hS c1 k3 hpe hke
    go_enter Try.func64, Try.ntmps64
    go_upto_region 1 with fail
    rw [HWA.out]
    obtain ⟨b1, hb1⟩ : ∃ b1, W.heap.size = b1 := ⟨_, rfl⟩
    have hE := HE.out
    have hgb := HGB.out
    rw [hb1] at hE hgb ⊢
    obtain ⟨w0, rfl, hlt⟩ := HA.out.pin
    have hbl : b1 < w0.heap.size := by have := (Array.getElem?_eq_some_iff.1 hE).1; simpa using this
    have hE0 := box_pin hE hgb
    have he0 : w0.cell? ⟨b1, 0, none⟩ = some (.int .i64 m.kind) := by simp [World.cell?, hE0]
    have heo : w0.row? b1 1 5 = some m.o.cs := by unfold World.row?; rw [hE0]; exact MsgV.sub_o m
    have H0 := Lib.hid (show Rn 78 base g s now l v v W (w0.pin g (RunV.cs ⟨s, v, now⟩) 78) from ⟨HA.out, fun k hk => .inl hk, Only.of_below HB.out _⟩)
    clear hE hE0 hb1
    go_wp2_with fail
    go_quiet (fail)
    have hb3 : Below (w0.pin g (RunV.cs ⟨s, v, now⟩) 78).heap.size (w0.pin g (RunV.cs ⟨s, v, now⟩) 78) ((w0.drewN nq).pin g (RunV.cs ⟨s, v, now⟩) 78) := below_drewN (Below.refl _ _) nq
    obtain ⟨wB, hwB⟩ : ∃ wB, w0.drewN nq = wB := ⟨_, rfl⟩
    have heB : wB.row? b1 1 5 = some m.o.cs := by rw [← hwB]; exact heo
    have heB0 : wB.cell? ⟨b1, 0, none⟩ = some (.int .i64 m.kind) := by rw [← hwB]; exact he0
    have hltB : g < wB.heap.size := by rw [← hwB]; exact hlt
    have hblB : b1 < wB.heap.size := by rw [← hwB]; exact hbl
    rw [hwB] at hb3
    (try rw [drewN_pin])
    rw [hwB]
    have H1 := Lib.hid (H0.out.below hb3)
    have hbB : base ≤ (wB.pin g (RunV.cs ⟨s, v, now⟩) 78).heap.size := Nat.le_trans HB1.out hb3.size
    have HBB := Lib.hid hbB
    clear hwB hb3 he0 heo hbB
    go_wp2_with (go_at_call 68; refine (open_any base g _ s now l v m.o H1.out.at' (by omega) HBB.out).mono ?_; rintro r w3 ⟨rfl, hr⟩; rw [HL2.out, HS2.out] at hr; have HZ := Lib.hid hr; clear hr)
    go_returns
    exact ⟨rfl, H1.out.then HZ.out⟩
  have hq1 : (s.phase == 2 && m.kind == 1) = false := by
    have : ¬ (s.phase = 2 ∧ m.kind = 1) := c1
    simpa using this
  by_cases c2 : s.phase = 3 ∧ m.kind = 4
  · have q1 : (s.phase == 3) = true := by simpa using c2.1
    have q2 : (m.kind == 4) = true := by simpa using c2.2
    have hS : messageS s now m = (heardS { s with phase := 4 } now, [⟨4, upM s.o, 0⟩]) := by unfold messageS; rw [if_neg k3, if_neg c1, if_pos c2]
    have hL := HL.out
    have hT := HS.out
    rw [hS] at hL hT
    subst hL
    subst hT
    clear hS
    have OK := Lib.hid (show Ses.ok { s with phase := 4 } from ⟨HOK.out.h0, HOK.out.h1, HOK.out.c0, HOK.out.c1, HOK.out.r0, HOK.out.r1, by simp, by simp⟩)
    clear c1 c2 k3
    go_enter Try.func64, Try.ntmps64
    go_upto_region 1 with fail
    rw [HWA.out]
    obtain ⟨b1, hb1⟩ : ∃ b1, W.heap.size = b1 := ⟨_, rfl⟩
    have hE := HE.out
    have hgb := HGB.out
    rw [hb1] at hE hgb ⊢
    obtain ⟨w0, rfl, hlt⟩ := HA.out.pin
    have hbl : b1 < w0.heap.size := by have := (Array.getElem?_eq_some_iff.1 hE).1; simpa using this
    have hE0 := box_pin hE hgb
    have he0 : w0.cell? ⟨b1, 0, none⟩ = some (.int .i64 m.kind) := by simp [World.cell?, hE0]
    have heo : w0.row? b1 1 5 = some m.o.cs := by unfold World.row?; rw [hE0]; exact MsgV.sub_o m
    have H0 := Lib.hid (show Rn 78 base g s now l v v W (w0.pin g (RunV.cs ⟨s, v, now⟩) 78) from ⟨HA.out, fun k hk => .inl hk, Only.of_below HB.out _⟩)
    clear hE hE0 hb1
    go_wp2_with fail
    go_quiet (fail)
    have hb3 : Below (w0.pin g (RunV.cs ⟨s, v, now⟩) 78).heap.size (w0.pin g (RunV.cs ⟨s, v, now⟩) 78) ((w0.drewN nq).pin g (RunV.cs ⟨s, v, now⟩) 78) := below_drewN (Below.refl _ _) nq
    obtain ⟨wB, hwB⟩ : ∃ wB, w0.drewN nq = wB := ⟨_, rfl⟩
    have heB : wB.row? b1 1 5 = some m.o.cs := by rw [← hwB]; exact heo
    have heB0 : wB.cell? ⟨b1, 0, none⟩ = some (.int .i64 m.kind) := by rw [← hwB]; exact he0
    have hltB : g < wB.heap.size := by rw [← hwB]; exact hlt
    have hblB : b1 < wB.heap.size := by rw [← hwB]; exact hbl
    rw [hwB] at hb3
    (try rw [drewN_pin])
    rw [hwB]
    have H1 := Lib.hid (H0.out.below hb3)
    have hbB : base ≤ (wB.pin g (RunV.cs ⟨s, v, now⟩) 78).heap.size := Nat.le_trans HB1.out hb3.size
    have HBB := Lib.hid hbB
    clear hwB hb3 he0 heo hbB
    have HP := Lib.hid (Ran.of_pin (s' := { s with phase := 4 }) (w1 := wB) H1.out.at' (by decide) (Below.refl _ _) OK.out)
    go_wp2_with (go_at_call 69; refine Hid.out ?_)
    refine Lib.hid ?_
    obtain ⟨v2, hr2⟩ := HP.out
    refine (heard_any base g _ _ now _ v2 hr2.at').mono ?_
    rintro r w3 ⟨rfl, hr3⟩
    obtain ⟨v3, hr3⟩ := hr3
    have hr4 := hr2.trans hr3
    have hb3 : base ≤ w3.heap.size := Nat.le_trans HBB.out hr4.only.size
    have hD := Lib.hid (do_any base g _ _ now l v3 ⟨4, upM s.o, 0⟩ hr4.at' (by omega) hb3)
    have H4 := Lib.hid hr4
    have hlt3 := hr4.at'.lt
    have hrow : w3.row? g 9 5 = some s.o.cs := by unfold World.row?; rw [hr4.at'.box]; exact RunV.sub_s_o _
    clear hr2 hr3 hr4
    go_wp2_with (go_at_call 58; refine hD.out.mono ?_; rintro r w5 ⟨rfl, hr⟩; have HZ := Lib.hid hr; clear hr)
    go_returns
    exact ⟨rfl, (H1.out.trans H4.out).then HZ.out⟩
  have hq2 : (s.phase == 3 && m.kind == 4) = false := by
    have : ¬ (s.phase = 3 ∧ m.kind = 4) := c2
    simpa using this
  by_cases c3 : s.phase = 4 ∧ m.kind = 4
  · have q1 : (s.phase == 4) = true := by simpa using c3.1
    have q2 : (m.kind == 4) = true := by simpa using c3.2
    have hS : messageS s now m = (heardS s now, []) := by unfold messageS; rw [if_neg k3, if_neg c1, if_neg c2, if_pos c3]
    have hL := HL.out
    have hT := HS.out
    rw [hS] at hL hT
    subst hL
    subst hT
    clear hS
    clear c1 c2 c3 k3
    rw [List.append_nil]
    go_enter Try.func64, Try.ntmps64
    go_upto_region 1 with fail
    rw [HWA.out]
    obtain ⟨b1, hb1⟩ : ∃ b1, W.heap.size = b1 := ⟨_, rfl⟩
    have hE := HE.out
    have hgb := HGB.out
    rw [hb1] at hE hgb ⊢
    obtain ⟨w0, rfl, hlt⟩ := HA.out.pin
    have hbl : b1 < w0.heap.size := by have := (Array.getElem?_eq_some_iff.1 hE).1; simpa using this
    have hE0 := box_pin hE hgb
    have he0 : w0.cell? ⟨b1, 0, none⟩ = some (.int .i64 m.kind) := by simp [World.cell?, hE0]
    have heo : w0.row? b1 1 5 = some m.o.cs := by unfold World.row?; rw [hE0]; exact MsgV.sub_o m
    have H0 := Lib.hid (show Rn 78 base g s now l v v W (w0.pin g (RunV.cs ⟨s, v, now⟩) 78) from ⟨HA.out, fun k hk => .inl hk, Only.of_below HB.out _⟩)
    clear hE hE0 hb1
    go_wp2_with fail
    go_quiet (fail)
    have hb3 : Below (w0.pin g (RunV.cs ⟨s, v, now⟩) 78).heap.size (w0.pin g (RunV.cs ⟨s, v, now⟩) 78) ((w0.drewN nq).pin g (RunV.cs ⟨s, v, now⟩) 78) := below_drewN (Below.refl _ _) nq
    obtain ⟨wB, hwB⟩ : ∃ wB, w0.drewN nq = wB := ⟨_, rfl⟩
    have heB : wB.row? b1 1 5 = some m.o.cs := by rw [← hwB]; exact heo
    have heB0 : wB.cell? ⟨b1, 0, none⟩ = some (.int .i64 m.kind) := by rw [← hwB]; exact he0
    have hltB : g < wB.heap.size := by rw [← hwB]; exact hlt
    have hblB : b1 < wB.heap.size := by rw [← hwB]; exact hbl
    rw [hwB] at hb3
    (try rw [drewN_pin])
    rw [hwB]
    have H1 := Lib.hid (H0.out.below hb3)
    have hbB : base ≤ (wB.pin g (RunV.cs ⟨s, v, now⟩) 78).heap.size := Nat.le_trans HB1.out hb3.size
    have HBB := Lib.hid hbB
    clear hwB hb3 he0 heo hbB
    go_wp2_with (go_at_call 69; refine (heard_any base g _ s now l v H1.out.at').mono ?_; rintro r w3 ⟨rfl, hr⟩; have HZ := Lib.hid hr; clear hr)
    go_returns
    exact ⟨rfl, H1.out.then HZ.out⟩
  have hq3 : (s.phase == 4 && m.kind == 4) = false := by
    have : ¬ (s.phase = 4 ∧ m.kind = 4) := c3
    simpa using this
  have hq4 : (s.phase == 4 && m.kind == 2) = false := by
    have : ¬ (s.phase = 4 ∧ m.kind = 2) := fun h => HND.out ⟨h.1, .inl h.2⟩
    simpa using this
  have hq5 : (s.phase == 4 && m.kind == 5) = false := by
    have : ¬ (s.phase = 4 ∧ m.kind = 5) := fun h => HND.out ⟨h.1, .inr h.2⟩
    simpa using this
  have hS : messageS s now m = (leaveS s now, failL s 5 (s.phase - 1) 4) := by unfold messageS; rw [if_neg k3, if_neg c1, if_neg c2, if_neg c3, if_neg HND.out]
  have hL := HL.out
  have hT := HS.out
  rw [hS] at hL hT
  subst hL
  subst hT
  clear hS
  clear c1 c2 c3 k3
  go_enter Try.func64, Try.ntmps64
  go_upto_region 1 with fail
  rw [HWA.out]
  obtain ⟨b1, hb1⟩ : ∃ b1, W.heap.size = b1 := ⟨_, rfl⟩
  have hE := HE.out
  have hgb := HGB.out
  rw [hb1] at hE hgb ⊢
  obtain ⟨w0, rfl, hlt⟩ := HA.out.pin
  have hbl : b1 < w0.heap.size := by have := (Array.getElem?_eq_some_iff.1 hE).1; simpa using this
  have hE0 := box_pin hE hgb
  have he0 : w0.cell? ⟨b1, 0, none⟩ = some (.int .i64 m.kind) := by simp [World.cell?, hE0]
  have heo : w0.row? b1 1 5 = some m.o.cs := by unfold World.row?; rw [hE0]; exact MsgV.sub_o m
  have H0 := Lib.hid (show Rn 78 base g s now l v v W (w0.pin g (RunV.cs ⟨s, v, now⟩) 78) from ⟨HA.out, fun k hk => .inl hk, Only.of_below HB.out _⟩)
  clear hE hE0 hb1
  go_wp2_with fail
  go_quiet (fail)
  have hb3 : Below (w0.pin g (RunV.cs ⟨s, v, now⟩) 78).heap.size (w0.pin g (RunV.cs ⟨s, v, now⟩) 78) ((w0.drewN nq).pin g (RunV.cs ⟨s, v, now⟩) 78) := below_drewN (Below.refl _ _) nq
  obtain ⟨wB, hwB⟩ : ∃ wB, w0.drewN nq = wB := ⟨_, rfl⟩
  have heB : wB.row? b1 1 5 = some m.o.cs := by rw [← hwB]; exact heo
  have heB0 : wB.cell? ⟨b1, 0, none⟩ = some (.int .i64 m.kind) := by rw [← hwB]; exact he0
  have hltB : g < wB.heap.size := by rw [← hwB]; exact hlt
  have hblB : b1 < wB.heap.size := by rw [← hwB]; exact hbl
  rw [hwB] at hb3
  (try rw [drewN_pin])
  rw [hwB]
  have H1 := Lib.hid (H0.out.below hb3)
  have hbB : base ≤ (wB.pin g (RunV.cs ⟨s, v, now⟩) 78).heap.size := Nat.le_trans HB1.out hb3.size
  have HBB := Lib.hid hbB
  clear hwB hb3 he0 heo hbB
  go_wp2_with (go_at_call 62; refine (fail_any base g _ s now l v 5 (s.phase - 1) 4 H1.out.at' (by omega) HBB.out).mono ?_; rintro r w3 ⟨rfl, hr⟩; have HZ := Lib.hid hr; clear hr)
  go_returns
  exact ⟨rfl, H1.out.then HZ.out⟩
end Go.Proofs.Ytfconglamkkcoaa
