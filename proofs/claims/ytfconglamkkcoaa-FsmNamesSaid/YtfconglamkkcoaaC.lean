import Derived.Test.YtfconglamkkcoaaB
/- The session at work: ticks, and the first phases. -/
namespace Go.Proofs.Ytfconglamkkcoaa
open Go.RowKit
set_option linter.unusedSimpArgs false
set_option linter.unusedVariables false

def aliveM : MsgV := { zeroMsg with kind := 4 }
def tickS (s : Ses) (now : Int) : Ses × List Acn :=
  if s.expire ≠ -1 ∧ s.expire ≤ now then (leaveS s now, failL s 4 0 2)
  else if s.alive ≠ -1 ∧ s.alive ≤ now then ({ s with alive := now + s.hold / 3 }, [⟨1, aliveM, 0⟩])
  else (s, [])
set_option maxRecDepth 100000 in
set_option maxHeartbeats 1000000 in
theorem tick_any (base g : Nat) (W : World) (s : Ses) (now : Int) (l : List Acn) (v : Sl) (h : RunAt 78 base g W s now l v) (hl : l.length < 900) (hbase : base ≤ W.heap.size) :
    Calls Try.prog 63 #[.pointer (some ⟨g, 0, none⟩)] W fun e w' => e = .returned (.tuple #[]) ∧ Ran 78 base g (tickS s now).1 now (l ++ (tickS s now).2) v W w' := by
  by_cases h1 : s.expire ≠ -1 ∧ s.expire ≤ now
  · have hT : tickS s now = (leaveS s now, failL s 4 0 2) := if_pos h1
    rw [hT]
    have hD := Lib.hid (fun w' (hb : Below W.heap.size W w') => fail_any base g w' s now l v 4 0 2 (h.below hb) hl (Nat.le_trans hbase hb.size))
    have H := Lib.hid h
    obtain ⟨w0, rfl, hlt⟩ := h.pin
    have hq1 : (s.expire != -1) = true := by simpa using h1.1
    have hq2 : decide (s.expire ≤ now) = true := by simpa using h1.2
    clear h hT h1
    go_enter Try.func63, Try.ntmps63
    go_wp2_with fail
    go_quiet (fail)
    go_wp2_with (go_at_call 62; refine (hD.out _ (below_drewN (Below.refl _ _) _)).mono ?_; rintro e w1 ⟨rfl, hr⟩; obtain ⟨v1, hr⟩ := hr; have HZ := Lib.hid (hr); clear hr)
    go_returns
    exact ⟨rfl, v1, HZ.out.at', HZ.out.blk, (Only.of_below (below_drewN (Below.refl _ _) _) _).trans HZ.out.only⟩
  · by_cases h2 : s.alive ≠ -1 ∧ s.alive ≤ now
    · have hT : tickS s now = ({ s with alive := now + s.hold / 3 }, [⟨1, aliveM, 0⟩]) := by unfold tickS; rw [if_neg h1, if_pos h2]
      rw [hT]
      have hn0 := h.n0
      have hn1 := h.n1
      have hr0 := h.ok.h0
      have hr1 := h.ok.h1
      have OK := Lib.hid (show Ses.ok { s with alive := now + s.hold / 3 } from ⟨h.ok.h0, h.ok.h1, h.ok.c0, h.ok.c1, h.ok.r0, h.ok.r1, h.ok.p0, h.ok.p1⟩)
      have hD := Lib.hid (fun w' (hb : Below W.heap.size W w') => send_any base g w' s now l v aliveM (h.below hb) (by omega) (Nat.le_trans hbase hb.size))
      have H := Lib.hid h
      obtain ⟨w0, rfl, hlt⟩ := h.pin
      have hq1 : (s.alive != -1) = true := by simpa using h2.1
      have hq2 : decide (s.alive ≤ now) = true := by simpa using h2.2
      have hq : s.hold.tdiv 3 = s.hold / 3 := Int.tdiv_eq_ediv_of_nonneg (by omega)
      have HQ := Lib.hid hq
      have H1 : (s.expire != -1) = false ∨ ((s.expire != -1) = true ∧ decide (s.expire ≤ now) = false) := by
        by_cases he : s.expire = -1
        · left; simp [he]
        · right; refine ⟨by simpa using he, ?_⟩; have := fun h => h1 ⟨he, h⟩; simpa using this
      clear h hT h1 h2
      rcases H1 with hq3 | ⟨hq3, hq4⟩
      all_goals
        go_enter Try.func63, Try.ntmps63
        go_wp2_with fail
        go_quiet (fail)
        go_wp2_with fail
        go_quiet (fail)
        go_wp2_with (go_at_call 61; refine (hD.out _ (by repeat (first | exact Below.refl _ _ | refine below_drewN ?_ _))).mono ?_; rintro e w1 ⟨rfl, hr⟩; refine Hid.out ?_)
        refine Lib.hid ?_
        obtain ⟨v1, hr⟩ := hr
        obtain ⟨w2, rfl, hlt2⟩ := hr.at'.pin
        have HR := Lib.hid hr
        clear hr hD hq
        go_wp2_with fail
        go_region
        rw [drew_pin]
        go_wp2_with fail
        go_returns
        refine ⟨rfl, ?_⟩
        have h3 := Ran.of_pin (s' := { s with alive := now + s.hold / 3 }) (w1 := w2.drew) HR.out.at' (by decide) (Below.refl _ _).drew OK.out
        obtain ⟨v3, h3⟩ := h3
        have h4 := HR.out.trans h3
        exact ⟨v3, h4.at', h4.blk, (Only.of_below (by repeat (first | exact Below.refl _ _ | refine below_drewN ?_ _)) _).trans h4.only⟩
    · have hT : tickS s now = (s, []) := by unfold tickS; rw [if_neg h1, if_neg h2]
      rw [hT, List.append_nil]
      have H := Lib.hid h
      obtain ⟨w0, rfl, hlt⟩ := h.pin
      have H1 : (s.expire != -1) = false ∨ ((s.expire != -1) = true ∧ decide (s.expire ≤ now) = false) := by
        by_cases he : s.expire = -1
        · left; simp [he]
        · right; refine ⟨by simpa using he, ?_⟩; have := fun h => h1 ⟨he, h⟩; simpa using this
      have H2 : (s.alive != -1) = false ∨ ((s.alive != -1) = true ∧ decide (s.alive ≤ now) = false) := by
        by_cases he : s.alive = -1
        · left; simp [he]
        · right; refine ⟨by simpa using he, ?_⟩; have := fun h => h2 ⟨he, h⟩; simpa using this
      clear h hT h1 h2
      rcases H1 with hq3 | ⟨hq3, hq4⟩ <;> rcases H2 with hq5 | ⟨hq5, hq6⟩
      all_goals
        go_enter Try.func63, Try.ntmps63
        go_wp2_with fail
        go_quiet (fail)
        go_wp2_with fail
        go_quiet (fail)
        go_wp2_with fail
        go_returns
        exact ⟨rfl, Ran.later H.out (by repeat (first | exact Below.refl _ _ | refine below_drewN ?_ _))⟩
end Go.Proofs.Ytfconglamkkcoaa
