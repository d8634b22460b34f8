import Derived.Test.YtfconglamkkcoaaK
/- A step of a session. -/
namespace Go.Proofs.Ytfconglamkkcoaa
open Go.RowKit
set_option linter.unusedSimpArgs false
set_option linter.unusedVariables false

def phaseS (s : Ses) (now : Int) (e : EvV) : Ses × List Acn :=
  if s.phase = 0 then idleS s now e.kind else if s.phase = 1 then connectS s now e.kind else lateS s now e
def goodB (s : Ses) (now : Int) : Bool := validB s && decide (0 ≤ now) && decide (now ≤ 1099511627776)
def stepS (s : Ses) (now : Int) (e : EvV) : Ses × List Acn := if goodB s now = true then phaseS s now e else (s, [])
/-- What a step leaves. -/
def StepPost (W : World) (s : Ses) (L : List Acn) (e : Ending) (w' : World) : Prop :=
  ∃ v, e = .returned (.tuple #[.agg s.cs, slv v]) ∧ w'.ownsRow W.heap.size 53 27 (slv v) L.length (cat Acn.cs L) ∧ Below W.heap.size W w'
theorem valid_val (s : Ses) (b : Bool) (hb : validB s = b) (w : World) : Calls Try.prog 18 #[.agg s.cs] w fun e w' => e = .returned (.bool b) ∧ Below w.heap.size w w' := by
  subst hb; exact valid_any s w
/-- The boxes of a step. -/
structure Boxes (W w : World) (b : Nat) (s : Ses) (e : EvV) : Prop where
  below : Below b W w
  b0 : w.heap[b]? = some (.cells s.cs 30 (0, 0))
  b1 : w.heap[b + 1]? = some (.cells e.cs 49 (0, 0))
  b2 : w.heap[b + 2]? = some (.cells zeroSes.cs 30 (0, 0))
theorem Boxes.made {W w : World} {s : Ses} {e : EvV} (h : Below (((W.alloc (.cells s.cs 30)).alloc (.cells e.cs 49)).alloc (.cells zeroSes.cs 30)).heap.size (((W.alloc (.cells s.cs 30)).alloc (.cells e.cs 49)).alloc (.cells zeroSes.cs 30)) w) : Boxes W w W.heap.size s e := by
  refine ⟨?_, ?_, ?_, ?_⟩
  · exact ((((Below.refl _ _).alloc (Nat.le_refl _) _).alloc (by simp) _).alloc (by simp; omega) _).trans (h.mono (by simp; omega))
  · exact (h.block _ (by simp; omega)).trans ((Below.heap_alloc _ _ _ (by simp; omega)).trans ((Below.heap_alloc _ _ _ (by simp)).trans (heap_here rfl)))
  · exact (h.block _ (by simp)).trans ((Below.heap_alloc _ _ _ (by simp)).trans (heap_here (by simp)))
  · exact (h.block _ (by simp)).trans (heap_here (by simp))
set_option maxHeartbeats 1000000 in
theorem step_bad (s : Ses) (now : Int) (e : EvV) (W : World) (hg : goodB s now = false) : Calls Try.prog 13 #[.agg s.cs, .agg e.cs, .int .i64 now] W (StepPost W s []) := by
  have hcase : validB s = false ∨ (validB s = true ∧ decide (now < 0) = true) ∨ (validB s = true ∧ decide (now < 0) = false ∧ decide (1099511627776 < now) = true) := by
    cases hv : validB s
    · exact .inl rfl
    · right
      simp [goodB, hv] at hg
      by_cases h0 : now < 0
      · left; simp [h0]
      · right; simp; omega
  clear hg
  have hz : zeroSes.cs = #[.int .i64 0, .int .u32 0, .int .u32 0, .int .u32 0, .int .i64 0, .int .i64 0, .int .i64 0, .bool false, .bool false, .int .u32 0, .int .i64 0, .int .u32 0, .int .i64 0, .bool false, .int .i64 0, .int .i64 0, .int .i64 0, .int .i64 0] := rfl
  have HZ := Lib.hid hz
  clear hz
  rcases hcase with hv | ⟨hv, h0⟩ | ⟨hv, h0, h1⟩
  all_goals
    have HV := Lib.hid hv
    clear hv
    go_enter Try.func13, Try.ntmps13
    go_upto_region 4 with (go_at_call 18; refine (valid_val s _ HV.out _).mono ?_; rintro r w1 ⟨rfl, hb1⟩; rw [← HZ.out] at hb1; have HB := Lib.hid (Boxes.made hb1); clear hb1)
    have hr0 : w1.row? W.heap.size 0 18 = some s.cs := row?_whole HB.out.b0 (by simp)
    have hr2 : w1.row? (W.heap.size + 2) 0 18 = some zeroSes.cs := row?_whole HB.out.b2 (by simp)
    have hl2 : w1.loose (W.heap.size + 2) := ⟨_, _, HB.out.b2⟩
    obtain ⟨b, hb⟩ : ∃ b, W.heap.size = b := ⟨_, rfl⟩
    rw [hb] at hr0 hr2 hl2 HB ⊢
    have HBB := Lib.hid hb
    clear hb
    go_wp2_with fail
    refine bodyPost_ret (v := .tuple #[.agg s.cs, slv ⟨none, 0, 0⟩]) (results_row2 rfl agg30 (b := b + 2) (off := 0) rfl rfl ?_) rfl ⟨⟨none, 0, 0⟩, rfl, ⟨by simp [cat], .inl ⟨rfl, rfl⟩⟩, ?_⟩
    · exact row?_whole (z := s.cs) (put_heap_whole HB.out.b2 (by simp)) (by simp)
    · rw [HBB.out]
      exact put_below HB.out.below (by omega) _ _
end Go.Proofs.Ytfconglamkkcoaa
