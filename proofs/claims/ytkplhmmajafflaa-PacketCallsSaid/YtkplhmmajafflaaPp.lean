import Derived.Test.YtkplhmmajafflaaPo
/- The chapter's example; the walk of PacketCalls. -/
namespace Go.Proofs.Ytkplhmmajafflaa
open Go.RowKit
set_option linter.unusedSimpArgs false
set_option linter.unusedVariables false

def liveFr : Fr := ⟨2199023255553, 281474976710655, 0, zeroArp, zeroHd, 7⟩
theorem liveFr_ok : liveFr.ok := ⟨⟨by decide, by decide⟩, ⟨by decide, by decide⟩, ⟨by decide, by decide⟩, zeroArp.ok, zeroHd.ok, ⟨by decide, by decide⟩⟩
theorem liveFr_check : checkF liveFr = 0 := by decide
theorem liveFr_bytes : bytesF liveFr = [255, 255, 255, 255, 255, 255, 2, 0, 0, 0, 0, 1, 136, 181, 0, 0, 0, 0, 0, 0, 0, 7] := by decide
theorem lives_any (W : World) : Calls Try.prog 9 #[] W fun e w' => e = .returned (.bool true) ∧ Below W.heap.size W w' := by
  have LB := Lib.hid (fun w => Bytes_good liveFr liveFr_ok w liveFr_check)
  go_enter Try.func9, Try.ntmps9
  go_wp2_with (go_at_call 10; refine Hid.out ?_)
  refine Lib.hid ?_
  refine (LB.out _).mono ?_
  rintro e w1 ⟨v, rfl, hown, hb⟩
  rw [liveFr_bytes] at hown
  obtain ⟨A, c, rfl, _, hq, _⟩ := hown.isbyn (n := 22) rfl
  have hcv := run_string (P := Try.prog) (src := 32) (dst := 9) (e := 5) Try.underlying32 Try.underlying5 Try.underlying9 (c := c) hq
  have HB := Lib.hid hb
  clear hown hb hq LB
  go_wp2_with fail
  go_ret
  exact ⟨rfl, HB.out⟩

/-- What Bytes gives, on both sides. -/
theorem Bytes_is (f : Fr) (h : f.ok) : ∃ xs : List UInt8, ∃ c : Int, xs.length ≤ 1000 ∧ c = checkF f ∧ (∀ W, Calls Try.prog 10 #[.agg f.cs] W fun e w' => ∃ A k, e = .returned (.tuple #[.slice A xs.length k, .int .i64 c]) ∧ IsBy w' A xs.length xs ∧ Below W.heap.size W w') ∧
    (∀ W, Calls Try.prog 11 #[.agg f.cs] W fun e w' => ∃ A k, e = .returned (.tuple #[.slice A xs.length k, .int .i64 c]) ∧ IsBy w' A xs.length xs ∧ Below W.heap.size W w') := by
  by_cases hc : checkF f = 0
  · refine ⟨bytesF f, 0, ?_, hc.symm, fun W => (Bytes_good f h W hc).mono ?_, fun W => (rBytes_good f h W hc).mono ?_⟩
    · unfold bytesF bodyOf ipBytes arpBytes
      repeat' split
      all_goals simp [be_len, headOf_len]
    all_goals
      rintro e w' ⟨v, rfl, hown, hb⟩
      obtain ⟨A, k, rfl, _, hq, _⟩ := hown.isbyn rfl
      exact ⟨A, k, rfl, hq, hb⟩
  · refine ⟨[], checkF f, by simp, rfl, fun W => (Bytes_bad f h W hc).mono ?_, fun W => (rBytes_bad f h W hc).mono ?_⟩
    all_goals
      rintro e w' ⟨rfl, hb⟩
      exact ⟨none, 0, rfl, ⟨fun hp => absurd hp (by simp), rfl⟩, hb⟩

set_option maxRecDepth 100000 in
set_option maxHeartbeats 4000000 in
theorem calls_any (f : Fr) (hf : f.ok) (A : Option Addr) (n c : Nat) (bs : List UInt8) (p : Int) (W : World) (hby : IsBy W A n bs) (hc : n ≤ c) (hn : n ≤ maxLen) :
    Calls Try.prog 3 #[.agg f.cs, .slice A n c, .int .i64 p] W fun e w' => e = .returned (.bool true) ∧ Below W.heap.size W w' := by
  have BY := Lib.hid hby
  obtain ⟨xs, cd, hxs, hcd, hB1, hB2⟩ := Bytes_is f hf
  have B1 := Lib.hid hB1
  have B2 := Lib.hid hB2
  have CD := Lib.hid hcd
  have OK := Lib.hid hf
  clear hby hB1 hB2 hcd hf hxs
  unfold maxLen at hn
  go_enter Try.func3, Try.ntmps3
  go_wp2_with (go_at_call 9; refine (lives_any _).mono ?_; rintro e w1 ⟨rfl, hb⟩; have HB1 := Lib.hid (((Below.refl W.heap.size W).alloc (Nat.le_refl _) (.cells f.cs 31)).trans (hb.mono (by simp))); have hr1 := (hb.block W.heap.size (by simp)).trans (heap_here (w := W) (o := .cells f.cs 31) rfl); have HR1 := Lib.hid hr1; have hrow := row?_whole (n := 15) hr1 (by simp); clear hb hr1)
  · go_ret
    exact ⟨rfl, HB1.out⟩
  have hn3 : n ≤ 300 := by omega
  go_wp2_with (first
    | (go_at_call 10; refine (B1.out _).mono ?_; rintro e w2 ⟨A2, k2, rfl, hq, hb⟩; have Q2 := Lib.hid hq; have HB2 := Lib.hid (HB1.out.trans (hb.mono HB1.out.size)); have hr2 := (hb.block W.heap.size (by exact (Array.getElem?_eq_some_iff.1 HR1.out).1)).trans HR1.out; have HR2 := Lib.hid hr2; have hrow2 := row?_whole (n := 15) hr2 (by simp); clear hb hr2 hq)
    | (go_at_call 11; refine (B2.out _).mono ?_; rintro e w3 ⟨A3, k3, rfl, hq, hb⟩; have Q3 := Lib.hid hq; have QQ := Lib.hid (Q2.out.below hb); have HB3 := Lib.hid (HB2.out.trans (hb.mono HB2.out.size)); have hr3 := (hb.block W.heap.size (by exact (Array.getElem?_eq_some_iff.1 HR2.out).1)).trans HR2.out; have HR3 := Lib.hid hr3; clear hb hr3 hq hrow2))
  have hcv1 : ∀ x, (convert 32 9 (.slice A2 xs.length k2)).run Try.prog (w3.ext x) = .ok (.string ⟨xs.toArray⟩) (w3.ext x) := fun x => run_string Try.underlying32 Try.underlying5 Try.underlying9 (QQ.out.below (ext_below _ _))
  have hcv2 : ∀ x, (convert 32 9 (.slice A3 xs.length k3)).run Try.prog (w3.ext x) = .ok (.string ⟨xs.toArray⟩) (w3.ext x) := fun x => run_string Try.underlying32 Try.underlying5 Try.underlying9 (Q3.out.below (ext_below _ _))
  have hrow3 : w3.row? W.heap.size 0 15 = some f.cs := row?_whole (n := 15) HR3.out (by simp)
  have hHl := (Array.getElem?_eq_some_iff.1 HR3.out).1
  go_wp2_with fail
  refine wp_region_grow (by kernel_rfl) (by kernel_rfl) ?_
  repeat (go_big_quiet_step ((first
    | (go_at_call 12; exact quiet_call1 (CD.out ▸ Check_any f OK.out _))
    | (go_at_call 13; exact quiet_call1 (CD.out ▸ rCheck_any f OK.out _))
    | (go_at_call 14; exact quiet_call1 (sum_any A n c bs _ (BY.out.below ((HB3.out.trans ((ext_below _ _).mono HB3.out.size)))) hc (by omega)))
    | (go_at_call 15; exact quiet_call1 ((rSum_any A n c bs _ (BY.out.below ((HB3.out.trans ((ext_below _ _).mono HB3.out.size)))) (by omega)).mono fun e w' h => ⟨h.1, by rw [← h.2]; exact Below.refl _ _⟩))
    | (go_at_call 16; exact quiet_call1 ((Ported_any p _).mono fun e w' h => ⟨h.1, by rw [← h.2]; exact Below.refl _ _⟩))
    | (go_at_call 17; exact quiet_call1 ((rPorted_any p _).mono fun e w' h => ⟨h.1, by rw [← h.2]; exact Below.refl _ _⟩)))))
  refine wpQuiet_nil ?_
  intro _ hw'
  obtain ⟨x1, rfl⟩ := hw'
  go_wp2_with fail
  go_ret
  exact ⟨rfl, HB3.out.trans ((ext_below _ _).mono HB3.out.size)⟩
end Go.Proofs.Ytkplhmmajafflaa
