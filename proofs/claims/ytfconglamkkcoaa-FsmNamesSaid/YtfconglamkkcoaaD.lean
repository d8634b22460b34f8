import Derived.Test.YtfconglamkkcoaaC
/- The session at work: an event in the first two phases. -/
namespace Go.Proofs.Ytfconglamkkcoaa
open Go.RowKit
set_option linter.unusedSimpArgs false
set_option linter.unusedVariables false

/-- A boxed value keeps its cells beside a pinned block. -/
theorem box_pin {w0 : World} {g b T T' : Nat} {c c' : Array Value} (h : (w0.pin g c T).heap[b]? = some (.cells c' T' (0, 0))) (hne : b ≠ g) : w0.heap[b]? = some (.cells c' T' (0, 0)) := by
  rwa [pin_heap_other _ _ _ _ hne] at h

def idleS (s : Ses) (now k : Int) : Ses × List Acn :=
  if k = 1 then (laterS { s with phase := 1 } now, if s.c.passive = true then [] else [⟨2, zeroMsg, 0⟩])
  else if k = 3 then (s, [⟨3, zeroMsg, 0⟩])
  else (s, [])
set_option maxRecDepth 100000 in
set_option maxHeartbeats 1000000 in
theorem idle_any (base g : Nat) (W : World) (s : Ses) (now : Int) (l : List Acn) (v : Sl) (e : EvV) (h : RunAt 78 base g W s now l v) (hl : l.length < 900) (hbase : base ≤ W.heap.size) :
    Calls Try.prog 47 #[.pointer (some ⟨g, 0, none⟩), .agg e.cs] W fun r w' => r = .returned (.tuple #[]) ∧ Ran 78 base g (idleS s now e.kind).1 now (l ++ (idleS s now e.kind).2) v W w' := by
  have hbW : Below W.heap.size W (W.alloc (.cells e.cs 49)) := (Below.refl _ _).alloc (Nat.le_refl _) _
  have hE : (W.alloc (.cells e.cs 49)).heap[W.heap.size]? = some (.cells e.cs 49 (0, 0)) := heap_here rfl
  have hA := h.below hbW
  have hgb : W.heap.size ≠ g := by have := h.lt; omega
  have HB := Lib.hid hbW
  have H := Lib.hid h
  by_cases k1 : e.kind = 1
  · obtain ⟨La, hLa⟩ : ∃ La, (if s.c.passive = true then [] else [(⟨2, zeroMsg, 0⟩ : Acn)]) = La := ⟨_, rfl⟩
    have hS : idleS s now e.kind = (laterS { s with phase := 1 } now, La) := by rw [← hLa]; exact if_pos k1
    rw [hS]
    obtain ⟨p, hp⟩ : ∃ p, s.c.passive = p := ⟨_, rfl⟩
    have HPP := Lib.hid hp
    have HLA := Lib.hid hLa
    clear hLa
    have OK := Lib.hid (show Ses.ok { s with phase := 1 } from ⟨h.ok.h0, h.ok.h1, h.ok.c0, h.ok.c1, h.ok.r0, h.ok.r1, by simp, by simp⟩)
    have q1 : (e.kind == 1) = true := by simpa using k1
    go_enter Try.func47, Try.ntmps47
    go_upto_region 1 with fail
    obtain ⟨wA, hwA⟩ : ∃ wA, W.alloc (.cells e.cs 49) = wA := ⟨_, rfl⟩
    rw [hwA] at hA hE HB ⊢
    obtain ⟨b1, hb1⟩ : ∃ b1, W.heap.size = b1 := ⟨_, rfl⟩
    rw [hb1] at hE hgb ⊢
    have HA := Lib.hid hA
    obtain ⟨w0, rfl, hlt⟩ := hA.pin
    have hE0 := box_pin hE hgb
    have he0 : w0.cell? ⟨b1, 0, none⟩ = some (.int .i64 e.kind) := by simp [World.cell?, hE0]
    have hP := Ran.of_pin (s' := { s with phase := 1 }) (w1 := w0) HA.out (by decide) (Below.refl _ _) OK.out
    have HP := Lib.hid hP
    have hwb : base ≤ (w0.pin g (RunV.cs ⟨s, v, now⟩) 78).heap.size := Nat.le_trans hbase HB.out.size
    clear h hA hE hE0 hwA k1 hS hbW hP hb1
    cases p
    · go_wp2_with (go_at_call 58; refine Hid.out ?_)
      refine Lib.hid ?_
      obtain ⟨v2, hr2⟩ := HP.out
      refine (do_any base g _ _ now _ v2 ⟨2, zeroMsg, 0⟩ hr2.at' (by omega) (Nat.le_trans hwb hr2.only.size)).mono ?_
      rintro r w3 ⟨rfl, hr3⟩
      obtain ⟨v3, hr3⟩ := hr3
      have HR := Lib.hid (hr2.trans hr3)
      clear hr2 hr3
      go_wp2_with (go_at_call 59; refine (later_any base g _ _ now _ v3 HR.out.at').mono ?_; rintro r w4 ⟨rfl, hr4⟩; have HZ := Lib.hid (HR.out.then hr4); clear hr4)
      go_returns
      refine ⟨rfl, ?_⟩
      have hla := HLA.out
      rw [HPP.out, if_neg (by decide)] at hla
      subst hla
      exact Rn.then ⟨HA.out, fun k hk => .inl hk, Only.of_below HB.out _⟩ HZ.out
    · go_wp2_with (go_at_call 59; refine Hid.out ?_)
      refine Lib.hid ?_
      obtain ⟨v2, hr2⟩ := HP.out
      refine (later_any base g _ _ now _ v2 hr2.at').mono ?_
      rintro r w3 ⟨rfl, hr3⟩
      have HZ := Lib.hid (hr2.then hr3)
      clear hr2 hr3
      go_wp2_with fail
      go_returns
      refine ⟨rfl, ?_⟩
      have hla := HLA.out
      rw [HPP.out, if_pos rfl] at hla
      subst hla
      rw [List.append_nil]
      exact Rn.then ⟨HA.out, fun k hk => .inl hk, Only.of_below HB.out _⟩ HZ.out
  · by_cases k3 : e.kind = 3
    · have hS : idleS s now e.kind = (s, [⟨3, zeroMsg, 0⟩]) := by unfold idleS; rw [if_neg k1, if_pos k3]
      rw [hS]
      have q1 : (e.kind == 1) = false := by simpa using k1
      have q3 : (e.kind == 3) = true := by simpa using k3
      have HA := Lib.hid hA
      clear h hS hE k1 k3
      go_enter Try.func47, Try.ntmps47
      go_wp2_with (go_at_call 58; refine (do_any base g _ s now l v ⟨3, zeroMsg, 0⟩ HA.out (by omega) (Nat.le_trans hbase HB.out.size)).mono ?_; rintro r w3 ⟨rfl, hr3⟩; have HZ := Lib.hid hr3; clear hr3)
      go_returns
      exact ⟨rfl, Rn.then ⟨HA.out, fun k hk => .inl hk, Only.of_below HB.out _⟩ HZ.out⟩
    · have hS : idleS s now e.kind = (s, []) := by unfold idleS; rw [if_neg k1, if_neg k3]
      rw [hS, List.append_nil]
      have q1 : (e.kind == 1) = false := by simpa using k1
      have q3 : (e.kind == 3) = false := by simpa using k3
      clear h hS hE k1 k3
      go_enter Try.func47, Try.ntmps47
      go_wp2_with fail
      go_returns
      exact ⟨rfl, Ran.later H.out HB.out⟩
end Go.Proofs.Ytfconglamkkcoaa
