import Derived.Test.YtkplhmmajafflaaPc
import Derived.Test.YtkplhmmajafflaaRange
import Derived.Shelf.Abstract
import Derived.Shelf.RegionOpen
import Derived.OwnWalkIn
import Derived.TacticsInMore
import Derived.LoopNIn
import Derived.LoopIn
import Derived.RegionIn
import Derived.BigRegionIn
/- slices.Chunk over bytes, at 2: its iterator. -/
namespace Go.Proofs.Ytkplhmmajafflaa
open Go.RowKit Go.Shelf
set_option linter.unusedSimpArgs false
set_option linter.unusedVariables false
attribute [local go_sem] Oper.semAt_some

@[go_sem ↓ high] theorem part_lhm (w : World) (A : Option Addr) (n c : Nat) (kl kh km : IntKind) (l h m : Int) (h0 : 0 ≤ l) (h1 : l ≤ h) (h2 : h ≤ m) (h3 : m ≤ c) (h4 : l < m) :
    (Instr.slice 32 (.slice A n c) (some (.int kl l)) (some (.int kh h)) (some (.int km m))).run Try.prog w = .ok (.slice (A.map (·.add l.toNat)) (h.toNat - l.toNat) (m.toNat - l.toNat)) w := by
  have ht' : Try.prog.underlying 32 = some (.slice (Try.prog.elem 32)) := by
    have : Try.prog.elem 32 = 5 := by simp [Program.elem, Try.underlying32]
    rw [this]; exact Try.underlying32
  have he : Try.prog.elem 32 = 5 := by simp [Program.elem, Try.underlying32]
  have hz : (sizeOf 5).run Try.prog w = .ok 1 w := by kernel_rfl
  rw [run_slice_lhm w 32 A n c ht' kl kh km l h m h0 h1 h2 h3, he, hz]
  simp only [Result.andThen, sliced]
  rw [if_neg (by omega), Nat.mul_one]
theorem chunk_any (A : Option Addr) (n c : Nat) (W : World) :
    Calls Try.prog 42 #[.slice A n c, .int .i64 2] W fun e w' => e = .returned (.func (.func 46) #[] #[.pointer (some ⟨W.heap.size, 0, none⟩), .pointer (some ⟨W.heap.size + 1, 0, none⟩)]) ∧
      Below W.heap.size W w' ∧ w'.heap[W.heap.size]? = some (.cells #[.slice A n c] 32 (0, 0)) ∧ w'.heap[W.heap.size + 1]? = some (.cells #[.int .i64 2] 3 (0, 0)) := by
  go_enter Try.func42, Try.ntmps42
  go_wp2_with fail
  go_ret
  exact ⟨rfl, ((Below.refl _ _).alloc (Nat.le_refl _) _).alloc (by simp) _, (Below.heap_alloc _ _ _ (by simp)).trans (heap_here rfl), heap_here (by simp)⟩
/-- A chunk of two bytes, or of the last one. -/
def chunkAt (A : Option Addr) (n k : Nat) : Value := .slice (A.map (·.add (2 * k))) (min 2 (n - 2 * k)) (min 2 (n - 2 * k))
set_option maxRecDepth 100000 in
set_option maxHeartbeats 2000000 in
theorem chunk1_any (A : Option Addr) (n c Bs Bn : Nat) (w : World) (hs : w.heap[Bs]? = some (.cells #[.slice A n c] 32 (0, 0))) (hn : w.heap[Bn]? = some (.cells #[.int .i64 2] 3 (0, 0))) (hc : n ≤ c) (hsm : n ≤ 1000000) :
    Yields Try.prog 46 #[.pointer (some ⟨Bs, 0, none⟩), .pointer (some ⟨Bn, 0, none⟩)] (fun k => #[chunkAt A n k]) [Bs, Bn] (List.range ((n + 1) / 2)) w := by
  intro l J W S hW hS hJ hY h0
  have hs1 := (hW.block Bs (Array.getElem?_eq_some_iff.1 hs).1).trans hs
  have hn1 := (hW.block Bn (Array.getElem?_eq_some_iff.1 hn).1).trans hn
  have HY := Lib.hid hY
  have HJ := Lib.hid hJ
  have HS := Lib.hid hS
  have HS1 := Lib.hid hs1
  have HN1 := Lib.hid hn1
  have H0 := Lib.hid h0
  clear hs hn hs1 hn1 hY hJ hS h0
  refine callsIn_of_wp Try.func46 rfl trivial ?_ rfl
  simp only [Try.ntmps46, List.size_toArray, List.length_cons, List.length_nil, Nat.reduceAdd, Nat.reduceSub, Array.replicate_succ, Array.replicate_zero, List.push_toArray, List.append_toArray, List.nil_append, List.cons_append]
  gi_wp2
  gi_loopw [4] (fun i wr => ∃ k : Nat, k ≤ (n + 1) / 2 ∧ i = .int .i64 (2 * k) ∧ Hid (J k wr ∧ W.heap.size ≤ wr.heap.size ∧ wr.heap[Bs]? = some (.cells #[.slice A n c] 32 (0, 0)) ∧ wr.heap[Bn]? = some (.cells #[.int .i64 2] 3 (0, 0)))) (fun i _ => (n + 2 - (intOf i).toNat))
  case atStart => exact ⟨0, by omega, by simp, H0.out, Nat.le_refl _, HS1.out, HN1.out⟩
  case round =>
    obtain ⟨k, hk, rfl, hI⟩ := hrel
    obtain ⟨hJk, hWs, hb1, hb2⟩ := hI.out
    have hcs : wr.cell? ⟨Bs, 0, none⟩ = some (.slice A n c) := by simp [World.cell?, hb1]
    have hcn : wr.cell? ⟨Bn, 0, none⟩ = some (.int .i64 2) := by simp [World.cell?, hb2]
    have HJk := Lib.hid hJk
    have HB1 := Lib.hid hb1
    have HB2 := Lib.hid hb2
    clear hI hJk hb1 hb2
    by_cases hlt : k < (n + 1) / 2
    · have q0 : (0 : Int) ≤ 2 * (k : Int) := by omega
      have q1 : 2 * (k : Int) ≤ (n : Int) := by omega
      have q2 : (2 * (k : Int)).toNat = 2 * k := by omega
      have q3 : decide (2 * (k : Int) < (n : Int)) = true := by simp; omega
      have hsub : ((n - 2 * k : Nat) : Int) = (n : Int) - 2 * k := by omega
      have HQ := Lib.hid q2
      gi_wp2
      gi_region
      obtain ⟨m, hm, hmv⟩ : ∃ m : Nat, (if (n : Int) - 2 * (k : Int) < 2 then (n : Int) - 2 * (k : Int) else 2) = (m : Int) ∧ m = min 2 (n - 2 * k) := ⟨min 2 (n - 2 * k), by split <;> omega, rfl⟩
      rw [hm]
      have HM := Lib.hid hmv
      have m1 : 1 ≤ m := by omega
      have m2 : m ≤ 2 := by omega
      have m3 : 2 * k + m ≤ n := by omega
      clear hm hmv hsub
      obtain ⟨fn, tmps, assign, body, hy, hR⟩ := HY.out k k wr.drew (List.getElem?_range hlt) (HJ.out _ _ _ HJk.out ((Below.refl _ _).drew))
      have hyq : chunkAt A n k = .slice (A.map (·.add (2 * k))) m m := by unfold chunkAt; rw [← HM.out]
      rw [hyq] at hy
      have hcs1 : wr.drew.cell? ⟨Bs, 0, none⟩ = some (.slice A n c) := hcs
      have q4 : IntKind.i64.wrap (2 * (k : Int) + (m : Int)) = 2 * (k : Int) + m := IntWalk.i64_in _ (by omega)
      have q5 : (2 * (k : Int) + (m : Int)).toNat = 2 * k + m := by omega
      have q6 : 2 * (k : Int) ≤ 2 * (k : Int) + m := by omega
      have q7 : 2 * (k : Int) < 2 * (k : Int) + m := by omega
      have q8 : 2 * (k : Int) + m ≤ (c : Int) := by omega
      have q9 : 2 * k + m - 2 * k = m := by omega
      clear hyq
      gi_wp2
      refine ⟨rfl, hR.mono ?_⟩
      rintro e W3 ⟨rfl, hJ3, hO3⟩
      have HN := Lib.hid (show J (k + 1) W3 ∧ W.heap.size ≤ W3.heap.size ∧ W3.heap[Bs]? = some (.cells #[.slice A n c] 32 (0, 0)) ∧ W3.heap[Bn]? = some (.cells #[.int .i64 2] 3 (0, 0)) from
        ⟨hJ3, Nat.le_trans hWs hO3.size, (hO3.block Bs (Array.getElem?_eq_some_iff.1 HB1.out).1 (fun h => (HS.out _ h).2 (by simp))).trans HB1.out, (hO3.block Bn (Array.getElem?_eq_some_iff.1 HB2.out).1 (fun h => (HS.out _ h).2 (by simp))).trans HB2.out⟩)
      have hcn3 : W3.cell? ⟨Bn, 0, none⟩ = some (.int .i64 2) := by simp [World.cell?, HN.out.2.2.2]
      clear hJ3 hO3 hcs1 hcs hcn hy hR q4 q5 q6 q7 q8 q9
      gi_wp2
      go_roundw
      case rel => exact ⟨k + 1, by omega, by congr 1, HN⟩
      case measure => simp [intOf]; omega
    · have hd : decide (2 * (k : Int) < (n : Int)) = false := by simp; omega
      gi_wp2
      go_end0
      obtain rfl : k = (n + 1) / 2 := by omega
      exact ⟨⟨_, rfl⟩, by rw [List.length_range]; exact HJk.out⟩
end Go.Proofs.Ytkplhmmajafflaa
