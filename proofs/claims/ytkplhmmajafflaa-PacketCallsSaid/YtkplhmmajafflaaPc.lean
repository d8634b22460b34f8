import Derived.Test.YtkplhmmajafflaaPb
import Derived.Laws.AppendOwn
/- Addresses appended; two bytes written in place. -/
namespace Go.Proofs.Ytkplhmmajafflaa
open Go.RowKit
set_option linter.unusedSimpArgs false
set_option linter.unusedVariables false

@[go_sem ↓ high] theorem part_lh (w : World) (A : Option Addr) (n c : Nat) (kl kh : IntKind) (l h : Int) (h0 : 0 ≤ l) (h1 : l ≤ h) (h2 : h ≤ c) : (Instr.slice 32 (.slice A n c) (some (.int kl l)) (some (.int kh h)) none).run Try.prog w = .ok (.slice (partA A c l.toNat) (h.toNat - l.toNat) (c - l.toNat)) w :=
  run_part_lh Try.underlying32 (fun w => by kernel_rfl) w A n c kl kh l h h0 h1 h2
@[go_sem ↓ high] theorem part_h (w : World) (A : Option Addr) (n c : Nat) (kh : IntKind) (h : Int) (h1 : 0 ≤ h) (h2 : h ≤ c) : (Instr.slice 32 (.slice A n c) none (some (.int kh h)) none).run Try.prog w = .ok (.slice A h.toNat c) w :=
  run_part_h Try.underlying32 (fun w => by kernel_rfl) w A n c kh h h1 h2
@[go_sem ↓ high] theorem part_l (w : World) (A : Option Addr) (n c : Nat) (kl : IntKind) (l : Int) (h0 : 0 ≤ l) (h1 : l ≤ n) : (Instr.slice 32 (.slice A n c) (some (.int kl l)) none none).run Try.prog w = .ok (.slice (partA A c l.toNat) (n - l.toNat) (c - l.toNat)) w :=
  run_part_l Try.underlying32 (fun w => by kernel_rfl) w A n c kl l h0 h1

theorem be_drop (n k j : Nat) (h : j ≤ k) : (be n k).drop j = be n (k - j) := by
  apply List.ext_getElem?
  intro i
  rw [List.getElem?_drop]
  simp only [be, List.getElem?_map]
  by_cases hi : i < k - j
  · rw [List.getElem?_range (by omega), List.getElem?_range hi]
    simp only [Option.map_some]
    rw [show k - 1 - (j + i) = k - j - 1 - i by omega]
  · rw [List.getElem?_eq_none (by simp; omega), List.getElem?_eq_none (by simp; omega)]
    rfl
/-- The rest of a slice. -/
theorem IsBy.rest {w : World} {A : Option Addr} {n c l : Nat} {bs : List UInt8} (hb : IsBy w A n bs) (h1 : l ≤ n) (h3 : n ≤ c) : IsBy w (partA A c l) (n - l) (bs.drop l) := by
  have h := hb.part h1 (Nat.le_refl n) h3
  rwa [List.take_of_length_le (by rw [List.length_drop, hb.len]; exact Nat.le_refl _)] at h

set_option maxRecDepth 100000 in
set_option maxHeartbeats 1000000 in
theorem mac_any (base : Nat) (v : Value) (xs : List UInt8) (m : Int) (W : World) (h : OwnBy W base v xs) (h0 : 0 ≤ m) (h1 : m < 18446744073709551616) (hx : xs.length ≤ 100000) (hbase : base ≤ W.heap.size) :
    Calls Try.prog 23 #[v, .int .u64 m] W fun e w' => ∃ v', e = .returned v' ∧ Put base v v' xs (be m.toNat 6) W w' := by
  obtain ⟨n, rfl⟩ := Int.eq_ofNat_of_zero_le h0
  obtain ⟨i0, hi0, hz0, hz1, hz2⟩ := info_parts info_u8
  have H := Lib.hid h
  have hn : n < 256 ^ 8 := by omega
  rw [Int.toNat_natCast]
  clear h h0 h1
  go_enter Try.func23, Try.ntmps23
  go_wp2_with (first | (at_builtin; refine Hid.out ?_) | (go_at_call 25; refine (put64_any W.heap.size (.slice none 0 0) [] n _ OwnBy.nil hn (by simp) (Nat.le_refl _)).mono ?_; rintro e w1 ⟨v1, rfl, hp⟩; obtain ⟨A1, c1, rfl, hc1, hb1, _⟩ := hp.own.isbyn (n := 8) (by simp [be_len]); have HP := Lib.hid hp; have HB := Lib.hid hb1; clear hp hb1))
  have hw1 : Below W.heap.size W w1 := HP.out.fresh rfl
  have hsrc : IsBy w1 (partA A1 c1 2) 6 (be n 6) := by
    have := (HB.out).rest (c := c1) (l := 2) (by omega) hc1
    simpa [be_drop] using this
  have hl6 : (be n 6).length = 6 := be_len _ _
  refine Lib.hid ?_
  refine wpList_append_held _ rfl (.tmp 5) (.tmp 8) _ rfl base 5 i0 _ 1 1 Try.underlying32 hi0 hz0 hz1 hz2 rfl (by omega) _ _ _ rfl (owns_below H.out hw1) (partA A1 c1 2) 6 (c1 - 2) ((be n 6).map byv) rfl (by simp [be_len]) hsrc.held (byv_one _) (by simp only [maxLen]; omega) (by omega) (Nat.le_trans hbase hw1.size) ?_
  intro v2 w2 hown2 hg2 hat2
  have HW := Lib.hid (put_of_append (zs := be n 6) (Put.refl H.out hw1) (Below.refl _ _) hg2 (by simpa [be_len] using hown2) hat2)
  clear hown2 hg2 hat2 hsrc hl6
  go_wp2_with fail
  go_ret
  exact ⟨_, rfl, by simpa using HW.out⟩
end Go.Proofs.Ytkplhmmajafflaa
