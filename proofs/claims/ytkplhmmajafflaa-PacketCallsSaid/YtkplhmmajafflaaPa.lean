import Derived.Test.YtkplhmmajafflaaTy
import Derived.Test.YtkplhmmajafflaaBytes
import Derived.WalkLawsBesides
import Derived.WalkSpells
import Derived.BigQuiet
import Derived.Deep.QuietTactic
import Derived.BigGuardPart
import Derived.Lib.Hide
import Derived.KernelRfl
import Derived.Outline
import Derived.Handy
import Derived.Deep.DeepCutAuto
import Derived.Deep.RegionHeld3
import Derived.Deep.AppendLies
import Derived.Deep.DrawnRows
import Derived.Deep.RegionLaw
import Derived.BigRegion
/- Numbers read from bytes. -/
namespace Go.Proofs.Ytkplhmmajafflaa
open Go.RowKit
set_option linter.unusedSimpArgs false
set_option linter.unusedVariables false

theorem numOf_small {l : List UInt8} {k : Nat} (h : l.length ≤ k) : numOf l < 256 ^ k := Nat.lt_of_lt_of_le (numOf_lt l) (Nat.pow_le_pow_right (by omega) h)
theorem number_any (A : Option Addr) (n c : Nat) (bs : List UInt8) (W : World) (h : IsBy W A n bs) (hn : n ≤ 8) :
    Calls Try.prog 43 #[.slice A n c] W fun e w' => e = .returned (.int .u64 (numOf bs)) ∧ W = w' := by
  have HH := Lib.hid h.held
  have HL := Lib.hid h.len
  clear h
  go_enter Try.func43, Try.ntmps43
  go_wp2_with fail
  go_loop [3, 8] (fun m i => ∃ j : Nat, j ≤ n ∧ i = .int .i64 j ∧ m = .int .u64 (numOf (bs.take j))) (fun _ i => n - (intOf i).toNat)
  case atStart => exact ⟨0, by omega, rfl, rfl⟩
  case round =>
    obtain ⟨j, hj, rfl, rfl⟩ := hrel
    by_cases hlt : j < n
    · obtain ⟨x, hx⟩ : ∃ x, bs[j]? = some x := ⟨bs[j]'(by rw [HL.out]; exact hlt), List.getElem?_eq_getElem _⟩
      obtain ⟨blk, off, rfl, _, hcell⟩ := held_at HH.out (j := j) (u := byv x) (by simp [hx])
      have hcell1 : W.cell? ⟨blk, off + j, none⟩ = some (.int .u8 x.toNat) := hcell
      have hxl := x.toNat_lt
      have HS := Lib.hid (show bs.take (j + 1) = bs.take j ++ [x] by rw [List.take_add_one, hx]; rfl)
      have hm56 : numOf (bs.take j) < 72057594037927936 := numOf_small (k := 7) (by simp; omega)
      have HJ := Lib.hid (u64_join (numOf (bs.take j)) x.toNat hm56 hxl)
      obtain ⟨m, hm⟩ : ∃ m, numOf (bs.take j) = m := ⟨_, rfl⟩
      rw [hm] at HJ ⊢
      have HM := Lib.hid hm
      clear hm hm56 hcell hx
      go_wp2_with fail
      go_round
      case rel => exact ⟨j + 1, by omega, by go_num, by rw [HS.out, numOf_snoc, HM.out, HJ.out]⟩
      case measure => simp [intOf]; omega
    · go_wp2_with fail
      go_ret
      obtain rfl : j = n := by omega
      exact ⟨by rw [List.take_of_length_le (by rw [HL.out]; exact Nat.le_refl _)]; rfl, rfl⟩

theorem u16_of {m : Nat} (h : m < 65536) : IntKind.u16.wrap (m : Int) = m := IntWalk.u16_in _ (by omega)
theorem u32_of {m : Nat} (h : m < 4294967296) : IntKind.u32.wrap (m : Int) = m := IntWalk.u32_in _ (by omega)
theorem u64_of {m : Nat} (h : m < 18446744073709551616) : IntKind.u64.wrap (m : Int) = m := IntWalk.u64_in _ (by omega)
theorem IsBy.first {w : World} {A : Option Addr} {n : Nat} {bs : List UInt8} (h : IsBy w A n bs) {k : Nat} (hk : k ≤ n) : IsBy w A k (bs.take k) :=
  ⟨(fun hp => by
    obtain ⟨b, off, hA, hlt, hc⟩ := h.held (by simp at hp ⊢; omega)
    refine ⟨b, off, hA, hlt, fun j u hj => hc j u ?_⟩
    rw [List.map_take, List.getElem?_take] at hj
    split at hj
    · exact hj
    · simp at hj), by simp [h.len]; omega⟩
theorem get16_any (A : Option Addr) (n c : Nat) (bs : List UInt8) (W : World) (h : IsBy W A n bs) (hn : 2 ≤ n) (hc : n ≤ c) :
    Calls Try.prog 33 #[.slice A n c] W fun e w' => e = .returned (.int .u16 (numOf (bs.take 2))) ∧ W = w' := by
  have H := Lib.hid (h.first hn)
  have hq := Lib.hid (u16_of (numOf_small (l := bs.take 2) (k := 2) (by simp; omega)))
  clear h
  go_enter Try.func33, Try.ntmps33
  go_wp2_with (go_at_call 43; refine (number_any _ 2 _ _ _ H.out (by omega)).mono ?_; rintro e w1 ⟨rfl, rfl⟩)
  go_ret
  exact ⟨by rw [hq.out]; rfl, rfl⟩
theorem get32_any (A : Option Addr) (n c : Nat) (bs : List UInt8) (W : World) (h : IsBy W A n bs) (hn : 4 ≤ n) (hc : n ≤ c) :
    Calls Try.prog 44 #[.slice A n c] W fun e w' => e = .returned (.int .u32 (numOf (bs.take 4))) ∧ W = w' := by
  have H := Lib.hid (h.first hn)
  have hq0 := numOf_small (l := bs.take 4) (k := 4) (by simp; omega)
  have hq := Lib.hid (show (numOf (bs.take 4) : Int) % 4294967296 = numOf (bs.take 4) by omega)
  clear hq0
  clear h
  go_enter Try.func44, Try.ntmps44
  go_wp2_with (go_at_call 43; refine (number_any _ 4 _ _ _ H.out (by omega)).mono ?_; rintro e w1 ⟨rfl, rfl⟩)
  go_ret
  exact ⟨congrArg (fun x => Ending.returned (.int .u32 x)) hq.out, rfl⟩
theorem get64_any (A : Option Addr) (n c : Nat) (bs : List UInt8) (W : World) (h : IsBy W A n bs) (hn : 8 ≤ n) (hc : n ≤ c) :
    Calls Try.prog 35 #[.slice A n c] W fun e w' => e = .returned (.int .u64 (numOf (bs.take 8))) ∧ W = w' := by
  have H := Lib.hid (h.first hn)
  clear h
  go_enter Try.func35, Try.ntmps35
  go_wp2_with (go_at_call 43; refine (number_any _ 8 _ _ _ H.out (by omega)).mono ?_; rintro e w1 ⟨rfl, rfl⟩)
  go_ret
  exact ⟨rfl, rfl⟩
theorem toIP_any (A : Option Addr) (n c : Nat) (bs : List UInt8) (W : World) (h : IsBy W A n bs) (hn : 4 ≤ n) (hc : n ≤ c) :
    Calls Try.prog 34 #[.slice A n c] W fun e w' => e = .returned (.int .u32 (numOf (bs.take 4))) ∧ W = w' := by
  have H := Lib.hid h
  clear h
  go_enter Try.func34, Try.ntmps34
  go_wp2_with (go_at_call 44; refine (get32_any _ n _ _ _ H.out hn hc).mono ?_; rintro e w1 ⟨rfl, rfl⟩)
  go_ret
  exact ⟨rfl, rfl⟩
end Go.Proofs.Ytkplhmmajafflaa
