import Derived.Test.YtkplhmmajafflaaPe
/- The reference's Sum and Take. -/
namespace Go.Proofs.Ytkplhmmajafflaa
open Go.RowKit
set_option linter.unusedSimpArgs false
set_option linter.unusedVariables false

def rpart (bs : List UInt8) (i : Nat) : Nat := part bs (i / 2) + if i % 2 = 1 then (bs.getD (i - 1) 0).toNat * 256 else 0
theorem wordAt_two (bs : List UInt8) (k : Nat) (x y : UInt8) (hx : bs[2 * k]? = some x) (hy : bs.getD (2 * k + 1) 0 = y) : wordAt bs k = x.toNat * 256 + y.toNat := by
  unfold wordAt pairOf
  have h1 : bs.drop (2 * k) = x :: bs.drop (2 * k + 1) := by
    obtain ⟨h, rfl⟩ := List.getElem?_eq_some_iff.1 hx
    exact List.drop_eq_getElem_cons h
  rw [h1]
  cases hz : bs[2 * k + 1]? with
  | none =>
    have h2 : bs.drop (2 * k + 1) = [] := List.drop_eq_nil_of_le (List.getElem?_eq_none_iff.1 hz)
    have : y = 0 := by rw [← hy, List.getD_eq_getElem?_getD, hz]; rfl
    subst this
    rw [h2]
    simp [numOf]
  | some z =>
    have h2 : bs.drop (2 * k + 1) = z :: bs.drop (2 * k + 2) := by
      obtain ⟨h, rfl⟩ := List.getElem?_eq_some_iff.1 hz
      exact List.drop_eq_getElem_cons h
    have : y = z := by rw [← hy, List.getD_eq_getElem?_getD, hz]; rfl
    subst this
    rw [h2]
    simp [numOf]
theorem rpart_even (bs : List UInt8) (i : Nat) (x : UInt8) (hx : bs[i]? = some x) (h : i % 2 = 0) : rpart bs (i + 1) = rpart bs i + x.toNat * 256 := by
  unfold rpart
  rw [if_pos (by omega), if_neg (by omega), show (i + 1) / 2 = i / 2 by omega, Nat.add_sub_cancel, List.getD_eq_getElem?_getD, hx]
  rfl
theorem rpart_odd (bs : List UInt8) (i : Nat) (x : UInt8) (hx : bs[i]? = some x) (h : i % 2 = 1) : rpart bs (i + 1) = rpart bs i + x.toNat := by
  unfold rpart
  rw [if_neg (by omega), if_pos h, show (i + 1) / 2 = i / 2 + 1 by omega, part_succ]
  obtain ⟨y, hy⟩ : ∃ y, bs[i - 1]? = some y := ⟨bs[i - 1]'(by have := (List.getElem?_eq_some_iff.1 hx).1; omega), List.getElem?_eq_getElem _⟩
  rw [wordAt_two bs (i / 2) y x (by rw [show 2 * (i / 2) = i - 1 by omega]; exact hy) (by rw [show 2 * (i / 2) + 1 = i by omega, List.getD_eq_getElem?_getD, hx]; rfl), List.getD_eq_getElem?_getD, hy]
  simp only [Option.getD_some]
  omega
theorem rpart_end (bs : List UInt8) : rpart bs bs.length = totalOf bs := by
  unfold rpart totalOf
  by_cases h : bs.length % 2 = 1
  · rw [if_pos h, show (bs.length + 1) / 2 = bs.length / 2 + 1 by omega, part_succ]
    obtain ⟨y, hy⟩ : ∃ y, bs[bs.length - 1]? = some y := ⟨bs[bs.length - 1]'(by omega), List.getElem?_eq_getElem _⟩
    rw [wordAt_two bs (bs.length / 2) y 0 (by rw [show 2 * (bs.length / 2) = bs.length - 1 by omega]; exact hy) (by rw [show 2 * (bs.length / 2) + 1 = bs.length by omega, List.getD_eq_getElem?_getD, List.getElem?_eq_none (Nat.le_refl _)]; rfl), List.getD_eq_getElem?_getD, hy]
    simp
  · rw [if_neg h, show (bs.length + 1) / 2 = bs.length / 2 by omega]
    rfl
theorem rpart_le (bs : List UInt8) (i : Nat) : rpart bs i ≤ 65535 * (i + 1) := by
  unfold rpart
  have := part_le bs (i / 2)
  have h2 := (bs.getD (i - 1) 0).toNat_lt
  split <;> omega
set_option maxRecDepth 100000 in
set_option maxHeartbeats 1000000 in
theorem rSum_any (A : Option Addr) (n c : Nat) (bs : List UInt8) (W : World) (hby : IsBy W A n bs) (hn : n ≤ 1000000) :
    Calls Try.prog 15 #[.slice A n c] W fun e w' => e = .returned (.int .u16 (sumL bs)) ∧ W = w' := by
  have HH := Lib.hid hby.held
  have HL := Lib.hid hby.len
  clear hby
  go_enter Try.func15, Try.ntmps15
  go_wp2_with fail
  go_loop [3, 4] (fun s i => ∃ k : Nat, k ≤ n ∧ i = .int .i64 k ∧ s = .int .u64 (rpart bs k)) (fun _ i => n - (intOf i).toNat)
  case atStart => exact ⟨0, by omega, rfl, rfl⟩
  case round =>
    obtain ⟨k, hk, rfl, rfl⟩ := hrel
    have hle := rpart_le bs k
    by_cases hlt : k < n
    · obtain ⟨x, hx⟩ : ∃ x, bs[k]? = some x := ⟨bs[k]'(by rw [HL.out]; exact hlt), List.getElem?_eq_getElem _⟩
      obtain ⟨blk, off, rfl, _, hcell⟩ := held_at HH.out (j := k) (u := byv x) (by simp [hx])
      have hcell1 : W.cell? ⟨blk, off + k, none⟩ = some (.int .u8 x.toNat) := hcell
      have hxl := x.toNat_lt
      have HX := Lib.hid hx
      clear hx hcell
      obtain ⟨m, hm⟩ : ∃ m, rpart bs k = m := ⟨_, rfl⟩
      rw [hm] at hle ⊢
      have HM := Lib.hid hm
      clear hm
      by_cases hev : k % 2 = 0
      · have hq : ((k : Int) % 2 == 0) = true := by simp; omega
        have HE := Lib.hid (rpart_even bs k x HX.out hev)
        clear hev
        go_wp2_with fail
        go_round
        case rel => exact ⟨k + 1, by omega, by go_num, by rw [HE.out, HM.out]; go_num⟩
        case measure => simp [intOf]; omega
      · have hq : ((k : Int) % 2 == 0) = false := by simp; omega
        have HE := Lib.hid (rpart_odd bs k x HX.out (by omega))
        clear hev
        go_wp2_with fail
        go_round
        case rel => exact ⟨k + 1, by omega, by go_num, by rw [HE.out, HM.out]; go_num⟩
        case measure => simp [intOf]; omega
    · obtain rfl : n = k := by omega
      have hend : rpart bs n = totalOf bs := by rw [← HL.out]; exact rpart_end bs
      rw [hend] at hle ⊢
      obtain ⟨s0, hs0⟩ : ∃ s0, totalOf bs = s0 := ⟨_, rfl⟩
      have HT := Lib.hid (show sumL bs = 65535 - csum s0 by unfold sumL; rw [hs0])
      rw [hs0] at hle ⊢
      clear hs0 hend hlt
      go_wp2_with fail
      go_loop [3] (fun v => ∃ s : Nat, s ≤ 65535 * 1000001 ∧ Hid (csum s = csum s0) ∧ v = .int .u64 s) (fun v => (intOf v).toNat)
      case atStart => exact ⟨s0, by omega, rfl, rfl⟩
      case round =>
        obtain ⟨s, hsb, hcs, rfl⟩ := hrel
        by_cases hbig : 65535 < s
        · have hq : decide ((65535 : Int) < (s : Int)) = true := by simp; omega
          have hv : IntKind.u64.wrap (bits BinOp.and IntKind.u64 (s : Int) 65535 + (s : Int) / 65536) = ((s % 65536 + s / 65536 : Nat) : Int) := by
            rw [u64_low s (by omega), IntWalk.u64_in _ (by omega)]
            omega
          have HV := Lib.hid hv
          have HC := Lib.hid (csum_fold s)
          clear hv
          go_wp2_with fail
          go_round
          case rel => exact ⟨s % 65536 + s / 65536, by omega, HC.out.trans hcs, by rw [HV.out]⟩
          case measure => rw [HV.out]; simp [intOf]; omega
        · have hq : decide ((65535 : Int) < (s : Int)) = false := by simp; omega
          have HN := Lib.hid (u16_not s (by omega))
          have hcm := csum_small (s := s) (by omega)
          have HC := Lib.hid (show sumL bs = 65535 - s by rw [HT.out, ← hcs.out, hcm])
          clear hcm
          go_wp2_with fail
          go_ret
          refine ⟨?_, rfl⟩
          rw [HC.out]
          show Ending.returned (.int .u16 (bits BinOp.xor IntKind.u16 IntKind.u16.max (s : Int))) = _
          rw [HN.out]
set_option maxHeartbeats 1000000 in
theorem take_any (A : Option Addr) (n c : Nat) (bs : List UInt8) (at' size : Nat) (W : World) (h : IsBy W A n bs) (hs : size ≤ 8) (hn : at' + size ≤ n) (hsm : n ≤ 1000000) :
    Calls Try.prog 37 #[.slice A n c, .int .i64 at', .int .i64 size] W fun e w' => e = .returned (.int .u64 (numOf ((bs.drop at').take size))) ∧ W = w' := by
  have HH := Lib.hid h.held
  have HL := Lib.hid h.len
  clear h
  go_enter Try.func37, Try.ntmps37
  go_wp2_with fail
  go_loop [7, 8] (fun m i => ∃ j : Nat, j ≤ size ∧ i = .int .i64 j ∧ m = .int .u64 (numOf ((bs.drop at').take j))) (fun _ i => size - (intOf i).toNat)
  case atStart => exact ⟨0, by omega, rfl, rfl⟩
  case round =>
    obtain ⟨j, hj, rfl, rfl⟩ := hrel
    by_cases hlt : j < size
    · obtain ⟨x, hx⟩ : ∃ x, bs[at' + j]? = some x := ⟨bs[at' + j]'(by rw [HL.out]; omega), List.getElem?_eq_getElem _⟩
      obtain ⟨blk, off, rfl, _, hcell⟩ := held_at HH.out (j := at' + j) (u := byv x) (by simp [hx])
      have hcell1 : W.cell? ⟨blk, off + (at' + j), none⟩ = some (.int .u8 x.toNat) := hcell
      have hxl := x.toNat_lt
      have HS := Lib.hid (show (bs.drop at').take (j + 1) = (bs.drop at').take j ++ [x] by rw [List.take_add_one, List.getElem?_drop, hx]; rfl)
      have hm56 : numOf ((bs.drop at').take j) < 72057594037927936 := numOf_small (k := 7) (by simp; omega)
      obtain ⟨m, hm⟩ : ∃ m, numOf ((bs.drop at').take j) = m := ⟨_, rfl⟩
      rw [hm] at hm56 ⊢
      have HM := Lib.hid hm
      have hix : ((at' : Int) + (j : Int)).toNat = at' + j := by omega
      clear hm hcell hx
      go_wp2_with fail
      go_round
      case rel => exact ⟨j + 1, by omega, by go_num, by rw [HS.out, numOf_snoc, HM.out]; go_num⟩
      case measure => simp [intOf]; omega
    · go_wp2_with fail
      go_ret
      obtain rfl : j = size := by omega
      exact ⟨rfl, rfl⟩
end Go.Proofs.Ytkplhmmajafflaa
