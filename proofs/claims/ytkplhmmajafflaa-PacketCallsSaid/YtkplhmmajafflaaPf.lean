import Derived.Test.YtkplhmmajafflaaPe
import Derived.Test.YtkplhmmajafflaaCat
/- Small tests: ports, groups, ranges. -/
namespace Go.Proofs.Ytkplhmmajafflaa
open Go.RowKit
set_option linter.unusedSimpArgs false
set_option linter.unusedVariables false

def portedB (p : Int) : Bool := p == 6 || p == 17
theorem Ported_any (p : Int) (W : World) : Calls Try.prog 16 #[.int .i64 p] W fun e w' => e = .returned (.bool (portedB p)) ∧ W = w' := by
  unfold portedB
  cases h6 : (p == 6)
  all_goals
    go_enter Try.func16, Try.ntmps16
    go_wp2_with fail
    go_ret
    exact ⟨rfl, rfl⟩
theorem Ported_val (p : Int) (b : Bool) (hb : portedB p = b) (W : World) : Calls Try.prog 16 #[.int .i64 p] W fun e w' => e = .returned (.bool b) ∧ W = w' := by subst hb; exact Ported_any p W
theorem rPorted_any (p : Int) (W : World) : Calls Try.prog 17 #[.int .i64 p] W fun e w' => e = .returned (.bool (portedB p)) ∧ W = w' := by
  unfold portedB
  cases h6 : (p == 6)
  all_goals
    go_enter Try.func17, Try.ntmps17
    go_wp2_with fail
    go_ret
    exact ⟨rfl, rfl⟩
theorem rPorted_val (p : Int) (b : Bool) (hb : portedB p = b) (W : World) : Calls Try.prog 17 #[.int .i64 p] W fun e w' => e = .returned (.bool b) ∧ W = w' := by subst hb; exact rPorted_any p W
def groupB (m : Int) : Bool := decide (m ≤ 281474976710655) && decide (m.toNat / 1099511627776 % 2 = 1)
theorem and_pow (m i : Nat) : m &&& 2 ^ i = m / 2 ^ i % 2 * 2 ^ i := by
  apply Nat.eq_of_testBit_eq
  intro j
  rw [Nat.testBit_and, Nat.testBit_two_pow]
  have h2 : m / 2 ^ i % 2 = 0 ∨ m / 2 ^ i % 2 = 1 := by omega
  by_cases hj : i = j
  · subst hj
    rcases h2 with h | h <;> simp [h, Nat.testBit_eq_decide_div_mod_eq, Nat.testBit_two_pow, Nat.div_self (Nat.two_pow_pos i)]
  · rcases h2 with h | h <;> simp [h, hj, Nat.testBit_two_pow]
theorem bit40 (m : Nat) (h : m < 18446744073709551616) : (bits BinOp.and IntKind.u64 (m : Int) 1099511627776 != 0) = decide (m / 1099511627776 % 2 = 1) := by
  rw [show (1099511627776 : Int) = ((1099511627776 : Nat) : Int) from rfl, u64_and_nat m 1099511627776 h (by omega), show 1099511627776 = 2 ^ 40 from rfl, and_pow]
  have h2 : m / 2 ^ 40 % 2 = 0 ∨ m / 2 ^ 40 % 2 = 1 := by omega
  rcases h2 with h | h <;> simp [h]
theorem bit40' (m : Nat) (h : m < 18446744073709551616) : (bits BinOp.and IntKind.u64 ((m : Int) / 1099511627776) 1 == 1) = decide (m / 1099511627776 % 2 = 1) := by
  rw [show (m : Int) / 1099511627776 = ((m / 1099511627776 : Nat) : Int) by omega, show (1 : Int) = ((1 : Nat) : Int) from rfl, u64_and_nat _ 1 (by omega) (by omega), Nat.and_one_is_mod]
  by_cases hq : m / 1099511627776 % 2 = 1
  · simp [hq]
  · simp [hq]; omega
theorem Multi_any (m : Int) (h0 : 0 ≤ m) (h1 : m < 18446744073709551616) (W : World) : Calls Try.prog 28 #[.int .u64 m] W fun e w' => e = .returned (.bool (groupB m)) ∧ W = w' := by
  obtain ⟨n, rfl⟩ := Int.eq_ofNat_of_zero_le h0
  unfold groupB
  rw [Int.toNat_natCast]
  have hb := bit40 n (by omega)
  cases hd : decide ((n : Int) ≤ 281474976710655)
  · go_enter Try.func28, Try.ntmps28
    go_wp2_with fail
    go_ret
    exact ⟨rfl, rfl⟩
  · go_enter Try.func28, Try.ntmps28
    go_wp2_with fail
    go_ret
    refine ⟨?_, rfl⟩
    simp
theorem rMulti_any (m : Int) (h0 : 0 ≤ m) (h1 : m < 18446744073709551616) (W : World) : Calls Try.prog 30 #[.int .u64 m] W fun e w' => e = .returned (.bool (groupB m)) ∧ W = w' := by
  obtain ⟨n, rfl⟩ := Int.eq_ofNat_of_zero_le h0
  unfold groupB
  rw [Int.toNat_natCast]
  have hb := bit40' n (by omega)
  cases hd : decide ((n : Int) ≤ 281474976710655)
  · go_enter Try.func30, Try.ntmps30
    go_wp2_with fail
    go_ret
    exact ⟨rfl, rfl⟩
  · go_enter Try.func30, Try.ntmps30
    go_wp2_with fail
    go_ret
    refine ⟨?_, rfl⟩
    simp
theorem Multi_val (m : Int) (h0 : 0 ≤ m) (h1 : m < 18446744073709551616) (b : Bool) (hb : groupB m = b) (W : World) : Calls Try.prog 28 #[.int .u64 m] W fun e w' => e = .returned (.bool b) ∧ W = w' := by subst hb; exact Multi_any m h0 h1 W
theorem rMulti_val (m : Int) (h0 : 0 ≤ m) (h1 : m < 18446744073709551616) (b : Bool) (hb : groupB m = b) (W : World) : Calls Try.prog 30 #[.int .u64 m] W fun e w' => e = .returned (.bool b) ∧ W = w' := by subst hb; exact rMulti_any m h0 h1 W
def fits (m x : Int) : Bool := !(decide (x < 0) || decide (m < x))
theorem within1_any (m x : Int) (g : Nat) (W : World) (hc : W.cell? ⟨g, 0, none⟩ = some (.int .i64 m)) :
    Calls Try.prog 40 #[.int .i64 x, .pointer (some ⟨g, 0, none⟩)] W fun e w' => e = .returned (.bool (!fits m x)) ∧ W = w' := by
  unfold fits
  rw [Bool.not_not]
  cases hd : decide (x < 0)
  all_goals
    go_enter Try.func40, Try.ntmps40
    go_wp2_with fail
    go_ret
    exact ⟨rfl, rfl⟩
/-- Where the first number lies that does not fit. -/
def firstOut (m : Int) (xs : List Int) : Int := if xs.all (fits m) = true then -1 else (xs.findIdx fun x => !fits m x : Nat)
theorem Index_any (m : Int) (g : Nat) (A : Option Addr) (n c : Nat) (xs : List Int) (W : World) (hs : Held W A (xs.map (Value.int .i64))) (hl : xs.length = n) (hn : n ≤ 1000) (hc : W.cell? ⟨g, 0, none⟩ = some (.int .i64 m)) :
    Calls Try.prog 45 #[.slice A n c, .func (.func 40) #[] #[.pointer (some ⟨g, 0, none⟩)]] W fun e w' => e = .returned (.int .i64 (firstOut m xs)) ∧ W = w' := by
  have HS := Lib.hid hs
  have HL := Lib.hid hl
  have HC := Lib.hid hc
  clear hs hl hc
  go_enter Try.func45, Try.ntmps45
  go_wp2_with fail
  go_loop [8] (fun i => ∃ k : Nat, k ≤ n ∧ i = .int .i64 k ∧ Hid ((xs.take k).all (fits m) = true)) (fun i => n - (intOf i).toNat)
  case atStart => exact ⟨0, by omega, rfl, by simp [Hid]⟩
  case round =>
    obtain ⟨k, hk, rfl, hI⟩ := hrel
    by_cases hlt : k < n
    · obtain ⟨x, hx⟩ : ∃ x, xs[k]? = some x := ⟨xs[k]'(by rw [HL.out]; exact hlt), List.getElem?_eq_getElem _⟩
      obtain ⟨blk, off, rfl, _, hcell⟩ := held_at HS.out (j := k) (u := .int .i64 x) (by simp [hx])
      have HX := Lib.hid hx
      have HT := Lib.hid (show xs.take (k + 1) = xs.take k ++ [x] by rw [List.take_add_one, hx]; rfl)
      have q0 : (0 : Int) ≤ (k : Int) := by omega
      have q1 : (k : Int) < (n : Int) := by omega
      clear hx
      obtain ⟨b, hb⟩ : ∃ b, fits m x = b := ⟨_, rfl⟩
      have HB := Lib.hid hb
      clear hb
      cases b
      · go_wp2_with (go_at_call 40; refine (within1_any m x g _ HC.out).mono ?_; rintro e w1 ⟨rfl, rfl⟩; rw [HB.out])
        go_ret
        refine ⟨?_, rfl⟩
        have hlt' : k < xs.length := by rw [HL.out]; exact hlt
        have hxk : xs[k] = x := by have := HX.out; rw [List.getElem?_eq_getElem hlt'] at this; exact Option.some.inj this
        have hna : ¬ xs.all (fits m) = true := by
          intro h
          have := List.all_eq_true.1 h x (by rw [← hxk]; exact List.getElem_mem _)
          rw [HB.out] at this; cases this
        have hidx : (xs.findIdx fun x => !fits m x) = k := by
          refine (List.findIdx_eq hlt').2 ⟨by rw [hxk, HB.out]; rfl, fun j hj => ?_⟩
          have := List.all_eq_true.1 hI.out (xs[j]'(by omega)) (by rw [List.mem_take_iff_getElem]; exact ⟨j, by omega, rfl⟩)
          simp [this]
        unfold firstOut
        rw [if_neg hna, hidx]
        rfl
      · go_wp2_with (go_at_call 40; refine (within1_any m x g _ HC.out).mono ?_; rintro e w1 ⟨rfl, rfl⟩; rw [HB.out])
        go_round
        case rel => exact ⟨k + 1, by omega, by go_num, by rw [HT.out]; simp only [Hid, List.all_append, hI.out, List.all_cons, HB.out, List.all_nil, Bool.and_self]⟩
        case measure => simp [intOf]; omega
    · go_wp2_with fail
      go_ret
      obtain rfl : k = n := by omega
      have := hI.out
      rw [List.take_of_length_le (by rw [HL.out]; exact Nat.le_refl _)] at this
      refine ⟨?_, rfl⟩
      unfold firstOut
      rw [if_pos this]
      rfl
theorem Contains_any (m : Int) (g : Nat) (A : Option Addr) (n c : Nat) (xs : List Int) (W : World) (hs : Held W A (xs.map (Value.int .i64))) (hl : xs.length = n) (hn : n ≤ 1000) (hc : W.cell? ⟨g, 0, none⟩ = some (.int .i64 m)) :
    Calls Try.prog 39 #[.slice A n c, .func (.func 40) #[] #[.pointer (some ⟨g, 0, none⟩)]] W fun e w' => e = .returned (.bool (!xs.all (fits m))) ∧ W = w' := by
  have hd : decide (0 ≤ firstOut m xs) = !xs.all (fits m) := by
    unfold firstOut
    cases h : xs.all (fits m)
    · simp
    · simp
  go_enter Try.func39, Try.ntmps39
  go_wp2_with (go_at_call 45; refine (Index_any m g A n c xs _ hs hl hn hc).mono ?_; rintro e w1 ⟨rfl, rfl⟩)
  go_ret
  exact ⟨by simp [hd], rfl⟩
theorem within_any (m : Int) (A : Option Addr) (n c : Nat) (xs : List Int) (W : World) (hs : Held W A (xs.map (Value.int .i64))) (hl : xs.length = n) (hn : n ≤ 1000) :
    Calls Try.prog 29 #[.int .i64 m, .slice A n c] W fun e w' => e = .returned (.bool (xs.all (fits m))) ∧ Below W.heap.size W w' := by
  have HS := Lib.hid (hs.alloc (.cells #[.int .i64 m] 3))
  have HL := Lib.hid hl
  clear hs hl
  go_enter Try.func29, Try.ntmps29
  go_wp2_with (go_at_call 39; refine (Contains_any m _ A n c xs _ HS.out HL.out hn (by simp [new_cell])).mono ?_; rintro e w1 ⟨rfl, rfl⟩)
  go_ret
  exact ⟨by simp, (Below.refl _ _).alloc (Nat.le_refl _) _⟩
end Go.Proofs.Ytkplhmmajafflaa
