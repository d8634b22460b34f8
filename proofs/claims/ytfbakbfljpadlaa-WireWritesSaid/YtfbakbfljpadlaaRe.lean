import Derived.Test.YtfbakbfljpadlaaRd
import Derived.Test.YtfbakbfljpadlaaBytes
/- Contracts of the readers of package wire: what reads bytes. -/
namespace Go.Proofs.Ytfbakbfljpadlaa
open Go.RowKit
set_option linter.unusedSimpArgs false
set_option linter.unusedVariables false

theorem Fault_any (r : Rd) (g : Nat) (W : World) (h : RdAt W g r) : Calls Try.prog 18 #[.pointer (some ⟨g, 0, none⟩)] W fun e w' => e = .returned (.agg #[.int .i64 r.er, .int .i64 r.fa]) ∧ Below W.heap.size W w' := by
  have H := Lib.hid h
  have hg := h.lt
  have hc3 : W.cell? ⟨g, 3, none⟩ = some (.int .i64 r.er) := h.cell 3
  have hc4 : W.cell? ⟨g, 4, none⟩ = some (.int .i64 r.fa) := h.cell 4
  clear h
  go_enter Try.func18, Try.ntmps18
  go_wp2_with (go_at_call 49; refine (made_any r g _ (H.out.below ((Below.refl _ _).alloc (Nat.le_refl _) _))).mono ?_; rintro e w1 ⟨rfl, rfl⟩)
  refine bodyPost_ret (v := .agg #[.int .i64 r.er, .int .i64 r.fa]) (by simp [results, Try.results18, go_sem]) rfl ⟨rfl, (Below.refl _ _).alloc (Nat.le_refl _) _⟩

theorem byte_apart {W : World} {g b i : Nat} {r : Rd} {x : UInt8} (h : RdAt W g r) (hc : W.cell? ⟨b, i, none⟩ = some (byv x)) : b ≠ g := by
  rintro rfl
  rw [h.cell] at hc
  unfold Rd.cs byv at hc
  match i, hc with
  | 0, hc | 1, hc | 2, hc | 3, hc | 4, hc | 5, hc => simp at hc
  | i + 6, hc => simp at hc
/-- The bytes of a reader. -/
structure Bys (W : World) (r : Rd) (bs : List UInt8) : Prop where
  held : Held W r.b.a (bs.map byv)
  len : bs.length = r.b.n

set_option maxRecDepth 100000 in
theorem get_ok (r : Rd) (bs : List UInt8) (k : Nat) (g : Nat) (W : World) (h : RdAt W g r) (hr : r.ok) (hB : Bys W r bs) (h0 : r.er = 0) (hk : 1 ≤ k) (hk8 : k ≤ 8) (hn2 : r.p + k ≤ r.e) :
    Calls Try.prog 52 #[.pointer (some ⟨g, 0, none⟩), .int .i64 k] W fun e w' => e = .returned (.int .u64 (numOf ((bs.drop r.p).take k))) ∧ Turned g { r with p := r.p + k } W w' := by
  have T := take_ok r k g W h hr h0 hn2
  obtain ⟨p, e, ⟨ba, bn, bc⟩, er, fa⟩ := r
  obtain ⟨b2, b3, b4, b5⟩ := hr
  have hlen := hB.len
  have hheld := hB.held
  simp only at b2 b3 b4 b5 hlen h0 hn2 T hheld ⊢
  have HB := Lib.hid hB
  have HL := Lib.hid hlen
  have HT := Lib.hid T
  have H := Lib.hid h
  obtain ⟨blk, off, rfl, hblt, hcs⟩ := hheld (by simp; omega)
  have HC := Lib.hid hcs
  clear hB hlen T h hcs hheld h0
  go_enter Try.func52, Try.ntmps52
  go_wp2_with (go_at_call 51; refine HT.out.mono ?_; rintro e w1 ⟨rfl, ht⟩; have hc2 := ht.2.cell 2; simp only [Rd.cs] at hc2; simp at hc2)
  go_loop [7, 28] (fun n i => ∃ j : Nat, j ≤ k ∧ i = .int .i64 j ∧ n = .int .u64 (numOf ((bs.drop p).take j))) (fun _ i => k - (intOf i).toNat)
  case atStart => exact ⟨0, by omega, rfl, rfl⟩
  case round =>
    obtain ⟨j, hj, rfl, rfl⟩ := hrel
    by_cases hlt : j < k
    · obtain ⟨x, hx⟩ : ∃ x, bs[p + j]? = some x := ⟨bs[p + j]'(by rw [HL.out]; omega), List.getElem?_eq_getElem _⟩
      have hcell := HC.out (p + j) (byv x) (by simp [hx])
      have hgb : blk ≠ g := byte_apart H.out (HC.out (p + j) (byv x) (by simp [hx]))
      have hcell1 : w1.cell? ⟨blk, off + p + j, none⟩ = some (.int .u8 x.toNat) := by
        rw [World.cell?_of_block (w := W) (ht.1.block blk hblt (by simpa using hgb)), Nat.add_assoc]
        exact hcell
      have hxl := x.toNat_lt
      have hsn : (bs.drop p).take (j + 1) = (bs.drop p).take j ++ [x] := by
        rw [List.take_add_one, List.getElem?_drop, hx]; rfl
      have HS := Lib.hid hsn
      have hlt2 := numOf_lt ((bs.drop p).take j)
      have HX := Lib.hid hx
      obtain ⟨m, hm⟩ : ∃ m, numOf ((bs.drop p).take j) = m := ⟨_, rfl⟩
      have HM := Lib.hid hm
      clear hsn hx hcell
      have hm56 : m < 72057594037927936 := by
        have h1 : ((bs.drop p).take j).length ≤ 7 := by simp; omega
        have h2 : (256 : Nat) ^ ((bs.drop p).take j).length ≤ 256 ^ 7 := Nat.pow_le_pow_right (by omega) h1
        have h3 : (256 : Nat) ^ 7 = 72057594037927936 := by decide
        omega
      have HJ := Lib.hid (u64_join m x.toNat hm56 hxl)
      rw [hm]
      clear hm hlt2 hm56
      go_wp2_with fail
      go_round
      case rel => exact ⟨j + 1, by omega, by go_num, by rw [HS.out, numOf_snoc, HM.out, HJ.out]⟩
      case measure => simp [intOf]; omega
    · go_wp2_with fail
      go_ret
      obtain rfl : j = k := by omega
      exact ⟨rfl, ht⟩

theorem get_err (r : Rd) (k : Nat) (g : Nat) (W : World) (h : RdAt W g r) (h0 : r.er ≠ 0) :
    Calls Try.prog 52 #[.pointer (some ⟨g, 0, none⟩), .int .i64 k] W fun e w' => e = .returned (.int .u64 0) ∧ W = w' := by
  have T := take_err r k g W h h0
  have HT := Lib.hid T
  clear T h h0
  go_enter Try.func52, Try.ntmps52
  go_wp2_with (go_at_call 51; refine HT.out.mono ?_; rintro e w1 ⟨rfl, rfl⟩)
  go_ret
  exact ⟨rfl, rfl⟩

theorem get_short (r : Rd) (k : Nat) (g : Nat) (W : World) (h : RdAt W g r) (hr : r.ok) (h0 : r.er = 0) (hn : r.e < r.p + k) :
    Calls Try.prog 52 #[.pointer (some ⟨g, 0, none⟩), .int .i64 k] W fun e w' => e = .returned (.int .u64 0) ∧ Turned g { r with er := 4, fa := r.p } W w' := by
  have T := take_short r k g W h hr h0 (.inr (by omega))
  have HT := Lib.hid T
  clear T h h0 hr hn
  go_enter Try.func52, Try.ntmps52
  go_wp2_with (go_at_call 51; refine HT.out.mono ?_; rintro e w1 ⟨rfl, ht⟩)
  go_ret
  exact ⟨rfl, ht⟩

/-- What a reader's number is, and the reader behind it. -/
def Rd.num (r : Rd) (bs : List UInt8) (k : Nat) : Nat := if r.er = 0 ∧ r.p + k ≤ r.e then numOf ((bs.drop r.p).take k) else 0
def Rd.past (r : Rd) (n : Int) : Rd := if r.er ≠ 0 then r else if 0 ≤ n ∧ (r.p : Int) + n ≤ r.e then { r with p := r.p + n.toNat } else { r with er := 4, fa := r.p }

theorem Rd.past_ok {r : Rd} (h : r.ok) (n : Int) : (r.past n).ok := by
  obtain ⟨h2, h3, h4, h5⟩ := h
  unfold Rd.past
  split
  · exact ⟨h2, h3, h4, h5⟩
  · split
    · exact ⟨by simp only; omega, h3, h4, h5⟩
    · exact ⟨h2, h3, h4, h5⟩
theorem Rd.past_b (r : Rd) (n : Int) : (r.past n).b = r.b ∧ (r.past n).e = r.e := by
  unfold Rd.past
  split
  · exact ⟨rfl, rfl⟩
  · split <;> exact ⟨rfl, rfl⟩

theorem get_any (r : Rd) (bs : List UInt8) (k : Nat) (g : Nat) (W : World) (h : RdAt W g r) (hr : r.ok) (hB : Bys W r bs) (hk : 1 ≤ k) (hk8 : k ≤ 8) :
    Calls Try.prog 52 #[.pointer (some ⟨g, 0, none⟩), .int .i64 k] W fun e w' => e = .returned (.int .u64 (r.num bs k)) ∧ Turned g (r.past k) W w' := by
  by_cases h0 : r.er = 0
  · by_cases hn : r.p + k ≤ r.e
    · refine (get_ok r bs k g W h hr hB h0 hk hk8 hn).mono fun e w' ⟨h1, h2⟩ => ?_
      have e1 : r.num bs k = numOf ((bs.drop r.p).take k) := by unfold Rd.num; rw [if_pos ⟨h0, hn⟩]
      have e2 : r.past k = { r with p := r.p + k } := by unfold Rd.past; rw [if_neg (by simpa using h0), if_pos ⟨by omega, by omega⟩]; rfl
      rw [e1, e2]
      exact ⟨h1, h2⟩
    · refine (get_short r k g W h hr h0 (by omega)).mono fun e w' ⟨h1, h2⟩ => ?_
      have e1 : r.num bs k = 0 := by unfold Rd.num; rw [if_neg (fun h => hn h.2)]
      have e2 : r.past k = { r with er := 4, fa := r.p } := by unfold Rd.past; rw [if_neg (by simpa using h0), if_neg (by omega)]
      rw [e1, e2]
      exact ⟨h1, h2⟩
  · refine (get_err r k g W h h0).mono fun e w' ⟨h1, h2⟩ => ?_
    have e1 : r.num bs k = 0 := by unfold Rd.num; rw [if_neg (fun h => h0 h.1)]
    have e2 : r.past k = r := by unfold Rd.past; rw [if_pos h0]
    rw [e1, e2, ← h2]
    exact ⟨h1, Only.refl _ _, h⟩

theorem take_any (r : Rd) (n : Int) (g : Nat) (W : World) (h : RdAt W g r) (hr : r.ok) :
    Calls Try.prog 51 #[.pointer (some ⟨g, 0, none⟩), .int .i64 n] W fun e w' => (e = if r.er = 0 ∧ 0 ≤ n ∧ (r.p : Int) + n ≤ r.e then .returned (.tuple #[.int .i64 r.p, .bool true]) else .returned (.tuple #[.int .i64 0, .bool false])) ∧ Turned g (r.past n) W w' := by
  by_cases h0 : r.er = 0
  · by_cases hn : 0 ≤ n ∧ (r.p : Int) + n ≤ r.e
    · obtain ⟨k, rfl⟩ := Int.eq_ofNat_of_zero_le hn.1
      refine (take_ok r k g W h hr h0 (by omega)).mono fun e w' ⟨h1, h2⟩ => ?_
      have e2 : r.past k = { r with p := r.p + k } := by unfold Rd.past; rw [if_neg (by simpa using h0), if_pos hn]; rfl
      rw [if_pos ⟨h0, hn⟩, e2]
      exact ⟨h1, h2⟩
    · refine (take_short r n g W h hr h0 (by omega)).mono fun e w' ⟨h1, h2⟩ => ?_
      have e2 : r.past n = { r with er := 4, fa := r.p } := by unfold Rd.past; rw [if_neg (by simpa using h0), if_neg hn]
      rw [if_neg (fun h => hn h.2), e2]
      exact ⟨h1, h2⟩
  · refine (take_err r n g W h h0).mono fun e w' ⟨h1, h2⟩ => ?_
    have e2 : r.past n = r := by unfold Rd.past; rw [if_pos h0]
    rw [if_neg (fun h => h0 h.1), e2, ← h2]
    exact ⟨h1, Only.refl _ _, h⟩
end Go.Proofs.Ytfbakbfljpadlaa
