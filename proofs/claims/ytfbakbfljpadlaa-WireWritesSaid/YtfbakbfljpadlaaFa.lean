import Derived.Test.YtfbakbfljpadlaaSa
import Derived.Test.YtfbakbfljpadlaaArgs
/- The walk of WireFaults. -/
namespace Go.Proofs.Ytfbakbfljpadlaa
open Go.RowKit
set_option linter.unusedSimpArgs false
set_option linter.unusedVariables false

/-- The sizes of numbers. -/
def sz : Nat → Nat
  | 0 => 1
  | 1 => 2
  | 2 => 3
  | 3 => 4
  | 4 => 6
  | _ => 8
theorem sz_bd (k : Nat) : 1 ≤ sz k ∧ sz k ≤ 8 := by
  unfold sz
  split <;> omega

theorem lget_any (k : Nat) (hk : k < 6) (r : Rd) (bs : List UInt8) (g : Nat) (W : World) (h : RdAt W g r) (hr : r.ok) (hB : Bys W r bs) :
    Calls Try.prog 22 #[.pointer (some ⟨g, 0, none⟩), .int .i64 k] W fun e w' => e = .returned (.int .u64 (r.num bs (sz k))) ∧ Turned g (r.past (sz k)) W w' := by
  have hc : k = 0 ∨ k = 1 ∨ k = 2 ∨ k = 3 ∨ k = 4 ∨ k = 5 := by omega
  have HP := Lib.hid (fun f k (hf : RFun f k) => RU_any f k r bs g W h hr hB hf)
  clear h hr hB
  rcases hc with rfl | rfl | rfl | rfl | rfl | rfl
  all_goals
    go_enter Try.func22, Try.ntmps22
    go_wp2_with (first
      | (go_at_call 16; refine (HP.out 16 1 (.inl ⟨rfl, rfl⟩)).mono ?_; rintro e w1 ⟨rfl, ht⟩)
      | (go_at_call 42; refine (HP.out 42 2 (.inr (.inl ⟨rfl, rfl⟩))).mono ?_; rintro e w1 ⟨rfl, ht⟩)
      | (go_at_call 53; refine (HP.out 53 3 (.inr (.inr (.inl ⟨rfl, rfl⟩)))).mono ?_; rintro e w1 ⟨rfl, ht⟩)
      | (go_at_call 54; refine (HP.out 54 4 (.inr (.inr (.inr (.inl ⟨rfl, rfl⟩))))).mono ?_; rintro e w1 ⟨rfl, ht⟩)
      | (go_at_call 45; refine (HP.out 45 6 (.inr (.inr (.inr (.inr (.inl ⟨rfl, rfl⟩)))))).mono ?_; rintro e w1 ⟨rfl, ht⟩)
      | (go_at_call 55; refine (HP.out 55 8 (.inr (.inr (.inr (.inr (.inr ⟨rfl, rfl⟩)))))).mono ?_; rintro e w1 ⟨rfl, ht⟩))
    go_ret
    exact ⟨rfl, ht⟩

theorem Bytes_len (r : Rd) (bs : List UInt8) (n : Int) (g : Nat) (W : World) (h : RdAt W g r) (hr : r.ok) (hB : Bys W r bs) (he : r.er ≠ 0) :
    Calls Try.prog 15 #[.pointer (some ⟨g, 0, none⟩), .int .i64 n] W fun e w' => ∃ A c, e = .returned (.slice A 0 c) ∧ Turned g r W w' := by
  have hC := Bytes_any r bs n g W h hr hB
  rw [show r.chunk bs n = [] from by simp [Rd.chunk, he], show r.past n = r from by simp [Rd.past, he]] at hC
  refine hC.mono fun e w' ⟨v, h1, h2, h3⟩ => ?_
  obtain ⟨A, c, rfl, _⟩ := isby_of_owns (bs := []) h2
  exact ⟨A, c, h1, h3⟩

/-- WireFaults, ahead of a round. -/
structure FInv (W w : World) (g H n p : Nat) (b : Sl) (bs : List UInt8) (e : Int) : Prop where
  below : Below W.heap.size W w
  gW : W.heap.size ≤ g
  HW : W.heap.size ≤ H
  rd : RdAt w g ⟨p, n, b, e, p⟩
  ok : Rd.ok ⟨p, n, b, e, p⟩
  by' : Bys w ⟨p, n, b, e, p⟩ bs
  want : w.heap[H]? = some (.cells #[.int .i64 e, .int .i64 p] 36 (0, 0))
theorem FInv.later {W w w' : World} {g H n p : Nat} {b : Sl} {bs : List UInt8} {e : Int} (h : FInv W w g H n p b bs e) (hb : Below w.heap.size w w') : FInv W w' g H n p b bs e :=
  ⟨h.below.trans (hb.mono h.below.size), h.gW, h.HW, h.rd.below hb, h.ok, h.by'.turned h.rd (Only.of_below hb _) rfl, (hb.block H (Array.getElem?_eq_some_iff.1 h.want).1).trans h.want⟩
theorem FInv.turn {W w w' : World} {g H n p : Nat} {b : Sl} {bs : List UInt8} {e : Int} (h : FInv W w g H n p b bs e) (ht : Turned g ⟨p, n, b, e, p⟩ w w') : FInv W w' g H n p b bs e := by
  refine ⟨ht.1.below h.below h.below.size (fun x hx => by simp at hx; subst hx; exact h.gW), h.gW, h.HW, ht.2, h.ok, h.by'.turned h.rd ht.1 rfl, (ht.1.block H (Array.getElem?_eq_some_iff.1 h.want).1 ?_).trans h.want⟩
  intro hx
  simp at hx
  subst hx
  have h1 := h.want
  rw [show w.heap[H]? = _ from h.rd] at h1
  simp [Rd.cs] at h1

set_option maxRecDepth 100000 in
set_option maxHeartbeats 2000000 in
theorem faults_any (A1 A2 : Option Addr) (n c m d : Nat) (bs : List UInt8) (l : List (Int × Int)) (skip er : Int) (W : World) (hb : IsBy W A1 n bs) (hl : Pairs .i64 .i64 W A2 m l) (hn : n ≤ 9223372036854775807) (hm2 : m ≤ 9223372036854775807) :
    Calls Try.prog 5 #[.slice A1 n c, .int .i64 skip, .int .i64 er, .slice A2 m d] W fun e w' => e = .returned (.bool true) ∧ Below W.heap.size W w' := by
  have HB := Lib.hid hb
  have HL := Lib.hid hl
  clear hb hl
  by_cases hbig : n ≤ 400 ∧ m ≤ 60
  case neg =>
    by_cases h4 : n ≤ 400
    · have hm40 : 60 < m := by omega
      clear hbig
      go_enter Try.func5, Try.ntmps5
      go_wp2_with (go_at_call 9; refine (lives_any _).mono ?_; rintro e w1 ⟨rfl, hb1⟩)
      go_ret
      exact ⟨rfl, hb1⟩
    · have hn4 : 400 < n := by omega
      clear hbig h4
      go_enter Try.func5, Try.ntmps5
      go_wp2_with (go_at_call 9; refine (lives_any _).mono ?_; rintro e w1 ⟨rfl, hb1⟩)
      go_ret
      exact ⟨rfl, hb1⟩
  obtain ⟨hn4, hm4⟩ := hbig
  have hd1 : decide ((400 : Int) < (n : Int)) = false := by simp; omega
  have hd2 : decide ((60 : Int) < (m : Int)) = false := by simp; omega
  obtain ⟨p, hp⟩ : ∃ p : Nat, (p : Int) = skip % ((n : Int) + 1) := ⟨(skip % ((n : Int) + 1)).toNat, by have := Int.emod_nonneg skip (show (n : Int) + 1 ≠ 0 by omega); omega⟩
  have hp1 : p ≤ n := by have := Int.emod_lt_of_pos skip (show (0 : Int) < (n : Int) + 1 by omega); omega
  obtain ⟨q, hq⟩ : ∃ q : Nat, (q : Int) = er % 20 := ⟨(er % 20).toNat, by omega⟩
  have hq1 : q < 20 := by omega
  have HP := Lib.hid hp
  have HQ := Lib.hid hq
  clear hp hq
  go_enter Try.func5, Try.ntmps5
  go_wp2_with (first
    | (go_at_call 9; refine (lives_any _).mono ?_; rintro e w1 ⟨rfl, hb1⟩; have HB1 := Lib.hid hb1; clear hb1)
    | (go_at_call 10; refine Hid.out ?_))
  refine Lib.hid ?_
  refine (NewReader_any A1 n c bs _ (HB.out.below HB1.out) (by omega)).mono ?_
  rintro e w2 ⟨g, b, rfl, hnew⟩
  have HN := Lib.hid hnew
  have hs1 := HB1.out.size
  have hs2 := hnew.below.size
  have hgW : W.heap.size ≤ g := by have := hnew.new; omega
  have HBW := Lib.hid (HB1.out.trans (hnew.below.mono hs1))
  clear hnew
  go_wp2_with (first
    | (go_at_call 11; refine (pick_val skip ((n : Int) + 1) p HP.out.symm _ (by omega) (by omega)).mono ?_; rintro e w' ⟨rfl, rfl⟩)
    | (go_at_call 15; refine Hid.out ?_))
  refine Lib.hid ?_
  have hC := Bytes_any ⟨0, n, b, 0, 0⟩ bs p g _ HN.out.rd HN.out.ok HN.out.by'
  rw [show Rd.past ⟨0, n, b, 0, 0⟩ (p : Int) = ⟨p, n, b, 0, 0⟩ from by unfold Rd.past; rw [if_neg (by simp), if_pos (by simp only; omega)]; simp] at hC
  refine hC.mono ?_
  clear hC
  rintro e w3 ⟨v3, rfl, _, ht⟩
  have hok3 : Rd.ok ⟨p, n, b, 0, 0⟩ := ⟨hp1, HN.out.ok.en, HN.out.ok.nc, HN.out.ok.small⟩
  have HRD := Lib.hid ht.2
  have HBY := Lib.hid (show Bys w3 ⟨p, n, b, 0, 0⟩ bs from HN.out.by'.turned HN.out.rd ht.1 rfl)
  have HBW3 := Lib.hid (ht.1.below HBW.out HBW.out.size (fun x hx => by simp at hx; subst hx; exact hgW))
  have HOK := Lib.hid hok3
  clear ht hok3
  go_wp2_with (first
    | (go_at_call 13; refine (At_any _ g _ HRD.out).mono ?_; rintro e w' ⟨rfl, rfl⟩)
    | (go_at_call_of 17 (Value.int .i64 0); refine (Fail_same _ 0 g _ HRD.out (.inl rfl)).mono ?_; rintro e w' ⟨rfl, rfl⟩)
    | (go_at_call 18; refine (Fault_any _ g _ HRD.out).mono ?_; rintro e w4 ⟨rfl, hb4⟩; have HRD4 := Lib.hid (HRD.out.below hb4); have HBY4 := Lib.hid (show Bys w4 ⟨p, n, b, 0, 0⟩ bs from HBY.out.turned HRD.out (Only.of_below hb4 _) rfl); have HBW4 := Lib.hid (HBW3.out.trans (hb4.mono HBW3.out.size)); clear hb4)
    | (go_at_call 11; refine (pick_val er 20 q HQ.out.symm _ (by omega) (by omega)).mono ?_; rintro e w' ⟨rfl, rfl⟩)
    | (go_at_call 17; refine Hid.out ?_))
  refine Lib.hid ?_
  refine (Fail_sets ⟨p, n, b, 0, 0⟩ (1 + q) g _ HRD4.out (by omega) rfl).mono ?_
  rintro e w5 ⟨rfl, ht⟩
  have hI : FInv W (w5.alloc (.cells #[.int .i64 (1 + q), .int .i64 p] 36)) g w5.heap.size n p b bs (1 + q) := by
    have hb5 := ht.1.below HBW4.out HBW4.out.size (fun x hx => by simp at hx; subst hx; exact hgW)
    refine ⟨hb5.alloc hb5.size _, hgW, hb5.size, ?_, ⟨hp1, HOK.out.en, HOK.out.nc, HOK.out.small⟩, ?_, heap_here rfl⟩
    · exact RdAt.below ht.2 ((Below.refl _ _).alloc (Nat.le_refl _) _)
    · exact Bys.turned (HBY4.out.turned HRD4.out ht.1 (r' := ⟨p, n, b, 1 + q, p⟩) rfl) ht.2 (Only.of_below ((Below.refl _ _).alloc (Nat.le_refl _) _) _) rfl
  obtain ⟨H, hH⟩ : ∃ H, w5.heap.size = H := ⟨_, rfl⟩
  have HI := Lib.hid hI
  have HH := Lib.hid hH
  clear hI ht hH
  go_wp2_with fail
  go_loopw [12] (fun i wr => ∃ k : Nat, k ≤ m ∧ i = .int .i64 k ∧ Hid (FInv W wr g w5.heap.size n p b bs (1 + q))) (fun i _ => m - (intOf i).toNat)
  case atStart => exact ⟨0, by omega, rfl, HI⟩
  case round =>
    obtain ⟨k, hk, rfl, hI2⟩ := hrel
    by_cases hlt : k < m
    · obtain ⟨b2, o2, rfl, hb2, hc2⟩ := (HL.out.below hI2.out.below).2 (by omega)
      obtain ⟨x, hx⟩ : ∃ x, l[k]? = some x := ⟨l[k]'(by rw [HL.out.1]; exact hlt), List.getElem?_eq_getElem _⟩
      obtain ⟨hcx, hcy⟩ := hc2 k x hx
      have h0 : (0 : Int) ≤ (k : Int) := by omega
      have h1 : (k : Int) < (m : Int) := by omega
      obtain ⟨y, hy⟩ : ∃ y : Nat, (y : Int) = x.1 % 11 := ⟨(x.1 % 11).toNat, by omega⟩
      have hy1 : y < 11 := by omega
      have HY := Lib.hid hy
      clear hx hy hc2
      have hcase : y < 6 ∨ y = 6 ∨ (6 < y ∧ y < 9) ∨ 9 ≤ y := by omega
      have hw1 := hI2.out.want
      rcases hcase with hy6 | rfl | hy8 | hy9
      case' inl =>
        go_wp2_with (first
          | (go_at_call 11; refine (pick_val x.1 11 y HY.out.symm _ (by omega) (by omega)).mono ?_; rintro e w' ⟨rfl, rfl⟩)
          | (go_at_call 22; refine Hid.out ?_))
        refine Lib.hid ?_
        have hC := lget_any y hy6 ⟨p, n, b, 1 + q, p⟩ bs g _ hI2.out.rd hI2.out.ok hI2.out.by'
        rw [show Rd.num ⟨p, n, b, 1 + q, p⟩ bs (sz y) = 0 from by unfold Rd.num; rw [if_neg (by simp only; omega)], show Rd.past ⟨p, n, b, 1 + q, p⟩ (sz y : Int) = ⟨p, n, b, 1 + q, p⟩ from by unfold Rd.past; rw [if_pos (by simp only; omega)]] at hC
        refine hC.mono ?_
        clear hC
        rintro e wz ⟨rfl, ht⟩
        have HZ := Lib.hid (hI2.out.turn ht)
        clear ht
      case' inr.inl =>
        go_wp2_with (first
          | (go_at_call 11; refine (pick_val x.1 11 6 (by have := HY.out; omega) _ (by omega) (by omega)).mono ?_; rintro e w' ⟨rfl, rfl⟩)
          | (go_at_call 15; refine Hid.out ?_))
        refine Lib.hid ?_
        refine (Bytes_len ⟨p, n, b, 1 + q, p⟩ bs x.2 g _ hI2.out.rd hI2.out.ok hI2.out.by' (by simp only; omega)).mono ?_
        rintro e wz ⟨A7, c7, rfl, ht⟩
        have HZ := Lib.hid (hI2.out.turn ht)
        clear ht
      case' inr.inr.inl =>
        obtain ⟨hy6, hy8⟩ := hy8
        have hne6 : ((y : Int) == 6) = false := by simp; omega
        go_wp2_with (first
          | (go_at_call 11; refine (pick_val x.1 11 y HY.out.symm _ (by omega) (by omega)).mono ?_; rintro e w' ⟨rfl, rfl⟩)
          | (go_at_call 14; refine Hid.out ?_))
        refine Lib.hid ?_
        have hC := Sub_any ⟨p, n, b, 1 + q, p⟩ x.2 g _ hI2.out.rd hI2.out.ok
        rw [show Rd.past ⟨p, n, b, 1 + q, p⟩ x.2 = ⟨p, n, b, 1 + q, p⟩ from by unfold Rd.past; rw [if_pos (by simp only; omega)], show Rd.sub ⟨p, n, b, 1 + q, p⟩ x.2 = ⟨p, p, b, 1 + q, p⟩ from by unfold Rd.sub Rd.past; rw [if_neg (by simp only; omega), if_pos (by simp only; omega)]] at hC
        refine hC.mono ?_
        clear hC
        rintro e w6 ⟨g', rfl, hg', hsub, ht⟩
        have HI6 := Lib.hid (hI2.out.turn ht)
        have HSUB := Lib.hid hsub
        have HSOK := Lib.hid (show Rd.ok ⟨p, p, b, 1 + q, p⟩ from ⟨by simp, by have := HOK.out.en; simp only at this ⊢; omega, HOK.out.nc, HOK.out.small⟩)
        have hc0 : w6.cell? ⟨w5.heap.size, 0, none⟩ = some (.int .i64 (1 + q)) := by simp [World.cell?, HI6.out.want]
        have hc1 : w6.cell? ⟨w5.heap.size, 1, none⟩ = some (.int .i64 p) := by simp [World.cell?, HI6.out.want]
        have hHl := (Array.getElem?_eq_some_iff.1 HI6.out.want).1
        clear ht hsub hw1
        go_upto_region 27 with fail
        refine wp_region_grow (by kernel_rfl) (by kernel_rfl) ?_
        repeat (go_big_quiet_step ((first
          | (go_at_call 12; exact quiet_call1 (Left_val _ 0 (by simp only; omega) g' _ (HSUB.out.below (ext_below _ _)) HSOK.out))
          | (go_at_call 18; exact quiet_call1 (Fault_any _ g' _ (HSUB.out.below (ext_below _ _)))))))
        refine wpQuiet_nil ?_
        intro _ hw'
        obtain ⟨x1, rfl⟩ := hw'
        have hI7 := HI6.out.later (ext_below w6 x1)
        obtain ⟨wz, hwz⟩ : ∃ wz, w6.ext x1 = wz := ⟨_, rfl⟩
        rw [hwz] at hI7 ⊢
        have HZ := Lib.hid hI7
        clear hI7 hwz hc0 hc1 hHl
      case' inr.inr.inr =>
        have hne6 : ((y : Int) == 6) = false := by simp; omega
        have hne7 : ¬ y < 6 := by omega
        have hne8 : ¬ y < 9 := by omega
        go_wp2_with (first
          | (go_at_call 11; refine (pick_val x.1 11 y HY.out.symm _ (by omega) (by omega)).mono ?_; rintro e w' ⟨rfl, rfl⟩)
          | (go_at_call 17; refine Hid.out ?_))
        refine Lib.hid ?_
        refine (Fail_same ⟨p, n, b, 1 + q, p⟩ x.2 g _ hI2.out.rd (.inr (by simp only; omega))).mono ?_
        rintro e wz ⟨rfl, hwz⟩
        have HZ := hI2
        rw [hwz] at HZ
        clear hwz hw1
      all_goals
        have hc0 : wz.cell? ⟨w5.heap.size, 0, none⟩ = some (.int .i64 (1 + q)) := by simp [World.cell?, HZ.out.want]
        have hc1 : wz.cell? ⟨w5.heap.size, 1, none⟩ = some (.int .i64 p) := by simp [World.cell?, HZ.out.want]
        have hHl := (Array.getElem?_eq_some_iff.1 HZ.out.want).1
        go_upto_region 29 with fail
        refine wp_region_grow (by kernel_rfl) (by kernel_rfl) ?_
        repeat (go_big_quiet_step ((first
          | (go_at_call 12; exact quiet_call1 (Left_any _ g _ (HZ.out.rd.below (ext_below _ _)) HZ.out.ok))
          | (go_at_call 13; exact quiet_call1 ((At_any _ g _ (HZ.out.rd.below (ext_below _ _))).mono fun e w' h => ⟨h.1, by rw [← h.2]; exact Below.refl _ _⟩))
          | (go_at_call 18; exact quiet_call1 (Fault_any _ g _ (HZ.out.rd.below (ext_below _ _)))))))
        refine wpQuiet_nil ?_
        intro _ hw'
        obtain ⟨x1, rfl⟩ := hw'
        have HZ1 := Lib.hid (HZ.out.later (ext_below wz x1))
        go_wp2_with fail
        go_roundw
        case rel => exact ⟨k + 1, by omega, by go_num, HZ1⟩
        case measure => simp [intOf]; omega
    · go_wp2_with fail
      go_ret
      exact ⟨rfl, hI2.out.below⟩
end Go.Proofs.Ytfbakbfljpadlaa
