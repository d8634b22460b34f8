import Derived.Test.YtfbakbfljpadlaaRr
/- Contracts of the reference's readers: what reads. -/
namespace Go.Proofs.Ytfbakbfljpadlaa
open Go.RowKit
set_option linter.unusedSimpArgs false
set_option linter.unusedVariables false

theorem turnedF_p' {W : World} {g v : Nat} {y : Int} {r : Rd} (h : RfAt W g r) (hy : y = v) : TurnedF g { r with p := v } W (W.setCell ⟨g, 1, none⟩ (.int .i64 y)) := by subst hy; exact turnedF_p h v
theorem TurnedF.trans {W w1 w' : World} {g : Nat} {r r' : Rd} (h : TurnedF g r W w1) (k : TurnedF g r' w1 w') : TurnedF g r' W w' := ⟨h.1.trans k.1, k.2⟩
set_option maxRecDepth 100000 in
set_option maxHeartbeats 1000000 in
theorem GetF_ok (r : Rd) (bs : List UInt8) (k : Nat) (g : Nat) (W : World) (h : RfAt W g r) (hr : r.ok) (hB : Bys W r bs) (h0 : r.er = 0) (hk : 1 ≤ k) (hk8 : k ≤ 8) (hn2 : r.p + k ≤ r.e) :
    Calls Try.prog 23 #[.pointer (some ⟨g, 0, none⟩), .int .i64 k] W fun e w' => e = .returned (.int .u64 (numOf ((bs.drop r.p).take k))) ∧ TurnedF g { r with p := r.p + k } W w' := by
  have HH := Lib.hid (HasF_ok r k g W h hr h0 hn2)
  obtain ⟨p, e, ⟨ba, bn, bc⟩, er, fa⟩ := r
  obtain ⟨b2, b3, b4, b5⟩ := hr
  have hlen := hB.len
  have hheld := hB.held
  simp only at b2 b3 b4 b5 hlen h0 hn2 hheld ⊢
  have HB := Lib.hid hB
  have HL := Lib.hid hlen
  have H := Lib.hid h
  obtain ⟨blk, off, rfl, hblt, hcs⟩ := hheld (by simp; omega)
  clear hB hlen h hcs hheld h0
  go_enter Try.func23, Try.ntmps23
  go_wp2_with (go_at_call 56; refine HH.out.mono ?_; rintro e w1 ⟨rfl, hb1⟩; have HT1 := Lib.hid (turnedF_same H.out hb1); clear hb1)
  go_loopw [5, 6] (fun n i wr => ∃ j : Nat, j ≤ k ∧ i = .int .i64 j ∧ n = .int .u64 (numOf ((bs.drop p).take j)) ∧ Hid (TurnedF g ⟨p + j, e, ⟨some ⟨blk, off, none⟩, bn, bc⟩, er, fa⟩ W wr)) (fun _ i _ => k - (intOf i).toNat)
  case atStart => exact ⟨0, by omega, rfl, rfl, HT1⟩
  case round =>
    obtain ⟨j, hj, rfl, rfl, ht⟩ := hrel
    by_cases hlt : j < k
    · obtain ⟨x, hx⟩ : ∃ x, bs[p + j]? = some x := ⟨bs[p + j]'(by rw [HL.out]; omega), List.getElem?_eq_getElem _⟩
      have hh := heldF_turned H.out HB.out.held ht.out.1
      obtain ⟨b', o', hA, hb', hcell⟩ := held_at hh (j := p + j) (u := byv x) (by simp [hx])
      simp at hA
      obtain ⟨rfl, rfl⟩ := hA
      unfold byv at hcell
      rw [show p + j = ((p : Int) + (j : Int)).toNat by omega] at hcell
      have hc0 := ht.out.2.cell 0
      have hc1 := ht.out.2.cell 1
      have hf1 := ht.out.2.free 1
      simp [Rd.cs2] at hc0 hc1
      have hxl := x.toNat_lt
      have hsn : (bs.drop p).take (j + 1) = (bs.drop p).take j ++ [x] := by
        rw [List.take_add_one, List.getElem?_drop, hx]; rfl
      have HS := Lib.hid hsn
      have hlt2 := numOf_lt ((bs.drop p).take j)
      have HX := Lib.hid hx
      obtain ⟨m, hm⟩ : ∃ m, numOf ((bs.drop p).take j) = m := ⟨_, rfl⟩
      have HM := Lib.hid hm
      have hm56 : m < 72057594037927936 := by
        have h1 : ((bs.drop p).take j).length ≤ 7 := by simp; omega
        have h2 : (256 : Nat) ^ ((bs.drop p).take j).length ≤ 256 ^ 7 := Nat.pow_le_pow_right (by omega) h1
        have h3 : (256 : Nat) ^ 7 = 72057594037927936 := by decide
        omega
      have hw1 : IntKind.u64.wrap ((m : Int) * 256) = (m : Int) * 256 := IntWalk.u64_in _ (by omega)
      have hw2 : IntKind.u64.wrap ((m : Int) * 256 + (x.toNat : Int)) = (m : Int) * 256 + (x.toNat : Int) := IntWalk.u64_in _ (by omega)
      have hw3 : IntKind.u64.wrap (x.toNat : Int) = (x.toNat : Int) := IntWalk.u64_in _ (by omega)
      have hi0 : (0 : Int) ≤ (p : Int) + (j : Int) := by omega
      have hi1 : (p : Int) + (j : Int) < (bn : Int) := by omega
      rw [hm]
      clear hsn hx hm hlt2 hh
      go_wp2_with fail
      go_quiet (fail)
      go_wp2_with fail
      go_roundw
      case rel => exact ⟨j + 1, by omega, by go_num, by rw [HS.out, numOf_snoc, HM.out]; go_num, (TurnedF.trans (ht.out.then (below_drewN (Below.refl _ _) _)) (turnedF_p' (v := p + (j + 1)) (ht.out.then (below_drewN (Below.refl _ _) _)).2 (by omega)))⟩
      case measure => simp [intOf]; omega
    · go_wp2_with fail
      go_ret
      obtain rfl : j = k := by omega
      exact ⟨rfl, ht.out⟩

theorem GetF_any (r : Rd) (bs : List UInt8) (k : Nat) (g : Nat) (W : World) (h : RfAt W g r) (hr : r.ok) (hB : Bys W r bs) (hk : 1 ≤ k) (hk8 : k ≤ 8) :
    Calls Try.prog 23 #[.pointer (some ⟨g, 0, none⟩), .int .i64 k] W fun e w' => e = .returned (.int .u64 (r.num bs k)) ∧ TurnedF g (r.past k) W w' := by
  by_cases hc : r.er = 0 ∧ r.p + k ≤ r.e
  · obtain ⟨h0, hn⟩ := hc
    refine (GetF_ok r bs k g W h hr hB h0 hk hk8 hn).mono fun e w' ⟨h1, h2⟩ => ?_
    have e1 : r.num bs k = numOf ((bs.drop r.p).take k) := by unfold Rd.num; rw [if_pos ⟨h0, hn⟩]
    have e2 : r.past k = { r with p := r.p + k } := by unfold Rd.past; rw [if_neg (by simpa using h0), if_pos ⟨by omega, by omega⟩]; rfl
    rw [e1, e2]
    exact ⟨h1, h2⟩
  · have e1 : r.num bs k = 0 := by unfold Rd.num; rw [if_neg hc]
    rw [e1]
    have HH := Lib.hid (HasF_no r k g W h hr (fun h => hc ⟨h.1, by omega⟩))
    clear h hr hB hc e1
    go_enter Try.func23, Try.ntmps23
    go_wp2_with (go_at_call 56; refine HH.out.mono ?_; rintro e w1 ⟨rfl, ht⟩)
    go_ret
    exact ⟨rfl, ht⟩

set_option maxRecDepth 100000 in
set_option maxHeartbeats 1000000 in
theorem SubF_any (r : Rd) (n : Int) (g : Nat) (W : World) (h : RfAt W g r) (hr : r.ok) :
    Calls Try.prog 26 #[.pointer (some ⟨g, 0, none⟩), .int .i64 n] W fun e w' => ∃ g', e = .returned (.pointer (some ⟨g', 0, none⟩)) ∧ W.heap.size ≤ g' ∧ RfAt w' g' (r.sub n) ∧ TurnedF g (r.past n) W w' := by
  by_cases hc : r.er = 0 ∧ 0 ≤ n ∧ (r.p : Int) + n ≤ r.e
  · have e3 : r.sub n = ⟨r.p, r.p + n.toNat, r.b, 0, 0⟩ := by unfold Rd.sub; rw [if_pos hc]
    obtain ⟨h0, hn0, hn1⟩ := hc
    obtain ⟨k, rfl⟩ := Int.eq_ofNat_of_zero_le hn0
    have e2 : r.past k = { r with p := r.p + k } := by unfold Rd.past; rw [if_neg (by simpa using h0), if_pos ⟨by omega, by omega⟩]; rfl
    have HH := Lib.hid (HasF_ok r k g W h hr h0 (by omega))
    have H := Lib.hid h
    obtain ⟨b2, b3, b4, b5⟩ := hr
    rw [e2, e3]
    clear h e2 e3 h0
    have hw1 : IntKind.i64.wrap ((r.p : Int) + (k : Int) - (k : Int)) = (r.p : Int) := by rw [IntWalk.i64_in _ (by omega)]; omega
    go_enter Try.func26, Try.ntmps26
    go_wp2_with (go_at_call 56; refine HH.out.mono ?_; rintro e w1 ⟨rfl, hb1⟩; have hc0 := (H.out.below hb1).cell 0; have hc1 := (H.out.below hb1).cell 1; have hf1 := (H.out.below hb1).free 1; simp [Rd.cs2] at hc0 hc1)
    have hT := (turnedF_p' (v := r.p + k) (y := (r.p : Int) + k) (H.out.below hb1) (by omega))
    obtain ⟨w2, hw2⟩ : ∃ w2, w1.setCell ⟨g, 1, none⟩ (.int .i64 ((r.p : Int) + k)) = w2 := ⟨_, rfl⟩
    rw [hw2] at hT ⊢
    have hd0 := hT.2.cell 0
    have hd1 := hT.2.cell 1
    simp [Rd.cs2] at hd0 hd1
    have HT := Lib.hid hT
    clear hT hw2 hc0 hc1 hf1
    go_still_tail 15, (by kernel_rfl)
    go_wp2_with fail
    go_ret
    refine ⟨_, rfl, ?_, ?_, ((HT.out.after hb1)).then ((below_drewN (Below.refl _ _) _).alloc (Nat.le_refl _) _)⟩
    · have := hb1.size
      have := HT.out.1.size
      omega
    · refine (heap_here rfl).trans ?_
      simp [Rd.cs2]
      try omega
  · have e3 : r.sub n = ⟨(r.past n).p, (r.past n).p, r.b, (r.past n).er, (r.past n).fa⟩ := by unfold Rd.sub; rw [if_neg hc]
    have HH := Lib.hid (HasF_no r n g W h hr hc)
    have HQ := Lib.hid (r.past_b n)
    rw [e3]
    clear h hr hc e3
    go_enter Try.func26, Try.ntmps26
    go_wp2_with (go_at_call 56; refine HH.out.mono ?_; rintro e w1 ⟨rfl, ht⟩; have hc0 := ht.2.cell 0; have hc1 := ht.2.cell 1; have hc3 := ht.2.cell 3; have hc4 := ht.2.cell 4; simp only [Rd.cs2] at hc0 hc1 hc3 hc4; simp only [HQ.out] at hc0; simp at hc0 hc1 hc3 hc4)
    go_still_tail 17, (by kernel_rfl)
    go_wp2_with fail
    go_ret
    exact ⟨_, rfl, ht.1.size, heap_here rfl, ht.then ((below_drewN (Below.refl _ _) _).alloc (Nat.le_refl _) _)⟩

set_option maxRecDepth 100000 in
theorem NewReaderF_any (A : Option Addr) (n c : Nat) (bs : List UInt8) (W : World) (h : IsBy W A n bs) (hn : n ≤ 100000) :
    Calls Try.prog 21 #[.slice A n c] W fun e w' => ∃ g b, e = .returned (.pointer (some ⟨g, 0, none⟩)) ∧ W.heap.size ≤ g ∧ RfAt w' g ⟨0, n, b, 0, 0⟩ ∧ Rd.ok ⟨0, n, b, 0, 0⟩ ∧ Bys w' ⟨0, n, b, 0, 0⟩ bs ∧ (∀ blk off, b.a = some ⟨blk, off, none⟩ → W.heap.size ≤ blk) ∧ Below W.heap.size W w' := by
  obtain ⟨i0, hi0, hz0, hz1, hz2⟩ := info_parts info_u8
  have HA := Lib.hid h.held
  have HL := Lib.hid h.len
  clear h
  go_enter Try.func21, Try.ntmps21
  go_wp2_with (at_builtin; refine Hid.out ?_)
  refine Lib.hid ?_
  refine wpList_append_held _ rfl (.tmp 3) (.tmp 4) _ rfl W.heap.size 5 i0 _ 1 1 Try.underlying22 hi0 hz0 hz1 hz2 rfl (by omega) (.slice (some ⟨W.heap.size, 0, none⟩) 0 0) 0 [] rfl (owns_empty W _ _) A n c (bs.map byv) rfl (by simp [HL.out]) (HA.out.alloc _) (byv_one bs) (by simp only [maxLen]; omega) (by omega) (by simp) ?_
  intro v1 w1 hown1 hg1 hat1
  have hb1 : Below W.heap.size W w1 := ((Below.refl _ W).alloc (Nat.le_refl _) _).trans (below_grown hg1 (by simp) (by simp [Value.ownBlock]))
  simp only [Nat.zero_add, List.nil_append] at hown1
  obtain ⟨A', c', rfl, hc', hm', hh', hA'⟩ := held_of_owns hown1
  have HB := Lib.hid hb1
  have HH := Lib.hid hh'
  have HF := Lib.hid hA'
  clear hown1 hg1 hat1 hb1 hh' hA'
  go_wp2_with fail
  go_ret
  exact ⟨_, ⟨A', n, c'⟩, rfl, HB.out.size, heap_here rfl, ⟨by simp, Nat.le_refl _, hc', hn⟩, ⟨HH.out.alloc _, HL.out⟩, HF.out, HB.out.alloc HB.out.size _⟩
end Go.Proofs.Ytfbakbfljpadlaa
