import Derived.Test.YtfbakbfljpadlaaWb
import Derived.Deep.RegionLaw
import Derived.BigRegion
/- A mark written. -/
namespace Go.Proofs.Ytfbakbfljpadlaa
open Go.RowKit Go.Maps
set_option linter.unusedSimpArgs false
set_option linter.unusedVariables false
attribute [local go_sem ↓] Go.wp_at_zero Go.wp_at_succ

theorem put16_range (r : Wr) (base g : Nat) (W : World) (n k : Nat) (hn16 : n < 65536) (h : r.At W base g) (hk : 1 ≤ k) (hk8 : k < 8) (hf : 256 ^ k ≤ n) :
    Calls Try.prog 60 #[.pointer (some ⟨g, 0, none⟩), .int .u16 n, .int .i64 k] W fun e w' => e = .returned (.int .i64 2) ∧ W = w' := by
  have H := Lib.hid h
  have hz := shr_more hf
  have hd : decide ((k : Int) < 8) = true := by simp; omega
  clear h hf
  go_enter Try.func60, Try.ntmps60
  go_wp2_with (go_at_call 59; refine (wmade_any r base g _ H.out).mono ?_; rintro e w1 ⟨rfl, rfl⟩)
  go_ret
  exact ⟨rfl, rfl⟩

theorem put16_full (r : Wr) (base g : Nat) (W : World) (n k : Nat) (hn16 : n < 65536) (h : r.At W base g) (hk : 1 ≤ k) (hk8 : k ≤ 8) (hf : k = 8 ∨ n < 256 ^ k) (hl : r.lim < r.bs.length + k) :
    Calls Try.prog 60 #[.pointer (some ⟨g, 0, none⟩), .int .u16 n, .int .i64 k] W fun e w' => e = .returned (.int .i64 7) ∧ Below W.heap.size W w' := by
  have hc0 := h.cell 0
  have hc1 := h.cell 1
  simp [Wr.cs, Wr.v] at hc0 hc1
  have hn1 := h.n
  have h1 := h.lim0
  have h2 := h.lim1
  have h3 := h.len
  have H := Lib.hid h
  rw [hn1] at hl h3
  have hd2 : decide (r.lim - r.b.n < (k : Int)) = true := by simp; omega
  clear h hn1
  rcases Nat.lt_or_ge k 8 with hlt | hge
  · have hz : (n : Int) / 2 ^ (8 * k) = 0 := shr_zero (by omega)
    have hd : decide ((k : Int) < 8) = true := by simp; omega
    clear hf
    go_enter Try.func60, Try.ntmps60
    go_wp2_with (go_at_call 59; refine (wmade_any r base g _ H.out).mono ?_; rintro e w1 ⟨rfl, rfl⟩)
    go_quiet (fail)
    go_wp2_with fail
    go_ret
    exact ⟨rfl, below_drewN (Below.refl _ _) _⟩
  · obtain rfl : k = 8 := by omega
    clear hf
    go_enter Try.func60, Try.ntmps60
    go_wp2_with (go_at_call 59; refine (wmade_any r base g _ H.out).mono ?_; rintro e w1 ⟨rfl, rfl⟩)
    go_quiet (fail)
    go_wp2_with fail
    go_ret
    exact ⟨rfl, below_drewN (Below.refl _ _) _⟩

set_option maxRecDepth 100000 in
set_option maxHeartbeats 1000000 in
theorem put16_loop (r : Wr) (base g : Nat) (W : World) (n k : Nat) (hn16 : n < 65536) (h : r.At W base g) (hk : 1 ≤ k) (hk8 : k ≤ 8) (hf : k = 8 ∨ n < 256 ^ k) (hl : r.bs.length + k ≤ r.lim) (hbase : base ≤ W.heap.size) :
    Calls Try.prog 60 #[.pointer (some ⟨g, 0, none⟩), .int .u16 n, .int .i64 k] W fun e w' => e = .returned (.int .i64 0) ∧ Wrote base g r (be n k) W w' := by
  have hc0 := h.cell 0
  have hc1 := h.cell 1
  simp [Wr.cs, Wr.v] at hc0 hc1
  have hn1 := h.n
  have h1 := h.lim0
  have h2 := h.lim1
  have h3 := h.len
  have H := Lib.hid h
  have HN := Lib.hid hn1
  rw [hn1] at hl h3
  have hd2 : decide (r.lim - r.b.n < (k : Int)) = false := by simp; omega
  clear h hn1
  obtain ⟨i0, hi0, hz0, hz1, hz2⟩ := info_parts info_u8
  have hk9 : (k < 8 ∧ n < 256 ^ k) ∨ k = 8 := by omega
  clear hf
  rcases hk9 with ⟨hlt, hz0⟩ | h8
  case' inl =>
    have hz : (n : Int) / 2 ^ (8 * k) = 0 := shr_zero (by omega)
    have hd : decide ((k : Int) < 8) = true := by simp; omega
    clear hz0 hlt
  case' inr =>
    have hd : decide ((k : Int) < 8) = false := by simp; omega
    clear h8
  all_goals
    go_enter Try.func60, Try.ntmps60
    go_wp2_with (go_at_call 59; refine (wmade_any r base g _ H.out).mono ?_; rintro e w1 ⟨rfl, rfl⟩)
    go_quiet (fail)
    go_wp2_with fail
    try clear hz
    go_loopw [7] (fun i wr => ∃ j : Nat, j ≤ k ∧ i = .int .i64 ((k : Int) - 1 - j) ∧ Hid (Wrote base g r ((be n k).take j) W wr)) (fun i _ => (intOf i + 1).toNat)
    case atStart => exact ⟨0, by omega, by simp, wrote_none H.out (Only.drewN (Only.refl _ _) _)⟩
    case round =>
      obtain ⟨j, hj, rfl, hw⟩ := hrel
      by_cases hlt : j < k
      · obtain ⟨q, hq⟩ : ∃ q : Nat, (q : Int) = (k : Int) - 1 - j := ⟨k - 1 - j, by omega⟩
        rw [← hq]
        obtain ⟨⟨b', hat, hblk⟩, honly⟩ := hw.out
        have hc := hat.cell 0
        simp [Wr.cs, Wr.v, Wr.more] at hc
        have hq7 : (q : Int) < 8 := by omega
        have hne : some g ≠ (Value.slice b'.a b'.n b'.c).ownBlock := fun he => (hat.apart g he.symm).1 rfl
        have HNE := Lib.hid hne
        clear hne
        have hbn : b'.n ≤ 65536 := by have a1 := hat.n; have a2 := hat.len; have a3 := hat.lim1; simp only [Wr.more] at a1 a2 a3; omega
        have hbw : base ≤ wr.heap.size := by have := honly.size; omega
        have HAT := Lib.hid hat
        have HQ := Lib.hid hq
        have HK := Lib.hid hblk
        have HO := Lib.hid honly
        clear hat hq hblk honly
        have hval := byte_of n q
        have HV := Lib.hid hval
        clear hval
        go_wp2_with fail
        have hwn : IntKind.u64.wrap (n : Int) = (n : Int) := IntWalk.u64_in _ (by omega)
        have hw8 : IntKind.i64.wrap (8 * (q : Int)) = 8 * (q : Int) := IntWalk.i64_in _ (by omega)
        have hw9 : (0 : Int) ≤ 8 * (q : Int) := by omega
        have hw10 : (8 * (q : Int)).toNat = 8 * q := by omega
        have hfr := HAT.out.free 0
        have hglt := HAT.out.lt
        go_region_law
          ((refine step_append_lies _ (by rfl) _ _ _ (by rfl) base 5 i0 _ 1 1 Try.underlying22 hi0 hz0 hz1 hz2 rfl (by omega) (.slice b'.a b'.n b'.c) b'.n ((r.bs ++ (be n k).take j).map byv) (by rfl) (by exact owns_below HAT.out.own (((Below.refl _ _).alloc (Nat.le_refl _) _).drew)) ⟨wr.heap.size, 0, none⟩ 1 1 [Value.int .u8 (IntKind.u8.wrap ((n : Int) / 2 ^ (8 * q)))] (by rfl) (by rfl) (World.news_of_block (cs := #[_]) (t := 5) (fr := (0, 0)) (by exact heap_alloc_new wr _)) (by intro u hu; simp at hu; subst hu; rfl) (by omega) (by simp only [maxLen]; omega) (by omega) (by simp; omega) (wr.heap.size + 1) (by simp) ?_; intro gg cap w1 hown1 hgrow hat1 hlt1; have hcc : w1.cell? ⟨g, 0, none⟩ = some (.slice b'.a b'.n b'.c) := (hgrow.cell_far ⟨g, 0, none⟩ (by simp; omega) HNE.out).trans ((World.cell?_alloc_lt _ _ _ hglt).trans hc); have hff : w1.frozen? ⟨g, 0, none⟩ = false := (hgrow.frozen_far ⟨g, 0, none⟩ (by simp; omega) HNE.out).trans (((rule_frozen_alloc _ _ _ _).trans (if_pos hglt)).trans hfr)))
        all_goals
          rw [HV.out] at hown1
          have HW := Lib.hid (wrote_more (m := 1) (x := [UInt8.ofNat (n / 256 ^ q)]) HO.out HAT.out HK.out (w0 := (wr.alloc _).drew) (((Below.refl _ _).alloc (Nat.le_refl _) _).drew) hgrow hown1 ?hlen (hat1.imp_right (fun h => by omega)))
          clear hgrow hown1
          go_wp2_with fail
          go_roundw
          case rel => exact ⟨j + 1, by omega, by have := HQ.out; congr 1; omega, by rw [be_take n k j (by omega), show k - 1 - j = q by have := HQ.out; omega]; exact HW.out⟩
          case measure => simp [intOf]
          case hlen => rw [List.length_take, be_len, Nat.min_eq_left hj, HN.out]; simp; omega
      · go_wp2_with fail
        go_ret
        obtain rfl : j = k := by omega
        have := hw.out
        rw [List.take_of_length_le (by rw [be_len]; omega)] at this
        exact ⟨rfl, this⟩

theorem put16_any (r : Wr) (base g : Nat) (W : World) (n k : Nat) (hn16 : n < 65536) (h : r.At W base g) (hk : 1 ≤ k) (hk8 : k ≤ 8) (hbase : base ≤ W.heap.size) :
    Calls Try.prog 60 #[.pointer (some ⟨g, 0, none⟩), .int .u16 n, .int .i64 k] W (PutPost r base g n k W) := by
  by_cases h1 : k < 8 ∧ 256 ^ k ≤ n
  · exact (put16_range r base g W n k hn16 h hk h1.1 h1.2).mono fun e w' ⟨he, hw⟩ => .inl ⟨by unfold putEnd; rw [if_pos h1], he, by rw [← hw]; exact wrote_none h (Only.refl _ _)⟩
  · have hf : k = 8 ∨ n < 256 ^ k := by omega
    by_cases h2 : r.lim < r.bs.length + k
    · exact (put16_full r base g W n k hn16 h hk hk8 hf h2).mono fun e w' ⟨he, hw⟩ => .inr (.inl ⟨by unfold putEnd; rw [if_neg h1, if_pos h2], he, wrote_none h (Only.of_below hw _)⟩)
    · exact (put16_loop r base g W n k hn16 h hk hk8 hf (by omega) hbase).mono fun e w' ⟨he, hw⟩ => .inr (.inr ⟨by unfold putEnd; rw [if_neg h1, if_neg h2], he, hw⟩)

end Go.Proofs.Ytfbakbfljpadlaa
