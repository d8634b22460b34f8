import Derived.Test.YtfbakbfljpadlaaWa
import Derived.Deep.RegionLaw
import Derived.BigRegion
/- A number written. -/
namespace Go.Proofs.Ytfbakbfljpadlaa
open Go.RowKit Go.Maps
set_option linter.unusedSimpArgs false
set_option linter.unusedVariables false
attribute [local go_sem ↓] Go.wp_at_zero Go.wp_at_succ

/-- The writer with more bytes. -/
def Wr.more (r : Wr) (b : Sl) (l : List UInt8) : Wr := { r with b := b, bs := r.bs ++ l }
structure Wrote (base g : Nat) (r : Wr) (l : List UInt8) (W w' : World) : Prop where
  ex : ∃ b, (r.more b l).At w' base g ∧ (∀ k, (r.more b l).v.ownBlock = some k → r.v.ownBlock = some k ∨ W.heap.size ≤ k)
  only : Only (r.S g) W w'

/-- What a call of put comes to. -/
inductive PutEnd where
  | range | full | ok
def putEnd (r : Wr) (n k : Nat) : PutEnd := if k < 8 ∧ 256 ^ k ≤ n then .range else if r.lim < r.bs.length + k then .full else .ok

theorem put_range (r : Wr) (base g : Nat) (W : World) (n k : Nat) (h : r.At W base g) (hk : 1 ≤ k) (hk8 : k < 8) (hf : 256 ^ k ≤ n) :
    Calls Try.prog 61 #[.pointer (some ⟨g, 0, none⟩), .int .u64 n, .int .i64 k] W fun e w' => e = .returned (.int .i64 2) ∧ W = w' := by
  have H := Lib.hid h
  have hz := shr_more hf
  have hd : decide ((k : Int) < 8) = true := by simp; omega
  clear h hf
  go_enter Try.func61, Try.ntmps61
  go_wp2_with (go_at_call 59; refine (wmade_any r base g _ H.out).mono ?_; rintro e w1 ⟨rfl, rfl⟩)
  go_ret
  exact ⟨rfl, rfl⟩

theorem put_full (r : Wr) (base g : Nat) (W : World) (n k : Nat) (h : r.At W base g) (hk : 1 ≤ k) (hk8 : k ≤ 8) (hf : k = 8 ∨ n < 256 ^ k) (hl : r.lim < r.bs.length + k) :
    Calls Try.prog 61 #[.pointer (some ⟨g, 0, none⟩), .int .u64 n, .int .i64 k] W fun e w' => e = .returned (.int .i64 7) ∧ Below W.heap.size W w' := by
  have hc0 := h.cell 0
  have hc1 := h.cell 1
  simp [Wr.cs, Wr.v] at hc0 hc1
  have hn1 := h.n
  have h1 := h.lim0
  have h2 := h.lim1
  have h3 := h.len
  have H := Lib.hid h
  rw [hn1] at hl h3
  have hd2 : decide (r.lim - r.b.n < (k : Int)) = true := by simp; omega
  clear h hn1
  rcases Nat.lt_or_ge k 8 with hlt | hge
  · have hz : (n : Int) / 2 ^ (8 * k) = 0 := shr_zero (by omega)
    have hd : decide ((k : Int) < 8) = true := by simp; omega
    clear hf
    go_enter Try.func61, Try.ntmps61
    go_wp2_with (go_at_call 59; refine (wmade_any r base g _ H.out).mono ?_; rintro e w1 ⟨rfl, rfl⟩)
    go_quiet (fail)
    go_wp2_with fail
    go_ret
    exact ⟨rfl, below_drewN (Below.refl _ _) _⟩
  · obtain rfl : k = 8 := by omega
    clear hf
    go_enter Try.func61, Try.ntmps61
    go_wp2_with (go_at_call 59; refine (wmade_any r base g _ H.out).mono ?_; rintro e w1 ⟨rfl, rfl⟩)
    go_quiet (fail)
    go_wp2_with fail
    go_ret
    exact ⟨rfl, below_drewN (Below.refl _ _) _⟩

theorem wrote_none {base g : Nat} {r : Wr} {W w' : World} (h : r.At W base g) (ho : Only [] W w') : Wrote base g r [] W w' :=
  ⟨⟨r.b, by
    have e : r.more r.b [] = r := by simp [Wr.more]
    rw [e]
    exact ⟨h.only ho (by simp) (by simp) (by simp), fun k hk => .inl hk⟩⟩, ho.mono (by simp)⟩

theorem Wr.blk_mem {r : Wr} {g k : Nat} (h : r.v.ownBlock = some k) : k ∈ r.S g := by simp [Wr.S, Wr.blk, h]

/-- Bytes appended, and the new slice stored. -/
theorem wrote_more {base g m gg cap : Nat} {r : Wr} {l x : List UInt8} {b' : Sl} {W wr w0 w1 : World} (honly : Only (r.S g) W wr) (hat : (r.more b' l).At wr base g)
    (hblk : ∀ k, (r.more b' l).v.ownBlock = some k → r.v.ownBlock = some k ∨ W.heap.size ≤ k) (hb0 : Below wr.heap.size wr w0) (hgrow : w0.grownBy w1 (Value.slice b'.a b'.n b'.c).ownBlock)
    (hown1 : w1.ownsRow base 5 1 (.slice (some ⟨gg, 0, none⟩) (b'.n + m) cap) (b'.n + m) ((r.bs ++ l).map byv ++ x.map byv)) (hm : (r.bs.length : Int) + l.length + x.length ≤ r.lim)
    (hat1 : (Value.slice b'.a b'.n b'.c).ownBlock = some gg ∨ wr.heap.size ≤ gg) : Wrote base g r (l ++ x) W (w1.setCell ⟨g, 0, none⟩ (.slice (some ⟨gg, 0, none⟩) (b'.n + m) cap)) := by
  have hgl := hat.lt
  have hap := hat.apart
  have hgm := hat.gm
  change ∀ k, (Value.slice b'.a b'.n b'.c).ownBlock = some k → k ≠ g ∧ k ≠ r.m ∧ base ≤ k ∧ k < wr.heap.size at hap
  have ho1 : Only (match (Value.slice b'.a b'.n b'.c).ownBlock with | some k => [k] | none => []) wr w1 := by
    refine ((Only.of_below hb0 _)).grown hgrow fun k hk => .inl ?_
    rw [hk]; simp
  have hg1 : w1.heap[g]? = some (.cells (r.more b' l).cs 86 (0, 0)) := (ho1.block g hgl (by
    split
    · rename_i k hk; have := (hap k hk).1; simp; omega
    · simp)).trans hat.box
  have hne : gg ≠ g := by
    rcases hat1 with h | h
    · exact (hap gg h).1
    · omega
  have hset : Only [g] w1 (w1.setCell ⟨g, 0, none⟩ (.slice (some ⟨gg, 0, none⟩) (b'.n + m) cap)) := only_set _ _ _ _
  refine ⟨⟨⟨some ⟨gg, 0, none⟩, b'.n + m, cap⟩, ⟨?_, ?_, ?_, hat.lim0, hat.lim1, ?_, hat.gbase, hat.mbase⟩, fun k hk => ?_⟩, ?_⟩
  · rw [heap_setCell_same w1 g 0 _ _ _ hg1]
    simp [Wr.cs, Wr.more, Wr.v]
  · have : (r.more ⟨some ⟨gg, 0, none⟩, b'.n + m, cap⟩ (l ++ x)).bs.map byv = (r.bs ++ l).map byv ++ x.map byv := by simp [Wr.more]
    rw [this]
    refine owns_only hown1 hset fun k hk => ?_
    change (Value.slice (some ⟨gg, 0, none⟩) (b'.n + m) cap).ownBlock = some k at hk
    simp [Value.ownBlock] at hk
    subst hk
    simpa using hne
  · refine map_only (map_only hat.map ho1 ?_) hset (by simp; exact fun h => hgm h.symm)
    split
    · rename_i k hk
      have := (hap k hk).2.1
      simp [Wr.more]; omega
    · simp
  · simp [Wr.more]; omega
  · change (Value.slice (some ⟨gg, 0, none⟩) (b'.n + m) cap).ownBlock = some k at hk
    simp [Value.ownBlock] at hk
    subst hk
    rcases hat1 with h | h
    · exact hblk gg h
    · right; have := honly.size; omega
  · have h1 : Only (r.S g) W w1 := (honly.then_below hb0).grown hgrow fun k hk => by
      rcases hblk k hk with h | h
      · exact .inl (Wr.blk_mem h)
      · exact .inr h
    exact h1.setCell (p := ⟨g, 0, none⟩) (.inl (by simp [Wr.S])) _

set_option maxRecDepth 100000 in
set_option maxHeartbeats 1000000 in
theorem put_loop (r : Wr) (base g : Nat) (W : World) (n k : Nat) (h : r.At W base g) (hk : 1 ≤ k) (hk8 : k ≤ 8) (hf : k = 8 ∨ n < 256 ^ k) (hl : r.bs.length + k ≤ r.lim) (hbase : base ≤ W.heap.size) :
    Calls Try.prog 61 #[.pointer (some ⟨g, 0, none⟩), .int .u64 n, .int .i64 k] W fun e w' => e = .returned (.int .i64 0) ∧ Wrote base g r (be n k) W w' := by
  have hc0 := h.cell 0
  have hc1 := h.cell 1
  simp [Wr.cs, Wr.v] at hc0 hc1
  have hn1 := h.n
  have h1 := h.lim0
  have h2 := h.lim1
  have h3 := h.len
  have H := Lib.hid h
  have HN := Lib.hid hn1
  rw [hn1] at hl h3
  have hd2 : decide (r.lim - r.b.n < (k : Int)) = false := by simp; omega
  clear h hn1
  obtain ⟨i0, hi0, hz0, hz1, hz2⟩ := info_parts info_u8
  have hk9 : (k < 8 ∧ n < 256 ^ k) ∨ k = 8 := by omega
  clear hf
  rcases hk9 with ⟨hlt, hz0⟩ | h8
  case' inl =>
    have hz : (n : Int) / 2 ^ (8 * k) = 0 := shr_zero (by omega)
    have hd : decide ((k : Int) < 8) = true := by simp; omega
    clear hz0 hlt
  case' inr =>
    have hd : decide ((k : Int) < 8) = false := by simp; omega
    clear h8
  all_goals
    go_enter Try.func61, Try.ntmps61
    go_wp2_with (go_at_call 59; refine (wmade_any r base g _ H.out).mono ?_; rintro e w1 ⟨rfl, rfl⟩)
    go_quiet (fail)
    go_wp2_with fail
    try clear hz
    go_loopw [7] (fun i wr => ∃ j : Nat, j ≤ k ∧ i = .int .i64 ((k : Int) - 1 - j) ∧ Hid (Wrote base g r ((be n k).take j) W wr)) (fun i _ => (intOf i + 1).toNat)
    case atStart => exact ⟨0, by omega, by simp, wrote_none H.out (Only.drewN (Only.refl _ _) _)⟩
    case round =>
      obtain ⟨j, hj, rfl, hw⟩ := hrel
      by_cases hlt : j < k
      · obtain ⟨q, hq⟩ : ∃ q : Nat, (q : Int) = (k : Int) - 1 - j := ⟨k - 1 - j, by omega⟩
        rw [← hq]
        obtain ⟨⟨b', hat, hblk⟩, honly⟩ := hw.out
        have hc := hat.cell 0
        simp [Wr.cs, Wr.v, Wr.more] at hc
        have hq7 : (q : Int) < 8 := by omega
        have hne : some g ≠ (Value.slice b'.a b'.n b'.c).ownBlock := fun he => (hat.apart g he.symm).1 rfl
        have HNE := Lib.hid hne
        clear hne
        have hbn : b'.n ≤ 65536 := by have a1 := hat.n; have a2 := hat.len; have a3 := hat.lim1; simp only [Wr.more] at a1 a2 a3; omega
        have hbw : base ≤ wr.heap.size := by have := honly.size; omega
        have HAT := Lib.hid hat
        have HQ := Lib.hid hq
        have HK := Lib.hid hblk
        have HO := Lib.hid honly
        clear hat hq hblk honly
        have hval := byte_of n q
        have HV := Lib.hid hval
        clear hval
        go_wp2_with fail
        have hw8 : IntKind.i64.wrap (8 * (q : Int)) = 8 * (q : Int) := IntWalk.i64_in _ (by omega)
        have hw9 : (0 : Int) ≤ 8 * (q : Int) := by omega
        have hw10 : (8 * (q : Int)).toNat = 8 * q := by omega
        have hfr := HAT.out.free 0
        have hglt := HAT.out.lt
        go_region_law
          ((refine step_append_lies _ (by rfl) _ _ _ (by rfl) base 5 i0 _ 1 1 Try.underlying22 hi0 hz0 hz1 hz2 rfl (by omega) (.slice b'.a b'.n b'.c) b'.n ((r.bs ++ (be n k).take j).map byv) (by rfl) (by exact owns_below HAT.out.own (((Below.refl _ _).alloc (Nat.le_refl _) _).drew)) ⟨wr.heap.size, 0, none⟩ 1 1 [Value.int .u8 (IntKind.u8.wrap ((n : Int) / 2 ^ (8 * q)))] (by rfl) (by rfl) (World.news_of_block (cs := #[_]) (t := 5) (fr := (0, 0)) (by exact heap_alloc_new wr _)) (by intro u hu; simp at hu; subst hu; rfl) (by omega) (by simp only [maxLen]; omega) (by omega) (by simp; omega) (wr.heap.size + 1) (by simp) ?_; intro gg cap w1 hown1 hgrow hat1 hlt1; have hcc : w1.cell? ⟨g, 0, none⟩ = some (.slice b'.a b'.n b'.c) := (hgrow.cell_far ⟨g, 0, none⟩ (by simp; omega) HNE.out).trans ((World.cell?_alloc_lt _ _ _ hglt).trans hc); have hff : w1.frozen? ⟨g, 0, none⟩ = false := (hgrow.frozen_far ⟨g, 0, none⟩ (by simp; omega) HNE.out).trans (((rule_frozen_alloc _ _ _ _).trans (if_pos hglt)).trans hfr)))
        all_goals
          rw [HV.out] at hown1
          have HW := Lib.hid (wrote_more (m := 1) (x := [UInt8.ofNat (n / 256 ^ q)]) HO.out HAT.out HK.out (w0 := (wr.alloc _).drew) (((Below.refl _ _).alloc (Nat.le_refl _) _).drew) hgrow hown1 ?hlen (hat1.imp_right (fun h => by omega)))
          clear hgrow hown1
          go_wp2_with fail
          go_roundw
          case rel => exact ⟨j + 1, by omega, by have := HQ.out; congr 1; omega, by rw [be_take n k j (by omega), show k - 1 - j = q by have := HQ.out; omega]; exact HW.out⟩
          case measure => simp [intOf]
          case hlen => rw [List.length_take, be_len, Nat.min_eq_left hj, HN.out]; simp; omega
      · go_wp2_with fail
        go_ret
        obtain rfl : j = k := by omega
        have := hw.out
        rw [List.take_of_length_le (by rw [be_len]; omega)] at this
        exact ⟨rfl, this⟩

/-- What a number written comes to: the error, and the bytes. -/
def PutPost (r : Wr) (base g n k : Nat) (W : World) (e : Ending) (w' : World) : Prop :=
  (putEnd r n k = .range ∧ e = .returned (.int .i64 2) ∧ Wrote base g r [] W w') ∨ (putEnd r n k = .full ∧ e = .returned (.int .i64 7) ∧ Wrote base g r [] W w') ∨ (putEnd r n k = .ok ∧ e = .returned (.int .i64 0) ∧ Wrote base g r (be n k) W w')
theorem put_any (r : Wr) (base g : Nat) (W : World) (n k : Nat) (h : r.At W base g) (hk : 1 ≤ k) (hk8 : k ≤ 8) (hbase : base ≤ W.heap.size) :
    Calls Try.prog 61 #[.pointer (some ⟨g, 0, none⟩), .int .u64 n, .int .i64 k] W (PutPost r base g n k W) := by
  by_cases h1 : k < 8 ∧ 256 ^ k ≤ n
  · exact (put_range r base g W n k h hk h1.1 h1.2).mono fun e w' ⟨he, hw⟩ => .inl ⟨by unfold putEnd; rw [if_pos h1], he, by rw [← hw]; exact wrote_none h (Only.refl _ _)⟩
  · have hf : k = 8 ∨ n < 256 ^ k := by omega
    by_cases h2 : r.lim < r.bs.length + k
    · exact (put_full r base g W n k h hk hk8 hf h2).mono fun e w' ⟨he, hw⟩ => .inr (.inl ⟨by unfold putEnd; rw [if_neg h1, if_pos h2], he, wrote_none h (Only.of_below hw _)⟩)
    · exact (put_loop r base g W n k h hk hk8 hf (by omega) hbase).mono fun e w' ⟨he, hw⟩ => .inr (.inr ⟨by unfold putEnd; rw [if_neg h1, if_neg h2], he, hw⟩)
end Go.Proofs.Ytfbakbfljpadlaa
