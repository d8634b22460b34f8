import Derived.Test.YtfbakbfljpadlaaBb
import Derived.Test.YtfbakbfljpadlaaWb
/- The reference's writer: a number written. -/
namespace Go.Proofs.Ytfbakbfljpadlaa
open Go.RowKit Go.Maps
set_option linter.unusedSimpArgs false
set_option linter.unusedVariables false
attribute [local go_sem ↓] Go.wp_at_zero Go.wp_at_succ

structure Wf where
  (b : Sl) (lim : Int) (bs : List UInt8) (k : Sl) (ms : List Nat)
def Wf.v (r : Wf) : Value := .slice r.b.a r.b.n r.b.c
def Wf.mv (r : Wf) : Value := .slice r.k.a r.k.n r.k.c
def Wf.cs (r : Wf) : Array Value := #[r.v, .int .i64 r.lim, r.mv]
/-- A writer of the reference lies in block g. -/
structure Wf.At (r : Wf) (w : World) (base g : Nat) : Prop where
  box : w.heap[g]? = some (.cells r.cs 72 (0, 0))
  own : w.ownsRow base 5 1 r.v r.b.n (r.bs.map byv)
  mks : w.ownsRow base 3 1 r.mv r.k.n (r.ms.map fun (a : Nat) => .int .i64 (a : Int))
  lim0 : 0 ≤ r.lim
  lim1 : r.lim ≤ 65536
  len : (r.bs.length : Int) ≤ r.lim
  gbase : base ≤ g
def Wf.S (r : Wf) (g : Nat) : List Nat := g :: (ob r.v ++ ob r.mv)
section
variable {r : Wf} {w w' : World} {base g : Nat}
theorem Wf.At.n (h : r.At w base g) : r.bs.length = r.b.n := by
  have := h.own.1
  simpa using this
theorem Wf.At.kn (h : r.At w base g) : r.ms.length = r.k.n := by
  have := h.mks.1
  simpa using this
theorem Wf.At.lt (h : r.At w base g) : g < w.heap.size := (Array.getElem?_eq_some_iff.1 h.box).1
theorem Wf.At.cell (h : r.At w base g) (i : Nat) : w.cell? ⟨g, i, none⟩ = r.cs[i]? := by simp [World.cell?, h.box]
theorem Wf.At.free (h : r.At w base g) (i : Nat) : w.frozen? ⟨g, i, none⟩ = false := by simp [World.frozen?, h.box]
theorem Wf.At.apart (h : r.At w base g) : ∀ k, r.v.ownBlock = some k → k ≠ g ∧ r.mv.ownBlock ≠ some k ∧ base ≤ k ∧ k < w.heap.size := fun k hk =>
  ⟨by rintro rfl; exact owns_not_cells h.own h.box (by decide) hk, fun h2 => owns_apart h.own h.mks (by decide) k hk h2, (owns_block h.own k hk).1, (owns_block h.own k hk).2⟩
theorem Wf.At.mapart (h : r.At w base g) : ∀ k, r.mv.ownBlock = some k → k ≠ g ∧ r.v.ownBlock ≠ some k ∧ base ≤ k ∧ k < w.heap.size := fun k hk =>
  ⟨by rintro rfl; exact owns_not_cells h.mks h.box (by decide) hk, fun h2 => owns_apart h.own h.mks (by decide) k h2 hk, (owns_block h.mks k hk).1, (owns_block h.mks k hk).2⟩
theorem Wf.At.low (h : r.At w base g) : ∀ x ∈ r.S g, base ≤ x := fun x hx => by
  simp only [Wf.S, List.mem_cons, List.mem_append, ob_mem] at hx
  rcases hx with rfl | hx | hx
  · exact h.gbase
  · exact (h.apart x hx).2.2.1
  · exact (h.mapart x hx).2.2.1
theorem Wf.At.only {S : List Nat} (h : r.At w base g) (hb : Only S w w') (hg : g ∉ S) (hk : ∀ k, r.v.ownBlock = some k → k ∉ S) (hm : ∀ k, r.mv.ownBlock = some k → k ∉ S) : r.At w' base g :=
  ⟨(hb.block g h.lt hg).trans h.box, owns_only h.own hb hk, owns_only h.mks hb hm, h.lim0, h.lim1, h.len, h.gbase⟩
theorem Wf.At.below (h : r.At w base g) (hb : Below w.heap.size w w') : r.At w' base g := h.only (Only.of_below hb []) (by simp) (by simp) (by simp)
end
def endOf (lim : Int) (len n k : Nat) : PutEnd := if k < 8 ∧ 256 ^ k ≤ n then .range else if lim < len + k then .full else .ok
theorem putEnd_eq (r : Wr) (n k : Nat) : putEnd r n k = endOf r.lim r.bs.length n k := rfl
def Wf.more (r : Wf) (b : Sl) (l : List UInt8) : Wf := { r with b := b, bs := r.bs ++ l }
structure WroteF (base g : Nat) (r : Wf) (l : List UInt8) (W w' : World) : Prop where
  ex : ∃ b, (r.more b l).At w' base g ∧ (∀ k, (r.more b l).v.ownBlock = some k → r.v.ownBlock = some k ∨ W.heap.size ≤ k)
  only : Only (r.S g) W w'

theorem PutF_range (r : Wf) (base g : Nat) (W : World) (n k : Nat) (h : r.At W base g) (hk : 1 ≤ k) (hk8 : k < 8) (hf : 256 ^ k ≤ n) :
    Calls Try.prog 33 #[.pointer (some ⟨g, 0, none⟩), .int .u64 n, .int .i64 k] W fun e w' => e = .returned (.int .i64 2) ∧ W = w' := by
  have hz := shr_more hf
  have hd : decide ((k : Int) < 8) = true := by simp; omega
  clear h hf
  go_enter Try.func33, Try.ntmps33
  go_wp2_with fail
  go_ret
  exact ⟨rfl, rfl⟩

theorem PutF_full (r : Wf) (base g : Nat) (W : World) (n k : Nat) (h : r.At W base g) (hk : 1 ≤ k) (hk8 : k ≤ 8) (hf : k = 8 ∨ n < 256 ^ k) (hl : r.lim < r.bs.length + k) :
    Calls Try.prog 33 #[.pointer (some ⟨g, 0, none⟩), .int .u64 n, .int .i64 k] W fun e w' => e = .returned (.int .i64 7) ∧ Below W.heap.size W w' := by
  have hc0 := h.cell 0
  have hc1 := h.cell 1
  simp [Wf.cs, Wf.v] at hc0 hc1
  have hn1 := h.n
  have h1 := h.lim0
  have h2 := h.lim1
  have h3 := h.len
  have H := Lib.hid h
  rw [hn1] at hl h3
  have hd2 : decide (r.lim - r.b.n < (k : Int)) = true := by simp; omega
  clear h hn1
  rcases Nat.lt_or_ge k 8 with hlt | hge
  · have hz : (n : Int) / 2 ^ (8 * k) = 0 := shr_zero (by omega)
    have hd : decide ((k : Int) < 8) = true := by simp; omega
    clear hf
    go_enter Try.func33, Try.ntmps33
    go_wp2_with fail
    go_quiet (fail)
    go_wp2_with fail
    go_ret
    exact ⟨rfl, below_drewN (Below.refl _ _) _⟩
  · obtain rfl : k = 8 := by omega
    clear hf
    go_enter Try.func33, Try.ntmps33
    go_wp2_with fail
    go_quiet (fail)
    go_wp2_with fail
    go_ret
    exact ⟨rfl, below_drewN (Below.refl _ _) _⟩

theorem wroteF_none {base g : Nat} {r : Wf} {W w' : World} (h : r.At W base g) (ho : Only [] W w') : WroteF base g r [] W w' :=
  ⟨⟨r.b, by
    have e : r.more r.b [] = r := by simp [Wf.more]
    rw [e]
    exact ⟨h.only ho (by simp) (by simp) (by simp), fun k hk => .inl hk⟩⟩, ho.mono (by simp)⟩

/-- Bytes appended, and the new slice stored. -/
theorem wroteF_more {base g m gg cap : Nat} {r : Wf} {l x : List UInt8} {b' : Sl} {W wr w0 w1 : World} (honly : Only (r.S g) W wr) (hat : (r.more b' l).At wr base g)
    (hblk : ∀ k, (r.more b' l).v.ownBlock = some k → r.v.ownBlock = some k ∨ W.heap.size ≤ k) (hb0 : Below wr.heap.size wr w0) (hgrow : w0.grownBy w1 (Value.slice b'.a b'.n b'.c).ownBlock)
    (hown1 : w1.ownsRow base 5 1 (.slice (some ⟨gg, 0, none⟩) (b'.n + m) cap) (b'.n + m) ((r.bs ++ l).map byv ++ x.map byv)) (hm : (r.bs.length : Int) + l.length + x.length ≤ r.lim)
    (hat1 : (Value.slice b'.a b'.n b'.c).ownBlock = some gg ∨ wr.heap.size ≤ gg) : WroteF base g r (l ++ x) W (w1.setCell ⟨g, 0, none⟩ (.slice (some ⟨gg, 0, none⟩) (b'.n + m) cap)) := by
  have hgl := hat.lt
  have hap := hat.apart
  change ∀ k, (Value.slice b'.a b'.n b'.c).ownBlock = some k → k ≠ g ∧ r.mv.ownBlock ≠ some k ∧ base ≤ k ∧ k < wr.heap.size at hap
  have ho1 : Only (ob (Value.slice b'.a b'.n b'.c)) wr w1 := (Only.of_below hb0 _).grown hgrow fun k hk => .inl (ob_mem.2 hk)
  have hg1 : w1.heap[g]? = some (.cells (r.more b' l).cs 72 (0, 0)) := (ho1.block g hgl (fun hm => (hap g (ob_mem.1 hm)).1 rfl)).trans hat.box
  have hne : gg ≠ g := by
    rcases hat1 with h | h
    · exact (hap gg h).1
    · omega
  have hset : Only [g] w1 (w1.setCell ⟨g, 0, none⟩ (.slice (some ⟨gg, 0, none⟩) (b'.n + m) cap)) := only_set _ _ _ _
  refine ⟨⟨⟨some ⟨gg, 0, none⟩, b'.n + m, cap⟩, ⟨?_, ?_, ?_, hat.lim0, hat.lim1, ?_, hat.gbase⟩, fun k hk => ?_⟩, ?_⟩
  · rw [heap_setCell_same w1 g 0 _ _ _ hg1]
    simp [Wf.cs, Wf.more, Wf.v, Wf.mv]
  · have : (r.more ⟨some ⟨gg, 0, none⟩, b'.n + m, cap⟩ (l ++ x)).bs.map byv = (r.bs ++ l).map byv ++ x.map byv := by simp [Wf.more]
    rw [this]
    refine owns_only hown1 hset fun k hk => ?_
    change (Value.slice (some ⟨gg, 0, none⟩) (b'.n + m) cap).ownBlock = some k at hk
    simp [Value.ownBlock] at hk
    subst hk
    simpa using hne
  · exact owns_only (owns_only hat.mks ho1 (fun k hk hm => (hap k (ob_mem.1 hm)).2.1 hk)) hset (fun k hk hm => by simp at hm; subst hm; exact (hat.mapart _ hk).1 rfl)
  · simp [Wf.more]; omega
  · change (Value.slice (some ⟨gg, 0, none⟩) (b'.n + m) cap).ownBlock = some k at hk
    simp [Value.ownBlock] at hk
    subst hk
    rcases hat1 with h | h
    · exact hblk gg h
    · right; have := honly.size; omega
  · have h1 : Only (r.S g) W w1 := (honly.then_below hb0).grown hgrow fun k hk => by
      rcases hblk k hk with h | h
      · exact .inl (by simp [Wf.S, ob_mem, h])
      · exact .inr h
    exact h1.setCell (p := ⟨g, 0, none⟩) (.inl (by simp [Wf.S])) _

set_option maxRecDepth 100000 in
set_option maxHeartbeats 1000000 in
theorem PutF_loop (r : Wf) (base g : Nat) (W : World) (n k : Nat) (h : r.At W base g) (hk : 1 ≤ k) (hk8 : k ≤ 8) (hf : k = 8 ∨ n < 256 ^ k) (hl : r.bs.length + k ≤ r.lim) (hbase : base ≤ W.heap.size) :
    Calls Try.prog 33 #[.pointer (some ⟨g, 0, none⟩), .int .u64 n, .int .i64 k] W fun e w' => e = .returned (.int .i64 0) ∧ WroteF base g r (be n k) W w' := by
  have hc0 := h.cell 0
  have hc1 := h.cell 1
  simp [Wf.cs, Wf.v] at hc0 hc1
  have hn1 := h.n
  have h1 := h.lim0
  have h2 := h.lim1
  have h3 := h.len
  have H := Lib.hid h
  have HN := Lib.hid hn1
  rw [hn1] at hl h3
  have hd2 : decide (r.lim - r.b.n < (k : Int)) = false := by simp; omega
  clear h hn1
  obtain ⟨i0, hi0, hz0, hz1, hz2⟩ := info_parts info_u8
  have hk9 : (k < 8 ∧ n < 256 ^ k) ∨ k = 8 := by omega
  clear hf
  rcases hk9 with ⟨hlt, hz0⟩ | h8
  case' inl =>
    have hz : (n : Int) / 2 ^ (8 * k) = 0 := shr_zero (by omega)
    have hd : decide ((k : Int) < 8) = true := by simp; omega
    clear hz0 hlt
  case' inr =>
    have hd : decide ((k : Int) < 8) = false := by simp; omega
    clear h8
  all_goals
    go_enter Try.func33, Try.ntmps33
    go_wp2_with fail
    go_quiet (fail)
    go_wp2_with fail
    try clear hz
    go_loopw [7] (fun i wr => ∃ j : Nat, j ≤ k ∧ i = .int .i64 ((k : Int) - 1 - j) ∧ Hid (WroteF base g r ((be n k).take j) W wr)) (fun i _ => (intOf i + 1).toNat)
    case atStart => exact ⟨0, by omega, by simp, wroteF_none H.out (Only.drewN (Only.refl _ _) _)⟩
    case round =>
      obtain ⟨j, hj, rfl, hw⟩ := hrel
      by_cases hlt : j < k
      · obtain ⟨q, hq⟩ : ∃ q : Nat, (q : Int) = (k : Int) - 1 - j := ⟨k - 1 - j, by omega⟩
        rw [← hq]
        obtain ⟨⟨b', hat, hblk⟩, honly⟩ := hw.out
        have hc := hat.cell 0
        simp [Wf.cs, Wf.v, Wf.more] at hc
        have hq7 : (q : Int) < 8 := by omega
        have hne : some g ≠ (Value.slice b'.a b'.n b'.c).ownBlock := fun he => (hat.apart g he.symm).1 rfl
        have HNE := Lib.hid hne
        clear hne
        have hbn : b'.n ≤ 65536 := by have a1 := hat.n; have a2 := hat.len; have a3 := hat.lim1; simp only [Wf.more] at a1 a2 a3; omega
        have hbw : base ≤ wr.heap.size := by have := honly.size; omega
        have HAT := Lib.hid hat
        have HQ := Lib.hid hq
        have HK := Lib.hid hblk
        have HO := Lib.hid honly
        clear hat hq hblk honly
        have hval := byte_of n q
        have HV := Lib.hid hval
        clear hval
        go_wp2_with fail
        have hw8 : IntKind.i64.wrap (8 * (q : Int)) = 8 * (q : Int) := IntWalk.i64_in _ (by omega)
        have hw9 : (0 : Int) ≤ 8 * (q : Int) := by omega
        have hw10 : (8 * (q : Int)).toNat = 8 * q := by omega
        have hfr := HAT.out.free 0
        have hglt := HAT.out.lt
        go_region_law
          ((refine step_append_lies _ (by rfl) _ _ _ (by rfl) base 5 i0 _ 1 1 Try.underlying22 hi0 hz0 hz1 hz2 rfl (by omega) (.slice b'.a b'.n b'.c) b'.n ((r.bs ++ (be n k).take j).map byv) (by rfl) (by exact owns_below HAT.out.own (((Below.refl _ _).alloc (Nat.le_refl _) _).drew)) ⟨wr.heap.size, 0, none⟩ 1 1 [Value.int .u8 (IntKind.u8.wrap ((n : Int) / 2 ^ (8 * q)))] (by rfl) (by rfl) (World.news_of_block (cs := #[_]) (t := 5) (fr := (0, 0)) (by exact heap_alloc_new wr _)) (by intro u hu; simp at hu; subst hu; rfl) (by omega) (by simp only [maxLen]; omega) (by omega) (by simp; omega) (wr.heap.size + 1) (by simp) ?_; intro gg cap w1 hown1 hgrow hat1 hlt1; have hcc : w1.cell? ⟨g, 0, none⟩ = some (.slice b'.a b'.n b'.c) := (hgrow.cell_far ⟨g, 0, none⟩ (by simp; omega) HNE.out).trans ((World.cell?_alloc_lt _ _ _ hglt).trans hc); have hff : w1.frozen? ⟨g, 0, none⟩ = false := (hgrow.frozen_far ⟨g, 0, none⟩ (by simp; omega) HNE.out).trans (((rule_frozen_alloc _ _ _ _).trans (if_pos hglt)).trans hfr)))
        all_goals
          rw [HV.out] at hown1
          have HW := Lib.hid (wroteF_more (m := 1) (x := [UInt8.ofNat (n / 256 ^ q)]) HO.out HAT.out HK.out (w0 := (wr.alloc _).drew) (((Below.refl _ _).alloc (Nat.le_refl _) _).drew) hgrow hown1 ?hlen (hat1.imp_right (fun h => by omega)))
          clear hgrow hown1
          go_wp2_with fail
          go_roundw
          case rel => exact ⟨j + 1, by omega, by have := HQ.out; congr 1; omega, by rw [be_take n k j (by omega), show k - 1 - j = q by have := HQ.out; omega]; exact HW.out⟩
          case measure => simp [intOf]
          case hlen => rw [List.length_take, be_len, Nat.min_eq_left hj, HN.out]; simp; omega
      · go_wp2_with fail
        go_ret
        obtain rfl : j = k := by omega
        have := hw.out
        rw [List.take_of_length_le (by rw [be_len]; omega)] at this
        exact ⟨rfl, this⟩

/-- What a number written comes to. -/
def PutPostF (r : Wf) (base g n k : Nat) (W : World) (e : Ending) (w' : World) : Prop :=
  (endOf r.lim r.bs.length n k = .range ∧ e = .returned (.int .i64 2) ∧ WroteF base g r [] W w') ∨ (endOf r.lim r.bs.length n k = .full ∧ e = .returned (.int .i64 7) ∧ WroteF base g r [] W w') ∨ (endOf r.lim r.bs.length n k = .ok ∧ e = .returned (.int .i64 0) ∧ WroteF base g r (be n k) W w')
theorem PutF_any (r : Wf) (base g : Nat) (W : World) (n k : Nat) (h : r.At W base g) (hk : 1 ≤ k) (hk8 : k ≤ 8) (hbase : base ≤ W.heap.size) :
    Calls Try.prog 33 #[.pointer (some ⟨g, 0, none⟩), .int .u64 n, .int .i64 k] W (PutPostF r base g n k W) := by
  by_cases h1 : k < 8 ∧ 256 ^ k ≤ n
  · exact (PutF_range r base g W n k h hk h1.1 h1.2).mono fun e w' ⟨he, hw⟩ => .inl ⟨by unfold endOf; rw [if_pos h1], he, by rw [← hw]; exact wroteF_none h (Only.refl _ _)⟩
  · have hf : k = 8 ∨ n < 256 ^ k := by omega
    by_cases h2 : r.lim < r.bs.length + k
    · exact (PutF_full r base g W n k h hk hk8 hf h2).mono fun e w' ⟨he, hw⟩ => .inr (.inl ⟨by unfold endOf; rw [if_neg h1, if_pos h2], he, wroteF_none h (Only.of_below hw _)⟩)
    · exact (PutF_loop r base g W n k h hk hk8 hf (by omega) hbase).mono fun e w' ⟨he, hw⟩ => .inr (.inr ⟨by unfold endOf; rw [if_neg h1, if_neg h2], he, hw⟩)
end Go.Proofs.Ytfbakbfljpadlaa
