import Derived.Test.YtfbakbfljpadlaaPa
/- Bytes written, by the writer and by the reference's. -/
namespace Go.Proofs.Ytfbakbfljpadlaa
open Go.RowKit Go.Maps
set_option linter.unusedSimpArgs false
set_option linter.unusedVariables false

theorem slice_of_owns {w : World} {base e n : Nat} {v : Value} {xs : List Value} (h : w.ownsRow base e 1 v n xs) : ∃ A c, v = .slice A n c := by
  obtain ⟨A, c, h1, _⟩ := held_of_owns h
  exact ⟨A, c, h1⟩

/-- What an append to the bytes, stored, comes to. -/
theorem Wrote_put {base g m : Nat} {r : Wr} {x : List UInt8} {v' : Value} {W w1 : World} (hat : r.At W base g) (hgrow : W.grownBy w1 r.v.ownBlock)
    (hown1 : w1.ownsRow base 5 1 v' (r.b.n + m) (r.bs.map byv ++ x.map byv)) (hm : (r.bs.length : Int) + x.length ≤ r.lim)
    (hat1 : v'.ownBlock = r.v.ownBlock ∨ v'.ownBlock = some W.heap.size) : Wrote base g r x W (w1.setCell ⟨g, 0, none⟩ v') := by
  obtain ⟨A, c, rfl⟩ := slice_of_owns hown1
  have hgl := hat.lt
  have hap := hat.apart
  have ho1 : Only (ob r.v) W w1 := (Only.refl _ _).grown hgrow fun k hk => .inl (ob_mem.2 hk)
  have hg1 : w1.heap[g]? = some (.cells r.cs 86 (0, 0)) := (ho1.block g hgl (fun hm => (hap g (ob_mem.1 hm)).1 rfl)).trans hat.box
  have hne : (Value.slice A (r.b.n + m) c).ownBlock ≠ some g := fun he => by
    rcases hat1 with h | h
    · rw [h] at he; exact (hap g he).1 rfl
    · rw [h] at he; simp at he; omega
  have hset : Only [g] w1 (w1.setCell ⟨g, 0, none⟩ (.slice A (r.b.n + m) c)) := only_set _ _ _ _
  refine ⟨⟨⟨A, r.b.n + m, c⟩, ⟨?_, ?_, ?_, hat.lim0, hat.lim1, ?_, hat.gbase, hat.mbase⟩, fun k hk => ?_⟩, ?_⟩
  · rw [heap_setCell_same w1 g 0 _ _ _ hg1]
    simp [Wr.cs, Wr.more, Wr.v]
  · have : (r.more ⟨A, r.b.n + m, c⟩ x).bs.map byv = r.bs.map byv ++ x.map byv := by simp [Wr.more]
    rw [this]
    exact owns_only hown1 hset fun k hk hm => by simp at hm; subst hm; exact hne hk
  · exact map_only (map_only hat.map ho1 (fun hm => (hap _ (ob_mem.1 hm)).2.1 rfl)) hset (by simp [Wr.more]; exact fun h => hat.gm h.symm)
  · simp [Wr.more]; omega
  · change (Value.slice A (r.b.n + m) c).ownBlock = some k at hk
    rcases hat1 with h | h
    · exact .inl (by rw [← h]; exact hk)
    · rw [h] at hk; simp at hk; exact .inr (by omega)
  · exact ((Only.refl (r.S g) W).grown hgrow fun k h => .inl (Wr.blk_mem h)).setCell (p := ⟨g, 0, none⟩) (.inl (by simp [Wr.S])) _

/-- What bytes written come to. -/
def BytesPost (r : Wr) (base g : Nat) (bs : List UInt8) (W : World) (e : Ending) (w' : World) : Prop :=
  (r.lim < r.bs.length + bs.length ∧ e = .returned (.int .i64 7) ∧ Wrote base g r [] W w') ∨ ((r.bs.length : Int) + bs.length ≤ r.lim ∧ e = .returned (.int .i64 0) ∧ Wrote base g r bs W w')
theorem Bytes_put (r : Wr) (base g : Nat) (A : Option Addr) (n c : Nat) (bs : List UInt8) (W : World) (h : r.At W base g) (hb : IsBy W A n bs) (hn : n ≤ 1000000) (hbase : base ≤ W.heap.size) :
    Calls Try.prog 34 #[.pointer (some ⟨g, 0, none⟩), .slice A n c] W (BytesPost r base g bs W) := by
  have hc0 := h.cell 0
  have hc1 := h.cell 1
  simp [Wr.cs, Wr.v] at hc0 hc1
  have hn1 := h.n
  have hn2 := hb.len
  have h1 := h.lim0
  have h2 := h.lim1
  have h3 := h.len
  have H := Lib.hid h
  have HB := Lib.hid hb
  have HN := Lib.hid (show r.bs.length = r.b.n ∧ bs.length = n from ⟨hn1, hn2⟩)
  rw [hn1] at h3
  clear h hb hn1 hn2
  by_cases hl : r.lim < r.b.n + n
  · have hd2 : decide (r.lim - r.b.n < (n : Int)) = true := by simp; omega
    go_enter Try.func34, Try.ntmps34
    go_wp2_with ((go_at_call 59; refine (wmade_any r base g _ H.out).mono ?_; rintro e w1 ⟨rfl, rfl⟩))
    go_quiet (fail)
    go_wp2_with fail
    go_ret
    exact .inl ⟨by rw [HN.out.1, HN.out.2]; exact hl, rfl, wrote_none H.out (Only.drewN (Only.refl _ _) _)⟩
  · have hd2 : decide (r.lim - r.b.n < (n : Int)) = false := by simp; omega
    go_enter Try.func34, Try.ntmps34
    go_wp2_with ((go_at_call 59; refine (wmade_any r base g _ H.out).mono ?_; rintro e w1 ⟨rfl, rfl⟩))
    go_quiet (fail)
    obtain ⟨w2, hw2⟩ : ∃ w2, W.drewN nq = w2 := ⟨_, rfl⟩
    have hbw : Below W.heap.size W w2 := by rw [← hw2]; exact below_drewN (Below.refl _ _) _
    have hd0 : w2.cell? ⟨g, 0, none⟩ = some (.slice r.b.a r.b.n r.b.c) := by rw [← hw2]; exact hc0
    have HW := Lib.hid hbw
    rw [hw2]
    clear hw2 hbw
    go_wp2_with (at_builtin; refine Hid.out ?_)
    refine Lib.hid ?_
    obtain ⟨i0, hi0, hz0, hz1, hz2⟩ := info_parts info_u8
    have H2 := Lib.hid (H.out.below HW.out)
    have HB2 := Lib.hid (HB.out.below HW.out)
    refine wpList_append_held _ rfl (.tmp 27) (.tmp 28) _ rfl base 5 i0 _ 1 1 Try.underlying22 hi0 hz0 hz1 hz2 rfl (by omega) r.v r.b.n (r.bs.map byv) rfl H2.out.own A n c (bs.map byv) rfl (by rw [List.length_map, HN.out.2, Nat.mul_one]) HB2.out.held (byv_one _) (by simp only [maxLen]; omega) (by omega) (Nat.le_trans hbase HW.out.size) ?_
    intro v' w3 hown hg hat
    have hf : w3.cell? ⟨g, 0, none⟩ = some (.slice r.b.a r.b.n r.b.c) ∧ w3.frozen? ⟨g, 0, none⟩ = false := by
      have hne : some g ≠ r.v.ownBlock := fun he => (H2.out.apart g he.symm).1 rfl
      exact ⟨(hg.cell_far ⟨g, 0, none⟩ H2.out.lt hne).trans hd0, (hg.frozen_far ⟨g, 0, none⟩ H2.out.lt hne).trans (H2.out.free 0)⟩
    obtain ⟨hf1, hf2⟩ := hf
    have hWr := Wrote_put H2.out hg hown (by have := HN.out; omega) hat
    have hWr2 : Wrote base g r bs W (w3.setCell ⟨g, 0, none⟩ v') := by
      obtain ⟨⟨b, h1, h2⟩, h3⟩ := hWr
      exact ⟨⟨b, h1, fun k hk => (h2 k hk).imp_right (Nat.le_trans HW.out.size)⟩, (Only.of_below HW.out _).trans h3⟩
    have HWR := Lib.hid hWr2
    have hlt3 : g < w3.heap.size := by have := hg.size; have := H2.out.lt; omega
    obtain ⟨A', c', rfl⟩ := slice_of_owns hown
    clear hown hg hat hWr hWr2 hd0
    go_wp2_with fail
    go_ret
    exact .inr ⟨by rw [HN.out.1, HN.out.2]; omega, rfl, HWR.out⟩

/-- What an append to the bytes, stored, comes to. -/
theorem WroteF_put {base g m : Nat} {r : Wf} {x : List UInt8} {v' : Value} {W w1 : World} (hat : r.At W base g) (hgrow : W.grownBy w1 r.v.ownBlock)
    (hown1 : w1.ownsRow base 5 1 v' (r.b.n + m) (r.bs.map byv ++ x.map byv)) (hm : (r.bs.length : Int) + x.length ≤ r.lim)
    (hat1 : v'.ownBlock = r.v.ownBlock ∨ v'.ownBlock = some W.heap.size) : WroteF base g r x W (w1.setCell ⟨g, 0, none⟩ v') := by
  obtain ⟨A, c, rfl⟩ := slice_of_owns hown1
  have hgl := hat.lt
  have hap := hat.apart
  have ho1 : Only (ob r.v) W w1 := (Only.refl _ _).grown hgrow fun k hk => .inl (ob_mem.2 hk)
  have hg1 : w1.heap[g]? = some (.cells r.cs 72 (0, 0)) := (ho1.block g hgl (fun hm => (hap g (ob_mem.1 hm)).1 rfl)).trans hat.box
  have hne : (Value.slice A (r.b.n + m) c).ownBlock ≠ some g := fun he => by
    rcases hat1 with h | h
    · rw [h] at he; exact (hap g he).1 rfl
    · rw [h] at he; simp at he; omega
  have hset : Only [g] w1 (w1.setCell ⟨g, 0, none⟩ (.slice A (r.b.n + m) c)) := only_set _ _ _ _
  refine ⟨⟨⟨A, r.b.n + m, c⟩, ⟨?_, ?_, ?_, hat.lim0, hat.lim1, ?_, hat.gbase⟩, fun k hk => ?_⟩, ?_⟩
  · rw [heap_setCell_same w1 g 0 _ _ _ hg1]
    simp [Wf.cs, Wf.more, Wf.v, Wf.mv]
  · have : (r.more ⟨A, r.b.n + m, c⟩ x).bs.map byv = r.bs.map byv ++ x.map byv := by simp [Wf.more]
    rw [this]
    exact owns_only hown1 hset fun k hk hm => by simp at hm; subst hm; exact hne hk
  · exact owns_only (owns_only hat.mks ho1 (fun k hk hm => (hap k (ob_mem.1 hm)).2.1 hk)) hset (fun k hk hm => by simp at hm; subst hm; exact (hat.mapart _ hk).1 rfl)
  · simp [Wf.more]; omega
  · change (Value.slice A (r.b.n + m) c).ownBlock = some k at hk
    rcases hat1 with h | h
    · exact .inl (by rw [← h]; exact hk)
    · rw [h] at hk; simp at hk; exact .inr (by omega)
  · exact ((Only.refl (r.S g) W).grown hgrow fun k h => .inl (by simp [Wf.S, ob_mem, h])).setCell (p := ⟨g, 0, none⟩) (.inl (by simp [Wf.S])) _

/-- What bytes written come to. -/
def BytesPostF (r : Wf) (base g : Nat) (bs : List UInt8) (W : World) (e : Ending) (w' : World) : Prop :=
  (r.lim < r.bs.length + bs.length ∧ e = .returned (.int .i64 7) ∧ WroteF base g r [] W w') ∨ ((r.bs.length : Int) + bs.length ≤ r.lim ∧ e = .returned (.int .i64 0) ∧ WroteF base g r bs W w')
theorem BytesF_put (r : Wf) (base g : Nat) (A : Option Addr) (n c : Nat) (bs : List UInt8) (W : World) (h : r.At W base g) (hb : IsBy W A n bs) (hn : n ≤ 1000000) (hbase : base ≤ W.heap.size) :
    Calls Try.prog 35 #[.pointer (some ⟨g, 0, none⟩), .slice A n c] W (BytesPostF r base g bs W) := by
  have hc0 := h.cell 0
  have hc1 := h.cell 1
  simp [Wf.cs, Wf.v] at hc0 hc1
  have hn1 := h.n
  have hn2 := hb.len
  have h1 := h.lim0
  have h2 := h.lim1
  have h3 := h.len
  have H := Lib.hid h
  have HB := Lib.hid hb
  have HN := Lib.hid (show r.bs.length = r.b.n ∧ bs.length = n from ⟨hn1, hn2⟩)
  rw [hn1] at h3
  clear h hb hn1 hn2
  by_cases hl : r.lim < r.b.n + n
  · have hd2 : decide (r.lim - r.b.n < (n : Int)) = true := by simp; omega
    go_enter Try.func35, Try.ntmps35
    go_wp2_with fail
    go_quiet (fail)
    go_wp2_with fail
    go_ret
    exact .inl ⟨by rw [HN.out.1, HN.out.2]; exact hl, rfl, wroteF_none H.out (Only.drewN (Only.refl _ _) _)⟩
  · have hd2 : decide (r.lim - r.b.n < (n : Int)) = false := by simp; omega
    go_enter Try.func35, Try.ntmps35
    go_wp2_with fail
    go_quiet (fail)
    obtain ⟨w2, hw2⟩ : ∃ w2, W.drewN nq = w2 := ⟨_, rfl⟩
    have hbw : Below W.heap.size W w2 := by rw [← hw2]; exact below_drewN (Below.refl _ _) _
    have hd0 : w2.cell? ⟨g, 0, none⟩ = some (.slice r.b.a r.b.n r.b.c) := by rw [← hw2]; exact hc0
    have HW := Lib.hid hbw
    rw [hw2]
    clear hw2 hbw
    go_wp2_with (at_builtin; refine Hid.out ?_)
    refine Lib.hid ?_
    obtain ⟨i0, hi0, hz0, hz1, hz2⟩ := info_parts info_u8
    have H2 := Lib.hid (H.out.below HW.out)
    have HB2 := Lib.hid (HB.out.below HW.out)
    refine wpList_append_held _ rfl (.tmp 22) (.tmp 23) _ rfl base 5 i0 _ 1 1 Try.underlying22 hi0 hz0 hz1 hz2 rfl (by omega) r.v r.b.n (r.bs.map byv) rfl H2.out.own A n c (bs.map byv) rfl (by rw [List.length_map, HN.out.2, Nat.mul_one]) HB2.out.held (byv_one _) (by simp only [maxLen]; omega) (by omega) (Nat.le_trans hbase HW.out.size) ?_
    intro v' w3 hown hg hat
    have hf : w3.cell? ⟨g, 0, none⟩ = some (.slice r.b.a r.b.n r.b.c) ∧ w3.frozen? ⟨g, 0, none⟩ = false := by
      have hne : some g ≠ r.v.ownBlock := fun he => (H2.out.apart g he.symm).1 rfl
      exact ⟨(hg.cell_far ⟨g, 0, none⟩ H2.out.lt hne).trans hd0, (hg.frozen_far ⟨g, 0, none⟩ H2.out.lt hne).trans (H2.out.free 0)⟩
    obtain ⟨hf1, hf2⟩ := hf
    have hWr := WroteF_put H2.out hg hown (by have := HN.out; omega) hat
    have hWr2 : WroteF base g r bs W (w3.setCell ⟨g, 0, none⟩ v') := by
      obtain ⟨⟨b, h1, h2⟩, h3⟩ := hWr
      exact ⟨⟨b, h1, fun k hk => (h2 k hk).imp_right (Nat.le_trans HW.out.size)⟩, (Only.of_below HW.out _).trans h3⟩
    have HWR := Lib.hid hWr2
    have hlt3 : g < w3.heap.size := by have := hg.size; have := H2.out.lt; omega
    obtain ⟨A', c', rfl⟩ := slice_of_owns hown
    clear hown hg hat hWr hWr2 hd0
    go_wp2_with fail
    go_ret
    exact .inr ⟨by rw [HN.out.1, HN.out.2]; omega, rfl, HWR.out⟩
end Go.Proofs.Ytfbakbfljpadlaa
