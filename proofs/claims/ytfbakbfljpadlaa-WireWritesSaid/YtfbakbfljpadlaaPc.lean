import Derived.Test.YtfbakbfljpadlaaPb
/- Marks of the reference's writer. -/
namespace Go.Proofs.Ytfbakbfljpadlaa
open Go.RowKit Go.Maps
set_option linter.unusedSimpArgs false
set_option linter.unusedVariables false
attribute [local go_sem ↓] Go.wp_at_zero Go.wp_at_succ

theorem info_i : (Try.prog.info? 3).map (fun i => (i.zero, i.size, i.bytes)) = some (some (.int .i64 0), 1, 8) := by kernel_rfl

def Wf.new (lim : Int) : Wf := ⟨⟨none, 0, 0⟩, lim, [], ⟨none, 0, 0⟩, []⟩
theorem NewWriterF_any (lim : Int) (W : World) (h0 : 0 ≤ lim) (h1 : lim ≤ 65536) :
    Calls Try.prog 31 #[.int .i64 lim] W fun e w' => ∃ g, e = .returned (.tuple #[.pointer (some ⟨g, 0, none⟩), .int .i64 0]) ∧ (Wf.new lim).At w' W.heap.size g ∧ Below W.heap.size W w' := by
  go_enter Try.func31, Try.ntmps31
  go_wp2_with fail
  go_ret2
  exact ⟨_, rfl, ⟨heap_here rfl, ⟨by simp [Wf.new], .inl ⟨rfl, rfl⟩⟩, ⟨by simp [Wf.new], .inl ⟨rfl, rfl⟩⟩, h0, h1, by simp [Wf.new]; exact h0, Nat.le_refl _⟩, (Below.refl _ _).alloc (Nat.le_refl _) _⟩

theorem NewWriterF_bad (lim : Int) (W : World) (h : lim < 0 ∨ 65536 < lim) :
    Calls Try.prog 31 #[.int .i64 lim] W fun e w' => e = .returned (.tuple #[.pointer none, .int .i64 2]) ∧ W = w' := by
  by_cases h0 : lim < 0
  · clear h
    go_enter Try.func31, Try.ntmps31
    go_wp2_with fail
    go_ret2
    exact ⟨rfl, rfl⟩
  · have h1 : 65536 < lim := by omega
    clear h
    go_enter Try.func31, Try.ntmps31
    go_wp2_with fail
    go_ret2
    exact ⟨rfl, rfl⟩

def Wf.marked (r : Wf) (b k : Sl) : Wf := { r with b := b, bs := r.bs ++ be 0 2, k := k, ms := r.ms ++ [r.bs.length] }
structure MarkedF (base g : Nat) (r : Wf) (W w' : World) : Prop where
  ex : ∃ b k, (r.marked b k).At w' base g ∧ (∀ j, (r.marked b k).v.ownBlock = some j → r.v.ownBlock = some j ∨ W.heap.size ≤ j)
  only : Only (r.S g) W w'
def MarkPostF (r : Wf) (base g : Nat) (W : World) (e : Ending) (w' : World) : Prop :=
  (endOf r.lim r.bs.length 0 2 = .full ∧ e = .returned (.tuple #[.int .i64 0, .int .i64 7]) ∧ WroteF base g r [] W w') ∨
  (endOf r.lim r.bs.length 0 2 = .ok ∧ e = .returned (.tuple #[.int .i64 r.bs.length, .int .i64 0]) ∧ MarkedF base g r W w')

theorem marked_put {base g : Nat} {r0 r : Wf} {b : Sl} {v' : Value} {W w w1 w2 : World} (hr : r0.more b (be 0 2) = r) (hat : r.At w base g) (hblk : ∀ k, r.v.ownBlock = some k → r0.v.ownBlock = some k ∨ W.heap.size ≤ k) (ho : Only (r0.S g) W w)
    (hbw : Below w.heap.size w w1) (hgrow : w1.grownBy w2 r.mv.ownBlock) (hown : w2.ownsRow base 3 1 v' (r.k.n + 1) (r.ms.map (fun (a : Nat) => Value.int .i64 (a : Int)) ++ [.int .i64 r0.bs.length]))
    (hat1 : v'.ownBlock = r.mv.ownBlock ∨ v'.ownBlock = some w1.heap.size) : MarkedF base g r0 W (w2.setCell ⟨g, 2, none⟩ v') := by
  subst hr
  obtain ⟨A, c, rfl⟩ := slice_of_owns hown
  have hat' := hat.below hbw
  have hmap := hat'.mapart
  have hap := hat'.apart
  have ho1 : Only (ob (r0.more b (be 0 2)).mv) w1 w2 := (Only.refl _ _).grown hgrow fun k hk => .inl (ob_mem.2 hk)
  have hg1 : w2.heap[g]? = some (.cells (r0.more b (be 0 2)).cs 72 (0, 0)) := (ho1.block g hat'.lt (fun hm => (hmap g (ob_mem.1 hm)).1 rfl)).trans hat'.box
  have hne : (Value.slice A ((r0.more b (be 0 2)).k.n + 1) c).ownBlock ≠ some g := fun he => by
    rcases hat1 with h | h
    · rw [h] at he; exact (hmap g he).1 rfl
    · rw [h] at he; have := hat'.lt; simp at he; omega
  have hset : Only [g] w2 (w2.setCell ⟨g, 2, none⟩ (.slice A ((r0.more b (be 0 2)).k.n + 1) c)) := only_set _ _ _ _
  refine ⟨⟨b, ⟨A, r0.k.n + 1, c⟩, ⟨?_, ?_, ?_, hat.lim0, hat.lim1, hat.len, hat.gbase⟩, hblk⟩, ?_⟩
  · rw [heap_setCell_same w2 g 2 _ _ _ hg1]
    simp [Wf.cs, Wf.more, Wf.marked, Wf.v, Wf.mv]
  · exact owns_only (owns_only hat'.own ho1 (fun k hk hm => (hap k hk).2.1 (ob_mem.1 hm))) hset (fun k hk hm => by simp at hm; subst hm; exact (hap _ hk).1 rfl)
  · have e : ((r0.marked b ⟨A, r0.k.n + 1, c⟩).ms.map fun (a : Nat) => Value.int .i64 (a : Int)) = (r0.ms.map fun (a : Nat) => Value.int .i64 (a : Int)) ++ [.int .i64 r0.bs.length] := by simp [Wf.marked]
    rw [e]
    exact owns_only hown hset fun k hk hm => by simp at hm; subst hm; exact hne hk
  · have hS : ∀ k, (r0.more b (be 0 2)).mv.ownBlock = some k → k ∈ r0.S g := fun k hk => by
      have : r0.mv.ownBlock = some k := hk
      simp [Wf.S, ob_mem, this]
    exact ((ho.then_below hbw).grown hgrow fun k hk => .inl (hS k hk)).setCell (p := ⟨g, 2, none⟩) (.inl (by simp [Wf.S])) _

set_option maxHeartbeats 1000000 in
theorem MarkF_any (r : Wf) (base g : Nat) (W : World) (h : r.At W base g) (hbase : base ≤ W.heap.size) (hcnt : r.ms.length ≤ 1000000) :
    Calls Try.prog 37 #[.pointer (some ⟨g, 0, none⟩)] W (MarkPostF r base g W) := by
  have hc0 := h.cell 0
  simp [Wf.cs, Wf.v] at hc0
  have HL := Lib.hid h.n
  have HP := Lib.hid (PutF_any r base g W 0 2 h (by omega) (by omega) hbase)
  clear h
  go_enter Try.func37, Try.ntmps37
  go_wp2_with (go_at_call 33; refine Hid.out ?_)
  refine Lib.hid ?_
  refine HP.out.mono ?_
  rintro e w1 (⟨h1, rfl, h2⟩ | ⟨h1, rfl, h2⟩ | ⟨h1, rfl, h2⟩)
  · simp [endOf] at h1
    split at h1 <;> cases h1
  · go_wp2_with fail
    go_ret2
    exact .inl ⟨h1, rfl, h2⟩
  · obtain ⟨⟨b, hat, hblk⟩, honly⟩ := h2
    obtain ⟨r1, hr1⟩ : ∃ r1, r.more b (be 0 2) = r1 := ⟨_, rfl⟩
    rw [hr1] at hat hblk
    have hms : r1.ms = r.ms := by rw [← hr1]; rfl
    have hc2 := hat.cell 2
    simp [Wf.cs, Wf.mv] at hc2
    have hkn := hat.kn
    have HAT := Lib.hid hat
    have HBK := Lib.hid hblk
    have HON := Lib.hid honly
    have H1 := Lib.hid h1
    have HR := Lib.hid hr1
    have hcn : r1.k.n ≤ 1000000 := by rw [← hkn, hms]; exact hcnt
    have hbw : base ≤ w1.heap.size := Nat.le_trans hbase honly.size
    clear hat hblk honly h1 hr1 hkn hc0 HP hms
    go_wp2_with (at_builtin; refine Hid.out ?_)
    refine Lib.hid ?_
    obtain ⟨i0, hi0, hz0, hz1, hz2⟩ := info_parts info_i
    rw [← HL.out]
    have hbA : Below w1.heap.size w1 (w1.alloc (.cells #[.int .i64 r.bs.length] 3)) := (Below.refl _ _).alloc (Nat.le_refl _) _
    have hA := HAT.out.below hbA
    refine wpList_append_held _ rfl (.tmp 17) (.tmp 19) _ rfl base 3 i0 _ 1 8 Try.underlying23 hi0 hz0 hz1 hz2 rfl (by omega) r1.mv r1.k.n (r1.ms.map fun (a : Nat) => .int .i64 (a : Int)) rfl hA.mks (some ⟨w1.heap.size, 0, none⟩) 1 1 [.int .i64 r.bs.length] rfl rfl (held_one rfl) (by intro u hu; simp at hu; subst hu; rfl) (by simp only [maxLen]; omega) (by omega) (by simp; omega) ?_
    intro v' w2 hown hg hat1
    have hne : some g ≠ r1.mv.ownBlock := fun he => (hA.mapart g he.symm).1 rfl
    have hf1 : w2.cell? ⟨g, 2, none⟩ = some (.slice r1.k.a r1.k.n r1.k.c) := (hg.cell_far ⟨g, 2, none⟩ hA.lt hne).trans ((World.cell?_alloc_lt _ _ _ HAT.out.lt).trans hc2)
    have hf2 : w2.frozen? ⟨g, 2, none⟩ = false := (hg.frozen_far ⟨g, 2, none⟩ hA.lt hne).trans (hA.free 2)
    have HM := Lib.hid (marked_put HR.out HAT.out HBK.out HON.out hbA hg hown hat1)
    have hlt3 : g < w2.heap.size := Nat.lt_of_lt_of_le hA.lt hg.size
    obtain ⟨A', c', rfl⟩ := slice_of_owns hown
    clear hown hg hat1 hbA hA hne hi0 hz0 hz1 hz2 hc2
    go_wp2_with fail
    go_ret2
    exact .inr ⟨H1.out, rfl, HM.out⟩
end Go.Proofs.Ytfbakbfljpadlaa
