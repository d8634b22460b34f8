import Derived.Test.YtkklhidoonefoaaG

/- step: the two lists. -/
namespace Go.Proofs.Ytkklhidoonefoaa
open Go.RowKit
set_option linter.unusedSimpArgs false
set_option linter.unusedVariables false

theorem bits32_any (k : Int) (h : 0 ≤ k) (h2 : k ≤ 1000) : k % 4294967296 = k := by omega

/-- What the loop of step keeps: the route in its box, its new list held, all old memory as it was. -/
structure StepInv (w wr : World) (r : Rt) (sl : Sl) (k : Nat) : Prop where
  below : Below w.heap.size w wr
  size : w.heap.size + 1 < wr.heap.size
  box : wr.heap[w.heap.size]? = some (.cells r.cs 40 (0, 0))
  out : ∃ z, wr.heap[w.heap.size + 1]? = some (.cells z 40 (0, 0)) ∧ z.size = 38
  len : sl.n = k
  held : ∃ xs, xs.length = k ∧ Held wr sl.a xs ∧ (∀ u ∈ xs, u.oneCell' = true) ∧ ∀ b off, sl.a = some ⟨b, off, none⟩ → w.heap.size + 2 ≤ b

theorem setCell_held {w : World} {A : Option Addr} {xs : List Value} {b off : Nat} {v : Value} (h : Held w A xs) (hb : ∀ b' off', A = some ⟨b', off', none⟩ → b' ≠ b) : Held (w.setCell ⟨b, off, none⟩ v) A xs :=
  h.same fun b' off' hA _ => heap_setCell_other w _ _ v (hb b' off' hA)

set_option maxRecDepth 100000 in
set_option maxHeartbeats 1000000 in
theorem step2_any (r : Rt) (n b : Int) (w : World) (hb : n % 9 = b) (hp : r.a.path = ⟨none, 0, 0⟩) :
    Calls Try.prog 13 #[.agg r.cs, .int .i64 2, .int .i64 n] w fun e w' => ∃ sl : Sl, e = .returned (.agg (stepR r 2 (1 + b) sl).cs) ∧ (sl.n : Int) = 1 + b ∧ Below w.heap.size w w' := by
  have b0 : 0 ≤ b ∧ b ≤ 8 := by omega
  have HB := Lib.hid hb
  have HP := Lib.hid hp
  clear hb hp
  go_enter Try.func13, Try.ntmps13
  go_upto_if 33 with (go_at_call 12; refine (pick_val n 9 b HB.out _ (by omega) (by omega)).mono ?_; rintro e w1 ⟨rfl, rfl⟩)
  go_loopw [7] (fun i wr => ∃ (k : Nat) (sl : Sl), i = .int .i64 k ∧ (k : Int) ≤ 1 + b ∧ StepInv w wr (stepR r 2 (1 + b) sl) sl k) (fun i _ => 20 - (intOf i).toNat)
  case atStart =>
    have e : stepR r 2 (1 + b) ⟨none, 0, 0⟩ = r := by rw [← HP.out]; simp [stepR]
    refine ⟨0, ⟨none, 0, 0⟩, rfl, by omega, ⟨?_, by simp, ?_, ⟨zeroRt.cs, ?_, ?_⟩, rfl, [], rfl, Held.nil, by simp, fun _ _ h => by cases h⟩⟩
    · exact ((Below.refl _ _).alloc (Nat.le_refl _) _).alloc (by simp) _
    · rw [e, Below.heap_alloc _ _ _ (by simp)]; exact heap_alloc_new w _
    · have := heap_alloc_new (w.alloc (.cells r.cs 40)) (.cells zeroRt.cs 40)
      have e : (w.alloc (.cells r.cs 40)).heap.size = w.heap.size + 1 := by simp
      rw [e] at this
      exact this
    · simp
  case round =>
    obtain ⟨k, sl, rfl, hk, hI⟩ := hrel
    have HI := Lib.hid hI
    clear hI
    have hlen := Lib.hid HI.out.len
    have hrow : wr.row? w.heap.size 0 38 = some (stepR r 2 (1 + b) sl).cs := row?_whole HI.out.box (by simp)
    have hbox : wr.cell? ⟨w.heap.size, 22, none⟩ = some (.slice sl.a k sl.c) := by rw [← HI.out.len]; simp [World.cell?, HI.out.box, stepR, Rt.cs]
    obtain ⟨z, hz, hzs⟩ := HI.out.out
    have hrow1 : wr.row? (w.heap.size + 1) 0 38 = some z := row?_whole hz hzs.symm
    have hloose : wr.loose (w.heap.size + 1) := ⟨z, 40, hz⟩
    have HZ := Lib.hid hz
    clear hz
    have hsz := HI.out.size
    by_cases hlt : (k : Int) < 1 + b
    · obtain ⟨xs, hx1, hx2, hx3, hx4⟩ := HI.out.held
      have HX2 := Lib.hid hx2
      have HX3 := Lib.hid hx3
      have HX4 := Lib.hid hx4
      clear hx2 hx3 hx4
      go_wp2_with (go_at_call 29; refine Hid.out ?_)
      refine Lib.hid ?_
      refine (own29_any sl.a k sl.c xs _ hx1 (by omega) HX2.out HX3.out).mono ?_
      rintro e w1 ⟨v, rfl, hown, hb1⟩
      have HO := Lib.hid hown
      clear hown
      obtain ⟨x1, rfl⟩ := Ext.of_below hb1
      go_wp2_with (at_builtin; refine Hid.out ?_)
      refine Lib.hid ?_
      obtain ⟨i0, hi0, hz0, hz1, hz2⟩ := info_parts u32_info25
      refine wpList_append_held _ rfl (.tmp 41) (.tmp 44) _ rfl wr.heap.size 25 i0 _ 1 4 Try.underlying32 hi0 hz0 hz1 hz2 rfl (by omega) v k xs rfl (owns_below HO.out (Below.alloc (Below.refl _ _) (Nat.le_refl _) _)) _ 1 1 _ rfl rfl (held_one (by simp)) (by simp) (by simp only [maxLen]; omega) (by omega) (by simp <;> omega) ?_
      intro v2 w2 hown2 hg2 hat2
      have hb2 : Below wr.heap.size wr w2 := ((ext_below' (Below.refl _ wr) (Nat.le_refl _) x1).alloc (by simp <;> omega) _).trans (below_grown hg2 (by simp <;> omega) fun g hg => (owns_block HO.out g hg).1)
      obtain ⟨A2, c2, rfl, hc2, hm2, hh2, hA2⟩ := held_of_owns hown2
      have hbox2 : w2.heap[w.heap.size]? = some (.cells (stepR r 2 (1 + b) sl).cs 40 (0, 0)) := (hb2.block _ (by omega)).trans HI.out.box
      have hout2 : w2.heap[w.heap.size + 1]? = some (.cells z 40 (0, 0)) := (hb2.block _ (by omega)).trans HZ.out
      have hcell2 : w2.cell? ⟨w.heap.size, 22, none⟩ = some (.slice sl.a sl.n sl.c) := by simp [World.cell?, hbox2, stepR, Rt.cs]
      have hfz2 : w2.frozen? ⟨w.heap.size, 22, none⟩ = false := by simp [World.frozen?, hbox2]
      have HB2 := Lib.hid hb2
      have HH2 := Lib.hid hh2
      have HA2 := Lib.hid hA2
      have HBX := Lib.hid hbox2
      have HOU := Lib.hid hout2
      have HON := Lib.hid hown2
      clear hown2 hg2 hat2 hb2 hh2 hA2 hbox2 hout2
      go_wp2_with fail
      go_roundw
      case rel =>
        have hwx := setCell_held (b := w.heap.size) (off := 22) (v := .slice A2 (k + 1) c2) HH2.out (fun b' off' hA => by have := HA2.out b' off' hA; omega)
        refine ⟨k + 1, ⟨A2, k + 1, c2⟩, by go_num, by omega, ⟨?_, ?_, ?_, ⟨z, ?_, hzs⟩, rfl, xs ++ [_], by simp [hx1], hwx, fun u hu => ?_, fun b' off' hA => by have := HA2.out b' off' hA; omega⟩⟩
        · exact (HI.out.below.trans (HB2.out.mono (by omega))).setCell (Nat.le_refl _) _
        · have := HB2.out.size
          simp [World.setCell]
          omega
        · rw [heap_setCell_same w2 _ 22 _ 40 _ HBX.out]
          simp [stepR, Rt.cs]
        · exact (heap_setCell_other w2 _ _ _ (by simp)).trans HOU.out
        · rcases List.mem_append.1 hu with h | h
          · exact HX3.out u h
          · simp at h
            subst h
            rfl
      case measure => simp [intOf]; omega
    · go_wp2_with fail
      refine bodyPost_ret (v := .agg (stepR r 2 (1 + b) sl).cs) (results_row rfl agg40 (b := w.heap.size + 1) (off := 0) rfl (row?_whole (put_heap_whole HZ.out ?_) ?_)) rfl ⟨sl, rfl, ?_, ?_⟩
      · simp [hzs]
      · simp
      · have := hlen.out; omega
      · exact put_below HI.out.below (by omega) _ _
set_option maxRecDepth 100000 in
set_option maxHeartbeats 1000000 in
theorem step7_any (r : Rt) (n b : Int) (w : World) (hb : n % 9 = b) (hp : r.a.clus = ⟨none, 0, 0⟩) :
    Calls Try.prog 13 #[.agg r.cs, .int .i64 7, .int .i64 n] w fun e w' => ∃ sl : Sl, e = .returned (.agg (stepR r 7 (1 + b) sl).cs) ∧ (sl.n : Int) = 1 + b ∧ Below w.heap.size w w' := by
  have b0 : 0 ≤ b ∧ b ≤ 8 := by omega
  have HB := Lib.hid hb
  have HP := Lib.hid hp
  clear hb hp
  go_enter Try.func13, Try.ntmps13
  go_upto_if 77 with (go_at_call 12; refine (pick_val n 9 b HB.out _ (by omega) (by omega)).mono ?_; rintro e w1 ⟨rfl, rfl⟩)
  go_loopw [8] (fun i wr => ∃ (k : Nat) (sl : Sl), i = .int .i64 k ∧ (k : Int) ≤ 1 + b ∧ StepInv w wr (stepR r 7 (1 + b) sl) sl k) (fun i _ => 20 - (intOf i).toNat)
  case atStart =>
    have e : stepR r 7 (1 + b) ⟨none, 0, 0⟩ = r := by rw [← HP.out]; simp [stepR]
    refine ⟨0, ⟨none, 0, 0⟩, rfl, by omega, ⟨?_, by simp, ?_, ⟨zeroRt.cs, ?_, ?_⟩, rfl, [], rfl, Held.nil, by simp, fun _ _ h => by cases h⟩⟩
    · exact ((Below.refl _ _).alloc (Nat.le_refl _) _).alloc (by simp) _
    · rw [e, Below.heap_alloc _ _ _ (by simp)]; exact heap_alloc_new w _
    · have := heap_alloc_new (w.alloc (.cells r.cs 40)) (.cells zeroRt.cs 40)
      have e : (w.alloc (.cells r.cs 40)).heap.size = w.heap.size + 1 := by simp
      rw [e] at this
      exact this
    · simp
  case round =>
    obtain ⟨k, sl, rfl, hk, hI⟩ := hrel
    have HI := Lib.hid hI
    clear hI
    have hlen := Lib.hid HI.out.len
    have hrow : wr.row? w.heap.size 0 38 = some (stepR r 7 (1 + b) sl).cs := row?_whole HI.out.box (by simp)
    have hbox : wr.cell? ⟨w.heap.size, 30, none⟩ = some (.slice sl.a k sl.c) := by rw [← HI.out.len]; simp [World.cell?, HI.out.box, stepR, Rt.cs]
    obtain ⟨z, hz, hzs⟩ := HI.out.out
    have hrow1 : wr.row? (w.heap.size + 1) 0 38 = some z := row?_whole hz hzs.symm
    have hloose : wr.loose (w.heap.size + 1) := ⟨z, 40, hz⟩
    have HZ := Lib.hid hz
    clear hz
    have hsz := HI.out.size
    by_cases hlt : (k : Int) < 1 + b
    · obtain ⟨xs, hx1, hx2, hx3, hx4⟩ := HI.out.held
      have HX2 := Lib.hid hx2
      have HX3 := Lib.hid hx3
      have HX4 := Lib.hid hx4
      clear hx2 hx3 hx4
      go_wp2_with (go_at_call 30; refine Hid.out ?_)
      refine Lib.hid ?_
      refine (own30_any sl.a k sl.c xs _ hx1 (by omega) HX2.out HX3.out).mono ?_
      rintro e w1 ⟨v, rfl, hown, hb1⟩
      have HO := Lib.hid hown
      clear hown
      obtain ⟨x1, rfl⟩ := Ext.of_below hb1
      go_wp2_with (at_builtin; refine Hid.out ?_)
      refine Lib.hid ?_
      obtain ⟨i0, hi0, hz0, hz1, hz2⟩ := info_parts u32_info27
      refine wpList_append_held _ rfl (.tmp 85) (.tmp 88) _ rfl wr.heap.size 27 i0 _ 1 4 Try.underlying33 hi0 hz0 hz1 hz2 rfl (by omega) v k xs rfl (owns_below HO.out (Below.alloc (Below.refl _ _) (Nat.le_refl _) _)) _ 1 1 _ rfl rfl (held_one (by simp)) (by simp) (by simp only [maxLen]; omega) (by omega) (by simp <;> omega) ?_
      intro v2 w2 hown2 hg2 hat2
      have hb2 : Below wr.heap.size wr w2 := ((ext_below' (Below.refl _ wr) (Nat.le_refl _) x1).alloc (by simp <;> omega) _).trans (below_grown hg2 (by simp <;> omega) fun g hg => (owns_block HO.out g hg).1)
      obtain ⟨A2, c2, rfl, hc2, hm2, hh2, hA2⟩ := held_of_owns hown2
      have hbox2 : w2.heap[w.heap.size]? = some (.cells (stepR r 7 (1 + b) sl).cs 40 (0, 0)) := (hb2.block _ (by omega)).trans HI.out.box
      have hout2 : w2.heap[w.heap.size + 1]? = some (.cells z 40 (0, 0)) := (hb2.block _ (by omega)).trans HZ.out
      have hcell2 : w2.cell? ⟨w.heap.size, 30, none⟩ = some (.slice sl.a sl.n sl.c) := by simp [World.cell?, hbox2, stepR, Rt.cs]
      have hfz2 : w2.frozen? ⟨w.heap.size, 30, none⟩ = false := by simp [World.frozen?, hbox2]
      have HB2 := Lib.hid hb2
      have HH2 := Lib.hid hh2
      have HA2 := Lib.hid hA2
      have HBX := Lib.hid hbox2
      have HOU := Lib.hid hout2
      have HON := Lib.hid hown2
      clear hown2 hg2 hat2 hb2 hh2 hA2 hbox2 hout2
      go_wp2_with fail
      go_roundw
      case rel =>
        have hwx := setCell_held (b := w.heap.size) (off := 30) (v := .slice A2 (k + 1) c2) HH2.out (fun b' off' hA => by have := HA2.out b' off' hA; omega)
        refine ⟨k + 1, ⟨A2, k + 1, c2⟩, by go_num, by omega, ⟨?_, ?_, ?_, ⟨z, ?_, hzs⟩, rfl, xs ++ [_], by simp [hx1], hwx, fun u hu => ?_, fun b' off' hA => by have := HA2.out b' off' hA; omega⟩⟩
        · exact (HI.out.below.trans (HB2.out.mono (by omega))).setCell (Nat.le_refl _) _
        · have := HB2.out.size
          simp [World.setCell]
          omega
        · rw [heap_setCell_same w2 _ 30 _ 40 _ HBX.out]
          simp [stepR, Rt.cs]
        · exact (heap_setCell_other w2 _ _ _ (by simp)).trans HOU.out
        · rcases List.mem_append.1 hu with h | h
          · exact HX3.out u h
          · simp at h
            subst h
            rfl
      case measure => simp [intOf]; omega
    · go_wp2_with fail
      refine bodyPost_ret (v := .agg (stepR r 7 (1 + b) sl).cs) (results_row rfl agg40 (b := w.heap.size + 1) (off := 0) rfl (row?_whole (put_heap_whole HZ.out ?_) ?_)) rfl ⟨sl, rfl, ?_, ?_⟩
      · simp [hzs]
      · simp
      · have := hlen.out; omega
      · exact put_below HI.out.below (by omega) _ _

end Go.Proofs.Ytkklhidoonefoaa
