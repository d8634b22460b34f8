import Derived.Test.YtkklhidoonefoaaI
import Derived.Test.YtkklhidoonefoaaLex
/- The walk of BestSteps. -/
namespace Go.Proofs.Ytkklhidoonefoaa
open Go.RowKit
set_option linter.unusedSimpArgs false
set_option linter.unusedVariables false

theorem heap_at {w : World} {o : Obj} {k : Nat} (h : k = w.heap.size) : (w.alloc o).heap[k]? = some o := by subst h; exact heap_alloc_new w o

theorem hops_same {w w' : World} {g : Nat} {n : Nat} {l : List (Int × Int)} (h : Hops w (some ⟨g, 0, none⟩) n l) (hb : w'.heap[g]? = w.heap[g]?) : Hops w' (some ⟨g, 0, none⟩) n l := by
  obtain ⟨h1, h2, h3, h4⟩ := h
  refine ⟨h1, h2, h3, fun hn => ?_⟩
  obtain ⟨b, off, hA, hlt, hc⟩ := h4 hn
  simp at hA
  obtain ⟨rfl, rfl⟩ := hA
  refine ⟨_, 0, rfl, ?_, fun k p hp => ?_⟩
  · rw [Array.getElem?_eq_getElem hlt] at hb
    exact (Array.getElem?_eq_some_iff.1 hb).1
  · have := hc k p hp
    rw [World.cell?_of_block (w := w) (w' := w') hb, World.cell?_of_block (w := w) (w' := w') hb]
    exact this

structure StepsInv (w wr : World) (what p o b : Int) (sl : Sl) (B BW g : Nat) (r : Rt) (k : Int) : Prop where
  below : Below w.heap.size w wr
  chain : Chain what p o k r
  boxB : wr.heap[B]? = some (.cells r.cs 40 (0, 0))
  boxW : wr.heap[BW]? = some (.cells (stepR (baseR p) what b sl).cs 40 (0, 0))
  hops : Hops wr (some ⟨g, 0, none⟩) 2 hops2

set_option maxRecDepth 100000 in
set_option maxHeartbeats 8000000 in
theorem steps_any (x y z what b o p : Int) (w : World) (hx : x % 10 = what) (hy : y % 9 = b) (hz : z % 9 = o) (hp : p = if what ≤ 5 then 0 else 20) :
    Calls Try.prog 4 #[.int .i64 x, .int .i64 y, .int .i64 z] w fun e w' => e = .returned (.bool true) ∧ Below w.heap.size w w' := by
  have h0 : 0 ≤ what := by omega
  have h9 : what ≤ 9 := by omega
  have b0 : 0 ≤ b ∧ b ≤ 8 := by omega
  have o0 : 0 ≤ o ∧ o ≤ 8 := by omega
  have HX := Lib.hid hx
  have HY := Lib.hid hy
  have HZ := Lib.hid hz
  clear hx hy hz
  by_cases h5 : what ≤ 5
  · simp [h5] at hp
    subst hp
    go_enter Try.func4, Try.ntmps4
    go_wp2_with (first
      | (go_at_call 9; refine (lives_any _).mono ?_; rintro e w1 ⟨rfl, hb1⟩; obtain ⟨x1, rfl⟩ := Ext.of_below hb1)
      | (go_at_call 12; refine (pick_val x 10 what HX.out _ (by omega) (by omega)).mono ?_; rintro e w1 ⟨rfl, rfl⟩)
      | (go_at_call 13; refine Hid.out ?_))
    refine Lib.hid ?_
    refine (step_any (baseR 0) what y b _ (by omega) (by omega) HY.out (fun _ => rfl) (fun _ => rfl) (by simp [baseR, baseA]) (by simp [baseR])).mono ?_
    rintro e w1 ⟨sl, rfl, hsl, hb2⟩
    obtain ⟨x2, rfl⟩ := Ext.of_below hb2
    have HS := Lib.hid hsl
    clear hsl hb2
    go_upto_if 32 with fail
    go_loopw [12] (fun i wr => ∃ (k : Nat) (r : Rt), i = .int .i64 k ∧ (k : Int) ≤ 10 ∧ what < k ∧ StepsInv w wr what 0 (1 + o) (1 + b) sl (w.heap.size + x1.tail.size + 2) (w.heap.size + x1.tail.size + 3 + x2.tail.size) (w.heap.size + x1.tail.size) r k) (fun i _ => 20 - (intOf i).toNat)
    case atStart =>
      refine ⟨(what + 1).toNat, baseR 0, by congr 1; omega, by omega, by omega, ⟨?_, ?_, ?_, ?_, ?_⟩⟩
      · exact (ext_below' (((ext_below' (Below.refl _ w) (Nat.le_refl _) x1).alloc (by simp <;> omega) _).alloc (by simp <;> omega) _ |>.alloc (by simp <;> omega) _) (by simp <;> omega) x2).alloc (by simp <;> omega) _
      · have := chain_base what 0 (1 + o) h0
        rwa [show ((what + 1).toNat : Int) = what + 1 by omega]
      · rw [Below.heap_alloc _ _ _ (by simp <;> omega), ext_heap _ _ (by simp <;> omega)]
        exact heap_at (by simp <;> omega)
      · exact heap_at (by simp <;> omega)
      · refine ⟨rfl, by omega, by simp [hops2], fun _ => ⟨_, 0, rfl, by simp <;> omega, fun k p hk => ?_⟩⟩
        match k, hk with
        | 0, hk => simp [hops2] at hk; subst hk; constructor <;> simp [go_sem] <;> omega
        | 1, hk => simp [hops2] at hk; subst hk; constructor <;> simp [go_sem] <;> omega
        | k + 2, hk => simp [hops2] at hk
    case round =>
      obtain ⟨k, r, rfl, hk, hwk, hI⟩ := hrel
      have HI := Lib.hid hI
      clear hI
      have hrowB : wr.row? (w.heap.size + x1.tail.size + 2) 0 38 = some r.cs := row?_whole HI.out.boxB (by simp)
      have hlB : wr.loose (w.heap.size + x1.tail.size + 2) := ⟨_, _, HI.out.boxB⟩
      have hrowW : wr.row? (w.heap.size + x1.tail.size + 3 + x2.tail.size) 0 38 = some (stepR (baseR 0) what (1 + b) sl).cs := row?_whole HI.out.boxW (by simp)
      by_cases hlt : (k : Int) < 10
      · by_cases hsk : k = 5 ∨ k = 8 ∨ k = 9
        · have hc := chain_skip HI.out.chain (by omega)
          have HC := Lib.hid hc
          clear hc
          rcases hsk with rfl | rfl | rfl
          all_goals
            go_wp2_with fail
            go_roundw
            case rel => exact ⟨_, r, by go_num, by simp, by simp <;> omega, ⟨HI.out.below, by simpa using HC.out, HI.out.boxB, HI.out.boxW, HI.out.hops⟩⟩
            case measure => simp [intOf]
        · have k5 : (k : Int) ≠ 5 := by omega
          have k8 : (k : Int) ≠ 8 := by omega
          have k9 : (k : Int) ≠ 9 := by omega
          clear hsk
          go_wp2_with (go_at_call 13; refine Hid.out ?_)
          refine Lib.hid ?_
          have hnil := chain_nil HI.out.chain (by omega) (by omega)
          refine (step_any r k z o _ (by omega) (by omega) HZ.out (fun h => chain_path HI.out.chain h) (fun h => chain_clus HI.out.chain h) hnil.1 hnil.2.1).mono ?_
          rintro e w1 ⟨sl2, rfl, hsl2, hb3⟩
          have hc := chain_step (sl := sl2) HI.out.chain hwk h0 (by omega) k5 (by omega) (by omega) hsl2
          have HC := Lib.hid hc
          have HB3 := Lib.hid hb3
          clear hc hsl2 hnil hb3
          have hsz := HI.out.below.size
          have hB := HI.out.boxB
          have hBl := (Array.getElem?_eq_some_iff.1 hB).1
          have hWl := (Array.getElem?_eq_some_iff.1 HI.out.boxW).1
          have hB1 : w1.heap[w.heap.size + x1.tail.size + 2]? = some (.cells r.cs 40 (0, 0)) := (HB3.out.block _ hBl).trans hB
          have hW1 : w1.heap[w.heap.size + x1.tail.size + 3 + x2.tail.size]? = some (.cells (stepR (baseR 0) what (1 + b) sl).cs 40 (0, 0)) := (HB3.out.block _ hWl).trans HI.out.boxW
          have hrow1 : w1.row? (w.heap.size + x1.tail.size + 2) 0 38 = some r.cs := row?_whole hB1 (by simp)
          have hl1 : w1.loose (w.heap.size + x1.tail.size + 2) := ⟨_, _, hB1⟩
          have HB1 := Lib.hid hB1
          have HW1 := Lib.hid hW1
          clear hB hB1 hW1
          go_wp2_with fail
          go_roundw
          case rel =>
            refine ⟨k + 1, _, by go_num, by omega, by omega, ⟨?_, HC.out, ?_, ?_, ?_⟩⟩
            · exact put_below (HI.out.below.trans (HB3.out.mono hsz)) (by omega) _ _
            · exact put_heap_whole HB1.out (by simp)
            · exact (put_heap_other _ _ _ (by omega)).trans HW1.out
            · have hg : w.heap.size + x1.tail.size < wr.heap.size := by omega
              exact hops_same HI.out.hops ((put_heap_other _ _ _ (by omega)).trans (HB3.out.block _ hg))
          case measure => simp [intOf]; omega
      · obtain rfl : k = 10 := by omega
        have hlaw : lexI (rankL (stepR (baseR 0) what (1 + b) sl) hops2) (rankL r hops2) = 1 := steps_law (o := 1 + o) (p := 0) h0 h9 (by simp [h5]) (by omega) (by omega) HS.out (by simpa using HI.out.chain)
        have hlaw2 : lexI (rankL r hops2) (rankL (stepR (baseR 0) what (1 + b) sl) hops2) = -1 := by rw [lexI_neg, hlaw]
        have hok1 : (stepR (baseR 0) what (1 + b) sl).ok := base_ok (by omega) (by omega)
        have hok2 := (chain_nil HI.out.chain (by omega) (by omega)).2.2
        have L1 := Lib.hid hlaw
        have L2 := Lib.hid hlaw2
        have O1 := Lib.hid hok1
        have O2 := Lib.hid hok2
        clear hlaw hlaw2 hok1 hok2
        go_wp2_with (go_at_call 11; refine Hid.out ?_)
        refine Lib.hid ?_
        refine (compare_val _ r hops2 1 L1.out _ _ _ _ HI.out.hops O1.out O2.out).mono ?_
        rintro e w2 ⟨rfl, x4, rfl⟩
        have hBl := (Array.getElem?_eq_some_iff.1 HI.out.boxB).1
        have hWl := (Array.getElem?_eq_some_iff.1 HI.out.boxW).1
        go_wp2_with (go_at_call 11; refine Hid.out ?_)
        refine Lib.hid ?_
        refine (compare_val r _ hops2 (-1) L2.out _ _ _ _ (HI.out.hops.below (ext_below' (Below.refl _ _) (Nat.le_refl _) x4)) O2.out O1.out).mono ?_
        rintro e w2 ⟨rfl, x5, rfl⟩
        go_wp2_with fail
        go_ret
        exact ⟨rfl, ext_below' (ext_below' HI.out.below HI.out.below.size x4) (by have := HI.out.below.size; simp; omega) x5⟩
  · simp [h5] at hp
    subst hp
    go_enter Try.func4, Try.ntmps4
    go_wp2_with (first
      | (go_at_call 9; refine (lives_any _).mono ?_; rintro e w1 ⟨rfl, hb1⟩; obtain ⟨x1, rfl⟩ := Ext.of_below hb1)
      | (go_at_call 12; refine (pick_val x 10 what HX.out _ (by omega) (by omega)).mono ?_; rintro e w1 ⟨rfl, rfl⟩)
      | (go_at_call 13; refine Hid.out ?_))
    refine Lib.hid ?_
    refine (step_any (baseR 20) what y b _ (by omega) (by omega) HY.out (fun _ => rfl) (fun _ => rfl) (by simp [baseR, baseA]) (by simp [baseR])).mono ?_
    rintro e w1 ⟨sl, rfl, hsl, hb2⟩
    obtain ⟨x2, rfl⟩ := Ext.of_below hb2
    have HS := Lib.hid hsl
    clear hsl hb2
    go_upto_if 32 with fail
    go_loopw [12] (fun i wr => ∃ (k : Nat) (r : Rt), i = .int .i64 k ∧ (k : Int) ≤ 10 ∧ what < k ∧ StepsInv w wr what 20 (1 + o) (1 + b) sl (w.heap.size + x1.tail.size + 2) (w.heap.size + x1.tail.size + 3 + x2.tail.size) (w.heap.size + x1.tail.size) r k) (fun i _ => 20 - (intOf i).toNat)
    case atStart =>
      refine ⟨(what + 1).toNat, baseR 20, by congr 1; omega, by omega, by omega, ⟨?_, ?_, ?_, ?_, ?_⟩⟩
      · exact (ext_below' (((ext_below' (Below.refl _ w) (Nat.le_refl _) x1).alloc (by simp <;> omega) _).alloc (by simp <;> omega) _ |>.alloc (by simp <;> omega) _) (by simp <;> omega) x2).alloc (by simp <;> omega) _
      · have := chain_base what 20 (1 + o) h0
        rwa [show ((what + 1).toNat : Int) = what + 1 by omega]
      · rw [Below.heap_alloc _ _ _ (by simp <;> omega), ext_heap _ _ (by simp <;> omega)]
        exact heap_at (by simp <;> omega)
      · exact heap_at (by simp <;> omega)
      · refine ⟨rfl, by omega, by simp [hops2], fun _ => ⟨_, 0, rfl, by simp <;> omega, fun k p hk => ?_⟩⟩
        match k, hk with
        | 0, hk => simp [hops2] at hk; subst hk; constructor <;> simp [go_sem] <;> omega
        | 1, hk => simp [hops2] at hk; subst hk; constructor <;> simp [go_sem] <;> omega
        | k + 2, hk => simp [hops2] at hk
    case round =>
      obtain ⟨k, r, rfl, hk, hwk, hI⟩ := hrel
      have HI := Lib.hid hI
      clear hI
      have hrowB : wr.row? (w.heap.size + x1.tail.size + 2) 0 38 = some r.cs := row?_whole HI.out.boxB (by simp)
      have hlB : wr.loose (w.heap.size + x1.tail.size + 2) := ⟨_, _, HI.out.boxB⟩
      have hrowW : wr.row? (w.heap.size + x1.tail.size + 3 + x2.tail.size) 0 38 = some (stepR (baseR 20) what (1 + b) sl).cs := row?_whole HI.out.boxW (by simp)
      by_cases hlt : (k : Int) < 10
      · by_cases hsk : k = 5
        · have hc := chain_skip HI.out.chain (by omega)
          have HC := Lib.hid hc
          clear hc
          subst hsk
          all_goals
            go_wp2_with fail
            go_roundw
            case rel => exact ⟨_, r, by go_num, by simp, by simp <;> omega, ⟨HI.out.below, by simpa using HC.out, HI.out.boxB, HI.out.boxW, HI.out.hops⟩⟩
            case measure => simp [intOf]
        · have k5 : (k : Int) ≠ 5 := by omega
          clear hsk
          rcases (show k = 9 ∨ k = 8 ∨ (k ≠ 9 ∧ k ≠ 8) by omega) with rfl | rfl | hk89
          · go_wp2_with (go_at_call 13; refine Hid.out ?_)
            refine Lib.hid ?_
            have hnil := chain_nil HI.out.chain (by omega) (by omega)
            refine (step_any r 9 z o _ (by omega) (by omega) HZ.out (fun h => chain_path HI.out.chain h) (fun h => chain_clus HI.out.chain h) hnil.1 hnil.2.1).mono ?_
            rintro e w1 ⟨sl2, rfl, hsl2, hb3⟩
            have hc := chain_step (k := 9) (sl := sl2) HI.out.chain hwk h0 (by omega) k5 (by omega) (by omega) hsl2
            have HC := Lib.hid hc
            have HB3 := Lib.hid hb3
            clear hc hsl2 hnil hb3
            have hsz := HI.out.below.size
            have hB := HI.out.boxB
            have hBl := (Array.getElem?_eq_some_iff.1 hB).1
            have hWl := (Array.getElem?_eq_some_iff.1 HI.out.boxW).1
            have hB1 : w1.heap[w.heap.size + x1.tail.size + 2]? = some (.cells r.cs 40 (0, 0)) := (HB3.out.block _ hBl).trans hB
            have hW1 : w1.heap[w.heap.size + x1.tail.size + 3 + x2.tail.size]? = some (.cells (stepR (baseR 20) what (1 + b) sl).cs 40 (0, 0)) := (HB3.out.block _ hWl).trans HI.out.boxW
            have hrow1 : w1.row? (w.heap.size + x1.tail.size + 2) 0 38 = some r.cs := row?_whole hB1 (by simp)
            have hl1 : w1.loose (w.heap.size + x1.tail.size + 2) := ⟨_, _, hB1⟩
            have HB1 := Lib.hid hB1
            have HW1 := Lib.hid hW1
            clear hB hB1 hW1
            go_wp2_with fail
            go_roundw
            case rel =>
              refine ⟨9 + 1, _, by go_num, by omega, by omega, ⟨?_, HC.out, ?_, ?_, ?_⟩⟩
              · exact put_below (HI.out.below.trans (HB3.out.mono hsz)) (by omega) _ _
              · exact put_heap_whole HB1.out (by simp)
              · exact (put_heap_other _ _ _ (by omega)).trans HW1.out
              · have hg : w.heap.size + x1.tail.size < wr.heap.size := by omega
                exact hops_same HI.out.hops ((put_heap_other _ _ _ (by omega)).trans (HB3.out.block _ hg))
            case measure => simp [intOf]
          · go_wp2_with (go_at_call 13; refine Hid.out ?_)
            refine Lib.hid ?_
            have hnil := chain_nil HI.out.chain (by omega) (by omega)
            refine (step_any r 8 z o _ (by omega) (by omega) HZ.out (fun h => chain_path HI.out.chain h) (fun h => chain_clus HI.out.chain h) hnil.1 hnil.2.1).mono ?_
            rintro e w1 ⟨sl2, rfl, hsl2, hb3⟩
            have hc := chain_step (k := 8) (sl := sl2) HI.out.chain hwk h0 (by omega) k5 (by omega) (by omega) hsl2
            have HC := Lib.hid hc
            have HB3 := Lib.hid hb3
            clear hc hsl2 hnil hb3
            have hsz := HI.out.below.size
            have hB := HI.out.boxB
            have hBl := (Array.getElem?_eq_some_iff.1 hB).1
            have hWl := (Array.getElem?_eq_some_iff.1 HI.out.boxW).1
            have hB1 : w1.heap[w.heap.size + x1.tail.size + 2]? = some (.cells r.cs 40 (0, 0)) := (HB3.out.block _ hBl).trans hB
            have hW1 : w1.heap[w.heap.size + x1.tail.size + 3 + x2.tail.size]? = some (.cells (stepR (baseR 20) what (1 + b) sl).cs 40 (0, 0)) := (HB3.out.block _ hWl).trans HI.out.boxW
            have hrow1 : w1.row? (w.heap.size + x1.tail.size + 2) 0 38 = some r.cs := row?_whole hB1 (by simp)
            have hl1 : w1.loose (w.heap.size + x1.tail.size + 2) := ⟨_, _, hB1⟩
            have HB1 := Lib.hid hB1
            have HW1 := Lib.hid hW1
            clear hB hB1 hW1
            go_wp2_with fail
            go_roundw
            case rel =>
              refine ⟨8 + 1, _, by go_num, by omega, by omega, ⟨?_, HC.out, ?_, ?_, ?_⟩⟩
              · exact put_below (HI.out.below.trans (HB3.out.mono hsz)) (by omega) _ _
              · exact put_heap_whole HB1.out (by simp)
              · exact (put_heap_other _ _ _ (by omega)).trans HW1.out
              · have hg : w.heap.size + x1.tail.size < wr.heap.size := by omega
                exact hops_same HI.out.hops ((put_heap_other _ _ _ (by omega)).trans (HB3.out.block _ hg))
            case measure => simp [intOf]
          · have n9 : ((k : Int) == 9) = false := by simp; omega
            have n8 : ((k : Int) == 8) = false := by simp; omega
            clear hk89
            go_wp2_with (go_at_call 13; refine Hid.out ?_)
            refine Lib.hid ?_
            have hnil := chain_nil HI.out.chain (by omega) (by omega)
            refine (step_any r k z o _ (by omega) (by omega) HZ.out (fun h => chain_path HI.out.chain h) (fun h => chain_clus HI.out.chain h) hnil.1 hnil.2.1).mono ?_
            rintro e w1 ⟨sl2, rfl, hsl2, hb3⟩
            have hc := chain_step (sl := sl2) HI.out.chain hwk h0 (by omega) k5 (by omega) (by omega) hsl2
            have HC := Lib.hid hc
            have HB3 := Lib.hid hb3
            clear hc hsl2 hnil hb3
            have hsz := HI.out.below.size
            have hB := HI.out.boxB
            have hBl := (Array.getElem?_eq_some_iff.1 hB).1
            have hWl := (Array.getElem?_eq_some_iff.1 HI.out.boxW).1
            have hB1 : w1.heap[w.heap.size + x1.tail.size + 2]? = some (.cells r.cs 40 (0, 0)) := (HB3.out.block _ hBl).trans hB
            have hW1 : w1.heap[w.heap.size + x1.tail.size + 3 + x2.tail.size]? = some (.cells (stepR (baseR 20) what (1 + b) sl).cs 40 (0, 0)) := (HB3.out.block _ hWl).trans HI.out.boxW
            have hrow1 : w1.row? (w.heap.size + x1.tail.size + 2) 0 38 = some r.cs := row?_whole hB1 (by simp)
            have hl1 : w1.loose (w.heap.size + x1.tail.size + 2) := ⟨_, _, hB1⟩
            have HB1 := Lib.hid hB1
            have HW1 := Lib.hid hW1
            clear hB hB1 hW1
            go_wp2_with fail
            go_roundw
            case rel =>
              refine ⟨k + 1, _, by go_num, by omega, by omega, ⟨?_, HC.out, ?_, ?_, ?_⟩⟩
              · exact put_below (HI.out.below.trans (HB3.out.mono hsz)) (by omega) _ _
              · exact put_heap_whole HB1.out (by simp)
              · exact (put_heap_other _ _ _ (by omega)).trans HW1.out
              · have hg : w.heap.size + x1.tail.size < wr.heap.size := by omega
                exact hops_same HI.out.hops ((put_heap_other _ _ _ (by omega)).trans (HB3.out.block _ hg))
            case measure => simp [intOf]; omega
      · obtain rfl : k = 10 := by omega
        have hlaw : lexI (rankL (stepR (baseR 20) what (1 + b) sl) hops2) (rankL r hops2) = 1 := steps_law (o := 1 + o) (p := 20) h0 h9 (by simp [h5]) (by omega) (by omega) HS.out (by simpa using HI.out.chain)
        have hlaw2 : lexI (rankL r hops2) (rankL (stepR (baseR 20) what (1 + b) sl) hops2) = -1 := by rw [lexI_neg, hlaw]
        have hok1 : (stepR (baseR 20) what (1 + b) sl).ok := base_ok (by omega) (by omega)
        have hok2 := (chain_nil HI.out.chain (by omega) (by omega)).2.2
        have L1 := Lib.hid hlaw
        have L2 := Lib.hid hlaw2
        have O1 := Lib.hid hok1
        have O2 := Lib.hid hok2
        clear hlaw hlaw2 hok1 hok2
        go_wp2_with (go_at_call 11; refine Hid.out ?_)
        refine Lib.hid ?_
        refine (compare_val _ r hops2 1 L1.out _ _ _ _ HI.out.hops O1.out O2.out).mono ?_
        rintro e w2 ⟨rfl, x4, rfl⟩
        have hBl := (Array.getElem?_eq_some_iff.1 HI.out.boxB).1
        have hWl := (Array.getElem?_eq_some_iff.1 HI.out.boxW).1
        go_wp2_with (go_at_call 11; refine Hid.out ?_)
        refine Lib.hid ?_
        refine (compare_val r _ hops2 (-1) L2.out _ _ _ _ (HI.out.hops.below (ext_below' (Below.refl _ _) (Nat.le_refl _) x4)) O2.out O1.out).mono ?_
        rintro e w2 ⟨rfl, x5, rfl⟩
        go_wp2_with fail
        go_ret
        exact ⟨rfl, ext_below' (ext_below' HI.out.below HI.out.below.size x4) (by have := HI.out.below.size; simp; omega) x5⟩
end Go.Proofs.Ytkklhidoonefoaa
