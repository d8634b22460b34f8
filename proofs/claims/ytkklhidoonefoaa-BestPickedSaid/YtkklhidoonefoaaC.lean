import Derived.Test.YtkklhidoonefoaaB
import Derived.Deep.RegionWith

/- The contract of best.Compare. -/
namespace Go.Proofs.Ytkklhidoonefoaa
open Go.RowKit
set_option linter.unusedSimpArgs false
set_option linter.unusedVariables false

/-- The rank as numbers. -/
def rankL (r : Rt) (l : List (Int × Int)) : List Int := [b2i r.stale, prefOf r, r.a.path.n, r.a.origin, medOf r, b2i (r.peer != 0), nearOf r l, r.a.clus.n, origOf r, r.peer]

/-- Lexicographic comparison. -/
def lexI : List Int → List Int → Int
  | x :: xs, y :: ys => if x < y then -1 else if x > y then 1 else lexI xs ys
  | _, _ => 0

theorem lexI_drop (xs ys : List Int) (k : Nat) (x y : Int) (hx : xs[k]? = some x) (hy : ys[k]? = some y) : lexI (xs.drop k) (ys.drop k) = if x < y then -1 else if x > y then 1 else lexI (xs.drop (k + 1)) (ys.drop (k + 1)) := by
  have h1 : xs.drop k = x :: xs.drop (k + 1) := by
    obtain ⟨h, rfl⟩ := List.getElem?_eq_some_iff.1 hx
    exact List.drop_eq_getElem_cons h
  have h2 : ys.drop k = y :: ys.drop (k + 1) := by
    obtain ⟨h, rfl⟩ := List.getElem?_eq_some_iff.1 hy
    exact List.drop_eq_getElem_cons h
  rw [h1, h2, lexI]

theorem cells_int (L : List Int) (i : Nat) (v : Int) (h : L[i]? = some v) : (L.map (Value.int .i64)).toArray[i]? = some (.int .i64 v) := by simp [h]

set_option maxRecDepth 100000 in
set_option maxHeartbeats 1000000 in
theorem compare_any (a b : Rt) (l : List (Int × Int)) (A : Option Addr) (n cap : Nat) (w : World) (hH : Hops w A n l) (ha : a.ok) (hb : b.ok) : 
   Calls Try.prog 11 #[.agg a.cs, .agg b.cs, .slice A n cap] w fun e w' => e = .returned (.int .i64 (lexI (rankL a l) (rankL b l))) ∧ Below w.heap.size w w' := by
  have HC := Lib.hid hH
  clear hH
  have HA := Lib.hid ha
  have HB := Lib.hid hb
  clear ha hb
  go_enter Try.func11, Try.ntmps11
  go_wp2_with fail
  go_step3
  go_wp2_with fail
  go_cut [7, 8] (fun s7 s8 wx => ∃ g1 g2, s7 = .pointer (some ⟨g1, 0, none⟩) ∧ s8 = .pointer (some ⟨g2, 0, none⟩) ∧ Below w.heap.size w wx ∧ (∀ i v, (rankL a l)[i]? = some v → wx.cell? ⟨g1, i, none⟩ = some (.int .i64 v)) ∧ (∀ i v, (rankL b l)[i]? = some v → wx.cell? ⟨g2, i, none⟩ = some (.int .i64 v)))
  case first =>
    refine wp_region_alloc2 8 6 7 7 8 65 65 _ _ _ _ (by kernel_rfl) (by kernel_rfl) rfl rfl rfl rfl alloc65 alloc65 ?_
    simp only [List.take_succ_cons, List.take_zero, selFrom, List.map_cons, List.map_nil, List.contains_cons, List.contains_nil, Nat.reduceBEq, Nat.reduceAdd, Nat.zero_add, Bool.or_false, Bool.false_or, Bool.or_true, Bool.false_eq_true, if_false, if_true, reduceIte, List.drop_succ_cons, List.drop_zero]
    apply Exists.intro
    refine ⟨fun x0 => ?_, ?_⟩
    · have hb0 : Below w.heap.size w ((w.alloc (.cells a.cs 40)).alloc (.cells b.cs 40)) := ((Below.refl _ _).alloc (Nat.le_refl _) _).alloc (by simp) _
      repeat (go_big_quiet_step ((first | (go_at_call_of 28 (Value.agg a.cs); exact quiet_call (rank_any a l A n cap _ (HC.out.below (below_ext2 hb0 (by simp <;> omega) _ _)) HA.out)) | (go_at_call_of 28 (Value.agg b.cs); exact quiet_call (rank_any b l A n cap _ (HC.out.below (below_ext2 hb0 (by simp <;> omega) _ _)) HB.out)))))
      refine wpQuiet_nil rfl
    · intro g1 g2 w1 hw hg1 hlt1 hg2 hlt2 hne
      have hb1 : Below w.heap.size w w1 := (((Below.refl _ _).alloc (Nat.le_refl _) _).alloc (by simp) _).trans (hw.below.mono (by simp <;> omega))
      have hne' : g2 ≠ g1 := Ne.symm hne
      simp only [World.size_alloc] at hg1 hg2
      clear hw
      simp only [Act.put, List.setIfInBounds_toArray, List.set_cons_succ, List.set_cons_zero]
      go_wp2_with fail
      go_meet
      refine ⟨g1, g2, rfl, rfl, pin_below _ _ _ _ (pin_below _ _ _ _ hb1 (by omega)) (by omega), fun i v hv => ?_, fun i v hv => ?_⟩
      · rw [pin_cell_other _ _ _ _ _ _ hne, pin_cell _ _ _ _ _ hlt1]
        exact cells_int _ _ _ hv
      · rw [pin_cell _ _ _ _ _ (by rw [pin_size]; exact hlt2)]
        exact cells_int _ _ _ hv
  case rest =>
    obtain ⟨g1, g2, rfl, rfl, hbw, hc1, hc2⟩ := hcut
    have H1 := Lib.hid hc1
    have H2 := Lib.hid hc2
    clear hc1 hc2
    go_wp2_with fail
    go_step3
    go_wp2_with fail
    go_loopw [17, 9] (fun i o wr => ∃ k : Nat, k ≤ 10 ∧ i = .int .i64 k ∧ o = .int .i64 0 ∧ Below w.heap.size w wr ∧ Hid (∀ p, wr.cell? p = wc.cell? p) ∧ Hid (lexI (rankL a l) (rankL b l) = lexI ((rankL a l).drop k) ((rankL b l).drop k))) (fun i _ _ => 10 - (intOf i).toNat)
    case atStart => exact ⟨0, by omega, rfl, rfl, hbw, fun _ => rfl, rfl⟩
    case round =>
      obtain ⟨k, hk, rfl, rfl, hbr, hcr, hlex⟩ := hrel
      by_cases hlt : k < 10
      · obtain ⟨x, hx⟩ : ∃ x, (rankL a l)[k]? = some x := ⟨(rankL a l)[k]'(by simpa [rankL] using hlt), List.getElem?_eq_getElem _⟩
        obtain ⟨y, hy⟩ : ∃ y, (rankL b l)[k]? = some y := ⟨(rankL b l)[k]'(by simpa [rankL] using hlt), List.getElem?_eq_getElem _⟩
        have c1 := (hcr.out _).trans (H1.out k x hx)
        have c2 := (hcr.out _).trans (H2.out k y hy)
        have hs := hlex.out.trans (lexI_drop _ _ k x y hx hy)
        clear hx hy
        by_cases h1 : x < y
        · rw [if_pos h1] at hs
          have HS := Lib.hid hs
          clear hs
          go_wp2_with fail
          go_quiet (fail)
          go_wp2_with fail
          rw [Exit.noGoto_ret]
          go_ret
          exact ⟨ret_int HS.out.symm, below_drewN hbr _⟩
        · rw [if_neg h1] at hs
          by_cases h2 : y < x
          · rw [if_pos h2] at hs
            have HS := Lib.hid hs
            clear hs
            go_wp2_with fail
            go_quiet (fail)
            go_wp2_with fail
            go_quiet (fail)
            go_wp2_with fail
            rw [Exit.noGoto_ret]
            go_ret
            exact ⟨ret_int HS.out.symm, (by repeat (first | exact hbr | refine below_drewN ?_ _))⟩
          · rw [if_neg h2] at hs
            have HS := Lib.hid hs
            clear hs
            go_wp2_with fail
            go_quiet (fail)
            go_wp2_with fail
            go_quiet (fail)
            go_wp2_with fail
            go_roundw
            case rel => exact ⟨k + 1, by omega, by go_num, rfl, (by repeat (first | exact hbr | refine below_drewN ?_ _)), hcr, HS⟩
            case measure => simp [intOf]; omega
      · go_wp2_with fail
        rw [Exit.noGoto_ret]
        go_ret
        obtain rfl : k = 10 := by omega
        exact ⟨ret_int (by rw [hlex.out]; rfl), hbr⟩
end Go.Proofs.Ytkklhidoonefoaa
