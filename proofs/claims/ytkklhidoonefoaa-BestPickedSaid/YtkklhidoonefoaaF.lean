import Derived.Test.YtkklhidoonefoaaD
import Derived.Test.YtkklhidoonefoaaApp
/- Own copies a list. -/
namespace Go.Proofs.Ytkklhidoonefoaa
open Go.RowKit
set_option linter.unusedSimpArgs false
set_option linter.unusedVariables false

theorem u32_info25 : (Try.prog.info? 25).map (fun i => (i.zero, i.size, i.bytes)) = some (some (.int .u32 0), 1, 4) := by kernel_rfl
theorem u32_info27 : (Try.prog.info? 27).map (fun i => (i.zero, i.size, i.bytes)) = some (some (.int .u32 0), 1, 4) := by kernel_rfl

set_option maxRecDepth 100000 in
set_option maxHeartbeats 1000000 in
theorem own29_any (A : Option Addr) (n cap : Nat) (xs : List Value) (w : World) (hl : xs.length = n) (hn : n ≤ 1000) (hA : Held w A xs) (h1 : ∀ u ∈ xs, u.oneCell' = true) :
    Calls Try.prog 29 #[.slice A n cap] w fun e w' => ∃ v, e = .returned v ∧ w'.ownsRow w.heap.size 25 1 v n xs ∧ Below w.heap.size w w' := by
  obtain ⟨i0, hi0, hz0, hz1, hz2⟩ := info_parts u32_info25
  have HA := Lib.hid hA
  have H1 := Lib.hid h1
  clear hA h1
  go_enter Try.func29, Try.ntmps29
  go_wp2_with (at_builtin; refine Hid.out ?_)
  refine Lib.hid ?_
  refine wpList_append_held _ rfl (.tmp 3) (.tmp 4) _ rfl w.heap.size 25 i0 _ 1 4 Try.underlying32 hi0 hz0 hz1 hz2 rfl (by omega) (.slice (some ⟨w.heap.size, 0, none⟩) 0 0) 0 [] rfl (owns_empty w _ _) A n cap xs rfl (by omega) (HA.out.alloc _) H1.out (by simp only [maxLen]; omega) (by omega) (by simp) ?_
  intro v1 w1 hown1 hg1 hat1
  have hb1 : Below w.heap.size w w1 := ((Below.refl _ w).alloc (Nat.le_refl _) _).trans (below_grown hg1 (by simp) (by simp [Value.ownBlock]))
  have hown2 := Lib.hid hown1
  have hb2 := Lib.hid hb1
  clear hown1 hg1 hat1 hb1
  go_wp2_with fail
  go_ret
  exact ⟨_, rfl, by simpa using hown2.out, hb2.out⟩

set_option maxRecDepth 100000 in
set_option maxHeartbeats 1000000 in
theorem own30_any (A : Option Addr) (n cap : Nat) (xs : List Value) (w : World) (hl : xs.length = n) (hn : n ≤ 1000) (hA : Held w A xs) (h1 : ∀ u ∈ xs, u.oneCell' = true) :
    Calls Try.prog 30 #[.slice A n cap] w fun e w' => ∃ v, e = .returned v ∧ w'.ownsRow w.heap.size 27 1 v n xs ∧ Below w.heap.size w w' := by
  obtain ⟨i0, hi0, hz0, hz1, hz2⟩ := info_parts u32_info27
  have HA := Lib.hid hA
  have H1 := Lib.hid h1
  clear hA h1
  go_enter Try.func30, Try.ntmps30
  go_wp2_with (at_builtin; refine Hid.out ?_)
  refine Lib.hid ?_
  refine wpList_append_held _ rfl (.tmp 3) (.tmp 4) _ rfl w.heap.size 27 i0 _ 1 4 Try.underlying33 hi0 hz0 hz1 hz2 rfl (by omega) (.slice (some ⟨w.heap.size, 0, none⟩) 0 0) 0 [] rfl (owns_empty w _ _) A n cap xs rfl (by omega) (HA.out.alloc _) H1.out (by simp only [maxLen]; omega) (by omega) (by simp) ?_
  intro v1 w1 hown1 hg1 hat1
  have hb1 : Below w.heap.size w w1 := ((Below.refl _ w).alloc (Nat.le_refl _) _).trans (below_grown hg1 (by simp) (by simp [Value.ownBlock]))
  have hown2 := Lib.hid hown1
  have hb2 := Lib.hid hb1
  clear hown1 hg1 hat1 hb1
  go_wp2_with fail
  go_ret
  exact ⟨_, rfl, by simpa using hown2.out, hb2.out⟩


theorem tmod_pos (x n : Int) (hn : 0 < n) : x % n = (if x.tmod n < 0 then x.tmod n + n else x.tmod n) ∧ -n < x.tmod n ∧ x.tmod n < n := by
  have h1 := Int.emod_nonneg x (show n ≠ 0 by omega)
  have h2 := Int.emod_lt_of_pos x hn
  have h3 : x.tmod n = _ := Int.tmod_eq_emod
  rw [h3]
  by_cases hd : n ∣ x
  · have := Int.emod_eq_zero_of_dvd hd
    simp only [hd, or_true, if_true]
    split <;> omega
  · have h0 : x % n ≠ 0 := fun h => hd (Int.dvd_of_emod_eq_zero h)
    by_cases hx : 0 ≤ x
    · simp only [hx, true_or, if_true]
      split <;> omega
    · simp only [hx, hd, or_false, if_false]
      split <;> omega

theorem pick_any (x n : Int) (w : World) (hn : 0 < n) (hn2 : n ≤ 9223372036854775807) : 
    Calls Try.prog 12 #[.int .i64 x, .int .i64 n] w fun e w' => e = .returned (.int .i64 (x % n)) ∧ w' = w := by
  obtain ⟨h1, h2⟩ := tmod_pos x n hn
  obtain ⟨m, hm⟩ : ∃ m, x.tmod n = m := ⟨_, rfl⟩
  rw [hm] at h1 h2
  have HX := Lib.hid h1
  clear h1
  have hz : (n == 0) = false := by simp; omega
  by_cases hlt : m < 0
  · go_enter Try.func12, Try.ntmps12
    go_wp2_with fail
    go_ret
    have := HX.out
    rw [if_pos hlt] at this
    exact ⟨by rw [this]; rfl, rfl⟩
  · go_enter Try.func12, Try.ntmps12
    go_wp2_with fail
    go_ret
    have := HX.out
    rw [if_neg (by omega)] at this
    exact ⟨by rw [this]; rfl, rfl⟩

end Go.Proofs.Ytkklhidoonefoaa
