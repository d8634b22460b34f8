import Derived.Test.YtkklhidoonefoaaD
import Derived.Test.YtkklhidoonefoaaLex
import Derived.Deep.RegionWith

/- The walk of BestOrder. -/
namespace Go.Proofs.Ytkklhidoonefoaa
open Go.RowKit
set_option linter.unusedSimpArgs false
set_option linter.unusedVariables false

theorem light_any (rs : List Rt) (A B : Option Addr) (n cap m mc : Nat) (w : World) (hn : n ≤ 9223372036854775807) (h : Routes w A n rs) :
    Calls Try.prog 10 #[.slice A n cap, .slice B m mc] w fun e w' => e = .returned (.bool ((rs.all lightB && decide (n ≤ 30)) && decide (m ≤ 30))) ∧ Below w.heap.size w w' := by
  have HR := Lib.hid h
  clear h
  cases hb : (rs.all lightB && decide (n ≤ 30)) with
  | false =>
    have HB := Lib.hid hb
    clear hb
    go_enter Try.func10, Try.ntmps10
    go_wp2_with (go_at_call 27; refine (lightRoutes_any rs _ _ _ _ hn HR.out).mono ?_; rw [HB.out]; rintro e w1 ⟨rfl, hb1⟩)
    go_ret
    exact ⟨rfl, hb1⟩
  | true =>
    have HB := Lib.hid hb
    clear hb
    go_enter Try.func10, Try.ntmps10
    go_wp2_with (go_at_call 27; refine (lightRoutes_any rs _ _ _ _ hn HR.out).mono ?_; rw [HB.out]; rintro e w1 ⟨rfl, hb1⟩)
    all_goals
      go_ret
      refine ⟨ret_bool ?_, hb1⟩
      rw [Bool.eq_iff_iff]
      simp
      try omega

/-- A slice of next hops of whatever length. -/
def Hops0 (w : World) (A : Option Addr) (n : Nat) (l : List (Int × Int)) : Prop := n ≤ 30 → Hops w A n l

theorem routes3 {W : World} {b : Nat} {t : TypeId} {f : Nat × Nat} {x y z : Rt} (hh : W.heap[b]? = some (.cells (x.cs ++ (y.cs ++ z.cs)) t f)) : Routes W (some ⟨b, 0, none⟩) 3 [x, y, z] := by
  refine ⟨rfl, fun _ => ⟨b, 0, rfl, (Array.getElem?_eq_some_iff.1 hh).1, fun k r hr => ?_⟩⟩
  unfold World.row?
  rw [hh]
  match k, hr with
  | 0, hr => simp at hr; subst hr; simp [sub?_left, sub?_whole]
  | 1, hr => simp at hr; subst hr; simp [sub?_left, sub?_right, sub?_whole]
  | 2, hr => simp at hr; subst hr; simp [sub?_right, sub?_whole]
  | k + 3, hr => simp at hr

set_option maxRecDepth 100000 in
set_option maxHeartbeats 2000000 in
theorem order_any (a b c : Rt) (l : List (Int × Int)) (A : Option Addr) (n cap : Nat) (w : World) (hH : Hops0 w A n l) (ha : a.ok) (hb : b.ok) (hc : c.ok) : 
    Calls Try.prog 3 #[.agg a.cs, .agg b.cs, .agg c.cs, .slice A n cap] w fun e w' => e = .returned (.bool true) ∧ Below w.heap.size w w' := by
  have HC := Lib.hid hH
  have HA := Lib.hid ha
  have HB := Lib.hid hb
  have HCc := Lib.hid hc
  clear hH ha hb hc
  go_enter Try.func3, Try.ntmps3
  go_wp2_with fail
  refine (lives_any _).mono ?_
  rintro e w1 ⟨rfl, hb1⟩
  obtain ⟨x1, rfl⟩ := Ext.of_below hb1
  go_wp2_with fail
  have hb5 : Below w.heap.size w (((((w.alloc (.cells a.cs 40)).alloc (.cells b.cs 40)).alloc (.cells c.cs 40)).ext x1).alloc (.cells (a.cs ++ (b.cs ++ c.cs)) 40)) :=
    (ext_below' ((((Below.refl _ _).alloc (Nat.le_refl _) _).alloc (by simp) _).alloc (by simp <;> omega) _) (by simp <;> omega) _).alloc (by simp <;> omega) _
  have HB5 := Lib.hid hb5
  clear hb5
  cases hl : ([a, b, c].all lightB && decide (3 ≤ 30)) && decide (n ≤ 30) with
  | false =>
    refine (light_any [a, b, c] _ _ _ _ _ _ _ (by omega) (routes3 (t := 40) (f := (0, 0)) ?_)).mono ?_
    · exact (by have := heap_alloc_new ((((w.alloc (.cells a.cs 40)).alloc (.cells b.cs 40)).alloc (.cells c.cs 40)).ext x1) (.cells (a.cs ++ (b.cs ++ c.cs)) 40); simpa using this)
    have HL := Lib.hid hl
    clear hl
    rw [HL.out]
    rintro e w1 ⟨rfl, hb2⟩
    go_wp2_with fail
    go_ret
    exact ⟨rfl, HB5.out.trans (hb2.mono (by simp <;> omega))⟩
  | true =>
    have hn : n ≤ 30 := by simp at hl; exact hl.2
    have hhop := HC.out hn
    refine (light_any [a, b, c] _ _ _ _ _ _ _ (by omega) (routes3 (t := 40) (f := (0, 0)) ?_)).mono ?_
    · exact (by have := heap_alloc_new ((((w.alloc (.cells a.cs 40)).alloc (.cells b.cs 40)).alloc (.cells c.cs 40)).ext x1) (.cells (a.cs ++ (b.cs ++ c.cs)) 40); simpa using this)
    have HL := Lib.hid hl
    clear hl
    have HP := Lib.hid hhop
    clear hhop
    rw [HL.out]
    rintro e w1 ⟨rfl, hb2⟩
    obtain ⟨x2, rfl⟩ := Ext.of_below hb2
    go_wp2_with fail
    have HB6 := Lib.hid (fun x : Grow => ext_below' (ext_below' HB5.out (by simp <;> omega) x2) (by simp <;> omega) x)
    have HB7 := Lib.hid (fun x : Grow => ext_below' HB5.out (by simp <;> omega) x)
    obtain ⟨x, hx⟩ : ∃ x, lexI (rankL a l) (rankL b l) = x := ⟨_, rfl⟩
    obtain ⟨y, hy⟩ : ∃ y, lexI (rankL b l) (rankL c l) = y := ⟨_, rfl⟩
    obtain ⟨z, hz⟩ : ∃ z, lexI (rankL a l) (rankL c l) = z := ⟨_, rfl⟩
    have hlaw := order_law a b c l
    simp only [hx, hy, hz] at hlaw
    obtain ⟨l1, l2, l3, l4, l5, l6⟩ := hlaw
    have HX := Lib.hid hx
    have HY := Lib.hid hy
    have HZ := Lib.hid hz
    have L3 := Lib.hid l3
    have L4 := Lib.hid l4
    have L5 := Lib.hid l5
    have L6 := Lib.hid l6
    have L0 := Lib.hid (lexI_self (rankL a l))
    clear hx hy hz l3 l4 l5 l6
    refine wp_region_grow (by kernel_rfl) (by kernel_rfl) ?_
    repeat (go_big_quiet_step ((first
      | (go_at_call_of 11 (Value.agg a.cs); go_at_call_of 11 (Value.agg b.cs); exact quiet_callE (compare_val a b l _ HX.out _ _ _ _ (HP.out.below (HB6.out _)) HA.out HB.out))
      | (go_at_call_of 11 (Value.agg b.cs); go_at_call_of 11 (Value.agg c.cs); exact quiet_callE (compare_val b c l _ HY.out _ _ _ _ (HP.out.below (HB6.out _)) HB.out HCc.out))
      | (go_at_call_of 11 (Value.agg a.cs); go_at_call_of 11 (Value.agg c.cs); exact quiet_callE (compare_val a c l _ HZ.out _ _ _ _ (HP.out.below (HB6.out _)) HA.out HCc.out)))))
    refine wpQuiet_nil ?_
    intro _ hw'
    obtain ⟨x3, rfl⟩ := hw'
    rw [ext_ext]
    go_wp2_with fail
    refine (compare_val b a l (-x) L3.out _ _ _ _ (HP.out.below (HB7.out _)) HB.out HA.out).mono ?_
    rintro e w1 ⟨rfl, x4, rfl⟩
    rw [ext_ext]
    go_wp2_with fail
    refine (compare_val a a l 0 L0.out _ _ _ _ (HP.out.below (HB7.out _)) HA.out HA.out).mono ?_
    rintro e w1 ⟨rfl, x5, rfl⟩
    rw [ext_ext]
    go_wp2_with fail
    all_goals
      go_ret
      refine ⟨?_, HB7.out _⟩
      have l3 := L3.out
      have l4 := L4.out
      have l5 := L5.out
      have l6 := L6.out
      clear HX HY HZ L0 L3 L4 L5 L6 HP HB5 HB6 HB7 HC HA HB HCc HL hb1 hb2
    all_goals first
      | rfl
      | (exact ret_bool (by rw [Bool.eq_iff_iff]; simp; omega))
      | (exfalso; simp_all; done)
      | (exfalso; simp_all; omega)
      | skip

end Go.Proofs.Ytkklhidoonefoaa
