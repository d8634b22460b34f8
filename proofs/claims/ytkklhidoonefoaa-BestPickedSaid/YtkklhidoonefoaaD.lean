import Derived.Test.YtkklhidoonefoaaC
import Derived.Deep.RegionWith

/- The contracts of lives and light. -/
namespace Go.Proofs.Ytkklhidoonefoaa
open Go.RowKit
set_option linter.unusedSimpArgs false
set_option linter.unusedVariables false

theorem compare_val (a b : Rt) (l : List (Int × Int)) (v : Int) (hv : lexI (rankL a l) (rankL b l) = v) (A : Option Addr) (n cap : Nat) (w : World) (hH : Hops w A n l) (ha : a.ok) (hb : b.ok) : 
   Calls Try.prog 11 #[.agg a.cs, .agg b.cs, .slice A n cap] w fun e w' => e = .returned (.int .i64 v) ∧ ∃ x, w' = w.ext x :=
  (compare_any a b l A n cap w hH ha hb).mono fun e w' ⟨h1, h2⟩ => ⟨by rw [h1, hv], Ext.of_below h2⟩

def n0 : NL := ⟨0, 0, 0, 0, 0, 0, 0, 0, 0, 0, 0, 0, 0, 0, 0, false, 0, 0, 0, 0, 0⟩
def a0 : At := ⟨0, ⟨none, 0, 0⟩, 0, false, 0, false, 0, false, 0, ⟨none, 0, 0⟩, ⟨none, 0, 0⟩, 0, 0, 0, 0⟩
def exA : Rt := ⟨n0, { a0 with next := 1, hasPref := true, pref := 200 }, 1, false⟩
def exB : Rt := ⟨n0, { a0 with next := 1 }, 2, false⟩
def exL : List (Int × Int) := [(1, 5), (2, 7)]

theorem okA : exA.ok := ⟨by decide, by decide, by decide, by decide, by decide, by decide, by decide, by decide⟩
theorem okB : exB.ok := ⟨by decide, by decide, by decide, by decide, by decide, by decide, by decide, by decide⟩
theorem hops_new {w W : World} {b : Nat} {t : TypeId} (hh : W.heap[b]? = some (.cells #[.int .u32 1, .int .i64 5, .int .u32 2, .int .i64 7] t (0, 0))) : Hops W (some ⟨b, 0, none⟩) 2 exL := by
  refine ⟨rfl, by omega, ?_, fun _ => ⟨b, 0, rfl, (Array.getElem?_eq_some_iff.1 hh).1, fun k p hp => ?_⟩⟩
  · intro p hp
    simp [exL] at hp
    rcases hp with rfl | rfl <;> simp
  · match k, hp with
    | 0, hp => simp [exL] at hp; subst hp; simp [World.cell?, hh]
    | 1, hp => simp [exL] at hp; subst hp; simp [World.cell?, hh]
    | k + 2, hp => simp [exL] at hp

set_option maxRecDepth 100000 in
set_option maxHeartbeats 1000000 in
theorem lives_any (w : World) : Calls Try.prog 9 #[] w fun e w' => e = .returned (.bool true) ∧ Below w.heap.size w w' := by
  have v1 : lexI (rankL exA exL) (rankL exB exL) = -1 := by decide
  have v2 : lexI (rankL exB exL) (rankL exA exL) = 1 := by decide
  have v3 : lexI (rankL exA exL) (rankL exA exL) = 0 := by decide
  have V1 := Lib.hid v1
  have V2 := Lib.hid v2
  have V3 := Lib.hid v3
  clear v1 v2 v3
  go_enter Try.func9, Try.ntmps9
  go_wp2_with fail
  refine (compare_val exA exB exL _ V1.out _ _ _ _ ?_ okA okB).mono ?_
  · exact hops_new (w := w) (t := 49) (((Below.heap_alloc _ _ _ (by simp <;> omega)).trans ((Below.heap_alloc _ _ _ (by simp)).trans (heap_alloc_new w _))))
  rintro e w1 ⟨rfl, x, rfl⟩
  go_wp2_with fail
  refine (compare_val exB exA exL _ V2.out _ _ _ _ ?_ okB okA).mono ?_
  · exact hops_new (w := w) (t := 49) ((ext_heap _ _ (by simp <;> omega)).trans ((Below.heap_alloc _ _ _ (by simp <;> omega)).trans ((Below.heap_alloc _ _ _ (by simp)).trans (heap_alloc_new w _))))
  rintro e w1 ⟨rfl, y, rfl⟩
  rw [ext_ext]
  go_wp2_with fail
  refine (compare_val exA exA exL _ V3.out _ _ _ _ ?_ okA okA).mono ?_
  · exact hops_new (w := w) (t := 49) ((ext_heap _ _ (by simp <;> omega)).trans ((Below.heap_alloc _ _ _ (by simp <;> omega)).trans ((Below.heap_alloc _ _ _ (by simp)).trans (heap_alloc_new w _))))
  rintro e w1 ⟨rfl, z, rfl⟩
  rw [ext_ext]
  go_wp2_with fail
  go_ret
  exact ⟨rfl, ext_below' ((((Below.refl _ _).alloc (Nat.le_refl _) _).alloc (by simp) _).alloc (by simp <;> omega) _) (by simp <;> omega) _⟩

/-- 'light' of a route. -/
def lightB (r : Rt) : Bool := decide (r.a.path.n ≤ 40) && (decide (r.a.clus.n ≤ 20) && decide (r.a.comms.n ≤ 80))

structure Rt.lens (r : Rt) : Prop where
  p : (r.a.path.n : Int) ≤ 9223372036854775807
  c : (r.a.clus.n : Int) ≤ 9223372036854775807
  m : (r.a.comms.n : Int) ≤ 9223372036854775807

theorem lightRoute_any (r : Rt) (w : World) : Calls Try.prog 46 #[.agg r.cs] w fun e w' => e = .returned (.bool (lightB r)) ∧ Below w.heap.size w w' := by
  go_enter Try.func46, Try.ntmps46
  go_wp2_with fail
  all_goals
    go_ret
    refine ⟨ret_bool ?_, (Below.refl _ _).alloc (Nat.le_refl _) _⟩
    rw [Bool.eq_iff_iff]
    simp [lightB]
    try omega

/-- A slice of routes reads as a list. -/
def Routes (w : World) (A : Option Addr) (n : Nat) (rs : List Rt) : Prop :=
  rs.length = n ∧ (0 < n → ∃ b off, A = some ⟨b, off, none⟩ ∧ b < w.heap.size ∧ ∀ k r, rs[k]? = some r → w.row? b (off + k * 38) 38 = some r.cs)
theorem Routes.below {w w' : World} {A : Option Addr} {n : Nat} {rs : List Rt} (h : Routes w A n rs) (hb : Below w.heap.size w w') : Routes w' A n rs := by
  obtain ⟨h1, h2⟩ := h
  refine ⟨h1, fun hn => ?_⟩
  obtain ⟨b, off, hA, hlt, hc⟩ := h2 hn
  exact ⟨b, off, hA, Nat.lt_of_lt_of_le hlt hb.size, fun k r hr => (row?_of_heap (hb.block b hlt) _ _).trans (hc k r hr)⟩

theorem all_take_succ {α : Type} (p : α → Bool) (l : List α) (k : Nat) (x : α) (hx : l[k]? = some x) : (l.take (k + 1)).all p = ((l.take k).all p && p x) := by
  obtain ⟨h, rfl⟩ := List.getElem?_eq_some_iff.1 hx
  rw [List.take_succ_eq_append_getElem h, List.all_append]
  simp
theorem all_false {α : Type} (p : α → Bool) (l : List α) (k : Nat) (x : α) (hx : l[k]? = some x) (h : p x = false) : l.all p = false := by
  obtain ⟨hk, rfl⟩ := List.getElem?_eq_some_iff.1 hx
  rw [List.all_eq_false]
  exact ⟨_, List.getElem_mem hk, by simp [h]⟩

theorem lightRoutes_any (rs : List Rt) (A : Option Addr) (n cap : Nat) (w : World) (hn : n ≤ 9223372036854775807) (h : Routes w A n rs) :
    Calls Try.prog 27 #[.slice A n cap, .int .i64 30] w fun e w' => e = .returned (.bool (rs.all lightB && decide (n ≤ 30))) ∧ Below w.heap.size w w' := by
  have HR := Lib.hid h
  clear h
  go_enter Try.func27, Try.ntmps27
  go_wp2_with fail
  go_loopw [5] (fun i wr => ∃ k : Nat, k ≤ n ∧ i = .int .i64 k ∧ Below w.heap.size w wr ∧ Hid ((rs.take k).all lightB = true)) (fun i _ => n - (intOf i).toNat)
  case atStart => exact ⟨0, by omega, rfl, Below.refl _ _, by simp [Hid]⟩
  case round =>
    obtain ⟨k, hk, rfl, hbr, hall⟩ := hrel
    by_cases hlt : k < n
    · obtain ⟨b, off, rfl, hb, hc⟩ := HR.out.2 (by omega)
      obtain ⟨r, hr⟩ : ∃ r, rs[k]? = some r := ⟨rs[k]'(by rw [HR.out.1]; exact hlt), List.getElem?_eq_getElem _⟩
      have hrow := (row?_of_heap (hbr.block b hb) _ _).trans (hc k r hr)
      have hsz := hbr.size
      have HS := Lib.hid (all_take_succ lightB rs k r hr)
      have HF := Lib.hid (all_false lightB rs k r hr)
      clear hc hr
      go_wp2_with (go_at_call 46; refine (lightRoute_any r _).mono ?_; rintro e w1 ⟨rfl, hb1⟩)
      · go_ret
        refine ⟨ret_bool ?_, hbr.trans (hb1.mono hsz)⟩
        rw [HF.out (by first | assumption | simp_all)]; rfl
      · go_roundw
        case rel => exact ⟨k + 1, by omega, by go_num, hbr.trans (hb1.mono hsz), by show _ = true; rw [HS.out, hall.out]; simp_all⟩
        case measure => simp [intOf]; omega
    · go_wp2_with fail
      go_ret
      obtain rfl : k = n := by omega
      refine ⟨ret_bool ?_, hbr⟩
      have := hall.out
      rw [← HR.out.1, List.take_length] at this
      rw [this, Bool.eq_iff_iff]
      simp
      try omega
end Go.Proofs.Ytkklhidoonefoaa
