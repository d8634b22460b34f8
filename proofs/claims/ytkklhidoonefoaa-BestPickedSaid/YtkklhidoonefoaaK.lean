import Derived.Test.YtkklhidoonefoaaD
import Derived.Test.YtkklhidoonefoaaPk
/- The contracts of best.Usable and best.Pick. -/
namespace Go.Proofs.Ytkklhidoonefoaa
open Go.RowKit
set_option linter.unusedSimpArgs false
set_option linter.unusedVariables false

def usableB (l : List (Int × Int)) (r : Rt) : Bool := r.peer == 0 || (metricOf r.a.next l).2
def cmpR (l : List (Int × Int)) (a b : Rt) : Int := lexI (rankL a l) (rankL b l)

theorem cell_new' (w : World) (cs : Array Value) (t : TypeId) (i : Nat) : (w.alloc (.cells cs t)).cell? ⟨w.heap.size, i, none⟩ = cs[i]? := by
  unfold World.cell?
  rw [show (w.alloc (.cells cs t)).heap[w.heap.size]? = _ from heap_alloc_new w _]
  rfl
theorem usable_any (r : Rt) (l : List (Int × Int)) (A : Option Addr) (n cap : Nat) (w : World) (hH : Hops w A n l) :
    Calls Try.prog 15 #[.agg r.cs, .slice A n cap] w fun e w' => e = .returned (.bool (usableB l r)) ∧ Below w.heap.size w w' := by
  have HC := Lib.hid hH
  clear hH
  obtain ⟨u, hu⟩ : ∃ u, (metricOf r.a.next l).2 = u := ⟨_, rfl⟩
  have HU := Lib.hid hu
  obtain ⟨p, hp⟩ : ∃ p, (r.peer == 0) = p := ⟨_, rfl⟩
  have HP := Lib.hid hp
  clear hu
  go_enter Try.func15, Try.ntmps15
  go_wp2_with (go_at_call 31; refine (metric_any r.a.next l A n cap _ (HC.out.below ((Below.refl _ _).alloc (Nat.le_refl _) _))).mono ?_; rw [HU.out]; rintro e w1 ⟨rfl, hb⟩; have hb1 : Below w.heap.size w w1 := ((Below.refl _ _).alloc (Nat.le_refl _) _).trans (hb.mono (by simp)); have hrow : w1.cell? ⟨w.heap.size, 36, none⟩ = some (.int .u32 r.peer) := (hb.cell (p := ⟨w.heap.size, 36, none⟩) (by simp)).trans ((cell_new' _ _ _ _).trans (by simp)); have HB := Lib.hid hb1; clear hb hb1)
  all_goals
    go_ret
    refine ⟨ret_bool ?_, HB.out⟩
    unfold usableB
    rw [HU.out]
    simp_all

theorem pk_step {l : List (Int × Int)} {rs : List Rt} {k : Nat} {r : Rt} (hr : rs[k]? = some r) : pk (usableB l) (cmpR l) rs (k + 1) = pickStep (usableB l) (cmpR l) rs k r (pk (usableB l) (cmpR l) rs k) := by simp only [pk, hr]
theorem pickStep_or {α : Type} (u : α → Bool) (c : α → α → Int) (rs : List α) (k : Nat) (r : α) (s : Nat × Bool) : pickStep u c rs k r s = (k, true) ∨ pickStep u c rs k r s = s := by
  unfold pickStep
  exact (Classical.em _).imp (fun h => if_pos h) (fun h => if_neg h)
theorem pk_lt (l : List (Int × Int)) (rs : List Rt) : ∀ k, (pk (usableB l) (cmpR l) rs k).2 = true → (pk (usableB l) (cmpR l) rs k).1 < k
  | 0, h => by simp [pk] at h
  | k + 1, h => by
    have ih := pk_lt l rs k
    cases hr : rs[k]? with
    | none =>
      simp only [pk, hr] at h ⊢
      have := ih h; omega
    | some r =>
      simp only [pk, hr] at h ⊢
      rcases pickStep_or (usableB l) (cmpR l) rs k r (pk (usableB l) (cmpR l) rs k) with e | e
      · rw [e]; simp
      · rw [e] at h ⊢; have := ih h; omega
theorem usable_val (r : Rt) (l : List (Int × Int)) (u : Bool) (hu : usableB l r = u) (A : Option Addr) (n cap : Nat) (w : World) (hH : Hops w A n l) :
    Calls Try.prog 15 #[.agg r.cs, .slice A n cap] w fun e w' => e = .returned (.bool u) ∧ Below w.heap.size w w' := by
  subst hu
  exact usable_any r l A n cap w hH

set_option maxRecDepth 100000 in
set_option maxHeartbeats 2000000 in
theorem rpick_any (rs : List Rt) (l : List (Int × Int)) (A B : Option Addr) (n cap m mc : Nat) (w : World) (hR : Routes w A n rs) (hH : Hops w B m l) (hok : ∀ r ∈ rs, r.ok) (hn : n ≤ 1000) :
    Calls Try.prog 14 #[.slice A n cap, .slice B m mc] w fun e w' => e = .returned (.tuple #[.int .i64 (pk (usableB l) (cmpR l) rs n).1, .bool (pk (usableB l) (cmpR l) rs n).2]) ∧ Below w.heap.size w w' := by
  have HR := Lib.hid hR
  have HC := Lib.hid hH
  have HOK := Lib.hid hok
  clear hR hH hok
  go_enter Try.func14, Try.ntmps14
  go_wp2_with fail
  go_loopw [6, 7, 12] (fun a s i wr => ∃ k : Nat, k ≤ n ∧ i = .int .i64 k ∧ Below w.heap.size w wr ∧ a = .int .i64 (pk (usableB l) (cmpR l) rs k).1 ∧ s = .bool (pk (usableB l) (cmpR l) rs k).2) (fun _ _ i _ => n - (intOf i).toNat)
  case atStart => exact ⟨0, by omega, rfl, Below.refl _ _, rfl, rfl⟩
  case round =>
    obtain ⟨k, hk, rfl, hbr, rfl, rfl⟩ := hrel
    by_cases hlt : k < n
    · obtain ⟨b, off, rfl, hb, hc⟩ := HR.out.2 (by omega)
      obtain ⟨r, hr⟩ : ∃ r, rs[k]? = some r := ⟨rs[k]'(by rw [HR.out.1]; exact hlt), List.getElem?_eq_getElem _⟩
      have hrow := (row?_of_heap (hbr.block b hb) _ _).trans (hc k r hr)
      have hsz := hbr.size
      have HOKR := Lib.hid (HOK.out r (List.mem_of_getElem? hr))
      have HPK := Lib.hid (pk_step (l := l) hr)
      have hpl := pk_lt l rs k
      obtain ⟨s, hs⟩ : ∃ s, pk (usableB l) (cmpR l) rs k = s := ⟨_, rfl⟩
      rw [hs] at HPK hpl ⊢
      obtain ⟨a, is⟩ := s
      simp only at hpl ⊢
      have hj0 : (0 : Int) ≤ (a : Int) := by omega
      obtain ⟨u, hu⟩ : ∃ u, usableB l r = u := ⟨_, rfl⟩
      have HU := Lib.hid hu
      clear hu hr hs
      have HCW := Lib.hid (HC.out.below hbr)
      cases is with
      | false =>
        cases u with
        | false =>
          go_wp2_with fail
          have HB := Lib.hid (fun x : Grow => ext_below' ((Below.refl wr.heap.size wr).alloc (Nat.le_refl _) (.cells r.cs 40)) (by simp) x)
          refine wp_region_grow (by kernel_rfl) (by kernel_rfl) ?_
          repeat (go_big_quiet_step ((first
            | (go_at_call 15; exact quiet_call1 (usable_val r l _ HU.out _ _ _ _ (HCW.out.below (HB.out _)))))))
          refine wpQuiet_nil ?_
          intro _ hw'
          obtain ⟨x1, rfl⟩ := hw'
          go_wp2_with fail
          go_roundw
          case rel => exact ⟨k + 1, by omega, by go_num, hbr.trans ((HB.out _).mono hsz), by rw [HPK.out]; simp [pickStep, HU.out], by rw [HPK.out]; simp [pickStep, HU.out]⟩
          case measure => simp [intOf]; omega
        | true =>
          go_wp2_with fail
          have HB := Lib.hid (fun x : Grow => ext_below' ((Below.refl wr.heap.size wr).alloc (Nat.le_refl _) (.cells r.cs 40)) (by simp) x)
          refine wp_region_grow (by kernel_rfl) (by kernel_rfl) ?_
          repeat (go_big_quiet_step ((first
            | (go_at_call 15; exact quiet_call1 (usable_val r l _ HU.out _ _ _ _ (HCW.out.below (HB.out _)))))))
          refine wpQuiet_nil ?_
          intro _ hw'
          obtain ⟨x1, rfl⟩ := hw'
          go_wp2_with fail
          go_roundw
          case rel => exact ⟨k + 1, by omega, by go_num, hbr.trans ((HB.out _).mono hsz), by rw [HPK.out]; simp [pickStep, HU.out], by rw [HPK.out]; simp [pickStep, HU.out]⟩
          case measure => simp [intOf]; omega
      | true =>
        have hak : a < k := hpl rfl
        obtain ⟨y, hy⟩ : ∃ y, rs[a]? = some y := ⟨rs[a]'(by rw [HR.out.1]; omega), List.getElem?_eq_getElem _⟩
        have hrowy := (row?_of_heap (hbr.block b hb) _ _).trans (hc a y hy)
        have HOKY := Lib.hid (HOK.out y (List.mem_of_getElem? hy))
        have HY := Lib.hid hy
        have ha1 : (a : Int) < (n : Int) := by omega
        obtain ⟨q, hq⟩ : ∃ q, cmpR l r y = q := ⟨_, rfl⟩
        have HQ := Lib.hid hq
        clear hy hq hc
        cases u with
        | false =>
          go_wp2_with fail
          have HB := Lib.hid (fun x : Grow => ext_below' ((Below.refl wr.heap.size wr).alloc (Nat.le_refl _) (.cells r.cs 40)) (by simp) x)
          refine wp_region_grow (by kernel_rfl) (by kernel_rfl) ?_
          repeat (go_big_quiet_step ((first
            | (go_at_call 15; exact quiet_call1 (usable_val r l _ HU.out _ _ _ _ (HCW.out.below (HB.out _)))))))
          refine wpQuiet_nil ?_
          intro _ hw'
          obtain ⟨x1, rfl⟩ := hw'
          go_wp2_with fail
          go_roundw
          case rel => exact ⟨k + 1, by omega, by go_num, hbr.trans ((HB.out _).mono hsz), by rw [HPK.out]; simp [pickStep, HU.out], by rw [HPK.out]; simp [pickStep, HU.out]⟩
          case measure => simp [intOf]; omega
        | true =>
          go_wp2_with fail
          have HB := Lib.hid (fun x : Grow => ext_below' ((Below.refl wr.heap.size wr).alloc (Nat.le_refl _) (.cells r.cs 40)) (by simp) x)
          refine wp_region_grow (by kernel_rfl) (by kernel_rfl) ?_
          repeat (go_big_quiet_step ((first
            | (go_at_call 15; exact quiet_call1 (usable_val r l _ HU.out _ _ _ _ (HCW.out.below (HB.out _))))
            | (go_at_call 11; exact quiet_callE (compare_val r y l _ HQ.out _ _ _ _ (HCW.out.below (HB.out _)) HOKR.out HOKY.out)))))
          refine wpQuiet_nil ?_
          intro _ hw'
          obtain ⟨x1, rfl⟩ := hw'
          by_cases hq0 : q < 0
          · have hd : decide (q < 0) = true := by simpa using hq0
            go_wp2_with fail
            go_roundw
            case rel => exact ⟨k + 1, by omega, by go_num, hbr.trans ((HB.out _).mono hsz), by rw [HPK.out]; simp [pickStep, HU.out, HY.out, HQ.out, hq0], by rw [HPK.out]; simp [pickStep, HU.out, HY.out, HQ.out, hq0]⟩
            case measure => simp [intOf]; omega
          · have hd : decide (q < 0) = false := by simpa using hq0
            go_wp2_with fail
            go_roundw
            case rel => exact ⟨k + 1, by omega, by go_num, hbr.trans ((HB.out _).mono hsz), by rw [HPK.out]; simp [pickStep, HU.out, HY.out, HQ.out, hq0], by rw [HPK.out]; simp [pickStep, HU.out, HY.out, HQ.out, hq0]⟩
            case measure => simp [intOf]; omega
    · go_wp2_with fail
      go_ret2
      obtain rfl : k = n := by omega
      exact ⟨rfl, hbr⟩
end Go.Proofs.Ytkklhidoonefoaa
