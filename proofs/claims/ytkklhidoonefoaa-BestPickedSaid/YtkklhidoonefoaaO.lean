import Derived.Test.YtkklhidoonefoaaL
import Derived.Test.YtkklhidoonefoaaM
import Derived.Test.YtkklhidoonefoaaE
import Derived.Test.YtkklhidoonefoaaG
/- The walk of BestPicked. -/
namespace Go.Proofs.Ytkklhidoonefoaa
open Go.RowKit
set_option linter.unusedSimpArgs false
set_option linter.unusedVariables false

theorem any_take {α : Type} (p : α → Bool) (l : List α) (k : Nat) (x : α) (hx : l[k]? = some x) : (l.take (k + 1)).any p = ((l.take k).any p || p x) := by
  obtain ⟨h, rfl⟩ := List.getElem?_eq_some_iff.1 hx
  rw [List.take_succ_eq_append_getElem h, List.any_append]
  simp

def lessL (rs : List Rt) (kk a j : Nat) : List Rt := if kk = a then rs.take j else (rs.take j).eraseIdx kk
theorem less_add {rs : List Rt} {kk a j : Nat} {r : Rt} (hr : rs[j]? = some r) (h : j ≠ kk ∨ kk = a) : lessL rs kk a (j + 1) = lessL rs kk a j ++ [r] := by
  obtain ⟨hj, rfl⟩ := List.getElem?_eq_some_iff.1 hr
  have hl : (rs.take j).length = j := by rw [List.length_take]; omega
  unfold lessL
  by_cases he : kk = a
  · rw [if_pos he, if_pos he, List.take_succ_eq_append_getElem hj]
  · rw [if_neg he, if_neg he, List.take_succ_eq_append_getElem hj]
    rcases Nat.lt_or_ge kk j with h1 | h1
    · rw [List.eraseIdx_append_of_lt_length (by omega)]
    · rw [List.eraseIdx_of_length_le (by simp; omega), List.eraseIdx_of_length_le (by omega)]
theorem less_skip {rs : List Rt} {a j : Nat} (hj : j < rs.length) (h : j ≠ a) : lessL rs j a (j + 1) = lessL rs j a j := by
  have hl : (rs.take j).length = j := by rw [List.length_take]; omega
  unfold lessL
  rw [if_neg h, if_neg h, List.take_succ_eq_append_getElem hj, List.eraseIdx_append_of_length_le (by omega), hl, List.eraseIdx_of_length_le (l := rs.take j) (by omega)]
  simp
theorem less_picked {rs : List Rt} {l : List (Int × Int)} {kk a n : Nat} {x : Rt} (hn : rs.length = n) (hk : kk < n) (hx : rs[a]? = some x) (h : Picked (usableB l) (cmpR l) rs n (a, true)) :
    ∃ b, pk (usableB l) (cmpR l) (lessL rs kk a n) (lessL rs kk a n).length = (b, true) ∧ b < (lessL rs kk a n).length ∧ (lessL rs kk a n)[b]? = some x := by
  subst hn
  unfold lessL
  rw [List.take_length]
  by_cases he : kk = a
  · rw [if_pos he]
    obtain ⟨y, _, h2, _⟩ := h.2 rfl
    exact ⟨a, picked_unique (cmp_rank l) (pk_picked (cmp_rank l) rs _ (Nat.le_refl _)) h, h2, hx⟩
  · rw [if_neg he]
    obtain ⟨b, h1, h2, h3⟩ := picked_erase (cmp_rank l) h hk he
    exact ⟨b, picked_unique (cmp_rank l) (pk_picked (cmp_rank l) _ _ (Nat.le_refl _)) h1, h2, h3.trans hx⟩
theorem less_mem {rs : List Rt} {kk a n : Nat} {r : Rt} (h : r ∈ lessL rs kk a n) : r ∈ rs := by
  unfold lessL at h
  split at h
  · exact List.mem_of_mem_take h
  · exact List.mem_of_mem_take (List.mem_of_mem_eraseIdx h)
theorem back_add {rs : List Rt} {j q : Nat} {r : Rt} (hq : q + j + 1 = rs.length) (hr : rs[q]? = some r) : rs.reverse.take (j + 1) = rs.reverse.take j ++ [r] := by
  have h : rs.reverse[j]? = some r := by rw [List.getElem?_reverse (by omega), show rs.length - 1 - j = q by omega]; exact hr
  obtain ⟨hj, rfl⟩ := List.getElem?_eq_some_iff.1 h
  rw [List.take_succ_eq_append_getElem hj]
theorem back_picked {rs : List Rt} {l : List (Int × Int)} {a n : Nat} {x : Rt} (hn : rs.length = n) (hx : rs[a]? = some x) (h : Picked (usableB l) (cmpR l) rs n (a, true)) :
    ∃ b y, pk (usableB l) (cmpR l) rs.reverse n = (b, true) ∧ b < n ∧ rs.reverse[b]? = some y ∧ cmpR l y x = 0 := by
  subst hn
  have h2 := pk_picked (u := usableB l) (cmp_rank l) rs.reverse rs.reverse.length (Nat.le_refl _)
  obtain ⟨h3, h4, y, h5, h6⟩ := picked_back (cmp_rank l) h hx h2
  rw [List.length_reverse] at h3 h4 h5
  change (pk (usableB l) (cmpR l) rs.reverse rs.length).2 = true at h3
  refine ⟨(pk (usableB l) (cmpR l) rs.reverse rs.length).1, y, ?_, h4, h5, h6⟩
  rw [← h3]

set_option maxRecDepth 100000 in
set_option maxHeartbeats 4000000 in
theorem picked_any (A B : Option Addr) (n cap m mc : Nat) (gone : Int) (rs : List Rt) (l : List (Int × Int)) (W : World) (hR : Routes W A n rs) (hH : Hops0 W B m l) (hrd : ∀ r ∈ rs, r.reads W) (hn0 : n ≤ 9223372036854775807) :
    Calls Try.prog 5 #[.slice A n cap, .slice B m mc, .int .i64 gone] W fun e w' => e = .returned (.bool true) ∧ Below W.heap.size W w' := by
  have HR := Lib.hid hR
  have HRD := Lib.hid hrd
  have HC0 := Lib.hid hH
  clear hR hrd hH
  cases hl : (rs.all lightB && decide (n ≤ 30)) && decide (m ≤ 30) with
  | false =>
    have HL := Lib.hid hl
    clear hl
    go_enter Try.func5, Try.ntmps5
    go_wp2_with (first
      | (go_at_call 9; refine (lives_any _).mono ?_; rintro e w1 ⟨rfl, hb1⟩; have HB1 := Lib.hid hb1; clear hb1)
      | (go_at_call 10; refine (light_any rs A B n cap m mc _ hn0 (HR.out.below HB1.out)).mono ?_; rw [HL.out]; rintro e w2 ⟨rfl, hb2⟩; have HB2 := Lib.hid (HB1.out.trans (hb2.mono HB1.out.size)); clear hb2))
    go_ret
    exact ⟨rfl, HB2.out⟩
  | true =>
    have hl' := hl
    simp at hl'
    have hn30 : n ≤ 30 := hl'.1.2
    have HLI := Lib.hid (fun r (hr : r ∈ rs) => (HRD.out r hr).like (hl'.1.1 r hr))
    have HC := Lib.hid (HC0.out hl'.2)
    have HOK := Lib.hid (fun r (hr : r ∈ rs) => (HRD.out r hr).ok)
    have HL := Lib.hid hl
    have HPD := Lib.hid (pk_picked (u := usableB l) (cmp_rank l) rs rs.length (Nat.le_refl _))
    have hs := HR.out.1
    obtain ⟨s, hs⟩ : ∃ s, pk (usableB l) (cmpR l) rs n = s := ⟨_, rfl⟩
    have HPK := Lib.hid hs
    have HPD2 := Lib.hid (show Picked (usableB l) (cmpR l) rs n s by rw [← hs]; have := HPD.out; rw [HR.out.1] at this; exact this)
    clear hl hl' hs HPD HC0
    obtain ⟨a, is⟩ := s
    go_enter Try.func5, Try.ntmps5
    cases is with
    | false =>
      go_wp2_with (first
        | (go_at_call 9; refine (lives_any _).mono ?_; rintro e w1 ⟨rfl, hb1⟩; have HB1 := Lib.hid hb1; clear hb1)
        | (go_at_call 10; refine (light_any rs A B n cap m mc _ hn0 (HR.out.below HB1.out)).mono ?_; rw [HL.out]; rintro e w2 ⟨rfl, hb2⟩; have HB2 := Lib.hid (HB1.out.trans (hb2.mono HB1.out.size)); clear hb2)
        | (go_at_call 14; refine (rpick_any rs l A B n cap m mc _ (HR.out.below HB2.out) (HC.out.below HB2.out) HOK.out (by omega)).mono ?_; rw [HPK.out]; rintro e w3 ⟨rfl, hb3⟩; have HB3 := Lib.hid (HB2.out.trans (hb3.mono HB2.out.size)); clear hb3))
      have ha0 : a = 0 := (HPD2.out.1 rfl).1
      have hz0 : ((a : Int) == 0) = true := by simp [ha0]
      clear ha0
      have hnone : ∀ k, k ≤ n → (rs.take k).any (usableB l) = false := fun k hk => by
        rw [List.any_eq_false]
        intro r hr
        obtain ⟨i, hi, e⟩ := List.getElem_of_mem hr
        have hi2 : i < k := by rw [List.length_take] at hi; omega
        have := (HPD2.out.1 rfl).2 i r (by omega) (by rw [← List.getElem?_take_of_lt hi2, ← e]; exact List.getElem?_eq_getElem hi)
        simp [this]
      have HNO := Lib.hid hnone
      clear hnone
      go_loopw [9, 10] (fun y i wr => ∃ k : Nat, k ≤ n ∧ i = .int .i64 k ∧ y = .bool ((rs.take k).any (usableB l)) ∧ Below W.heap.size W wr) (fun _ i _ => n - (intOf i).toNat)
      case atStart => exact ⟨0, by omega, rfl, by simp, HB3.out⟩
      case round =>
        obtain ⟨k, hk, rfl, rfl, hbr⟩ := hrel
        rw [HNO.out k hk]
        by_cases hlt : k < n
        · obtain ⟨b, off, rfl, hb, hc⟩ := HR.out.2 (by omega)
          obtain ⟨r, hr⟩ : ∃ r, rs[k]? = some r := ⟨rs[k]'(by rw [HR.out.1]; exact hlt), List.getElem?_eq_getElem _⟩
          have hrow := (row?_of_heap (hbr.block b hb) _ _).trans (hc k r hr)
          have HU := Lib.hid ((HPD2.out.1 rfl).2 k r hlt hr)
          have i0 : (0 : Int) ≤ (k : Int) := by omega
          have i1 : (k : Int) < (n : Int) := by omega
          clear hr hc
          go_wp2_with (go_at_call 15; refine (usable_val r l _ HU.out B m mc _ (HC.out.below hbr)).mono ?_; rintro e w4 ⟨rfl, hb4⟩; have HB4 := Lib.hid (hbr.trans (hb4.mono hbr.size)); clear hb4)
          go_quiet (fail)
          go_wp2_with fail
          go_roundw
          case rel => exact ⟨k + 1, by omega, by go_num, by rw [HNO.out (k + 1) hlt], below_drewN HB4.out _⟩
          case measure => simp [intOf]; omega
        · go_wp2_with fail
          go_ret
          exact ⟨rfl, hbr⟩
    | true =>
      obtain ⟨x, hxa, hxn, hxu, hxm⟩ := HPD2.out.2 rfl
      simp only at hxa hxn hxm
      obtain ⟨b, off, rfl, hb, hc⟩ := HR.out.2 (by omega)
      have HXA := Lib.hid hxa
      have HXU := Lib.hid hxu
      have HXM := Lib.hid hxm
      have hxrow := hc a x hxa
      have HCX := Lib.hid hc
      have a0 : (0 : Int) ≤ (a : Int) := by omega
      have a1 : (a : Int) < (n : Int) := by omega
      have HXOK := Lib.hid (HOK.out x (List.mem_of_getElem? hxa))
      clear hxa hxu hxm hc
      go_wp2_with (first
        | (go_at_call 9; refine (lives_any _).mono ?_; rintro e w1 ⟨rfl, hb1⟩; have HB1 := Lib.hid hb1; clear hb1)
        | (go_at_call 10; refine (light_any rs _ B n cap m mc _ hn0 (HR.out.below HB1.out)).mono ?_; rw [HL.out]; rintro e w2 ⟨rfl, hb2⟩; have HB2 := Lib.hid (HB1.out.trans (hb2.mono HB1.out.size)); clear hb2)
        | (go_at_call 14; refine (rpick_any rs l _ B n cap m mc _ (HR.out.below HB2.out) (HC.out.below HB2.out) HOK.out (by omega)).mono ?_; rw [HPK.out]; rintro e w3 ⟨rfl, hb3⟩; have HB3 := Lib.hid (HB2.out.trans (hb3.mono HB2.out.size)); clear hb3))
      go_loopw [9, 10] (fun y i wr => ∃ k : Nat, k ≤ n ∧ i = .int .i64 k ∧ y = .bool ((rs.take k).any (usableB l)) ∧ Below W.heap.size W wr) (fun _ i _ => n - (intOf i).toNat)
      case atStart => exact ⟨0, by omega, rfl, by simp, HB3.out⟩
      case round =>
        obtain ⟨k, hk, rfl, rfl, hbr⟩ := hrel
        by_cases hlt : k < n
        · obtain ⟨r, hr⟩ : ∃ r, rs[k]? = some r := ⟨rs[k]'(by rw [HR.out.1]; exact hlt), List.getElem?_eq_getElem _⟩
          have hrow := (row?_of_heap (hbr.block b hb) _ _).trans (HCX.out k r hr)
          have hrowx := (row?_of_heap (hbr.block b hb) _ _).trans hxrow
          have HRK := Lib.hid (HOK.out r (List.mem_of_getElem? hr))
          obtain ⟨u, hu⟩ : ∃ u, usableB l r = u := ⟨_, rfl⟩
          have HU := Lib.hid hu
          have HANY := Lib.hid (any_take (usableB l) rs k r hr)
          obtain ⟨y, hy⟩ : ∃ y, (rs.take k).any (usableB l) = y := ⟨_, rfl⟩
          rw [hy] at HANY ⊢
          have i0 : (0 : Int) ≤ (k : Int) := by omega
          have i1 : (k : Int) < (n : Int) := by omega
          obtain ⟨q, hq⟩ : ∃ q, cmpR l r x = q := ⟨_, rfl⟩
          have HQ := Lib.hid hq
          have hm := fun h => HXM.out k r hlt hr h
          change usableB l r = true → 0 ≤ cmpR l r x ∧ (k < a → 0 < cmpR l r x) at hm
          rw [hq, hu] at hm
          have HB := Lib.hid (fun (w : World) (h : Below W.heap.size W w) (x : Grow) => ext_below' h h.size x)
          clear hu hr hy hq
          have HB4' := Lib.hid (fun (w4 : World) (hb4 : Below wr.heap.size wr w4) => hbr.trans (hb4.mono hbr.size))
          have hq0 : u = true → decide (q < 0) = false := fun h => by have := (hm h).1; simp; omega
          have hka : decide ((k : Int) < (a : Int)) = decide (k < a) := by congr 1; simp
          by_cases hu2 : u = true
          case neg =>
            obtain rfl : u = false := by simpa using hu2
            cases y
            all_goals
              go_upto_region 14 with (go_at_call 15; refine (usable_val r l _ HU.out B m mc _ (HC.out.below hbr)).mono ?_; rintro e w4 ⟨rfl, hb4⟩; have HB4 := Lib.hid (HB4'.out _ hb4); clear hb4)
              go_quiet (fail)
              go_wp2_with fail
              go_roundw
              case rel => exact ⟨k + 1, by omega, by go_num, by rw [HANY.out, HU.out]; rfl, below_drewN HB4.out _⟩
              case measure => simp [intOf]; omega
          subst hu2
          have hd0 := hq0 rfl
          have hm2 := hm rfl
          clear hq0 hm
          by_cases hka2 : k < a
          · have hd1 : decide ((k : Int) < (a : Int)) = true := by simp; omega
            have hd2 : (q == 0) = false := by have := hm2.2 hka2; simp; omega
            clear hka hm2
            cases y
            all_goals
              go_upto_region 14 with (go_at_call 15; refine (usable_val r l _ HU.out B m mc _ (HC.out.below hbr)).mono ?_; rintro e w4 ⟨rfl, hb4⟩; have hr4 := (row?_of_heap (hb4.block b (Nat.lt_of_lt_of_le hb hbr.size)) _ _).trans hrow; have hx4 := (row?_of_heap (hb4.block b (Nat.lt_of_lt_of_le hb hbr.size)) _ _).trans hrowx; have hlt4 : b < w4.heap.size := Nat.lt_of_lt_of_le hb (Nat.le_trans hbr.size hb4.size); have HB4 := Lib.hid (HB4'.out _ hb4); clear hb4)
              refine wp_region_grow (by kernel_rfl) (by kernel_rfl) ?_
              repeat (go_big_quiet_step ((first
                | (go_at_call 11; exact quiet_callE (compare_val r x l _ HQ.out _ _ _ _ (HC.out.below (HB.out _ HB4.out _)) HRK.out HXOK.out)))))
              refine wpQuiet_nil ?_
              intro _ hw'
              obtain ⟨x1, rfl⟩ := hw'
              go_wp2_with fail
              go_roundw
              case rel => exact ⟨k + 1, by omega, by go_num, by rw [HANY.out, HU.out]; simp, HB.out _ HB4.out _⟩
              case measure => simp [intOf]; omega
          · have hd1 : decide ((k : Int) < (a : Int)) = false := by simp; omega
            clear hka hm2
            cases y
            all_goals
              go_upto_region 14 with (go_at_call 15; refine (usable_val r l _ HU.out B m mc _ (HC.out.below hbr)).mono ?_; rintro e w4 ⟨rfl, hb4⟩; have hr4 := (row?_of_heap (hb4.block b (Nat.lt_of_lt_of_le hb hbr.size)) _ _).trans hrow; have hx4 := (row?_of_heap (hb4.block b (Nat.lt_of_lt_of_le hb hbr.size)) _ _).trans hrowx; have hlt4 : b < w4.heap.size := Nat.lt_of_lt_of_le hb (Nat.le_trans hbr.size hb4.size); have HB4 := Lib.hid (HB4'.out _ hb4); clear hb4)
              refine wp_region_grow (by kernel_rfl) (by kernel_rfl) ?_
              repeat (go_big_quiet_step ((first
                | (go_at_call 11; exact quiet_callE (compare_val r x l _ HQ.out _ _ _ _ (HC.out.below (HB.out _ HB4.out _)) HRK.out HXOK.out)))))
              refine wpQuiet_nil ?_
              intro _ hw'
              obtain ⟨x1, rfl⟩ := hw'
              go_wp2_with fail
              go_roundw
              case rel => exact ⟨k + 1, by omega, by go_num, by rw [HANY.out, HU.out]; simp, HB.out _ HB4.out _⟩
              case measure => simp [intOf]; omega
        · obtain rfl : n = k := by omega
          have hany : (rs.take n).any (usableB l) = true := by
            rw [List.take_of_length_le (by rw [HR.out.1]; exact Nat.le_refl _), List.any_eq_true]
            exact ⟨x, List.mem_of_getElem? HXA.out, HXU.out⟩
          rw [hany]
          have hrowx := (row?_of_heap (hbr.block b hb) _ _).trans hxrow
          obtain ⟨kk, hkk⟩ : ∃ kk : Nat, (kk : Int) = gone % (n : Int) := ⟨(gone % (n : Int)).toNat, by have := Int.emod_nonneg gone (show (n : Int) ≠ 0 by omega); omega⟩
          have hkn : kk < n := by have := Int.emod_lt_of_pos gone (show (0 : Int) < (n : Int) by omega); omega
          have HKK := Lib.hid hkk
          clear hkk hany
          go_wp2_with (first
            | (go_at_call 15; refine (usable_val x l _ HXU.out B m mc _ (HC.out.below hbr)).mono ?_; rintro e w4 ⟨rfl, hb4⟩; have HB4 := Lib.hid (hbr.trans (hb4.mono hbr.size)); clear hb4)
            | (go_at_call 12; refine (pick_val gone n kk HKK.out.symm _ (by omega) (by omega)).mono ?_; rintro e w' ⟨rfl, rfl⟩))
          obtain ⟨t0, hi0, hz0, hz1, hz2⟩ := info_rt
          go_loopw [12, 15] (fun v i wr => ∃ j : Nat, j ≤ n ∧ i = .int .i64 ((n : Int) - 1 - j) ∧ Hid (Below W.heap.size W wr ∧ w'.heap.size ≤ wr.heap.size ∧ wr.ownsRow w'.heap.size 40 38 v j (cellsOf (rs.reverse.take j)))) (fun _ i _ => (intOf i + 1).toNat)
          case atStart => exact ⟨0, by omega, by simp, HB4.out, Nat.le_refl _, ⟨by simp [cellsOf], .inl ⟨rfl, rfl⟩⟩⟩
          case round =>
            obtain ⟨j, hj, rfl, hJ⟩ := hrel
            by_cases hlt2 : j < n
            · obtain ⟨q, hq⟩ : ∃ q : Nat, (q : Int) = (n : Int) - 1 - j := ⟨n - 1 - j, by omega⟩
              rw [← hq]
              obtain ⟨r, hr⟩ : ∃ r, rs[q]? = some r := ⟨rs[q]'(by rw [HR.out.1]; omega), List.getElem?_eq_getElem _⟩
              have hrow := (row?_of_heap (hJ.out.1.block b hb) _ _).trans (HCX.out q r hr)
              have HQ := Lib.hid hq
              have HRB := Lib.hid (back_add (j := j) (by rw [HR.out.1]; omega) hr)
              have q0 : (0 : Int) ≤ (q : Int) := by omega
              have q1 : (q : Int) < (n : Int) := by omega
              clear hq hr
              go_wp2_with (at_builtin; refine Hid.out ?_)
              refine Lib.hid ?_
              have hB1 := (Below.refl wr.heap.size wr).alloc (Nat.le_refl _) (.cells r.cs 40)
              refine wpList_append_held _ rfl (.tmp 127) (.tmp 132) _ rfl w'.heap.size 40 t0 _ 38 t0.bytes Try.underlying44 hi0 hz0 hz1 rfl (by simp [Value.cells]) (by omega) u12 j (cellsOf (rs.reverse.take j)) rfl (owns_below hJ.out.2.2 hB1) (some ⟨wr.heap.size, 0, none⟩) 1 1 r.cs.toList rfl (by simp) (held_rt r rfl) (fun u hu => r.one u hu) (by simp only [maxLen]; omega) (by have := Nat.mul_le_mul (show j + 1 ≤ 31 by omega) hz2; omega) (by have := hJ.out.2.1; simp; omega) ?_
              intro v5 w5 hown hg hat
              have hb5 : Below w'.heap.size w' w' := Below.refl _ _
              have HJ2 := Lib.hid (show Below W.heap.size W w5 ∧ w'.heap.size ≤ w5.heap.size ∧ w5.ownsRow w'.heap.size 40 38 v5 (j + 1) (cellsOf (rs.reverse.take (j + 1))) from by
                have h1 := hJ.out.1.trans (hB1.mono hJ.out.1.size)
                have h2 : W.heap.size ≤ w'.heap.size := HB4.out.size
                refine ⟨h1.trans (below_grown hg h1.size (fun k hk => ?_)), ?_, ?_⟩
                · have := (owns_block hJ.out.2.2 k hk).1; omega
                · have := hJ.out.2.1; have := hg.size; simp at this; omega
                · rw [HRB.out, cellsOf_snoc]; exact hown)
              clear hown hg hat hB1 hb5
              go_wp2_with fail
              go_roundw
              case rel => exact ⟨j + 1, by omega, by have := HQ.out; congr 1; omega, HJ2⟩
              case measure => simp [intOf]
            · obtain rfl : n = j := by omega
              obtain ⟨A2, c2, rfl, hc2, hR2, _⟩ := routes_of_owns hJ.out.2.2
              rw [List.take_of_length_le (by rw [List.length_reverse, HR.out.1]; exact Nat.le_refl _)] at hR2
              have HR2 := Lib.hid hR2
              have HWR := Lib.hid hJ.out.1
              clear hR2 hJ
              obtain ⟨wb, rfl⟩ : ∃ wb, wb = wr := ⟨_, rfl⟩
              go_wp2_with fail
              go_loopw [13, 16] (fun v i w3 => ∃ j : Nat, j ≤ n ∧ i = .int .i64 j ∧ Hid (Below wb.heap.size wb w3 ∧ w3.ownsRow wb.heap.size 40 38 v (lessL rs kk a j).length (cellsOf (lessL rs kk a j)))) (fun _ i _ => n - (intOf i).toNat)
              case atStart => exact ⟨0, by omega, rfl, Below.refl _ _, by rw [cellsOf_len], .inl ⟨rfl, by simp [lessL]⟩⟩
              case round =>
                obtain ⟨j, hj, rfl, hJ⟩ := hrel
                by_cases hlt3 : j < n
                · obtain ⟨r, hr⟩ : ∃ r, rs[j]? = some r := ⟨rs[j]'(by rw [HR.out.1]; omega), List.getElem?_eq_getElem _⟩
                  have hWj := HWR.out.trans (hJ.out.1.mono HWR.out.size)
                  have hrow := (row?_of_heap (hWj.block b hb) _ _).trans (HCX.out j r hr)
                  have hltb : b < wr.heap.size := Nat.lt_of_lt_of_le hb hWj.size
                  have q0 : (0 : Int) ≤ (j : Int) := by omega
                  have q1 : (j : Int) < (n : Int) := by omega
                  by_cases hadd : j ≠ kk ∨ kk = a
                  · have HLS := Lib.hid (less_add hr hadd)
                    have hll : (lessL rs kk a j).length ≤ j := by unfold lessL; split <;> simp [List.length_eraseIdx] <;> (try split) <;> omega
                    have hcase : ((j : Int) != (kk : Int)) = true ∨ (((j : Int) != (kk : Int)) = false ∧ ((kk : Int) == (a : Int)) = true) := by
                      by_cases h : j = kk
                      · right; exact ⟨by simp [h], by have : kk = a := hadd.resolve_left (by omega); simp [this]⟩
                      · left; simp; omega
                    clear hr hWj hadd
                    rcases hcase with h1 | ⟨h1, h2⟩
                    all_goals
                      go_wp2_with (at_builtin; refine Hid.out ?_)
                      refine Lib.hid ?_
                      have hB1 := (Below.refl wr.heap.size wr).alloc (Nat.le_refl _) (.cells r.cs 40)
                      refine wpList_append_held _ rfl (.tmp 148) (.tmp 153) _ rfl wb.heap.size 40 t0 _ 38 t0.bytes Try.underlying44 hi0 hz0 hz1 rfl (by simp [Value.cells]) (by omega) u13 _ (cellsOf (lessL rs kk a j)) rfl (owns_below hJ.out.2 hB1) (some ⟨wr.heap.size, 0, none⟩) 1 1 r.cs.toList rfl (by simp) (held_rt r rfl) (fun u hu => r.one u hu) (by simp only [maxLen]; omega) (by have := Nat.mul_le_mul (show (lessL rs kk a j).length + 1 ≤ 31 by omega) hz2; omega) (by have := hJ.out.1.size; simp; omega) ?_
                      intro v5 w5 hown hg hat
                      have HJ2 := Lib.hid (show Below wb.heap.size wb w5 ∧ w5.ownsRow wb.heap.size 40 38 v5 (lessL rs kk a (j + 1)).length (cellsOf (lessL rs kk a (j + 1))) from by
                        have h1 := hJ.out.1.trans (hB1.mono hJ.out.1.size)
                        refine ⟨h1.trans (below_grown hg h1.size (fun k hk => (owns_block hJ.out.2 k hk).1)), ?_⟩
                        rw [HLS.out, cellsOf_snoc, List.length_append]; exact hown)
                      clear hown hg hat hB1
                      go_wp2_with fail
                      go_roundw
                      case rel => exact ⟨j + 1, by omega, by go_num, HJ2⟩
                      case measure => simp [intOf]; omega
                  · have hjk : kk = j := by omega
                    subst hjk
                    have hja : kk ≠ a := fun h => hadd (.inr h)
                    have HLS := Lib.hid (less_skip (rs := rs) (a := a) (by rw [HR.out.1]; exact hlt3) hja)
                    have h1 : ((kk : Int) != (kk : Int)) = false := by simp
                    have h2 : ((kk : Int) == (a : Int)) = false := by simp; omega
                    clear hr hadd
                    go_wp2_with fail
                    go_roundw
                    case rel => exact ⟨kk + 1, by omega, by go_num, by show _ ∧ _; rw [HLS.out]; exact hJ.out⟩
                    case measure => simp [intOf]; omega
                · obtain rfl : n = j := by omega
                  obtain ⟨A3, c3, rfl, hc3, hR3, _⟩ := routes_of_owns hJ.out.2
                  obtain ⟨b2, y, hpb, hb2, hby, hbc⟩ := back_picked HR.out.1 HXA.out HPD2.out
                  obtain ⟨b3, hpl, hb3, hbx⟩ := less_picked HR.out.1 hkn HXA.out HPD2.out
                  obtain ⟨n3, hn3⟩ : ∃ n3, (lessL rs kk a n).length = n3 := ⟨_, rfl⟩
                  rw [hn3] at hpl hb3 hR3 ⊢
                  have hn3' : n3 ≤ n := by
                    rw [← hn3]
                    unfold lessL
                    split
                    · simp; omega
                    · simp only [List.length_eraseIdx, List.length_take]; split <;> omega
                  have hWr := HWR.out.trans (hJ.out.1.mono HWR.out.size)
                  have hR2 := HR2.out.below hJ.out.1
                  obtain ⟨g2, o2, rfl, hg2, hk2⟩ := hR2.2 (by omega)
                  obtain ⟨g3, o3, rfl, hg3, hk3⟩ := hR3.2 (by omega)
                  have hy2 := hk2 b2 y hby
                  have hx3 := hk3 b3 x hbx
                  have HYOK := Lib.hid (HOK.out y (List.mem_reverse.1 (List.mem_of_getElem? hby)))
                  have HXL := Lib.hid (HLI.out x (List.mem_of_getElem? HXA.out))
                  have HBC := Lib.hid (show lexI (rankL y l) (rankL x l) = 0 from hbc)
                  have HOK2 := Lib.hid (fun r (hr : r ∈ rs.reverse) => HOK.out r (List.mem_reverse.1 hr))
                  have HOK3 := Lib.hid (fun r (hr : r ∈ lessL rs kk a n) => HOK.out r (less_mem hr))
                  have HPB := Lib.hid hpb
                  have HPL := Lib.hid hpl
                  have HR3 := Lib.hid hR3
                  have HR22 := Lib.hid hR2
                  have HWR2 := Lib.hid hWr
                  have hx0 := (row?_of_heap (hWr.block b hb) _ _).trans hxrow
                  have HB := Lib.hid (fun (w : World) (h : Below W.heap.size W w) (x : Grow) => ext_below' h h.size x)
                  have hltb : b < wr.heap.size := Nat.lt_of_lt_of_le hb hWr.size
                  have e0 : (0 : Int) ≤ (b2 : Int) := by omega
                  have e1 : (b2 : Int) < (n : Int) := by omega
                  have e2 : (0 : Int) ≤ (b3 : Int) := by omega
                  have e3 : (b3 : Int) < (n3 : Int) := by omega
                  clear hby hbx hbc hpb hpl hR3 hR2 hk2 hk3 hWr hn3 hJ
                  go_upto_region 35 with (first
                    | (go_at_call_of 14 (Value.slice (some ⟨g2, o2, none⟩) n c2); refine (rpick_any rs.reverse l _ B n c2 m mc _ HR22.out (HC.out.below HWR2.out) HOK2.out (by omega)).mono ?_; rw [HPB.out]; rintro e w6 ⟨rfl, hb6⟩; have HB6 := Lib.hid hb6; clear hb6)
                    | (go_at_call_of 14 (Value.slice (some ⟨g3, o3, none⟩) n3 c3); refine (rpick_any (lessL rs kk a n) l _ B n3 c3 m mc _ (HR3.out.below HB6.out) (HC.out.below (HWR2.out.trans (HB6.out.mono HWR2.out.size))) HOK3.out (by omega)).mono ?_; rw [HPL.out]; rintro e w7 ⟨rfl, hb7⟩; have hb67 := HB6.out.trans (hb7.mono HB6.out.size); have HB7 := Lib.hid (HWR2.out.trans (hb67.mono HWR2.out.size)); have hy7 := (row?_of_heap (hb67.block g2 hg2) _ _).trans hy2; have hx7 := (row?_of_heap (hb67.block g3 hg3) _ _).trans hx3; have hz7 := (row?_of_heap (hb67.block b hltb) _ _).trans hx0; have l2 : g2 < w7.heap.size := Nat.lt_of_lt_of_le hg2 hb67.size; have l3 : g3 < w7.heap.size := Nat.lt_of_lt_of_le hg3 hb67.size; have l4 : b < w7.heap.size := Nat.lt_of_lt_of_le hltb hb67.size; clear hb7 hb67))
                  refine wp_region_grow (by kernel_rfl) (by kernel_rfl) ?_
                  repeat (go_big_quiet_step ((first
                    | (go_at_call 11; exact quiet_callE (compare_val y x l _ HBC.out _ _ _ _ (HC.out.below (HB.out _ HB7.out _)) HYOK.out HXOK.out))
                    | (go_at_call 16; exact quiet_call1 (SameRoute_like x x _ (HXL.out.below (HB.out _ HB7.out _)))))))
                  refine wpQuiet_nil ?_
                  intro _ hw'
                  obtain ⟨x1, rfl⟩ := hw'
                  go_wp2_with fail
                  go_ret
                  exact ⟨rfl, HB.out _ HB7.out _⟩
end Go.Proofs.Ytkklhidoonefoaa
