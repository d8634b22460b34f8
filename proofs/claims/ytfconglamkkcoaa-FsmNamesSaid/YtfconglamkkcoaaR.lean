import Derived.Test.YtfconglamkkcoaaQ
/- The walk of FsmHold. -/
namespace Go.Proofs.Ytfconglamkkcoaa
open Go.RowKit
set_option linter.unusedSimpArgs false
set_option linter.unusedVariables false

/-- The session that has gone down. -/
def downS (h E A N : Int) : Ses := leaveS (aS h E A) N
theorem tick_any' {h E A now : Int} (h0 : 3 ≤ h) (h1 : h ≤ 60) (e1 : E ≤ 100000) (a0 : 0 ≤ A) (a1 : A ≤ 5000) (n0 : 0 ≤ now) (n1 : now ≤ 3000) (he : now < E) : ∃ A' L, stepS (aS h E A) now (oneE 7) = (aS h E A', L) ∧ 0 ≤ A' ∧ A' ≤ 5000 ∧ L.length ≤ 1 := by
  by_cases ha : now < A
  · exact ⟨A, [], tick_no h0 h1 e1 (by omega) n0 (by omega) he ha, a0, a1, by simp⟩
  · exact ⟨now + h / 3, _, tick_send h0 h1 e1 a0 n0 (by omega) he (by omega), by omega, by omega, by simp⟩
theorem tick_down {h E A now : Int} (h0 : 3 ≤ h) (h1 : h ≤ 60) (e0 : 0 ≤ E) (a0 : 0 ≤ A) (a1 : A ≤ 5000) (n0 : 0 ≤ now) (n1 : now ≤ 3000) (he : E ≤ now) : stepS (aS h E A) now (oneE 7) = (downS h E A now, [⟨1, noticeM 4 0, 0⟩, ⟨3, zeroMsg, 0⟩, ⟨5, zeroMsg, 2⟩]) := by
  unfold stepS
  rw [if_pos (aS_good h0 h1 e0 (by omega) a0 (by omega) n0 (by omega))]
  have h2 : ¬ E = -1 := by omega
  simp [phaseS, lateS, oneE, tickS, aS, s4, s3, s0, newS, h2, he, downS, failL, leaveL]
theorem never_step : stepS (s4 0) 1099511627776 (oneE 7) = (s4 0, []) := by rfl
theorem downS_phase (h E A N : Int) : (downS h E A N).phase = 1 := rfl

set_option maxRecDepth 100000 in
set_option maxHeartbeats 4000000 in
theorem fsmhold_any (hold : Int) (G : Option Addr) (m cg : Nat) (xs : List Int) (W : World) (hx : Held W G (xs.map (Value.int .i64))) (hxl : xs.length = m) (hm : m ≤ 9223372036854775807) : Calls Try.prog 7 #[.int .i64 hold, .slice G m cg] W fun e w' => e = .returned (.bool true) ∧ Below W.heap.size W w' := by
  obtain ⟨h, hh⟩ : ∃ h, hold % 58 = h - 3 := ⟨hold % 58 + 3, by omega⟩
  have h3 : 3 ≤ h := by omega
  have h60 : h ≤ 60 := by omega
  have HH := Lib.hid hh
  have HX := Lib.hid hx
  have HXL := Lib.hid hxl
  have HD := Lib.hid (held_of h3 h60)
  have hw : IntKind.i64.wrap (h - 3 + 3) = h := by rw [IntWalk.i64_in _ (by omega)]; omega
  have hw2 : h - 3 + 3 = h := by omega
  clear hh hx hxl
  by_cases hbig : 20 < m
  · have hd : decide ((20 : Int) < (m : Int)) = true := by simp; omega
    go_enter Try.func7, Try.ntmps7
    go_wp2_with (go_at_call 10; refine (lives_any _).mono ?_; rintro e w1 ⟨rfl, hb1⟩; have HB1 := Lib.hid hb1; clear hb1)
    go_ret
    exact ⟨rfl, HB1.out⟩
  have hd : decide ((20 : Int) < (m : Int)) = false := by simp; omega
  go_enter Try.func7, Try.ntmps7
  go_wp2_with (first
    | (go_at_call 10; refine (lives_any _).mono ?_; rintro e w1 ⟨rfl, hb1⟩; have HB1 := Lib.hid hb1; clear hb1)
    | (go_at_call 24; refine (pick_val hold 58 (h - 3) HH.out _ (by omega) (by omega)).mono ?_; rintro e w' ⟨rfl, rfl⟩)
    | (go_at_call 27; refine (established_any h HD.out _).mono ?_; rintro e w2 ⟨rfl, hb2⟩; have HB2 := Lib.hid (HB1.out.trans (hb2.mono HB1.out.size)); clear hb2))
  obtain ⟨gs, hgs⟩ : ∃ gs, w2.heap.size = gs := ⟨_, rfl⟩
  have hI : Below W.heap.size W (w2.alloc (.cells (s4 h).cs 30)) ∧ VarAt (w2.alloc (.cells (s4 h).cs 30)) gs (aS h (8 + h) (7 + h / 3)) := by
    refine ⟨HB2.out.alloc HB2.out.size _, ?_⟩
    rw [← s4_aS (by omega)]
    exact heap_here hgs.symm
  have hgsW : W.heap.size ≤ gs := by have := HB2.out.size; omega
  have HI := Lib.hid hI
  rw [hgs]
  clear hI hgs HB1 HB2
  go_loopw [6, 7] (fun now i wr => ∃ (k : Nat) (N A : Int), now = .int .i64 N ∧ i = .int .i64 k ∧ k ≤ m ∧ 8 ≤ N ∧ N ≤ 8 + 60 * k ∧ 0 ≤ A ∧ A ≤ 5000 ∧ Hid (Below W.heap.size W wr ∧ VarAt wr gs (aS h (N + h) A))) (fun _ i _ => m - (intOf i).toNat)
  case atStart => exact ⟨0, 8, 7 + h / 3, rfl, rfl, by omega, by omega, by omega, by omega, by omega, HI⟩
  case round =>
    obtain ⟨k, N, A, rfl, rfl, hk, n0, n1, a0, a1, hJ⟩ := hrel
    by_cases hlt : k < m
    · obtain ⟨x, hxk⟩ : ∃ x, xs[k]? = some x := ⟨xs[k]'(by rw [HXL.out]; exact hlt), List.getElem?_eq_getElem _⟩
      obtain ⟨b1, o1, rfl, hb1, hc1⟩ := held_at (HX.out.same fun b off _ h => hJ.out.1.block b h) (j := k) (u := .int .i64 x) (by simp [hxk])
      obtain ⟨g, hg⟩ : ∃ g, x % h = g := ⟨_, rfl⟩
      have hg0 : 0 ≤ g := by have := Int.emod_nonneg x (show h ≠ 0 by omega); omega
      have hg1 : g < h := by have := Int.emod_lt_of_pos x (show 0 < h by omega); omega
      have HG := Lib.hid hg
      have k0 : (0 : Int) ≤ (k : Int) := by omega
      have k1 : (k : Int) < (m : Int) := by omega
      clear hg hxk
      go_wp2_with (go_at_call 24; refine (pick_val x h g HG.out _ (by omega) (by omega)).mono ?_; rintro e w' ⟨rfl, rfl⟩)
      go_loopw [6, 9] (fun now i wr2 => ∃ (j A2 : Int), now = .int .i64 (N + j) ∧ i = .int .i64 j ∧ 0 ≤ j ∧ j ≤ g ∧ 0 ≤ A2 ∧ A2 ≤ 5000 ∧ Hid (Below W.heap.size W wr2 ∧ VarAt wr2 gs (aS h (N + h) A2))) (fun _ i _ => (g - intOf i).toNat)
      case atStart => exact ⟨0, A, by simp, rfl, by omega, by omega, by omega, by omega, hJ⟩
      case round =>
        obtain ⟨j, A2, rfl, rfl, j0, j1, a20, a21, hJ2⟩ := hrel
        by_cases hlt2 : j < g
        · obtain ⟨hB, hV⟩ := hJ2.out
          have hrow := hV.row
          have hN1 : IntKind.i64.wrap (N + j + 1) = N + j + 1 := IntWalk.i64_in _ (by omega)
          go_wp2_with (go_at_call 13; refine Hid.out ?_)
          refine Lib.hid ?_
          obtain ⟨A3, L, hst, a30, a31, hLl⟩ := tick_any' (h := h) (E := N + h) (A := A2) (now := N + j + 1) h3 h60 (by omega) a20 a21 (by omega) (by omega) (by omega)
          refine (step_eq (aS h (N + h) A2) (N + j + 1) (oneE 7) _ _ _ hst (by intro h'; simp [oneE] at h')).mono ?_
          rintro r wb ⟨Ao, co, rfl, hbb, _, _⟩
          have hV1 := hV.below hbb
          have hB1 : Below W.heap.size W wb := hB.trans (hbb.mono hB.size)
          have hrow1 := hV1.row
          have hlo1 := hV1.loose
          have hT : VarAt (wb.alloc (.cells (aS h (N + h) A3).cs 30)) wb.heap.size (aS h (N + h) A3) := heap_here rfl
          have hrowT := hT.row
          have hP : VarAt (wb.put gs 0 (aS h (N + h) A3).cs) gs (aS h (N + h) A3) := hV1.put
          have hcP : (wb.put gs 0 (aS h (N + h) A3).cs).cell? ⟨gs, 0, none⟩ = some (.int .i64 4) := (hP.cell 0).trans (by simp [aS_phase])
          have hgl := hV1.lt
          have hLd : decide ((1 : Int) < (L.length : Int)) = false := by simp; omega
          have HF := Lib.hid (show Below W.heap.size W ((wb.put gs 0 (aS h (N + h) A3).cs).alloc (.cells (aS h (N + h) A3).cs 30)) ∧ VarAt ((wb.put gs 0 (aS h (N + h) A3).cs).alloc (.cells (aS h (N + h) A3).cs 30)) gs (aS h (N + h) A3) from
            ⟨(put_below hB1 hgsW _ _).alloc (by rw [put_size]; exact hB1.size) _, hP.below ((Below.refl _ _).alloc (Nat.le_refl _) _)⟩)
          clear hV1 hB1 hbb hT hP hB hV hJ2 hst
          go_wp2_with fail
          exact ⟨⟨j + 1, A3, by congr 1; omega, rfl, by omega, by omega, a30, a31, HF⟩, by simp [intOf]; omega⟩
        · obtain rfl : g = j := by omega
          obtain ⟨hB, hV⟩ := hJ2.out
          have HV := Lib.hid hV
          have HB := Lib.hid hB
          have hrow := hV.row
          have HVd := Lib.hid (hV.below (Below.refl wr.heap.size wr).drew)
          have HBd := Lib.hid hB.drew
          have hst := heard_step (h := h) (E := N + h) (A := A2) (now := N + g) h3 h60 (by omega) (by omega) a20 (by omega) (by omega) (by omega)
          have HST := Lib.hid hst
          clear hB hV hJ2 hst
          go_upto_region 19 with fail
          have hgW : gs < wr.heap.size := HV.out.lt
          go_region_law (first
            | (go_simp; go_at_call 15; refine (lalive_any _).mono ?_; rintro r wE ⟨rfl, hbE⟩; have hbE1 : Below wr.heap.size wr.drew wE := by { refine Below.trans ?_ (hbE.mono (by simp)); first | exact Below.refl _ _ | exact (Below.refl _ _).alloc (by simp) _ }; have HVE := Lib.hid (HVd.out.below hbE1); have HBE := Lib.hid (HBd.out.trans (hbE1.mono HBd.out.size)); have hrowE := HVE.out.row; have hgE := HVE.out.lt; have hsE : wr.heap.size ≤ wE.heap.size := hbE1.size; (try have hX1 : VarAt wE wr.heap.size zeroSes := (hbE.block wr.heap.size (by simp)).trans (heap_here rfl)); clear hbE hbE1)
            | (go_simp; go_at_call 13; refine (step_eq (aS h (N + h) A2) (N + g) aliveE (aS h (N + g + h) A2) [] _ HST.out (by intro h'; simp [aS, s4, s3, s0, newS, aliveE, aliveM, zeroMsg])).mono ?_; rintro r wF ⟨A3, c3, rfl, hbF, _, _⟩; have hbF1 : Below wE.heap.size wE wF := by { refine Below.trans ?_ (hbF.mono (by simp)); first | exact Below.refl _ _ | exact (Below.refl _ _).alloc (by simp) _ }; have HVF := Lib.hid (HVE.out.below hbF1); have HBF := Lib.hid (HBE.out.trans (hbF1.mono HBE.out.size)); have hrowF := HVF.out.row; have hloF := HVF.out.loose; have hglF := HVF.out.lt; have hsF : wE.heap.size ≤ wF.heap.size := hbF1.size; (try have hX2 : VarAt wF wE.heap.size zeroSes := (hbF.block wE.heap.size (by simp)).trans (heap_here rfl)); (try have hX2 : VarAt wF wr.heap.size zeroSes := hX1.below hbF1); (try have hX3 := hX2.row); (try have hX4 := hX2.loose); (try have hX5 := (VarAt.put (s' := aS h (N + g + h) A2) hX2).row); clear hbF hbF1))
          all_goals
            have hWs : W.heap.size ≤ wr.heap.size := HB.out.size
            first
              | (obtain ⟨wY, hwY⟩ : ∃ wY, wF.put wE.heap.size 0 (aS h (N + g + h) A2).cs = wY := ⟨_, rfl⟩; obtain ⟨X, hXX⟩ : ∃ X, wE.heap.size = X := ⟨_, rfl⟩; have hXg : X ≠ gs := (by omega); have hYX : VarAt wY X (aS h (N + g + h) A2) := (by rw [← hwY, ← hXX]; exact VarAt.put hX2); have hYg : VarAt wY gs (aS h (N + h) A2) := (by rw [← hwY]; exact (put_heap_other wF 0 _ (by omega)).trans HVF.out); have hYB : Below W.heap.size W wY := (by rw [← hwY]; exact put_below HBF.out (by omega) _ _); rw [hwY, hXX])
              | (obtain ⟨wY, hwY⟩ : ∃ wY, wF.put wr.heap.size 0 (aS h (N + g + h) A2).cs = wY := ⟨_, rfl⟩; obtain ⟨X, hXX⟩ : ∃ X, wr.heap.size = X := ⟨_, rfl⟩; have hXg : X ≠ gs := (by omega); have hYX : VarAt wY X (aS h (N + g + h) A2) := (by rw [← hwY, ← hXX]; exact VarAt.put hX2); have hYg : VarAt wY gs (aS h (N + h) A2) := (by rw [← hwY]; exact (put_heap_other wF 0 _ (by omega)).trans HVF.out); have hYB : Below W.heap.size W wY := (by rw [← hwY]; exact put_below HBF.out (by omega) _ _); rw [hwY, hXX])
              | (obtain ⟨wY, hwY⟩ : ∃ wY, wF.alloc (.cells (aS h (N + g + h) A2).cs 30) = wY := ⟨_, rfl⟩; obtain ⟨X, hXX⟩ : ∃ X, wF.heap.size = X := ⟨_, rfl⟩; have hXg : X ≠ gs := (by omega); have hYX : VarAt wY X (aS h (N + g + h) A2) := (by rw [← hwY]; exact heap_here hXX.symm); have hYg : VarAt wY gs (aS h (N + h) A2) := (by rw [← hwY]; exact HVF.out.below ((Below.refl _ _).alloc (Nat.le_refl _) _)); have hYB : Below W.heap.size W wY := (by rw [← hwY]; exact HBF.out.alloc HBF.out.size _); rw [hwY, hXX])
            have hyr := hYX.row
            have hyl := hYg.loose
            have hyg := hYg.row
            have HFY := Lib.hid (show Below W.heap.size W (wY.put gs 0 (aS h (N + g + h) A2).cs) ∧ VarAt (wY.put gs 0 (aS h (N + g + h) A2).cs) gs (aS h (N + g + h) A2) from ⟨put_below hYB hgsW _ _, hYg.put⟩)
            clear hwY hXX hYX hYg hYB HVF HBF HVE HBE HVd HBd HV HB hrow hrowE hrowF hloF hglF hsE hsF hgW hgE
            go_wp2_with fail
            exact ⟨⟨k + 1, N + g, A2, rfl, by go_num, by omega, by omega, by omega, a20, a21, HFY⟩, by simp [intOf]; omega⟩
    · have hk20 : k ≤ 20 := by omega
      have HJ := Lib.hid hJ.out
      clear hJ
      go_wp2_with fail
      go_loopw [14] (fun i w3 => ∃ (j A2 : Int), i = .int .i64 j ∧ 1 ≤ j ∧ j ≤ h + 1 ∧ 0 ≤ A2 ∧ A2 ≤ 5000 ∧ Hid (Below W.heap.size W w3 ∧ ∃ s, VarAt w3 gs s ∧ (j ≤ h → s = aS h (N + h) A2))) (fun i _ => (h + 1 - intOf i).toNat)
      case atStart => exact ⟨1, A, rfl, by omega, by omega, a0, a1, HJ.out.1, _, HJ.out.2, fun _ => rfl⟩
      case round =>
        obtain ⟨j, A2, rfl, j0, j1, a20, a21, hK⟩ := hrel
        by_cases hlt3 : j ≤ h
        · obtain ⟨hB, s, hV, hs⟩ := hK.out
          obtain rfl := hs hlt3
          have hrow := hV.row
          have hN1 : IntKind.i64.wrap (N + j) = N + j := IntWalk.i64_in _ (by omega)
          clear hs hK
          go_wp2_with (go_at_call 13; refine Hid.out ?_)
          refine Lib.hid ?_
          by_cases hjh : j < h
          · obtain ⟨A3, L, hst, a30, a31, hLl⟩ := tick_any' (h := h) (E := N + h) (A := A2) (now := N + j) h3 h60 (by omega) a20 a21 (by omega) (by omega) (by omega)
            refine (step_eq (aS h (N + h) A2) (N + j) (oneE 7) _ _ _ hst (by intro h'; simp [oneE] at h')).mono ?_
            rintro r wb ⟨Ao, co, rfl, hbb, _, _⟩
            have hV1 := hV.below hbb
            have hB1 : Below W.heap.size W wb := hB.trans (hbb.mono hB.size)
            have hrow1 := hV1.row
            have hlo1 := hV1.loose
            have hT : VarAt (wb.alloc (.cells (aS h (N + h) A3).cs 30)) wb.heap.size (aS h (N + h) A3) := heap_here rfl
            have hrowT := hT.row
            have hP : VarAt (wb.put gs 0 (aS h (N + h) A3).cs) gs (aS h (N + h) A3) := hV1.put
            have hcP : (wb.put gs 0 (aS h (N + h) A3).cs).cell? ⟨gs, 0, none⟩ = some (.int .i64 4) := (hP.cell 0).trans (by simp [aS_phase, downS_phase])
            have hgl := hV1.lt
            have hq1 : decide (j < h) = true := by simpa using hjh
            have hq2 : (j == h) = false := by simp; omega
            have HF := Lib.hid (show Below W.heap.size W ((wb.put gs 0 (aS h (N + h) A3).cs).alloc (.cells (aS h (N + h) A3).cs 30)) ∧ VarAt ((wb.put gs 0 (aS h (N + h) A3).cs).alloc (.cells (aS h (N + h) A3).cs 30)) gs (aS h (N + h) A3) from
              ⟨(put_below hB1 hgsW _ _).alloc (by rw [put_size]; exact hB1.size) _, hP.below ((Below.refl _ _).alloc (Nat.le_refl _) _)⟩)
            clear hV1 hB1 hbb hT hP hB hV hst
            go_wp2_with fail
            all_goals exact ⟨⟨j + 1, A3, rfl, by omega, by omega, a30, a31, HF.out.1, _, HF.out.2, fun _ => rfl⟩, by simp [intOf]; omega⟩
          · obtain rfl : j = h := by omega
            have hst := tick_down (h := j) (E := N + j) (A := A2) (now := N + j) h3 h60 (by omega) a20 a21 (by omega) (by omega) (by omega)
            refine (step_eq (aS j (N + j) A2) (N + j) (oneE 7) _ _ _ hst (by intro h'; simp [oneE] at h')).mono ?_
            rintro r wb ⟨Ao, co, rfl, hbb, _, hrows⟩
            obtain ⟨ba, rfl, hba, hbl, hr⟩ := hrows (by simp)
            have hr0 := hr 0 ⟨1, noticeM 4 0, 0⟩ rfl
            have hr2 := hr 2 ⟨5, zeroMsg, 2⟩ rfl
            have hgba : gs ≠ ba := by have := hV.lt; omega
            have hV1 := hV.below hbb
            have hB1 : Below W.heap.size W wb := hB.trans (hbb.mono hB.size)
            have hrow1 := hV1.row
            have hlo1 := hV1.loose
            have hT : VarAt (wb.alloc (.cells (downS j (N + j) A2 (N + j)).cs 30)) wb.heap.size (downS j (N + j) A2 (N + j)) := heap_here rfl
            have hrowT := hT.row
            have hP : VarAt (wb.put gs 0 (downS j (N + j) A2 (N + j)).cs) gs (downS j (N + j) A2 (N + j)) := hV1.put
            have hcP : (wb.put gs 0 (downS j (N + j) A2 (N + j)).cs).cell? ⟨gs, 0, none⟩ = some (.int .i64 1) := (hP.cell 0).trans (by simp [aS_phase, downS_phase])
            have hgl := hV1.lt
            have HF := Lib.hid (show Below W.heap.size W ((wb.put gs 0 (downS j (N + j) A2 (N + j)).cs).alloc (.cells (downS j (N + j) A2 (N + j)).cs 30)) ∧ VarAt ((wb.put gs 0 (downS j (N + j) A2 (N + j)).cs).alloc (.cells (downS j (N + j) A2 (N + j)).cs 30)) gs (downS j (N + j) A2 (N + j)) from
              ⟨(put_below hB1 hgsW _ _).alloc (by rw [put_size]; exact hB1.size) _, hP.below ((Below.refl _ _).alloc (Nat.le_refl _) _)⟩)
            have hc7 : (wb.put gs 0 (downS j (N + j) A2 (N + j)).cs).cell? ⟨ba, 7, none⟩ = some (.int .i64 4) := by
              rw [World.cell?_of_block (put_heap_other wb 0 _ hgba)]
              have := row_at' hr0 (i := 7) (by omega)
              simpa [noticeM] using this
            have hc80 : (wb.put gs 0 (downS j (N + j) A2 (N + j)).cs).cell? ⟨ba, 80, none⟩ = some (.int .i64 2) := by
              rw [World.cell?_of_block (put_heap_other wb 0 _ hgba)]
              have := row_at' hr2 (i := 26) (by omega)
              simpa using this
            clear hV1 hB1 hbb hT hP hB hV hst hr hr0 hr2 hrows
            go_wp2_with fail
            exact ⟨⟨j + 1, A2, rfl, by omega, by omega, a20, a21, HF.out.1, _, HF.out.2, fun h => by omega⟩, by simp [intOf]; omega⟩
        · have HB := Lib.hid hK.out.1
          have hp0 : ∀ (w : World) b, VarAt w b (s4 0) → w.cell? ⟨b, 0, none⟩ = some (.int .i64 4) := fun w b hv => hv.cell 0
          have HP0 := Lib.hid hp0
          clear hK hp0
          go_wp2_with (first
            | (go_at_call 27; refine (established_any 0 rfl _).mono ?_; rintro e wa ⟨rfl, hba⟩; have hBa := Lib.hid ((HB.out.trans (hba.mono HB.out.size)).alloc (by have := HB.out.size; have := hba.size; omega) (.cells (s4 0).cs 30)); have hVa : VarAt (wa.alloc (.cells (s4 0).cs 30)) wa.heap.size (s4 0) := heap_here rfl; have hrowa := hVa.row; clear hba hVa)
            | (go_at_call 13; refine Hid.out ?_))
          refine Lib.hid ?_
          refine (step_eq (s4 0) 1099511627776 (oneE 7) _ _ _ never_step (by intro h'; simp [oneE] at h')).mono ?_
          rintro r wb ⟨Ao, co, rfl, hbb, _, hrows⟩
          have hVb : VarAt (wb.alloc (.cells (s4 0).cs 30)) wb.heap.size (s4 0) := heap_here rfl
          have hcb := HP0.out _ _ hVb
          have HF := Lib.hid ((hBa.out.trans (hbb.mono hBa.out.size)).alloc (by have := hBa.out.size; have := hbb.size; omega) (.cells (s4 0).cs 30))
          clear hbb hrows hVb
          go_wp2_with fail
          go_ret
          exact ⟨rfl, HF.out⟩
end Go.Proofs.Ytfconglamkkcoaa
