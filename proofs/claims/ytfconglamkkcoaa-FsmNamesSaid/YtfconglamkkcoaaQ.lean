import Derived.Test.YtfconglamkkcoaaP
/- The walk of FsmAlive. -/
namespace Go.Proofs.Ytfconglamkkcoaa
open Go.RowKit
set_option linter.unusedSimpArgs false
set_option linter.unusedVariables false

theorem pick_val (x n v : Int) (hv : x % n = v) (w : World) (hn : 0 < n) (hn2 : n ≤ 9223372036854775807) : 
    Calls Try.prog 24 #[.int .i64 x, .int .i64 n] w fun e w' => e = .returned (.int .i64 v) ∧ w = w' := by
  subst hv
  obtain ⟨h1, h2⟩ := tmod_pos x n hn
  obtain ⟨m, hm⟩ : ∃ m, x.tmod n = m := ⟨_, rfl⟩
  rw [hm] at h1 h2
  have HX := Lib.hid h1
  clear h1
  have hz : (n == 0) = false := by simp; omega
  by_cases hlt : m < 0
  · go_enter Try.func24, Try.ntmps24
    go_wp2_with fail
    go_ret
    have := HX.out
    rw [if_pos hlt] at this
    exact ⟨by rw [this]; rfl, rfl⟩
  · go_enter Try.func24, Try.ntmps24
    go_wp2_with fail
    go_ret
    have := HX.out
    rw [if_neg (by omega)] at this
    exact ⟨by rw [this]; rfl, rfl⟩
/-- An established session with other timers. -/
def aS (h E A : Int) : Ses := { s4 h with expire := E, alive := A }
theorem s4_aS {h : Int} (h0 : 0 < h) : s4 h = aS h (8 + h) (7 + h / 3) := by simp [aS, s4, s3, h0]
theorem held_of {h : Int} (h0 : 3 ≤ h) (h1 : h ≤ 60) : heldB h = true := by simp [heldB]; omega
theorem timed_of {n : Int} (h0 : 0 ≤ n) (h1 : n ≤ 2000000000000) : timedB n = true := by simp [timedB]; omega
theorem aS_good {h E A now : Int} (h0 : 3 ≤ h) (h1 : h ≤ 60) (e0 : 0 ≤ E) (e1 : E ≤ 100000) (a0 : 0 ≤ A) (a1 : A ≤ 100000) (n0 : 0 ≤ now) (n1 : now ≤ 100000) : goodB (aS h E A) now = true := by
  have hh := held_of h0 h1
  simp [goodB, validB, aS, s4, s3, s0, newS, right_ex hh, hh, timed_of e0 (by omega), timed_of a0 (by omega), show timedB (-1) = true from rfl]
  exact ⟨n0, by omega⟩
theorem tick_no {h E A now : Int} (h0 : 3 ≤ h) (h1 : h ≤ 60) (e1 : E ≤ 100000) (a1 : A ≤ 100000) (n0 : 0 ≤ now) (n1 : now ≤ 100000) (he : now < E) (ha : now < A) : stepS (aS h E A) now (oneE 7) = (aS h E A, []) := by
  unfold stepS
  rw [if_pos (aS_good h0 h1 (by omega) e1 (by omega) a1 n0 n1)]
  have : ¬ E ≤ now := by omega
  have : ¬ A ≤ now := by omega
  simp [phaseS, lateS, oneE, tickS, aS, s4, s3, s0, newS, *]
theorem tick_send {h E A now : Int} (h0 : 3 ≤ h) (h1 : h ≤ 60) (e1 : E ≤ 100000) (a0 : 0 ≤ A) (n0 : 0 ≤ now) (n1 : now ≤ 100000) (he : now < E) (ha : A ≤ now) : stepS (aS h E A) now (oneE 7) = (aS h E (now + h / 3), [⟨1, aliveM, 0⟩]) := by
  unfold stepS
  rw [if_pos (aS_good h0 h1 (by omega) e1 (by omega) (by omega) n0 n1)]
  have h2 : ¬ E ≤ now := by omega
  have h3 : ¬ A = -1 := by omega
  simp [phaseS, lateS, oneE, tickS, aS, s4, s3, s0, newS, h2, h3, ha]
theorem heard_step {h E A now : Int} (h0 : 3 ≤ h) (h1 : h ≤ 60) (e0 : 0 ≤ E) (e1 : E ≤ 100000) (a0 : 0 ≤ A) (a1 : A ≤ 100000) (n0 : 0 ≤ now) (n1 : now ≤ 100000) : stepS (aS h E A) now aliveE = (aS h (now + h) A, []) := by
  unfold stepS
  rw [if_pos (aS_good h0 h1 e0 e1 a0 a1 n0 n1)]
  have h2 : 0 < h := by omega
  simp [phaseS, lateS, aliveE, aliveM, zeroMsg, messageS, heardS, aS, s4, s3, s0, newS, h2]
theorem aS_phase (h E A : Int) : (aS h E A).phase = 4 := rfl

theorem row_at' {w : World} {b off n : Nat} {cs : Array Value} (h : w.row? b off n = some cs) {i : Nat} (hi : i < n) : w.cell? ⟨b, off + i, none⟩ = cs[i]? := by
  unfold World.row? at h
  split at h
  · rename_i cc tt ff hbb
    have h2 := (sub?_some h).2 i hi
    simp only [World.cell?, hbb]
    simpa using h2
  · cases h
set_option maxRecDepth 100000 in
set_option maxHeartbeats 4000000 in
theorem fsmalive_any (hold ticks : Int) (W : World) : Calls Try.prog 8 #[.int .i64 hold, .int .i64 ticks] W fun e w' => e = .returned (.bool true) ∧ Below W.heap.size W w' := by
  obtain ⟨h, hh⟩ : ∃ h, hold % 58 = h - 3 := ⟨hold % 58 + 3, by omega⟩
  obtain ⟨T, hT⟩ : ∃ T, ticks % 301 = T := ⟨_, rfl⟩
  have h3 : 3 ≤ h := by omega
  have h60 : h ≤ 60 := by omega
  have hT0 : 0 ≤ T := by omega
  have hT1 : T ≤ 300 := by omega
  have HH := Lib.hid hh
  have HT := Lib.hid hT
  have HD := Lib.hid (held_of h3 h60)
  have hw : IntKind.i64.wrap (h - 3 + 3) = h := by rw [IntWalk.i64_in _ (by omega)]; omega
  have hw2 : h - 3 + 3 = h := by omega
  clear hh hT
  go_enter Try.func8, Try.ntmps8
  go_wp2_with (first
    | (go_at_call 10; refine (lives_any _).mono ?_; rintro e w1 ⟨rfl, hb1⟩; have HB1 := Lib.hid hb1; clear hb1)
    | (go_at_call_of 24 (Value.int .i64 58); refine (pick_val hold 58 (h - 3) HH.out _ (by omega) (by omega)).mono ?_; rintro e w' ⟨rfl, rfl⟩)
    | (go_at_call_of 24 (Value.int .i64 301); refine (pick_val ticks 301 T HT.out _ (by omega) (by omega)).mono ?_; rintro e w' ⟨rfl, rfl⟩)
    | (go_at_call 27; refine (established_any h HD.out _).mono ?_; rintro e w2 ⟨rfl, hb2⟩; have HB2 := Lib.hid (HB1.out.trans (hb2.mono HB1.out.size)); clear hb2))
  have hdiv : h.tdiv 3 = h / 3 := Int.tdiv_eq_ediv_of_nonneg (by omega)
  have hd1 : 1 ≤ h / 3 := by omega
  have hd2 : h / 3 ≤ 20 := by omega
  obtain ⟨gs, hgs⟩ : ∃ gs, w2.heap.size = gs := ⟨_, rfl⟩
  have hI : Below W.heap.size W (w2.alloc (.cells (s4 h).cs 30)) ∧ VarAt (w2.alloc (.cells (s4 h).cs 30)) gs (aS h (9 - 1 + h) (7 + h / 3)) := by
    refine ⟨HB2.out.alloc HB2.out.size _, ?_⟩
    have e : aS h (9 - 1 + h) (7 + h / 3) = s4 h := by rw [s4_aS (by omega)]; rfl
    rw [e]
    exact heap_here hgs.symm
  have hgsW : W.heap.size ≤ gs := by have := HB2.out.size; omega
  have HI := Lib.hid hI
  rw [hgs]
  clear hI hgs HB1 HB2
  go_loopw [6, 7] (fun last now wr => ∃ (L N : Int), last = .int .i64 L ∧ now = .int .i64 N ∧ 9 ≤ N ∧ N ≤ 9 + T ∧ 7 ≤ L ∧ L < N ∧ (N ≤ L + h / 3 ∨ (L = 7 ∧ N = 9)) ∧ Hid (Below W.heap.size W wr ∧ VarAt wr gs (aS h (N - 1 + h) (L + h / 3)))) (fun _ now _ => (9 + T - intOf now).toNat)
  case atStart => exact ⟨7, 9, rfl, rfl, by omega, by omega, by omega, by omega, .inr ⟨rfl, rfl⟩, HI⟩
  case round =>
    obtain ⟨L, N, rfl, rfl, n0, n1, l0, l1, hl, hJ⟩ := hrel
    by_cases hlt : N ≤ 8 + T
    · obtain ⟨hB, hV⟩ := hJ.out
      have hrow := hV.row
      go_wp2_with (go_at_call 13; refine Hid.out ?_)
      refine Lib.hid ?_
      by_cases hf : L + h / 3 ≤ N
      case neg =>
        refine (step_eq (aS h (N - 1 + h) (L + h / 3)) N (oneE 7) (aS h (N - 1 + h) (L + h / 3)) [] _ (tick_no h3 h60 (by omega) (by omega) (by omega) (by omega) (by omega) (by omega)) (by intro h'; simp [oneE] at h')).mono ?_
        rintro r wb ⟨Ao, co, rfl, hbb, hown, hrows⟩
        have hV1 := hV.below hbb
        have hB1 : Below W.heap.size W wb := hB.trans (hbb.mono hB.size)
        obtain ⟨wc, hwc⟩ : ∃ wc, wb.alloc (.cells (aS h (N - 1 + h) (L + h / 3)).cs 30) = wc := ⟨_, rfl⟩
        have hbc : Below wb.heap.size wb wc := by rw [← hwc]; exact (Below.refl _ _).alloc (Nat.le_refl _) _
        obtain ⟨gt, hgt⟩ : ∃ gt, wb.heap.size = gt := ⟨_, rfl⟩
        have hT2 : VarAt wc gt (aS h (N - 1 + h) (L + h / 3)) := by rw [← hwc]; exact heap_here hgt.symm
        have hV2 := hV1.below hbc
        have hB2 : Below W.heap.size W wc := hB1.trans (hbc.mono hB1.size)
        have hne : gs ≠ gt := by have := hV1.lt; omega
        have HWC := Lib.hid hwc
        have HGT := Lib.hid hgt
        have HVC := Lib.hid hV2
        have HTC := Lib.hid hT2
        have HBC := Lib.hid hB2
        clear hwc hgt hV hB hV1 hB1 hbb hbc hT2 hV2 hB2 hown hrows
        go_upto_region 9 with fail
        rw [HWC.out, HGT.out]
        have hrow9 := HTC.out.row
        have hlo9 := HVC.out.loose
        have hrG9 := HVC.out.row
        have HTd := Lib.hid (HTC.out.below (Below.refl wc.heap.size wc).drew)
        have HVd := Lib.hid (HVC.out.below (Below.refl wc.heap.size wc).drew)
        have HBd := Lib.hid HBC.out.drew
        go_region_law (first
          | (go_simp; go_at_call 15; refine (lalive_any _).mono ?_; rintro r wE ⟨rfl, hbE⟩; have HTE := Lib.hid (HTd.out.below hbE); have HVE := Lib.hid (HVd.out.below hbE); have HBE := Lib.hid (HBd.out.trans (hbE.mono HBd.out.size)); have hrowE := HTE.out.row; have hloE := HVE.out.loose; have hrGE := HVE.out.row; have HbE := Lib.hid hbE; clear hbE)
          | (go_simp; go_at_call 13; refine (step_eq (aS h (N - 1 + h) (L + h / 3)) N aliveE (aS h (N + h) (L + h / 3)) [] _ (heard_step h3 h60 (by omega) (by omega) (by omega) (by omega) (by omega) (by omega)) (by intro h'; simp [aS, s4, s3, s0, newS, aliveE, aliveM, zeroMsg])).mono ?_; rintro r wF ⟨A3, c3, rfl, hbF, _, _⟩; have HVF := Lib.hid (HVE.out.below hbF); have HBF := Lib.hid (HBE.out.trans (hbF.mono HBE.out.size)); have hloF := HVF.out.loose; have hrGF := HVF.out.row; have HbF := Lib.hid hbF; clear hbF))
        all_goals
          have hV4 : VarAt (wF.put gs 0 (aS h (N + h) (L + h / 3)).cs) gs (aS h (N + h) (L + h / 3)) := HVF.out.put
          have hc4 : (wF.put gs 0 (aS h (N + h) (L + h / 3)).cs).cell? ⟨gs, 0, none⟩ = some (.int .i64 4) := (hV4.cell 0).trans (by simp [aS_phase])
          have HB4 := Lib.hid (show Below W.heap.size W (wF.put gs 0 (aS h (N + h) (L + h / 3)).cs) from put_below HBF.out hgsW _ _)
          have HV4 := Lib.hid hV4
          clear hV4 hrow9 hlo9 hrG9 hrowE hloE hrGE hloF hrGF
          have HV5 := Lib.hid (show VarAt (wF.put gs 0 (aS h (N + h) (L + h / 3)).cs) gs (aS h (N + 1 - 1 + h) (L + h / 3)) by rw [show N + 1 - 1 + h = N + h by omega]; exact HV4.out)
          go_wp2_with fail
          all_goals exact ⟨⟨L, N + 1, rfl, rfl, by omega, by omega, by omega, by omega, by omega, HB4.out, HV5.out⟩, by simp [intOf]; omega⟩
      refine (step_eq (aS h (N - 1 + h) (L + h / 3)) N (oneE 7) (aS h (N - 1 + h) (N + h / 3)) [⟨1, aliveM, 0⟩] _ (tick_send h3 h60 (by omega) (by omega) (by omega) (by omega) (by omega) (by omega)) (by intro h'; simp [oneE] at h')).mono ?_
      rintro r wb ⟨Ao, co, rfl, hbb, hown, hrows⟩
      obtain ⟨ba, rfl, hba, hbl, hr⟩ := hrows (by simp)
      have hr0 := hr 0 ⟨1, aliveM, 0⟩ rfl
      have hgba : gs ≠ ba := by have := hV.lt; omega
      have hV1 := hV.below hbb
      have hB1 : Below W.heap.size W wb := hB.trans (hbb.mono hB.size)
      obtain ⟨wc, hwc⟩ : ∃ wc, wb.alloc (.cells (aS h (N - 1 + h) (N + h / 3)).cs 30) = wc := ⟨_, rfl⟩
      have hbc : Below wb.heap.size wb wc := by rw [← hwc]; exact (Below.refl _ _).alloc (Nat.le_refl _) _
      obtain ⟨gt, hgt⟩ : ∃ gt, wb.heap.size = gt := ⟨_, rfl⟩
      have hT2 : VarAt wc gt (aS h (N - 1 + h) (N + h / 3)) := by rw [← hwc]; exact heap_here hgt.symm
      have hV2 := hV1.below hbc
      have hB2 : Below W.heap.size W wc := hB1.trans (hbc.mono hB1.size)
      have hne : gs ≠ gt := by have := hV1.lt; omega
      have hbaT : ba ≠ gt := by omega
      have hrC : wc.row? ba 0 27 = some (Acn.cs ⟨1, aliveM, 0⟩) := (row?_of_heap (hbc.block ba hbl) _ _).trans (by simpa using hr0)
      have hbc2 : ba < wc.heap.size := Nat.lt_of_lt_of_le hbl hbc.size
      have HWC := Lib.hid hwc
      have HGT := Lib.hid hgt
      have HVC := Lib.hid hV2
      have HTC := Lib.hid hT2
      have HBC := Lib.hid hB2
      have HRC := Lib.hid hrC
      clear hwc hgt hV hB hV1 hB1 hbb hbc hT2 hV2 hB2 hown hrows
      clear hr hr0 hrC
      go_upto_region 9 with fail
      rw [HWC.out, HGT.out]
      have hrow9 := HTC.out.row
      have hlo9 := HVC.out.loose
      have hrG9 := HVC.out.row
      have HTd := Lib.hid (HTC.out.below (Below.refl wc.heap.size wc).drew)
      have HVd := Lib.hid (HVC.out.below (Below.refl wc.heap.size wc).drew)
      have HBd := Lib.hid HBC.out.drew
      go_region_law (first
        | (go_simp; go_at_call 15; refine (lalive_any _).mono ?_; rintro r wE ⟨rfl, hbE⟩; have HTE := Lib.hid (HTd.out.below hbE); have HVE := Lib.hid (HVd.out.below hbE); have HBE := Lib.hid (HBd.out.trans (hbE.mono HBd.out.size)); have hrowE := HTE.out.row; have hloE := HVE.out.loose; have hrGE := HVE.out.row; have HbE := Lib.hid hbE; clear hbE)
        | (go_simp; go_at_call 13; refine (step_eq (aS h (N - 1 + h) (N + h / 3)) N aliveE (aS h (N + h) (N + h / 3)) [] _ (heard_step h3 h60 (by omega) (by omega) (by omega) (by omega) (by omega) (by omega)) (by intro h'; simp [aS, s4, s3, s0, newS, aliveE, aliveM, zeroMsg])).mono ?_; rintro r wF ⟨A3, c3, rfl, hbF, _, _⟩; have HVF := Lib.hid (HVE.out.below hbF); have HBF := Lib.hid (HBE.out.trans (hbF.mono HBE.out.size)); have hloF := HVF.out.loose; have hrGF := HVF.out.row; have HbF := Lib.hid hbF; clear hbF))
      all_goals
        have hV4 : VarAt (wF.put gs 0 (aS h (N + h) (N + h / 3)).cs) gs (aS h (N + h) (N + h / 3)) := HVF.out.put
        have hc4 : (wF.put gs 0 (aS h (N + h) (N + h / 3)).cs).cell? ⟨gs, 0, none⟩ = some (.int .i64 4) := (hV4.cell 0).trans (by simp [aS_phase])
        have HB4 := Lib.hid (show Below W.heap.size W (wF.put gs 0 (aS h (N + h) (N + h / 3)).cs) from put_below HBF.out hgsW _ _)
        have HV4 := Lib.hid hV4
        have hrF : (wF.put gs 0 (aS h (N + h) (N + h / 3)).cs).row? ba 0 27 = some (Acn.cs ⟨1, aliveM, 0⟩) := (row?_of_heap (put_heap_other wF 0 _ hgba) _ _).trans ((row?_of_heap (HbF.out.block ba (Nat.lt_of_lt_of_le (show ba < wc.drew.heap.size from hbc2) HbE.out.size)) _ _).trans ((row?_of_heap (HbE.out.block ba (show ba < wc.drew.heap.size from hbc2)) _ _).trans HRC.out))
        have hcF0 := row_at' hrF (i := 0) (by omega)
        have hcF1 := row_at' hrF (i := 1) (by omega)
        simp only [Acn.at0, Acn.at1, Nat.zero_add] at hcF0 hcF1
        have hk4 : aliveM.kind = 4 := rfl
        rw [hk4] at hcF1
        clear hrF
        clear hV4 hrow9 hlo9 hrG9 hrowE hloE hrGE hloF hrGF
        have HV5 := Lib.hid (show VarAt (wF.put gs 0 (aS h (N + h) (N + h / 3)).cs) gs (aS h (N + 1 - 1 + h) (N + h / 3)) by rw [show N + 1 - 1 + h = N + h by omega]; exact HV4.out)
        have hlast : ¬ (N - L = h / 3) → L = 7 := by omega
        go_wp2_with fail
        all_goals exact ⟨⟨N, N + 1, rfl, rfl, by omega, by omega, by omega, by omega, by omega, HB4.out, HV5.out⟩, by simp [intOf]; omega⟩
    · go_wp2_with fail
      go_ret
      exact ⟨rfl, hJ.out.1⟩
end Go.Proofs.Ytfconglamkkcoaa
