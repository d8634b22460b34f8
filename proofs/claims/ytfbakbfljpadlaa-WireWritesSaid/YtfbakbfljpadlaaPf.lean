import Derived.Test.YtfbakbfljpadlaaPe
import Derived.Test.YtfbakbfljpadlaaBc
/- The walk of WireWrites. -/
namespace Go.Proofs.Ytfbakbfljpadlaa
open Go.RowKit Go.Maps
set_option linter.unusedSimpArgs false
set_option linter.unusedVariables false
attribute [local go_sem ↓] Go.wp_at_zero Go.wp_at_succ

theorem writes_bad (lim : Int) (A : Option Addr) (m c : Nat) (l : List ActV) (W : World) (hl : Acts W A m l) (hm2 : m ≤ 9223372036854775807) (hlim : lim < 0 ∨ 65536 < lim) :
    Calls Try.prog 6 #[.int .i64 lim, .slice A m c] W fun e w' => e = .returned (.bool true) ∧ Below W.heap.size W w' := by
  have HL := Lib.hid hl
  clear hl
  have HLIM := Lib.hid hlim
  clear hlim
  go_enter Try.func6, Try.ntmps6
  go_wp2_with (first
    | (go_at_call 9; refine (lives_any _).mono ?_; rintro e w1 ⟨rfl, hb1⟩; have HB1 := Lib.hid hb1; clear hb1)
    | (go_at_call 29; refine (light_any _ _ _ l _ (HL.out.below HB1.out) hm2).mono ?_; rintro e w' ⟨b, rfl, rfl, hb⟩; have HBB := Lib.hid hb; clear hb; cases b))
  · go_ret
    exact ⟨rfl, HB1.out⟩
  · go_wp2_with (first
      | (go_at_call 30; refine (NewWriter_bad lim _ HLIM.out).mono ?_; rintro e w' ⟨rfl, rfl⟩)
      | (go_at_call 31; refine (NewWriterF_bad lim _ HLIM.out).mono ?_; rintro e w' ⟨rfl, rfl⟩))
    go_loopw [9] (fun i wr => i = .int .i64 0 ∧ w1 = wr) (fun i _ => 0)
    case atStart => exact ⟨rfl, rfl⟩
    case round =>
      obtain ⟨rfl, rfl⟩ := hrel
      by_cases hlt : 0 < m
      · go_wp2_with fail
        go_ret
        exact ⟨rfl, HB1.out⟩
      · go_wp2_with fail
        go_ret
        exact ⟨rfl, HB1.out⟩

set_option maxRecDepth 100000 in
set_option maxHeartbeats 4000000 in
theorem writes_any (lim : Int) (A : Option Addr) (m c : Nat) (l : List ActV) (W : World) (hl : Acts W A m l) (hm2 : m ≤ 9223372036854775807) (hlim0 : 0 ≤ lim) (hlim1 : lim ≤ 65536) :
    Calls Try.prog 6 #[.int .i64 lim, .slice A m c] W fun e w' => e = .returned (.bool true) ∧ Below W.heap.size W w' := by
  have HL := Lib.hid hl
  clear hl
  go_enter Try.func6, Try.ntmps6
  go_wp2_with (first
    | (go_at_call 9; refine (lives_any _).mono ?_; rintro e w1 ⟨rfl, hb1⟩; have HB1 := Lib.hid hb1; clear hb1)
    | (go_at_call 29; refine (light_any _ _ _ l _ (HL.out.below HB1.out) hm2).mono ?_; rintro e w' ⟨b, rfl, rfl, hb⟩; have HBB := Lib.hid hb; clear hb; cases b))
  · go_ret
    exact ⟨rfl, HB1.out⟩
  go_wp2_with (first
    | (go_at_call 30; refine (NewWriter_any lim _ hlim0 hlim1).mono ?_; rintro e w2 ⟨g, mm, rfl, h2, hb2⟩; have H2 := Lib.hid h2; have HB2 := Lib.hid hb2; clear h2 hb2)
    | (go_at_call 31; refine (NewWriterF_any lim _ hlim0 hlim1).mono ?_; rintro e w3 ⟨gf, rfl, h3, hb3⟩; have H3 := Lib.hid h3; have HB3 := Lib.hid hb3; clear h3 hb3))
  have HI := Lib.hid (both_new HB1.out H2.out HB2.out H3.out HB3.out)
  obtain ⟨B, hB⟩ : ∃ B, w1.heap.size = B := ⟨_, rfl⟩
  rw [hB] at HI
  clear hB H2 HB2 H3 HB3 HB1
  have hm60 : m ≤ 60 := (HBB.out trivial).1
  have HB300 := Lib.hid (HBB.out trivial).2
  clear HBB
  go_loopw [9] (fun i wr => ∃ (k : Nat) (r : Wr) (rf : Wf), k ≤ m ∧ i = .int .i64 k ∧ Hid (Both W wr B g gf r rf ∧ Agree r rf k)) (fun i _ => m - (intOf i).toNat)
  case atStart => exact ⟨0, _, _, by omega, rfl, HI⟩
  case round =>
    obtain ⟨k, r, rf, hk, rfl, hI⟩ := hrel
    by_cases hlt : k < m
    · obtain ⟨b0, o0, rfl, hb0, hc0⟩ := (HL.out.below hI.out.1.below).2.1 (by omega)
      obtain ⟨x, hx⟩ : ∃ x, l[k]? = some x := ⟨l[k]'(by rw [HL.out.1]; exact hlt), List.getElem?_eq_getElem _⟩
      obtain ⟨hcx, hcp, hcn, hcb⟩ := hc0 k x hx
      have i0 : (0 : Int) ≤ (k : Int) := by omega
      have i1 : (k : Int) < (m : Int) := by omega
      obtain ⟨y, hy⟩ : ∃ y : Nat, (y : Int) = x.kind % 10 := ⟨(x.kind % 10).toNat, by omega⟩
      have hy10 : y < 10 := by omega
      have HY := Lib.hid hy
      have HX := Lib.hid (HL.out.2.2 x (List.mem_of_getElem? hx))
      have hx300 := HB300.out x (List.mem_of_getElem? hx)
      clear hx hy hc0
      go_wp2_with (go_at_call 11; refine Hid.out ?_)
      obtain ⟨w5, hw5⟩ : ∃ w5, wr.alloc (.cells #[.int .i64 x.kind, .int .i64 x.pos, .int .u64 x.n, .slice x.b.a x.b.n x.b.c] 63) = w5 := ⟨_, rfl⟩
      obtain ⟨b1, hb1⟩ : ∃ b1, wr.heap.size = b1 := ⟨_, rfl⟩
      have hA5 : w5.heap[b1]? = some (.cells #[.int .i64 x.kind, .int .i64 x.pos, .int .u64 x.n, .slice x.b.a x.b.n x.b.c] 63 (0, 0)) := by rw [← hw5]; exact heap_here hb1.symm
      have h5 : Both W w5 B g gf r rf := hI.out.1.later (by rw [← hw5]; exact (Below.refl _ _).alloc (Nat.le_refl _) _)
      have H5 := Lib.hid (h5.later (Below.refl w5.heap.size w5).drew)
      have HN5 := Lib.hid h5
      have HA5 := Lib.hid hA5
      have HAG := Lib.hid hI.out.2
      have hcell : ∀ (w : World), w.heap[b1]? = some (.cells #[.int .i64 x.kind, .int .i64 x.pos, .int .u64 x.n, .slice x.b.a x.b.n x.b.c] 63 (0, 0)) → w.cell? ⟨b1, 0, none⟩ = some (.int .i64 x.kind) ∧ w.cell? ⟨b1, 1, none⟩ = some (.int .i64 x.pos) ∧ w.cell? ⟨b1, 2, none⟩ = some (.int .u64 x.n) ∧ w.cell? ⟨b1, 3, none⟩ = some (.slice x.b.a x.b.n x.b.c) := fun w h => by simp [World.cell?, h]
      have HC := Lib.hid hcell
      have hq0 := (hcell w5 hA5).1
      have hq1 := (hcell w5 hA5).2.1
      have hq2 := (hcell w5 hA5).2.2.1
      have hq3 := (hcell w5 hA5).2.2.2
      have hcntr : r.cnt ≤ 1000000 := by have := hI.out.2.cnt; omega
      have hcntf : rf.ms.length ≤ 1000000 := by have := hI.out.2.len; omega
      rw [hw5, hb1]
      clear hw5 hb1 hA5 h5 hcell hcx hcp hcn hcb hI
      refine Lib.hid ?_
      refine (pick_val x.kind 10 y HY.out.symm _ (by omega) (by omega)).mono ?_
      rintro e w' ⟨rfl, rfl⟩
      have hcase : y < 6 ∨ y = 6 ∨ y = 7 ∨ 8 ≤ y := by omega
      rcases hcase with hy6 | rfl | rfl | hy8
      case' inl =>
        go_upto_region 17 with fail
        refine wp_region_held_drew (S := fun w' => w'.cell? ⟨b1, 2, none⟩ = some (.int .u64 x.n)) (by kernel_rfl) hq2 (fun hHeld => ?_)
        (refine take_list (i := 0) (v := ?_) rfl (by kernel_rfl) (by kernel_rfl) (by kernel_rfl) (fun _ _ _ h => h) (Or.inl ⟨by rfl, ?_⟩) (by assumption) ?_; rotate_left; (focus (intro w hSw; (try dsimp only at hSw); go_simp; (try with_reducible rfl))); (try simp only [Act.put, List.setIfInBounds_toArray, List.set_cons_zero, List.set_cons_succ]))
        (refine take_list (i := 1) (v := ?_) rfl (by kernel_rfl) (by kernel_rfl) (by kernel_rfl) (fun _ _ _ h => h) (Or.inl ⟨by rfl, ?_⟩) (by assumption) ?_; rotate_left; (focus (intro w hSw; (try dsimp only at hSw); go_simp; (try with_reducible rfl))); (try simp only [Act.put, List.setIfInBounds_toArray, List.set_cons_zero, List.set_cons_succ]))
        (refine take_list (i := 2) (v := ?_) rfl (by kernel_rfl) (by kernel_rfl) (by kernel_rfl) (fun _ _ _ h => h) (Or.inl ⟨by rfl, ?_⟩) (by assumption) ?_; rotate_left; (focus (intro w hSw; (try dsimp only at hSw); go_simp; (try with_reducible rfl))); (try simp only [Act.put, List.setIfInBounds_toArray, List.set_cons_zero, List.set_cons_succ]))
        (refine take_list (i := 3) (v := ?_) rfl (by kernel_rfl) (by kernel_rfl) (by kernel_rfl) (fun _ _ _ h => h) (Or.inl ⟨by rfl, ?_⟩) (by assumption) ?_; rotate_left; (focus (intro w hSw; (try dsimp only at hSw); go_simp; (try with_reducible rfl))); (try simp only [Act.put, List.setIfInBounds_toArray, List.set_cons_zero, List.set_cons_succ]))
        (refine take_list (i := 5) (v := ?_) rfl (by kernel_rfl) (by kernel_rfl) (by kernel_rfl) (fun _ _ _ h => h) (Or.inl ⟨by rfl, ?_⟩) (by assumption) ?_; rotate_left; (focus (intro w hSw; (try dsimp only at hSw); go_simp; (try with_reducible rfl))); (try simp only [Act.put, List.setIfInBounds_toArray, List.set_cons_zero, List.set_cons_succ]))
        (refine take_list (i := 6) (v := ?_) rfl (by kernel_rfl) (by kernel_rfl) (by kernel_rfl) (fun _ _ _ h => h) (Or.inl ⟨by rfl, ?_⟩) (by assumption) ?_; rotate_left; (focus (intro w hSw; (try dsimp only at hSw); go_simp; (try with_reducible rfl))); (try simp only [Act.put, List.setIfInBounds_toArray, List.set_cons_zero, List.set_cons_succ]))
        (refine take_list (i := 7) (v := ?_) rfl (by kernel_rfl) (by kernel_rfl) (by kernel_rfl) (fun _ _ _ h => h) (Or.inl ⟨by rfl, ?_⟩) (by assumption) ?_; rotate_left; (focus (intro w hSw; (try dsimp only at hSw); go_simp; (try with_reducible rfl))); (try simp only [Act.put, List.setIfInBounds_toArray, List.set_cons_zero, List.set_cons_succ]))
        (refine take_list (i := 9) (v := ?_) rfl (by kernel_rfl) (by kernel_rfl) (by kernel_rfl) (fun _ _ _ h => h) (Or.inl ⟨by rfl, ?_⟩) (by assumption) ?_; rotate_left; (focus (intro w hSw; (try dsimp only at hSw); go_simp; (try with_reducible rfl))); (try simp only [Act.put, List.setIfInBounds_toArray, List.set_cons_zero, List.set_cons_succ]))
        refine wpAnyH_ready (rs := [4]) (by kernel_rfl) (by simp) ?_
        refine AllReadyH.cons rfl (fun K hK => ?_) AllReadyH.nil
        go_simp
        go_at_call 32
        refine (lput_any y hy6 r B g _ x.n H5.out.wr H5.out.Bw).mono ?_
        rintro e w6 hp
        obtain ⟨rfl, b6, hP⟩ := putP hp
        have H6 := Lib.hid (H5.out.turnP hP)
        have HA6 := Lib.hid (H5.out.keepP hP HA5.out (by decide) (by decide))
        have hq6 := (HC.out _ HA6.out).2.2.1
        clear hp hP
        refine hK.out _ _ hq6 (fun hHeld => ?_)
        clear hK K
        try simp only [Act.put, List.setIfInBounds_toArray, List.set_cons_zero, List.set_cons_succ]
        refine wpAnyH_ready (rs := [8]) (by kernel_rfl) (by simp) ?_
        refine AllReadyH.cons rfl (fun K hK => ?_) AllReadyH.nil
        go_simp
        go_at_call 24
        refine (sizes_any _).mono ?_
        rintro e w7 ⟨H, rfl, hHl, hH, hb7⟩
        have hHc := hH y hy6
        have H7 := Lib.hid (H6.out.later hb7)
        have hq7 : w7.cell? ⟨b1, 2, none⟩ = some (.int .u64 x.n) := (hb7.cell (p := ⟨b1, 2, none⟩) (Array.getElem?_eq_some_iff.1 HA6.out).1).trans hq6
        have HA7 := Lib.hid ((hb7.block b1 (Array.getElem?_eq_some_iff.1 HA6.out).1).trans HA6.out)
        clear hb7 hH
        refine hK.out _ _ hq7 (fun hHeld => ?_)
        clear hK K
        try simp only [Act.put, List.setIfInBounds_toArray, List.set_cons_zero, List.set_cons_succ]
        (refine take_list (i := 10) (v := ?_) rfl (by kernel_rfl) (by kernel_rfl) (by kernel_rfl) (fun _ _ _ h => h) (Or.inl ⟨by rfl, ?_⟩) (by assumption) ?_; rotate_left; (focus (intro w hSw; (try dsimp only at hSw); go_simp; (try with_reducible rfl))); (try simp only [Act.put, List.setIfInBounds_toArray, List.set_cons_zero, List.set_cons_succ]))
        refine wpAnyH_ready (rs := [11]) (by kernel_rfl) (by simp) ?_
        refine AllReadyH.cons rfl (fun K hK => ?_) AllReadyH.nil
        go_simp
        refine hK.out _ _ hq7 (fun hHeld => ?_)
        clear hK K
        try simp only [Act.put, List.setIfInBounds_toArray, List.set_cons_zero, List.set_cons_succ]
        refine wpAnyH_ready (rs := [12]) (by kernel_rfl) (by simp) ?_
        refine AllReadyH.cons rfl (fun K hK => ?_) AllReadyH.nil
        go_simp
        go_at_call 33
        refine (PutF_any rf B gf _ x.n (sz y) H7.out.wf (sz_bd y).1 (sz_bd y).2 H7.out.Bw).mono ?_
        rintro e w8 hp
        obtain ⟨rfl, b8, hF⟩ := putF HAG.out hp
        have HZ := Lib.hid (both_step (j := k + 1) H7.out hF (HAG.out.more b6 b8 _) (by omega))
        have hq8 := (HC.out _ (H7.out.keepF hF (HA7.out) (by decide) (by decide) (by decide))).2.2.1
        clear hp hF
        refine hK.out _ _ hq8 (fun hHeld => ?_)
        clear hK K
        try simp only [Act.put, List.setIfInBounds_toArray, List.set_cons_zero, List.set_cons_succ]
        (refine take_list (i := 13) (v := ?_) rfl (by kernel_rfl) (by kernel_rfl) (by kernel_rfl) (fun _ _ _ h => h) (Or.inl ⟨by rfl, ?_⟩) (by assumption) ?_; rotate_left; (focus (intro w hSw; (try dsimp only at hSw); go_simp; (try with_reducible rfl))); (try simp only [Act.put, List.setIfInBounds_toArray, List.set_cons_zero, List.set_cons_succ]))
        (refine take_list (i := 14) (v := ?_) rfl (by kernel_rfl) (by kernel_rfl) (by kernel_rfl) (fun _ _ _ h => h) (Or.inl ⟨by rfl, ?_⟩) (by assumption) ?_; rotate_left; (focus (intro w hSw; (try dsimp only at hSw); go_simp; (try with_reducible rfl))); (try simp only [Act.put, List.setIfInBounds_toArray, List.set_cons_zero, List.set_cons_succ]))
        refine wpAnyH_done (by kernel_rfl) ?_ _
        obtain ⟨C, hC⟩ : ∃ C, codeOf (endOf r.lim r.bs.length x.n (sz y)) = C := ⟨_, rfl⟩
        obtain ⟨X, hX⟩ : ∃ X : Int, 0 = X := ⟨_, rfl⟩
        obtain ⟨wz, hwz⟩ : ∃ wz, w8 = wz := ⟨_, rfl⟩
        obtain ⟨r', hr'⟩ : ∃ r', (r.more b6 (outOf (endOf r.lim r.bs.length x.n (sz y)) (be x.n (sz y)))) = r' := ⟨_, rfl⟩
        obtain ⟨rf', hrf'⟩ : ∃ rf', (rf.more b8 (outOf (endOf r.lim r.bs.length x.n (sz y)) (be x.n (sz y)))) = rf' := ⟨_, rfl⟩
        rw [hwz, hr', hrf'] at HZ
        rw [hwz, hC]
        clear hC hX hwz hr' hrf' hq0 hq1 hq2 hq3 hq6 hq7 hq8 HA6 HA7 H6 H7 hHc hHl
        go_wp2_with (go_at_call 40; refine Hid.out ?_)
      case' inr.inl =>
        go_upto_region 19 with fail
        go_region_held3 (fun w' => w'.cell? ⟨b1, 3, none⟩ = some (.slice x.b.a x.b.n x.b.c)) (first | (go_keep; done) | assumption)
          (first
            | (go_at_call 20; refine (Own_any x.b.a x.b.n x.b.c x.bs _ (HX.out.2.1.below H5.out.below) (by omega)).mono ?_; rintro e w6 ⟨v6, rfl, hown6, hb6⟩; obtain ⟨A6, c6, rfl, hc6, hby6, hfr6⟩ := isby_of_owns hown6; have HBY6 := Lib.hid hby6; have H6 := Lib.hid (H5.out.later hb6); have HA6 := Lib.hid ((hb6.block b1 (Array.getElem?_eq_some_iff.1 HA5.out).1).trans HA5.out); have hq6 := (HC.out _ HA6.out).2.2.2; clear hown6 hb6 hby6 hfr6)
            | (go_at_call 34; refine (Bytes_put r B g A6 _ c6 x.bs _ H6.out.wr HBY6.out (by omega) H6.out.Bw).mono ?_; rintro e w7 hp; obtain ⟨rfl, b7, hP⟩ := bytesP hp; have H7 := Lib.hid (H6.out.turnP hP); have HA7 := Lib.hid (H6.out.keepP hP HA6.out (by decide) (by decide)); have hq7 := (HC.out _ HA7.out).2.2.2; clear hp hP)
            | (go_at_call 35; refine (BytesF_put rf B gf x.b.a x.b.n x.b.c x.bs _ H7.out.wf (HX.out.2.1.below H7.out.below) (by omega) H7.out.Bw).mono ?_; rintro e w8 hp; obtain ⟨rfl, b8, hF⟩ := bytesF HAG.out hp; have HZ := Lib.hid (both_step (j := k + 1) H7.out hF (HAG.out.more b7 b8 _) (by omega)); have hq8 := (HC.out _ (H7.out.keepF hF HA7.out (by decide) (by decide) (by decide))).2.2.2; clear hp hF))
        obtain ⟨C, hC⟩ : ∃ C, codeOf (bytesEnd r.lim r.bs.length x.bs.length) = C := ⟨_, rfl⟩
        obtain ⟨X, hX⟩ : ∃ X : Int, 0 = X := ⟨_, rfl⟩
        obtain ⟨wz, hwz⟩ : ∃ wz, w8 = wz := ⟨_, rfl⟩
        obtain ⟨r', hr'⟩ : ∃ r', (r.more b7 (outOf (bytesEnd r.lim r.bs.length x.bs.length) x.bs)) = r' := ⟨_, rfl⟩
        obtain ⟨rf', hrf'⟩ : ∃ rf', (rf.more b8 (outOf (bytesEnd r.lim r.bs.length x.bs.length) x.bs)) = rf' := ⟨_, rfl⟩
        rw [hwz, hr', hrf'] at HZ
        rw [hwz, hC]
        clear hC hX hwz hr' hrf' hq0 hq1 hq2 hq3 hq6 hq7 hq8 HA6 HA7 H6 H7
        go_wp2_with (go_at_call 40; refine Hid.out ?_)
      case' inr.inr.inl =>
        go_wp2_with (first
          | (go_at_call 36; refine (Mark_any r B g _ HN5.out.wr HN5.out.Bw hcntr).mono ?_; rintro e w6 hp; obtain ⟨X, C, rfl, r', hP, hF⟩ := mark_both (gf := gf) HAG.out hp; have HF := Lib.hid hF; have H6 := Lib.hid (HN5.out.turnP hP); clear hp hP hF)
          | (go_at_call 37; refine (MarkF_any rf B gf _ H6.out.wf H6.out.Bw hcntf).mono ?_; rintro e wz hp; obtain ⟨rfl, rf', hFT, hag⟩ := HF.out _ _ _ hp; have HZ := Lib.hid (both_step (j := k + 1) H6.out hFT hag (by omega)); clear hp hFT hag)
          | (go_at_call 40; refine Hid.out ?_))
        clear hq0 hq1 hq2 hq3 HF H6
      case' inr.inr.inr =>
        have hy6 : ¬ y < 6 := by omega
        have hy7 : ((y : Int) == 6) = false := by simp; omega
        have hy9 : ((y : Int) == 7) = false := by simp; omega
        obtain ⟨C, r', hPc, hFc⟩ := patch_both HAG.out (gf := gf) (by omega) H5.out.wr H5.out.Bw x.pos HX.out.2.2.2.2
        have HPC := Lib.hid hPc
        have HFC := Lib.hid hFc
        clear hPc hFc
        go_upto_region 15 with fail
        go_region_held3 (fun w' => w'.cell? ⟨b1, 1, none⟩ = some (.int .i64 x.pos)) (first | (go_keep; done) | assumption)
          (first
            | (go_at_call 38; refine HPC.out.mono ?_; rintro e w6 ⟨rfl, hP⟩; have H6 := Lib.hid (H5.out.turnP hP); have HA6 := Lib.hid (H5.out.keepP hP HA5.out (by decide) (by decide)); have hq6 := (HC.out _ HA6.out).2.1; clear hP)
            | (go_at_call 39; refine (HFC.out _ H6.out.wf H6.out.Bw).mono ?_; rintro e wz ⟨rfl, rf', hFT, hag⟩; have HZ := Lib.hid (both_step (j := k + 1) H6.out hFT hag (by omega)); have hq8 := (HC.out _ (H6.out.keepF hFT HA6.out (by decide) (by decide) (by decide))).2.1; clear hFT hag))
        obtain ⟨X, hX⟩ : ∃ X : Int, 0 = X := ⟨_, rfl⟩
        clear hX hy6 hy7 hy9 HPC HFC H6 HA6 hq0 hq1 hq2 hq3 hq6 hq8
        go_wp2_with (go_at_call 40; refine Hid.out ?_)
      all_goals
        refine Lib.hid ?_
        clear H5 HN5 HA5 HAG HC hcntr hcntf HX hx300 HY
        refine (Out_any r' B g _ HZ.out.1.wr).mono ?_
        rintro e w9 ⟨v9, rfl, hown9, hb9⟩
        obtain ⟨A9, c9, rfl, hc9, hby9, hfr9⟩ := isby_of_owns hown9
        obtain ⟨n9, hn9⟩ : ∃ n9, r'.bs.length = n9 := ⟨_, rfl⟩
        rw [hn9] at hown9 hby9 hc9 ⊢
        have hnf : rf'.b.n = n9 := by rw [← HZ.out.1.wf.n, HZ.out.2.bs, hn9]
        have H9 := Lib.hid (HZ.out.1.later hb9)
        have hcf := H9.out.wf.cell 0
        simp [Wf.cs, Wf.v] at hcf
        rw [hnf] at hcf
        have hbyf : IsBy w9 rf'.b.a n9 r'.bs := by
          obtain ⟨A, c, hv, _, _, hh, _⟩ := held_of_owns H9.out.wf.own
          simp [Wf.v] at hv
          rw [hv.1, ← HZ.out.2.bs]
          exact ⟨hh, by rw [HZ.out.2.bs]; exact hn9⟩
        have hsm : n9 ≤ 1000000 := by have := HZ.out.1.wr.len; have := HZ.out.1.wr.lim1; omega
        have HBYF := Lib.hid hbyf
        have HBY9 := Lib.hid hby9
        have HO9 := Lib.hid hown9
        have HB9 := Lib.hid hb9
        have HN9 := Lib.hid hn9
        have hXX : (X != X) = false := by simp
        have hCC : (C != C) = false := by simp
        have hnn : ((n9 : Int) != (n9 : Int)) = false := by simp
        clear hown9 hb9 hby9 hbyf hfr9 hnf hn9
        go_upto_region 24 with fail
        go_region_held3 (fun w' => w'.cell? ⟨gf, 0, none⟩ = some (.slice rf'.b.a n9 rf'.b.c)) (first | (go_keep; done) | assumption)
          (first
            | (go_at_call 41; refine (Len_any r' B g _ (H9.out.wr.below ((Below.refl _ _).drew))).mono ?_; rintro e w' ⟨rfl, rfl⟩; rw [HN9.out])
            | (go_at_call 19; refine (Same_any A9 rf'.b.a n9 n9 c9 rf'.b.c r'.bs r'.bs _ (HBY9.out.below ((Below.refl _ _).drew)) (HBYF.out.below ((Below.refl _ _).drew)) hsm hsm).mono ?_; rintro e w10 ⟨rfl, hb10⟩; have HB10 := Lib.hid hb10; have hcf10 : w10.cell? ⟨gf, 0, none⟩ = some (.slice rf'.b.a n9 rf'.b.c) := (hb10.cell (p := ⟨gf, 0, none⟩) H9.out.wf.lt).trans hcf; clear hb10))
        clear hXX hCC hnn hcf
        have hI9 : Both W w10 B g gf r' rf' ∧ w10.ownsRow wz.heap.size 5 1 (.slice A9 n9 c9) n9 (r'.bs.map byv) :=
          ⟨H9.out.later (((Below.refl w9.heap.size w9).drew).trans HB10.out), owns_below HO9.out (((Below.refl w9.heap.size w9).drew).trans HB10.out)⟩
        have HI9 := Lib.hid hI9
        clear hI9 hcf10
        go_wp2_with fail
        go_loopw [17] (fun i wr => ∃ j : Nat, j ≤ n9 ∧ i = .int .i64 j ∧ Hid (Both W wr B g gf r' rf' ∧ ∃ xs, wr.ownsRow wz.heap.size 5 1 (.slice A9 n9 c9) n9 xs)) (fun i _ => n9 - (intOf i).toNat)
        case atStart => exact ⟨0, by omega, rfl, HI9.out.1, _, HI9.out.2⟩
        case round =>
          obtain ⟨j, hj, rfl, hJ⟩ := hrel
          by_cases hlt9 : j < n9
          · obtain ⟨xs, hown⟩ := hJ.out.2
            have hlen := hown.1
            obtain ⟨gI, hgI, hA9⟩ : ∃ gI, wz.heap.size ≤ gI ∧ A9 = some ⟨gI, 0, none⟩ := by
              rcases hown.2 with ⟨_, h2⟩ | ⟨gI, cap, cur, h1, h2, _⟩
              · omega
              · simp at h1
                exact ⟨gI, h2, h1.1⟩
            subst hA9
            obtain ⟨u, hu⟩ : ∃ u, xs[j]? = some u := ⟨xs[j]'(by omega), List.getElem?_eq_getElem _⟩
            have hcell := (hown.cellAt j (by omega)).trans hu
            have hfz := hown.frozenAt j
            have HJ2 := Lib.hid (show Both W (wr.setCell ⟨gI, j, none⟩ (.int .u8 77)) B g gf r' rf' ∧ ∃ xs, (wr.setCell ⟨gI, j, none⟩ (.int .u8 77)).ownsRow wz.heap.size 5 1 (.slice (some ⟨gI, 0, none⟩) n9 c9) n9 xs from ⟨HZ.out.1.young hJ.out.1 hgI _, _, (hown.stored j (.int .u8 77)).1⟩)
            have j0 : (0 : Int) ≤ (j : Int) := by omega
            have j1 : (j : Int) < (n9 : Int) := by omega
            clear hown hu hlen
            go_wp2_with fail
            go_roundw
            case rel => exact ⟨j + 1, by omega, by go_num, HJ2⟩
            case measure => simp [intOf]; omega
          · go_wp2_with fail
            go_roundw
            case rel => exact ⟨k + 1, r', rf', by omega, by go_num, hJ.out.1, HZ.out.2⟩
            case measure => simp [intOf]; omega
    · go_wp2_with fail
      go_ret
      exact ⟨rfl, hI.out.1.below⟩
end Go.Proofs.Ytfbakbfljpadlaa
