import Derived.Test.YtfconglamkkcoaaN
import Derived.StillTailTactics
/- An established session; the chapter's examples. -/
namespace Go.Proofs.Ytfconglamkkcoaa
open Go.RowKit
set_option linter.unusedSimpArgs false
set_option linter.unusedVariables false

/-- The variable of a session, and the result's, in a call. -/
structure EsAt (W w : World) (r0 gs : Nat) (s : Ses) : Prop where
  below : Below r0 W w
  res : VarAt w r0 zeroSes
  var : VarAt w gs s
  ne : r0 < gs
section
variable {W w w' : World} {r0 gs : Nat} {s s' : Ses}
theorem EsAt.later (h : EsAt W w r0 gs s) (hb : Below w.heap.size w w') : EsAt W w' r0 gs s := ⟨h.below.trans (hb.mono (by have := h.res.lt; omega)), h.res.below hb, h.var.below hb, h.ne⟩
theorem EsAt.put (h : EsAt W w r0 gs s) : EsAt W (w.put gs 0 s'.cs) r0 gs s' := ⟨put_below h.below (Nat.le_of_lt h.ne) _ _, (put_heap_other w 0 s'.cs (by have := h.ne; omega)).trans h.res, h.var.put, h.ne⟩
theorem EsAt.step (h : EsAt W w r0 gs s) (hb : Below w.heap.size w w') : EsAt W (w'.put gs 0 s'.cs) r0 gs s' := (h.later hb).put
end
set_option maxRecDepth 100000 in
set_option maxHeartbeats 2000000 in
theorem established_any (h : Int) (hh : heldB h = true) (W : World) : Calls Try.prog 27 #[.int .i64 h] W fun e w' => e = .returned (.agg (s4 h).cs) ∧ Below W.heap.size W w' := by
  have hrr := right_ex hh false
  have HR := Lib.hid hrr
  have H1 := Lib.hid (ex01 hh)
  have H2 := Lib.hid (ex12 hh)
  have H3 := Lib.hid (ex23 hh)
  have H4 := Lib.hid (ex34 hh)
  clear hh hrr
  go_enter Try.func27, Try.ntmps27
  go_wp2_with (first
    | (go_at_call 12; refine (config_any h false _).mono ?_; rintro r w1 ⟨rfl, hb1⟩; have HB1 := Lib.hid hb1; clear hb1)
    | (go_at_call 11; refine (new_good _ _ HR.out).mono ?_; rintro r w2 ⟨rfl, hb2⟩; have HB2 := Lib.hid (HB1.out.trans (hb2.mono HB1.out.size)); clear hb2)
    | (go_at_call 13; refine Hid.out ?_))
  obtain ⟨r0, hr0⟩ : ∃ r0, W.heap.size = r0 := ⟨_, rfl⟩
  obtain ⟨gs, hgs⟩ : ∃ gs, w2.heap.size = gs := ⟨_, rfl⟩
  have hb2 := HB2.out
  have he0 : EsAt W (w2.alloc (.cells (newS (exCfg h false)).cs 30)) r0 gs (s0 h false) := by
    have hz : (W.alloc (.cells zeroSes.cs 30)).heap[W.heap.size]? = some (.cells zeroSes.cs 30 (0, 0)) := heap_here rfl
    have hlt : r0 < w2.heap.size := by have := hb2.size; simp at this; omega
    subst hr0
    refine ⟨?_, ?_, heap_here hgs.symm, by omega⟩
    · exact (((Below.refl _ _).alloc (Nat.le_refl _) _).trans (hb2.mono (by simp))).alloc (by omega) _
    · exact (Below.heap_alloc _ _ _ hlt).trans ((hb2.block _ (by simp)).trans hz)
  rw [hr0, hgs]
  obtain ⟨wA, hwA⟩ : ∃ wA, w2.alloc (.cells (newS (exCfg h false)).cs 30) = wA := ⟨_, rfl⟩
  rw [hwA] at he0 ⊢
  have HR0 := Lib.hid hr0
  clear hwA hb2 HB1 HB2 hr0 hgs
  refine Lib.hid ?_
  refine (step_eq (s0 h false) 0 (oneE 1) (s1 h) _ _ H1.out (by intro h; simp [oneE] at h)).mono ?_
  rintro r wb ⟨A, c, rfl, hb, _, _⟩
  have hrow := (he0.later hb).var.row
  have hlo := (he0.later hb).var.loose
  have he1 : EsAt W (wb.put gs 0 (s1 h).cs) r0 gs (s1 h) := he0.step hb
  have hrow2 := he1.var.row
  have HE1 := Lib.hid he1
  clear hb he0 he1
  go_wp2_with (go_at_call 13; refine Hid.out ?_)
  refine Lib.hid ?_
  refine (step_eq (s1 h) 6 (oneE 3) (s2 h) _ _ H2.out (by intro h; simp [oneE] at h)).mono ?_
  rintro r wc ⟨A2, c2, rfl, hb, _, _⟩
  have hrow3 := (HE1.out.later hb).var.row
  have hlo3 := (HE1.out.later hb).var.loose
  have he2 : EsAt W (wc.put gs 0 (s2 h).cs) r0 gs (s2 h) := HE1.out.step hb
  have HE2 := Lib.hid he2
  clear hb he2 hrow hlo hrow2 HE1
  go_upto_region 4 with fail
  obtain ⟨wD, hwD⟩ : ∃ wD, wc.put gs 0 (s2 h).cs = wD := ⟨_, rfl⟩
  rw [hwD] at HE2 ⊢
  have hrow4 := HE2.out.var.row
  clear hwD hrow3 hlo3
  have hlo4 := HE2.out.var.loose
  have HE2d := Lib.hid (HE2.out.later (Below.refl wD.heap.size wD).drew)
  go_region_law (first
    | (go_simp; go_at_call 14; refine (lopen_any 65000 h 2 _).mono ?_; rintro r wE ⟨rfl, hbE⟩; have HEE := Lib.hid (HE2d.out.later hbE); have hrowE := HEE.out.var.row; have hloE := HEE.out.var.loose; clear hbE)
    | (go_simp; go_at_call 13; refine (step_eq (s2 h) 7 (openE 65000 h 2) (s3 h) _ _ H3.out (by intro h'; simp [s2, s0, newS])).mono ?_; rintro r wF ⟨A3, c3, rfl, hbF, _, _⟩; have HEF := Lib.hid (HEE.out.later hbF); have hrowF := HEF.out.var.row; have hloF := HEF.out.var.loose; clear hbF))
  all_goals
    have he3 : EsAt W (wF.put gs 0 (s3 h).cs) r0 gs (s3 h) := HEF.out.put
    have HE3 := Lib.hid he3
    clear he3 hrowF hloF hrowE hloE hrow4 hlo4 HE2 HE2d HEE HEF
    go_upto_region 5 with fail
    obtain ⟨wG, hwG⟩ : ∃ wG, wF.put gs 0 (s3 h).cs = wG := ⟨_, rfl⟩
    rw [hwG] at HE3 ⊢
    have hrowG := HE3.out.var.row
    have hloG := HE3.out.var.loose
    have HE3d := Lib.hid (HE3.out.later (Below.refl wG.heap.size wG).drew)
    clear hwG
    go_region_law (first
      | (go_simp; go_at_call 15; refine (lalive_any _).mono ?_; rintro r wH ⟨rfl, hbH⟩; have HEH := Lib.hid (HE3d.out.later hbH); have hrowH := HEH.out.var.row; have hloH := HEH.out.var.loose; clear hbH)
      | (go_simp; go_at_call 13; refine (step_eq (s3 h) 8 aliveE (s4 h) _ _ H4.out (by intro h'; simp [s3, s0, newS])).mono ?_; rintro r wJ ⟨A4, c4, rfl, hbJ, _, _⟩; have HEJ := Lib.hid (HEH.out.later hbJ); have hrowJ := HEJ.out.var.row; have hloJ := HEJ.out.var.loose; clear hbJ))
    all_goals
      have he4 : EsAt W (wJ.put gs 0 (s4 h).cs) r0 gs (s4 h) := HEJ.out.put
      have hrow5 := he4.var.row
      have hrow6 := he4.res.row
      have hlo6 := he4.res.loose
      have HE4 := Lib.hid he4
      clear he4 hrowG hloG hrowH hloH HEH HE3 HE3d HEJ
      go_wp2_with fail
      refine bodyPost_ret (v := .agg (s4 h).cs) (results_row rfl agg30 (b := r0) (off := 0) rfl ?_) rfl ⟨rfl, ?_⟩
      · exact row?_whole (z := (s4 h).cs) (put_heap_whole HE4.out.res (by simp)) (by simp)
      · rw [HR0.out]
        exact put_below HE4.out.below (Nat.le_refl _) _ _
end Go.Proofs.Ytfconglamkkcoaa
