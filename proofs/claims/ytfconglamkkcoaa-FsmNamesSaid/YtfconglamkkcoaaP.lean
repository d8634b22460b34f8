import Derived.Test.YtfconglamkkcoaaO
/- The chapter's example holds. -/
namespace Go.Proofs.Ytfconglamkkcoaa
open Go.RowKit
set_option linter.unusedSimpArgs false
set_option linter.unusedVariables false

@[go_sem ↓] theorem field30 (s : Ses) (w : World) : (Instr.field 30 (.agg s.cs) 0).run Try.prog w = .ok (.int .i64 s.phase) w := by kernel_rfl
theorem phase4 (h : Int) : (s4 h).phase = 4 := rfl
set_option maxRecDepth 100000 in
set_option maxHeartbeats 2000000 in
theorem lives_any (W : World) : Calls Try.prog 10 #[] W fun e w' => e = .returned (.bool true) ∧ Below W.heap.size W w' := by
  have hh : heldB 9 = true := by decide
  have HR := Lib.hid (right_ex hh false)
  have H1 := Lib.hid (ex01 hh)
  have HH := Lib.hid hh
  have hp4 := phase4 9
  clear hh
  go_enter Try.func10, Try.ntmps10
  go_wp2_with (first
    | (go_at_call 12; refine (config_any 9 false _).mono ?_; rintro r w1 ⟨rfl, hb1⟩; have HB1 := Lib.hid hb1; clear hb1)
    | (go_at_call 11; refine (new_good _ _ HR.out).mono ?_; rintro r w2 ⟨rfl, hb2⟩; have HB2 := Lib.hid (HB1.out.trans (hb2.mono HB1.out.size)); clear hb2)
    | (go_at_call 13; refine Hid.out ?_))
  obtain ⟨gs, hgs⟩ : ∃ gs, w2.heap.size = gs := ⟨_, rfl⟩
  have hv0 : VarAt (w2.alloc (.cells (newS (exCfg 9 false)).cs 30)) gs (s0 9 false) := heap_here hgs.symm
  have hb0 : Below W.heap.size W (w2.alloc (.cells (newS (exCfg 9 false)).cs 30)) := HB2.out.alloc HB2.out.size _
  have hlo : W.heap.size ≤ gs := by have := HB2.out.size; omega
  rw [hgs]
  obtain ⟨wA, hwA⟩ : ∃ wA, w2.alloc (.cells (newS (exCfg 9 false)).cs 30) = wA := ⟨_, rfl⟩
  rw [hwA] at hv0 hb0 ⊢
  clear hwA hgs HB1 HB2
  refine Lib.hid ?_
  refine (step_eq (s0 9 false) 0 (oneE 1) (s1 9) _ _ H1.out (by intro h; simp [oneE] at h)).mono ?_
  rintro r wb ⟨A, c, rfl, hb, hown, hrows⟩
  obtain ⟨ba, rfl, hba, hbl, hr⟩ := hrows (by simp)
  have hr0 := hr 0 ⟨2, zeroMsg, 0⟩ rfl
  have hv1 := hv0.below hb
  have hrow := hv1.row
  have hloose := hv1.loose
  have hv2 : VarAt (wb.put gs 0 (s1 9).cs) gs (s1 9) := hv1.put
  have hc0 : (wb.put gs 0 (s1 9).cs).cell? ⟨gs, 0, none⟩ = some (.int .i64 1) := (hv2.cell 0).trans (by simp [s1])
  have hne : gs ≠ ba := by have := hv0.lt; omega
  have hcA : (wb.put gs 0 (s1 9).cs).cell? ⟨ba, 0, none⟩ = some (.int .i64 2) := by
    rw [World.cell?_of_block (put_heap_other wb 0 (s1 9).cs hne)]
    have := hr0
    unfold World.row? at this
    split at this
    · rename_i cc tt ff hbb
      have h2 := (sub?_some this).2 0 (by omega)
      simp only [World.cell?, hbb]
      simpa using h2
    · cases this
  have HBW := Lib.hid (show Below W.heap.size W (wb.put gs 0 (s1 9).cs) from put_below (hb0.trans (hb.mono hb0.size)) hlo _ _)
  clear hr hr0 hrows hown hv0 hv1 hv2 hb hb0
  go_wp2_with (go_at_call 27; refine (established_any 9 HH.out _).mono ?_; rintro r wz ⟨rfl, hbz⟩; have HZ := Lib.hid (HBW.out.trans (hbz.mono HBW.out.size)); clear hbz)
  go_ret
  exact ⟨rfl, HZ.out⟩
end Go.Proofs.Ytfconglamkkcoaa
