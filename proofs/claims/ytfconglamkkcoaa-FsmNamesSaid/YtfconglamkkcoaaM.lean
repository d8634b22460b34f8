import Derived.Test.YtfconglamkkcoaaL
/- A step of a session that is valid. -/
namespace Go.Proofs.Ytfconglamkkcoaa
open Go.RowKit
set_option linter.unusedSimpArgs false
set_option linter.unusedVariables false

theorem Ses.ok.of_valid {s : Ses} (h : validB s = true) : s.ok := by
  simp [validB, rightB, heldB] at h
  constructor <;> omega
theorem good_parts {s : Ses} {now : Int} (h : goodB s now = true) : validB s = true ∧ 0 ≤ now ∧ now ≤ 1099511627776 := by
  simp [goodB] at h
  exact ⟨h.1.1, h.1.2, h.2⟩
@[go_sem] theorem build_run (n : Int) (x : Ses) : Array.foldl (fun (cs : Array Value) (y : Value × Nat) => cs.setIfInBounds (0 + y.2) y.1) #[.int .i64 0, .int .u32 0, .int .u32 0, .int .u32 0, .int .i64 0, .int .i64 0, .int .i64 0, .bool false, .bool false, .int .u32 0, .int .i64 0, .int .u32 0, .int .i64 0, .bool false, .int .i64 0, .int .i64 0, .int .i64 0, .int .i64 0, .slice none 0 0, .int .i64 n] x.cs.zipIdx 0 18 = RunV.cs ⟨x, ⟨none, 0, 0⟩, n⟩ := by
  rw [build_part _ _ _ _ (by simp) (by simp)]
  simp [splice, Ses.cs, RunV.cs]
@[go_sem] theorem build_run' (n : Int) (x : Ses) : Array.foldl (fun (cs : Array Value) (y : Value × Nat) => cs.setIfInBounds y.2 y.1) #[.int .i64 0, .int .u32 0, .int .u32 0, .int .u32 0, .int .i64 0, .int .i64 0, .int .i64 0, .bool false, .bool false, .int .u32 0, .int .i64 0, .int .u32 0, .int .i64 0, .bool false, .int .i64 0, .int .i64 0, .int .i64 0, .int .i64 0, .slice none 0 0, .int .i64 n] x.cs.zipIdx 0 18 = RunV.cs ⟨x, ⟨none, 0, 0⟩, n⟩ := by
  have := build_run n x
  simpa only [Nat.zero_add] using this
set_option maxRecDepth 100000 in
set_option maxHeartbeats 1000000 in
theorem step_good (s : Ses) (now : Int) (e : EvV) (W : World) (hg : goodB s now = true) (hnd : 2 ≤ s.phase → e.kind = 5 → ¬ (s.phase = 4 ∧ (e.m.kind = 2 ∨ e.m.kind = 5))) :
    Calls Try.prog 13 #[.agg s.cs, .agg e.cs, .int .i64 now] W (StepPost W (phaseS s now e).1 (phaseS s now e).2) := by
  obtain ⟨hv, hn0, hn1⟩ := good_parts hg
  have OK := Lib.hid (Ses.ok.of_valid hv)
  have hp0 := OK.out.p0
  have hp1 := OK.out.p1
  have hz : zeroSes.cs = #[.int .i64 0, .int .u32 0, .int .u32 0, .int .u32 0, .int .i64 0, .int .i64 0, .int .i64 0, .bool false, .bool false, .int .u32 0, .int .i64 0, .int .u32 0, .int .i64 0, .bool false, .int .i64 0, .int .i64 0, .int .i64 0, .int .i64 0] := rfl
  have HZ := Lib.hid hz
  have HV := Lib.hid hv
  have HND := Lib.hid hnd
  clear hz hv hg hnd
  go_enter Try.func13, Try.ntmps13
  go_upto_region 5 with (go_at_call 18; refine (valid_val s _ HV.out _).mono ?_; rintro r w1 ⟨rfl, hb1⟩; rw [← HZ.out] at hb1; have HB := Lib.hid (Boxes.made hb1); clear hb1)
  have hr0 : w1.row? W.heap.size 0 18 = some s.cs := row?_whole HB.out.b0 (by simp)
  obtain ⟨b, hb⟩ : ∃ b, W.heap.size = b := ⟨_, rfl⟩
  rw [hb] at hr0 HB ⊢
  have HBB := Lib.hid hb
  clear hb
  go_upto_region 6 with fail
  obtain ⟨g, hgg⟩ : ∃ g, w1.heap.size = g := ⟨_, rfl⟩
  obtain ⟨wA, hwA⟩ : ∃ wA, w1.alloc (.cells (RunV.cs ⟨s, ⟨none, 0, 0⟩, now⟩) 78) = wA := ⟨_, rfl⟩
  have hbA : Below w1.heap.size w1 wA := by rw [← hwA]; exact (Below.refl _ _).alloc (Nat.le_refl _) _
  have hgA : wA.heap[g]? = some (.cells (RunV.cs ⟨s, ⟨none, 0, 0⟩, now⟩) 78 (0, 0)) := by rw [← hwA]; exact heap_here hgg.symm
  have hl1 : b + 2 < w1.heap.size := (Array.getElem?_eq_some_iff.1 HB.out.b2).1
  have h0 : wA.heap[b]? = some (.cells s.cs 30 (0, 0)) := (hbA.block _ (by omega)).trans HB.out.b0
  have h1 : wA.heap[b + 1]? = some (.cells e.cs 49 (0, 0)) := (hbA.block _ (by omega)).trans HB.out.b1
  have h2 : wA.heap[b + 2]? = some (.cells zeroSes.cs 30 (0, 0)) := (hbA.block _ (by omega)).trans HB.out.b2
  have hA : RunAt 78 b g wA s now [] ⟨none, 0, 0⟩ := ⟨hgA, ⟨by simp [cat], .inl ⟨rfl, rfl⟩⟩, by omega, OK.out, hn0, hn1, by simp⟩
  have hWA : Below b W wA := HB.out.below.trans (hbA.mono (by omega))
  have hgA3 : b + 2 < g := by omega
  rw [hwA, hgg]
  have H0 := Lib.hid h0
  have H1 := Lib.hid h1
  have H2 := Lib.hid h2
  have HA := Lib.hid (hA.below (Below.refl wA.heap.size wA).drew)
  have HWA := Lib.hid hWA
  have hcP : wA.cell? ⟨b, 0, none⟩ = some (.int .i64 s.phase) := by simp [World.cell?, h0]
  have hrE : wA.row? (b + 1) 0 26 = some e.cs := row?_whole h1 (by simp)
  obtain ⟨La, hLa⟩ : ∃ La, (phaseS s now e).2 = La := ⟨_, rfl⟩
  obtain ⟨Sa, hSa⟩ : ∃ Sa, (phaseS s now e).1 = Sa := ⟨_, rfl⟩
  rw [hLa, hSa]
  have HLA := Lib.hid hLa
  have HSA := Lib.hid hSa
  clear hLa hSa hwA hgg hbA hgA h0 h1 h2 hA hWA hr0 hl1 HB
  have hcase : s.phase = 0 ∨ s.phase = 1 ∨ 2 ≤ s.phase := by omega
  have hC : ∃ f : Nat, (if s.phase = 0 then 47 else if s.phase = 1 then 48 else 49 : Int) = f ∧ ∀ w3 : World, Below wA.heap.size wA.drew w3 → Calls Try.prog f #[.pointer (some ⟨g, 0, none⟩), .agg e.cs] w3 fun r w' => r = .returned (.tuple #[]) ∧ Ran 78 b g Sa now La ⟨none, 0, 0⟩ w3 w' := by
    have hgl : g < wA.heap.size := HA.out.lt
    have hbA : b ≤ wA.heap.size := by omega
    rcases hcase with hp | hp | hp
    · refine ⟨47, by rw [if_pos hp]; rfl, fun w3 hb3 => ?_⟩
      have := idle_any b g w3 s now [] ⟨none, 0, 0⟩ e (HA.out.below hb3) (by simp) (Nat.le_trans hbA hb3.size)
      have hS : phaseS s now e = idleS s now e.kind := if_pos hp
      rw [← hS, HSA.out, HLA.out, List.nil_append] at this
      exact this
    · refine ⟨48, by rw [if_neg (by omega), if_pos hp]; rfl, fun w3 hb3 => ?_⟩
      have := connect_any b g w3 s now [] ⟨none, 0, 0⟩ e (HA.out.below hb3) (by simp) (Nat.le_trans hbA hb3.size)
      have hS : phaseS s now e = connectS s now e.kind := by unfold phaseS; rw [if_neg (by omega), if_pos hp]
      rw [← hS, HSA.out, HLA.out, List.nil_append] at this
      exact this
    · refine ⟨49, by rw [if_neg (by omega), if_neg (by omega)]; rfl, fun w3 hb3 => ?_⟩
      have := late_any b g w3 s now [] ⟨none, 0, 0⟩ e (HA.out.below hb3) (by simp) (Nat.le_trans hbA hb3.size) (HND.out hp)
      have hS : phaseS s now e = lateS s now e := by unfold phaseS; rw [if_neg (by omega), if_neg (by omega)]
      rw [← hS, HSA.out, HLA.out, List.nil_append] at this
      exact this
  obtain ⟨f, hf, hC⟩ := hC
  have hf3 : f = 47 ∨ f = 48 ∨ f = 49 := by split at hf <;> (try split at hf) <;> omega
  have HF := Lib.hid hf
  have HCC := Lib.hid hC
  have hgl : g < wA.heap.size := HA.out.lt
  clear hf hC hcase HND
  rcases hf3 with rfl | rfl | rfl
  all_goals
    go_region_held3 (fun w' => w'.cell? ⟨b, 0, none⟩ = some (.int .i64 s.phase) ∧ w'.row? (b + 1) 0 26 = some e.cs) (first | (go_keep; done) | exact ⟨by assumption, by assumption⟩)
      (first
        | (go_at_call 29; refine (phases_any _).mono ?_; rintro r w3 ⟨m, rfl, hm, hb3⟩; have hrun := phase_run hm hp0 hp1 HF.out; have HB3 := Lib.hid hb3; have hp3 := (hb3.block b (show b < wA.heap.size by omega)).trans H0.out; have hc3 : w3.cell? ⟨b, 0, none⟩ = some (.int .i64 s.phase) := by { simp [World.cell?, hp3] }; have hr3 : w3.row? (b + 1) 0 26 = some e.cs := row?_whole ((hb3.block (b + 1) (show b + 1 < wA.heap.size by omega)).trans H1.out) (by simp); clear hm hb3 hp3)
        | ((first | go_at_call 47 | go_at_call 48 | go_at_call 49); refine (HCC.out _ HB3.out).mono ?_; rintro r w4 ⟨rfl, hr⟩; obtain ⟨v4, hr⟩ := hr; have H4 := Lib.hid hr; have hA3 := HA.out.below HB3.out; have hp4 := hr.keep hA3 ((HB3.out.block b (show b < wA.heap.size by omega)).trans H0.out) (by decide) (by decide); have hc4 : w4.cell? ⟨b, 0, none⟩ = some (.int .i64 s.phase) := by { simp [World.cell?, hp4] }; have hr4 : w4.row? (b + 1) 0 26 = some e.cs := row?_whole (hr.keep hA3 ((HB3.out.block (b + 1) (show b + 1 < wA.heap.size by omega)).trans H1.out) (by decide) (by decide)) (by simp); have h24 : w4.heap[b + 2]? = some (.cells zeroSes.cs 30 (0, 0)) := hr.keep hA3 ((HB3.out.block (b + 2) (show b + 2 < wA.heap.size by omega)).trans H2.out) (by decide) (by decide); have H24 := Lib.hid h24; clear hr hA3 hp4 h24))
    have hbox := H4.out.at'.box
    have hrS : w4.row? g 0 18 = some Sa.cs := by unfold World.row?; rw [hbox]; exact RunV.sub_s ⟨Sa, v4, now⟩
    have hcV : w4.cell? ⟨g, 18, none⟩ = some (.slice v4.a v4.n v4.c) := by simp [World.cell?, hbox]
    have hr2 : w4.row? (b + 1 + 1) 0 18 = some zeroSes.cs := row?_whole H24.out (by simp)
    have hl2 : w4.loose (b + 1 + 1) := ⟨_, _, H24.out⟩
    have hng : ¬ g = b + 1 + 1 := by omega
    have hcV2 : (w4.put (b + 1 + 1) 0 Sa.cs).cell? ⟨g, 18, none⟩ = some (.slice v4.a v4.n v4.c) := (World.cell?_of_block (put_heap_other w4 0 Sa.cs (show b + 1 + 1 ≠ g by omega))).trans hcV
    clear hbox hc3 hr3 hc4 hr4 hcP hrE hrun
    go_upto_region 7 with fail
    go_region
    go_wp2_with fail
    refine bodyPost_ret (v := .tuple #[.agg Sa.cs, slv v4]) (results_row2 rfl agg30 (b := b + 1 + 1) (off := 0) rfl rfl ?_) rfl ?_
    · exact row?_whole (z := Sa.cs) (put_heap_whole H24.out (by simp)) (by simp)
    · have hfin : StepPost W Sa La (.returned (.tuple #[.agg Sa.cs, slv v4])) (w4.put (b + 1 + 1) 0 Sa.cs).drew := by
        refine ⟨v4, rfl, ?_, ?_⟩
        · rw [HBB.out]
          have ho : Only [b + 2] w4 (w4.put (b + 1 + 1) 0 Sa.cs).drew := ⟨rfl, rfl, rfl, by show _ ≤ (w4.put _ _ _).heap.size; rw [put_size]; exact Nat.le_refl _, fun k hk hn => put_heap_other w4 0 Sa.cs (by simp at hn; omega)⟩
          refine owns_only H4.out.at'.own ho fun k hk hm => ?_
          simp at hm
          subst hm
          exact row_not_cells H4.out.at'.own H24.out (by decide) hk
        · rw [HBB.out]
          have hb3 : Below b W w3 := HWA.out.trans (Below.mono (B := wA.heap.size) ((Below.refl wA.heap.size wA).drew.trans HB3.out) (by omega))
          have hb4 : Below b W w4 := H4.out.only.below hb3 (by have := hb3.size; have := HB3.out.size; have h3 : wA.drew.heap.size = wA.heap.size := rfl; omega) (fun x hx => by simp [ob, slv, Value.ownBlock] at hx; omega)
          exact (put_below (b := b + 1 + 1) hb4 (by omega) 0 Sa.cs).drew
      rw [HSA.out, HLA.out]
      exact hfin
end Go.Proofs.Ytfconglamkkcoaa
