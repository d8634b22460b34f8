import Derived.Test.YtfconglamkkcoaaR
/- The walk of FsmNames. -/
namespace Go.Proofs.Ytfconglamkkcoaa
open Go.RowKit
set_option linter.unusedSimpArgs false
set_option linter.unusedVariables false

theorem lt_of_alloc {w : World} {o : Obj} {b : Nat} (h : (w.alloc o).heap.size ≤ b) : w.heap.size < b := by simp at h; omega
theorem cutT {T G : Prop} (later : T) (main : Hid T → G) : G := main (Lib.hid later)
def s1b : Ses := { s1 9 with retry := 10 }
def n3 : Ses := ⟨3, exCfg 9 false, ⟨65000, 6, 2, 0, false⟩, 6, 13, 9, -1⟩
def n4 : Ses := ⟨4, exCfg 9 false, ⟨65000, 6, 2, 0, false⟩, 6, 14, 9, -1⟩
def n5 : Ses := ⟨4, exCfg 9 false, ⟨65000, 6, 2, 0, false⟩, 6, 14, 11, -1⟩
def n6 : Ses := ⟨1, exCfg 9 false, ⟨0, 0, 0, 0, false⟩, 0, -1, -1, 19⟩
def n7 : Ses := ⟨1, exCfg 9 false, ⟨0, 0, 0, 0, false⟩, 0, -1, -1, 12⟩
def n8 : Ses := ⟨0, exCfg 9 false, ⟨0, 0, 0, 0, false⟩, 0, -1, -1, -1⟩
theorem nm1 : stepS (s0 9 false) 0 (oneE 1) = (s1 9, [⟨2, zeroMsg, 0⟩]) := by rfl
theorem nm1b : stepS (s1 9) 5 (oneE 7) = (s1b, [⟨2, zeroMsg, 0⟩]) := by rfl
theorem nm2 : stepS s1b 6 (oneE 3) = (s2 9, [⟨1, openM (exCfg 9 false), 0⟩]) := by rfl
theorem nm3 : stepS (s2 9) 7 (openE 65000 6 2) = (n3, [⟨1, aliveM, 0⟩]) := by rfl
theorem nm4 : stepS n3 8 aliveE = (n4, [⟨4, upM ⟨65000, 6, 2, 0, false⟩, 0⟩]) := by rfl
theorem nm5 : stepS n4 9 (oneE 7) = (n5, [⟨1, aliveM, 0⟩]) := by rfl
theorem nm6 : stepS n5 14 (oneE 7) = (n6, [⟨1, noticeM 4 0, 0⟩, ⟨3, zeroMsg, 0⟩, ⟨5, zeroMsg, 2⟩]) := by rfl
theorem nm7 : stepS (s2 9) 7 (openE 65001 6 2) = (n7, [⟨1, noticeM 2 2, 0⟩, ⟨3, zeroMsg, 0⟩]) := by rfl
theorem nm7b : stepS (s2 9) 7 (openE 65000 6 3) = (n7, [⟨1, noticeM 2 3, 0⟩, ⟨3, zeroMsg, 0⟩]) := by rfl
theorem nm7c : stepS (s2 9) 7 (openE 65000 2 2) = (n7, [⟨1, noticeM 2 6, 0⟩, ⟨3, zeroMsg, 0⟩]) := by rfl
theorem nm8 : stepS n5 9 (oneE 2) = (n8, [⟨1, noticeM 6 2, 0⟩, ⟨3, zeroMsg, 0⟩, ⟨5, zeroMsg, 5⟩]) := by rfl
theorem nm9 : stepS n8 10 (oneE 3) = (n8, [⟨3, zeroMsg, 0⟩]) := by rfl

/-- What the walk keeps: the variable s, copies of it, and rows of actions. -/
structure NmAt (W w : World) (gs : Nat) (s : Ses) (V : List (Nat × Ses)) (L : List (Nat × Nat × Acn)) : Prop where
  below : Below W.heap.size W w
  le : W.heap.size ≤ gs
  var : VarAt w gs s
  vars : ∀ x ∈ V, x.1 ≠ gs ∧ VarAt w x.1 x.2
  rows : ∀ x ∈ L, x.1 ≠ gs ∧ x.1 < w.heap.size ∧ w.row? x.1 (x.2.1 * 27) 27 = some x.2.2.cs
section
variable {W w w' : World} {gs ba k : Nat} {s s' : Ses} {V : List (Nat × Ses)} {L : List (Nat × Nat × Acn)} {x : Acn}
theorem row_of_block {w w' : World} {b off n : Nat} (h : w'.heap[b]? = w.heap[b]?) : w'.row? b off n = w.row? b off n := by simp only [World.row?, h]
theorem NmAt.later (h : NmAt W w gs s V L) (hb : Below w.heap.size w w') : NmAt W w' gs s V L :=
  ⟨h.below.trans (hb.mono (by have := h.var.lt; have := h.le; omega)), h.le, h.var.below hb, fun x hx => ⟨(h.vars x hx).1, (h.vars x hx).2.below hb⟩,
    fun x hx => ⟨(h.rows x hx).1, by have := (h.rows x hx).2.1; have := hb.size; omega, (row_of_block (hb.block _ (h.rows x hx).2.1)).trans (h.rows x hx).2.2⟩⟩
theorem NmAt.put (h : NmAt W w gs s V L) : NmAt W (w.put gs 0 s'.cs) gs s' V L :=
  ⟨put_below h.below h.le _ _, h.le, h.var.put, fun x hx => ⟨(h.vars x hx).1, (put_heap_other w 0 s'.cs (h.vars x hx).1.symm).trans (h.vars x hx).2⟩,
    fun x hx => ⟨(h.rows x hx).1, by rw [put_size]; exact (h.rows x hx).2.1, (row_of_block (put_heap_other w 0 s'.cs (h.rows x hx).1.symm)).trans (h.rows x hx).2.2⟩⟩
theorem NmAt.step (h : NmAt W w gs s V L) (hb : Below w.heap.size w w') : NmAt W (w'.put gs 0 s'.cs) gs s' V L := (h.later hb).put
theorem NmAt.add (h : NmAt W w gs s V L) (hne : ba ≠ gs) (hlt : ba < w.heap.size) (hr : w.row? ba (k * 27) 27 = some x.cs) : NmAt W w gs s V ((ba, k, x) :: L) :=
  ⟨h.below, h.le, h.var, h.vars, fun y hy => by rcases List.mem_cons.1 hy with rfl | hy; exact ⟨hne, hlt, hr⟩; exact h.rows y hy⟩
theorem NmAt.addp (h : NmAt W (w.put gs 0 s'.cs) gs s' V L) (hge : gs < ba) (hlt : ba < w.heap.size) (hr : w.row? ba (k * 27) 27 = some x.cs) : NmAt W (w.put gs 0 s'.cs) gs s' V ((ba, k, x) :: L) :=
  h.add (by omega) (by rw [put_size]; exact hlt) ((row_of_block (put_heap_other w 0 s'.cs (by omega))).trans hr)
theorem NmAt.addVar (h : NmAt W w gs s V L) (hne : ba ≠ gs) (hv : VarAt w ba s') : NmAt W w gs s ((ba, s') :: V) L :=
  ⟨h.below, h.le, h.var, fun y hy => by rcases List.mem_cons.1 hy with rfl | hy; exact ⟨hne, hv⟩; exact h.vars y hy, h.rows⟩
theorem NmAt.alloc (h : NmAt W w gs s V L) : NmAt W (w.alloc (.cells s'.cs 30)) gs s ((w.heap.size, s') :: V) L :=
  (h.later ((Below.refl _ _).alloc (Nat.le_refl _) _)).addVar (by have := h.var.lt; omega) (heap_here rfl)
theorem NmAt.row (h : NmAt W w gs s V L) {b : Nat} (hm : (b, s') ∈ V) : w.row? b 0 18 = some s'.cs := (h.vars _ hm).2.row
theorem NmAt.vcell (h : NmAt W w gs s V L) {b : Nat} (hm : (b, s') ∈ V) (i : Nat) : w.cell? ⟨b, i, none⟩ = s'.cs[i]? := (h.vars _ hm).2.cell i
theorem NmAt.cell (h : NmAt W w gs s V L) {b : Nat} (hm : (b, k, x) ∈ L) {i : Nat} (hi : i < 27) : w.cell? ⟨b, k * 27 + i, none⟩ = x.cs[i]? := row_at' (h.rows _ hm).2.2 hi
end
set_option maxRecDepth 100000 in
set_option maxHeartbeats 40000000 in
theorem fsmnames_any (W : World) : Calls Try.prog 3 #[] W fun e w' => e = .returned (.bool true) ∧ Below W.heap.size W w' := by
  have hrr := right_ex (h := 9) rfl false
  have HR := Lib.hid hrr
  clear hrr
  go_enter Try.func3, Try.ntmps3
  go_wp2_with (first
    | (go_at_call 10; refine (lives_any _).mono ?_; rintro e w1 ⟨rfl, hb1⟩; have HB1 := Lib.hid hb1; clear hb1)
    | (go_at_call 12; refine (config_any 9 false _).mono ?_; rintro r w1b ⟨rfl, hb1⟩; have HB1b := Lib.hid (HB1.out.trans (hb1.mono HB1.out.size)); clear hb1)
    | (go_at_call 11; refine (new_good _ _ HR.out).mono ?_; rintro r w2 ⟨rfl, hb2⟩; have HB2 := Lib.hid (HB1b.out.trans (hb2.mono HB1b.out.size)); clear hb2)
    | (go_at_call 13; refine Hid.out ?_))
  obtain ⟨gs, hgs⟩ : ∃ gs, w2.heap.size = gs := ⟨_, rfl⟩
  have h0 : NmAt W (w2.alloc (.cells (newS (exCfg 9 false)).cs 30)) gs (s0 9 false) [] [] :=
    ⟨HB2.out.alloc HB2.out.size _, by have := HB2.out.size; omega, heap_here hgs.symm, by simp, by simp⟩
  rw [hgs]
  obtain ⟨wA, hwA⟩ : ∃ wA, w2.alloc (.cells (newS (exCfg 9 false)).cs 30) = wA := ⟨_, rfl⟩
  rw [hwA] at h0 ⊢
  have H := Lib.hid h0
  clear hwA h0 HB1 HB1b HB2 hgs
  refine Lib.hid ?_
  refine (step_eq (s0 9 false) 0 (oneE 1) (s1 9) _ _ nm1 (by intro h; simp [oneE] at h)).mono ?_
  rintro r wb1 ⟨A1, c1, rfl, hb, ho, hrows⟩
  have hrow := (H.out.later hb).var.row
  have hlo := (H.out.later hb).var.loose
  have h1 := (H.out.step (s' := (s1 9)) hb)
  have hrow2 := h1.var.row
  have hgl2 : gs < wb1.heap.size := by have := h1.var.lt; rwa [put_size] at this
  clear H
  have H := Lib.hid h1
  clear hb ho hrows
  clear h1
  go_wp2_with (go_at_call 13; refine Hid.out ?_)
  clear hrow hlo hrow2 hgl2
  refine Lib.hid ?_
  refine (step_eq (s1 9) 5 (oneE 7) s1b _ _ nm1b (by intro h; simp [oneE] at h)).mono ?_
  rintro r wb2 ⟨A2, c2, rfl, hb, ho, hrows⟩
  obtain ⟨ba, rfl, hb0, hbl, hr⟩ := hrows (by simp)
  have hgl := H.out.var.lt
  have hrow := (H.out.later hb).var.row
  have hlo := (H.out.later hb).var.loose
  have h1 := ((H.out.step (s' := s1b) hb).addp (k := 0) (by omega) hbl (hr 0 _ rfl))
  have hrow2 := h1.var.row
  have hgl2 : gs < wb2.heap.size := by have := h1.var.lt; rwa [put_size] at this
  clear H
  have H := Lib.hid h1
  clear hb ho hrows hb0 hbl hr hgl
  clear h1
  go_wp2_with (go_at_call 13; refine Hid.out ?_)
  clear hrow hlo hrow2 hgl2
  refine Lib.hid ?_
  refine (step_eq s1b 6 (oneE 3) (s2 9) _ _ nm2 (by intro h; simp [oneE] at h)).mono ?_
  rintro r wb3 ⟨A3, c3, rfl, hb, ho, hrows⟩
  obtain ⟨bb, rfl, hb0, hbl, hr⟩ := hrows (by simp)
  have hgl := H.out.var.lt
  have hrow := (H.out.later hb).var.row
  have hlo := (H.out.later hb).var.loose
  have h1 := ((H.out.step (s' := (s2 9)) hb).addp (k := 0) (by omega) hbl (hr 0 _ rfl))
  have hrow2 := h1.var.row
  have hgl2 : gs < wb3.heap.size := by have := h1.var.lt; rwa [put_size] at this
  clear H
  have H := Lib.hid h1
  clear hb ho hrows hb0 hbl hr hgl
  clear h1
  go_upto_region 8 with fail
  clear hrow hlo hrow2 hgl2
  obtain ⟨wC, hwC⟩ : ∃ wC, (wb3.put gs 0 (s2 9).cs).alloc (.cells (s2 9).cs 30) = wC := ⟨_, rfl⟩
  have h1 := H.out.alloc (s' := s2 9)
  obtain ⟨g2, hg2⟩ : ∃ g2, (wb3.put gs 0 (s2 9).cs).heap.size = g2 := ⟨_, rfl⟩
  rw [hwC, hg2] at h1
  try rw [put_size] at hg2
  rw [hwC, hg2]
  clear H hwC hg2
  have H := Lib.hid h1
  clear h1
  have hrowC := H.out.var.row
  have hloC := H.out.var.loose
  have Hd := Lib.hid (H.out.later (Below.refl wC.heap.size wC).drew)
  apply cutT
  case main =>
    intro tail
    go_region_law (first
      | (go_simp; go_at_call 14; refine (lopen_any 65000 6 2 _).mono ?_; rintro r wE ⟨rfl, hbE⟩; have HE := Lib.hid (Hd.out.later hbE); have hrowE := HE.out.var.row; have hloE := HE.out.var.loose; clear hbE)
      | (go_simp; go_at_call 13; refine (step_eq (s2 9) 7 (openE 65000 6 2) n3 _ _ nm3 (by intro h; simp [s2, s0, newS])).mono ?_; rintro r wF ⟨AF, cF, rfl, hbF, ho, hrows⟩; have HF := Lib.hid (HE.out.later hbF); obtain ⟨bF, rfl, hb0, hbl, hr⟩ := hrows (by simp); have HR0 := Lib.hid (hr 0 _ rfl); have hgb := HE.out.var.lt; have HB := Lib.hid (show gs < bF ∧ bF < wF.heap.size by omega); have hrowF := HF.out.var.row; have hloF := HF.out.var.loose; clear hbF ho hrows hr hb0 hbl hgb))
    all_goals
      have h1 := (HF.out.put (s' := n3)).addp (k := 0) HB.out.1 HB.out.2 HR0.out
      have hge := HB.out.1
      obtain ⟨wX, hwX⟩ : ∃ wX, wF.put gs 0 n3.cs = wX := ⟨_, rfl⟩
      rw [hwX] at h1 ⊢
      clear hrowE hloE hrowF hloF HE HF HR0 HB hwX wE wF
      revert wX cF bF
      exact tail.out
  case later =>
    intro cF bc hge wX h1
    clear hrowC hloC Hd H hge
    have H := Lib.hid h1
    clear h1
    go_upto_region 9 with fail
    have hrowC := H.out.var.row
    have hloC := H.out.var.loose
    have Hd := Lib.hid (H.out.later (Below.refl wX.heap.size wX).drew)
    apply cutT
    case main =>
      intro tail
      go_region_law (first
        | (go_simp; go_at_call 15; refine (lalive_any _).mono ?_; rintro r wE ⟨rfl, hbE⟩; have HE := Lib.hid (Hd.out.later hbE); have hrowE := HE.out.var.row; have hloE := HE.out.var.loose; clear hbE)
        | (go_simp; go_at_call 13; refine (step_eq n3 8 aliveE n4 _ _ nm4 (by intro h; simp [n3])).mono ?_; rintro r wF ⟨AF, cF, rfl, hbF, ho, hrows⟩; have HF := Lib.hid (HE.out.later hbF); obtain ⟨bF, rfl, hb0, hbl, hr⟩ := hrows (by simp); have HR0 := Lib.hid (hr 0 _ rfl); have hgb := HE.out.var.lt; have HB := Lib.hid (show gs < bF ∧ bF < wF.heap.size by omega); have hrowF := HF.out.var.row; have hloF := HF.out.var.loose; clear hbF ho hrows hr hb0 hbl hgb))
      all_goals
        have h1 := (HF.out.put (s' := n4)).addp (k := 0) HB.out.1 HB.out.2 HR0.out
        have hge := HB.out.1
        obtain ⟨wX, hwX⟩ : ∃ wX, wF.put gs 0 n4.cs = wX := ⟨_, rfl⟩
        rw [hwX] at h1 ⊢
        clear hrowE hloE hrowF hloF HE HF HR0 HB hwX wE wF
        revert wX cF bF
        exact tail.out
    case later =>
      intro cF2 bd hge wX2 h1
      clear hrowC hloC Hd H hge
      have H := Lib.hid h1
      clear h1
      have hrow := H.out.var.row
      have hlo := H.out.var.loose
      go_wp2_with (go_at_call 13; refine Hid.out ?_)
      clear hrow hlo
      refine Lib.hid ?_
      refine (step_eq n4 9 (oneE 7) n5 _ _ nm5 (by intro h; simp [oneE] at h)).mono ?_
      rintro r wb4 ⟨A4, c4, rfl, hb, ho, hrows⟩
      obtain ⟨bf, rfl, hb0, hbl, hr⟩ := hrows (by simp)
      have hgl := H.out.var.lt
      have hrow := (H.out.later hb).var.row
      have hlo := (H.out.later hb).var.loose
      have h1 := ((H.out.step (s' := n5) hb).addp (k := 0) (by omega) hbl (hr 0 _ rfl))
      have hrow2 := h1.var.row
      have hgl2 : gs < wb4.heap.size := by have := h1.var.lt; rwa [put_size] at this
      clear H
      have H := Lib.hid h1
      clear hb ho hrows hb0 hbl hr hgl
      clear h1
      go_wp2_with (go_at_call 13; refine Hid.out ?_)
      clear hrow hlo hrow2 hgl2
      obtain ⟨wC3, hwC⟩ : ∃ wC3, (wb4.put gs 0 n5.cs).alloc (.cells n5.cs 30) = wC3 := ⟨_, rfl⟩
      have h1 := H.out.alloc (s' := n5)
      obtain ⟨g3, hg3⟩ : ∃ g3, (wb4.put gs 0 n5.cs).heap.size = g3 := ⟨_, rfl⟩
      rw [hwC, hg3] at h1
      try rw [put_size] at hg3
      rw [hwC, hg3]
      clear H hwC hg3
      have H := Lib.hid h1
      clear h1
      refine Lib.hid ?_
      refine (step_eq n5 14 (oneE 7) n6 _ _ nm6 (by intro h; simp [oneE] at h)).mono ?_
      rintro r wb5 ⟨A5, c5, rfl, hb, ho, hrows⟩
      obtain ⟨bg, rfl, hb0, hbl, hr⟩ := hrows (by simp)
      have hgl := H.out.var.lt
      have hrow := (H.out.later hb).var.row
      have hlo := (H.out.later hb).var.loose
      have h1 := ((((H.out.step (s' := n6) hb).addp (k := 0) (by omega) hbl (hr 0 _ rfl)).addp (k := 1) (by omega) hbl (hr 1 _ rfl)).addp (k := 2) (by omega) hbl (hr 2 _ rfl))
      have hrow2 := h1.var.row
      have hgl2 : gs < wb5.heap.size := by have := h1.var.lt; rwa [put_size] at this
      clear H
      have H := Lib.hid h1
      clear hb ho hrows hb0 hbl hr hgl
      clear h1
      have q0 : (wb5.put gs 0 n6.cs).cell? ⟨ba, 0, none⟩ = some (.int .i64 2) := H.out.cell (k := 0) (i := 0) (x := ⟨2, zeroMsg, 0⟩) (by simp) (by omega)
      have q1 : (wb5.put gs 0 n6.cs).cell? ⟨bb, 1, none⟩ = some (.int .i64 1) := H.out.cell (k := 0) (i := 1) (x := ⟨1, openM (exCfg 9 false), 0⟩) (by simp) (by omega)
      have q2 : (wb5.put gs 0 n6.cs).cell? ⟨bb, 3, none⟩ = some (.int .i64 9) := H.out.cell (k := 0) (i := 3) (x := ⟨1, openM (exCfg 9 false), 0⟩) (by simp) (by omega)
      have q3 : (wb5.put gs 0 n6.cs).cell? ⟨bb, 4, none⟩ = some (.int .u32 1) := H.out.cell (k := 0) (i := 4) (x := ⟨1, openM (exCfg 9 false), 0⟩) (by simp) (by omega)
      have q4 : (wb5.put gs 0 n6.cs).cell? ⟨bc, 1, none⟩ = some (.int .i64 4) := H.out.cell (k := 0) (i := 1) (x := ⟨1, aliveM, 0⟩) (by simp) (by omega)
      have q5 : (wb5.put gs 0 n6.cs).cell? ⟨bd, 0, none⟩ = some (.int .i64 4) := H.out.cell (k := 0) (i := 0) (x := ⟨4, upM ⟨65000, 6, 2, 0, false⟩, 0⟩) (by simp) (by omega)
      have q6 : (wb5.put gs 0 n6.cs).cell? ⟨bd, 3, none⟩ = some (.int .i64 6) := H.out.cell (k := 0) (i := 3) (x := ⟨4, upM ⟨65000, 6, 2, 0, false⟩, 0⟩) (by simp) (by omega)
      have q7 : (wb5.put gs 0 n6.cs).cell? ⟨bf, 1, none⟩ = some (.int .i64 4) := H.out.cell (k := 0) (i := 1) (x := ⟨1, aliveM, 0⟩) (by simp) (by omega)
      have q8 : (wb5.put gs 0 n6.cs).cell? ⟨g3, 0, none⟩ = some (.int .i64 4) := H.out.vcell (s' := n5) (by simp) 0
      have q9 : (wb5.put gs 0 n6.cs).cell? ⟨g3, 14, none⟩ = some (.int .i64 6) := H.out.vcell (s' := n5) (by simp) 14
      have q10 : (wb5.put gs 0 n6.cs).cell? ⟨gs, 0, none⟩ = some (.int .i64 1) := H.out.var.cell 0
      have q11 : (wb5.put gs 0 n6.cs).cell? ⟨bg, 7, none⟩ = some (.int .i64 4) := H.out.cell (k := 0) (i := 7) (x := ⟨1, noticeM 4 0, 0⟩) (by simp) (by omega)
      have q12 : (wb5.put gs 0 n6.cs).cell? ⟨bg, 8, none⟩ = some (.int .i64 0) := H.out.cell (k := 0) (i := 8) (x := ⟨1, noticeM 4 0, 0⟩) (by simp) (by omega)
      have q13 : (wb5.put gs 0 n6.cs).cell? ⟨bg, 27, none⟩ = some (.int .i64 3) := H.out.cell (k := 1) (i := 0) (x := ⟨3, zeroMsg, 0⟩) (by simp) (by omega)
      have q14 : (wb5.put gs 0 n6.cs).cell? ⟨bg, 54, none⟩ = some (.int .i64 5) := H.out.cell (k := 2) (i := 0) (x := ⟨5, zeroMsg, 2⟩) (by simp) (by omega)
      have q15 : (wb5.put gs 0 n6.cs).cell? ⟨bg, 80, none⟩ = some (.int .i64 2) := H.out.cell (k := 2) (i := 26) (x := ⟨5, zeroMsg, 2⟩) (by simp) (by omega)
      go_upto_region 19 with fail
      obtain ⟨wD, hwD⟩ : ∃ wD, wb5.put gs 0 n6.cs = wD := ⟨_, rfl⟩
      rw [hwD] at H ⊢
      clear q0 q1 q2 q3 q4 q5 q6 q7 q8 q9 q10 q11 q12 q13 q14 q15 hwD hrow hlo hrow2 hgl2
      have hrowC := H.out.row (b := g2) (s' := s2 9) (by simp)
      have hloC : wD.loose g2 := (H.out.vars (g2, s2 9) (by simp)).2.loose
      have hgC : g2 < wD.heap.size := (H.out.vars (g2, s2 9) (by simp)).2.lt
      have Hd := Lib.hid (H.out.later (Below.refl wD.heap.size wD).drew)
      apply cutT
      case main =>
        intro tail
        go_region_law (first
          | (go_simp; go_at_call 14; refine (lopen_any 65001 6 2 _).mono ?_; rintro r wE ⟨rfl, hbE⟩; have hbE1 : Below wD.heap.size wD.drew wE := by { refine Below.trans ?_ (hbE.mono (by simp)); first | exact Below.refl _ _ | exact (Below.refl _ _).alloc (by simp) _ }; have HBE := Lib.hid hbE1; have HE := Lib.hid (Hd.out.later hbE1); have hrowE := HE.out.row (b := g2) (s' := s2 9) (by simp); have hloE : wE.loose g2 := (HE.out.vars (g2, s2 9) (by simp)).2.loose; have hgE : g2 < wE.heap.size := (HE.out.vars (g2, s2 9) (by simp)).2.lt; have hsE : wD.heap.size ≤ wE.heap.size := hbE1.size; (try have hX1 : VarAt wE wD.heap.size zeroSes := (hbE.block wD.heap.size (by simp)).trans (heap_here rfl)); clear hbE hbE1)
          | (go_simp; go_at_call 13; refine (step_eq (s2 9) 7 (openE 65001 6 2) n7 _ _ nm7 (by intro h; simp [s2, s0, newS])).mono ?_; rintro r wF ⟨AF, cF, rfl, hbF, ho, hrows⟩; have hbF1 : Below wE.heap.size wE wF := by { refine Below.trans ?_ (hbF.mono (by simp)); first | exact Below.refl _ _ | exact (Below.refl _ _).alloc (by simp) _ }; have HBF := Lib.hid (((Below.refl wD.heap.size wD).drew.trans HBE.out).trans (hbF1.mono hsE)); obtain ⟨bF, rfl, hb0, hbl, hr⟩ := hrows (by simp); have HR0 := Lib.hid (hr 0 _ rfl); have hs0 : wE.heap.size ≤ bF := by { have := hb0; (try simp at this); omega }; (try have hsX : wE.heap.size < bF := lt_of_alloc hb0); have hsF : wE.heap.size ≤ wF.heap.size := hbF1.size; (try have hX2 : VarAt wF wE.heap.size zeroSes := (hbF.block wE.heap.size (by simp)).trans (heap_here rfl)); (try have hX2 : VarAt wF wD.heap.size zeroSes := hX1.below hbF1); (try have hsX := hX1.lt); (try have hX3 := hX2.row); (try have hX4 := hX2.loose); (try have hX5 := (VarAt.put (s' := n7) hX2).row); clear hbF hbF1 ho hrows hr hb0))
        all_goals
          have hgW : gs < wD.heap.size := H.out.var.lt
          first
            | (obtain ⟨wY, hwY⟩ : ∃ wY, wF.put wE.heap.size 0 n7.cs = wY := ⟨_, rfl⟩; obtain ⟨X, hXX⟩ : ∃ X, wE.heap.size = X := ⟨_, rfl⟩; have h1 := (H.out.later (put_below HBF.out hsE 0 n7.cs)).add (k := 0) (by omega) (by rw [put_size]; exact hbl) ((row_of_block (put_heap_other wF 0 n7.cs (by omega))).trans HR0.out); rw [hwY] at h1; rw [hwY, hXX])
            | (obtain ⟨wY, hwY⟩ : ∃ wY, wF.put wD.heap.size 0 n7.cs = wY := ⟨_, rfl⟩; obtain ⟨X, hXX⟩ : ∃ X, wD.heap.size = X := ⟨_, rfl⟩; have h1 := (H.out.later (put_below HBF.out (Nat.le_refl _) 0 n7.cs)).add (k := 0) (by omega) (by rw [put_size]; exact hbl) ((row_of_block (put_heap_other wF 0 n7.cs (by omega))).trans HR0.out); rw [hwY] at h1; rw [hwY, hXX])
            | (obtain ⟨wY, hwY⟩ : ∃ wY, wF.alloc (.cells n7.cs 30) = wY := ⟨_, rfl⟩; obtain ⟨X, hXX⟩ : ∃ X, wF.heap.size = X := ⟨_, rfl⟩; have h1 := (H.out.later (HBF.out.alloc HBF.out.size (.cells n7.cs 30))).add (k := 0) (by omega) (by simp; omega) ((row_of_block (Below.heap_alloc _ _ _ hbl)).trans HR0.out); rw [hwY] at h1; rw [hwY, hXX])
          clear hwY hXX
          clear hrowE hloE hgE HE HBE HBF HR0 hs0 hsF hbl hsE hgW
          (try clear hX5); (try clear hX4); (try clear hX3); (try clear hX2); (try clear hX1); (try clear hX2); (try clear hsX); (try clear hsX)
          clear wE wF
          revert wY X bF cF
          exact tail.out
      case later =>
        intro cF6 b6 w6 X6 h1
        clear hrowC hloC hgC Hd H
        have H := Lib.hid h1
        clear h1
        go_upto_region 20 with fail
        have hrowC := H.out.row (b := g2) (s' := s2 9) (by simp)
        have hloC : w6.loose g2 := (H.out.vars (g2, s2 9) (by simp)).2.loose
        have hgC : g2 < w6.heap.size := (H.out.vars (g2, s2 9) (by simp)).2.lt
        have Hd := Lib.hid (H.out.later (Below.refl w6.heap.size w6).drew)
        apply cutT
        case main =>
          intro tail
          go_region_law (first
            | (go_simp; go_at_call 14; refine (lopen_any 65000 6 3 _).mono ?_; rintro r wE ⟨rfl, hbE⟩; have hbE1 : Below w6.heap.size w6.drew wE := by { refine Below.trans ?_ (hbE.mono (by simp)); first | exact Below.refl _ _ | exact (Below.refl _ _).alloc (by simp) _ }; have HBE := Lib.hid hbE1; have HE := Lib.hid (Hd.out.later hbE1); have hrowE := HE.out.row (b := g2) (s' := s2 9) (by simp); have hloE : wE.loose g2 := (HE.out.vars (g2, s2 9) (by simp)).2.loose; have hgE : g2 < wE.heap.size := (HE.out.vars (g2, s2 9) (by simp)).2.lt; have hsE : w6.heap.size ≤ wE.heap.size := hbE1.size; (try have hX1 : VarAt wE w6.heap.size zeroSes := (hbE.block w6.heap.size (by simp)).trans (heap_here rfl)); clear hbE hbE1)
            | (go_simp; go_at_call 13; refine (step_eq (s2 9) 7 (openE 65000 6 3) n7 _ _ nm7b (by intro h; simp [s2, s0, newS])).mono ?_; rintro r wF ⟨AF, cF, rfl, hbF, ho, hrows⟩; have hbF1 : Below wE.heap.size wE wF := by { refine Below.trans ?_ (hbF.mono (by simp)); first | exact Below.refl _ _ | exact (Below.refl _ _).alloc (by simp) _ }; have HBF := Lib.hid (((Below.refl w6.heap.size w6).drew.trans HBE.out).trans (hbF1.mono hsE)); obtain ⟨bF, rfl, hb0, hbl, hr⟩ := hrows (by simp); have HR0 := Lib.hid (hr 0 _ rfl); have hs0 : wE.heap.size ≤ bF := by { have := hb0; (try simp at this); omega }; (try have hsX : wE.heap.size < bF := lt_of_alloc hb0); have hsF : wE.heap.size ≤ wF.heap.size := hbF1.size; (try have hX2 : VarAt wF wE.heap.size zeroSes := (hbF.block wE.heap.size (by simp)).trans (heap_here rfl)); (try have hX2 : VarAt wF w6.heap.size zeroSes := hX1.below hbF1); (try have hsX := hX1.lt); (try have hX3 := hX2.row); (try have hX4 := hX2.loose); (try have hX5 := (VarAt.put (s' := n7) hX2).row); clear hbF hbF1 ho hrows hr hb0))
          all_goals
            have hgW : gs < w6.heap.size := H.out.var.lt
            first
              | (obtain ⟨wY, hwY⟩ : ∃ wY, wF.put wE.heap.size 0 n7.cs = wY := ⟨_, rfl⟩; obtain ⟨X, hXX⟩ : ∃ X, wE.heap.size = X := ⟨_, rfl⟩; have h1 := (H.out.later (put_below HBF.out hsE 0 n7.cs)).add (k := 0) (by omega) (by rw [put_size]; exact hbl) ((row_of_block (put_heap_other wF 0 n7.cs (by omega))).trans HR0.out); rw [hwY] at h1; rw [hwY, hXX])
              | (obtain ⟨wY, hwY⟩ : ∃ wY, wF.put w6.heap.size 0 n7.cs = wY := ⟨_, rfl⟩; obtain ⟨X, hXX⟩ : ∃ X, w6.heap.size = X := ⟨_, rfl⟩; have h1 := (H.out.later (put_below HBF.out (Nat.le_refl _) 0 n7.cs)).add (k := 0) (by omega) (by rw [put_size]; exact hbl) ((row_of_block (put_heap_other wF 0 n7.cs (by omega))).trans HR0.out); rw [hwY] at h1; rw [hwY, hXX])
              | (obtain ⟨wY, hwY⟩ : ∃ wY, wF.alloc (.cells n7.cs 30) = wY := ⟨_, rfl⟩; obtain ⟨X, hXX⟩ : ∃ X, wF.heap.size = X := ⟨_, rfl⟩; have h1 := (H.out.later (HBF.out.alloc HBF.out.size (.cells n7.cs 30))).add (k := 0) (by omega) (by simp; omega) ((row_of_block (Below.heap_alloc _ _ _ hbl)).trans HR0.out); rw [hwY] at h1; rw [hwY, hXX])
            clear hwY hXX
            clear hrowE hloE hgE HE HBE HBF HR0 hs0 hsF hbl hsE hgW
            (try clear hX5); (try clear hX4); (try clear hX3); (try clear hX2); (try clear hX1); (try clear hX2); (try clear hsX); (try clear hsX)
            clear wE wF
            revert wY X bF cF
            exact tail.out
        case later =>
          intro cF7 b7 w7 X7 h1
          clear hrowC hloC hgC Hd H
          have H := Lib.hid h1
          clear h1
          go_upto_region 21 with fail
          have hrowC := H.out.row (b := g2) (s' := s2 9) (by simp)
          have hloC : w7.loose g2 := (H.out.vars (g2, s2 9) (by simp)).2.loose
          have hgC : g2 < w7.heap.size := (H.out.vars (g2, s2 9) (by simp)).2.lt
          have Hd := Lib.hid (H.out.later (Below.refl w7.heap.size w7).drew)
          apply cutT
          case main =>
            intro tail
            go_region_law (first
              | (go_simp; go_at_call 14; refine (lopen_any 65000 2 2 _).mono ?_; rintro r wE ⟨rfl, hbE⟩; have hbE1 : Below w7.heap.size w7.drew wE := by { refine Below.trans ?_ (hbE.mono (by simp)); first | exact Below.refl _ _ | exact (Below.refl _ _).alloc (by simp) _ }; have HBE := Lib.hid hbE1; have HE := Lib.hid (Hd.out.later hbE1); have hrowE := HE.out.row (b := g2) (s' := s2 9) (by simp); have hloE : wE.loose g2 := (HE.out.vars (g2, s2 9) (by simp)).2.loose; have hgE : g2 < wE.heap.size := (HE.out.vars (g2, s2 9) (by simp)).2.lt; have hsE : w7.heap.size ≤ wE.heap.size := hbE1.size; (try have hX1 : VarAt wE w7.heap.size zeroSes := (hbE.block w7.heap.size (by simp)).trans (heap_here rfl)); clear hbE hbE1)
              | (go_simp; go_at_call 13; refine (step_eq (s2 9) 7 (openE 65000 2 2) n7 _ _ nm7c (by intro h; simp [s2, s0, newS])).mono ?_; rintro r wF ⟨AF, cF, rfl, hbF, ho, hrows⟩; have hbF1 : Below wE.heap.size wE wF := by { refine Below.trans ?_ (hbF.mono (by simp)); first | exact Below.refl _ _ | exact (Below.refl _ _).alloc (by simp) _ }; have HBF := Lib.hid (((Below.refl w7.heap.size w7).drew.trans HBE.out).trans (hbF1.mono hsE)); obtain ⟨bF, rfl, hb0, hbl, hr⟩ := hrows (by simp); have HR0 := Lib.hid (hr 0 _ rfl); have hs0 : wE.heap.size ≤ bF := by { have := hb0; (try simp at this); omega }; (try have hsX : wE.heap.size < bF := lt_of_alloc hb0); have hsF : wE.heap.size ≤ wF.heap.size := hbF1.size; (try have hX2 : VarAt wF wE.heap.size zeroSes := (hbF.block wE.heap.size (by simp)).trans (heap_here rfl)); (try have hX2 : VarAt wF w7.heap.size zeroSes := hX1.below hbF1); (try have hsX := hX1.lt); (try have hX3 := hX2.row); (try have hX4 := hX2.loose); (try have hX5 := (VarAt.put (s' := n7) hX2).row); clear hbF hbF1 ho hrows hr hb0))
            all_goals
              have hgW : gs < w7.heap.size := H.out.var.lt
              first
                | (obtain ⟨wY, hwY⟩ : ∃ wY, wF.put wE.heap.size 0 n7.cs = wY := ⟨_, rfl⟩; obtain ⟨X, hXX⟩ : ∃ X, wE.heap.size = X := ⟨_, rfl⟩; have h1 := (H.out.later (put_below HBF.out hsE 0 n7.cs)).add (k := 0) (by omega) (by rw [put_size]; exact hbl) ((row_of_block (put_heap_other wF 0 n7.cs (by omega))).trans HR0.out); rw [hwY] at h1; rw [hwY, hXX])
                | (obtain ⟨wY, hwY⟩ : ∃ wY, wF.put w7.heap.size 0 n7.cs = wY := ⟨_, rfl⟩; obtain ⟨X, hXX⟩ : ∃ X, w7.heap.size = X := ⟨_, rfl⟩; have h1 := (H.out.later (put_below HBF.out (Nat.le_refl _) 0 n7.cs)).add (k := 0) (by omega) (by rw [put_size]; exact hbl) ((row_of_block (put_heap_other wF 0 n7.cs (by omega))).trans HR0.out); rw [hwY] at h1; rw [hwY, hXX])
                | (obtain ⟨wY, hwY⟩ : ∃ wY, wF.alloc (.cells n7.cs 30) = wY := ⟨_, rfl⟩; obtain ⟨X, hXX⟩ : ∃ X, wF.heap.size = X := ⟨_, rfl⟩; have h1 := (H.out.later (HBF.out.alloc HBF.out.size (.cells n7.cs 30))).add (k := 0) (by omega) (by simp; omega) ((row_of_block (Below.heap_alloc _ _ _ hbl)).trans HR0.out); rw [hwY] at h1; rw [hwY, hXX])
              clear hwY hXX
              clear hrowE hloE hgE HE HBE HBF HR0 hs0 hsF hbl hsE hgW
              (try clear hX5); (try clear hX4); (try clear hX3); (try clear hX2); (try clear hX1); (try clear hX2); (try clear hsX); (try clear hsX)
              clear wE wF
              revert wY X bF cF
              exact tail.out
          case later =>
            intro cF8 b8 w8 X8 h1
            clear hrowC hloC hgC Hd H
            have H := Lib.hid h1
            clear h1
            have hrow := H.out.row (b := g3) (s' := n5) (by simp)
            have hlo : w8.loose g3 := (H.out.vars (g3, n5) (by simp)).2.loose
            go_wp2_with (go_at_call 13; refine Hid.out ?_)
            clear hrow hlo
            refine Lib.hid ?_
            refine (step_eq n5 9 (oneE 2) n8 _ _ nm8 (by intro h; simp [oneE] at h)).mono ?_
            rintro r w9 ⟨A9, c9, rfl, hb, ho, hrows⟩
            obtain ⟨b9, rfl, hb0, hbl, hr⟩ := hrows (by simp)
            have hgl := H.out.var.lt
            have h1 := (((H.out.later hb).add (k := 0) (by omega) hbl (hr 0 _ rfl)).add (k := 2) (by omega) hbl (hr 2 _ rfl)).alloc (s' := n8)
            clear H
            have H := Lib.hid h1
            have hrow := H.out.row (b := w9.heap.size) (s' := n8) (by simp)
            clear hb ho hrows hb0 hbl hr hgl
            clear h1
            go_wp2_with (go_at_call 13; refine Hid.out ?_)
            obtain ⟨wA9, hwA⟩ : ∃ wA9, w9.alloc (.cells n8.cs 30) = wA9 := ⟨_, rfl⟩
            obtain ⟨gt, hgt⟩ : ∃ gt, w9.heap.size = gt := ⟨_, rfl⟩
            rw [hwA, hgt] at H ⊢
            clear hrow hwA hgt
            refine Lib.hid ?_
            refine (step_eq n8 10 (oneE 3) n8 _ _ nm9 (by intro h; simp [oneE] at h)).mono ?_
            rintro r w10 ⟨A10, c10, rfl, hb, ho, hrows⟩
            obtain ⟨b10, rfl, hb0, hbl, hr⟩ := hrows (by simp)
            have hgl := H.out.var.lt
            have h1 := ((H.out.later hb).add (k := 0) (by omega) hbl (hr 0 _ rfl)).alloc (s' := n8)
            clear H
            have H := Lib.hid h1
            clear hb ho hrows hb0 hbl hr hgl
            clear h1
            go_upto_region 26 with fail
            obtain ⟨wA10, hwA⟩ : ∃ wA10, w10.alloc (.cells n8.cs 30) = wA10 := ⟨_, rfl⟩
            rw [hwA] at H ⊢
            clear hwA
            have hr0 : rightB ⟨65000, 1, 1, 9, 5, 0, false, false⟩ = false := rfl
            have hr1 : rightB (exCfg 2 false) = false := rfl
            have hr2 : rightB ⟨0, 0, 0, 0, 0, 0, false, false⟩ = false := rfl
            have HR0 := Lib.hid hr0
            have HR1 := Lib.hid hr1
            have HR2 := Lib.hid hr2
            clear hr0 hr1 hr2
            go_wp2_with (first
              | (go_at_call 12; refine (config_any 9 false _).mono ?_; rintro r wB ⟨rfl, hb⟩; have HB := Lib.hid ((H.out.later hb).later ((Below.refl _ _).alloc (Nat.le_refl _) (.cells (Cfg.cs ⟨65000, 1, 1, 9, 5, 0, false, false⟩) 26))); clear hb)
              | (go_at_call 12; refine (config_any 2 false _).mono ?_; rintro r wE ⟨rfl, hb⟩; have HE := Lib.hid (HC.out.later hb); clear hb)
              | (go_at_call 11; refine (new_bad ⟨65000, 1, 1, 9, 5, 0, false, false⟩ _ HR0.out).mono ?_; rintro r wC ⟨rfl, hb⟩; have HC := Lib.hid ((HB.out.later hb).alloc (s' := zeroSes)); clear hb)
              | (go_at_call 11; refine (new_bad (exCfg 2 false) _ HR1.out).mono ?_; rintro r wF ⟨rfl, hb⟩; have HF := Lib.hid ((HE.out.later hb).alloc (s' := zeroSes)); clear hb)
              | (go_at_call 11; refine (new_bad ⟨0, 0, 0, 0, 0, 0, false, false⟩ _ HR2.out).mono ?_; rintro r wG ⟨rfl, hb⟩; have HN0 := HF.out.later hb; have q0 : wG.cell? ⟨b6, 8, none⟩ = some (.int .i64 2) := HN0.cell (k := 0) (i := 8) (x := ⟨1, noticeM 2 2, 0⟩) (by simp) (by omega); have q1 : wG.cell? ⟨b7, 8, none⟩ = some (.int .i64 3) := HN0.cell (k := 0) (i := 8) (x := ⟨1, noticeM 2 3, 0⟩) (by simp) (by omega); have q2 : wG.cell? ⟨b8, 8, none⟩ = some (.int .i64 6) := HN0.cell (k := 0) (i := 8) (x := ⟨1, noticeM 2 6, 0⟩) (by simp) (by omega); have q3 : wG.cell? ⟨gt, 0, none⟩ = some (.int .i64 0) := HN0.vcell (s' := n8) (by simp) 0; have q4 : wG.cell? ⟨b9, 7, none⟩ = some (.int .i64 6) := HN0.cell (k := 0) (i := 7) (x := ⟨1, noticeM 6 2, 0⟩) (by simp) (by omega); have q5 : wG.cell? ⟨b9, 8, none⟩ = some (.int .i64 2) := HN0.cell (k := 0) (i := 8) (x := ⟨1, noticeM 6 2, 0⟩) (by simp) (by omega); have q6 : wG.cell? ⟨b9, 80, none⟩ = some (.int .i64 5) := HN0.cell (k := 2) (i := 26) (x := ⟨5, zeroMsg, 5⟩) (by simp) (by omega); have q7 : wG.cell? ⟨b10, 0, none⟩ = some (.int .i64 3) := HN0.cell (k := 0) (i := 0) (x := ⟨3, zeroMsg, 0⟩) (by simp) (by omega); have l0 : b6 < wG.heap.size := (HN0.rows (b6, 0, ⟨1, noticeM 2 2, 0⟩) (by simp)).2.1; have l1 : b7 < wG.heap.size := (HN0.rows (b7, 0, ⟨1, noticeM 2 3, 0⟩) (by simp)).2.1; have l2 : b8 < wG.heap.size := (HN0.rows (b8, 0, ⟨1, noticeM 2 6, 0⟩) (by simp)).2.1; have l3 : gt < wG.heap.size := (HN0.vars (gt, n8) (by simp)).2.lt; have l4 : b9 < wG.heap.size := (HN0.rows (b9, 0, ⟨1, noticeM 6 2, 0⟩) (by simp)).2.1; have l5 : b10 < wG.heap.size := (HN0.rows (b10, 0, ⟨3, zeroMsg, 0⟩) (by simp)).2.1; have HG := Lib.hid (HN0.alloc (s' := zeroSes)); clear hb HN0))
            go_ret
            exact ⟨rfl, HG.out.below⟩
end Go.Proofs.Ytfconglamkkcoaa
