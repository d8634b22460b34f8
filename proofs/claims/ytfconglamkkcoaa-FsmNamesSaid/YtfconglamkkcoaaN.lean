import Derived.Test.YtfconglamkkcoaaM
/- The statements' small functions. -/
namespace Go.Proofs.Ytfconglamkkcoaa
open Go.RowKit
set_option linter.unusedSimpArgs false
set_option linter.unusedVariables false

/-- What a step leaves, its actions written out. -/
def StepOut (W : World) (s : Ses) (L : List Acn) (e : Ending) (w' : World) : Prop :=
  ∃ A c, e = .returned (.tuple #[.agg s.cs, .slice A L.length c]) ∧ Below W.heap.size W w' ∧ w'.ownsRow W.heap.size 53 27 (.slice A L.length c) L.length (cat Acn.cs L) ∧
    (0 < L.length → ∃ b, A = some ⟨b, 0, none⟩ ∧ W.heap.size ≤ b ∧ b < w'.heap.size ∧ ∀ k x, L[k]? = some x → w'.row? b (k * 27) 27 = some x.cs)
theorem StepPost.out {W w' : World} {s : Ses} {L : List Acn} {e : Ending} (h : StepPost W s L e w') : StepOut W s L e w' := by
  obtain ⟨v, rfl, hown, hb⟩ := h
  obtain ⟨hl, A, cap, hv, hc, hr⟩ := rows_of_owns Acn.cs (n := 27) (fun x => x.size_cs) hown (by omega)
  exact ⟨A, cap, by rw [hv], hb, by rw [← hv]; exact hown, hr⟩
def notDelivered (s : Ses) (e : EvV) : Prop := e.kind = 5 → ¬ (s.phase = 4 ∧ (e.m.kind = 2 ∨ e.m.kind = 5))
theorem step_any (s : Ses) (now : Int) (e : EvV) (W : World) (hnd : notDelivered s e) : Calls Try.prog 13 #[.agg s.cs, .agg e.cs, .int .i64 now] W (StepOut W (stepS s now e).1 (stepS s now e).2) := by
  unfold stepS
  by_cases hg : goodB s now = true
  · rw [if_pos hg]
    exact (step_good s now e W hg (fun _ h => hnd h)).mono fun r w' h => h.out
  · rw [if_neg hg]
    exact (step_bad s now e W (by simpa using hg)).mono fun r w' h => h.out
theorem step_eq (s : Ses) (now : Int) (e : EvV) (s' : Ses) (L : List Acn) (W : World) (h : stepS s now e = (s', L)) (hnd : notDelivered s e) : Calls Try.prog 13 #[.agg s.cs, .agg e.cs, .int .i64 now] W (StepOut W s' L) := by
  have := step_any s now e W hnd
  rw [h] at this
  exact this

/-- A session's variable lies in block b. -/
def VarAt (w : World) (b : Nat) (s : Ses) : Prop := w.heap[b]? = some (.cells s.cs 30 (0, 0))
section
variable {w w' : World} {b : Nat} {s s' : Ses}
theorem VarAt.lt (h : VarAt w b s) : b < w.heap.size := (Array.getElem?_eq_some_iff.1 h).1
theorem VarAt.row (h : VarAt w b s) : w.row? b 0 18 = some s.cs := row?_whole h (by simp)
theorem VarAt.loose (h : VarAt w b s) : w.loose b := ⟨_, _, h⟩
theorem VarAt.below (h : VarAt w b s) (hb : Below w.heap.size w w') : VarAt w' b s := (hb.block b h.lt).trans h
theorem VarAt.put (h : VarAt w b s) : VarAt (w.put b 0 s'.cs) b s' := put_heap_whole h (by simp)
theorem VarAt.cell (h : VarAt w b s) (i : Nat) : w.cell? ⟨b, i, none⟩ = s.cs[i]? := by
  have h' : w.heap[b]? = some (.cells s.cs 30 (0, 0)) := h
  simp [World.cell?, h']
end
def exCfg (hold : Int) (p : Bool) : Cfg := ⟨65000, 1, 2, hold, 5, 0, p, false⟩
theorem config_any (hold : Int) (p : Bool) (W : World) : Calls Try.prog 12 #[.int .i64 hold, .bool p] W fun e w' => e = .returned (.agg (exCfg hold p).cs) ∧ Below W.heap.size W w' := by
  go_enter Try.func12, Try.ntmps12
  go_wp2_with fail
  refine bodyPost_ret (v := .agg (exCfg hold p).cs) (results_row rfl agg26 (b := W.heap.size) (off := 0) rfl ?_) rfl ⟨rfl, (Below.refl _ _).alloc (Nat.le_refl _) _⟩
  exact row?_whole (z := (exCfg hold p).cs) (heap_here rfl) (by simp)
def openE (n hold id : Int) : EvV := ⟨5, { zeroMsg with kind := 1, o := ⟨n, hold, id, 0, false⟩ }⟩
theorem lopen_any (n hold id : Int) (W : World) : Calls Try.prog 14 #[.int .u32 n, .int .i64 hold, .int .u32 id] W fun e w' => e = .returned (.agg (openE n hold id).cs) ∧ Below W.heap.size W w' := by
  go_enter Try.func14, Try.ntmps14
  go_wp2_with fail
  refine bodyPost_ret (v := .agg (openE n hold id).cs) (results_row rfl agg49 (b := W.heap.size) (off := 0) rfl ?_) rfl ⟨rfl, (Below.refl _ _).alloc (Nat.le_refl _) _⟩
  exact row?_whole (z := (openE n hold id).cs) (heap_here rfl) (by simp)
def aliveE : EvV := ⟨5, aliveM⟩
theorem lalive_any (W : World) : Calls Try.prog 15 #[] W fun e w' => e = .returned (.agg aliveE.cs) ∧ Below W.heap.size W w' := by
  go_enter Try.func15, Try.ntmps15
  go_wp2_with fail
  refine bodyPost_ret (v := .agg aliveE.cs) (results_row rfl agg49 (b := W.heap.size) (off := 0) rfl ?_) rfl ⟨rfl, (Below.refl _ _).alloc (Nat.le_refl _) _⟩
  exact row?_whole (z := aliveE.cs) (heap_here rfl) (by simp)
def oneE (k : Int) : EvV := ⟨k, zeroMsg⟩
def s0 (h : Int) (p : Bool) : Ses := newS (exCfg h p)
def s1 (h : Int) : Ses := { s0 h false with phase := 1, retry := 5 }
def s2 (h : Int) : Ses := { s0 h false with phase := 2, expire := 36, retry := -1 }
def s3 (h : Int) : Ses := { s0 h false with phase := 3, o := ⟨65000, h, 2, 0, false⟩, hold := h, expire := if 0 < h then 7 + h else -1, alive := if 0 < h then 7 + h / 3 else -1, retry := -1 }
def s4 (h : Int) : Ses := { s3 h with phase := 4, expire := if 0 < h then 8 + h else -1 }
theorem right_ex {h : Int} (hh : heldB h = true) (p : Bool) : rightB (exCfg h p) = true := by simp [rightB, exCfg, hh]
theorem ex01 {h : Int} (hh : heldB h = true) : stepS (s0 h false) 0 (oneE 1) = (s1 h, [⟨2, zeroMsg, 0⟩]) := by
  have hg : goodB (s0 h false) 0 = true := by simp [goodB, validB, s0, newS, right_ex hh, heldB, timedB]
  unfold stepS
  rw [if_pos hg]
  simp [phaseS, idleS, s0, newS, oneE, exCfg, laterS, s1]
theorem ex12 {h : Int} (hh : heldB h = true) : stepS (s1 h) 6 (oneE 3) = (s2 h, [⟨1, openM (exCfg h false), 0⟩]) := by
  have hg : goodB (s1 h) 6 = true := by simp [goodB, validB, s1, s0, newS, right_ex hh, heldB, timedB]
  unfold stepS
  rw [if_pos hg]
  simp [phaseS, connectS, s0, newS, oneE, s1, s2]
theorem ex23 {h : Int} (hh : heldB h = true) : stepS (s2 h) 7 (openE 65000 h 2) = (s3 h, [⟨1, aliveM, 0⟩]) := by
  have hg : goodB (s2 h) 7 = true := by simp [goodB, validB, s2, s0, newS, right_ex hh, heldB, timedB]
  unfold stepS
  rw [if_pos hg]
  simp [phaseS, lateS, messageS, openS, openedS, heardS, aliveS, s0, newS, openE, s2, s3, zeroMsg, exCfg, hh]
theorem ex34 {h : Int} (hh : heldB h = true) : stepS (s3 h) 8 aliveE = (s4 h, [⟨4, upM ⟨65000, h, 2, 0, false⟩, 0⟩]) := by
  have hb := held_bounds hh
  have ht : ∀ a : Int, 0 ≤ a → a ≤ 70000 → timedB (if 0 < h then a else -1) = true := fun a h0 h1 => by split <;> simp [timedB] <;> omega
  have hg : goodB (s3 h) 8 = true := by
    simp [goodB, validB, s3, s0, newS, right_ex hh, hh, ht (7 + h) (by omega) (by omega), ht (7 + h / 3) (by omega) (by omega)]
    simp [timedB]
  unfold stepS
  rw [if_pos hg]
  simp [phaseS, lateS, messageS, heardS, s0, newS, aliveE, aliveM, s3, s4, zeroMsg]
  by_cases h0 : 0 < h <;> simp [h0]
end Go.Proofs.Ytfconglamkkcoaa
