import Derived.Test.YtfconglamkkcoaaJ
/- A new session. -/
namespace Go.Proofs.Ytfconglamkkcoaa
open Go.RowKit
set_option linter.unusedSimpArgs false
set_option linter.unusedVariables false

theorem results_row2 {P : Program} {fn : Func} {t u T n : Nat} (h : fn.results = #[.cell t T, .tmp u]) (hT : AggTy P T n) {tmps : Array Value} {b off : Nat} {w : World} {cs : Array Value} {x : Value} (ht : tmps.getD t undef = .pointer (some ⟨b, off, none⟩)) (hu : tmps.getD u undef = x) (hc : w.row? b off n = some cs) :
    (results fn tmps).run P w = .ok (.tuple #[.agg cs, x]) w := by
  subst hu
  have ht' : tmps[t]?.getD undef = .pointer (some ⟨b, off, none⟩) := by simpa using ht
  simp [results, h, ht', asAddr, loadVar_agg hT hc]
def newS (c : Cfg) : Ses := ⟨0, c, zeroOpen, 0, -1, -1, -1⟩
def zeroCfg : Cfg := ⟨0, 0, 0, 0, 0, 0, false, false⟩
def zeroSes : Ses := ⟨0, zeroCfg, zeroOpen, 0, 0, 0, 0⟩
theorem right_val (c : Cfg) (b : Bool) (hb : rightB c = b) (w : World) : Calls Try.prog 28 #[.agg c.cs] w fun e w' => e = .returned (.bool b) ∧ Below w.heap.size w w' := by
  subst hb; exact right_any c w
@[go_sem] theorem build_ses (a b d e f : Int) (c : Cfg) : Array.foldl (fun (cs : Array Value) (x : Value × Nat) => cs.setIfInBounds (1 + x.2) x.1) #[.int .i64 a, .int .u32 0, .int .u32 0, .int .u32 0, .int .i64 0, .int .i64 0, .int .i64 0, .bool false, .bool false, .int .u32 0, .int .i64 0, .int .u32 0, .int .i64 0, .bool false, .int .i64 b, .int .i64 d, .int .i64 e, .int .i64 f] c.cs.zipIdx 0 8 = Ses.cs ⟨a, c, zeroOpen, b, d, e, f⟩ := by
  rw [build_part _ _ _ _ (by simp) (by simp)]
  simp [splice, Ses.cs, Cfg.cs, zeroOpen]
set_option maxHeartbeats 1000000 in
theorem new_good (c : Cfg) (w : World) (hr : rightB c = true) : Calls Try.prog 11 #[.agg c.cs] w fun e w' => e = .returned (.tuple #[.agg (newS c).cs, .int .i64 0]) ∧ Below w.heap.size w w' := by
  have HR := Lib.hid hr
  clear hr
  go_enter Try.func11, Try.ntmps11
  go_upto_region 3 with (go_at_call 28; refine (right_val c _ HR.out _).mono ?_; rintro e w1 ⟨rfl, hb1⟩; have HB1 := Lib.hid hb1; clear hb1)
  have hz : (#[.int .i64 0, .int .u32 0, .int .u32 0, .int .u32 0, .int .i64 0, .int .i64 0, .int .i64 0, .bool false, .bool false, .int .u32 0, .int .i64 0, .int .u32 0, .int .i64 0, .bool false, .int .i64 0, .int .i64 0, .int .i64 0, .int .i64 0] : Array Value) = zeroSes.cs := rfl
  have hb1 := HB1.out
  rw [hz] at hb1
  have h1 : w1.heap[w.heap.size]? = some (.cells c.cs 26 (0, 0)) := (hb1.block _ (by simp; omega)).trans ((Below.heap_alloc _ _ _ (by simp)).trans (heap_here rfl))
  have h2 : w1.heap[w.heap.size + 1]? = some (.cells zeroSes.cs 30 (0, 0)) := (hb1.block _ (by simp)).trans (heap_here (by simp))
  have hbw : Below w.heap.size w w1 := (((Below.refl _ _).alloc (Nat.le_refl _) _).alloc (by simp) _).trans (hb1.mono (by simp; omega))
  have hr1 : w1.row? w.heap.size 0 8 = some c.cs := row?_whole h1 (by simp)
  have hr2 : w1.row? (w.heap.size + 1) 0 18 = some zeroSes.cs := row?_whole h2 (by simp)
  have hl2 : w1.loose (w.heap.size + 1) := ⟨_, _, h2⟩
  have H2 := Lib.hid h2
  have HBW := Lib.hid hbw
  obtain ⟨g1, hg1⟩ : ∃ g, w.heap.size = g := ⟨_, rfl⟩
  rw [hg1] at hr1 hr2 hl2 H2 HBW ⊢
  clear hz hb1 h1 h2 hbw HB1
  have HG := Lib.hid hg1
  clear hg1
  go_wp2_with fail
  refine bodyPost_ret (v := .tuple #[.agg (newS c).cs, .int .i64 0]) (results_row2 rfl agg30 (b := g1 + 1) (off := 0) rfl rfl ?_) rfl ⟨rfl, ?_⟩
  · exact row?_whole (z := (newS c).cs) (put_heap_whole H2.out (by simp)) (by simp)
  rw [HG.out]
  exact put_below HBW.out (by omega) _ _
set_option maxHeartbeats 1000000 in
theorem new_bad (c : Cfg) (w : World) (hr : rightB c = false) : Calls Try.prog 11 #[.agg c.cs] w fun e w' => e = .returned (.tuple #[.agg zeroSes.cs, .int .i64 2]) ∧ Below w.heap.size w w' := by
  have HR := Lib.hid hr
  clear hr
  go_enter Try.func11, Try.ntmps11
  go_upto_region 2 with (go_at_call 28; refine (right_val c _ HR.out _).mono ?_; rintro e w1 ⟨rfl, hb1⟩; have HB1 := Lib.hid hb1; clear hb1)
  have hz : (#[.int .i64 0, .int .u32 0, .int .u32 0, .int .u32 0, .int .i64 0, .int .i64 0, .int .i64 0, .bool false, .bool false, .int .u32 0, .int .i64 0, .int .u32 0, .int .i64 0, .bool false, .int .i64 0, .int .i64 0, .int .i64 0, .int .i64 0] : Array Value) = zeroSes.cs := rfl
  have hb1 := HB1.out
  rw [hz] at hb1
  have h1 : w1.heap[w.heap.size]? = some (.cells c.cs 26 (0, 0)) := (hb1.block _ (by simp; omega)).trans ((Below.heap_alloc _ _ _ (by simp)).trans (heap_here rfl))
  have h2 : w1.heap[w.heap.size + 1]? = some (.cells zeroSes.cs 30 (0, 0)) := (hb1.block _ (by simp)).trans (heap_here (by simp))
  have hbw : Below w.heap.size w w1 := (((Below.refl _ _).alloc (Nat.le_refl _) _).alloc (by simp) _).trans (hb1.mono (by simp; omega))
  have hr1 : w1.row? w.heap.size 0 8 = some c.cs := row?_whole h1 (by simp)
  have hr2 : w1.row? (w.heap.size + 1) 0 18 = some zeroSes.cs := row?_whole h2 (by simp)
  have hl2 : w1.loose (w.heap.size + 1) := ⟨_, _, h2⟩
  have H2 := Lib.hid h2
  have HBW := Lib.hid hbw
  obtain ⟨g1, hg1⟩ : ∃ g, w.heap.size = g := ⟨_, rfl⟩
  rw [hg1] at hr1 hr2 hl2 H2 HBW ⊢
  clear hz hb1 h1 h2 hbw HB1
  have HG := Lib.hid hg1
  clear hg1
  go_wp2_with fail
  refine bodyPost_ret (v := .tuple #[.agg zeroSes.cs, .int .i64 2]) (results_row2 rfl agg30 (b := g1 + 1) (off := 0) rfl rfl ?_) rfl ⟨rfl, ?_⟩
  · exact row?_whole (z := zeroSes.cs) (put_heap_whole H2.out (by simp)) (by simp)
  rw [HG.out]
  exact put_below HBW.out (by omega) _ _
end Go.Proofs.Ytfconglamkkcoaa
