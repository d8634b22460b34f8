import Derived.Test.YtkklhidoonefoaaF

/- step: one element of a route's rank made larger. -/
namespace Go.Proofs.Ytkklhidoonefoaa
open Go.RowKit
set_option linter.unusedSimpArgs false
set_option linter.unusedVariables false
@[go_sem] theorem Rt.set37 (r : Rt) (x : Bool) : r.cs.setIfInBounds 37 (.bool x) = Rt.cs { r with stale := x } := by simp [Rt.cs]
@[go_sem] theorem Rt.set37' (r : Rt) (x : Bool) (h : 37 < r.cs.size) : r.cs.set 37 (.bool x) h = Rt.cs { r with stale := x } := by simp [Rt.cs]
@[go_sem] theorem Rt.set36 (r : Rt) (x : Int) : r.cs.setIfInBounds 36 (.int .u32 x) = Rt.cs { r with peer := x } := by simp [Rt.cs]
@[go_sem] theorem Rt.set36' (r : Rt) (x : Int) (h : 36 < r.cs.size) : r.cs.set 36 (.int .u32 x) h = Rt.cs { r with peer := x } := by simp [Rt.cs]
@[go_sem] theorem Rt.set21 (r : Rt) (x : Int) : r.cs.setIfInBounds 21 (.int .i64 x) = Rt.cs { r with a := { r.a with origin := x } } := by simp [Rt.cs]
@[go_sem] theorem Rt.set21' (r : Rt) (x : Int) (h : 21 < r.cs.size) : r.cs.set 21 (.int .i64 x) h = Rt.cs { r with a := { r.a with origin := x } } := by simp [Rt.cs]
@[go_sem] theorem Rt.set22 (r : Rt) (x : Sl) : r.cs.setIfInBounds 22 (.slice x.a x.n x.c) = Rt.cs { r with a := { r.a with path := x } } := by simp [Rt.cs]
@[go_sem] theorem Rt.set22' (r : Rt) (x : Sl) (h : 22 < r.cs.size) : r.cs.set 22 (.slice x.a x.n x.c) h = Rt.cs { r with a := { r.a with path := x } } := by simp [Rt.cs]
@[go_sem] theorem Rt.set23 (r : Rt) (x : Int) : r.cs.setIfInBounds 23 (.int .u32 x) = Rt.cs { r with a := { r.a with next := x } } := by simp [Rt.cs]
@[go_sem] theorem Rt.set23' (r : Rt) (x : Int) (h : 23 < r.cs.size) : r.cs.set 23 (.int .u32 x) h = Rt.cs { r with a := { r.a with next := x } } := by simp [Rt.cs]
@[go_sem] theorem Rt.set24 (r : Rt) (x : Bool) : r.cs.setIfInBounds 24 (.bool x) = Rt.cs { r with a := { r.a with hasMed := x } } := by simp [Rt.cs]
@[go_sem] theorem Rt.set24' (r : Rt) (x : Bool) (h : 24 < r.cs.size) : r.cs.set 24 (.bool x) h = Rt.cs { r with a := { r.a with hasMed := x } } := by simp [Rt.cs]
@[go_sem] theorem Rt.set25 (r : Rt) (x : Int) : r.cs.setIfInBounds 25 (.int .u32 x) = Rt.cs { r with a := { r.a with med := x } } := by simp [Rt.cs]
@[go_sem] theorem Rt.set25' (r : Rt) (x : Int) (h : 25 < r.cs.size) : r.cs.set 25 (.int .u32 x) h = Rt.cs { r with a := { r.a with med := x } } := by simp [Rt.cs]
@[go_sem] theorem Rt.set26 (r : Rt) (x : Bool) : r.cs.setIfInBounds 26 (.bool x) = Rt.cs { r with a := { r.a with hasPref := x } } := by simp [Rt.cs]
@[go_sem] theorem Rt.set26' (r : Rt) (x : Bool) (h : 26 < r.cs.size) : r.cs.set 26 (.bool x) h = Rt.cs { r with a := { r.a with hasPref := x } } := by simp [Rt.cs]
@[go_sem] theorem Rt.set27 (r : Rt) (x : Int) : r.cs.setIfInBounds 27 (.int .u32 x) = Rt.cs { r with a := { r.a with pref := x } } := by simp [Rt.cs]
@[go_sem] theorem Rt.set27' (r : Rt) (x : Int) (h : 27 < r.cs.size) : r.cs.set 27 (.int .u32 x) h = Rt.cs { r with a := { r.a with pref := x } } := by simp [Rt.cs]
@[go_sem] theorem Rt.set28 (r : Rt) (x : Bool) : r.cs.setIfInBounds 28 (.bool x) = Rt.cs { r with a := { r.a with hasOrig := x } } := by simp [Rt.cs]
@[go_sem] theorem Rt.set28' (r : Rt) (x : Bool) (h : 28 < r.cs.size) : r.cs.set 28 (.bool x) h = Rt.cs { r with a := { r.a with hasOrig := x } } := by simp [Rt.cs]
@[go_sem] theorem Rt.set29 (r : Rt) (x : Int) : r.cs.setIfInBounds 29 (.int .u32 x) = Rt.cs { r with a := { r.a with orig := x } } := by simp [Rt.cs]
@[go_sem] theorem Rt.set29' (r : Rt) (x : Int) (h : 29 < r.cs.size) : r.cs.set 29 (.int .u32 x) h = Rt.cs { r with a := { r.a with orig := x } } := by simp [Rt.cs]
@[go_sem] theorem Rt.set30 (r : Rt) (x : Sl) : r.cs.setIfInBounds 30 (.slice x.a x.n x.c) = Rt.cs { r with a := { r.a with clus := x } } := by simp [Rt.cs]
@[go_sem] theorem Rt.set30' (r : Rt) (x : Sl) (h : 30 < r.cs.size) : r.cs.set 30 (.slice x.a x.n x.c) h = Rt.cs { r with a := { r.a with clus := x } } := by simp [Rt.cs]


theorem pick_val (x n v : Int) (hv : x % n = v) (w : World) (hn : 0 < n) (hn2 : n ≤ 9223372036854775807) : 
    Calls Try.prog 12 #[.int .i64 x, .int .i64 n] w fun e w' => e = .returned (.int .i64 v) ∧ w' = w := by
  rw [← hv]; exact pick_any x n w hn hn2

/-- The route with one element of its rank made larger by b. -/
def stepR (r : Rt) (what b : Int) (sl : Sl) : Rt :=
  if what = 0 then { r with stale := true }
  else if what = 1 then { r with a := { r.a with hasPref := true, pref := 50 - b } }
  else if what = 2 then { r with a := { r.a with path := sl } }
  else if what = 3 then { r with a := { r.a with origin := r.a.origin + b } }
  else if what = 4 then { r with a := { r.a with hasMed := true, med := 100 + b } }
  else if what = 5 then { r with peer := b }
  else if what = 6 then { r with a := { r.a with next := 2 } }
  else if what = 7 then { r with a := { r.a with clus := sl } }
  else if what = 8 then { r with a := { r.a with hasOrig := true, orig := 1000 + b } }
  else { r with peer := r.peer + b }

set_option maxRecDepth 100000 in
set_option maxHeartbeats 1000000 in
theorem step0_any (r : Rt) (n b : Int) (w : World) (hb : n % 9 = b) :
    Calls Try.prog 13 #[.agg r.cs, .int .i64 0, .int .i64 n] w fun e w' => e = .returned (.agg (stepR r 0 (1 + b) ⟨none, 0, 0⟩).cs) ∧ Below w.heap.size w w' := by
  have b0 : 0 ≤ b ∧ b ≤ 8 := by omega
  have HB := Lib.hid hb
  clear hb
  go_enter Try.func13, Try.ntmps13
  go_wp2_with (go_at_call 12; refine (pick_val n 9 b HB.out _ (by omega) (by omega)).mono ?_; rintro e w1 ⟨rfl, rfl⟩)
  refine bodyPost_ret (v := .agg (stepR r 0 (1 + b) ⟨none, 0, 0⟩).cs) (results_row rfl agg40 (b := w.heap.size + 1) (off := 0) rfl ?_) rfl ⟨rfl, by repeat (first | exact Below.refl _ _ | refine Below.alloc ?_ (by simp <;> omega) _)⟩
  simp [go_sem, stepR]

set_option maxRecDepth 100000 in
set_option maxHeartbeats 1000000 in
theorem step1_any (r : Rt) (n b : Int) (w : World) (hb : n % 9 = b) :
    Calls Try.prog 13 #[.agg r.cs, .int .i64 1, .int .i64 n] w fun e w' => e = .returned (.agg (stepR r 1 (1 + b) ⟨none, 0, 0⟩).cs) ∧ Below w.heap.size w w' := by
  have b0 : 0 ≤ b ∧ b ≤ 8 := by omega
  have HB := Lib.hid hb
  clear hb
  go_enter Try.func13, Try.ntmps13
  go_wp2_with (go_at_call 12; refine (pick_val n 9 b HB.out _ (by omega) (by omega)).mono ?_; rintro e w1 ⟨rfl, rfl⟩)
  refine bodyPost_ret (v := .agg (stepR r 1 (1 + b) ⟨none, 0, 0⟩).cs) (results_row rfl agg40 (b := w.heap.size + 1) (off := 0) rfl ?_) rfl ⟨rfl, by repeat (first | exact Below.refl _ _ | refine Below.alloc ?_ (by simp <;> omega) _)⟩
  simp [go_sem, stepR]

set_option maxRecDepth 100000 in
set_option maxHeartbeats 1000000 in
theorem step3_any (r : Rt) (n b : Int) (w : World) (hb : n % 9 = b) (ho : 0 ≤ r.a.origin ∧ r.a.origin ≤ 1000) :
    Calls Try.prog 13 #[.agg r.cs, .int .i64 3, .int .i64 n] w fun e w' => e = .returned (.agg (stepR r 3 (1 + b) ⟨none, 0, 0⟩).cs) ∧ Below w.heap.size w w' := by
  have b0 : 0 ≤ b ∧ b ≤ 8 := by omega
  have HB := Lib.hid hb
  clear hb
  go_enter Try.func13, Try.ntmps13
  go_wp2_with (go_at_call 12; refine (pick_val n 9 b HB.out _ (by omega) (by omega)).mono ?_; rintro e w1 ⟨rfl, rfl⟩)
  refine bodyPost_ret (v := .agg (stepR r 3 (1 + b) ⟨none, 0, 0⟩).cs) (results_row rfl agg40 (b := w.heap.size + 1) (off := 0) rfl ?_) rfl ⟨rfl, by repeat (first | exact Below.refl _ _ | refine Below.alloc ?_ (by simp <;> omega) _)⟩
  simp [go_sem, stepR]

set_option maxRecDepth 100000 in
set_option maxHeartbeats 1000000 in
theorem step4_any (r : Rt) (n b : Int) (w : World) (hb : n % 9 = b) :
    Calls Try.prog 13 #[.agg r.cs, .int .i64 4, .int .i64 n] w fun e w' => e = .returned (.agg (stepR r 4 (1 + b) ⟨none, 0, 0⟩).cs) ∧ Below w.heap.size w w' := by
  have b0 : 0 ≤ b ∧ b ≤ 8 := by omega
  have HB := Lib.hid hb
  clear hb
  go_enter Try.func13, Try.ntmps13
  go_wp2_with (go_at_call 12; refine (pick_val n 9 b HB.out _ (by omega) (by omega)).mono ?_; rintro e w1 ⟨rfl, rfl⟩)
  refine bodyPost_ret (v := .agg (stepR r 4 (1 + b) ⟨none, 0, 0⟩).cs) (results_row rfl agg40 (b := w.heap.size + 1) (off := 0) rfl ?_) rfl ⟨rfl, by repeat (first | exact Below.refl _ _ | refine Below.alloc ?_ (by simp <;> omega) _)⟩
  simp [go_sem, stepR]

set_option maxRecDepth 100000 in
set_option maxHeartbeats 1000000 in
theorem step5_any (r : Rt) (n b : Int) (w : World) (hb : n % 9 = b) :
    Calls Try.prog 13 #[.agg r.cs, .int .i64 5, .int .i64 n] w fun e w' => e = .returned (.agg (stepR r 5 (1 + b) ⟨none, 0, 0⟩).cs) ∧ Below w.heap.size w w' := by
  have b0 : 0 ≤ b ∧ b ≤ 8 := by omega
  have HB := Lib.hid hb
  clear hb
  go_enter Try.func13, Try.ntmps13
  go_wp2_with (go_at_call 12; refine (pick_val n 9 b HB.out _ (by omega) (by omega)).mono ?_; rintro e w1 ⟨rfl, rfl⟩)
  refine bodyPost_ret (v := .agg (stepR r 5 (1 + b) ⟨none, 0, 0⟩).cs) (results_row rfl agg40 (b := w.heap.size + 1) (off := 0) rfl ?_) rfl ⟨rfl, by repeat (first | exact Below.refl _ _ | refine Below.alloc ?_ (by simp <;> omega) _)⟩
  simp [go_sem, stepR]

set_option maxRecDepth 100000 in
set_option maxHeartbeats 1000000 in
theorem step6_any (r : Rt) (n b : Int) (w : World) (hb : n % 9 = b) :
    Calls Try.prog 13 #[.agg r.cs, .int .i64 6, .int .i64 n] w fun e w' => e = .returned (.agg (stepR r 6 (1 + b) ⟨none, 0, 0⟩).cs) ∧ Below w.heap.size w w' := by
  have b0 : 0 ≤ b ∧ b ≤ 8 := by omega
  have HB := Lib.hid hb
  clear hb
  go_enter Try.func13, Try.ntmps13
  go_wp2_with (go_at_call 12; refine (pick_val n 9 b HB.out _ (by omega) (by omega)).mono ?_; rintro e w1 ⟨rfl, rfl⟩)
  refine bodyPost_ret (v := .agg (stepR r 6 (1 + b) ⟨none, 0, 0⟩).cs) (results_row rfl agg40 (b := w.heap.size + 1) (off := 0) rfl ?_) rfl ⟨rfl, by repeat (first | exact Below.refl _ _ | refine Below.alloc ?_ (by simp <;> omega) _)⟩
  simp [go_sem, stepR]

set_option maxRecDepth 100000 in
set_option maxHeartbeats 1000000 in
theorem step8_any (r : Rt) (n b : Int) (w : World) (hb : n % 9 = b) :
    Calls Try.prog 13 #[.agg r.cs, .int .i64 8, .int .i64 n] w fun e w' => e = .returned (.agg (stepR r 8 (1 + b) ⟨none, 0, 0⟩).cs) ∧ Below w.heap.size w w' := by
  have b0 : 0 ≤ b ∧ b ≤ 8 := by omega
  have HB := Lib.hid hb
  clear hb
  go_enter Try.func13, Try.ntmps13
  go_wp2_with (go_at_call 12; refine (pick_val n 9 b HB.out _ (by omega) (by omega)).mono ?_; rintro e w1 ⟨rfl, rfl⟩)
  refine bodyPost_ret (v := .agg (stepR r 8 (1 + b) ⟨none, 0, 0⟩).cs) (results_row rfl agg40 (b := w.heap.size + 1) (off := 0) rfl ?_) rfl ⟨rfl, by repeat (first | exact Below.refl _ _ | refine Below.alloc ?_ (by simp <;> omega) _)⟩
  simp [go_sem, stepR]

set_option maxRecDepth 100000 in
set_option maxHeartbeats 1000000 in
theorem step9_any (r : Rt) (n b : Int) (w : World) (hb : n % 9 = b) (ho : 0 ≤ r.peer ∧ r.peer ≤ 1000) :
    Calls Try.prog 13 #[.agg r.cs, .int .i64 9, .int .i64 n] w fun e w' => e = .returned (.agg (stepR r 9 (1 + b) ⟨none, 0, 0⟩).cs) ∧ Below w.heap.size w w' := by
  have b0 : 0 ≤ b ∧ b ≤ 8 := by omega
  have HB := Lib.hid hb
  clear hb
  go_enter Try.func13, Try.ntmps13
  go_wp2_with (go_at_call 12; refine (pick_val n 9 b HB.out _ (by omega) (by omega)).mono ?_; rintro e w1 ⟨rfl, rfl⟩)
  refine bodyPost_ret (v := .agg (stepR r 9 (1 + b) ⟨none, 0, 0⟩).cs) (results_row rfl agg40 (b := w.heap.size + 1) (off := 0) rfl ?_) rfl ⟨rfl, by repeat (first | exact Below.refl _ _ | refine Below.alloc ?_ (by simp <;> omega) _)⟩
  simp [go_sem, stepR]

end Go.Proofs.Ytkklhidoonefoaa
