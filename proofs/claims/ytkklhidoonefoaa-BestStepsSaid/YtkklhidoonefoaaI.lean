import Derived.Test.YtkklhidoonefoaaH
/- step, whatever the number of the element; the walk of BestSteps. -/
namespace Go.Proofs.Ytkklhidoonefoaa
open Go.RowKit
set_option linter.unusedSimpArgs false
set_option linter.unusedVariables false

theorem step_any (r : Rt) (what n b : Int) (w : World) (h0 : 0 ≤ what) (h9 : what ≤ 9) (hb : n % 9 = b) (hp : what = 2 → r.a.path = ⟨none, 0, 0⟩) (hc : what = 7 → r.a.clus = ⟨none, 0, 0⟩)
    (ho : 0 ≤ r.a.origin ∧ r.a.origin ≤ 1000) (hq : 0 ≤ r.peer ∧ r.peer ≤ 1000) :
    Calls Try.prog 13 #[.agg r.cs, .int .i64 what, .int .i64 n] w fun e w' => ∃ sl : Sl, e = .returned (.agg (stepR r what (1 + b) sl).cs) ∧ (what = 2 ∨ what = 7 → (sl.n : Int) = 1 + b) ∧ Below w.heap.size w w' := by
  have hcases : what = 0 ∨ what = 1 ∨ what = 2 ∨ what = 3 ∨ what = 4 ∨ what = 5 ∨ what = 6 ∨ what = 7 ∨ what = 8 ∨ what = 9 := by omega
  rcases hcases with rfl | rfl | rfl | rfl | rfl | rfl | rfl | rfl | rfl | rfl
  · exact (step0_any r n b w hb).mono fun e w' ⟨h1, h2⟩ => ⟨_, h1, by omega, h2⟩
  · exact (step1_any r n b w hb).mono fun e w' ⟨h1, h2⟩ => ⟨_, h1, by omega, h2⟩
  · exact (step2_any r n b w hb (hp rfl)).mono fun e w' ⟨sl, h1, h2, h3⟩ => ⟨sl, h1, fun _ => h2, h3⟩
  · exact (step3_any r n b w hb ho).mono fun e w' ⟨h1, h2⟩ => ⟨_, h1, by omega, h2⟩
  · exact (step4_any r n b w hb).mono fun e w' ⟨h1, h2⟩ => ⟨_, h1, by omega, h2⟩
  · exact (step5_any r n b w hb).mono fun e w' ⟨h1, h2⟩ => ⟨_, h1, by omega, h2⟩
  · exact (step6_any r n b w hb).mono fun e w' ⟨h1, h2⟩ => ⟨_, h1, by omega, h2⟩
  · exact (step7_any r n b w hb (hc rfl)).mono fun e w' ⟨sl, h1, h2, h3⟩ => ⟨sl, h1, fun _ => h2, h3⟩
  · exact (step8_any r n b w hb).mono fun e w' ⟨h1, h2⟩ => ⟨_, h1, by omega, h2⟩
  · exact (step9_any r n b w hb hq).mono fun e w' ⟨h1, h2⟩ => ⟨_, h1, by omega, h2⟩

/-- What BestSteps' second route is, before the round at k: the elements behind 'what' and ahead of k made larger by o. -/
structure Chain (what : Int) (p o : Int) (k : Int) (r : Rt) : Prop where
  stale : r.stale = false
  hasPref : r.a.hasPref = true
  pref : r.a.pref = if what < 1 ∧ 1 < k then 50 - o else 60
  path : (if what < 2 ∧ 2 < k then (r.a.path.n : Int) = o else r.a.path = ⟨none, 0, 0⟩)
  origin : r.a.origin = if what < 3 ∧ 3 < k then 1 + o else 1
  hasMed : r.a.hasMed = decide (what < 4 ∧ 4 < k)
  med : r.a.med = if what < 4 ∧ 4 < k then 100 + o else 0
  next : r.a.next = if what < 6 ∧ 6 < k then 2 else 1
  clus : (if what < 7 ∧ 7 < k then (r.a.clus.n : Int) = o else r.a.clus = ⟨none, 0, 0⟩)
  hasOrig : r.a.hasOrig = decide (what < 8 ∧ 8 < k ∧ p ≠ 0)
  orig : r.a.orig = if what < 8 ∧ 8 < k ∧ p ≠ 0 then 1000 + o else 0
  peer : r.peer = if what < 9 ∧ 9 < k ∧ p ≠ 0 then p + o else p

theorem chain_step {what p o k : Int} {r : Rt} {sl : Sl} (h : Chain what p o k r) (hw : what < k) (hk0 : 0 ≤ what) (hk : k ≤ 9) (h5 : k ≠ 5) (h8 : ¬ (k = 8 ∧ p = 0)) (h9 : ¬ (k = 9 ∧ p = 0)) (hs : k = 2 ∨ k = 7 → (sl.n : Int) = o) : Chain what p o (k + 1) (stepR r k o sl) := by
  obtain ⟨a1, a2, a3, a4, a5, a6, a7, a8, a9, a10, a11, a12⟩ := h
  have hcases : k = 1 ∨ k = 2 ∨ k = 3 ∨ k = 4 ∨ k = 6 ∨ k = 7 ∨ k = 8 ∨ k = 9 := by omega
  rcases hcases with rfl | rfl | rfl | rfl | rfl | rfl | rfl | rfl <;>
    (constructor <;> simp_all [stepR])
theorem chain_skip {what p o k : Int} {r : Rt} (h : Chain what p o k r) (hk : k = 5 ∨ k = 8 ∧ p = 0 ∨ k = 9 ∧ p = 0) : Chain what p o (k + 1) r := by
  obtain ⟨a1, a2, a3, a4, a5, a6, a7, a8, a9, a10, a11, a12⟩ := h
  rcases hk with rfl | ⟨rfl, rfl⟩ | ⟨rfl, rfl⟩ <;>
    (constructor <;> simp_all)

def baseA : At := ⟨1, ⟨none, 0, 0⟩, 1, false, 0, true, 60, false, 0, ⟨none, 0, 0⟩, ⟨none, 0, 0⟩, 0, 0, 0, 0⟩
def baseR (p : Int) : Rt := ⟨⟨0, 0, 0, 0, 0, 0, 0, 0, 0, 0, 0, 0, 0, 0, 0, false, 0, 0, 0, 0, 0⟩, baseA, p, false⟩
def hops2 : List (Int × Int) := [(1, 1), (2, 100)]
theorem met1 : (metricOf 1 hops2).1 = 1 := by decide
theorem met2 : (metricOf 2 hops2).1 = 100 := by decide

theorem chain_base (what p o : Int) (h : 0 ≤ what) : Chain what p o (what + 1) (baseR p) := by
  constructor <;> simp [baseR, baseA] <;> omega

theorem chain_path {what p o k : Int} {r : Rt} (h : Chain what p o k r) (hk : k = 2) : r.a.path = ⟨none, 0, 0⟩ := by
  have := h.path
  rw [if_neg (by omega)] at this
  exact this
theorem chain_clus {what p o k : Int} {r : Rt} (h : Chain what p o k r) (hk : k = 7) : r.a.clus = ⟨none, 0, 0⟩ := by
  have := h.clus
  rw [if_neg (by omega)] at this
  exact this
theorem chain_nil {what p o k : Int} {r : Rt} (h : Chain what p o k r) (ho : 0 ≤ o ∧ o ≤ 9) (hp : 0 ≤ p ∧ p ≤ 20) : (0 ≤ r.a.origin ∧ r.a.origin ≤ 1000) ∧ (0 ≤ r.peer ∧ r.peer ≤ 1000) ∧ r.ok := by
  obtain ⟨a1, a2, a3, a4, a5, a6, a7, a8, a9, a10, a11, a12⟩ := h
  have h1 : 0 ≤ r.a.origin ∧ r.a.origin ≤ 1000 := by rw [a5]; split <;> omega
  have h2 : 0 ≤ r.peer ∧ r.peer ≤ 1000 := by rw [a12]; split <;> omega
  have h3 : 0 ≤ r.a.pref ∧ r.a.pref ≤ 1000 := by rw [a3]; split <;> omega
  have h4 : 0 ≤ r.a.med ∧ r.a.med ≤ 1000 := by rw [a7]; split <;> omega
  have h5 : 0 ≤ r.a.orig ∧ r.a.orig ≤ 2000 := by rw [a11]; split <;> omega
  exact ⟨h1, h2, by constructor <;> omega⟩
theorem base_ok {what p b : Int} {sl : Sl} (hb : 1 ≤ b ∧ b ≤ 9) (hp : 0 ≤ p ∧ p ≤ 20) : (stepR (baseR p) what b sl).ok := by
  unfold stepR
  repeat' split
  all_goals (constructor <;> simp [baseR, baseA] <;> omega)

theorem steps_law {what p o b : Int} {sl : Sl} {r : Rt} (h0 : 0 ≤ what) (h9 : what ≤ 9) (hp : p = if what ≤ 5 then 0 else 20) (ho : 1 ≤ o ∧ o ≤ 9) (hb : 1 ≤ b ∧ b ≤ 9) (hs : what = 2 ∨ what = 7 → (sl.n : Int) = b)
    (h : Chain what p o 10 r) : lexI (rankL (stepR (baseR p) what b sl) hops2) (rankL r hops2) = 1 := by
  obtain ⟨a1, a2, a3, a4, a5, a6, a7, a8, a9, a10, a11, a12⟩ := h
  have hcases : what = 0 ∨ what = 1 ∨ what = 2 ∨ what = 3 ∨ what = 4 ∨ what = 5 ∨ what = 6 ∨ what = 7 ∨ what = 8 ∨ what = 9 := by omega
  rcases hcases with rfl | rfl | rfl | rfl | rfl | rfl | rfl | rfl | rfl | rfl
  all_goals simp at hp
  all_goals subst hp
  all_goals simp at a3 a4 a5 a6 a7 a8 a9 a10 a11 a12 hs
  all_goals simp [rankL, lexI, stepR, baseR, baseA, b2i, prefOf, medOf, nearOf, origOf, a1, a2, a3, a4, a5, a6, a7, a8, a9, a10, a11, a12, met1, met2]
  all_goals try omega
end Go.Proofs.Ytkklhidoonefoaa
