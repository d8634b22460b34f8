import Derived.Test.YtkplhmmajafflaaOnly
import Derived.RangeFuncNested
import Derived.RangeFuncBound
import Derived.RangeFuncCalls
import Derived.RangeFuncLeaves
/- A range over a function whose rounds all go on: an iterator may itself range over another one. No program in sight. -/
namespace Go.Proofs.Ytkplhmmajafflaa
open Go.RowKit
set_option linter.unusedSimpArgs false
set_option linter.unusedVariables false

/-- The iterator hands over the elements of xs, in order; it reads the blocks of needs. Its caller's rounds turn blocks of S, and its caller's invariant abides whatever is new. -/
def Yields {α : Type} (P : Program) (g : Nat) (lb : Array Value) (encs : α → Array Value) (needs : List Nat) (xs : List α) (w : World) : Prop :=
  ∀ (l : Nat) (J : Nat → World → Prop) (W : World) (S : List Nat), Below w.heap.size w W → (∀ k ∈ S, k < W.heap.size ∧ k ∉ needs) → (∀ i X Y, J i X → Below W.heap.size X Y → J i Y) →
    (∀ i x W1, xs[i]? = some x → J i W1 → YieldAt Fence.wide 0 P l (encs x) W1 fun e W' => e = .returned (.bool true) ∧ J (i + 1) W' ∧ Only S W1 W') →
    J 0 W → CallsIn Fence.wide 0 P g (#[.func (.yield l) #[] #[]] ++ lb) W fun e W' => (∃ v, e = .returned v) ∧ J xs.length W'

/-- How a round's body ends. -/
def roundEnd (S : List Nat) (I : World → Prop) (W : World) : Exit → Act → World → Prop
  | .normal, _, W' => Only S W W' ∧ I W'
  | _, _, _ => False

theorem below_putObj {B : Nat} (W : World) (l : Nat) (o : Obj) (h : B ≤ l) : Below B W (W.putObj l o) :=
  ⟨rfl, rfl, rfl, (grownBy_putObj' W l o).size, fun k hk => World.putObj_heap_other (by omega)⟩
theorem only_putObj (W : World) (l : Nat) (o : Obj) : Only [l] W (W.putObj l o) :=
  ⟨rfl, rfl, rfl, (grownBy_putObj' W l o).size, fun k _ hn => World.putObj_heap_other (by simpa [eq_comm] using hn)⟩

theorem wp_range {α : Type} {P : Program} {g : Operand} {ps : Array Tmp} {assign body : Code} {Q : Exit → Act → World → Prop} {a : Act} {w w0 : World}
    {gf : Nat} {lb : Array Value} (hg : a.eval g = .func (.func gf) #[] lb) (eg : ∀ args w, (callFunc gf args).run P w = .ok (.enter gf args) w)
    {encs : α → Array Value} {needs : List Nat} {xs : List α} (hseq : Yields P gf lb encs needs xs w0) (hb0 : Below w0.heap.size w0 w) (hneeds : ∀ k ∈ needs, k < w.heap.size) (S : List Nat) (hS : ∀ k ∈ S, k < w.heap.size ∧ k ∉ needs)
    (hps : ∀ x, (encs x).size = ps.size) (I : Nat → World → Prop) (hI : ∀ i X Y, I i X → Below w.heap.size X Y → I i Y) (h0 : I 0 w) (b : α → Act)
    (hassign : ∀ (l : Nat) (x : α) (W : World) (K : Act → World → Prop), K (b x) W →
      assign.wpIn (Fence.wide.inRound l) 0 P (Exit.then K (fun _ _ _ => False)) { tmps := (ps.zip (encs x)).foldl (fun t (p, v) => t.setIfInBounds p v) a.tmps, defers := [] } W)
    (hbody : ∀ (l i : Nat) (x : α) (W : World), xs[i]? = some x → I i W → w.heap.size < W.heap.size → body.wpIn (Fence.wide.inRound l) 0 P (roundEnd S (I (i + 1)) W) (b x) W)
    (hdone : ∀ (D : Nat) (W : World), w.heap.size ≤ D → I xs.length W → W.heap[D]? = some (.deferred (some [])) → Q .normal { a with defers := { target := .collected D, args := #[] } :: a.defers } W) :
    (Code.rangeFunc g ps assign body).wpIn Fence.wide 0 P Q a w := by
  refine wpIn_rangeFunc fun fn hfn => ?_
  change ∃ l mark w₁ d w₁' f args w₂, (Instr.enterLoop fn a.tmps ps assign body none).run P w = .ok (l, mark) w₁ ∧ _
  obtain ⟨s, hs⟩ : ∃ s, w.heap.size = s := ⟨_, rfl⟩
  obtain ⟨rec, hrec⟩ : ∃ rec : LoopState → Loop, rec = fun st => { state := st, pending := none, fn, tmps := a.tmps, params := ps, assign, body, defers := s } := ⟨_, rfl⟩
  obtain ⟨A, hA⟩ : ∃ A, (w.alloc (.deferred (some []))).alloc (.loop (rec .ready)) = A := ⟨_, rfl⟩
  have hAl : A.heap[s + 1]? = some (.loop (rec .ready)) := by
    rw [← hA]; exact heap_here (by simp [hs])
  have hAd : A.heap[s]? = some (.deferred (some [])) := by
    rw [← hA]; exact (Below.heap_alloc _ _ _ (by simp [hs])).trans (heap_here hs.symm)
  have hAs : A.heap.size = s + 2 := by rw [← hA]; simp [hs]
  have hA0 : Below s w A := by
    rw [← hA, ← hs]; exact ((Below.refl _ _).alloc (Nat.le_refl _) _).alloc (by simp) _
  rw [hs] at hI hbody hdone hneeds hS
  have hAI : I 0 A := hI 0 _ _ h0 hA0
  have hAb : Below w0.heap.size w0 A := by
    rw [← hA]; exact (hb0.alloc hb0.size _).alloc (Nat.le_trans hb0.size (by simp)) _
  refine ⟨s + 1, [{ target := .collected s, args := #[] }], A, { target := .fn (.func gf) lb, args := #[.func (.yield (s + 1)) #[] #[]] }, A, gf, #[.func (.yield (s + 1)) #[] #[]] ++ lb, A, ?_, ?_, ?_, ?_, fun h => by simp [Fence.wide] at h, ?_⟩
  · rw [← hA, hrec, ← hs]; exact run_enterLoop_outer _ _ _ _ _
  · simp only [resolve, hg]
    simp [go_sem]
  · intro f' hf'; trivial
  · simp [invoke, go_sem, eg]
  · refine (hseq (s + 1) (fun i W => I i W ∧ W.heap[s + 1]? = some (.loop (rec .ready)) ∧ W.heap[s]? = some (.deferred (some []))) A ((s + 1) :: S) hAb ?_ ?_ ?_ ⟨hAI, hAl, hAd⟩).mono ?_
    · intro k hk
      rcases List.mem_cons.1 hk with rfl | hk
      · exact ⟨by omega, fun h => by have := hneeds _ h; omega⟩
      · exact ⟨by have := (hS k hk).1; omega, (hS k hk).2⟩
    · rintro i X Y ⟨h1, h2, h3⟩ hb
      exact ⟨hI i X Y h1 (hb.mono (by omega)), (hb.block _ (by omega)).trans h2, (hb.block _ (by omega)).trans h3⟩
    · rintro i x W hx ⟨h1, h2, h3⟩
      have hlt : s + 1 < W.heap.size := (Array.getElem?_eq_some_iff.1 h2).1
      have hy := run_yield (P := P) (args := encs x) h2 (by rw [hrec]; exact hps x)
      rw [hrec] at hy
      refine ⟨fn, _, assign, body, hy, roundIn_of_wpIn hfn (hassign _ x W _ ⟨_, run_beginRound h2 (by rw [hrec]), ?_⟩)⟩
      obtain ⟨W2, hW2⟩ : ∃ W2, W.putObj (s + 1) (.loop { rec .ready with state := .busy }) = W2 := ⟨_, rfl⟩
      have b2 : W2.heap[s + 1]? = some (.loop { rec .ready with state := .busy }) := by rw [← hW2]; exact World.putObj_heap_same hlt
      have b3 : W2.heap[s]? = some (.deferred (some [])) := by rw [← hW2]; exact (World.putObj_heap_other (by omega)).trans h3
      have bI : I i W2 := by rw [← hW2]; exact hI i _ _ h1 (below_putObj _ _ _ (by omega))
      have bO : Only [s + 1] W W2 := by rw [← hW2]; exact only_putObj _ _ _
      have bs : s < W2.heap.size := (Array.getElem?_eq_some_iff.1 b3).1
      rw [hW2]
      refine wpIn_mono (hbody _ i x W2 hx bI bs) ?_
      rintro e a3 W3 hp
      cases e with
      | normal =>
        obtain ⟨k1, k3⟩ := hp
        have hne : ∀ k, k ∈ S → k < s := fun k hk => (hS k hk).1
        have c2 := (k1.block _ (Array.getElem?_eq_some_iff.1 b2).1 (fun h => by have := hne _ h; omega)).trans b2
        have c3 := (k1.block _ bs (fun h => by have := hne _ h; omega)).trans b3
        have hr := run_endRound (P := P) none c2
        rw [hrec] at hr
        refine ⟨_, _, hr, rfl, ⟨?_, ?_, ?_⟩, ?_⟩
        · exact hI _ _ _ k3 (below_putObj _ _ _ (by omega))
        · rw [hrec]; exact World.putObj_heap_same (Array.getElem?_eq_some_iff.1 c2).1
        · exact (World.putObj_heap_other (by omega)).trans c3
        · exact ((bO.mono (by simp)).trans (k1.mono (by simp_all))).trans ((only_putObj _ _ _).mono (by simp))
      | ret => exact hp.elim
      | exit id => exact hp.elim
      | goto t => exact hp.elim
      | panic ch => exact hp.elim
      | outgrown => exact hp.elim
    · rintro e W2 ⟨⟨v, rfl⟩, h1, h2, h3⟩
      have he := run_endLoop (P := P) h2 (by rw [hrec]; simp)
      rw [hrec] at he
      refine ⟨none, _, he, hdone s _ (Nat.le_refl _) (hI _ _ _ h1 (below_putObj _ _ _ (by omega))) ((World.putObj_heap_other (by omega)).trans h3)⟩
end Go.Proofs.Ytkplhmmajafflaa
