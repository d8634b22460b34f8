import Derived.Test.YtkplhmmajafflaaMem
import Derived.Test.YtkplhmmajafflaaApp
/- What a call may have turned: new blocks, and the blocks of a list. No program in sight. -/
namespace Go.Proofs.Ytkplhmmajafflaa
open Go.RowKit
set_option linter.unusedSimpArgs false
set_option linter.unusedVariables false

/-- w' is w but for new blocks and the blocks of S. -/
structure Only (S : List Nat) (w w' : World) : Prop where
  os : w'.os = w.os
  tape : w'.tape = w.tape
  output : w'.output = w.output
  size : w.heap.size ≤ w'.heap.size
  block : ∀ k, k < w.heap.size → k ∉ S → w'.heap[k]? = w.heap[k]?

theorem Only.refl (S : List Nat) (w : World) : Only S w w := ⟨rfl, rfl, rfl, Nat.le_refl _, fun _ _ _ => rfl⟩
theorem Only.trans {S : List Nat} {a b c : World} (h : Only S a b) (k : Only S b c) : Only S a c :=
  ⟨k.os.trans h.os, k.tape.trans h.tape, k.output.trans h.output, Nat.le_trans h.size k.size, fun i hi hS => (k.block i (Nat.lt_of_lt_of_le hi h.size) hS).trans (h.block i hi hS)⟩
theorem Only.of_below {w w' : World} (h : Below w.heap.size w w') (S : List Nat) : Only S w w' := ⟨h.os, h.tape, h.output, h.size, fun k hk _ => h.block k hk⟩
theorem Only.mono {S S' : List Nat} {w w' : World} (h : Only S w w') (hS : ∀ x ∈ S, x ∈ S') : Only S' w w' := ⟨h.os, h.tape, h.output, h.size, fun k hk hn => h.block k hk fun hx => hn (hS k hx)⟩
/-- Blocks of S are all new to the world a. -/
theorem Only.below {B : Nat} {a w w' : World} {S : List Nat} (h : Only S w w') (hb : Below B a w) (hB : B ≤ w.heap.size) (hS : ∀ x ∈ S, B ≤ x) : Below B a w' :=
  ⟨h.os.trans hb.os, h.tape.trans hb.tape, h.output.trans hb.output, Nat.le_trans hb.size h.size, fun k hk => (h.block k (by omega) fun hx => by have := hS k hx; omega).trans (hb.block k hk)⟩
theorem Only.ext (S : List Nat) (w : World) (x : Grow) : Only S w (w.ext x) := Only.of_below (ext_below w x) S
theorem Only.then_below {S : List Nat} {a w w' : World} (h : Only S a w) (k : Below w.heap.size w w') : Only S a w' := h.trans (Only.of_below k S)
theorem Only.pin {S : List Nat} {a w : World} (h : Only S a w) {g : Nat} (hg : g ∈ S ∨ a.heap.size ≤ g) (cs : Array Value) (t : TypeId) : Only S a (w.pin g cs t) :=
  ⟨h.os, h.tape, h.output, by rw [pin_size]; exact h.size, fun k hk hn => (pin_heap_other w g cs t (by rintro rfl; rcases hg with hg | hg; exact hn hg; omega)).trans (h.block k hk hn)⟩
theorem Only.grown {S : List Nat} {a w w' : World} {row : Option Nat} (h : Only S a w) (hg : w.grownBy w' row) (hr : ∀ k, row = some k → k ∈ S ∨ a.heap.size ≤ k) : Only S a w' :=
  ⟨hg.os.trans h.os, hg.tape.trans h.tape, hg.output.trans h.output, Nat.le_trans h.size hg.size, fun k hk hn => (hg.block k (Nat.lt_of_lt_of_le hk h.size) (fun e => by rcases hr k e.symm with h1 | h1; exact hn h1; omega)).trans (h.block k hk hn)⟩
theorem Only.alloc {S : List Nat} {a w : World} (h : Only S a w) (o : Obj) : Only S a (w.alloc o) := h.trans (Only.of_below ((Below.refl _ _).alloc (Nat.le_refl _) o) S)
theorem Only.drew {S : List Nat} {a w : World} (h : Only S a w) : Only S a w.drew := ⟨h.os, h.tape, h.output, h.size, h.block⟩
theorem Only.drewN {S : List Nat} {a w : World} (h : Only S a w) (n : Nat) : Only S a (w.drewN n) := ⟨h.os, h.tape, h.output, h.size, h.block⟩
theorem Only.setCell {S : List Nat} {a w : World} (h : Only S a w) {p : Addr} (hp : p.block ∈ S ∨ a.heap.size ≤ p.block) (v : Value) : Only S a (w.setCell p v) :=
  ⟨h.os, h.tape, h.output, by simp [World.setCell]; exact h.size, fun k hk hn => (Below.heap_setCell w p v k (by rintro rfl; rcases hp with hp | hp; exact hn hp; omega)).trans (h.block k hk hn)⟩

theorem only_pin (w : World) (g : Nat) (cs cs' : Array Value) (t t' : TypeId) : Only [g] (w.pin g cs t) (w.pin g cs' t') := by
  have := (Only.refl [g] (w.pin g cs t)).pin (g := g) (.inl (by simp)) cs' t'
  rwa [pin_pin] at this
theorem only_pin_ext (w : World) (g : Nat) (cs cs' : Array Value) (t t' : TypeId) (x : Grow) (hg : g < w.heap.size) : Only [g] (w.pin g cs t) ((w.ext x).pin g cs' t') := by
  have := ((Only.ext [g] (w.pin g cs t) x)).pin (g := g) (.inl (by simp)) cs' t'
  rwa [pin_ext _ _ _ _ _ hg, pin_pin] at this
theorem only_set (w : World) (g i : Nat) (v : Value) : Only [g] w (w.setCell ⟨g, i, none⟩ v) := (Only.refl [g] w).setCell (p := ⟨g, i, none⟩) (.inl (by simp)) v
theorem heap_here {w : World} {o : Obj} {k : Nat} (h : k = w.heap.size) : (w.alloc o).heap[k]? = some o := by subst h; exact heap_alloc_new w o
/-- A world in which one block is known whole, written so that the walk reads and writes it. -/
theorem calls_pin {P : Program} {f : FuncId} {args : Array Value} {W : World} {g : Nat} {cs : Array Value} {T : TypeId} {Q : Ending → World → Prop} (h : W.heap[g]? = some (.cells cs T (0, 0)))
    (H : ∀ w : World, Hid (w.pin g cs T = W) → g < w.heap.size → Calls P f args (w.pin g cs T) Q) : Calls P f args W Q := by
  have := H W (pin_same _ _ _ _ h).symm (Array.getElem?_eq_some_iff.1 h).1
  rwa [← pin_same _ _ _ _ h] at this

theorem held_at {w : World} {A : Option Addr} {xs : List Value} (h : Held w A xs) {j : Nat} {u : Value} (hj : xs[j]? = some u) : ∃ b off, A = some ⟨b, off, none⟩ ∧ b < w.heap.size ∧ w.cell? ⟨b, off + j, none⟩ = some u := by
  obtain ⟨b, off, hA, hb, hc⟩ := h (by have := (List.getElem?_eq_some_iff.1 hj).1; omega)
  exact ⟨b, off, hA, hb, hc j u hj⟩
theorem Held.only {w w' : World} {A : Option Addr} {xs : List Value} {S : List Nat} (h : Held w A xs) (hb : Only S w w') (hS : ∀ b off, A = some ⟨b, off, none⟩ → b ∉ S) : Held w' A xs :=
  h.same fun b off hA hlt => hb.block b hlt (hS b off hA)
end Go.Proofs.Ytkplhmmajafflaa
