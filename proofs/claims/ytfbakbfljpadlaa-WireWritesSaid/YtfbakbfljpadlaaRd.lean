import Derived.Test.YtfbakbfljpadlaaProg
import Derived.Test.YtfbakbfljpadlaaOnly
import Derived.WalkLawsBesides
import Derived.WalkSpells
import Derived.BigQuiet
import Derived.Deep.QuietTactic
import Derived.BigGuardPart
import Derived.Lib.Hide
import Derived.KernelRfl
import Derived.Outline
import Derived.Deep.DeepCutAuto
/- Contracts of the readers of package wire: what only looks at one, and Fail and take. -/
namespace Go.Proofs.Ytfbakbfljpadlaa
open Go.RowKit
set_option linter.unusedSimpArgs false
set_option linter.unusedVariables false

structure Sl where
  (a : Option Addr) (n c : Nat)
/-- A reader: its position, the end of its range, its bytes, its fault. -/
structure Rd where
  (p e : Nat) (b : Sl) (er fa : Int)
def Rd.cs (r : Rd) : Array Value := #[.int .i64 r.p, .int .i64 r.e, .slice r.b.a r.b.n r.b.c, .int .i64 r.er, .int .i64 r.fa, .bool true]
/-- A reader lies in block g. -/
def RdAt (w : World) (g : Nat) (r : Rd) : Prop := w.heap[g]? = some (.cells r.cs 79 (0, 0))
structure Rd.ok (r : Rd) : Prop where
  pe : r.p ≤ r.e
  en : r.e ≤ r.b.n
  nc : r.b.n ≤ r.b.c
  small : r.b.n ≤ 100000

theorem aggFL : AggTy Try.prog 36 2 := ⟨fun w => by kernel_rfl, fun w => by kernel_rfl⟩
theorem aggRD : AggTy Try.prog 79 6 := ⟨fun w => by kernel_rfl, fun w => by kernel_rfl⟩

theorem made_any (r : Rd) (g : Nat) (W : World) (h : RdAt W g r) : Calls Try.prog 49 #[.pointer (some ⟨g, 0, none⟩)] W fun e w' => e = .returned (.bool true) ∧ W = w' := by
  refine calls_pin h fun w hW hg => ?_
  unfold Rd.cs
  go_enter Try.func49, Try.ntmps49
  go_wp2
  go_ret
  exact ⟨rfl, hW.out.symm⟩

theorem left_any (r : Rd) (g : Nat) (W : World) (h : RdAt W g r) (hr : r.ok) : Calls Try.prog 50 #[.pointer (some ⟨g, 0, none⟩)] W fun e w' => e = .returned (.int .i64 ((r.e : Int) - r.p)) ∧ Below W.heap.size W w' := by
  obtain ⟨h2, h3, h4, h5⟩ := hr
  refine calls_pin h fun w hW hg => ?_
  have HW := Lib.hid hW.out
  clear hW
  unfold Rd.cs
  go_enter Try.func50, Try.ntmps50
  go_wp2_with fail
  go_quiet (fail)
  go_wp2_with fail
  go_ret
  refine ⟨rfl, ?_⟩
  have := HW.out
  unfold Rd.cs at this
  rw [this]
  exact below_drewN (Below.refl _ _) _

theorem Left_any (r : Rd) (g : Nat) (W : World) (h : RdAt W g r) (hr : r.ok) : Calls Try.prog 12 #[.pointer (some ⟨g, 0, none⟩)] W fun e w' => e = .returned (.int .i64 ((r.e : Int) - r.p)) ∧ Below W.heap.size W w' := by
  have H := Lib.hid h
  have HR := Lib.hid hr
  clear h hr
  go_enter Try.func12, Try.ntmps12
  go_wp2_with (first
    | (go_at_call 49; refine (made_any r g _ H.out).mono ?_; rintro e w1 ⟨rfl, rfl⟩)
    | (go_at_call 50; refine (left_any r g _ H.out HR.out).mono ?_; rintro e w1 ⟨rfl, hb⟩))
  go_ret
  exact ⟨rfl, hb⟩

theorem At_any (r : Rd) (g : Nat) (W : World) (h : RdAt W g r) : Calls Try.prog 13 #[.pointer (some ⟨g, 0, none⟩)] W fun e w' => e = .returned (.int .i64 r.p) ∧ W = w' := by
  have H := Lib.hid h
  have hc : W.cell? ⟨g, 0, none⟩ = some (.int .i64 r.p) := by simp [World.cell?, show W.heap[g]? = _ from h, Rd.cs]
  clear h
  go_enter Try.func13, Try.ntmps13
  go_wp2_with (go_at_call 49; refine (made_any r g _ H.out).mono ?_; rintro e w1 ⟨rfl, rfl⟩)
  go_ret
  exact ⟨rfl, rfl⟩

def Rd.fail (r : Rd) (e : Int) : Rd := if e ≠ 0 ∧ r.er = 0 then { r with er := e, fa := r.p } else r
theorem Rd.fail_ok {r : Rd} (h : r.ok) (e : Int) : (r.fail e).ok := by
  obtain ⟨h2, h3, h4, h5⟩ := h
  unfold Rd.fail
  split <;> exact ⟨h2, h3, h4, h5⟩

/-- What a call may have turned: the reader in block g, which now is r. -/
def Turned (g : Nat) (r : Rd) (W w' : World) : Prop := Only [g] W w' ∧ RdAt w' g r

theorem Fail_same (r : Rd) (x : Int) (g : Nat) (W : World) (h : RdAt W g r) (hx : x = 0 ∨ r.er ≠ 0) : Calls Try.prog 17 #[.pointer (some ⟨g, 0, none⟩), .int .i64 x] W fun e w' => e = .returned (.tuple #[]) ∧ W = w' := by
  have H := Lib.hid h
  have hc : W.cell? ⟨g, 3, none⟩ = some (.int .i64 r.er) := by simp [World.cell?, show W.heap[g]? = _ from h, Rd.cs]
  clear h
  by_cases h0 : x = 0
  · subst h0
    clear hx
    go_enter Try.func17, Try.ntmps17
    go_wp2_with (go_at_call 49; refine (made_any r g _ H.out).mono ?_; rintro e w1 ⟨rfl, rfl⟩)
    go_end0
    exact ⟨rfl, rfl⟩
  · have x1 : (x != 0) = true := by simpa using h0
    have e1 : (r.er == 0) = false := by simpa [h0] using hx
    clear hx h0
    go_enter Try.func17, Try.ntmps17
    go_wp2_with (go_at_call 49; refine (made_any r g _ H.out).mono ?_; rintro e w1 ⟨rfl, rfl⟩)
    go_end0
    exact ⟨rfl, rfl⟩

theorem Fail_sets (r : Rd) (x : Int) (g : Nat) (W : World) (h : RdAt W g r) (hx : x ≠ 0) (h0 : r.er = 0) : Calls Try.prog 17 #[.pointer (some ⟨g, 0, none⟩), .int .i64 x] W fun e w' => e = .returned (.tuple #[]) ∧ Turned g { r with er := x, fa := r.p } W w' := by
  have H := Lib.hid h
  refine calls_pin h fun w hW hg => ?_
  have x1 : (x != 0) = true := by simpa using hx
  have e1 : (r.er == 0) = true := by simpa using h0
  clear hx h0 h
  have HW := Lib.hid hW.out
  clear hW
  unfold Rd.cs
  go_enter Try.func17, Try.ntmps17
  go_wp2_with (go_at_call 49; refine (made_any r g _ (by have := H.out; rw [← HW.out] at this; exact this)).mono ?_; rintro e w1 ⟨rfl, rfl⟩)
  go_end0
  refine ⟨rfl, ?_, pin_heap _ _ _ _ hg⟩
  rw [← HW.out]
  exact only_pin _ _ _ _ _ _

theorem RdAt.cell {W : World} {g : Nat} {r : Rd} (h : RdAt W g r) (i : Nat) : W.cell? ⟨g, i, none⟩ = r.cs[i]? := by simp [World.cell?, show W.heap[g]? = _ from h]
theorem RdAt.free {W : World} {g : Nat} {r : Rd} (h : RdAt W g r) (i : Nat) : W.frozen? ⟨g, i, none⟩ = false := by simp [World.frozen?, show W.heap[g]? = _ from h]
theorem RdAt.lt {W : World} {g : Nat} {r : Rd} (h : RdAt W g r) : g < W.heap.size := (Array.getElem?_eq_some_iff.1 h).1
theorem RdAt.below {W w' : World} {g : Nat} {r : Rd} (h : RdAt W g r) (hb : Below W.heap.size W w') : RdAt w' g r := (hb.block g h.lt).trans h
theorem RdAt.only {W w' : World} {g : Nat} {r : Rd} {S : List Nat} (h : RdAt W g r) (hb : Only S W w') (hg : g ∉ S) : RdAt w' g r := (hb.block g h.lt hg).trans h
theorem turned_p {W : World} {g : Nat} {r : Rd} (h : RdAt W g r) (v : Nat) : Turned g { r with p := v } W (W.setCell ⟨g, 0, none⟩ (.int .i64 v)) := by
  refine ⟨only_set _ _ _ _, ?_⟩
  unfold RdAt
  rw [heap_setCell_same W _ 0 _ _ _ h]
  simp [Rd.cs]
theorem Turned.after {W w1 w' : World} {g : Nat} {r : Rd} (hb : Below W.heap.size W w1) (h : Turned g r w1 w') : Turned g r W w' := ⟨(Only.of_below hb _).trans h.1, h.2⟩
theorem Turned.then {W w1 w' : World} {g : Nat} {r : Rd} (h : Turned g r W w1) (hb : Below w1.heap.size w1 w') : Turned g r W w' := ⟨h.1.then_below hb, h.2.below hb⟩

theorem take_err (r : Rd) (n : Int) (g : Nat) (W : World) (h : RdAt W g r) (h0 : r.er ≠ 0) : Calls Try.prog 51 #[.pointer (some ⟨g, 0, none⟩), .int .i64 n] W fun e w' => e = .returned (.tuple #[.int .i64 0, .bool false]) ∧ W = w' := by
  have H := Lib.hid h
  have hc : W.cell? ⟨g, 3, none⟩ = some (.int .i64 r.er) := h.cell 3
  have e1 : (r.er != 0) = true := by simpa using h0
  clear h h0
  go_enter Try.func51, Try.ntmps51
  go_wp2_with (go_at_call 49; refine (made_any r g _ H.out).mono ?_; rintro e w1 ⟨rfl, rfl⟩)
  go_ret2
  exact ⟨rfl, rfl⟩

theorem take_short (r : Rd) (n : Int) (g : Nat) (W : World) (h : RdAt W g r) (hr : r.ok) (h0 : r.er = 0) (hn : n < 0 ∨ (r.e : Int) - r.p < n) : Calls Try.prog 51 #[.pointer (some ⟨g, 0, none⟩), .int .i64 n] W fun e w' => e = .returned (.tuple #[.int .i64 0, .bool false]) ∧ Turned g { r with er := 4, fa := r.p } W w' := by
  have H := Lib.hid h
  have hc : W.cell? ⟨g, 3, none⟩ = some (.int .i64 r.er) := h.cell 3
  have e1 : (r.er != 0) = false := by simpa using h0
  have H0 := Lib.hid h0
  have HR := Lib.hid hr
  clear h h0 hr
  by_cases hlt : n < 0
  · clear hn
    go_enter Try.func51, Try.ntmps51
    go_wp2_with (first
      | (go_at_call 49; refine (made_any r g _ H.out).mono ?_; rintro e w1 ⟨rfl, rfl⟩)
      | (go_at_call 17; refine (Fail_sets r 4 g _ H.out (by omega) H0.out).mono ?_; rintro e w1 ⟨rfl, ht⟩))
    go_ret2
    exact ⟨rfl, ht⟩
  · have hgt : (r.e : Int) - r.p < n := by omega
    have hge : 0 ≤ n := by omega
    clear hn hlt
    go_enter Try.func51, Try.ntmps51
    go_wp2_with (first
      | (go_at_call 49; refine (made_any r g _ H.out).mono ?_; rintro e w1 ⟨rfl, rfl⟩)
      | (go_at_call 50; refine (left_any r g _ H.out HR.out).mono ?_; rintro e w1 ⟨rfl, hb⟩)
      | (go_at_call 17; refine (Fail_sets r 4 g _ (H.out.below hb) (by omega) H0.out).mono ?_; rintro e w1 ⟨rfl, ht⟩))
    go_ret2
    exact ⟨rfl, ht.after hb⟩

theorem take_ok (r : Rd) (n : Nat) (g : Nat) (W : World) (h : RdAt W g r) (hr : r.ok) (h0 : r.er = 0) (hn2 : r.p + n ≤ r.e) : Calls Try.prog 51 #[.pointer (some ⟨g, 0, none⟩), .int .i64 n] W fun e w' => e = .returned (.tuple #[.int .i64 r.p, .bool true]) ∧ Turned g { r with p := r.p + n } W w' := by
  have H := Lib.hid h
  have hc : W.cell? ⟨g, 3, none⟩ = some (.int .i64 r.er) := h.cell 3
  have e1 : (r.er != 0) = false := by simpa using h0
  have HR := Lib.hid hr
  obtain ⟨b2, b3, b4, b5⟩ := hr
  clear h h0
  go_enter Try.func51, Try.ntmps51
  go_wp2_with (first
    | (go_at_call 49; refine (made_any r g _ H.out).mono ?_; rintro e w1 ⟨rfl, rfl⟩)
    | (go_at_call 50; refine (left_any r g _ H.out HR.out).mono ?_; rintro e w1 ⟨rfl, hb⟩; have hc0 := (H.out.below hb).cell 0; have hf0 := (H.out.below hb).free 0; simp only [Rd.cs] at hc0; simp at hc0))
  go_ret2
  refine ⟨by simp, ?_⟩
  exact (turned_p (H.out.below hb) _).after hb
end Go.Proofs.Ytfbakbfljpadlaa
