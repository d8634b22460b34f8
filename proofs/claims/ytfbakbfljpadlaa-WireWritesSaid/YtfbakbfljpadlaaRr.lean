import Derived.Test.YtfbakbfljpadlaaRg
import Derived.Deep.RegionLaw
import Derived.BigRegion
/- Contracts of the reference's readers. -/
namespace Go.Proofs.Ytfbakbfljpadlaa
open Go.RowKit
set_option linter.unusedSimpArgs false
set_option linter.unusedVariables false

def Rd.cs2 (r : Rd) : Array Value := #[.slice r.b.a r.b.n r.b.c, .int .i64 r.p, .int .i64 r.e, .int .i64 r.er, .int .i64 r.fa]
/-- A reader of the reference lies in block g. -/
def RfAt (w : World) (g : Nat) (r : Rd) : Prop := w.heap[g]? = some (.cells r.cs2 51 (0, 0))
def TurnedF (g : Nat) (r : Rd) (W w' : World) : Prop := Only [g] W w' ∧ RfAt w' g r
theorem RfAt.cell {W : World} {g : Nat} {r : Rd} (h : RfAt W g r) (i : Nat) : W.cell? ⟨g, i, none⟩ = r.cs2[i]? := by simp [World.cell?, show W.heap[g]? = _ from h]
theorem RfAt.free {W : World} {g : Nat} {r : Rd} (h : RfAt W g r) (i : Nat) : W.frozen? ⟨g, i, none⟩ = false := by simp [World.frozen?, show W.heap[g]? = _ from h]
theorem RfAt.lt {W : World} {g : Nat} {r : Rd} (h : RfAt W g r) : g < W.heap.size := (Array.getElem?_eq_some_iff.1 h).1
theorem RfAt.below {W w' : World} {g : Nat} {r : Rd} (h : RfAt W g r) (hb : Below W.heap.size W w') : RfAt w' g r := (hb.block g h.lt).trans h
theorem RfAt.only {W w' : World} {g : Nat} {r : Rd} {S : List Nat} (h : RfAt W g r) (hb : Only S W w') (hg : g ∉ S) : RfAt w' g r := (hb.block g h.lt hg).trans h
theorem TurnedF.after {W w1 w' : World} {g : Nat} {r : Rd} (hb : Below W.heap.size W w1) (h : TurnedF g r w1 w') : TurnedF g r W w' := ⟨(Only.of_below hb _).trans h.1, h.2⟩
theorem TurnedF.then {W w1 w' : World} {g : Nat} {r : Rd} (h : TurnedF g r W w1) (hb : Below w1.heap.size w1 w') : TurnedF g r W w' := ⟨h.1.then_below hb, h.2.below hb⟩
theorem turnedF_same {W w' : World} {g : Nat} {r : Rd} (h : RfAt W g r) (hb : Below W.heap.size W w') : TurnedF g r W w' := ⟨Only.of_below hb _, h.below hb⟩
theorem turnedF_p {W : World} {g : Nat} {r : Rd} (h : RfAt W g r) (v : Nat) : TurnedF g { r with p := v } W (W.setCell ⟨g, 1, none⟩ (.int .i64 v)) := by
  refine ⟨only_set _ _ _ _, ?_⟩
  unfold RfAt
  rw [heap_setCell_same W _ 1 _ _ _ h]
  simp [Rd.cs2]
theorem turnedF_f {W : World} {g : Nat} {r : Rd} (h : RfAt W g r) (x y : Int) : TurnedF g { r with er := x, fa := y } W ((W.setCell ⟨g, 3, none⟩ (.int .i64 x)).setCell ⟨g, 4, none⟩ (.int .i64 y)) := by
  have h1 : (W.setCell ⟨g, 3, none⟩ (.int .i64 x)).heap[g]? = some (.cells (r.cs2.setIfInBounds 3 (.int .i64 x)) 51 (0, 0)) := heap_setCell_same W _ 3 _ _ _ h
  refine ⟨(only_set _ _ _ _).trans (only_set _ _ _ _), ?_⟩
  unfold RfAt
  rw [heap_setCell_same _ _ 4 _ _ _ h1]
  simp [Rd.cs2]
theorem byteF_apart {W : World} {g b i : Nat} {r : Rd} {x : UInt8} (h : RfAt W g r) (hc : W.cell? ⟨b, i, none⟩ = some (byv x)) : b ≠ g := by
  rintro rfl
  rw [h.cell] at hc
  unfold Rd.cs2 byv at hc
  match i, hc with
  | 0, hc | 1, hc | 2, hc | 3, hc | 4, hc => simp at hc
  | i + 5, hc => simp at hc
theorem heldF_turned {W w1 : World} {g : Nat} {A : Option Addr} {r : Rd} {bs : List UInt8} (h : RfAt W g r) (hh : Held W A (bs.map byv)) (ht : Only [g] W w1) : Held w1 A (bs.map byv) := fun hp => by
  obtain ⟨b, o, rfl, hlt, hc⟩ := hh hp
  have hne : b ≠ g := by
    obtain ⟨x, hx⟩ : ∃ x, bs[0]? = some x := ⟨bs[0]'(by simpa using hp), List.getElem?_eq_getElem _⟩
    exact byteF_apart h (hc 0 (byv x) (by simp [hx]))
  exact (hh.only ht (fun b' o' hA => by simp at hA; simp; omega)) hp
theorem Bys.turnedF {W w1 : World} {g : Nat} {r r' r2 : Rd} {bs : List UInt8} (hB : Bys W r bs) (h : RfAt W g r2) (ht : Only [g] W w1) (hb : r'.b = r.b) : Bys w1 r' bs := ⟨by rw [hb]; exact heldF_turned h hB.held ht, by rw [hb]; exact hB.len⟩

theorem LeftF_any (r : Rd) (g : Nat) (W : World) (h : RfAt W g r) (hr : r.ok) : Calls Try.prog 28 #[.pointer (some ⟨g, 0, none⟩)] W fun e w' => e = .returned (.int .i64 ((r.e : Int) - r.p)) ∧ Below W.heap.size W w' := by
  obtain ⟨h2, h3, h4, h5⟩ := hr
  have hc1 := h.cell 1
  have hc2 := h.cell 2
  simp [Rd.cs2] at hc1 hc2
  clear h
  go_enter Try.func28, Try.ntmps28
  go_wp2_with fail
  go_quiet (fail)
  go_wp2_with fail
  go_ret
  exact ⟨rfl, below_drewN (Below.refl _ _) _⟩

theorem FailF_same (r : Rd) (x : Int) (g : Nat) (W : World) (h : RfAt W g r) (hx : x = 0 ∨ r.er ≠ 0) : Calls Try.prog 27 #[.pointer (some ⟨g, 0, none⟩), .int .i64 x] W fun e w' => e = .returned (.tuple #[]) ∧ W = w' := by
  have hc3 := h.cell 3
  simp [Rd.cs2] at hc3
  clear h
  by_cases h0 : x = 0
  · subst h0
    clear hx
    go_enter Try.func27, Try.ntmps27
    go_wp2_with fail
    go_end0
    exact ⟨rfl, rfl⟩
  · have x1 : (x != 0) = true := by simpa using h0
    have e1 : (r.er == 0) = false := by simpa [h0] using hx
    clear hx h0
    go_enter Try.func27, Try.ntmps27
    go_wp2_with fail
    go_end0
    exact ⟨rfl, rfl⟩

theorem FailF_sets (r : Rd) (x : Int) (g : Nat) (W : World) (h : RfAt W g r) (hx : x ≠ 0) (h0 : r.er = 0) : Calls Try.prog 27 #[.pointer (some ⟨g, 0, none⟩), .int .i64 x] W fun e w' => e = .returned (.tuple #[]) ∧ TurnedF g { r with er := x, fa := r.p } W w' := by
  have H := Lib.hid h
  have hc1 := h.cell 1
  have hc3 := h.cell 3
  have hc4 := h.cell 4
  have hf3 := h.free 3
  have hf4 := h.free 4
  simp [Rd.cs2] at hc1 hc3 hc4
  have x1 : (x != 0) = true := by simpa using hx
  have e1 : (r.er == 0) = true := by simpa using h0
  clear hx h0 h
  go_enter Try.func27, Try.ntmps27
  go_wp2_with fail
  go_end0
  exact ⟨rfl, turnedF_f H.out _ _⟩

theorem HasF_err (r : Rd) (n : Int) (g : Nat) (W : World) (h : RfAt W g r) (h0 : r.er ≠ 0) : Calls Try.prog 56 #[.pointer (some ⟨g, 0, none⟩), .int .i64 n] W fun e w' => e = .returned (.bool false) ∧ Below W.heap.size W w' := by
  have hc3 := h.cell 3
  simp [Rd.cs2] at hc3
  have e1 : (r.er == 0) = false := by simpa using h0
  clear h h0
  go_enter Try.func56, Try.ntmps56
  go_wp2_with fail
  go_quiet (fail)
  go_wp2_with fail
  go_ret
  exact ⟨rfl, below_drewN (Below.refl _ _) _⟩

theorem HasF_short (r : Rd) (n : Int) (g : Nat) (W : World) (h : RfAt W g r) (hr : r.ok) (h0 : r.er = 0) (hn : n < 0 ∨ (r.e : Int) - r.p < n) : Calls Try.prog 56 #[.pointer (some ⟨g, 0, none⟩), .int .i64 n] W fun e w' => e = .returned (.bool false) ∧ TurnedF g { r with er := 4, fa := r.p } W w' := by
  have H := Lib.hid h
  have hc1 := h.cell 1
  have hc2 := h.cell 2
  have hc3 := h.cell 3
  have hc4 := h.cell 4
  have hf3 := h.free 3
  have hf4 := h.free 4
  simp [Rd.cs2] at hc1 hc2 hc3 hc4
  have e1 : (r.er == 0) = true := by simpa using h0
  obtain ⟨b2, b3, b4, b5⟩ := hr
  clear h h0
  by_cases hlt : n < 0
  · have hd : decide (n < 0) = true := by simpa using hlt
    clear hn hlt
    go_enter Try.func56, Try.ntmps56
    go_wp2_with fail
    go_quiet (fail)
    go_wp2_with fail
    go_ret
    exact ⟨rfl, (turnedF_f (RfAt.below H.out (below_drewN (Below.refl _ _) _)) _ _).after (below_drewN (Below.refl _ _) _)⟩
  · have hd : decide (n < 0) = false := by simpa using hlt
    have hd2 : decide ((r.e : Int) - r.p < n) = true := by simp; omega
    have hw : IntKind.i64.wrap ((r.e : Int) - r.p) = (r.e : Int) - r.p := IntWalk.i64_in _ (by omega)
    clear hn hlt
    go_enter Try.func56, Try.ntmps56
    go_wp2_with fail
    go_quiet (fail)
    go_wp2_with fail
    go_ret
    exact ⟨rfl, (turnedF_f (RfAt.below H.out (below_drewN (Below.refl _ _) _)) _ _).after (below_drewN (Below.refl _ _) _)⟩

theorem HasF_ok (r : Rd) (n : Nat) (g : Nat) (W : World) (h : RfAt W g r) (hr : r.ok) (h0 : r.er = 0) (hn : r.p + n ≤ r.e) : Calls Try.prog 56 #[.pointer (some ⟨g, 0, none⟩), .int .i64 n] W fun e w' => e = .returned (.bool true) ∧ Below W.heap.size W w' := by
  have hc1 := h.cell 1
  have hc2 := h.cell 2
  have hc3 := h.cell 3
  simp [Rd.cs2] at hc1 hc2 hc3
  have e1 : (r.er == 0) = true := by simpa using h0
  obtain ⟨b2, b3, b4, b5⟩ := hr
  have hd : decide ((n : Int) < 0) = false := by simp
  have hd2 : decide ((r.e : Int) - r.p < n) = false := by simp; omega
  have hw : IntKind.i64.wrap ((r.e : Int) - r.p) = (r.e : Int) - r.p := IntWalk.i64_in _ (by omega)
  clear h h0
  go_enter Try.func56, Try.ntmps56
  go_wp2_with fail
  go_quiet (fail)
  go_wp2_with fail
  go_ret
  exact ⟨rfl, below_drewN (Below.refl _ _) _⟩

/-- What Has says, and the reader behind it. -/
def Rd.has (r : Rd) (n : Int) : Bool := decide (r.er = 0 ∧ 0 ≤ n ∧ (r.p : Int) + n ≤ r.e)
theorem HasF_no (r : Rd) (n : Int) (g : Nat) (W : World) (h : RfAt W g r) (hr : r.ok) (hn : ¬ (r.er = 0 ∧ 0 ≤ n ∧ (r.p : Int) + n ≤ r.e)) : Calls Try.prog 56 #[.pointer (some ⟨g, 0, none⟩), .int .i64 n] W fun e w' => e = .returned (.bool false) ∧ TurnedF g (r.past n) W w' := by
  by_cases h0 : r.er = 0
  · have e2 : r.past n = { r with er := 4, fa := r.p } := by unfold Rd.past; rw [if_neg (by simpa using h0), if_neg (fun h => hn ⟨h0, h⟩)]
    rw [e2]
    exact HasF_short r n g W h hr h0 (by omega)
  · have e2 : r.past n = r := by unfold Rd.past; rw [if_pos h0]
    rw [e2]
    exact (HasF_err r n g W h h0).mono fun e w' ⟨h1, h2⟩ => ⟨h1, turnedF_same h h2⟩
end Go.Proofs.Ytfbakbfljpadlaa
