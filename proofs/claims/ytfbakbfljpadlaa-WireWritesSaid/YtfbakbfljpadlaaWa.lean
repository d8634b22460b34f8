import Derived.Test.YtfbakbfljpadlaaRg
import Derived.Maps.OwnSet
import Derived.Deep.RegionHeld3
import Derived.Deep.AppendLies
import Derived.Deep.DrawnRows
/- Contracts of the writers of package wire: what makes one and looks at one; a number written. -/
namespace Go.Proofs.Ytfbakbfljpadlaa
open Go.RowKit Go.Maps
set_option linter.unusedSimpArgs false
set_option linter.unusedVariables false

structure Wr where
  (b : Sl) (lim : Int) (m : Nat) (bs : List UInt8) (D : DataW Unit) (cnt : Nat)
def Wr.v (r : Wr) : Value := .slice r.b.a r.b.n r.b.c
def Wr.cs (r : Wr) : Array Value := #[r.v, .int .i64 r.lim, .map (some r.m)]
/-- A writer lies in block g. -/
structure Wr.At (r : Wr) (w : World) (base g : Nat) : Prop where
  box : w.heap[g]? = some (.cells r.cs 86 (0, 0))
  own : w.ownsRow base 5 1 r.v r.b.n (r.bs.map byv)
  map : w.ownsMap Try.prog 3 unitElem r.m r.cnt r.D
  lim0 : 0 ≤ r.lim
  lim1 : r.lim ≤ 65536
  len : (r.bs.length : Int) ≤ r.lim
  gbase : base ≤ g
  mbase : base ≤ r.m
def Wr.blk (r : Wr) (g : Nat) : Nat := (r.v.ownBlock).getD g
def Wr.S (r : Wr) (g : Nat) : List Nat := [g, r.m, r.blk g]

theorem Wr.At.n {r : Wr} {w : World} {base g : Nat} (h : r.At w base g) : r.bs.length = r.b.n := by
  have := h.own.1
  simpa using this
theorem Wr.At.lt {r : Wr} {w : World} {base g : Nat} (h : r.At w base g) : g < w.heap.size := (Array.getElem?_eq_some_iff.1 h.box).1
theorem Wr.At.cell {r : Wr} {w : World} {base g : Nat} (h : r.At w base g) (i : Nat) : w.cell? ⟨g, i, none⟩ = r.cs[i]? := by simp [World.cell?, h.box]
theorem Wr.At.free {r : Wr} {w : World} {base g : Nat} (h : r.At w base g) (i : Nat) : w.frozen? ⟨g, i, none⟩ = false := by simp [World.frozen?, h.box]
/-- The row of bytes lies in another block than the writer and its map. -/
theorem Wr.At.apart {r : Wr} {w : World} {base g : Nat} (h : r.At w base g) : ∀ k, r.v.ownBlock = some k → k ≠ g ∧ k ≠ r.m ∧ base ≤ k ∧ k < w.heap.size := fun k hk => by
  rcases h.own.2 with ⟨h1, _⟩ | ⟨g', cap, cur, h1, hb, hh, _⟩
  · rw [h1] at hk; simp [Value.ownBlock] at hk
  · rw [h1] at hk
    simp [Value.ownBlock] at hk
    subst hk
    refine ⟨?_, ?_, hb, (Array.getElem?_eq_some_iff.1 hh).1⟩
    · rintro rfl
      rw [h.box] at hh
      simp at hh
    · rintro rfl
      obtain ⟨es, clock, hm, _⟩ := h.map
      rw [hm] at hh
      simp at hh
theorem Wr.At.gm {r : Wr} {w : World} {base g : Nat} (h : r.At w base g) : g ≠ r.m := by
  rintro rfl
  obtain ⟨es, clock, hm, _⟩ := h.map
  rw [h.box] at hm
  simp at hm
theorem Wr.At.only {r : Wr} {w w' : World} {base g : Nat} {S : List Nat} (h : r.At w base g) (hb : Only S w w') (hg : g ∉ S) (hm : r.m ∉ S) (hk : ∀ k, r.v.ownBlock = some k → k ∉ S) : r.At w' base g :=
  ⟨(hb.block g h.lt hg).trans h.box, owns_only h.own hb hk, map_only h.map hb hm, h.lim0, h.lim1, h.len, h.gbase, h.mbase⟩
theorem Wr.At.below {r : Wr} {w w' : World} {base g : Nat} (h : r.At w base g) (hb : Below w.heap.size w w') : r.At w' base g := h.only (Only.of_below hb []) (by simp) (by simp) (by simp)

theorem wmade_any (r : Wr) (base g : Nat) (W : World) (h : r.At W base g) : Calls Try.prog 59 #[.pointer (some ⟨g, 0, none⟩)] W fun e w' => e = .returned (.bool true) ∧ W = w' := by
  have hc := h.cell 2
  have hu : ∀ (w : World) (m : Option Nat), (binOp .neq 84 (.map m) (.map none)).run Try.prog w = .ok (.bool (!m.isNone)) w := fun w m => run_neq_map_nil w 84 3 89 m Try.underlying84
  simp [Wr.cs] at hc
  clear h
  go_enter Try.func59, Try.ntmps59
  go_wp2_with fail
  go_ret
  exact ⟨rfl, rfl⟩

theorem Len_any (r : Wr) (base g : Nat) (W : World) (h : r.At W base g) : Calls Try.prog 41 #[.pointer (some ⟨g, 0, none⟩)] W fun e w' => e = .returned (.int .i64 r.bs.length) ∧ W = w' := by
  have hc := h.cell 0
  simp [Wr.cs, Wr.v] at hc
  have HL := Lib.hid h.n
  have H := Lib.hid h
  clear h
  go_enter Try.func41, Try.ntmps41
  go_wp2_with (go_at_call 59; refine (wmade_any r base g _ H.out).mono ?_; rintro e w1 ⟨rfl, rfl⟩)
  go_ret
  exact ⟨by rw [HL.out]; rfl, rfl⟩

theorem Out_any (r : Wr) (base g : Nat) (W : World) (h : r.At W base g) : Calls Try.prog 40 #[.pointer (some ⟨g, 0, none⟩)] W fun e w' => ∃ v, e = .returned v ∧ w'.ownsRow W.heap.size 5 1 v r.bs.length (r.bs.map byv) ∧ Below W.heap.size W w' := by
  have hc := h.cell 0
  simp [Wr.cs, Wr.v] at hc
  have HL := Lib.hid h.n
  have H := Lib.hid h
  have hby : IsBy W r.b.a r.b.n r.bs := by
    obtain ⟨A, c, hv, _, _, hh, _⟩ := held_of_owns h.own
    simp [Wr.v] at hv
    rw [hv.1]
    exact ⟨hh, h.n⟩
  have HB := Lib.hid hby
  have hl : r.b.n ≤ 1000000 := by have := h.len; have := h.lim1; have := h.n; omega
  clear h hby
  go_enter Try.func40, Try.ntmps40
  go_wp2_with (first
    | (go_at_call 59; refine (wmade_any r base g _ H.out).mono ?_; rintro e w1 ⟨rfl, rfl⟩)
    | (go_at_call 48; refine (Clone_any _ _ _ r.bs _ HB.out hl).mono ?_; rintro e w1 ⟨v, rfl, hown, hb⟩; have HO := Lib.hid hown; clear hown))
  go_ret
  exact ⟨v, rfl, by rw [HL.out]; exact HO.out, hb⟩
end Go.Proofs.Ytfbakbfljpadlaa
