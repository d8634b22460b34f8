import Derived.Test.YtfbakbfljpadlaaRf
/- Contracts of Sub and NewReader. -/
namespace Go.Proofs.Ytfbakbfljpadlaa
open Go.RowKit
set_option linter.unusedSimpArgs false
set_option linter.unusedVariables false

def Rd.sub (r : Rd) (n : Int) : Rd := if r.er = 0 ∧ 0 ≤ n ∧ (r.p : Int) + n ≤ r.e then ⟨r.p, r.p + n.toNat, r.b, 0, 0⟩ else ⟨(r.past n).p, (r.past n).p, r.b, (r.past n).er, (r.past n).fa⟩

theorem rd_new {w : World} {g : Nat} {r : Rd} (h : g = w.heap.size) : RdAt (w.alloc (.cells r.cs 79)) g r := by subst h; exact heap_alloc_new w _

set_option maxRecDepth 100000 in
theorem Sub_any (r : Rd) (n : Int) (g : Nat) (W : World) (h : RdAt W g r) (hr : r.ok) :
    Calls Try.prog 14 #[.pointer (some ⟨g, 0, none⟩), .int .i64 n] W fun e w' => ∃ g', e = .returned (.pointer (some ⟨g', 0, none⟩)) ∧ W.heap.size ≤ g' ∧ RdAt w' g' (r.sub n) ∧ Turned g (r.past n) W w' := by
  have T := take_any r n g W h hr
  have hq := r.past_b n
  by_cases hc : r.er = 0 ∧ 0 ≤ n ∧ (r.p : Int) + n ≤ r.e
  · rw [if_pos hc] at T
    have e3 : r.sub n = ⟨r.p, r.p + n.toNat, r.b, 0, 0⟩ := by unfold Rd.sub; rw [if_pos hc]
    obtain ⟨h0, hn0, hn1⟩ := hc
    obtain ⟨k, rfl⟩ := Int.eq_ofNat_of_zero_le hn0
    obtain ⟨b2, b3, b4, b5⟩ := hr
    have HT := Lib.hid T
    have H := Lib.hid h
    have HQ := Lib.hid hq
    have HE := Lib.hid e3
    clear T h hq h0 e3
    go_enter Try.func14, Try.ntmps14
    go_wp2_with (first
      | (go_at_call 49; refine (made_any r g _ H.out).mono ?_; rintro e w1 ⟨rfl, rfl⟩)
      | (go_at_call 51; refine HT.out.mono ?_; rintro e w1 ⟨rfl, ht⟩; have hc2 := ht.2.cell 2; simp only [Rd.cs] at hc2; simp only [HQ.out] at hc2; simp at hc2))
    go_ret
    refine ⟨_, rfl, ht.1.size, ?_, ht.then ((Below.refl _ _).alloc (Nat.le_refl _) _)⟩
    rw [HE.out]
    exact rd_new (r := ⟨r.p, r.p + k, r.b, 0, 0⟩) rfl
  · rw [if_neg hc] at T
    have e3 : r.sub n = ⟨(r.past n).p, (r.past n).p, r.b, (r.past n).er, (r.past n).fa⟩ := by unfold Rd.sub; rw [if_neg hc]
    have HT := Lib.hid T
    have H := Lib.hid h
    have HQ := Lib.hid hq
    have HE := Lib.hid e3
    clear T h hq hc e3
    go_enter Try.func14, Try.ntmps14
    go_wp2_with (first
      | (go_at_call 49; refine (made_any r g _ H.out).mono ?_; rintro e w1 ⟨rfl, rfl⟩)
      | (go_at_call 51; refine HT.out.mono ?_; rintro e w1 ⟨rfl, ht⟩; have hc0 := ht.2.cell 0; have hc2 := ht.2.cell 2; have hc3 := ht.2.cell 3; have hc4 := ht.2.cell 4; simp only [Rd.cs] at hc0 hc2 hc3 hc4; simp only [HQ.out] at hc2; simp at hc0 hc2 hc3 hc4))
    go_still_tail 20, (by kernel_rfl)
    go_wp2_with fail
    go_ret
    refine ⟨_, rfl, ht.1.size, ?_, ht.then ((below_drewN (Below.refl _ _) _).alloc (Nat.le_refl _) _)⟩
    rw [HE.out]
    exact rd_new (r := ⟨(r.past n).p, (r.past n).p, r.b, (r.past n).er, (r.past n).fa⟩) rfl

/-- What a new reader is. -/
structure NewRd (W w' : World) (g n : Nat) (b : Sl) (bs : List UInt8) : Prop where
  new : W.heap.size ≤ g
  rd : RdAt w' g ⟨0, n, b, 0, 0⟩
  ok : Rd.ok ⟨0, n, b, 0, 0⟩
  by' : Bys w' ⟨0, n, b, 0, 0⟩ bs
  fresh : ∀ blk off, b.a = some ⟨blk, off, none⟩ → W.heap.size ≤ blk
  old : ∀ blk off, b.a = some ⟨blk, off, none⟩ → blk < w'.heap.size
  below : Below W.heap.size W w'
theorem NewReader_any (A : Option Addr) (n c : Nat) (bs : List UInt8) (W : World) (h : IsBy W A n bs) (hn : n ≤ 100000) :
    Calls Try.prog 10 #[.slice A n c] W fun e w' => ∃ g b, e = .returned (.pointer (some ⟨g, 0, none⟩)) ∧ NewRd W w' g n b bs := by
  have HC := Lib.hid (Clone_any A n c bs W h (by omega))
  have HL := Lib.hid h.len
  clear h
  go_enter Try.func10, Try.ntmps10
  go_wp2_with (go_at_call 48; refine HC.out.mono ?_; rintro e w1 ⟨v, rfl, hown, hb⟩; obtain ⟨A', c', rfl, hc', hm', hh', hA'⟩ := held_of_owns hown; have HH := Lib.hid hh'; have HO := Lib.hid hown; have HA := Lib.hid hA'; have HOB := Lib.hid (fun (blk off : Nat) (h : A' = some ⟨blk, off, none⟩) => (owns_block hown blk (by rw [h]; rfl)).2); clear hh' hown hA')
  go_ret
  refine ⟨_, ⟨A', n, c'⟩, rfl, hb.size, rd_new (r := ⟨0, n, ⟨A', n, c'⟩, 0, 0⟩) rfl, ⟨by simp, Nat.le_refl _, hc', hn⟩, ⟨HH.out.alloc _, HL.out⟩, HA.out, fun blk off h => ?_, hb.alloc hb.size _⟩
  have := HOB.out blk off h
  simp; omega
end Go.Proofs.Ytfbakbfljpadlaa
