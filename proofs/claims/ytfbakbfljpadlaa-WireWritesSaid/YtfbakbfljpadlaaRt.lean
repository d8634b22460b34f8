import Derived.Test.YtfbakbfljpadlaaRs
import Derived.Deep.RegionHeld3
import Derived.Deep.DrawnRows
/- Contracts of the reference's readers: bytes. -/
namespace Go.Proofs.Ytfbakbfljpadlaa
open Go.RowKit
set_option linter.unusedSimpArgs false
set_option linter.unusedVariables false
attribute [local go_sem ↓] Go.wp_at_zero Go.wp_at_succ

@[local go_sem ↓ high] theorem part_lh (w : World) (A : Option Addr) (n c : Nat) (kl kh : IntKind) (l h : Int) (h0 : 0 ≤ l) (h1 : l ≤ h) (h2 : h ≤ c) : (Instr.slice 22 (.slice A n c) (some (.int kl l)) (some (.int kh h)) none).run Try.prog w = .ok (.slice (partA A c l.toNat) (h.toNat - l.toNat) (c - l.toNat)) w :=
  run_part_lh Try.underlying22 (fun w => by kernel_rfl) w A n c kl kh l h h0 h1 h2

set_option maxRecDepth 100000 in
set_option maxHeartbeats 1000000 in
theorem BytesF_any (r : Rd) (bs : List UInt8) (n : Int) (g : Nat) (W : World) (h : RfAt W g r) (hr : r.ok) (hB : Bys W r bs) :
    Calls Try.prog 25 #[.pointer (some ⟨g, 0, none⟩), .int .i64 n] W fun e w' => ∃ v, e = .returned v ∧ w'.ownsRow W.heap.size 5 1 v (r.chunk bs n).length ((r.chunk bs n).map byv) ∧ TurnedF g (r.past n) W w' := by
  by_cases hc : r.er = 0 ∧ 0 ≤ n ∧ (r.p : Int) + n ≤ r.e
  · obtain ⟨h0, hn0, hn1⟩ := hc
    obtain ⟨k, rfl⟩ := Int.eq_ofNat_of_zero_le hn0
    have HH := Lib.hid (HasF_ok r k g W h hr h0 (by omega))
    have e2 : r.past k = { r with p := r.p + k } := by unfold Rd.past; rw [if_neg (by simpa using h0), if_pos ⟨hn0, hn1⟩]; rfl
    have e3 : r.chunk bs k = (bs.drop r.p).take k := by unfold Rd.chunk; rw [if_pos ⟨h0, hn0, hn1⟩]; rfl
    rw [e2, e3]
    clear e2 e3
    obtain ⟨p, e, ⟨ba, bn, bc⟩, er, fa⟩ := r
    obtain ⟨b2, b3, b4, b5⟩ := hr
    have hlen := hB.len
    simp only at b2 b3 b4 b5 hlen h0 hn1 ⊢
    have hl2 : ((bs.drop p).take k).length = k := by simp; omega
    have HB := Lib.hid hB
    have HL := Lib.hid hlen
    have HL2 := Lib.hid hl2
    have H := Lib.hid h
    clear hB hlen h h0 hl2
    obtain ⟨i0, hi0, hz0, hz1, hz2⟩ := info_parts info_u8
    have hw1 : IntKind.i64.wrap ((p : Int) + (k : Int) - (k : Int)) = (p : Int) := by rw [IntWalk.i64_in _ (by omega)]; omega
    have hw2 : (0 : Int) ≤ (p : Int) := by omega
    have hw3 : (p : Int) ≤ (p : Int) + k := by omega
    have hw4 : (p : Int) + k ≤ (bc : Int) := by omega
    go_enter Try.func25, Try.ntmps25
    go_wp2_with (go_at_call 56; refine HH.out.mono ?_; rintro e w1 ⟨rfl, hb1⟩; have hc0 := (H.out.below hb1).cell 0; have hc1 := (H.out.below hb1).cell 1; have hf1 := (H.out.below hb1).free 1; simp [Rd.cs2] at hc0 hc1)
    have hT := (turnedF_p' (v := p + k) (y := (p : Int) + k) (H.out.below hb1) (by omega))
    obtain ⟨w2, hw2⟩ : ∃ w2, w1.setCell ⟨g, 1, none⟩ (.int .i64 ((p : Int) + k)) = w2 := ⟨_, rfl⟩
    rw [hw2] at hT ⊢
    have hd0 := hT.2.cell 0
    have hd1 := hT.2.cell 1
    have hlt := hT.2.lt
    simp [Rd.cs2] at hd0 hd1
    have HT := Lib.hid (hT.after hb1)
    clear hT hw2 hc0 hc1 hf1
    have hw7 : IntKind.i64.wrap (p : Int) = (p : Int) := IntWalk.i64_in _ (by omega)
    have hw5 : ((p : Int) + k).toNat = p + k := by omega
    have hw6 : (0 : Int) ≤ (p : Int) + k := by omega
    have hsrc : IsBy w2 (partA ba bc p) k ((bs.drop p).take k) := by
      have hby : IsBy w2 ba bn bs := ⟨heldF_turned H.out HB.out.held HT.out.1, HL.out⟩
      have := hby.part (l := p) (h := p + k) (c := bc) (by omega) (by omega) (by omega)
      rwa [show p + k - p = k by omega] at this
    have HSRC := Lib.hid hsrc
    clear hsrc
    have hne : some g ≠ (Value.slice (some ⟨w2.heap.size, 0, none⟩) 0 0).ownBlock := by simp [Value.ownBlock]; omega
    have HNE := Lib.hid hne
    clear hne
    go_region_held3 (fun w' => w'.cell? ⟨g, 0, none⟩ = some (.slice ba bn bc) ∧ w'.cell? ⟨g, 1, none⟩ = some (.int .i64 ((p : Int) + k))) (first | (go_keep; done) | (go_split_ands; refine ⟨?_, ?_⟩ <;> (rw [hgrow3.cell_far _ (by simp; omega) HNE.out]; first | assumption | (rw [World.cell?_drew, rule_cell_alloc, if_pos hlt]; assumption))))
      ((refine step_append_held _ (by rfl) _ _ _ (by rfl) w2.heap.size 5 i0 _ 1 1 Try.underlying22 hi0 hz0 hz1 hz2 rfl (by omega) (.slice (some ⟨w2.heap.size, 0, none⟩) 0 0) 0 [] (by rfl) (by exact owns_empty w2 _ _) (partA ba bc p) k (bc - p) (((bs.drop p).take k).map byv) (by rfl) (by rw [List.length_map, HL2.out, Nat.mul_one]) (by exact HSRC.out.held.alloc _) (byv_one _) (by simp only [maxLen]; omega) (by omega) (by simp) ?_; intro v3 w3 hown3 hgrow3 hat3))
    have hb3 : Below w2.heap.size w2 w3 := (((Below.refl _ w2).alloc (Nat.le_refl _) _).drew).trans (below_grown hgrow3 (by simp) (by simp [Value.ownBlock]))
    have HO := Lib.hid hown3
    have HB3 := Lib.hid hb3
    clear hown3 hgrow3 hat3 hb3
    go_wp2_with fail
    go_ret
    refine ⟨v3, rfl, ?_, HT.out.then HB3.out⟩
    rw [show min k (bs.length - p) = k by rw [HL.out]; omega]
    simpa using owns_low HO.out HT.out.1.size
  · have T := HasF_no r n g W h hr hc
    have e3 : r.chunk bs n = [] := by unfold Rd.chunk; rw [if_neg hc]
    rw [e3]
    have HT := Lib.hid T
    clear T h hr hB hc e3
    go_enter Try.func25, Try.ntmps25
    go_wp2_with (go_at_call 56; refine HT.out.mono ?_; rintro e w1 ⟨rfl, ht⟩)
    go_ret
    exact ⟨_, rfl, ⟨rfl, .inl ⟨rfl, rfl⟩⟩, ht⟩
end Go.Proofs.Ytfbakbfljpadlaa
