import Derived.Test.YtfbakbfljpadlaaRt
import Derived.Test.YtfbakbfljpadlaaFa
/- WireReads: what holds of the readers of the program and of the reference. -/
namespace Go.Proofs.Ytfbakbfljpadlaa
open Go.RowKit
set_option linter.unusedSimpArgs false
set_option linter.unusedVariables false

theorem sizes_any (W : World) : Calls Try.prog 24 #[] W fun e w' => ∃ H, e = .returned (.slice (some ⟨H, 0, none⟩) 6 6) ∧ H < w'.heap.size ∧ (∀ y, y < 6 → w'.cell? ⟨H, y, none⟩ = some (.int .i64 (sz y))) ∧ Below W.heap.size W w' := by
  go_enter Try.func24, Try.ntmps24
  go_wp2_with fail
  go_ret
  refine ⟨W.heap.size, rfl, by simp, fun y hy => ?_, (Below.refl _ _).alloc (Nat.le_refl _) _⟩
  simp only [World.cell?, heap_here (w := W) rfl]
  match y, hy with
  | 0, _ | 1, _ | 2, _ | 3, _ | 4, _ | 5, _ => rfl

def Rd.on (s : Rd) (b : Sl) : Rd := { s with b := b }
@[simp] theorem Rd.on_num (s : Rd) (b : Sl) (bs : List UInt8) (k : Nat) : (s.on b).num bs k = s.num bs k := rfl
@[simp] theorem Rd.on_chunk (s : Rd) (b : Sl) (bs : List UInt8) (n : Int) : (s.on b).chunk bs n = s.chunk bs n := rfl
theorem Rd.on_past (s : Rd) (b : Sl) (n : Int) : (s.on b).past n = (s.past n).on b := by
  unfold Rd.past Rd.on
  simp only
  split
  · rfl
  · split <;> rfl
theorem Rd.on_sub (s : Rd) (b : Sl) (n : Int) : (s.on b).sub n = (s.sub n).on b := by
  unfold Rd.sub
  rw [Rd.on_past]
  by_cases h : s.er = 0 ∧ 0 ≤ n ∧ (s.p : Int) + n ≤ s.e
  · rw [if_pos h, if_pos (show (s.on b).er = 0 ∧ 0 ≤ n ∧ ((s.on b).p : Int) + n ≤ (s.on b).e from h)]; rfl
  · rw [if_neg h, if_neg (show ¬ ((s.on b).er = 0 ∧ 0 ≤ n ∧ ((s.on b).p : Int) + n ≤ (s.on b).e) from h)]; rfl
theorem Rd.on_fail (s : Rd) (b : Sl) (x : Int) : (s.on b).fail x = (s.fail x).on b := by
  unfold Rd.fail Rd.on
  simp only
  split <;> rfl

/-- The same reader twice: of the program in block g, of the reference in block h. -/
structure Twin (w : World) (g h : Nat) (s : Rd) (b1 b2 : Sl) : Prop where
  rd : RdAt w g (s.on b1)
  rf : RfAt w h (s.on b2)
  ok1 : (s.on b1).ok
  ok2 : (s.on b2).ok
theorem Twin.later {w w' : World} {g h : Nat} {s : Rd} {b1 b2 : Sl} (t : Twin w g h s b1 b2) (hb : Below w.heap.size w w') : Twin w' g h s b1 b2 := ⟨t.rd.below hb, t.rf.below hb, t.ok1, t.ok2⟩
theorem rd_ne_rf {w : World} {g h : Nat} {r s : Rd} (h1 : RdAt w g r) (h2 : RfAt w h s) : g ≠ h := by
  rintro rfl
  unfold RdAt at h1
  unfold RfAt at h2
  rw [h1] at h2
  simp at h2

/-- WireReads, ahead of a round: the first pair of readers and the pair in use. -/
structure RInv (W w : World) (g1 h1 g2 h2 : Nat) (s1 s2 : Rd) (b1 b2 : Sl) (bs : List UInt8) : Prop where
  below : Below W.heap.size W w
  gW1 : W.heap.size ≤ g1
  hW1 : W.heap.size ≤ h1
  gW2 : W.heap.size ≤ g2
  hW2 : W.heap.size ≤ h2
  t1 : Twin w g1 h1 s1 b1 b2
  t2 : Twin w g2 h2 s2 b1 b2
  by1 : Held w b1.a (bs.map byv)
  by2 : Held w b2.a (bs.map byv)
  n1 : bs.length = b1.n
  n2 : bs.length = b2.n
  alt : g1 = g2 ∧ h1 = h2 ∧ s1 = s2 ∨ g1 ≠ g2 ∧ h1 ≠ h2
section
variable {W w w1 w' : World} {g1 h1 g2 h2 : Nat} {s1 s2 s : Rd} {b1 b2 : Sl} {bs : List UInt8}
theorem RInv.later (i : RInv W w g1 h1 g2 h2 s1 s2 b1 b2 bs) (hb : Below w.heap.size w w') : RInv W w' g1 h1 g2 h2 s1 s2 b1 b2 bs :=
  ⟨i.below.trans (hb.mono i.below.size), i.gW1, i.hW1, i.gW2, i.hW2, i.t1.later hb, i.t2.later hb, i.by1.below hb, i.by2.below hb, i.n1, i.n2, i.alt⟩
theorem RInv.only {S : List Nat} (i : RInv W w g1 h1 g2 h2 s1 s2 b1 b2 bs) (ho : Only S w w') (hS : ∀ x ∈ S, W.heap.size ≤ x) (a1 : g1 ∉ S) (a2 : h1 ∉ S) (a3 : g2 ∉ S) (a4 : h2 ∉ S) (a5 : ∀ blk off, b1.a = some ⟨blk, off, none⟩ → blk ∉ S) (a6 : ∀ blk off, b2.a = some ⟨blk, off, none⟩ → blk ∉ S) : RInv W w' g1 h1 g2 h2 s1 s2 b1 b2 bs :=
  ⟨ho.below i.below i.below.size hS, i.gW1, i.hW1, i.gW2, i.hW2, ⟨i.t1.rd.only ho a1, i.t1.rf.only ho a2, i.t1.ok1, i.t1.ok2⟩, ⟨i.t2.rd.only ho a3, i.t2.rf.only ho a4, i.t2.ok1, i.t2.ok2⟩, i.by1.only ho a5, i.by2.only ho a6, i.n1, i.n2, i.alt⟩
theorem RInv.bys1 (i : RInv W w g1 h1 g2 h2 s1 s2 b1 b2 bs) : Bys w (s2.on b1) bs := ⟨i.by1, i.n1⟩
theorem RInv.bys2 (i : RInv W w g1 h1 g2 h2 s1 s2 b1 b2 bs) : Bys w (s2.on b2) bs := ⟨i.by2, i.n2⟩
/-- Behind a call of the program's reader: what the reference's reader is asked. -/
structure Mid (W w w1 : World) (g1 h1 g2 h2 : Nat) (s1 s2 s : Rd) (b1 b2 : Sl) (bs : List UInt8) : Prop where
  inv : RInv W w g1 h1 g2 h2 s1 s2 b1 b2 bs
  turn : Turned g2 (s.on b1) w w1
  rf : RfAt w1 h2 (s2.on b2)
  bys : Bys w1 (s2.on b2) bs
theorem RInv.mid (i : RInv W w g1 h1 g2 h2 s1 s2 b1 b2 bs) (ht : Turned g2 (s.on b1) w w1) : Mid W w w1 g1 h1 g2 h2 s1 s2 s b1 b2 bs :=
  ⟨i, ht, i.t2.rf.only ht.1 (by have := rd_ne_rf i.t2.rd i.t2.rf; simp; omega), ⟨held_turned i.t2.rd i.by2 ht.1, i.n2⟩⟩
theorem Mid.later (m : Mid W w w1 g1 h1 g2 h2 s1 s2 s b1 b2 bs) (hb : Below w1.heap.size w1 w') : Mid W w w' g1 h1 g2 h2 s1 s2 s b1 b2 bs :=
  ⟨m.inv, m.turn.then hb, m.rf.below hb, ⟨m.bys.held.below hb, m.bys.len⟩⟩
/-- Both readers of a pair have gone on alike. -/
theorem Mid.done (m : Mid W w w1 g1 h1 g2 h2 s1 s2 s b1 b2 bs) (ht : TurnedF h2 (s.on b2) w1 w') (hs : s.e ≤ bs.length ∧ s.p ≤ s.e) : ∃ s1', RInv W w' g1 h1 g2 h2 s1' s b1 b2 bs := by
  have i := m.inv
  have hok1 : (s.on b1).ok := ⟨hs.2, by have := i.n1; simp only [Rd.on]; omega, i.t2.ok1.nc, i.t2.ok1.small⟩
  have hok2 : (s.on b2).ok := ⟨hs.2, by have := i.n2; simp only [Rd.on]; omega, i.t2.ok2.nc, i.t2.ok2.small⟩
  have hne : g2 ≠ h2 := rd_ne_rf m.turn.2 m.rf
  have hb1 : Below W.heap.size W w1 := m.turn.1.below i.below i.below.size (fun x hx => by simp at hx; subst hx; exact i.gW2)
  have hb : Below W.heap.size W w' := ht.1.below hb1 hb1.size (fun x hx => by simp at hx; subst hx; exact i.hW2)
  have hby1 : Held w' b1.a (bs.map byv) := heldF_turned m.rf (held_turned i.t2.rd i.by1 m.turn.1) ht.1
  have hby2 : Held w' b2.a (bs.map byv) := heldF_turned m.rf (held_turned i.t2.rd i.by2 m.turn.1) ht.1
  have hrd : RdAt w' g2 (s.on b1) := m.turn.2.only ht.1 (by simpa using hne)
  rcases i.alt with ⟨rfl, rfl, rfl⟩ | ⟨hg, hh⟩
  · exact ⟨s, hb, i.gW1, i.hW1, i.gW2, i.hW2, ⟨hrd, ht.2, hok1, hok2⟩, ⟨hrd, ht.2, hok1, hok2⟩, hby1, hby2, i.n1, i.n2, .inl ⟨rfl, rfl, rfl⟩⟩
  · have hg1h2 : g1 ≠ h2 := rd_ne_rf (i.t1.rd.only m.turn.1 (by simpa using hg)) m.rf
    have hg2h1 : g2 ≠ h1 := rd_ne_rf i.t2.rd i.t1.rf
    exact ⟨s1, hb, i.gW1, i.hW1, i.gW2, i.hW2, ⟨(i.t1.rd.only m.turn.1 (by simpa using hg)).only ht.1 (by simpa using hg1h2), (i.t1.rf.only m.turn.1 (by simp; omega)).only ht.1 (by simpa using hh), i.t1.ok1, i.t1.ok2⟩, ⟨hrd, ht.2, hok1, hok2⟩, hby1, hby2, i.n1, i.n2, .inr ⟨hg, hh⟩⟩
theorem RInv.first (i : RInv W w g1 h1 g2 h2 s1 s2 b1 b2 bs) : RInv W w g1 h1 g1 h1 s1 s1 b1 b2 bs :=
  ⟨i.below, i.gW1, i.hW1, i.gW1, i.hW1, i.t1, i.t1, i.by1, i.by2, i.n1, i.n2, .inl ⟨rfl, rfl, rfl⟩⟩
/-- A new pair in use. -/
theorem RInv.new {g h : Nat} (i : RInv W w g1 h1 g2 h2 s1 s2 b1 b2 bs) (ht : Twin w g h s b1 b2) (hg : W.heap.size ≤ g) (hh : W.heap.size ≤ h) (ng : g1 ≠ g) (nh : h1 ≠ h) : RInv W w g1 h1 g h s1 s b1 b2 bs :=
  ⟨i.below, i.gW1, i.hW1, hg, hh, i.t1, ht, i.by1, i.by2, i.n1, i.n2, .inr ⟨ng, nh⟩⟩
theorem RInv.len (i : RInv W w g1 h1 g2 h2 s1 s2 b1 b2 bs) : s2.e ≤ bs.length ∧ s2.p ≤ s2.e := ⟨by have := i.t2.ok1.en; have := i.n1; simp only [Rd.on] at *; omega, i.t2.ok1.pe⟩
end
theorem Rd.past_len {s : Rd} {m : Nat} (n : Int) (h : s.e ≤ m ∧ s.p ≤ s.e) : (s.past n).e ≤ m ∧ (s.past n).p ≤ (s.past n).e := by
  unfold Rd.past
  split
  · exact h
  · split
    · refine ⟨h.1, ?_⟩; simp only; omega
    · exact h
theorem Rd.sub_len {s : Rd} {m : Nat} (n : Int) (h : s.e ≤ m ∧ s.p ≤ s.e) : (s.sub n).e ≤ m ∧ (s.sub n).p ≤ (s.sub n).e := by
  have := Rd.past_len n h
  unfold Rd.sub
  split
  · simp only; omega
  · simp only; omega
theorem Rd.fail_len {s : Rd} {m : Nat} (x : Int) (h : s.e ≤ m ∧ s.p ≤ s.e) : (s.fail x).e ≤ m ∧ (s.fail x).p ≤ (s.fail x).e := by
  unfold Rd.fail
  split <;> exact h
theorem Rd.chunk_len (s : Rd) (bs : List UInt8) (n : Int) : (s.chunk bs n).length ≤ bs.length := by
  unfold Rd.chunk
  split
  · simp; omega
  · simp

theorem Fail_any (r : Rd) (x : Int) (g : Nat) (W : World) (h : RdAt W g r) : Calls Try.prog 17 #[.pointer (some ⟨g, 0, none⟩), .int .i64 x] W fun e w' => e = .returned (.tuple #[]) ∧ Turned g (r.fail x) W w' := by
  by_cases hc : x ≠ 0 ∧ r.er = 0
  · have e1 : r.fail x = { r with er := x, fa := r.p } := by unfold Rd.fail; rw [if_pos hc]
    rw [e1]
    exact Fail_sets r x g W h hc.1 hc.2
  · have e1 : r.fail x = r := by unfold Rd.fail; rw [if_neg hc]
    rw [e1]
    exact (Fail_same r x g W h (by omega)).mono fun e w' ⟨h1, h2⟩ => ⟨h1, by rw [← h2]; exact ⟨Only.refl _ _, h⟩⟩
theorem FailF_any (r : Rd) (x : Int) (g : Nat) (W : World) (h : RfAt W g r) : Calls Try.prog 27 #[.pointer (some ⟨g, 0, none⟩), .int .i64 x] W fun e w' => e = .returned (.tuple #[]) ∧ TurnedF g (r.fail x) W w' := by
  by_cases hc : x ≠ 0 ∧ r.er = 0
  · have e1 : r.fail x = { r with er := x, fa := r.p } := by unfold Rd.fail; rw [if_pos hc]
    rw [e1]
    exact FailF_sets r x g W h hc.1 hc.2
  · have e1 : r.fail x = r := by unfold Rd.fail; rw [if_neg hc]
    rw [e1]
    exact (FailF_same r x g W h (by omega)).mono fun e w' ⟨h1, h2⟩ => ⟨h1, by rw [← h2]; exact ⟨Only.refl _ _, h⟩⟩
end Go.Proofs.Ytfbakbfljpadlaa
