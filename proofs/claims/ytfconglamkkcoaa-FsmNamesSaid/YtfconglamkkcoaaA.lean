import Derived.Test.YtfconglamkkcoaaTy
import Derived.Test.YtfconglamkkcoaaCat
import Derived.Test.YtfconglamkkcoaaBytes
import Derived.WalkLawsBesides
import Derived.WalkSpells
import Derived.BigQuiet
import Derived.Deep.QuietTactic
import Derived.BigGuardPart
import Derived.Lib.Hide
import Derived.Outline
import Derived.Handy
import Derived.Deep.DeepCutAuto
import Derived.Deep.RegionHeld3
import Derived.Deep.AppendLies
import Derived.Deep.DrawnRows
import Derived.Deep.RegionLaw
import Derived.BigRegion
import Derived.Maps.OwnSet
/- The session at work: its timers. -/
namespace Go.Proofs.Ytfconglamkkcoaa
open Go.RowKit
set_option linter.unusedSimpArgs false
set_option linter.unusedVariables false

/-- The bounds of a session at work. -/
structure Ses.ok (s : Ses) : Prop where
  h0 : 0 ≤ s.hold
  h1 : s.hold ≤ 65535
  c0 : 0 ≤ s.c.hold
  c1 : s.c.hold ≤ 65535
  r0 : 1 ≤ s.c.retry
  r1 : s.c.retry ≤ 65535
  p0 : 0 ≤ s.phase
  p1 : s.phase ≤ 4
def slv (v : Sl) : Value := .slice v.a v.n v.c
/-- A session at work lies in block g, with its actions. -/
structure RunAt (T base g : Nat) (w : World) (s : Ses) (now : Int) (l : List Acn) (v : Sl) : Prop where
  box : w.heap[g]? = some (.cells (RunV.cs ⟨s, v, now⟩) T (0, 0))
  own : w.ownsRow base 53 27 (slv v) l.length (cat Acn.cs l)
  gbase : base ≤ g
  ok : s.ok
  n0 : 0 ≤ now
  n1 : now ≤ 1099511627776
  few : l.length ≤ 1000
/-- It has turned to s', and its actions are l'. -/
structure Rn (T base g : Nat) (s' : Ses) (now : Int) (l' : List Acn) (v v' : Sl) (w w' : World) : Prop where
  at' : RunAt T base g w' s' now l' v'
  blk : ∀ k, (slv v').ownBlock = some k → (slv v).ownBlock = some k ∨ w.heap.size ≤ k
  only : Only (g :: ob (slv v)) w w'
def Ran (T base g : Nat) (s' : Ses) (now : Int) (l' : List Acn) (v : Sl) (w w' : World) : Prop := ∃ v', Rn T base g s' now l' v v' w w'
section
variable {T base g : Nat} {w w' : World} {s s' : Ses} {now : Int} {l l' : List Acn} {v v' : Sl}
theorem RunAt.lt (h : RunAt T base g w s now l v) : g < w.heap.size := (Array.getElem?_eq_some_iff.1 h.box).1
theorem RunAt.pin (h : RunAt T base g w s now l v) : ∃ w0, w = World.pin w0 g (RunV.cs ⟨s, v, now⟩) T ∧ g < w0.heap.size := ⟨w, pin_same _ _ _ _ h.box, h.lt⟩
end
theorem drew_pin (w : World) (g : Nat) (c : Array Value) (t : TypeId) : (w.pin g c t).drew = w.drew.pin g c t := rfl
section
variable {T base g : Nat} {w w' w0 w1 : World} {s s' s'' : Ses} {now : Int} {l l' l'' : List Acn} {v v' : Sl}
theorem RunAt.cell (h : RunAt T base g w s now l v) (i : Nat) : w.cell? ⟨g, i, none⟩ = (RunV.cs ⟨s, v, now⟩)[i]? := by simp [World.cell?, h.box]
theorem RunAt.free (h : RunAt T base g w s now l v) (i : Nat) : w.frozen? ⟨g, i, none⟩ = false := by simp [World.frozen?, h.box]
theorem RunAt.apart (h : RunAt T base g w s now l v) (hT : 53 ≠ T) : ∀ k, (slv v).ownBlock = some k → k ≠ g ∧ base ≤ k ∧ k < w.heap.size := fun k hk =>
  ⟨by rintro rfl; exact row_not_cells h.own h.box hT hk, owns_block h.own k hk⟩
theorem RunAt.only (h : RunAt T base g w s now l v) {S : List Nat} (ho : Only S w w') (hg : g ∉ S) (hk : ∀ k, (slv v).ownBlock = some k → k ∉ S) : RunAt T base g w' s now l v :=
  ⟨(ho.block g h.lt hg).trans h.box, owns_only h.own ho hk, h.gbase, h.ok, h.n0, h.n1, h.few⟩
theorem RunAt.below (h : RunAt T base g w s now l v) (hb : Below w.heap.size w w') : RunAt T base g w' s now l v := h.only (Only.of_below hb []) (by simp) (by simp)
theorem Only.pinned (hb : Below w0.heap.size w0 w1) (c c' : Array Value) (T T' : TypeId) : Only [g] (w0.pin g c T) (w1.pin g c' T') :=
  ⟨hb.os, hb.tape, hb.output, by rw [pin_size, pin_size]; exact hb.size, fun k hk hn => by
    rw [pin_size] at hk
    have hkg : k ≠ g := by simpa using hn
    exact (pin_heap_other w1 g c' T' hkg).trans ((hb.block k hk).trans (pin_heap_other w0 g c T hkg).symm)⟩
theorem Ran.of_pin (h : RunAt T base g (w0.pin g (RunV.cs ⟨s, v, now⟩) T) s now l v) (hT : 53 ≠ T) (hb : Below w0.heap.size w0 w1) (ok : s'.ok) :
    Ran T base g s' now l v (w0.pin g (RunV.cs ⟨s, v, now⟩) T) (w1.pin g (RunV.cs ⟨s', v, now⟩) T) := by
  have ho : Only [g] (w0.pin g (RunV.cs ⟨s, v, now⟩) T) (w1.pin g (RunV.cs ⟨s', v, now⟩) T) := Only.pinned hb _ _ _ _
  have hlt := h.lt
  rw [pin_size] at hlt
  refine ⟨v, ⟨pin_heap _ _ _ _ (Nat.lt_of_lt_of_le hlt hb.size), owns_only h.own ho fun k hk hm => ?_, h.gbase, ok, h.n0, h.n1, h.few⟩, fun k hk => .inl hk, ho.mono (by simp)⟩
  simp at hm
  subst hm
  exact (h.apart hT _ hk).1 rfl
theorem Ran.refl (h : RunAt T base g w s now l v) : Ran T base g s now l v w w := ⟨v, h, fun k hk => .inl hk, Only.refl _ _⟩
theorem Rn.below {w2 : World} (h : Rn T base g s' now l' v v' w w') (hb : Below w'.heap.size w' w2) : Rn T base g s' now l' v v' w w2 := ⟨h.at'.below hb, h.blk, h.only.then_below hb⟩
theorem Ran.later (h : RunAt T base g w s now l v) (hb : Below w.heap.size w w') : Ran T base g s now l v w w' := ⟨v, h.below hb, fun k hk => .inl hk, Only.of_below hb _⟩
theorem Rn.trans {v'' : Sl} (h : Rn T base g s' now l' v v' w w') (h' : Rn T base g s'' now l'' v' v'' w' w1) : Rn T base g s'' now l'' v v'' w w1 := by
  obtain ⟨a1, a2, a3⟩ := h
  obtain ⟨b1, b2, b3⟩ := h'
  refine ⟨b1, fun k hk => ?_, ⟨b3.os.trans a3.os, b3.tape.trans a3.tape, b3.output.trans a3.output, Nat.le_trans a3.size b3.size, fun k hk hn => ?_⟩⟩
  · rcases b2 k hk with h | h
    · exact a2 k h
    · right; have := a3.size; omega
  · refine (b3.block k (Nat.lt_of_lt_of_le hk a3.size) fun hm => ?_).trans (a3.block k hk hn)
    rcases List.mem_cons.1 hm with rfl | hm
    · exact hn (by simp)
    · rcases a2 k (ob_mem.1 hm) with h | h
      · exact hn (List.mem_cons_of_mem _ (ob_mem.2 h))
      · omega
theorem Rn.then (h : Rn T base g s' now l' v v' w w') (h' : Ran T base g s'' now l'' v' w' w1) : Ran T base g s'' now l'' v w w1 := by
  obtain ⟨v'', h'⟩ := h'
  exact ⟨v'', h.trans h'⟩
/-- A block of other cells keeps. -/
theorem Rn.keep {k T' : Nat} {cs : Array Value} (h : Rn T base g s' now l' v v' w w') (h0 : RunAt T base g w s now l v) (hk : w.heap[k]? = some (.cells cs T' (0, 0))) (h1 : T' ≠ T) (h2 : T' ≠ 53) : w'.heap[k]? = some (.cells cs T' (0, 0)) := by
  refine (h.only.block k (Array.getElem?_eq_some_iff.1 hk).1 fun hm => ?_).trans hk
  rcases List.mem_cons.1 hm with rfl | hm
  · have := h0.box
    rw [hk] at this
    simp at this
    exact h1 this.2
  · exact row_not_cells h0.own hk (Ne.symm h2) (ob_mem.1 hm)
end
def laterS (s : Ses) (now : Int) : Ses := { s with retry := if s.c.passive = true then -1 else now + s.c.retry }
theorem Ses.ok.later {s : Ses} (h : s.ok) (now : Int) : (laterS s now).ok := ⟨h.h0, h.h1, h.c0, h.c1, h.r0, h.r1, h.p0, h.p1⟩
set_option maxRecDepth 100000 in
theorem later_any (base g : Nat) (W : World) (s : Ses) (now : Int) (l : List Acn) (v : Sl) (h : RunAt 78 base g W s now l v) :
    Calls Try.prog 59 #[.pointer (some ⟨g, 0, none⟩)] W fun e w' => e = .returned (.tuple #[]) ∧ Ran 78 base g (laterS s now) now l v W w' := by
  have H := Lib.hid h
  have hn0 := h.n0
  have hn1 := h.n1
  have hr0 := h.ok.r0
  have hr1 := h.ok.r1
  have OK := Lib.hid (h.ok.later now)
  obtain ⟨w0, rfl, hlt⟩ := h.pin
  clear h
  obtain ⟨p, hp⟩ : ∃ p, s.c.passive = p := ⟨_, rfl⟩
  have HP := Lib.hid hp
  cases p
  all_goals
    go_enter Try.func59, Try.ntmps59
    go_wp2_with fail
    go_region
    rw [drew_pin]
    go_wp2_with fail
    go_returns
    refine ⟨rfl, ?_⟩
    have := Ran.of_pin (w1 := w0.drew) H.out (by decide) (Below.refl _ _).drew OK.out
    simpa [laterS, HP.out] using this
def heardS (s : Ses) (now : Int) : Ses := { s with expire := if 0 < s.hold then now + s.hold else -1 }
theorem Ses.ok.heard {s : Ses} (h : s.ok) (now : Int) : (heardS s now).ok := ⟨h.h0, h.h1, h.c0, h.c1, h.r0, h.r1, h.p0, h.p1⟩
set_option maxRecDepth 100000 in
theorem heard_any (base g : Nat) (W : World) (s : Ses) (now : Int) (l : List Acn) (v : Sl) (h : RunAt 78 base g W s now l v) :
    Calls Try.prog 69 #[.pointer (some ⟨g, 0, none⟩)] W fun e w' => e = .returned (.tuple #[]) ∧ Ran 78 base g (heardS s now) now l v W w' := by
  have H := Lib.hid h
  have hn0 := h.n0
  have hn1 := h.n1
  have hr0 := h.ok.h0
  have hr1 := h.ok.h1
  have OK := Lib.hid (h.ok.heard now)
  obtain ⟨w0, rfl, hlt⟩ := h.pin
  clear h
  by_cases hp : 0 < s.hold
  · have HP := Lib.hid hp
    go_enter Try.func69, Try.ntmps69
    go_wp2_with fail
    go_region
    rw [drew_pin]
    go_wp2_with fail
    go_returns
    refine ⟨rfl, ?_⟩
    have := Ran.of_pin (w1 := w0.drew) H.out (by decide) (Below.refl _ _).drew OK.out
    simpa [heardS, HP.out] using this
  · have HP := Lib.hid hp
    go_enter Try.func69, Try.ntmps69
    go_wp2_with fail
    go_returns
    refine ⟨rfl, ?_⟩
    have := Ran.of_pin (w1 := w0) H.out (by decide) (Below.refl _ _) OK.out
    have e : heardS s now = { s with expire := -1 } := by unfold heardS; rw [if_neg (by have := HP.out; omega)]
    rw [e] at this ⊢
    exact this
def aliveS (s : Ses) (now : Int) : Ses := { s with alive := if 0 < s.hold then now + s.hold / 3 else -1 }
theorem Ses.ok.alive' {s : Ses} (h : s.ok) (now : Int) : (aliveS s now).ok := ⟨h.h0, h.h1, h.c0, h.c1, h.r0, h.r1, h.p0, h.p1⟩
set_option maxRecDepth 100000 in
theorem alive_any (base g : Nat) (W : World) (s : Ses) (now : Int) (l : List Acn) (v : Sl) (h : RunAt 78 base g W s now l v) :
    Calls Try.prog 71 #[.pointer (some ⟨g, 0, none⟩)] W fun e w' => e = .returned (.tuple #[]) ∧ Ran 78 base g (aliveS s now) now l v W w' := by
  have H := Lib.hid h
  have hn0 := h.n0
  have hn1 := h.n1
  have hr0 := h.ok.h0
  have hr1 := h.ok.h1
  have OK := Lib.hid (h.ok.alive' now)
  obtain ⟨w0, rfl, hlt⟩ := h.pin
  clear h
  by_cases hp : 0 < s.hold
  · have HP := Lib.hid hp
    have hq : s.hold.tdiv 3 = s.hold / 3 := Int.tdiv_eq_ediv_of_nonneg (by omega)
    have HQ := Lib.hid hq
    go_enter Try.func71, Try.ntmps71
    go_wp2_with fail
    go_region
    rw [drew_pin]
    go_wp2_with fail
    go_returns
    refine ⟨rfl, ?_⟩
    have := Ran.of_pin (w1 := w0.drew) H.out (by decide) (Below.refl _ _).drew OK.out
    simpa [aliveS, HP.out] using this
  · have HP := Lib.hid hp
    go_enter Try.func71, Try.ntmps71
    go_wp2_with fail
    go_returns
    refine ⟨rfl, ?_⟩
    have := Ran.of_pin (w1 := w0) H.out (by decide) (Below.refl _ _) OK.out
    have e : aliveS s now = { s with alive := -1 } := by unfold aliveS; rw [if_neg (by have := HP.out; omega)]
    rw [e] at this ⊢
    exact this

theorem info_acn0 : (Try.prog.info? 53).map (fun i => (i.zero, i.size, decide (i.bytes ≤ 1000))) = some (some (.agg zeroAcn.cs), 27, true) := by kernel_rfl
theorem info_acn : ∃ i, Try.prog.info? 53 = some i ∧ i.zero = some (.agg zeroAcn.cs) ∧ i.size = 27 ∧ i.bytes ≤ 1000 := by
  have h := info_acn0
  cases hi : Try.prog.info? 53 with
  | none => rw [hi] at h; simp at h
  | some i =>
    rw [hi] at h
    simp at h
    exact ⟨i, rfl, h.1, h.2.1, h.2.2⟩
/-- An action appended, and the slice stored. -/
theorem Ran.appended {T base g m cap : Nat} {A : Option Addr} {W w0 w1 : World} {s : Ses} {now : Int} {l : List Acn} {v : Sl} {a : Acn} (h : RunAt T base g W s now l v) (hT : 53 ≠ T) (hb : Below W.heap.size W w0) (hg : w0.grownBy w1 (slv v).ownBlock)
    (hown : w1.ownsRow base 53 27 (.slice A m cap) (l.length + 1) (cat Acn.cs l ++ a.cs.toList)) (hat : (Value.slice A m cap).ownBlock = (slv v).ownBlock ∨ (Value.slice A m cap).ownBlock = some w0.heap.size) (hl : l.length < 1000) :
    Ran T base g s now (l ++ [a]) v W (w1.setCell ⟨g, 18, none⟩ (.slice A m cap)) := by
  have h0 := h.below hb
  have ho1 : Only (ob (slv v)) w0 w1 := (Only.refl _ _).grown hg fun k hk => .inl (ob_mem.2 hk)
  have hbox : w1.heap[g]? = some (.cells (RunV.cs ⟨s, v, now⟩) T (0, 0)) := (ho1.block g h0.lt (fun hm => (h0.apart hT g (ob_mem.1 hm)).1 rfl)).trans h0.box
  have hset : Only [g] w1 (w1.setCell ⟨g, 18, none⟩ (.slice A m cap)) := only_set _ _ _ _
  have hne : (Value.slice A m cap).ownBlock ≠ some g := fun he => by
    rcases hat with h' | h'
    · rw [h'] at he; exact (h0.apart hT g he).1 rfl
    · rw [h'] at he; have := h0.lt; simp at he; omega
  refine ⟨⟨A, m, cap⟩, ⟨?_, ?_, h.gbase, h.ok, h.n0, h.n1, by simp; omega⟩, fun k hk => ?_, ?_⟩
  · rw [heap_setCell_same w1 g 18 _ _ _ hbox]
    simp [RunV.cs]
  · rw [cat_snoc, List.length_append]
    exact owns_only hown hset fun k hk hm => by simp at hm; subst hm; exact hne hk
  · rcases hat with h' | h'
    · exact .inl (by rw [← h']; exact hk)
    · change (Value.slice A m cap).ownBlock = some k at hk
      rw [h'] at hk; simp at hk; exact .inr (by have := hb.size; omega)
  · exact (((Only.of_below hb _).grown hg fun k hk => .inl (by simp [ob_mem, hk])).setCell (p := ⟨g, 18, none⟩) (.inl (by simp)) _)
set_option maxRecDepth 100000 in
set_option maxHeartbeats 2000000 in
theorem do_any (base g : Nat) (W : World) (s : Ses) (now : Int) (l : List Acn) (v : Sl) (a : Acn) (h : RunAt 78 base g W s now l v) (hl : l.length < 1000) (hbase : base ≤ W.heap.size) :
    Calls Try.prog 58 #[.pointer (some ⟨g, 0, none⟩), .agg a.cs] W fun e w' => e = .returned (.tuple #[]) ∧ Ran 78 base g s now (l ++ [a]) v W w' := by
  have H := Lib.hid h
  have hc := h.cell 18
  have hf := h.free 18
  have hglt := h.lt
  simp at hc
  obtain ⟨t0, hi0, hz0, hz1, hz2⟩ := info_acn
  have hne : some g ≠ (slv v).ownBlock := fun he => (h.apart (by decide) g he.symm).1 rfl
  have HNE := Lib.hid hne
  clear h hne
  go_enter Try.func58, Try.ntmps58
  go_wp2_with fail
  go_region_law
    ((refine step_append_held _ (by rfl) _ _ _ (by rfl) base 53 t0 _ 27 t0.bytes Try.underlying35 hi0 hz0 hz1 rfl (by simp [Value.cells]) (by omega) (slv v) l.length (cat Acn.cs l) (by rfl) (by exact owns_below H.out.own (((Below.refl W.heap.size W).alloc (Nat.le_refl _) (.cells a.cs 53)).drew |>.alloc (by simp) _)) (some ⟨W.heap.size + 1, 0, none⟩) 1 1 a.cs.toList (by rfl) (by simp) (by exact held_row (by simp)) (fun u hu => a.one u hu) (by simp only [maxLen]; omega) (by have := Nat.mul_le_mul (show l.length + 1 ≤ 1000 by omega) hz2; omega) (by simp; omega) ?_; intro v1 w1 hown1 hg1 hat1; obtain ⟨hl1, h' | ⟨gg, c1, cur, rfl, hr1⟩⟩ := id hown1; (exact absurd h'.2 (by omega)); have hc1 : w1.cell? ⟨g, 18, none⟩ = some (.slice v.a v.n v.c) := (hg1.cell_far ⟨g, 18, none⟩ (by simp; omega) HNE.out).trans ((Below.cell (B := W.heap.size) (p := ⟨g, 18, none⟩) (((Below.refl W.heap.size W).alloc (Nat.le_refl _) (.cells a.cs 53)).drew |>.alloc (by simp) _) hglt).trans hc); have hf1 : w1.frozen? ⟨g, 18, none⟩ = false := (hg1.frozen_far ⟨g, 18, none⟩ (by simp; omega) HNE.out).trans ((H.out.below (((Below.refl W.heap.size W).alloc (Nat.le_refl _) (.cells a.cs 53)).drew |>.alloc (by simp) _)).free 18); have HZ := Lib.hid (Ran.appended (a := a) H.out (by decide) (((Below.refl W.heap.size W).alloc (Nat.le_refl _) (.cells a.cs 53)).drew |>.alloc (by simp) _) hg1 hown1 (by simpa using hat1) hl); clear hown1 hg1 hat1 hr1 hl1))
  all_goals
    go_wp2_with fail
    go_returns
    exact ⟨rfl, HZ.out⟩
end Go.Proofs.Ytfconglamkkcoaa
