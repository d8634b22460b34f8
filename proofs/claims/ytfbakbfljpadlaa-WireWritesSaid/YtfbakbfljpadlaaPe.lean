import Derived.Test.YtfbakbfljpadlaaPd
import Derived.Maps.OwnSet
import Derived.Maps.Views
/- The writer and the reference's writer, side by side. -/
namespace Go.Proofs.Ytfbakbfljpadlaa
open Go.RowKit Go.Maps
set_option linter.unusedSimpArgs false
set_option linter.unusedVariables false
attribute [local go_sem ↓] Go.wp_at_zero Go.wp_at_succ

theorem light_any (A : Option Addr) (m c : Nat) (l : List ActV) (W : World) (hl : Acts W A m l) (hm2 : m ≤ 9223372036854775807) :
    Calls Try.prog 29 #[.slice A m c] W fun e w' => ∃ b, e = .returned (.bool b) ∧ W = w' ∧ (b = true → m ≤ 60 ∧ ∀ x ∈ l, x.b.n ≤ 300) := by
  have HL := Lib.hid hl
  clear hl
  go_enter Try.func29, Try.ntmps29
  go_wp2_with fail
  go_loopw [3] (fun i wr => ∃ k : Nat, k ≤ m ∧ i = .int .i64 k ∧ W = wr ∧ Hid (∀ q x, q < k → l[q]? = some x → x.b.n ≤ 300)) (fun i _ => m - (intOf i).toNat)
  case atStart => exact ⟨0, by omega, rfl, rfl, fun q x h => by omega⟩
  case round =>
    obtain ⟨k, hk, rfl, rfl, hall⟩ := hrel
    by_cases hlt : k < m
    · obtain ⟨b0, o0, rfl, hb0, hc0⟩ := HL.out.2.1 (by omega)
      obtain ⟨x, hx⟩ : ∃ x, l[k]? = some x := ⟨l[k]'(by rw [HL.out.1]; exact hlt), List.getElem?_eq_getElem _⟩
      obtain ⟨_, _, _, hcb⟩ := hc0 k x hx
      have i0 : (0 : Int) ≤ (k : Int) := by omega
      have i1 : (k : Int) < (m : Int) := by omega
      have HX := Lib.hid hx
      clear hx hc0
      by_cases hbig : 300 < x.b.n
      · have hd : decide ((300 : Int) < (x.b.n : Int)) = true := by simp; omega
        clear hbig
        go_wp2_with fail
        go_ret
        exact ⟨false, rfl, rfl, by simp⟩
      · have hd : decide ((300 : Int) < (x.b.n : Int)) = false := by simp; omega
        have HB := Lib.hid hbig
        clear hbig
        go_wp2_with fail
        go_roundw
        case rel => exact ⟨k + 1, by omega, by go_num, trivial, fun q y hq hy => by
          by_cases he : q = k
          · subst he; rw [HX.out] at hy; cases hy; have := HB.out; omega
          · exact hall.out q y (by omega) hy⟩
        case measure => simp [intOf]; omega
    · obtain rfl : k = m := by omega
      have hall' : ∀ x ∈ l, x.b.n ≤ 300 := fun x hx => by
        obtain ⟨i, hi, e⟩ := List.getElem_of_mem hx
        exact hall.out i x (by rw [← HL.out.1]; exact hi) (by rw [← e]; exact List.getElem?_eq_getElem hi)
      have HA := Lib.hid hall'
      clear hall'
      go_wp2_with fail
      go_ret
      exact ⟨_, rfl, rfl, fun h => ⟨by simp at h; omega, HA.out⟩⟩

/-- How a call ended, as its error. -/
def codeOf : PutEnd → Int
  | .range => 2
  | .full => 7
  | .ok => 0
def outOf {α : Type} (E : PutEnd) (l : List α) : List α := match E with
  | .ok => l
  | _ => []
def bytesEnd (lim : Int) (len n : Nat) : PutEnd := if lim < len + n then .full else .ok

/-- The program's writer has turned from r to r'. -/
structure PT (B g : Nat) (r r' : Wr) (w w' : World) : Prop where
  at' : r'.At w' B g
  blk : ∀ k, r'.v.ownBlock = some k → r.v.ownBlock = some k ∨ w.heap.size ≤ k
  only : Only (r.S g) w w'
/-- The reference's writer has turned from r to r'. -/
structure FT (B g : Nat) (r r' : Wf) (w w' : World) : Prop where
  at' : r'.At w' B g
  blk : ∀ k, r'.v.ownBlock = some k → r.v.ownBlock = some k ∨ w.heap.size ≤ k
  only : Only (r.S g) w w'
theorem PT.of {B g : Nat} {r : Wr} {l : List UInt8} {w w' : World} (h : Wrote B g r l w w') : ∃ b, PT B g r (r.more b l) w w' := by
  obtain ⟨⟨b, h1, h2⟩, h3⟩ := h
  exact ⟨b, h1, h2, h3⟩
theorem FT.of {B g : Nat} {r : Wf} {l : List UInt8} {w w' : World} (h : WroteF B g r l w w') : ∃ b, FT B g r (r.more b l) w w' := by
  obtain ⟨⟨b, h1, h2⟩, h3⟩ := h
  exact ⟨b, h1, h2, h3⟩

/-- Both writers lie in w, apart. -/
structure Both (W w : World) (B g gf : Nat) (r : Wr) (rf : Wf) : Prop where
  below : Below W.heap.size W w
  WB : W.heap.size ≤ B
  Bw : B ≤ w.heap.size
  wr : r.At w B g
  wf : rf.At w B gf
  ap : ∀ k, r.v.ownBlock = some k → rf.v.ownBlock ≠ some k
section
variable {W w w' : World} {B g gf : Nat} {r r' : Wr} {rf rf' : Wf}
theorem Wr.mem_S {x : Nat} : x ∈ r.S g ↔ x = g ∨ x = r.m ∨ r.v.ownBlock = some x ∨ (r.v.ownBlock = none ∧ x = g) := by
  simp only [Wr.S, List.mem_cons, List.mem_nil_iff, or_false, Wr.blk]
  cases r.v.ownBlock with
  | none => simp
  | some k => simp [eq_comm]
theorem Wf.mem_S {x : Nat} : x ∈ rf.S gf ↔ x = gf ∨ rf.v.ownBlock = some x ∨ rf.mv.ownBlock = some x := by
  simp only [Wf.S, List.mem_cons, List.mem_append, ob_mem]
theorem Both.later (h : Both W w B g gf r rf) (hb : Below w.heap.size w w') : Both W w' B g gf r rf :=
  ⟨h.below.trans (hb.mono h.below.size), h.WB, Nat.le_trans h.Bw hb.size, h.wr.below hb, h.wf.below hb, h.ap⟩
theorem Both.gg (h : Both W w B g gf r rf) : g ≠ gf := by
  rintro rfl
  have h1 := h.wr.box
  have h2 := h.wf.box
  rw [h1] at h2
  simp at h2
theorem not_map {k m cnt T : Nat} {cs : Array Value} {D : DataW Unit} (hm : w.ownsMap Try.prog 3 unitElem m cnt D) (hk : w.heap[k]? = some (.cells cs T (0, 0))) : k ≠ m := by
  rintro rfl
  obtain ⟨es, clock, hm', _⟩ := hm
  rw [hm'] at hk
  simp at hk
theorem Both.turnP (h : Both W w B g gf r rf) (ht : PT B g r r' w w') : Both W w' B g gf r' rf := by
  refine ⟨ht.only.below h.below h.below.size (fun x hx => Nat.le_trans h.WB (h.wr.low x hx)), h.WB, Nat.le_trans h.Bw ht.only.size, ht.at', h.wf.only ht.only ?_ ?_ ?_, ?_⟩
  · rw [Wr.mem_S]
    rintro (h1 | h1 | h1 | h1)
    · exact h.gg h1.symm
    · exact not_map h.wr.map h.wf.box h1
    · exact owns_not_cells h.wr.own h.wf.box (by decide) h1
    · exact h.gg h1.2.symm
  · intro k hk
    rw [Wr.mem_S]
    rintro (rfl | rfl | h1 | h1)
    · exact owns_not_cells h.wf.own h.wr.box (by decide) hk
    · exact owns_not_map h.wf.own h.wr.map hk
    · exact h.ap k h1 hk
    · obtain rfl := h1.2
      exact owns_not_cells h.wf.own h.wr.box (by decide) hk
  · intro k hk
    rw [Wr.mem_S]
    rintro (rfl | rfl | h1 | h1)
    · exact owns_not_cells h.wf.mks h.wr.box (by decide) hk
    · exact owns_not_map h.wf.mks h.wr.map hk
    · exact owns_apart h.wf.mks h.wr.own (by decide) k hk h1
    · obtain rfl := h1.2
      exact owns_not_cells h.wf.mks h.wr.box (by decide) hk
  · intro k hk hk2
    rcases ht.blk k hk with h1 | h1
    · exact h.ap k h1 hk2
    · have := (h.wf.apart k hk2).2.2.2
      omega
theorem Both.turnF (h : Both W w B g gf r rf) (ht : FT B gf rf rf' w w') : Both W w' B g gf r rf' := by
  refine ⟨ht.only.below h.below h.below.size (fun x hx => Nat.le_trans h.WB (h.wf.low x hx)), h.WB, Nat.le_trans h.Bw ht.only.size, h.wr.only ht.only ?_ ?_ ?_, ht.at', ?_⟩
  · rw [Wf.mem_S]
    rintro (h1 | h1 | h1)
    · exact h.gg h1
    · exact owns_not_cells h.wf.own h.wr.box (by decide) h1
    · exact owns_not_cells h.wf.mks h.wr.box (by decide) h1
  · rw [Wf.mem_S]
    rintro (h1 | h1 | h1)
    · exact not_map h.wr.map h.wf.box h1.symm
    · exact owns_not_map h.wf.own h.wr.map h1
    · exact owns_not_map h.wf.mks h.wr.map h1
  · intro k hk
    rw [Wf.mem_S]
    rintro (rfl | h1 | h1)
    · exact owns_not_cells h.wr.own h.wf.box (by decide) hk
    · exact h.ap k hk h1
    · exact owns_apart h.wf.mks h.wr.own (by decide) k h1 hk
  · intro k hk hk2
    rcases ht.blk k hk2 with h1 | h1
    · exact h.ap k hk h1
    · have := (h.wr.apart k hk).2.2.2
      omega
/-- A block of other cells keeps. -/
theorem Both.keepP {k T : Nat} {cs : Array Value} (h : Both W w B g gf r rf) (ht : PT B g r r' w w') (hk : w.heap[k]? = some (.cells cs T (0, 0))) (h1 : T ≠ 86) (h2 : T ≠ 5) : w'.heap[k]? = some (.cells cs T (0, 0)) := by
  refine (ht.only.block k (Array.getElem?_eq_some_iff.1 hk).1 ?_).trans hk
  have hg : k ≠ g := by
    rintro rfl
    have := h.wr.box
    rw [hk] at this
    simp at this
    exact h1 this.2
  rw [Wr.mem_S]
  rintro (h3 | h3 | h3 | h3)
  · exact hg h3
  · exact not_map h.wr.map hk h3
  · exact owns_not_cells h.wr.own hk (Ne.symm h2) h3
  · exact hg h3.2
theorem Both.keepF {k T : Nat} {cs : Array Value} (h : Both W w B g gf r rf) (ht : FT B gf rf rf' w w') (hk : w.heap[k]? = some (.cells cs T (0, 0))) (h1 : T ≠ 72) (h2 : T ≠ 5) (h4 : T ≠ 3) : w'.heap[k]? = some (.cells cs T (0, 0)) := by
  refine (ht.only.block k (Array.getElem?_eq_some_iff.1 hk).1 ?_).trans hk
  rw [Wf.mem_S]
  rintro (rfl | h3 | h3)
  · have := h.wf.box
    rw [hk] at this
    simp at this
    exact h1 this.2
  · exact owns_not_cells h.wf.own hk (Ne.symm h2) h3
  · exact owns_not_cells h.wf.mks hk (Ne.symm h4) h3
end

/-- Both writers hold the same. -/
structure Agree (r : Wr) (rf : Wf) (i : Nat) : Prop where
  bs : rf.bs = r.bs
  lim : rf.lim = r.lim
  map : IsMap r.D
  mark : ∀ x : Int, has r.D (ilit x) = true ↔ ∃ a ∈ rf.ms, (a : Int) = x
  grow : rf.ms.Pairwise (· < ·)
  low : ∀ a ∈ rf.ms, a + 2 ≤ r.bs.length
  cnt : r.cnt ≤ i
  len : rf.ms.length ≤ i
section
variable {r : Wr} {rf : Wf} {i : Nat}
theorem ilit_ne {x y : Int} (h : x ≠ y) : ilit x ≠ ilit y := by
  intro e
  unfold ilit at e
  injection e
  contradiction
theorem Agree.mono (h : Agree r rf i) {j : Nat} (hj : i ≤ j) : Agree r rf j := { h with cnt := Nat.le_trans h.cnt hj, len := Nat.le_trans h.len hj }
theorem Agree.more (h : Agree r rf i) (b b' : Sl) (l : List UInt8) : Agree (r.more b l) (rf.more b' l) i :=
  ⟨by simp [Wf.more, Wr.more, h.bs], h.lim, h.map, h.mark, h.grow, fun a ha => by have := h.low a ha; simp [Wr.more]; omega, h.cnt, h.len⟩
theorem Agree.marked (h : Agree r rf i) (b b' k : Sl) : Agree ((r.more b (be 0 2)).marks (r.D.put (ilit r.bs.length) (.agg [])) (r.cnt + 1)) (rf.marked b' k) (i + 1) := by
  refine ⟨by simp [Wf.marked, Wr.more, Wr.marks, h.bs], h.lim, ?_, fun x => ?_, ?_, fun a ha => ?_, by have := h.cnt; simp [Wr.marks]; omega, by have := h.len; simp [Wf.marked]; omega⟩
  · obtain ⟨es, he⟩ := h.map
    simp only [Wr.marks, he]
    exact ⟨_, rfl⟩
  · simp only [Wr.marks, Wf.marked, List.mem_append, List.mem_singleton]
    by_cases hx : x = r.bs.length
    · subst hx
      rw [has_put_same h.map (by unfold ilit; trivial)]
      simp only [true_iff]
      exact ⟨rf.bs.length, .inr rfl, by rw [h.bs]⟩
    · rw [has_put_other (ilit_ne hx), h.mark]
      constructor
      · rintro ⟨a, ha, e⟩; exact ⟨a, .inl ha, e⟩
      · rintro ⟨a, ha | ha, e⟩
        · exact ⟨a, ha, e⟩
        · subst ha; rw [h.bs] at e; exact absurd e.symm hx
  · simp only [Wf.marked]
    rw [List.pairwise_append]
    refine ⟨h.grow, by simp, fun a ha c hc => ?_⟩
    simp at hc
    subst hc
    have := h.low a ha
    rw [h.bs]; omega
  · simp only [Wf.marked, List.mem_append, List.mem_singleton] at ha
    simp only [Wr.marks, Wr.more, List.length_append, be_len]
    rcases ha with ha | rfl
    · have := h.low a ha; omega
    · rw [h.bs]; exact Nat.le_refl _
theorem mem_erase_at {ms : List Nat} {j a : Nat} (hg : ms.Pairwise (· < ·)) (hj : ms[j]? = some a) (x : Nat) : x ∈ ms.take j ++ ms.drop (j + 1) ↔ x ∈ ms ∧ x ≠ a := by
  obtain ⟨hl, e⟩ := List.getElem?_eq_some_iff.1 hj
  have hms : ms = ms.take j ++ a :: ms.drop (j + 1) := by
    conv => lhs; rw [← List.take_append_drop j ms, List.drop_eq_getElem_cons hl, e]
  have hg2 := hg
  rw [hms, List.pairwise_append] at hg2
  obtain ⟨_, h2, h3⟩ := hg2
  rw [List.pairwise_cons] at h2
  constructor
  · intro hx
    rcases List.mem_append.1 hx with hx | hx
    · exact ⟨by rw [hms]; simp [hx], by have := h3 x hx a (by simp); omega⟩
    · exact ⟨by rw [hms]; simp [hx], by have := h2.1 x hx; omega⟩
  · rintro ⟨hx, hne⟩
    rw [hms] at hx
    simp only [List.mem_append, List.mem_cons] at hx ⊢
    rcases hx with hx | hx | hx
    · exact .inl hx
    · exact absurd hx hne
    · exact .inr hx
theorem Agree.patched {a j : Nat} (h : Agree r rf i) (hj : rf.ms[j]? = some a) (k : Sl) : Agree (r.patched a) (rf.patched a j k) i := by
  have hl : rf.ms.length = (rf.ms.take j ++ rf.ms.drop (j + 1)).length + 1 := by
    have := (List.getElem?_eq_some_iff.1 hj).1
    simp; omega
  refine ⟨by simp [Wf.patched, Wr.patched, Wf.gap, Wr.gap, h.bs], h.lim, ?_, fun x => ?_, ?_, fun b hb => ?_, h.cnt, by have := h.len; simp only [Wf.patched]; omega⟩
  · obtain ⟨es, he⟩ := h.map
    simp only [Wr.patched, he]
    exact ⟨_, rfl⟩
  · simp only [Wr.patched, Wf.patched]
    by_cases hx : x = a
    · subst hx
      rw [has_del_same]
      simp only [Bool.false_eq_true, false_iff, not_exists, not_and]
      intro b hb e
      exact ((mem_erase_at h.grow hj b).1 hb).2 (by omega)
    · rw [has_del_other (ilit_ne hx), h.mark]
      constructor
      · rintro ⟨b, hb, e⟩; exact ⟨b, (mem_erase_at h.grow hj b).2 ⟨hb, by rintro rfl; exact hx e.symm⟩, e⟩
      · rintro ⟨b, hb, e⟩; exact ⟨b, ((mem_erase_at h.grow hj b).1 hb).1, e⟩
  · exact h.grow.sublist (by
      conv => rhs; rw [← List.take_append_drop j rf.ms]
      exact List.Sublist.append (List.Sublist.refl _) (List.drop_sublist_drop_left _ (by omega)))
  · have := h.low b ((mem_erase_at h.grow hj b).1 hb).1
    simpa [Wr.patched] using this
end

/-- What a call leaves of the program's writer. -/
theorem putP {r : Wr} {B g n k : Nat} {w w' : World} {e : Ending} (h : PutPost r B g n k w e w') : e = .returned (.int .i64 (codeOf (endOf r.lim r.bs.length n k))) ∧ ∃ b, PT B g r (r.more b (outOf (endOf r.lim r.bs.length n k) (be n k))) w w' := by
  rcases h with ⟨h1, rfl, h2⟩ | ⟨h1, rfl, h2⟩ | ⟨h1, rfl, h2⟩ <;> (rw [putEnd_eq] at h1; rw [h1]; exact ⟨rfl, PT.of h2⟩)
theorem putF {r0 : Wr} {r : Wf} {i : Nat} (ha : Agree r0 r i) {B g n k : Nat} {w w' : World} {e : Ending} (h : PutPostF r B g n k w e w') : e = .returned (.int .i64 (codeOf (endOf r0.lim r0.bs.length n k))) ∧ ∃ b, FT B g r (r.more b (outOf (endOf r0.lim r0.bs.length n k) (be n k))) w w' := by
  unfold PutPostF at h
  rw [ha.lim, ha.bs] at h
  rcases h with ⟨h1, rfl, h2⟩ | ⟨h1, rfl, h2⟩ | ⟨h1, rfl, h2⟩ <;> (rw [h1]; exact ⟨rfl, FT.of h2⟩)
theorem bytesP {r : Wr} {B g : Nat} {bs : List UInt8} {w w' : World} {e : Ending} (h : BytesPost r B g bs w e w') : e = .returned (.int .i64 (codeOf (bytesEnd r.lim r.bs.length bs.length))) ∧ ∃ b, PT B g r (r.more b (outOf (bytesEnd r.lim r.bs.length bs.length) bs)) w w' := by
  unfold bytesEnd
  rcases h with ⟨h1, rfl, h2⟩ | ⟨h1, rfl, h2⟩
  · rw [if_pos h1]; exact ⟨rfl, PT.of h2⟩
  · rw [if_neg (by omega)]; exact ⟨rfl, PT.of h2⟩
theorem bytesF {r0 : Wr} {r : Wf} {i : Nat} (ha : Agree r0 r i) {B g : Nat} {bs : List UInt8} {w w' : World} {e : Ending} (h : BytesPostF r B g bs w e w') : e = .returned (.int .i64 (codeOf (bytesEnd r0.lim r0.bs.length bs.length))) ∧ ∃ b, FT B g r (r.more b (outOf (bytesEnd r0.lim r0.bs.length bs.length) bs)) w w' := by
  unfold bytesEnd
  unfold BytesPostF at h
  rw [ha.lim, ha.bs] at h
  rcases h with ⟨h1, rfl, h2⟩ | ⟨h1, rfl, h2⟩
  · rw [if_pos h1]; exact ⟨rfl, FT.of h2⟩
  · rw [if_neg (by omega)]; exact ⟨rfl, FT.of h2⟩
def markAt (E : PutEnd) (n : Nat) : Int := match E with
  | .ok => n
  | _ => 0
theorem has_lit {r : Wr} {rf : Wf} {i : Nat} (ha : Agree r rf i) {x : Int} (h : ¬ ∃ a ∈ rf.ms, (a : Int) = x) : has r.D (ilit x) = false := by
  cases hh : has r.D (ilit x)
  · rfl
  · exact absurd ((ha.mark x).1 hh) h
theorem first_at {ms : List Nat} {a : Nat} (h : a ∈ ms) : ∃ j : Nat, ms[j]? = some a ∧ ∀ q : Nat, q < j → ms[q]? ≠ some a := by
  induction ms with
  | nil => simp at h
  | cons b ms ih =>
    by_cases hb : b = a
    · subst hb; exact ⟨0, rfl, by simp⟩
    · obtain ⟨j, h1, h2⟩ := ih (by simpa [Ne.symm hb] using h)
      refine ⟨j + 1, by simpa using h1, fun q hq => ?_⟩
      cases q with
      | zero => simp [hb]
      | succ q => simp; exact h2 q (by omega)
/-- Both patch. -/
theorem patch_both {r : Wr} {rf : Wf} {B g gf i : Nat} {w : World} (ha : Agree r rf i) (hi : i ≤ 1000) (h : r.At w B g) (hB : B ≤ w.heap.size) (x : Int) (hx : (Lit.int .i64 x).wf = true) :
    ∃ (c : Int) (r' : Wr), Calls Try.prog 38 #[.pointer (some ⟨g, 0, none⟩), .int .i64 x] w (fun e w1 => e = .returned (.int .i64 c) ∧ PT B g r r' w w1) ∧
      ∀ w2, rf.At w2 B gf → B ≤ w2.heap.size → Calls Try.prog 39 #[.pointer (some ⟨gf, 0, none⟩), .int .i64 x] w2 (fun f w3 => f = .returned (.int .i64 c) ∧ ∃ rf', FT B gf rf rf' w2 w3 ∧ Agree r' rf' i) := by
  have hcnt : rf.ms.length ≤ 1000000 := by have := ha.len; omega
  by_cases hm : ∃ a ∈ rf.ms, (a : Int) = x
  · obtain ⟨a, hm, rfl⟩ := hm
    have hlo := ha.low a hm
    have hl0 := h.len
    have hl1 := h.lim1
    obtain ⟨j, hj, hd⟩ := first_at hm
    refine ⟨0, r.patched a, (Patch_open r B g a w h hlo ((ha.mark _).2 ⟨a, hm, rfl⟩) (by unfold Wr.gap; omega) hB).mono fun e w1 ⟨he, h1, h2⟩ => ⟨he, h1, fun k hk => .inl hk, h2⟩, fun w2 hf hB2 => ?_⟩
    refine (PatchF_open rf B gf j a w2 hf hj hd (by rw [ha.bs]; exact hlo) (by unfold Wf.gap; rw [ha.bs]; omega) hcnt hB2).mono ?_
    rintro e w3 ⟨he, k, h1, h2⟩
    exact ⟨he, _, ⟨h1, fun k hk => .inl hk, h2⟩, ha.patched hj k⟩
  · refine ⟨16, r, (Patch_none r B g x w h hx (has_lit ha hm)).mono fun e w1 ⟨he, hb⟩ => ⟨he, h.below hb, fun k hk => .inl hk, Only.of_below hb _⟩, fun w2 hf hB2 => ?_⟩
    refine (PatchF_none rf B gf x w2 hf (fun a hma e => hm ⟨a, hma, e⟩) hcnt).mono ?_
    rintro e w3 ⟨he, hb⟩
    exact ⟨he, rf, ⟨hf.below hb, fun k hk => .inl hk, Only.of_below hb _⟩, ha⟩
theorem Wf.At.lower {r : Wf} {w : World} {base base' g : Nat} (h : r.At w base g) (hb : base' ≤ base) : r.At w base' g := { h with own := owns_low h.own hb, mks := owns_low h.mks hb, gbase := Nat.le_trans hb h.gbase }
theorem both_new {W w1 w2 w3 : World} {lim : Int} {mm g gf : Nat} (hb1 : Below W.heap.size W w1) (h2 : (Wr.new lim mm).At w2 w1.heap.size g) (hb2 : Below w1.heap.size w1 w2) (h3 : (Wf.new lim).At w3 w2.heap.size gf) (hb3 : Below w2.heap.size w2 w3) :
    Both W w3 w1.heap.size g gf (Wr.new lim mm) (Wf.new lim) ∧ Agree (Wr.new lim mm) (Wf.new lim) 0 :=
  ⟨⟨hb1.trans ((hb2.mono hb1.size).trans (hb3.mono (Nat.le_trans hb1.size hb2.size))), hb1.size, Nat.le_trans hb2.size hb3.size, h2.below hb3, h3.lower hb2.size, by simp [Wr.new, Wr.v, Value.ownBlock]⟩,
    ⟨rfl, rfl, ⟨[], rfl⟩, fun x => by simp [Wr.new, Wf.new, has_eq], by simp [Wf.new], by simp [Wf.new], by simp [Wr.new], by simp [Wf.new]⟩⟩
/-- Both have marked. -/
theorem mark_both {r : Wr} {rf : Wf} {B g gf i : Nat} {w w1 : World} {e : Ending} (ha : Agree r rf i) (h : MarkPost r B g w e w1) :
    ∃ x c : Int, e = .returned (.tuple #[.int .i64 x, .int .i64 c]) ∧ ∃ r', PT B g r r' w w1 ∧ ∀ w2 f w3, MarkPostF rf B gf w2 f w3 → f = .returned (.tuple #[.int .i64 x, .int .i64 c]) ∧ ∃ rf', FT B gf rf rf' w2 w3 ∧ Agree r' rf' (i + 1) := by
  rcases h with ⟨h1, rfl, h2⟩ | ⟨h1, rfl, b, h2, h3, h4⟩
  · refine ⟨_, _, rfl, ?_⟩
    obtain ⟨b, hb⟩ := PT.of h2
    refine ⟨_, hb, fun w2 f w3 hf => ?_⟩
    rw [putEnd_eq] at h1
    rcases hf with ⟨k1, rfl, k2⟩ | ⟨k1, _⟩
    · obtain ⟨c, hc⟩ := FT.of k2
      exact ⟨rfl, _, hc, (ha.more b c []).mono (by omega)⟩
    · rw [ha.lim, ha.bs, h1] at k1; cases k1
  · refine ⟨_, _, rfl, _, ⟨h2, h3, h4⟩, fun w2 f w3 hf => ?_⟩
    rw [putEnd_eq] at h1
    rcases hf with ⟨k1, _⟩ | ⟨k1, rfl, ⟨c, k, k2, k3⟩, k4⟩
    · rw [ha.lim, ha.bs, h1] at k1; cases k1
    · exact ⟨by rw [ha.bs], _, ⟨k2, k3, k4⟩, ha.marked b c k⟩
/-- A cell of a younger block is stored. -/
theorem Both.young {W wz w : World} {B g gf : Nat} {r : Wr} {rf : Wf} (h0 : Both W wz B g gf r rf) (h : Both W w B g gf r rf) {gI j : Nat} (hgI : wz.heap.size ≤ gI) (v : Value) : Both W (w.setCell ⟨gI, j, none⟩ v) B g gf r rf := by
  have hset : Only [gI] w (w.setCell ⟨gI, j, none⟩ v) := only_set _ _ _ _
  have hm : r.m < wz.heap.size := by
    obtain ⟨es, clock, hm, _⟩ := h0.wr.map
    exact (Array.getElem?_eq_some_iff.1 hm).1
  refine ⟨hset.below h.below h.below.size (fun x hx => by simp at hx; subst hx; exact Nat.le_trans h0.below.size hgI), h.WB, Nat.le_trans h.Bw hset.size, h.wr.only hset ?_ ?_ ?_, h.wf.only hset ?_ ?_ ?_, h.ap⟩
  · have := h0.wr.lt; simp; omega
  · simp; omega
  · intro k hk; have := (h0.wr.apart k hk).2.2.2; simp; omega
  · have := h0.wf.lt; simp; omega
  · intro k hk; have := (h0.wf.apart k hk).2.2.2; simp; omega
  · intro k hk; have := (h0.wf.mapart k hk).2.2.2; simp; omega
theorem both_step {W w w' : World} {B g gf i j : Nat} {r : Wr} {rf rf' : Wf} (h : Both W w B g gf r rf) (hF : FT B gf rf rf' w w') (ha : Agree r rf' i) (hi : i ≤ j) : Both W w' B g gf r rf' ∧ Agree r rf' j := ⟨h.turnF hF, ha.mono hi⟩
end Go.Proofs.Ytfbakbfljpadlaa
