import Derived.Test.YtfbakbfljpadlaaBa
/- WireBack: the numbers written, and what holds ahead of a round. -/
namespace Go.Proofs.Ytfbakbfljpadlaa
open Go.RowKit Go.Maps
set_option linter.unusedSimpArgs false
set_option linter.unusedVariables false

theorem numOf_take (n k : Nat) (h : n < 256 ^ k) : ∀ j, j ≤ k → numOf ((be n k).take j) = n / 256 ^ (k - j)
  | 0, _ => by simp [numOf]; rw [Nat.div_eq_of_lt h]
  | j + 1, hj => by
    rw [be_take n k j (by omega), numOf_snoc, numOf_take n k h j (by omega)]
    rw [show k - j = (k - 1 - j) + 1 by omega, show k - (j + 1) = k - 1 - j by omega, Nat.pow_succ, ← Nat.div_div_eq_div_mul]
    simp
    omega
theorem numOf_be (n k : Nat) (h : n < 256 ^ k) : numOf (be n k) = n := by
  have := numOf_take n k h k (Nat.le_refl _)
  rw [List.take_of_length_le (by rw [be_len]; omega)] at this
  simpa using this

def flat (ps : List (Nat × Nat)) : List UInt8 := ps.flatMap fun p => be p.2 (sz p.1)
theorem flat_snoc (ps : List (Nat × Nat)) (y n : Nat) : flat (ps ++ [(y, n)]) = flat ps ++ be n (sz y) := by simp [flat]
theorem flat_take {ps : List (Nat × Nat)} {i y n : Nat} (h : ps[i]? = some (y, n)) : flat (ps.take (i + 1)) = flat (ps.take i) ++ be n (sz y) := by
  rw [List.take_add_one, h]; exact flat_snoc _ _ _
theorem flat_part {ps : List (Nat × Nat)} {i y n : Nat} (h : ps[i]? = some (y, n)) : ((flat ps).drop (flat (ps.take i)).length).take (sz y) = be n (sz y) := by
  have e : flat ps = flat (ps.take (i + 1)) ++ flat (ps.drop (i + 1)) := by
    conv => lhs; rw [← List.take_append_drop (i + 1) ps]
    unfold flat
    rw [List.flatMap_append]
  rw [e, flat_take h, List.append_assoc, List.drop_left, List.take_append_of_le_length (by rw [be_len]; exact Nat.le_refl _), List.take_of_length_le (by rw [be_len]; exact Nat.le_refl _)]
theorem flat_le (ps : List (Nat × Nat)) : (flat ps).length ≤ 8 * ps.length := by
  induction ps with
  | nil => simp [flat]
  | cons p ps ih =>
    have := (sz_bd p.1).2
    have e : flat (p :: ps) = be p.2 (sz p.1) ++ flat ps := by simp [flat]
    rw [e, List.length_append, be_len, List.length_cons]; omega

/-- Two rows of other types lie apart. -/
theorem owns_apart {w : World} {B1 B2 e1 e2 s1 s2 n1 n2 : Nat} {v1 v2 : Value} {xs1 xs2 : List Value} (h1 : w.ownsRow B1 e1 s1 v1 n1 xs1) (h2 : w.ownsRow B2 e2 s2 v2 n2 xs2) (hne : e1 ≠ e2) :
    ∀ k, v1.ownBlock = some k → v2.ownBlock = some k → False := fun k hk1 hk2 => by
  rcases h1.2 with ⟨h, _⟩ | ⟨g1, c1, cur1, h, _, hg1, _⟩
  · rw [h] at hk1; simp [Value.ownBlock] at hk1
  · rcases h2.2 with ⟨h', _⟩ | ⟨g2, c2, cur2, h', _, hg2, _⟩
    · rw [h'] at hk2; simp [Value.ownBlock] at hk2
    · rw [h] at hk1
      rw [h'] at hk2
      simp [Value.ownBlock] at hk1 hk2
      subst hk1
      subst hk2
      rw [hg1] at hg2
      simp at hg2
      exact hne hg2.2
theorem owns_not_cells {w : World} {B e s n k T : Nat} {v : Value} {xs : List Value} {cs : Array Value} (h : w.ownsRow B e s v n xs) (hk : w.heap[k]? = some (.cells cs T (0, 0))) (hne : e ≠ T) : v.ownBlock ≠ some k := fun he => by
  rcases h.2 with ⟨h', _⟩ | ⟨g1, c1, cur1, h', _, hg1, _⟩
  · rw [h'] at he; simp [Value.ownBlock] at he
  · rw [h'] at he
    simp [Value.ownBlock] at he
    subst he
    rw [hk] at hg1
    simp at hg1
    exact hne hg1.2.symm
theorem owns_not_map {H : Type} {P : Program} {kT : TypeId} {R : Value → Option (DataW H × List MemPlace)} {w : World} {B e s n m b : Nat} {v : Value} {xs : List Value} {D : DataW H} (h : w.ownsRow B e s v n xs) (hm : w.ownsMap P kT R b m D) : v.ownBlock ≠ some b := fun he => by
  rcases h.2 with ⟨h', _⟩ | ⟨g1, c1, cur1, h', _, hg1, _⟩
  · rw [h'] at he; simp [Value.ownBlock] at he
  · rw [h'] at he
    simp [Value.ownBlock] at he
    subst he
    obtain ⟨es, clock, hm', _⟩ := hm
    rw [hm'] at hg1
    simp at hg1

theorem Wr.At.low {r : Wr} {w : World} {base g : Nat} (h : r.At w base g) : ∀ x ∈ r.S g, base ≤ x := fun x hx => by
  have h1 := h.gbase
  have h2 := h.mbase
  simp only [Wr.S, List.mem_cons, List.mem_nil_iff, or_false] at hx
  rcases hx with rfl | rfl | rfl
  · omega
  · omega
  · unfold Wr.blk
    cases hk : r.v.ownBlock with
    | none => simp; omega
    | some k => simp; exact (h.apart k hk).2.2.1
/-- A cell of an elder block is as it was. -/
theorem Wrote.cell {B g b i : Nat} {w w' : World} {r : Wr} {l : List UInt8} (h : Wrote B g r l w w') (hat : r.At w B g) (hb : b < B) (hb2 : b < w.heap.size) : w'.cell? ⟨b, i, none⟩ = w.cell? ⟨b, i, none⟩ :=
  World.cell?_of_block (h.only.block b hb2 fun hm => by have := hat.low b hm; omega)

def ob (v : Value) : List Nat := match v.ownBlock with | some k => [k] | none => []
theorem ob_mem {v : Value} {k : Nat} : k ∈ ob v ↔ v.ownBlock = some k := by
  unfold ob
  split
  · rename_i j hj
    simp [hj]
    exact ⟨fun h => h.symm, fun h => h.symm⟩
  · rename_i hn
    simp [hn]

/-- Two rows of the call's own, of other types, in a world that has turned nothing but them. -/
structure Two (w0 w : World) (B : Nat) (S : List Nat) (v7 : Value) (n7 : Nat) (xs7 : List Value) (v8 : Value) (n8 : Nat) (xs8 : List Value) : Prop where
  o7 : w.ownsRow B 3 1 v7 n7 xs7
  o8 : w.ownsRow B 31 1 v8 n8 xs8
  on : Only S w0 w
  k7 : ∀ k, v7.ownBlock = some k → k ∈ S ∨ w0.heap.size ≤ k
  k8 : ∀ k, v8.ownBlock = some k → k ∈ S ∨ w0.heap.size ≤ k
section
variable {w0 w w' : World} {B : Nat} {S : List Nat} {v7 v7' v8 v8' : Value} {n7 n8 n' : Nat} {xs7 xs8 xs' : List Value}
theorem Two.below (h : Two w0 w B S v7 n7 xs7 v8 n8 xs8) (hb : Below w.heap.size w w') : Two w0 w' B S v7 n7 xs7 v8 n8 xs8 := ⟨owns_below h.o7 hb, owns_below h.o8 hb, h.on.then_below hb, h.k7, h.k8⟩
theorem Two.app7 (h : Two w0 w B S v7 n7 xs7 v8 n8 xs8) (ho : w'.ownsRow B 3 1 v7' n' xs') (hg : w.grownBy w' v7.ownBlock) (hat : ∀ k, v7'.ownBlock = some k → v7.ownBlock = some k ∨ w.heap.size ≤ k) : Two w0 w' B S v7' n' xs' v8 n8 xs8 :=
  ⟨ho, owns_only h.o8 ((Only.refl (ob v7) w).grown hg fun k hk => .inl (ob_mem.2 hk)) (fun k hk hm => owns_apart h.o7 h.o8 (by decide) k (ob_mem.1 hm) hk), h.on.grown hg h.k7,
    fun k hk => (hat k hk).elim (h.k7 k) fun hl => .inr (Nat.le_trans h.on.size hl), h.k8⟩
theorem Two.app8 (h : Two w0 w B S v7 n7 xs7 v8 n8 xs8) (ho : w'.ownsRow B 31 1 v8' n' xs') (hg : w.grownBy w' v8.ownBlock) (hat : ∀ k, v8'.ownBlock = some k → v8.ownBlock = some k ∨ w.heap.size ≤ k) : Two w0 w' B S v7 n7 xs7 v8' n' xs' :=
  ⟨owns_only h.o7 ((Only.refl (ob v8) w).grown hg fun k hk => .inl (ob_mem.2 hk)) (fun k hk hm => owns_apart h.o7 h.o8 (by decide) k hk (ob_mem.1 hm)), ho, h.on.grown hg h.k8, h.k7,
    fun k hk => (hat k hk).elim (h.k8 k) fun hl => .inr (Nat.le_trans h.on.size hl)⟩
end

/-- WireBack, ahead of a round of the first loop. -/
structure BInv (W w : World) (B g : Nat) (r : Wr) (v7 v8 : Value) (i : Nat) (ps : List (Nat × Nat)) : Prop where
  below : Below W.heap.size W w
  WB : W.heap.size ≤ B
  Bw : B ≤ w.heap.size
  wr : r.At w B g
  bs : r.bs = [0, 0] ++ flat ps
  lim : r.lim = 65536
  has : Maps.has r.D (ilit 0) = true
  o7 : w.ownsRow B 3 1 v7 ps.length (ps.map fun p => .int .i64 p.1)
  o8 : w.ownsRow B 31 1 v8 ps.length (ps.map fun p => .int .u64 p.2)
  n : ps.length ≤ i
  ok : ∀ p ∈ ps, p.1 < 6 ∧ p.2 < 256 ^ sz p.1
section
variable {W w w' : World} {B g i : Nat} {r : Wr} {v7 v8 v7' v8' : Value} {ps : List (Nat × Nat)}
theorem BInv.later (h : BInv W w B g r v7 v8 i ps) (hb : Below w.heap.size w w') : BInv W w' B g r v7 v8 i ps :=
  ⟨h.below.trans (hb.mono h.below.size), h.WB, Nat.le_trans h.Bw hb.size, h.wr.below hb, h.bs, h.lim, h.has, owns_below h.o7 hb, owns_below h.o8 hb, h.n, h.ok⟩
theorem BInv.next (h : BInv W w B g r v7 v8 i ps) : BInv W w B g r v7 v8 (i + 1) ps := { h with n := by have := h.n; omega }
/-- The rows lie apart from the writer. -/
theorem BInv.free7 (h : BInv W w B g r v7 v8 i ps) : ∀ k, v7.ownBlock = some k → k ∉ r.S g := fun k hk hm => by
  simp only [Wr.S, List.mem_cons, List.mem_nil_iff, or_false] at hm
  rcases hm with rfl | rfl | hm
  · exact owns_not_cells h.o7 h.wr.box (by decide) hk
  · exact owns_not_map h.o7 h.wr.map hk
  · unfold Wr.blk at hm
    cases hb : r.v.ownBlock with
    | none => rw [hb] at hm; simp at hm; subst hm; exact owns_not_cells h.o7 h.wr.box (by decide) hk
    | some j => rw [hb] at hm; simp at hm; subst hm; exact owns_apart h.o7 h.wr.own (by decide) _ hk hb
theorem BInv.free8 (h : BInv W w B g r v7 v8 i ps) : ∀ k, v8.ownBlock = some k → k ∉ r.S g := fun k hk hm => by
  simp only [Wr.S, List.mem_cons, List.mem_nil_iff, or_false] at hm
  rcases hm with rfl | rfl | hm
  · exact owns_not_cells h.o8 h.wr.box (by decide) hk
  · exact owns_not_map h.o8 h.wr.map hk
  · unfold Wr.blk at hm
    cases hb : r.v.ownBlock with
    | none => rw [hb] at hm; simp at hm; subst hm; exact owns_not_cells h.o8 h.wr.box (by decide) hk
    | some j => rw [hb] at hm; simp at hm; subst hm; exact owns_apart h.o8 h.wr.own (by decide) _ hk hb
/-- Nothing was written. -/
theorem BInv.none (h : BInv W w B g r v7 v8 i ps) (hw : Wrote B g r [] w w') : ∃ r', BInv W w' B g r' v7 v8 i ps := by
  obtain ⟨⟨b, hat, hk⟩, ho⟩ := hw
  have hb : Below W.heap.size W w' := Wrote.below ⟨⟨b, hat, hk⟩, ho⟩ h.wr h.below h.WB h.Bw
  exact ⟨r.more b [], hb, h.WB, Nat.le_trans h.Bw ho.size, hat, by simp [Wr.more, h.bs], h.lim, h.has, owns_only h.o7 ho h.free7, owns_only h.o8 ho h.free8, h.n, h.ok⟩
/-- A number was written, and is not yet in the rows. -/
structure BMid (W w : World) (B g : Nat) (r : Wr) (v7 v8 : Value) (i : Nat) (ps : List (Nat × Nat)) (y n : Nat) : Prop where
  below : Below W.heap.size W w
  WB : W.heap.size ≤ B
  Bw : B ≤ w.heap.size
  wr : r.At w B g
  bs : r.bs = [0, 0] ++ flat (ps ++ [(y, n)])
  lim : r.lim = 65536
  has : Maps.has r.D (ilit 0) = true
  o7 : w.ownsRow B 3 1 v7 ps.length (ps.map fun p => .int .i64 p.1)
  o8 : w.ownsRow B 31 1 v8 ps.length (ps.map fun p => .int .u64 p.2)
  len : ps.length ≤ i
  ok : ∀ p ∈ ps ++ [(y, n)], p.1 < 6 ∧ p.2 < 256 ^ sz p.1
theorem BInv.wrote {y n : Nat} (h : BInv W w B g r v7 v8 i ps) (hw : Wrote B g r (be n (sz y)) w w') (hy : y < 6) (hn : n < 256 ^ sz y) : ∃ r', BMid W w' B g r' v7 v8 i ps y n := by
  obtain ⟨⟨b, hat, hk⟩, ho⟩ := hw
  have hb : Below W.heap.size W w' := Wrote.below ⟨⟨b, hat, hk⟩, ho⟩ h.wr h.below h.WB h.Bw
  refine ⟨r.more b (be n (sz y)), hb, h.WB, Nat.le_trans h.Bw ho.size, hat, by rw [flat_snoc]; simp [Wr.more, h.bs], h.lim, h.has, owns_only h.o7 ho h.free7, owns_only h.o8 ho h.free8, h.n, fun p hp => ?_⟩
  rcases List.mem_append.1 hp with hp | hp
  · exact h.ok p hp
  · simp at hp; subst hp; exact ⟨hy, hn⟩
theorem BMid.two {y n : Nat} (h : BMid W w B g r v7 v8 i ps y n) : Two w w B (ob v7 ++ ob v8) v7 ps.length (ps.map fun p => .int .i64 p.1) v8 ps.length (ps.map fun p => .int .u64 p.2) :=
  ⟨h.o7, h.o8, Only.refl _ _, fun k hk => .inl (by simp [ob_mem, hk]), fun k hk => .inl (by simp [ob_mem, hk])⟩
theorem BMid.done {y n : Nat} (h : BMid W w B g r v7 v8 i ps y n) (ht : Two w w' B (ob v7 ++ ob v8) v7' (ps.length + 1) (ps.map (fun p => .int .i64 p.1) ++ [.int .i64 y]) v8' (ps.length + 1) (ps.map (fun p => .int .u64 p.2) ++ [.int .u64 n])) :
    BInv W w' B g r v7' v8' (i + 1) (ps ++ [(y, n)]) := by
  have hS : ∀ x ∈ ob v7 ++ ob v8, B ≤ x ∧ x ≠ g ∧ x ≠ r.m ∧ ∀ k, r.v.ownBlock = some k → k ≠ x := fun x hx => by
    rcases List.mem_append.1 hx with hx | hx
    · have hk := ob_mem.1 hx
      refine ⟨(owns_block h.o7 x hk).1, ?_, ?_, ?_⟩
      · rintro rfl; exact owns_not_cells h.o7 h.wr.box (by decide) hk
      · rintro rfl; exact owns_not_map h.o7 h.wr.map hk
      · rintro k hk2 rfl; exact owns_apart h.o7 h.wr.own (by decide) k hk hk2
    · have hk := ob_mem.1 hx
      refine ⟨(owns_block h.o8 x hk).1, ?_, ?_, ?_⟩
      · rintro rfl; exact owns_not_cells h.o8 h.wr.box (by decide) hk
      · rintro rfl; exact owns_not_map h.o8 h.wr.map hk
      · rintro k hk2 rfl; exact owns_apart h.o8 h.wr.own (by decide) k hk hk2
  refine ⟨ht.on.below h.below h.below.size (fun x hx => Nat.le_trans h.WB (hS x hx).1), h.WB, Nat.le_trans h.Bw ht.on.size, h.wr.only ht.on (fun hm => (hS _ hm).2.1 rfl) (fun hm => (hS _ hm).2.2.1 rfl) (fun k hk hm => (hS _ hm).2.2.2 k hk rfl), h.bs, h.lim, h.has, ?_, ?_, by have := h.len; simp; omega, h.ok⟩
  · simpa using ht.o7
  · simpa using ht.o8
end

/-- The reader of the numbers, ahead of number j. -/
def rdOf (b : Sl) (ps : List (Nat × Nat)) (bs : List UInt8) (j : Nat) : Rd := ⟨2 + (flat (ps.take j)).length, bs.length, b, 0, 0⟩
/-- WireBack, ahead of a round of the second loop. -/
structure CInv (W w : World) (B g gr : Nat) (r : Wr) (b : Sl) (v7 v8 : Value) (ps : List (Nat × Nat)) (s : Rd) : Prop where
  below : Below W.heap.size W w
  WB : W.heap.size ≤ B
  wr : r.At w B g
  o7 : w.ownsRow B 3 1 v7 ps.length (ps.map fun p => .int .i64 p.1)
  o8 : w.ownsRow B 31 1 v8 ps.length (ps.map fun p => .int .u64 p.2)
  rd : RdAt w gr s
  ok : s.ok
  by' : Bys w s r.bs
  gW : B ≤ gr
section
variable {W w w' : World} {B g gr : Nat} {r : Wr} {b : Sl} {v7 v8 : Value} {ps : List (Nat × Nat)} {s s' : Rd}
theorem CInv.later (h : CInv W w B g gr r b v7 v8 ps s) (hb : Below w.heap.size w w') : CInv W w' B g gr r b v7 v8 ps s :=
  ⟨h.below.trans (hb.mono h.below.size), h.WB, h.wr.below hb, owns_below h.o7 hb, owns_below h.o8 hb, h.rd.below hb, h.ok, h.by'.turned h.rd (Only.of_below hb _) rfl, h.gW⟩
theorem CInv.turn (h : CInv W w B g gr r b v7 v8 ps s) (ht : Turned gr s' w w') (hok : s'.ok) (hb : s'.b = s.b) : CInv W w' B g gr r b v7 v8 ps s' := by
  have hgg : g ≠ gr := by
    rintro rfl
    have h1 := h.wr.box
    rw [show w.heap[g]? = _ from h.rd] at h1
    simp at h1
  have hmm : r.m ≠ gr := by
    rintro e
    obtain ⟨es, clock, hm', _⟩ := h.wr.map
    rw [e, show w.heap[gr]? = _ from h.rd] at hm'
    simp at hm'
  refine ⟨ht.1.below h.below h.below.size (fun x hx => by simp at hx; subst hx; exact Nat.le_trans h.WB h.gW), h.WB, h.wr.only ht.1 (by simpa using hgg) (by simpa using hmm) (fun k hk hm => ?_), owns_only h.o7 ht.1 (fun k hk hm => ?_), owns_only h.o8 ht.1 (fun k hk hm => ?_), ht.2, hok, h.by'.turned h.rd ht.1 hb, h.gW⟩
  · simp at hm; subst hm; exact owns_not_cells h.wr.own h.rd (by decide) hk
  · simp at hm; subst hm; exact owns_not_cells h.o7 h.rd (by decide) hk
  · simp at hm; subst hm; exact owns_not_cells h.o8 h.rd (by decide) hk
end
theorem patched_bs {bs l : List UInt8} (h : bs = [0, 0] ++ l) : (bs.set 0 (UInt8.ofNat ((bs.length - 0 - 2) / 256))).set (0 + 1) (UInt8.ofNat (bs.length - 0 - 2)) = be l.length 2 ++ l := by
  subst h
  simp [be, List.range, List.range.loop]
theorem num_head {l : List UInt8} {n : Nat} {b : Sl} (hl : l.length < 65536) (hn : n = l.length + 2) : Rd.num ⟨0, n, b, 0, 0⟩ (be l.length 2 ++ l) 2 = l.length := by
  unfold Rd.num
  rw [if_pos ⟨rfl, by simp only; omega⟩]
  simp only [List.drop_zero]
  rw [List.take_append_of_le_length (by rw [be_len]; exact Nat.le_refl _), List.take_of_length_le (by rw [be_len]; exact Nat.le_refl _)]
  exact numOf_be _ _ (by simpa using hl)
theorem flat_take_le {ps : List (Nat × Nat)} {i y n : Nat} (h : ps[i]? = some (y, n)) : (flat (ps.take i)).length + sz y ≤ (flat ps).length := by
  have h1 := flat_part h
  have h2 := congrArg List.length h1
  rw [be_len] at h2
  simp at h2
  have := (sz_bd y).1
  omega
theorem num_at {ps : List (Nat × Nat)} {i y n L : Nat} {b : Sl} (h : ps[i]? = some (y, n)) (hn : n < 256 ^ sz y) : (rdOf b ps (be L 2 ++ flat ps) i).num (be L 2 ++ flat ps) (sz y) = n := by
  have hle := flat_take_le h
  unfold Rd.num rdOf
  rw [if_pos ⟨rfl, by simp [be_len]; omega⟩]
  simp only
  rw [← List.drop_drop, show (be L 2 ++ flat ps).drop 2 = flat ps from List.drop_left' (be_len _ _), flat_part h]
  exact numOf_be _ _ hn
theorem past_at {ps : List (Nat × Nat)} {i y n L : Nat} {b : Sl} (h : ps[i]? = some (y, n)) : (rdOf b ps (be L 2 ++ flat ps) i).past (sz y : Int) = rdOf b ps (be L 2 ++ flat ps) (i + 1) := by
  have hle := flat_take_le h
  unfold Rd.past rdOf
  rw [if_neg (by simp), if_pos ⟨by omega, by simp [be_len]; omega⟩, flat_take h]
  simp [be_len]
  omega
end Go.Proofs.Ytfbakbfljpadlaa
