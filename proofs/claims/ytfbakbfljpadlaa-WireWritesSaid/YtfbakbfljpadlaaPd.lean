import Derived.Test.YtfbakbfljpadlaaPc
/- Patch of the reference's writer. -/
namespace Go.Proofs.Ytfbakbfljpadlaa
open Go.RowKit Go.Maps
set_option linter.unusedSimpArgs false
set_option linter.unusedVariables false
attribute [local go_sem ↓] Go.wp_at_zero Go.wp_at_succ

set_option maxHeartbeats 1000000 in
theorem PatchF_none (r : Wf) (base g : Nat) (x : Int) (W : World) (h : r.At W base g) (hx : ∀ a ∈ r.ms, (a : Int) ≠ x) (hcnt : r.ms.length ≤ 1000000) :
    Calls Try.prog 39 #[.pointer (some ⟨g, 0, none⟩), .int .i64 x] W fun e w' => e = .returned (.int .i64 16) ∧ Below W.heap.size W w' := by
  have hc2 := h.cell 2
  simp [Wf.cs, Wf.mv] at hc2
  have hkn := h.kn
  have H := Lib.hid h
  have HX := Lib.hid hx
  clear h hx
  have hk : r.k.n ≤ 1000000 := by omega
  go_enter Try.func39, Try.ntmps39
  go_wp2_with fail
  go_loopw [5] (fun i wr => ∃ j : Nat, j ≤ r.k.n ∧ i = .int .i64 j ∧ W = wr) (fun i _ => r.k.n - (intOf i).toNat)
  case atStart => exact ⟨0, by omega, rfl, rfl⟩
  case round =>
    obtain ⟨j, hj, rfl, rfl⟩ := hrel
    by_cases hlt : j < r.k.n
    · have hlt2 : j < r.ms.length := by omega
      obtain ⟨k7, cc7, hv7, _, _⟩ := H.out.mks.form (by omega)
      have e7 : (r.ms.map fun (a : Nat) => Value.int .i64 (a : Int))[j]? = some (.int .i64 (r.ms[j]'hlt2 : Nat)) := by rw [List.getElem?_map, List.getElem?_eq_getElem hlt2]; rfl
      have hm := H.out.mks
      rw [hv7] at hm
      have x7 := (hm.cellAt j (by omega)).trans e7
      have hne : ((r.ms[j]'hlt2 : Nat) : Int) ≠ x := HX.out _ (List.getElem_mem _)
      have hv8 : r.k.a = some ⟨k7, 0, none⟩ := by simp [Wf.mv] at hv7; exact hv7.1
      rw [hv8] at hc2
      obtain ⟨y, hy⟩ : ∃ y : Nat, r.ms[j]'hlt2 = y := ⟨_, rfl⟩
      rw [hy] at x7 hne
      have hb1 : (((y : Nat) : Int) != x) = true := by simpa using hne
      have j0 : (0 : Int) ≤ (j : Int) := by omega
      have j1 : (j : Int) < (r.k.n : Int) := by omega
      clear hv7 hv8 e7 hm hy hkn
      go_wp2_with fail
      go_roundw
      case rel => exact ⟨j + 1, by omega, by go_num, trivial⟩
      case measure => simp [intOf]; omega
    · go_wp2_with fail
      go_ret
      exact ⟨rfl, Below.refl _ _⟩

def Wf.gap (r : Wf) (a : Nat) : Nat := r.bs.length - a - 2
def Wf.patched (r : Wf) (a j : Nat) (k : Sl) : Wf := { r with bs := (r.bs.set a (UInt8.ofNat (r.gap a / 256))).set (a + 1) (UInt8.ofNat (r.gap a)), k := k, ms := r.ms.take j ++ r.ms.drop (j + 1) }

theorem held_drop {w : World} {A : Option Addr} {xs : List Value} (h : Held w A xs) (c l : Nat) (hc : xs.length ≤ c) : Held w (partA A c l) (xs.drop l) := fun hp => by
  simp only [List.length_drop] at hp
  obtain ⟨b, off, rfl, hlt, hx⟩ := h (by omega)
  have ea : Addr.add ⟨b, off, none⟩ l = ⟨b, off + l, none⟩ := by unfold Addr.add; split <;> simp_all
  refine ⟨b, off + l, by unfold partA; rw [if_neg (by omega)]; simp [ea], hlt, fun j u hj => ?_⟩
  rw [List.getElem?_drop] at hj
  have := hx (l + j) u hj
  rwa [Nat.add_assoc]
theorem held_take {w : World} {A : Option Addr} {xs : List Value} (h : Held w A xs) (k : Nat) : Held w A (xs.take k) := fun hp => by
  simp only [List.length_take] at hp
  obtain ⟨b, off, rfl, hlt, hx⟩ := h (by omega)
  refine ⟨b, off, rfl, hlt, fun j u hj => hx j u ?_⟩
  rw [List.getElem?_take] at hj
  split at hj
  · exact hj
  · cases hj
def iv (a : Nat) : Value := .int .i64 (a : Int)
theorem iv_one (l : List Nat) : ∀ u ∈ l.map iv, u.oneCell' = true := by
  intro u hu
  obtain ⟨a, _, rfl⟩ := List.mem_map.1 hu
  rfl
/-- Two bytes of the row written. -/
theorem Wf.At.stored2 {r : Wf} {w : World} {base g gb cap a : Nat} {x y : UInt8} (h : r.At w base g) (hv : r.b = ⟨some ⟨gb, 0, none⟩, r.b.n, cap⟩) :
    ({ r with bs := (r.bs.set a x).set (a + 1) y } : Wf).At ((w.setCell ⟨gb, a, none⟩ (byv x)).setCell ⟨gb, a + 1, none⟩ (byv y)) base g := by
  have hap := h.apart gb (by unfold Wf.v; rw [hv]; rfl)
  have ho : Only [gb] w ((w.setCell ⟨gb, a, none⟩ (byv x)).setCell ⟨gb, a + 1, none⟩ (byv y)) := (only_set _ _ _ _).trans (only_set _ _ _ _)
  have hown := h.own
  have hv2 : r.v = .slice (some ⟨gb, 0, none⟩) r.b.n cap := by unfold Wf.v; rw [hv]
  rw [hv2] at hown
  have hst := ((hown.stored a (byv x)).1.stored (a + 1) (byv y)).1
  refine ⟨(ho.block g h.lt (by simpa using Ne.symm hap.1)).trans h.box, ?_, owns_only h.mks ho (fun k hk hm => by simp at hm; subst hm; exact hap.2.1 hk), h.lim0, h.lim1, by simpa using h.len, h.gbase⟩
  show World.ownsRow _ _ _ _ r.v r.b.n (((r.bs.set a x).set (a + 1) y).map byv)
  rw [hv2, List.map_set, List.map_set]
  exact hst

/-- Other marks stored. -/
theorem Wf.At.remark {r : Wf} {w w' : World} {base g n c : Nat} {A : Option Addr} {ms' : List Nat} (h : r.At w base g) (hb : base ≤ w.heap.size) (hB : Below w.heap.size w w') (hown : w'.ownsRow w.heap.size 3 1 (.slice A n c) n (ms'.map iv)) :
    ({ r with k := ⟨A, n, c⟩, ms := ms' } : Wf).At (w'.setCell ⟨g, 2, none⟩ (.slice A n c)) base g ∧ Only [g] w (w'.setCell ⟨g, 2, none⟩ (.slice A n c)) := by
  have h' := h.below hB
  have hset : Only [g] w' (w'.setCell ⟨g, 2, none⟩ (.slice A n c)) := only_set _ _ _ _
  have hne : (Value.slice A n c).ownBlock ≠ some g := fun he => by
    have := (owns_block hown g he).1
    have := h.lt
    omega
  refine ⟨⟨?_, ?_, ?_, h.lim0, h.lim1, h.len, h.gbase⟩, (Only.of_below hB _).trans hset⟩
  · rw [heap_setCell_same w' g 2 _ _ _ h'.box]
    simp [Wf.cs, Wf.v, Wf.mv]
  · exact owns_only h'.own hset (fun k hk hm => by simp at hm; subst hm; exact (h'.apart _ hk).1 rfl)
  · exact owns_only (owns_low hown hb) hset fun k hk hm => by simp at hm; subst hm; exact hne hk

@[local go_sem ↓ high] theorem ints_h (w : World) (A : Option Addr) (n c : Nat) (kh : IntKind) (h : Int) (h1 : 0 ≤ h) (h2 : h ≤ c) : (Instr.slice 23 (.slice A n c) none (some (.int kh h)) none).run Try.prog w = .ok (.slice A h.toNat c) w :=
  run_part_h Try.underlying23 (fun w => by kernel_rfl) w A n c kh h h1 h2
@[local go_sem ↓ high] theorem ints_l (w : World) (A : Option Addr) (n c : Nat) (kl : IntKind) (l : Int) (h0 : 0 ≤ l) (h1 : l ≤ n) : (Instr.slice 23 (.slice A n c) (some (.int kl l)) none none).run Try.prog w = .ok (.slice (partA A c l.toNat) (n - l.toNat) (c - l.toNat)) w :=
  run_part_l Try.underlying23 (fun w => by kernel_rfl) w A n c kl l h0 h1

set_option maxRecDepth 100000 in
set_option maxHeartbeats 2000000 in
theorem PatchF_open (r : Wf) (base g j a : Nat) (W : World) (h : r.At W base g) (hj : r.ms[j]? = some a) (hd : ∀ q, q < j → r.ms[q]? ≠ some a) (ha : a + 2 ≤ r.bs.length) (hlim : r.gap a ≤ 65535) (hcnt : r.ms.length ≤ 1000000) (hbase : base ≤ W.heap.size) :
    Calls Try.prog 39 #[.pointer (some ⟨g, 0, none⟩), .int .i64 a] W fun e w' => e = .returned (.int .i64 0) ∧ ∃ k, (r.patched a j k).At w' base g ∧ Only (r.S g) W w' := by
  have hc2 := h.cell 2
  have hc0 := h.cell 0
  simp [Wf.cs, Wf.mv, Wf.v] at hc2 hc0
  have hkn := h.kn
  have hn := h.n
  have hl1 := h.lim1
  have hl2 := h.len
  have hjl : j < r.k.n := by have := (List.getElem?_eq_some_iff.1 hj).1; omega
  have H := Lib.hid h
  have HJ := Lib.hid hj
  have HD := Lib.hid hd
  have hk : r.k.n ≤ 1000000 := by omega
  obtain ⟨k7, cc7, hv7, _, _⟩ := h.mks.form (by omega)
  have hm := h.mks
  rw [hv7] at hm
  have hv8 : r.k.a = some ⟨k7, 0, none⟩ := by simp [Wf.mv] at hv7; exact hv7.1
  rw [hv8] at hc2
  have HM := Lib.hid hm
  clear h hj hd hv7 hv8 hm
  have hgap : ((r.b.n : Int) - a - 2) = (r.gap a : Int) := by unfold Wf.gap; omega
  have hdd : decide ((65535 : Int) < (r.gap a : Int)) = false := by simp; omega
  have HG := Lib.hid hgap
  clear hgap
  go_enter Try.func39, Try.ntmps39
  go_wp2_with fail
  go_loopw [5] (fun i wr => ∃ q : Nat, q ≤ j ∧ i = .int .i64 q ∧ W = wr) (fun i _ => r.k.n - (intOf i).toNat)
  case atStart => exact ⟨0, by omega, rfl, rfl⟩
  case round =>
    obtain ⟨q, hq, rfl, rfl⟩ := hrel
    have hqn : q < r.ms.length := by omega
    have e7 : (r.ms.map fun (a : Nat) => Value.int .i64 (a : Int))[q]? = some (.int .i64 (r.ms[q]'hqn : Nat)) := by rw [List.getElem?_map, List.getElem?_eq_getElem hqn]; rfl
    have x7 := (HM.out.cellAt q (by omega)).trans e7
    have j0 : (0 : Int) ≤ (q : Int) := by omega
    have j1 : (q : Int) < (r.k.n : Int) := by omega
    by_cases hlt : q < j
    · have hne : ((r.ms[q]'hqn : Nat) : Int) ≠ a := fun he => HD.out q hlt (by rw [List.getElem?_eq_getElem hqn]; congr 1; omega)
      obtain ⟨y, hy⟩ : ∃ y : Nat, r.ms[q]'hqn = y := ⟨_, rfl⟩
      rw [hy] at x7 hne
      have hb1 : (((y : Nat) : Int) != a) = true := by simpa using hne
      clear e7 hy hkn
      go_wp2_with fail
      go_roundw
      case rel => exact ⟨q + 1, by omega, by go_num, trivial⟩
      case measure => simp [intOf]; omega
    · obtain rfl : q = j := by omega
      have hqa : r.ms[q]'hqn = a := by have := HJ.out; rw [List.getElem?_eq_getElem hqn] at this; exact Option.some.inj this
      rw [hqa] at x7
      have hb1 : (((a : Nat) : Int) != a) = false := by simp
      clear e7 hkn hqa
      go_upto_region 6 with fail
      rw [HG.out]
      go_upto_region 8 with fail
      have hown := H.out.own
      obtain ⟨gb, cap, hv⟩ : ∃ gb cap, r.b = ⟨some ⟨gb, 0, none⟩, r.b.n, cap⟩ := by
        rcases hown.2 with ⟨_, h2⟩ | ⟨gb, cap, cur, h1, _⟩
        · omega
        · simp [Wf.v] at h1
          refine ⟨gb, cap, ?_⟩
          rw [← h1.1, ← h1.2]
      have hap := H.out.apart gb (by unfold Wf.v; rw [hv]; rfl)
      unfold Wf.v at hown
      rw [hv] at hown
      simp only at hown
      have HV := Lib.hid hv
      have ha1 : (r.bs.map byv)[a]? = some (byv (r.bs[a]'(by omega))) := by rw [List.getElem?_map, List.getElem?_eq_getElem (by omega)]; rfl
      have ha2 : (r.bs.map byv)[a + 1]? = some (byv (r.bs[a + 1]'(by omega))) := by rw [List.getElem?_map, List.getElem?_eq_getElem (by omega)]; rfl
      have hca := (hown.cellAt a (by omega)).trans ha1
      have hcb := (hown.cellAt (a + 1) (by omega)).trans ha2
      have hfa := hown.frozenAt a
      have hfb := hown.frozenAt (a + 1)
      unfold byv at hca hcb
      have hne : gb ≠ g := hap.1
      have hne' : g ≠ gb := Ne.symm hap.1
      have hltb := hap.2.2.2
      have hlt' := H.out.lt
      rw [hv] at hc0
      simp only at hc0
      have i0 : (0 : Int) ≤ (a : Int) := by omega
      have i1 : (a : Int) < (r.b.n : Int) := by omega
      have i2 : (0 : Int) ≤ (a : Int) + 1 := by omega
      have i3 : (a : Int) + 1 < (r.b.n : Int) := by omega
      have i4 : ((a : Int) + 1).toNat = a + 1 := by omega
      have i5 : IntKind.i64.wrap ((a : Int) + 1) = (a : Int) + 1 := IntWalk.i64_in _ (by omega)
      have hx1 : (W.setCell ⟨gb, a, none⟩ (.int .u8 (IntKind.u8.wrap ((r.gap a : Int) / 256)))).cell? ⟨gb, a + 1, none⟩ = some (.int .u8 (r.bs[a + 1]'(by omega)).toNat) := (cell_set_ne W gb a (a + 1) _ (by omega)).trans hcb
      have hx2 : (W.setCell ⟨gb, a, none⟩ (.int .u8 (IntKind.u8.wrap ((r.gap a : Int) / 256)))).frozen? ⟨gb, a + 1, none⟩ = false := (World.frozen?_setCell ..).trans hfb
      clear ha1 ha2 hown hv hap
      go_region_held3 (fun w' => w'.cell? ⟨g, 0, none⟩ = some (.slice (some ⟨gb, 0, none⟩) r.b.n cap)) (go_keep) (fail)
      have hat2 := (H.out.stored2 (a := a) (x := UInt8.ofNat (r.gap a / 256)) (y := UInt8.ofNat (r.gap a)) HV.out)
      rw [← byte_wrap_hi, ← byte_wrap] at hat2
      have ho2 : Only (r.S g) W ((W.setCell ⟨gb, a, none⟩ (.int .u8 (IntKind.u8.wrap ((r.gap a : Int) / 256)))).setCell ⟨gb, a + 1, none⟩ (.int .u8 (IntKind.u8.wrap (r.gap a : Int)))) := by
        have hm : gb ∈ r.S g := by simp only [Wf.S, List.mem_cons, List.mem_append, ob_mem]; exact .inr (.inl (by unfold Wf.v; rw [HV.out]; rfl))
        exact ((Only.refl _ _).setCell (p := ⟨gb, a, none⟩) (.inl hm) _).setCell (p := ⟨gb, a + 1, none⟩) (.inl hm) _
      obtain ⟨w2, hw2⟩ : ∃ w2, ((W.setCell ⟨gb, a, none⟩ (.int .u8 (IntKind.u8.wrap ((r.gap a : Int) / 256)))).setCell ⟨gb, a + 1, none⟩ (.int .u8 (IntKind.u8.wrap (r.gap a : Int)))) = w2 := ⟨_, rfl⟩
      rw [hw2] at hat2 ho2 ⊢
      have hat3 := hat2.below (Below.refl w2.heap.size w2).drew
      have ho3 := ho2.drew
      obtain ⟨w3, hw3⟩ : ∃ w3, w2.drew = w3 := ⟨_, rfl⟩
      rw [hw3] at hat3 ho3 ⊢
      have hd2 := hat3.cell 2
      have hf2 := hat3.free 2
      have hgl := hat3.lt
      simp [Wf.cs, Wf.mv] at hd2
      have hkn := H.out.kn
      have hsrc : Held w3 r.k.a (r.ms.map iv) ∧ r.k.n ≤ r.k.c ∧ r.k.c ≤ maxLen := by
        obtain ⟨A9, c9, h1, h2, h3, h4, _⟩ := held_of_owns hat3.mks
        simp [Wf.mv] at h1
        rw [h1.1, h1.2]
        exact ⟨h4, h2, h3⟩
      have hcap := hsrc.2.1
      have HSRC := Lib.hid hsrc.1
      have HKN := Lib.hid hkn
      have hbase3 : base ≤ w3.heap.size := Nat.le_trans hbase ho3.size
      clear hsrc hkn
      have HAT := Lib.hid hat3
      have HO := Lib.hid ho3
      clear hat2 hat3 ho2 ho3 hw2 hw3 hx1 hx2 hca hcb hfa hfb hc0
      obtain ⟨i0, hi0, hz0, hz1, hz2⟩ := info_parts info_i
      have j2 : IntKind.i64.wrap ((q : Int) + 1) = (q : Int) + 1 := IntWalk.i64_in _ (by omega)
      have j3 : ((q : Int) + 1).toNat = q + 1 := by omega
      have j4 : (0 : Int) ≤ (q : Int) + 1 := by omega
      have j5 : (q : Int) + 1 ≤ (r.k.n : Int) := by omega
      have j6 : (q : Int) ≤ (r.k.c : Int) := by omega
      go_upto_region 9 with fail
      go_region_law
        (first
          | (refine step_append_held _ (by rfl) _ _ _ (by rfl) w3.heap.size 3 i0 _ 1 8 Try.underlying23 hi0 hz0 hz1 hz2 rfl (by omega) (.slice (some ⟨w3.heap.size, 0, none⟩) 0 0) 0 [] (by rfl) (by exact owns_empty w3 _ _) r.k.a q r.k.c ((r.ms.take q).map iv) (by rfl) (by rw [List.length_map, List.length_take]; omega) (by rw [List.map_take]; exact (held_take HSRC.out q).alloc _) (iv_one _) (by simp only [maxLen]; omega) (by omega) (by simp) ?_; intro v5 w5 hown5 hg5 hat5; have hB5 := Lib.hid (show Below w3.heap.size w3 w5 from (show Below w3.heap.size w3 _ from by repeat (first | exact Below.refl _ _ | refine Below.drew ?_ | refine Below.alloc ?_ (Nat.le_refl _) _)).trans (below_grown hg5 (by simp) (by simp [Value.ownBlock]))); have hd2 := (HAT.out.below hB5.out).cell 2; simp [Wf.cs, Wf.mv] at hd2; have HO5 := Lib.hid hown5; clear hown5 hg5 hat5)
          | (refine step_append_held _ (by rfl) _ _ _ (by rfl) w3.heap.size 3 i0 _ 1 8 Try.underlying23 hi0 hz0 hz1 hz2 rfl (by omega) v5 _ _ (by rfl) (by exact HO5.out) (partA r.k.a r.k.c (q + 1)) (r.k.n - (q + 1)) (r.k.c - (q + 1)) ((r.ms.drop (q + 1)).map iv) (by rfl) (by rw [List.length_map, List.length_drop, HKN.out]; omega) (by rw [List.map_drop]; exact held_drop (HSRC.out.below hB5.out) _ _ (by have := HKN.out; simp; omega)) (iv_one _) (by simp only [maxLen]; omega) (by omega) (by exact hB5.out.size) ?_; intro v6 w6 hown6 hg6 hat6; have hB6 := Lib.hid (show Below w3.heap.size w3 w6 from hB5.out.trans (below_grown hg6 hB5.out.size (fun k hk => (owns_block HO5.out k hk).1))); have hd2 := (HAT.out.below hB6.out).cell 2; have hf2 := (HAT.out.below hB6.out).free 2; simp [Wf.cs, Wf.mv] at hd2; obtain ⟨A6, c6, rfl⟩ := slice_of_owns hown6; rw [Nat.zero_add, List.nil_append, ← List.map_append] at hown6; have HZ := Lib.hid (HAT.out.remark hbase3 hB6.out hown6); clear hown6 hg6 hat6))
      all_goals
        go_wp2_with fail
        go_ret
        exact ⟨rfl, ⟨_, HZ.out.1⟩, HO.out.trans (HZ.out.2.mono (by intro x hx; simp at hx; simp [Wf.S, hx]))⟩
end Go.Proofs.Ytfbakbfljpadlaa
