import Derived.Test.YtfbakbfljpadlaaBb
import Derived.Test.YtfbakbfljpadlaaRa
/- The walk of WireBack. -/
namespace Go.Proofs.Ytfbakbfljpadlaa
open Go.RowKit Go.Maps
set_option linter.unusedSimpArgs false
set_option linter.unusedVariables false
attribute [local go_sem ↓] Go.wp_at_zero Go.wp_at_succ

theorem info_int : (Try.prog.info? 3).map (fun i => (i.zero, i.size, i.bytes)) = some (some (.int .i64 0), 1, 8) := by kernel_rfl
theorem info_u64 : (Try.prog.info? 31).map (fun i => (i.zero, i.size, i.bytes)) = some (some (.int .u64 0), 1, 8) := by kernel_rfl

theorem grown_keeps {w w' : World} {row : Option Nat} (hg : w.grownBy w' row) (k : Nat) (o : Obj) (hk : w.heap[k]? = some o) (hne : some k ≠ row) : w'.heap[k]? = some o := (hg.block k (Array.getElem?_eq_some_iff.1 hk).1 hne).trans hk
theorem heap_drew (w : World) : w.drew.heap = w.heap := rfl
section
variable {P : Program} {md : Region.Mode} {l : List Oper} {Q : Exit → Act → World → Prop} {S : World → Prop}
theorem take_list {i : Nat} {oi : Oper} {v : Value} {fuel : Nat} {listed : Array Bool} {a : Act} {w : World} (hi : l[i]? = some oi)
    (hs : Region.noSelect l.toArray = true) (hf : Region.free md l.toArray listed i = true) (hr : (Region.ready md l.toArray listed).contains i = true)
    (hQ : ∀ c a w, Q (.panic c) (a.put oi.dst v) w → Q (.panic c) a w) (hy : YieldsIf P l.toArray S oi v a) (hS : S w)
    (h : wpAnyH P md l.toArray Q S fuel (listed.setIfInBounds i true) (a.put oi.dst v) w) : wpAnyH P md l.toArray Q S (fuel + 1) listed a w :=
  wpAnyH_take (by simpa using hi) hs hf hr hQ hy hS h
end

set_option maxRecDepth 100000 in
set_option maxHeartbeats 4000000 in
theorem back_any (A : Option Addr) (m c : Nat) (l : List ActV) (W : World) (hl : Acts W A m l) (hm2 : m ≤ 9223372036854775807) :
    Calls Try.prog 7 #[.slice A m c] W fun e w' => e = .returned (.bool true) ∧ Below W.heap.size W w' := by
  have HL := Lib.hid hl
  clear hl
  by_cases hbig : m ≤ 60
  case neg =>
    have hm60 : 60 < m := by omega
    clear hbig
    go_enter Try.func7, Try.ntmps7
    go_wp2_with (go_at_call 9; refine (lives_any _).mono ?_; rintro e w1 ⟨rfl, hb1⟩)
    go_ret
    exact ⟨rfl, hb1⟩
  have hd2 : decide ((60 : Int) < (m : Int)) = false := by simp; omega
  go_enter Try.func7, Try.ntmps7
  go_wp2_with (first
    | (go_at_call 9; refine (lives_any _).mono ?_; rintro e w1 ⟨rfl, hb1⟩; have HB1 := Lib.hid hb1; clear hb1)
    | (go_at_call 30; refine (NewWriter_any 65536 _ (by omega) (by omega)).mono ?_; rintro e w2 ⟨g, mm, rfl, hat, hb2⟩; have HAT := Lib.hid hat; have HB2 := Lib.hid hb2; clear hat hb2)
    | (go_at_call 36; refine Hid.out ?_))
  refine Lib.hid ?_
  have hBw : w1.heap.size ≤ w2.heap.size := HB2.out.size
  refine (Mark_any (Wr.new 65536 mm) w1.heap.size g _ HAT.out hBw (by simp [Wr.new])).mono ?_
  rintro e w3 (⟨h1, rfl, h2⟩ | ⟨h1, rfl, h2⟩)
  · simp [putEnd, Wr.new] at h1
  obtain ⟨b3, hat3, hk3, ho3⟩ := h2
  have hI : ∃ r, BInv W w3 w1.heap.size g r (.slice none 0 0) (.slice none 0 0) 0 [] := by
    have hb3 : Below W.heap.size W w3 := by
      refine ho3.below (HB1.out.trans (HB2.out.mono HB1.out.size)) (Nat.le_trans HB1.out.size hBw) fun x hx => ?_
      have h1 := HAT.out.gbase
      have h2 : w1.heap.size ≤ mm := HAT.out.mbase
      have h3 := HB1.out.size
      simp only [Wr.S, List.mem_cons, List.mem_nil_iff, or_false] at hx
      rcases hx with rfl | rfl | rfl
      · omega
      · simp [Wr.new]; omega
      · simp [Wr.blk, Wr.new, Wr.v, Value.ownBlock]; omega
    refine ⟨_, hb3, HB1.out.size, Nat.le_trans hBw ho3.size, hat3, ?_, rfl, ?_, ⟨by simp, .inl ⟨rfl, rfl⟩⟩, ⟨by simp, .inl ⟨rfl, rfl⟩⟩, by simp, by simp⟩
    · simp [Wr.marks, Wr.more, Wr.new, flat, be]
      decide
    · simp [Wr.marks, Wr.more, Wr.new]
      rfl
  have hlen0 : (Wr.new 65536 mm).bs.length = 0 := rfl
  obtain ⟨B, hB⟩ : ∃ B, w1.heap.size = B := ⟨_, rfl⟩
  rw [hB] at hI
  have HI := Lib.hid hI
  rw [show (((Wr.new 65536 mm).bs.length : Nat) : Int) = 0 from rfl]
  clear hI hat3 hk3 ho3 hB h1 hlen0 hBw HAT HB2
  go_wp2_with fail
  go_loopw [7, 8, 9] (fun v7 v8 i wr => ∃ (k : Nat) (r : Wr) (ps : List (Nat × Nat)), k ≤ m ∧ i = .int .i64 k ∧ Hid (BInv W wr B g r v7 v8 k ps)) (fun _ _ i _ => m - (intOf i).toNat)
  case atStart =>
    obtain ⟨r, hr⟩ := HI.out
    exact ⟨0, r, [], by omega, rfl, hr⟩
  case round =>
    obtain ⟨k, r, ps, hk, rfl, hI2⟩ := hrel
    by_cases hlt : k < m
    · obtain ⟨b0, o0, rfl, hb0, hc0⟩ := (HL.out.below hI2.out.below).2.1 (by omega)
      obtain ⟨x, hx⟩ : ∃ x, l[k]? = some x := ⟨l[k]'(by rw [HL.out.1]; exact hlt), List.getElem?_eq_getElem _⟩
      obtain ⟨hcx, _, hcn, _⟩ := hc0 k x hx
      have hbW : b0 < W.heap.size := by obtain ⟨b', o', h1, h2, _⟩ := HL.out.2.1 (by omega); simp at h1; omega
      have hxn : x.n < 18446744073709551616 := (HL.out.2.2 x (List.mem_of_getElem? hx)).1
      have i0 : (0 : Int) ≤ (k : Int) := by omega
      have i1 : (k : Int) < (m : Int) := by omega
      obtain ⟨y, hy⟩ : ∃ y : Nat, (y : Int) = x.kind % 6 := ⟨(x.kind % 6).toNat, by omega⟩
      have hy6 : y < 6 := by omega
      have HY := Lib.hid hy
      have hps : ps.length ≤ 60 := by have := hI2.out.n; omega
      have hroom : ¬ (r.lim < (r.bs.length : Int) + (sz y : Nat)) := by
        rw [hI2.out.lim, hI2.out.bs]
        have := flat_le ps
        have := (sz_bd y).2
        simp; omega
      have HR := Lib.hid hroom
      clear hx hy hc0 hroom
      have hcase : y = 5 ∨ y < 5 ∧ x.n < 256 ^ sz y ∨ y < 5 ∧ 256 ^ sz y ≤ x.n := by omega
      have hqq : (y : Int).toNat = y := by omega
      rcases hcase with hy5 | ⟨hy5, hfit⟩ | ⟨hy5, hfit⟩
      case' inl =>
        have HF := Lib.hid (show x.n < 256 ^ sz y by rw [hy5]; exact hxn)
        have HOK := Lib.hid (show putEnd r x.n (sz y) = .ok by unfold putEnd; rw [if_neg (by have := HF.out; omega), if_neg HR.out])
        have hq3 : ((y : Int) == 5) = true := by simp; omega
        have hq4 : decide ((y : Int) = 5) = true := by simp; omega
        clear hy5
        go_upto_region 15 with (go_at_call 11; refine (pick_val x.kind 6 y HY.out.symm _ (by omega) (by omega)).mono ?_; rintro e w' ⟨rfl, rfl⟩)
        go_quiet (fail)
        have HW := Lib.hid (hI2.out.later (below_drewN (Below.refl wr.heap.size wr) nq))
        have hcn5 : (wr.drewN nq).cell? ⟨b0, o0 + k * 4 + 2, none⟩ = some (.int .u64 x.n) := hcn
        obtain ⟨wz, hwz⟩ : ∃ wz, wr.drewN nq = wz := ⟨_, rfl⟩
        rw [hwz] at HW hcn5 ⊢
        clear hwz hq3 hq4
      case' inr.inl =>
        have HF := Lib.hid hfit
        have HOK := Lib.hid (show putEnd r x.n (sz y) = .ok by unfold putEnd; rw [if_neg (by have := HF.out; omega), if_neg HR.out])
        have hq0 : (x.n : Int) / 2 ^ (8 * sz y) = 0 := shr_zero hfit
      case' inr.inr =>
        have hq8' : sz y < 8 := by have hc : y = 0 ∨ y = 1 ∨ y = 2 ∨ y = 3 ∨ y = 4 := by omega
                                   rcases hc with rfl | rfl | rfl | rfl | rfl <;> simp [sz]
        have HF := Lib.hid hfit
        have HOK := Lib.hid (show putEnd r x.n (sz y) = .range by unfold putEnd; rw [if_pos ⟨hq8', hfit⟩])
        have hq0 : ((x.n : Int) / 2 ^ (8 * sz y) == 0) = false := by have := shr_more hfit; simpa using this
      case' inr.inl | inr.inr =>
        have hq1 := (sz_bd y).1
        have hq2 := (sz_bd y).2
        have hq3 : ((y : Int) == 5) = false := by simp; omega
        have hq4 : decide ((y : Int) = 5) = false := by simp; omega
        have hq5 : IntKind.i64.wrap (8 * ((sz y : Nat) : Int)) = 8 * ((sz y : Nat) : Int) := IntWalk.i64_in _ (by omega)
        have hq6 : (0 : Int) ≤ 8 * ((sz y : Nat) : Int) := by omega
        have hq7 : (8 * ((sz y : Nat) : Int)).toNat = 8 * sz y := by omega
        have hq8 : (0 : Int) ≤ (y : Int) := by omega
        have hq9 : (y : Int) < 6 := by omega
        clear hfit
        go_upto_region 15 with (go_at_call 11; refine (pick_val x.kind 6 y HY.out.symm _ (by omega) (by omega)).mono ?_; rintro e w' ⟨rfl, rfl⟩)
        refine wp_region_held_drew (S := fun w' => w'.cell? ⟨b0, o0 + k * 4 + 2, none⟩ = some (.int .u64 x.n)) (by kernel_rfl) hcn (fun hHeld => ?_)
        (refine take_list (i := 0) (v := ?_) rfl (by kernel_rfl) (by kernel_rfl) (by kernel_rfl) (fun _ _ _ h => h) (Or.inl ⟨by rfl, ?_⟩) (by assumption) ?_; rotate_left; (focus (intro w hSw; (try dsimp only at hSw); go_simp; (try with_reducible rfl))); (try simp only [Act.put, List.setIfInBounds_toArray, List.set_cons_zero, List.set_cons_succ]))
        (refine take_list (i := 1) (v := ?_) rfl (by kernel_rfl) (by kernel_rfl) (by kernel_rfl) (fun _ _ _ h => h) (Or.inl ⟨by rfl, ?_⟩) (by assumption) ?_; rotate_left; (focus (intro w hSw; (try dsimp only at hSw); go_simp; (try with_reducible rfl))); (try simp only [Act.put, List.setIfInBounds_toArray, List.set_cons_zero, List.set_cons_succ]))
        (refine take_list (i := 2) (v := ?_) rfl (by kernel_rfl) (by kernel_rfl) (by kernel_rfl) (fun _ _ _ h => h) (Or.inl ⟨by rfl, ?_⟩) (by assumption) ?_; rotate_left; (focus (intro w hSw; (try dsimp only at hSw); go_simp; (try with_reducible rfl))); (try simp only [Act.put, List.setIfInBounds_toArray, List.set_cons_zero, List.set_cons_succ]))
        (refine take_list (i := 3) (v := ?_) rfl (by kernel_rfl) (by kernel_rfl) (by kernel_rfl) (fun _ _ _ h => h) (Or.inl ⟨by rfl, ?_⟩) (by assumption) ?_; rotate_left; (focus (intro w hSw; (try dsimp only at hSw); go_simp; (try with_reducible rfl))); (try simp only [Act.put, List.setIfInBounds_toArray, List.set_cons_zero, List.set_cons_succ]))
        (refine take_list (i := 4) (v := ?_) rfl (by kernel_rfl) (by kernel_rfl) (by kernel_rfl) (fun _ _ _ h => h) (Or.inl ⟨by rfl, ?_⟩) (by assumption) ?_; rotate_left; (focus (intro w hSw; (try dsimp only at hSw); go_simp; (try with_reducible rfl))); (try simp only [Act.put, List.setIfInBounds_toArray, List.set_cons_zero, List.set_cons_succ]))
        (refine take_list (i := 5) (v := ?_) rfl (by kernel_rfl) (by kernel_rfl) (by kernel_rfl) (fun _ _ _ h => h) (Or.inl ⟨by rfl, ?_⟩) (by assumption) ?_; rotate_left; (focus (intro w hSw; (try dsimp only at hSw); go_simp; (try with_reducible rfl))); (try simp only [Act.put, List.setIfInBounds_toArray, List.set_cons_zero, List.set_cons_succ]))
        (refine take_list (i := 6) (v := ?_) rfl (by kernel_rfl) (by kernel_rfl) (by kernel_rfl) (fun _ _ _ h => h) (Or.inl ⟨by rfl, ?_⟩) (by assumption) ?_; rotate_left; (focus (intro w hSw; (try dsimp only at hSw); go_simp; (try with_reducible rfl))); (try simp only [Act.put, List.setIfInBounds_toArray, List.set_cons_zero, List.set_cons_succ]))
        (refine take_list (i := 7) (v := ?_) rfl (by kernel_rfl) (by kernel_rfl) (by kernel_rfl) (fun _ _ _ h => h) (Or.inl ⟨by rfl, ?_⟩) (by assumption) ?_; rotate_left; (focus (intro w hSw; (try dsimp only at hSw); go_simp; (try with_reducible rfl))); (try simp only [Act.put, List.setIfInBounds_toArray, List.set_cons_zero, List.set_cons_succ]))
        (refine take_list (i := 9) (v := ?_) rfl (by kernel_rfl) (by kernel_rfl) (by kernel_rfl) (fun _ _ _ h => h) (Or.inl ⟨by rfl, ?_⟩) (by assumption) ?_; rotate_left; (focus (intro w hSw; (try dsimp only at hSw); go_simp; (try with_reducible rfl))); (try simp only [Act.put, List.setIfInBounds_toArray, List.set_cons_zero, List.set_cons_succ]))
        refine wpAnyH_ready (rs := [8]) (by kernel_rfl) (by simp) ?_
        refine AllReadyH.cons rfl (fun K hK => ?_) AllReadyH.nil
        go_simp
        go_at_call 24
        refine (sizes_any _).mono ?_
        rintro e w5 ⟨H, rfl, hHl, hH, hb5⟩
        have hHc := hH y hy6
        have HB5 := Lib.hid hb5
        have hcn5 : w5.cell? ⟨b0, o0 + k * 4 + 2, none⟩ = some (.int .u64 x.n) := (hb5.cell (p := ⟨b0, o0 + k * 4 + 2, none⟩) hb0).trans hcn
        clear hb5 hH
        refine hK.out _ _ hcn5 (fun hHeld => ?_)
        clear hK K
        try simp only [Act.put, List.setIfInBounds_toArray, List.set_cons_zero, List.set_cons_succ]
        (refine take_list (i := 10) (v := ?_) rfl (by kernel_rfl) (by kernel_rfl) (by kernel_rfl) (fun _ _ _ h => h) (Or.inl ⟨by rfl, ?_⟩) (by assumption) ?_; rotate_left; (focus (intro w hSw; (try dsimp only at hSw); go_simp; (try with_reducible rfl))); (try simp only [Act.put, List.setIfInBounds_toArray, List.set_cons_zero, List.set_cons_succ]))
        refine wpAnyH_ready (rs := [11]) (by kernel_rfl) (by simp) ?_
        refine AllReadyH.cons rfl (fun K hK => ?_) AllReadyH.nil
        go_simp
        refine hK.out _ _ hcn5 (fun hHeld => ?_)
        clear hK K
        try simp only [Act.put, List.setIfInBounds_toArray, List.set_cons_zero, List.set_cons_succ]
        (refine take_list (i := 12) (v := ?_) rfl (by kernel_rfl) (by kernel_rfl) (by kernel_rfl) (fun _ _ _ h => h) (Or.inl ⟨by rfl, ?_⟩) (by assumption) ?_; rotate_left; (focus (intro w hSw; (try dsimp only at hSw); go_simp; (try with_reducible rfl))); (try simp only [Act.put, List.setIfInBounds_toArray, List.set_cons_zero, List.set_cons_succ]))
        (refine take_list (i := 13) (v := ?_) rfl (by kernel_rfl) (by kernel_rfl) (by kernel_rfl) (fun _ _ _ h => h) (Or.inl ⟨by rfl, ?_⟩) (by assumption) ?_; rotate_left; (focus (intro w hSw; (try dsimp only at hSw); go_simp; (try with_reducible rfl))); (try simp only [Act.put, List.setIfInBounds_toArray, List.set_cons_zero, List.set_cons_succ]))
        (refine take_list (i := 14) (v := ?_) rfl (by kernel_rfl) (by kernel_rfl) (by kernel_rfl) (fun _ _ _ h => h) (Or.inl ⟨by rfl, ?_⟩) (by assumption) ?_; rotate_left; (focus (intro w hSw; (try dsimp only at hSw); go_simp; (try with_reducible rfl))); (try simp only [Act.put, List.setIfInBounds_toArray, List.set_cons_zero, List.set_cons_succ]))
        (refine take_list (i := 15) (v := ?_) rfl (by kernel_rfl) (by kernel_rfl) (by kernel_rfl) (fun _ _ _ h => h) (Or.inl ⟨by rfl, ?_⟩) (by assumption) ?_; rotate_left; (focus (intro w hSw; (try dsimp only at hSw); go_simp; (try with_reducible rfl))); (try simp only [Act.put, List.setIfInBounds_toArray, List.set_cons_zero, List.set_cons_succ]))
        (refine take_list (i := 16) (v := ?_) rfl (by kernel_rfl) (by kernel_rfl) (by kernel_rfl) (fun _ _ _ h => h) (Or.inl ⟨by rfl, ?_⟩) (by assumption) ?_; rotate_left; (focus (intro w hSw; (try dsimp only at hSw); go_simp; (try with_reducible rfl))); (try simp only [Act.put, List.setIfInBounds_toArray, List.set_cons_zero, List.set_cons_succ]))
        refine wpAnyH_done (by kernel_rfl) ?_ _
        have HW := Lib.hid (hI2.out.later (w' := w5) ((Below.refl wr.heap.size wr).drew.trans HB5.out))
        obtain ⟨wz, hwz⟩ : ∃ wz, w5 = wz := ⟨_, rfl⟩
        rw [hwz] at HW hcn5 ⊢
        clear hwz hq0 hq1 hq2 hq3 hq4 hq5 hq6 hq7 hq8 hq9 hHc hHl HB5 hHeld
      case inr.inr =>
        clear hq8'
        go_wp2_with (first
          | (go_at_call 32; refine (lput_any y hy6 r B g _ x.n HW.out.wr HW.out.Bw).mono ?_; rintro e w6 hp; obtain ⟨rfl, hw⟩ := put_range_of hp HOK.out; obtain ⟨r6, hm⟩ := HW.out.none hw; have HM := Lib.hid hm.next; clear hp hw hm))
        go_roundw
        case rel => exact ⟨k + 1, r6, ps, by omega, by go_num, HM⟩
        case measure => simp [intOf]; omega
      all_goals
        have HOUT := Lib.hid (show b0 < B ∧ b0 < wz.heap.size from ⟨Nat.lt_of_lt_of_le hbW HW.out.WB, Nat.lt_of_lt_of_le hbW (Nat.le_trans HW.out.WB HW.out.Bw)⟩)
        go_upto_region 19 with (first
          | (go_at_call 32; refine (lput_any y hy6 r B g _ x.n HW.out.wr HW.out.Bw).mono ?_; rintro e w6 hp; obtain ⟨rfl, hw⟩ := put_ok_of hp HOK.out; obtain ⟨r6, hm⟩ := HW.out.wrote hw hy6 HF.out; have HM := Lib.hid hm; have hcn6 : w6.cell? ⟨b0, o0 + k * 4 + 2, none⟩ = some (.int .u64 x.n) := (hw.cell HW.out.wr HOUT.out.1 HOUT.out.2).trans hcn5; clear hp hw hm))
        have hBw6 : B ≤ w6.heap.size := HM.out.Bw
        have hbB : b0 < B := HOUT.out.1
        have HN7 := Lib.hid (show some b0 ≠ u7.ownBlock from fun h => by have := (owns_block HM.out.o7 b0 h.symm).1; omega)
        have HN8 := Lib.hid (show some b0 ≠ u8.ownBlock from fun h => by have := (owns_block HM.out.o8 b0 h.symm).1; omega)
        have HL7 := Lib.hid (fun k (h : u7.ownBlock = some k) => (owns_block HM.out.o7 k h).2)
        have HL8 := Lib.hid (fun k (h : u8.ownBlock = some k) => (owns_block HM.out.o8 k h).2)
        have HT := Lib.hid HM.out.two
        obtain ⟨i7, hi7, hz70, hz71, hz72⟩ := info_parts info_int
        obtain ⟨i8, hi8, hz80, hz81, hz82⟩ := info_parts info_u64
        clear hcn5 hb0
        go_region_held3 (fun w' => w'.cell? ⟨b0, o0 + k * 4 + 2, none⟩ = some (.int .u64 x.n)) (first | (go_keep; done) | assumption)
          (first
            | (refine step_append_lies _ (by rfl) _ _ _ (by rfl) B 3 i7 _ 1 8 Try.underlying23 hi7 hz70 hz71 hz72 rfl (by omega) u7 ps.length (ps.map fun p => .int .i64 p.1) (by rfl) (by exact (HT.out.below (by repeat (first | exact Below.refl _ _ | refine Below.drew ?_ | refine Below.alloc ?_ (by simp) _))).o7) _ 1 1 [Value.int .i64 y] (by rfl) (by rfl) (World.news_of_block (cs := #[_]) (t := 3) (fr := (0, 0)) (by (try simp only [heap_drew]); first | exact heap_here (by simp) | exact (Below.heap_alloc _ _ _ (by simp)).trans (heap_here rfl) | exact HK.out _ _ (by (try simp only [heap_drew]); first | exact heap_here (by simp) | exact (Below.heap_alloc _ _ _ (by simp)).trans (heap_here rfl)) (by first | exact fun h => absurd (HL7.out _ h.symm) (by omega) | exact fun h => absurd (HL8.out _ h.symm) (by omega)))) (by intro u hu; simp at hu; subst hu; rfl) (by omega) (by simp only [maxLen]; omega) (by omega) (by have := HT.out.on.size; simp; omega) _ rfl ?_; intro g7 c7 w7 ho hg hat hlt7; have hcn6 : w7.cell? ⟨b0, o0 + k * 4 + 2, none⟩ = some (.int .u64 x.n) := (hg.cell_far ⟨b0, o0 + k * 4 + 2, none⟩ (by have := HT.out.on.size; simp; omega) HN7.out).trans ((Below.cell (p := ⟨b0, o0 + k * 4 + 2, none⟩) (B := b0 + 1) (by repeat (first | exact Below.refl _ _ | refine Below.drew ?_ | refine Below.alloc ?_ (by have := HT.out.on.size; simp; omega) _)) (Nat.lt_succ_self b0)).trans hcn6); have HT := Lib.hid ((HT.out.below (by repeat (first | exact Below.refl _ _ | refine Below.drew ?_ | refine Below.alloc ?_ (by simp) _))).app7 ho hg (fun k hk => by simp [Value.ownBlock] at hk; subst hk; rcases hat with h | h; exact .inl h; exact .inr (Nat.le_of_eq h.symm))); have HK := Lib.hid (grown_keeps hg); clear ho hg hat hlt7)
            | (refine step_append_lies _ (by rfl) _ _ _ (by rfl) B 31 i8 _ 1 8 Try.underlying74 hi8 hz80 hz81 hz82 rfl (by omega) u8 ps.length (ps.map fun p => .int .u64 p.2) (by rfl) (by exact (HT.out.below (by repeat (first | exact Below.refl _ _ | refine Below.drew ?_ | refine Below.alloc ?_ (by simp) _))).o8) _ 1 1 [Value.int .u64 x.n] (by rfl) (by rfl) (World.news_of_block (cs := #[_]) (t := 31) (fr := (0, 0)) (by (try simp only [heap_drew]); first | exact heap_here (by simp) | exact (Below.heap_alloc _ _ _ (by simp)).trans (heap_here rfl) | exact HK.out _ _ (by (try simp only [heap_drew]); first | exact heap_here (by simp) | exact (Below.heap_alloc _ _ _ (by simp)).trans (heap_here rfl)) (by first | exact fun h => absurd (HL7.out _ h.symm) (by omega) | exact fun h => absurd (HL8.out _ h.symm) (by omega)))) (by intro u hu; simp at hu; subst hu; rfl) (by omega) (by simp only [maxLen]; omega) (by omega) (by have := HT.out.on.size; simp; omega) _ rfl ?_; intro g8 c8 w8 ho hg hat hlt8; have hcn6 : w8.cell? ⟨b0, o0 + k * 4 + 2, none⟩ = some (.int .u64 x.n) := (hg.cell_far ⟨b0, o0 + k * 4 + 2, none⟩ (by have := HT.out.on.size; simp; omega) HN8.out).trans ((Below.cell (p := ⟨b0, o0 + k * 4 + 2, none⟩) (B := b0 + 1) (by repeat (first | exact Below.refl _ _ | refine Below.drew ?_ | refine Below.alloc ?_ (by have := HT.out.on.size; simp; omega) _)) (Nat.lt_succ_self b0)).trans hcn6); have HT := Lib.hid ((HT.out.below (by repeat (first | exact Below.refl _ _ | refine Below.drew ?_ | refine Below.alloc ?_ (by simp) _))).app8 ho hg (fun k hk => by simp [Value.ownBlock] at hk; subst hk; rcases hat with h | h; exact .inl h; exact .inr (Nat.le_of_eq h.symm))); have HK := Lib.hid (grown_keeps hg); clear ho hg hat hlt8))
        all_goals
          have HZ := Lib.hid (HM.out.done HT.out)
          clear HT HK HL7 HL8 HN7 HN8 HM hcn6 hi7 hz70 hz71 hz72 hi8 hz80 hz81 hz82
          go_wp2_with fail
          go_roundw
          case rel => exact ⟨k + 1, r6, ps ++ [(y, x.n)], by omega, by go_num, HZ⟩
          case measure => simp [intOf]; omega
    · obtain rfl : k = m := by omega
      obtain ⟨A7, c7, rfl, hc7, hm7, _, _⟩ := held_of_owns hI2.out.o7
      obtain ⟨A8, c8, rfl, hc8, hm8, _, _⟩ := held_of_owns hI2.out.o8
      have hpl := hI2.out.n
      have HOKS := Lib.hid hI2.out.ok
      have hfl := flat_le ps
      have hL : (flat ps).length < 65536 := by omega
      have hlen : r.bs.length = (flat ps).length + 2 := by rw [hI2.out.bs]; simp
      have hgap : r.gap 0 ≤ 65535 := by unfold Wr.gap; omega
      go_wp2_with (go_at_call 38; refine Hid.out ?_)
      refine Lib.hid ?_
      refine (Patch_open r B g 0 _ hI2.out.wr (by omega) hI2.out.has hgap hI2.out.Bw).mono ?_
      rintro e w4 ⟨rfl, hat4, ho4⟩
      have hbs4 : (r.patched 0).bs = be (flat ps).length 2 ++ flat ps := patched_bs hI2.out.bs
      obtain ⟨r4, hr4⟩ : ∃ r4, r.patched 0 = r4 := ⟨_, rfl⟩
      rw [hr4] at hat4 hbs4
      have h4 : Below W.heap.size W w4 := ho4.below hI2.out.below hI2.out.below.size (fun x hx => Nat.le_trans hI2.out.WB (hI2.out.wr.low x hx))
      have h47 := owns_only hI2.out.o7 ho4 hI2.out.free7
      have h48 := owns_only hI2.out.o8 ho4 hI2.out.free8
      have hWB := hI2.out.WB
      have hBw4 : B ≤ w4.heap.size := Nat.le_trans hI2.out.Bw ho4.size
      have hn4 : r4.bs.length = (flat ps).length + 2 := by rw [hbs4]; simp [be_len]; omega
      obtain ⟨L, hLe⟩ : ∃ L, (flat ps).length = L := ⟨_, rfl⟩
      have HAT := Lib.hid hat4
      have HBW := Lib.hid h4
      have H47 := Lib.hid h47
      have H48 := Lib.hid h48
      have HBS := Lib.hid hbs4
      have HN := Lib.hid hn4
      have HLE := Lib.hid hLe
      clear hat4 h4 h47 h48 hbs4 hr4 ho4 hgap hlen hI2 hn4 hLe
      go_wp2_with (first
        | (go_at_call 40; refine (Out_any r4 B g _ HAT.out).mono ?_; rintro e w5 ⟨v5, rfl, hown5, hb5⟩; obtain ⟨A5, c5, rfl, hc5, hby5, _⟩ := isby_of_owns hown5; have HBY5 := Lib.hid hby5; have HB5 := Lib.hid hb5; clear hown5 hby5 hb5)
        | (go_at_call 10; refine (NewReader_any A5 _ c5 r4.bs _ HBY5.out (by have := HN.out; omega)).mono ?_; rintro e w6 ⟨gr, b6, rfl, hnew⟩; have HNEW := Lib.hid hnew; clear hnew)
        | (go_at_call 42; refine Hid.out ?_))
      refine Lib.hid ?_
      have hC : CInv W w6 B g gr r4 b6 (.slice A7 ps.length c7) (.slice A8 ps.length c8) ps ⟨0, r4.bs.length, b6, 0, 0⟩ := by
        have hb6 : Below w4.heap.size w4 w6 := HB5.out.trans (HNEW.out.below.mono HB5.out.size)
        exact ⟨HBW.out.trans (hb6.mono HBW.out.size), hWB, HAT.out.below hb6, owns_below H47.out hb6, owns_below H48.out hb6, HNEW.out.rd, HNEW.out.ok, HNEW.out.by', by have := HB5.out.size; have := HNEW.out.new; omega⟩
      have HC := Lib.hid hC
      clear hC HNEW HB5 HBY5 H47 H48 HAT HBW
      have hU := RU_any 42 2 ⟨0, r4.bs.length, b6, 0, 0⟩ r4.bs gr w6 HC.out.rd HC.out.ok HC.out.by' (.inr (.inl ⟨rfl, rfl⟩))
      have hnum : Rd.num ⟨0, r4.bs.length, b6, 0, 0⟩ r4.bs 2 = L := by
        have := num_head (n := r4.bs.length) (b := b6) hL HN.out
        rw [← HBS.out, HLE.out] at this
        exact this
      have hpast : Rd.past ⟨0, r4.bs.length, b6, 0, 0⟩ ((2 : Nat) : Int) = rdOf b6 ps r4.bs 0 := by
        unfold Rd.past rdOf
        rw [if_neg (by simp), if_pos ⟨by simp, by have := HN.out; simp; omega⟩]
        simp [flat]
      rw [hnum, hpast] at hU
      refine hU.mono ?_
      rintro e w7 ⟨rfl, ht⟩
      have hok0 : (rdOf b6 ps r4.bs 0).ok := ⟨by have := HN.out; simp [rdOf, flat]; omega, HC.out.ok.en, HC.out.ok.nc, HC.out.ok.small⟩
      have HC7 := Lib.hid (HC.out.turn ht hok0 rfl)
      have hLw : IntKind.i64.wrap (L : Int) = L := IntWalk.i64_in _ (by have := HLE.out; omega)
      clear hU hnum hpast ht hok0 HC
      have HLV := Lib.hid (show (((rdOf b6 ps r4.bs 0).e : Int) - (rdOf b6 ps r4.bs 0).p = (L : Int)) from by have := HN.out; have := HLE.out; simp [rdOf, flat]; omega)
      go_wp2_with (go_at_call 12; refine (Left_val _ L HLV.out gr _ HC7.out.rd HC7.out.ok).mono ?_; rintro e w8 ⟨rfl, hb8⟩; have HC8 := Lib.hid (HC7.out.later hb8); clear hb8)
      go_loopw [13] (fun i wr => ∃ j : Nat, j ≤ ps.length ∧ i = .int .i64 j ∧ Hid (CInv W wr B g gr r4 b6 (.slice A7 ps.length c7) (.slice A8 ps.length c8) ps (rdOf b6 ps r4.bs j))) (fun i _ => ps.length - (intOf i).toNat)
      case atStart => exact ⟨0, by omega, rfl, HC8⟩
      case round =>
        obtain ⟨j, hj, rfl, hD⟩ := hrel
        by_cases hjl : j < ps.length
        · obtain ⟨⟨y, nn⟩, hp⟩ : ∃ p, ps[j]? = some p := ⟨ps[j]'hjl, List.getElem?_eq_getElem _⟩
          obtain ⟨hy6, hnn⟩ := HOKS.out (y, nn) (List.mem_of_getElem? hp)
          simp only at hy6 hnn
          obtain ⟨k7, cc7, hv7, _, _⟩ := hD.out.o7.form (by omega)
          obtain ⟨k8, cc8, hv8, _, _⟩ := hD.out.o8.form (by omega)
          simp at hv7 hv8
          obtain ⟨rfl, rfl⟩ := hv7
          obtain ⟨rfl, rfl⟩ := hv8
          have hD2 := hD.out.later (w' := wr.drew) (Below.refl _ _).drew
          have e7 : (ps.map fun p => Value.int .i64 p.1)[j]? = some (.int .i64 y) := by rw [List.getElem?_map, hp]; rfl
          have e8 : (ps.map fun p => Value.int .u64 p.2)[j]? = some (.int .u64 nn) := by rw [List.getElem?_map, hp]; rfl
          have x7 := (hD.out.o7.cellAt j (by omega)).trans e7
          have x8 := (hD.out.o8.cellAt j (by omega)).trans e8
          have HD := Lib.hid hD2
          have HE7 := Lib.hid e7
          have HE8 := Lib.hid e8
          have hG := lget_any y hy6 (rdOf b6 ps r4.bs j) r4.bs gr wr.drew HD.out.rd HD.out.ok HD.out.by'
          have hnum : (rdOf b6 ps r4.bs j).num r4.bs (sz y) = nn := by rw [HBS.out]; exact num_at hp hnn
          have hpast : (rdOf b6 ps r4.bs j).past (sz y : Int) = rdOf b6 ps r4.bs (j + 1) := by rw [HBS.out]; exact past_at hp
          rw [hnum, hpast] at hG
          have HG := Lib.hid hG
          have hok1 : (rdOf b6 ps r4.bs (j + 1)).ok := by
            have h1 := hD.out.ok
            refine ⟨?_, h1.en, h1.nc, h1.small⟩
            have h2 := flat_take_le hp
            have h3 := HN.out
            simp only [rdOf]
            rw [flat_take hp, List.length_append, be_len]
            omega
          have HOK1 := Lib.hid hok1
          have j0 : (0 : Int) ≤ (j : Int) := by omega
          have j1 : (j : Int) < (ps.length : Int) := by omega
          clear hD2 e7 e8 hG hnum hpast hok1 hp hD
          go_upto_region 28 with fail
          go_region_held3 (fun w' => w'.cell? ⟨k7, j, none⟩ = some (.int .i64 y) ∧ w'.cell? ⟨k8, j, none⟩ = some (.int .u64 nn)) (first | (go_keep; done) | exact ⟨by assumption, by assumption⟩)
            (first | (go_at_call 22; refine HG.out.mono ?_; rintro e w9 ⟨rfl, ht⟩; have HD9 := Lib.hid (HD.out.turn ht HOK1.out rfl); have x79 := (HD9.out.o7.cellAt j (by omega)).trans HE7.out; have x89 := (HD9.out.o8.cellAt j (by omega)).trans HE8.out; clear ht))
          clear x7 x8 x79 x89 HG HE7 HE8
          go_wp2_with fail
          go_roundw
          case rel => exact ⟨j + 1, by omega, by go_num, HD9⟩
          case measure => simp [intOf]; omega
        · have hje : j = ps.length := by omega
          have hend : rdOf b6 ps r4.bs j = ⟨r4.bs.length, r4.bs.length, b6, 0, 0⟩ := by
            unfold rdOf
            rw [hje, List.take_of_length_le (Nat.le_refl _), HN.out]
            simp
            omega
          have hD2 := hD.out
          rw [hend] at hD2
          have HD := Lib.hid hD2
          have hbsn := HN.out
          clear hD2 hend hD
          go_wp2_with (first
            | (go_at_call 12; refine (Left_val _ 0 (by simp only; omega) gr _ HD.out.rd HD.out.ok).mono ?_; rintro e w9 ⟨rfl, hb9⟩; have HD9 := Lib.hid (HD.out.later hb9); clear hb9)
            | (go_at_call 18; refine (Fault_any _ gr _ HD9.out.rd).mono ?_; rintro e w10 ⟨rfl, hb10⟩; have HD10 := Lib.hid (HD9.out.later hb10); clear hb10)
            | (go_at_call 13; refine (At_any _ gr _ HD10.out.rd).mono ?_; rintro e w' ⟨rfl, rfl⟩)
            | (go_at_call 41; refine (Len_any r4 B g _ HD10.out.wr).mono ?_; rintro e w' ⟨rfl, rfl⟩))
          go_ret
          exact ⟨rfl, HD10.out.below⟩
end Go.Proofs.Ytfbakbfljpadlaa
