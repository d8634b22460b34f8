import Derived.Test.YtfbakbfljpadlaaRa
import Derived.Deep.RegionHeld3
import Derived.Deep.DrawnRows
/- The walk of WireReads. -/
namespace Go.Proofs.Ytfbakbfljpadlaa
open Go.RowKit
set_option linter.unusedSimpArgs false
set_option linter.unusedVariables false
attribute [local go_sem ↓] Go.wp_at_zero Go.wp_at_succ

set_option maxRecDepth 100000 in
set_option maxHeartbeats 2000000 in
theorem reads_any (A1 A2 : Option Addr) (n c m d : Nat) (bs : List UInt8) (l : List (Int × Int)) (W : World) (hb : IsBy W A1 n bs) (hl : Pairs .i64 .i64 W A2 m l) (hn : n ≤ 9223372036854775807) (hm2 : m ≤ 9223372036854775807) :
    Calls Try.prog 4 #[.slice A1 n c, .slice A2 m d] W fun e w' => e = .returned (.bool true) ∧ Below W.heap.size W w' := by
  have HB := Lib.hid hb
  have HL := Lib.hid hl
  have HN := Lib.hid hb.len
  clear hb hl
  by_cases hbig : n ≤ 400 ∧ m ≤ 60
  case neg =>
    by_cases h4 : n ≤ 400
    · have hm40 : 60 < m := by omega
      clear hbig
      go_enter Try.func4, Try.ntmps4
      go_wp2_with (go_at_call 9; refine (lives_any _).mono ?_; rintro e w1 ⟨rfl, hb1⟩)
      go_ret
      exact ⟨rfl, hb1⟩
    · have hn4 : 400 < n := by omega
      clear hbig h4
      go_enter Try.func4, Try.ntmps4
      go_wp2_with (go_at_call 9; refine (lives_any _).mono ?_; rintro e w1 ⟨rfl, hb1⟩)
      go_ret
      exact ⟨rfl, hb1⟩
  obtain ⟨hn4, hm4⟩ := hbig
  have hd1 : decide ((400 : Int) < (n : Int)) = false := by simp; omega
  have hd2 : decide ((60 : Int) < (m : Int)) = false := by simp; omega
  go_enter Try.func4, Try.ntmps4
  go_wp2_with (first
    | (go_at_call 9; refine (lives_any _).mono ?_; rintro e w1 ⟨rfl, hb1⟩; have HB1 := Lib.hid hb1; clear hb1)
    | (go_at_call 20; refine Hid.out ?_))
  refine Lib.hid ?_
  refine (Own_any A1 n c bs _ (HB.out.below HB1.out) (by omega)).mono ?_
  rintro e w2 ⟨v2, rfl, hown, hb2⟩
  obtain ⟨A3, c3, rfl, hc3, hby3, hA3⟩ := isby_of_owns hown
  have HO := Lib.hid hown
  have HBY3 := Lib.hid hby3
  have HB2 := Lib.hid (HB1.out.trans (hb2.mono HB1.out.size))
  have HW12 := Lib.hid hb2
  clear hown hby3 hb2 hA3
  go_wp2_with (go_at_call 10; refine Hid.out ?_)
  refine Lib.hid ?_
  refine (NewReader_any A3 n c3 bs _ HBY3.out (by omega)).mono ?_
  rintro e w3 ⟨g, b1, rfl, hnew⟩
  have HNEW := Lib.hid hnew
  have HB3 := Lib.hid (HB2.out.trans (hnew.below.mono HB2.out.size))
  clear hnew
  go_wp2_with (go_at_call 21; refine Hid.out ?_)
  refine Lib.hid ?_
  refine (NewReaderF_any A1 n c bs _ (HB.out.below HB3.out) (by omega)).mono ?_
  rintro e w4 ⟨h, b2, rfl, hh1, hh2, hh3, hh4, hh5, hh6⟩
  have hI : RInv W w4 g h g h ⟨0, n, b1, 0, 0⟩ ⟨0, n, b1, 0, 0⟩ b1 b2 bs := by
    have a1 := HNEW.out.new
    have a2 := HB2.out.size
    have a3 := HB3.out.size
    have ht : Twin w4 g h ⟨0, n, b1, 0, 0⟩ b1 b2 := ⟨HNEW.out.rd.below hh6, hh2, HNEW.out.ok, hh3⟩
    exact ⟨HB3.out.trans (hh6.mono a3), by omega, by omega, by omega, by omega, ht, ht, HNEW.out.by'.held.below hh6, hh4.held, HNEW.out.by'.len, hh4.len, .inl ⟨rfl, rfl, rfl⟩⟩
  have HI := Lib.hid hI
  have hown4 := owns_below (owns_below HO.out HNEW.out.below) hh6
  have hfr : (∀ k, (Value.slice A3 n c3).ownBlock = some k → W.heap.size ≤ k) ∧ (∀ k, (Value.slice A3 n c3).ownBlock = some k → ∀ blk off, b1.a = some ⟨blk, off, none⟩ → k ≠ blk) ∧ (∀ k, (Value.slice A3 n c3).ownBlock = some k → ∀ blk off, b2.a = some ⟨blk, off, none⟩ → k ≠ blk) ∧ (∀ k, (Value.slice A3 n c3).ownBlock = some k → k ≠ g ∧ k ≠ h) := by
    refine ⟨fun k hk => ?_, fun k hk blk off hb => ?_, fun k hk blk off hb => ?_, fun k hk => ⟨?_, ?_⟩⟩
    · have := (owns_block HO.out k hk).1
      have := HB1.out.size
      omega
    · have := (owns_block HO.out k hk).2
      have := HNEW.out.fresh blk off hb
      omega
    · have := (owns_block HO.out k hk).2
      have := hh5 blk off hb
      have := HNEW.out.below.size
      omega
    · have := (owns_block HO.out k hk).2
      have := HNEW.out.new
      omega
    · have := (owns_block HO.out k hk).2
      have := HNEW.out.below.size
      omega
  have HFR := Lib.hid hfr
  have HO4 := Lib.hid hown4
  clear hh1 hh2 hh3 hh4 hh5 hh6 hI hown4 hfr
  go_wp2_with fail
  go_loopw [8] (fun i wr => ∃ k : Nat, k ≤ n ∧ i = .int .i64 k ∧ Hid (RInv W wr g h g h ⟨0, n, b1, 0, 0⟩ ⟨0, n, b1, 0, 0⟩ b1 b2 bs) ∧ Hid (∃ xs, wr.ownsRow w1.heap.size 5 1 (.slice A3 n c3) n xs)) (fun i _ => n - (intOf i).toNat)
  case atStart => exact ⟨0, by omega, rfl, HI, _, HO4.out⟩
  case round =>
    obtain ⟨k, hk, rfl, hI2, hx⟩ := hrel
    by_cases hlt : k < n
    · obtain ⟨xs, hown⟩ := hx.out
      have hlen := hown.1
      obtain ⟨gI, hA3⟩ : ∃ gI, A3 = some ⟨gI, 0, none⟩ := by
        rcases hown.2 with ⟨_, h2⟩ | ⟨gI, cap, cur, h1, _⟩
        · omega
        · simp at h1
          exact ⟨gI, h1.1⟩
      subst hA3
      obtain ⟨u, hu⟩ : ∃ u, xs[k]? = some u := ⟨xs[k]'(by omega), List.getElem?_eq_getElem _⟩
      have hcell := (hown.cellAt k (by omega)).trans hu
      have hfz := hown.frozenAt k
      have hst := (hown.stored k (.int .u8 77)).1
      have hI3 := hI2.out.only (only_set wr gI k (.int .u8 77)) (fun x hx => by simp at hx; subst hx; exact HFR.out.1 _ rfl) (by simpa using Ne.symm (HFR.out.2.2.2 gI rfl).1) (by simpa using Ne.symm (HFR.out.2.2.2 gI rfl).2) (by simpa using Ne.symm (HFR.out.2.2.2 gI rfl).1) (by simpa using Ne.symm (HFR.out.2.2.2 gI rfl).2) (fun blk off hb => by simpa using Ne.symm (HFR.out.2.1 gI rfl blk off hb)) (fun blk off hb => by simpa using Ne.symm (HFR.out.2.2.1 gI rfl blk off hb))
      have HI3 := Lib.hid hI3
      have HST := Lib.hid (show ∃ xs, (wr.setCell ⟨gI, k, none⟩ (.int .u8 77)).ownsRow w1.heap.size 5 1 (.slice (some ⟨gI, 0, none⟩) n c3) n xs from ⟨_, hst⟩)
      clear hown hx hu hst hI3 hlen
      go_wp2_with fail
      go_roundw
      case rel => exact ⟨k + 1, by omega, by go_num, HI3, HST⟩
      case measure => simp [intOf]; omega
    · clear hx
      go_wp2_with fail
      go_loopw [9, 10, 11] (fun r o i wr => ∃ (k g2 h2 : Nat) (s1 s2 : Rd), k ≤ m ∧ r = .pointer (some ⟨g2, 0, none⟩) ∧ o = .pointer (some ⟨h2, 0, none⟩) ∧ i = .int .i64 k ∧ Hid (RInv W wr g h g2 h2 s1 s2 b1 b2 bs)) (fun _ _ i _ => m - (intOf i).toNat)
      case atStart => exact ⟨0, g, h, _, _, by omega, rfl, rfl, rfl, hI2⟩
      case round =>
        obtain ⟨j, g2, h2, s1, s2, hj, rfl, rfl, rfl, hI3⟩ := hrel
        by_cases hlt2 : j < m
        · obtain ⟨b0, o0, rfl, hb0, hc0⟩ := (HL.out.below hI3.out.below).2 (by omega)
          obtain ⟨x, hx⟩ : ∃ x, l[j]? = some x := ⟨l[j]'(by rw [HL.out.1]; exact hlt2), List.getElem?_eq_getElem _⟩
          obtain ⟨hcx, hcy⟩ := hc0 j x hx
          have hbW : b0 < W.heap.size := by obtain ⟨b', o', h1, h2, _⟩ := HL.out.2 (by omega); simp at h1; omega
          have i0 : (0 : Int) ≤ (j : Int) := by omega
          have i1 : (j : Int) < (m : Int) := by omega
          obtain ⟨y, hy⟩ : ∃ y : Nat, (y : Int) = x.1 % 11 := ⟨(x.1 % 11).toNat, by omega⟩
          have hy1 : y < 11 := by omega
          have HY := Lib.hid hy
          clear hx hy hc0
          have hcase : y < 6 ∨ y = 6 ∨ y = 7 ∨ y = 8 ∨ y = 9 ∨ y = 10 := by omega
          rcases hcase with hy6 | rfl | rfl | rfl | rfl | rfl
          case' inl =>
            go_wp2_with (first
              | (go_at_call 11; refine (pick_val x.1 11 y HY.out.symm _ (by omega) (by omega)).mono ?_; rintro e w' ⟨rfl, rfl⟩)
              | (go_at_call 22; refine (lget_any y hy6 (s2.on b1) bs g2 _ hI3.out.t2.rd hI3.out.t2.ok1 hI3.out.bys1).mono ?_; rintro e w5 ⟨rfl, ht⟩; rw [Rd.on_past] at ht; have HM := Lib.hid (hI3.out.mid ht); clear ht)
              | (go_at_call 24; refine (sizes_any _).mono ?_; rintro e w6 ⟨H, rfl, hHl, hH, hb6⟩; have hHc := hH y hy6; have HM2 := Lib.hid (HM.out.later hb6); clear hb6 hH)
              | (go_at_call 23; refine Hid.out ?_))
            refine Lib.hid ?_
            refine (GetF_any (s2.on b2) bs (sz y) h2 _ HM2.out.rf hI3.out.t2.ok2 HM2.out.bys (sz_bd y).1 (sz_bd y).2).mono ?_
            rintro e wz ⟨rfl, ht⟩
            rw [Rd.on_past] at ht
            obtain ⟨s1', hz⟩ := HM2.out.done ht (Rd.past_len _ hI3.out.len)
            have HZ := Lib.hid hz
            clear hz ht
            obtain ⟨g3, hg3⟩ : ∃ g3, g2 = g3 := ⟨_, rfl⟩
            obtain ⟨h3, hh3⟩ : ∃ h3, h2 = h3 := ⟨_, rfl⟩
            obtain ⟨s3, hs3⟩ : ∃ s3, s2.past (sz y : Int) = s3 := ⟨_, rfl⟩
            rw [hg3, hh3, hs3] at HZ
            rw [hg3, hh3]
            clear hg3 hh3 hs3
          case' inr.inl =>
            have hID := Lib.hid (hI3.out.later (Below.refl wr.heap.size wr).drew)
            go_upto_region 20 with (go_at_call 11; refine (pick_val x.1 11 6 (by have := HY.out; omega) _ (by omega) (by omega)).mono ?_; rintro e w' ⟨rfl, rfl⟩)
            go_region_held3 (fun w' => w'.cell? ⟨b0, o0 + j * 2 + 1, none⟩ = some (.int .i64 x.2)) (first | (go_keep; done) | assumption)
              (first
                | (go_at_call 15; refine (Bytes_any (s2.on b1) bs x.2 g2 _ hID.out.t2.rd hID.out.t2.ok1 hID.out.bys1).mono ?_; rintro e w5 ⟨v5, rfl, hown5, ht5⟩; rw [Rd.on_past] at ht5; simp only [Rd.on_chunk] at hown5; obtain ⟨A5, c5, rfl, hc5, hby5, hfr5⟩ := isby_of_owns hown5; have HM := Lib.hid (hID.out.mid ht5); have HBY5 := Lib.hid hby5; have HF5 := Lib.hid hfr5; have hcy5 : w5.cell? ⟨b0, o0 + j * 2 + 1, none⟩ = some (.int .i64 x.2) := (World.cell?_of_block (w := wr) (ht5.1.block b0 hb0 (by have := hID.out.gW2; simp; omega))).trans hcy; clear hown5 ht5 hby5 hfr5)
                | (go_at_call 25; refine (BytesF_any (s2.on b2) bs x.2 h2 _ HM.out.rf hID.out.t2.ok2 HM.out.bys).mono ?_; rintro e w6 ⟨v6, rfl, hown6, ht6⟩; rw [Rd.on_past] at ht6; simp only [Rd.on_chunk] at hown6; obtain ⟨A6, c6, rfl, hc6, hby6, hfr6⟩ := isby_of_owns hown6; have HBY6 := Lib.hid hby6; have HBY56 := Lib.hid (HBY5.out.only ht6.1 (fun b off h => by have a1 := HF5.out b off h; have a2 := hI3.out.t2.rf.lt; have a3 : wr.drew.heap.size = wr.heap.size := rfl; simp; omega)); have HT6 := Lib.hid ht6; have hcy6 : w6.cell? ⟨b0, o0 + j * 2 + 1, none⟩ = some (.int .i64 x.2) := (World.cell?_of_block (w := w5) (ht6.1.block b0 (by have := HM.out.turn.1.size; have a3 : wr.drew.heap.size = wr.heap.size := rfl; omega) (by have := hID.out.hW2; simp; omega))).trans hcy5; clear hown6 ht6 hby6 hfr6)
                | (go_at_call 19; refine (Same_any A5 A6 _ _ c5 c6 (s2.chunk bs x.2) (s2.chunk bs x.2) _ HBY56.out HBY6.out (by have := s2.chunk_len bs x.2; have := HN.out; omega) (by have := s2.chunk_len bs x.2; have := HN.out; omega)).mono ?_; rintro e w7 ⟨rfl, hb7⟩; have HB7 := Lib.hid hb7; have hcy7 : w7.cell? ⟨b0, o0 + j * 2 + 1, none⟩ = some (.int .i64 x.2) := (hb7.cell (p := ⟨b0, o0 + j * 2 + 1, none⟩) (by show b0 < _; have := HM.out.turn.1.size; have := HT6.out.1.size; have a3 : wr.drew.heap.size = wr.heap.size := rfl; omega)).trans hcy6; clear hb7))
            obtain ⟨s1', hz⟩ := HM.out.done HT6.out (Rd.past_len _ hI3.out.len)
            have HZ := Lib.hid (hz.later HB7.out)
            clear hz
            obtain ⟨wz, hwz⟩ : ∃ wz, w7 = wz := ⟨_, rfl⟩
            obtain ⟨g3, hg3⟩ : ∃ g3, g2 = g3 := ⟨_, rfl⟩
            obtain ⟨h3, hh3⟩ : ∃ h3, h2 = h3 := ⟨_, rfl⟩
            obtain ⟨s3, hs3⟩ : ∃ s3, s2.past x.2 = s3 := ⟨_, rfl⟩
            rw [hwz, hg3, hh3, hs3] at HZ
            rw [hwz, hg3, hh3]
            clear hwz hg3 hh3 hs3 hcy5 hcy6 hcy7
          case' inr.inr.inl =>
            have hID := Lib.hid (hI3.out.later (Below.refl wr.heap.size wr).drew)
            go_upto_region 22 with (go_at_call 11; refine (pick_val x.1 11 7 (by have := HY.out; omega) _ (by omega) (by omega)).mono ?_; rintro e w' ⟨rfl, rfl⟩)
            go_region_held3 (fun w' => w'.cell? ⟨b0, o0 + j * 2 + 1, none⟩ = some (.int .i64 x.2)) (first | (go_keep; done) | assumption)
              (first
                | (go_at_call 14; refine (Sub_any (s2.on b1) x.2 g2 _ hID.out.t2.rd hID.out.t2.ok1).mono ?_; rintro e w5 ⟨g3, rfl, hg3, hsub5, ht5⟩; rw [Rd.on_past] at ht5; rw [Rd.on_sub] at hsub5; have HM := Lib.hid (hID.out.mid ht5); have HG3 := Lib.hid hg3; have HS5 := Lib.hid hsub5; have hcy5 : w5.cell? ⟨b0, o0 + j * 2 + 1, none⟩ = some (.int .i64 x.2) := (World.cell?_of_block (w := wr) (ht5.1.block b0 hb0 (by have := hID.out.gW2; simp; omega))).trans hcy; clear hg3 ht5 hsub5)
                | (go_at_call 26; refine (SubF_any (s2.on b2) x.2 h2 _ HM.out.rf hID.out.t2.ok2).mono ?_; rintro e w6 ⟨h3, rfl, hh3, hsub6, ht6⟩; rw [Rd.on_past] at ht6; rw [Rd.on_sub] at hsub6; have HS6 := Lib.hid hsub6; have HH3 := Lib.hid hh3; have HT6 := Lib.hid ht6; have hcy6 : w6.cell? ⟨b0, o0 + j * 2 + 1, none⟩ = some (.int .i64 x.2) := (World.cell?_of_block (w := w5) (ht6.1.block b0 (by have := HM.out.turn.1.size; have a3 : wr.drew.heap.size = wr.heap.size := rfl; omega) (by have := hID.out.hW2; simp; omega))).trans hcy5; clear hsub6 hh3 ht6))
            all_goals
              obtain ⟨s1', hz⟩ := HM.out.done HT6.out (Rd.past_len _ hI3.out.len)
              have hl3 := Rd.sub_len x.2 hI3.out.len
              have hnew := hz.new (g := g3) (h := h3) (s := s2.sub x.2) ⟨HS5.out.only HT6.out.1 (by have := HG3.out; have a2 := hI3.out.t2.rf.lt; have a3 : wr.drew.heap.size = wr.heap.size := rfl; simp; omega), HS6.out, ⟨hl3.2, by have := hI3.out.n1; simp only [Rd.on]; omega, hI3.out.t2.ok1.nc, hI3.out.t2.ok1.small⟩, ⟨hl3.2, by have := hI3.out.n2; simp only [Rd.on]; omega, hI3.out.t2.ok2.nc, hI3.out.t2.ok2.small⟩⟩
                (by have := HG3.out; have := hI3.out.below.size; have a3 : wr.drew.heap.size = wr.heap.size := rfl; omega) (by have := HH3.out; have := HM.out.turn.1.size; have := hI3.out.below.size; have a3 : wr.drew.heap.size = wr.heap.size := rfl; omega)
                (by have := HG3.out; have := hI3.out.t1.rd.lt; have a3 : wr.drew.heap.size = wr.heap.size := rfl; omega) (by have := HH3.out; have := HM.out.turn.1.size; have := hI3.out.t1.rf.lt; have a3 : wr.drew.heap.size = wr.heap.size := rfl; omega)
              have HZ := Lib.hid hnew
              clear hz hnew hl3
              obtain ⟨wz, hwz⟩ : ∃ wz, w6 = wz := ⟨_, rfl⟩
              obtain ⟨s3, hs3⟩ : ∃ s3, s2.sub x.2 = s3 := ⟨_, rfl⟩
              rw [hwz, hs3] at HZ
              rw [hwz]
              clear hwz hs3 hcy5 hcy6
          case inr.inr.inr.inl =>
            go_upto_region 28 with (go_at_call 11; refine (pick_val x.1 11 8 (by have := HY.out; omega) _ (by omega) (by omega)).mono ?_; rintro e w' ⟨rfl, rfl⟩)
            obtain ⟨wz, hwz⟩ : ∃ wz, wr = wz := ⟨_, rfl⟩
            obtain ⟨s1', s3, hI9⟩ : ∃ s1' s3, RInv W wr g h g h s1' s3 b1 b2 bs := ⟨s1, s1, hI3.out.first⟩
            rw [hwz] at hI9 ⊢
            have HZ := Lib.hid hI9
            clear hI9 hwz
            go_upto_region 28 with fail
            have hd1' := HZ.out.t2.rf.cell 1
            have hd3 := HZ.out.t2.rf.cell 3
            have hd4 := HZ.out.t2.rf.cell 4
            have hlt3 := HZ.out.t2.rf.lt
            simp [Rd.cs2, Rd.on] at hd1' hd3 hd4
            refine wp_region_grow (by kernel_rfl) (by kernel_rfl) ?_
            repeat (go_big_quiet_step ((first
              | (go_at_call 12; exact quiet_call1 (Left_val (s3.on b1) ((s3.e : Int) - s3.p) rfl g _ (HZ.out.t2.rd.below (ext_below _ _)) HZ.out.t2.ok1))
              | (go_at_call 28; exact quiet_call1 (show Calls _ _ _ _ fun e w' => e = .returned (.int .i64 ((s3.e : Int) - s3.p)) ∧ _ from LeftF_any (s3.on b2) h _ (HZ.out.t2.rf.below (ext_below _ _)) HZ.out.t2.ok2))
              | (go_at_call 13; exact quiet_call1 (show Calls _ _ _ _ fun e w' => e = .returned (.int .i64 (s3.p : Int)) ∧ Below _ _ w' from (At_any (s3.on b1) g _ (HZ.out.t2.rd.below (ext_below _ _))).mono fun e w' h => ⟨h.1, by rw [← h.2]; exact Below.refl _ _⟩))
              | (go_at_call 18; exact quiet_call1 (show Calls _ _ _ _ fun e w' => e = .returned (.agg #[.int .i64 s3.er, .int .i64 s3.fa]) ∧ _ from Fault_any (s3.on b1) g _ (HZ.out.t2.rd.below (ext_below _ _)))))))
            refine wpQuiet_nil ?_
            intro _ hw'
            obtain ⟨x1, rfl⟩ := hw'
            have HZ1 := Lib.hid (HZ.out.later (ext_below wz x1))
            clear hd1' hd3 hd4 hlt3
            go_wp2_with fail
            go_roundw
            case rel => exact ⟨j + 1, _, _, _, _, by omega, rfl, rfl, by go_num, HZ1⟩
            case measure => simp [intOf]; omega
          case' inr.inr.inr.inr.inr =>
            go_upto_region 28 with (go_at_call 11; refine (pick_val x.1 11 10 (by have := HY.out; omega) _ (by omega) (by omega)).mono ?_; rintro e w' ⟨rfl, rfl⟩)
            have hI8 := hI3.out
            obtain ⟨wz, hwz⟩ : ∃ wz, wr = wz := ⟨_, rfl⟩
            obtain ⟨s1', s3, g3, h3, hg3, hh3, hI9⟩ : ∃ s1' s3 g3 h3, g2 = g3 ∧ h2 = h3 ∧ RInv W wr g h g3 h3 s1' s3 b1 b2 bs := ⟨s1, s2, g2, h2, rfl, rfl, hI8⟩
            rw [hwz] at hI9 ⊢
            rw [hg3, hh3]
            have HZ := Lib.hid hI9
            clear hI8 hI9 hwz hg3 hh3
          case' inr.inr.inr.inr.inl =>
            go_upto_region 28 with (first
              | (go_at_call 11; refine (pick_val x.1 11 9 (by have := HY.out; omega) _ (by omega) (by omega)).mono ?_; rintro e w' ⟨rfl, rfl⟩)
              | (go_at_call 17; refine (Fail_any (s2.on b1) x.2 g2 _ hI3.out.t2.rd).mono ?_; rintro e w5 ⟨rfl, ht5⟩; rw [Rd.on_fail] at ht5; have HM := Lib.hid (hI3.out.mid ht5); have hcy5 : w5.cell? ⟨b0, o0 + j * 2 + 1, none⟩ = some (.int .i64 x.2) := (World.cell?_of_block (w := wr) (ht5.1.block b0 hb0 (by have := hI3.out.gW2; simp; omega))).trans hcy; clear ht5)
              | (go_at_call 27; refine (FailF_any (s2.on b2) x.2 h2 _ HM.out.rf).mono ?_; rintro e wz ⟨rfl, ht6⟩; rw [Rd.on_fail] at ht6; have HT6 := Lib.hid ht6; clear ht6))
            obtain ⟨s1', hz⟩ := HM.out.done HT6.out (Rd.fail_len _ hI3.out.len)
            obtain ⟨s3, g3, h3, hg3, hh3, hI9⟩ : ∃ s3 g3 h3, g2 = g3 ∧ h2 = h3 ∧ RInv W wz g h g3 h3 s1' s3 b1 b2 bs := ⟨_, g2, h2, rfl, rfl, hz⟩
            rw [hg3, hh3]
            have HZ := Lib.hid hI9
            clear hz hI9 hg3 hh3 hcy5
          all_goals
            go_upto_region 28 with fail
            have hd1' := HZ.out.t2.rf.cell 1
            have hd3 := HZ.out.t2.rf.cell 3
            have hd4 := HZ.out.t2.rf.cell 4
            have hlt3 := HZ.out.t2.rf.lt
            simp [Rd.cs2, Rd.on] at hd1' hd3 hd4
            refine wp_region_grow (by kernel_rfl) (by kernel_rfl) ?_
            repeat (go_big_quiet_step ((first
              | (go_at_call 12; exact quiet_call1 (Left_val (s3.on b1) ((s3.e : Int) - s3.p) rfl g3 _ (HZ.out.t2.rd.below (ext_below _ _)) HZ.out.t2.ok1))
              | (go_at_call 28; exact quiet_call1 (show Calls _ _ _ _ fun e w' => e = .returned (.int .i64 ((s3.e : Int) - s3.p)) ∧ _ from LeftF_any (s3.on b2) h3 _ (HZ.out.t2.rf.below (ext_below _ _)) HZ.out.t2.ok2))
              | (go_at_call 13; exact quiet_call1 (show Calls _ _ _ _ fun e w' => e = .returned (.int .i64 (s3.p : Int)) ∧ Below _ _ w' from (At_any (s3.on b1) g3 _ (HZ.out.t2.rd.below (ext_below _ _))).mono fun e w' h => ⟨h.1, by rw [← h.2]; exact Below.refl _ _⟩))
              | (go_at_call 18; exact quiet_call1 (show Calls _ _ _ _ fun e w' => e = .returned (.agg #[.int .i64 s3.er, .int .i64 s3.fa]) ∧ _ from Fault_any (s3.on b1) g3 _ (HZ.out.t2.rd.below (ext_below _ _)))))))
            refine wpQuiet_nil ?_
            intro _ hw'
            obtain ⟨x1, rfl⟩ := hw'
            have HZ1 := Lib.hid (HZ.out.later (ext_below wz x1))
            clear hd1' hd3 hd4 hlt3
            go_wp2_with fail
            go_roundw
            case rel => exact ⟨j + 1, _, _, _, _, by omega, rfl, rfl, by go_num, HZ1⟩
            case measure => simp [intOf]; omega
        · go_wp2_with fail
          go_ret
          exact ⟨rfl, hI3.out.below⟩
end Go.Proofs.Ytfbakbfljpadlaa
