import Derived.Test.YtfbakbfljpadlaaLi
/- The walk of WireSubs. -/
namespace Go.Proofs.Ytfbakbfljpadlaa
open Go.RowKit
set_option linter.unusedSimpArgs false
set_option linter.unusedVariables false

theorem Left_val (r : Rd) (v : Int) (hv : (r.e : Int) - r.p = v) (g : Nat) (W : World) (h : RdAt W g r) (hr : r.ok) : Calls Try.prog 12 #[.pointer (some ⟨g, 0, none⟩)] W fun e w' => e = .returned (.int .i64 v) ∧ Below W.heap.size W w' := by
  subst hv
  exact Left_any r g W h hr

/-- WireSubs, ahead of a round: the reader has read p bytes, and v holds them. -/
structure SubsInv (W wr : World) (B g n : Nat) (b : Sl) (bs : List UInt8) (p : Nat) (v : Value) : Prop where
  below : Below W.heap.size W wr
  low : W.heap.size ≤ B
  size : B ≤ wr.heap.size
  gB : g < B
  gW : W.heap.size ≤ g
  bB : ∀ blk off, b.a = some ⟨blk, off, none⟩ → blk < B
  pn : p ≤ n
  rd : RdAt wr g ⟨p, n, b, 0, 0⟩
  ok : Rd.ok ⟨p, n, b, 0, 0⟩
  by' : Bys wr ⟨p, n, b, 0, 0⟩ bs
  own : wr.ownsRow B 5 1 v p ((bs.take p).map byv)

theorem SubsInv.later {W wr w' : World} {B g n : Nat} {b : Sl} {bs : List UInt8} {p : Nat} {v : Value} (h : SubsInv W wr B g n b bs p v) (hb : Below wr.heap.size wr w') : SubsInv W w' B g n b bs p v :=
  ⟨h.below.trans (hb.mono h.below.size), h.low, Nat.le_trans h.size hb.size, h.gB, h.gW, h.bB, h.pn, h.rd.below hb, h.ok, h.by'.turned h.rd (Only.of_below hb _) rfl, owns_below h.own hb⟩
/-- The reader has gone on. -/
theorem SubsInv.turn {W wr w' : World} {B g n : Nat} {b : Sl} {bs : List UInt8} {p q : Nat} {v : Value} (h : SubsInv W wr B g n b bs p v) (ht : Turned g ⟨q, n, b, 0, 0⟩ wr w') (hq : q ≤ n) : Below W.heap.size W w' ∧ B ≤ w'.heap.size ∧ Rd.ok ⟨q, n, b, 0, 0⟩ ∧ Bys w' ⟨q, n, b, 0, 0⟩ bs ∧ w'.ownsRow B 5 1 v p ((bs.take p).map byv) :=
  ⟨ht.1.below h.below h.below.size (fun x hx => by simp at hx; subst hx; exact h.gW), Nat.le_trans h.size ht.1.size, ⟨hq, h.ok.en, h.ok.nc, h.ok.small⟩, h.by'.turned h.rd ht.1 rfl, owns_only h.own ht.1 (fun k hk => by have := (owns_block h.own k hk).1; have := h.gB; simp; omega)⟩

/-- Inside of a round: the reader has read p + q bytes, v holds p, and another reader in block g' is in the state s. -/
structure SubsTwo (W w : World) (B g g' n : Nat) (b : Sl) (bs : List UInt8) (p q : Nat) (s : Rd) (v : Value) : Prop where
  below : Below W.heap.size W w
  low : W.heap.size ≤ B
  size : B ≤ w.heap.size
  gB : g < B
  gW : W.heap.size ≤ g
  bB : ∀ blk off, b.a = some ⟨blk, off, none⟩ → blk < B
  pq : p + q ≤ n
  rd : RdAt w g ⟨p + q, n, b, 0, 0⟩
  ok : Rd.ok ⟨p + q, n, b, 0, 0⟩
  by' : Bys w ⟨p + q, n, b, 0, 0⟩ bs
  own : w.ownsRow B 5 1 v p ((bs.take p).map byv)
  gB' : B ≤ g'
  sub : RdAt w g' s
  sok : s.ok
  sby : Bys w s bs
theorem SubsTwo.later {W wr w' : World} {B g g' n : Nat} {b : Sl} {bs : List UInt8} {p q : Nat} {s : Rd} {v : Value} (h : SubsTwo W wr B g g' n b bs p q s v) (hb : Below wr.heap.size wr w') : SubsTwo W w' B g g' n b bs p q s v :=
  ⟨h.below.trans (hb.mono h.below.size), h.low, Nat.le_trans h.size hb.size, h.gB, h.gW, h.bB, h.pq, h.rd.below hb, h.ok, h.by'.turned h.rd (Only.of_below hb _) rfl, owns_below h.own hb, h.gB', h.sub.below hb, h.sok, h.sby.turned h.sub (Only.of_below hb _) rfl⟩
theorem row_apart {w : World} {B g : Nat} {v : Value} {k : Nat} {xs : List Value} {r : Rd} (h : w.ownsRow B 5 1 v k xs) (hr : RdAt w g r) : ∀ j, v.ownBlock = some j → j ≠ g := fun j hj => by
  rcases h.2 with ⟨h1, _⟩ | ⟨g', cap, cur, h1, hb, hh, _⟩
  · rw [h1] at hj; simp [Value.ownBlock] at hj
  · rw [h1] at hj
    simp [Value.ownBlock] at hj
    subst hj
    rintro rfl
    rw [show w.heap[g']? = _ from hr] at hh
    simp at hh
theorem SubsTwo.turn {W wr w' : World} {B g g' n : Nat} {b : Sl} {bs : List UInt8} {p q : Nat} {s s' : Rd} {v : Value} (h : SubsTwo W wr B g g' n b bs p q s v) (ht : Turned g' s' wr w') (hs : s'.ok) (hb : s'.b = s.b) : SubsTwo W w' B g g' n b bs p q s' v :=
  ⟨ht.1.below h.below h.below.size (fun x hx => by simp at hx; subst hx; exact Nat.le_trans h.low h.gB'), h.low, Nat.le_trans h.size ht.1.size, h.gB, h.gW, h.bB, h.pq, h.rd.only ht.1 (by have := h.gB; have := h.gB'; simp; omega), h.ok,
    ⟨held_turned h.sub h.by'.held ht.1, h.by'.len⟩, owns_only h.own ht.1 (fun k hk => by have := row_apart h.own h.sub k hk; simpa using this), h.gB', ht.2, hs, h.sby.turned h.sub ht.1 hb⟩

set_option maxRecDepth 100000 in
set_option maxHeartbeats 1000000 in
theorem subs_any (A1 A2 : Option Addr) (n c m d : Nat) (bs : List UInt8) (l : List Int) (W : World) (hb : IsBy W A1 n bs) (hl : Held W A2 (l.map (Value.int .i64))) (hm : l.length = m) (hn : n ≤ 9223372036854775807) (hm2 : m ≤ 9223372036854775807) :
    Calls Try.prog 3 #[.slice A1 n c, .slice A2 m d] W fun e w' => e = .returned (.bool true) ∧ Below W.heap.size W w' := by
  have HB := Lib.hid hb
  have HL := Lib.hid hl
  have HM := Lib.hid hm
  clear hb hl hm
  by_cases hbig : n ≤ 400 ∧ m ≤ 40
  case neg =>
    by_cases h4 : n ≤ 400
    · have hm40 : 40 < m := by omega
      clear hbig
      go_enter Try.func3, Try.ntmps3
      go_wp2_with (go_at_call 9; refine (lives_any _).mono ?_; rintro e w1 ⟨rfl, hb1⟩)
      go_ret
      exact ⟨rfl, hb1⟩
    · have hn4 : 400 < n := by omega
      clear hbig h4
      go_enter Try.func3, Try.ntmps3
      go_wp2_with (go_at_call 9; refine (lives_any _).mono ?_; rintro e w1 ⟨rfl, hb1⟩)
      go_ret
      exact ⟨rfl, hb1⟩
  obtain ⟨hn4, hm4⟩ := hbig
  have hd1 : decide ((400 : Int) < (n : Int)) = false := by simp; omega
  have hd2 : decide ((40 : Int) < (m : Int)) = false := by simp; omega
  go_enter Try.func3, Try.ntmps3
  go_wp2_with (first
    | (go_at_call 9; refine (lives_any _).mono ?_; rintro e w1 ⟨rfl, hb1⟩; have HB1 := Lib.hid hb1; clear hb1)
    | (go_at_call 10; refine Hid.out ?_))
  refine Lib.hid ?_
  refine (NewReader_any A1 n c bs _ (HB.out.below HB1.out) (by omega)).mono ?_
  rintro e w2 ⟨g, b, rfl, hnew⟩
  have hI : SubsInv W w2 w2.heap.size g n b bs 0 (.slice none 0 0) := by
    have hs := HB1.out.size
    refine ⟨HB1.out.trans (hnew.below.mono hs), ?_, Nat.le_refl _, hnew.rd.lt, ?_, hnew.old, Nat.zero_le _, hnew.rd, hnew.ok, hnew.by', ⟨by simp, .inl ⟨rfl, rfl⟩⟩⟩
    · have := hnew.below.size; omega
    · have := hnew.new; omega
  have HI := Lib.hid hI
  obtain ⟨B, hBe⟩ : ∃ B, w2.heap.size = B := ⟨_, rfl⟩
  rw [hBe] at HI
  clear hnew hI hBe
  go_wp2_with fail
  go_loopw [7, 6] (fun i v wr => ∃ k p : Nat, k ≤ m ∧ i = .int .i64 k ∧ Hid (SubsInv W wr B g n b bs p v)) (fun i _ _ => m - (intOf i).toNat)
  case atStart => exact ⟨0, 0, by omega, rfl, HI⟩
  case round =>
    obtain ⟨k, p, hk, rfl, hI2⟩ := hrel
    obtain ⟨A6, c6, rfl, hc6, hm6, _, _⟩ := held_of_owns hI2.out.own
    by_cases hlt : k < m
    · obtain ⟨x, hx⟩ : ∃ x, l[k]? = some x := ⟨l[k]'(by rw [HM.out]; exact hlt), List.getElem?_eq_getElem _⟩
      obtain ⟨b2, o2, rfl, hb2, hc2⟩ := held_at ((HL.out.below hI2.out.below)) (j := k) (u := .int .i64 x) (by simp [hx])
      have h0 : (0 : Int) ≤ (k : Int) := by omega
      have h1 : (k : Int) < (m : Int) := by omega
      have hpn := hI2.out.pn
      obtain ⟨q, hq⟩ : ∃ q : Nat, (q : Int) = x % ((n : Int) - p + 1) := ⟨(x % ((n : Int) - p + 1)).toNat, by have := Int.emod_nonneg x (show (n : Int) - p + 1 ≠ 0 by omega); omega⟩
      have hq1 : p + q ≤ n := by have := Int.emod_lt_of_pos x (show (0 : Int) < (n : Int) - p + 1 by omega); omega
      have HQ := Lib.hid hq
      clear hx hq
      go_upto_region 10 with fail
      refine wp_region_grow (by kernel_rfl) (by kernel_rfl) ?_
      repeat (go_big_quiet_step ((first
        | (go_at_call 12; exact quiet_call1 (Left_any _ g _ (hI2.out.rd.below (ext_below _ _)) hI2.out.ok))
        | (go_at_call 11; refine (pick_val x ((n : Int) - p + 1) q HQ.out.symm _ (by omega) (by omega)).mono ?_; rintro e w' ⟨rfl, rfl⟩; exact ⟨rfl, _, rfl⟩))))
      refine wpQuiet_nil ?_
      intro _ hw'
      obtain ⟨x1, rfl⟩ := hw'
      have hI3 := Lib.hid (hI2.out.later (ext_below _ x1))
      obtain ⟨w3, hw3⟩ : ∃ w3, wr.ext x1 = w3 := ⟨_, rfl⟩
      rw [hw3] at hI3 ⊢
      clear hw3
      go_wp2_with (first
        | (go_at_call 13; refine (At_any _ g _ hI3.out.rd).mono ?_; rintro e w' ⟨rfl, rfl⟩)
        | (go_at_call 14; refine Hid.out ?_))
      refine Lib.hid ?_
      have hS := Sub_any ⟨p, n, b, 0, 0⟩ q g w3 hI3.out.rd hI3.out.ok
      rw [show Rd.sub ⟨p, n, b, 0, 0⟩ (q : Int) = ⟨p, p + q, b, 0, 0⟩ from by simp [Rd.sub]; omega, show Rd.past ⟨p, n, b, 0, 0⟩ (q : Int) = ⟨p + q, n, b, 0, 0⟩ from by simp [Rd.past]; omega] at hS
      refine hS.mono ?_
      clear hS
      rintro e w4 ⟨g', rfl, hg', hsub, ht⟩
      have hT : SubsTwo W w4 B g g' n b bs p q ⟨p, p + q, b, 0, 0⟩ (.slice A6 p c6) := by
        obtain ⟨t1, t2, t3, t4, t5⟩ := hI3.out.turn ht hq1
        exact ⟨t1, hI3.out.low, t2, hI3.out.gB, hI3.out.gW, hI3.out.bB, hq1, ht.2, t3, t4, t5, Nat.le_trans hI3.out.size hg', hsub, ⟨by simp only; omega, by simp only; have := hI3.out.ok.en; simp only at this; omega, hI3.out.ok.nc, hI3.out.ok.small⟩, ⟨t4.held, t4.len⟩⟩
      have HT := Lib.hid hT
      clear hT hsub ht hg'
      have hpp : ((p : Int) != (p : Int)) = false := by simp
      have hqq : ((q : Int) != (q : Int)) = false := by simp
      have hpq : (((p + q : Nat) : Int) != (p : Int) + q) = false := by simp
      go_wp2_with (first
        | (go_at_call_of 13 (Value.pointer (some ⟨g', 0, none⟩)); refine (At_any _ g' _ HT.out.sub).mono ?_; rintro e w' ⟨rfl, rfl⟩)
        | (go_at_call 12; refine (Left_val _ q (by simp only; omega) g' _ HT.out.sub HT.out.sok).mono ?_; rintro e w5 ⟨rfl, hb5⟩; have HT5 := Lib.hid (HT.out.later hb5); clear hb5)
        | (go_at_call_of 13 (Value.pointer (some ⟨g, 0, none⟩)); refine (At_any _ g _ HT5.out.rd).mono ?_; rintro e w' ⟨rfl, rfl⟩)
        | (go_at_call 15; refine Hid.out ?_))
      refine Lib.hid ?_
      have hC := Bytes_any ⟨p, p + q, b, 0, 0⟩ bs q g' w5 HT5.out.sub HT5.out.sok HT5.out.sby
      have hch : Rd.chunk ⟨p, p + q, b, 0, 0⟩ bs (q : Int) = (bs.drop p).take q := by simp [Rd.chunk]
      have hlen : ((bs.drop p).take q).length = q := by have h1 := HT5.out.by'.len; have h2 := HT5.out.ok.en; simp only at h1 h2; simp; omega
      rw [hch, show Rd.past ⟨p, p + q, b, 0, 0⟩ (q : Int) = ⟨p + q, p + q, b, 0, 0⟩ from by simp [Rd.past], hlen] at hC
      refine hC.mono ?_
      clear hC hch
      rintro e w6 ⟨v6, rfl, hown, ht⟩
      have hT6 := HT5.out.turn ht ⟨by simp, HT5.out.sok.en, HT5.out.sok.nc, HT5.out.sok.small⟩ rfl
      have hf6 : ∀ k, v6.ownBlock = some k → k ≠ g' := fun k hk => by
        have := (owns_block hown k hk).1
        have := HT5.out.sub.lt
        omega
      obtain ⟨A7, c7, rfl, hc7, hby7, _⟩ := isby_of_owns hown
      have HT6 := Lib.hid hT6
      have HB7 := Lib.hid hby7
      have HF7 := Lib.hid (show ∀ b off, A7 = some ⟨b, off, none⟩ → b ≠ g' from fun b off h => hf6 b (by rw [h]; rfl))
      have HLEN := Lib.hid hlen
      clear hT6 hown ht hf6 hby7 hlen
      go_wp2_with (go_at_call 16; refine Hid.out ?_)
      refine Lib.hid ?_
      have hC := RU_any 16 1 ⟨p + q, p + q, b, 0, 0⟩ bs g' w6 HT6.out.sub HT6.out.sok HT6.out.sby (.inl ⟨rfl, rfl⟩)
      rw [show Rd.past ⟨p + q, p + q, b, 0, 0⟩ ((1 : Nat) : Int) = ⟨p + q, p + q, b, 4, ((p + q : Nat) : Int)⟩ from by unfold Rd.past; rw [if_neg (by simp), if_neg (by simp only; omega)]] at hC
      refine hC.mono ?_
      clear hC
      rintro e w7 ⟨rfl, ht⟩
      have HT7 := Lib.hid (HT6.out.turn ht ⟨by simp, HT5.out.sok.en, HT5.out.sok.nc, HT5.out.sok.small⟩ rfl)
      have HB8 := Lib.hid (HB7.out.only ht.1 (fun b off h => by simpa using HF7.out b off h))
      clear ht
      go_wp2_with (first
        | (go_at_call 17; refine (Fail_same _ 3 g' _ HT7.out.sub (.inr (by simp))).mono ?_; rintro e w' ⟨rfl, rfl⟩)
        | (go_at_call_of 18 (Value.pointer (some ⟨g', 0, none⟩)); refine (Fault_any _ g' _ HT7.out.sub).mono ?_; rintro e w8 ⟨rfl, hb8⟩; have HT8 := Lib.hid (HT7.out.later hb8); have HB9 := Lib.hid (HB8.out.below hb8); clear hb8)
        | (go_at_call_of 18 (Value.pointer (some ⟨g, 0, none⟩)); refine (Fault_any _ g _ HT8.out.rd).mono ?_; rintro e w9 ⟨rfl, hb9⟩; have HT9 := Lib.hid (HT8.out.later hb9); have HB10 := Lib.hid (HB9.out.below hb9); clear hb9)
        | (at_builtin; refine Hid.out ?_))
      refine Lib.hid ?_
      obtain ⟨i0, hi0, hz0, hz1, hz2⟩ := info_parts info_u8
      have hp4 : p ≤ 400 := by omega
      refine wpList_append_held _ rfl (.tmp 92) (.tmp 93) _ rfl B 5 i0 _ 1 1 Try.underlying22 hi0 hz0 hz1 hz2 rfl (by omega) (.slice A6 p c6) p ((bs.take p).map byv) rfl HT9.out.own A7 q c7 (((bs.drop p).take q).map byv) rfl (by rw [List.length_map, HLEN.out, Nat.mul_one]) HB10.out.held (byv_one _) (by simp only [maxLen]; omega) (by omega) HT9.out.size ?_
      intro v10 w10 hown10 hg10 hat10
      have hI10 : SubsInv W w10 B g n b bs (p + q) v10 := by
        have ho : Only (match (Value.slice A6 p c6).ownBlock with | some k => [k] | none => []) w9 w10 := (Only.refl _ _).grown hg10 fun k hk => .inl (by rw [hk]; simp)
        have hap := row_apart HT9.out.own HT9.out.rd
        have hnb : ∀ j, j < B → j ∉ (match (Value.slice A6 p c6).ownBlock with | some k => [k] | none => []) := fun j hj => by
          split
          · rename_i k hk
            have := (owns_block HT9.out.own k hk).1
            simp; omega
          · simp
        refine ⟨HT9.out.below.grown hg10 HT9.out.below.size (fun k hk => Nat.le_trans HT9.out.low (owns_block HT9.out.own k hk).1), HT9.out.low, Nat.le_trans HT9.out.size ho.size, HT9.out.gB, HT9.out.gW, HT9.out.bB, hq1, HT9.out.rd.only ho (hnb _ HT9.out.gB), HT9.out.ok, ⟨HT9.out.by'.held.only ho (fun blk off h => hnb _ (HT9.out.bB blk off h)), HT9.out.by'.len⟩, ?_⟩
        have e : (bs.take (p + q)).map byv = (bs.take p).map byv ++ ((bs.drop p).take q).map byv := by rw [List.take_add, List.map_append]
        rw [e]
        exact hown10
      have HI10 := Lib.hid hI10
      clear hown10 hg10 hat10 hI10
      go_wp2_with fail
      go_roundw
      case rel => exact ⟨k + 1, p + q, by omega, by go_num, HI10⟩
      case measure => simp [intOf]; omega
    · obtain rfl : k = m := by omega
      have HI3 := hI2
      have hpn := hI2.out.pn
      go_wp2_with (first
        | (go_at_call 12; refine (Left_any _ g _ HI3.out.rd HI3.out.ok).mono ?_; rintro e w3 ⟨rfl, hb3⟩; have HI4 := Lib.hid (HI3.out.later hb3); clear hb3)
        | (go_at_call 15; refine Hid.out ?_))
      refine Lib.hid ?_
      obtain ⟨q, hq⟩ : ∃ q : Nat, (q : Int) = (n : Int) - p := ⟨n - p, by omega⟩
      rw [← hq]
      have hpq : p + q = n := by omega
      have hC := Bytes_any ⟨p, n, b, 0, 0⟩ bs q g w3 HI4.out.rd HI4.out.ok HI4.out.by'
      have hch : Rd.chunk ⟨p, n, b, 0, 0⟩ bs (q : Int) = (bs.drop p).take q := by simp [Rd.chunk]; omega
      have hlen : ((bs.drop p).take q).length = q := by have h1 := HI4.out.by'.len; have h2 := HI4.out.ok.en; simp only at h1 h2; simp; omega
      rw [hch, show Rd.past ⟨p, n, b, 0, 0⟩ (q : Int) = ⟨n, n, b, 0, 0⟩ from by unfold Rd.past; rw [if_neg (by simp), if_pos (by simp only; omega)]; simp; omega, hlen] at hC
      refine hC.mono ?_
      clear hC hch
      rintro e w4 ⟨v4, rfl, hown, ht⟩
      obtain ⟨t1, t2, t3, t4, t5⟩ := HI4.out.turn ht (Nat.le_refl _)
      obtain ⟨A4, c4, rfl, hc4, hby4, _⟩ := isby_of_owns hown
      have HBW := Lib.hid t1
      have HRD := Lib.hid ht.2
      have HOK := Lib.hid t3
      have HBY := Lib.hid t4
      have HOWN := Lib.hid t5
      have HB4 := Lib.hid hby4
      have HLEN := Lib.hid hlen
      have HPQ := Lib.hid hpq
      have HSZ := Lib.hid t2
      clear t1 ht t3 t4 t5 hby4 hlen hown hq hpq t2
      go_wp2_with (at_builtin; refine Hid.out ?_)
      refine Lib.hid ?_
      obtain ⟨i0, hi0, hz0, hz1, hz2⟩ := info_parts info_u8
      have hp4 : p ≤ 400 := by omega
      have hq4 : q ≤ 400 := by have := HPQ.out; omega
      refine wpList_append_held _ rfl (.tmp 99) (.tmp 100) _ rfl B 5 i0 _ 1 1 Try.underlying22 hi0 hz0 hz1 hz2 rfl (by omega) (.slice A6 p c6) p ((bs.take p).map byv) rfl HOWN.out A4 q c4 (((bs.drop p).take q).map byv) rfl (by rw [List.length_map, HLEN.out, Nat.mul_one]) HB4.out.held (byv_one _) (by simp only [maxLen]; omega) (by omega) HSZ.out ?_
      intro v10 w10 hown10 hg10 hat10
      have hrow : ∀ k, (Value.slice A6 p c6).ownBlock = some k → B ≤ k := fun k hk => (owns_block HOWN.out k hk).1
      have ho : Only (match (Value.slice A6 p c6).ownBlock with | some k => [k] | none => []) w4 w10 := (Only.refl _ _).grown hg10 fun k hk => .inl (by rw [hk]; simp)
      have hnb : ∀ j, j < B → j ∉ (match (Value.slice A6 p c6).ownBlock with | some k => [k] | none => []) := fun j hj => by
        split
        · rename_i k hk
          have := hrow k hk
          simp; omega
        · simp
      have e : ((bs.take p).map byv ++ ((bs.drop p).take q).map byv) = bs.map byv := by
        rw [← List.map_append, ← List.take_add, HPQ.out, List.take_of_length_le (by have h1 := HI4.out.by'.len; have h2 := HI4.out.ok.en; have h3 := HB.out.len; omega)]
      rw [e] at hown10
      obtain ⟨A10, c10, rfl, hc10, hby10, _⟩ := isby_of_owns hown10
      have HBW10 := Lib.hid (HBW.out.grown hg10 HBW.out.size (fun k hk => Nat.le_trans HI4.out.low (hrow k hk)))
      have HRD10 := Lib.hid (HRD.out.only ho (hnb _ HI4.out.gB))
      have HBY10 := Lib.hid (show Bys w10 ⟨n, n, b, 0, 0⟩ bs from ⟨HBY.out.held.only ho (fun blk off h => hnb _ (HI4.out.bB blk off h)), HBY.out.len⟩)
      have HB10 := Lib.hid hby10
      have hpq' : p + q = n := HPQ.out
      clear hown10 hg10 hat10 hrow ho hnb e hby10
      go_wp2_with (go_at_call 19; refine Hid.out ?_)
      refine Lib.hid ?_
      rw [HPQ.out] at HB10
      refine (Same_any A10 A1 n n c10 c bs bs w10 HB10.out (HB.out.below HBW10.out) (by omega) (by omega)).mono ?_
      rintro e w11 ⟨rfl, hb11⟩
      have HBW11 := Lib.hid (HBW10.out.trans (hb11.mono HBW10.out.size))
      have HRD11 := Lib.hid (HRD10.out.below hb11)
      have HBY11 := Lib.hid (HBY10.out.turned HRD10.out (Only.of_below hb11 _) (show (⟨n, n, b, 0, 0⟩ : Rd).b = (⟨n, n, b, 0, 0⟩ : Rd).b from rfl))
      have HB1' := HB1
      clear hb11
      have hbb : (bs == bs) = true := by simp
      rw [hbb]
      clear hbb
      go_wp2_with (first
        | (go_at_call 12; refine (Left_val _ 0 (by simp only; omega) g _ HRD11.out HOK.out).mono ?_; rintro e w12 ⟨rfl, hb12⟩; have HBW12 := Lib.hid (HBW11.out.trans (hb12.mono HBW11.out.size)); have HRD12 := Lib.hid (HRD11.out.below hb12); have HBY12 := Lib.hid (HBY11.out.turned HRD11.out (Only.of_below hb12 _) (show (⟨n, n, b, 0, 0⟩ : Rd).b = (⟨n, n, b, 0, 0⟩ : Rd).b from rfl)); clear hb12)
        | (go_at_call 15; refine Hid.out ?_))
      refine Lib.hid ?_
      have hC := Bytes_any ⟨n, n, b, 0, 0⟩ bs 0 g w12 HRD12.out HOK.out HBY12.out
      rw [show Rd.chunk ⟨n, n, b, 0, 0⟩ bs 0 = [] from by simp [Rd.chunk], show Rd.past ⟨n, n, b, 0, 0⟩ 0 = ⟨n, n, b, 0, 0⟩ from by simp [Rd.past]] at hC
      refine hC.mono ?_
      clear hC
      rintro e w13 ⟨v13, rfl, hown, ht⟩
      obtain ⟨A13, c13, rfl, _, _, _⟩ := isby_of_owns (bs := []) hown
      have HRD13 := Lib.hid ht.2
      have HBW13 := Lib.hid (ht.1.below HBW12.out HBW12.out.size (fun x hx => by simp at hx; subst hx; exact HI.out.gW))
      clear hown ht
      go_wp2_with (go_at_call 18; refine (Fault_any _ g _ HRD13.out).mono ?_; rintro e w14 ⟨rfl, hb14⟩)
      go_ret
      exact ⟨rfl, HBW13.out.trans (hb14.mono HBW13.out.size)⟩
end Go.Proofs.Ytfbakbfljpadlaa
