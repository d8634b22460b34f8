import Derived.Test.YtkplhmmajafflaaPg
import Derived.Test.YtkplhmmajafflaaCopy
import Derived.Deep.RegionLaw
/- The parts of a frame, written: data and ARP; two bytes set. -/
namespace Go.Proofs.Ytkplhmmajafflaa
open Go.RowKit
set_option linter.unusedSimpArgs false
set_option linter.unusedVariables false

/-- Bytes of a literal, in a new block. -/
theorem lit_held {w : World} {H : Nat} {cs : Array Value} {zs : List UInt8} {e : TypeId} (hH : H = w.heap.size) (hcs : cs.toList = zs.map byv) : Held (w.alloc (.cells cs e)) (some ⟨H, 0, none⟩) (zs.map byv) := by
  rw [← hcs]; exact held_row hH
theorem set16_any (g off n c : Nat) (cur : List Value) (x : Nat) (t : TypeId) (W : World) (hg : W.heap[g]? = some (.cells cur.toArray t (0, 0))) (hx : x < 65536) (hn : 2 ≤ n) (hfit : off + 2 ≤ cur.length) :
    Calls Try.prog 68 #[.slice (some ⟨g, off, none⟩) n c, .int .u16 x] W fun e w' => e = .returned (.tuple #[]) ∧ w'.heap[g]? = some (.cells (over cur off ((be x 2).map byv)).toArray t (0, 0)) ∧ Only [g] W w' := by
  have hglt := (Array.getElem?_eq_some_iff.1 hg).1
  have HG := Lib.hid hg
  have hx0 : (0 : Int) ≤ (x : Int) := by omega
  have hx1 : (x : Int) ≤ 18446744073709551615 := by omega
  have hl2 : ((be x 2).map byv).length = 2 := by simp [be_len]
  have HL := Lib.hid hl2
  clear hg hl2
  go_enter Try.func68, Try.ntmps68
  go_wp2_with (first
    | (go_at_call 38; refine (add_any W.heap.size (.slice none 0 0) [] x 2 _ OwnBy.nil (by omega) (by simp) (Nat.le_refl _)).mono ?_; rintro e w1 ⟨v1, rfl, hp⟩; obtain ⟨A1, c1, rfl, hc1, hb1, _⟩ := hp.own.isbyn (n := 2) (by simp [be_len]); have HP := Lib.hid (hp.fresh rfl); have hg1 := (HP.out.block g hglt).trans HG.out; obtain ⟨w2, hrun, h2, h3⟩ := run_copy_known (P := Try.prog) w1 32 32 3 5 Try.underlying32 (by kernel_rfl) g off n c A1 2 c1 cur t hg1 ((be x 2).map byv) (by rw [HL.out]; omega) (by simpa using hb1.held) (by rw [HL.out]; omega) (byv_one _); have H2 := Lib.hid h2; have H3 := Lib.hid h3; clear hp hb1 hg1 h2 h3))
  go_end0
  exact ⟨rfl, H2.out, (Only.of_below HP.out _).trans H3.out⟩
theorem dkind_any (W : World) : Calls Try.prog 69 #[.agg #[]] W fun e w' => e = .returned (.int .u16 34997) ∧ Below W.heap.size W w' := by
  go_enter Try.func69, Try.ntmps69
  go_wp2_with fail
  go_ret
  exact ⟨rfl, (Below.refl _ _).alloc (Nat.le_refl _) _⟩
theorem akind_any (x : Arp) (W : World) : Calls Try.prog 63 #[.agg x.cs] W fun e w' => e = .returned (.int .u16 2054) ∧ Below W.heap.size W w' := by
  go_enter Try.func63, Try.ntmps63
  go_wp2_with fail
  go_ret
  exact ⟨rfl, (Below.refl _ _).alloc (Nat.le_refl _) _⟩
theorem ikind_any (x : Hd) (W : World) : Calls Try.prog 66 #[.agg x.cs] W fun e w' => e = .returned (.int .u16 2048) ∧ Below W.heap.size W w' := by
  go_enter Try.func66, Try.ntmps66
  go_wp2_with fail
  go_ret
  exact ⟨rfl, (Below.refl _ _).alloc (Nat.le_refl _) _⟩
theorem dwrite_any (base : Nat) (v : Value) (xs : List UInt8) (W : World) (h : OwnBy W base v xs) : Calls Try.prog 70 #[.agg #[], v] W fun e w' => ∃ v', e = .returned v' ∧ Put base v v' xs [] W w' := by
  go_enter Try.func70, Try.ntmps70
  go_wp2_with fail
  go_ret
  exact ⟨v, rfl, Put.refl h ((Below.refl _ _).alloc (Nat.le_refl _) _)⟩
/-- A block of other cells stays. -/
theorem Put.keep {base b T : Nat} {v v' : Value} {xs ys : List UInt8} {W w' : World} {cs : Array Value} (h : Put base v v' xs ys W w') (ho : OwnBy W base v xs) (hb : W.heap[b]? = some (.cells cs T (0, 0))) (hT : 5 ≠ T) : w'.heap[b]? = some (.cells cs T (0, 0)) :=
  (h.only.block b (Array.getElem?_eq_some_iff.1 hb).1 fun hm => row_not_cells ho hb hT (blkOf_mem.1 hm)).trans hb
theorem put16_int (base : Nat) (v : Value) (xs : List UInt8) (n : Int) (W : World) (h : OwnBy W base v xs) (h0 : 0 ≤ n) (hn : n < 256 ^ 2) (hx : xs.length ≤ 100000) (hbase : base ≤ W.heap.size) :
    Calls Try.prog 24 #[v, .int .u16 n] W fun e w' => ∃ v', e = .returned v' ∧ Put base v v' xs (be n.toNat 2) W w' := by
  obtain ⟨m, rfl⟩ := Int.eq_ofNat_of_zero_le h0
  exact put16_any base v xs m W h (by omega) hx hbase
theorem put32_int (base : Nat) (v : Value) (xs : List UInt8) (n : Int) (W : World) (h : OwnBy W base v xs) (h0 : 0 ≤ n) (hn : n < 256 ^ 4) (hx : xs.length ≤ 100000) (hbase : base ≤ W.heap.size) :
    Calls Try.prog 65 #[v, .int .u32 n] W fun e w' => ∃ v', e = .returned v' ∧ Put base v v' xs (be n.toNat 4) W w' := by
  obtain ⟨m, rfl⟩ := Int.eq_ofNat_of_zero_le h0
  exact put32_any base v xs m W h (by omega) hx hbase
theorem put64_int (base : Nat) (v : Value) (xs : List UInt8) (n : Int) (W : World) (h : OwnBy W base v xs) (h0 : 0 ≤ n) (hn : n < 256 ^ 8) (hx : xs.length ≤ 100000) (hbase : base ≤ W.heap.size) :
    Calls Try.prog 25 #[v, .int .u64 n] W fun e w' => ∃ v', e = .returned v' ∧ Put base v v' xs (be n.toNat 8) W w' := by
  obtain ⟨m, rfl⟩ := Int.eq_ofNat_of_zero_le h0
  exact put64_any base v xs m W h (by omega) hx hbase
theorem byv_ofNat (n : Nat) : byv (UInt8.ofNat n) = .int .u8 ((n % 256 : Nat) : Int) := by
  unfold byv
  congr 1
theorem arp_lit (x : Arp) (h0 : 0 ≤ x.op) (h1 : x.op < 65536) : (#[.int .u8 0, .int .u8 1, .int .u8 8, .int .u8 0, .int .u8 6, .int .u8 4, .int .u8 (x.op / 256), .int .u8 (x.op % 256)] : Array Value).toList = ([0, 1, 8, 0, 6, 4] ++ be x.op.toNat 2).map byv := by
  have e : x.op = (x.op.toNat : Int) := by omega
  simp [be, List.range_succ, byv_ofNat]
  refine ⟨rfl, rfl, rfl, rfl, rfl, rfl, ?_, ?_⟩ <;> omega
def arpBytes (x : Arp) : List UInt8 := [0, 1, 8, 0, 6, 4] ++ be x.op.toNat 2 ++ be x.sm.toNat 6 ++ be x.si.toNat 4 ++ be x.tm.toNat 6 ++ be x.ti.toNat 4
theorem be_two (n : Nat) : be n 2 = [UInt8.ofNat (n / 256), UInt8.ofNat n] := by simp [be, List.range_succ]
theorem byte_one (n : Nat) : Value.int .u8 (IntKind.u8.wrap ((n : Int) / 256)) = byv (UInt8.ofNat (n / 256)) := by
  have := byte_of n 1
  simpa using this
theorem byte_zero (n : Nat) : Value.int .u8 (IntKind.u8.wrap (n : Int)) = byv (UInt8.ofNat n) := by
  have := byte_of n 0
  simpa using this
set_option maxRecDepth 100000 in
set_option maxHeartbeats 1000000 in
theorem awrite_any (base : Nat) (v : Value) (xs : List UInt8) (x : Arp) (W : World) (h : OwnBy W base v xs) (hok : x.ok) (h0 : 0 ≤ x.op) (h1 : x.op < 65536) (hx : xs.length ≤ 50000) (hbase : base ≤ W.heap.size) :
    Calls Try.prog 64 #[.agg x.cs, v] W fun e w' => ∃ v', e = .returned v' ∧ Put base v v' xs (arpBytes x) W w' := by
  obtain ⟨i0, hi0, hz0, hz1, hz2⟩ := info_parts info_u8
  have H := Lib.hid h
  have OK := Lib.hid hok
  clear h hok
  go_enter Try.func64, Try.ntmps64
  have hlit := Lib.hid (arp_lit x h0 h1)
  go_wp2_with (at_builtin; refine Hid.out ?_)
  refine Lib.hid ?_
  have hb2 : Below W.heap.size W ((W.alloc (.cells x.cs 74)).alloc (.cells #[.int .u8 0, .int .u8 1, .int .u8 8, .int .u8 0, .int .u8 6, .int .u8 4, .int .u8 (x.op / 256), .int .u8 (x.op % 256)] 5)) := ((Below.refl _ _).alloc (Nat.le_refl _) _).alloc (by simp) _
  refine wpList_append_held _ rfl (.tmp 5) (.tmp 13) _ rfl base 5 i0 _ 1 1 Try.underlying32 hi0 hz0 hz1 hz2 rfl (by omega) _ _ _ rfl (owns_below H.out hb2) (some ⟨W.heap.size + 1, 0, none⟩) 8 8 (([0, 1, 8, 0, 6, 4] ++ be x.op.toNat 2).map byv) rfl (by simp [be_len]) (lit_held (by simp) hlit.out) (byv_one _) (by simp only [maxLen]; omega) (by omega) (by simp; omega) ?_
  intro v1 w1 hown1 hg1 hat1
  have hp1 := put_of_append (zs := [0, 1, 8, 0, 6, 4] ++ be x.op.toNat 2) (Put.refl H.out hb2) (Below.refl _ _) hg1 (by simpa [be_len] using hown1) hat1
  rw [List.nil_append] at hp1
  have hbox : w1.heap[W.heap.size]? = some (.cells x.cs 74 (0, 0)) := by
    refine (hg1.block _ (by simp; omega) fun e => ?_).trans ((Below.heap_alloc _ _ _ (by simp)).trans (heap_here rfl))
    have := (H.out.block _ e.symm).2; omega
  have HP := Lib.hid hp1
  have HB := Lib.hid hbox
  clear hown1 hg1 hat1 hp1 hbox hb2
  obtain ⟨b, hb⟩ : ∃ b, W.heap.size = b := ⟨_, rfl⟩
  rw [hb] at HB ⊢
  have HBB := Lib.hid hb
  clear hb
  go_wp2_with fail
  have OD := Lib.hid (HP.out.own.below (Below.refl w1.heap.size w1).drew)
  have hB1 : base ≤ w1.heap.size := Nat.le_trans hbase HP.out.size
  have c1 : w1.cell? ⟨b, 1, none⟩ = some (.int .u64 x.sm) := by simp [World.cell?, HB.out]
  have c2 : w1.cell? ⟨b, 2, none⟩ = some (.int .u32 x.si) := by simp [World.cell?, HB.out]
  have l1 : (xs ++ ([0, 1, 8, 0, 6, 4] ++ be x.op.toNat 2)).length ≤ 60000 := by simp [be_len]; omega
  have L1 := Lib.hid l1
  clear l1
  go_region_held3 (fun w' => w'.cell? ⟨b, 1, none⟩ = some (.int .u64 x.sm) ∧ w'.cell? ⟨b, 2, none⟩ = some (.int .u32 x.si)) (first | (go_keep; done) | exact ⟨by assumption, by assumption⟩)
    (first
      | (go_at_call 23; refine (mac_any base v1 _ x.sm _ OD.out OK.out.sm.1 (Int.lt_add_one_iff.2 OK.out.sm.2) (by have := L1.out; omega) hB1).mono ?_; rintro e w2 ⟨v2, rfl, hp⟩; have H2 := Lib.hid hp; have hb2 := hp.keep OD.out HB.out (by decide); have HB2 := Lib.hid hb2; have c12 : w2.cell? ⟨b, 1, none⟩ = some (.int .u64 x.sm) := (by simp [World.cell?, hb2]); have c22 : w2.cell? ⟨b, 2, none⟩ = some (.int .u32 x.si) := (by simp [World.cell?, hb2]); clear hp hb2)
      | (go_at_call 65; refine (put32_int base v2 _ x.si _ H2.out.own OK.out.si.1 (Int.lt_add_one_iff.2 OK.out.si.2) (by have := L1.out; simp [be_len] at this ⊢; omega) (Nat.le_trans hB1 H2.out.size)).mono ?_; rintro e w3 ⟨v3, rfl, hp⟩; have H3 := Lib.hid hp; have hb3 := hp.keep H2.out.own HB2.out (by decide); have HB3 := Lib.hid hb3; have c13 : w3.cell? ⟨b, 1, none⟩ = some (.int .u64 x.sm) := (by simp [World.cell?, hb3]); have c23 : w3.cell? ⟨b, 2, none⟩ = some (.int .u32 x.si) := (by simp [World.cell?, hb3]); clear hp hb3))
  have HQ := Lib.hid ((HP.out.next (Below.refl w1.heap.size w1).drew H2.out rfl).next (Below.refl _ _) H3.out (by simp))
  have OD3 := Lib.hid (H3.out.own.below (Below.refl w3.heap.size w3).drew)
  have hB3 : base ≤ w3.heap.size := Nat.le_trans hbase HQ.out.size
  have d3 : w3.cell? ⟨b, 3, none⟩ = some (.int .u64 x.tm) := by simp [World.cell?, HB3.out]
  have d4 : w3.cell? ⟨b, 4, none⟩ = some (.int .u32 x.ti) := by simp [World.cell?, HB3.out]
  clear c1 c2 c12 c22 c13 c23 HB2 HB H2 OD hB1
  go_wp2_with fail
  go_region_held3 (fun w' => w'.cell? ⟨b, 3, none⟩ = some (.int .u64 x.tm) ∧ w'.cell? ⟨b, 4, none⟩ = some (.int .u32 x.ti)) (first | (go_keep; done) | exact ⟨by assumption, by assumption⟩)
    (first
      | (go_at_call 23; refine (mac_any base v3 _ x.tm _ OD3.out OK.out.tm.1 (Int.lt_add_one_iff.2 OK.out.tm.2) (by have := L1.out; simp [be_len] at this ⊢; omega) hB3).mono ?_; rintro e w4 ⟨v4, rfl, hp⟩; have H4 := Lib.hid hp; have hb4 := hp.keep OD3.out HB3.out (by decide); have HB4 := Lib.hid hb4; have c34 : w4.cell? ⟨b, 3, none⟩ = some (.int .u64 x.tm) := (by simp [World.cell?, hb4]); have c44 : w4.cell? ⟨b, 4, none⟩ = some (.int .u32 x.ti) := (by simp [World.cell?, hb4]); clear hp hb4)
      | (go_at_call 65; refine (put32_int base v4 _ x.ti _ H4.out.own OK.out.ti.1 (Int.lt_add_one_iff.2 OK.out.ti.2) (by have := L1.out; simp [be_len] at this ⊢; omega) (Nat.le_trans hB3 H4.out.size)).mono ?_; rintro e w5 ⟨v5, rfl, hp⟩; have H5 := Lib.hid hp; have hb5 := hp.keep H4.out.own HB4.out (by decide); have c35 : w5.cell? ⟨b, 3, none⟩ = some (.int .u64 x.tm) := (by simp [World.cell?, hb5]); have c45 : w5.cell? ⟨b, 4, none⟩ = some (.int .u32 x.ti) := (by simp [World.cell?, hb5]); clear hp hb5))
  have HR := Lib.hid ((HQ.out.next (Below.refl w3.heap.size w3).drew H4.out (by simp)).next (Below.refl _ _) H5.out (by simp))
  go_wp2_with fail
  go_ret
  exact ⟨v5, rfl, by simpa [arpBytes] using HR.out⟩
end Go.Proofs.Ytkplhmmajafflaa
