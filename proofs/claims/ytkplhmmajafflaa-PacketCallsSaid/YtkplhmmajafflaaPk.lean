import Derived.Test.YtkplhmmajafflaaPj
import Derived.Test.YtkplhmmajafflaaPe
/- The parts of a frame, written: an IPv4 header. -/
namespace Go.Proofs.Ytkplhmmajafflaa
open Go.RowKit
set_option linter.unusedSimpArgs false
set_option linter.unusedVariables false

def b8 (x : Int) : UInt8 := UInt8.ofNat x.toNat
/-- The header, its checksum 0; and with its checksum. -/
def head0 (size : Nat) (x : Hd) : List UInt8 := [69, 0] ++ be size 2 ++ [0, 0, 0, 0, b8 x.ttl, b8 x.proto, 0, 0] ++ be x.src.toNat 4 ++ be x.dst.toNat 4
def headOf (size : Nat) (x : Hd) : List UInt8 := (head0 size x).take 10 ++ (be (sumL (head0 size x)) 2 ++ (head0 size x).drop 12)
theorem head0_len (size : Nat) (x : Hd) : (head0 size x).length = 20 := by simp [head0, be_len]
theorem headOf_len (size : Nat) (x : Hd) : (headOf size x).length = 20 := by simp [headOf, be_len, head0_len]
def ipBytes (x : Hd) : List UInt8 := if portedB x.proto = true then headOf 36 x ++ (be x.sp.toNat 2 ++ (be x.dp.toNat 2 ++ [0, 16, 0, 0])) else headOf 28 x
structure Hd.fit (x : Hd) : Prop where
  src : u32r x.src
  dst : u32r x.dst
  ttl0 : 0 ≤ x.ttl
  ttl1 : x.ttl ≤ 255
  proto0 : 0 ≤ x.proto
  proto1 : x.proto ≤ 255
  sp0 : 0 ≤ x.sp
  sp1 : x.sp ≤ 65535
  dp0 : 0 ≤ x.dp
  dp1 : x.dp ≤ 65535
theorem ip_lit28 (x : Hd) (h : x.fit) : (#[.int .u8 69, .int .u8 0, .int .u8 0, .int .u8 28, .int .u8 0, .int .u8 0, .int .u8 0, .int .u8 0, .int .u8 x.ttl, .int .u8 x.proto, .int .u8 0, .int .u8 0] : Array Value).toList = ([69, 0] ++ be 28 2 ++ [0, 0, 0, 0, b8 x.ttl, b8 x.proto, 0, 0]).map byv := by
  obtain ⟨_, _, t0, t1, p0, p1, _, _, _, _⟩ := h
  have e1 : byv (b8 x.ttl) = .int .u8 x.ttl := by unfold b8; rw [byv_ofNat]; congr 1; omega
  have e2 : byv (b8 x.proto) = .int .u8 x.proto := by unfold b8; rw [byv_ofNat]; congr 1; omega
  simp [be, List.range_succ, e1, e2]
  refine ⟨rfl, rfl, rfl, rfl⟩
theorem ip_lit36 (x : Hd) (h : x.fit) : (#[.int .u8 69, .int .u8 0, .int .u8 0, .int .u8 36, .int .u8 0, .int .u8 0, .int .u8 0, .int .u8 0, .int .u8 x.ttl, .int .u8 x.proto, .int .u8 0, .int .u8 0] : Array Value).toList = ([69, 0] ++ be 36 2 ++ [0, 0, 0, 0, b8 x.ttl, b8 x.proto, 0, 0]).map byv := by
  obtain ⟨_, _, t0, t1, p0, p1, _, _, _, _⟩ := h
  have e1 : byv (b8 x.ttl) = .int .u8 x.ttl := by unfold b8; rw [byv_ofNat]; congr 1; omega
  have e2 : byv (b8 x.proto) = .int .u8 x.proto := by unfold b8; rw [byv_ofNat]; congr 1; omega
  simp [be, List.range_succ, e1, e2]
  refine ⟨rfl, rfl, rfl, rfl⟩
theorem over_append {L z : List Value} (R : List Value) (o : Nat) (h : o + z.length ≤ L.length) : over (L ++ R) o z = over L o z ++ R := by
  unfold over
  rw [List.take_append_of_le_length (by omega), List.drop_append_of_le_length (by omega)]
  simp [List.append_assoc]
theorem over_len {L z : List Value} (o : Nat) (h : o + z.length ≤ L.length) : (over L o z).length = L.length := by simp [over]; omega
def overB (L : List UInt8) (o : Nat) (z : List UInt8) : List UInt8 := L.take o ++ (z ++ L.drop (o + z.length))
theorem over_map (L z : List UInt8) (o : Nat) : over (L.map byv) o (z.map byv) = (overB L o z).map byv := by simp [over, overB]
theorem over_right (xs ys z : List UInt8) (o : Nat) : overB (xs ++ ys) (xs.length + o) z = xs ++ (ys.take o ++ (z ++ ys.drop (o + z.length))) := by
  unfold overB
  rw [List.take_append, List.drop_append, List.take_of_length_le (by omega), List.drop_of_length_le (by omega), show xs.length + o - xs.length = o by omega, show xs.length + o + z.length - xs.length = o + z.length by omega]
  simp
/-- Two bytes of a row of the call's own, set. -/
theorem Put.set {base g off cap : Nat} {v0 : Value} {xs ys : List UInt8} {W w w' : World} {n : Nat} {x : Nat} {t : TypeId} {cur : List Value} (h : Put base v0 (.slice (some ⟨g, 0, none⟩) n cap) xs ys W w) (hcur : w.heap[g]? = some (.cells cur.toArray t (0, 0)))
    (hset : w'.heap[g]? = some (.cells (over cur (xs.length + off) ((be x 2).map byv)).toArray t (0, 0))) (ho : Only [g] w w') (hoff : off + 2 ≤ ys.length) : Put base v0 (.slice (some ⟨g, 0, none⟩) n cap) xs (ys.take off ++ (be x 2 ++ ys.drop (off + 2))) W w' := by
  obtain ⟨h1, h2, h3⟩ := h
  have hblk := h3 g rfl
  refine ⟨?_, ⟨ho.os.trans h2.os, ho.tape.trans h2.tape, ho.output.trans h2.output, Nat.le_trans h2.size ho.size, fun k hk hn => (ho.block k (Nat.lt_of_lt_of_le hk h2.size) fun hm => ?_).trans (h2.block k hk hn)⟩, h3⟩
  · obtain ⟨hl, hh | ⟨g', cap', cur', hv, hb', hg, hnc, hcm, hcs, hx⟩⟩ := h1
    · cases hh.1
    · simp only [Value.slice.injEq, Option.some.injEq, Addr.mk.injEq] at hv
      obtain ⟨⟨rfl, _⟩, rfl, rfl⟩ := hv
      rw [hcur] at hg
      simp only [Option.some.injEq, Obj.cells.injEq, List.toArray_inj] at hg
      obtain ⟨rfl, rfl, _⟩ := hg
      obtain ⟨n, hlen⟩ : ∃ n, (xs ++ ys).length = n := ⟨_, rfl⟩
      have hxl : xs.length + ys.length = n := by rw [← hlen, List.length_append]
      simp only [Nat.mul_one, List.size_toArray] at hcs hx
      have hx' : cur.take n = (xs ++ ys).map byv := by rw [← hlen]; exact hx
      have hcl : n ≤ cur.length := by omega
      have key : (over cur (xs.length + off) ((be x 2).map byv)).take n = (xs ++ (ys.take off ++ (be x 2 ++ ys.drop (off + 2)))).map byv := by
        have e1 : cur = (xs ++ ys).map byv ++ cur.drop n := by rw [← hx', List.take_append_drop]
        have l0 : ((xs ++ ys).map byv).length = n := by rw [List.length_map, hlen]
        have l1 : ((be x 2).map byv).length = 2 := by rw [List.length_map, be_len]
        rw [e1, over_append _ _ (by rw [l0, l1]; omega), List.take_left' (by rw [over_len _ (by rw [l0, l1]; omega), l0])]
        rw [over_map, over_right, be_len]
      have hfin : (xs ++ (ys.take off ++ (be x 2 ++ ys.drop (off + 2)))).length = n := by simp [be_len]; omega
      rw [hlen] at hnc
      refine ⟨by simp, .inr ⟨g, cap, _, by rw [hfin, hlen], hb', hset, by rw [hfin]; exact hnc, hcm, ?_, ?_⟩⟩
      · simp [over, be_len, hcs]; omega
      · rw [hfin, Nat.mul_one]; exact key
  · simp at hm
    subst hm
    rcases hblk with h | h
    · exact hn (blkOf_mem.2 h)
    · omega
theorem OwnBy.form {w : World} {base : Nat} {v : Value} {xs : List UInt8} {n : Nat} (h : OwnBy w base v xs) (hn : xs.length = n) (h0 : 0 < n) : ∃ g cap cur, v = .slice (some ⟨g, 0, none⟩) n cap ∧ n ≤ cap ∧ cap ≤ maxLen ∧ n ≤ cur.length ∧ w.heap[g]? = some (.cells (List.toArray cur) 5 (0, 0)) := by
  subst hn
  obtain ⟨hl, hh | ⟨g, cap, cur, hv, hb', hg, hnc, hcm, hcs, hx⟩⟩ := h
  · omega
  · exact ⟨g, cap, cur.toList, hv, hnc, hcm, by simp [hcs]; exact hnc, by simpa using hg⟩
set_option maxRecDepth 100000 in
set_option maxHeartbeats 2000000 in
theorem iwrite_false (base : Nat) (v : Value) (xs : List UInt8) (x : Hd) (W : World) (hpt : portedB x.proto = false) (h : OwnBy W base v xs) (hok : x.fit) (hx : xs.length ≤ 50000) (hbase : base ≤ W.heap.size) :
    Calls Try.prog 67 #[.agg x.cs, v] W fun e w' => ∃ v', e = .returned v' ∧ Put base v v' xs (ipBytes x) W w' := by
  obtain ⟨i0, hi0, hz0, hz1, hz2⟩ := info_parts info_u8
  have H := Lib.hid h
  have OK := Lib.hid hok
  have hlit := Lib.hid (ip_lit28 x hok)
  obtain ⟨_, _, t0, t1, p0, p1, sp0, sp1, dp0, dp1⟩ := hok
  clear h
  have PT := Lib.hid hpt
  obtain ⟨A0, c0, hv, _⟩ := H.out.isby
  subst hv
  clear hpt
  go_enter Try.func67, Try.ntmps67
  go_wp2_with (first
    | (go_at_call 16; refine (Ported_val x.proto _ PT.out _).mono ?_; rintro e w1 ⟨rfl, rfl⟩)
    | (at_builtin; refine Hid.out ?_))
  refine Lib.hid ?_
  have hb2 : Below W.heap.size W ((W.alloc (.cells x.cs 75)).alloc (.cells #[.int .u8 69, .int .u8 0, .int .u8 0, .int .u8 28, .int .u8 0, .int .u8 0, .int .u8 0, .int .u8 0, .int .u8 x.ttl, .int .u8 x.proto, .int .u8 0, .int .u8 0] 5)) := ((Below.refl _ _).alloc (Nat.le_refl _) _).alloc (by simp) _
  refine wpList_append_held _ rfl (.tmp 14) (.tmp 26) _ rfl base 5 i0 _ 1 1 Try.underlying32 hi0 hz0 hz1 hz2 rfl (by omega) _ _ _ rfl (owns_below H.out hb2) (some ⟨W.heap.size + 1, 0, none⟩) 12 12 (([69, 0] ++ be 28 2 ++ [0, 0, 0, 0, b8 x.ttl, b8 x.proto, 0, 0]).map byv) rfl (by simp [be_len]) (lit_held (by simp) hlit.out) (byv_one _) (by simp only [maxLen]; omega) (by omega) (by simp; omega) ?_
  intro v1 w1 hown1 hg1 hat1
  have hp1 := put_of_append (zs := [69, 0] ++ be 28 2 ++ [0, 0, 0, 0, b8 x.ttl, b8 x.proto, 0, 0]) (Put.refl H.out hb2) (Below.refl _ _) hg1 (by simpa [be_len] using hown1) hat1
  rw [List.nil_append] at hp1
  have hbox : w1.heap[W.heap.size]? = some (.cells x.cs 75 (0, 0)) := by
    refine (hg1.block _ (by simp; omega) fun e => ?_).trans ((Below.heap_alloc _ _ _ (by simp)).trans (heap_here rfl))
    have := (H.out.block _ e.symm).2; omega
  have HP := Lib.hid hp1
  have HB := Lib.hid hbox
  clear hown1 hg1 hat1 hp1 hbox hb2
  obtain ⟨b, hb⟩ : ∃ b, W.heap.size = b := ⟨_, rfl⟩
  rw [hb] at HB ⊢
  have HBB := Lib.hid hb
  clear hb
  have c0 : w1.cell? ⟨b, 0, none⟩ = some (.int .u32 x.src) := by simp [World.cell?, HB.out]
  go_wp2_with (go_at_call 65; refine Hid.out ?_)
  refine Lib.hid ?_
  refine (put32_int base v1 _ x.src _ HP.out.own OK.out.src.1 (Int.lt_add_one_iff.2 OK.out.src.2) (by simp [be_len]; omega) (Nat.le_trans hbase HP.out.size)).mono ?_
  rintro e w2 ⟨v2, rfl, hp⟩
  have HB2 := Lib.hid (hp.keep HP.out.own HB.out (by decide))
  have HP2 := Lib.hid (HP.out.next (Below.refl _ _) hp rfl)
  clear hp c0 HB HP
  have c1 : w2.cell? ⟨b, 1, none⟩ = some (.int .u32 x.dst) := by simp [World.cell?, HB2.out]
  go_wp2_with (go_at_call 65; refine Hid.out ?_)
  refine Lib.hid ?_
  refine (put32_int base v2 _ x.dst _ HP2.out.own OK.out.dst.1 (Int.lt_add_one_iff.2 OK.out.dst.2) (by simp [be_len]; omega) (Nat.le_trans hbase HP2.out.size)).mono ?_
  rintro e w3 ⟨v3, rfl, hp⟩
  have HB3 := Lib.hid (hp.keep HP2.out.own HB2.out (by decide))
  have hp3 := HP2.out.next (Below.refl _ _) hp rfl
  rw [show ([69, 0] ++ be 28 2 ++ [0, 0, 0, 0, b8 x.ttl, b8 x.proto, 0, 0] ++ be x.src.toNat 4 ++ be x.dst.toNat 4) = head0 28 x from rfl] at hp3
  clear hp c1 HB2 HP2
  obtain ⟨g, cap, cur, rfl, q1, q2, q3, hg⟩ := hp3.own.form (n := xs.length + 20) (by simp [head0_len]) (by omega)
  have HG := Lib.hid hg
  have HP3 := Lib.hid hp3
  clear hg hp3
  have hby : IsBy w3 (some ⟨g, 0, none⟩) (xs.length + 20) (xs ++ head0 28 x) := by
    obtain ⟨A, c, he, _, hq, _⟩ := HP3.out.own.isbyn (n := xs.length + 20) (by simp [head0_len])
    simp only [Value.slice.injEq] at he
    obtain ⟨rfl, _, _⟩ := he
    exact hq
  have hrest := hby.rest (c := cap) (l := xs.length) (by omega) q1
  rw [List.drop_left' rfl, Nat.add_sub_cancel_left] at hrest
  have HR := Lib.hid hrest
  have r1 : IntKind.i64.wrap ((xs.length : Int) + 10) = (xs.length : Int) + 10 := IntWalk.i64_in _ (by omega)
  have r2 : (0 : Int) ≤ (xs.length : Int) + 10 := by omega
  have r3 : (xs.length : Int) + 10 ≤ ((xs.length + 20 : Nat) : Int) := by omega
  have r4 : ((xs.length : Int) + 10).toNat = xs.length + 10 := by omega
  have r5 : (0 : Int) ≤ (xs.length : Int) := by omega
  have r6 : (xs.length : Int) ≤ ((xs.length + 20 : Nat) : Int) := by omega
  have r7 : partA (some ⟨g, 0, none⟩) cap (xs.length + 10) = some ⟨g, xs.length + 10, none⟩ := by unfold partA; rw [if_neg (by omega)]; simp [Addr.add]
  have r8 : xs.length + 20 - (xs.length + 10) = 10 := by omega
  have s3 : ∀ w : World, Sem.run Try.prog (Instr.slice 32 (.slice (some ⟨g, 0, none⟩) (xs.length + 20) cap) (some (.int .i64 ((xs.length : Int) + 10))) none none) w = .ok (.slice (some ⟨g, xs.length + 10, none⟩) 10 (cap - (xs.length + 10))) w := fun w => by
    have := part_l w (some ⟨g, 0, none⟩) (xs.length + 20) cap .i64 ((xs.length : Int) + 10) r2 r3
    rw [r4, r7, r8] at this
    exact this
  have s6 : ∀ w : World, Sem.run Try.prog (Instr.slice 32 (.slice (some ⟨g, 0, none⟩) (xs.length + 20) cap) (some (.int .i64 (xs.length : Int))) none none) w = .ok (.slice (partA (some ⟨g, 0, none⟩) cap xs.length) 20 (cap - xs.length)) w := fun w => by
    have := part_l w (some ⟨g, 0, none⟩) (xs.length + 20) cap .i64 (xs.length : Int) r5 r6
    rw [Int.toNat_natCast, Nat.add_sub_cancel_left] at this
    exact this
  have HQ := Lib.hid (And.intro q1 q3)
  have SL := Lib.hid (show sumL (head0 28 x) < 65536 by unfold sumL; omega)
  have L12 := Lib.hid (show xs.length + 10 + 2 ≤ cur.length by omega)
  clear hby hrest q1 q2 q3 r2 r3 r4 r5 r6 r7 r8
  go_wp2_with fail
  go_region_held3 (fun _ => True) (trivial)
    (first
      | (go_at_call 14; refine (sum_any _ 20 _ _ _ (HR.out.below (Below.refl w3.heap.size w3).drew) (by have := HQ.out.1; omega) (by omega)).mono ?_; rintro e w4 ⟨rfl, hb⟩; have H4 := Lib.hid hb; have hg4 := (hb.block g (by exact (Array.getElem?_eq_some_iff.1 HG.out).1)).trans (show w3.drew.heap[g]? = _ from HG.out); have HG4 := Lib.hid hg4; clear hb hg4)
      | (go_at_call 68; refine (set16_any g (xs.length + 10) 10 _ cur (sumL (head0 28 x)) 5 _ HG4.out SL.out (by omega) L12.out).mono ?_; rintro e w5 ⟨rfl, hg5, ho5⟩; have HG5 := Lib.hid hg5; have HO5 := Lib.hid ho5; clear hg5 ho5))
  have hb34 : Below w3.heap.size w3 w4 := (Below.refl w3.heap.size w3).drew.trans H4.out
  have hgb : g ≠ b := by
    rintro rfl
    have h1 := HG.out
    rw [HB3.out] at h1
    simp at h1
  have hB5 : w5.heap[b]? = some (.cells x.cs 75 (0, 0)) := by
    have hl := (Array.getElem?_eq_some_iff.1 HB3.out).1
    exact (HO5.out.block b (Nat.lt_of_lt_of_le hl hb34.size) (by simpa using Ne.symm hgb)).trans ((hb34.block b hl).trans HB3.out)
  have hp5 : Put base (.slice A0 xs.length c0) (.slice (some ⟨g, 0, none⟩) (xs.length + 20) cap) xs (headOf 28 x) W w5 := (HP3.out.later hb34).set HG4.out HG5.out HO5.out (by rw [head0_len]; omega)
  have HP5 := Lib.hid hp5
  have HB5 := Lib.hid hB5
  clear hp5 hB5 hgb hb34 HG HG4 HG5 HO5 HP3 HB3 H4 HR s3 s6 r1
  have c3 : w5.cell? ⟨b, 3, none⟩ = some (.int .i64 x.proto) := by simp [World.cell?, HB5.out]
  go_wp2_with (go_at_call 16; refine (Ported_val x.proto _ PT.out _).mono ?_; rintro e w1 ⟨rfl, rfl⟩)
  go_ret
  exact ⟨_, rfl, by unfold ipBytes; rw [if_neg (by rw [PT.out]; simp)]; exact HP5.out⟩
set_option maxRecDepth 100000 in
set_option maxHeartbeats 2000000 in
theorem iwrite_true (base : Nat) (v : Value) (xs : List UInt8) (x : Hd) (W : World) (hpt : portedB x.proto = true) (h : OwnBy W base v xs) (hok : x.fit) (hx : xs.length ≤ 50000) (hbase : base ≤ W.heap.size) :
    Calls Try.prog 67 #[.agg x.cs, v] W fun e w' => ∃ v', e = .returned v' ∧ Put base v v' xs (ipBytes x) W w' := by
  obtain ⟨i0, hi0, hz0, hz1, hz2⟩ := info_parts info_u8
  have H := Lib.hid h
  have OK := Lib.hid hok
  have hlit := Lib.hid (ip_lit36 x hok)
  obtain ⟨_, _, t0, t1, p0, p1, sp0, sp1, dp0, dp1⟩ := hok
  clear h
  have PT := Lib.hid hpt
  obtain ⟨A0, c0, hv, _⟩ := H.out.isby
  subst hv
  clear hpt
  go_enter Try.func67, Try.ntmps67
  go_wp2_with (first
    | (go_at_call 16; refine (Ported_val x.proto _ PT.out _).mono ?_; rintro e w1 ⟨rfl, rfl⟩)
    | (at_builtin; refine Hid.out ?_))
  refine Lib.hid ?_
  have hb2 : Below W.heap.size W ((W.alloc (.cells x.cs 75)).alloc (.cells #[.int .u8 69, .int .u8 0, .int .u8 0, .int .u8 36, .int .u8 0, .int .u8 0, .int .u8 0, .int .u8 0, .int .u8 x.ttl, .int .u8 x.proto, .int .u8 0, .int .u8 0] 5)) := ((Below.refl _ _).alloc (Nat.le_refl _) _).alloc (by simp) _
  refine wpList_append_held _ rfl (.tmp 14) (.tmp 26) _ rfl base 5 i0 _ 1 1 Try.underlying32 hi0 hz0 hz1 hz2 rfl (by omega) _ _ _ rfl (owns_below H.out hb2) (some ⟨W.heap.size + 1, 0, none⟩) 12 12 (([69, 0] ++ be 36 2 ++ [0, 0, 0, 0, b8 x.ttl, b8 x.proto, 0, 0]).map byv) rfl (by simp [be_len]) (lit_held (by simp) hlit.out) (byv_one _) (by simp only [maxLen]; omega) (by omega) (by simp; omega) ?_
  intro v1 w1 hown1 hg1 hat1
  have hp1 := put_of_append (zs := [69, 0] ++ be 36 2 ++ [0, 0, 0, 0, b8 x.ttl, b8 x.proto, 0, 0]) (Put.refl H.out hb2) (Below.refl _ _) hg1 (by simpa [be_len] using hown1) hat1
  rw [List.nil_append] at hp1
  have hbox : w1.heap[W.heap.size]? = some (.cells x.cs 75 (0, 0)) := by
    refine (hg1.block _ (by simp; omega) fun e => ?_).trans ((Below.heap_alloc _ _ _ (by simp)).trans (heap_here rfl))
    have := (H.out.block _ e.symm).2; omega
  have HP := Lib.hid hp1
  have HB := Lib.hid hbox
  clear hown1 hg1 hat1 hp1 hbox hb2
  obtain ⟨b, hb⟩ : ∃ b, W.heap.size = b := ⟨_, rfl⟩
  rw [hb] at HB ⊢
  have HBB := Lib.hid hb
  clear hb
  have c0 : w1.cell? ⟨b, 0, none⟩ = some (.int .u32 x.src) := by simp [World.cell?, HB.out]
  go_wp2_with (go_at_call 65; refine Hid.out ?_)
  refine Lib.hid ?_
  refine (put32_int base v1 _ x.src _ HP.out.own OK.out.src.1 (Int.lt_add_one_iff.2 OK.out.src.2) (by simp [be_len]; omega) (Nat.le_trans hbase HP.out.size)).mono ?_
  rintro e w2 ⟨v2, rfl, hp⟩
  have HB2 := Lib.hid (hp.keep HP.out.own HB.out (by decide))
  have HP2 := Lib.hid (HP.out.next (Below.refl _ _) hp rfl)
  clear hp c0 HB HP
  have c1 : w2.cell? ⟨b, 1, none⟩ = some (.int .u32 x.dst) := by simp [World.cell?, HB2.out]
  go_wp2_with (go_at_call 65; refine Hid.out ?_)
  refine Lib.hid ?_
  refine (put32_int base v2 _ x.dst _ HP2.out.own OK.out.dst.1 (Int.lt_add_one_iff.2 OK.out.dst.2) (by simp [be_len]; omega) (Nat.le_trans hbase HP2.out.size)).mono ?_
  rintro e w3 ⟨v3, rfl, hp⟩
  have HB3 := Lib.hid (hp.keep HP2.out.own HB2.out (by decide))
  have hp3 := HP2.out.next (Below.refl _ _) hp rfl
  rw [show ([69, 0] ++ be 36 2 ++ [0, 0, 0, 0, b8 x.ttl, b8 x.proto, 0, 0] ++ be x.src.toNat 4 ++ be x.dst.toNat 4) = head0 36 x from rfl] at hp3
  clear hp c1 HB2 HP2
  obtain ⟨g, cap, cur, rfl, q1, q2, q3, hg⟩ := hp3.own.form (n := xs.length + 20) (by simp [head0_len]) (by omega)
  have HG := Lib.hid hg
  have HP3 := Lib.hid hp3
  clear hg hp3
  have hby : IsBy w3 (some ⟨g, 0, none⟩) (xs.length + 20) (xs ++ head0 36 x) := by
    obtain ⟨A, c, he, _, hq, _⟩ := HP3.out.own.isbyn (n := xs.length + 20) (by simp [head0_len])
    simp only [Value.slice.injEq] at he
    obtain ⟨rfl, _, _⟩ := he
    exact hq
  have hrest := hby.rest (c := cap) (l := xs.length) (by omega) q1
  rw [List.drop_left' rfl, Nat.add_sub_cancel_left] at hrest
  have HR := Lib.hid hrest
  have r1 : IntKind.i64.wrap ((xs.length : Int) + 10) = (xs.length : Int) + 10 := IntWalk.i64_in _ (by omega)
  have r2 : (0 : Int) ≤ (xs.length : Int) + 10 := by omega
  have r3 : (xs.length : Int) + 10 ≤ ((xs.length + 20 : Nat) : Int) := by omega
  have r4 : ((xs.length : Int) + 10).toNat = xs.length + 10 := by omega
  have r5 : (0 : Int) ≤ (xs.length : Int) := by omega
  have r6 : (xs.length : Int) ≤ ((xs.length + 20 : Nat) : Int) := by omega
  have r7 : partA (some ⟨g, 0, none⟩) cap (xs.length + 10) = some ⟨g, xs.length + 10, none⟩ := by unfold partA; rw [if_neg (by omega)]; simp [Addr.add]
  have r8 : xs.length + 20 - (xs.length + 10) = 10 := by omega
  have s3 : ∀ w : World, Sem.run Try.prog (Instr.slice 32 (.slice (some ⟨g, 0, none⟩) (xs.length + 20) cap) (some (.int .i64 ((xs.length : Int) + 10))) none none) w = .ok (.slice (some ⟨g, xs.length + 10, none⟩) 10 (cap - (xs.length + 10))) w := fun w => by
    have := part_l w (some ⟨g, 0, none⟩) (xs.length + 20) cap .i64 ((xs.length : Int) + 10) r2 r3
    rw [r4, r7, r8] at this
    exact this
  have s6 : ∀ w : World, Sem.run Try.prog (Instr.slice 32 (.slice (some ⟨g, 0, none⟩) (xs.length + 20) cap) (some (.int .i64 (xs.length : Int))) none none) w = .ok (.slice (partA (some ⟨g, 0, none⟩) cap xs.length) 20 (cap - xs.length)) w := fun w => by
    have := part_l w (some ⟨g, 0, none⟩) (xs.length + 20) cap .i64 (xs.length : Int) r5 r6
    rw [Int.toNat_natCast, Nat.add_sub_cancel_left] at this
    exact this
  have HQ := Lib.hid (And.intro q1 q3)
  have SL := Lib.hid (show sumL (head0 36 x) < 65536 by unfold sumL; omega)
  have L12 := Lib.hid (show xs.length + 10 + 2 ≤ cur.length by omega)
  clear hby hrest q1 q2 q3 r2 r3 r4 r5 r6 r7 r8
  go_wp2_with fail
  go_region_held3 (fun _ => True) (trivial)
    (first
      | (go_at_call 14; refine (sum_any _ 20 _ _ _ (HR.out.below (Below.refl w3.heap.size w3).drew) (by have := HQ.out.1; omega) (by omega)).mono ?_; rintro e w4 ⟨rfl, hb⟩; have H4 := Lib.hid hb; have hg4 := (hb.block g (by exact (Array.getElem?_eq_some_iff.1 HG.out).1)).trans (show w3.drew.heap[g]? = _ from HG.out); have HG4 := Lib.hid hg4; clear hb hg4)
      | (go_at_call 68; refine (set16_any g (xs.length + 10) 10 _ cur (sumL (head0 36 x)) 5 _ HG4.out SL.out (by omega) L12.out).mono ?_; rintro e w5 ⟨rfl, hg5, ho5⟩; have HG5 := Lib.hid hg5; have HO5 := Lib.hid ho5; clear hg5 ho5))
  have hb34 : Below w3.heap.size w3 w4 := (Below.refl w3.heap.size w3).drew.trans H4.out
  have hgb : g ≠ b := by
    rintro rfl
    have h1 := HG.out
    rw [HB3.out] at h1
    simp at h1
  have hB5 : w5.heap[b]? = some (.cells x.cs 75 (0, 0)) := by
    have hl := (Array.getElem?_eq_some_iff.1 HB3.out).1
    exact (HO5.out.block b (Nat.lt_of_lt_of_le hl hb34.size) (by simpa using Ne.symm hgb)).trans ((hb34.block b hl).trans HB3.out)
  have hp5 : Put base (.slice A0 xs.length c0) (.slice (some ⟨g, 0, none⟩) (xs.length + 20) cap) xs (headOf 36 x) W w5 := (HP3.out.later hb34).set HG4.out HG5.out HO5.out (by rw [head0_len]; omega)
  have HP5 := Lib.hid hp5
  have HB5 := Lib.hid hB5
  clear hp5 hB5 hgb hb34 HG HG4 HG5 HO5 HP3 HB3 H4 HR s3 s6 r1
  have c3 : w5.cell? ⟨b, 3, none⟩ = some (.int .i64 x.proto) := by simp [World.cell?, HB5.out]
  have c4 : w5.cell? ⟨b, 4, none⟩ = some (.int .i64 x.sp) := by simp [World.cell?, HB5.out]
  go_wp2_with (first
    | (go_at_call 16; refine (Ported_val x.proto _ PT.out _).mono ?_; rintro e w1 ⟨rfl, rfl⟩)
    | (go_at_call 24; refine Hid.out ?_))
  refine Lib.hid ?_
  refine (put16_int base _ _ x.sp _ HP5.out.own sp0 (by omega) (by simp [headOf_len]; omega) (Nat.le_trans hbase HP5.out.size)).mono ?_
  rintro e w6 ⟨v6, rfl, hp⟩
  have HB6 := Lib.hid (hp.keep HP5.out.own HB5.out (by decide))
  have HP6 := Lib.hid (HP5.out.next (Below.refl _ _) hp rfl)
  clear hp c3 c4 HP5 HB5
  have c5 : w6.cell? ⟨b, 5, none⟩ = some (.int .i64 x.dp) := by simp [World.cell?, HB6.out]
  go_wp2_with (go_at_call 24; refine Hid.out ?_)
  refine Lib.hid ?_
  refine (put16_int base _ _ x.dp _ HP6.out.own dp0 (by omega) (by simp [headOf_len, be_len]; omega) (Nat.le_trans hbase HP6.out.size)).mono ?_
  rintro e w7 ⟨v7, rfl, hp⟩
  have HP7 := Lib.hid (HP6.out.next (Below.refl _ _) hp rfl)
  clear hp c5 HP6 HB6
  go_wp2_with (at_builtin; refine Hid.out ?_)
  refine Lib.hid ?_
  have hb8 : Below w7.heap.size w7 (w7.alloc (.cells #[.int .u8 0, .int .u8 16, .int .u8 0, .int .u8 0] 5)) := (Below.refl _ _).alloc (Nat.le_refl _) _
  have hbw7 : base ≤ w7.heap.size := Nat.le_trans hbase HP7.out.size
  have hl7 : (xs ++ (headOf 36 x ++ be x.sp.toNat 2 ++ be x.dp.toNat 2)).length = xs.length + 24 := by simp [headOf_len, be_len]
  refine wpList_append_held _ rfl (.tmp 58) (.tmp 59) _ rfl base 5 i0 _ 1 1 Try.underlying32 hi0 hz0 hz1 hz2 rfl (by omega) _ _ _ rfl (owns_below HP7.out.own hb8) (some ⟨w7.heap.size, 0, none⟩) 4 4 (([0, 16, 0, 0] : List UInt8).map byv) rfl (by simp) (lit_held rfl rfl) (byv_one _) (by rw [hl7]; simp only [maxLen]; omega) (by rw [hl7]; omega) (by simp; omega) ?_
  intro v8 w8 hown8 hg8 hat8
  have HP8 := Lib.hid (put_of_append (zs := [0, 16, 0, 0]) HP7.out hb8 hg8 hown8 hat8)
  clear hown8 hg8 hat8 hb8 hl7 hbw7 HP7
  go_wp2_with fail
  go_ret
  exact ⟨_, rfl, by unfold ipBytes; rw [if_pos PT.out]; simpa using HP8.out⟩
theorem iwrite_any (base : Nat) (v : Value) (xs : List UInt8) (x : Hd) (W : World) (h : OwnBy W base v xs) (hok : x.fit) (hx : xs.length ≤ 50000) (hbase : base ≤ W.heap.size) :
    Calls Try.prog 67 #[.agg x.cs, v] W fun e w' => ∃ v', e = .returned v' ∧ Put base v v' xs (ipBytes x) W w' := by
  cases hp : portedB x.proto
  · exact iwrite_false base v xs x W hp h hok hx hbase
  · exact iwrite_true base v xs x W hp h hok hx hbase
end Go.Proofs.Ytkplhmmajafflaa
