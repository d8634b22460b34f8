import Derived.Test.YtkplhmmajafflaaPk
import Derived.Test.YtkplhmmajafflaaPh
/- A frame encoded. -/
namespace Go.Proofs.Ytkplhmmajafflaa
open Go.RowKit
set_option linter.unusedSimpArgs false
set_option linter.unusedVariables false

@[go_sem] theorem nil_data (w : World) : (nilAhead 207 77 (.agg #[]) "leafmesh/packet.write").run Try.prog w = .ok (some false) w := by kernel_rfl
@[go_sem] theorem nil_arp (x : Array Value) (w : World) : (nilAhead 207 74 (.agg x) "leafmesh/packet.write").run Try.prog w = .ok (some false) w := by kernel_rfl
@[go_sem] theorem nil_ip (x : Array Value) (w : World) : (nilAhead 207 75 (.agg x) "leafmesh/packet.write").run Try.prog w = .ok (some false) w := by kernel_rfl
/-- The part of a frame, as a value. -/
def partV (f : Fr) : Value := if f.kind = 1 then .iface 74 (.agg f.arp.cs) else if f.kind = 2 then .iface 75 (.agg f.ip.cs) else .iface 77 (.agg #[])
set_option maxRecDepth 100000 in
theorem partOf_any (f : Fr) (v : Value) (hv : partV f = v) (W : World) : Calls Try.prog 22 #[.agg f.cs] W fun e w' => e = .returned v ∧ Below W.heap.size W w' := by
  subst hv
  unfold partV
  by_cases h1 : f.kind = 1
  · rw [if_pos h1]
    have e1 : (f.kind == 1) = true := by simp [h1]
    clear h1
    go_enter Try.func22, Try.ntmps22
    go_wp2_with fail
    go_ret
    exact ⟨rfl, (Below.refl _ _).alloc (Nat.le_refl _) _⟩
  · rw [if_neg h1]
    have e1 : (f.kind == 1) = false := by simp [h1]
    by_cases h2 : f.kind = 2
    · rw [if_pos h2]
      have e2 : (f.kind == 2) = true := by simp [h2]
      clear h1 h2
      go_enter Try.func22, Try.ntmps22
      go_wp2_with fail
      go_ret
      exact ⟨rfl, (Below.refl _ _).alloc (Nat.le_refl _) _⟩
    · rw [if_neg h2]
      have e2 : (f.kind == 2) = false := by simp [h2]
      clear h1 h2
      go_enter Try.func22, Try.ntmps22
      go_wp2_with fail
      go_ret
      exact ⟨rfl, (Below.refl _ _).alloc (Nat.le_refl _) _⟩
/-- The type and the part of a frame. -/
def bodyOf (f : Fr) : List UInt8 := if f.kind = 1 then be 2054 2 ++ arpBytes f.arp else if f.kind = 2 then be 2048 2 ++ ipBytes f.ip else be 34997 2
def bytesF (f : Fr) : List UInt8 := be f.dst.toNat 6 ++ be f.src.toNat 6 ++ bodyOf f ++ be f.data.toNat 8
theorem Bytes_bad (f : Fr) (h : f.ok) (W : World) (hc : checkF f ≠ 0) : Calls Try.prog 10 #[.agg f.cs] W fun e w' => e = .returned (.tuple #[.slice none 0 0, .int .i64 (checkF f)]) ∧ Below W.heap.size W w' := by
  obtain ⟨c, hcc⟩ : ∃ c, checkF f = c := ⟨_, rfl⟩
  have HC := Lib.hid hcc
  rw [hcc] at hc ⊢
  have hd : (c != 0) = true := by simpa using hc
  clear hcc hc
  have OK := Lib.hid h
  clear h
  go_enter Try.func10, Try.ntmps10
  go_wp2_with (go_at_call 12; refine (Check_any f OK.out _).mono ?_; rintro e w1 ⟨rfl, hb⟩; rw [HC.out]; have HB := Lib.hid hb; clear hb)
  go_ret2
  exact ⟨rfl, ((Below.refl _ _).alloc (Nat.le_refl _) _).trans (HB.out.mono (by simp))⟩
theorem check_kind {f : Fr} (hc : checkF f = 0) : f.kind = 0 ∨ f.kind = 1 ∨ f.kind = 2 := by
  unfold checkF at hc
  split at hc
  · omega
  · split at hc
    · omega
    · split at hc
      · omega
      · omega
theorem check_arp {f : Fr} (hc : checkF f = 0) (hk : f.kind = 1) : 0 ≤ f.arp.op ∧ f.arp.op < 65536 := by
  unfold checkF at hc
  repeat (split at hc; first | omega | skip)
  all_goals omega
theorem check_ip {f : Fr} (hc : checkF f = 0) (hk : f.kind = 2) (h : f.ok) : f.ip.fit := by
  have : (0 ≤ f.ip.ttl ∧ f.ip.ttl ≤ 255) ∧ (0 ≤ f.ip.proto ∧ f.ip.proto ≤ 255) ∧ (0 ≤ f.ip.sp ∧ f.ip.sp ≤ 65535) ∧ (0 ≤ f.ip.dp ∧ f.ip.dp ≤ 65535) := by
    unfold checkF at hc
    repeat (split at hc; first | omega | skip)
    all_goals omega
  exact ⟨h.ip.src, h.ip.dst, this.1.1, this.1.2, this.2.1.1, this.2.1.2, this.2.2.1.1, this.2.2.1.2, this.2.2.2.1, this.2.2.2.2⟩
set_option maxRecDepth 100000 in
set_option maxHeartbeats 4000000 in
theorem Bytes_good0 (f : Fr) (h : f.ok) (W : World) (hk : f.kind = 0) (hc : checkF f = 0) : Calls Try.prog 10 #[.agg f.cs] W fun e w' => ∃ v, e = .returned (.tuple #[v, .int .i64 0]) ∧ OwnBy w' W.heap.size v (bytesF f) ∧ Below W.heap.size W w' := by
  have HC := Lib.hid hc
  have OK := Lib.hid h
  have hpv : partV f = .iface 77 (.agg #[]) := by unfold partV; rw [if_neg (by omega), if_neg (by omega)]
  have PV := Lib.hid hpv
  have hbd : bodyOf f = be 34997 2 ++ ([] : List UInt8) := by unfold bodyOf; rw [if_neg (by omega), if_neg (by omega)]; simp
  have hle : (([] : List UInt8)).length ≤ 1000 := by simp
  have LB := Lib.hid (show ([] ++ (be f.dst.toNat 6 ++ be f.src.toNat 6 ++ be 34997 2 ++ ([] : List UInt8))).length ≤ 100000 by simp [be_len] <;> omega)
  have BD := Lib.hid hbd
  clear hc h hk hpv hbd hle
  go_enter Try.func10, Try.ntmps10
  go_wp2_with (first
    | (go_at_call 12; refine (Check_any f OK.out _).mono ?_; rintro e w1 ⟨rfl, hb⟩; rw [HC.out]; have HB1 := Lib.hid (((Below.refl W.heap.size W).alloc (Nat.le_refl _) (.cells f.cs 31)).trans (hb.mono (by simp))); have hr1 := (hb.block W.heap.size (by simp)).trans (heap_here (w := W) (o := .cells f.cs 31) rfl); have HR1 := Lib.hid hr1; have hrow := row?_whole (n := 15) hr1 (by simp); clear hb hr1)
    | (go_at_call 22; refine (partOf_any f _ PV.out _).mono ?_; rintro e w2 ⟨rfl, hb⟩; have HB2 := Lib.hid (HB1.out.trans (hb.mono HB1.out.size)); have HR2 := Lib.hid ((hb.block _ (Array.getElem?_eq_some_iff.1 HR1.out).1).trans HR1.out); clear hb hrow))
  obtain ⟨b, hb⟩ : ∃ b, W.heap.size = b := ⟨_, rfl⟩
  rw [hb] at HB2 HR2 ⊢
  have HBB := Lib.hid hb
  have HBS := Lib.hid (show b ≤ w2.heap.size by have := HB2.out.size; omega)
  clear hb HB1 HR1
  have c0 : w2.cell? ⟨b, 0, none⟩ = some (.int .u64 f.src) := by simp [World.cell?, HR2.out]
  have c1 : w2.cell? ⟨b, 1, none⟩ = some (.int .u64 f.dst) := by simp [World.cell?, HR2.out]
  go_wp2_with fail
  go_region_held3 (fun w' => w'.cell? ⟨b, 0, none⟩ = some (.int .u64 f.src) ∧ w'.cell? ⟨b, 1, none⟩ = some (.int .u64 f.dst)) (first | (go_keep; done) | exact ⟨by assumption, by assumption⟩)
    (first
      | (go_at_call_of 23 (Value.slice none 0 0); refine (mac_any w2.heap.size _ [] f.dst _ OwnBy.nil OK.out.dst.1 (Int.lt_add_one_iff.2 OK.out.dst.2) (by simp) (by exact Nat.le_refl _)).mono ?_; rintro e w3 ⟨v3, rfl, hp⟩; have H3 := Lib.hid hp; have hb3 := hp.keep OwnBy.nil (show w2.drew.heap[b]? = _ from HR2.out) (by decide); have HR3 := Lib.hid hb3; have c03 : w3.cell? ⟨b, 0, none⟩ = some (.int .u64 f.src) := (by simp [World.cell?, hb3]); have c13 : w3.cell? ⟨b, 1, none⟩ = some (.int .u64 f.dst) := (by simp [World.cell?, hb3]); clear hp hb3)
      | (go_at_call 23; refine (mac_any w2.heap.size v3 _ f.src _ H3.out.own OK.out.src.1 (Int.lt_add_one_iff.2 OK.out.src.2) (by simp [be_len]) H3.out.size).mono ?_; rintro e w4 ⟨v4, rfl, hp⟩; have H4 := Lib.hid (H3.out.next (Below.refl _ _) hp (by simp)); have hb4 := hp.keep H3.out.own HR3.out (by decide); have HR4 := Lib.hid hb4; have c04 : w4.cell? ⟨b, 0, none⟩ = some (.int .u64 f.src) := (by simp [World.cell?, hb4]); have c14 : w4.cell? ⟨b, 1, none⟩ = some (.int .u64 f.dst) := (by simp [World.cell?, hb4]); clear hp hb4))
  clear c03 c13 c04 c14 c0 c1 HR3 H3
  go_wp2_with fail
  go_region_held3 (fun _ => True) (trivial)
    (first
      | (go_at_call 69; refine (dkind_any _).mono ?_; rintro e w5 ⟨rfl, hb⟩; have H5 := Lib.hid (H4.out.later ((Below.refl w4.heap.size w4).drew.trans hb)); have HR5 := Lib.hid ((hb.block b (by exact (Array.getElem?_eq_some_iff.1 HR4.out).1)).trans (show w4.drew.heap[b]? = _ from HR4.out)); clear hb)
      | (go_at_call 24; refine (put16_int w2.heap.size v4 _ 34997 _ H5.out.own (by omega) (by omega) (by simp [be_len]) H5.out.size).mono ?_; rintro e w6 ⟨v6, rfl, hp⟩; have H6 := Lib.hid (H5.out.next (Below.refl _ _) hp rfl); have HR6 := Lib.hid (hp.keep H5.out.own HR5.out (by decide)); clear hp)
      | (go_at_call 70; refine (dwrite_any w2.heap.size v6 _ _ H6.out.own).mono ?_; rintro e w7 ⟨v7, rfl, hp⟩; have H7 := Lib.hid (H6.out.next (Below.refl _ _) hp rfl); have HR7 := Lib.hid (hp.keep H6.out.own HR6.out (by decide)); clear hp))
  all_goals
    have c14 : w7.cell? ⟨b, 14, none⟩ = some (.int .u64 f.data) := by simp [World.cell?, HR7.out]
    have HL := Lib.hid H7.out.own
    have HBW := Lib.hid (show Below b W w7 from H7.out.below (show Below b W w2.drew from HB2.out.drew) HBS.out (by simp [Value.ownBlock]))
    clear H4 H5 H6 HR4 HR5 HR6 HR2
    go_wp2_with (go_at_call 25; refine (put64_int w2.heap.size v7 _ f.data _ HL.out OK.out.data.1 (Int.lt_add_one_iff.2 OK.out.data.2) LB.out (by exact H7.out.size)).mono ?_; rintro e w8 ⟨v8, rfl, hp⟩; have H8 := Lib.hid (H7.out.next (Below.refl _ _) hp rfl); clear hp)
    go_ret2
    refine ⟨v8, rfl, ?_, H8.out.below (show Below W.heap.size W w2.drew by rw [HBB.out]; exact HB2.out.drew) (by rw [HBB.out]; exact HBS.out) (by simp [Value.ownBlock])⟩
    have h8 := owns_low H8.out.own (base' := W.heap.size) (by rw [HBB.out]; exact HBS.out)
    unfold OwnBy bytesF
    rw [BD.out]
    simpa [List.append_assoc] using h8
set_option maxRecDepth 100000 in
set_option maxHeartbeats 4000000 in
theorem Bytes_good1 (f : Fr) (h : f.ok) (W : World) (hk : f.kind = 1) (hc : checkF f = 0) : Calls Try.prog 10 #[.agg f.cs] W fun e w' => ∃ v, e = .returned (.tuple #[v, .int .i64 0]) ∧ OwnBy w' W.heap.size v (bytesF f) ∧ Below W.heap.size W w' := by
  have HC := Lib.hid hc
  have OK := Lib.hid h
  have hpv : partV f = .iface 74 (.agg f.arp.cs) := by unfold partV; rw [if_pos hk]
  have PV := Lib.hid hpv
  have hbd : bodyOf f = be 2054 2 ++ arpBytes f.arp := by unfold bodyOf; rw [if_pos hk]
  have hle : (arpBytes f.arp).length ≤ 1000 := by simp [arpBytes, be_len]
  have LB := Lib.hid (show ([] ++ (be f.dst.toNat 6 ++ be f.src.toNat 6 ++ be 2054 2 ++ arpBytes f.arp)).length ≤ 100000 by simp [be_len] <;> omega)
  have AR := Lib.hid (check_arp hc hk)
  have BD := Lib.hid hbd
  clear hc h hk hpv hbd hle
  go_enter Try.func10, Try.ntmps10
  go_wp2_with (first
    | (go_at_call 12; refine (Check_any f OK.out _).mono ?_; rintro e w1 ⟨rfl, hb⟩; rw [HC.out]; have HB1 := Lib.hid (((Below.refl W.heap.size W).alloc (Nat.le_refl _) (.cells f.cs 31)).trans (hb.mono (by simp))); have hr1 := (hb.block W.heap.size (by simp)).trans (heap_here (w := W) (o := .cells f.cs 31) rfl); have HR1 := Lib.hid hr1; have hrow := row?_whole (n := 15) hr1 (by simp); clear hb hr1)
    | (go_at_call 22; refine (partOf_any f _ PV.out _).mono ?_; rintro e w2 ⟨rfl, hb⟩; have HB2 := Lib.hid (HB1.out.trans (hb.mono HB1.out.size)); have HR2 := Lib.hid ((hb.block _ (Array.getElem?_eq_some_iff.1 HR1.out).1).trans HR1.out); clear hb hrow))
  obtain ⟨b, hb⟩ : ∃ b, W.heap.size = b := ⟨_, rfl⟩
  rw [hb] at HB2 HR2 ⊢
  have HBB := Lib.hid hb
  have HBS := Lib.hid (show b ≤ w2.heap.size by have := HB2.out.size; omega)
  clear hb HB1 HR1
  have c0 : w2.cell? ⟨b, 0, none⟩ = some (.int .u64 f.src) := by simp [World.cell?, HR2.out]
  have c1 : w2.cell? ⟨b, 1, none⟩ = some (.int .u64 f.dst) := by simp [World.cell?, HR2.out]
  go_wp2_with fail
  go_region_held3 (fun w' => w'.cell? ⟨b, 0, none⟩ = some (.int .u64 f.src) ∧ w'.cell? ⟨b, 1, none⟩ = some (.int .u64 f.dst)) (first | (go_keep; done) | exact ⟨by assumption, by assumption⟩)
    (first
      | (go_at_call_of 23 (Value.slice none 0 0); refine (mac_any w2.heap.size _ [] f.dst _ OwnBy.nil OK.out.dst.1 (Int.lt_add_one_iff.2 OK.out.dst.2) (by simp) (by exact Nat.le_refl _)).mono ?_; rintro e w3 ⟨v3, rfl, hp⟩; have H3 := Lib.hid hp; have hb3 := hp.keep OwnBy.nil (show w2.drew.heap[b]? = _ from HR2.out) (by decide); have HR3 := Lib.hid hb3; have c03 : w3.cell? ⟨b, 0, none⟩ = some (.int .u64 f.src) := (by simp [World.cell?, hb3]); have c13 : w3.cell? ⟨b, 1, none⟩ = some (.int .u64 f.dst) := (by simp [World.cell?, hb3]); clear hp hb3)
      | (go_at_call 23; refine (mac_any w2.heap.size v3 _ f.src _ H3.out.own OK.out.src.1 (Int.lt_add_one_iff.2 OK.out.src.2) (by simp [be_len]) H3.out.size).mono ?_; rintro e w4 ⟨v4, rfl, hp⟩; have H4 := Lib.hid (H3.out.next (Below.refl _ _) hp (by simp)); have hb4 := hp.keep H3.out.own HR3.out (by decide); have HR4 := Lib.hid hb4; have c04 : w4.cell? ⟨b, 0, none⟩ = some (.int .u64 f.src) := (by simp [World.cell?, hb4]); have c14 : w4.cell? ⟨b, 1, none⟩ = some (.int .u64 f.dst) := (by simp [World.cell?, hb4]); clear hp hb4))
  clear c03 c13 c04 c14 c0 c1 HR3 H3
  go_wp2_with fail
  go_region_held3 (fun _ => True) (trivial)
    (first
      | (go_at_call 63; refine (akind_any f.arp _).mono ?_; rintro e w5 ⟨rfl, hb⟩; have H5 := Lib.hid (H4.out.later ((Below.refl w4.heap.size w4).drew.trans hb)); have HR5 := Lib.hid ((hb.block b (by exact (Array.getElem?_eq_some_iff.1 HR4.out).1)).trans (show w4.drew.heap[b]? = _ from HR4.out)); clear hb)
      | (go_at_call 24; refine (put16_int w2.heap.size v4 _ 2054 _ H5.out.own (by omega) (by omega) (by simp [be_len]) H5.out.size).mono ?_; rintro e w6 ⟨v6, rfl, hp⟩; have H6 := Lib.hid (H5.out.next (Below.refl _ _) hp rfl); have HR6 := Lib.hid (hp.keep H5.out.own HR5.out (by decide)); clear hp)
      | (go_at_call 64; refine (awrite_any w2.heap.size v6 _ f.arp _ H6.out.own OK.out.arp AR.out.1 AR.out.2 (by simp [be_len]) (by exact H6.out.size)).mono ?_; rintro e w7 ⟨v7, rfl, hp⟩; have H7 := Lib.hid (H6.out.next (Below.refl _ _) hp rfl); have HR7 := Lib.hid (hp.keep H6.out.own HR6.out (by decide)); clear hp))
  all_goals
    have c14 : w7.cell? ⟨b, 14, none⟩ = some (.int .u64 f.data) := by simp [World.cell?, HR7.out]
    have HL := Lib.hid H7.out.own
    have HBW := Lib.hid (show Below b W w7 from H7.out.below (show Below b W w2.drew from HB2.out.drew) HBS.out (by simp [Value.ownBlock]))
    clear H4 H5 H6 HR4 HR5 HR6 HR2
    go_wp2_with (go_at_call 25; refine (put64_int w2.heap.size v7 _ f.data _ HL.out OK.out.data.1 (Int.lt_add_one_iff.2 OK.out.data.2) LB.out (by exact H7.out.size)).mono ?_; rintro e w8 ⟨v8, rfl, hp⟩; have H8 := Lib.hid (H7.out.next (Below.refl _ _) hp rfl); clear hp)
    go_ret2
    refine ⟨v8, rfl, ?_, H8.out.below (show Below W.heap.size W w2.drew by rw [HBB.out]; exact HB2.out.drew) (by rw [HBB.out]; exact HBS.out) (by simp [Value.ownBlock])⟩
    have h8 := owns_low H8.out.own (base' := W.heap.size) (by rw [HBB.out]; exact HBS.out)
    unfold OwnBy bytesF
    rw [BD.out]
    simpa [List.append_assoc] using h8
set_option maxRecDepth 100000 in
set_option maxHeartbeats 4000000 in
theorem Bytes_good2 (f : Fr) (h : f.ok) (W : World) (hk : f.kind = 2) (hc : checkF f = 0) : Calls Try.prog 10 #[.agg f.cs] W fun e w' => ∃ v, e = .returned (.tuple #[v, .int .i64 0]) ∧ OwnBy w' W.heap.size v (bytesF f) ∧ Below W.heap.size W w' := by
  have HC := Lib.hid hc
  have OK := Lib.hid h
  have hpv : partV f = .iface 75 (.agg f.ip.cs) := by unfold partV; rw [if_neg (by omega), if_pos hk]
  have PV := Lib.hid hpv
  have hbd : bodyOf f = be 2048 2 ++ ipBytes f.ip := by unfold bodyOf; rw [if_neg (by omega), if_pos hk]
  have hle : (ipBytes f.ip).length ≤ 1000 := by unfold ipBytes; split <;> simp [headOf_len, be_len]
  have LB := Lib.hid (show ([] ++ (be f.dst.toNat 6 ++ be f.src.toNat 6 ++ be 2048 2 ++ ipBytes f.ip)).length ≤ 100000 by simp [be_len] <;> omega)
  have IP := Lib.hid (check_ip hc hk h)
  have BD := Lib.hid hbd
  clear hc h hk hpv hbd hle
  go_enter Try.func10, Try.ntmps10
  go_wp2_with (first
    | (go_at_call 12; refine (Check_any f OK.out _).mono ?_; rintro e w1 ⟨rfl, hb⟩; rw [HC.out]; have HB1 := Lib.hid (((Below.refl W.heap.size W).alloc (Nat.le_refl _) (.cells f.cs 31)).trans (hb.mono (by simp))); have hr1 := (hb.block W.heap.size (by simp)).trans (heap_here (w := W) (o := .cells f.cs 31) rfl); have HR1 := Lib.hid hr1; have hrow := row?_whole (n := 15) hr1 (by simp); clear hb hr1)
    | (go_at_call 22; refine (partOf_any f _ PV.out _).mono ?_; rintro e w2 ⟨rfl, hb⟩; have HB2 := Lib.hid (HB1.out.trans (hb.mono HB1.out.size)); have HR2 := Lib.hid ((hb.block _ (Array.getElem?_eq_some_iff.1 HR1.out).1).trans HR1.out); clear hb hrow))
  obtain ⟨b, hb⟩ : ∃ b, W.heap.size = b := ⟨_, rfl⟩
  rw [hb] at HB2 HR2 ⊢
  have HBB := Lib.hid hb
  have HBS := Lib.hid (show b ≤ w2.heap.size by have := HB2.out.size; omega)
  clear hb HB1 HR1
  have c0 : w2.cell? ⟨b, 0, none⟩ = some (.int .u64 f.src) := by simp [World.cell?, HR2.out]
  have c1 : w2.cell? ⟨b, 1, none⟩ = some (.int .u64 f.dst) := by simp [World.cell?, HR2.out]
  go_wp2_with fail
  go_region_held3 (fun w' => w'.cell? ⟨b, 0, none⟩ = some (.int .u64 f.src) ∧ w'.cell? ⟨b, 1, none⟩ = some (.int .u64 f.dst)) (first | (go_keep; done) | exact ⟨by assumption, by assumption⟩)
    (first
      | (go_at_call_of 23 (Value.slice none 0 0); refine (mac_any w2.heap.size _ [] f.dst _ OwnBy.nil OK.out.dst.1 (Int.lt_add_one_iff.2 OK.out.dst.2) (by simp) (by exact Nat.le_refl _)).mono ?_; rintro e w3 ⟨v3, rfl, hp⟩; have H3 := Lib.hid hp; have hb3 := hp.keep OwnBy.nil (show w2.drew.heap[b]? = _ from HR2.out) (by decide); have HR3 := Lib.hid hb3; have c03 : w3.cell? ⟨b, 0, none⟩ = some (.int .u64 f.src) := (by simp [World.cell?, hb3]); have c13 : w3.cell? ⟨b, 1, none⟩ = some (.int .u64 f.dst) := (by simp [World.cell?, hb3]); clear hp hb3)
      | (go_at_call 23; refine (mac_any w2.heap.size v3 _ f.src _ H3.out.own OK.out.src.1 (Int.lt_add_one_iff.2 OK.out.src.2) (by simp [be_len]) H3.out.size).mono ?_; rintro e w4 ⟨v4, rfl, hp⟩; have H4 := Lib.hid (H3.out.next (Below.refl _ _) hp (by simp)); have hb4 := hp.keep H3.out.own HR3.out (by decide); have HR4 := Lib.hid hb4; have c04 : w4.cell? ⟨b, 0, none⟩ = some (.int .u64 f.src) := (by simp [World.cell?, hb4]); have c14 : w4.cell? ⟨b, 1, none⟩ = some (.int .u64 f.dst) := (by simp [World.cell?, hb4]); clear hp hb4))
  clear c03 c13 c04 c14 c0 c1 HR3 H3
  go_wp2_with fail
  go_region_held3 (fun _ => True) (trivial)
    (first
      | (go_at_call 66; refine (ikind_any f.ip _).mono ?_; rintro e w5 ⟨rfl, hb⟩; have H5 := Lib.hid (H4.out.later ((Below.refl w4.heap.size w4).drew.trans hb)); have HR5 := Lib.hid ((hb.block b (by exact (Array.getElem?_eq_some_iff.1 HR4.out).1)).trans (show w4.drew.heap[b]? = _ from HR4.out)); clear hb)
      | (go_at_call 24; refine (put16_int w2.heap.size v4 _ 2048 _ H5.out.own (by omega) (by omega) (by simp [be_len]) H5.out.size).mono ?_; rintro e w6 ⟨v6, rfl, hp⟩; have H6 := Lib.hid (H5.out.next (Below.refl _ _) hp rfl); have HR6 := Lib.hid (hp.keep H5.out.own HR5.out (by decide)); clear hp)
      | (go_at_call 67; refine (iwrite_any w2.heap.size v6 _ f.ip _ H6.out.own IP.out (by simp [be_len]) (by exact H6.out.size)).mono ?_; rintro e w7 ⟨v7, rfl, hp⟩; have H7 := Lib.hid (H6.out.next (Below.refl _ _) hp rfl); have HR7 := Lib.hid (hp.keep H6.out.own HR6.out (by decide)); clear hp))
  all_goals
    have c14 : w7.cell? ⟨b, 14, none⟩ = some (.int .u64 f.data) := by simp [World.cell?, HR7.out]
    have HL := Lib.hid H7.out.own
    have HBW := Lib.hid (show Below b W w7 from H7.out.below (show Below b W w2.drew from HB2.out.drew) HBS.out (by simp [Value.ownBlock]))
    clear H4 H5 H6 HR4 HR5 HR6 HR2
    go_wp2_with (go_at_call 25; refine (put64_int w2.heap.size v7 _ f.data _ HL.out OK.out.data.1 (Int.lt_add_one_iff.2 OK.out.data.2) LB.out (by exact H7.out.size)).mono ?_; rintro e w8 ⟨v8, rfl, hp⟩; have H8 := Lib.hid (H7.out.next (Below.refl _ _) hp rfl); clear hp)
    go_ret2
    refine ⟨v8, rfl, ?_, H8.out.below (show Below W.heap.size W w2.drew by rw [HBB.out]; exact HB2.out.drew) (by rw [HBB.out]; exact HBS.out) (by simp [Value.ownBlock])⟩
    have h8 := owns_low H8.out.own (base' := W.heap.size) (by rw [HBB.out]; exact HBS.out)
    unfold OwnBy bytesF
    rw [BD.out]
    simpa [List.append_assoc] using h8
theorem Bytes_good (f : Fr) (h : f.ok) (W : World) (hc : checkF f = 0) : Calls Try.prog 10 #[.agg f.cs] W fun e w' => ∃ v, e = .returned (.tuple #[v, .int .i64 0]) ∧ OwnBy w' W.heap.size v (bytesF f) ∧ Below W.heap.size W w' := by
  rcases check_kind hc with hk | hk | hk
  · exact Bytes_good0 f h W hk hc
  · exact Bytes_good1 f h W hk hc
  · exact Bytes_good2 f h W hk hc
end Go.Proofs.Ytkplhmmajafflaa
