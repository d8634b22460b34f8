import Derived.Test.YtkplhmmajafflaaPn
import Derived.Test.YtkplhmmajafflaaPi
import Derived.Test.YtkplhmmajafflaaPl
/- The reference's Bytes. -/
namespace Go.Proofs.Ytkplhmmajafflaa
open Go.RowKit
set_option linter.unusedSimpArgs false
set_option linter.unusedVariables false

set_option maxHeartbeats 1000000 in
theorem rBytes_bad (f : Fr) (h : f.ok) (W : World) (hc : checkF f ≠ 0) : Calls Try.prog 11 #[.agg f.cs] W fun e w' => e = .returned (.tuple #[.slice none 0 0, .int .i64 (checkF f)]) ∧ Below W.heap.size W w' := by
  obtain ⟨c, hcc⟩ : ∃ c, checkF f = c := ⟨_, rfl⟩
  have HC := Lib.hid hcc
  rw [hcc] at hc ⊢
  have hd : (c != 0) = true := by simpa using hc
  clear hcc hc
  have OK := Lib.hid h
  clear h
  go_enter Try.func11, Try.ntmps11
  go_wp2_with (go_at_call 13; refine (rCheck_any f OK.out _).mono ?_; rintro e w1 ⟨rfl, hb⟩; rw [HC.out]; have HB := Lib.hid hb; clear hb)
  go_ret2
  exact ⟨rfl, ((Below.refl _ _).alloc (Nat.le_refl _) _).trans (HB.out.mono (by simp))⟩
set_option maxRecDepth 100000 in
set_option maxHeartbeats 4000000 in
theorem rBytes_good0 (f : Fr) (h : f.ok) (W : World) (hk : f.kind = 0) (hc : checkF f = 0) : Calls Try.prog 11 #[.agg f.cs] W fun e w' => ∃ v, e = .returned (.tuple #[v, .int .i64 0]) ∧ OwnBy w' W.heap.size v (bytesF f) ∧ Below W.heap.size W w' := by
  have HC := Lib.hid hc
  have OK := Lib.hid h
  obtain ⟨i0, hi0, hz0, hz1, hz2⟩ := info_parts info_u8
  have hbd : bodyOf f = be 34997 2 := by unfold bodyOf; rw [if_neg (by omega), if_neg (by omega)]
  have BD := Lib.hid hbd
  have e0 : (f.kind == 0) = true := by simp [hk]
  clear hbd
  clear hc h hk
  go_enter Try.func11, Try.ntmps11
  go_wp2_with (go_at_call 13; refine (rCheck_any f OK.out _).mono ?_; rintro e w2 ⟨rfl, hb⟩; rw [HC.out]; have HB2 := Lib.hid (((Below.refl W.heap.size W).alloc (Nat.le_refl _) (.cells f.cs 31)).trans (hb.mono (by simp))); have HR2 := Lib.hid ((hb.block W.heap.size (by simp)).trans (heap_here (w := W) (o := .cells f.cs 31) rfl)); clear hb)
  obtain ⟨b, hb⟩ : ∃ b, W.heap.size = b := ⟨_, rfl⟩
  rw [hb] at HB2 HR2 ⊢
  have HBB := Lib.hid hb
  have HBS := Lib.hid (show b ≤ w2.heap.size by have := HB2.out.size; omega)
  clear hb
  have c0 : w2.cell? ⟨b, 0, none⟩ = some (.int .u64 f.src) := by simp [World.cell?, HR2.out]
  have c1 : w2.cell? ⟨b, 1, none⟩ = some (.int .u64 f.dst) := by simp [World.cell?, HR2.out]
  go_wp2_with fail
  go_region_held3 (fun w' => w'.cell? ⟨b, 0, none⟩ = some (.int .u64 f.src) ∧ w'.cell? ⟨b, 1, none⟩ = some (.int .u64 f.dst)) (first | (go_keep; done) | exact ⟨by assumption, by assumption⟩)
    (first
      | (go_at_call_of 26 (Value.slice none 0 0); refine (rput_int w2.heap.size _ [] f.dst 6 _ OwnBy.nil OK.out.dst.1 (by omega) (by simp) (by exact Nat.le_refl _)).mono ?_; rintro e w3 ⟨v3, rfl, hp⟩; have H3 := Lib.hid hp; have hb3 := hp.keep OwnBy.nil (show w2.drew.heap[b]? = _ from HR2.out) (by decide); have HR3 := Lib.hid hb3; have c03 : w3.cell? ⟨b, 0, none⟩ = some (.int .u64 f.src) := (by simp [World.cell?, hb3]); have c13 : w3.cell? ⟨b, 1, none⟩ = some (.int .u64 f.dst) := (by simp [World.cell?, hb3]); clear hp hb3)
      | (go_at_call 26; refine (rput_int w2.heap.size v3 _ f.src 6 _ H3.out.own OK.out.src.1 (by omega) (by simp [be_len]) H3.out.size).mono ?_; rintro e w4 ⟨v4, rfl, hp⟩; have H4 := Lib.hid (H3.out.next (Below.refl _ _) hp (by simp)); have hb4 := hp.keep H3.out.own HR3.out (by decide); have HR4 := Lib.hid hb4; have c04 : w4.cell? ⟨b, 0, none⟩ = some (.int .u64 f.src) := (by simp [World.cell?, hb4]); have c14 : w4.cell? ⟨b, 1, none⟩ = some (.int .u64 f.dst) := (by simp [World.cell?, hb4]); clear hp hb4))
  clear c03 c13 c04 c14 c0 c1 HR3 H3
  have ck : w4.cell? ⟨b, 2, none⟩ = some (.int .i64 f.kind) := by simp [World.cell?, HR4.out]
  go_wp2_with (at_builtin; refine Hid.out ?_)
  refine Lib.hid ?_
  have hb5 : Below w4.heap.size w4 (w4.alloc (.cells #[.int .u8 136, .int .u8 181] 5)) := (Below.refl _ _).alloc (Nat.le_refl _) _
  have hbw : w2.heap.size ≤ w4.heap.size := H4.out.size
  have HLE := Lib.hid (show ([] ++ (be f.dst.toNat 6 ++ be f.src.toNat 6)).length ≤ 1000 by simp [be_len])
  refine wpList_append_held _ rfl (.tmp 60) (.tmp 61) _ rfl w2.heap.size 5 i0 _ 1 1 Try.underlying32 hi0 hz0 hz1 hz2 rfl (by omega) _ _ _ rfl (owns_below H4.out.own hb5) (some ⟨w4.heap.size, 0, none⟩) 2 2 (([136, 181] : List UInt8).map byv) rfl (by simp) (lit_held rfl rfl) (byv_one _) (by have := HLE.out; simp only [maxLen]; omega) (by have := HLE.out; omega) (by simp; omega) ?_
  intro v5 w5 hown5 hg5 hat5
  have HR5 := Lib.hid ((hg5.block b (by have := (Array.getElem?_eq_some_iff.1 HR4.out).1; simp; omega) (fun e => row_not_cells H4.out.own HR4.out (by decide) e.symm)).trans ((hb5.block b (Array.getElem?_eq_some_iff.1 HR4.out).1).trans HR4.out))
  have H5 := Lib.hid (put_of_append (zs := [136, 181]) H4.out hb5 hg5 (by simpa using hown5) hat5)
  clear hown5 hg5 hat5 hb5 hbw
  have c14 : w5.cell? ⟨b, 14, none⟩ = some (.int .u64 f.data) := by simp [World.cell?, HR5.out]
  go_wp2_with (go_at_call 26; refine (rput_int w2.heap.size v5 _ f.data 8 _ H5.out.own OK.out.data.1 (by omega) (by simp [be_len]) (by exact H5.out.size)).mono ?_; rintro e w8 ⟨v8, rfl, hp⟩; have H8 := Lib.hid (H5.out.next (Below.refl _ _) hp rfl); clear hp)
  go_ret2
  refine ⟨v8, rfl, ?_, H8.out.below (show Below W.heap.size W w2.drew by rw [HBB.out]; exact HB2.out.drew) (by rw [HBB.out]; exact HBS.out) (by simp [Value.ownBlock])⟩
  have h8 := owns_low H8.out.own (base' := W.heap.size) (by rw [HBB.out]; exact HBS.out)
  unfold OwnBy bytesF
  rw [BD.out]
  simpa [List.append_assoc, show be 34997 2 = [136, 181] from rfl] using h8
set_option maxRecDepth 100000 in
set_option maxHeartbeats 4000000 in
theorem rBytes_good1 (f : Fr) (h : f.ok) (W : World) (hk : f.kind = 1) (hc : checkF f = 0) : Calls Try.prog 11 #[.agg f.cs] W fun e w' => ∃ v, e = .returned (.tuple #[v, .int .i64 0]) ∧ OwnBy w' W.heap.size v (bytesF f) ∧ Below W.heap.size W w' := by
  have HC := Lib.hid hc
  have OK := Lib.hid h
  obtain ⟨i0, hi0, hz0, hz1, hz2⟩ := info_parts info_u8
  have hbd : bodyOf f = be 2054 2 ++ arpBytes f.arp := by unfold bodyOf; rw [if_pos hk]
  have BD := Lib.hid hbd
  have AR := Lib.hid (check_arp hc hk)
  have u0 : IntKind.u64.wrap f.arp.op = f.arp.op := IntWalk.u64_in _ (by have := AR.out; omega)
  have u1 : IntKind.u64.wrap f.arp.si = f.arp.si := IntWalk.u64_in _ (by have := OK.out.arp.si; unfold u32r at this; omega)
  have u2 : IntKind.u64.wrap f.arp.ti = f.arp.ti := IntWalk.u64_in _ (by have := OK.out.arp.ti; unfold u32r at this; omega)
  have e0 : (f.kind == 0) = false := by simp [hk]
  have e1 : (f.kind == 1) = true := by simp [hk]
  clear hbd
  clear hc h hk
  go_enter Try.func11, Try.ntmps11
  go_wp2_with (go_at_call 13; refine (rCheck_any f OK.out _).mono ?_; rintro e w2 ⟨rfl, hb⟩; rw [HC.out]; have HB2 := Lib.hid (((Below.refl W.heap.size W).alloc (Nat.le_refl _) (.cells f.cs 31)).trans (hb.mono (by simp))); have HR2 := Lib.hid ((hb.block W.heap.size (by simp)).trans (heap_here (w := W) (o := .cells f.cs 31) rfl)); clear hb)
  obtain ⟨b, hb⟩ : ∃ b, W.heap.size = b := ⟨_, rfl⟩
  rw [hb] at HB2 HR2 ⊢
  have HBB := Lib.hid hb
  have HBS := Lib.hid (show b ≤ w2.heap.size by have := HB2.out.size; omega)
  clear hb
  have c0 : w2.cell? ⟨b, 0, none⟩ = some (.int .u64 f.src) := by simp [World.cell?, HR2.out]
  have c1 : w2.cell? ⟨b, 1, none⟩ = some (.int .u64 f.dst) := by simp [World.cell?, HR2.out]
  go_wp2_with fail
  go_region_held3 (fun w' => w'.cell? ⟨b, 0, none⟩ = some (.int .u64 f.src) ∧ w'.cell? ⟨b, 1, none⟩ = some (.int .u64 f.dst)) (first | (go_keep; done) | exact ⟨by assumption, by assumption⟩)
    (first
      | (go_at_call_of 26 (Value.slice none 0 0); refine (rput_int w2.heap.size _ [] f.dst 6 _ OwnBy.nil OK.out.dst.1 (by omega) (by simp) (by exact Nat.le_refl _)).mono ?_; rintro e w3 ⟨v3, rfl, hp⟩; have H3 := Lib.hid hp; have hb3 := hp.keep OwnBy.nil (show w2.drew.heap[b]? = _ from HR2.out) (by decide); have HR3 := Lib.hid hb3; have c03 : w3.cell? ⟨b, 0, none⟩ = some (.int .u64 f.src) := (by simp [World.cell?, hb3]); have c13 : w3.cell? ⟨b, 1, none⟩ = some (.int .u64 f.dst) := (by simp [World.cell?, hb3]); clear hp hb3)
      | (go_at_call 26; refine (rput_int w2.heap.size v3 _ f.src 6 _ H3.out.own OK.out.src.1 (by omega) (by simp [be_len]) H3.out.size).mono ?_; rintro e w4 ⟨v4, rfl, hp⟩; have H4 := Lib.hid (H3.out.next (Below.refl _ _) hp (by simp)); have hb4 := hp.keep H3.out.own HR3.out (by decide); have HR4 := Lib.hid hb4; have c04 : w4.cell? ⟨b, 0, none⟩ = some (.int .u64 f.src) := (by simp [World.cell?, hb4]); have c14 : w4.cell? ⟨b, 1, none⟩ = some (.int .u64 f.dst) := (by simp [World.cell?, hb4]); clear hp hb4))
  clear c03 c13 c04 c14 c0 c1 HR3 H3
  have ck : w4.cell? ⟨b, 2, none⟩ = some (.int .i64 f.kind) := by simp [World.cell?, HR4.out]
  have c3 : w4.cell? ⟨b, 3, none⟩ = some (.int .i64 f.arp.op) := by simp [World.cell?, HR4.out]
  have HLE := Lib.hid (show ([] ++ (be f.dst.toNat 6 ++ be f.src.toNat 6)).length ≤ 1000 by simp [be_len])
  go_wp2_with fail
  go_region_held3 (fun w' => w'.cell? ⟨b, 3, none⟩ = some (.int .i64 f.arp.op)) (first | (go_keep; done) | assumption)
    (first
      | (go_at_call 26; refine (rput_int w2.heap.size v5 _ f.arp.op 2 _ H5.out.own AR.out.1 (by omega) (by simp [be_len]) (by exact H5.out.size)).mono ?_; rintro e w6 ⟨v6, rfl, hp⟩; have hr6 := hp.keep H5.out.own HR5.out (by decide); have HR6 := Lib.hid hr6; have c36 : w6.cell? ⟨b, 3, none⟩ = some (.int .i64 f.arp.op) := (by simp [World.cell?, hr6]); have H6 := Lib.hid (H5.out.next (Below.refl _ _) hp rfl); clear hp hr6)
      | (refine step_append_held _ (by rfl) _ _ _ (by rfl) w2.heap.size 5 i0 _ 1 1 Try.underlying32 hi0 hz0 hz1 hz2 rfl (by omega) v4 ([] ++ (be f.dst.toNat 6 ++ be f.src.toNat 6)).length (([] ++ (be f.dst.toNat 6 ++ be f.src.toNat 6)).map byv) (by rfl) (by exact owns_below H4.out.own (((Below.refl w4.heap.size w4).alloc (Nat.le_refl _) _).drew)) (some ⟨w4.heap.size, 0, none⟩) 8 8 (([8, 6, 0, 1, 8, 0, 6, 4] : List UInt8).map byv) (by rfl) (by simp) (by exact lit_held rfl rfl) (byv_one _) (by have := HLE.out; simp only [maxLen]; omega) (by have := HLE.out; omega) (by have := H4.out.size; simp at this ⊢; omega) ?_; intro v5 w5 hown5 hg5 hat5; have hb5 : Below w4.heap.size w4 (w4.alloc (.cells #[.int .u8 8, .int .u8 6, .int .u8 0, .int .u8 1, .int .u8 8, .int .u8 0, .int .u8 6, .int .u8 4] 5)).drew := ((Below.refl w4.heap.size w4).alloc (Nat.le_refl _) _).drew; have hr5 := (hg5.block b (by have := (Array.getElem?_eq_some_iff.1 HR4.out).1; simp; omega) (fun e => row_not_cells H4.out.own HR4.out (by decide) e.symm)).trans ((hb5.block b (Array.getElem?_eq_some_iff.1 HR4.out).1).trans HR4.out); have HR5 := Lib.hid hr5; have c35 : w5.cell? ⟨b, 3, none⟩ = some (.int .i64 f.arp.op) := (by simp [World.cell?, hr5]); have H5 := Lib.hid (put_of_append (zs := [8, 6, 0, 1, 8, 0, 6, 4]) H4.out hb5 hg5 (by simpa using hown5) hat5); clear hown5 hg5 hat5 hb5 hr5))
  clear c3 c35 c36 ck
  have ca : w6.cell? ⟨b, 4, none⟩ = some (.int .u64 f.arp.sm) := by simp [World.cell?, HR6.out]
  have cb : w6.cell? ⟨b, 5, none⟩ = some (.int .u32 f.arp.si) := by simp [World.cell?, HR6.out]
  have hd : Below w6.heap.size w6 w6.drew := (Below.refl w6.heap.size w6).drew
  have HD := Lib.hid (H6.out.later hd)
  have HRD := Lib.hid (show w6.drew.heap[b]? = _ from HR6.out)
  clear hd
  go_wp2_with fail
  go_region_held3 (fun w' => w'.cell? ⟨b, 4, none⟩ = some (.int .u64 f.arp.sm) ∧ w'.cell? ⟨b, 5, none⟩ = some (.int .u32 f.arp.si)) (first | (go_keep; done) | exact ⟨by assumption, by assumption⟩)
    (first
      | (go_at_call_of 26 v6; refine (rput_int w2.heap.size v6 _ f.arp.sm 6 _ HD.out.own OK.out.arp.sm.1 (by omega) (by simp [be_len, headOf_len]) (by exact HD.out.size)).mono ?_; rintro e wa ⟨va, rfl, hp⟩; have hr := hp.keep HD.out.own HRD.out (by decide); have HRa := Lib.hid hr; have ca1 : wa.cell? ⟨b, 4, none⟩ = some (.int .u64 f.arp.sm) := (by simp [World.cell?, hr]); have cb1 : wa.cell? ⟨b, 5, none⟩ = some (.int .u32 f.arp.si) := (by simp [World.cell?, hr]); have Ha := Lib.hid (HD.out.next (Below.refl _ _) hp rfl); clear hp hr)
      | (go_at_call_of 26 va; refine (rput_int w2.heap.size va _ f.arp.si 4 _ Ha.out.own OK.out.arp.si.1 (by omega) (by simp [be_len, headOf_len]) (by exact Ha.out.size)).mono ?_; rintro e wb ⟨vb, rfl, hp⟩; have hr := hp.keep Ha.out.own HRa.out (by decide); have HRb := Lib.hid hr; have ca2 : wb.cell? ⟨b, 4, none⟩ = some (.int .u64 f.arp.sm) := (by simp [World.cell?, hr]); have cb2 : wb.cell? ⟨b, 5, none⟩ = some (.int .u32 f.arp.si) := (by simp [World.cell?, hr]); have Hb := Lib.hid (Ha.out.next (Below.refl _ _) hp rfl); clear hp hr))
  clear ca cb ca1 cb1 ca2 cb2 HD HRD
  have ca : wb.cell? ⟨b, 6, none⟩ = some (.int .u64 f.arp.tm) := by simp [World.cell?, HRb.out]
  have cb : wb.cell? ⟨b, 7, none⟩ = some (.int .u32 f.arp.ti) := by simp [World.cell?, HRb.out]
  have hd : Below wb.heap.size wb wb.drew := (Below.refl wb.heap.size wb).drew
  have HD := Lib.hid (Hb.out.later hd)
  have HRD := Lib.hid (show wb.drew.heap[b]? = _ from HRb.out)
  clear hd
  go_wp2_with fail
  go_region_held3 (fun w' => w'.cell? ⟨b, 6, none⟩ = some (.int .u64 f.arp.tm) ∧ w'.cell? ⟨b, 7, none⟩ = some (.int .u32 f.arp.ti)) (first | (go_keep; done) | exact ⟨by assumption, by assumption⟩)
    (first
      | (go_at_call_of 26 vb; refine (rput_int w2.heap.size vb _ f.arp.tm 6 _ HD.out.own OK.out.arp.tm.1 (by omega) (by simp [be_len, headOf_len]) (by exact HD.out.size)).mono ?_; rintro e wc ⟨vc, rfl, hp⟩; have hr := hp.keep HD.out.own HRD.out (by decide); have HRc := Lib.hid hr; have ca1 : wc.cell? ⟨b, 6, none⟩ = some (.int .u64 f.arp.tm) := (by simp [World.cell?, hr]); have cb1 : wc.cell? ⟨b, 7, none⟩ = some (.int .u32 f.arp.ti) := (by simp [World.cell?, hr]); have Hc := Lib.hid (HD.out.next (Below.refl _ _) hp rfl); clear hp hr)
      | (go_at_call_of 26 vc; refine (rput_int w2.heap.size vc _ f.arp.ti 4 _ Hc.out.own OK.out.arp.ti.1 (by omega) (by simp [be_len, headOf_len]) (by exact Hc.out.size)).mono ?_; rintro e wd ⟨vd, rfl, hp⟩; have hr := hp.keep Hc.out.own HRc.out (by decide); have HRd := Lib.hid hr; have ca2 : wd.cell? ⟨b, 6, none⟩ = some (.int .u64 f.arp.tm) := (by simp [World.cell?, hr]); have cb2 : wd.cell? ⟨b, 7, none⟩ = some (.int .u32 f.arp.ti) := (by simp [World.cell?, hr]); have Hd := Lib.hid (Hc.out.next (Below.refl _ _) hp rfl); clear hp hr))
  clear ca cb ca1 cb1 ca2 cb2 HD HRD
  have c14 : wd.cell? ⟨b, 14, none⟩ = some (.int .u64 f.data) := by simp [World.cell?, HRd.out]
  go_wp2_with (go_at_call 26; refine (rput_int w2.heap.size vd _ f.data 8 _ Hd.out.own OK.out.data.1 (by omega) (by simp [be_len]) (by exact Hd.out.size)).mono ?_; rintro e w8 ⟨v8, rfl, hp⟩; have H8 := Lib.hid (Hd.out.next (Below.refl _ _) hp rfl); clear hp)
  go_ret2
  refine ⟨v8, rfl, ?_, H8.out.below (show Below W.heap.size W w2.drew by rw [HBB.out]; exact HB2.out.drew) (by rw [HBB.out]; exact HBS.out) (by simp [Value.ownBlock])⟩
  have h8 := owns_low H8.out.own (base' := W.heap.size) (by rw [HBB.out]; exact HBS.out)
  unfold OwnBy bytesF
  rw [BD.out]
  simpa [List.append_assoc, show be 2054 2 = [8, 6] from rfl, arpBytes] using h8
set_option maxRecDepth 100000 in
set_option maxHeartbeats 4000000 in
theorem rBytes_good2t (f : Fr) (h : f.ok) (W : World) (hpt : portedB f.ip.proto = true) (hk : f.kind = 2) (hc : checkF f = 0) : Calls Try.prog 11 #[.agg f.cs] W fun e w' => ∃ v, e = .returned (.tuple #[v, .int .i64 0]) ∧ OwnBy w' W.heap.size v (bytesF f) ∧ Below W.heap.size W w' := by
  have HC := Lib.hid hc
  have OK := Lib.hid h
  obtain ⟨i0, hi0, hz0, hz1, hz2⟩ := info_parts info_u8
  have hbd : bodyOf f = be 2048 2 ++ ipBytes f.ip := by unfold bodyOf; rw [if_neg (by omega), if_pos hk]
  have BD := Lib.hid hbd
  have IP := Lib.hid (check_ip hc hk h)
  have HE := Lib.hid (fun w => Header_any 36 f.ip w (by omega) IP.out.ttl0 IP.out.ttl1 IP.out.proto0 IP.out.proto1 h.ip.src h.ip.dst)
  have hib : ipBytes f.ip = headOf 36 f.ip ++ (be f.ip.sp.toNat 2 ++ (be f.ip.dp.toNat 2 ++ [0, 16, 0, 0])) := by unfold ipBytes; simp [hpt]
  have IB := Lib.hid hib
  have e0 : (f.kind == 0) = false := by simp [hk]
  have e1 : (f.kind == 1) = false := by simp [hk]
  have hpv := Lib.hid hpt
  have u0 : IntKind.u64.wrap f.ip.sp = f.ip.sp := IntWalk.u64_in _ (by have := IP.out.sp0; have := IP.out.sp1; omega)
  have u1 : IntKind.u64.wrap f.ip.dp = f.ip.dp := IntWalk.u64_in _ (by have := IP.out.dp0; have := IP.out.dp1; omega)
  clear hbd hib hpt
  clear hc h hk
  go_enter Try.func11, Try.ntmps11
  go_wp2_with (go_at_call 13; refine (rCheck_any f OK.out _).mono ?_; rintro e w2 ⟨rfl, hb⟩; rw [HC.out]; have HB2 := Lib.hid (((Below.refl W.heap.size W).alloc (Nat.le_refl _) (.cells f.cs 31)).trans (hb.mono (by simp))); have HR2 := Lib.hid ((hb.block W.heap.size (by simp)).trans (heap_here (w := W) (o := .cells f.cs 31) rfl)); clear hb)
  obtain ⟨b, hb⟩ : ∃ b, W.heap.size = b := ⟨_, rfl⟩
  rw [hb] at HB2 HR2 ⊢
  have HBB := Lib.hid hb
  have HBS := Lib.hid (show b ≤ w2.heap.size by have := HB2.out.size; omega)
  clear hb
  have c0 : w2.cell? ⟨b, 0, none⟩ = some (.int .u64 f.src) := by simp [World.cell?, HR2.out]
  have c1 : w2.cell? ⟨b, 1, none⟩ = some (.int .u64 f.dst) := by simp [World.cell?, HR2.out]
  go_wp2_with fail
  go_region_held3 (fun w' => w'.cell? ⟨b, 0, none⟩ = some (.int .u64 f.src) ∧ w'.cell? ⟨b, 1, none⟩ = some (.int .u64 f.dst)) (first | (go_keep; done) | exact ⟨by assumption, by assumption⟩)
    (first
      | (go_at_call_of 26 (Value.slice none 0 0); refine (rput_int w2.heap.size _ [] f.dst 6 _ OwnBy.nil OK.out.dst.1 (by omega) (by simp) (by exact Nat.le_refl _)).mono ?_; rintro e w3 ⟨v3, rfl, hp⟩; have H3 := Lib.hid hp; have hb3 := hp.keep OwnBy.nil (show w2.drew.heap[b]? = _ from HR2.out) (by decide); have HR3 := Lib.hid hb3; have c03 : w3.cell? ⟨b, 0, none⟩ = some (.int .u64 f.src) := (by simp [World.cell?, hb3]); have c13 : w3.cell? ⟨b, 1, none⟩ = some (.int .u64 f.dst) := (by simp [World.cell?, hb3]); clear hp hb3)
      | (go_at_call 26; refine (rput_int w2.heap.size v3 _ f.src 6 _ H3.out.own OK.out.src.1 (by omega) (by simp [be_len]) H3.out.size).mono ?_; rintro e w4 ⟨v4, rfl, hp⟩; have H4 := Lib.hid (H3.out.next (Below.refl _ _) hp (by simp)); have hb4 := hp.keep H3.out.own HR3.out (by decide); have HR4 := Lib.hid hb4; have c04 : w4.cell? ⟨b, 0, none⟩ = some (.int .u64 f.src) := (by simp [World.cell?, hb4]); have c14 : w4.cell? ⟨b, 1, none⟩ = some (.int .u64 f.dst) := (by simp [World.cell?, hb4]); clear hp hb4))
  clear c03 c13 c04 c14 c0 c1 HR3 H3
  have ck : w4.cell? ⟨b, 2, none⟩ = some (.int .i64 f.kind) := by simp [World.cell?, HR4.out]
  have c11 : w4.cell? ⟨b, 11, none⟩ = some (.int .i64 f.ip.proto) := by simp [World.cell?, HR4.out]
  go_wp2_with (go_at_call 17; refine (rPorted_val _ true hpv.out _).mono ?_; rintro e w5 ⟨rfl, rfl⟩)
  have c8 : w4.cell? ⟨b, 8, none⟩ = some (.int .u32 f.ip.src) := by simp [World.cell?, HR4.out]
  have c9 : w4.cell? ⟨b, 9, none⟩ = some (.int .u32 f.ip.dst) := by simp [World.cell?, HR4.out]
  have c10 : w4.cell? ⟨b, 10, none⟩ = some (.int .i64 f.ip.ttl) := by simp [World.cell?, HR4.out]
  have HLE := Lib.hid (show ([] ++ (be f.dst.toNat 6 ++ be f.src.toNat 6)).length = 12 by simp [be_len])
  go_region_held3 (fun w' => w'.cell? ⟨b, 8, none⟩ = some (.int .u32 f.ip.src) ∧ w'.cell? ⟨b, 9, none⟩ = some (.int .u32 f.ip.dst) ∧ w'.cell? ⟨b, 10, none⟩ = some (.int .i64 f.ip.ttl) ∧ w'.cell? ⟨b, 11, none⟩ = some (.int .i64 f.ip.proto)) (first | (go_keep; done) | exact ⟨by assumption, by assumption, by assumption, by assumption⟩)
    (first
      | (go_at_call 27; refine (HE.out _).mono ?_; rintro e w6 ⟨y, rfl, hown, hb⟩; have hr6 := (hb.block b (by exact (Array.getElem?_eq_some_iff.1 HR5.out).1)).trans HR5.out; have HR6 := Lib.hid hr6; have H6 := Lib.hid (H5.out.later hb); obtain ⟨A, c, rfl, _, hq, _⟩ := hown.isbyn (n := 20) (headOf_len _ _); have HQ := Lib.hid hq; have d8 : w6.cell? ⟨b, 8, none⟩ = some (.int .u32 f.ip.src) := (by simp [World.cell?, hr6]); have d9 : w6.cell? ⟨b, 9, none⟩ = some (.int .u32 f.ip.dst) := (by simp [World.cell?, hr6]); have d10 : w6.cell? ⟨b, 10, none⟩ = some (.int .i64 f.ip.ttl) := (by simp [World.cell?, hr6]); have d11 : w6.cell? ⟨b, 11, none⟩ = some (.int .i64 f.ip.proto) := (by simp [World.cell?, hr6]); clear hown hb hr6 hq)
      | (refine step_append_held _ (by rfl) _ _ _ (by rfl) w2.heap.size 5 i0 _ 1 1 Try.underlying32 hi0 hz0 hz1 hz2 rfl (by omega) v4 ([] ++ (be f.dst.toNat 6 ++ be f.src.toNat 6)).length (([] ++ (be f.dst.toNat 6 ++ be f.src.toNat 6)).map byv) (by rfl) (by exact owns_below H4.out.own (((Below.refl w4.heap.size w4).alloc (Nat.le_refl _) _).drew)) (some ⟨w4.heap.size, 0, none⟩) 2 2 (([8, 0] : List UInt8).map byv) (by rfl) (by simp) (by exact lit_held rfl rfl) (byv_one _) (by have := HLE.out; simp only [maxLen]; omega) (by have := HLE.out; omega) (by have := H4.out.size; simp at this ⊢; omega) ?_; intro v5 w5 hown5 hg5 hat5; have hb5 : Below w4.heap.size w4 (w4.alloc (.cells #[.int .u8 8, .int .u8 0] 5)).drew := ((Below.refl w4.heap.size w4).alloc (Nat.le_refl _) _).drew; have hr5 := (hg5.block b (by have := (Array.getElem?_eq_some_iff.1 HR4.out).1; simp; omega) (fun e => row_not_cells H4.out.own HR4.out (by decide) e.symm)).trans ((hb5.block b (Array.getElem?_eq_some_iff.1 HR4.out).1).trans HR4.out); have HR5 := Lib.hid hr5; have g8 : w5.cell? ⟨b, 8, none⟩ = some (.int .u32 f.ip.src) := (by simp [World.cell?, hr5]); have g9 : w5.cell? ⟨b, 9, none⟩ = some (.int .u32 f.ip.dst) := (by simp [World.cell?, hr5]); have g10 : w5.cell? ⟨b, 10, none⟩ = some (.int .i64 f.ip.ttl) := (by simp [World.cell?, hr5]); have g11 : w5.cell? ⟨b, 11, none⟩ = some (.int .i64 f.ip.proto) := (by simp [World.cell?, hr5]); have H5 := Lib.hid (put_of_append (zs := [8, 0]) H4.out hb5 hg5 (by simpa using hown5) hat5); clear hown5 hg5 hat5 hb5 hr5)
      | (refine step_append_held _ (by rfl) _ _ _ (by rfl) w2.heap.size 5 i0 _ 1 1 Try.underlying32 hi0 hz0 hz1 hz2 rfl (by omega) v5 ([] ++ (be f.dst.toNat 6 ++ be f.src.toNat 6 ++ [8, 0])).length (([] ++ (be f.dst.toNat 6 ++ be f.src.toNat 6 ++ [8, 0])).map byv) (by rfl) (by exact H6.out.own) A 20 c ((headOf 36 f.ip).map byv) (by rfl) (by simp [headOf_len]) (by exact HQ.out.held) (byv_one _) (by simp [be_len, maxLen]) (by simp [be_len]) (by have := H6.out.size; simp at this ⊢; omega) ?_; intro v7 w7 hown7 hg7 hat7; have hr7 := (hg7.block b (by exact (Array.getElem?_eq_some_iff.1 HR6.out).1) (fun e => row_not_cells H6.out.own HR6.out (by decide) e.symm)).trans HR6.out; have HR7 := Lib.hid hr7; have k8 : w7.cell? ⟨b, 8, none⟩ = some (.int .u32 f.ip.src) := (by simp [World.cell?, hr7]); have k9 : w7.cell? ⟨b, 9, none⟩ = some (.int .u32 f.ip.dst) := (by simp [World.cell?, hr7]); have k10 : w7.cell? ⟨b, 10, none⟩ = some (.int .i64 f.ip.ttl) := (by simp [World.cell?, hr7]); have k11 : w7.cell? ⟨b, 11, none⟩ = some (.int .i64 f.ip.proto) := (by simp [World.cell?, hr7]); have H7 := Lib.hid (put_of_append (zs := headOf 36 f.ip) H6.out (Below.refl _ _) hg7 (by simpa [headOf_len] using hown7) hat7); clear hown7 hg7 hat7 hr7))
  clear c8 c9 c10 c11 d8 d9 d10 d11 g8 g9 g10 g11 k8 k9 k10 k11
  have ca : w7.cell? ⟨b, 12, none⟩ = some (.int .i64 f.ip.sp) := by simp [World.cell?, HR7.out]
  have cb : w7.cell? ⟨b, 13, none⟩ = some (.int .i64 f.ip.dp) := by simp [World.cell?, HR7.out]
  have hd : Below w7.heap.size w7 w7.drew := (Below.refl w7.heap.size w7).drew
  have HD := Lib.hid (H7.out.later hd)
  have HRD := Lib.hid (show w7.drew.heap[b]? = _ from HR7.out)
  clear hd
  go_wp2_with fail
  go_region_held3 (fun w' => w'.cell? ⟨b, 12, none⟩ = some (.int .i64 f.ip.sp) ∧ w'.cell? ⟨b, 13, none⟩ = some (.int .i64 f.ip.dp)) (first | (go_keep; done) | exact ⟨by assumption, by assumption⟩)
    (first
      | (go_at_call_of 26 v7; refine (rput_int w2.heap.size v7 _ f.ip.sp 2 _ HD.out.own IP.out.sp0 (by omega) (by simp [be_len, headOf_len]) (by exact HD.out.size)).mono ?_; rintro e wa ⟨va, rfl, hp⟩; have hr := hp.keep HD.out.own HRD.out (by decide); have HRa := Lib.hid hr; have ca1 : wa.cell? ⟨b, 12, none⟩ = some (.int .i64 f.ip.sp) := (by simp [World.cell?, hr]); have cb1 : wa.cell? ⟨b, 13, none⟩ = some (.int .i64 f.ip.dp) := (by simp [World.cell?, hr]); have Ha := Lib.hid (HD.out.next (Below.refl _ _) hp rfl); clear hp hr)
      | (go_at_call_of 26 va; refine (rput_int w2.heap.size va _ f.ip.dp 2 _ Ha.out.own IP.out.dp0 (by omega) (by simp [be_len, headOf_len]) (by exact Ha.out.size)).mono ?_; rintro e wb ⟨vb, rfl, hp⟩; have hr := hp.keep Ha.out.own HRa.out (by decide); have HRb := Lib.hid hr; have ca2 : wb.cell? ⟨b, 12, none⟩ = some (.int .i64 f.ip.sp) := (by simp [World.cell?, hr]); have cb2 : wb.cell? ⟨b, 13, none⟩ = some (.int .i64 f.ip.dp) := (by simp [World.cell?, hr]); have Hb := Lib.hid (Ha.out.next (Below.refl _ _) hp rfl); clear hp hr))
  clear ca cb ca1 cb1 ca2 cb2 HD HRD
  go_wp2_with (at_builtin; refine Hid.out ?_)
  refine Lib.hid ?_
  have hb5 : Below wb.heap.size wb (wb.alloc (.cells #[.int .u8 0, .int .u8 16, .int .u8 0, .int .u8 0] 5)) := (Below.refl _ _).alloc (Nat.le_refl _) _
  have hbw : w2.heap.size ≤ wb.heap.size := Hb.out.size
  have HLE := Lib.hid (show ([] ++ (be f.dst.toNat 6 ++ be f.src.toNat 6 ++ [8, 0] ++ headOf 36 f.ip ++ be f.ip.sp.toNat 2 ++ be f.ip.dp.toNat 2)).length ≤ 1000 by simp [be_len, headOf_len])
  refine wpList_append_held _ rfl (.tmp 55) (.tmp 56) _ rfl w2.heap.size 5 i0 _ 1 1 Try.underlying32 hi0 hz0 hz1 hz2 rfl (by omega) _ _ _ rfl (owns_below Hb.out.own hb5) (some ⟨wb.heap.size, 0, none⟩) 4 4 (([0, 16, 0, 0] : List UInt8).map byv) rfl (by simp) (lit_held rfl rfl) (byv_one _) (by have := HLE.out; simp only [maxLen]; omega) (by have := HLE.out; omega) (by simp; omega) ?_
  intro vc wc hown5 hg5 hat5
  have HRc := Lib.hid ((hg5.block b (by have := (Array.getElem?_eq_some_iff.1 HRb.out).1; simp; omega) (fun e => row_not_cells Hb.out.own HRb.out (by decide) e.symm)).trans ((hb5.block b (Array.getElem?_eq_some_iff.1 HRb.out).1).trans HRb.out))
  have Hc := Lib.hid (put_of_append (zs := [0, 16, 0, 0]) Hb.out hb5 hg5 (by simpa using hown5) hat5)
  clear hown5 hg5 hat5 hb5 hbw
  have c14 : wc.cell? ⟨b, 14, none⟩ = some (.int .u64 f.data) := by simp [World.cell?, HRc.out]
  go_wp2_with (go_at_call 26; refine (rput_int w2.heap.size vc _ f.data 8 _ Hc.out.own OK.out.data.1 (by omega) (by simp [be_len, headOf_len]) (by exact Hc.out.size)).mono ?_; rintro e w8 ⟨v8, rfl, hp⟩; have H8 := Lib.hid (Hc.out.next (Below.refl _ _) hp rfl); clear hp)
  go_ret2
  refine ⟨v8, rfl, ?_, H8.out.below (show Below W.heap.size W w2.drew by rw [HBB.out]; exact HB2.out.drew) (by rw [HBB.out]; exact HBS.out) (by simp [Value.ownBlock])⟩
  have h8 := owns_low H8.out.own (base' := W.heap.size) (by rw [HBB.out]; exact HBS.out)
  unfold OwnBy bytesF
  rw [BD.out]
  simpa [List.append_assoc, show be 2048 2 = [8, 0] from rfl, IB.out] using h8
set_option maxRecDepth 100000 in
set_option maxHeartbeats 4000000 in
theorem rBytes_good2f (f : Fr) (h : f.ok) (W : World) (hpt : portedB f.ip.proto = false) (hk : f.kind = 2) (hc : checkF f = 0) : Calls Try.prog 11 #[.agg f.cs] W fun e w' => ∃ v, e = .returned (.tuple #[v, .int .i64 0]) ∧ OwnBy w' W.heap.size v (bytesF f) ∧ Below W.heap.size W w' := by
  have HC := Lib.hid hc
  have OK := Lib.hid h
  obtain ⟨i0, hi0, hz0, hz1, hz2⟩ := info_parts info_u8
  have hbd : bodyOf f = be 2048 2 ++ ipBytes f.ip := by unfold bodyOf; rw [if_neg (by omega), if_pos hk]
  have BD := Lib.hid hbd
  have IP := Lib.hid (check_ip hc hk h)
  have HE := Lib.hid (fun w => Header_any 28 f.ip w (by omega) IP.out.ttl0 IP.out.ttl1 IP.out.proto0 IP.out.proto1 h.ip.src h.ip.dst)
  have hib : ipBytes f.ip = headOf 28 f.ip := by unfold ipBytes; simp [hpt]
  have IB := Lib.hid hib
  have e0 : (f.kind == 0) = false := by simp [hk]
  have e1 : (f.kind == 1) = false := by simp [hk]
  have hpv := Lib.hid hpt
  have u0 : IntKind.u64.wrap f.ip.sp = f.ip.sp := IntWalk.u64_in _ (by have := IP.out.sp0; have := IP.out.sp1; omega)
  have u1 : IntKind.u64.wrap f.ip.dp = f.ip.dp := IntWalk.u64_in _ (by have := IP.out.dp0; have := IP.out.dp1; omega)
  clear hbd hib hpt
  clear hc h hk
  go_enter Try.func11, Try.ntmps11
  go_wp2_with (go_at_call 13; refine (rCheck_any f OK.out _).mono ?_; rintro e w2 ⟨rfl, hb⟩; rw [HC.out]; have HB2 := Lib.hid (((Below.refl W.heap.size W).alloc (Nat.le_refl _) (.cells f.cs 31)).trans (hb.mono (by simp))); have HR2 := Lib.hid ((hb.block W.heap.size (by simp)).trans (heap_here (w := W) (o := .cells f.cs 31) rfl)); clear hb)
  obtain ⟨b, hb⟩ : ∃ b, W.heap.size = b := ⟨_, rfl⟩
  rw [hb] at HB2 HR2 ⊢
  have HBB := Lib.hid hb
  have HBS := Lib.hid (show b ≤ w2.heap.size by have := HB2.out.size; omega)
  clear hb
  have c0 : w2.cell? ⟨b, 0, none⟩ = some (.int .u64 f.src) := by simp [World.cell?, HR2.out]
  have c1 : w2.cell? ⟨b, 1, none⟩ = some (.int .u64 f.dst) := by simp [World.cell?, HR2.out]
  go_wp2_with fail
  go_region_held3 (fun w' => w'.cell? ⟨b, 0, none⟩ = some (.int .u64 f.src) ∧ w'.cell? ⟨b, 1, none⟩ = some (.int .u64 f.dst)) (first | (go_keep; done) | exact ⟨by assumption, by assumption⟩)
    (first
      | (go_at_call_of 26 (Value.slice none 0 0); refine (rput_int w2.heap.size _ [] f.dst 6 _ OwnBy.nil OK.out.dst.1 (by omega) (by simp) (by exact Nat.le_refl _)).mono ?_; rintro e w3 ⟨v3, rfl, hp⟩; have H3 := Lib.hid hp; have hb3 := hp.keep OwnBy.nil (show w2.drew.heap[b]? = _ from HR2.out) (by decide); have HR3 := Lib.hid hb3; have c03 : w3.cell? ⟨b, 0, none⟩ = some (.int .u64 f.src) := (by simp [World.cell?, hb3]); have c13 : w3.cell? ⟨b, 1, none⟩ = some (.int .u64 f.dst) := (by simp [World.cell?, hb3]); clear hp hb3)
      | (go_at_call 26; refine (rput_int w2.heap.size v3 _ f.src 6 _ H3.out.own OK.out.src.1 (by omega) (by simp [be_len]) H3.out.size).mono ?_; rintro e w4 ⟨v4, rfl, hp⟩; have H4 := Lib.hid (H3.out.next (Below.refl _ _) hp (by simp)); have hb4 := hp.keep H3.out.own HR3.out (by decide); have HR4 := Lib.hid hb4; have c04 : w4.cell? ⟨b, 0, none⟩ = some (.int .u64 f.src) := (by simp [World.cell?, hb4]); have c14 : w4.cell? ⟨b, 1, none⟩ = some (.int .u64 f.dst) := (by simp [World.cell?, hb4]); clear hp hb4))
  clear c03 c13 c04 c14 c0 c1 HR3 H3
  have ck : w4.cell? ⟨b, 2, none⟩ = some (.int .i64 f.kind) := by simp [World.cell?, HR4.out]
  have c11 : w4.cell? ⟨b, 11, none⟩ = some (.int .i64 f.ip.proto) := by simp [World.cell?, HR4.out]
  go_wp2_with (go_at_call 17; refine (rPorted_val _ false hpv.out _).mono ?_; rintro e w5 ⟨rfl, rfl⟩)
  have c8 : w4.cell? ⟨b, 8, none⟩ = some (.int .u32 f.ip.src) := by simp [World.cell?, HR4.out]
  have c9 : w4.cell? ⟨b, 9, none⟩ = some (.int .u32 f.ip.dst) := by simp [World.cell?, HR4.out]
  have c10 : w4.cell? ⟨b, 10, none⟩ = some (.int .i64 f.ip.ttl) := by simp [World.cell?, HR4.out]
  have HLE := Lib.hid (show ([] ++ (be f.dst.toNat 6 ++ be f.src.toNat 6)).length = 12 by simp [be_len])
  go_region_held3 (fun w' => w'.cell? ⟨b, 8, none⟩ = some (.int .u32 f.ip.src) ∧ w'.cell? ⟨b, 9, none⟩ = some (.int .u32 f.ip.dst) ∧ w'.cell? ⟨b, 10, none⟩ = some (.int .i64 f.ip.ttl) ∧ w'.cell? ⟨b, 11, none⟩ = some (.int .i64 f.ip.proto)) (first | (go_keep; done) | exact ⟨by assumption, by assumption, by assumption, by assumption⟩)
    (first
      | (go_at_call 27; refine (HE.out _).mono ?_; rintro e w6 ⟨y, rfl, hown, hb⟩; have hr6 := (hb.block b (by exact (Array.getElem?_eq_some_iff.1 HR5.out).1)).trans HR5.out; have HR6 := Lib.hid hr6; have H6 := Lib.hid (H5.out.later hb); obtain ⟨A, c, rfl, _, hq, _⟩ := hown.isbyn (n := 20) (headOf_len _ _); have HQ := Lib.hid hq; have d8 : w6.cell? ⟨b, 8, none⟩ = some (.int .u32 f.ip.src) := (by simp [World.cell?, hr6]); have d9 : w6.cell? ⟨b, 9, none⟩ = some (.int .u32 f.ip.dst) := (by simp [World.cell?, hr6]); have d10 : w6.cell? ⟨b, 10, none⟩ = some (.int .i64 f.ip.ttl) := (by simp [World.cell?, hr6]); have d11 : w6.cell? ⟨b, 11, none⟩ = some (.int .i64 f.ip.proto) := (by simp [World.cell?, hr6]); clear hown hb hr6 hq)
      | (refine step_append_held _ (by rfl) _ _ _ (by rfl) w2.heap.size 5 i0 _ 1 1 Try.underlying32 hi0 hz0 hz1 hz2 rfl (by omega) v4 ([] ++ (be f.dst.toNat 6 ++ be f.src.toNat 6)).length (([] ++ (be f.dst.toNat 6 ++ be f.src.toNat 6)).map byv) (by rfl) (by exact owns_below H4.out.own (((Below.refl w4.heap.size w4).alloc (Nat.le_refl _) _).drew)) (some ⟨w4.heap.size, 0, none⟩) 2 2 (([8, 0] : List UInt8).map byv) (by rfl) (by simp) (by exact lit_held rfl rfl) (byv_one _) (by have := HLE.out; simp only [maxLen]; omega) (by have := HLE.out; omega) (by have := H4.out.size; simp at this ⊢; omega) ?_; intro v5 w5 hown5 hg5 hat5; have hb5 : Below w4.heap.size w4 (w4.alloc (.cells #[.int .u8 8, .int .u8 0] 5)).drew := ((Below.refl w4.heap.size w4).alloc (Nat.le_refl _) _).drew; have hr5 := (hg5.block b (by have := (Array.getElem?_eq_some_iff.1 HR4.out).1; simp; omega) (fun e => row_not_cells H4.out.own HR4.out (by decide) e.symm)).trans ((hb5.block b (Array.getElem?_eq_some_iff.1 HR4.out).1).trans HR4.out); have HR5 := Lib.hid hr5; have g8 : w5.cell? ⟨b, 8, none⟩ = some (.int .u32 f.ip.src) := (by simp [World.cell?, hr5]); have g9 : w5.cell? ⟨b, 9, none⟩ = some (.int .u32 f.ip.dst) := (by simp [World.cell?, hr5]); have g10 : w5.cell? ⟨b, 10, none⟩ = some (.int .i64 f.ip.ttl) := (by simp [World.cell?, hr5]); have g11 : w5.cell? ⟨b, 11, none⟩ = some (.int .i64 f.ip.proto) := (by simp [World.cell?, hr5]); have H5 := Lib.hid (put_of_append (zs := [8, 0]) H4.out hb5 hg5 (by simpa using hown5) hat5); clear hown5 hg5 hat5 hb5 hr5)
      | (refine step_append_held _ (by rfl) _ _ _ (by rfl) w2.heap.size 5 i0 _ 1 1 Try.underlying32 hi0 hz0 hz1 hz2 rfl (by omega) v5 ([] ++ (be f.dst.toNat 6 ++ be f.src.toNat 6 ++ [8, 0])).length (([] ++ (be f.dst.toNat 6 ++ be f.src.toNat 6 ++ [8, 0])).map byv) (by rfl) (by exact H6.out.own) A 20 c ((headOf 28 f.ip).map byv) (by rfl) (by simp [headOf_len]) (by exact HQ.out.held) (byv_one _) (by simp [be_len, maxLen]) (by simp [be_len]) (by have := H6.out.size; simp at this ⊢; omega) ?_; intro v7 w7 hown7 hg7 hat7; have hr7 := (hg7.block b (by exact (Array.getElem?_eq_some_iff.1 HR6.out).1) (fun e => row_not_cells H6.out.own HR6.out (by decide) e.symm)).trans HR6.out; have HR7 := Lib.hid hr7; have k8 : w7.cell? ⟨b, 8, none⟩ = some (.int .u32 f.ip.src) := (by simp [World.cell?, hr7]); have k9 : w7.cell? ⟨b, 9, none⟩ = some (.int .u32 f.ip.dst) := (by simp [World.cell?, hr7]); have k10 : w7.cell? ⟨b, 10, none⟩ = some (.int .i64 f.ip.ttl) := (by simp [World.cell?, hr7]); have k11 : w7.cell? ⟨b, 11, none⟩ = some (.int .i64 f.ip.proto) := (by simp [World.cell?, hr7]); have H7 := Lib.hid (put_of_append (zs := headOf 28 f.ip) H6.out (Below.refl _ _) hg7 (by simpa [headOf_len] using hown7) hat7); clear hown7 hg7 hat7 hr7))
  clear c8 c9 c10 c11 d8 d9 d10 d11 g8 g9 g10 g11 k8 k9 k10 k11
  have c14 : w7.cell? ⟨b, 14, none⟩ = some (.int .u64 f.data) := by simp [World.cell?, HR7.out]
  go_wp2_with (go_at_call 26; refine (rput_int w2.heap.size v7 _ f.data 8 _ H7.out.own OK.out.data.1 (by omega) (by simp [be_len, headOf_len]) (by exact H7.out.size)).mono ?_; rintro e w8 ⟨v8, rfl, hp⟩; have H8 := Lib.hid (H7.out.next (Below.refl _ _) hp rfl); clear hp)
  go_ret2
  refine ⟨v8, rfl, ?_, H8.out.below (show Below W.heap.size W w2.drew by rw [HBB.out]; exact HB2.out.drew) (by rw [HBB.out]; exact HBS.out) (by simp [Value.ownBlock])⟩
  have h8 := owns_low H8.out.own (base' := W.heap.size) (by rw [HBB.out]; exact HBS.out)
  unfold OwnBy bytesF
  rw [BD.out]
  simpa [List.append_assoc, show be 2048 2 = [8, 0] from rfl, IB.out] using h8
theorem rBytes_good (f : Fr) (h : f.ok) (W : World) (hc : checkF f = 0) : Calls Try.prog 11 #[.agg f.cs] W fun e w' => ∃ v, e = .returned (.tuple #[v, .int .i64 0]) ∧ OwnBy w' W.heap.size v (bytesF f) ∧ Below W.heap.size W w' := by
  rcases check_kind hc with hk | hk | hk
  · exact rBytes_good0 f h W hk hc
  · exact rBytes_good1 f h W hk hc
  · cases hp : portedB f.ip.proto
    · exact rBytes_good2f f h W hp hk hc
    · exact rBytes_good2t f h W hp hk hc
end Go.Proofs.Ytkplhmmajafflaa
