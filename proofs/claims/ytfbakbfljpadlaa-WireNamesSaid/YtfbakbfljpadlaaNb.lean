import Derived.Test.YtfbakbfljpadlaaNa
import Derived.Test.YtfbakbfljpadlaaLi
import Derived.Test.YtfbakbfljpadlaaBb
/- The walk of WireNames. -/
namespace Go.Proofs.Ytfbakbfljpadlaa
open Go.RowKit Go.Maps
set_option linter.unusedSimpArgs false
set_option linter.unusedVariables false

/-- The chapter's writer, at one of its steps. -/
structure NW (W w : World) (B g : Nat) (r : Wr) (bs : List UInt8) (op : Bool) : Prop where
  below : Below W.heap.size W w
  WB : W.heap.size ≤ B
  Bw : B ≤ w.heap.size
  wr : r.At w B g
  bs : r.bs = bs
  lim : r.lim = 4
  has : Maps.has r.D (ilit 0) = op
theorem NW.wrote {W w w' : World} {B g : Nat} {r : Wr} {bs l : List UInt8} {op : Bool} (h : NW W w B g r bs op) (hw : Wrote B g r l w w') : ∃ r', NW W w' B g r' (bs ++ l) op := by
  obtain ⟨⟨b, hat, hk⟩, ho⟩ := hw
  exact ⟨r.more b l, Wrote.below ⟨⟨b, hat, hk⟩, ho⟩ h.wr h.below h.WB h.Bw, h.WB, Nat.le_trans h.Bw ho.size, hat, by simp [Wr.more, h.bs], h.lim, h.has⟩
theorem NW.later {W w w' : World} {B g : Nat} {r : Wr} {bs : List UInt8} {op : Bool} (h : NW W w B g r bs op) (hb : Below w.heap.size w w') : NW W w' B g r bs op :=
  ⟨h.below.trans (hb.mono h.below.size), h.WB, Nat.le_trans h.Bw hb.size, h.wr.below hb, h.bs, h.lim, h.has⟩
theorem NW.end {W w : World} {B g : Nat} {r : Wr} {bs : List UInt8} {op : Bool} (h : NW W w B g r bs op) (n k : Nat) (e : PutEnd) (he : (if k < 8 ∧ 256 ^ k ≤ n then PutEnd.range else if (4 : Int) < bs.length + k then .full else .ok) = e) : putEnd r n k = e := by
  unfold putEnd
  rw [h.lim, h.bs]
  exact he

set_option maxRecDepth 100000 in
set_option maxHeartbeats 2000000 in
theorem names_any (W : World) : Calls Try.prog 8 #[] W fun e w' => e = .returned (.bool true) ∧ Below W.heap.size W w' := by
  go_enter Try.func8, Try.ntmps8
  go_wp2_with (first
    | (go_at_call 9; refine (lives_any _).mono ?_; rintro e w1 ⟨rfl, hb1⟩; have HB1 := Lib.hid hb1; clear hb1)
    | (go_at_call 30; refine (NewWriter_any 4 _ (by omega) (by omega)).mono ?_; rintro e w2 ⟨g, mm, rfl, hat, hb2⟩; have HAT := Lib.hid hat; have HB2 := Lib.hid hb2; clear hat hb2)
    | (go_at_call 36; refine Hid.out ?_))
  refine Lib.hid ?_
  have hBw : w1.heap.size ≤ w2.heap.size := HB2.out.size
  refine (Mark_any (Wr.new 4 mm) w1.heap.size g _ HAT.out hBw (by simp [Wr.new])).mono ?_
  rintro e w3 (⟨h1, rfl, h2⟩ | ⟨h1, rfl, h2⟩)
  · simp [putEnd, Wr.new] at h1
  obtain ⟨b3, hat3, hk3, ho3⟩ := h2
  have hI : ∃ r, NW W w3 w1.heap.size g r [0, 0] true := by
    have hb3 : Below W.heap.size W w3 := by
      refine ho3.below (HB1.out.trans (HB2.out.mono HB1.out.size)) (Nat.le_trans HB1.out.size hBw) fun x hx => ?_
      have h1 := HAT.out.gbase
      have h2 : w1.heap.size ≤ mm := HAT.out.mbase
      have h3 := HB1.out.size
      simp only [Wr.S, List.mem_cons, List.mem_nil_iff, or_false] at hx
      rcases hx with rfl | rfl | rfl
      · omega
      · simp [Wr.new]; omega
      · simp [Wr.blk, Wr.new, Wr.v, Value.ownBlock]; omega
    refine ⟨_, hb3, HB1.out.size, Nat.le_trans hBw ho3.size, hat3, ?_, rfl, ?_⟩
    · simp [Wr.marks, Wr.more, Wr.new, be]
      decide
    · simp [Wr.marks, Wr.more, Wr.new]
      rfl
  obtain ⟨B, hB⟩ : ∃ B, w1.heap.size = B := ⟨_, rfl⟩
  rw [hB] at hI
  obtain ⟨r3, hI3⟩ := hI
  have H3 := Lib.hid hI3
  rw [show (((Wr.new 4 mm).bs.length : Nat) : Int) = 0 from rfl]
  clear hI3 hat3 hk3 ho3 hB h1 hBw HAT HB2
  go_wp2_with (go_at_call 43; refine Hid.out ?_)
  refine Lib.hid ?_
  refine (WU_any 43 1 r3 B g _ 7 H3.out.wr H3.out.Bw (.inl ⟨rfl, rfl⟩)).mono ?_
  rintro e w4 hp
  obtain ⟨rfl, hw⟩ := put_ok_of hp (H3.out.end 7 1 .ok (by first | rfl | simp [be]))
  obtain ⟨r4, hI4⟩ := H3.out.wrote hw
  have H4 := Lib.hid hI4
  clear hp hw hI4 H3
  go_wp2_with (go_at_call 43; refine Hid.out ?_)
  refine Lib.hid ?_
  refine (WU_any 43 1 r4 B g _ 8 H4.out.wr H4.out.Bw (.inl ⟨rfl, rfl⟩)).mono ?_
  rintro e w5 hp
  obtain ⟨rfl, hw⟩ := put_ok_of hp (H4.out.end 8 1 .ok (by first | rfl | simp [be]))
  obtain ⟨r5, hI5⟩ := H4.out.wrote hw
  have H5 := Lib.hid hI5
  clear hp hw hI5 H4
  go_wp2_with (go_at_call 43; refine Hid.out ?_)
  refine Lib.hid ?_
  refine (WU_any 43 1 r5 B g _ 9 H5.out.wr H5.out.Bw (.inl ⟨rfl, rfl⟩)).mono ?_
  rintro e w6 hp
  obtain ⟨rfl, hw⟩ := put_full_of hp (H5.out.end 9 1 .full (by first | rfl | simp [be]))
  obtain ⟨r6, hI6⟩ := H5.out.wrote hw
  have hbs6 : r6.bs = [0, 0, 7, 8] := by rw [hI6.bs]; decide
  have H6 := Lib.hid hI6
  have HBS6 := Lib.hid hbs6
  clear hp hw hI6 H5 hbs6
  go_wp2_with (go_at_call 38; refine Hid.out ?_)
  refine Lib.hid ?_
  refine (Patch_open r6 B g 0 _ H6.out.wr (by rw [HBS6.out]; decide) H6.out.has (by unfold Wr.gap; rw [HBS6.out]; decide) H6.out.Bw).mono ?_
  rintro e w7 ⟨rfl, hat7, ho7⟩
  have hI7 : NW W w7 B g (r6.patched 0) [0, 2, 7, 8] false := by
    refine ⟨ho7.below H6.out.below H6.out.below.size (fun x hx => Nat.le_trans H6.out.WB (H6.out.wr.low x hx)), H6.out.WB, Nat.le_trans H6.out.Bw ho7.size, hat7, ?_, H6.out.lim, ?_⟩
    · simp only [Wr.patched, Wr.gap, HBS6.out]; decide
    · exact Maps.has_del_same ..
  obtain ⟨r7, hr7⟩ : ∃ r7, r6.patched 0 = r7 := ⟨_, rfl⟩
  rw [hr7] at hI7
  have H7 := Lib.hid hI7
  clear hr7 hI7 hat7 ho7 H6 HBS6
  go_wp2_with (go_at_call 38; refine Hid.out ?_)
  refine Lib.hid ?_
  refine (Patch_none r7 B g 0 _ H7.out.wr (by decide) H7.out.has).mono ?_
  rintro e w8 ⟨rfl, hb8⟩
  have H8 := Lib.hid (H7.out.later hb8)
  clear hb8 H7
  go_wp2_with (go_at_call 10; refine Hid.out ?_)
  refine Lib.hid ?_
  have hby : IsBy (w8.alloc (.cells #[.int .u8 1, .int .u8 2, .int .u8 3, .int .u8 4] 5)) (some ⟨w8.heap.size, 0, none⟩) 4 [1, 2, 3, 4] := isby_new rfl rfl rfl
  refine (NewReader_any _ 4 4 [1, 2, 3, 4] _ hby (by omega)).mono ?_
  rintro e w9 ⟨gr, b, rfl, hnew⟩
  have H9 := Lib.hid (H8.out.later (((Below.refl _ w8).alloc (Nat.le_refl _) (.cells #[.int .u8 1, .int .u8 2, .int .u8 3, .int .u8 4] 5)).trans (hnew.below.mono (by simp))))
  have HNEW := Lib.hid hnew
  have hgr : w8.heap.size < gr := by have := hnew.new; simp at this; omega
  have hsz8 := H8.out.Bw
  clear hnew hby
  go_wp2_with (go_at_call 16; refine Hid.out ?_)
  refine Lib.hid ?_
  have hU := RU_any 16 1 ⟨0, 4, b, 0, 0⟩ [1, 2, 3, 4] gr w9 HNEW.out.rd HNEW.out.ok HNEW.out.by' (.inl ⟨rfl, rfl⟩)
  rw [show Rd.num ⟨0, 4, b, 0, 0⟩ [1, 2, 3, 4] 1 = 1 from rfl, show Rd.past ⟨0, 4, b, 0, 0⟩ ((1 : Nat) : Int) = ⟨1, 4, b, 0, 0⟩ from rfl] at hU
  refine hU.mono ?_
  rintro e w10 ⟨rfl, ht⟩
  have hok : ∀ p e er fa, p ≤ e → e ≤ 4 → Rd.ok ⟨p, e, b, er, fa⟩ := fun p e er fa h1 h2 => ⟨h1, Nat.le_trans h2 HNEW.out.ok.en, HNEW.out.ok.nc, HNEW.out.ok.small⟩
  have HOK := Lib.hid hok
  have hb9 : Below w8.heap.size w8 w9 := ((Below.refl _ w8).alloc (Nat.le_refl _) (.cells #[.int .u8 1, .int .u8 2, .int .u8 3, .int .u8 4] 5)).trans (HNEW.out.below.mono (by simp))
  have hb10 : Below w8.heap.size w8 w10 := ht.1.below hb9 hb9.size (fun x hx => by simp at hx; omega)
  have HB10 := Lib.hid hb10
  have HY10 := Lib.hid (show Bys w10 ⟨1, 4, b, 0, 0⟩ [1, 2, 3, 4] from HNEW.out.by'.turned HNEW.out.rd ht.1 rfl)
  have HR10 := Lib.hid ht.2
  clear hU ht hok hb9 hb10 HNEW H9
  go_wp2_with (go_at_call 14; refine Hid.out ?_)
  refine Lib.hid ?_
  have hS := Sub_any ⟨1, 4, b, 0, 0⟩ 2 gr w10 HR10.out (HOK.out _ _ _ _ (by omega) (by omega))
  rw [show Rd.sub ⟨1, 4, b, 0, 0⟩ 2 = ⟨1, 3, b, 0, 0⟩ from rfl, show Rd.past ⟨1, 4, b, 0, 0⟩ 2 = ⟨3, 4, b, 0, 0⟩ from rfl] at hS
  refine hS.mono ?_
  rintro e w11 ⟨gs, rfl, hgs, hsub, ht⟩
  have hgg : gr ≠ gs := by have := HR10.out.lt; omega
  have hgs8 : w8.heap.size ≤ gs := Nat.le_trans HB10.out.size hgs
  have HB11 := Lib.hid (ht.1.below HB10.out HB10.out.size (fun x hx => by simp at hx; omega))
  have HY11 := Lib.hid (show Bys w11 ⟨1, 3, b, 0, 0⟩ [1, 2, 3, 4] from HY10.out.turned HR10.out ht.1 rfl)
  have HR11 := Lib.hid ht.2
  have HS11 := Lib.hid hsub
  clear hS ht hsub hgs HY10 HR10 HB10
  go_wp2_with (go_at_call 16; refine Hid.out ?_)
  refine Lib.hid ?_
  have hU := RU_any 16 1 ⟨1, 3, b, 0, 0⟩ [1, 2, 3, 4] gs w11 HS11.out (HOK.out _ _ _ _ (by omega) (by omega)) HY11.out (.inl ⟨rfl, rfl⟩)
  rw [show Rd.num ⟨1, 3, b, 0, 0⟩ [1, 2, 3, 4] 1 = 2 from rfl, show Rd.past ⟨1, 3, b, 0, 0⟩ ((1 : Nat) : Int) = ⟨2, 3, b, 0, 0⟩ from rfl] at hU
  refine hU.mono ?_
  rintro e w12 ⟨rfl, ht⟩
  have HB12 := Lib.hid (ht.1.below HB11.out HB11.out.size (fun x hx => by simp at hx; omega))
  have HY12 := Lib.hid (show Bys w12 ⟨2, 3, b, 0, 0⟩ [1, 2, 3, 4] from HY11.out.turned HS11.out ht.1 rfl)
  have HR12 := Lib.hid (HR11.out.only ht.1 (by simpa using hgg))
  have HS12 := Lib.hid ht.2
  clear hU ht HB11 HY11 HR11 HS11
  go_wp2_with (first
    | (go_at_call 13; refine (At_any _ gs _ HS12.out).mono ?_; rintro e w' ⟨rfl, rfl⟩)
    | (go_at_call 42; refine Hid.out ?_))
  refine Lib.hid ?_
  have hU := RU_any 42 2 ⟨2, 3, b, 0, 0⟩ [1, 2, 3, 4] gs w12 HS12.out (HOK.out _ _ _ _ (by omega) (by omega)) HY12.out (.inr (.inl ⟨rfl, rfl⟩))
  rw [show Rd.num ⟨2, 3, b, 0, 0⟩ [1, 2, 3, 4] 2 = 0 from rfl, show Rd.past ⟨2, 3, b, 0, 0⟩ ((2 : Nat) : Int) = ⟨2, 3, b, 4, 2⟩ from rfl] at hU
  refine hU.mono ?_
  rintro e w13 ⟨rfl, ht⟩
  have HB13 := Lib.hid (ht.1.below HB12.out HB12.out.size (fun x hx => by simp at hx; omega))
  have HY13 := Lib.hid (show Bys w13 ⟨3, 4, b, 0, 0⟩ [1, 2, 3, 4] from HY12.out.turned HS12.out ht.1 rfl)
  have HR13 := Lib.hid (HR12.out.only ht.1 (by simpa using hgg))
  have HS13 := Lib.hid ht.2
  clear hU ht HB12 HY12 HR12 HS12
  go_wp2_with (first
    | (go_at_call 18; refine (Fault_any _ gs _ HS13.out).mono ?_; rintro e w14 ⟨rfl, hb14⟩; have HB14 := Lib.hid hb14; clear hb14)
    | (go_at_call 16; refine Hid.out ?_))
  refine Lib.hid ?_
  have hU := RU_any 16 1 ⟨3, 4, b, 0, 0⟩ [1, 2, 3, 4] gr w14 (HR13.out.below HB14.out) (HOK.out _ _ _ _ (by omega) (by omega)) (HY13.out.turned HR13.out (Only.of_below HB14.out _) rfl) (.inl ⟨rfl, rfl⟩)
  rw [show Rd.num ⟨3, 4, b, 0, 0⟩ [1, 2, 3, 4] 1 = 4 from rfl, show Rd.past ⟨3, 4, b, 0, 0⟩ ((1 : Nat) : Int) = ⟨4, 4, b, 0, 0⟩ from rfl] at hU
  refine hU.mono ?_
  rintro e w15 ⟨rfl, ht⟩
  have HB15 := Lib.hid (ht.1.below (HB13.out.trans (HB14.out.mono HB13.out.size)) (Nat.le_trans HB13.out.size HB14.out.size) (fun x hx => by simp at hx; omega))
  clear hU ht HB13 HY13 HR13 HS13 HB14
  go_wp2_with (first
    | (go_at_call 30; refine (NewWriter_bad _ _ (by omega)).mono ?_; rintro e w' ⟨rfl, rfl⟩)
    | (go_at_call 36; refine (mark_nil _).mono ?_; rintro e w' ⟨rfl, rfl⟩)
    | (go_at_call 17; refine (fail_nil _).mono ?_; rintro e w' ⟨rfl, rfl⟩)
    | (go_at_call 43; refine (wu8_nil _).mono ?_; rintro e w' ⟨rfl, rfl⟩)
    | (go_at_call 44; refine (wu64_nil _).mono ?_; rintro e w' ⟨rfl, rfl⟩)
    | (go_at_call 34; refine (wbytes_nil _).mono ?_; rintro e w' ⟨rfl, rfl⟩)
    | (go_at_call 38; refine (patch_nil _).mono ?_; rintro e w' ⟨rfl, rfl⟩)
    | (go_at_call 41; refine (wlen_nil _).mono ?_; rintro e w' ⟨rfl, rfl⟩)
    | (go_at_call_of 40 (Value.pointer none); refine (wout_nil _).mono ?_; rintro e w' ⟨rfl, rfl⟩)
    | (go_at_call 16; refine (ru8_nil _).mono ?_; rintro e w' ⟨rfl, rfl⟩)
    | (go_at_call 45; refine (ru48_nil _).mono ?_; rintro e w' ⟨rfl, rfl⟩)
    | (go_at_call 15; refine (bytes_nil _).mono ?_; rintro e w' ⟨rfl, rfl⟩)
    | (go_at_call 14; refine (sub_nil _).mono ?_; rintro e w' ⟨rfl, rfl⟩)
    | (go_at_call 12; refine (left_nil _).mono ?_; rintro e w' ⟨rfl, rfl⟩)
    | (go_at_call 13; refine (at_nil _).mono ?_; rintro e w' ⟨rfl, rfl⟩)
    | (go_at_call 18; refine Hid.out ?_))
  refine Lib.hid ?_
  refine (fault_nil _).mono ?_
  rintro e w16 ⟨rfl, hb16⟩
  have hbx : Below w15.heap.size w15 w16 := ((Below.refl _ w15).alloc (Nat.le_refl _) (.cells #[.int .i64 4, .int .i64 2] 36)).trans (hb16.mono (by simp))
  have hx : w16.heap[w15.heap.size]? = some (.cells #[.int .i64 4, .int .i64 2] 36 (0, 0)) := (hb16.block w15.heap.size (by simp)).trans (heap_here rfl)
  have hx0 : w16.cell? ⟨w15.heap.size, 0, none⟩ = some (.int .i64 4) := by simp [World.cell?, hx]
  have hx1 : w16.cell? ⟨w15.heap.size, 1, none⟩ = some (.int .i64 2) := by simp [World.cell?, hx]
  have H16 := Lib.hid (H8.out.later (HB15.out.trans (hbx.mono HB15.out.size)))
  have hlt16 : w15.heap.size < w16.heap.size := (Array.getElem?_eq_some_iff.1 hx).1
  clear hb16 hbx HB15 H8 HOK
  go_wp2_with (go_at_call 40; refine Hid.out ?_)
  refine Lib.hid ?_
  refine (Out_any r7 B g w16 H16.out.wr).mono ?_
  rintro e w17 ⟨v, rfl, hown, hb17⟩
  obtain ⟨A, c, rfl, hc, hisb, _⟩ := isby_of_owns hown
  rw [H16.out.bs, show ([0, 2, 7, 8] : List UInt8).length = 4 from rfl] at hisb ⊢
  have hcv := run_string (P := Try.prog) (src := 22) (dst := 9) (e := 5) Try.underlying22 Try.underlying5 Try.underlying9 (c := c) hisb
  have hy0 : w17.cell? ⟨w15.heap.size, 0, none⟩ = some (.int .i64 4) := (hb17.cell (p := ⟨w15.heap.size, 0, none⟩) hlt16).trans hx0
  have hy1 : w17.cell? ⟨w15.heap.size, 1, none⟩ = some (.int .i64 2) := (hb17.cell (p := ⟨w15.heap.size, 1, none⟩) hlt16).trans hx1
  have HFIN := Lib.hid (H16.out.later hb17)
  clear hown hisb hb17 hx hx0 hx1 H16
  go_wp2_with fail
  go_ret
  exact ⟨rfl, HFIN.out.below⟩
end Go.Proofs.Ytfbakbfljpadlaa
