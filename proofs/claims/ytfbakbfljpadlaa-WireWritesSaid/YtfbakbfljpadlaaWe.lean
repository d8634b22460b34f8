import Derived.Test.YtfbakbfljpadlaaWd
import Derived.Deep.RegionLaw
import Derived.BigRegion
/- Marks. -/
namespace Go.Proofs.Ytfbakbfljpadlaa
open Go.RowKit Go.Maps
set_option linter.unusedSimpArgs false
set_option linter.unusedVariables false
attribute [local go_sem ↓] Go.wp_at_zero Go.wp_at_succ

/-- The writer with other marks. -/
def Wr.marks (r : Wr) (D : DataW Unit) (cnt : Nat) : Wr := { r with D := D, cnt := cnt }
def ilit (n : Int) : Lit := .int .i64 n
theorem keyI : Keyed Try.prog 3 := int_keyed Try.underlying3
theorem wf_i64 {n : Int} (h1 : -9223372036854775808 ≤ n) (h2 : n ≤ 9223372036854775807) : (Lit.int .i64 n).wf = true := WalkArith.wf_i64 ⟨h1, h2⟩

/-- The marks have turned. -/
theorem Wr.At.marked {r : Wr} {w w' : World} {base g : Nat} {D : DataW Unit} {cnt : Nat} (h : r.At w base g) (hm : w'.ownsMap Try.prog 3 unitElem r.m cnt D) (hg : Only [r.m] w w') : (r.marks D cnt).At w' base g :=
  ⟨(hg.block g h.lt (by have := h.gm; simpa using this)).trans h.box, owns_only h.own hg (fun k hk => by have := (h.apart k hk).2.1; simpa using this), hm, h.lim0, h.lim1, h.len, h.gbase, h.mbase⟩

def MarkPost (r : Wr) (base g : Nat) (W : World) (e : Ending) (w' : World) : Prop :=
  (putEnd r 0 2 = .full ∧ e = .returned (.tuple #[.int .i64 0, .int .i64 7]) ∧ Wrote base g r [] W w') ∨
  (putEnd r 0 2 = .ok ∧ e = .returned (.tuple #[.int .i64 r.bs.length, .int .i64 0]) ∧ ∃ b, (((r.more b (be 0 2)).marks (r.D.put (ilit r.bs.length) (.agg [])) (r.cnt + 1))).At w' base g ∧ (∀ k, (r.more b (be 0 2)).v.ownBlock = some k → r.v.ownBlock = some k ∨ W.heap.size ≤ k) ∧ Only (r.S g) W w')

set_option maxHeartbeats 1000000 in
theorem Mark_any (r : Wr) (base g : Nat) (W : World) (h : r.At W base g) (hbase : base ≤ W.heap.size) (hcnt : r.cnt ≤ 1000000) :
    Calls Try.prog 36 #[.pointer (some ⟨g, 0, none⟩)] W (MarkPost r base g W) := by
  have H := Lib.hid h
  have HP := Lib.hid (put16_any r base g W 0 2 (by omega) h (by omega) (by omega) hbase)
  have hl := h.len
  have hl1 := h.lim1
  clear h
  go_enter Try.func36, Try.ntmps36
  go_wp2_with (go_at_call 41; refine (Len_any r base g _ H.out).mono ?_; rintro e w1 ⟨rfl, rfl⟩)
  refine HP.out.mono ?_
  rintro e w1 (⟨h1, rfl, h2⟩ | ⟨h1, rfl, h2⟩ | ⟨h1, rfl, h2⟩)
  · simp [putEnd] at h1
    split at h1 <;> cases h1
  · go_wp2_with fail
    go_ret2
    exact .inl ⟨h1, rfl, h2⟩
  · obtain ⟨⟨b, hat, hblk⟩, honly⟩ := h2
    have hc2 := hat.cell 2
    simp [Wr.cs, Wr.more] at hc2
    have HAT := Lib.hid hat
    have HBK := Lib.hid hblk
    have HON := Lib.hid honly
    have H1 := Lib.hid h1
    clear hat hblk honly h1
    go_wp2_with (at_mapUpdate; refine Hid.out ?_)
    refine Lib.hid ?_
    refine wpList_mapUpdate_own _ rfl _ _ _ 84 rfl 3 89 keyI Try.underlying84 unitElem r.m r.cnt r.D rfl HAT.out.map (by unfold maxLen; omega) _ _ (ilit r.bs.length) rfl rfl (keyOf_int_mk Try.underlying3 (wf_i64 (by omega) (by omega))) (.agg []) [] unitElem_mk ?_
    intro w2 hown2 hg2
    have ho : Only [r.m] w1 w2 := (Only.refl _ _).grown hg2 fun k hk => .inl (by simp at hk; simp [hk])
    have hat2 := HAT.out.marked (D := r.D.put (ilit r.bs.length) (.agg [])) (cnt := r.cnt + 1) hown2 ho
    have HAT2 := Lib.hid hat2
    have HO := Lib.hid ho
    clear hown2 hg2 ho hat2
    go_wp2_with fail
    go_ret2
    exact .inr ⟨H1.out, rfl, b, HAT2.out, HBK.out, HON.out.trans (HO.out.mono (by intro x hx; simp at hx; simp [Wr.S, hx]))⟩

theorem marked_same {r : Wr} {base g : Nat} {W w' : World} (h : r.At W base g) (hb : Below W.heap.size W w') : Wrote base g r [] W w' := wrote_none h (Only.of_below hb _)

set_option maxHeartbeats 1000000 in
theorem Patch_none (r : Wr) (base g : Nat) (x : Int) (W : World) (h : r.At W base g) (hx : (Lit.int .i64 x).wf = true) (hn : Maps.has r.D (ilit x) = false) :
    Calls Try.prog 38 #[.pointer (some ⟨g, 0, none⟩), .int .i64 x] W fun e w' => e = .returned (.int .i64 16) ∧ Below W.heap.size W w' := by
  have hc2 := h.cell 2
  simp [Wr.cs] at hc2
  have H := Lib.hid h
  have HN := Lib.hid hn
  have HX := Lib.hid hx
  clear h hn hx
  go_enter Try.func38, Try.ntmps38
  go_wp2_with (first
    | (go_at_call 59; refine (wmade_any r base g _ H.out).mono ?_; rintro e w1 ⟨rfl, rfl⟩)
    | (at_lookup; refine Hid.out ?_))
  refine Lib.hid ?_
  refine wpList_lookup_own_unit W rfl _ _ 84 rfl 3 89 keyI Try.underlying84 (by kernel_rfl) r.m r.cnt r.D rfl H.out.map _ (ilit x) rfl (keyOf_int_mk Try.underlying3 HX.out) ?_
  rw [HN.out]
  go_wp2_with fail
  go_ret
  exact ⟨rfl, (Below.refl _ _).alloc (Nat.le_refl _) _⟩

theorem cell_set_ne (w : World) (b i j : Nat) (v : Value) (h : i ≠ j) : (w.setCell ⟨b, i, none⟩ v).cell? ⟨b, j, none⟩ = w.cell? ⟨b, j, none⟩ := by
  simp only [World.cell?, World.setCell, Array.getElem?_modify]
  cases hb : w.heap[b]? with
  | none => simp
  | some o => cases o <;> simp [h]
theorem byte_wrap (n : Nat) : Value.int .u8 (IntKind.u8.wrap (n : Int)) = byv (UInt8.ofNat n) := by
  rw [IntKind.wrap_u8']
  unfold byv
  congr 1
theorem byte_wrap_hi (n : Nat) : Value.int .u8 (IntKind.u8.wrap ((n : Int) / 256)) = byv (UInt8.ofNat (n / 256)) := by
  rw [show ((n : Int) / 256) = ((n / 256 : Nat) : Int) by omega]
  exact byte_wrap _
/-- Two bytes of the row written. -/
theorem Wr.At.stored2 {r : Wr} {w : World} {base g gb cap a : Nat} {x y : UInt8} (h : r.At w base g) (hv : r.b = ⟨some ⟨gb, 0, none⟩, r.b.n, cap⟩) :
    ({ r with bs := (r.bs.set a x).set (a + 1) y } : Wr).At ((w.setCell ⟨gb, a, none⟩ (byv x)).setCell ⟨gb, a + 1, none⟩ (byv y)) base g := by
  have hap := h.apart gb (by unfold Wr.v; rw [hv]; rfl)
  have ho : Only [gb] w ((w.setCell ⟨gb, a, none⟩ (byv x)).setCell ⟨gb, a + 1, none⟩ (byv y)) := (only_set _ _ _ _).trans (only_set _ _ _ _)
  have hown := h.own
  have hv2 : r.v = .slice (some ⟨gb, 0, none⟩) r.b.n cap := by unfold Wr.v; rw [hv]
  rw [hv2] at hown
  have hst := ((hown.stored a (byv x)).1.stored (a + 1) (byv y)).1
  refine ⟨(ho.block g h.lt (by simpa using Ne.symm hap.1)).trans h.box, ?_, map_only h.map ho (by simpa using Ne.symm hap.2.1), h.lim0, h.lim1, by simpa using h.len, h.gbase, h.mbase⟩
  show World.ownsRow _ _ _ _ r.v r.b.n (((r.bs.set a x).set (a + 1) y).map byv)
  rw [hv2, List.map_set, List.map_set]
  exact hst
/-- The length that a patch writes. -/
def Wr.gap (r : Wr) (a : Nat) : Nat := r.bs.length - a - 2
def Wr.patched (r : Wr) (a : Nat) : Wr := { r with bs := (r.bs.set a (UInt8.ofNat (r.gap a / 256))).set (a + 1) (UInt8.ofNat (r.gap a)), D := r.D.del (ilit a) }

set_option maxRecDepth 100000 in
set_option maxHeartbeats 1000000 in
theorem Patch_open (r : Wr) (base g a : Nat) (W : World) (h : r.At W base g) (ha : a + 2 ≤ r.bs.length) (hn : Maps.has r.D (ilit a) = true) (hlim : r.gap a ≤ 65535) (hbase : base ≤ W.heap.size) :
    Calls Try.prog 38 #[.pointer (some ⟨g, 0, none⟩), .int .i64 a] W fun e w' => e = .returned (.int .i64 0) ∧ (r.patched a).At w' base g ∧ Only (r.S g) W w' := by
  have hc0 := h.cell 0
  have hc2 := h.cell 2
  simp [Wr.cs, Wr.v] at hc0 hc2
  have H := Lib.hid h
  have HN := Lib.hid hn
  have hlen := h.n
  have hl1 := h.lim1
  have hl2 := h.len
  have hn2 : r.b.n ≤ 65536 := by omega
  have HA := Lib.hid ha
  have hgap : ((r.b.n : Int) - a - 2) = (r.gap a : Int) := by unfold Wr.gap; omega
  have HG := Lib.hid hgap
  have han : a + 2 ≤ r.b.n := by omega
  have hglt := h.lt
  have hdd : decide ((65535 : Int) < (r.b.n : Int) - a - 2) = false := by simp; omega
  clear h hn hgap
  go_enter Try.func38, Try.ntmps38
  go_wp2_with (first
    | (go_at_call 59; refine (wmade_any r base g _ H.out).mono ?_; rintro e w1 ⟨rfl, rfl⟩)
    | (at_lookup; refine Hid.out ?_))
  refine Lib.hid ?_
  refine wpList_lookup_own_unit W rfl _ _ 84 rfl 3 89 keyI Try.underlying84 (by kernel_rfl) r.m r.cnt r.D rfl H.out.map _ (ilit a) rfl (keyOf_int_mk Try.underlying3 (wf_i64 (by omega) (by omega))) ?_
  rw [HN.out]
  go_upto_region 9 with fail
  rw [HG.out]
  have h1 := H.out.below (((Below.refl _ W).alloc (Nat.le_refl _) (.cells #[] 89)))
  have hb1 : Below W.heap.size W (W.alloc (.cells #[] 89)) := (Below.refl _ W).alloc (Nat.le_refl _) _
  obtain ⟨w1, hw1⟩ : ∃ w1, W.alloc (.cells #[] 89) = w1 := ⟨_, rfl⟩
  rw [hw1] at h1 hb1 ⊢
  have HB1 := Lib.hid hb1
  have H1 := Lib.hid h1
  have hd0 := h1.cell 0
  simp [Wr.cs, Wr.v] at hd0
  have hown := h1.own
  obtain ⟨gb, cap, hv⟩ : ∃ gb cap, r.b = ⟨some ⟨gb, 0, none⟩, r.b.n, cap⟩ := by
    rcases hown.2 with ⟨_, h2⟩ | ⟨gb, cap, cur, h1, _⟩
    · omega
    · simp [Wr.v] at h1
      refine ⟨gb, cap, ?_⟩
      rw [← h1.1, ← h1.2]
  have hap := h1.apart gb (by unfold Wr.v; rw [hv]; rfl)
  unfold Wr.v at hown
  rw [hv] at hown
  simp only at hown
  have HV := Lib.hid hv
  have ha1 : (r.bs.map byv)[a]? = some (byv (r.bs[a]'(by omega))) := by rw [List.getElem?_map, List.getElem?_eq_getElem (by omega)]; rfl
  have ha2 : (r.bs.map byv)[a + 1]? = some (byv (r.bs[a + 1]'(by omega))) := by rw [List.getElem?_map, List.getElem?_eq_getElem (by omega)]; rfl
  have hca := (hown.cellAt a (by omega)).trans ha1
  have hcb := (hown.cellAt (a + 1) (by omega)).trans ha2
  have hfa := hown.frozenAt a
  have hfb := hown.frozenAt (a + 1)
  unfold byv at hca hcb
  have HOWN := Lib.hid hown
  have hne : gb ≠ g := hap.1
  have hne' : g ≠ gb := Ne.symm hap.1
  have hlt := h1.lt
  have hltb := hap.2.2.2
  have HAP := Lib.hid hap
  rw [hv] at hd0
  simp only at hd0
  have i0 : (0 : Int) ≤ (a : Int) := by omega
  have i1 : (a : Int) < (r.b.n : Int) := by omega
  have i2 : (0 : Int) ≤ (a : Int) + 1 := by omega
  have i3 : (a : Int) + 1 < (r.b.n : Int) := by omega
  have i4 : ((a : Int) + 1).toNat = a + 1 := by omega
  have i5 : IntKind.i64.wrap ((a : Int) + 1) = (a : Int) + 1 := IntWalk.i64_in _ (by omega)
  clear h1 ha1 ha2 hown hv hap hw1 hc0 hc2 hb1
  have hx1 : (w1.setCell ⟨gb, a, none⟩ (.int .u8 (IntKind.u8.wrap ((r.gap a : Int) / 256)))).cell? ⟨gb, a + 1, none⟩ = some (.int .u8 (r.bs[a + 1]'(by omega)).toNat) := (cell_set_ne w1 gb a (a + 1) _ (by omega)).trans hcb
  have hx2 : (w1.setCell ⟨gb, a, none⟩ (.int .u8 (IntKind.u8.wrap ((r.gap a : Int) / 256)))).frozen? ⟨gb, a + 1, none⟩ = false := (World.frozen?_setCell ..).trans hfb
  go_region_held3 (fun w' => w'.cell? ⟨g, 0, none⟩ = some (.slice (some ⟨gb, 0, none⟩) r.b.n cap)) (go_keep) (fail)
  have hat2 := (H1.out.stored2 (a := a) (x := UInt8.ofNat (r.gap a / 256)) (y := UInt8.ofNat (r.gap a)) HV.out)
  rw [← byte_wrap_hi, ← byte_wrap] at hat2
  have ho2 : Only (r.S g) W ((w1.setCell ⟨gb, a, none⟩ (.int .u8 (IntKind.u8.wrap ((r.gap a : Int) / 256)))).setCell ⟨gb, a + 1, none⟩ (.int .u8 (IntKind.u8.wrap (r.gap a : Int)))) := by
    have hm : gb ∈ r.S g := Wr.blk_mem (by unfold Wr.v; rw [HV.out]; rfl)
    exact ((Only.of_below HB1.out _).setCell (p := ⟨gb, a, none⟩) (.inl hm) _).setCell (p := ⟨gb, a + 1, none⟩) (.inl hm) _
  obtain ⟨w2, hw2⟩ : ∃ w2, ((w1.setCell ⟨gb, a, none⟩ (.int .u8 (IntKind.u8.wrap ((r.gap a : Int) / 256)))).setCell ⟨gb, a + 1, none⟩ (.int .u8 (IntKind.u8.wrap (r.gap a : Int)))) = w2 := ⟨_, rfl⟩
  rw [hw2] at hat2 ho2 ⊢
  have hat3 := hat2.below (Below.refl w2.heap.size w2).drew
  have ho3 := ho2.drew
  obtain ⟨w3, hw3⟩ : ∃ w3, w2.drew = w3 := ⟨_, rfl⟩
  rw [hw3] at hat3 ho3 ⊢
  have hc2 := hat3.cell 2
  simp [Wr.cs] at hc2
  have HAT := Lib.hid hat3
  have HO := Lib.hid ho3
  clear hat2 hat3 ho2 ho3 hw2 hw3 hx1 hx2 hca hcb hfa hfb hd0
  go_wp2_with (at_delete; refine Hid.out ?_)
  refine Lib.hid ?_
  refine wpList_delete_own w3 rfl (.tmp 53) (.tmp 54) 84 3 rfl 89 keyI Try.underlying84 unitElem r.m r.cnt r.D rfl HAT.out.map _ (ilit a) rfl (keyOf_int_mk Try.underlying3 (wf_i64 (by omega) (by omega))) ?_
  intro w4 hown4 hm4
  have ho4 : Only [r.m] w3 w4 := (Only.refl _ _).grown hm4.grown fun k hk => .inl (by simp at hk; simp [hk])
  have hat4 := HAT.out.marked (D := r.D.del (ilit a)) (cnt := r.cnt) hown4 ho4
  have HAT4 := Lib.hid (show (r.patched a).At w4 base g from hat4)
  have HO4 := Lib.hid (HO.out.trans (ho4.mono (by intro x hx; simp at hx; simp [Wr.S, hx])))
  clear hown4 hm4 ho4 hat4
  go_wp2_with fail
  go_ret
  exact ⟨rfl, HAT4.out, HO4.out⟩
end Go.Proofs.Ytfbakbfljpadlaa
