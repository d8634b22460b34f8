import Derived.Test.YtfbakbfljpadlaaWc
/- The chapter's examples hold. -/
namespace Go.Proofs.Ytfbakbfljpadlaa
open Go.RowKit Go.Maps
set_option linter.unusedSimpArgs false
set_option linter.unusedVariables false

theorem put_ok_of {r : Wr} {base g n k : Nat} {W w' : World} {e : Ending} (h : PutPost r base g n k W e w') (hp : putEnd r n k = .ok) : e = .returned (.int .i64 0) ∧ Wrote base g r (be n k) W w' := by
  rcases h with ⟨h1, _⟩ | ⟨h1, _⟩ | ⟨_, h2, h3⟩
  · rw [h1] at hp; cases hp
  · rw [h1] at hp; cases hp
  · exact ⟨h2, h3⟩
theorem put_range_of {r : Wr} {base g n k : Nat} {W w' : World} {e : Ending} (h : PutPost r base g n k W e w') (hp : putEnd r n k = .range) : e = .returned (.int .i64 2) ∧ Wrote base g r [] W w' := by
  rcases h with ⟨_, h2, h3⟩ | ⟨h1, _⟩ | ⟨h1, _⟩
  · exact ⟨h2, h3⟩
  · rw [h1] at hp; cases hp
  · rw [h1] at hp; cases hp
theorem put_full_of {r : Wr} {base g n k : Nat} {W w' : World} {e : Ending} (h : PutPost r base g n k W e w') (hp : putEnd r n k = .full) : e = .returned (.int .i64 7) ∧ Wrote base g r [] W w' := by
  rcases h with ⟨h1, _⟩ | ⟨_, h2, h3⟩ | ⟨h1, _⟩
  · rw [h1] at hp; cases hp
  · exact ⟨h2, h3⟩
  · rw [h1] at hp; cases hp

/-- What is written into a writer that the call made turns nothing older. -/
theorem Wrote.below {B base g : Nat} {a W w' : World} {r : Wr} {l : List UInt8} (h : Wrote base g r l W w') (hat : r.At W base g) (hb : Below B a W) (hB : B ≤ base) (hbase : base ≤ W.heap.size) : Below B a w' := by
  refine h.only.below hb (by omega) fun x hx => ?_
  have h1 := hat.gbase
  have h2 := hat.mbase
  simp only [Wr.S, List.mem_cons, List.mem_nil_iff, or_false] at hx
  rcases hx with rfl | rfl | rfl
  · omega
  · omega
  · unfold Wr.blk
    cases hk : r.v.ownBlock with
    | none => simp; omega
    | some k => simp; have := (hat.apart k hk).2.2.1; omega

theorem isby_new {w : World} {xs : List UInt8} {n H : Nat} {cs : Array Value} (hH : H = w.heap.size) (hn : xs.length = n) (hc : cs.toList = xs.map byv) : IsBy (w.alloc (.cells cs 5)) (some ⟨H, 0, none⟩) n xs :=
  ⟨fun hp => ⟨H, 0, rfl, by subst hH; simp, fun j u hj => by
    subst hH
    simp only [World.cell?, heap_here (w := w) (o := .cells cs 5) rfl, Nat.zero_add]
    rw [← hc] at hj
    simpa using hj⟩, hn⟩

set_option maxRecDepth 100000 in
set_option maxHeartbeats 1000000 in
theorem lives_any (W : World) : Calls Try.prog 9 #[] W fun e w' => e = .returned (.bool true) ∧ Below W.heap.size W w' := by
  go_enter Try.func9, Try.ntmps9
  go_wp2_with fail
  refine (NewWriter_any 100 _ (by omega) (by omega)).mono ?_
  rintro e w1 ⟨g, m, rfl, hat, hb⟩
  have HB := Lib.hid hb
  clear hb
  go_wp2_with fail
  have hC := WU_any 46 2 (Wr.new 100 m) W.heap.size g w1 258 hat HB.out.size (.inr (.inl ⟨rfl, rfl⟩))
  rw [show ((258 : Nat) : Int) = 258 from rfl] at hC
  refine hC.mono ?_
  clear hC
  intro e w2 hp
  obtain ⟨rfl, hw⟩ := put_ok_of hp (by simp [putEnd, Wr.new])
  have HB2 := Lib.hid (hw.below hat HB.out (Nat.le_refl _) HB.out.size)
  obtain ⟨⟨b2, hat2, _⟩, _⟩ := hw
  clear hp hat
  go_wp2_with fail
  have hC := WU_any 47 3 ((Wr.new 100 m).more b2 (be 258 2)) W.heap.size g w2 1 hat2 HB2.out.size (.inr (.inr (.inl ⟨rfl, rfl⟩)))
  rw [show ((1 : Nat) : Int) = 1 from rfl] at hC
  refine hC.mono ?_
  clear hC
  intro e w3 hp
  obtain ⟨rfl, hw⟩ := put_ok_of hp (by simp [putEnd, Wr.new, Wr.more, be_len])
  have HB3 := Lib.hid (hw.below hat2 HB2.out (Nat.le_refl _) HB2.out.size)
  obtain ⟨⟨b3, hat3, _⟩, _⟩ := hw
  clear hp hat2
  go_wp2_with fail
  have hC := WU_any 43 1 (((Wr.new 100 m).more b2 (be 258 2)).more b3 (be 1 3)) W.heap.size g w3 256 hat3 HB3.out.size (.inl ⟨rfl, rfl⟩)
  rw [show ((256 : Nat) : Int) = 256 from rfl] at hC
  refine hC.mono ?_
  clear hC
  intro e w4 hp
  obtain ⟨rfl, hw⟩ := put_range_of hp (by simp [putEnd])
  have HB4 := Lib.hid (hw.below hat3 HB3.out (Nat.le_refl _) HB3.out.size)
  obtain ⟨⟨b4, hat4, _⟩, _⟩ := hw
  clear hp hat3
  go_wp2_with fail
  have hnew := isby_new (w := w4) (xs := [1, 2, 3]) (n := 3) (H := w4.heap.size) (cs := #[.int .u8 1, .int .u8 2, .int .u8 3]) rfl rfl rfl
  refine (NewReader_any _ 3 3 [1, 2, 3] _ hnew (by omega)).mono ?_
  clear hnew
  rintro e w5 ⟨gr, b, rfl, hgr, hrd, hok, hby, _, _, hb5⟩
  have hb5' : Below w4.heap.size w4 w5 := ((Below.refl _ w4).alloc (Nat.le_refl _) _).trans (hb5.mono (by simp))
  have hat5 := hat4.below hb5'
  have HB5 := Lib.hid (HB4.out.trans (hb5'.mono (HB4.out.size)))
  have HRD := Lib.hid hrd
  have HOK := Lib.hid hok
  have HBY := Lib.hid hby
  have HGR := Lib.hid hgr
  clear hat4 hb5 hb5' hrd hok hby hgr
  go_wp2_with fail
  refine (Out_any _ _ _ _ hat5).mono ?_
  rintro e w6 ⟨v, rfl, hown, hb6⟩
  obtain ⟨A, c, rfl, _, hisb, _⟩ := isby_of_owns hown
  have hbs : ((((Wr.new 100 m).more b2 (be 258 2)).more b3 (be 1 3)).more b4 []).bs = [1, 2, 0, 0, 1] := by simp [Wr.more, Wr.new]; decide
  rw [hbs, show [(1 : UInt8), 2, 0, 0, 1].length = 5 from rfl] at hisb
  rw [hbs, show [(1 : UInt8), 2, 0, 0, 1].length = 5 from rfl]
  have hcv := run_string (P := Try.prog) (src := 22) (dst := 9) (e := 5) Try.underlying22 Try.underlying5 Try.underlying9 (c := c) hisb
  have hRD6 := Lib.hid (HRD.out.below hb6)
  have hBY6 := Lib.hid (HBY.out.turned HRD.out (Only.of_below hb6 _) rfl)
  have HB6 := Lib.hid (HB5.out.trans (hb6.mono HB5.out.size))
  clear hown hisb hat5 hbs hb6
  go_wp2_with fail
  have hC := RU_any 42 2 ⟨0, 3, b, 0, 0⟩ [1, 2, 3] gr w6 hRD6.out (show Rd.ok ⟨0, 3, b, 0, 0⟩ from ⟨by simp only; omega, HOK.out.en, HOK.out.nc, HOK.out.small⟩) hBY6.out (.inr (.inl ⟨rfl, rfl⟩))
  rw [show Rd.num ⟨0, 3, b, 0, 0⟩ [1, 2, 3] 2 = 258 from by simp [Rd.num, numOf], show Rd.past ⟨0, 3, b, 0, 0⟩ ((2 : Nat) : Int) = ⟨2, 3, b, 0, 0⟩ from by simp [Rd.past]] at hC
  refine hC.mono ?_
  clear hC
  rintro e w7 ⟨rfl, ht⟩
  have hRD7 := Lib.hid ht.2
  have hBY7 := Lib.hid (show Bys w7 ⟨2, 3, b, 0, 0⟩ [1, 2, 3] from hBY6.out.turned hRD6.out ht.1 rfl)
  have HB7 := Lib.hid (ht.1.below HB6.out HB6.out.size (fun x hx => by simp at hx; subst hx; have h1 := HGR.out; have h2 := HB4.out.size; simp at h1; omega))
  clear ht
  go_wp2_with fail
  have hC := RU_any 42 2 ⟨2, 3, b, 0, 0⟩ [1, 2, 3] gr w7 hRD7.out (show Rd.ok ⟨2, 3, b, 0, 0⟩ from ⟨by simp only; omega, HOK.out.en, HOK.out.nc, HOK.out.small⟩) hBY7.out (.inr (.inl ⟨rfl, rfl⟩))
  rw [show Rd.num ⟨2, 3, b, 0, 0⟩ [1, 2, 3] 2 = 0 from by simp [Rd.num, numOf], show Rd.past ⟨2, 3, b, 0, 0⟩ ((2 : Nat) : Int) = ⟨2, 3, b, 4, 2⟩ from by simp [Rd.past]] at hC
  refine hC.mono ?_
  clear hC
  rintro e w8 ⟨rfl, ht⟩
  have hRD8 := Lib.hid ht.2
  have hBY8 := Lib.hid (show Bys w8 ⟨2, 3, b, 4, 2⟩ [1, 2, 3] from hBY7.out.turned hRD7.out ht.1 rfl)
  have HB8 := Lib.hid (ht.1.below HB7.out HB7.out.size (fun x hx => by simp at hx; subst hx; have h1 := HGR.out; have h2 := HB4.out.size; simp at h1; omega))
  clear ht
  go_wp2_with fail
  have hC := RU_any 16 1 ⟨2, 3, b, 4, 2⟩ [1, 2, 3] gr w8 hRD8.out (show Rd.ok ⟨2, 3, b, 4, 2⟩ from ⟨by simp only; omega, HOK.out.en, HOK.out.nc, HOK.out.small⟩) hBY8.out (.inl ⟨rfl, rfl⟩)
  rw [show Rd.num ⟨2, 3, b, 4, 2⟩ [1, 2, 3] 1 = 0 from by simp [Rd.num, numOf], show Rd.past ⟨2, 3, b, 4, 2⟩ ((1 : Nat) : Int) = ⟨2, 3, b, 4, 2⟩ from by simp [Rd.past]] at hC
  refine hC.mono ?_
  clear hC
  rintro e w9 ⟨rfl, ht⟩
  have hRD9 := Lib.hid ht.2
  have hBY9 := Lib.hid (show Bys w9 ⟨2, 3, b, 4, 2⟩ [1, 2, 3] from hBY8.out.turned hRD8.out ht.1 rfl)
  have HB9 := Lib.hid (ht.1.below HB8.out HB8.out.size (fun x hx => by simp at hx; subst hx; have h1 := HGR.out; have h2 := HB4.out.size; simp at h1; omega))
  clear ht
  go_wp2_with fail
  refine (Fault_any ⟨2, 3, b, 4, 2⟩ gr w9 hRD9.out).mono ?_
  rintro e w10 ⟨rfl, hb10⟩
  go_wp2_with fail
  refine (Left_any ⟨2, 3, b, 4, 2⟩ gr w10 (hRD9.out.below hb10) ⟨by simp only; omega, HOK.out.en, HOK.out.nc, HOK.out.small⟩).mono ?_
  rintro e w11 ⟨rfl, hb11⟩
  go_wp2_with fail
  go_ret
  exact ⟨rfl, (HB9.out.trans (hb10.mono HB9.out.size)).trans (hb11.mono (by have := HB9.out.size; have := hb10.size; omega))⟩
end Go.Proofs.Ytfbakbfljpadlaa
