import Derived.Test.YtkplhmmajafflaaPm
import Derived.Test.YtkplhmmajafflaaPk
/- The reference's header. -/
namespace Go.Proofs.Ytkplhmmajafflaa
open Go.RowKit
set_option linter.unusedSimpArgs false
set_option linter.unusedVariables false

theorem rput_int (base : Nat) (v : Value) (xs : List UInt8) (n : Int) (k : Nat) (W : World) (h : OwnBy W base v xs) (h0 : 0 ≤ n) (hk8 : k ≤ 8) (hx : xs.length ≤ 100000) (hbase : base ≤ W.heap.size) :
    Calls Try.prog 26 #[v, .int .u64 n, .int .i64 k] W fun e w' => ∃ v', e = .returned v' ∧ Put base v v' xs (be n.toNat k) W w' := by
  obtain ⟨m, rfl⟩ := Int.eq_ofNat_of_zero_le h0
  exact rput_any base v xs m k W h hk8 hx hbase
theorem own_lit {w : World} {H n : Nat} {cs : Array Value} {zs : List UInt8} (hH : H = w.heap.size) (hcs : cs.toList = zs.map byv) (hn : zs.length = n) (h64 : n ≤ 1000) : OwnBy (w.alloc (.cells cs 5)) w.heap.size (.slice (some ⟨H, 0, none⟩) n n) zs := by
  subst hH hn
  have hl : cs.size = zs.length := by rw [← Array.length_toList, hcs, List.length_map]
  refine ⟨by simp, .inr ⟨w.heap.size, zs.length, cs, rfl, Nat.le_refl _, heap_here rfl, Nat.le_refl _, by simp only [maxLen]; omega, by omega, ?_⟩⟩
  rw [hcs, Nat.mul_one, List.take_of_length_le (by simp)]
theorem set_two (cur : List Value) (a b : Value) (i : Nat) (h : i + 2 ≤ cur.length) : ((cur.toArray.setIfInBounds i a).setIfInBounds (i + 1) b) = (over cur i [a, b]).toArray := by
  apply Array.toList_inj.1
  simp only [Array.toList_setIfInBounds, List.toList_toArray]
  apply List.ext_getElem?
  intro k
  unfold over
  simp only [List.getElem?_set, List.length_set]
  by_cases h1 : k < i
  · rw [if_neg (by omega), if_neg (by omega), List.getElem?_append_left (by simp; omega), List.getElem?_take, if_pos h1]
  · rw [List.getElem?_append_right (by simp; omega), List.length_take, Nat.min_eq_left (by omega)]
    by_cases h2 : k = i
    · subst h2
      rw [if_neg (by omega), if_pos rfl, if_pos (by omega)]
      simp
    · by_cases h3 : k = i + 1
      · subst h3
        rw [if_pos rfl, if_pos (by omega), show i + 1 - i = 1 by omega]
        simp
      · rw [if_neg (by omega), if_neg (by omega), List.getElem?_append_right (by simp; omega), List.getElem?_drop]
        simp
        congr 1; omega
theorem sum_bytes {s : Nat} (h : s < 65536) : [Value.int .u8 ((s : Int) / 256), .int .u8 ((s : Int) % 256)] = (be s 2).map byv := by
  rw [be_two]
  simp only [List.map_cons, List.map_nil, byv_ofNat]
  congr 2
  · congr 1; omega
theorem head_lit {x : Hd} (h0 : 0 ≤ x.ttl) (h1 : x.ttl ≤ 255) (h2 : 0 ≤ x.proto) (h3 : x.proto ≤ 255) : (#[.int .u8 0, .int .u8 0, .int .u8 0, .int .u8 0, .int .u8 x.ttl, .int .u8 x.proto, .int .u8 0, .int .u8 0] : Array Value).toList = ([0, 0, 0, 0, b8 x.ttl, b8 x.proto, 0, 0] : List UInt8).map byv := by
  have e1 : byv (b8 x.ttl) = .int .u8 x.ttl := by unfold b8; rw [byv_ofNat]; congr 1; omega
  have e2 : byv (b8 x.proto) = .int .u8 x.proto := by unfold b8; rw [byv_ofNat]; congr 1; omega
  simp [e1, e2]
  exact rfl
set_option maxRecDepth 100000 in
set_option maxHeartbeats 2000000 in
theorem Header_any (size : Nat) (x : Hd) (W : World) (hs : size < 65536) (h0 : 0 ≤ x.ttl) (h1 : x.ttl ≤ 255) (h2 : 0 ≤ x.proto) (h3 : x.proto ≤ 255) (hsrc : u32r x.src) (hdst : u32r x.dst) :
    Calls Try.prog 27 #[.int .i64 size, .int .i64 x.ttl, .int .i64 x.proto, .int .u32 x.src, .int .u32 x.dst] W fun e w' => ∃ v, e = .returned v ∧ OwnBy w' W.heap.size v (headOf size x) ∧ Below W.heap.size W w' := by
  obtain ⟨i0, hi0, hz0, hz1, hz2⟩ := info_parts info_u8
  have HS := Lib.hid hsrc
  have HD := Lib.hid hdst
  have hlit := Lib.hid (head_lit h0 h1 h2 h3)
  have hq : (0 : Int) ≤ (size : Int) := by omega
  have hq2 : (size : Int) ≤ 65535 := by omega
  have s0 := hsrc.1
  have s1 := hsrc.2
  have d0 := hdst.1
  have d1 := hdst.2
  clear hsrc hdst
  go_enter Try.func27, Try.ntmps27
  go_wp2_with (go_at_call 26; refine Hid.out ?_)
  refine Lib.hid ?_
  refine (rput_any W.heap.size _ [69, 0] size 2 _ (own_lit rfl rfl rfl (by decide)) (by omega) (by simp) (by simp)).mono ?_
  rintro e w1 ⟨v1, rfl, hp⟩
  have hb1 : Below W.heap.size W w1 := hp.below ((Below.refl _ _).alloc (Nat.le_refl _) _) (by simp) (by simp [Value.ownBlock])
  have HB1 := Lib.hid hb1
  have HO1 := Lib.hid hp.own
  clear hp hb1
  go_wp2_with (at_builtin; refine Hid.out ?_)
  refine Lib.hid ?_
  have hbw : W.heap.size ≤ w1.heap.size := HB1.out.size
  have hlen1 : ([69, 0] ++ be size 2).length = 4 := by simp [be_len]
  refine wpList_append_held _ rfl (.tmp 17) (.tmp 22) _ rfl W.heap.size 5 i0 _ 1 1 Try.underlying32 hi0 hz0 hz1 hz2 rfl (by omega) _ _ _ rfl (owns_below HO1.out ((Below.refl _ _).alloc (Nat.le_refl _) _)) (some ⟨w1.heap.size, 0, none⟩) 8 8 (([0, 0, 0, 0, b8 x.ttl, b8 x.proto, 0, 0] : List UInt8).map byv) rfl (by simp) (lit_held rfl hlit.out) (byv_one _) (by rw [hlen1]; simp only [maxLen]; omega) (by rw [hlen1]; omega) (by simp; omega) ?_
  intro v2 w2 hown2 hg2 hat2
  have hp2 := put_of_append (zs := [0, 0, 0, 0, b8 x.ttl, b8 x.proto, 0, 0]) (Put.refl HO1.out (Below.refl _ _)) ((Below.refl _ _).alloc (Nat.le_refl _) _) hg2 (by simpa using hown2) hat2
  rw [List.nil_append] at hp2
  have HP2 := Lib.hid hp2
  clear hown2 hg2 hat2 hp2 hlen1
  go_wp2_with (first
    | (go_at_call_of 26 v2; refine (rput_int W.heap.size v2 _ x.src 4 _ HP2.out.own s0 (by omega) (by simp [be_len]) (by exact Nat.le_trans hbw HP2.out.size)).mono ?_; rintro e w3 ⟨v3, rfl, hp⟩; have HP3 := Lib.hid (HP2.out.next (Below.refl _ _) hp rfl); clear hp)
    | (go_at_call 26; refine (rput_int W.heap.size v3 _ x.dst 4 _ HP3.out.own d0 (by omega) (by simp [be_len]) (by exact Nat.le_trans hbw HP3.out.size)).mono ?_; rintro e w4 ⟨v4, rfl, hp⟩; have HP4 := Lib.hid (HP3.out.next (Below.refl _ _) hp rfl); clear hp)
    | (go_at_call 15; refine Hid.out ?_))
  refine Lib.hid ?_
  have hall : ([69, 0] ++ be size 2) ++ ([0, 0, 0, 0, b8 x.ttl, b8 x.proto, 0, 0] ++ be x.src.toNat 4 ++ be x.dst.toNat 4) = head0 size x := by simp [head0]
  have hown := HP4.out.own
  rw [hall] at hown
  obtain ⟨g, cap, cur, rfl, q1, q2, q3, hg⟩ := hown.form (n := 20) (head0_len _ _) (by omega)
  have hby : IsBy w4 (some ⟨g, 0, none⟩) 20 (head0 size x) := by
    obtain ⟨A, c, he, _, hq, _⟩ := hown.isbyn (n := 20) (head0_len _ _)
    simp only [Value.slice.injEq] at he
    obtain ⟨rfl, _, _⟩ := he
    exact hq
  have hsl : sumL (head0 size x) < 65536 := by unfold sumL; omega
  have HBY := Lib.hid hby
  have HG := Lib.hid hg
  obtain ⟨y, hy⟩ : ∃ y, cur[10]? = some y := ⟨cur[10]'(by omega), List.getElem?_eq_getElem _⟩
  obtain ⟨z, hz⟩ : ∃ z, cur[11]? = some z := ⟨cur[11]'(by omega), List.getElem?_eq_getElem _⟩
  have c10 : w4.cell? ⟨g, 10, none⟩ = some y := by simp [World.cell?, hg, hy]
  have c11 : w4.cell? ⟨g, 11, none⟩ = some z := by simp [World.cell?, hg, hz]
  have f10 : w4.frozen? ⟨g, 10, none⟩ = false := by simp [World.frozen?, hg]
  have f11 : w4.frozen? ⟨g, 11, none⟩ = false := by simp [World.frozen?, hg]
  have Q3 := Lib.hid q3
  refine (rSum_any _ 20 _ _ _ HBY.out (by omega)).mono ?_
  rintro e w5 ⟨rfl, rfl⟩
  obtain ⟨s, hsv⟩ : ∃ s, sumL (head0 size x) = s := ⟨_, rfl⟩
  rw [hsv] at hsl ⊢
  have HSV := Lib.hid hsv
  have SB := Lib.hid (sum_bytes hsl)
  have HALL := Lib.hid hall
  clear hown hby hg hy hz q3 hsv hall HP2 HP3
  go_wp2_with fail
  go_ret
  have g1 : (w4.setCell ⟨g, 10, none⟩ (.int .u8 ((s : Int) / 256))).heap[g]? = some (.cells (cur.toArray.setIfInBounds 10 (.int .u8 ((s : Int) / 256))) 5 (0, 0)) := heap_setCell_same w4 g 10 _ _ _ HG.out
  have g2 : ((w4.setCell ⟨g, 10, none⟩ (.int .u8 ((s : Int) / 256))).setCell ⟨g, 11, none⟩ (.int .u8 ((s : Int) % 256))).heap[g]? = some (.cells ((cur.toArray.setIfInBounds 10 (.int .u8 ((s : Int) / 256))).setIfInBounds (10 + 1) (.int .u8 ((s : Int) % 256))) 5 (0, 0)) := heap_setCell_same _ g 11 _ _ _ g1
  rw [set_two cur _ _ 10 (by have := Q3.out; omega), SB.out] at g2
  have ho : Only [g] w4 ((w4.setCell ⟨g, 10, none⟩ (.int .u8 ((s : Int) / 256))).setCell ⟨g, 11, none⟩ (.int .u8 ((s : Int) % 256))) := (only_set _ _ _ _).trans (only_set _ _ _ _)
  have hp5 := HP4.out.set (off := 6) HG.out (by simpa [be_len] using g2) ho (by simp [be_len])
  refine ⟨_, rfl, ?_, hp5.below HB1.out hbw (fun k hk => (HO1.out.block k hk).1)⟩
  · have e : headOf size x = ([69, 0] ++ be size 2) ++ (([0, 0, 0, 0, b8 x.ttl, b8 x.proto, 0, 0] ++ be x.src.toNat 4 ++ be x.dst.toNat 4).take 6 ++ (be s 2 ++ ([0, 0, 0, 0, b8 x.ttl, b8 x.proto, 0, 0] ++ be x.src.toNat 4 ++ be x.dst.toNat 4).drop (6 + 2))) := by
      have h := over_right ([69, 0] ++ be size 2) ([0, 0, 0, 0, b8 x.ttl, b8 x.proto, 0, 0] ++ be x.src.toNat 4 ++ be x.dst.toNat 4) (be s 2) 6
      rw [HALL.out, show (([69, 0] : List UInt8) ++ be size 2).length + 6 = 10 by simp [be_len]] at h
      rw [be_len] at h
      rw [← h]
      unfold headOf overB
      rw [HSV.out, be_len]
    rw [e]
    exact hp5.own
end Go.Proofs.Ytkplhmmajafflaa
