import Derived.Test.YtkplhmmajafflaaPa
/- Numbers appended as bytes. -/
namespace Go.Proofs.Ytkplhmmajafflaa
open Go.RowKit
set_option linter.unusedSimpArgs false
set_option linter.unusedVariables false

/-- The block that a slice of the call's own lies in. -/
def blkOf (v : Value) : List Nat := match v.ownBlock with | some k => [k] | none => []
theorem blkOf_mem {v : Value} {k : Nat} : k ∈ blkOf v ↔ v.ownBlock = some k := by
  unfold blkOf
  cases v.ownBlock with
  | none => simp
  | some j => simp; exact eq_comm
/-- A slice of bytes of the call's own. -/
def OwnBy (w : World) (base : Nat) (v : Value) (xs : List UInt8) : Prop := w.ownsRow base 5 1 v xs.length (xs.map byv)
/-- Bytes ys have been appended. -/
structure Put (base : Nat) (v v' : Value) (xs ys : List UInt8) (W w' : World) : Prop where
  own : OwnBy w' base v' (xs ++ ys)
  only : Only (blkOf v) W w'
  blk : ∀ k, v'.ownBlock = some k → v.ownBlock = some k ∨ W.heap.size ≤ k
section
variable {base : Nat} {v v' v'' : Value} {xs ys zs : List UInt8} {W w w' w1 w2 : World}
theorem OwnBy.nil : OwnBy w base (.slice none 0 0) [] := ⟨rfl, .inl ⟨rfl, rfl⟩⟩
theorem OwnBy.below (h : OwnBy w base v xs) (hb : Below w.heap.size w w') : OwnBy w' base v xs := owns_below h hb
theorem OwnBy.only {S : List Nat} (h : OwnBy w base v xs) (hb : Only S w w') (hS : ∀ k, v.ownBlock = some k → k ∉ S) : OwnBy w' base v xs := owns_only h hb hS
theorem OwnBy.isby (h : OwnBy w base v xs) : ∃ A c, v = .slice A xs.length c ∧ xs.length ≤ c ∧ IsBy w A xs.length xs ∧ (∀ b off, A = some ⟨b, off, none⟩ → base ≤ b) := isby_of_owns h
theorem OwnBy.isbyn {n : Nat} (h : OwnBy w base v xs) (hn : xs.length = n) : ∃ A c, v = .slice A n c ∧ n ≤ c ∧ IsBy w A n xs ∧ (∀ b off, A = some ⟨b, off, none⟩ → base ≤ b) := by subst hn; exact h.isby
theorem OwnBy.block (h : OwnBy w base v xs) : ∀ g, v.ownBlock = some g → base ≤ g ∧ g < w.heap.size := owns_block h
theorem Put.refl (h : OwnBy W base v xs) (hb : Below W.heap.size W w') : Put base v v xs [] W w' := ⟨by rw [List.append_nil]; exact h.below hb, Only.of_below hb _, fun k hk => .inl hk⟩
theorem Put.trans (h : Put base v v' xs ys W w1) (k : Put base v' v'' (xs ++ ys) zs w1 w2) : Put base v v'' xs (ys ++ zs) W w2 := by
  refine ⟨by rw [← List.append_assoc]; exact k.own, ⟨k.only.os.trans h.only.os, k.only.tape.trans h.only.tape, k.only.output.trans h.only.output, Nat.le_trans h.only.size k.only.size, fun i hi hn => (k.only.block i (Nat.lt_of_lt_of_le hi h.only.size) fun hm => ?_).trans (h.only.block i hi hn)⟩, fun i hi => ?_⟩
  · rcases h.blk i (blkOf_mem.1 hm) with h1 | h1
    · exact hn (blkOf_mem.2 h1)
    · omega
  · rcases k.blk i hi with h1 | h1
    · exact h.blk i h1
    · have := h.only.size; exact .inr (by omega)
theorem Put.next {us : List UInt8} (h : Put base v v' xs ys W w1) (hb : Below w1.heap.size w1 w2) (k : Put base v' v'' us zs w2 w) (hu : us = xs ++ ys) : Put base v v'' xs (ys ++ zs) W w := by
  subst hu
  exact h.trans ⟨k.own, (Only.of_below hb _).trans k.only, fun i hi => (k.blk i hi).imp_right fun h' => by have := hb.size; omega⟩
theorem Put.later (h : Put base v v' xs ys W w1) (hb : Below w1.heap.size w1 w2) : Put base v v' xs ys W w2 := ⟨h.own.below hb, h.only.then_below hb, h.blk⟩
theorem Put.after (hb : Below W.heap.size W w1) (h : Put base v v' xs ys w1 w2) : Put base v v' xs ys W w2 :=
  ⟨h.own, ((Only.of_below hb _)).trans h.only, fun k hk => (h.blk k hk).imp_right fun h' => by have := hb.size; omega⟩
/-- Nothing old has turned, where the row is new. -/
theorem Put.below {B : Nat} {a : World} (h : Put base v v' xs ys W w') (hb : Below B a W) (hB : B ≤ W.heap.size) (hv : ∀ k, v.ownBlock = some k → B ≤ k) : Below B a w' :=
  h.only.below hb hB fun x hx => hv x (blkOf_mem.1 hx)
theorem Put.fresh (h : Put base v v' xs ys W w') (hv : v.ownBlock = none) : Below W.heap.size W w' := h.below (Below.refl _ _) (Nat.le_refl _) fun k hk => by rw [hv] at hk; cases hk
theorem Put.size (h : Put base v v' xs ys W w') : W.heap.size ≤ w'.heap.size := h.only.size
end
theorem info_u8 : (Try.prog.info? 5).map (fun i => (i.zero, i.size, i.bytes)) = some (some (.int .u8 0), 1, 1) := by kernel_rfl
theorem ownBy_form {w : World} {base : Nat} {v : Value} {xs : List UInt8} (h : OwnBy w base v xs) : ∃ A c, v = .slice A xs.length c := by
  obtain ⟨A, c, h1, _⟩ := h.isby
  exact ⟨A, c, h1⟩
theorem put_of_append {base : Nat} {v0 v v' : Value} {xs ys zs : List UInt8} {W wr w0 w1 : World} (h : Put base v0 v xs ys W wr) (hb0 : Below wr.heap.size wr w0) (hg : w0.grownBy w1 v.ownBlock) (hown : w1.ownsRow base 5 1 v' ((xs ++ ys).length + zs.length) ((xs ++ ys).map byv ++ zs.map byv))
    (hat : v'.ownBlock = v.ownBlock ∨ v'.ownBlock = some w0.heap.size) : Put base v0 v' xs (ys ++ zs) W w1 := by
  refine h.trans ⟨?_, ((Only.of_below hb0 _)).grown hg fun k hk => .inl (blkOf_mem.2 hk), fun k hk => ?_⟩
  · unfold OwnBy
    rw [List.length_append, List.map_append]
    exact hown
  · rcases hat with h | h
    · exact .inl (by rw [← h]; exact hk)
    · rw [h] at hk; simp at hk; exact .inr (by have := hb0.size; omega)

set_option maxRecDepth 100000 in
set_option maxHeartbeats 1000000 in
theorem add_any (base : Nat) (v : Value) (xs : List UInt8) (n k : Nat) (W : World) (h : OwnBy W base v xs) (hk8 : k ≤ 8) (hx : xs.length ≤ 100000) (hbase : base ≤ W.heap.size) :
    Calls Try.prog 38 #[v, .int .u64 n, .int .i64 k] W fun e w' => ∃ v', e = .returned v' ∧ Put base v v' xs (be n k) W w' := by
  obtain ⟨i0, hi0, hz0, hz1, hz2⟩ := info_parts info_u8
  have H := Lib.hid h
  clear h
  go_enter Try.func38, Try.ntmps38
  go_wp2_with fail
  go_loopw [0, 7] (fun b i wr => ∃ j : Nat, j ≤ k ∧ i = .int .i64 ((k : Int) - 1 - j) ∧ Hid (Put base v b xs ((be n k).take j) W wr)) (fun _ i _ => (intOf i + 1).toNat)
  case atStart => exact ⟨0, by omega, by simp, Put.refl H.out (Below.refl _ _)⟩
  case round =>
    obtain ⟨j, hj, rfl, hw⟩ := hrel
    by_cases hlt : j < k
    · obtain ⟨q, hq⟩ : ∃ q : Nat, (q : Int) = (k : Int) - 1 - j := ⟨k - 1 - j, by omega⟩
      rw [← hq]
      have hq7 : (q : Int) < 8 := by omega
      have hbw : base ≤ wr.heap.size := by have := hw.out.size; omega
      have HQ := Lib.hid hq
      have hl : ((xs ++ (be n k).take j).length : Nat) ≤ 100008 := by simp [be_len]; omega
      have HL := Lib.hid hl
      have HV := Lib.hid (byte_of n q)
      clear hq hl
      go_wp2_with (at_builtin; refine Hid.out ?_)
      refine Lib.hid ?_
      refine wpList_append_held _ rfl (.tmp 14) (.tmp 20) _ rfl base 5 i0 _ 1 1 Try.underlying32 hi0 hz0 hz1 hz2 rfl (by omega) _ _ _ rfl (owns_below hw.out.own ((Below.refl _ _).alloc (Nat.le_refl _) _)) (some ⟨wr.heap.size, 0, none⟩) 1 1 [Value.int .u8 (IntKind.u8.wrap ((n : Int) / 2 ^ (8 * q)))] rfl (by simp) (by exact held_one rfl) (by intro u hu; simp at hu; subst hu; rfl) (by have := HL.out; simp only [maxLen]; omega) (by have := HL.out; omega) (by simp; omega) ?_
      intro v1 w1 hown1 hg1 hat1
      rw [HV.out] at hown1
      have HW := Lib.hid (put_of_append (zs := [UInt8.ofNat (n / 256 ^ q)]) hw.out ((Below.refl _ _).alloc (Nat.le_refl _) _) hg1 hown1 hat1)
      clear hown1 hg1 hat1
      go_wp2_with fail
      go_roundw
      case rel => exact ⟨j + 1, by omega, by have := HQ.out; congr 1; omega, by rw [be_take n k j (by omega), show k - 1 - j = q by have := HQ.out; omega]; exact HW.out⟩
      case measure => simp [intOf]
    · go_wp2_with fail
      go_ret
      obtain rfl : j = k := by omega
      have := hw.out
      rw [List.take_of_length_le (by rw [be_len]; exact Nat.le_refl _)] at this
      exact ⟨_, rfl, this⟩
set_option maxRecDepth 100000 in
set_option maxHeartbeats 1000000 in
theorem rput_any (base : Nat) (v : Value) (xs : List UInt8) (n k : Nat) (W : World) (h : OwnBy W base v xs) (hk8 : k ≤ 8) (hx : xs.length ≤ 100000) (hbase : base ≤ W.heap.size) :
    Calls Try.prog 26 #[v, .int .u64 n, .int .i64 k] W fun e w' => ∃ v', e = .returned v' ∧ Put base v v' xs (be n k) W w' := by
  obtain ⟨i0, hi0, hz0, hz1, hz2⟩ := info_parts info_u8
  have H := Lib.hid h
  clear h
  go_enter Try.func26, Try.ntmps26
  go_wp2_with fail
  go_loopw [0, 7] (fun b i wr => ∃ j : Nat, j ≤ k ∧ i = .int .i64 ((k : Int) - 1 - j) ∧ Hid (Put base v b xs ((be n k).take j) W wr)) (fun _ i _ => (intOf i + 1).toNat)
  case atStart => exact ⟨0, by omega, by simp, Put.refl H.out (Below.refl _ _)⟩
  case round =>
    obtain ⟨j, hj, rfl, hw⟩ := hrel
    by_cases hlt : j < k
    · obtain ⟨q, hq⟩ : ∃ q : Nat, (q : Int) = (k : Int) - 1 - j := ⟨k - 1 - j, by omega⟩
      rw [← hq]
      have hq7 : (q : Int) < 8 := by omega
      have hbw : base ≤ wr.heap.size := by have := hw.out.size; omega
      have HQ := Lib.hid hq
      have hl : ((xs ++ (be n k).take j).length : Nat) ≤ 100008 := by simp [be_len]; omega
      have HL := Lib.hid hl
      have HV := Lib.hid (byte_of n q)
      clear hq hl
      go_wp2_with (at_builtin; refine Hid.out ?_)
      refine Lib.hid ?_
      refine wpList_append_held _ rfl (.tmp 14) (.tmp 20) _ rfl base 5 i0 _ 1 1 Try.underlying32 hi0 hz0 hz1 hz2 rfl (by omega) _ _ _ rfl (owns_below hw.out.own ((Below.refl _ _).alloc (Nat.le_refl _) _)) (some ⟨wr.heap.size, 0, none⟩) 1 1 [Value.int .u8 (IntKind.u8.wrap ((n : Int) / 2 ^ (8 * q)))] rfl (by simp) (by exact held_one rfl) (by intro u hu; simp at hu; subst hu; rfl) (by have := HL.out; simp only [maxLen]; omega) (by have := HL.out; omega) (by simp; omega) ?_
      intro v1 w1 hown1 hg1 hat1
      rw [HV.out] at hown1
      have HW := Lib.hid (put_of_append (zs := [UInt8.ofNat (n / 256 ^ q)]) hw.out ((Below.refl _ _).alloc (Nat.le_refl _) _) hg1 hown1 hat1)
      clear hown1 hg1 hat1
      go_wp2_with fail
      go_roundw
      case rel => exact ⟨j + 1, by omega, by have := HQ.out; congr 1; omega, by rw [be_take n k j (by omega), show k - 1 - j = q by have := HQ.out; omega]; exact HW.out⟩
      case measure => simp [intOf]
    · go_wp2_with fail
      go_ret
      obtain rfl : j = k := by omega
      have := hw.out
      rw [List.take_of_length_le (by rw [be_len]; exact Nat.le_refl _)] at this
      exact ⟨_, rfl, this⟩
theorem put16_any (base : Nat) (v : Value) (xs : List UInt8) (n : Nat) (W : World) (h : OwnBy W base v xs) (hn : n < 256 ^ 2) (hx : xs.length ≤ 100000) (hbase : base ≤ W.heap.size) :
    Calls Try.prog 24 #[v, .int .u16 n] W fun e w' => ∃ v', e = .returned v' ∧ Put base v v' xs (be n 2) W w' := by
  have hq := Lib.hid (show IntKind.u64.wrap (n : Int) = n from IntWalk.u64_in _ (by omega))
  have H := Lib.hid h
  have hn0 : (0 : Int) ≤ n := by omega
  have hn1 : (n : Int) ≤ 18446744073709551615 := by omega
  clear h hn
  go_enter Try.func24, Try.ntmps24
  go_wp2_with (go_at_call 38; refine (add_any base v xs n 2 _ H.out (by omega) hx hbase).mono ?_; rintro e w1 ⟨v', rfl, hp⟩; have HP := Lib.hid hp; clear hp)
  go_ret
  exact ⟨v', rfl, HP.out⟩
theorem put32_any (base : Nat) (v : Value) (xs : List UInt8) (n : Nat) (W : World) (h : OwnBy W base v xs) (hn : n < 256 ^ 4) (hx : xs.length ≤ 100000) (hbase : base ≤ W.heap.size) :
    Calls Try.prog 65 #[v, .int .u32 n] W fun e w' => ∃ v', e = .returned v' ∧ Put base v v' xs (be n 4) W w' := by
  have hq := Lib.hid (show IntKind.u64.wrap (n : Int) = n from IntWalk.u64_in _ (by omega))
  have H := Lib.hid h
  have hn0 : (0 : Int) ≤ n := by omega
  have hn1 : (n : Int) ≤ 18446744073709551615 := by omega
  clear h hn
  go_enter Try.func65, Try.ntmps65
  go_wp2_with (go_at_call 38; refine (add_any base v xs n 4 _ H.out (by omega) hx hbase).mono ?_; rintro e w1 ⟨v', rfl, hp⟩; have HP := Lib.hid hp; clear hp)
  go_ret
  exact ⟨v', rfl, HP.out⟩
theorem put64_any (base : Nat) (v : Value) (xs : List UInt8) (n : Nat) (W : World) (h : OwnBy W base v xs) (hn : n < 256 ^ 8) (hx : xs.length ≤ 100000) (hbase : base ≤ W.heap.size) :
    Calls Try.prog 25 #[v, .int .u64 n] W fun e w' => ∃ v', e = .returned v' ∧ Put base v v' xs (be n 8) W w' := by
  have hq := Lib.hid (show IntKind.u64.wrap (n : Int) = n from IntWalk.u64_in _ (by omega))
  have H := Lib.hid h
  have hn0 : (0 : Int) ≤ n := by omega
  have hn1 : (n : Int) ≤ 18446744073709551615 := by omega
  clear h hn
  go_enter Try.func25, Try.ntmps25
  go_wp2_with (go_at_call 38; refine (add_any base v xs n 8 _ H.out (by omega) hx hbase).mono ?_; rintro e w1 ⟨v', rfl, hp⟩; have HP := Lib.hid hp; clear hp)
  go_ret
  exact ⟨v', rfl, HP.out⟩
end Go.Proofs.Ytkplhmmajafflaa
