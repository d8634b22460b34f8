import Derived.Test.YtfbakbfljpadlaaWb
/- A new writer; the chapter's examples; small helpers. -/
namespace Go.Proofs.Ytfbakbfljpadlaa
open Go.RowKit Go.Maps
set_option linter.unusedSimpArgs false
set_option linter.unusedVariables false

def Wr.new (lim : Int) (m : Nat) : Wr := ⟨⟨none, 0, 0⟩, lim, m, [], .map [], 0⟩

def NewPost (lim : Int) (W : World) (e : Ending) (w' : World) : Prop := ∃ g m, e = .returned (.tuple #[.pointer (some ⟨g, 0, none⟩), .int .i64 0]) ∧ (Wr.new lim m).At w' W.heap.size g ∧ Below W.heap.size W w'
theorem NewWriter_any (lim : Int) (W : World) (h0 : 0 ≤ lim) (h1 : lim ≤ 65536) :
    Calls Try.prog 30 #[.int .i64 lim] W (NewPost lim W) := by
  have hmm := @run_makeMap Try.prog
  go_enter Try.func30, Try.ntmps30
  go_wp2_with fail
  go_ret2
  refine ⟨_, W.heap.size, rfl, ⟨heap_here (by simp), ⟨by simp [Wr.new], .inl ⟨rfl, rfl⟩⟩, ?_, h0, h1, by simp [Wr.new]; exact h0, by simp, by simp [Wr.new]⟩, ((Below.refl _ _).alloc (Nat.le_refl _) _).alloc (by simp) _⟩
  exact (World.ownsMap_made W Try.prog 3 unitElem).alloc _

theorem NewWriter_bad (lim : Int) (W : World) (h : lim < 0 ∨ 65536 < lim) :
    Calls Try.prog 30 #[.int .i64 lim] W fun e w' => e = .returned (.tuple #[.pointer none, .int .i64 2]) ∧ W = w' := by
  by_cases h0 : lim < 0
  · clear h
    go_enter Try.func30, Try.ntmps30
    go_wp2_with fail
    go_ret2
    exact ⟨rfl, rfl⟩
  · have h1 : 65536 < lim := by omega
    clear h
    go_enter Try.func30, Try.ntmps30
    go_wp2_with fail
    go_ret2
    exact ⟨rfl, rfl⟩

def WFun (f k : Nat) : Prop := f = 43 ∧ k = 1 ∨ f = 46 ∧ k = 2 ∨ f = 47 ∧ k = 3 ∨ f = 57 ∧ k = 4 ∨ f = 58 ∧ k = 6 ∨ f = 44 ∧ k = 8
theorem WU_any (f : Nat) (k : Nat) (r : Wr) (base g : Nat) (W : World) (n : Nat) (h : r.At W base g) (hbase : base ≤ W.heap.size)
    (hf : WFun f k) : Calls Try.prog f #[.pointer (some ⟨g, 0, none⟩), .int .u64 n] W (PutPost r base g n k W) := by
  have hk : 1 ≤ k ∧ k ≤ 8 := by unfold WFun at hf; omega
  have HP := Lib.hid (put_any r base g W n k h hk.1 hk.2 hbase)
  clear h hk
  rcases hf with ⟨rfl, rfl⟩ | ⟨rfl, rfl⟩ | ⟨rfl, rfl⟩ | ⟨rfl, rfl⟩ | ⟨rfl, rfl⟩ | ⟨rfl, rfl⟩
  case' inl => go_enter Try.func43, Try.ntmps43
  case' inr.inl => go_enter Try.func46, Try.ntmps46
  case' inr.inr.inl => go_enter Try.func47, Try.ntmps47
  case' inr.inr.inr.inl => go_enter Try.func57, Try.ntmps57
  case' inr.inr.inr.inr.inl => go_enter Try.func58, Try.ntmps58
  case' inr.inr.inr.inr.inr => go_enter Try.func44, Try.ntmps44
  all_goals
    go_wp2_with (go_at_call 61; refine HP.out.mono ?_; rintro e w1 (⟨h1, rfl, h2⟩ | ⟨h1, rfl, h2⟩ | ⟨h1, rfl, h2⟩))
  all_goals
    go_ret
    first
      | exact .inl ⟨h1, rfl, h2⟩
      | exact .inr (.inl ⟨h1, rfl, h2⟩)
      | exact .inr (.inr ⟨h1, rfl, h2⟩)

def RFun (f k : Nat) : Prop := f = 16 ∧ k = 1 ∨ f = 42 ∧ k = 2 ∨ f = 53 ∧ k = 3 ∨ f = 54 ∧ k = 4 ∨ f = 45 ∧ k = 6 ∨ f = 55 ∧ k = 8
theorem RU_any (f k : Nat) (r : Rd) (bs : List UInt8) (g : Nat) (W : World) (h : RdAt W g r) (hr : r.ok) (hB : Bys W r bs) (hf : RFun f k) :
    Calls Try.prog f #[.pointer (some ⟨g, 0, none⟩)] W fun e w' => e = .returned (.int .u64 (r.num bs k)) ∧ Turned g (r.past k) W w' := by
  have hk : 1 ≤ k ∧ k ≤ 8 := by unfold RFun at hf; omega
  have HP := Lib.hid (get_any r bs k g W h hr hB hk.1 hk.2)
  clear h hr hB hk
  rcases hf with ⟨rfl, rfl⟩ | ⟨rfl, rfl⟩ | ⟨rfl, rfl⟩ | ⟨rfl, rfl⟩ | ⟨rfl, rfl⟩ | ⟨rfl, rfl⟩
  case' inl => go_enter Try.func16, Try.ntmps16
  case' inr.inl => go_enter Try.func42, Try.ntmps42
  case' inr.inr.inl => go_enter Try.func53, Try.ntmps53
  case' inr.inr.inr.inl => go_enter Try.func54, Try.ntmps54
  case' inr.inr.inr.inr.inl => go_enter Try.func45, Try.ntmps45
  case' inr.inr.inr.inr.inr => go_enter Try.func55, Try.ntmps55
  all_goals
    go_wp2_with (go_at_call 52; refine HP.out.mono ?_; rintro e w1 ⟨rfl, ht⟩)
    go_ret
    exact ⟨rfl, ht⟩

theorem pick_val (x n v : Int) (hv : x % n = v) (w : World) (hn : 0 < n) (hn2 : n ≤ 9223372036854775807) : 
    Calls Try.prog 11 #[.int .i64 x, .int .i64 n] w fun e w' => e = .returned (.int .i64 v) ∧ w = w' := by
  subst hv
  obtain ⟨h1, h2⟩ := tmod_pos x n hn
  obtain ⟨m, hm⟩ : ∃ m, x.tmod n = m := ⟨_, rfl⟩
  rw [hm] at h1 h2
  have HX := Lib.hid h1
  clear h1
  have hz : (n == 0) = false := by simp; omega
  by_cases hlt : m < 0
  · go_enter Try.func11, Try.ntmps11
    go_wp2_with fail
    go_ret
    have := HX.out
    rw [if_pos hlt] at this
    exact ⟨by rw [this]; rfl, rfl⟩
  · go_enter Try.func11, Try.ntmps11
    go_wp2_with fail
    go_ret
    have := HX.out
    rw [if_neg (by omega)] at this
    exact ⟨by rw [this]; rfl, rfl⟩

theorem Same_any (A B : Option Addr) (n m c d : Nat) (xs ys : List UInt8) (W : World) (hx : IsBy W A n xs) (hy : IsBy W B m ys) (hn : n ≤ 1000000) (hm : m ≤ 1000000) :
    Calls Try.prog 19 #[.slice A n c, .slice B m d] W fun e w' => e = .returned (.bool (xs == ys)) ∧ Below W.heap.size W w' := by
  have HX := Lib.hid hx
  have HY := Lib.hid hy
  have HLX := Lib.hid hx.len
  have HLY := Lib.hid hy.len
  clear hx hy
  by_cases hl : n = m
  · have hb : ((n : Int) != m) = false := by simp; omega
    have HL := Lib.hid hl
    clear hl
    go_enter Try.func19, Try.ntmps19
    go_wp2_with fail
    go_loopw [5] (fun i wr => ∃ k : Nat, k ≤ n ∧ i = .int .i64 k ∧ Below W.heap.size W wr ∧ Hid ((xs.take k == ys.take k) = true)) (fun i _ => n - (intOf i).toNat)
    case atStart => exact ⟨0, by omega, rfl, Below.refl _ _, by simp [Hid]⟩
    case round =>
      obtain ⟨k, hk, rfl, hbr, hall⟩ := hrel
      by_cases hlt : k < n
      · obtain ⟨x, hx⟩ : ∃ x, xs[k]? = some x := ⟨xs[k]'(by rw [HLX.out]; exact hlt), List.getElem?_eq_getElem _⟩
        obtain ⟨y, hy⟩ : ∃ y, ys[k]? = some y := ⟨ys[k]'(by rw [HLY.out]; have := HL.out; omega), List.getElem?_eq_getElem _⟩
        obtain ⟨b1, o1, rfl, hb1, hc1⟩ := held_at (HX.out.held.same fun b off _ h => hbr.block b h) (j := k) (u := byv x) (by simp [hx])
        obtain ⟨b2, o2, rfl, hb2, hc2⟩ := held_at (HY.out.held.same fun b off _ h => hbr.block b h) (j := k) (u := byv y) (by simp [hy])
        have HT := Lib.hid (take_all_eq hx hy)
        have h0 : (0 : Int) ≤ (k : Int) := by omega
        have h1 : (k : Int) < (n : Int) := by omega
        have h2 : (k : Int) < (m : Int) := by have := HL.out; omega
        have h3 : k < m := by omega
        unfold byv at hc1 hc2
        clear hx hy
        by_cases he : x = y
        · subst he
          go_wp2_with fail
          go_quiet (fail)
          go_wp2_with fail
          go_roundw
          case rel => exact ⟨k + 1, by omega, by go_num, below_drewN hbr _, by show _ = true; rw [HT.out, hall.out]; simp⟩
          case measure => simp [intOf]; omega
        · have hne : ((x.toNat : Int) != (y.toNat : Int)) = true := by
            simp
            intro h
            exact he (UInt8.toNat_inj.1 (by omega))
          have HE := Lib.hid he
          clear he
          go_wp2_with fail
          go_quiet (fail)
          go_wp2_with fail
          go_ret
          refine ⟨ret_bool ?_, below_drewN hbr _⟩
          rw [eq_comm, beq_eq_false_iff_ne]
          rintro rfl
          have := HT.out
          simp [HE.out] at this
      · go_wp2_with fail
        go_ret
        obtain rfl : k = n := by omega
        refine ⟨ret_bool ?_, hbr⟩
        have := hall.out
        rw [List.take_of_length_le (by rw [HLX.out]; omega), List.take_of_length_le (by rw [HLY.out, ← HL.out]; omega)] at this
        exact this.symm
  · have hb : ((n : Int) != m) = true := by simp; omega
    have hne : (xs == ys) = false := by
      rw [beq_eq_false_iff_ne]
      rintro rfl
      exact hl (HLX.out.symm.trans HLY.out)
    have HN := Lib.hid hne
    clear hl hne
    go_enter Try.func19, Try.ntmps19
    go_wp2_with fail
    go_ret
    exact ⟨ret_bool HN.out.symm, Below.refl _ _⟩
end Go.Proofs.Ytfbakbfljpadlaa
