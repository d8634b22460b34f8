import Derived.Test.YtfbakbfljpadlaaRe
import Derived.Lib.SliceRun
/- Contracts of the readers of package wire: what makes memory. -/
namespace Go.Proofs.Ytfbakbfljpadlaa
open Go.RowKit
set_option linter.unusedSimpArgs false
set_option linter.unusedVariables false

theorem info_u8 : (Try.prog.info? 5).map (fun i => (i.zero, i.size, i.bytes)) = some (some (.int .u8 0), 1, 1) := by kernel_rfl

@[go_sem] theorem eql_nil_by (w : World) (a : Option Addr) (n c : Nat) : (binOp .eql 22 (.slice a n c) (.slice none 0 0)).run Try.prog w = .ok (.bool a.isNone) w := Lib.run_eql_slice_nil w 22 5 a n c 0 0 Try.underlying22
set_option maxRecDepth 100000 in
theorem Clone_any (A : Option Addr) (n c : Nat) (bs : List UInt8) (W : World) (h : IsBy W A n bs) (hn : n ≤ 1000000) :
    Calls Try.prog 48 #[.slice A n c] W fun e w' => ∃ v, e = .returned v ∧ w'.ownsRow W.heap.size 5 1 v n (bs.map byv) ∧ Below W.heap.size W w' := by
  obtain ⟨i0, hi0, hz0, hz1, hz2⟩ := info_parts info_u8
  have HA := Lib.hid h.held
  have HL := Lib.hid h.len
  clear h
  cases A with
  | none =>
    have hn0 : n = 0 := by
      rcases Nat.eq_zero_or_pos n with h | h
      · exact h
      · obtain ⟨_, _, h1, _⟩ := HA.out (by simp [HL.out]; exact h)
        cases h1
    subst hn0
    have hb : bs = [] := List.eq_nil_of_length_eq_zero HL.out
    subst hb
    go_enter Try.func48, Try.ntmps48
    go_wp2_with fail
    go_ret
    exact ⟨_, rfl, ⟨rfl, .inl ⟨rfl, rfl⟩⟩, Below.refl _ _⟩
  | some a =>
    go_enter Try.func48, Try.ntmps48
    go_wp2_with (at_builtin; refine Hid.out ?_)
    refine Lib.hid ?_
    refine wpList_append_held _ rfl (.tmp 5) (.tmp 6) _ rfl W.heap.size 5 i0 _ 1 1 Try.underlying22 hi0 hz0 hz1 hz2 rfl (by omega) (.slice (some ⟨W.heap.size, 0, none⟩) 0 0) 0 [] rfl (owns_empty W _ _) (some a) n c (bs.map byv) rfl (by simp [HL.out]) (HA.out.alloc _) (byv_one bs) (by simp only [maxLen]; omega) (by omega) (by simp) ?_
    intro v1 w1 hown1 hg1 hat1
    have hb1 : Below W.heap.size W w1 := ((Below.refl _ W).alloc (Nat.le_refl _) _).trans (below_grown hg1 (by simp) (by simp [Value.ownBlock]))
    have hown2 := Lib.hid hown1
    have hb2 := Lib.hid hb1
    clear hown1 hg1 hat1 hb1
    go_wp2_with fail
    go_ret
    exact ⟨_, rfl, by simpa using hown2.out, hb2.out⟩

set_option maxRecDepth 100000 in
theorem Own_any (A : Option Addr) (n c : Nat) (bs : List UInt8) (W : World) (h : IsBy W A n bs) (hn : n ≤ 1000000) :
    Calls Try.prog 20 #[.slice A n c] W fun e w' => ∃ v, e = .returned v ∧ w'.ownsRow W.heap.size 5 1 v n (bs.map byv) ∧ Below W.heap.size W w' := by
  obtain ⟨i0, hi0, hz0, hz1, hz2⟩ := info_parts info_u8
  have HA := Lib.hid h.held
  have HL := Lib.hid h.len
  clear h
  go_enter Try.func20, Try.ntmps20
  go_wp2_with (at_builtin; refine Hid.out ?_)
  refine Lib.hid ?_
  refine wpList_append_held _ rfl (.tmp 3) (.tmp 4) _ rfl W.heap.size 5 i0 _ 1 1 Try.underlying22 hi0 hz0 hz1 hz2 rfl (by omega) (.slice (some ⟨W.heap.size, 0, none⟩) 0 0) 0 [] rfl (owns_empty W _ _) A n c (bs.map byv) rfl (by simp [HL.out]) (HA.out.alloc _) (byv_one bs) (by simp only [maxLen]; omega) (by omega) (by simp) ?_
  intro v1 w1 hown1 hg1 hat1
  have hb1 : Below W.heap.size W w1 := ((Below.refl _ W).alloc (Nat.le_refl _) _).trans (below_grown hg1 (by simp) (by simp [Value.ownBlock]))
  have hown2 := Lib.hid hown1
  have hb2 := Lib.hid hb1
  clear hown1 hg1 hat1 hb1
  go_wp2_with fail
  go_ret
  exact ⟨_, rfl, by simpa using hown2.out, hb2.out⟩

def Rd.chunk (r : Rd) (bs : List UInt8) (n : Int) : List UInt8 := if r.er = 0 ∧ 0 ≤ n ∧ (r.p : Int) + n ≤ r.e then (bs.drop r.p).take n.toNat else []

theorem bytes_apart {W : World} {g blk off : Nat} {r : Rd} {bs : List UInt8} (h : RdAt W g r) (hh : Held W (some ⟨blk, off, none⟩) (bs.map byv)) (hp : 0 < bs.length) : blk ≠ g := by
  obtain ⟨b, o, hA, hlt, hc⟩ := hh (by simpa using hp)
  simp at hA
  obtain ⟨rfl, rfl⟩ := hA
  obtain ⟨x, hx⟩ : ∃ x, bs[0]? = some x := ⟨bs[0]'hp, List.getElem?_eq_getElem _⟩
  exact byte_apart h (hc 0 (byv x) (by simp [hx]))
/-- The bytes are as they were behind a call that turned only the reader. -/
theorem held_turned {W w1 : World} {g : Nat} {A : Option Addr} {r : Rd} {bs : List UInt8} (h : RdAt W g r) (hh : Held W A (bs.map byv)) (ht : Only [g] W w1) : Held w1 A (bs.map byv) := fun hp => by
  obtain ⟨b, o, rfl, hlt, hc⟩ := hh hp
  have hne : b ≠ g := bytes_apart h hh (by simpa using hp)
  exact (hh.only ht (fun b' o' hA => by simp at hA; simp; omega)) hp
theorem Bys.turned {W w1 : World} {g : Nat} {r r' r2 : Rd} {bs : List UInt8} (hB : Bys W r bs) (h : RdAt W g r2) (ht : Only [g] W w1) (hb : r'.b = r.b) : Bys w1 r' bs := ⟨by rw [hb]; exact held_turned h hB.held ht, by rw [hb]; exact hB.len⟩

set_option maxRecDepth 100000 in
theorem Bytes_any (r : Rd) (bs : List UInt8) (n : Int) (g : Nat) (W : World) (h : RdAt W g r) (hr : r.ok) (hB : Bys W r bs) :
    Calls Try.prog 15 #[.pointer (some ⟨g, 0, none⟩), .int .i64 n] W fun e w' => ∃ v, e = .returned v ∧ w'.ownsRow W.heap.size 5 1 v (r.chunk bs n).length ((r.chunk bs n).map byv) ∧ Turned g (r.past n) W w' := by
  by_cases hc : r.er = 0 ∧ 0 ≤ n ∧ (r.p : Int) + n ≤ r.e
  · obtain ⟨h0, hn0, hn1⟩ := hc
    obtain ⟨k, rfl⟩ := Int.eq_ofNat_of_zero_le hn0
    have T := take_ok r k g W h hr h0 (by omega)
    have e2 : r.past k = { r with p := r.p + k } := by unfold Rd.past; rw [if_neg (by simpa using h0), if_pos ⟨hn0, hn1⟩]; rfl
    have e3 : r.chunk bs k = (bs.drop r.p).take k := by unfold Rd.chunk; rw [if_pos ⟨h0, hn0, hn1⟩]; rfl
    rw [e2, e3]
    clear e2 e3
    obtain ⟨p, e, ⟨ba, bn, bc⟩, er, fa⟩ := r
    obtain ⟨b2, b3, b4, b5⟩ := hr
    have hlen := hB.len
    simp only at b2 b3 b4 b5 hlen h0 hn1 T ⊢
    have hl2 : ((bs.drop p).take k).length = k := by simp; omega
    have HB := Lib.hid hB
    have HL := Lib.hid hlen
    have HL2 := Lib.hid hl2
    have HT := Lib.hid T
    have H := Lib.hid h
    clear hB hlen T h h0 hl2
    cases ba with
    | none =>
      have hbs : bs = [] := by
        rcases bs with _ | ⟨x, l⟩
        · rfl
        · obtain ⟨_, _, h1, _⟩ := HB.out.held (by simp)
          cases h1
      subst hbs
      have hbn : bn = 0 := HL.out.symm
      subst hbn
      obtain rfl : p = 0 := by omega
      obtain rfl : k = 0 := by omega
      go_enter Try.func15, Try.ntmps15
      go_wp2_with (first
        | (go_at_call 51; refine HT.out.mono ?_; rintro e w1 ⟨rfl, ht⟩; have hc2 := ht.2.cell 2; simp only [Rd.cs] at hc2; simp at hc2)
        | (go_at_call 48; refine Hid.out ?_))
      refine Lib.hid ?_
      refine (Clone_any none 0 bc [] _ ⟨Held.nil, rfl⟩ (by omega)).mono ?_
      rintro e w2 ⟨v, rfl, hown, hb⟩
      have HO := Lib.hid hown
      clear hown
      go_wp2_with fail
      go_ret
      exact ⟨v, rfl, by simpa using owns_low HO.out ht.1.size, ht.then hb⟩
    | some ad =>
      obtain ⟨blk, off, hf⟩ : ∃ blk off, ad = ⟨blk, off, none⟩ ∨ bs = [] := by
        rcases bs with _ | ⟨x, l⟩
        · exact ⟨0, 0, .inr rfl⟩
        · obtain ⟨b, o, h1, _⟩ := HB.out.held (by simp)
          exact ⟨b, o, .inl (Option.some.inj h1)⟩
      have HAD := Lib.hid hf
      clear hf
      by_cases hpc : p = bc
      · obtain rfl : k = 0 := by omega
        have hge : ¬ p < bc := by omega
        go_enter Try.func15, Try.ntmps15
        go_wp2_with (first
          | (go_at_call 51; refine HT.out.mono ?_; rintro e w1 ⟨rfl, ht⟩; have hc2 := ht.2.cell 2; simp only [Rd.cs] at hc2; simp at hc2)
          | (go_at_call 48; refine Hid.out ?_))
        refine Lib.hid ?_
        refine (Clone_any (some ad) 0 0 [] _ ⟨Held.nil, rfl⟩ (by omega)).mono ?_
        rintro e w2 ⟨v, rfl, hown, hb⟩
        have HO := Lib.hid hown
        clear hown
        go_wp2_with fail
        go_ret
        exact ⟨v, rfl, by simpa using owns_low HO.out ht.1.size, ht.then hb⟩
      · have hlt : p < bc := by omega
        go_enter Try.func15, Try.ntmps15
        go_wp2_with (first
          | (go_at_call 51; refine HT.out.mono ?_; rintro e w1 ⟨rfl, ht⟩; have hc2 := ht.2.cell 2; simp only [Rd.cs] at hc2; simp at hc2)
          | (go_at_call 48; refine Hid.out ?_))
        refine Lib.hid ?_
        refine (Clone_any (some (ad.add p)) k (bc - p) ((bs.drop p).take k) _ ⟨?_, HL2.out⟩ (by omega)).mono ?_
        · rcases HAD.out with rfl | rfl
          · have hh := held_turned H.out HB.out.held ht.1
            have := held_part p k hh
            have ea : Addr.add ⟨blk, off, none⟩ p = ⟨blk, off + p, none⟩ := by unfold Addr.add; split <;> simp_all
            rw [ea]
            exact this
          · simp; exact Held.nil
        rintro e w2 ⟨v, rfl, hown, hb⟩
        have HO := Lib.hid hown
        clear hown
        go_wp2_with fail
        go_ret
        refine ⟨v, rfl, ?_, ht.then hb⟩
        rw [HL2.out]
        exact owns_low HO.out ht.1.size
  · have T := take_any r n g W h hr
    rw [if_neg hc] at T
    have e3 : r.chunk bs n = [] := by unfold Rd.chunk; rw [if_neg hc]
    rw [e3]
    have HT := Lib.hid T
    clear T h hr hB hc e3
    go_enter Try.func15, Try.ntmps15
    go_wp2_with (go_at_call 51; refine HT.out.mono ?_; rintro e w1 ⟨rfl, ht⟩)
    go_ret
    exact ⟨_, rfl, ⟨rfl, .inl ⟨rfl, rfl⟩⟩, ht⟩
end Go.Proofs.Ytfbakbfljpadlaa
