import Derived.Test.YtkklhidoonefoaaProg
import Derived.WalkKit
import Derived.ProofKit
import Derived.Handy
import Derived.WalkLawsBesides
import Derived.WalkSpells
import Derived.BigQuiet
import Derived.Deep.QuietTactic
import Derived.BigGuardPart
import Derived.Lib.Hide
import Derived.Test.YtkklhidoonefoaaMix
/- Contracts of best's small functions: bit, metric and what it calls. No condition beyond the readings of the arguments. -/
namespace Go.Proofs.Ytkklhidoonefoaa
open Go.RowKit
set_option linter.unusedSimpArgs false
set_option linter.unusedVariables false

def b2i (b : Bool) : Int := if b then 1 else 0

theorem bit_any (b : Bool) (w : World) : Calls Try.prog 47 #[.bool b] w fun e w' => e = .returned (.int .i64 (b2i b)) ∧ w = w' := by
  cases b
  · go_enter Try.func47, Try.ntmps47
    go_wp2
    go_ret
    exact ⟨rfl, rfl⟩
  · go_enter Try.func47, Try.ntmps47
    go_wp2
    go_ret
    exact ⟨rfl, rfl⟩

def hitB (x : Int) (p : Int × Int) : Bool := p.1 == x && decide (0 ≤ p.2)

theorem metric1_any (ip x : Int) (m : Int) (a : Addr) (w : World) (ha : w.cell? a = some (.int .u32 x)) (hab : a.block < w.heap.size) : Calls Try.prog 49 #[.agg #[.int .u32 ip, .int .i64 m], .pointer (some a)] w fun e w' => e = .returned (.bool (hitB x (ip, m))) ∧ Below w.heap.size w w' := by
  have h1 : (w.alloc (.cells #[.int .u32 ip, .int .i64 m] 49)).cell? a = some (.int .u32 x) := by
    rw [World.cell?_alloc_lt _ _ _ hab]; exact ha
  by_cases h : ip = x
  · subst h
    go_enter Try.func49, Try.ntmps49
    go_wp2
    go_ret
    refine ⟨by simp [hitB], ?_⟩
    go_grown
  · have hb : (ip == x) = false := by simpa using h
    go_enter Try.func49, Try.ntmps49
    go_wp2
    go_ret
    refine ⟨by simp [hitB, hb], ?_⟩
    go_grown

def idxOf (x : Int) : List (Int × Int) → Option Nat
  | [] => none
  | p :: l => if hitB x p then some 0 else (idxOf x l).map (· + 1)

theorem idxOf_hit (x : Int) : ∀ (l : List (Int × Int)) (k : Nat) (p : Int × Int), l[k]? = some p → hitB x p = true → idxOf x (l.take k) = none → idxOf x l = some k
  | [], k, p, h, _, _ => by simp at h
  | q :: l, 0, p, h, hp, _ => by simp at h; subst h; simp [idxOf, hp]
  | q :: l, k + 1, p, h, hp, hn => by
    simp only [List.take_succ_cons, idxOf] at hn ⊢
    split at hn
    · simp at hn
    · rename_i hq
      rw [if_neg hq, idxOf_hit x l k p (by simpa using h) hp (by simpa using hn)]
      rfl
theorem idxOf_miss (x : Int) : ∀ (l : List (Int × Int)) (k : Nat) (p : Int × Int), l[k]? = some p → hitB x p = false → idxOf x (l.take k) = none → idxOf x (l.take (k + 1)) = none
  | [], k, p, h, _, _ => by simp at h
  | q :: l, 0, p, h, hp, _ => by simp at h; subst h; simp [idxOf, hp]
  | q :: l, k + 1, p, h, hp, hn => by
    simp only [List.take_succ_cons, idxOf] at hn ⊢
    split at hn
    · simp at hn
    · rename_i hq
      rw [if_neg hq, idxOf_miss x l k p (by simpa using h) hp (by simpa using hn)]
      rfl
theorem idxOf_get (x : Int) : ∀ (l : List (Int × Int)) (k : Nat), idxOf x l = some k → ∃ p, l[k]? = some p ∧ hitB x p = true
  | [], k, h => by simp [idxOf] at h
  | q :: l, k, h => by
    simp only [idxOf] at h
    split at h
    · rename_i hq
      simp at h; subst h
      exact ⟨q, rfl, hq⟩
    · obtain ⟨j, hj, rfl⟩ := Option.map_eq_some_iff.1 h
      obtain ⟨p, h1, h2⟩ := idxOf_get x l j hj
      exact ⟨p, by simpa using h1, h2⟩

def optInt : Option Nat → Int
  | none => -1
  | some k => k

/-- A slice of next hops reads as a list of (address, metric). -/
def Hops (w : World) (A : Option Addr) (n : Nat) (l : List (Int × Int)) : Prop :=
  l.length = n ∧ n ≤ 30 ∧ (∀ p ∈ l, -9223372036854775808 ≤ p.2 ∧ p.2 ≤ 9223372036854775807 ∧ 0 ≤ p.1 ∧ p.1 ≤ 4294967295) ∧
  (0 < n → ∃ b off, A = some ⟨b, off, none⟩ ∧ b < w.heap.size ∧
    ∀ k p, l[k]? = some p → w.cell? ⟨b, off + k * 2, none⟩ = some (.int .u32 p.1) ∧ w.cell? ⟨b, off + k * 2 + 1, none⟩ = some (.int .i64 p.2))

theorem Hops.below {w w' : World} {A : Option Addr} {n : Nat} {l : List (Int × Int)} (h : Hops w A n l) (hb : Below w.heap.size w w') : Hops w' A n l := by
  obtain ⟨h1, h2, h3, h4⟩ := h
  refine ⟨h1, h2, h3, fun hn => ?_⟩
  obtain ⟨b, off, hA, hlt, hc⟩ := h4 hn
  refine ⟨b, off, hA, Nat.lt_of_lt_of_le hlt hb.size, fun k p hp => ?_⟩
  obtain ⟨c1, c2⟩ := hc k p hp
  exact ⟨(hb.cell (p := ⟨b, off + k * 2, none⟩) hlt).trans c1, (hb.cell (p := ⟨b, off + k * 2 + 1, none⟩) hlt).trans c2⟩

theorem index_any (x : Int) (l : List (Int × Int)) (A : Option Addr) (n cap : Nat) (a : Addr) (w : World) (hH : Hops w A n l)
   (ha : w.cell? a = some (.int .u32 x)) (hab : a.block < w.heap.size) : 
   Calls Try.prog 48 #[.slice A n cap, .func (.func 49) #[] #[.pointer (some a)]] w fun e w' => e = .returned (.int .i64 (optInt (idxOf x l))) ∧ Below w.heap.size w w' := by
  have hn := hH.1
  have hcap := hH.2.1
  have HC := Lib.hid hH
  clear hH
  have HL := Lib.hid hn
  clear hn
  go_enter Try.func48, Try.ntmps48
  go_wp2
  go_loopw [8] (fun i wr => ∃ k : Nat, k ≤ n ∧ i = .int .i64 k ∧ Below w.heap.size w wr ∧ idxOf x (l.take k) = none) (fun i _ => n - (intOf i).toNat)
  case atStart => exact ⟨0, by omega, rfl, Below.refl _ _, rfl⟩
  case round =>
    obtain ⟨k, hk, rfl, hbw, hn⟩ := hrel
    have HN := Lib.hid hn
    clear hn
    by_cases hlt : k < n
    · obtain ⟨b, off, rfl, hb, hc⟩ := HC.out.2.2.2 (by omega)
      obtain ⟨p, hp⟩ : ∃ p, l[k]? = some p := ⟨l[k]'(by rw [HL.out]; exact hlt), List.getElem?_eq_getElem _⟩
      obtain ⟨hc1, hc2⟩ := hc k p hp
      have hx1 := (hbw.cell (p := ⟨b, off + k * 2, none⟩) hb).trans hc1
      have hx2 := (hbw.cell (p := ⟨b, off + k * 2 + 1, none⟩) hb).trans hc2
      have hx3 := (hbw.cell hab).trans ha
      have hsz := hbw.size
      clear hc1 hc2 hc
      have Hp := Lib.hid hp
      clear hp
      go_wp2_with (go_at_call 49; refine (metric1_any _ _ _ _ _ hx3 (by omega)).mono ?_; rintro e w1 ⟨rfl, hb1⟩)
      · go_ret
        refine ⟨?_, hbw.trans (hb1.mono hsz)⟩
        rw [idxOf_hit x l k p Hp.out (by assumption) HN.out]
        rfl
      · go_roundw
        case rel => exact ⟨k + 1, by omega, by go_num, hbw.trans (hb1.mono hsz), idxOf_miss x l k p Hp.out (by assumption) HN.out⟩
        case measure => simp [intOf]; omega
    · go_wp2
      go_ret
      obtain rfl : k = n := by omega
      refine ⟨?_, hbw⟩
      have := HN.out
      have e := HL.out
      rw [← e, List.take_length] at this
      rw [this]; rfl

/-- The metric of a next hop: the first that is listed with it and not below 0. -/
def metricOf (x : Int) (l : List (Int × Int)) : Int × Bool :=
  match l.find? (hitB x) with
  | none => (9223372036854775807, false)
  | some p => (p.2, true)

theorem metricOf_none {x : Int} {l : List (Int × Int)} : idxOf x l = none → metricOf x l = (9223372036854775807, false) := by
  induction l with
  | nil => intro _; rfl
  | cons p l ih =>
    intro h
    simp only [idxOf] at h
    split at h
    · simp at h
    · rename_i hq
      have := ih (by simpa using h)
      simp only [metricOf, List.find?_cons, hq] at this ⊢
      exact this
theorem metricOf_some {x : Int} {l : List (Int × Int)} : ∀ {k : Nat} {p : Int × Int}, idxOf x l = some k → l[k]? = some p → metricOf x l = (p.2, true) := by
  induction l with
  | nil => intro k p h; simp [idxOf] at h
  | cons q l ih =>
    intro k p h hp
    simp only [idxOf] at h
    split at h
    · rename_i hq
      simp at h; subst h
      simp at hp; subst hp
      simp [metricOf, List.find?_cons, hq]
    · rename_i hq
      obtain ⟨j, hj, rfl⟩ := Option.map_eq_some_iff.1 h
      have := ih hj (by simpa using hp)
      simp only [metricOf, List.find?_cons, hq] at this ⊢
      exact this

theorem metric_any (x : Int) (l : List (Int × Int)) (A : Option Addr) (n cap : Nat) (w : World) (hH : Hops w A n l) : 
   Calls Try.prog 31 #[.slice A n cap, .int .u32 x] w fun e w' => e = .returned (.tuple #[.int .i64 (metricOf x l).1, .bool (metricOf x l).2]) ∧ Below w.heap.size w w' := by
  have HC := Lib.hid hH
  have hcap := hH.2.1
  have hI := index_any x l A n cap ⟨w.heap.size, 0, none⟩ (w.alloc (.cells #[.int .u32 x] 27)) (hH.below ((Below.refl _ _).alloc (Nat.le_refl _) _)) (by simp) (by simp)
  clear hH
  have HI := Lib.hid hI
  clear hI
  rcases hx : idxOf x l with _ | k
  · have HX := Lib.hid (metricOf_none hx)
    have HX0 := Lib.hid hx
    clear hx
    go_enter Try.func31, Try.ntmps31
    go_wp2_with (go_at_call 48; refine (HI.out).mono ?_; rw [HX0.out]; simp only [optInt]; rintro e w1 ⟨rfl, hb1⟩)
    go_ret2
    refine ⟨by rw [HX.out]; rfl, ?_⟩
    exact ((Below.refl _ _).alloc (Nat.le_refl _) _).trans (hb1.mono (by simp))
  · obtain ⟨p, hp, hq⟩ := idxOf_get x l k hx
    have HX := Lib.hid (metricOf_some hx hp)
    have HX0 := Lib.hid hx
    clear hx
    have hk : k < n := by have := HC.out.1; have := (List.getElem?_eq_some_iff.1 hp).1; omega
    obtain ⟨b, off, rfl, hb, hc⟩ := HC.out.2.2.2 (by omega)
    have hc2 := (hc k p hp).2
    clear hc
    have HP := Lib.hid hp
    clear hp hq
    have HC2 := Lib.hid hc2
    clear hc2
    go_enter Try.func31, Try.ntmps31
    go_wp2_with (go_at_call 48; refine (HI.out).mono ?_; rw [HX0.out]; simp only [optInt]; rintro e w1 ⟨rfl, hb1⟩; have hcc := ((hb1.mono (by simp)).cell (p := ⟨b, off + k * 2 + 1, none⟩) hb).trans ((World.cell?_alloc_lt _ _ _ hb).trans HC2.out))
    go_ret2
    refine ⟨by rw [HX.out]; rfl, ?_⟩
    exact ((Below.refl _ _).alloc (Nat.le_refl _) _).trans (hb1.mono (by simp))
end Go.Proofs.Ytkklhidoonefoaa
