import Derived.Test.YtkplhmmajafflaaOnly
import Derived.Test.YtkplhmmajafflaaBits
import Derived.Laws.IdiomStrings
import Derived.Maps.OwnSet
/- Slices of bytes, and numbers as bytes. No program in sight. -/
namespace Go.Proofs.Ytkplhmmajafflaa
open Go.RowKit
set_option linter.unusedSimpArgs false
set_option linter.unusedVariables false

def byv (x : UInt8) : Value := .int .u8 x.toNat
def numOf (l : List UInt8) : Nat := l.foldl (fun n x => n * 256 + x.toNat) 0
theorem numOf_snoc (l : List UInt8) (x : UInt8) : numOf (l ++ [x]) = numOf l * 256 + x.toNat := by simp [numOf]
theorem numOf_lt (l : List UInt8) : numOf l < 256 ^ l.length := by
  rcases List.eq_nil_or_concat l with rfl | ⟨l', x, rfl⟩
  · simp [numOf]
  · rw [List.concat_eq_append, numOf_snoc, List.length_append, List.length_singleton, Nat.pow_succ]
    have h := numOf_lt l'
    have := x.toNat_lt
    omega
termination_by l.length
decreasing_by subst_vars; simp

theorem byv_one (bs : List UInt8) : ∀ u ∈ bs.map byv, u.oneCell' = true := by
  intro u hu
  obtain ⟨x, _, rfl⟩ := List.mem_map.1 hu
  rfl

/-- A slice of bytes reads as bs. -/
structure IsBy (w : World) (A : Option Addr) (n : Nat) (bs : List UInt8) : Prop where
  held : Held w A (bs.map byv)
  len : bs.length = n
theorem IsBy.below {w w' : World} {A : Option Addr} {n : Nat} {bs : List UInt8} (h : IsBy w A n bs) (hb : Below w.heap.size w w') : IsBy w' A n bs := ⟨h.held.below hb, h.len⟩

theorem held_part {W : World} {blk off : Nat} {bs : List UInt8} (p n : Nat) (h : Held W (some ⟨blk, off, none⟩) (bs.map byv)) : Held W (some ⟨blk, off + p, none⟩) (((bs.drop p).take n).map byv) := fun hp => by
  have hb : 0 < (bs.map byv).length := by
    simp at hp ⊢
    omega
  obtain ⟨b, o, hA, hlt, hc⟩ := h hb
  simp at hA
  obtain ⟨rfl, rfl⟩ := hA
  refine ⟨_, _, rfl, hlt, fun j u hj => ?_⟩
  simp only [List.getElem?_map, List.getElem?_take] at hj
  split at hj
  · rw [List.getElem?_drop] at hj
    have := hc (p + j) u (by simpa using hj)
    rwa [Nat.add_assoc]
  · simp at hj

theorem owns_low {w : World} {base base' : Nat} {e : TypeId} {size : Nat} {v : Value} {n : Nat} {xs : List Value} (h : w.ownsRow base e size v n xs) (hb : base' ≤ base) : w.ownsRow base' e size v n xs := by
  obtain ⟨hl, h | ⟨g, cap, cur, hv, hb', hr⟩⟩ := h
  · exact ⟨hl, .inl h⟩
  · exact ⟨hl, .inr ⟨g, cap, cur, hv, Nat.le_trans hb hb', hr⟩⟩

theorem owns_only {w w' : World} {base : Nat} {e : TypeId} {size : Nat} {v : Value} {n : Nat} {xs : List Value} {S : List Nat} (h : w.ownsRow base e size v n xs) (hb : Only S w w') (hS : ∀ k, v.ownBlock = some k → k ∉ S) : w'.ownsRow base e size v n xs := by
  obtain ⟨hl, h | ⟨g, cap, cur, hv, hb', hg, hr⟩⟩ := h
  · exact ⟨hl, .inl h⟩
  · exact ⟨hl, .inr ⟨g, cap, cur, hv, hb', (hb.block g (Array.getElem?_eq_some_iff.1 hg).1 (hS g (by rw [hv]; simp [Value.ownBlock]))).trans hg, hr⟩⟩
theorem map_only {H : Type} {P : Program} {k : TypeId} {R : Value → Option (DataW H × List MemPlace)} {w w' : World} {b n : Nat} {D : DataW H} {S : List Nat} (h : w.ownsMap P k R b n D) (hb : Only S w w') (hS : b ∉ S) : w'.ownsMap P k R b n D := by
  obtain ⟨es, clock, hm, r⟩ := h
  exact ⟨es, clock, (hb.block b (Array.getElem?_eq_some_iff.1 hm).1 hS).trans hm, r⟩

/-- The last k bytes of a number, the most significant byte first. -/
def be (n k : Nat) : List UInt8 := (List.range k).map fun j => UInt8.ofNat (n / 256 ^ (k - 1 - j))
theorem be_len (n k : Nat) : (be n k).length = k := by simp [be]
theorem be_take (n k j : Nat) (h : j < k) : (be n k).take (j + 1) = (be n k).take j ++ [UInt8.ofNat (n / 256 ^ (k - 1 - j))] := by
  rw [List.take_succ_eq_append_getElem (by rw [be_len]; exact h)]
  simp [be]

theorem pow256 (k : Nat) : (2 : Int) ^ (8 * k) = ((256 ^ k : Nat) : Int) := by
  rw [Int.pow_mul]
  simp
theorem shr_zero {n k : Nat} (h : n < 256 ^ k) : (n : Int) / 2 ^ (8 * k) = 0 := by
  rw [pow256]
  exact Int.ediv_eq_zero_of_lt (by omega) (by omega)
theorem shr_more {n k : Nat} (h : 256 ^ k ≤ n) : ((n : Int) / 2 ^ (8 * k) != 0) = true := by
  rw [pow256]
  have h1 : 0 < n / 256 ^ k := Nat.div_pos h (Nat.pow_pos (by omega))
  have h2 : ((n : Int) / ((256 ^ k : Nat) : Int)) = ((n / 256 ^ k : Nat) : Int) := by simp
  rw [h2, bne_iff_ne]
  generalize n / 256 ^ k = c at *
  omega
theorem byte_of (n q : Nat) : Value.int .u8 (IntKind.u8.wrap ((n : Int) / 2 ^ (8 * q))) = byv (UInt8.ofNat (n / 256 ^ q)) := by
  rw [pow256]
  have h2 : ((n : Int) / ((256 ^ q : Nat) : Int)) = ((n / 256 ^ q : Nat) : Int) := by simp
  rw [h2, IntKind.wrap_u8']
  unfold byv
  congr 1

theorem tmod_pos (x n : Int) (hn : 0 < n) : x % n = (if x.tmod n < 0 then x.tmod n + n else x.tmod n) ∧ -n < x.tmod n ∧ x.tmod n < n := by
  have h1 := Int.emod_nonneg x (show n ≠ 0 by omega)
  have h2 := Int.emod_lt_of_pos x hn
  have h3 : x.tmod n = _ := Int.tmod_eq_emod
  rw [h3]
  by_cases hd : n ∣ x
  · have := Int.emod_eq_zero_of_dvd hd
    simp only [hd, or_true, if_true]
    split <;> omega
  · have h0 : x % n ≠ 0 := fun h => hd (Int.dvd_of_emod_eq_zero h)
    by_cases hx : 0 ≤ x
    · simp only [hx, true_or, if_true]
      split <;> omega
    · simp only [hx, hd, or_false, if_false]
      split <;> omega

theorem take_all_eq {α : Type} [BEq α] [LawfulBEq α] {a b : List α} {k : Nat} {x y : α} (hx : a[k]? = some x) (hy : b[k]? = some y) : (a.take (k + 1) == b.take (k + 1)) = (a.take k == b.take k && x == y) := by
  obtain ⟨h1, rfl⟩ := List.getElem?_eq_some_iff.1 hx
  obtain ⟨h2, rfl⟩ := List.getElem?_eq_some_iff.1 hy
  rw [List.take_succ_eq_append_getElem h1, List.take_succ_eq_append_getElem h2, Bool.eq_iff_iff]
  simp only [beq_iff_eq, Bool.and_eq_true]
  constructor
  · intro h
    have := List.append_inj h (by simp only [List.length_take]; omega)
    simpa using this
  · rintro ⟨h1, h2⟩
    rw [h1, h2]

theorem isby_of_owns {w : World} {base : Nat} {e : TypeId} {v : Value} {bs : List UInt8} {n : Nat} (h : w.ownsRow base e 1 v n (bs.map byv)) : ∃ A c, v = .slice A n c ∧ n ≤ c ∧ IsBy w A n bs ∧ (∀ b off, A = some ⟨b, off, none⟩ → base ≤ b) := by
  have hl := h.1
  obtain ⟨A, c, rfl, h1, h2, h3, h4⟩ := held_of_owns h
  exact ⟨A, c, rfl, h1, ⟨h3, by simpa using hl⟩, h4⟩
theorem IsBy.only {w w' : World} {A : Option Addr} {n : Nat} {bs : List UInt8} {S : List Nat} (h : IsBy w A n bs) (hb : Only S w w') (hS : ∀ b off, A = some ⟨b, off, none⟩ → b ∉ S) : IsBy w' A n bs := ⟨h.held.only hb hS, h.len⟩

/-- Where a part of a slice begins. -/
def partA (A : Option Addr) (c l : Nat) : Option Addr := if c = l then A else A.map (·.add l)
theorem IsBy.part {w : World} {A : Option Addr} {n c l h : Nat} {bs : List UInt8} (hb : IsBy w A n bs) (h1 : l ≤ h) (h2 : h ≤ n) (h3 : n ≤ c) : IsBy w (partA A c l) (h - l) ((bs.drop l).take (h - l)) := by
  have hl := hb.len
  refine ⟨fun hp => ?_, by simp; omega⟩
  have hp' : 0 < h - l := by simp at hp; omega
  obtain ⟨b, o, rfl, hlt, hc⟩ := hb.held (by simp; omega)
  have := held_part l (h - l) hb.held hp
  unfold partA
  rw [if_neg (by omega)]
  have ea : Addr.add ⟨b, o, none⟩ l = ⟨b, o + l, none⟩ := by unfold Addr.add; split <;> simp_all
  simp only [Option.map_some, ea]
  exact this
theorem partA_block {A : Option Addr} {c l : Nat} {b off : Nat} (h : partA A c l = some ⟨b, off, none⟩) : ∃ a, A = some a ∧ a.block = b := by
  unfold partA at h
  split at h
  · exact ⟨_, h, rfl⟩
  · obtain ⟨a, ha, he⟩ := Option.map_eq_some_iff.1 h
    refine ⟨a, ha, ?_⟩
    unfold Addr.add at he
    split at he
    · rw [he]
    · simp at he; exact he.1
section parts
variable {P : Program} {t e : TypeId} (ht : P.underlying t = some (.slice e)) (hs : ∀ w, (sizeOf e).run P w = .ok 1 w)
include ht hs
theorem run_part_lh (w : World) (A : Option Addr) (n c : Nat) (kl kh : IntKind) (l h : Int) (h0 : 0 ≤ l) (h1 : l ≤ h) (h2 : h ≤ c) :
    (Instr.slice t (.slice A n c) (some (.int kl l)) (some (.int kh h)) none).run P w = .ok (.slice (partA A c l.toNat) (h.toNat - l.toNat) (c - l.toNat)) w := by
  have ht' : P.underlying t = some (.slice (P.elem t)) := by
    have : P.elem t = e := by simp [Program.elem, ht]
    rw [this]; exact ht
  have he : P.elem t = e := by simp [Program.elem, ht]
  rw [run_slice_lh w t A n c ht' kl kh l h h0 h1 h2, he, hs]
  simp [Result.andThen, sliced, partA]
theorem run_part_h (w : World) (A : Option Addr) (n c : Nat) (kh : IntKind) (h : Int) (h1 : 0 ≤ h) (h2 : h ≤ c) :
    (Instr.slice t (.slice A n c) none (some (.int kh h)) none).run P w = .ok (.slice A h.toNat c) w := by
  have ht' : P.underlying t = some (.slice (P.elem t)) := by
    have : P.elem t = e := by simp [Program.elem, ht]
    rw [this]; exact ht
  have he : P.elem t = e := by simp [Program.elem, ht]
  rw [run_slice_h w t A n c ht' kh h h1 h2, he, hs]
  simp only [Result.andThen, sliced, Nat.zero_mul]
  congr 2
  have ea : ∀ a : Addr, a.add 0 = a := fun a => by simp [Addr.add]
  cases A <;> simp [ea]
theorem run_part_l (w : World) (A : Option Addr) (n c : Nat) (kl : IntKind) (l : Int) (h0 : 0 ≤ l) (h1 : l ≤ n) :
    (Instr.slice t (.slice A n c) (some (.int kl l)) none none).run P w = .ok (.slice (partA A c l.toNat) (n - l.toNat) (c - l.toNat)) w := by
  have ht' : P.underlying t = some (.slice (P.elem t)) := by
    have : P.elem t = e := by simp [Program.elem, ht]
    rw [this]; exact ht
  have he : P.elem t = e := by simp [Program.elem, ht]
  rw [run_slice_l w t A n c ht' kl l h0 h1, he, hs]
  simp [Result.andThen, sliced, partA]
end parts

/-- 'string(b)'. -/
theorem run_string {P : Program} {src dst e : TypeId} (hs : P.underlying src = some (.slice e)) (he : P.underlying e = some (.int .u8)) (hd : P.underlying dst = some .string) {w : World} {A : Option Addr} {n c : Nat} {bs : List UInt8} (h : IsBy w A n bs) :
    (convert src dst (.slice A n c)).run P w = .ok (.string ⟨bs.toArray⟩) w := by
  obtain ⟨hh, rfl⟩ := h
  cases A with
  | none =>
    have hb : bs = [] := by
      rcases bs with _ | ⟨x, l⟩
      · rfl
      · obtain ⟨_, _, h1, _⟩ := hh (by simp)
        cases h1
    subst hb
    rw [run_convert_bytes_string w src dst e _ _ c hs he hd]
    simp [Conv.bytesToString]
    rfl
  | some a =>
    refine run_convert_bytes_back w src dst e a c bs hs he hd fun j hj => ?_
    obtain ⟨b, off, h1, _, hc⟩ := hh (by simp; omega)
    obtain rfl := Option.some.inj h1
    have hadd : (⟨b, off, none⟩ : Addr).add j = ⟨b, off + j, none⟩ := by unfold Addr.add; split <;> simp_all
    rw [hadd]
    exact hc j (byv bs[j]) (by simp [hj])
end Go.Proofs.Ytkplhmmajafflaa
