import Derived.Test.YtkplhmmajafflaaPd
import Derived.Test.YtkplhmmajafflaaCopy
/- The 16-bit numbers of bytes: an iterator over another one. -/
namespace Go.Proofs.Ytkplhmmajafflaa
open Go.RowKit Go.Shelf
set_option linter.unusedSimpArgs false
set_option linter.unusedVariables false
attribute [local go_sem] Oper.semAt_some

theorem words_any (A : Option Addr) (n c : Nat) (W : World) :
    Calls Try.prog 31 #[.slice A n c] W fun e w' => e = .returned (.func (.func 41) #[] #[.pointer (some ⟨W.heap.size, 0, none⟩)]) ∧
      Below W.heap.size W w' ∧ w'.heap[W.heap.size]? = some (.cells #[.slice A n c] 32 (0, 0)) := by
  go_enter Try.func31, Try.ntmps31
  go_wp2_with fail
  go_ret
  exact ⟨rfl, ((Below.refl _ _).alloc (Nat.le_refl _) _), heap_here rfl⟩
def pairOf (bs : List UInt8) (k : Nat) : List UInt8 := (bs.drop (2 * k)).take 2 ++ [0, 0].drop ((bs.drop (2 * k)).take 2).length
def wordAt (bs : List UInt8) (k : Nat) : Nat := numOf (pairOf bs k)
def blkA (A : Option Addr) (n : Nat) : List Nat := if n = 0 then [] else match A with | some a => [a.block] | none => []
theorem Only.then_low {S : List Nat} {a w w' : World} (h : Only S a w) (k : Below a.heap.size w w') : Only S a w' :=
  ⟨k.os.trans h.os, k.tape.trans h.tape, k.output.trans h.output, Nat.le_trans h.size k.size, fun i hi hn => (k.block i hi).trans (h.block i hi hn)⟩
theorem IsBy.chunk {w : World} {A : Option Addr} {n c k : Nat} {bs : List UInt8} (h : IsBy w A n bs) (hk : 2 * k < n) : Held w (A.map (·.add (2 * k))) (((bs.drop (2 * k)).take 2).map byv) := by
  obtain ⟨b, off, rfl, _, _⟩ := h.held (by simp [h.len]; omega)
  have := held_part (2 * k) 2 h.held
  have hadd : Addr.add ⟨b, off, none⟩ (2 * k) = ⟨b, off + 2 * k, none⟩ := by unfold Addr.add; split <;> simp_all
  simpa [hadd] using this
set_option maxRecDepth 100000 in
set_option maxHeartbeats 2000000 in
theorem words1_any (A : Option Addr) (n c Bb : Nat) (bs : List UInt8) (w : World) (hs : w.heap[Bb]? = some (.cells #[.slice A n c] 32 (0, 0))) (hby : IsBy w A n bs) (hc : n ≤ c) (hsm : n ≤ 1000000) :
    Yields Try.prog 41 #[.pointer (some ⟨Bb, 0, none⟩)] (fun k => #[.int .u16 (wordAt bs k)]) (Bb :: blkA A n) (List.range ((n + 1) / 2)) w := by
  intro l J W S hW hS hJ hY h0
  have hs1 := (hW.block Bb (Array.getElem?_eq_some_iff.1 hs).1).trans hs
  have hcs : W.cell? ⟨Bb, 0, none⟩ = some (.slice A n c) := by simp [World.cell?, hs1]
  have hBlt := (Array.getElem?_eq_some_iff.1 hs1).1
  have HBY := Lib.hid (hby.below hW)
  have HY := Lib.hid hY
  have HJ := Lib.hid hJ
  have HS := Lib.hid hS
  have HS1 := Lib.hid hs1
  have H0 := Lib.hid h0
  clear hs hs1 hY hJ hS h0 hby
  refine callsIn_of_wp_marks Try.func41 rfl trivial ?_ rfl
  simp only [Try.ntmps41, List.size_toArray, List.length_cons, List.length_nil, Nat.reduceAdd, Nat.reduceSub, Array.replicate_succ, Array.replicate_zero, List.push_toArray, List.append_toArray, List.nil_append, List.cons_append]
  gi_wp2_with (refine ⟨trivial, rfl, (callsIn_wide.2 (chunk_any A n c _)).mono ?_⟩; rintro e w1 ⟨rfl, hb1, hs1, hn1⟩; have HB1 := Lib.hid hb1; have HQ1 := Lib.hid hs1; have HN1 := Lib.hid hn1; clear hb1 hs1 hn1)
  have hw1 : Below W.heap.size W w1 := ((Below.refl _ _).alloc (Nat.le_refl _) _).trans (HB1.out.mono (by simp))
  have hY1 : w1.heap[W.heap.size]? = some (.cells #[.func (.yield l) #[] #[]] 80 (0, 0)) := (HB1.out.block _ (by simp)).trans (heap_here rfl)
  have hsz : W.heap.size + 2 < w1.heap.size := by have := (Array.getElem?_eq_some_iff.1 HN1.out).1; simpa using this
  have HW1 := Lib.hid hw1
  have HY1 := Lib.hid hY1
  clear hw1 hY1
  refine wp_range (gf := 46) (lb := #[.pointer (some ⟨W.heap.size + 1, 0, none⟩), .pointer (some ⟨W.heap.size + 1 + 1, 0, none⟩)]) rfl (enters_of Try.func46 (by kernel_rfl) rfl)
    (chunk1_any A n c (W.heap.size + 1) (W.heap.size + 1 + 1) w1 (by simpa using HQ1.out) (by simpa using HN1.out) hc hsm) (Below.refl _ _) (by intro k hk; simp at hk; omega) S (fun k hk => ⟨by have := (HS.out k hk).1; omega, fun hm => by have := (HS.out k hk).1; simp at hm; omega⟩) (fun _ => rfl)
    (fun k X => J k X ∧ Only S w1 X) (fun i X Y ⟨h1, h2⟩ hb => ⟨HJ.out i X Y h1 (hb.mono (by omega)), h2.then_low hb⟩) ⟨HJ.out _ _ _ H0.out HW1.out, Only.refl _ _⟩
    (fun k => { tmps := #[.func (.yield l) #[] #[], .pointer (some ⟨Bb, 0, none⟩), .pointer (some ⟨W.heap.size, 0, none⟩), chunkAt A n k, undef, .slice A n c, .func (.func 46) #[] #[.pointer (some ⟨W.heap.size + 1, 0, none⟩), .pointer (some ⟨W.heap.size + 1 + 1, 0, none⟩)], chunkAt A n k, undef, undef, undef, undef, undef, undef, undef, undef], defers := [] }) ?assign ?body ?done
  case assign =>
    intro l x W K hK
    gi_wp2
    exact hK
  case done =>
    rintro D X hD ⟨hJ, hO⟩ hK
    gi_wp2
    refine ⟨by simp, .inl ⟨_, _, rfl, run_takeDeferred hK, ?_⟩⟩
    exact ⟨_, results_none rfl _ _ _, ⟨_, rfl⟩, HJ.out _ _ _ hJ (below_putObj _ _ _ (by omega))⟩
  case body =>
    rintro l2 i k X hx ⟨hJ, hO⟩ hlt
    obtain ⟨hkn, rfl⟩ : k < (n + 1) / 2 ∧ i = k := by
      have := List.getElem?_eq_some_iff.1 hx
      simp at this
      omega
    have hYX : X.heap[W.heap.size]? = some (.cells #[.func (.yield l) #[] #[]] 80 (0, 0)) := (hO.block _ (by omega) (fun h => by have := (HS.out _ h).1; omega)).trans HY1.out
    have hcY : X.cell? ⟨W.heap.size, 0, none⟩ = some (.func (.yield l) #[] #[]) := by simp [World.cell?, hYX]
    have hYlt := (Array.getElem?_eq_some_iff.1 hYX).1
    have hbyX : IsBy X A n bs := ⟨(HBY.out.held.below HW1.out).same fun b off hA hb => hO.block b hb fun h => (HS.out _ h).2 (by subst hA; simp [blkA, show n ≠ 0 by omega]), HBY.out.len⟩
    have hsrc : Held (X.alloc (.cells #[.int .u8 0, .int .u8 0] 84)) (A.map (·.add (2 * i))) (((bs.drop (2 * i)).take 2).map byv) := (hbyX.chunk (c := c) (by omega)).alloc _
    have hln : (((bs.drop (2 * i)).take 2).map byv).length = min 2 (n - 2 * i) := by simp [HBY.out.len]
    have hE : chunkAt A n i = .slice (A.map (·.add (2 * i))) (min 2 (n - 2 * i)) (min 2 (n - 2 * i)) := rfl
    have HSR := Lib.hid hsrc
    have HLN := Lib.hid hln
    have HJX := Lib.hid hJ
    have HOX := Lib.hid hO
    rw [hE]
    clear hx hYX hbyX hsrc hln hJ hO hE
    obtain ⟨X2, hrun, hp2, hO2⟩ := run_copy_known (P := Try.prog) (X.alloc (.cells #[.int .u8 0, .int .u8 0] 84)) 32 32 3 5 Try.underlying32 (by kernel_rfl) X.heap.size 0 2 2 _ (min 2 (n - 2 * i)) (min 2 (n - 2 * i)) [.int .u8 0, .int .u8 0] 84 (heap_here rfl) _ (by rw [HLN.out]; omega) HSR.out (by rw [HLN.out]; simp; omega) (byv_one _)
    have hpair : over [.int .u8 0, .int .u8 0] 0 (((bs.drop (2 * i)).take 2).map byv) = (pairOf bs i).map byv := by
      unfold over pairOf
      rw [List.take_zero, List.nil_append, List.map_append, List.length_map, Nat.zero_add, List.map_drop]
      rfl
    rw [hpair] at hp2
    have hplen : (pairOf bs i).length = 2 := by
      have h1 := HBY.out.len
      simp [pairOf]; omega
    have hbyP0 : IsBy X2 (some ⟨X.heap.size, 0, none⟩) 2 (pairOf bs i) := ⟨fun _ => ⟨_, 0, rfl, (Array.getElem?_eq_some_iff.1 hp2).1, fun j u hj => by rw [← hj]; simp [World.cell?, hp2]⟩, hplen⟩
    have hbyP := hbyP0.below (Below.refl X2.heap.size X2).drew
    have hcY2 : X2.drew.cell? ⟨W.heap.size, 0, none⟩ = some (.func (.yield l) #[] #[]) := by
      rw [← hcY]
      exact World.cell?_of_block ((hO2.block W.heap.size (by simp; omega) (by simp; omega)).trans (Below.heap_alloc _ _ _ hYlt))
    have hbX : Below X.heap.size X X2.drew := (hO2.below ((Below.refl _ X).alloc (Nat.le_refl _) _) (by simp) (by simp)).drew
    have HbX := Lib.hid hbX
    obtain ⟨fn, tmps, assign, body, hy, hR⟩ := HY.out i i X2.drew (List.getElem?_range hkn) (HJ.out _ _ _ HJX.out (hbX.mono (by omega)))
    have hlt2 : X.heap.size < X2.heap.size := (Array.getElem?_eq_some_iff.1 hp2).1
    have HBP := Lib.hid hbyP
    have hq : wordAt bs i = numOf ((pairOf bs i).take 2) := by unfold wordAt; rw [List.take_of_length_le (by omega)]
    rw [hq] at hy
    clear hpair hp2 hO2 hbX hplen hbyP hbyP0 hq
    gi_wp2
    gi_region_with (first
      | (refine ⟨trivial, rfl, (CallsIn.inRound l2 (callsIn_wide.2 (get16_any _ 2 2 _ _ HBP.out (by omega) (by omega)))).mono ?_⟩; rintro e w3 ⟨rfl, rfl⟩)
      | (refine ⟨rfl, hR.mono ?_⟩; rintro e W3 ⟨rfl, hJ3, hO3⟩))
    all_goals
      gi_wp2
      exact ⟨(Only.of_below HbX.out S).trans hO3, hJ3, (HOX.out.trans (Only.of_below HbX.out S)).trans hO3⟩

def csum (s : Nat) : Nat := if s = 0 then 0 else (s - 1) % 65535 + 1
theorem u64_low (s : Nat) (h : s < 18446744073709551616) : bits BinOp.and IntKind.u64 (s : Int) 65535 = ((s % 65536 : Nat) : Int) := by
  rw [show (65535 : Int) = ((65535 : Nat) : Int) from rfl, u64_and_nat s 65535 h (by omega)]
  congr 1
  exact Nat.and_two_pow_sub_one_eq_mod s 16
theorem u16_not (s : Nat) (h : s < 65536) : bits BinOp.xor IntKind.u16 IntKind.u16.max (s : Int) = ((65535 - s : Nat) : Int) := by
  show IntKind.u16.wrap ((BitVec.ofInt 16 65535 ^^^ BitVec.ofInt 16 (s : Int)).toNat : Int) = _
  have e : (BitVec.ofInt 16 65535 ^^^ BitVec.ofInt 16 (s : Int)) = ~~~ (BitVec.ofNat 16 s) := by
    rw [BitVec.ofInt_natCast, BitVec.xor_comm]
    exact BitVec.xor_allOnes
  rw [e, BitVec.toNat_not, BitVec.toNat_ofNat, Nat.mod_eq_of_lt (by omega)]
  rw [IntKind.wrap_u16]
  omega
theorem csum_fold (s : Nat) : csum (s % 65536 + s / 65536) = csum s := by
  unfold csum
  by_cases h : s = 0
  · subst h; rfl
  · rw [if_neg h, if_neg (by omega)]
    omega
theorem csum_small {s : Nat} (h : s < 65536) : csum s = s := by
  unfold csum
  split <;> omega
theorem csum_lt (s : Nat) : csum s < 65536 := by
  unfold csum
  split <;> omega
def part (bs : List UInt8) (k : Nat) : Nat := ((List.range k).map (wordAt bs)).sum
def totalOf (bs : List UInt8) : Nat := part bs ((bs.length + 1) / 2)
theorem part_succ (bs : List UInt8) (k : Nat) : part bs (k + 1) = part bs k + wordAt bs k := by simp [part, List.range_succ]
theorem wordAt_lt (bs : List UInt8) (k : Nat) : wordAt bs k < 65536 := numOf_small (k := 2) (by simp [pairOf]; omega)
theorem part_le (bs : List UInt8) (k : Nat) : part bs k ≤ 65535 * k := by
  induction k with
  | zero => simp [part]
  | succ k ih => rw [part_succ]; have := wordAt_lt bs k; omega
/-- The checksum. -/
def sumL (bs : List UInt8) : Nat := 65535 - csum (totalOf bs)
set_option maxRecDepth 100000 in
set_option maxHeartbeats 2000000 in
theorem sum_any (A : Option Addr) (n c : Nat) (bs : List UInt8) (W : World) (hby : IsBy W A n bs) (hc : n ≤ c) (hn : n ≤ 1000000) :
    Calls Try.prog 14 #[.slice A n c] W fun e w' => e = .returned (.int .u16 (sumL bs)) ∧ Below W.heap.size W w' := by
  have HBY := Lib.hid hby
  clear hby
  refine (callsIn_wide (n := 0)).1 (callsIn_of_wp_marks Try.func14 rfl trivial ?_ rfl)
  simp only [Try.ntmps14, List.size_toArray, List.length_cons, List.length_nil, Nat.reduceAdd, Nat.reduceSub, Array.replicate_succ, Array.replicate_zero, List.push_toArray, List.append_toArray, List.nil_append, List.cons_append]
  gi_wp2_with (refine ⟨trivial, rfl, (callsIn_wide.2 (words_any A n c _)).mono ?_⟩; rintro e w1 ⟨rfl, hb1, hs1⟩; have HB1 := Lib.hid hb1; have HQ1 := Lib.hid hs1; clear hb1 hs1)
  have hw1 : Below W.heap.size W w1 := ((Below.refl _ _).alloc (Nat.le_refl _) _).trans (HB1.out.mono (by simp))
  have hs0 : w1.heap[W.heap.size]? = some (.cells #[.int .u64 0] 22 (0, 0)) := (HB1.out.block _ (by simp)).trans (heap_here rfl)
  have hsz : W.heap.size + 1 < w1.heap.size := by have := (Array.getElem?_eq_some_iff.1 HQ1.out).1; simpa using this
  have HW1 := Lib.hid hw1
  have HS0 := Lib.hid hs0
  clear hw1 hs0
  refine wp_range (gf := 41) (lb := #[.pointer (some ⟨W.heap.size + 1, 0, none⟩)]) rfl (enters_of Try.func41 (by kernel_rfl) rfl)
    (words1_any A n c (W.heap.size + 1) bs w1 (by simpa using HQ1.out) (HBY.out.below HW1.out) hc hn) (Below.refl _ _) ?needs [W.heap.size] ?notin (fun _ => rfl)
    (fun k X => X.heap[W.heap.size]? = some (.cells #[.int .u64 (part bs k)] 22 (0, 0)) ∧ Below W.heap.size W X) (fun i X Y ⟨h1, h2⟩ hb => ⟨(hb.block _ (by omega)).trans h1, h2.trans (hb.mono (by omega))⟩) ⟨by simpa [part] using HS0.out, HW1.out⟩
    (fun k => { tmps := #[.slice A n c, undef, .int .u16 0, .pointer (some ⟨W.heap.size, 0, none⟩), .int .u16 (wordAt bs k), .slice A n c, .func (.func 41) #[] #[.pointer (some ⟨W.heap.size + 1, 0, none⟩)], .int .u16 (wordAt bs k), undef, undef, undef, undef, undef, undef, undef, undef, undef, undef, undef, undef, undef, undef, undef], defers := [] }) ?assign ?body ?done
  case needs =>
    intro k hk
    rcases List.mem_cons.1 hk with rfl | hk
    · exact hsz
    · unfold blkA at hk
      split at hk
      · cases hk
      · obtain ⟨b, off, rfl, hb, _⟩ := HBY.out.held (by simp [HBY.out.len]; omega)
        simp at hk; omega
  case notin =>
    intro k hk
    simp at hk
    subst hk
    refine ⟨by omega, fun hk => ?_⟩
    rcases List.mem_cons.1 hk with h | hk
    · omega
    · unfold blkA at hk
      split at hk
      · cases hk
      · obtain ⟨b, off, rfl, hb, _⟩ := HBY.out.held (by simp [HBY.out.len]; omega)
        simp at hk; omega
  case assign =>
    intro l x W K hK
    gi_wp2
    exact hK
  case body =>
    rintro l2 i k X hx ⟨hS, hB⟩ hlt
    obtain ⟨hkn, rfl⟩ : k < (n + 1) / 2 ∧ i = k := by
      have := List.getElem?_eq_some_iff.1 hx
      simp at this
      omega
    have hc0 : X.cell? ⟨W.heap.size, 0, none⟩ = some (.int .u64 (part bs i)) := by simp [World.cell?, hS]
    have hf0 : X.frozen? ⟨W.heap.size, 0, none⟩ = false := by simp [World.frozen?, hS]
    have h1 := part_le bs i
    have h2 := wordAt_lt bs i
    have HP := Lib.hid (part_succ bs i)
    have HS1 := Lib.hid (show (X.setCell ⟨W.heap.size, 0, none⟩ (.int .u64 (part bs i + wordAt bs i))).heap[W.heap.size]? = some (.cells #[.int .u64 (part bs i + wordAt bs i)] 22 (0, 0)) by rw [heap_setCell_same X _ 0 _ _ _ hS]; rfl)
    have HB := Lib.hid hB
    clear hx hS hB
    gi_wp2
    exact ⟨only_set _ _ _ _, by rw [HP.out]; simpa using HS1.out, HB.out.setCell (p := ⟨W.heap.size, 0, none⟩) (Nat.le_refl _) _⟩
  case done =>
    rintro D X hD ⟨hS, hB⟩ hK
    have hD0 : W.heap.size < D := by omega
    have hlen : part bs (List.range ((n + 1) / 2)).length = totalOf bs := by rw [List.length_range, totalOf, HBY.out.len]
    rw [hlen] at hS
    have hc0 : X.cell? ⟨W.heap.size, 0, none⟩ = some (.int .u64 (totalOf bs)) := by simp [World.cell?, hS]
    have hbd : totalOf bs ≤ 65535 * 500001 := Nat.le_trans (part_le _ _) (Nat.mul_le_mul_left _ (by rw [HBY.out.len]; omega))
    obtain ⟨s0, hs0⟩ : ∃ s0, totalOf bs = s0 := ⟨_, rfl⟩
    have HT := Lib.hid (show sumL bs = 65535 - csum s0 by unfold sumL; rw [hs0])
    rw [hs0] at hS hc0 hbd
    have HI := Lib.hid (show X.heap[W.heap.size]? = some (.cells #[.int .u64 s0] 22 (0, 0)) ∧ Below W.heap.size W X ∧ X.heap[D]? = some (.deferred (some [])) from ⟨hS, hB, hK⟩)
    clear hlen hS hB hK hs0
    gi_wp2
    gi_loopw [12] (fun _ wr => ∃ s : Nat, s ≤ 65535 * 500001 ∧ Hid (csum s = csum s0) ∧ Hid (wr.heap[W.heap.size]? = some (.cells #[.int .u64 s] 22 (0, 0)) ∧ Below W.heap.size W wr ∧ wr.heap[D]? = some (.deferred (some [])))) (fun _ wr => match wr.cell? ⟨W.heap.size, 0, none⟩ with | some v => (intOf v).toNat | none => 0)
    case atStart => exact ⟨s0, hbd, rfl, HI⟩
    case round =>
      obtain ⟨s, hsb, hcs, hI⟩ := hrel
      have hcS : wr.cell? ⟨W.heap.size, 0, none⟩ = some (.int .u64 s) := by simp [World.cell?, hI.out.1]
      have hfS : wr.frozen? ⟨W.heap.size, 0, none⟩ = false := by simp [World.frozen?, hI.out.1]
      by_cases hbig : 65536 ≤ s
      · have hq : ((s : Int) / 65536 != 0) = true := by simp; omega
        have hv : Value.int .u64 (IntKind.u64.wrap (bits BinOp.and IntKind.u64 (s : Int) 65535 + (s : Int) / 65536)) = .int .u64 ((s % 65536 + s / 65536 : Nat) : Int) := by
          rw [u64_low s (by omega), IntWalk.u64_in _ (by omega)]
          congr 1
        have HV := Lib.hid hv
        have HC := Lib.hid (csum_fold s)
        have HS2 := Lib.hid (show (wr.setCell ⟨W.heap.size, 0, none⟩ (.int .u64 ((s % 65536 + s / 65536 : Nat) : Int))).heap[W.heap.size]? = some (.cells #[.int .u64 ((s % 65536 + s / 65536 : Nat) : Int)] 22 (0, 0)) by rw [heap_setCell_same wr _ 0 _ _ _ hI.out.1]; rfl)
        have hcr : ∀ v, (wr.setCell ⟨W.heap.size, 0, none⟩ v).cell? ⟨W.heap.size, 0, none⟩ = some v := fun v => World.cell?_setCell_same' _ _ _ (by rw [hcS]; rfl)
        have HCR := Lib.hid hcr
        clear hv hcr
        gi_wp2
        rw [HV.out, HCR.out, hcS]
        refine ⟨⟨s % 65536 + s / 65536, by omega, HC.out.trans hcs, HS2.out, hI.out.2.1.setCell (p := ⟨W.heap.size, 0, none⟩) (Nat.le_refl _) _, ?_⟩, by simp [intOf]; omega⟩
        exact (Below.heap_setCell _ _ _ _ (by simp; omega)).trans hI.out.2.2
      · have hq : ((s : Int) / 65536 != 0) = false := by simp; omega
        have HN := Lib.hid (u16_not s (by omega))
        have hcm := csum_small (s := s) (by omega)
        have HC := Lib.hid (show sumL bs = 65535 - s by rw [HT.out, ← hcs.out, hcm])
        clear hcm
        gi_wp2
        refine ⟨by simp, .inl ⟨_, _, rfl, run_takeDeferred hI.out.2.2, ?_⟩⟩
        refine ⟨_, results_tmp rfl _ _ _, ?_, hI.out.2.1.trans (below_putObj _ _ _ (by omega))⟩
        rw [HC.out]
        show Ending.returned (.int .u16 (bits BinOp.xor IntKind.u16 IntKind.u16.max (s : Int))) = _
        rw [HN.out]
end Go.Proofs.Ytkplhmmajafflaa
