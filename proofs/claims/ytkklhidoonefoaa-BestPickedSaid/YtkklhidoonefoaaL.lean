import Derived.Test.YtkklhidoonefoaaOpenRt
import Derived.Test.YtkklhidoonefoaaApp
import Derived.Test.YtkklhidoonefoaaOnly
import Derived.Test.YtkklhidoonefoaaArgs
import Derived.Test.YtkklhidoonefoaaK
import Derived.DeepKeys2
import Derived.MapViews
/- Slices and routes with the same contents compare as equal. -/
namespace Go.Proofs.Ytkklhidoonefoaa
open Go.RowKit
set_option linter.unusedSimpArgs false
set_option linter.unusedVariables false

/-- '==' of structs and arrays of plain values. -/
theorem formed_of_lits {P : Program} {t : TypeId} (hwide : (match P.underlying t with | some (.array _ _) | some (.struct _) => true | _ => false) = true) {m : Nat} {xs : Array Value} {L : List Lit} (h : P.keyLits m t xs.toList = some L) : (Value.agg xs).formed P t = true := by
  cases m with
  | zero => simp [Program.keyLits] at h
  | succ m =>
    unfold Program.keyLits at h
    unfold Value.formed
    cases hu : P.underlying t with
    | none => simp [hu] at hwide
    | some kd =>
      cases kd
      case array n e =>
        simp only [hu] at h ⊢
        split at h
        · rename_i hl; simpa using hl
        · cases h
      case struct fs =>
        simp only [hu] at h ⊢
        split at h
        · rename_i hl; simpa using hl.1
        · cases h
      all_goals (simp [hu] at hwide; done)
theorem eql_of_opn {P : Program} {w w' : World} {t : TypeId} (m : Nat) (hm : m ≤ 10000) (hk : P.keyTypeAt m t = true) (hwide : (match P.underlying t with | some (.array _ _) | some (.struct _) => true | _ => false) = true)
    {xs : Array Value} (hx : Opn P w t xs.toList) (W : World) : (Op.equal t (.agg xs) (.agg xs)).run P W = .ok true W := by
  obtain ⟨H, enc, base, spare, held, fuel, x, h⟩ := hx
  have h1 := (Go.keyLits_of_trod m t hk fuel _ x h).1
  have hf := formed_of_lits hwide h1
  obtain ⟨r, hr, hi⟩ := run_equalIn_deep (10000 - m) m t hk W _ _ (.agg xs) (.agg xs) _ _ hf hf h1 h1
  rw [hi.2 rfl, show 10000 - m + m = 10000 by omega] at hr
  exact hr
theorem eql_agg {P : Program} {t : TypeId} {x y : Array Value} {W : World} {r : Bool} (h : (Op.equal t (.agg x) (.agg y)).run P W = .ok r W) : (binOp .eql t (.agg x) (.agg y)).run P W = .ok (.bool r) W := by
  simp only [binOp, Sem.run_bind, h, Result.andThen_ok, Sem.run_pure]
theorem neq_agg {P : Program} {t : TypeId} {x y : Array Value} {W : World} {r : Bool} (h : (Op.equal t (.agg x) (.agg y)).run P W = .ok r W) : (binOp .neq t (.agg x) (.agg y)).run P W = .ok (.bool (!r)) W := by
  simp only [binOp, Sem.run_bind, h, Result.andThen_ok, Sem.run_pure]
/-- The ints of a slice. -/
def SlI (w : World) (s : Sl) (xs : List Int) : Prop := s.n = xs.length ∧ s.n ≤ 1000 ∧ Held w s.a (xs.map (.int .u32))
theorem SlI.below {w w' : World} {s : Sl} {xs : List Int} (h : SlI w s xs) (hb : Below w.heap.size w w') : SlI w' s xs := ⟨h.1, h.2.1, h.2.2.below hb⟩
set_option maxRecDepth 100000 in
theorem Same50_like (s t : Sl) (xs : List Int) (w : World) (hs : SlI w s xs) (ht : SlI w t xs) :
    Calls Try.prog 50 #[.slice s.a s.n s.c, .slice t.a t.n t.c] w fun e w' => e = .returned (.bool true) ∧ Below w.heap.size w w' := by
  have hn := hs.2.1
  have he : t.n = s.n := ht.1.trans hs.1.symm
  have HS := Lib.hid hs
  have HT := Lib.hid ht
  clear hs ht
  rw [he]
  have hb : ((s.n : Int) != s.n) = false := by simp
  go_enter Try.func50, Try.ntmps50
  go_wp2_with fail
  go_loopw [5] (fun i wr => ∃ k : Nat, k ≤ s.n ∧ i = .int .i64 k ∧ Below w.heap.size w wr) (fun i _ => s.n - (intOf i).toNat)
  case atStart => exact ⟨0, by omega, rfl, Below.refl _ _⟩
  case round =>
    obtain ⟨k, hk, rfl, hbr⟩ := hrel
    by_cases hlt : k < s.n
    · obtain ⟨x, hx⟩ : ∃ x, xs[k]? = some x := ⟨xs[k]'(by have := HS.out.1; omega), List.getElem?_eq_getElem _⟩
      obtain ⟨b1, o1, h1, hb1, hc1⟩ := held_at (HS.out.2.2.same fun b off _ h => hbr.block b h) (j := k) (u := .int .u32 x) (by simp [hx])
      obtain ⟨b2, o2, h2, hb2, hc2⟩ := held_at (HT.out.2.2.same fun b off _ h => hbr.block b h) (j := k) (u := .int .u32 x) (by simp [hx])
      rw [h1, h2]
      have i0 : (0 : Int) ≤ (k : Int) := by omega
      have i1 : (k : Int) < (s.n : Int) := by omega
      have hxx : (x != x) = false := by simp
      clear hx
      go_wp2_with fail
      go_quiet (fail)
      go_wp2_with fail
      go_roundw
      case rel => exact ⟨k + 1, by omega, by go_num, below_drewN hbr _⟩
      case measure => simp [intOf]; omega
    · go_wp2_with fail
      go_ret
      exact ⟨rfl, hbr⟩
set_option maxRecDepth 100000 in
theorem Same51_like (s t : Sl) (xs : List Int) (w : World) (hs : SlI w s xs) (ht : SlI w t xs) :
    Calls Try.prog 51 #[.slice s.a s.n s.c, .slice t.a t.n t.c] w fun e w' => e = .returned (.bool true) ∧ Below w.heap.size w w' := by
  have hn := hs.2.1
  have he : t.n = s.n := ht.1.trans hs.1.symm
  have HS := Lib.hid hs
  have HT := Lib.hid ht
  clear hs ht
  rw [he]
  have hb : ((s.n : Int) != s.n) = false := by simp
  go_enter Try.func51, Try.ntmps51
  go_wp2_with fail
  go_loopw [5] (fun i wr => ∃ k : Nat, k ≤ s.n ∧ i = .int .i64 k ∧ Below w.heap.size w wr) (fun i _ => s.n - (intOf i).toNat)
  case atStart => exact ⟨0, by omega, rfl, Below.refl _ _⟩
  case round =>
    obtain ⟨k, hk, rfl, hbr⟩ := hrel
    by_cases hlt : k < s.n
    · obtain ⟨x, hx⟩ : ∃ x, xs[k]? = some x := ⟨xs[k]'(by have := HS.out.1; omega), List.getElem?_eq_getElem _⟩
      obtain ⟨b1, o1, h1, hb1, hc1⟩ := held_at (HS.out.2.2.same fun b off _ h => hbr.block b h) (j := k) (u := .int .u32 x) (by simp [hx])
      obtain ⟨b2, o2, h2, hb2, hc2⟩ := held_at (HT.out.2.2.same fun b off _ h => hbr.block b h) (j := k) (u := .int .u32 x) (by simp [hx])
      rw [h1, h2]
      have i0 : (0 : Int) ≤ (k : Int) := by omega
      have i1 : (k : Int) < (s.n : Int) := by omega
      have hxx : (x != x) = false := by simp
      clear hx
      go_wp2_with fail
      go_quiet (fail)
      go_wp2_with fail
      go_roundw
      case rel => exact ⟨k + 1, by omega, by go_num, below_drewN hbr _⟩
      case measure => simp [intOf]; omega
    · go_wp2_with fail
      go_ret
      exact ⟨rfl, hbr⟩

theorem agg90 : AggTy Try.prog 90 8 := ⟨fun w => by kernel_rfl, fun w => by kernel_rfl⟩
@[local go_sem ↓] theorem ld90 (ρ : Operand → Value) (dst : Option Tmp) (x : Operand) (ty : TypeId) (pos : String) (after : Array Edge) (g : Option (Nat × Bool)) (w : World) : Sem.run Try.prog (execOp ρ { dst, op := .load 90 x, type := ty, pos, after, guard := g }) w = loadRow 8 (ρ x) w (slowLoad Try.prog 90 (ρ x) w) := run_loadAgg agg90 ρ dst x ty pos after g w
/-- The communities of a slice: arrays of 8 bytes. -/
def SlC (w : World) (s : Sl) (zs : List (Array Value)) : Prop :=
  s.n = zs.length ∧ s.n ≤ 1000 ∧ (∀ z ∈ zs, ∃ W, Opn Try.prog W 90 z.toList) ∧ (0 < s.n → ∃ b off, s.a = some ⟨b, off, none⟩ ∧ b < w.heap.size ∧ ∀ k z, zs[k]? = some z → w.row? b (off + k * 8) 8 = some z)
theorem SlC.below {w w' : World} {s : Sl} {zs : List (Array Value)} (h : SlC w s zs) (hb : Below w.heap.size w w') : SlC w' s zs := by
  obtain ⟨h1, h2, h3, h4⟩ := h
  refine ⟨h1, h2, h3, fun hn => ?_⟩
  obtain ⟨b, off, hA, hlt, hc⟩ := h4 hn
  exact ⟨b, off, hA, Nat.lt_of_lt_of_le hlt hb.size, fun k z hz => (row?_of_heap (hb.block b hlt) _ _).trans (hc k z hz)⟩
set_option maxRecDepth 100000 in
theorem Same52_like (s t : Sl) (zs : List (Array Value)) (w : World) (hs : SlC w s zs) (ht : SlC w t zs) :
    Calls Try.prog 52 #[.slice s.a s.n s.c, .slice t.a t.n t.c] w fun e w' => e = .returned (.bool true) ∧ Below w.heap.size w w' := by
  have hn := hs.2.1
  have he : t.n = s.n := ht.1.trans hs.1.symm
  have HS := Lib.hid hs
  have HT := Lib.hid ht
  clear hs ht
  rw [he]
  have hb : ((s.n : Int) != s.n) = false := by simp
  go_enter Try.func52, Try.ntmps52
  go_wp2_with fail
  go_loopw [5] (fun i wr => ∃ k : Nat, k ≤ s.n ∧ i = .int .i64 k ∧ Below w.heap.size w wr) (fun i _ => s.n - (intOf i).toNat)
  case atStart => exact ⟨0, by omega, rfl, Below.refl _ _⟩
  case round =>
    obtain ⟨k, hk, rfl, hbr⟩ := hrel
    by_cases hlt : k < s.n
    · obtain ⟨z, hz⟩ : ∃ z, zs[k]? = some z := ⟨zs[k]'(by have := HS.out.1; omega), List.getElem?_eq_getElem _⟩
      obtain ⟨b1, o1, h1, hb1, hc1⟩ := (HS.out.below hbr).2.2.2 (by omega)
      obtain ⟨b2, o2, h2, hb2, hc2⟩ := (HT.out.below hbr).2.2.2 (by omega)
      have hr1 := hc1 k z hz
      have hr2 := hc2 k z hz
      obtain ⟨W0, hop⟩ := HS.out.2.2.1 z (List.mem_of_getElem? hz)
      have hqq : ∀ W, (binOp .neq 90 (.agg z) (.agg z)).run Try.prog W = .ok (.bool false) W := fun W => neq_agg (eql_of_opn (w' := W0) 2 (by omega) (by kernel_rfl) (by kernel_rfl) hop W)
      rw [h1, h2]
      have i0 : (0 : Int) ≤ (k : Int) := by omega
      have i1 : (k : Int) < (s.n : Int) := by omega
      clear hz hc1 hc2 hop
      go_wp2_with fail
      go_quiet (fail)
      go_wp2_with fail
      go_roundw
      case rel => exact ⟨k + 1, by omega, by go_num, below_drewN hbr _⟩
      case measure => simp [intOf]; omega
    · go_wp2_with fail
      go_ret
      exact ⟨rfl, hbr⟩

/-- The same but for where the slices lie. -/
structure At.like (w : World) (a b : At) : Prop where
  eq : b = { a with path := b.path, clus := b.clus, comms := b.comms }
  path : ∃ xs, SlI w a.path xs ∧ SlI w b.path xs
  clus : ∃ xs, SlI w a.clus xs ∧ SlI w b.clus xs
  comms : ∃ zs, SlC w a.comms zs ∧ SlC w b.comms zs
  tun : ∃ W, Opn Try.prog W 36 [.int .i64 a.tk, .int .u32 a.tl, .int .u32 a.tr, .int .u32 a.tg]
theorem At.like.below {w w' : World} {a b : At} (h : a.like w b) (hb : Below w.heap.size w w') : a.like w' b := by
  obtain ⟨h1, ⟨xs, h2, h3⟩, ⟨ys, h4, h5⟩, ⟨zs, h6, h7⟩, h8⟩ := h
  exact ⟨h1, ⟨xs, h2.below hb, h3.below hb⟩, ⟨ys, h4.below hb, h5.below hb⟩, ⟨zs, h6.below hb, h7.below hb⟩, h8⟩
set_option maxRecDepth 100000 in
set_option maxHeartbeats 2000000 in
theorem SameAttrs_like (a b : At) (w : World) (h : a.like w b) : Calls Try.prog 32 #[.agg a.cs, .agg b.cs] w fun e w' => e = .returned (.bool true) ∧ Below w.heap.size w w' := by
  obtain ⟨heq, hp, hc, hm, ⟨W0, ht⟩⟩ := h
  obtain ⟨xs, hp1, hp2⟩ := hp
  obtain ⟨ys, hc1, hc2⟩ := hc
  obtain ⟨zs, hm1, hm2⟩ := hm
  obtain ⟨p, hbp⟩ : ∃ p, b.path = p := ⟨_, rfl⟩
  obtain ⟨c, hbc⟩ : ∃ c, b.clus = c := ⟨_, rfl⟩
  obtain ⟨m, hbm⟩ : ∃ m, b.comms = m := ⟨_, rfl⟩
  rw [hbp, hbc, hbm] at heq
  rw [hbp] at hp2
  rw [hbc] at hc2
  rw [hbm] at hm2
  subst heq
  clear hbp hbc hbm
  have HP := Lib.hid (fun w' (hb : Below w.heap.size w w') => Same50_like a.path p xs w' (hp1.below hb) (hp2.below hb))
  have HC := Lib.hid (fun w' (hb : Below w.heap.size w w') => Same51_like a.clus c ys w' (hc1.below hb) (hc2.below hb))
  have HM := Lib.hid (fun w' (hb : Below w.heap.size w w') => Same52_like a.comms m zs w' (hm1.below hb) (hm2.below hb))
  have hqt : ∀ W, (binOp .eql 36 (.agg #[.int .i64 a.tk, .int .u32 a.tl, .int .u32 a.tr, .int .u32 a.tg]) (.agg #[.int .i64 a.tk, .int .u32 a.tl, .int .u32 a.tr, .int .u32 a.tg])).run Try.prog W = .ok (.bool true) W := fun W => eql_agg (eql_of_opn (w' := W0) 2 (by omega) (by kernel_rfl) (by kernel_rfl) ht W)
  clear hp1 hp2 hc1 hc2 hm1 hm2 ht
  have HB0 := Lib.hid (show Below w.heap.size w ((w.alloc (.cells a.cs 38)).alloc (.cells (At.cs { a with path := p, clus := c, comms := m }) 38)) from ((Below.refl _ _).alloc (Nat.le_refl _) _).alloc (by simp) _)
  have HB := Lib.hid (fun x : Grow => ext_below' HB0.out (by simp <;> omega) x)
  go_enter Try.func32, Try.ntmps32
  go_wp2_with (first
    | (go_at_call 50; refine (HP.out _ HB0.out).mono ?_; rintro e w1 ⟨rfl, hb1⟩; obtain ⟨x1, rfl⟩ := Ext.of_below hb1; clear hb1)
    | (go_at_call 51; refine (HC.out _ (HB.out _)).mono ?_; rintro e w1 ⟨rfl, hb1⟩; obtain ⟨x2, rfl⟩ := Ext.of_below hb1; clear hb1; rw [ext_ext])
    | (go_at_call 52; refine (HM.out _ (HB.out _)).mono ?_; rintro e w1 ⟨rfl, hb1⟩; obtain ⟨x3, rfl⟩ := Ext.of_below hb1; clear hb1; rw [ext_ext]))
  go_ret
  exact ⟨rfl, HB.out _⟩
/-- The same but for where the slices lie. -/
structure Rt.like (w : World) (r s : Rt) : Prop where
  eq : s = { r with a := s.a }
  a : r.a.like w s.a
  n : ∃ W, Opn Try.prog W 31 r.n.cs.toList
theorem Rt.like.below {w w' : World} {r s : Rt} (h : r.like w s) (hb : Below w.heap.size w w') : r.like w' s := ⟨h.eq, h.a.below hb, h.n⟩
set_option maxRecDepth 100000 in
set_option maxHeartbeats 2000000 in
theorem SameRoute_like (r s : Rt) (w : World) (h : r.like w s) : Calls Try.prog 16 #[.agg r.cs, .agg s.cs] w fun e w' => e = .returned (.bool true) ∧ Below w.heap.size w w' := by
  obtain ⟨heq, ha, ⟨W0, hn⟩⟩ := h
  obtain ⟨b, hb⟩ : ∃ b, s.a = b := ⟨_, rfl⟩
  rw [hb] at heq ha
  subst heq
  clear hb
  have HA := Lib.hid (fun w' (hb : Below w.heap.size w w') => SameAttrs_like r.a b w' (ha.below hb))
  have hqn : ∀ W, (binOp .eql 31 (.agg r.n.cs) (.agg r.n.cs)).run Try.prog W = .ok (.bool true) W := fun W => eql_agg (eql_of_opn (w' := W0) 3 (by omega) (by kernel_rfl) (by kernel_rfl) hn W)
  clear ha hn
  have HB0 := Lib.hid (show Below w.heap.size w ((w.alloc (.cells r.cs 40)).alloc (.cells (Rt.cs { r with a := b }) 40)) from ((Below.refl _ _).alloc (Nat.le_refl _) _).alloc (by simp) _)
  have HB := Lib.hid (fun x : Grow => ext_below' HB0.out (by simp <;> omega) x)
  go_enter Try.func16, Try.ntmps16
  go_wp2_with (first
    | (go_at_call 32; refine (HA.out _ HB0.out).mono ?_; rintro e w1 ⟨rfl, hb1⟩; obtain ⟨x1, rfl⟩ := Ext.of_below hb1; clear hb1))
  go_ret
  exact ⟨rfl, HB.out _⟩

theorem sli_of {w : World} {s : Sl} {T E : TypeId} (hT : Try.prog.underlying T = some (.slice E)) (hE : Try.prog.underlying E = some (.int .u32)) (hc : Try.prog.cellsOf E = 1) (h : Opn Try.prog w T [.slice s.a s.n s.c]) (hn : s.n ≤ 1000) : ∃ xs, SlI w s xs := by
  obtain ⟨A, n, c, l, e, _, _, hl, hh, _⟩ := opn_ints hT hE hc h
  simp at e
  obtain ⟨rfl, rfl, rfl⟩ := e
  exact ⟨l, hl.symm, hn, hh⟩
theorem slc_of {w : World} {s : Sl} (h : Opn Try.prog w 34 [.slice s.a s.n s.c]) (hn : s.n ≤ 1000) : ∃ zs, SlC w s zs := by
  obtain ⟨A, n, cap, e, _, _, h3⟩ := h.slice Try.underlying34 (m := 8) (by kernel_rfl) (by omega)
  simp at e
  obtain ⟨rfl, rfl, rfl⟩ := e
  by_cases h0 : 0 < s.n
  · obtain ⟨b, off, hA, hlt, hk⟩ := h3 h0
    obtain ⟨l, hl, hp⟩ := list_of s.n (fun k (z : Array Value) => w.row? b (off + k * 8) 8 = some z ∧ Opn Try.prog w 90 z.toList) fun k hk' => by
      obtain ⟨es, e1, e2⟩ := hk k hk'
      exact ⟨es.toArray, by simpa using e1, by simpa using e2⟩
    refine ⟨l, hl.symm, hn, fun z hz => ?_, fun _ => ⟨b, off, hA, hlt, fun k z hz => (hp k z hz).1⟩⟩
    obtain ⟨i, hi, e⟩ := List.getElem_of_mem hz
    exact ⟨w, (hp i z (by rw [← e]; exact List.getElem?_eq_getElem hi)).2⟩
  · exact ⟨[], by simp; omega, hn, by simp, fun h => absurd h h0⟩
theorem Rt.reads.like {w : World} {r : Rt} (h : r.reads w) (hl : lightB r = true) : r.like w r := by
  simp [lightB] at hl
  obtain ⟨xs, hx⟩ := sli_of Try.underlying32 Try.underlying25 (by kernel_rfl) h.a.path (by omega)
  obtain ⟨ys, hy⟩ := sli_of Try.underlying33 Try.underlying27 (by kernel_rfl) h.a.clus (by omega)
  obtain ⟨zs, hz⟩ := slc_of h.a.comms (by omega)
  exact ⟨rfl, ⟨rfl, ⟨xs, hx, hx⟩, ⟨ys, hy, hy⟩, ⟨zs, hz, hz⟩, ⟨w, h.a.tun⟩⟩, ⟨w, h.key⟩⟩
end Go.Proofs.Ytkklhidoonefoaa
