import Derived.Test.YtfbakbfljpadlaaWe
import Derived.Test.YtfbakbfljpadlaaFa
import Derived.Test.YtfbakbfljpadlaaArgs
/- The acts of a writer, as arguments; a number written, by the number of its size. -/
namespace Go.Proofs.Ytfbakbfljpadlaa
open Go.RowKit Go.Maps
set_option linter.unusedSimpArgs false
set_option linter.unusedVariables false

structure ActV where
  (kind pos : Int) (n : Nat) (b : Sl) (bs : List UInt8)
/-- A slice of acts. -/
def Acts (w : World) (A : Option Addr) (m : Nat) (l : List ActV) : Prop :=
  l.length = m ∧ (0 < m → ∃ b off, A = some ⟨b, off, none⟩ ∧ b < w.heap.size ∧ ∀ i x, l[i]? = some x →
    w.cell? ⟨b, off + i * 4, none⟩ = some (.int .i64 x.kind) ∧ w.cell? ⟨b, off + i * 4 + 1, none⟩ = some (.int .i64 x.pos) ∧ w.cell? ⟨b, off + i * 4 + 2, none⟩ = some (.int .u64 x.n) ∧ w.cell? ⟨b, off + i * 4 + 3, none⟩ = some (.slice x.b.a x.b.n x.b.c)) ∧
  (∀ x ∈ l, x.n < 18446744073709551616 ∧ IsBy w x.b.a x.b.n x.bs ∧ x.b.n ≤ 9223372036854775807 ∧ (Lit.int .i64 x.kind).wf = true ∧ (Lit.int .i64 x.pos).wf = true)
theorem Acts.below {w w' : World} {A : Option Addr} {m : Nat} {l : List ActV} (h : Acts w A m l) (hb : Below w.heap.size w w') : Acts w' A m l := by
  obtain ⟨h1, h2, h3⟩ := h
  refine ⟨h1, fun hm => ?_, fun x hx => ?_⟩
  · obtain ⟨b, off, hA, hlt, hc⟩ := h2 hm
    refine ⟨b, off, hA, Nat.lt_of_lt_of_le hlt hb.size, fun i x hx => ?_⟩
    obtain ⟨c1, c2, c3, c4⟩ := hc i x hx
    exact ⟨(hb.cell (p := ⟨b, off + i * 4, none⟩) hlt).trans c1, (hb.cell (p := ⟨b, off + i * 4 + 1, none⟩) hlt).trans c2, (hb.cell (p := ⟨b, off + i * 4 + 2, none⟩) hlt).trans c3, (hb.cell (p := ⟨b, off + i * 4 + 3, none⟩) hlt).trans c4⟩
  · obtain ⟨c1, c2, c3⟩ := h3 x hx
    exact ⟨c1, c2.below hb, c3⟩

theorem u64_wf {x : Int} (h : (Lit.int .u64 x).wf = true) : ∃ n : Nat, x = (n : Int) ∧ n < 18446744073709551616 := by
  have h2 : 0 ≤ x ∧ x < 18446744073709551616 := by
    have := h
    simp [Lit.wf] at this
    have e1 : IntKind.u64.min = 0 := by decide
    have e2 : IntKind.u64.max = 18446744073709551615 := by decide
    omega
  exact ⟨x.toNat, by omega, by omega⟩

theorem arg_acts {w : World} {v : Value} (h : Arg Try.prog w 54 v) : ∃ (A : Option Addr) (m c : Nat) (l : List ActV), v = .slice A m c ∧ m ≤ c ∧ c ≤ maxLen ∧ Acts w A m l := by
  obtain ⟨A, n, cap, rfl, g1, g2, g3⟩ := h.slice Try.underlying54 (m := 4) (by kernel_rfl) (by omega)
  by_cases hn : 0 < n
  · obtain ⟨b, off, rfl, hlt, hk⟩ := g3 hn
    obtain ⟨l, hl, hp⟩ := list_of n (fun i (x : ActV) => (w.cell? ⟨b, off + i * 4, none⟩ = some (.int .i64 x.kind) ∧ w.cell? ⟨b, off + i * 4 + 1, none⟩ = some (.int .i64 x.pos) ∧ w.cell? ⟨b, off + i * 4 + 2, none⟩ = some (.int .u64 x.n) ∧ w.cell? ⟨b, off + i * 4 + 3, none⟩ = some (.slice x.b.a x.b.n x.b.c)) ∧ (x.n < 18446744073709551616 ∧ IsBy w x.b.a x.b.n x.bs ∧ x.b.n ≤ 9223372036854775807 ∧ (Lit.int .i64 x.kind).wf = true ∧ (Lit.int .i64 x.pos).wf = true)) fun i hi => by
      obtain ⟨es, e1, e2⟩ := hk i hi
      have h := e2.struct Try.underlying63 (by kernel_rfl) (by kernel_rfl)
      change Opns Try.prog w [3, 3, 31, 22] es at h
      obtain ⟨x, q0, rfl, xw, r0⟩ := Opns.int Try.underlying3 h
      obtain ⟨y, q1, rfl, yw, r1⟩ := Opns.int Try.underlying3 r0
      obtain ⟨z, q2, rfl, zw, r2⟩ := Opns.int Try.underlying31 r1
      obtain ⟨pb, q3, rfl, hb, r3⟩ := Opns.cons r2
      obtain rfl := Opns.nil r3
      obtain ⟨B, k, c, bs, rfl, k1, k2, k3⟩ := opn_bytes Try.underlying22 Try.underlying5 (by kernel_rfl) hb
      obtain ⟨zn, rfl, hz⟩ := u64_wf zw
      unfold maxLen at k2
      exact ⟨⟨x, y, zn, ⟨B, k, c⟩, bs⟩, ⟨row_at e1 (i := 0) rfl, row_at e1 (i := 1) rfl, row_at e1 (i := 2) rfl, row_at e1 (i := 3) rfl⟩, hz, k3, by simp only; omega, xw, yw⟩
    refine ⟨_, n, cap, l, rfl, g1, g2, ⟨hl, fun _ => ⟨b, off, rfl, hlt, fun i x hx => (hp i x hx).1⟩, fun x hx => ?_⟩⟩
    obtain ⟨i, hi, e⟩ := List.getElem_of_mem hx
    exact (hp i x (by rw [← e]; exact List.getElem?_eq_getElem hi)).2
  · exact ⟨A, n, cap, [], rfl, g1, g2, ⟨by simp; omega, fun h => absurd h hn, by simp⟩⟩

theorem lput_any (y : Nat) (hy : y < 6) (r : Wr) (base g : Nat) (W : World) (n : Nat) (h : r.At W base g) (hbase : base ≤ W.heap.size) :
    Calls Try.prog 32 #[.pointer (some ⟨g, 0, none⟩), .int .i64 y, .int .u64 n] W (PutPost r base g n (sz y) W) := by
  have hc : y = 0 ∨ y = 1 ∨ y = 2 ∨ y = 3 ∨ y = 4 ∨ y = 5 := by omega
  have HP := Lib.hid (fun f k (hf : WFun f k) => WU_any f k r base g W n h hbase hf)
  clear h
  rcases hc with rfl | rfl | rfl | rfl | rfl | rfl
  all_goals
    go_enter Try.func32, Try.ntmps32
    go_wp2_with (first
      | (go_at_call 43; refine (HP.out 43 1 (.inl ⟨rfl, rfl⟩)).mono ?_; rintro e w1 (⟨h1, rfl, h2⟩ | ⟨h1, rfl, h2⟩ | ⟨h1, rfl, h2⟩))
      | (go_at_call 46; refine (HP.out 46 2 (.inr (.inl ⟨rfl, rfl⟩))).mono ?_; rintro e w1 (⟨h1, rfl, h2⟩ | ⟨h1, rfl, h2⟩ | ⟨h1, rfl, h2⟩))
      | (go_at_call 47; refine (HP.out 47 3 (.inr (.inr (.inl ⟨rfl, rfl⟩)))).mono ?_; rintro e w1 (⟨h1, rfl, h2⟩ | ⟨h1, rfl, h2⟩ | ⟨h1, rfl, h2⟩))
      | (go_at_call 57; refine (HP.out 57 4 (.inr (.inr (.inr (.inl ⟨rfl, rfl⟩))))).mono ?_; rintro e w1 (⟨h1, rfl, h2⟩ | ⟨h1, rfl, h2⟩ | ⟨h1, rfl, h2⟩))
      | (go_at_call 58; refine (HP.out 58 6 (.inr (.inr (.inr (.inr (.inl ⟨rfl, rfl⟩)))))).mono ?_; rintro e w1 (⟨h1, rfl, h2⟩ | ⟨h1, rfl, h2⟩ | ⟨h1, rfl, h2⟩))
      | (go_at_call 44; refine (HP.out 44 8 (.inr (.inr (.inr (.inr (.inr ⟨rfl, rfl⟩)))))).mono ?_; rintro e w1 (⟨h1, rfl, h2⟩ | ⟨h1, rfl, h2⟩ | ⟨h1, rfl, h2⟩)))
    all_goals
      go_ret
      first
        | exact .inl ⟨h1, rfl, h2⟩
        | exact .inr (.inl ⟨h1, rfl, h2⟩)
        | exact .inr (.inr ⟨h1, rfl, h2⟩)
end Go.Proofs.Ytfbakbfljpadlaa
