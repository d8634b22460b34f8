import Derived.Test.YtfbakbfljpadlaaLaw
import Derived.Test.YtfbakbfljpadlaaBytes
/- Slices of integers as arguments. No program in sight. -/
namespace Go.Proofs.Ytfbakbfljpadlaa
open Go.RowKit
set_option linter.unusedSimpArgs false
set_option linter.unusedVariables false

theorem list_of {α : Type} (n : Nat) (p : Nat → α → Prop) (h : ∀ k, k < n → ∃ x, p k x) : ∃ l : List α, l.length = n ∧ ∀ k x, l[k]? = some x → p k x := by
  induction n with
  | zero => exact ⟨[], rfl, fun k x h => by simp at h⟩
  | succ n ih =>
    obtain ⟨l, hl, hp⟩ := ih fun k hk => h k (by omega)
    obtain ⟨x, hx⟩ := h n (by omega)
    refine ⟨l ++ [x], by simp [hl], fun k y hy => ?_⟩
    by_cases hk : k < n
    · rw [List.getElem?_append_left (by omega)] at hy; exact hp k y hy
    · have : k = n := by
        have := (List.getElem?_eq_some_iff.1 hy).1
        simp [hl] at this; omega
      subst this
      simp [← hl] at hy
      rw [← hy]; exact hx

theorem row_cell {w : World} {b off : Nat} {v : Value} (h : w.row? b off 1 = some #[v]) : w.cell? ⟨b, off, none⟩ = some v := by
  unfold World.row? at h
  split at h
  · rename_i c t f hb
    obtain ⟨_, hi⟩ := sub?_some h
    have := hi 0 (by omega)
    simp [World.cell?, hb]
    simpa using this
  · cases h

/-- A slice of integers. -/
theorem arg_ints {P : Program} {w : World} {v : Value} {T E : TypeId} {k : IntKind} (hT : P.underlying T = some (.slice E)) (hE : P.underlying E = some (.int k)) (hc : P.cellsOf E = 1) (h : Arg P w T v) :
    ∃ (A : Option Addr) (n c : Nat) (l : List Int), v = .slice A n c ∧ n ≤ c ∧ c ≤ maxLen ∧ l.length = n ∧ Held w A (l.map (Value.int k)) ∧ ∀ x ∈ l, (Lit.int k x).wf = true := by
  obtain ⟨A, n, cap, rfl, h1, h2, h3⟩ := h.slice hT hc (by omega)
  by_cases hn : 0 < n
  · obtain ⟨b, off, rfl, hlt, hk⟩ := h3 hn
    obtain ⟨l, hl, hp⟩ := list_of n (fun j (x : Int) => w.cell? ⟨b, off + j, none⟩ = some (.int k x) ∧ (Lit.int k x).wf = true) fun j hj => by
      obtain ⟨es, e1, e2⟩ := hk j hj
      obtain ⟨x, rfl, hw⟩ := e2.int hE
      exact ⟨x, row_cell (by simpa using e1), hw⟩
    refine ⟨_, n, cap, l, rfl, h1, h2, hl, fun _ => ⟨b, off, rfl, hlt, fun j u hj => ?_⟩, fun x hx => ?_⟩
    · rw [List.getElem?_map] at hj
      obtain ⟨x, hx, rfl⟩ := Option.map_eq_some_iff.1 hj
      exact (hp j x hx).1
    · obtain ⟨j, hj, e⟩ := List.getElem_of_mem hx
      exact (hp j x (by rw [← e]; exact List.getElem?_eq_getElem hj)).2
  · exact ⟨A, n, cap, [], rfl, h1, h2, by simp; omega, Held.nil, by simp⟩

theorem byte_wf {x : Int} (h : (Lit.int .u8 x).wf = true) : ∃ b : UInt8, x = (b.toNat : Int) := by
  have h2 : 0 ≤ x ∧ x < 256 := by
    have := h
    simp [Lit.wf] at this
    have e1 : IntKind.u8.min = 0 := by decide
    have e2 : IntKind.u8.max = 255 := by decide
    omega
  refine ⟨UInt8.ofNat x.toNat, ?_⟩
  simp
  omega

theorem bytes_wf : ∀ l : List Int, (∀ x ∈ l, (Lit.int .u8 x).wf = true) → ∃ bs : List UInt8, l.map (Value.int .u8) = bs.map byv
  | [], _ => ⟨[], rfl⟩
  | x :: l, h => by
    obtain ⟨b, rfl⟩ := byte_wf (h x (by simp))
    obtain ⟨bs, hb⟩ := bytes_wf l fun y hy => h y (by simp [hy])
    exact ⟨b :: bs, by rw [List.map_cons, List.map_cons, hb]; rfl⟩

/-- A slice of bytes. -/
theorem arg_bytes {P : Program} {w : World} {v : Value} {T E : TypeId} (hT : P.underlying T = some (.slice E)) (hE : P.underlying E = some (.int .u8)) (hc : P.cellsOf E = 1) (h : Arg P w T v) :
    ∃ (A : Option Addr) (n c : Nat) (bs : List UInt8), v = .slice A n c ∧ n ≤ c ∧ c ≤ maxLen ∧ IsBy w A n bs := by
  obtain ⟨A, n, c, l, rfl, h1, h2, h3, h4, h5⟩ := arg_ints hT hE hc h
  obtain ⟨bs, hb⟩ := bytes_wf l h5
  rw [hb] at h4
  exact ⟨A, n, c, bs, rfl, h1, h2, h4, by have := congrArg List.length hb; simp at this; omega⟩
end Go.Proofs.Ytfbakbfljpadlaa
