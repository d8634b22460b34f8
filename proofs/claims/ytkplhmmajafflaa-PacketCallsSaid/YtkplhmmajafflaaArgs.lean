import Derived.Test.YtkplhmmajafflaaLaw
import Derived.Test.YtkplhmmajafflaaBytes
/- Slices of integers as arguments. No program in sight. -/
namespace Go.Proofs.Ytkplhmmajafflaa
open Go.RowKit
set_option linter.unusedSimpArgs false
set_option linter.unusedVariables false

theorem list_of {α : Type} (n : Nat) (p : Nat → α → Prop) (h : ∀ k, k < n → ∃ x, p k x) : ∃ l : List α, l.length = n ∧ ∀ k x, l[k]? = some x → p k x := by
  induction n with
  | zero => exact ⟨[], rfl, fun k x h => by simp at h⟩
  | succ n ih =>
    obtain ⟨l, hl, hp⟩ := ih fun k hk => h k (by omega)
    obtain ⟨x, hx⟩ := h n (by omega)
    refine ⟨l ++ [x], by simp [hl], fun k y hy => ?_⟩
    by_cases hk : k < n
    · rw [List.getElem?_append_left (by omega)] at hy; exact hp k y hy
    · have : k = n := by
        have := (List.getElem?_eq_some_iff.1 hy).1
        simp [hl] at this; omega
      subst this
      simp [← hl] at hy
      rw [← hy]; exact hx

theorem row_cell {w : World} {b off : Nat} {v : Value} (h : w.row? b off 1 = some #[v]) : w.cell? ⟨b, off, none⟩ = some v := by
  unfold World.row? at h
  split at h
  · rename_i c t f hb
    obtain ⟨_, hi⟩ := sub?_some h
    have := hi 0 (by omega)
    simp [World.cell?, hb]
    simpa using this
  · cases h

/-- A slice of integers. -/
theorem arg_ints {P : Program} {w : World} {v : Value} {T E : TypeId} {k : IntKind} (hT : P.underlying T = some (.slice E)) (hE : P.underlying E = some (.int k)) (hc : P.cellsOf E = 1) (h : Arg P w T v) :
    ∃ (A : Option Addr) (n c : Nat) (l : List Int), v = .slice A n c ∧ n ≤ c ∧ c ≤ maxLen ∧ l.length = n ∧ Held w A (l.map (Value.int k)) ∧ ∀ x ∈ l, (Lit.int k x).wf = true := by
  obtain ⟨A, n, cap, rfl, h1, h2, h3⟩ := h.slice hT hc (by omega)
  by_cases hn : 0 < n
  · obtain ⟨b, off, rfl, hlt, hk⟩ := h3 hn
    obtain ⟨l, hl, hp⟩ := list_of n (fun j (x : Int) => w.cell? ⟨b, off + j, none⟩ = some (.int k x) ∧ (Lit.int k x).wf = true) fun j hj => by
      obtain ⟨es, e1, e2⟩ := hk j hj
      obtain ⟨x, rfl, hw⟩ := e2.int hE
      exact ⟨x, row_cell (by simpa using e1), hw⟩
    refine ⟨_, n, cap, l, rfl, h1, h2, hl, fun _ => ⟨b, off, rfl, hlt, fun j u hj => ?_⟩, fun x hx => ?_⟩
    · rw [List.getElem?_map] at hj
      obtain ⟨x, hx, rfl⟩ := Option.map_eq_some_iff.1 hj
      exact (hp j x hx).1
    · obtain ⟨j, hj, e⟩ := List.getElem_of_mem hx
      exact (hp j x (by rw [← e]; exact List.getElem?_eq_getElem hj)).2
  · exact ⟨A, n, cap, [], rfl, h1, h2, by simp; omega, Held.nil, by simp⟩

/-- A slice of pairs of integers. -/
def Pairs (k j : IntKind) (w : World) (A : Option Addr) (n : Nat) (l : List (Int × Int)) : Prop :=
  l.length = n ∧ (0 < n → ∃ b off, A = some ⟨b, off, none⟩ ∧ b < w.heap.size ∧ ∀ i p, l[i]? = some p → w.cell? ⟨b, off + i * 2, none⟩ = some (.int k p.1) ∧ w.cell? ⟨b, off + i * 2 + 1, none⟩ = some (.int j p.2))
theorem Pairs.below {k j : IntKind} {w w' : World} {A : Option Addr} {n : Nat} {l : List (Int × Int)} (h : Pairs k j w A n l) (hb : Below w.heap.size w w') : Pairs k j w' A n l := by
  obtain ⟨h1, h2⟩ := h
  refine ⟨h1, fun hn => ?_⟩
  obtain ⟨b, off, hA, hlt, hc⟩ := h2 hn
  refine ⟨b, off, hA, Nat.lt_of_lt_of_le hlt hb.size, fun i p hp => ?_⟩
  obtain ⟨c1, c2⟩ := hc i p hp
  exact ⟨(hb.cell (p := ⟨b, off + i * 2, none⟩) hlt).trans c1, (hb.cell (p := ⟨b, off + i * 2 + 1, none⟩) hlt).trans c2⟩
theorem row_cell2 {w : World} {b off : Nat} {u v : Value} (h : w.row? b off 2 = some #[u, v]) : w.cell? ⟨b, off, none⟩ = some u ∧ w.cell? ⟨b, off + 1, none⟩ = some v := by
  unfold World.row? at h
  split at h
  · rename_i c t f hb
    obtain ⟨_, hi⟩ := sub?_some h
    have h0 := hi 0 (by omega)
    have h1 := hi 1 (by omega)
    simp [World.cell?, hb]
    exact ⟨by simpa using h0, by simpa using h1⟩
  · cases h
theorem arg_pairs {P : Program} {w : World} {v : Value} {T E F G : TypeId} {k j : IntKind} {fs : Array Field} (hT : P.underlying T = some (.slice E)) (hE : P.underlying E = some (.struct fs)) (hfs : fs.toList.map (·.type) = [F, G])
    (h1 : contig P 0 fs.toList = true) (h2 : P.cellsOf E = widths P (fs.toList.map (·.type))) (hF : P.underlying F = some (.int k)) (hG : P.underlying G = some (.int j)) (hc : P.cellsOf E = 2) (h : Arg P w T v) :
    ∃ (A : Option Addr) (n c : Nat) (l : List (Int × Int)), v = .slice A n c ∧ n ≤ c ∧ c ≤ maxLen ∧ Pairs k j w A n l ∧ ∀ p ∈ l, (Lit.int k p.1).wf = true ∧ (Lit.int j p.2).wf = true := by
  obtain ⟨A, n, cap, rfl, g1, g2, g3⟩ := h.slice hT hc (by omega)
  by_cases hn : 0 < n
  · obtain ⟨b, off, rfl, hlt, hk⟩ := g3 hn
    obtain ⟨l, hl, hp⟩ := list_of n (fun i (p : Int × Int) => (w.cell? ⟨b, off + i * 2, none⟩ = some (.int k p.1) ∧ w.cell? ⟨b, off + i * 2 + 1, none⟩ = some (.int j p.2)) ∧ (Lit.int k p.1).wf = true ∧ (Lit.int j p.2).wf = true) fun i hi => by
      obtain ⟨es, e1, e2⟩ := hk i hi
      have h := e2.struct hE h1 h2
      rw [hfs] at h
      obtain ⟨x, q0, rfl, xw, r0⟩ := Opns.int hF h
      obtain ⟨y, q1, rfl, yw, r1⟩ := Opns.int hG r0
      obtain rfl := Opns.nil r1
      exact ⟨(x, y), row_cell2 (by simpa using e1), xw, yw⟩
    refine ⟨_, n, cap, l, rfl, g1, g2, ⟨hl, fun _ => ⟨b, off, rfl, hlt, fun i p hip => (hp i p hip).1⟩⟩, fun p hp' => ?_⟩
    obtain ⟨i, hi, e⟩ := List.getElem_of_mem hp'
    exact (hp i p (by rw [← e]; exact List.getElem?_eq_getElem hi)).2
  · exact ⟨A, n, cap, [], rfl, g1, g2, ⟨by simp; omega, fun h => absurd h hn⟩, by simp⟩

theorem row_at {w : World} {b off m : Nat} {es : List Value} (h : w.row? b off m = some es.toArray) {i : Nat} {u : Value} (hi : es[i]? = some u) : w.cell? ⟨b, off + i, none⟩ = some u := by
  unfold World.row? at h
  split at h
  · rename_i c t f hb
    obtain ⟨hs, hh⟩ := sub?_some h
    have hlt := (List.getElem?_eq_some_iff.1 hi).1
    have := hh i (by simp at hs; omega)
    simp [World.cell?, hb]
    rw [this]
    simpa using hi
  · cases h

/-- A slice of integers, inside of a value. -/
theorem opn_ints {P : Program} {w : World} {cs : List Value} {T E : TypeId} {k : IntKind} (hT : P.underlying T = some (.slice E)) (hE : P.underlying E = some (.int k)) (hc : P.cellsOf E = 1) (h : Opn P w T cs) :
    ∃ (A : Option Addr) (n c : Nat) (l : List Int), cs = [.slice A n c] ∧ n ≤ c ∧ c ≤ maxLen ∧ l.length = n ∧ Held w A (l.map (Value.int k)) ∧ ∀ x ∈ l, (Lit.int k x).wf = true := by
  obtain ⟨A, n, cap, rfl, h1, h2, h3⟩ := h.slice hT hc (by omega)
  by_cases hn : 0 < n
  · obtain ⟨b, off, rfl, hlt, hk⟩ := h3 hn
    obtain ⟨l, hl, hp⟩ := list_of n (fun j (x : Int) => w.cell? ⟨b, off + j, none⟩ = some (.int k x) ∧ (Lit.int k x).wf = true) fun j hj => by
      obtain ⟨es, e1, e2⟩ := hk j hj
      obtain ⟨x, rfl, hw⟩ := e2.int hE
      exact ⟨x, row_cell (by simpa using e1), hw⟩
    refine ⟨_, n, cap, l, rfl, h1, h2, hl, fun _ => ⟨b, off, rfl, hlt, fun j u hj => ?_⟩, fun x hx => ?_⟩
    · rw [List.getElem?_map] at hj
      obtain ⟨x, hx, rfl⟩ := Option.map_eq_some_iff.1 hj
      exact (hp j x hx).1
    · obtain ⟨j, hj, e⟩ := List.getElem_of_mem hx
      exact (hp j x (by rw [← e]; exact List.getElem?_eq_getElem hj)).2
  · exact ⟨A, n, cap, [], rfl, h1, h2, by simp; omega, Held.nil, by simp⟩

theorem byte_wf {x : Int} (h : (Lit.int .u8 x).wf = true) : ∃ b : UInt8, x = (b.toNat : Int) := by
  have h2 : 0 ≤ x ∧ x < 256 := by
    have := h
    simp [Lit.wf] at this
    have e1 : IntKind.u8.min = 0 := by decide
    have e2 : IntKind.u8.max = 255 := by decide
    omega
  refine ⟨UInt8.ofNat x.toNat, ?_⟩
  simp
  omega

theorem bytes_wf : ∀ l : List Int, (∀ x ∈ l, (Lit.int .u8 x).wf = true) → ∃ bs : List UInt8, l.map (Value.int .u8) = bs.map byv
  | [], _ => ⟨[], rfl⟩
  | x :: l, h => by
    obtain ⟨b, rfl⟩ := byte_wf (h x (by simp))
    obtain ⟨bs, hb⟩ := bytes_wf l fun y hy => h y (by simp [hy])
    exact ⟨b :: bs, by rw [List.map_cons, List.map_cons, hb]; rfl⟩

/-- A slice of bytes, inside of a value. -/
theorem opn_bytes {P : Program} {w : World} {cs : List Value} {T E : TypeId} (hT : P.underlying T = some (.slice E)) (hE : P.underlying E = some (.int .u8)) (hc : P.cellsOf E = 1) (h : Opn P w T cs) :
    ∃ (A : Option Addr) (n c : Nat) (bs : List UInt8), cs = [.slice A n c] ∧ n ≤ c ∧ c ≤ maxLen ∧ IsBy w A n bs := by
  obtain ⟨A, n, c, l, rfl, h1, h2, h3, h4, h5⟩ := opn_ints hT hE hc h
  obtain ⟨bs, hb⟩ := bytes_wf l h5
  rw [hb] at h4
  exact ⟨A, n, c, bs, rfl, h1, h2, h4, by have := congrArg List.length hb; simp at this; omega⟩

/-- A slice of bytes. -/
theorem arg_bytes {P : Program} {w : World} {v : Value} {T E : TypeId} (hT : P.underlying T = some (.slice E)) (hE : P.underlying E = some (.int .u8)) (hc : P.cellsOf E = 1) (h : Arg P w T v) :
    ∃ (A : Option Addr) (n c : Nat) (bs : List UInt8), v = .slice A n c ∧ n ≤ c ∧ c ≤ maxLen ∧ IsBy w A n bs := by
  obtain ⟨A, n, c, l, rfl, h1, h2, h3, h4, h5⟩ := arg_ints hT hE hc h
  obtain ⟨bs, hb⟩ := bytes_wf l h5
  rw [hb] at h4
  exact ⟨A, n, c, bs, rfl, h1, h2, h4, by have := congrArg List.length hb; simp at this; omega⟩
end Go.Proofs.Ytkplhmmajafflaa
