/- The arguments of a law, opened: whatever their types. No program in sight. -/
import Derived.Test.YtkplhmmajafflaaMem
import Derived.OpenShut
import Derived.ChangeArms
import Derived.ChangeOld
import Derived.ChangeSame
import Derived.Carry
import Derived.ProofKit
namespace Go.Proofs.Ytkplhmmajafflaa
open Go.RowKit Go.ChangeShapes Go.WideShapes Go.ChangeAt
set_option linter.unusedSimpArgs false
set_option linter.unusedVariables false

/-- These cells read as a value of type t. -/
def Opn (P : Program) (w : World) (t : TypeId) (cs : List Value) : Prop :=
  ∃ (H : Type) (enc : TypeId × Value → H) (base : Nat) (spare : Nat → Bool) (held : Bool) (fuel : Nat) (x : DataW H × List MemPlace), DataW.trod enc P w base spare held fuel t cs = some x

section
variable {P : Program} {w : World} {t : TypeId} {cs : List Value}

theorem Opn.bool (ht : P.underlying t = some .bool) (h : Opn P w t cs) : ∃ b, cs = [.bool b] := by
  obtain ⟨_, _, _, _, _, _, _, h⟩ := h
  obtain ⟨b, h, _⟩ := DataW.trod_bool ht h
  exact ⟨b, h⟩
theorem Opn.int {k : IntKind} (ht : P.underlying t = some (.int k)) (h : Opn P w t cs) : ∃ n, cs = [.int k n] ∧ (Lit.int k n).wf = true := by
  obtain ⟨_, _, _, _, _, _, _, h⟩ := h
  obtain ⟨b, h, _, hw⟩ := DataW.trod_int ht h
  exact ⟨b, h, hw⟩

/-- The fields of a struct, or the elements of an array, one after the other. -/
def Opns (P : Program) (w : World) : List TypeId → List Value → Prop
  | [], cs => cs = []
  | t :: ts, cs => ∃ p q, cs = p ++ q ∧ Opn P w t p ∧ Opns P w ts q

def contig (P : Program) : Nat → List Field → Bool
  | _, [] => true
  | o, f :: fs => f.offset == o && contig P (o + P.cellsOf f.type) fs
def widths (P : Program) : List TypeId → Nat
  | [] => 0
  | t :: ts => P.cellsOf t + widths P ts

theorem opns_of (fs : List Field) : ∀ (o : Nat) (cs : List Value), contig P o fs = true → (cs.drop o).length = widths P (fs.map (·.type)) →
    (∀ (i : Nat) (f : Field), fs[i]? = some f → Opn P w f.type ((cs.drop f.offset).take (P.cellsOf f.type))) → Opns P w (fs.map (·.type)) (cs.drop o) := by
  induction fs with
  | nil => intro o cs _ hl _; exact List.length_eq_zero_iff.1 hl
  | cons f fs ih =>
    intro o cs hc hl h
    simp [contig] at hc
    obtain ⟨rfl, hc⟩ := hc
    simp [widths] at hl
    refine ⟨(cs.drop f.offset).take (P.cellsOf f.type), cs.drop (f.offset + P.cellsOf f.type), ?_, h 0 f rfl, ?_⟩
    · rw [← List.drop_drop, List.take_append_drop]
    · refine ih _ cs hc ?_ fun i g hg => h (i + 1) g hg
      simp; omega

theorem Opn.struct {fs : Array Field} (ht : P.underlying t = some (.struct fs)) (hc : contig P 0 fs.toList = true) (hw : P.cellsOf t = widths P (fs.toList.map (·.type))) (h : Opn P w t cs) :
    Opns P w (fs.toList.map (·.type)) cs := by
  obtain ⟨H, enc, base, spare, held, fuel, x, h⟩ := h
  obtain ⟨xs, n, _, _, hl, hxl, hg⟩ := DataW.trod_struct ht h
  have := opns_of (P := P) (w := w) fs.toList 0 cs hc (by simp; omega) fun i f hf => by
    have hf' : fs[i]? = some f := by simpa using hf
    have hi : i < fs.size := (Array.getElem?_eq_some_iff.1 hf').1
    exact ⟨H, enc, base, spare, held, n, xs[i]'(by omega), (hg i f hf').trans (List.getElem?_eq_getElem _)⟩
  simpa using this

theorem opns_rep {e : TypeId} (n : Nat) : ∀ cs : List Value, cs.length = n * P.cellsOf e → (∀ i, i < n → Opn P w e ((cs.drop (i * P.cellsOf e)).take (P.cellsOf e))) → Opns P w (List.replicate n e) cs := by
  induction n with
  | zero => intro cs hl _; exact List.length_eq_zero_iff.1 (by simpa using hl)
  | succ n ih =>
    intro cs hl h
    refine ⟨cs.take (P.cellsOf e), cs.drop (P.cellsOf e), (List.take_append_drop _ _).symm, by simpa using h 0 (by omega), ?_⟩
    refine ih _ (by simp [hl, Nat.succ_mul]) fun i hi => ?_
    have := h (i + 1) (by omega)
    rw [List.drop_drop]
    rw [Nat.succ_mul, Nat.add_comm] at this
    exact this

theorem Opn.array {n : Nat} {e : TypeId} (ht : P.underlying t = some (.array n e)) (hw : P.cellsOf t = n * P.cellsOf e) (h : Opn P w t cs) : Opns P w (List.replicate n e) cs := by
  obtain ⟨H, enc, base, spare, held, fuel, x, h⟩ := h
  obtain ⟨xs, m, _, _, hl, hxl, hg⟩ := DataW.trod_array ht h
  refine opns_rep n cs (by omega) fun i hi => ⟨H, enc, base, spare, held, m, xs[i]'(by omega), (hg i hi).trans (List.getElem?_eq_getElem _)⟩

theorem Opns.nil (h : Opns P w [] cs) : cs = [] := h
theorem Opns.cons {t : TypeId} {ts : List TypeId} (h : Opns P w (t :: ts) cs) : ∃ p q, cs = p ++ q ∧ Opn P w t p ∧ Opns P w ts q := h
theorem Opns.int {k : IntKind} {ts : List TypeId} (ht : P.underlying t = some (.int k)) (h : Opns P w (t :: ts) cs) : ∃ n q, cs = .int k n :: q ∧ (Lit.int k n).wf = true ∧ Opns P w ts q := by
  obtain ⟨p, q, rfl, h, r⟩ := h
  obtain ⟨n, rfl, hw⟩ := h.int ht
  exact ⟨n, q, rfl, hw, r⟩
theorem Opns.bool {ts : List TypeId} (ht : P.underlying t = some .bool) (h : Opns P w (t :: ts) cs) : ∃ b q, cs = .bool b :: q ∧ Opns P w ts q := by
  obtain ⟨p, q, rfl, h, r⟩ := h
  obtain ⟨n, rfl⟩ := h.bool ht
  exact ⟨n, q, rfl, r⟩

theorem row?_of_cells {base : Nat} {a : Addr} {n : Nat} {cs : List Value} (hn : 0 < n) (h : w.cells? base a n = some cs) :
    ∃ b off, a = ⟨b, off, none⟩ ∧ b < w.heap.size ∧ w.row? b off n = some cs.toArray := by
  obtain ⟨_, hl, hc⟩ := World.cells?_some h
  obtain ⟨b, off, sp⟩ := a
  have h0 := hc 0 hn
  have hcs0 : cs[0]? = some (cs[0]'(by omega)) := List.getElem?_eq_getElem (by omega)
  rw [hcs0] at h0
  simp only [Addr.add, if_true, World.cell?] at h0
  cases hb : w.heap[b]? with
  | none => simp [hb] at h0
  | some o =>
    cases o with
    | cells c ty f =>
      simp [hb] at h0
      obtain ⟨hsp, h0⟩ := h0
      subst hsp
      refine ⟨b, off, rfl, (Array.getElem?_eq_some_iff.1 hb).1, ?_⟩
      have hat : ∀ i, i < n → c[off + i]? = cs[i]? := by
        intro i hi
        have := hc i hi
        by_cases h0i : i = 0
        · subst h0i; simpa [Addr.add, World.cell?, hb] using this
        · simpa [Addr.add, h0i, World.cell?, hb] using this
      unfold World.row?
      rw [hb]
      have hlast := hat (n - 1) (by omega)
      rw [List.getElem?_eq_getElem (show n - 1 < cs.length by omega)] at hlast
      have hlt := (Array.getElem?_eq_some_iff.1 hlast).1
      show sub? c off n = _
      unfold sub?
      rw [if_pos (by omega)]
      congr 1
      apply Array.ext_getElem?
      intro i
      by_cases hi : i < n
      · have := hat i hi
        rw [Array.getElem?_extract, if_pos (by omega), this]; simp
      · rw [Array.getElem?_eq_none (by simp; omega), Array.getElem?_eq_none (by simp; omega)]
    | _ => simp [hb] at h0

/-- A slice: its elements as rows. -/
theorem Opn.slice {e : TypeId} {m : Nat} (ht : P.underlying t = some (.slice e)) (hC : P.cellsOf e = m) (hm : 0 < m) (h : Opn P w t cs) :
    ∃ (A : Option Addr) (n cap : Nat), cs = [.slice A n cap] ∧ n ≤ cap ∧ cap ≤ maxLen ∧
      (0 < n → ∃ b off, A = some ⟨b, off, none⟩ ∧ b < w.heap.size ∧ ∀ k, k < n → ∃ es : List Value, w.row? b (off + k * m) m = some es.toArray ∧ Opn P w e es) := by
  obtain ⟨H, enc, base, spare, held, fuel, x, h⟩ := h
  rcases DataW.trod_slice ht h with ⟨rfl, _⟩ | ⟨a, len, cap, elems, rest, n, _, rfl, _, hb, hl, hc, hel, hi, _⟩
  · exact ⟨none, 0, 0, rfl, Nat.le_refl _, Nat.zero_le _, fun h => by omega⟩
  · refine ⟨some a, len, cap, rfl, hl, hc, fun hlen => ?_⟩
    rw [hC] at hi
    have hrow : ∀ k, k < len → ∃ es, w.cells? base (a.add (k * m)) m = some es ∧ Opn P w e es := by
      intro k hk
      have := hi k hk
      rw [List.getElem?_eq_getElem (show k < elems.length by omega)] at this
      rw [Option.bind_eq_some_iff] at this
      obtain ⟨es, h1, h2⟩ := this
      exact ⟨es, h1, H, enc, base, spare, held, n, _, h2⟩
    obtain ⟨es0, h0, _⟩ := hrow 0 hlen
    simp [Addr.add] at h0
    obtain ⟨b, off, rfl, hlt, _⟩ := row?_of_cells hm h0
    refine ⟨b, off, rfl, hlt, fun k hk => ?_⟩
    obtain ⟨es, h1, h2⟩ := hrow k hk
    obtain ⟨b', off', he, _, hr⟩ := row?_of_cells hm h1
    refine ⟨es, ?_, h2⟩
    by_cases hz : k * m = 0
    · rw [hz] at he ⊢
      simp [Addr.add] at he
      rw [he.1, Nat.add_zero, he.2]; exact hr
    · simp [Addr.add, hz] at he
      rw [he.1, he.2]; exact hr

end

/-! ### The arguments of a call -/
def OpnAll (P : Program) (w : World) : List TypeId → List Value → Prop
  | [], [] => True
  | t :: ts, v :: vs => Opn P w t v.cells.toList ∧ OpnAll P w ts vs
  | _, _ => False

theorem opnAll_of {H : Type} {enc : TypeId × Value → H} {P : Program} {w : World} {base : Nat} {spare : Nat → Bool} {held : Bool} : ∀ (ts : List TypeId) (vs : List Value) (ds : List (DataW H)) (ps : List MemPlace),
    DataW.TrodAll enc P w base spare held ts vs ds ps → OpnAll P w ts vs
  | [], [], [], _, _ => trivial
  | t :: ts, v :: vs, d :: ds, ps, h => by
    obtain ⟨p, q, ⟨fuel, h1⟩, h2, _⟩ := h
    exact ⟨⟨H, enc, base, spare, held, fuel, _, h1⟩, opnAll_of ts vs ds q h2⟩
  | [], [], _ :: _, _, h => h.elim
  | [], _ :: _, _, _, h => by cases ‹List (DataW H)› <;> exact h.elim
  | _ :: _, [], _, _, h => by cases ‹List (DataW H)› <;> exact h.elim
  | _ :: _, _ :: _, [], _, h => h.elim

/-- All arguments read behind the call as before. -/
theorem below_trodAll {H : Type} {enc : TypeId × Value → H} {P : Program} (hl : laidOutB P = true) {W W' : World} (hb : Below W.heap.size W W') : ∀ (ts : List TypeId) (vs : List Value) (ds : List (DataW H)) (ps : List MemPlace),
    (ts.all fun t => P.readableRec t && decide (t < P.types.size)) = true → DataW.TrodAll enc P W 0 (fun _ => true) true ts vs ds ps → (∀ x ∈ ps, x.block < W.heap.size) →
    DataW.TrodAll enc P W' 0 (fun b => decide (b < W.heap.size)) true ts vs ds ps
  | [], [], [], _, _, h, _ => h
  | t :: ts, v :: vs, d :: ds, ps, hr, h, hlt => by
    obtain ⟨p, q, h1, h2, rfl⟩ := h
    simp at hr
    exact ⟨p, q, Below.trod hl hr.1.1 hr.1.2 h1 hb (fun x hx => hlt x (by simp [hx])), below_trodAll hl hb ts vs ds q (by simpa using hr.2) h2 (fun x hx => hlt x (by simp [hx])), rfl⟩
  | [], [], _ :: _, _, _, h, _ => h.elim
  | [], _ :: _, _, _, _, h, _ => by cases ‹List (DataW H)› <;> exact h.elim
  | _ :: _, [], _, _, _, h, _ => by cases ‹List (DataW H)› <;> exact h.elim
  | _ :: _, _ :: _, [], _, _, h, _ => h.elim

end Go.Proofs.Ytkplhmmajafflaa
