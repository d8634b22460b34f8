import Derived.Test.YtkklhidoonefoaaK
import Derived.Test.YtkklhidoonefoaaApp
/- Routes appended to a row of the call's own. -/
namespace Go.Proofs.Ytkklhidoonefoaa
open Go.RowKit
set_option linter.unusedSimpArgs false
set_option linter.unusedVariables false

theorem info_rt0 : (Try.prog.info? 40).map (fun i => (i.zero, i.size, decide (i.bytes ≤ 1000))) = some (some (.agg zeroRt.cs), 38, true) := by kernel_rfl
theorem info_rt : ∃ i, Try.prog.info? 40 = some i ∧ i.zero = some (.agg zeroRt.cs) ∧ i.size = 38 ∧ i.bytes ≤ 1000 := by
  have h := info_rt0
  cases hi : Try.prog.info? 40 with
  | none => rw [hi] at h; simp at h
  | some i =>
    rw [hi] at h
    simp at h
    exact ⟨i, rfl, h.1, h.2.1, h.2.2⟩
@[go_sem ↓] theorem bs44_1 (ρ : Operand → Value) (dst : Option Tmp) (x0 : Operand) (ty : TypeId) (pos : String) (after : Array Edge) (g : Option (Nat × Bool)) (w : World) :
    Sem.run Try.prog (execOp ρ { dst, op := .buildSlice 44 1 #[(0, x0)], type := ty, pos, after, guard := g }) w = buildRow 38 40 [ρ x0] w (slowBuild Try.prog 44 1 #[(0, ρ x0)] w) := by
  have h := run_buildSlice_rows sl44 ρ dst [x0] (by simp) (by simp) ty pos after g w
  simp only [List.zipIdx_cons, List.zipIdx_nil, List.map_cons, List.map_nil, List.length_cons, List.length_nil, Nat.zero_add, Nat.reduceAdd, List.map_toArray] at h
  exact h
/-- The cells of routes. -/
def cellsOf (rs : List Rt) : List Value := rs.flatMap fun r => r.cs.toList
theorem cellsOf_len (rs : List Rt) : (cellsOf rs).length = rs.length * 38 := by
  induction rs with
  | nil => rfl
  | cons r rs ih =>
    have : cellsOf (r :: rs) = r.cs.toList ++ cellsOf rs := by simp [cellsOf]
    rw [this, List.length_append, ih]
    simp
    omega
theorem cellsOf_snoc (rs : List Rt) (r : Rt) : cellsOf (rs ++ [r]) = cellsOf rs ++ r.cs.toList := by simp [cellsOf]
theorem cellsOf_at : ∀ (rs : List Rt) (k : Nat) (r : Rt), rs[k]? = some r → ((cellsOf rs).drop (k * 38)).take 38 = r.cs.toList
  | [], k, r, h => by simp at h
  | s :: rs, 0, r, h => by
    simp at h
    subst h
    have : cellsOf (s :: rs) = s.cs.toList ++ cellsOf rs := by simp [cellsOf]
    rw [this]
    simp only [Nat.zero_mul, List.drop_zero]
    exact List.take_left' (by simp)
  | s :: rs, k + 1, r, h => by
    have : cellsOf (s :: rs) = s.cs.toList ++ cellsOf rs := by simp [cellsOf]
    rw [this, show (k + 1) * 38 = 38 + k * 38 by omega, ← List.drop_drop, List.drop_left' (by simp)]
    exact cellsOf_at rs k r (by simpa using h)
theorem cellsOf_one (rs : List Rt) : ∀ u ∈ cellsOf rs, u.oneCell' = true := by
  intro u hu
  obtain ⟨r, _, hr⟩ := List.mem_flatMap.1 hu
  have := r.one
  exact this u hr
theorem routes_of_owns {w : World} {base n : Nat} {v : Value} {rs : List Rt} (h : w.ownsRow base 40 38 v n (cellsOf rs)) : ∃ A c, v = .slice A n c ∧ n ≤ c ∧ Routes w A n rs ∧ rs.length = n := by
  obtain ⟨hl, h | ⟨g, cap, cur, rfl, hb, hg, hnc, hcm, hcs, hx⟩⟩ := h
  · obtain ⟨rfl, rfl⟩ := h
    have hn : rs.length = 0 := by rw [cellsOf_len] at hl; omega
    exact ⟨none, 0, rfl, Nat.le_refl _, ⟨hn, fun h => by omega⟩, hn⟩
  · have hn : rs.length = n := by rw [cellsOf_len] at hl; omega
    refine ⟨_, cap, rfl, hnc, ⟨hn, fun _ => ⟨g, 0, rfl, (Array.getElem?_eq_some_iff.1 hg).1, fun k r hr => ?_⟩⟩, hn⟩
    have hk : k < n := by have := (List.getElem?_eq_some_iff.1 hr).1; omega
    have hat := cellsOf_at rs k r hr
    rw [← hx] at hat
    have hle : k * 38 + 38 ≤ n * 38 := by omega
    have hle2 : n * 38 ≤ cap * 38 := Nat.mul_le_mul_right _ hnc
    unfold World.row? sub?
    rw [hg]
    simp only [Nat.zero_add]
    rw [if_pos (by omega)]
    congr 1
    apply Array.toList_inj.1
    rw [← hat, Array.toList_extract]
    simp only [List.extract, Nat.add_sub_cancel_left]
    rw [List.drop_take, List.take_take, Nat.min_eq_left (by omega)]
theorem held_rt {w : World} (r : Rt) {H : Nat} (hH : H = w.heap.size) : Held (w.alloc (.cells r.cs 40)) (some ⟨H, 0, none⟩) r.cs.toList := fun _ => by
  subst hH
  refine ⟨_, 0, rfl, by simp, fun j v hj => ?_⟩
  rw [cell_new']
  simpa using hj
end Go.Proofs.Ytkklhidoonefoaa
