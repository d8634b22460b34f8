import Derived.Test.YtkplhmmajafflaaOnly
/- Rows of structs, cell by cell. No program in sight. -/
namespace Go.Proofs.Ytkplhmmajafflaa
open Go.RowKit
set_option linter.unusedSimpArgs false
set_option linter.unusedVariables false

theorem new_cell (w : World) (cs : Array Value) (t : TypeId) (i : Nat) : (w.alloc (.cells cs t)).cell? ⟨w.heap.size, i, none⟩ = cs[i]? := by
  unfold World.cell?
  rw [show (w.alloc (.cells cs t)).heap[w.heap.size]? = _ from heap_alloc_new w _]
  rfl
section
variable {α : Type} (f : α → Array Value) {n : Nat} (hf : ∀ x, (f x).size = n)
/-- The cells of a list of structs. -/
def cat (l : List α) : List Value := l.flatMap fun x => (f x).toList
theorem cat_nil : cat f [] = [] := rfl
theorem cat_snoc (l : List α) (x : α) : cat f (l ++ [x]) = cat f l ++ (f x).toList := by simp [cat]
theorem cat_append (l l' : List α) : cat f (l ++ l') = cat f l ++ cat f l' := by simp [cat]
include hf
theorem cat_len (l : List α) : (cat f l).length = l.length * n := by
  induction l with
  | nil => simp [cat]
  | cons x l ih =>
    have : cat f (x :: l) = (f x).toList ++ cat f l := by simp [cat]
    rw [this, List.length_append, ih, Array.length_toList, hf, List.length_cons, Nat.succ_mul]
    omega
theorem cat_at : ∀ (l : List α) (k : Nat) (x : α), l[k]? = some x → ((cat f l).drop (k * n)).take n = (f x).toList
  | [], k, r, h => by simp at h
  | s :: l, 0, r, h => by
    simp at h
    subst h
    have : cat f (s :: l) = (f s).toList ++ cat f l := by simp [cat]
    rw [this, Nat.zero_mul, List.drop_zero]
    exact List.take_left' (by simp [hf])
  | s :: l, k + 1, r, h => by
    have : cat f (s :: l) = (f s).toList ++ cat f l := by simp [cat]
    rw [this, show (k + 1) * n = n + k * n by rw [Nat.succ_mul]; omega, ← List.drop_drop, List.drop_left' (by simp [hf])]
    exact cat_at l k r (by simpa using h)
/-- A row of the call's own, struct by struct. -/
theorem rows_of_owns {w : World} {base e c : Nat} {v : Value} {l : List α} (h : w.ownsRow base e n v c (cat f l)) (hn : 0 < n) : l.length = c ∧ ∃ A cap, v = .slice A c cap ∧ c ≤ cap ∧
    (0 < c → ∃ b, A = some ⟨b, 0, none⟩ ∧ base ≤ b ∧ b < w.heap.size ∧ ∀ k x, l[k]? = some x → w.row? b (k * n) n = some (f x)) := by
  obtain ⟨hl, h⟩ := h
  rw [cat_len f hf] at hl
  have hl' : l.length = c := Nat.eq_of_mul_eq_mul_right hn hl
  refine ⟨hl', ?_⟩
  rcases h with ⟨rfl, rfl⟩ | ⟨g, cap, cur, rfl, hb, hg, hnc, hcm, hcs, hx⟩
  · exact ⟨none, 0, rfl, Nat.le_refl _, fun h => by omega⟩
  · refine ⟨_, cap, rfl, hnc, fun _ => ⟨g, rfl, hb, (Array.getElem?_eq_some_iff.1 hg).1, fun k x hx' => ?_⟩⟩
    have hk : k < c := by have := (List.getElem?_eq_some_iff.1 hx').1; omega
    have hat := cat_at f hf l k x hx'
    rw [← hx] at hat
    have hle : k * n + n ≤ c * n := by rw [← Nat.succ_mul]; exact Nat.mul_le_mul_right _ hk
    have hle2 : c * n ≤ cap * n := Nat.mul_le_mul_right _ hnc
    unfold World.row? sub?
    rw [hg]
    simp only
    rw [if_pos (by omega)]
    congr 1
    apply Array.toList_inj.1
    rw [← hat, Array.toList_extract]
    simp only [List.extract, Nat.add_sub_cancel_left]
    rw [List.drop_take, List.take_take, Nat.min_eq_left (by omega)]
end
theorem cat_one {α : Type} {f : α → Array Value} (h : ∀ x, OneAll (f x).toList) (l : List α) : ∀ u ∈ cat f l, u.oneCell' = true := by
  intro u hu
  obtain ⟨r, _, hr⟩ := List.mem_flatMap.1 hu
  exact h r u hr
theorem held_row {w : World} {cs : Array Value} {t H : Nat} (hH : H = w.heap.size) : Held (w.alloc (.cells cs t)) (some ⟨H, 0, none⟩) cs.toList := fun _ => by
  subst hH
  refine ⟨_, 0, rfl, by simp, fun j v hj => ?_⟩
  rw [new_cell, Nat.zero_add]
  simpa using hj
def ob (v : Value) : List Nat := match v.ownBlock with | some k => [k] | none => []
theorem ob_mem {v : Value} {k : Nat} : k ∈ ob v ↔ v.ownBlock = some k := by
  unfold ob
  split
  · rename_i j hj
    simp [hj]
    exact ⟨fun h => h.symm, fun h => h.symm⟩
  · rename_i hn
    simp [hn]
/-- Rows apart. -/
theorem row_apart {w : World} {B1 B2 e1 e2 s1 s2 n1 n2 : Nat} {v1 v2 : Value} {xs1 xs2 : List Value} (h1 : w.ownsRow B1 e1 s1 v1 n1 xs1) (h2 : w.ownsRow B2 e2 s2 v2 n2 xs2) (hne : e1 ≠ e2) :
    ∀ k, v1.ownBlock = some k → v2.ownBlock = some k → False := fun k hk1 hk2 => by
  rcases h1.2 with ⟨h, _⟩ | ⟨g1, c1, cur1, h, _, hg1, _⟩
  · rw [h] at hk1; simp [Value.ownBlock] at hk1
  · rcases h2.2 with ⟨h', _⟩ | ⟨g2, c2, cur2, h', _, hg2, _⟩
    · rw [h'] at hk2; simp [Value.ownBlock] at hk2
    · rw [h] at hk1
      rw [h'] at hk2
      simp [Value.ownBlock] at hk1 hk2
      subst hk1
      subst hk2
      rw [hg1] at hg2
      simp at hg2
      exact hne hg2.2
theorem row_not_cells {w : World} {B e s n k T : Nat} {v : Value} {xs : List Value} {cs : Array Value} (h : w.ownsRow B e s v n xs) (hk : w.heap[k]? = some (.cells cs T (0, 0))) (hne : e ≠ T) : v.ownBlock ≠ some k := fun he => by
  rcases h.2 with ⟨h', _⟩ | ⟨g1, c1, cur1, h', _, hg1, _⟩
  · rw [h'] at he; simp [Value.ownBlock] at he
  · rw [h'] at he
    simp [Value.ownBlock] at he
    subst he
    rw [hk] at hg1
    simp at hg1
    exact hne hg1.2.symm
end Go.Proofs.Ytkplhmmajafflaa
