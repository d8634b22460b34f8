import Derived.Test.YtkklhidoonefoaaLex
/- The plain law of the pick. -/
namespace Go.Proofs.Ytkklhidoonefoaa
set_option linter.unusedSimpArgs false
set_option linter.unusedVariables false

/-- A comparison. -/
structure Cmp {α : Type} (c : α → α → Int) : Prop where
  neg : ∀ a b, c b a = -c a b
  lt : ∀ a b d, c a b < 0 → c b d ≤ 0 → c a d < 0
  le : ∀ a b d, c a b ≤ 0 → c b d ≤ 0 → c a d ≤ 0
section
variable {α : Type} (u : α → Bool) (c : α → α → Int)
def pickStep (rs : List α) (k : Nat) (r : α) (s : Nat × Bool) : Nat × Bool :=
  if u r && (!s.2 || match rs[s.1]? with | some x => decide (c r x < 0) | none => false) then (k, true) else s
/-- The pick among the first k. -/
def pk (rs : List α) : Nat → Nat × Bool
  | 0 => (0, false)
  | k + 1 => match rs[k]? with
    | some r => pickStep u c rs k r (pk rs k)
    | none => pk rs k
/-- What a pick is. -/
def Picked (rs : List α) (k : Nat) (s : Nat × Bool) : Prop :=
  (s.2 = false → s.1 = 0 ∧ ∀ (i : Nat) r, i < k → rs[i]? = some r → u r = false) ∧
  (s.2 = true → ∃ x, rs[s.1]? = some x ∧ s.1 < k ∧ u x = true ∧ ∀ (i : Nat) r, i < k → rs[i]? = some r → u r = true → 0 ≤ c r x ∧ (i < s.1 → 0 < c r x))
variable {u c}
theorem pk_picked (hc : Cmp c) (rs : List α) : ∀ k, k ≤ rs.length → Picked u c rs k (pk u c rs k)
  | 0, _ => ⟨fun _ => ⟨rfl, fun i r h => by omega⟩, fun h => by simp [pk] at h⟩
  | k + 1, hk => by
    have ih := pk_picked hc rs k (by omega)
    obtain ⟨r, hr⟩ : ∃ r, rs[k]? = some r := ⟨rs[k]'(by omega), List.getElem?_eq_getElem _⟩
    have e : pk u c rs (k + 1) = pickStep u c rs k r (pk u c rs k) := by simp only [pk, hr]
    rw [e]
    obtain ⟨s, hs⟩ : ∃ s, pk u c rs k = s := ⟨_, rfl⟩
    rw [hs] at ih ⊢
    clear e hs
    obtain ⟨h0, h1⟩ := ih
    have hlast : ∀ (i : Nat) x, i < k + 1 → rs[i]? = some x → i < k ∨ (i = k ∧ x = r) := fun i x hi hx => by
      by_cases h : i = k
      · subst h; rw [hr] at hx; exact .inr ⟨rfl, (Option.some.inj hx).symm⟩
      · left; omega
    have hrr : c r r = 0 := by have := hc.neg r r; omega
    unfold pickStep
    cases hu : u r with
    | false =>
      simp only [Bool.false_and, Bool.false_eq_true, if_false]
      refine ⟨fun h => ⟨(h0 h).1, fun i x hi hx => ?_⟩, fun h => ?_⟩
      · rcases hlast i x hi hx with h2 | ⟨_, rfl⟩
        · exact (h0 h).2 i x h2 hx
        · exact hu
      · obtain ⟨x, g1, g2, g3, g4⟩ := h1 h
        refine ⟨x, g1, by omega, g3, fun i y hi hy hy2 => ?_⟩
        rcases hlast i y hi hy with h2 | ⟨_, rfl⟩
        · exact g4 i y h2 hy hy2
        · rw [hu] at hy2; cases hy2
    | true =>
      cases h2 : s.2 with
      | false =>
        simp only [Bool.not_false, Bool.true_or, Bool.and_self, if_true]
        refine ⟨fun h => by simp at h, fun _ => ⟨r, hr, by simp, hu, fun i y hi hy hy2 => ?_⟩⟩
        rcases hlast i y hi hy with h3 | ⟨rfl, rfl⟩
        · have := (h0 h2).2 i y h3 hy
          rw [this] at hy2; cases hy2
        · exact ⟨by omega, fun h => by simp at h⟩
      | true =>
        obtain ⟨x, g1, g2, g3, g4⟩ := h1 h2
        simp only [Bool.not_true, Bool.false_or, Bool.true_and, g1, decide_eq_true_eq]
        by_cases h3 : c r x < 0
        · rw [if_pos h3]
          refine ⟨fun h => by simp at h, fun _ => ⟨r, hr, by simp, hu, fun i y hi hy hy2 => ?_⟩⟩
          rcases hlast i y hi hy with h4 | ⟨rfl, rfl⟩
          · have h5 := (g4 i y h4 hy hy2).1
            have h6 := hc.neg x y
            have h7 := hc.lt r x y h3 (by have := hc.neg y x; omega)
            have h8 := hc.neg r y
            exact ⟨by omega, fun _ => by omega⟩
          · exact ⟨by omega, fun h => by simp at h⟩
        · rw [if_neg h3]
          refine ⟨fun h => by rw [h2] at h; simp at h, fun _ => ⟨x, g1, by omega, g3, fun i y hi hy hy2 => ?_⟩⟩
          rcases hlast i y hi hy with h4 | ⟨rfl, rfl⟩
          · exact g4 i y h4 hy hy2
          · exact ⟨by omega, fun h => by omega⟩
/-- There is one such pick. -/
theorem picked_unique (hc : Cmp c) {rs : List α} {k : Nat} {s t : Nat × Bool} (h : Picked u c rs k s) (h' : Picked u c rs k t) : s = t := by
  obtain ⟨h0, h1⟩ := h
  obtain ⟨g0, g1⟩ := h'
  obtain ⟨a, is⟩ := s
  obtain ⟨b, js⟩ := t
  cases is <;> cases js
  · rw [show a = 0 from (h0 rfl).1, show b = 0 from (g0 rfl).1]
  · obtain ⟨x, e1, e2, e3, _⟩ := g1 rfl
    have := (h0 rfl).2 b x e2 e1
    rw [this] at e3; cases e3
  · obtain ⟨x, e1, e2, e3, _⟩ := h1 rfl
    have := (g0 rfl).2 a x e2 e1
    rw [this] at e3; cases e3
  · obtain ⟨x, e1, e2, e3, e4⟩ := h1 rfl
    obtain ⟨y, f1, f2, f3, f4⟩ := g1 rfl
    simp only at e1 e2 e4 f1 f2 f4
    have n1 := hc.neg x y
    have k1 := e4 b y f2 f1 f3
    have k2 := f4 a x e2 e1 e3
    have : ¬ a < b := fun h => by have := k2.2 h; omega
    have : ¬ b < a := fun h => by have := k1.2 h; omega
    rw [show a = b by omega]
/-- A list in which an element that was not picked is left out. -/
theorem picked_erase (hc : Cmp c) {rs : List α} {a k : Nat} (h : Picked u c rs rs.length (a, true)) (hk : k < rs.length) (hne : k ≠ a) :
    ∃ b, Picked u c (rs.eraseIdx k) (rs.eraseIdx k).length (b, true) ∧ b < (rs.eraseIdx k).length ∧ (rs.eraseIdx k)[b]? = rs[a]? := by
  obtain ⟨x, e1, e2, e3, e4⟩ := h.2 rfl
  simp only at e1 e2 e4
  have hl : (rs.eraseIdx k).length = rs.length - 1 := by rw [List.length_eraseIdx, if_pos hk]
  have hb : (rs.eraseIdx k)[if a < k then a else a - 1]? = rs[a]? := by
    rw [List.getElem?_eraseIdx]
    by_cases h1 : a < k
    · rw [if_pos h1, if_pos h1]
    · rw [if_neg h1, if_neg (by omega), show a - 1 + 1 = a by omega]
  refine ⟨if a < k then a else a - 1, ⟨fun h => by simp at h, fun _ => ⟨x, by rw [hb]; exact e1, by simp only; rw [hl]; split <;> omega, e3, fun i r hi hr hur => ?_⟩⟩, by rw [hl]; split <;> omega, hb⟩
  rw [List.getElem?_eraseIdx] at hr
  rw [hl] at hi
  split at hr
  · obtain ⟨h1, h2⟩ := e4 i r (by omega) hr hur
    refine ⟨h1, fun h => h2 ?_⟩
    simp only at h
    split at h <;> omega
  · obtain ⟨h1, h2⟩ := e4 (i + 1) r (by omega) hr hur
    refine ⟨h1, fun h => h2 ?_⟩
    simp only at h
    split at h <;> omega
/-- The list turned round: as good an element is picked. -/
theorem picked_back (hc : Cmp c) {rs : List α} {a : Nat} {x : α} (h : Picked u c rs rs.length (a, true)) (hx : rs[a]? = some x) {s : Nat × Bool} (h' : Picked u c rs.reverse rs.reverse.length s) :
    s.2 = true ∧ s.1 < rs.length ∧ ∃ y, rs.reverse[s.1]? = some y ∧ c y x = 0 := by
  obtain ⟨x', e1, e2, e3, e4⟩ := h.2 rfl
  simp only at e1 e2 e4
  rw [hx] at e1
  obtain rfl := Option.some.inj e1
  have hxr : rs.reverse[rs.length - 1 - a]? = some x := by rw [List.getElem?_reverse (by omega), show rs.length - 1 - (rs.length - 1 - a) = a by omega]; exact hx
  obtain ⟨b, js⟩ := s
  cases js with
  | false =>
    have := (h'.1 rfl).2 _ x (by simp; omega) hxr
    rw [this] at e3; cases e3
  | true =>
    obtain ⟨y, f1, f2, f3, f4⟩ := h'.2 rfl
    simp only at f1 f2 f4
    rw [List.length_reverse] at f2 f4
    refine ⟨rfl, f2, y, f1, ?_⟩
    have k1 := (f4 (rs.length - 1 - a) x (by omega) hxr e3).1
    rw [List.getElem?_reverse f2] at f1
    have k2 := (e4 (rs.length - 1 - b) y (by omega) f1 f3).1
    have := hc.neg x y
    omega
end
theorem cmp_rank (l : List (Int × Int)) : Cmp (fun a b : Rt => lexI (rankL a l) (rankL b l)) :=
  ⟨fun a b => lexI_neg _ _, fun a b d h1 h2 => by have := lexI_le (rankL a l) (rankL b l) (rankL d l) rfl rfl (by omega) h2; omega, fun a b d h1 h2 => by have := lexI_le (rankL a l) (rankL b l) (rankL d l) rfl rfl h1 h2; omega⟩
end Go.Proofs.Ytkklhidoonefoaa
