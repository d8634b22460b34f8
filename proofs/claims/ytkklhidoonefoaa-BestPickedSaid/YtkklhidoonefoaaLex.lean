import Derived.Test.YtkklhidoonefoaaC
/- The plain law of lexicographic comparison: a strict weak order. -/
namespace Go.Proofs.Ytkklhidoonefoaa
set_option linter.unusedSimpArgs false

theorem lexI_range : ∀ xs ys : List Int, -1 ≤ lexI xs ys ∧ lexI xs ys ≤ 1
  | [], _ => by simp [lexI]
  | _ :: _, [] => by simp [lexI]
  | x :: xs, y :: ys => by
    have := lexI_range xs ys
    unfold lexI
    split
    · omega
    · split <;> omega
theorem lexI_neg : ∀ xs ys : List Int, lexI ys xs = -lexI xs ys
  | [], [] => rfl
  | [], _ :: _ => rfl
  | _ :: _, [] => rfl
  | x :: xs, y :: ys => by
    have := lexI_neg xs ys
    unfold lexI
    by_cases h1 : x < y
    · simp [h1, show ¬ y < x by omega]
    · by_cases h2 : y < x
      · simp [h1, h2]
      · simp [h1, h2, this]
theorem lexI_self : ∀ xs : List Int, lexI xs xs = 0
  | [] => rfl
  | x :: xs => by simp [lexI, lexI_self xs]
theorem lexI_zero : ∀ xs ys : List Int, xs.length = ys.length → lexI xs ys = 0 → xs = ys
  | [], [], _, _ => rfl
  | [], _ :: _, h, _ => by simp at h
  | _ :: _, [], h, _ => by simp at h
  | x :: xs, y :: ys, h, hz => by
    unfold lexI at hz
    by_cases h1 : x < y
    · simp [h1] at hz
    · by_cases h2 : y < x
      · simp [h1, h2] at hz
      · simp only [h1, h2, if_false, gt_iff_lt] at hz
        rw [lexI_zero xs ys (by simpa using h) hz, show x = y by omega]
theorem lexI_le : ∀ xs ys zs : List Int, xs.length = ys.length → ys.length = zs.length → lexI xs ys ≤ 0 → lexI ys zs ≤ 0 → lexI xs zs = min (lexI xs ys) (lexI ys zs)
  | [], [], [], _, _, _, _ => by simp [lexI]
  | [], _ :: _, _, h, _, _, _ => by simp at h
  | _ :: _, [], _, h, _, _, _ => by simp at h
  | _, [], _ :: _, _, h, _, _ => by simp at h
  | _, _ :: _, [], _, h, _, _ => by simp at h
  | x :: xs, y :: ys, z :: zs, h1, h2, h3, h4 => by
    have ih := lexI_le xs ys zs (by simpa using h1) (by simpa using h2)
    have r1 := lexI_range xs ys
    have r2 := lexI_range ys zs
    unfold lexI at h3 h4 ⊢
    by_cases a1 : x < y
    · by_cases a2 : y < z
      · simp [a1, a2, show x < z by omega]
      · by_cases a3 : z < y
        · simp [a2, a3] at h4
        · have : z = y := by omega
          subst this
          simp only [a1, if_true, a2, a3, if_false, gt_iff_lt] at h4 ⊢
          omega
    · by_cases a1' : y < x
      · simp [a1, a1'] at h3
      · have : x = y := by omega
        subst this
        simp only [a1, if_false, gt_iff_lt] at h3 ⊢
        by_cases a2 : x < z
        · simp only [a2, if_true] at h4 ⊢
          omega
        · by_cases a3 : z < x
          · simp [a2, a3] at h4
          · simp only [a2, a3, if_false] at h4 ⊢
            exact ih h3 h4
theorem rankL_length (r : Rt) (l : List (Int × Int)) : (rankL r l).length = 10 := rfl
/-- What BestOrder asks of the three comparisons. -/
theorem order_law (a b c : Rt) (l : List (Int × Int)) : 
    let x := lexI (rankL a l) (rankL b l); let y := lexI (rankL b l) (rankL c l); let z := lexI (rankL a l) (rankL c l);
    (-1 : Int) ≤ x ∧ x ≤ 1 ∧ lexI (rankL b l) (rankL a l) = -x ∧ (a.peer ≠ b.peer → x ≠ 0) ∧ (x ≤ 0 → y ≤ 0 → z = min x y) ∧ (0 ≤ x → 0 ≤ y → z = max x y) := by
  intro x y z
  refine ⟨(lexI_range _ _).1, (lexI_range _ _).2, lexI_neg _ _, fun h hx => h ?_, fun h1 h2 => lexI_le (rankL a l) (rankL b l) (rankL c l) rfl rfl h1 h2, fun h1 h2 => ?_⟩
  · have := lexI_zero (rankL a l) (rankL b l) rfl hx
    simp only [rankL, List.cons.injEq] at this
    obtain ⟨_, _, _, _, _, _, _, _, _, h10, _⟩ := this
    exact h10
  · have e1 : lexI (rankL b l) (rankL a l) = -x := lexI_neg _ _
    have e2 : lexI (rankL c l) (rankL b l) = -y := lexI_neg _ _
    have e3 : lexI (rankL c l) (rankL a l) = -z := lexI_neg _ _
    have := lexI_le (rankL c l) (rankL b l) (rankL a l) rfl rfl (by omega) (by omega)
    omega
end Go.Proofs.Ytkklhidoonefoaa
