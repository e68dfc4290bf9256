/- Numbers: First, Divides and the greatest common divisor, the program's and the document's. -/
import Derived.Test.YtdmfhdnpakgkpaaDoorNn
set_option linter.all false
namespace Go.Proofs.YtdmfhdnpakgkpaaDoor.Sh
open Go
set_option maxRecDepth 100000

theorem firP_0 : firP (0, 0) = ((0, 0), (1, 0)) := by decide
/-- the number that is turned back -/
theorem firP_yes {p : Int × Int} (h : isF p) : firP p = (p, (1, 0)) := by
  unfold firP firstU
  rw [if_pos h, mul_one]; rfl
theorem isF_iff (a b : Int) : isF (a, b) ↔ 0 < a ∧ 0 ≤ b := Iff.rfl
theorem isF_turn {p : Int × Int} (h0 : p ≠ (0, 0)) (h : ¬ isF p) : (firP p).1 = (firP (mulP p (0, -1))).1 ∧ (firP p).2 = mulP (firP (mulP p (0, -1))).2 (0, 1) := by
  have hne : ¬ (p.1 = 0 ∧ p.2 = 0) := fun e => h0 (Prod.ext e.1 e.2)
  obtain ⟨a, b⟩ := p
  dsimp only at hne
  unfold firP firstU
  rw [mul_i, mul_m, mul_mi, mul_i, mul_m, mul_mi]
  dsimp only
  rw [if_neg h]
  rw [isF_iff] at h
  by_cases c1 : 0 < -b ∧ 0 ≤ a
  · rw [if_pos ((isF_iff _ _).2 c1), if_neg (show ¬ isF (b, -a) by rw [isF_iff]; omega), if_neg (show ¬ isF (- -a, b) by rw [isF_iff]; omega), if_pos (show isF (-b, - -a) by rw [isF_iff]; omega)]
    constructor
    · unfold mulP; refine Prod.ext ?_ ?_ <;> dsimp only <;> omega
    · decide
  · rw [if_neg (fun e => c1 ((isF_iff _ _).1 e))]
    by_cases c2 : 0 < -a ∧ 0 ≤ -b
    · rw [if_pos ((isF_iff _ _).2 c2), if_neg (show ¬ isF (b, -a) by rw [isF_iff]; omega), if_neg (show ¬ isF (- -a, b) by rw [isF_iff]; omega), if_neg (show ¬ isF (-b, - -a) by rw [isF_iff]; omega), if_pos (show isF (-a, -b) by rw [isF_iff]; omega)]
      constructor
      · unfold mulP; refine Prod.ext ?_ ?_ <;> dsimp only <;> omega
      · decide
    · rw [if_neg (fun e => c2 ((isF_iff _ _).1 e))]
      by_cases c3 : 0 < b ∧ 0 ≤ -a
      · rw [if_pos ((isF_iff _ _).2 c3), if_pos ((isF_iff _ _).2 c3)]
        constructor
        · unfold mulP; refine Prod.ext ?_ ?_ <;> dsimp only <;> omega
        · decide
      · omega
end Go.Proofs.YtdmfhdnpakgkpaaDoor.Sh

