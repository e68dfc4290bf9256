/- Gaussian integers: divisors, the Euclidean algorithm, and what the greatest common divisor is made of. Plain laws. -/
import Derived.Test.YtdmfhdnpakgkpaaDoorH19
set_option linter.all false
namespace Go.Proofs.YtdmfhdnpakgkpaaDoor.Sh
open Go
set_option maxRecDepth 100000
set_option maxHeartbeats 1000000

theorem mul_comm' (p q : Int × Int) : mulP p q = mulP q p := by unfold mulP; refine Prod.ext ?_ ?_ <;> dsimp only <;> grind
theorem mul_assoc' (p q r : Int × Int) : mulP (mulP p q) r = mulP p (mulP q r) := by unfold mulP; refine Prod.ext ?_ ?_ <;> dsimp only <;> grind
theorem zero_mul' (p : Int × Int) : mulP (0, 0) p = (0, 0) := by unfold mulP; refine Prod.ext ?_ ?_ <;> dsimp only <;> grind
theorem nrm_conj_mul (p : Int × Int) : mulP p (conjP p) = (nrm p, 0) := by unfold mulP conjP nrm; refine Prod.ext ?_ ?_ <;> dsimp only <;> grind
theorem nrm_0 : nrm (0, 0) = 0 := by decide
theorem nrm_nonneg (p : Int × Int) : 0 ≤ nrm p := by
  have := sqn p.1
  have := sqn p.2
  unfold nrm; omega
theorem mul_ne {p q : Int × Int} (hp : p ≠ (0, 0)) (hq : q ≠ (0, 0)) : mulP p q ≠ (0, 0) := by
  intro e
  have h := nrm_mul p q
  rw [e, nrm_0] at h
  have a := nrm_pos hp
  have b := nrm_pos hq
  have := Int.mul_le_mul a b (by omega) (by omega)
  omega
/-- a number is its quotient times the divisor, and the rest -/
theorem quo_rest (x y : Int × Int) : x = addP (mulP (quoP x y) y) (restP x y) := by
  unfold restP addP subP; refine Prod.ext ?_ ?_ <;> dsimp only <;> omega
/-- the rest of a number that differs by a multiple -/
theorem rest_shift {x y : Int × Int} (k : Int × Int) (h : y ≠ (0, 0)) : restP (addP x (mulP k y)) y = restP x y := by
  have hn := nrm_pos h
  have e : mulP (addP x (mulP k y)) (conjP y) = ((mulP x (conjP y)).1 + k.1 * nrm y, (mulP x (conjP y)).2 + k.2 * nrm y) := by
    unfold addP mulP conjP nrm; refine Prod.ext ?_ ?_ <;> dsimp only <;> grind
  have key : ∀ t z n : Int, 1 ≤ n → (2 * (t + z * n) + n) / (2 * n) = (2 * t + n) / (2 * n) + z := by
    intro t z n hn
    have : 2 * (t + z * n) + n = (2 * t + n) + z * (2 * n) := by grind
    rw [this, Int.add_mul_ediv_right _ _ (by omega)]
  have q : quoP (addP x (mulP k y)) y = addP (quoP x y) k := by
    unfold quoP
    rw [e]
    dsimp only
    rw [key _ _ _ hn, key _ _ _ hn]
    rfl
  unfold restP
  rw [q]
  unfold subP addP mulP; refine Prod.ext ?_ ?_ <;> dsimp only <;> grind
/-- a rest is its own rest -/
theorem rest_rest (x : Int × Int) {y : Int × Int} (h : y ≠ (0, 0)) : restP (restP x y) y = restP x y := by
  have := rest_shift (x := restP x y) (quoP x y) h
  have e : addP (restP x y) (mulP (quoP x y) y) = x := by unfold restP addP subP; refine Prod.ext ?_ ?_ <;> dsimp only <;> omega
  rw [e] at this
  exact this.symm

end Go.Proofs.YtdmfhdnpakgkpaaDoor.Sh

