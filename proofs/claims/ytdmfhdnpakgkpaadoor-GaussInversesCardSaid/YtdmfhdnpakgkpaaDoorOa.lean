/- Gaussian integers: divisors, the Euclidean algorithm, and what the greatest common divisor is made of. Plain laws. -/
import Derived.Test.YtdmfhdnpakgkpaaDoorNp
set_option linter.all false
namespace Go.Proofs.YtdmfhdnpakgkpaaDoor.Sh
open Go
set_option maxRecDepth 100000
set_option maxHeartbeats 1000000

theorem mul_comm' (p q : Int × Int) : mulP p q = mulP q p := by unfold mulP; refine Prod.ext ?_ ?_ <;> dsimp only <;> grind
theorem mul_assoc' (p q r : Int × Int) : mulP (mulP p q) r = mulP p (mulP q r) := by unfold mulP; refine Prod.ext ?_ ?_ <;> dsimp only <;> grind
theorem mul_zero' (p : Int × Int) : mulP p (0, 0) = (0, 0) := by unfold mulP; refine Prod.ext ?_ ?_ <;> dsimp only <;> grind
theorem zero_mul' (p : Int × Int) : mulP (0, 0) p = (0, 0) := by unfold mulP; refine Prod.ext ?_ ?_ <;> dsimp only <;> grind
theorem nrm_conj_mul (p : Int × Int) : mulP p (conjP p) = (nrm p, 0) := by unfold mulP conjP nrm; refine Prod.ext ?_ ?_ <;> dsimp only <;> grind
theorem conj_conj (p : Int × Int) : conjP (conjP p) = p := by unfold conjP; refine Prod.ext ?_ ?_ <;> dsimp only <;> omega
theorem nrm_0 : nrm (0, 0) = 0 := by decide
theorem nrm_nonneg (p : Int × Int) : 0 ≤ nrm p := by
  have := sqn p.1
  have := sqn p.2
  unfold nrm; omega
theorem mul_ne {p q : Int × Int} (hp : p ≠ (0, 0)) (hq : q ≠ (0, 0)) : mulP p q ≠ (0, 0) := by
  intro e
  have h := nrm_mul p q
  rw [e, nrm_0] at h
  have a := nrm_pos hp
  have b := nrm_pos hq
  have := Int.mul_le_mul a b (by omega) (by omega)
  omega
/-- p divides q -/
def dv (p q : Int × Int) : Prop := ∃ k, q = mulP k p
theorem dv_refl (p : Int × Int) : dv p p := ⟨(1, 0), by rw [one_mul]⟩
theorem dv_zero (p : Int × Int) : dv p (0, 0) := ⟨(0, 0), by rw [zero_mul']⟩
theorem dv_mul {p q : Int × Int} (h : dv p q) (r : Int × Int) : dv p (mulP r q) := by
  obtain ⟨a, rfl⟩ := h
  exact ⟨mulP r a, by rw [mul_assoc']⟩
theorem dv_add {p q r : Int × Int} (h : dv p q) (k : dv p r) : dv p (addP q r) := by
  obtain ⟨a, rfl⟩ := h
  obtain ⟨b, rfl⟩ := k
  exact ⟨addP a b, by unfold addP mulP; refine Prod.ext ?_ ?_ <;> dsimp only <;> grind⟩
/-- a number is its quotient times the divisor, and the rest -/
theorem quo_rest (x y : Int × Int) : x = addP (mulP (quoP x y) y) (restP x y) := by
  unfold restP addP subP; refine Prod.ext ?_ ?_ <;> dsimp only <;> omega
/-- division of a multiple leaves nothing -/
theorem quo_exact {k y : Int × Int} (h : y ≠ (0, 0)) : quoP (mulP k y) y = k := by
  have hn := nrm_pos h
  have e : mulP (mulP k y) (conjP y) = (k.1 * nrm y, k.2 * nrm y) := by
    rw [mul_assoc', nrm_conj_mul]
    unfold mulP; refine Prod.ext ?_ ?_ <;> dsimp only <;> grind
  have key : ∀ z n : Int, 1 ≤ n → (2 * (z * n) + n) / (2 * n) = z := by
    intro z n hn
    rw [Int.ediv_eq_iff_of_pos (by omega)]
    have : z * (2 * n) = 2 * (z * n) := by grind
    omega
  unfold quoP
  rw [e]
  dsimp only
  rw [key _ _ hn, key _ _ hn]
theorem rest_exact {x y : Int × Int} (h : y ≠ (0, 0)) (hd : dv y x) : restP x y = (0, 0) := by
  obtain ⟨k, rfl⟩ := hd
  unfold restP
  rw [quo_exact h]
  unfold subP; refine Prod.ext ?_ ?_ <;> dsimp only <;> omega
/-- the rest of a number that differs by a multiple -/
theorem rest_shift {x y : Int × Int} (k : Int × Int) (h : y ≠ (0, 0)) : restP (addP x (mulP k y)) y = restP x y := by
  have hn := nrm_pos h
  have e : mulP (addP x (mulP k y)) (conjP y) = ((mulP x (conjP y)).1 + k.1 * nrm y, (mulP x (conjP y)).2 + k.2 * nrm y) := by
    unfold addP mulP conjP nrm; refine Prod.ext ?_ ?_ <;> dsimp only <;> grind
  have key : ∀ t z n : Int, 1 ≤ n → (2 * (t + z * n) + n) / (2 * n) = (2 * t + n) / (2 * n) + z := by
    intro t z n hn
    have : 2 * (t + z * n) + n = (2 * t + n) + z * (2 * n) := by grind
    rw [this, Int.add_mul_ediv_right _ _ (by omega)]
  have q : quoP (addP x (mulP k y)) y = addP (quoP x y) k := by
    unfold quoP
    rw [e]
    dsimp only
    rw [key _ _ _ hn, key _ _ _ hn]
    rfl
  unfold restP
  rw [q]
  unfold subP addP mulP; refine Prod.ext ?_ ?_ <;> dsimp only <;> grind
/-- a rest is its own rest -/
theorem rest_rest (x : Int × Int) {y : Int × Int} (h : y ≠ (0, 0)) : restP (restP x y) y = restP x y := by
  have := rest_shift (x := restP x y) (quoP x y) h
  have e : addP (restP x y) (mulP (quoP x y) y) = x := by unfold restP addP subP; refine Prod.ext ?_ ?_ <;> dsimp only <;> omega
  rw [e] at this
  exact this.symm

/-- the last of two numbers, each replaced by the rest of the other one, that is not 0 -/
def eu (x y : Int × Int) : Int × Int := if h : y = (0, 0) then x else eu y (restP x y)
termination_by (nrm y).toNat
decreasing_by
  have a := nrm_pos h
  have b := rest_nrm (x := x) a
  have c := nrm_nonneg (restP x y)
  omega
theorem eu_0 (x : Int × Int) : eu x (0, 0) = x := by rw [eu, dif_pos rfl]
theorem eu_s {x y : Int × Int} (h : y ≠ (0, 0)) : eu x y = eu y (restP x y) := by rw [eu, dif_neg h]
/-- the greatest common divisor, the first of its associates -/
def gcdP (x y : Int × Int) : Int × Int := (firP (eu x y)).1

/-- the sum's norm -/
theorem nrm_split (p q : Int × Int) {t : Int} (ht : 0 ≤ t) : t * nrm (subP p q) ≤ (1 + t) * (t * nrm p + nrm q) := by
  have h := nrm_nonneg (t * p.1 + q.1, t * p.2 + q.2)
  have e : (1 + t) * (t * nrm p + nrm q) - t * nrm (subP p q) = nrm (t * p.1 + q.1, t * p.2 + q.2) := by
    unfold nrm subP; dsimp only; grind
  omega
end Go.Proofs.YtdmfhdnpakgkpaaDoor.Sh

