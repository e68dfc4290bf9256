/- What Bezout returns: the greatest common divisor of both numbers, made of them, with numbers in range. Plain laws. -/
import Derived.Test.YtdmfhdnpakgkpaaDoorOb
set_option linter.all false
namespace Go.Proofs.YtdmfhdnpakgkpaaDoor.Sh
open Go
set_option maxRecDepth 100000
set_option maxHeartbeats 1000000

section
variable {a b r c : Int × Int}
/-- the first coefficient, before it is made small -/
def cc1 (r c : Int × Int) : Int × Int := mulP c (firstU r)
/-- how often the divisor goes into b -/
def whl (b r : Int × Int) : Int × Int := quoP b (firP r).1
/-- the first coefficient -/
def cc2 (b r c : Int × Int) : Int × Int := restP (cc1 r c) (whl b r)
/-- the second one -/
def cof (a b r c : Int × Int) : Int × Int := quoP (subP (firP r).1 (mulP (cc2 b r c) a)) b

theorem BE.whole (h : BE a b r c) (hb : b ≠ (0, 0)) : b = mulP (whl b r) (firP r).1 ∧ whl b r ≠ (0, 0) := by
  obtain ⟨k, hk⟩ := fir_dv h.db
  have hf := fir_ne h.ne
  have e : whl b r = k := by
    unfold whl
    rw [hk]
    exact quo_exact hf
  rw [e]
  exact ⟨hk, fun e => hb (by rw [hk, e, zero_mul'])⟩
/-- the divisor is made of both -/
theorem BE.made (h : BE a b r c) (hb : b ≠ (0, 0)) : (firP r).1 = addP (mulP (cc2 b r c) a) (mulP (cof a b r c) b) := by
  obtain ⟨e, he⟩ := h.one
  obtain ⟨hw, hw0⟩ := h.whole hb
  obtain ⟨a', ha⟩ := fir_dv h.da
  have hq := quo_rest (cc1 r c) (whl b r)
  have e1 : subP (firP r).1 (mulP (cc2 b r c) a) = mulP (addP (mulP e (firstU r)) (mulP (quoP (cc1 r c) (whl b r)) a')) b := by
    have e2 : (firP r).1 = addP (mulP (cc1 r c) a) (mulP (mulP e (firstU r)) b) := by
      rw [fir_mul]
      unfold cc1
      generalize firstU r = u
      rw [he]
      unfold addP mulP; refine Prod.ext ?_ ?_ <;> dsimp only <;> grind
    have e3 : mulP (whl b r) a = mulP a' b := by
      rw [ha]
      have : mulP (whl b r) (mulP a' (firP r).1) = mulP a' (mulP (whl b r) (firP r).1) := by
        unfold mulP; refine Prod.ext ?_ ?_ <;> dsimp only <;> grind
      rw [this, ← hw]
    have e4 : cc2 b r c = subP (cc1 r c) (mulP (quoP (cc1 r c) (whl b r)) (whl b r)) := rfl
    rw [e4]
    generalize quoP (cc1 r c) (whl b r) = k at *
    generalize whl b r = w at *
    generalize cc1 r c = z at *
    have e5 : subP (firP r).1 (mulP (subP z (mulP k w)) a) = addP (subP (firP r).1 (mulP z a)) (mulP k (mulP w a)) := by
      unfold subP addP mulP; refine Prod.ext ?_ ?_ <;> dsimp only <;> grind
    rw [e5, e3, e2]
    unfold subP addP mulP; refine Prod.ext ?_ ?_ <;> dsimp only <;> grind
  have e6 : cof a b r c = addP (mulP e (firstU r)) (mulP (quoP (cc1 r c) (whl b r)) a') := by
    unfold cof
    rw [e1]
    exact quo_exact hb
  rw [e6, ← e1]
  unfold subP addP; refine Prod.ext ?_ ?_ <;> dsimp only <;> omega
theorem BE.exact (h : BE a b r c) (hb : b ≠ (0, 0)) : subP (firP r).1 (mulP (cc2 b r c) a) = mulP (cof a b r c) b := by
  have := h.made hb
  have e : subP (addP (mulP (cc2 b r c) a) (mulP (cof a b r c) b)) (mulP (cc2 b r c) a) = mulP (cof a b r c) b := by
    unfold subP addP; refine Prod.ext ?_ ?_ <;> dsimp only <;> omega
  rw [← this] at e
  exact e
theorem BE.c1_bd (h : BE a b r c) (hb : Bd 30000 b) : Bd 90000 (cc1 r c) := by
  have h1 := h.bc
  have h2 := nrm_le hb
  refine part_bd (by omega) ?_
  unfold cc1
  rw [nrm_mul, firU_nrm]
  omega
theorem BE.w_bd (h : BE a b r c) (hb : Bd 30000 b) : Bd 30000 (whl b r) := quo_bd hb (nrm_pos (fir_ne h.ne))
theorem BE.c_nrm (h : BE a b r c) (hb0 : b ≠ (0, 0)) : 2 * nrm (cc2 b r c) ≤ nrm (whl b r) := rest_nrm (nrm_pos (h.whole hb0).2)
theorem BE.w_nrm (h : BE a b r c) (hb0 : b ≠ (0, 0)) : nrm b = nrm (whl b r) * nrm r := by
  have := (h.whole hb0).1
  have e := nrm_mul (whl b r) (firP r).1
  rw [← this, fir_nrm] at e
  exact e
/-- both coefficients are in range -/
theorem BE.c_bd (h : BE a b r c) (hb : Bd 30000 b) (hb0 : b ≠ (0, 0)) : Bd 30000 (cc2 b r c) := by
  have h1 := h.c_nrm hb0
  have h2 := h.w_nrm hb0
  have h3 := nrm_le hb
  have h4 := nrm_pos h.ne
  have h5 := Int.mul_le_mul_of_nonneg_left h4 (nrm_nonneg (whl b r))
  exact part_bd (by decide) (by omega)
theorem BE.o_bd (h : BE a b r c) (ha : Bd 30000 a) (hb : Bd 30000 b) (hb0 : b ≠ (0, 0)) : Bd 30000 (cof a b r c) := by
  have h1 := h.c_nrm hb0
  have h2 := h.w_nrm hb0
  have h3 := nrm_le ha
  have hF := nrm_pos h.ne
  have hB := nrm_pos hb0
  have hw := nrm_pos (h.whole hb0).2
  have hC := nrm_nonneg (cc2 b r c)
  have hA := nrm_nonneg a
  have ex := h.exact hb0
  have e1 : nrm (subP (firP r).1 (mulP (cc2 b r c) a)) = nrm (cof a b r c) * nrm b := by rw [ex, nrm_mul]
  have e2 : nrm (mulP (cc2 b r c) a) = nrm (cc2 b r c) * nrm a := nrm_mul _ _
  have s1 := nrm_split (firP r).1 (mulP (cc2 b r c) a) (t := 40000) (by decide)
  have s2 := nrm_split (firP r).1 (mulP (cc2 b r c) a) (t := 1) (by decide)
  rw [e1, e2, fir_nrm] at s1 s2
  have hO := nrm_nonneg (cof a b r c)
  refine part_bd (by decide) ?_
  generalize nrm (cof a b r c) = O at *
  generalize nrm (cc2 b r c) = C at *
  generalize nrm (whl b r) = W at *
  generalize nrm a = A at *
  generalize nrm r = F at *
  generalize nrm b = B at *
  -- 2 C ≤ W, B = W F
  have m1 : 2 * (C * A) ≤ W * 1800000000 := by
    have a1 := Int.mul_le_mul_of_nonneg_right h1 hA
    have a2 := Int.mul_le_mul_of_nonneg_left (show A ≤ 1800000000 by omega) (show 0 ≤ W by omega)
    have a3 : 2 * C * A = 2 * (C * A) := by grind
    omega
  by_cases f1 : F = 1
  · subst f1
    by_cases w1 : W = 1
    · -- no rest is left
      have c0 : C = 0 := by omega
      subst c0
      have : B = 1 := by omega
      subst this
      have z : (0 : Int) * A = 0 := by grind
      rw [z] at s2
      omega
    · have hB2 : 2 ≤ B := by omega
      have hWB : W = B := by omega
      subst hWB
      -- 40000 O W <= 40001 (40000 + C A)
      have k : 40000 * (O * W) ≤ 40001 * 40000 + 40001 * (C * A) := by omega
      have k2 : 2 * (40000 * (O * W)) ≤ 2 * 40001 * 40000 + 40001 * (W * 1800000000) := by omega
      -- if O were 30001^2
      by_cases o : O < 900060001
      · omega
      · exfalso
        have k3 := Int.mul_le_mul_of_nonneg_right (show (900060001 : Int) ≤ O by omega) (show 0 ≤ W by omega)
        omega
  · have f2 : 2 ≤ F := by omega
    have k : 1 * (O * B) ≤ 2 * (F + C * A) := by omega
    have k1 : O * B ≤ 2 * F + W * 1800000000 := by omega
    by_cases o : O < 900060001
    · omega
    · exfalso
      have k3 := Int.mul_le_mul_of_nonneg_right (show (900060001 : Int) ≤ O by omega) (show 0 ≤ B by omega)
      have k4 : 2 * W ≤ B := by
        have := Int.mul_le_mul_of_nonneg_left f2 (show 0 ≤ W by omega)
        omega
      have k5 : F ≤ B := by
        have := Int.mul_le_mul_of_nonneg_right hw (show 0 ≤ F by omega)
        omega
      omega
end
end Go.Proofs.YtdmfhdnpakgkpaaDoor.Sh

