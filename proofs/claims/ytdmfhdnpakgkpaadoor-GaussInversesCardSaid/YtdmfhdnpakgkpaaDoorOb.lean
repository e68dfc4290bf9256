/- What the greatest common divisor is made of: the numbers that Bezout finds. Plain laws. -/
import Derived.Test.YtdmfhdnpakgkpaaDoorOa
set_option linter.all false
namespace Go.Proofs.YtdmfhdnpakgkpaaDoor.Sh
open Go
set_option maxRecDepth 100000
set_option maxHeartbeats 1000000

/-- the state of Bezout's loop: r and s the last two numbers, c and d what they are made of -/
structure BZ (a b r s c d : Int × Int) : Prop where
  one : ∃ e, r = addP (mulP c a) (mulP e b)
  two : ∃ g, s = addP (mulP d a) (mulP g b)
  det : subP (mulP c s) (mulP d r) = b ∨ subP (mulP c s) (mulP d r) = mulP (-1, 0) b
  bc : nrm c ≤ 4 * nrm b
  bd : nrm d * nrm r ≤ 4 * nrm b
  half : d = (0, 0) ∨ 2 * nrm s ≤ nrm r
  div : ∀ t, dv t r → dv t s → dv t a ∧ dv t b
  last : eu r s = eu a b
  bdd : Bd 30000 r ∧ Bd 30000 s
theorem BZ.start {a b : Int × Int} (ha : Bd 30000 a) (hb : Bd 30000 b) (h0 : b ≠ (0, 0)) : BZ a b a b (1, 0) (0, 0) := by
  have hn := nrm_pos h0
  have n1 : nrm (1, 0) = 1 := by decide
  refine ⟨⟨(0, 0), ?_⟩, ⟨(1, 0), ?_⟩, .inl ?_, by omega, by rw [nrm_0]; omega, .inl rfl, fun t h k => ⟨h, k⟩, rfl, ha, hb⟩
  · rw [one_mul, zero_mul']; unfold addP; refine Prod.ext ?_ ?_ <;> dsimp only <;> omega
  · rw [one_mul, zero_mul']; unfold addP; refine Prod.ext ?_ ?_ <;> dsimp only <;> omega
  · rw [one_mul, zero_mul']; unfold subP; refine Prod.ext ?_ ?_ <;> dsimp only <;> omega
theorem nrm_two (p q : Int × Int) : nrm (addP p q) ≤ 2 * nrm p + 2 * nrm q := by
  have h := nrm_nonneg (subP p q)
  have e : 2 * nrm p + 2 * nrm q - nrm (addP p q) = nrm (subP p q) := by
    unfold nrm subP addP; dsimp only; grind
  omega
theorem nrm_neg (p : Int × Int) : nrm (mulP (-1, 0) p) = nrm p := by
  rw [nrm_mul]
  have : nrm (-1, 0) = 1 := by decide
  rw [this, Int.one_mul]
theorem BZ.step {a b r s c d : Int × Int} (h : BZ a b r s c d) (hb : b ≠ (0, 0)) (hs : s ≠ (0, 0)) : BZ a b s (restP r s) d (subP c (mulP (quoP r s) d)) := by
  obtain ⟨⟨e, he⟩, ⟨g, hg⟩, det, bc, bd, half, div, last, br, bs⟩ := h
  have hn := nrm_pos hs
  have hnb := nrm_pos hb
  have rn := rest_nrm (x := r) hn
  have hqr := quo_rest r s
  have hrr : restP r s = subP r (mulP (quoP r s) s) := rfl
  refine ⟨⟨g, hg⟩, ⟨subP e (mulP (quoP r s) g), ?_⟩, ?_, ?_, ?_, .inr ?_, ?_, ?_, bs, rest_bd hn bs⟩
  · rw [hrr]
    generalize quoP r s = q at *
    rw [he, hg]
    unfold subP addP mulP; refine Prod.ext ?_ ?_ <;> dsimp only <;> grind
  · have e1 : subP (mulP d (restP r s)) (mulP (subP c (mulP (quoP r s) d)) s) = mulP (-1, 0) (subP (mulP c s) (mulP d r)) := by
      rw [hrr]
      generalize quoP r s = q at *
      unfold subP mulP; refine Prod.ext ?_ ?_ <;> dsimp only <;> grind
    rw [e1]
    rcases det with k | k
    · right; rw [k]
    · left; rw [k]; unfold mulP; refine Prod.ext ?_ ?_ <;> dsimp only <;> omega
  · -- the bound of d, as r is not 0 or d is
    by_cases z : nrm r = 0
    · rcases half with k | k
      · rw [k, nrm_0]; omega
      · omega
    · have := Int.mul_le_mul_of_nonneg_left (show 1 ≤ nrm r by have := nrm_nonneg r; omega) (nrm_nonneg d)
      omega
  · -- the new one times s
    have e1 : mulP (subP c (mulP (quoP r s) d)) s = addP (subP (mulP c s) (mulP d r)) (mulP d (restP r s)) := by
      rw [hrr]
      generalize quoP r s = q at *
      unfold subP addP mulP; refine Prod.ext ?_ ?_ <;> dsimp only <;> grind
    have e2 := nrm_mul (subP c (mulP (quoP r s) d)) s
    rw [← e2, e1]
    have e3 := nrm_two (subP (mulP c s) (mulP d r)) (mulP d (restP r s))
    have e4 : nrm (subP (mulP c s) (mulP d r)) = nrm b := by
      rcases det with k | k
      · rw [k]
      · rw [k, nrm_neg]
    have e5 := nrm_mul d (restP r s)
    have e6 : 4 * (nrm d * nrm (restP r s)) ≤ nrm d * nrm r := by
      rcases half with k | k
      · rw [k, nrm_0]; omega
      · have := Int.mul_le_mul_of_nonneg_left (show 4 * nrm (restP r s) ≤ nrm r by omega) (nrm_nonneg d)
        have e7 : nrm d * (4 * nrm (restP r s)) = 4 * (nrm d * nrm (restP r s)) := by grind
        omega
    omega
  · omega
  · intro t h1 h2
    refine div t ?_ h1
    rw [hqr]
    exact dv_add (dv_mul h1 _) h2
  · rw [← last, eu_s hs]
/-- the numbers c and d stay small -/
theorem BZ.small {a b r s c d : Int × Int} (h : BZ a b r s c d) (hb : Bd 30000 b) : Bd 90000 c := by
  have h1 := h.bc
  have h2 := nrm_le hb
  exact part_bd (by omega) (by omega)

/-- what Bezout makes of the loop's end -/
structure BE (a b r c : Int × Int) : Prop where
  ne : r ≠ (0, 0)
  one : ∃ e, r = addP (mulP c a) (mulP e b)
  da : dv r a
  db : dv r b
  bc : nrm c ≤ 4 * nrm b
  last : r = eu a b
  bdd : Bd 30000 r
theorem BZ.fin {a b r c d : Int × Int} (h : BZ a b r (0, 0) c d) (hb : b ≠ (0, 0)) : BE a b r c := by
  obtain ⟨h1, h2, det, bc, bd, half, div, last, br, bs⟩ := h
  have hd := div r (dv_refl r) (dv_zero r)
  refine ⟨fun e => ?_, h1, hd.1, hd.2, bc, by rw [← last, eu_0], br⟩
  obtain ⟨k, hk⟩ := hd.2
  rw [e, mul_zero'] at hk
  exact hb hk
/-- the first of the associates divides what the number divides -/
theorem fir_mul (r : Int × Int) : (firP r).1 = mulP r (firstU r) := rfl
theorem firU_nrm (p : Int × Int) : nrm (firstU p) = 1 := by
  unfold firstU
  split
  · decide
  · split
    · decide
    · split
      · decide
      · split
        · decide
        · decide
theorem firU_bd (p : Int × Int) : Bd 1 (firstU p) := part_bd (by decide) (by rw [firU_nrm]; decide)
theorem conj_one {u : Int × Int} (h : nrm u = 1) : mulP u (conjP u) = (1, 0) := by rw [nrm_conj_mul, h]
theorem fir_ne {r : Int × Int} (h : r ≠ (0, 0)) : (firP r).1 ≠ (0, 0) := by
  rw [fir_mul]
  exact mul_ne h (fun e => by have := firU_nrm r; rw [e] at this; exact absurd this (by decide))
theorem fir_nrm (r : Int × Int) : nrm (firP r).1 = nrm r := by rw [fir_mul, nrm_mul, firU_nrm, Int.mul_one]
theorem fir_dv {r q : Int × Int} (h : dv r q) : dv (firP r).1 q := by
  obtain ⟨k, rfl⟩ := h
  refine ⟨mulP k (conjP (firstU r)), ?_⟩
  have e : mulP (mulP k (conjP (firstU r))) (mulP r (firstU r)) = mulP (mulP k r) (mulP (firstU r) (conjP (firstU r))) := by
    generalize firstU r = u
    unfold mulP conjP; refine Prod.ext ?_ ?_ <;> dsimp only <;> grind
  rw [fir_mul, e, conj_one (firU_nrm r), mul_one]
theorem fir_isF {r : Int × Int} (h : r ≠ (0, 0)) : isF (firP r).1 := by
  rw [fir_mul]
  unfold firstU
  split
  · rename_i k; rw [mul_one]; exact k
  · split
    · rename_i k; exact k
    · split
      · rename_i k; exact k
      · split
        · rename_i k; exact k
        · rename_i k1 k2 k3 k4
          rcases first_ex h with k | k | k | k
          · exact (k1 k).elim
          · exact (k2 k).elim
          · exact (k3 k).elim
          · exact (k4 k).elim
end Go.Proofs.YtdmfhdnpakgkpaaDoor.Sh

