/- How many rests: as many as the norm (for the numbers that GaussNorms takes, counted out). -/
import Derived.Test.YtdmfhdnpakgkpaaDoorH20
set_option linter.all false
namespace Go.Proofs.YtdmfhdnpakgkpaaDoor.Sh
open Go
set_option maxRecDepth 1000000

def inside (N P Q : Nat) : Bool := Nat.ble Q (Nat.add P N) && Nat.ble (Nat.succ P) (Nat.add Q N)
def okP1 (C D l i j : Nat) : Nat := Nat.mul 2 (Nat.add (Nat.mul i C) (Nat.add (Nat.mul j D) (Nat.mul 30 l)))
def okQ1 (C D l i j : Nat) : Nat := Nat.mul 2 (Nat.add (Nat.mul 15 (Nat.add i j)) (Nat.mul l (Nat.add C D)))
def okP2 (C D l i j : Nat) : Nat := Nat.mul 2 (Nat.add (Nat.mul j C) (Nat.add (Nat.mul 15 i) (Nat.mul l D)))
def okQ2 (C D l i j : Nat) : Nat := Nat.mul 2 (Nat.add (Nat.mul 15 j) (Nat.add (Nat.mul l C) (Nat.mul i D)))
def okN (C D l N i j : Nat) : Bool := inside N (okP1 C D l i j) (okQ1 C D l i j) && inside N (okP2 C D l i j) (okQ2 C D l i j)
def cj (C D l N i : Nat) : Nat → Nat := fun m => Nat.rec 0 (fun j r => cond (okN C D l N i j) (Nat.succ r) r) m
def ci (C D l N : Nat) : Nat → Nat := fun m => Nat.rec 0 (fun i r => Nat.add (cj C D l N i (Nat.succ (Nat.mul 2 l))) r) m
def nCD (C D : Nat) : Nat := (nrm ((C : Int) - 15, (D : Int) - 15)).toNat
def cntOK (C D : Nat) : Bool := Nat.beq (nCD C D) 0 || Nat.beq (ci C D (lim (nCD C D)) (nCD C D) (Nat.succ (Nat.mul 2 (lim (nCD C D))))) (nCD C D)
theorem counted : ((List.range 31).all fun C => (List.range 31).all fun D => cntOK C D) = true := by decide +kernel

theorem ediv_0 {x k : Int} (hk : 0 < k) : x / k = 0 ↔ 0 ≤ x ∧ x < k := by
  constructor
  · intro h
    have h1 := Int.mul_ediv_add_emod x k
    rw [h, Int.mul_zero, Int.zero_add] at h1
    have h2 := Int.emod_nonneg x (show k ≠ 0 by omega)
    have h3 := Int.emod_lt_of_pos x hk
    omega
  · rintro ⟨h1, h2⟩
    exact Int.ediv_eq_zero_of_lt h1 h2
theorem rest_self {z b : Int × Int} (h0 : b ≠ (0, 0)) : restP z b = z ↔ (-(nrm b) ≤ 2 * (mulP z (conjP b)).1 ∧ 2 * (mulP z (conjP b)).1 < nrm b) ∧ -(nrm b) ≤ 2 * (mulP z (conjP b)).2 ∧ 2 * (mulP z (conjP b)).2 < nrm b := by
  have hn := nrm_pos h0
  have e1 : restP z b = z ↔ quoP z b = (0, 0) := by
    constructor
    · intro h
      by_cases hq : quoP z b = (0, 0)
      · exact hq
      · exfalso
        refine mul_ne hq h0 ?_
        unfold restP subP at h
        have h1 := congrArg Prod.fst h
        have h2 := congrArg Prod.snd h
        dsimp only at h1 h2
        exact Prod.ext (show (mulP (quoP z b) b).1 = 0 by omega) (show (mulP (quoP z b) b).2 = 0 by omega)
    · intro h
      unfold restP
      rw [h, zero_mul']
      unfold subP
      exact Prod.ext (by dsimp only; omega) (by dsimp only; omega)
  rw [e1]
  have k1 := ediv_0 (x := 2 * (mulP z (conjP b)).1 + nrm b) (k := 2 * nrm b) (by omega)
  have k2 := ediv_0 (x := 2 * (mulP z (conjP b)).2 + nrm b) (k := 2 * nrm b) (by omega)
  constructor
  · intro h
    have h1 := congrArg Prod.fst h
    have h2 := congrArg Prod.snd h
    unfold quoP at h1 h2
    have q1 := k1.1 h1
    have q2 := k2.1 h2
    omega
  · rintro ⟨⟨h1, h2⟩, h3, h4⟩
    unfold quoP
    exact Prod.ext (k1.2 (by omega)) (k2.2 (by omega))
theorem inside_iff {N P Q : Nat} {w : Int} (h : (P : Int) - Q = 2 * w) : inside N P Q = true ↔ -(N : Int) ≤ 2 * w ∧ 2 * w < N := by
  unfold inside
  simp only [Bool.and_eq_true, Nat.ble_eq, Nat.add_eq, Nat.succ_eq_add_one]
  omega
theorem okN_iff {C D l i j : Nat} {b : Int × Int} (hb : b = ((C : Int) - 15, (D : Int) - 15)) (h0 : b ≠ (0, 0)) : okN C D l (nrm b).toNat i j = true ↔ restP (zP l i j) b = zP l i j := by
  have hn := nrm_nonneg b
  rw [rest_self h0]
  have p1 : (okP1 C D l i j : Int) - okQ1 C D l i j = 2 * (mulP (zP l i j) (conjP b)).1 := by
    subst hb
    unfold okP1 okQ1 mulP conjP zP
    simp only [Nat.mul_eq, Nat.add_eq, Int.natCast_add, Int.natCast_mul]
    grind
  have p2 : (okP2 C D l i j : Int) - okQ2 C D l i j = 2 * (mulP (zP l i j) (conjP b)).2 := by
    subst hb
    unfold okP2 okQ2 mulP conjP zP
    simp only [Nat.mul_eq, Nat.add_eq, Int.natCast_add, Int.natCast_mul]
    grind
  unfold okN
  rw [Bool.and_eq_true, inside_iff p1, inside_iff p2, Int.toNat_of_nonneg hn]
theorem cj_len {C D l i : Nat} {b : Int × Int} (hb : b = ((C : Int) - 15, (D : Int) - 15)) (h0 : b ≠ (0, 0)) : ∀ m, (rowR b l i m).length = cj C D l (nrm b).toNat i m
  | 0 => rfl
  | m + 1 => by
    unfold rowR
    rw [fm_succ, List.length_append]
    show (rowR b l i m).length + (gR b l i m).length = cond (okN C D l (nrm b).toNat i m) (Nat.succ (cj C D l (nrm b).toNat i m)) (cj C D l (nrm b).toNat i m)
    rw [cj_len hb h0 m]
    unfold gR
    by_cases c : restP (zP l i m) b = zP l i m
    · rw [if_pos c, (okN_iff hb h0).2 c]; rfl
    · rw [if_neg c]
      have : okN C D l (nrm b).toNat i m = false := by
        cases e : okN C D l (nrm b).toNat i m with
        | false => rfl
        | true => exact (c ((okN_iff hb h0).1 e)).elim
      rw [this]; rfl
theorem ci_len {C D l : Nat} {b : Int × Int} (hb : b = ((C : Int) - 15, (D : Int) - 15)) (h0 : b ≠ (0, 0)) : ∀ m, (listR b l m).length = ci C D l (nrm b).toNat m
  | 0 => rfl
  | m + 1 => by
    unfold listR
    rw [fm_succ, List.length_append]
    show (listR b l m).length + (rowR b l m (2 * l + 1)).length = cj C D l (nrm b).toNat m (Nat.succ (Nat.mul 2 l)) + ci C D l (nrm b).toNat m
    rw [ci_len hb h0 m, cj_len hb h0 (2 * l + 1), Nat.add_comm]
    rfl
/-- there are as many rests as the norm says -/
theorem rests_len {b : Int × Int} (hb : Bd 15 b) (h0 : b ≠ (0, 0)) : (restsL b).length = (nrm b).toNat := by
  obtain ⟨h1, h2, h3, h4⟩ := hb
  have hn := nrm_pos h0
  have e : b = (((b.1 + 15).toNat : Int) - 15, ((b.2 + 15).toNat : Int) - 15) := Prod.ext (by dsimp only; omega) (by dsimp only; omega)
  have hc := List.all_eq_true.1 (List.all_eq_true.1 counted _ (List.mem_range.2 (show (b.1 + 15).toNat < 31 by omega))) _ (List.mem_range.2 (show (b.2 + 15).toNat < 31 by omega))
  unfold cntOK nCD at hc
  rw [← e] at hc
  simp only [Bool.or_eq_true, Nat.beq_eq] at hc
  unfold restsL
  rw [ci_len e h0]
  rcases hc with hc | hc
  · omega
  · exact hc
end Go.Proofs.YtdmfhdnpakgkpaaDoor.Sh

