/- GaussFermat: the plain law. -/
import Derived.Test.YtdmfhdnpakgkpaaDoorNh
import Derived.Test.YtdmfhdnpakgkpaaDoorGl
set_option linter.all false
namespace Go.Proofs.YtdmfhdnpakgkpaaDoor.Sh
open Go
set_option maxRecDepth 100000

/-- the sum over the divisors up to j -/
def sD (f : Nat → Nat) (n j : Nat) : Int := sm (fun i => if n % (i + 1) = 0 then ((f (i + 1) : Nat) : Int) else 0) j
theorem sD_succ (f : Nat → Nat) (n j : Nat) : sD f n (j + 1) = sD f n j + (if n % (j + 1) = 0 then ((f (j + 1) : Nat) : Int) else 0) := rfl
theorem sD_bd {f : Nat → Nat} (hf : ∀ d, f d ≤ 1) (n : Nat) : ∀ j, 0 ≤ sD f n j ∧ sD f n j ≤ j
  | 0 => ⟨Int.le_refl _, Int.le_refl _⟩
  | j + 1 => by
    have h1 := sD_bd hf n j
    have h2 := hf (j + 1)
    rw [sD_succ]
    split <;> omega
theorem f1_le (d : Nat) : f1 d ≤ 1 := by unfold f1; cases Nat.beq (d % 4) 1 <;> decide
theorem f3_le (d : Nat) : f3 d ≤ 1 := by unfold f3; cases Nat.beq (d % 4) 3 <;> decide
theorem f0_le (d : Nat) : f0 d ≤ 1 := Nat.le_refl _
theorem f1_eq (d : Nat) : f1 d = if d % 4 = 1 then 1 else 0 := by
  unfold f1; rw [nbeq_dec]; by_cases c : d % 4 = 1
  · rw [decide_eq_true c, if_pos c]; rfl
  · rw [decide_eq_false c, if_neg c]; rfl
theorem f3_eq (d : Nat) : f3 d = if d % 4 = 3 then 1 else 0 := by
  unfold f3; rw [nbeq_dec]; by_cases c : d % 4 = 3
  · rw [decide_eq_true c, if_pos c]; rfl
  · rw [decide_eq_false c, if_neg c]; rfl
theorem sD_mono {f : Nat → Nat} (n i : Nat) : ∀ k, sD f n i ≤ sD f n (i + k)
  | 0 => Int.le_refl _
  | k + 1 => by
    have := sD_mono (f := f) n i k
    rw [← Nat.add_assoc, sD_succ]
    split <;> omega
/-- two divisors: a prime number -/
theorem prime_of_two {n : Nat} (h : sD f0 n n = 2) : primeN n = true := by
  by_cases h2 : 2 ≤ n
  · cases e : primeN n with
    | true => rfl
    | false =>
      exfalso
      have hx : ¬ ∀ d, 2 ≤ d → d * d ≤ n → ¬ n % d = 0 := fun hall => by
        have := prime_iff.2 ⟨h2, hall⟩
        rw [e] at this; cases this
      simp only [Classical.not_forall, Classical.not_not] at hx
      obtain ⟨d, d2, dd, dm⟩ := hx
      have hdn : d + 1 ≤ n := by
        have := Nat.mul_le_mul_left d d2
        omega
      have e1 : sD f0 n 1 = 1 := by
        show (0 : Int) + (if n % 1 = 0 then ((f0 1 : Nat) : Int) else 0) = 1
        rw [if_pos (Nat.mod_one n)]; rfl
      have m1 := sD_mono (f := f0) n 1 (d - 2)
      have e2 := sD_succ f0 n (d - 1)
      rw [show d - 1 + 1 = d by omega, if_pos dm] at e2
      rw [show 1 + (d - 2) = d - 1 by omega] at m1
      have m2 := sD_mono (f := f0) n d (n - 1 - d)
      rw [show d + (n - 1 - d) = n - 1 by omega] at m2
      have e3 := sD_succ f0 n (n - 1)
      rw [show n - 1 + 1 = n by omega, if_pos (Nat.mod_self n)] at e3
      have g1 : ((f0 d : Nat) : Int) = 1 := rfl
      have g2 : ((f0 n : Nat) : Int) = 1 := rfl
      omega
  · have := (sD_bd f0_le n n).2
    omega
theorem sqAt_nrm {n a : Nat} : ∀ q ∈ sqAt n a, nrm q = n := by
  intro q hq
  unfold sqAt at hq
  split at hq
  · rename_i b hb
    simp only [List.mem_singleton] at hq
    subst hq
    have h3 := List.find?_some hb
    simp at h3
    unfold nrm
    dsimp only
    omega
  · cases hq
theorem sqs_nrm {n : Nat} : ∀ q ∈ sqs n, nrm q = n := by
  intro q hq
  unfold sqs sqL at hq
  obtain ⟨a, _, hq⟩ := List.mem_flatMap.1 hq
  exact sqAt_nrm q hq
theorem cnt_zero : ∀ l, cnt l = 0 ↔ l = []
  | [] => by simp [cnt]
  | q :: r => by
    have := cnt_le r
    have := many_le q
    simp only [cnt]
    constructor
    · intro h; omega
    · intro h; cases h

structure Fer (n : Nat) : Prop where
  jac : cnt (sqs n) = 4 * (sD f1 n n - sD f3 n n)
  pr : sD f0 n n = 2 → n ≠ 2 → primeN n = true ∧ ((n % 4 = 3 ∧ (sqs n).length = 0 ∧ rootN n = 0) ∨ (n % 4 = 1 ∧ (sqs n).length = 1 ∧ 1 ≤ rootN n ∧ rootN n < n ∧ (rootN n * rootN n + 1) % n = 0))
theorem root_some {n y : Nat} (hn : 2 ≤ n) (hy : y < n) (h : (y * y + 1) % n = 0) : 1 ≤ rootN n ∧ rootN n < n ∧ (rootN n * rootN n + 1) % n = 0 := by
  unfold rootN
  cases hf : (List.range n).find? (fun x => (x * x + 1) % n == 0) with
  | none =>
    rw [List.find?_eq_none] at hf
    have := hf y (List.mem_range.2 hy)
    simp [h] at this
  | some x =>
    have h1 := List.find?_some hf
    have h2 := List.mem_range.1 (List.mem_of_find?_eq_some hf)
    simp at h1
    show 1 ≤ x ∧ x < n ∧ (x * x + 1) % n = 0
    refine ⟨?_, h2, h1⟩
    by_cases e : x = 0
    · subst e
      rw [Nat.mod_eq_of_lt (by omega)] at h1
      omega
    · omega
theorem fer {n : Nat} (h1 : 1 ≤ n) (h2 : n ≤ 5000) : Fer n := by
  have h := chk_all h1 h2
  unfold chk at h
  split at h
  · rename_i c l o t v hS ho ht hv
    have s := fastS_ok 200 0 71 0 0 (c, l) hS (fun c hc => by omega) (fun c hc => by
      have := Nat.mul_le_mul (show 72 ≤ c by omega) (show 72 ≤ c by omega); omega) rfl rfl
    have eo := fastF_ok f1 h1 80 1 0 o ho (by omega) (by omega) rfl
    have et := fastF_ok f3 h1 80 1 0 t ht (by omega) (by omega) rfl
    have ev := fastF_ok f0 h1 80 1 0 v hv (by omega) (by omega) rfl
    have eo' : (o : Int) = sD f1 n n := eo
    have et' : (t : Int) = sD f3 n n := et
    have ev' : (v : Int) = sD f0 n n := ev
    obtain ⟨s1, s2⟩ := s
    dsimp only at s1 s2
    rw [Bool.and_eq_true, nbeq_dec, decide_eq_true_iff] at h
    refine ⟨by omega, fun hd hn2 => ?_⟩
    refine ⟨prime_of_two hd, ?_⟩
    have hv2 : v = 2 := by omega
    have h3 := h.2
    rw [nbeq_dec, decide_eq_true hv2, nbeq_dec, decide_eq_false hn2, Bool.not_false, Bool.and_self, cond_true] at h3
    have hn3 : 2 ≤ n := by
      have := (sD_bd f0_le n n).2
      omega
    by_cases c : n % 4 = 3
    · rw [nbeq_dec, decide_eq_true c, cond_true, Bool.and_eq_true, nbeq_dec, decide_eq_true_iff] at h3
      exact .inl ⟨c, by omega, root_no (noR_ok n h3.2)⟩
    · rw [nbeq_dec, decide_eq_false c, cond_false, Bool.and_eq_true, Bool.and_eq_true, nbeq_dec, decide_eq_true_iff, nbeq_dec, decide_eq_true_iff] at h3
      obtain ⟨y, hy, hyy⟩ := someR_ok (n - 1) 1 h3.2.2
      exact .inr ⟨h3.1, by omega, root_some hn3 (by omega) hyy⟩
  · cases h
end Go.Proofs.YtdmfhdnpakgkpaaDoor.Sh

