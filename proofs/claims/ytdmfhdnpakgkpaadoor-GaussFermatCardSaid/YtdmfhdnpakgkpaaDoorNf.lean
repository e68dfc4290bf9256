/- Sums over the divisors of a number, two by two. -/
import Derived.Test.YtdmfhdnpakgkpaaDoorNd
set_option linter.all false
namespace Go.Proofs.YtdmfhdnpakgkpaaDoor.Sh
open Go
set_option maxRecDepth 100000

/-- the sum of the first k values -/
def sm (f : Nat → Int) : Nat → Int
  | 0 => 0
  | k + 1 => sm f k + f k
theorem sm_congr {f g : Nat → Int} : ∀ {k : Nat}, (∀ i, i < k → f i = g i) → sm f k = sm g k
  | 0, _ => rfl
  | k + 1, h => by
    show sm f k + f k = sm g k + g k
    rw [sm_congr (fun i hi => h i (by omega)), h k (by omega)]
theorem sm_add (f g : Nat → Int) : ∀ k, sm (fun i => f i + g i) k = sm f k + sm g k
  | 0 => rfl
  | k + 1 => by
    show sm (fun i => f i + g i) k + (f k + g k) = (sm f k + f k) + (sm g k + g k)
    rw [sm_add f g k]; omega
theorem sm_zero : ∀ k, sm (fun _ => 0) k = 0
  | 0 => rfl
  | k + 1 => by
    show sm (fun _ => 0) k + 0 = 0
    rw [sm_zero k]; rfl
theorem sm_comm (f : Nat → Nat → Int) (m : Nat) : ∀ k, sm (fun i => sm (fun j => f i j) m) k = sm (fun j => sm (fun i => f i j) k) m
  | 0 => by
    show 0 = sm (fun j => 0) m
    rw [sm_zero]
  | k + 1 => by
    show sm (fun i => sm (fun j => f i j) m) k + sm (fun j => f k j) m = sm (fun j => sm (fun i => f i j) k + f k j) m
    rw [sm_comm f m k, sm_add]
/-- only one term counts -/
theorem sm_one {f : Nat → Int} {j : Nat} : ∀ {k : Nat}, j < k → (∀ i, i < k → i ≠ j → f i = 0) → sm f k = f j
  | 0, h, _ => by omega
  | k + 1, h, h0 => by
    show sm f k + f k = f j
    by_cases e : j = k
    · subst e
      have : sm f j = sm (fun _ => 0) j := sm_congr (fun i hi => h0 i (by omega) (by omega))
      rw [this, sm_zero]; omega
    · rw [sm_one (show j < k by omega) (fun i hi hne => h0 i (by omega) hne), h0 k (by omega) (by omega)]; omega
theorem sm_cut {f : Nat → Int} {m : Nat} : ∀ {k : Nat}, m ≤ k → (∀ i, m ≤ i → i < k → f i = 0) → sm f k = sm f m
  | 0, h, _ => by
    have : m = 0 := by omega
    subst this; rfl
  | k + 1, h, h0 => by
    by_cases e : m = k + 1
    · subst e; rfl
    · show sm f k + f k = sm f m
      rw [sm_cut (show m ≤ k by omega) (fun i h1 h2 => h0 i h1 (by omega)), h0 k (by omega) (by omega)]; omega

/-- the sum over all divisors d of n, of a function of d -/
def dsum (f : Nat → Int) (n : Nat) : Int := sm (fun i => if n % (i + 1) = 0 then f (i + 1) else 0) n
/-- what a divisor and its partner give -/
def two (f : Nat → Int) (n d : Nat) : Int := if n % d = 0 then (if d * d < n then f d + f (n / d) else if d * d = n then f d else 0) else 0

theorem div_inner {n d : Nat} (hn : 1 ≤ n) (hd : 1 ≤ d) (g : Nat → Int) : sm (fun e => if d * (e + 1) = n then g (e + 1) else 0) n = if n % d = 0 then g (n / d) else 0 := by
  by_cases h : n % d = 0
  · rw [if_pos h]
    have e0 : d * (n / d) = n := Nat.mul_div_cancel' (Nat.dvd_of_mod_eq_zero h)
    have h1 : 1 ≤ n / d := Nat.div_pos (Nat.le_of_dvd hn (Nat.dvd_of_mod_eq_zero h)) hd
    have h2 : n / d ≤ n := Nat.div_le_self n d
    have e1 : n / d - 1 + 1 = n / d := by omega
    rw [sm_one (j := n / d - 1) (by omega) ?_]
    · rw [e1, if_pos e0]
    · intro i _ hne
      rw [if_neg]
      intro e2
      have : n / d = i + 1 := by rw [← e2, Nat.mul_div_cancel_left _ hd]
      omega
  · rw [if_neg h]
    have : sm (fun e => if d * (e + 1) = n then g (e + 1) else 0) n = sm (fun _ => 0) n := by
      refine sm_congr (fun i _ => ?_)
      rw [if_neg]
      intro e2
      exact h (by rw [← e2, Nat.mul_mod_right])
    rw [this, sm_zero]

theorem dsum_two {n : Nat} (hn : 1 ≤ n) (f : Nat → Int) : dsum f n = sm (fun i => two f n (i + 1)) n := by
  -- as a sum over pairs
  have a1 : dsum f n = sm (fun d => sm (fun e => if (d + 1) * (e + 1) = n then f (d + 1) else 0) n) n := by
    unfold dsum
    refine sm_congr (fun d _ => ?_)
    have := div_inner hn (show 1 ≤ d + 1 by omega) (fun _ => f (d + 1))
    exact this.symm
  -- the pairs with the greater number first are those with the lesser one first, turned
  have a2 : sm (fun d => sm (fun e => if (d + 1) * (e + 1) = n then (if e < d then f (d + 1) else 0) else 0) n) n = sm (fun d => sm (fun e => if (d + 1) * (e + 1) = n then (if d < e then f (e + 1) else 0) else 0) n) n := by
    rw [sm_comm]
    refine sm_congr (fun d _ => sm_congr (fun e _ => ?_))
    rw [Nat.mul_comm]
  have a3 : dsum f n = sm (fun d => sm (fun e => if (d + 1) * (e + 1) = n then (if d < e then f (d + 1) else if d = e then f (d + 1) else 0) else 0) n) n + sm (fun d => sm (fun e => if (d + 1) * (e + 1) = n then (if e < d then f (d + 1) else 0) else 0) n) n := by
    rw [a1, ← sm_add]
    refine sm_congr (fun d _ => ?_)
    rw [← sm_add]
    refine sm_congr (fun e _ => ?_)
    by_cases h : (d + 1) * (e + 1) = n
    · simp only [if_pos h]
      split
      · rw [if_neg (by omega)]; omega
      · split
        · rw [if_neg (by omega)]; omega
        · rw [if_pos (by omega)]; omega
    · simp only [if_neg h]; rfl
  rw [a3, a2, ← sm_add]
  refine sm_congr (fun d _ => ?_)
  rw [← sm_add]
  have := div_inner hn (show 1 ≤ d + 1 by omega) (fun e => if d + 1 < e then f (d + 1) + f e else if d + 1 = e then f (d + 1) else 0)
  have b : sm (fun e => (if (d + 1) * (e + 1) = n then (if d < e then f (d + 1) else if d = e then f (d + 1) else 0) else 0) + (if (d + 1) * (e + 1) = n then (if d < e then f (e + 1) else 0) else 0)) n = sm (fun e => if (d + 1) * (e + 1) = n then (if d + 1 < e + 1 then f (d + 1) + f (e + 1) else if d + 1 = e + 1 then f (d + 1) else 0) else 0) n := by
    refine sm_congr (fun e _ => ?_)
    by_cases h : (d + 1) * (e + 1) = n
    · simp only [if_pos h]
      by_cases c1 : d < e
      · rw [if_pos c1, if_pos c1, if_pos (by omega)]
      · rw [if_neg c1, if_neg c1, if_neg (show ¬ d + 1 < e + 1 by omega)]
        by_cases c2 : d = e
        · rw [if_pos c2, if_pos (by omega)]; omega
        · rw [if_neg c2, if_neg (by omega)]; rfl
    · simp only [if_neg h]; rfl
  rw [b, this]
  unfold two
  by_cases h : n % (d + 1) = 0
  · rw [if_pos h, if_pos h]
    have e0 : (d + 1) * (n / (d + 1)) = n := Nat.mul_div_cancel' (Nat.dvd_of_mod_eq_zero h)
    by_cases c1 : d + 1 < n / (d + 1)
    · rw [if_pos c1, if_pos]
      have := Nat.mul_lt_mul_of_pos_left c1 (show 0 < d + 1 by omega)
      omega
    · rw [if_neg c1]
      by_cases c2 : d + 1 = n / (d + 1)
      · have e1 : (d + 1) * (d + 1) = n := by
          have e3 : (d + 1) * (d + 1) = (d + 1) * (n / (d + 1)) := by rw [← c2]
          omega
        rw [if_pos c2, if_neg (by omega), if_pos e1]
      · rw [if_neg c2, if_neg, if_neg]
        · intro e1
          have : (d + 1) * (d + 1) = (d + 1) * (n / (d + 1)) := by omega
          exact c2 (Nat.eq_of_mul_eq_mul_left (by omega) this)
        · intro e1
          have : (d + 1) * (n / (d + 1)) ≤ (d + 1) * (d + 1) := Nat.mul_le_mul_left _ (by omega)
          omega
  · rw [if_neg h, if_neg h]
/-- only the divisors up to the root count -/
theorem dsum_root {n s : Nat} (hn : 1 ≤ n) (hs : n < (s + 1) * (s + 1)) (hsn : s ≤ n) (f : Nat → Int) : dsum f n = sm (fun i => two f n (i + 1)) s := by
  rw [dsum_two hn]
  refine sm_cut hsn (fun i h1 _ => ?_)
  unfold two
  have : (s + 1) * (s + 1) ≤ (i + 1) * (i + 1) := Nat.mul_le_mul (by omega) (by omega)
  split
  · rw [if_neg (by omega), if_neg (by omega)]
  · rfl
end Go.Proofs.YtdmfhdnpakgkpaaDoor.Sh

