/- Rolls: each step has a lesser lean, so a roll ends: plain laws. -/
import Derived.Test.YtecncmmkghmojaaXt
set_option linter.all false
namespace Go.Proofs.Ytecncmmkghmojaa.Sh
open Go Geo
set_option maxRecDepth 100000

/-- side i has a lesser lean than side j -/
def lnLt (l : List (Int × Int)) (i j : Nat) : Prop := offZ l i * offZ l i * lenZ l j < offZ l j * offZ l j * lenZ l i
instance (l : List (Int × Int)) (i j : Nat) : Decidable (lnLt l i j) := inferInstanceAs (Decidable (_ < _))
theorem lnLt_irr (l : List (Int × Int)) (i : Nat) : ¬ lnLt l i i := by unfold lnLt; omega
theorem rat_trans {a b c x y z : Int} (hx : 0 < x) (hy : 0 < y) (hz : 0 < z) (h1 : a * y < b * x) (h2 : b * z < c * y) : a * z < c * x := by
  have e1 : a * y * z < b * x * z := Int.mul_lt_mul_of_pos_right h1 hz
  have e2 : b * z * x < c * y * x := Int.mul_lt_mul_of_pos_right h2 hx
  have e3 : y * (a * z) < y * (c * x) := by
    have : y * (a * z) = a * y * z := by grind
    have : y * (c * x) = c * y * x := by grind
    have : b * x * z = b * z * x := by grind
    omega
  exact Int.lt_of_mul_lt_mul_left e3 (by omega)
theorem lnLt_trans {l : List (Int × Int)} (T : Tame l) {i j k : Nat} (hi : i < l.length) (hj : j < l.length) (hk : k < l.length) (h1 : lnLt l i j) (h2 : lnLt l j k) : lnLt l i k :=
  rat_trans (lenZ_pos T hi) (lenZ_pos T hj) (lenZ_pos T hk) h1 h2

/-- the side on which the roll goes on -/
def nxt (l : List (Int × Int)) (i : Nat) : Nat := if ahd (mX l) (mY l) (mD l) (cn l i) (cn l ((i + 1) % l.length)) < 0 then (i + l.length - 1) % l.length else (i + 1) % l.length
theorem prev_succ {n i : Nat} (hi : i < n) : ((i + n - 1) % n + 1) % n = i := by
  by_cases z : i = 0
  · subst z
    rw [show 0 + n - 1 = n - 1 by omega, Nat.mod_eq_of_lt (show n - 1 < n by omega), show n - 1 + 1 = n by omega, Nat.mod_self]
  · rw [show i + n - 1 = (i - 1) + n by omega, Nat.add_mod_right, Nat.mod_eq_of_lt (show i - 1 < n by omega), show i - 1 + 1 = i by omega, Nat.mod_eq_of_lt hi]

/-- how many sides have a lesser lean -/
def rank (l : List (Int × Int)) (i : Nat) : Nat := ((List.range l.length).filter fun j => decide (lnLt l j i)).length
theorem filter_lt {f g : Nat → Bool} : ∀ (L : List Nat), (∀ x ∈ L, f x = true → g x = true) → (L.filter f).length ≤ (L.filter g).length ∧ ((∃ x ∈ L, g x = true ∧ f x = false) → (L.filter f).length < (L.filter g).length)
  | [], _ => ⟨Nat.le_refl _, fun ⟨x, hx, _⟩ => by simp at hx⟩
  | a :: L, h => by
    obtain ⟨i1, i2⟩ := filter_lt L (fun x hx => h x (by simp [hx]))
    have ha := h a (by simp)
    simp only [List.filter_cons]
    cases hf : f a <;> cases hg : g a
    · refine ⟨by simpa using i1, fun ⟨x, hx, h1, h2⟩ => ?_⟩
      rcases List.mem_cons.1 hx with rfl | hx
      · rw [hg] at h1; cases h1
      · simpa using i2 ⟨x, hx, h1, h2⟩
    · refine ⟨by simp; omega, fun _ => by simp; omega⟩
    · rw [hf, hg] at ha; simp at ha
    · refine ⟨by simpa using i1, fun ⟨x, hx, h1, h2⟩ => ?_⟩
      rcases List.mem_cons.1 hx with rfl | hx
      · rw [hf] at h2; cases h2
      · simpa using i2 ⟨x, hx, h1, h2⟩
/-- a roll of at most k steps -/
def chain (l : List (Int × Int)) : Nat → Nat → List Nat
  | 0, i => [i]
  | k + 1, i => if tRest l i = true then [i] else i :: chain l k (nxt l i)
/-- the roll of side i -/
def roll (l : List (Int × Int)) (i : Nat) : List Nat := chain l (rank l i) i
end Go.Proofs.Ytecncmmkghmojaa.Sh

