/- open: the sums for the middle. -/
import Derived.Test.YtecncmmkghmojaaXg
set_option linter.all false
/- open: the sums for the middle. -/
namespace Go.Proofs.Ytecncmmkghmojaa.Sh
open Go Geo
set_option maxRecDepth 100000

/-- the summands of the middle -/
def fX (l : List (Int × Int)) (k : Nat) : Int := ((l.getD k (0, 0)).1 + (l.getD ((k + 1) % l.length) (0, 0)).1) * cz l k
def fY (l : List (Int × Int)) (k : Nat) : Int := ((l.getD k (0, 0)).2 + (l.getD ((k + 1) % l.length) (0, 0)).2) * cz l k
/-- after k corners -/
structure JM (H0 : SHeap) (B L fn df : Nat) (t : T) (ps : List Nat) (as body : SCode) (f g : Nat → Int) (k : Nat) (hh : SHeap) (dd : List Nat) : Prop where
  len : H0.length ≤ hh.length
  same : ∀ j, j < H0.length → j ≠ B → j ≠ B + 1 → j ≠ L → hh[j]? = H0[j]?
  loop : hh[L]? = some (.loop 0 fn t ps as body none df)
  acc : ∃ v w, hh[B]? = some (.cells [v] 40 false 0 []) ∧ hh[B + 1]? = some (.cells [w] 40 false 0 []) ∧ Acc H0.length hh v (vals f k) k 1 3 ∧ Acc H0.length hh w (vals g k) k 1 3 ∧ sepV k 1 v w
  all : ∀ x ∈ dd, x = B ∨ x = B + 1
  some : k ≠ 0 → dd ≠ []

theorem JM.app {H0 : SHeap} {B L fn df : Nat} {t : T} {ps : List Nat} {as body : SCode} {f f2 : Nat → Int} (hB : B + 1 < H0.length) (hL : L < H0.length) {k : Nat} {hh : SHeap} {dd : List Nat} (g : SHeap) (J : JM H0 B L fn df t ps as body f f2 k hh dd) : JM H0 B L fn df t ps as body f f2 k (hh ++ g) dd := by
  have e := J.len
  have same' : ∀ j, j < hh.length → (hh ++ g)[j]? = hh[j]? := fun j hj => List.getElem?_append_left hj
  obtain ⟨v, w, h1, h2, h3, h4, h5⟩ := J.acc
  exact ⟨by simp; omega, fun j a b c d => by rw [same' j (by omega)]; exact J.same j a b c d, by rw [same' L (by omega)]; exact J.loop,
    ⟨v, w, by rw [same' B (by omega)]; exact h1, by rw [same' (B + 1) (by omega)]; exact h2, h3.keep (fun b e => by have := h3.lt e; rw [same' b this.2]), h4.keep (fun b e => by have := h4.lt e; rw [same' b this.2]), h5⟩, J.all, J.some⟩

end Go.Proofs.Ytecncmmkghmojaa.Sh


/- Sums over the sides of a hull: plain laws. -/
namespace Go.Proofs.Ytecncmmkghmojaa.Sh
open Go Geo
set_option maxRecDepth 100000

/-- a sum over 0, .., n - 1 -/
def S (n : Nat) (f : Nat → Int) : Int := isum ((List.range n).map f)
theorem S_zero (f : Nat → Int) : S 0 f = 0 := rfl
theorem S_succ (n : Nat) (f : Nat → Int) : S (n + 1) f = S n f + f n := by
  unfold S
  rw [List.range_succ, List.map_append, isum_append]
  simp [isum]
theorem S_add (n : Nat) (f g : Nat → Int) : S n (fun k => f k + g k) = S n f + S n g := by
  induction n with
  | zero => rfl
  | succ n ih => rw [S_succ, S_succ, S_succ, ih]; omega
theorem S_sub (n : Nat) (f g : Nat → Int) : S n (fun k => f k - g k) = S n f - S n g := by
  induction n with
  | zero => rfl
  | succ n ih => rw [S_succ, S_succ, S_succ, ih]; omega
theorem S_congr {n : Nat} {f g : Nat → Int} (h : ∀ k, k < n → f k = g k) : S n f = S n g := by
  induction n with
  | zero => rfl
  | succ n ih => rw [S_succ, S_succ, ih (fun k hk => h k (by omega)), h n (by omega)]
theorem S_first (n : Nat) (f : Nat → Int) : S (n + 1) f = f 0 + S n (fun k => f (k + 1)) := by
  induction n with
  | zero => simp [S_succ, S_zero]
  | succ n ih => rw [S_succ, ih, S_succ]; omega
theorem S_nonneg {n : Nat} {f : Nat → Int} (h : ∀ k, k < n → 0 ≤ f k) : 0 ≤ S n f := by
  induction n with
  | zero => exact Int.le_refl _
  | succ n ih => rw [S_succ]; have := ih (fun k hk => h k (by omega)); have := h n (by omega); omega
theorem S_pos {n : Nat} {f : Nat → Int} (h : ∀ k, k < n → 0 ≤ f k) (j : Nat) (hj : j < n) (hp : 0 < f j) : 0 < S n f := by
  induction n with
  | zero => omega
  | succ n ih =>
    rw [S_succ]
    by_cases e : j = n
    · subst e; have := S_nonneg (n := j) (f := f) (fun k hk => h k (by omega)); omega
    · have := ih (fun k hk => h k (by omega)) (by omega); have := h n (by omega); omega
/-- once round -/
theorem S_cyc (n : Nat) (g : Nat → Int) : S n (fun k => g ((k + 1) % n)) = S n g := by
  cases n with
  | zero => rfl
  | succ n =>
    rw [S_succ, S_first, Nat.mod_self, S_congr (g := fun k => g (k + 1)) (fun k hk => by rw [Nat.mod_eq_of_lt (by omega)])]
    omega

theorem area_S (l : List (Int × Int)) : areaZ l = S l.length (cz l) := rfl
/-- corner k -/
abbrev cn (l : List (Int × Int)) (k : Nat) : Int × Int := l.getD k (0, 0)
theorem crs_shift (a u v : Int × Int) : crs u v = crs (sbt u a) (sbt v a) + (crs a v - crs a u) := by
  simp only [crs, sbt]; grind
/-- the area, seen from any point -/
theorem area_from (l : List (Int × Int)) (a : Int × Int) : areaZ l = S l.length (fun k => crs (sbt (cn l k) a) (sbt (cn l ((k + 1) % l.length)) a)) := by
  rw [area_S]
  have : S l.length (cz l) = S l.length (fun k => crs (sbt (cn l k) a) (sbt (cn l ((k + 1) % l.length)) a) + (crs a (cn l ((k + 1) % l.length)) - crs a (cn l k))) :=
    S_congr (fun k _ => crs_shift a _ _)
  rw [this, S_add, S_sub, S_cyc l.length (fun k => crs a (cn l k))]
  omega

theorem cn_get {l : List (Int × Int)} {k : Nat} (h : k < l.length) : l[k]? = some (cn l k) := by
  unfold cn
  rw [List.getD_eq_getElem?_getD, List.getElem?_eq_getElem h]; rfl
theorem turn_c (a b c : Int × Int) : turn a b c = crs (sbt a c) (sbt b c) := by simp only [turn, crs, sbt]; grind

section
variable {l : List (Int × Int)} (T : Tame l)
include T
theorem Tame.turn {i k : Nat} (hi : i < l.length) (hk : k < l.length) (h1 : k ≠ i) (h2 : k ≠ (i + 1) % l.length) : 0 < turn (cn l i) (cn l ((i + 1) % l.length)) (cn l k) :=
  T.hull i k _ _ _ (cn_get hi) (cn_get (Nat.mod_lt _ (by omega))) (cn_get hk) h1 h2
theorem Tame.corner {k : Nat} (hk : k < l.length) : 0 < Geo.turn (cn l ((k + l.length - 1) % l.length)) (cn l k) (cn l ((k + 1) % l.length)) := by
  have h3 := T.lo
  have e : ((k + l.length - 1) % l.length + 1) % l.length = k := by
    by_cases z : k = 0
    · subst z
      rw [show 0 + l.length - 1 = l.length - 1 by omega, Nat.mod_eq_of_lt (show l.length - 1 < l.length by omega), show l.length - 1 + 1 = l.length by omega, Nat.mod_self]
    · rw [show k + l.length - 1 = (k - 1) + l.length by omega, Nat.add_mod_right, Nat.mod_eq_of_lt (show k - 1 < l.length by omega), show k - 1 + 1 = k by omega, Nat.mod_eq_of_lt hk]
  have m1 := mod_succ hk
  have hp : (k + l.length - 1) % l.length = if k = 0 then l.length - 1 else k - 1 := by
    split
    · rename_i z; subst z; rw [show 0 + l.length - 1 = l.length - 1 by omega, Nat.mod_eq_of_lt (by omega)]
    · rw [show k + l.length - 1 = (k - 1) + l.length by omega, Nat.add_mod_right, Nat.mod_eq_of_lt (by omega)]
  have := T.turn (i := (k + l.length - 1) % l.length) (k := (k + 1) % l.length) (Nat.mod_lt _ (by omega)) (Nat.mod_lt _ (by omega)) (by rw [m1, hp]; split <;> split <;> omega) (by rw [e, m1]; split <;> omega)
  rw [e] at this
  exact this
theorem Tame.side {i k : Nat} (hi : i < l.length) (hk : k < l.length) : 0 ≤ crs (sbt (cn l i) (cn l k)) (sbt (cn l ((i + 1) % l.length)) (cn l k)) := by
  by_cases h1 : k = i
  · subst h1; simp only [crs, sbt]; grind
  · by_cases h2 : k = (i + 1) % l.length
    · rw [← h2]; simp only [crs, sbt]; grind
    · have := T.turn hi hk h1 h2
      rw [turn_c] at this
      omega
theorem Tame.fan (i : Nat) (h1 : 1 ≤ i) (h2 : i + 1 < l.length) : 0 < crs (sbt (cn l i) (cn l 0)) (sbt (cn l (i + 1)) (cn l 0)) := by
  have := T.turn (i := i) (k := 0) (by omega) (by omega) (by omega) (by rw [Nat.mod_eq_of_lt (by omega)]; omega)
  rw [Nat.mod_eq_of_lt (show i + 1 < l.length by omega), turn_c] at this
  exact this
theorem Tame.area : 0 < areaZ l := by
  have h3 := T.lo
  rw [area_from l (cn l 0)]
  refine S_pos (fun k hk => T.side hk (by omega)) 1 (by omega) ?_
  have := T.fan 1 (by omega) (by omega)
  rw [Nat.mod_eq_of_lt (show 1 + 1 < l.length by omega)]
  exact this
end

/-- the middle, before it is in lowest terms -/
def midX (l : List (Int × Int)) : Int := S l.length (fX l)
def midY (l : List (Int × Int)) : Int := S l.length (fY l)
def midG (l : List (Int × Int)) : Nat := gcdL [midX l, midY l, 3 * areaZ l]
def mX (l : List (Int × Int)) : Int := (midX l).tdiv (midG l)
def mY (l : List (Int × Int)) : Int := (midY l).tdiv (midG l)
def mD (l : List (Int × Int)) : Int := (3 * areaZ l).tdiv (midG l)
end Go.Proofs.Ytecncmmkghmojaa.Sh


/- open: a hull is opened. -/
namespace Go.Proofs.Ytecncmmkghmojaa.Sh
open Go Geo
set_option maxRecDepth 100000

end Go.Proofs.Ytecncmmkghmojaa.Sh


