/- Rolls: each step has a lesser lean, so a roll ends: plain laws. -/
import Derived.Test.YtecncmmkghmojaaXt
set_option linter.all false
namespace Go.Proofs.Ytecncmmkghmojaa.Sh
open Go Geo
set_option maxRecDepth 100000

/-- side i has a lesser lean than side j -/
def lnLt (l : List (Int × Int)) (i j : Nat) : Prop := offZ l i * offZ l i * lenZ l j < offZ l j * offZ l j * lenZ l i
instance (l : List (Int × Int)) (i j : Nat) : Decidable (lnLt l i j) := inferInstanceAs (Decidable (_ < _))
theorem lnLt_irr (l : List (Int × Int)) (i : Nat) : ¬ lnLt l i i := by unfold lnLt; omega
theorem rat_trans {a b c x y z : Int} (hx : 0 < x) (hy : 0 < y) (hz : 0 < z) (h1 : a * y < b * x) (h2 : b * z < c * y) : a * z < c * x := by
  have e1 : a * y * z < b * x * z := Int.mul_lt_mul_of_pos_right h1 hz
  have e2 : b * z * x < c * y * x := Int.mul_lt_mul_of_pos_right h2 hx
  have e3 : y * (a * z) < y * (c * x) := by
    have : y * (a * z) = a * y * z := by grind
    have : y * (c * x) = c * y * x := by grind
    have : b * x * z = b * z * x := by grind
    omega
  exact Int.lt_of_mul_lt_mul_left e3 (by omega)
theorem lnLt_trans {l : List (Int × Int)} (T : Tame l) {i j k : Nat} (hi : i < l.length) (hj : j < l.length) (hk : k < l.length) (h1 : lnLt l i j) (h2 : lnLt l j k) : lnLt l i k :=
  rat_trans (lenZ_pos T hi) (lenZ_pos T hj) (lenZ_pos T hk) h1 h2

/-- the side on which the roll goes on -/
def nxt (l : List (Int × Int)) (i : Nat) : Nat := if ahd (mX l) (mY l) (mD l) (cn l i) (cn l ((i + 1) % l.length)) < 0 then (i + l.length - 1) % l.length else (i + 1) % l.length
theorem nxt_lt {l : List (Int × Int)} (h : 0 < l.length) (i : Nat) : nxt l i < l.length := by
  unfold nxt; split <;> exact Nat.mod_lt _ h

theorem prev_succ {n i : Nat} (hi : i < n) : ((i + n - 1) % n + 1) % n = i := by
  by_cases z : i = 0
  · subst z
    rw [show 0 + n - 1 = n - 1 by omega, Nat.mod_eq_of_lt (show n - 1 < n by omega), show n - 1 + 1 = n by omega, Nat.mod_self]
  · rw [show i + n - 1 = (i - 1) + n by omega, Nat.add_mod_right, Nat.mod_eq_of_lt (show i - 1 < n by omega), show i - 1 + 1 = i by omega, Nat.mod_eq_of_lt hi]

theorem falls_prev {X Y D : Int} {r p q : Int × Int} (o1 : 0 < crs (sbt q p) (sbt (X, Y) (D * p.1, D * p.2))) (o2 : 0 < crs (sbt p r) (sbt (X, Y) (D * r.1, D * r.2))) (ht : 0 < Geo.turn r p q) (ha : ahd X Y D p q < 0) :
    crs (sbt p r) (sbt (X, Y) (D * r.1, D * r.2)) * crs (sbt p r) (sbt (X, Y) (D * r.1, D * r.2)) * dotp (sbt q p) (sbt q p) < crs (sbt q p) (sbt (X, Y) (D * p.1, D * p.2)) * crs (sbt q p) (sbt (X, Y) (D * p.1, D * p.2)) * dotp (sbt p r) (sbt p r) := by
  have e : crs (sbt p r) (sbt (X, Y) (D * r.1, D * r.2)) = crs (sbt p r) (sbt (X, Y) (D * p.1, D * p.2)) := by simp only [crs, sbt]; grind
  rw [e] at o2 ⊢
  refine lean_falls o1 ?_ o2 ?_
  · have : dotp (sbt q p) (sbt (X, Y) (D * p.1, D * p.2)) = ahd X Y D p q := by simp only [ahd, dotp]; grind
    omega
  · have : crs (sbt p r) (sbt q p) = Geo.turn r p q := by simp only [crs, sbt, Geo.turn]
    omega

theorem falls_next {X Y D : Int} {p q s : Int × Int} (o1 : 0 < crs (sbt q p) (sbt (X, Y) (D * p.1, D * p.2))) (o2 : 0 < crs (sbt s q) (sbt (X, Y) (D * q.1, D * q.2))) (ht : 0 < Geo.turn p q s) (ha : ahd X Y D q p < 0) :
    crs (sbt s q) (sbt (X, Y) (D * q.1, D * q.2)) * crs (sbt s q) (sbt (X, Y) (D * q.1, D * q.2)) * dotp (sbt q p) (sbt q p) < crs (sbt q p) (sbt (X, Y) (D * p.1, D * p.2)) * crs (sbt q p) (sbt (X, Y) (D * p.1, D * p.2)) * dotp (sbt s q) (sbt s q) := by
  have k := lean_falls (U := ((p.2 - q.2), (p.1 - q.1))) (V := ((q.2 - s.2), (q.1 - s.1))) (W := (Y - D * q.2, X - D * q.1)) ?_ ?_ ?_ ?_
  · have e1 : crs ((q.2 - s.2), (q.1 - s.1)) (Y - D * q.2, X - D * q.1) = crs (sbt s q) (sbt (X, Y) (D * q.1, D * q.2)) := by simp only [crs, sbt]; grind
    have e2 : crs ((p.2 - q.2), (p.1 - q.1)) (Y - D * q.2, X - D * q.1) = crs (sbt q p) (sbt (X, Y) (D * p.1, D * p.2)) := by simp only [crs, sbt]; grind
    have e3 : dotp ((p.2 - q.2), (p.1 - q.1)) ((p.2 - q.2), (p.1 - q.1)) = dotp (sbt q p) (sbt q p) := by simp only [dotp, sbt]; grind
    have e4 : dotp ((q.2 - s.2), (q.1 - s.1)) ((q.2 - s.2), (q.1 - s.1)) = dotp (sbt s q) (sbt s q) := by simp only [dotp, sbt]; grind
    rw [e1, e2, e3, e4] at k
    exact k
  · have : crs ((p.2 - q.2), (p.1 - q.1)) (Y - D * q.2, X - D * q.1) = crs (sbt q p) (sbt (X, Y) (D * p.1, D * p.2)) := by simp only [crs, sbt]; grind
    omega
  · have : dotp ((p.2 - q.2), (p.1 - q.1)) (Y - D * q.2, X - D * q.1) = ahd X Y D q p := by simp only [ahd, dotp, sbt]; grind
    omega
  · have : crs ((q.2 - s.2), (q.1 - s.1)) (Y - D * q.2, X - D * q.1) = crs (sbt s q) (sbt (X, Y) (D * q.1, D * q.2)) := by simp only [crs, sbt]; grind
    omega
  · have : crs ((q.2 - s.2), (q.1 - s.1)) ((p.2 - q.2), (p.1 - q.1)) = Geo.turn p q s := by simp only [crs, Geo.turn]; grind
    omega

/-- a side that is no rest: the next one of its roll has a lesser lean -/
theorem nxt_falls {l : List (Int × Int)} (T : Tame l) {i : Nat} (hi : i < l.length) (hr : tRest l i = false) : lnLt l (nxt l i) i := by
  have h0 : 0 < l.length := by omega
  have o1 := T.off_pos hi
  unfold tRest restB at hr
  unfold nxt
  split
  · rename_i ha
    have hj : (i + l.length - 1) % l.length < l.length := Nat.mod_lt _ h0
    have o2 := T.off_pos hj
    have tc := T.corner hi
    unfold lnLt
    unfold offZ lenZ at *
    rw [prev_succ hi] at *
    exact falls_prev o1 o2 tc ha
  · rename_i ha
    have hb : ahd (mX l) (mY l) (mD l) (cn l ((i + 1) % l.length)) (cn l i) < 0 := by
      rw [Bool.and_eq_false_iff, decide_eq_false_iff_not, decide_eq_false_iff_not] at hr
      omega
    have hj : (i + 1) % l.length < l.length := Nat.mod_lt _ h0
    have o2 := T.off_pos hj
    have tc := T.corner hj
    have ep : ((i + 1) % l.length + l.length - 1) % l.length = i := by
      rw [mod_succ hi]
      split
      · rw [show i + 1 + l.length - 1 = i + l.length by omega, Nat.add_mod_right, Nat.mod_eq_of_lt hi]
      · rw [show 0 + l.length - 1 = i by omega, Nat.mod_eq_of_lt hi]
    rw [ep] at tc
    unfold lnLt
    unfold offZ lenZ at *
    exact falls_next o1 o2 tc hb

/-- how many sides have a lesser lean -/
def rank (l : List (Int × Int)) (i : Nat) : Nat := ((List.range l.length).filter fun j => decide (lnLt l j i)).length
theorem filter_lt {f g : Nat → Bool} : ∀ (L : List Nat), (∀ x ∈ L, f x = true → g x = true) → (L.filter f).length ≤ (L.filter g).length ∧ ((∃ x ∈ L, g x = true ∧ f x = false) → (L.filter f).length < (L.filter g).length)
  | [], _ => ⟨Nat.le_refl _, fun ⟨x, hx, _⟩ => by simp at hx⟩
  | a :: L, h => by
    obtain ⟨i1, i2⟩ := filter_lt L (fun x hx => h x (by simp [hx]))
    have ha := h a (by simp)
    simp only [List.filter_cons]
    cases hf : f a <;> cases hg : g a
    · refine ⟨by simpa using i1, fun ⟨x, hx, h1, h2⟩ => ?_⟩
      rcases List.mem_cons.1 hx with rfl | hx
      · rw [hg] at h1; cases h1
      · simpa using i2 ⟨x, hx, h1, h2⟩
    · refine ⟨by simp; omega, fun _ => by simp; omega⟩
    · rw [hf, hg] at ha; simp at ha
    · refine ⟨by simpa using i1, fun ⟨x, hx, h1, h2⟩ => ?_⟩
      rcases List.mem_cons.1 hx with rfl | hx
      · rw [hf] at h2; cases h2
      · simpa using i2 ⟨x, hx, h1, h2⟩
theorem rank_lt {l : List (Int × Int)} (T : Tame l) {i j : Nat} (hi : i < l.length) (hj : j < l.length) (h : lnLt l j i) : rank l j < rank l i := by
  refine (filter_lt _ (fun x hx hf => ?_)).2 ⟨j, List.mem_range.2 hj, decide_eq_true h, decide_eq_false (lnLt_irr l j)⟩
  exact decide_eq_true (lnLt_trans T (List.mem_range.1 hx) hj hi (of_decide_eq_true hf) h)
theorem rank_le {l : List (Int × Int)} {i : Nat} (hi : i < l.length) : rank l i < l.length := by
  have h := (filter_lt (f := fun j => decide (lnLt l j i)) (g := fun _ => true) (List.range l.length) (fun _ _ _ => rfl)).2 ⟨i, List.mem_range.2 hi, rfl, decide_eq_false (lnLt_irr l i)⟩
  have e : ((List.range l.length).filter fun _ => true).length = l.length := by rw [List.filter_eq_self.2 (fun _ _ => rfl), List.length_range]
  rw [e] at h
  exact h

/-- a roll of at most k steps -/
def chain (l : List (Int × Int)) : Nat → Nat → List Nat
  | 0, i => [i]
  | k + 1, i => if tRest l i = true then [i] else i :: chain l k (nxt l i)
theorem chain_rest {l : List (Int × Int)} {i : Nat} (hr : tRest l i = true) (k : Nat) : chain l (k + 1) i = [i] := by rw [chain, if_pos hr]
theorem chain_go {l : List (Int × Int)} {i : Nat} (hr : tRest l i = false) (k : Nat) : chain l (k + 1) i = i :: chain l k (nxt l i) := by rw [chain, if_neg (by rw [hr]; decide)]
/-- the roll of side i -/
def roll (l : List (Int × Int)) (i : Nat) : List Nat := chain l (rank l i) i
theorem chain_ge {l : List (Int × Int)} (T : Tame l) : ∀ (k i : Nat), i < l.length → rank l i ≤ k → chain l (k + 1) i = chain l k i
  | 0, i, hi, hk => by
    cases hr : tRest l i
    · have := rank_lt T hi (nxt_lt (by omega) i) (nxt_falls T hi hr)
      omega
    · rw [chain_rest hr]; rfl
  | k + 1, i, hi, hk => by
    cases hr : tRest l i
    · have h1 := rank_lt T hi (nxt_lt (by omega) i) (nxt_falls T hi hr)
      have ih := chain_ge T k (nxt l i) (nxt_lt (by omega) i) (by omega)
      rw [chain_go hr, chain_go hr, ih]
    · rw [chain_rest hr, chain_rest hr]
theorem chain_roll {l : List (Int × Int)} (T : Tame l) {i : Nat} (hi : i < l.length) : ∀ d, chain l (rank l i + d) i = roll l i
  | 0 => rfl
  | d + 1 => by rw [← Nat.add_assoc, chain_ge T _ i hi (by omega)]; exact chain_roll T hi d
theorem roll_rest {l : List (Int × Int)} {i : Nat} (hr : tRest l i = true) : roll l i = [i] := by
  unfold roll
  cases rank l i with
  | zero => rfl
  | succ k => exact chain_rest hr k
theorem roll_next {l : List (Int × Int)} (T : Tame l) {i : Nat} (hi : i < l.length) (hr : tRest l i = false) : roll l i = i :: roll l (nxt l i) ∧ rank l (nxt l i) < rank l i := by
  have h1 := rank_lt T hi (nxt_lt (by omega) i) (nxt_falls T hi hr)
  refine ⟨?_, h1⟩
  have h2 := chain_roll T (nxt_lt (by omega) i) (rank l i - 1 - rank l (nxt l i))
  rw [show rank l (nxt l i) + (rank l i - 1 - rank l (nxt l i)) = rank l i - 1 by omega] at h2
  have h3 : roll l i = chain l (rank l i - 1 + 1) i := by rw [show rank l i - 1 + 1 = rank l i by omega]; rfl
  rw [h3, chain_go hr, h2]
theorem roll_len {l : List (Int × Int)} (T : Tame l) : ∀ (k i : Nat), i < l.length → rank l i ≤ k → (roll l i).length ≤ rank l i + 1
  | k, i, hi, hk => by
    cases hr : tRest l i
    · obtain ⟨h1, h2⟩ := roll_next T hi hr
      cases k with
      | zero => omega
      | succ k =>
        have := roll_len T k (nxt l i) (nxt_lt (by omega) i) (by omega)
        rw [h1, List.length_cons]; omega
    · rw [roll_rest hr]; simp
end Go.Proofs.Ytecncmmkghmojaa.Sh

