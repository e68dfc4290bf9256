/- At least two firm rests, and as many tips: plain laws. -/
import Derived.Test.YtecncmmkghmojaaYa
set_option linter.all false
/- At least two firm rests, and as many tips: plain laws. -/
namespace Go.Proofs.Ytecncmmkghmojaa.Sh
open Go Geo
set_option maxRecDepth 100000

/-- the lean falls, too, where the foot is the corner itself -/
theorem lean_falls0 {U V W : Int × Int} (ha : 0 < crs U W) (hb : dotp U W ≤ 0) (hc : 0 < crs V W) (hs : 0 < crs V U) : crs V W * crs V W * dotp U U < crs U W * crs U W * dotp V V := by
  have id1 : dotp U U * crs V W = dotp U V * crs U W + crs V U * dotp U W := by simp only [dotp, crs]; grind
  have id2 : dotp U V * dotp U V = dotp U U * dotp V V - crs V U * crs V U := by simp only [dotp, crs]; grind
  have hU : 0 < dotp U U := by
    have h1 : 0 ≤ U.1 * U.1 := Geo.sq_nonneg _
    have h2 : 0 ≤ U.2 * U.2 := Geo.sq_nonneg _
    have : dotp U U = U.1 * U.1 + U.2 * U.2 := rfl
    by_cases e : dotp U U = 0
    · have e1 : U.1 = 0 := Geo.sq_zero (by omega)
      have e2 : U.2 = 0 := Geo.sq_zero (by omega)
      simp only [crs, e1, e2] at hs
      omega
    · omega
  generalize crs U W = a at *
  generalize dotp U W = b at *
  generalize crs V W = c at *
  generalize crs V U = s at *
  generalize dotp U V = t at *
  generalize dotp U U = u at *
  generalize dotp V V = v at *
  have hsb : s * b ≤ 0 := by
    have := Int.mul_nonneg (show 0 ≤ s by omega) (show 0 ≤ -b by omega)
    rw [Int.mul_neg] at this; omega
  have huc : 0 < u * c := Int.mul_pos hU hc
  have h1 : u * c ≤ t * a := by omega
  have h2 : (u * c) * (u * c) ≤ (t * a) * (t * a) := by
    have x1 : (u * c) * (u * c) ≤ (u * c) * (t * a) := Int.mul_le_mul_of_nonneg_left h1 (by omega)
    have x2 : (u * c) * (t * a) ≤ (t * a) * (t * a) := Int.mul_le_mul_of_nonneg_right h1 (by omega)
    omega
  have h3 : (t * a) * (t * a) = (u * v - s * s) * (a * a) := by rw [← id2]; grind
  have h4 : 0 < (s * s) * (a * a) := Int.mul_pos (Int.mul_pos hs hs) (Int.mul_pos ha ha)
  have h5 : u * (c * c * u) < u * (a * a * v) := by
    have e1 : u * (c * c * u) = (u * c) * (u * c) := by grind
    have e2 : u * (a * a * v) = (u * v - s * s) * (a * a) + (s * s) * (a * a) := by grind
    omega
  exact Int.lt_of_mul_lt_mul_left h5 (by omega)

theorem falls_prev0 {X Y D : Int} {r p q : Int × Int} (o1 : 0 < crs (sbt q p) (sbt (X, Y) (D * p.1, D * p.2))) (o2 : 0 < crs (sbt p r) (sbt (X, Y) (D * r.1, D * r.2))) (ht : 0 < Geo.turn r p q) (ha : ahd X Y D p q ≤ 0) :
    crs (sbt p r) (sbt (X, Y) (D * r.1, D * r.2)) * crs (sbt p r) (sbt (X, Y) (D * r.1, D * r.2)) * dotp (sbt q p) (sbt q p) < crs (sbt q p) (sbt (X, Y) (D * p.1, D * p.2)) * crs (sbt q p) (sbt (X, Y) (D * p.1, D * p.2)) * dotp (sbt p r) (sbt p r) := by
  have e : crs (sbt p r) (sbt (X, Y) (D * r.1, D * r.2)) = crs (sbt p r) (sbt (X, Y) (D * p.1, D * p.2)) := by simp only [crs, sbt]; grind
  rw [e] at o2 ⊢
  refine lean_falls0 o1 ?_ o2 ?_
  · have : dotp (sbt q p) (sbt (X, Y) (D * p.1, D * p.2)) = ahd X Y D p q := by simp only [ahd, dotp]; grind
    omega
  · have : crs (sbt p r) (sbt q p) = Geo.turn r p q := by simp only [crs, sbt, Geo.turn]
    omega
theorem falls_next0 {X Y D : Int} {p q s : Int × Int} (o1 : 0 < crs (sbt q p) (sbt (X, Y) (D * p.1, D * p.2))) (o2 : 0 < crs (sbt s q) (sbt (X, Y) (D * q.1, D * q.2))) (ht : 0 < Geo.turn p q s) (ha : ahd X Y D q p ≤ 0) :
    crs (sbt s q) (sbt (X, Y) (D * q.1, D * q.2)) * crs (sbt s q) (sbt (X, Y) (D * q.1, D * q.2)) * dotp (sbt q p) (sbt q p) < crs (sbt q p) (sbt (X, Y) (D * p.1, D * p.2)) * crs (sbt q p) (sbt (X, Y) (D * p.1, D * p.2)) * dotp (sbt s q) (sbt s q) := by
  have k := lean_falls0 (U := ((p.2 - q.2), (p.1 - q.1))) (V := ((q.2 - s.2), (q.1 - s.1))) (W := (Y - D * q.2, X - D * q.1)) ?_ ?_ ?_ ?_
  · have e1 : crs ((q.2 - s.2), (q.1 - s.1)) (Y - D * q.2, X - D * q.1) = crs (sbt s q) (sbt (X, Y) (D * q.1, D * q.2)) := by simp only [crs, sbt]; grind
    have e2 : crs ((p.2 - q.2), (p.1 - q.1)) (Y - D * q.2, X - D * q.1) = crs (sbt q p) (sbt (X, Y) (D * p.1, D * p.2)) := by simp only [crs, sbt]; grind
    have e3 : dotp ((p.2 - q.2), (p.1 - q.1)) ((p.2 - q.2), (p.1 - q.1)) = dotp (sbt q p) (sbt q p) := by simp only [dotp, sbt]; grind
    have e4 : dotp ((q.2 - s.2), (q.1 - s.1)) ((q.2 - s.2), (q.1 - s.1)) = dotp (sbt s q) (sbt s q) := by simp only [dotp, sbt]; grind
    rw [e1, e2, e3, e4] at k
    exact k
  · have : crs ((p.2 - q.2), (p.1 - q.1)) (Y - D * q.2, X - D * q.1) = crs (sbt q p) (sbt (X, Y) (D * p.1, D * p.2)) := by simp only [crs, sbt]; grind
    omega
  · have : dotp ((p.2 - q.2), (p.1 - q.1)) (Y - D * q.2, X - D * q.1) = ahd X Y D q p := by simp only [ahd, dotp, sbt]; grind
    omega
  · have : crs ((q.2 - s.2), (q.1 - s.1)) (Y - D * q.2, X - D * q.1) = crs (sbt s q) (sbt (X, Y) (D * q.1, D * q.2)) := by simp only [crs, sbt]; grind
    omega
  · have : crs ((q.2 - s.2), (q.1 - s.1)) ((p.2 - q.2), (p.1 - q.1)) = Geo.turn p q s := by simp only [crs, Geo.turn]; grind
    omega

/-- how far ahead: from corner k to the next one, and to the one before -/
def al (l : List (Int × Int)) (k : Nat) : Int := ahd (mX l) (mY l) (mD l) (cn l k) (cn l ((k + 1) % l.length))
def be (l : List (Int × Int)) (k : Nat) : Int := ahd (mX l) (mY l) (mD l) (cn l k) (cn l ((k + l.length - 1) % l.length))
theorem succ_prev {n i : Nat} (hi : i < n) : ((i + 1) % n + n - 1) % n = i := by
  rw [mod_succ hi]
  split
  · rw [show i + 1 + n - 1 = i + n by omega, Nat.add_mod_right, Nat.mod_eq_of_lt hi]
  · rw [show 0 + n - 1 = i by omega, Nat.mod_eq_of_lt hi]
theorem be_succ (l : List (Int × Int)) {k : Nat} (hk : k < l.length) : be l ((k + 1) % l.length) = ahd (mX l) (mY l) (mD l) (cn l ((k + 1) % l.length)) (cn l k) := by
  unfold be; rw [succ_prev hk]
theorem tFirm_eq (l : List (Int × Int)) {k : Nat} (hk : k < l.length) : tFirm l k = (decide (0 < al l k) && decide (0 < be l ((k + 1) % l.length))) := by
  rw [be_succ l hk]; rfl
section
variable {l : List (Int × Int)} (T : Tame l)
include T
/-- at each side one of its ends lies behind the foot -/
theorem Tame.al_be {k : Nat} (hk : k < l.length) : al l k + be l ((k + 1) % l.length) = mD l * lenZ l k := by
  rw [be_succ l hk]
  unfold al lenZ ahd
  simp only [dotp, sbt]; grind
/-- at each corner the middle lies within a right angle of one of its sides -/
theorem Tame.corner_or {k : Nat} (hk : k < l.length) : 0 < al l k ∨ 0 < be l k := by
  have hj : (k + l.length - 1) % l.length < l.length := Nat.mod_lt _ (by omega)
  have o1 := T.off_pos hk
  have o2 := T.off_pos hj
  have ht := T.corner hk
  unfold offZ at o1 o2
  rw [prev_succ hk] at o2
  unfold al be
  generalize (k + l.length - 1) % l.length = j at *
  generalize (k + 1) % l.length = i at *
  generalize cn l k = p at *
  generalize cn l i = q at *
  generalize cn l j = r at *
  generalize mX l = X at *
  generalize mY l = Y at *
  generalize mD l = D at *
  have e2 : crs (sbt p r) (sbt (X, Y) (D * r.1, D * r.2)) = crs (sbt (X, Y) (D * p.1, D * p.2)) (sbt r p) := by simp only [crs, sbt]; grind
  have e3 : Geo.turn r p q = crs (sbt q p) (sbt r p) := by simp only [crs, sbt, Geo.turn]; grind
  rw [e2] at o2
  rw [e3] at ht
  have e4 : ahd X Y D p q = dotp (sbt (X, Y) (D * p.1, D * p.2)) (sbt q p) := rfl
  have e5 : ahd X Y D p r = dotp (sbt (X, Y) (D * p.1, D * p.2)) (sbt r p) := rfl
  rw [e4, e5]
  generalize sbt (X, Y) (D * p.1, D * p.2) = W at *
  generalize sbt q p = U at *
  generalize sbt r p = V at *
  have id : crs U V * dotp W W = crs W V * dotp W U + crs U W * dotp W V := by simp only [crs, dotp]; grind
  have hW : 0 ≤ dotp W W := by
    have h1 : 0 ≤ W.1 * W.1 := Geo.sq_nonneg _
    have h2 : 0 ≤ W.2 * W.2 := Geo.sq_nonneg _
    have : dotp W W = W.1 * W.1 + W.2 * W.2 := rfl
    omega
  by_cases c1 : 0 < dotp W U
  · exact .inl c1
  · by_cases c2 : 0 < dotp W V
    · exact .inr c2
    · exfalso
      have m1 := Int.mul_nonneg (show 0 ≤ crs W V by omega) (show 0 ≤ - dotp W U by omega)
      have m2 := Int.mul_nonneg (show 0 ≤ crs U W by omega) (show 0 ≤ - dotp W V by omega)
      rw [Int.mul_neg] at m1 m2
      have m3 := Int.mul_nonneg (show 0 ≤ crs U V by omega) hW
      have m4 : crs U V * dotp W W = 0 := by omega
      have m5 : dotp W W = 0 := by
        rcases Int.mul_eq_zero.1 m4 with z | z
        · omega
        · exact z
      have w1 : W.1 = 0 := Geo.sq_zero (by have h1 : 0 ≤ W.1 * W.1 := Geo.sq_nonneg _; have h2 : 0 ≤ W.2 * W.2 := Geo.sq_nonneg _; have : dotp W W = W.1 * W.1 + W.2 * W.2 := rfl; omega)
      have w2 : W.2 = 0 := Geo.sq_zero (by have h1 : 0 ≤ W.1 * W.1 := Geo.sq_nonneg _; have h2 : 0 ≤ W.2 * W.2 := Geo.sq_nonneg _; have : dotp W W = W.1 * W.1 + W.2 * W.2 := rfl; omega)
      simp only [crs, w1, w2] at o1
      omega

/-- the side with the least lean is a firm rest -/
theorem Tame.least_firm {i : Nat} (hi : i < l.length) (hm : ∀ j, j < l.length → ¬ lnLt l j i) : tFirm l i = true := by
  have h0 : 0 < l.length := by omega
  have o1 := T.off_pos hi
  by_cases c1 : 0 < al l i
  · by_cases c2 : 0 < be l ((i + 1) % l.length)
    · rw [tFirm_eq l hi, decide_eq_true c1, decide_eq_true c2]; rfl
    · exfalso
      rw [be_succ l hi] at c2
      have hj : (i + 1) % l.length < l.length := Nat.mod_lt _ h0
      have o2 := T.off_pos hj
      have tc := T.corner hj
      rw [succ_prev hi] at tc
      refine hm _ hj ?_
      unfold lnLt
      unfold offZ lenZ at *
      exact falls_next0 o1 o2 tc (by omega)
  · exfalso
    have hj : (i + l.length - 1) % l.length < l.length := Nat.mod_lt _ h0
    have o2 := T.off_pos hj
    have tc := T.corner hi
    refine hm _ hj ?_
    unfold lnLt
    unfold al at c1
    unfold offZ lenZ at *
    rw [prev_succ hi] at *
    exact falls_prev0 o1 o2 tc (by omega)
/-- Lowest is the least, and the first of these -/
theorem Tame.low_least : ∀ k, k ≤ l.length → ∀ j, j < k → (¬ lnLt l j (lowF l k)) ∧ (j < lowF l k → lnLt l (lowF l k) j)
  | 0, _, j, hj => by omega
  | k + 1, hk, j, hj => by
    have ih := Tame.low_least k (by omega)
    by_cases hz : k = 0
    · subst hz
      have : j = 0 := by omega
      subst this
      rw [lowF_one]
      exact ⟨lnLt_irr l 0, fun h => by omega⟩
    · have hb := lowF_lt (l := l) (by omega) k (by omega)
      by_cases hc : lnLt l k (lowF l k)
      · rw [lowF_pos hz hc]
        rcases Nat.lt_or_ge j k with hjk | hjk
        · have h1 := (ih j hjk).1
          have hlt : lnLt l k j := by
            -- k is less than the least of the first, which is at most j
            unfold lnLt at h1 hc ⊢
            have hx := lenZ_pos T (show k < l.length by omega)
            have hy := lenZ_pos T hb
            have hz2 := lenZ_pos T (show j < l.length by omega)
            have e1 : offZ l k * offZ l k * lenZ l (lowF l k) * lenZ l j < offZ l (lowF l k) * offZ l (lowF l k) * lenZ l k * lenZ l j := Int.mul_lt_mul_of_pos_right hc hz2
            have e2 : offZ l (lowF l k) * offZ l (lowF l k) * lenZ l j * lenZ l k ≤ offZ l j * offZ l j * lenZ l (lowF l k) * lenZ l k := Int.mul_le_mul_of_nonneg_right (by omega) (by omega)
            have e3 : lenZ l (lowF l k) * (offZ l k * offZ l k * lenZ l j) < lenZ l (lowF l k) * (offZ l j * offZ l j * lenZ l k) := by
              have q1 : lenZ l (lowF l k) * (offZ l k * offZ l k * lenZ l j) = offZ l k * offZ l k * lenZ l (lowF l k) * lenZ l j := by grind
              have q2 : lenZ l (lowF l k) * (offZ l j * offZ l j * lenZ l k) = offZ l j * offZ l j * lenZ l (lowF l k) * lenZ l k := by grind
              have q3 : offZ l (lowF l k) * offZ l (lowF l k) * lenZ l k * lenZ l j = offZ l (lowF l k) * offZ l (lowF l k) * lenZ l j * lenZ l k := by grind
              omega
            exact Int.lt_of_mul_lt_mul_left e3 (by omega)
          refine ⟨fun h => ?_, fun _ => hlt⟩
          exact lnLt_irr l j (lnLt_trans T (by omega) (by omega) (by omega) h hlt)
        · have : j = k := by omega
          subst this
          exact ⟨lnLt_irr l j, fun h => by omega⟩
      · rw [lowF_neg hz hc]
        rcases Nat.lt_or_ge j k with hjk | hjk
        · exact ih j hjk
        · have : j = k := by omega
          subst this
          refine ⟨hc, fun h => ?_⟩
          have hlow : ∀ m, m ≤ l.length → m ≠ 0 → lowF l m < m := by
            intro m
            induction m with
            | zero => intro _ h; exact (h rfl).elim
            | succ m ihm =>
              intro hm _
              by_cases z : m = 0
              · subst z; rw [lowF_one]; omega
              · by_cases c : lnLt l m (lowF l m)
                · rw [lowF_pos z c]; omega
                · rw [lowF_neg z c]; have := ihm (by omega) z; omega
          have := hlow j (by omega) hz
          omega
end
end Go.Proofs.Ytecncmmkghmojaa.Sh


/- A hull has at least two firm rests: plain laws. -/
namespace Go.Proofs.Ytecncmmkghmojaa.Sh
open Go Geo
set_option maxRecDepth 100000

/-- corner k, seen from the middle, times D -/
def xk (l : List (Int × Int)) (k : Nat) : Int × Int := (mD l * (cn l k).1 - mX l, mD l * (cn l k).2 - mY l)
theorem mid_scaled (l : List (Int × Int)) (hg : 0 < midG l) : mD l * midX l = 3 * areaZ l * mX l ∧ mD l * midY l = 3 * areaZ l * mY l := by
  have hx := mX_mul l
  have hy := mY_mul l
  have hd := mD_mul l
  constructor
  · rw [← hx, ← hd]; grind
  · rw [← hy, ← hd]; grind

def mtel (X Y D : Int) (V p : Int × Int) : Int := D * D * (V.1 * (Y * (p.1 * p.1) - X * (p.1 * p.2)) + V.2 * (Y * (p.1 * p.2) - X * (p.2 * p.2))) + 2 * D * (V.1 * X + V.2 * Y) * (X * p.2 - Y * p.1)
theorem mtel_id (X Y D : Int) (V p q : Int × Int) : crs (D * p.1 - X, D * p.2 - Y) (D * q.1 - X, D * q.2 - Y) * dotp V ((D * p.1 - X) + (D * q.1 - X), (D * p.2 - Y) + (D * q.2 - Y)) =
    (D * D * D * V.1) * ((p.1 + q.1) * crs p q) + ((D * D * D * V.2) * ((p.2 + q.2) * crs p q) + ((- 3 * (D * D) * (V.1 * X + V.2 * Y)) * crs p q + (mtel X Y D V q - mtel X Y D V p))) := by
  obtain ⟨p1, p2⟩ := p
  obtain ⟨q1, q2⟩ := q
  obtain ⟨v1, v2⟩ := V
  simp only [crs, dotp, mtel]
  grind
/-- the moments of the triangles seen from the middle add up to nothing -/
theorem moment_zero (l : List (Int × Int)) (hg : 0 < midG l) (V : Int × Int) : S l.length (fun k => crs (xk l k) (xk l ((k + 1) % l.length)) * dotp V ((xk l k).1 + (xk l ((k + 1) % l.length)).1, (xk l k).2 + (xk l ((k + 1) % l.length)).2)) = 0 := by
  obtain ⟨h1, h2⟩ := mid_scaled l hg
  have ex : ∀ k, crs (xk l k) (xk l ((k + 1) % l.length)) * dotp V ((xk l k).1 + (xk l ((k + 1) % l.length)).1, (xk l k).2 + (xk l ((k + 1) % l.length)).2) =
      (mD l * mD l * mD l * V.1) * fX l k + ((mD l * mD l * mD l * V.2) * fY l k + ((- 3 * (mD l * mD l) * (V.1 * mX l + V.2 * mY l)) * cz l k + (mtel (mX l) (mY l) (mD l) V (cn l ((k + 1) % l.length)) - mtel (mX l) (mY l) (mD l) V (cn l k)))) :=
    fun k => mtel_id _ _ _ V _ _
  rw [S_congr (fun k _ => ex k), S_add, S_add, S_add, S_mul, S_mul, S_mul, S_sub, S_cyc l.length (fun k => mtel (mX l) (mY l) (mD l) V (cn l k)), Int.sub_self, Int.add_zero]
  show mD l * mD l * mD l * V.1 * midX l + (mD l * mD l * mD l * V.2 * midY l + -3 * (mD l * mD l) * (V.1 * mX l + V.2 * mY l) * areaZ l) = 0
  have e1 : mD l * mD l * mD l * V.1 * midX l = mD l * mD l * V.1 * (mD l * midX l) := by grind
  have e2 : mD l * mD l * mD l * V.2 * midY l = mD l * mD l * V.2 * (mD l * midY l) := by grind
  rw [e1, e2, h1, h2]
  grind

/-- along side k: how the square of the distance from the middle grows at its ends -/
def gA (l : List (Int × Int)) (k : Nat) : Int := - al l k
def gB (l : List (Int × Int)) (k : Nat) : Int := be l ((k + 1) % l.length)
theorem gA_eq (l : List (Int × Int)) (k : Nat) : mD l * gA l k = dotp (xk l k) (xk l ((k + 1) % l.length)) - dotp (xk l k) (xk l k) := by
  unfold gA al ahd xk
  simp only [dotp, sbt]; grind
theorem gB_eq (l : List (Int × Int)) {k : Nat} (hk : k < l.length) : mD l * gB l k = dotp (xk l ((k + 1) % l.length)) (xk l ((k + 1) % l.length)) - dotp (xk l k) (xk l ((k + 1) % l.length)) := by
  unfold gB
  rw [be_succ l hk]
  unfold ahd xk
  simp only [dotp, sbt]; grind

/-- what is linear, weighted by the growth of the square of the distance, adds up to nothing round a hull -/
theorem linear_zero (l : List (Int × Int)) (hg : 0 < midG l) (V : Int × Int) : S l.length (fun k => mD l * (crs V (xk l k) * (2 * gA l k + gB l k) + crs V (xk l ((k + 1) % l.length)) * (gA l k + 2 * gB l k))) = 0 := by
  have ex : ∀ k, k < l.length → mD l * (crs V (xk l k) * (2 * gA l k + gB l k) + crs V (xk l ((k + 1) % l.length)) * (gA l k + 2 * gB l k)) =
      (2 * (dotp (xk l ((k + 1) % l.length)) (xk l ((k + 1) % l.length)) * crs V (xk l ((k + 1) % l.length))) - 2 * (dotp (xk l k) (xk l k) * crs V (xk l k))) -
        crs (xk l k) (xk l ((k + 1) % l.length)) * dotp V ((xk l k).1 + (xk l ((k + 1) % l.length)).1, (xk l k).2 + (xk l ((k + 1) % l.length)).2) := by
    intro k hk
    have a := gA_eq l k
    have b := gB_eq l hk
    generalize xk l ((k + 1) % l.length) = Q at *
    generalize xk l k = P at *
    have e : mD l * (crs V P * (2 * gA l k + gB l k) + crs V Q * (gA l k + 2 * gB l k)) = crs V P * (2 * (mD l * gA l k) + mD l * gB l k) + crs V Q * (mD l * gA l k + 2 * (mD l * gB l k)) := by grind
    rw [e, a, b]
    obtain ⟨p1, p2⟩ := P
    obtain ⟨q1, q2⟩ := Q
    obtain ⟨v1, v2⟩ := V
    simp only [crs, dotp]
    grind
  rw [S_congr ex, S_sub, moment_zero l hg V, S_sub, S_cyc l.length (fun k => 2 * (dotp (xk l k) (xk l k) * crs V (xk l k)))]
  omega
theorem const_zero (l : List (Int × Int)) : S l.length (fun k => mD l * (gA l k + gB l k)) = 0 := by
  have ex : ∀ k, k < l.length → mD l * (gA l k + gB l k) = dotp (xk l ((k + 1) % l.length)) (xk l ((k + 1) % l.length)) - dotp (xk l k) (xk l k) := by
    intro k hk
    have a := gA_eq l k
    have b := gB_eq l hk
    rw [Int.mul_add, a, b]; omega
  rw [S_congr ex, S_sub, S_cyc l.length (fun k => dotp (xk l k) (xk l k)), Int.sub_self]
/-- the same for what is linear but for a constant -/
theorem affine_zero (l : List (Int × Int)) (hg : 0 < midG l) (V : Int × Int) (c : Int) (h : Nat → Int) (hh : ∀ k, mD l * h k = crs V (xk l k) + c) :
    S l.length (fun k => mD l * (mD l * (h k * (2 * gA l k + gB l k) + h ((k + 1) % l.length) * (gA l k + 2 * gB l k)))) = 0 := by
  have ex : ∀ k, k < l.length → mD l * (mD l * (h k * (2 * gA l k + gB l k) + h ((k + 1) % l.length) * (gA l k + 2 * gB l k))) =
      mD l * (crs V (xk l k) * (2 * gA l k + gB l k) + crs V (xk l ((k + 1) % l.length)) * (gA l k + 2 * gB l k)) + 3 * c * (mD l * (gA l k + gB l k)) := by
    intro k hk
    have a := hh k
    have b := hh ((k + 1) % l.length)
    have e : mD l * (mD l * (h k * (2 * gA l k + gB l k) + h ((k + 1) % l.length) * (gA l k + 2 * gB l k))) = mD l * ((mD l * h k) * (2 * gA l k + gB l k) + (mD l * h ((k + 1) % l.length)) * (gA l k + 2 * gB l k)) := by grind
    rw [e, a, b]; grind
  rw [S_congr ex, S_add, linear_zero l hg V, S_mul, const_zero, Int.mul_zero, Int.add_zero]

/-- three corners in order turn to the left -/
theorem Tame.three {l : List (Int × Int)} (T : Tame l) {i : Nat} : ∀ (j k : Nat), i < j → j < k → k < l.length → 0 < Geo.turn (cn l i) (cn l j) (cn l k) := by
  intro j k hij hjk hk
  have t3 := T.lo
  -- from the first to the second: a side
  have side : ∀ m, i + 1 < m → m < l.length → 0 < crs (sbt (cn l (i + 1)) (cn l i)) (sbt (cn l m) (cn l i)) := by
    intro m h1 h2
    have := T.turn (i := i) (k := m) (by omega) h2 (by omega) (by rw [Nat.mod_eq_of_lt (by omega)]; omega)
    rw [Nat.mod_eq_of_lt (by omega)] at this
    rw [crs_off]; exact this
  have next : ∀ m, i < m → m + 1 < l.length → 0 < crs (sbt (cn l m) (cn l i)) (sbt (cn l (m + 1)) (cn l i)) := by
    intro m h1 h2
    have := T.turn (i := m) (k := i) (by omega) (by omega) (by omega) (by rw [Nat.mod_eq_of_lt h2]; omega)
    rw [Nat.mod_eq_of_lt h2, turn_c] at this
    exact this
  have main : ∀ d m, i < m → m + d + 1 < l.length → 0 < crs (sbt (cn l m) (cn l i)) (sbt (cn l (m + d + 1)) (cn l i)) := by
    intro d
    induction d with
    | zero => intro m h1 h2; exact next m h1 h2
    | succ d ih =>
      intro m h1 h2
      by_cases e : m = i + 1
      · subst e; exact side _ (by omega) h2
      · have a := ih m h1 (by omega)
        have b := next (m + d + 1) (by omega) (by omega)
        have c1 := side m (by omega) (by omega)
        have c2 := side (m + d + 1) (by omega) (by omega)
        have c3 := side (m + d + 1 + 1) (by omega) (by omega)
        rw [show m + (d + 1) + 1 = m + d + 1 + 1 by omega]
        generalize sbt (cn l (i + 1)) (cn l i) = D at *
        generalize sbt (cn l m) (cn l i) = u at *
        generalize sbt (cn l (m + d + 1)) (cn l i) = v at *
        generalize sbt (cn l (m + d + 1 + 1)) (cn l i) = w at *
        have pl : crs D v * crs u w = crs D u * crs v w + crs D w * crs u v := by simp only [crs]; grind
        have m1 := Int.mul_pos c1 b
        have m2 := Int.mul_pos c3 a
        exact pos_of_mul c2 (by omega)
  have := main (k - j - 1) j hij (by omega)
  rw [show j + (k - j - 1) + 1 = k by omega] at this
  rw [← crs_off]; exact this
theorem turn_rot (a b c : Int × Int) : Geo.turn a b c = Geo.turn b c a := by simp only [Geo.turn]; grind
theorem turn_swap (a b c : Int × Int) : Geo.turn a b c = - Geo.turn a c b := by simp only [Geo.turn]; grind
theorem turn_same (a b : Int × Int) : Geo.turn a a b = 0 ∧ Geo.turn a b b = 0 ∧ Geo.turn a b a = 0 := by
  refine ⟨?_, ?_, ?_⟩ <;> simp only [Geo.turn] <;> grind
end Go.Proofs.Ytecncmmkghmojaa.Sh


/- A hull has at least two firm rests. -/
namespace Go.Proofs.Ytecncmmkghmojaa.Sh
open Go Geo
set_option maxRecDepth 100000

theorem first_pos (f : Nat → Int) : ∀ m, 0 < f m → ∃ j, j ≤ m ∧ 0 < f j ∧ ∀ k, k < j → ¬ 0 < f k := by
  intro m
  induction m using Nat.strongRecOn with
  | _ m ih =>
    intro hm
    by_cases h : ∃ k, k < m ∧ 0 < f k
    · obtain ⟨k, h1, h2⟩ := h
      obtain ⟨j, h3, h4, h5⟩ := ih k h1 h2
      exact ⟨j, by omega, h4, h5⟩
    · exact ⟨m, Nat.le_refl _, hm, fun k hk hf => h ⟨k, hk, hf⟩⟩

theorem Tame.three0 {l : List (Int × Int)} (T : Tame l) {i j k : Nat} (h1 : i ≤ j) (h2 : j ≤ k) (hk : k < l.length) : 0 ≤ Geo.turn (cn l i) (cn l j) (cn l k) := by
  by_cases e1 : i = j
  · subst e1; rw [(turn_same _ _).1]; exact Int.le_refl _
  · by_cases e2 : j = k
    · subst e2; rw [(turn_same _ _).2.1]; exact Int.le_refl _
    · exact Int.le_of_lt (T.three j k (by omega) (by omega) hk)

/-- not just one firm rest, the last side -/
theorem Tame.not_one {l : List (Int × Int)} (T : Tame l) (hf : tFirm l (l.length - 1) = true) (ho : ∀ k, k < l.length - 1 → tFirm l k = false) : False := by
  have n3 := T.lo
  have hg := midG_pos T
  have hD := mD_pos T
  have m0 : (l.length - 1 + 1) % l.length = 0 := by rw [show l.length - 1 + 1 = l.length by omega, Nat.mod_self]
  rw [tFirm_eq l (by omega), m0, Bool.and_eq_true, decide_eq_true_eq, decide_eq_true_eq] at hf
  obtain ⟨ha, hb⟩ := hf
  obtain ⟨t, ht1, ht2, ht3⟩ := first_pos (al l) (l.length - 1) ha
  have ms : ∀ k, k < l.length - 1 → (k + 1) % l.length = k + 1 := fun k hk => Nat.mod_eq_of_lt (by omega)
  -- rising sides
  have up : ∀ k, k < t → 0 ≤ gA l k ∧ 0 < gB l k := by
    intro k hk
    have h1 := ht3 k hk
    have h2 := T.al_be (k := k) (by omega)
    have h3 := Int.mul_pos hD (lenZ_pos T (show k < l.length by omega))
    unfold gA gB
    omega
  -- falling sides
  have dn0 : ∀ d, t + d < l.length → 0 < al l (t + d) := by
    intro d
    induction d with
    | zero => intro _; exact ht2
    | succ d ih =>
      intro hd
      have h1 := ih (by omega)
      have h2 := ho (t + d) (by omega)
      rw [tFirm_eq l (by omega), Bool.and_eq_false_iff, decide_eq_false_iff_not, decide_eq_false_iff_not, ms _ (by omega)] at h2
      have h3 := T.corner_or (k := t + d + 1) (by omega)
      rcases h2 with h2 | h2
      · exact (h2 h1).elim
      · rcases h3 with h3 | h3
        · exact h3
        · exact (h2 h3).elim
  have dn : ∀ k, t ≤ k → k < l.length - 1 → gA l k < 0 ∧ gB l k ≤ 0 := by
    intro k h1 h2
    have h3 := dn0 (k - t) (by omega)
    rw [show t + (k - t) = k by omega] at h3
    have h4 := ho k h2
    rw [tFirm_eq l (by omega), Bool.and_eq_false_iff, decide_eq_false_iff_not, decide_eq_false_iff_not] at h4
    unfold gA gB
    rcases h4 with h4 | h4
    · exact (h4 h3).elim
    · omega
  -- what is linear and changes its sign at the tip and at the foot
  have hh : ∀ k, mD l * (be l 0 * Geo.turn (cn l t) (cn l (l.length - 1)) (cn l k) + al l (l.length - 1) * Geo.turn (cn l t) (cn l 0) (cn l k)) =
      crs (be l 0 * ((cn l (l.length - 1)).1 - (cn l t).1) + al l (l.length - 1) * ((cn l 0).1 - (cn l t).1), be l 0 * ((cn l (l.length - 1)).2 - (cn l t).2) + al l (l.length - 1) * ((cn l 0).2 - (cn l t).2)) (xk l k) +
      (crs (be l 0 * ((cn l (l.length - 1)).1 - (cn l t).1) + al l (l.length - 1) * ((cn l 0).1 - (cn l t).1), be l 0 * ((cn l (l.length - 1)).2 - (cn l t).2) + al l (l.length - 1) * ((cn l 0).2 - (cn l t).2)) (mX l, mY l) -
       mD l * crs (be l 0 * ((cn l (l.length - 1)).1 - (cn l t).1) + al l (l.length - 1) * ((cn l 0).1 - (cn l t).1), be l 0 * ((cn l (l.length - 1)).2 - (cn l t).2) + al l (l.length - 1) * ((cn l 0).2 - (cn l t).2)) (cn l t)) := by
    intro k
    unfold xk
    generalize cn l (l.length - 1) = b
    generalize cn l 0 = a
    generalize cn l k = x
    generalize cn l t = c
    simp only [crs, Geo.turn]; grind
  obtain ⟨h, hFk0⟩ : ∃ h : Nat → Int, ∀ k, h k = be l 0 * Geo.turn (cn l t) (cn l (l.length - 1)) (cn l k) + al l (l.length - 1) * Geo.turn (cn l t) (cn l 0) (cn l k) := ⟨_, fun _ => rfl⟩
  have hz := affine_zero l hg _ _ h (fun k => by rw [hFk0]; exact hh k)
  have hup : ∀ k, k ≤ t → 0 ≤ be l 0 * Geo.turn (cn l t) (cn l (l.length - 1)) (cn l k) + al l (l.length - 1) * Geo.turn (cn l t) (cn l 0) (cn l k) := by
    intro k hk
    have a := T.three0 (i := k) (j := t) (k := l.length - 1) hk ht1 (by omega)
    have b := T.three0 (i := 0) (j := k) (k := t) (by omega) hk (by omega)
    rw [turn_rot] at a
    rw [turn_rot, turn_rot] at b
    exact Int.add_nonneg (Int.mul_nonneg (by omega) a) (Int.mul_nonneg (by omega) b)
  have hdn : ∀ k, t ≤ k → k < l.length → be l 0 * Geo.turn (cn l t) (cn l (l.length - 1)) (cn l k) + al l (l.length - 1) * Geo.turn (cn l t) (cn l 0) (cn l k) ≤ 0 := by
    intro k hk hkl
    have a := T.three0 (i := t) (j := k) (k := l.length - 1) hk (by omega) (by omega)
    have b := T.three0 (i := 0) (j := t) (k := k) (by omega) hk hkl
    rw [turn_swap] at a
    rw [turn_rot, turn_swap] at b
    have m1 := Int.mul_nonneg (show 0 ≤ be l 0 by omega) (show 0 ≤ - Geo.turn (cn l t) (cn l (l.length - 1)) (cn l k) by omega)
    have m2 := Int.mul_nonneg (show 0 ≤ al l (l.length - 1) by omega) (show 0 ≤ - Geo.turn (cn l t) (cn l 0) (cn l k) by omega)
    rw [Int.mul_neg] at m1 m2
    omega
  have gl : gA l (l.length - 1) = - al l (l.length - 1) ∧ gB l (l.length - 1) = be l 0 := ⟨rfl, by unfold gB; rw [m0]⟩
  have hA : be l 0 * Geo.turn (cn l t) (cn l (l.length - 1)) (cn l (l.length - 1)) + al l (l.length - 1) * Geo.turn (cn l t) (cn l 0) (cn l (l.length - 1)) = - (al l (l.length - 1) * Geo.turn (cn l t) (cn l (l.length - 1)) (cn l 0)) := by
    rw [(turn_same _ _).2.1, turn_swap (cn l t) (cn l 0)]; grind
  have hB : be l 0 * Geo.turn (cn l t) (cn l (l.length - 1)) (cn l 0) + al l (l.length - 1) * Geo.turn (cn l t) (cn l 0) (cn l 0) = be l 0 * Geo.turn (cn l t) (cn l (l.length - 1)) (cn l 0) := by
    rw [(turn_same _ _).2.1]; omega
  have h1s : 1 < l.length - 1 → t = 0 → be l 0 * Geo.turn (cn l t) (cn l (l.length - 1)) (cn l 1) + al l (l.length - 1) * Geo.turn (cn l t) (cn l 0) (cn l 1) < 0 := by
    intro h1 h2
    subst h2
    have a := T.three (i := 0) 1 (l.length - 1) (by omega) h1 (by omega)
    rw [turn_swap] at a
    rw [(turn_same _ _).1, Int.mul_zero, Int.add_zero]
    exact Int.mul_neg_of_pos_of_neg hb (by omega)
  have h1t : 1 < l.length - 1 → t = l.length - 1 → 0 < be l 0 * Geo.turn (cn l t) (cn l (l.length - 1)) (cn l 1) + al l (l.length - 1) * Geo.turn (cn l t) (cn l 0) (cn l 1) := by
    intro h1 h2
    subst h2
    have a := T.three (i := 0) 1 (l.length - 1) (by omega) h1 (by omega)
    rw [turn_rot, turn_rot] at a
    rw [(turn_same _ _).1, Int.mul_zero, Int.zero_add]
    exact Int.mul_pos ha a
  have hD0 : 0 ≤ Geo.turn (cn l t) (cn l (l.length - 1)) (cn l 0) := by
    have a := T.three0 (i := 0) (j := t) (k := l.length - 1) (by omega) ht1 (by omega)
    rw [turn_rot] at a; exact a
  have hD1 : 0 < t → t < l.length - 1 → 0 < Geo.turn (cn l t) (cn l (l.length - 1)) (cn l 0) := by
    intro h1 h2
    have a := T.three (i := 0) t (l.length - 1) h1 h2 (by omega)
    rw [turn_rot] at a; exact a
  -- the summands
  have hFk : ∀ k, be l 0 * Geo.turn (cn l t) (cn l (l.length - 1)) (cn l k) + al l (l.length - 1) * Geo.turn (cn l t) (cn l 0) (cn l k) = h k := fun k => (hFk0 k).symm
  rw [hFk] at hA hB h1s h1t
  simp only [hFk] at hup hdn
  have last : h (l.length - 1) * (2 * gA l (l.length - 1) + gB l (l.length - 1)) + h 0 * (gA l (l.length - 1) + 2 * gB l (l.length - 1)) = Geo.turn (cn l t) (cn l (l.length - 1)) (cn l 0) * (2 * ((al l (l.length - 1) - be l 0) * (al l (l.length - 1) - be l 0) + al l (l.length - 1) * be l 0)) := by
    rw [gl.1, gl.2, hA, hB]; grind
  have lastp : 0 < 2 * ((al l (l.length - 1) - be l 0) * (al l (l.length - 1) - be l 0) + al l (l.length - 1) * be l 0) := by
    have q1 := Geo.sq_nonneg (al l (l.length - 1) - be l 0)
    have q2 := Int.mul_pos ha hb
    omega
  have nn : ∀ k, k < l.length → 0 ≤ h k * (2 * gA l k + gB l k) + h ((k + 1) % l.length) * (gA l k + 2 * gB l k) := by
    intro k hk
    by_cases c1 : k = l.length - 1
    · subst c1
      rw [m0, last]
      exact Int.mul_nonneg hD0 (by omega)
    · rw [ms k (by omega)]
      rcases Nat.lt_or_ge k t with c2 | c2
      · obtain ⟨u1, u2⟩ := up k c2
        exact Int.add_nonneg (Int.mul_nonneg (hup k (by omega)) (by omega)) (Int.mul_nonneg (hup (k + 1) (by omega)) (by omega))
      · obtain ⟨u1, u2⟩ := dn k c2 (by omega)
        have m1 := Int.mul_nonneg (show 0 ≤ - h k by have := hdn k c2 hk; omega) (show 0 ≤ -(2 * gA l k + gB l k) by omega)
        have m2 := Int.mul_nonneg (show 0 ≤ - h (k + 1) by have := hdn (k + 1) (by omega) (by omega); omega) (show 0 ≤ -(gA l k + 2 * gB l k) by omega)
        rw [Int.neg_mul_neg] at m1 m2
        omega
  have nnD : ∀ k, k < l.length → 0 ≤ mD l * (mD l * (h k * (2 * gA l k + gB l k) + h ((k + 1) % l.length) * (gA l k + 2 * gB l k))) :=
    fun k hk => Int.mul_nonneg (by omega) (Int.mul_nonneg (by omega) (nn k hk))
  have pos : ∀ k, k < l.length → 0 < h k * (2 * gA l k + gB l k) + h ((k + 1) % l.length) * (gA l k + 2 * gB l k) → False := by
    intro k hk hp
    have := S_pos nnD k hk (Int.mul_pos hD (Int.mul_pos hD hp))
    omega
  by_cases c1 : t = 0
  · have g1 := h1s (by omega) c1
    obtain ⟨u1, u2⟩ := dn 1 (by omega) (by omega)
    refine pos 1 (by omega) ?_
    rw [ms 1 (by omega)]
    have m1 := Int.mul_pos (show 0 < - h 1 by omega) (show 0 < -(2 * gA l 1 + gB l 1) by omega)
    have m2 := Int.mul_nonneg (show 0 ≤ - h (1 + 1) by have := hdn (1 + 1) (by omega) (by omega); omega) (show 0 ≤ -(gA l 1 + 2 * gB l 1) by omega)
    rw [Int.neg_mul_neg] at m1 m2
    omega
  · by_cases c2 : t = l.length - 1
    · have g1 := h1t (by omega) c2
      obtain ⟨u1, u2⟩ := up 0 (by omega)
      refine pos 0 (by omega) ?_
      rw [ms 0 (by omega)]
      have m1 := Int.mul_nonneg (hup 0 (by omega)) (show 0 ≤ 2 * gA l 0 + gB l 0 by omega)
      have m2 := Int.mul_pos g1 (show 0 < gA l 0 + 2 * gB l 0 by omega)
      rw [Nat.zero_add]
      omega
    · refine pos (l.length - 1) (by omega) ?_
      rw [m0, last]
      exact Int.mul_pos (hD1 (by omega) (by omega)) lastp

theorem tFirm_rot {l : List (Int × Int)} {k : Nat} (hk : k < l.length) {i : Nat} (hi : i < l.length) : tFirm (rot k l) i = tFirm l ((i + k) % l.length) := by
  unfold tFirm
  obtain ⟨e1, e2, e3⟩ := mid_rot hk
  rw [e1, e2, e3, rot_length hk, rot_cn hk hi, rot_cn1 hk hi]
theorem two_mem {L : List Nat} {a b : Nat} (ha : a ∈ L) (hb : b ∈ L) (h : a ≠ b) : 2 ≤ L.length := by
  cases L with
  | nil => simp at ha
  | cons x r =>
    cases r with
    | nil => simp at ha hb; omega
    | cons y r => simp

/-- at least two -/
theorem Tame.two_firm {l : List (Int × Int)} (T : Tame l) : 2 ≤ (those l (tFirm l)).length := by
  have n3 := T.lo
  have hl := T.low_least l.length (Nat.le_refl _)
  have hi := lowF_lt (l := l) (by omega) l.length (Nat.le_refl _)
  have hf := T.least_firm hi (fun j hj => (hl j hj).1)
  generalize lowF l l.length = i at *
  by_cases h : ∃ k, k < l.length ∧ k ≠ i ∧ tFirm l k = true
  · obtain ⟨k, h1, h2, h3⟩ := h
    exact two_mem (List.mem_filter.2 ⟨List.mem_range.2 h1, h3⟩) (List.mem_filter.2 ⟨List.mem_range.2 hi, hf⟩) h2
  · exfalso
    have ho : ∀ k, k < l.length → k ≠ i → tFirm l k = false := by
      intro k h1 h2
      cases e : tFirm l k
      · rfl
      · exact (h ⟨k, h1, h2, e⟩).elim
    have hr : (i + 1) % l.length < l.length := Nat.mod_lt _ (by omega)
    have e1 : ∀ j, j < l.length → (j + (i + 1) % l.length) % l.length = if j + i + 1 < l.length then j + i + 1 else j + i + 1 - l.length := by
      intro j hj
      rw [Nat.add_mod_mod, ← Nat.add_assoc]
      split
      · rename_i c; exact Nat.mod_eq_of_lt c
      · rw [show j + i + 1 = (j + i + 1 - l.length) + l.length by omega, Nat.add_mod_right, Nat.mod_eq_of_lt (by omega)]; omega
    refine (tame_rot T hr).not_one ?_ ?_
    · rw [rot_length hr, tFirm_rot hr (by omega), e1 _ (by omega)]
      split
      · omega
      · rw [show l.length - 1 + i + 1 - l.length = i by omega]; exact hf
    · intro k hk
      rw [rot_length hr] at hk
      rw [tFirm_rot hr (by omega), e1 _ (by omega)]
      split
      · exact ho _ (by omega) (by omega)
      · exact ho _ (by omega) (by omega)
end Go.Proofs.Ytecncmmkghmojaa.Sh


