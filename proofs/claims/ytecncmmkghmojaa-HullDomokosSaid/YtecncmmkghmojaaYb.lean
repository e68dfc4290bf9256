/- At least two firm rests, and as many tips: plain laws. -/
import Derived.Test.YtecncmmkghmojaaYa
set_option linter.all false
namespace Go.Proofs.Ytecncmmkghmojaa.Sh
open Go Geo
set_option maxRecDepth 100000

/-- the lean falls, too, where the foot is the corner itself -/
theorem lean_falls0 {U V W : Int × Int} (ha : 0 < crs U W) (hb : dotp U W ≤ 0) (hc : 0 < crs V W) (hs : 0 < crs V U) : crs V W * crs V W * dotp U U < crs U W * crs U W * dotp V V := by
  have id1 : dotp U U * crs V W = dotp U V * crs U W + crs V U * dotp U W := by simp only [dotp, crs]; grind
  have id2 : dotp U V * dotp U V = dotp U U * dotp V V - crs V U * crs V U := by simp only [dotp, crs]; grind
  have hU : 0 < dotp U U := by
    have h1 : 0 ≤ U.1 * U.1 := Geo.sq_nonneg _
    have h2 : 0 ≤ U.2 * U.2 := Geo.sq_nonneg _
    have : dotp U U = U.1 * U.1 + U.2 * U.2 := rfl
    by_cases e : dotp U U = 0
    · have e1 : U.1 = 0 := Geo.sq_zero (by omega)
      have e2 : U.2 = 0 := Geo.sq_zero (by omega)
      simp only [crs, e1, e2] at hs
      omega
    · omega
  generalize crs U W = a at *
  generalize dotp U W = b at *
  generalize crs V W = c at *
  generalize crs V U = s at *
  generalize dotp U V = t at *
  generalize dotp U U = u at *
  generalize dotp V V = v at *
  have hsb : s * b ≤ 0 := by
    have := Int.mul_nonneg (show 0 ≤ s by omega) (show 0 ≤ -b by omega)
    rw [Int.mul_neg] at this; omega
  have huc : 0 < u * c := Int.mul_pos hU hc
  have h1 : u * c ≤ t * a := by omega
  have h2 : (u * c) * (u * c) ≤ (t * a) * (t * a) := by
    have x1 : (u * c) * (u * c) ≤ (u * c) * (t * a) := Int.mul_le_mul_of_nonneg_left h1 (by omega)
    have x2 : (u * c) * (t * a) ≤ (t * a) * (t * a) := Int.mul_le_mul_of_nonneg_right h1 (by omega)
    omega
  have h3 : (t * a) * (t * a) = (u * v - s * s) * (a * a) := by rw [← id2]; grind
  have h4 : 0 < (s * s) * (a * a) := Int.mul_pos (Int.mul_pos hs hs) (Int.mul_pos ha ha)
  have h5 : u * (c * c * u) < u * (a * a * v) := by
    have e1 : u * (c * c * u) = (u * c) * (u * c) := by grind
    have e2 : u * (a * a * v) = (u * v - s * s) * (a * a) + (s * s) * (a * a) := by grind
    omega
  exact Int.lt_of_mul_lt_mul_left h5 (by omega)

theorem falls_prev0 {X Y D : Int} {r p q : Int × Int} (o1 : 0 < crs (sbt q p) (sbt (X, Y) (D * p.1, D * p.2))) (o2 : 0 < crs (sbt p r) (sbt (X, Y) (D * r.1, D * r.2))) (ht : 0 < Geo.turn r p q) (ha : ahd X Y D p q ≤ 0) :
    crs (sbt p r) (sbt (X, Y) (D * r.1, D * r.2)) * crs (sbt p r) (sbt (X, Y) (D * r.1, D * r.2)) * dotp (sbt q p) (sbt q p) < crs (sbt q p) (sbt (X, Y) (D * p.1, D * p.2)) * crs (sbt q p) (sbt (X, Y) (D * p.1, D * p.2)) * dotp (sbt p r) (sbt p r) := by
  have e : crs (sbt p r) (sbt (X, Y) (D * r.1, D * r.2)) = crs (sbt p r) (sbt (X, Y) (D * p.1, D * p.2)) := by simp only [crs, sbt]; grind
  rw [e] at o2 ⊢
  refine lean_falls0 o1 ?_ o2 ?_
  · have : dotp (sbt q p) (sbt (X, Y) (D * p.1, D * p.2)) = ahd X Y D p q := by simp only [ahd, dotp]; grind
    omega
  · have : crs (sbt p r) (sbt q p) = Geo.turn r p q := by simp only [crs, sbt, Geo.turn]
    omega
theorem falls_next0 {X Y D : Int} {p q s : Int × Int} (o1 : 0 < crs (sbt q p) (sbt (X, Y) (D * p.1, D * p.2))) (o2 : 0 < crs (sbt s q) (sbt (X, Y) (D * q.1, D * q.2))) (ht : 0 < Geo.turn p q s) (ha : ahd X Y D q p ≤ 0) :
    crs (sbt s q) (sbt (X, Y) (D * q.1, D * q.2)) * crs (sbt s q) (sbt (X, Y) (D * q.1, D * q.2)) * dotp (sbt q p) (sbt q p) < crs (sbt q p) (sbt (X, Y) (D * p.1, D * p.2)) * crs (sbt q p) (sbt (X, Y) (D * p.1, D * p.2)) * dotp (sbt s q) (sbt s q) := by
  have k := lean_falls0 (U := ((p.2 - q.2), (p.1 - q.1))) (V := ((q.2 - s.2), (q.1 - s.1))) (W := (Y - D * q.2, X - D * q.1)) ?_ ?_ ?_ ?_
  · have e1 : crs ((q.2 - s.2), (q.1 - s.1)) (Y - D * q.2, X - D * q.1) = crs (sbt s q) (sbt (X, Y) (D * q.1, D * q.2)) := by simp only [crs, sbt]; grind
    have e2 : crs ((p.2 - q.2), (p.1 - q.1)) (Y - D * q.2, X - D * q.1) = crs (sbt q p) (sbt (X, Y) (D * p.1, D * p.2)) := by simp only [crs, sbt]; grind
    have e3 : dotp ((p.2 - q.2), (p.1 - q.1)) ((p.2 - q.2), (p.1 - q.1)) = dotp (sbt q p) (sbt q p) := by simp only [dotp, sbt]; grind
    have e4 : dotp ((q.2 - s.2), (q.1 - s.1)) ((q.2 - s.2), (q.1 - s.1)) = dotp (sbt s q) (sbt s q) := by simp only [dotp, sbt]; grind
    rw [e1, e2, e3, e4] at k
    exact k
  · have : crs ((p.2 - q.2), (p.1 - q.1)) (Y - D * q.2, X - D * q.1) = crs (sbt q p) (sbt (X, Y) (D * p.1, D * p.2)) := by simp only [crs, sbt]; grind
    omega
  · have : dotp ((p.2 - q.2), (p.1 - q.1)) (Y - D * q.2, X - D * q.1) = ahd X Y D q p := by simp only [ahd, dotp, sbt]; grind
    omega
  · have : crs ((q.2 - s.2), (q.1 - s.1)) (Y - D * q.2, X - D * q.1) = crs (sbt s q) (sbt (X, Y) (D * q.1, D * q.2)) := by simp only [crs, sbt]; grind
    omega
  · have : crs ((q.2 - s.2), (q.1 - s.1)) ((p.2 - q.2), (p.1 - q.1)) = Geo.turn p q s := by simp only [crs, Geo.turn]; grind
    omega

/-- how far ahead: from corner k to the next one, and to the one before -/
def al (l : List (Int × Int)) (k : Nat) : Int := ahd (mX l) (mY l) (mD l) (cn l k) (cn l ((k + 1) % l.length))
def be (l : List (Int × Int)) (k : Nat) : Int := ahd (mX l) (mY l) (mD l) (cn l k) (cn l ((k + l.length - 1) % l.length))
theorem succ_prev {n i : Nat} (hi : i < n) : ((i + 1) % n + n - 1) % n = i := by
  rw [mod_succ hi]
  split
  · rw [show i + 1 + n - 1 = i + n by omega, Nat.add_mod_right, Nat.mod_eq_of_lt hi]
  · rw [show 0 + n - 1 = i by omega, Nat.mod_eq_of_lt hi]
theorem be_succ (l : List (Int × Int)) {k : Nat} (hk : k < l.length) : be l ((k + 1) % l.length) = ahd (mX l) (mY l) (mD l) (cn l ((k + 1) % l.length)) (cn l k) := by
  unfold be; rw [succ_prev hk]
theorem tFirm_eq (l : List (Int × Int)) {k : Nat} (hk : k < l.length) : tFirm l k = (decide (0 < al l k) && decide (0 < be l ((k + 1) % l.length))) := by
  rw [be_succ l hk]; rfl
theorem tTip_eq (l : List (Int × Int)) (k : Nat) : tTip l k = (decide (0 < al l k) && decide (0 < be l k)) := rfl

section
variable {l : List (Int × Int)} (T : Tame l)
include T
/-- at each side one of its ends lies behind the foot -/
theorem Tame.al_be {k : Nat} (hk : k < l.length) : al l k + be l ((k + 1) % l.length) = mD l * lenZ l k := by
  rw [be_succ l hk]
  unfold al lenZ ahd
  simp only [dotp, sbt]; grind
theorem Tame.side_or {k : Nat} (hk : k < l.length) : 0 < al l k ∨ 0 < be l ((k + 1) % l.length) := by
  have h1 := T.al_be hk
  have h2 := Int.mul_pos (mD_pos T) (lenZ_pos T hk)
  omega
/-- at each corner the middle lies within a right angle of one of its sides -/
theorem Tame.corner_or {k : Nat} (hk : k < l.length) : 0 < al l k ∨ 0 < be l k := by
  have hj : (k + l.length - 1) % l.length < l.length := Nat.mod_lt _ (by omega)
  have o1 := T.off_pos hk
  have o2 := T.off_pos hj
  have ht := T.corner hk
  unfold offZ at o1 o2
  rw [prev_succ hk] at o2
  unfold al be
  generalize (k + l.length - 1) % l.length = j at *
  generalize (k + 1) % l.length = i at *
  generalize cn l k = p at *
  generalize cn l i = q at *
  generalize cn l j = r at *
  generalize mX l = X at *
  generalize mY l = Y at *
  generalize mD l = D at *
  have e2 : crs (sbt p r) (sbt (X, Y) (D * r.1, D * r.2)) = crs (sbt (X, Y) (D * p.1, D * p.2)) (sbt r p) := by simp only [crs, sbt]; grind
  have e3 : Geo.turn r p q = crs (sbt q p) (sbt r p) := by simp only [crs, sbt, Geo.turn]; grind
  rw [e2] at o2
  rw [e3] at ht
  have e4 : ahd X Y D p q = dotp (sbt (X, Y) (D * p.1, D * p.2)) (sbt q p) := rfl
  have e5 : ahd X Y D p r = dotp (sbt (X, Y) (D * p.1, D * p.2)) (sbt r p) := rfl
  rw [e4, e5]
  generalize sbt (X, Y) (D * p.1, D * p.2) = W at *
  generalize sbt q p = U at *
  generalize sbt r p = V at *
  have id : crs U V * dotp W W = crs W V * dotp W U + crs U W * dotp W V := by simp only [crs, dotp]; grind
  have hW : 0 ≤ dotp W W := by
    have h1 : 0 ≤ W.1 * W.1 := Geo.sq_nonneg _
    have h2 : 0 ≤ W.2 * W.2 := Geo.sq_nonneg _
    have : dotp W W = W.1 * W.1 + W.2 * W.2 := rfl
    omega
  by_cases c1 : 0 < dotp W U
  · exact .inl c1
  · by_cases c2 : 0 < dotp W V
    · exact .inr c2
    · exfalso
      have m1 := Int.mul_nonneg (show 0 ≤ crs W V by omega) (show 0 ≤ - dotp W U by omega)
      have m2 := Int.mul_nonneg (show 0 ≤ crs U W by omega) (show 0 ≤ - dotp W V by omega)
      rw [Int.mul_neg] at m1 m2
      have m3 := Int.mul_nonneg (show 0 ≤ crs U V by omega) hW
      have m4 : crs U V * dotp W W = 0 := by omega
      have m5 : dotp W W = 0 := by
        rcases Int.mul_eq_zero.1 m4 with z | z
        · omega
        · exact z
      have w1 : W.1 = 0 := Geo.sq_zero (by have h1 : 0 ≤ W.1 * W.1 := Geo.sq_nonneg _; have h2 : 0 ≤ W.2 * W.2 := Geo.sq_nonneg _; have : dotp W W = W.1 * W.1 + W.2 * W.2 := rfl; omega)
      have w2 : W.2 = 0 := Geo.sq_zero (by have h1 : 0 ≤ W.1 * W.1 := Geo.sq_nonneg _; have h2 : 0 ≤ W.2 * W.2 := Geo.sq_nonneg _; have : dotp W W = W.1 * W.1 + W.2 * W.2 := rfl; omega)
      simp only [crs, w1, w2] at o1
      omega

/-- as many tips as firm rests -/
theorem Tame.tips_firm : (those l (tTip l)).length = (those l (tFirm l)).length := by
  have h1 := count_S l.length (tTip l)
  have h2 := count_S l.length (tFirm l)
  have f1 : S l.length (fun k => if tTip l k = true then 1 else 0) = S l.length (fun k => (if 0 < al l k then 1 else 0) + ((if 0 < be l k then 1 else 0) - 1)) := by
    refine S_congr (fun k hk => ?_)
    rw [tTip_eq]
    have := T.corner_or hk
    by_cases c1 : 0 < al l k <;> by_cases c2 : 0 < be l k <;> simp [c1, c2] <;> omega
  have f2 : S l.length (fun k => if tFirm l k = true then 1 else 0) = S l.length (fun k => (if 0 < al l k then 1 else 0) + ((if 0 < be l ((k + 1) % l.length) then 1 else 0) - 1)) := by
    refine S_congr (fun k hk => ?_)
    rw [tFirm_eq l hk]
    have := T.side_or hk
    by_cases c1 : 0 < al l k <;> by_cases c2 : 0 < be l ((k + 1) % l.length) <;> simp [c1, c2] <;> omega
  have f3 := S_cyc l.length (fun k => (if 0 < be l k then (1 : Int) else 0) - 1)
  rw [f1, S_add] at h1
  rw [f2, S_add, f3] at h2
  unfold those
  omega

/-- the side with the least lean is a firm rest -/
theorem Tame.least_firm {i : Nat} (hi : i < l.length) (hm : ∀ j, j < l.length → ¬ lnLt l j i) : tFirm l i = true := by
  have h0 : 0 < l.length := by omega
  have o1 := T.off_pos hi
  by_cases c1 : 0 < al l i
  · by_cases c2 : 0 < be l ((i + 1) % l.length)
    · rw [tFirm_eq l hi, decide_eq_true c1, decide_eq_true c2]; rfl
    · exfalso
      rw [be_succ l hi] at c2
      have hj : (i + 1) % l.length < l.length := Nat.mod_lt _ h0
      have o2 := T.off_pos hj
      have tc := T.corner hj
      rw [succ_prev hi] at tc
      refine hm _ hj ?_
      unfold lnLt
      unfold offZ lenZ at *
      exact falls_next0 o1 o2 tc (by omega)
  · exfalso
    have hj : (i + l.length - 1) % l.length < l.length := Nat.mod_lt _ h0
    have o2 := T.off_pos hj
    have tc := T.corner hi
    refine hm _ hj ?_
    unfold lnLt
    unfold al at c1
    unfold offZ lenZ at *
    rw [prev_succ hi] at *
    exact falls_prev0 o1 o2 tc (by omega)
/-- Lowest is the least, and the first of these -/
theorem Tame.low_least : ∀ k, k ≤ l.length → ∀ j, j < k → (¬ lnLt l j (lowF l k)) ∧ (j < lowF l k → lnLt l (lowF l k) j)
  | 0, _, j, hj => by omega
  | k + 1, hk, j, hj => by
    have ih := Tame.low_least k (by omega)
    by_cases hz : k = 0
    · subst hz
      have : j = 0 := by omega
      subst this
      rw [lowF_one]
      exact ⟨lnLt_irr l 0, fun h => by omega⟩
    · have hb := lowF_lt (l := l) (by omega) k (by omega)
      by_cases hc : lnLt l k (lowF l k)
      · rw [lowF_pos hz hc]
        rcases Nat.lt_or_ge j k with hjk | hjk
        · have h1 := (ih j hjk).1
          have hlt : lnLt l k j := by
            -- k is less than the least of the first, which is at most j
            unfold lnLt at h1 hc ⊢
            have hx := lenZ_pos T (show k < l.length by omega)
            have hy := lenZ_pos T hb
            have hz2 := lenZ_pos T (show j < l.length by omega)
            have e1 : offZ l k * offZ l k * lenZ l (lowF l k) * lenZ l j < offZ l (lowF l k) * offZ l (lowF l k) * lenZ l k * lenZ l j := Int.mul_lt_mul_of_pos_right hc hz2
            have e2 : offZ l (lowF l k) * offZ l (lowF l k) * lenZ l j * lenZ l k ≤ offZ l j * offZ l j * lenZ l (lowF l k) * lenZ l k := Int.mul_le_mul_of_nonneg_right (by omega) (by omega)
            have e3 : lenZ l (lowF l k) * (offZ l k * offZ l k * lenZ l j) < lenZ l (lowF l k) * (offZ l j * offZ l j * lenZ l k) := by
              have q1 : lenZ l (lowF l k) * (offZ l k * offZ l k * lenZ l j) = offZ l k * offZ l k * lenZ l (lowF l k) * lenZ l j := by grind
              have q2 : lenZ l (lowF l k) * (offZ l j * offZ l j * lenZ l k) = offZ l j * offZ l j * lenZ l (lowF l k) * lenZ l k := by grind
              have q3 : offZ l (lowF l k) * offZ l (lowF l k) * lenZ l k * lenZ l j = offZ l (lowF l k) * offZ l (lowF l k) * lenZ l j * lenZ l k := by grind
              omega
            exact Int.lt_of_mul_lt_mul_left e3 (by omega)
          refine ⟨fun h => ?_, fun _ => hlt⟩
          exact lnLt_irr l j (lnLt_trans T (by omega) (by omega) (by omega) h hlt)
        · have : j = k := by omega
          subst this
          exact ⟨lnLt_irr l j, fun h => by omega⟩
      · rw [lowF_neg hz hc]
        rcases Nat.lt_or_ge j k with hjk | hjk
        · exact ih j hjk
        · have : j = k := by omega
          subst this
          refine ⟨hc, fun h => ?_⟩
          have hlow : ∀ m, m ≤ l.length → m ≠ 0 → lowF l m < m := by
            intro m
            induction m with
            | zero => intro _ h; exact (h rfl).elim
            | succ m ihm =>
              intro hm _
              by_cases z : m = 0
              · subst z; rw [lowF_one]; omega
              · by_cases c : lnLt l m (lowF l m)
                · rw [lowF_pos z c]; omega
                · rw [lowF_neg z c]; have := ihm (by omega) z; omega
          have := hlow j (by omega) hz
          omega
end
end Go.Proofs.Ytecncmmkghmojaa.Sh

