/- A hull has at least two firm rests. -/
import Derived.Test.YtecncmmkghmojaaYc
set_option linter.all false
namespace Go.Proofs.Ytecncmmkghmojaa.Sh
open Go Geo
set_option maxRecDepth 100000

theorem first_pos (f : Nat → Int) : ∀ m, 0 < f m → ∃ j, j ≤ m ∧ 0 < f j ∧ ∀ k, k < j → ¬ 0 < f k := by
  intro m
  induction m using Nat.strongRecOn with
  | _ m ih =>
    intro hm
    by_cases h : ∃ k, k < m ∧ 0 < f k
    · obtain ⟨k, h1, h2⟩ := h
      obtain ⟨j, h3, h4, h5⟩ := ih k h1 h2
      exact ⟨j, by omega, h4, h5⟩
    · exact ⟨m, Nat.le_refl _, hm, fun k hk hf => h ⟨k, hk, hf⟩⟩

theorem Tame.three0 {l : List (Int × Int)} (T : Tame l) {i j k : Nat} (h1 : i ≤ j) (h2 : j ≤ k) (hk : k < l.length) : 0 ≤ Geo.turn (cn l i) (cn l j) (cn l k) := by
  by_cases e1 : i = j
  · subst e1; rw [(turn_same _ _).1]; exact Int.le_refl _
  · by_cases e2 : j = k
    · subst e2; rw [(turn_same _ _).2.1]; exact Int.le_refl _
    · exact Int.le_of_lt (T.three j k (by omega) (by omega) hk)

/-- not just one firm rest, the last side -/
theorem Tame.not_one {l : List (Int × Int)} (T : Tame l) (hf : tFirm l (l.length - 1) = true) (ho : ∀ k, k < l.length - 1 → tFirm l k = false) : False := by
  have n3 := T.lo
  have hg := midG_pos T
  have hD := mD_pos T
  have m0 : (l.length - 1 + 1) % l.length = 0 := by rw [show l.length - 1 + 1 = l.length by omega, Nat.mod_self]
  rw [tFirm_eq l (by omega), m0, Bool.and_eq_true, decide_eq_true_eq, decide_eq_true_eq] at hf
  obtain ⟨ha, hb⟩ := hf
  obtain ⟨t, ht1, ht2, ht3⟩ := first_pos (al l) (l.length - 1) ha
  have ms : ∀ k, k < l.length - 1 → (k + 1) % l.length = k + 1 := fun k hk => Nat.mod_eq_of_lt (by omega)
  -- rising sides
  have up : ∀ k, k < t → 0 ≤ gA l k ∧ 0 < gB l k := by
    intro k hk
    have h1 := ht3 k hk
    have h2 := T.al_be (k := k) (by omega)
    have h3 := Int.mul_pos hD (lenZ_pos T (show k < l.length by omega))
    unfold gA gB
    omega
  -- falling sides
  have dn0 : ∀ d, t + d < l.length → 0 < al l (t + d) := by
    intro d
    induction d with
    | zero => intro _; exact ht2
    | succ d ih =>
      intro hd
      have h1 := ih (by omega)
      have h2 := ho (t + d) (by omega)
      rw [tFirm_eq l (by omega), Bool.and_eq_false_iff, decide_eq_false_iff_not, decide_eq_false_iff_not, ms _ (by omega)] at h2
      have h3 := T.corner_or (k := t + d + 1) (by omega)
      rcases h2 with h2 | h2
      · exact (h2 h1).elim
      · rcases h3 with h3 | h3
        · exact h3
        · exact (h2 h3).elim
  have dn : ∀ k, t ≤ k → k < l.length - 1 → gA l k < 0 ∧ gB l k ≤ 0 := by
    intro k h1 h2
    have h3 := dn0 (k - t) (by omega)
    rw [show t + (k - t) = k by omega] at h3
    have h4 := ho k h2
    rw [tFirm_eq l (by omega), Bool.and_eq_false_iff, decide_eq_false_iff_not, decide_eq_false_iff_not] at h4
    unfold gA gB
    rcases h4 with h4 | h4
    · exact (h4 h3).elim
    · omega
  -- what is linear and changes its sign at the tip and at the foot
  have hh : ∀ k, mD l * (be l 0 * Geo.turn (cn l t) (cn l (l.length - 1)) (cn l k) + al l (l.length - 1) * Geo.turn (cn l t) (cn l 0) (cn l k)) =
      crs (be l 0 * ((cn l (l.length - 1)).1 - (cn l t).1) + al l (l.length - 1) * ((cn l 0).1 - (cn l t).1), be l 0 * ((cn l (l.length - 1)).2 - (cn l t).2) + al l (l.length - 1) * ((cn l 0).2 - (cn l t).2)) (xk l k) +
      (crs (be l 0 * ((cn l (l.length - 1)).1 - (cn l t).1) + al l (l.length - 1) * ((cn l 0).1 - (cn l t).1), be l 0 * ((cn l (l.length - 1)).2 - (cn l t).2) + al l (l.length - 1) * ((cn l 0).2 - (cn l t).2)) (mX l, mY l) -
       mD l * crs (be l 0 * ((cn l (l.length - 1)).1 - (cn l t).1) + al l (l.length - 1) * ((cn l 0).1 - (cn l t).1), be l 0 * ((cn l (l.length - 1)).2 - (cn l t).2) + al l (l.length - 1) * ((cn l 0).2 - (cn l t).2)) (cn l t)) := by
    intro k
    unfold xk
    generalize cn l (l.length - 1) = b
    generalize cn l 0 = a
    generalize cn l k = x
    generalize cn l t = c
    simp only [crs, Geo.turn]; grind
  obtain ⟨h, hFk0⟩ : ∃ h : Nat → Int, ∀ k, h k = be l 0 * Geo.turn (cn l t) (cn l (l.length - 1)) (cn l k) + al l (l.length - 1) * Geo.turn (cn l t) (cn l 0) (cn l k) := ⟨_, fun _ => rfl⟩
  have hz := affine_zero l hg _ _ h (fun k => by rw [hFk0]; exact hh k)
  have hup : ∀ k, k ≤ t → 0 ≤ be l 0 * Geo.turn (cn l t) (cn l (l.length - 1)) (cn l k) + al l (l.length - 1) * Geo.turn (cn l t) (cn l 0) (cn l k) := by
    intro k hk
    have a := T.three0 (i := k) (j := t) (k := l.length - 1) hk ht1 (by omega)
    have b := T.three0 (i := 0) (j := k) (k := t) (by omega) hk (by omega)
    rw [turn_rot] at a
    rw [turn_rot, turn_rot] at b
    exact Int.add_nonneg (Int.mul_nonneg (by omega) a) (Int.mul_nonneg (by omega) b)
  have hdn : ∀ k, t ≤ k → k < l.length → be l 0 * Geo.turn (cn l t) (cn l (l.length - 1)) (cn l k) + al l (l.length - 1) * Geo.turn (cn l t) (cn l 0) (cn l k) ≤ 0 := by
    intro k hk hkl
    have a := T.three0 (i := t) (j := k) (k := l.length - 1) hk (by omega) (by omega)
    have b := T.three0 (i := 0) (j := t) (k := k) (by omega) hk hkl
    rw [turn_swap] at a
    rw [turn_rot, turn_swap] at b
    have m1 := Int.mul_nonneg (show 0 ≤ be l 0 by omega) (show 0 ≤ - Geo.turn (cn l t) (cn l (l.length - 1)) (cn l k) by omega)
    have m2 := Int.mul_nonneg (show 0 ≤ al l (l.length - 1) by omega) (show 0 ≤ - Geo.turn (cn l t) (cn l 0) (cn l k) by omega)
    rw [Int.mul_neg] at m1 m2
    omega
  have gl : gA l (l.length - 1) = - al l (l.length - 1) ∧ gB l (l.length - 1) = be l 0 := ⟨rfl, by unfold gB; rw [m0]⟩
  have hA : be l 0 * Geo.turn (cn l t) (cn l (l.length - 1)) (cn l (l.length - 1)) + al l (l.length - 1) * Geo.turn (cn l t) (cn l 0) (cn l (l.length - 1)) = - (al l (l.length - 1) * Geo.turn (cn l t) (cn l (l.length - 1)) (cn l 0)) := by
    rw [(turn_same _ _).2.1, turn_swap (cn l t) (cn l 0)]; grind
  have hB : be l 0 * Geo.turn (cn l t) (cn l (l.length - 1)) (cn l 0) + al l (l.length - 1) * Geo.turn (cn l t) (cn l 0) (cn l 0) = be l 0 * Geo.turn (cn l t) (cn l (l.length - 1)) (cn l 0) := by
    rw [(turn_same _ _).2.1]; omega
  have h1s : 1 < l.length - 1 → t = 0 → be l 0 * Geo.turn (cn l t) (cn l (l.length - 1)) (cn l 1) + al l (l.length - 1) * Geo.turn (cn l t) (cn l 0) (cn l 1) < 0 := by
    intro h1 h2
    subst h2
    have a := T.three (i := 0) 1 (l.length - 1) (by omega) h1 (by omega)
    rw [turn_swap] at a
    rw [(turn_same _ _).1, Int.mul_zero, Int.add_zero]
    exact Int.mul_neg_of_pos_of_neg hb (by omega)
  have h1t : 1 < l.length - 1 → t = l.length - 1 → 0 < be l 0 * Geo.turn (cn l t) (cn l (l.length - 1)) (cn l 1) + al l (l.length - 1) * Geo.turn (cn l t) (cn l 0) (cn l 1) := by
    intro h1 h2
    subst h2
    have a := T.three (i := 0) 1 (l.length - 1) (by omega) h1 (by omega)
    rw [turn_rot, turn_rot] at a
    rw [(turn_same _ _).1, Int.mul_zero, Int.zero_add]
    exact Int.mul_pos ha a
  have hD0 : 0 ≤ Geo.turn (cn l t) (cn l (l.length - 1)) (cn l 0) := by
    have a := T.three0 (i := 0) (j := t) (k := l.length - 1) (by omega) ht1 (by omega)
    rw [turn_rot] at a; exact a
  have hD1 : 0 < t → t < l.length - 1 → 0 < Geo.turn (cn l t) (cn l (l.length - 1)) (cn l 0) := by
    intro h1 h2
    have a := T.three (i := 0) t (l.length - 1) h1 h2 (by omega)
    rw [turn_rot] at a; exact a
  -- the summands
  have hFk : ∀ k, be l 0 * Geo.turn (cn l t) (cn l (l.length - 1)) (cn l k) + al l (l.length - 1) * Geo.turn (cn l t) (cn l 0) (cn l k) = h k := fun k => (hFk0 k).symm
  rw [hFk] at hA hB h1s h1t
  simp only [hFk] at hup hdn
  have last : h (l.length - 1) * (2 * gA l (l.length - 1) + gB l (l.length - 1)) + h 0 * (gA l (l.length - 1) + 2 * gB l (l.length - 1)) = Geo.turn (cn l t) (cn l (l.length - 1)) (cn l 0) * (2 * ((al l (l.length - 1) - be l 0) * (al l (l.length - 1) - be l 0) + al l (l.length - 1) * be l 0)) := by
    rw [gl.1, gl.2, hA, hB]; grind
  have lastp : 0 < 2 * ((al l (l.length - 1) - be l 0) * (al l (l.length - 1) - be l 0) + al l (l.length - 1) * be l 0) := by
    have q1 := Geo.sq_nonneg (al l (l.length - 1) - be l 0)
    have q2 := Int.mul_pos ha hb
    omega
  have nn : ∀ k, k < l.length → 0 ≤ h k * (2 * gA l k + gB l k) + h ((k + 1) % l.length) * (gA l k + 2 * gB l k) := by
    intro k hk
    by_cases c1 : k = l.length - 1
    · subst c1
      rw [m0, last]
      exact Int.mul_nonneg hD0 (by omega)
    · rw [ms k (by omega)]
      rcases Nat.lt_or_ge k t with c2 | c2
      · obtain ⟨u1, u2⟩ := up k c2
        exact Int.add_nonneg (Int.mul_nonneg (hup k (by omega)) (by omega)) (Int.mul_nonneg (hup (k + 1) (by omega)) (by omega))
      · obtain ⟨u1, u2⟩ := dn k c2 (by omega)
        have m1 := Int.mul_nonneg (show 0 ≤ - h k by have := hdn k c2 hk; omega) (show 0 ≤ -(2 * gA l k + gB l k) by omega)
        have m2 := Int.mul_nonneg (show 0 ≤ - h (k + 1) by have := hdn (k + 1) (by omega) (by omega); omega) (show 0 ≤ -(gA l k + 2 * gB l k) by omega)
        rw [Int.neg_mul_neg] at m1 m2
        omega
  have nnD : ∀ k, k < l.length → 0 ≤ mD l * (mD l * (h k * (2 * gA l k + gB l k) + h ((k + 1) % l.length) * (gA l k + 2 * gB l k))) :=
    fun k hk => Int.mul_nonneg (by omega) (Int.mul_nonneg (by omega) (nn k hk))
  have pos : ∀ k, k < l.length → 0 < h k * (2 * gA l k + gB l k) + h ((k + 1) % l.length) * (gA l k + 2 * gB l k) → False := by
    intro k hk hp
    have := S_pos nnD k hk (Int.mul_pos hD (Int.mul_pos hD hp))
    omega
  by_cases c1 : t = 0
  · have g1 := h1s (by omega) c1
    obtain ⟨u1, u2⟩ := dn 1 (by omega) (by omega)
    refine pos 1 (by omega) ?_
    rw [ms 1 (by omega)]
    have m1 := Int.mul_pos (show 0 < - h 1 by omega) (show 0 < -(2 * gA l 1 + gB l 1) by omega)
    have m2 := Int.mul_nonneg (show 0 ≤ - h (1 + 1) by have := hdn (1 + 1) (by omega) (by omega); omega) (show 0 ≤ -(gA l 1 + 2 * gB l 1) by omega)
    rw [Int.neg_mul_neg] at m1 m2
    omega
  · by_cases c2 : t = l.length - 1
    · have g1 := h1t (by omega) c2
      obtain ⟨u1, u2⟩ := up 0 (by omega)
      refine pos 0 (by omega) ?_
      rw [ms 0 (by omega)]
      have m1 := Int.mul_nonneg (hup 0 (by omega)) (show 0 ≤ 2 * gA l 0 + gB l 0 by omega)
      have m2 := Int.mul_pos g1 (show 0 < gA l 0 + 2 * gB l 0 by omega)
      rw [Nat.zero_add]
      omega
    · refine pos (l.length - 1) (by omega) ?_
      rw [m0, last]
      exact Int.mul_pos (hD1 (by omega) (by omega)) lastp

theorem tFirm_rot {l : List (Int × Int)} {k : Nat} (hk : k < l.length) {i : Nat} (hi : i < l.length) : tFirm (rot k l) i = tFirm l ((i + k) % l.length) := by
  unfold tFirm
  obtain ⟨e1, e2, e3⟩ := mid_rot hk
  rw [e1, e2, e3, rot_length hk, rot_cn hk hi, rot_cn1 hk hi]
theorem two_mem {L : List Nat} {a b : Nat} (ha : a ∈ L) (hb : b ∈ L) (h : a ≠ b) : 2 ≤ L.length := by
  cases L with
  | nil => simp at ha
  | cons x r =>
    cases r with
    | nil => simp at ha hb; omega
    | cons y r => simp

/-- at least two -/
theorem Tame.two_firm {l : List (Int × Int)} (T : Tame l) : 2 ≤ (those l (tFirm l)).length := by
  have n3 := T.lo
  have hl := T.low_least l.length (Nat.le_refl _)
  have hi := lowF_lt (l := l) (by omega) l.length (Nat.le_refl _)
  have hf := T.least_firm hi (fun j hj => (hl j hj).1)
  generalize lowF l l.length = i at *
  by_cases h : ∃ k, k < l.length ∧ k ≠ i ∧ tFirm l k = true
  · obtain ⟨k, h1, h2, h3⟩ := h
    exact two_mem (List.mem_filter.2 ⟨List.mem_range.2 h1, h3⟩) (List.mem_filter.2 ⟨List.mem_range.2 hi, hf⟩) h2
  · exfalso
    have ho : ∀ k, k < l.length → k ≠ i → tFirm l k = false := by
      intro k h1 h2
      cases e : tFirm l k
      · rfl
      · exact (h ⟨k, h1, h2, e⟩).elim
    have hr : (i + 1) % l.length < l.length := Nat.mod_lt _ (by omega)
    have e1 : ∀ j, j < l.length → (j + (i + 1) % l.length) % l.length = if j + i + 1 < l.length then j + i + 1 else j + i + 1 - l.length := by
      intro j hj
      rw [Nat.add_mod_mod, ← Nat.add_assoc]
      split
      · rename_i c; exact Nat.mod_eq_of_lt c
      · rw [show j + i + 1 = (j + i + 1 - l.length) + l.length by omega, Nat.add_mod_right, Nat.mod_eq_of_lt (by omega)]; omega
    refine (tame_rot T hr).not_one ?_ ?_
    · rw [rot_length hr, tFirm_rot hr (by omega), e1 _ (by omega)]
      split
      · omega
      · rw [show l.length - 1 + i + 1 - l.length = i by omega]; exact hf
    · intro k hk
      rw [rot_length hr] at hk
      rw [tFirm_rot hr (by omega), e1 _ (by omega)]
      split
      · exact ho _ (by omega) (by omega)
      · exact ho _ (by omega) (by omega)
end Go.Proofs.Ytecncmmkghmojaa.Sh

