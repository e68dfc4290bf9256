/- A hull turned by a right angle, or begun at another corner: plain laws. -/
import Derived.Test.YtecncmmkghmojaaXx
set_option linter.all false
namespace Go.Proofs.Ytecncmmkghmojaa.Sh
open Go Geo
set_option maxRecDepth 100000

theorem cn_map (l : List (Int × Int)) (k : Nat) : cn (l.map trn) k = trn (cn l k) := by
  unfold cn
  rw [List.getD_eq_getElem?_getD, List.getD_eq_getElem?_getD, List.getElem?_map]
  cases l[k]? <;> rfl
theorem cz_trn (l : List (Int × Int)) (k : Nat) : cz (l.map trn) k = cz l k := by
  show crs (cn (l.map trn) k) (cn (l.map trn) ((k + 1) % (l.map trn).length)) = crs (cn l k) (cn l ((k + 1) % l.length))
  rw [List.length_map, cn_map, cn_map]
  simp only [crs, trn]; grind
theorem area_trn (l : List (Int × Int)) : areaZ (l.map trn) = areaZ l := by
  rw [area_S, area_S, List.length_map]
  exact S_congr (fun k _ => cz_trn l k)
theorem S_neg (n : Nat) (f : Nat → Int) : S n (fun k => - f k) = - S n f := by
  induction n with
  | zero => rfl
  | succ n ih => rw [S_succ, S_succ, ih]; omega
theorem midX_trn (l : List (Int × Int)) : midX (l.map trn) = - midY l := by
  unfold midX midY
  rw [List.length_map, ← S_neg]
  refine S_congr (fun k _ => ?_)
  show ((cn (l.map trn) k).1 + (cn (l.map trn) ((k + 1) % (l.map trn).length)).1) * cz (l.map trn) k = -(((cn l k).2 + (cn l ((k + 1) % l.length)).2) * cz l k)
  rw [List.length_map, cn_map, cn_map, cz_trn]
  simp only [trn]; grind
theorem midY_trn (l : List (Int × Int)) : midY (l.map trn) = midX l := by
  unfold midX midY
  rw [List.length_map]
  refine S_congr (fun k _ => ?_)
  show ((cn (l.map trn) k).2 + (cn (l.map trn) ((k + 1) % (l.map trn).length)).2) * cz (l.map trn) k = (((cn l k).1 + (cn l ((k + 1) % l.length)).1) * cz l k)
  rw [List.length_map, cn_map, cn_map, cz_trn]
  simp only [trn]
theorem midG_trn (l : List (Int × Int)) : midG (l.map trn) = midG l := by
  unfold midG
  rw [midX_trn, midY_trn, area_trn, gcdL_three, gcdL_three, Int.gcd_comm (-midY l), Int.gcd_neg]
theorem mX_trn (l : List (Int × Int)) : mX (l.map trn) = - mY l := by unfold mX mY; rw [midX_trn, midG_trn, Int.neg_tdiv]
theorem mY_trn (l : List (Int × Int)) : mY (l.map trn) = mX l := by unfold mX mY; rw [midY_trn, midG_trn]
theorem mD_trn (l : List (Int × Int)) : mD (l.map trn) = mD l := by unfold mD; rw [area_trn, midG_trn]
theorem ahd_trn (X Y D : Int) (p q : Int × Int) : ahd (-Y) X D (trn p) (trn q) = ahd X Y D p q := by
  simp only [ahd, dotp, sbt, trn]; grind
theorem tRest_trn (l : List (Int × Int)) (i : Nat) : tRest (l.map trn) i = tRest l i := by
  unfold tRest restB
  rw [mX_trn, mY_trn, mD_trn, cn_map, cn_map, List.length_map, ahd_trn, ahd_trn]
theorem tTip_trn (l : List (Int × Int)) (i : Nat) : tTip (l.map trn) i = tTip l i := by
  unfold tTip tipB
  rw [mX_trn, mY_trn, mD_trn, cn_map, cn_map, cn_map, List.length_map, ahd_trn, ahd_trn]
theorem offZ_trn (l : List (Int × Int)) (i : Nat) : offZ (l.map trn) i = offZ l i := by
  unfold offZ
  rw [mX_trn, mY_trn, mD_trn, cn_map, cn_map, List.length_map]
  simp only [crs, sbt, trn]; grind
theorem lenZ_trn (l : List (Int × Int)) (i : Nat) : lenZ (l.map trn) i = lenZ l i := by
  unfold lenZ
  rw [cn_map, cn_map, List.length_map]
  simp only [dotp, sbt, trn]; grind
theorem lnA_trn (l : List (Int × Int)) (i : Nat) : lnA (l.map trn) i = lnA l i := by unfold lnA; rw [offZ_trn]
theorem lnB_trn (l : List (Int × Int)) (i : Nat) : lnB (l.map trn) i = lnB l i := by unfold lnB; rw [mD_trn, lenZ_trn]
theorem lnG_trn (l : List (Int × Int)) (i : Nat) : lnG (l.map trn) i = lnG l i := by unfold lnG; rw [lnA_trn, lnB_trn]
theorem turn_trn (a b c : Int × Int) : Geo.turn (trn a) (trn b) (trn c) = Geo.turn a b c := by
  simp only [Geo.turn, trn]; grind
theorem tame_trn {l : List (Int × Int)} (T : Tame l) : Tame (l.map trn) := by
  refine ⟨by rw [List.length_map]; exact T.lo, by rw [List.length_map]; exact T.hi, fun q hq => ?_, ?_⟩
  · obtain ⟨p, hp, rfl⟩ := List.mem_map.1 hq
    exact trn_in (T.inr p hp)
  · intro i k a b c ha hb hc h1 h2
    rw [List.length_map] at hb h2
    rw [List.getElem?_map] at ha hb hc
    obtain ⟨a', ha', rfl⟩ := Option.map_eq_some_iff.1 ha
    obtain ⟨b', hb', rfl⟩ := Option.map_eq_some_iff.1 hb
    obtain ⟨c', hc', rfl⟩ := Option.map_eq_some_iff.1 hc
    rw [turn_trn]
    exact T.hull i k a' b' c' ha' hb' hc' h1 h2
theorem trn4 (l : List (Int × Int)) : (((l.map trn).map trn).map trn).map trn = l := by
  simp only [List.map_map]
  have : (trn ∘ trn ∘ trn ∘ trn) = id := by funext p; simp [trn]
  rw [this, List.map_id]

/-! ### begun at another corner -/
def rot (k : Nat) (l : List (Int × Int)) : List (Int × Int) := l.drop k ++ l.take k
theorem rot_length {l : List (Int × Int)} {k : Nat} (hk : k < l.length) : (rot k l).length = l.length := rot_len hk
theorem tame_rot {l : List (Int × Int)} (T : Tame l) {k : Nat} (hk : k < l.length) : Tame (rot k l) := by
  refine ⟨by rw [rot_length hk]; exact T.lo, by rw [rot_length hk]; exact T.hi, fun q hq => ?_, hull_rot T.hull hk⟩
  rcases List.mem_append.1 hq with hq | hq
  · exact T.inr q (List.mem_of_mem_drop hq)
  · exact T.inr q (List.mem_of_mem_take hq)
theorem rot_cn {l : List (Int × Int)} {k : Nat} (hk : k < l.length) {i : Nat} (hi : i < l.length) : cn (rot k l) i = cn l ((i + k) % l.length) := by
  have e : (i + k) % l.length = if i + k < l.length then i + k else i + k - l.length := by
    split
    · rename_i c; exact Nat.mod_eq_of_lt c
    · rw [show i + k = (i + k - l.length) + l.length by omega, Nat.add_mod_right, Nat.mod_eq_of_lt (by omega)]; omega
  have h1 := rot_get hk i hi
  unfold cn
  rw [List.getD_eq_getElem?_getD, List.getD_eq_getElem?_getD, e]
  exact congrArg (fun x : Option (Int × Int) => x.getD (0, 0)) h1
theorem mod_mod1 (i k n : Nat) : ((i + 1) % n + k) % n = ((i + k) % n + 1) % n := by
  rw [Nat.mod_add_mod, Nat.mod_add_mod]; congr 1; omega
theorem rot_cn1 {l : List (Int × Int)} {k : Nat} (hk : k < l.length) {i : Nat} (hi : i < l.length) : cn (rot k l) ((i + 1) % l.length) = cn l (((i + k) % l.length + 1) % l.length) := by
  rw [rot_cn hk (Nat.mod_lt _ (by omega)), mod_mod1]
theorem S_shift (n k : Nat) (f : Nat → Int) : S n (fun i => f ((i + k) % n)) = S n f := by
  induction k with
  | zero => exact S_congr (fun i hi => by rw [Nat.add_zero, Nat.mod_eq_of_lt hi])
  | succ k ih =>
    rw [← ih, ← S_cyc n (fun i => f ((i + k) % n))]
    refine S_congr (fun i hi => ?_)
    rw [Nat.mod_add_mod]; congr 2; omega
theorem cz_rot {l : List (Int × Int)} {k : Nat} (hk : k < l.length) {i : Nat} (hi : i < l.length) : cz (rot k l) i = cz l ((i + k) % l.length) := by
  show crs (cn (rot k l) i) (cn (rot k l) ((i + 1) % (rot k l).length)) = crs (cn l ((i + k) % l.length)) (cn l (((i + k) % l.length + 1) % l.length))
  rw [rot_length hk, rot_cn hk hi, rot_cn1 hk hi]
theorem area_rot {l : List (Int × Int)} {k : Nat} (hk : k < l.length) : areaZ (rot k l) = areaZ l := by
  rw [area_S, area_S, rot_length hk, ← S_shift l.length k (cz l)]
  exact S_congr (fun i hi => cz_rot hk hi)
theorem midX_rot {l : List (Int × Int)} {k : Nat} (hk : k < l.length) : midX (rot k l) = midX l := by
  unfold midX
  rw [rot_length hk, ← S_shift l.length k (fX l)]
  refine S_congr (fun i hi => ?_)
  show ((cn (rot k l) i).1 + (cn (rot k l) ((i + 1) % (rot k l).length)).1) * cz (rot k l) i = ((cn l ((i + k) % l.length)).1 + (cn l (((i + k) % l.length + 1) % l.length)).1) * cz l ((i + k) % l.length)
  rw [rot_length hk, rot_cn hk hi, rot_cn1 hk hi, cz_rot hk hi]
theorem midY_rot {l : List (Int × Int)} {k : Nat} (hk : k < l.length) : midY (rot k l) = midY l := by
  unfold midY
  rw [rot_length hk, ← S_shift l.length k (fY l)]
  refine S_congr (fun i hi => ?_)
  show ((cn (rot k l) i).2 + (cn (rot k l) ((i + 1) % (rot k l).length)).2) * cz (rot k l) i = ((cn l ((i + k) % l.length)).2 + (cn l (((i + k) % l.length + 1) % l.length)).2) * cz l ((i + k) % l.length)
  rw [rot_length hk, rot_cn hk hi, rot_cn1 hk hi, cz_rot hk hi]
theorem mid_rot {l : List (Int × Int)} {k : Nat} (hk : k < l.length) : mX (rot k l) = mX l ∧ mY (rot k l) = mY l ∧ mD (rot k l) = mD l := by
  unfold mX mY mD midG
  rw [midX_rot hk, midY_rot hk, area_rot hk]
  exact ⟨rfl, rfl, rfl⟩
theorem tRest_rot {l : List (Int × Int)} {k : Nat} (hk : k < l.length) {i : Nat} (hi : i < l.length) : tRest (rot k l) i = tRest l ((i + k) % l.length) := by
  unfold tRest
  obtain ⟨e1, e2, e3⟩ := mid_rot hk
  rw [e1, e2, e3, rot_length hk, rot_cn hk hi, rot_cn1 hk hi]
theorem count_S (n : Nat) (test : Nat → Bool) : (((List.range n).filter test).length : Int) = S n (fun i => if test i = true then 1 else 0) := by
  induction n with
  | zero => rfl
  | succ n ih =>
    rw [filter_succ, S_succ, List.length_append, ← ih]
    cases test n <;> simp
theorem count_rot {l : List (Int × Int)} {k : Nat} (hk : k < l.length) : (those (rot k l) (tRest (rot k l))).length = (those l (tRest l)).length := by
  have h1 := count_S (rot k l).length (tRest (rot k l))
  have h2 := count_S l.length (tRest l)
  rw [rot_length hk] at h1
  rw [← S_shift l.length k (fun i => if tRest l i = true then 1 else 0), S_congr (g := fun i => if tRest (rot k l) i = true then 1 else 0) (fun i hi => by rw [tRest_rot hk hi])] at h2
  unfold those
  rw [rot_length hk]
  omega
end Go.Proofs.Ytecncmmkghmojaa.Sh

