/- A hull turned by a right angle, or begun at another corner: plain laws. -/
import Derived.Test.YtecncmmkghmojaaXx
set_option linter.all false
namespace Go.Proofs.Ytecncmmkghmojaa.Sh
open Go Geo
set_option maxRecDepth 100000

/-! ### begun at another corner -/
def rot (k : Nat) (l : List (Int × Int)) : List (Int × Int) := l.drop k ++ l.take k
theorem rot_length {l : List (Int × Int)} {k : Nat} (hk : k < l.length) : (rot k l).length = l.length := rot_len hk
theorem tame_rot {l : List (Int × Int)} (T : Tame l) {k : Nat} (hk : k < l.length) : Tame (rot k l) := by
  refine ⟨by rw [rot_length hk]; exact T.lo, by rw [rot_length hk]; exact T.hi, fun q hq => ?_, hull_rot T.hull hk⟩
  rcases List.mem_append.1 hq with hq | hq
  · exact T.inr q (List.mem_of_mem_drop hq)
  · exact T.inr q (List.mem_of_mem_take hq)
theorem rot_cn {l : List (Int × Int)} {k : Nat} (hk : k < l.length) {i : Nat} (hi : i < l.length) : cn (rot k l) i = cn l ((i + k) % l.length) := by
  have e : (i + k) % l.length = if i + k < l.length then i + k else i + k - l.length := by
    split
    · rename_i c; exact Nat.mod_eq_of_lt c
    · rw [show i + k = (i + k - l.length) + l.length by omega, Nat.add_mod_right, Nat.mod_eq_of_lt (by omega)]; omega
  have h1 := rot_get hk i hi
  unfold cn
  rw [List.getD_eq_getElem?_getD, List.getD_eq_getElem?_getD, e]
  exact congrArg (fun x : Option (Int × Int) => x.getD (0, 0)) h1
theorem mod_mod1 (i k n : Nat) : ((i + 1) % n + k) % n = ((i + k) % n + 1) % n := by
  rw [Nat.mod_add_mod, Nat.mod_add_mod]; congr 1; omega
theorem rot_cn1 {l : List (Int × Int)} {k : Nat} (hk : k < l.length) {i : Nat} (hi : i < l.length) : cn (rot k l) ((i + 1) % l.length) = cn l (((i + k) % l.length + 1) % l.length) := by
  rw [rot_cn hk (Nat.mod_lt _ (by omega)), mod_mod1]
theorem S_shift (n k : Nat) (f : Nat → Int) : S n (fun i => f ((i + k) % n)) = S n f := by
  induction k with
  | zero => exact S_congr (fun i hi => by rw [Nat.add_zero, Nat.mod_eq_of_lt hi])
  | succ k ih =>
    rw [← ih, ← S_cyc n (fun i => f ((i + k) % n))]
    refine S_congr (fun i hi => ?_)
    rw [Nat.mod_add_mod]; congr 2; omega
theorem cz_rot {l : List (Int × Int)} {k : Nat} (hk : k < l.length) {i : Nat} (hi : i < l.length) : cz (rot k l) i = cz l ((i + k) % l.length) := by
  show crs (cn (rot k l) i) (cn (rot k l) ((i + 1) % (rot k l).length)) = crs (cn l ((i + k) % l.length)) (cn l (((i + k) % l.length + 1) % l.length))
  rw [rot_length hk, rot_cn hk hi, rot_cn1 hk hi]
theorem area_rot {l : List (Int × Int)} {k : Nat} (hk : k < l.length) : areaZ (rot k l) = areaZ l := by
  rw [area_S, area_S, rot_length hk, ← S_shift l.length k (cz l)]
  exact S_congr (fun i hi => cz_rot hk hi)
theorem midX_rot {l : List (Int × Int)} {k : Nat} (hk : k < l.length) : midX (rot k l) = midX l := by
  unfold midX
  rw [rot_length hk, ← S_shift l.length k (fX l)]
  refine S_congr (fun i hi => ?_)
  show ((cn (rot k l) i).1 + (cn (rot k l) ((i + 1) % (rot k l).length)).1) * cz (rot k l) i = ((cn l ((i + k) % l.length)).1 + (cn l (((i + k) % l.length + 1) % l.length)).1) * cz l ((i + k) % l.length)
  rw [rot_length hk, rot_cn hk hi, rot_cn1 hk hi, cz_rot hk hi]
theorem midY_rot {l : List (Int × Int)} {k : Nat} (hk : k < l.length) : midY (rot k l) = midY l := by
  unfold midY
  rw [rot_length hk, ← S_shift l.length k (fY l)]
  refine S_congr (fun i hi => ?_)
  show ((cn (rot k l) i).2 + (cn (rot k l) ((i + 1) % (rot k l).length)).2) * cz (rot k l) i = ((cn l ((i + k) % l.length)).2 + (cn l (((i + k) % l.length + 1) % l.length)).2) * cz l ((i + k) % l.length)
  rw [rot_length hk, rot_cn hk hi, rot_cn1 hk hi, cz_rot hk hi]
theorem mid_rot {l : List (Int × Int)} {k : Nat} (hk : k < l.length) : mX (rot k l) = mX l ∧ mY (rot k l) = mY l ∧ mD (rot k l) = mD l := by
  unfold mX mY mD midG
  rw [midX_rot hk, midY_rot hk, area_rot hk]
  exact ⟨rfl, rfl, rfl⟩
end Go.Proofs.Ytecncmmkghmojaa.Sh

