/- Sums of two squares: plain laws. -/
import Derived.Test.YtdmfhdnpakgkpaaDoorGb
set_option linter.all false
namespace Go.Proofs.YtdmfhdnpakgkpaaDoor.Sh
open Go
set_option maxRecDepth 100000

/-- the sum of two squares with a as its first number, if there is one -/
def sqAt (n a : Nat) : List (Int × Int) := match (List.range (n + 1)).find? (fun b => a * a + b * b == n) with
  | some b => [((a : Int), (b : Int))]
  | none => []
/-- those with a first number less than k -/
def sqL (n k : Nat) : List (Int × Int) := (List.range k).flatMap (sqAt n)
theorem sqL_succ (n k : Nat) : sqL n (k + 1) = sqL n k ++ sqAt n k := by
  unfold sqL
  rw [List.range_succ, List.flatMap_append]
  simp
theorem sq_mono {b c : Nat} (h : b < c) : b * b < c * c := Nat.mul_self_lt_mul_self h
theorem sq_mono' {b c : Nat} (h : b ≤ c) : b * b ≤ c * c := Nat.mul_self_le_mul_self h
theorem sq_self (b : Nat) : b ≤ b * b := Nat.le_mul_self b
theorem sqAt_yes {n a b : Nat} (h : a * a + b * b = n) : sqAt n a = [((a : Int), (b : Int))] := by
  unfold sqAt
  have hb := sq_self b
  have : (List.range (n + 1)).find? (fun b => a * a + b * b == n) = some b := by
    rw [List.find?_range_eq_some]
    refine ⟨by simpa using h, by simp; omega, fun j hj => ?_⟩
    have := sq_mono hj
    simp; omega
  rw [this]
theorem sqAt_no {n a : Nat} (h : ∀ b, a * a + b * b ≠ n) : sqAt n a = [] := by
  unfold sqAt
  have : (List.range (n + 1)).find? (fun b => a * a + b * b == n) = none := by
    rw [List.find?_eq_none]
    intro x _
    simpa using h x
  rw [this]
theorem sqAt_len (n a : Nat) : (sqAt n a).length ≤ 1 := by
  unfold sqAt; split <;> simp
theorem sqL_len (n : Nat) : ∀ k, (sqL n k).length ≤ k
  | 0 => by simp [sqL]
  | k + 1 => by rw [sqL_succ, List.length_append]; have := sqL_len n k; have := sqAt_len n k; omega
/-- the program's second number has come down far enough -/
theorem down_no {n a b : Nat} (ha : a * a ≤ n) (hup : ∀ c, b < c → n < a * a + c * c) (hle : b = 0 ∨ a * a + b * b ≤ n) (hne : a * a + b * b ≠ n) : ∀ c, a * a + c * c ≠ n := by
  intro c hc
  by_cases h : b < c
  · have := hup c h; omega
  · have h1 := sq_mono' (show c ≤ b by omega)
    rcases hle with rfl | h2
    · have : c = 0 := by omega
      subst this
      exact hne hc
    · omega
/-- what each sum counts for -/
def many (p : Int × Int) : Int := if p.2 = 0 then 1 else if p.1 = 0 ∨ p.1 = p.2 then 4 else 8
def cnt : List (Int × Int) → Int
  | [] => 0
  | p :: r => many p + cnt r
theorem cnt_snoc (p : Int × Int) : ∀ l, cnt (l ++ [p]) = cnt l + many p
  | [] => by simp [cnt]
  | q :: r => by simp only [List.cons_append, cnt, cnt_snoc p r]; omega
theorem many_le (p : Int × Int) : 1 ≤ many p ∧ many p ≤ 8 := by unfold many; split; omega; split <;> omega
theorem cnt_le : ∀ l, 0 ≤ cnt l ∧ cnt l ≤ 8 * l.length
  | [] => by simp [cnt]
  | q :: r => by have := cnt_le r; have := many_le q; simp only [cnt, List.length_cons]; omega
theorem cnt_take {l : List (Int × Int)} {i : Nat} (h : i < l.length) : cnt (l.take (i + 1)) = cnt (l.take i) + many l[i] := by
  rw [List.take_add_one, List.getElem?_eq_getElem h]; exact cnt_snoc _ _
end Go.Proofs.YtdmfhdnpakgkpaaDoor.Sh

