/- Numbers of the chapter: their norms, products, quotients, and whether they are in range. -/
import Derived.Test.YtdmfhdnpakgkpaaDoorGi
import Derived.Test.YtdmfhdnpakgkpaaDoorShZw
set_option linter.all false
namespace Go.Proofs.YtdmfhdnpakgkpaaDoor.Sh
open Go
set_option maxRecDepth 100000

/-- both parts of a number are within a bound -/
def Bd (A : Int) (p : Int × Int) : Prop := -A ≤ p.1 ∧ p.1 ≤ A ∧ -A ≤ p.2 ∧ p.2 ≤ A
instance (A : Int) (p : Int × Int) : Decidable (Bd A p) := by unfold Bd; exact inferInstance
theorem Bd.mono {A B : Int} {p : Int × Int} (h : Bd A p) (hab : A ≤ B) : Bd B p := by unfold Bd at *; omega
/-- products of bounded numbers -/
theorem mul_bd {a c A C : Int} (h1 : -A ≤ a) (h2 : a ≤ A) (h3 : -C ≤ c) (h4 : c ≤ C) : -(A * C) ≤ a * c ∧ a * c ≤ A * C := by
  have hA : 0 ≤ A := by omega
  have hC : 0 ≤ C := by omega
  have e1 : a.natAbs ≤ A.toNat := by omega
  have e2 : c.natAbs ≤ C.toNat := by omega
  have e3 := Nat.mul_le_mul e1 e2
  rw [← Int.natAbs_mul] at e3
  have e4 : ((A.toNat * C.toNat : Nat) : Int) = A * C := by
    rw [Int.natCast_mul, Int.toNat_of_nonneg hA, Int.toNat_of_nonneg hC]
  omega
def nrm (p : Int × Int) : Int := p.1 * p.1 + p.2 * p.2
def mulP (p q : Int × Int) : Int × Int := (p.1 * q.1 - p.2 * q.2, p.1 * q.2 + p.2 * q.1)
def subP (p q : Int × Int) : Int × Int := (p.1 - q.1, p.2 - q.2)
def addP (p q : Int × Int) : Int × Int := (p.1 + q.1, p.2 + q.2)
def conjP (p : Int × Int) : Int × Int := (p.1, -p.2)
/-- the quotient, rounded to the nearest, halves upwards -/
def quoP (x y : Int × Int) : Int × Int := ((2 * (mulP x (conjP y)).1 + nrm y) / (2 * nrm y), (2 * (mulP x (conjP y)).2 + nrm y) / (2 * nrm y))
def restP (x y : Int × Int) : Int × Int := subP x (mulP (quoP x y) y)

/-- isIn -/
theorem isIn66 (p : Int × Int) (h : SHeap) : M.call 66 [.agg #[.int .i64 p.1, .int .i64 p.2]] h = some (.bool (decide (Bd 30000 p)), h, []) := by
  refine call_run sf66 rfl rfl rfl ?_
  unfold sf66
  have hd : decide (Bd 30000 p) = (decide (-30000 ≤ (if p.2 < p.1 then p.2 else p.1)) && decide ((if p.1 < p.2 then p.2 else p.1) ≤ 30000)) := by
    rw [Bool.eq_iff_iff, decide_eq_true_iff, Bool.and_eq_true, decide_eq_true_iff, decide_eq_true_iff]
    unfold Bd
    split <;> split <;> constructor <;> intro hh <;> omega
  by_cases c1 : -30000 ≤ (if p.2 < p.1 then p.2 else p.1)
  · rw [hd, decide_eq_true c1, Bool.true_and]
    repeat (first | apply run_seq | apply run_block | apply end_seq | apply end_blk_hit | apply end_blk_miss rfl | apply end_blk | apply end_seq_exit | apply end_seq_ret | apply end_blk_ret | apply run_skip | apply run_ret | apply run_exit | (apply run_region (by decide); (simp (maxSteps := 9999999) only [go_sem, argR, c1]; rfl)) | (apply run_regionN (by decide); (simp (maxSteps := 9999999) only [go_sem, argR, c1]; rfl)) | (refine run_cond_t ?_ ?_; · simp only [go_sem]) | (refine run_cond_f ?_ ?_; · simp only [go_sem]))
    exact end_nil (q_ret1 _ (by simp (maxSteps := 9999999) only [go_sem]) rfl (take_app _ _))
  · rw [hd, decide_eq_false c1, Bool.false_and]
    repeat (first | apply run_seq | apply run_block | apply end_seq | apply end_blk_hit | apply end_blk_miss rfl | apply end_blk | apply end_seq_exit | apply end_seq_ret | apply end_blk_ret | apply run_skip | apply run_ret | apply run_exit | (apply run_region (by decide); (simp (maxSteps := 9999999) only [go_sem, argR, c1]; rfl)) | (apply run_regionN (by decide); (simp (maxSteps := 9999999) only [go_sem, argR, c1]; rfl)) | (refine run_cond_t ?_ ?_; · simp only [go_sem]) | (refine run_cond_f ?_ ?_; · simp only [go_sem]))
    exact end_nil (q_ret1 _ (by simp (maxSteps := 9999999) only [go_sem]) rfl (take_app _ _))

theorem open_loop (cx : Cx) {h : SHeap} {v : Value} {a : List (Int × Int)} (hv : PS h v a) (hs : a.length < 4611686018427387904) : ∀ k ρ ms h' d', (∃ (i : Nat) (g : SHeap), i + k = a.length ∧ ρ 5 = v ∧ ρ 6 = .int .i64 a.length ∧ ρ 7 = .int .i64 i ∧ (∀ q ∈ a.take i, Bd 30000 q) ∧ ms = [] ∧ h' = h ++ g ∧ d' = []) →
    LoopW M cx 4 sf64L0 ρ ms h' d' (fun ex ρ' ms' h' d' => ms' = [] ∧ (∃ g, h' = h ++ g) ∧ d' = [] ∧ ((ex = .exit 0 ∧ ∀ q ∈ a, Bd 30000 q) ∨ (ex = .ret ∧ ρ' 2 = .int .i64 70 ∧ ¬ ∀ q ∈ a, Bd 30000 q))) := by
  obtain ⟨va, ca, rfl, ka⟩ := hv
  refine loop_run _ ?_
  rintro k ρ ms h' d' ⟨i, g, hi, h5, h6, h7, he, rfl, rfl, rfl⟩
  unfold sf64L0
  by_cases hk : k = 0
  · have e1 : ¬ ((i : Int) < a.length) := by omega
    have ei : i = a.length := by omega
    repeat (first | apply run_seq | apply run_block | apply end_seq | apply end_blk_hit | apply end_blk_miss rfl | apply end_blk | apply end_seq_exit | apply end_seq_ret | apply end_blk_ret | apply run_skip | apply run_ret | apply run_exit | (apply run_region (by decide); (simp (maxSteps := 9999999) only [go_sem, h5, h6, h7, e1]; rfl)) | (apply run_regionN (by decide); (simp (maxSteps := 9999999) only [go_sem, h5, h6, h7, e1]; rfl)) | (refine run_cond_t ?_ ?_; · simp only [go_sem]) | (refine run_cond_f ?_ ?_; · simp only [go_sem]))
    refine end_nil ⟨rfl, ⟨g, rfl⟩, rfl, .inl ⟨rfl, ?_⟩⟩
    rw [ei, List.take_length] at he
    exact he
  · have e1 : (i : Int) < a.length := by omega
    have e2 : (0 : Int) ≤ i := by omega
    have hia : i < a.length := by omega
    have ew : IntKind.i64.wrap ((i : Int) + 1) = ((i + 1 : Nat) : Int) := by rw [wrap64 (by omega) (by omega)]; rfl
    obtain ⟨ba, oa, rfl, pa⟩ := ka (by intro e; rw [e] at hia; simp at hia)
    have l1 := (pa.app g).loadN hia
    have t1 : a.take (i + 1) = a.take i ++ [a[i]] := by rw [List.take_add_one, List.getElem?_eq_getElem hia]; rfl
    have hm : a[i] ∈ a := List.getElem_mem hia
    generalize a[i] = p at *
    by_cases hp : Bd 30000 p
    · repeat (first | apply run_seq | apply run_block | apply end_seq | apply end_blk_hit | apply end_blk_miss rfl | apply end_blk | apply end_seq_exit | apply end_seq_ret | apply end_blk_ret | apply run_skip | apply run_ret | apply run_exit | (apply run_region (by decide); (simp (maxSteps := 9999999) only [go_sem, h5, h6, h7, e1, e2, l1, isIn66, hp, ew]; rfl)) | (apply run_regionN (by decide); (simp (maxSteps := 9999999) only [go_sem, h5, h6, h7, e1, e2, l1, isIn66, hp, ew]; rfl)) | (refine run_cond_t ?_ ?_; · simp only [go_sem]) | (refine run_cond_f ?_ ?_; · simp only [go_sem]))
      refine end_nil ⟨k - 1, by omega, i + 1, _, by omega, ?_, ?_, ?_, ?_, rfl, rfl, rfl⟩
      · simp (maxSteps := 9999999) only [go_sem, h5]
      · simp (maxSteps := 9999999) only [go_sem, h6]
      · simp (maxSteps := 9999999) only [go_sem, ew]
      · intro q hq
        rw [t1] at hq
        rcases List.mem_append.1 hq with hq | hq
        · exact he q hq
        · rw [List.mem_singleton.1 hq]; exact hp
    · repeat (first | apply run_seq | apply run_block | apply end_seq | apply end_blk_hit | apply end_blk_miss rfl | apply end_blk | apply end_seq_exit | apply end_seq_ret | apply end_blk_ret | apply run_skip | apply run_ret | apply run_exit | (apply run_region (by decide); (simp (maxSteps := 9999999) only [go_sem, h5, h6, h7, e1, e2, l1, isIn66, hp, ew]; rfl)) | (apply run_regionN (by decide); (simp (maxSteps := 9999999) only [go_sem, h5, h6, h7, e1, e2, l1, isIn66, hp, ew]; rfl)) | (refine run_cond_t ?_ ?_; · simp only [go_sem]) | (refine run_cond_f ?_ ?_; · simp only [go_sem]))
      refine end_nil ⟨rfl, ⟨_, rfl⟩, rfl, .inr ⟨rfl, ?_, fun h => hp (h p hm)⟩⟩
      simp (maxSteps := 9999999) only [go_sem]

/-- what open says of numbers -/
def openE (a : List (Int × Int)) : Int := if ∀ q ∈ a, Bd 30000 q then 0 else 70
/-- open -/
theorem open64 {h : SHeap} {v : Value} {a : List (Int × Int)} (hv : PS h v a) (hs : a.length < 4611686018427387904) : M.call 64 [v] h = some (.int .i64 (openE a), h, []) := by
  have hv0 := hv
  obtain ⟨va, ca, rfl, ka⟩ := hv
  refine call_run sf64 rfl rfl rfl ?_
  unfold sf64
  repeat (first | apply run_seq | apply run_block | apply end_seq | apply end_blk_hit | apply end_blk_miss rfl | apply end_blk | apply end_seq_exit | apply end_seq_ret | apply end_blk_ret | apply run_skip | apply run_ret | apply run_exit | (apply run_region (by decide); (simp (maxSteps := 9999999) only [go_sem, argR]; rfl)) | (apply run_regionN (by decide); (simp (maxSteps := 9999999) only [go_sem, argR]; rfl)) | (refine run_cond_t ?_ ?_; · simp only [go_sem]) | (refine run_cond_f ?_ ?_; · simp only [go_sem]))
  refine run_loop (open_loop _ hv0 hs a.length _ _ _ _ ⟨0, [], by omega, by simp (maxSteps := 9999999) only [go_sem, argR], by simp (maxSteps := 9999999) only [go_sem], by (simp (maxSteps := 9999999) only [go_sem]) <;> rfl, by simp, rfl, by simp, rfl⟩) ?_
  rintro ex ρ' ms' h1 d1 ⟨rfl, ⟨g, rfl⟩, rfl, ⟨rfl, he⟩ | ⟨rfl, h2, he⟩⟩
  · repeat (first | apply run_seq | apply run_block | apply end_seq | apply end_blk_hit | apply end_blk_miss rfl | apply end_blk | apply end_seq_exit | apply end_seq_ret | apply end_blk_ret | apply run_skip | apply run_ret | apply run_exit | (apply run_region (by decide); (simp (maxSteps := 9999999) only [go_sem]; rfl)) | (apply run_regionN (by decide); (simp (maxSteps := 9999999) only [go_sem]; rfl)) | (refine run_cond_t ?_ ?_; · simp only [go_sem]) | (refine run_cond_f ?_ ?_; · simp only [go_sem]))
    rw [show openE a = 0 from if_pos he]
    exact end_nil (q_ret1 _ (by simp (maxSteps := 9999999) only [go_sem]) rfl (take_app _ _))
  · repeat (first | apply run_seq | apply run_block | apply end_seq | apply end_blk_hit | apply end_blk_miss rfl | apply end_blk | apply end_seq_exit | apply end_seq_ret | apply end_blk_ret | apply run_skip | apply run_ret | apply run_exit | (apply run_region (by decide); (simp (maxSteps := 9999999) only [go_sem]; rfl)) | (apply run_regionN (by decide); (simp (maxSteps := 9999999) only [go_sem]; rfl)) | (refine run_cond_t ?_ ?_; · simp only [go_sem]) | (refine run_cond_f ?_ ?_; · simp only [go_sem]))
    rw [show openE a = 70 from if_neg he]
    exact end_nil (q_ret1 _ (by simp (maxSteps := 9999999) only [go_sem, h2]) rfl (take_app _ _))
end Go.Proofs.YtdmfhdnpakgkpaaDoor.Sh

