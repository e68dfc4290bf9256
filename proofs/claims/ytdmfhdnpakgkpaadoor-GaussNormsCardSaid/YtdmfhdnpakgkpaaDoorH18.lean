/- Numbers of the chapter: their norms, products, quotients, and whether they are in range. -/
import Derived.Test.YtdmfhdnpakgkpaaDoorGi
import Derived.Test.YtdmfhdnpakgkpaaDoorShZw
set_option linter.all false
/- Numbers of the chapter: their norms, products, quotients, and whether they are in range. -/
namespace Go.Proofs.YtdmfhdnpakgkpaaDoor.Sh
open Go
set_option maxRecDepth 100000

/-- both parts of a number are within a bound -/
def Bd (A : Int) (p : Int × Int) : Prop := -A ≤ p.1 ∧ p.1 ≤ A ∧ -A ≤ p.2 ∧ p.2 ≤ A
instance (A : Int) (p : Int × Int) : Decidable (Bd A p) := by unfold Bd; exact inferInstance
theorem Bd.mono {A B : Int} {p : Int × Int} (h : Bd A p) (hab : A ≤ B) : Bd B p := by unfold Bd at *; omega
/-- products of bounded numbers -/
theorem mul_bd {a c A C : Int} (h1 : -A ≤ a) (h2 : a ≤ A) (h3 : -C ≤ c) (h4 : c ≤ C) : -(A * C) ≤ a * c ∧ a * c ≤ A * C := by
  have hA : 0 ≤ A := by omega
  have hC : 0 ≤ C := by omega
  have e1 : a.natAbs ≤ A.toNat := by omega
  have e2 : c.natAbs ≤ C.toNat := by omega
  have e3 := Nat.mul_le_mul e1 e2
  rw [← Int.natAbs_mul] at e3
  have e4 : ((A.toNat * C.toNat : Nat) : Int) = A * C := by
    rw [Int.natCast_mul, Int.toNat_of_nonneg hA, Int.toNat_of_nonneg hC]
  omega
def nrm (p : Int × Int) : Int := p.1 * p.1 + p.2 * p.2
def mulP (p q : Int × Int) : Int × Int := (p.1 * q.1 - p.2 * q.2, p.1 * q.2 + p.2 * q.1)
def subP (p q : Int × Int) : Int × Int := (p.1 - q.1, p.2 - q.2)
def addP (p q : Int × Int) : Int × Int := (p.1 + q.1, p.2 + q.2)
def conjP (p : Int × Int) : Int × Int := (p.1, -p.2)
/-- the quotient, rounded to the nearest, halves upwards -/
def quoP (x y : Int × Int) : Int × Int := ((2 * (mulP x (conjP y)).1 + nrm y) / (2 * nrm y), (2 * (mulP x (conjP y)).2 + nrm y) / (2 * nrm y))
def restP (x y : Int × Int) : Int × Int := subP x (mulP (quoP x y) y)

/-- isIn -/
theorem isIn66 (p : Int × Int) (h : SHeap) : M.call 66 [.agg #[.int .i64 p.1, .int .i64 p.2]] h = some (.bool (decide (Bd 30000 p)), h, []) := by
  refine call_run sf66 rfl rfl rfl ?_
  unfold sf66
  have hd : decide (Bd 30000 p) = (decide (-30000 ≤ (if p.2 < p.1 then p.2 else p.1)) && decide ((if p.1 < p.2 then p.2 else p.1) ≤ 30000)) := by
    rw [Bool.eq_iff_iff, decide_eq_true_iff, Bool.and_eq_true, decide_eq_true_iff, decide_eq_true_iff]
    unfold Bd
    split <;> split <;> constructor <;> intro hh <;> omega
  by_cases c1 : -30000 ≤ (if p.2 < p.1 then p.2 else p.1)
  · rw [hd, decide_eq_true c1, Bool.true_and]
    repeat (first | apply run_seq | apply run_block | apply end_seq | apply end_blk_hit | apply end_blk_miss rfl | apply end_blk | apply end_seq_exit | apply end_seq_ret | apply end_blk_ret | apply run_skip | apply run_ret | apply run_exit | (apply run_region (by decide); (simp (maxSteps := 9999999) only [go_sem, argR, c1]; rfl)) | (apply run_regionN (by decide); (simp (maxSteps := 9999999) only [go_sem, argR, c1]; rfl)) | (refine run_cond_t ?_ ?_; · simp only [go_sem]) | (refine run_cond_f ?_ ?_; · simp only [go_sem]))
    exact end_nil (q_ret1 _ (by simp (maxSteps := 9999999) only [go_sem]) rfl (take_app _ _))
  · rw [hd, decide_eq_false c1, Bool.false_and]
    repeat (first | apply run_seq | apply run_block | apply end_seq | apply end_blk_hit | apply end_blk_miss rfl | apply end_blk | apply end_seq_exit | apply end_seq_ret | apply end_blk_ret | apply run_skip | apply run_ret | apply run_exit | (apply run_region (by decide); (simp (maxSteps := 9999999) only [go_sem, argR, c1]; rfl)) | (apply run_regionN (by decide); (simp (maxSteps := 9999999) only [go_sem, argR, c1]; rfl)) | (refine run_cond_t ?_ ?_; · simp only [go_sem]) | (refine run_cond_f ?_ ?_; · simp only [go_sem]))
    exact end_nil (q_ret1 _ (by simp (maxSteps := 9999999) only [go_sem]) rfl (take_app _ _))

theorem open_loop (cx : Cx) {h : SHeap} {v : Value} {a : List (Int × Int)} (hv : PS h v a) (hs : a.length < 4611686018427387904) : ∀ k ρ ms h' d', (∃ (i : Nat) (g : SHeap), i + k = a.length ∧ ρ 5 = v ∧ ρ 6 = .int .i64 a.length ∧ ρ 7 = .int .i64 i ∧ (∀ q ∈ a.take i, Bd 30000 q) ∧ ms = [] ∧ h' = h ++ g ∧ d' = []) →
    LoopW M cx 4 sf64L0 ρ ms h' d' (fun ex ρ' ms' h' d' => ms' = [] ∧ (∃ g, h' = h ++ g) ∧ d' = [] ∧ ((ex = .exit 0 ∧ ∀ q ∈ a, Bd 30000 q) ∨ (ex = .ret ∧ ρ' 2 = .int .i64 70 ∧ ¬ ∀ q ∈ a, Bd 30000 q))) := by
  obtain ⟨va, ca, rfl, ka⟩ := hv
  refine loop_run _ ?_
  rintro k ρ ms h' d' ⟨i, g, hi, h5, h6, h7, he, rfl, rfl, rfl⟩
  unfold sf64L0
  by_cases hk : k = 0
  · have e1 : ¬ ((i : Int) < a.length) := by omega
    have ei : i = a.length := by omega
    repeat (first | apply run_seq | apply run_block | apply end_seq | apply end_blk_hit | apply end_blk_miss rfl | apply end_blk | apply end_seq_exit | apply end_seq_ret | apply end_blk_ret | apply run_skip | apply run_ret | apply run_exit | (apply run_region (by decide); (simp (maxSteps := 9999999) only [go_sem, h5, h6, h7, e1]; rfl)) | (apply run_regionN (by decide); (simp (maxSteps := 9999999) only [go_sem, h5, h6, h7, e1]; rfl)) | (refine run_cond_t ?_ ?_; · simp only [go_sem]) | (refine run_cond_f ?_ ?_; · simp only [go_sem]))
    refine end_nil ⟨rfl, ⟨g, rfl⟩, rfl, .inl ⟨rfl, ?_⟩⟩
    rw [ei, List.take_length] at he
    exact he
  · have e1 : (i : Int) < a.length := by omega
    have e2 : (0 : Int) ≤ i := by omega
    have hia : i < a.length := by omega
    have ew : IntKind.i64.wrap ((i : Int) + 1) = ((i + 1 : Nat) : Int) := by rw [wrap64 (by omega) (by omega)]; rfl
    obtain ⟨ba, oa, rfl, pa⟩ := ka (by intro e; rw [e] at hia; simp at hia)
    have l1 := (pa.app g).loadN hia
    have t1 : a.take (i + 1) = a.take i ++ [a[i]] := by rw [List.take_add_one, List.getElem?_eq_getElem hia]; rfl
    have hm : a[i] ∈ a := List.getElem_mem hia
    generalize a[i] = p at *
    by_cases hp : Bd 30000 p
    · repeat (first | apply run_seq | apply run_block | apply end_seq | apply end_blk_hit | apply end_blk_miss rfl | apply end_blk | apply end_seq_exit | apply end_seq_ret | apply end_blk_ret | apply run_skip | apply run_ret | apply run_exit | (apply run_region (by decide); (simp (maxSteps := 9999999) only [go_sem, h5, h6, h7, e1, e2, l1, isIn66, hp, ew]; rfl)) | (apply run_regionN (by decide); (simp (maxSteps := 9999999) only [go_sem, h5, h6, h7, e1, e2, l1, isIn66, hp, ew]; rfl)) | (refine run_cond_t ?_ ?_; · simp only [go_sem]) | (refine run_cond_f ?_ ?_; · simp only [go_sem]))
      refine end_nil ⟨k - 1, by omega, i + 1, _, by omega, ?_, ?_, ?_, ?_, rfl, rfl, rfl⟩
      · simp (maxSteps := 9999999) only [go_sem, h5]
      · simp (maxSteps := 9999999) only [go_sem, h6]
      · simp (maxSteps := 9999999) only [go_sem, ew]
      · intro q hq
        rw [t1] at hq
        rcases List.mem_append.1 hq with hq | hq
        · exact he q hq
        · rw [List.mem_singleton.1 hq]; exact hp
    · repeat (first | apply run_seq | apply run_block | apply end_seq | apply end_blk_hit | apply end_blk_miss rfl | apply end_blk | apply end_seq_exit | apply end_seq_ret | apply end_blk_ret | apply run_skip | apply run_ret | apply run_exit | (apply run_region (by decide); (simp (maxSteps := 9999999) only [go_sem, h5, h6, h7, e1, e2, l1, isIn66, hp, ew]; rfl)) | (apply run_regionN (by decide); (simp (maxSteps := 9999999) only [go_sem, h5, h6, h7, e1, e2, l1, isIn66, hp, ew]; rfl)) | (refine run_cond_t ?_ ?_; · simp only [go_sem]) | (refine run_cond_f ?_ ?_; · simp only [go_sem]))
      refine end_nil ⟨rfl, ⟨_, rfl⟩, rfl, .inr ⟨rfl, ?_, fun h => hp (h p hm)⟩⟩
      simp (maxSteps := 9999999) only [go_sem]

/-- what open says of numbers -/
def openE (a : List (Int × Int)) : Int := if ∀ q ∈ a, Bd 30000 q then 0 else 70
/-- open -/
theorem open64 {h : SHeap} {v : Value} {a : List (Int × Int)} (hv : PS h v a) (hs : a.length < 4611686018427387904) : M.call 64 [v] h = some (.int .i64 (openE a), h, []) := by
  have hv0 := hv
  obtain ⟨va, ca, rfl, ka⟩ := hv
  refine call_run sf64 rfl rfl rfl ?_
  unfold sf64
  repeat (first | apply run_seq | apply run_block | apply end_seq | apply end_blk_hit | apply end_blk_miss rfl | apply end_blk | apply end_seq_exit | apply end_seq_ret | apply end_blk_ret | apply run_skip | apply run_ret | apply run_exit | (apply run_region (by decide); (simp (maxSteps := 9999999) only [go_sem, argR]; rfl)) | (apply run_regionN (by decide); (simp (maxSteps := 9999999) only [go_sem, argR]; rfl)) | (refine run_cond_t ?_ ?_; · simp only [go_sem]) | (refine run_cond_f ?_ ?_; · simp only [go_sem]))
  refine run_loop (open_loop _ hv0 hs a.length _ _ _ _ ⟨0, [], by omega, by simp (maxSteps := 9999999) only [go_sem, argR], by simp (maxSteps := 9999999) only [go_sem], by (simp (maxSteps := 9999999) only [go_sem]) <;> rfl, by simp, rfl, by simp, rfl⟩) ?_
  rintro ex ρ' ms' h1 d1 ⟨rfl, ⟨g, rfl⟩, rfl, ⟨rfl, he⟩ | ⟨rfl, h2, he⟩⟩
  · repeat (first | apply run_seq | apply run_block | apply end_seq | apply end_blk_hit | apply end_blk_miss rfl | apply end_blk | apply end_seq_exit | apply end_seq_ret | apply end_blk_ret | apply run_skip | apply run_ret | apply run_exit | (apply run_region (by decide); (simp (maxSteps := 9999999) only [go_sem]; rfl)) | (apply run_regionN (by decide); (simp (maxSteps := 9999999) only [go_sem]; rfl)) | (refine run_cond_t ?_ ?_; · simp only [go_sem]) | (refine run_cond_f ?_ ?_; · simp only [go_sem]))
    rw [show openE a = 0 from if_pos he]
    exact end_nil (q_ret1 _ (by simp (maxSteps := 9999999) only [go_sem]) rfl (take_app _ _))
  · repeat (first | apply run_seq | apply run_block | apply end_seq | apply end_blk_hit | apply end_blk_miss rfl | apply end_blk | apply end_seq_exit | apply end_seq_ret | apply end_blk_ret | apply run_skip | apply run_ret | apply run_exit | (apply run_region (by decide); (simp (maxSteps := 9999999) only [go_sem]; rfl)) | (apply run_regionN (by decide); (simp (maxSteps := 9999999) only [go_sem]; rfl)) | (refine run_cond_t ?_ ?_; · simp only [go_sem]) | (refine run_cond_f ?_ ?_; · simp only [go_sem]))
    rw [show openE a = 70 from if_neg he]
    exact end_nil (q_ret1 _ (by simp (maxSteps := 9999999) only [go_sem, h2]) rfl (take_app _ _))
end Go.Proofs.YtdmfhdnpakgkpaaDoor.Sh


/- Numbers of the chapter: the program's norm, product, difference, quotient and rest. -/
namespace Go.Proofs.YtdmfhdnpakgkpaaDoor.Sh
open Go
set_option maxRecDepth 100000

/-- products that stay in the machine's range -/
structure MW (p q : Int × Int) : Prop where
  a : IntKind.i64.wrap (p.1 * q.1) = p.1 * q.1
  b : IntKind.i64.wrap (p.2 * q.2) = p.2 * q.2
  c : IntKind.i64.wrap (p.1 * q.2) = p.1 * q.2
  d : IntKind.i64.wrap (p.2 * q.1) = p.2 * q.1
  m : IntKind.i64.wrap (p.1 * q.1 - p.2 * q.2) = (mulP p q).1
  s : IntKind.i64.wrap (p.1 * q.2 + p.2 * q.1) = (mulP p q).2
theorem mw_of {p q : Int × Int} {A C : Int} (hp : Bd A p) (hq : Bd C q) (h : A * C ≤ 2305843009213693952) : MW p q ∧ Bd (2 * (A * C)) (mulP p q) := by
  obtain ⟨p1, p2, p3, p4⟩ := hp
  obtain ⟨q1, q2, q3, q4⟩ := hq
  have m1 := mul_bd p1 p2 q1 q2
  have m2 := mul_bd p3 p4 q3 q4
  have m3 := mul_bd p1 p2 q3 q4
  have m4 := mul_bd p3 p4 q1 q2
  refine ⟨⟨wrap64 (by omega) (by omega), wrap64 (by omega) (by omega), wrap64 (by omega) (by omega), wrap64 (by omega) (by omega), wrap64 (by omega) (by omega), wrap64 (by omega) (by omega)⟩, ?_⟩
  unfold Bd mulP
  dsimp only
  omega
theorem mulP_bd {p q : Int × Int} {A C : Int} (hp : Bd A p) (hq : Bd C q) : Bd (2 * (A * C)) (mulP p q) := by
  obtain ⟨p1, p2, p3, p4⟩ := hp
  obtain ⟨q1, q2, q3, q4⟩ := hq
  have m1 := mul_bd p1 p2 q1 q2
  have m2 := mul_bd p3 p4 q3 q4
  have m3 := mul_bd p1 p2 q3 q4
  have m4 := mul_bd p3 p4 q1 q2
  unfold Bd mulP
  dsimp only
  omega

/-- times -/
theorem times65 {p q : Int × Int} {A C : Int} (hp : Bd A p) (hq : Bd C q) (hAC : A * C ≤ 2305843009213693952) (h : SHeap) :
    M.call 65 [.agg #[.int .i64 p.1, .int .i64 p.2], .agg #[.int .i64 q.1, .int .i64 q.2]] h = some (.agg #[.int .i64 (mulP p q).1, .int .i64 (mulP p q).2], h, []) := by
  obtain ⟨w1, w2, w3, w4, w5, w6⟩ := (mw_of hp hq hAC).1
  refine call_run sf65 rfl rfl rfl ?_
  unfold sf65
  repeat (first | apply run_seq | apply run_block | apply end_seq | apply end_blk_hit | apply end_blk_miss rfl | apply end_blk | apply end_seq_exit | apply end_seq_ret | apply end_blk_ret | apply run_skip | apply run_ret | apply run_exit | (apply run_region (by decide); (simp (maxSteps := 9999999) only [go_sem, argR, w1, w2, w3, w4, w5, w6]; rfl)) | (apply run_regionN (by decide); (simp (maxSteps := 9999999) only [go_sem, argR, w1, w2, w3, w4, w5, w6]; rfl)) | (refine run_cond_t ?_ ?_; · simp only [go_sem]) | (refine run_cond_f ?_ ?_; · simp only [go_sem]))
  exact end_nil (q_cell [.int .i64 (mulP p q).1, .int .i64 (mulP p q).2] (by simp (maxSteps := 9999999) only [go_sem]) rfl ⟨_, by simp (maxSteps := 9999999) only [go_sem]; rfl⟩ (take_app _ _))

theorem sqn (a : Int) : 0 ≤ a * a := by rw [← Int.natAbs_mul_self]; exact Int.natCast_nonneg _
theorem nrm_w {p : Int × Int} {A : Int} (hp : Bd A p) (h : A * A ≤ 2305843009213693952) : IntKind.i64.wrap (p.1 * p.1) = p.1 * p.1 ∧ IntKind.i64.wrap (p.2 * p.2) = p.2 * p.2 ∧ IntKind.i64.wrap (p.1 * p.1 + p.2 * p.2) = nrm p ∧ 0 ≤ nrm p ∧ nrm p ≤ 2 * (A * A) := by
  obtain ⟨p1, p2, p3, p4⟩ := hp
  have m1 := mul_bd p1 p2 p1 p2
  have m2 := mul_bd p3 p4 p3 p4
  have s1 := sqn p.1
  have s2 := sqn p.2
  refine ⟨wrap64 (by omega) (by omega), wrap64 (by omega) (by omega), wrap64 (by omega) (by omega), ?_, ?_⟩
  · unfold nrm; omega
  · unfold nrm; omega
/-- norm -/
theorem norm59 {p : Int × Int} {A : Int} (hp : Bd A p) (hA : A * A ≤ 2305843009213693952) (h : SHeap) :
    M.call 59 [.agg #[.int .i64 p.1, .int .i64 p.2]] h = some (.int .i64 (nrm p), h, []) := by
  obtain ⟨w1, w2, w3, _, _⟩ := nrm_w hp hA
  refine call_run sf59 rfl rfl rfl ?_
  unfold sf59
  repeat (first | apply run_seq | apply run_block | apply end_seq | apply end_blk_hit | apply end_blk_miss rfl | apply end_blk | apply end_seq_exit | apply end_seq_ret | apply end_blk_ret | apply run_skip | apply run_ret | apply run_exit | (apply run_region (by decide); (simp (maxSteps := 9999999) only [go_sem, argR, w1, w2, w3]; rfl)) | (apply run_regionN (by decide); (simp (maxSteps := 9999999) only [go_sem, argR, w1, w2, w3]; rfl)) | (refine run_cond_t ?_ ?_; · simp only [go_sem]) | (refine run_cond_f ?_ ?_; · simp only [go_sem]))
  exact end_nil (q_ret1 _ (by simp (maxSteps := 9999999) only [go_sem]) rfl (take_app _ _))

/-- minus -/
theorem minus79 {p q : Int × Int} {A C : Int} (hp : Bd A p) (hq : Bd C q) (hAC : A + C ≤ 4611686018427387904) (h : SHeap) :
    M.call 79 [.agg #[.int .i64 p.1, .int .i64 p.2], .agg #[.int .i64 q.1, .int .i64 q.2]] h = some (.agg #[.int .i64 (subP p q).1, .int .i64 (subP p q).2], h, []) := by
  obtain ⟨p1, p2, p3, p4⟩ := hp
  obtain ⟨q1, q2, q3, q4⟩ := hq
  have w1 : IntKind.i64.wrap (p.1 - q.1) = (subP p q).1 := wrap64 (by omega) (by omega)
  have w2 : IntKind.i64.wrap (p.2 - q.2) = (subP p q).2 := wrap64 (by omega) (by omega)
  refine call_run sf79 rfl rfl rfl ?_
  unfold sf79
  repeat (first | apply run_seq | apply run_block | apply end_seq | apply end_blk_hit | apply end_blk_miss rfl | apply end_blk | apply end_seq_exit | apply end_seq_ret | apply end_blk_ret | apply run_skip | apply run_ret | apply run_exit | (apply run_region (by decide); (simp (maxSteps := 9999999) only [go_sem, argR, w1, w2]; rfl)) | (apply run_regionN (by decide); (simp (maxSteps := 9999999) only [go_sem, argR, w1, w2]; rfl)) | (refine run_cond_t ?_ ?_; · simp only [go_sem]) | (refine run_cond_f ?_ ?_; · simp only [go_sem]))
  exact end_nil (q_cell [.int .i64 (subP p q).1, .int .i64 (subP p q).2] (by simp (maxSteps := 9999999) only [go_sem]) rfl ⟨_, by simp (maxSteps := 9999999) only [go_sem]; rfl⟩ (take_app _ _))

/-- turned -/
theorem turned78 {p : Int × Int} {A : Int} (hp : Bd A p) (hA : A ≤ 4611686018427387904) (h : SHeap) :
    M.call 78 [.agg #[.int .i64 p.1, .int .i64 p.2]] h = some (.agg #[.int .i64 (conjP p).1, .int .i64 (conjP p).2], h, []) := by
  obtain ⟨p1, p2, p3, p4⟩ := hp
  have w1 : IntKind.i64.wrap (-p.2) = (conjP p).2 := wrap64 (by omega) (by omega)
  have w2 : p.1 = (conjP p).1 := rfl
  refine call_run sf78 rfl rfl rfl ?_
  unfold sf78
  repeat (first | apply run_seq | apply run_block | apply end_seq | apply end_blk_hit | apply end_blk_miss rfl | apply end_blk | apply end_seq_exit | apply end_seq_ret | apply end_blk_ret | apply run_skip | apply run_ret | apply run_exit | (apply run_region (by decide); (simp (maxSteps := 9999999) only [go_sem, argR, w1]; rfl)) | (apply run_regionN (by decide); (simp (maxSteps := 9999999) only [go_sem, argR, w1]; rfl)) | (refine run_cond_t ?_ ?_; · simp only [go_sem]) | (refine run_cond_f ?_ ?_; · simp only [go_sem]))
  exact end_nil (q_cell [.int .i64 (conjP p).1, .int .i64 (conjP p).2] (by simp (maxSteps := 9999999) only [go_sem]; rfl) rfl ⟨_, by simp (maxSteps := 9999999) only [go_sem]; rfl⟩ (take_app _ _))

/-- the machine's quotient and rest make the one rounded down -/
theorem floor_eq {a b : Int} (hb : 0 < b) : (a.tmod b < 0 → a.tdiv b - 1 = a / b) ∧ (¬ a.tmod b < 0 → a.tdiv b = a / b) := by
  have h1 := Int.mul_tdiv_add_tmod a b
  have h2 := Int.tmod_lt_of_pos a hb
  have h3 := Int.lt_tmod_of_pos a hb
  have e0 : a.tdiv b * b = b * a.tdiv b := Int.mul_comm _ _
  constructor
  · intro h
    refine ((Int.ediv_eq_iff_of_pos hb).2 ?_).symm
    have e : (a.tdiv b - 1) * b = a.tdiv b * b - b := by rw [Int.sub_mul, Int.one_mul]
    omega
  · intro h
    refine ((Int.ediv_eq_iff_of_pos hb).2 ?_).symm
    omega
theorem ediv_bd {a b A : Int} (hb : 0 < b) (h1 : -A ≤ a) (h2 : a ≤ A) : -A ≤ a / b ∧ a / b ≤ A := by
  have hA : 0 ≤ A := by omega
  constructor
  · rw [Int.le_ediv_iff_mul_le hb]
    have : A * 1 ≤ A * b := Int.mul_le_mul_of_nonneg_left (by omega) hA
    rw [Int.neg_mul]; omega
  · by_cases e : 0 ≤ a
    · have := Int.ediv_le_self b e; omega
    · have := Int.ediv_neg_of_neg_of_pos (show a < 0 by omega) hb; omega
/-- floor -/
theorem floor80 {a b A : Int} (hb : 0 < b) (h1 : -A ≤ a) (h2 : a ≤ A) (hA : A ≤ 4611686018427387904) (h : SHeap) :
    M.call 80 [.int .i64 a, .int .i64 b] h = some (.int .i64 (a / b), h, []) := by
  obtain ⟨f1, f2⟩ := floor_eq (a := a) hb
  obtain ⟨b1, b2⟩ := ediv_bd hb h1 h2
  have hb0 : ¬ b = 0 := by omega
  refine call_run sf80 rfl rfl rfl ?_
  unfold sf80
  by_cases c : a.tmod b < 0
  · have e := f1 c
    have w1 : IntKind.i64.wrap (a.tdiv b) = a.tdiv b := wrap64 (by omega) (by omega)
    have w2 : IntKind.i64.wrap (a.tdiv b - 1) = a / b := by rw [wrap64 (by omega) (by omega), e]
    repeat (first | apply run_seq | apply run_block | apply end_seq | apply end_blk_hit | apply end_blk_miss rfl | apply end_blk | apply end_seq_exit | apply end_seq_ret | apply end_blk_ret | apply run_skip | apply run_ret | apply run_exit | (apply run_region (by decide); (simp (maxSteps := 9999999) only [go_sem, argR, hb0, c, w1, w2]; rfl)) | (apply run_regionN (by decide); (simp (maxSteps := 9999999) only [go_sem, argR, hb0, c, w1, w2]; rfl)) | (refine run_cond_t ?_ ?_; · simp only [go_sem]) | (refine run_cond_f ?_ ?_; · simp only [go_sem]))
    exact end_nil (q_ret1 _ (by simp (maxSteps := 9999999) only [go_sem]) rfl (take_self _))
  · have e := f2 c
    have w1 : IntKind.i64.wrap (a.tdiv b) = a / b := by rw [wrap64 (by omega) (by omega), e]
    repeat (first | apply run_seq | apply run_block | apply end_seq | apply end_blk_hit | apply end_blk_miss rfl | apply end_blk | apply end_seq_exit | apply end_seq_ret | apply end_blk_ret | apply run_skip | apply run_ret | apply run_exit | (apply run_region (by decide); (simp (maxSteps := 9999999) only [go_sem, argR, hb0, c, w1]; rfl)) | (apply run_regionN (by decide); (simp (maxSteps := 9999999) only [go_sem, argR, hb0, c, w1]; rfl)) | (refine run_cond_t ?_ ?_; · simp only [go_sem]) | (refine run_cond_f ?_ ?_; · simp only [go_sem]))
    exact end_nil (q_ret1 _ (by simp (maxSteps := 9999999) only [go_sem]) rfl (take_self _))
end Go.Proofs.YtdmfhdnpakgkpaaDoor.Sh


/- Numbers of the chapter: the program's quotient and rest, and what they are bounded by. -/
namespace Go.Proofs.YtdmfhdnpakgkpaaDoor.Sh
open Go
set_option maxRecDepth 100000

theorem abs_sq (a : Int) : (a.natAbs : Int) ≤ a * a := by
  rw [← Int.natAbs_mul_self]
  exact Int.ofNat_le.2 (Nat.le_mul_self _)
theorem nrm_pos {y : Int × Int} (h : y ≠ (0, 0)) : 1 ≤ nrm y := by
  have s1 := abs_sq y.1
  have s2 := abs_sq y.2
  have : ¬ (y.1 = 0 ∧ y.2 = 0) := fun e => h (Prod.ext e.1 e.2)
  unfold nrm
  omega
/-- a product with a number is within the bound times its norm -/
theorem mul_nrm {x y : Int × Int} {X : Int} (hx : Bd X x) : -(X * nrm y) ≤ (mulP x (conjP y)).1 ∧ (mulP x (conjP y)).1 ≤ X * nrm y ∧ -(X * nrm y) ≤ (mulP x (conjP y)).2 ∧ (mulP x (conjP y)).2 ≤ X * nrm y := by
  obtain ⟨p1, p2, p3, p4⟩ := hx
  have hX : 0 ≤ X := by omega
  have a1 := Int.mul_le_mul_of_nonneg_left (abs_sq y.1) hX
  have a2 := Int.mul_le_mul_of_nonneg_left (abs_sq y.2) hX
  have m1 := mul_bd p1 p2 (C := y.1.natAbs) (c := y.1) (by omega) (by omega)
  have m2 := mul_bd p3 p4 (C := y.2.natAbs) (c := -y.2) (by omega) (by omega)
  have m3 := mul_bd p1 p2 (C := y.2.natAbs) (c := -y.2) (by omega) (by omega)
  have m4 := mul_bd p3 p4 (C := y.1.natAbs) (c := y.1) (by omega) (by omega)
  have e : X * nrm y = X * (y.1 * y.1) + X * (y.2 * y.2) := by unfold nrm; rw [Int.mul_add]
  unfold mulP conjP
  dsimp only
  omega
theorem near_bd {t n X : Int} (hn : 1 ≤ n) (h1 : -(X * n) ≤ t) (h2 : t ≤ X * n) : -X ≤ (2 * t + n) / (2 * n) ∧ (2 * t + n) / (2 * n) ≤ X := by
  have hn2 : 0 < 2 * n := by omega
  constructor
  · rw [Int.le_ediv_iff_mul_le hn2]
    have : -X * (2 * n) = -(2 * (X * n)) := by grind
    omega
  · have : (2 * t + n) / (2 * n) < X + 1 := by
      rw [Int.ediv_lt_iff_lt_mul hn2]
      have : (X + 1) * (2 * n) = 2 * (X * n) + 2 * n := by grind
      omega
    omega
theorem quo_bd {x y : Int × Int} {X : Int} (hx : Bd X x) (hy : 1 ≤ nrm y) : Bd X (quoP x y) := by
  obtain ⟨t1, t2, t3, t4⟩ := mul_nrm (y := y) hx
  have a := near_bd hy t1 t2
  have b := near_bd hy t3 t4
  exact ⟨a.1, a.2, b.1, b.2⟩
/-- the norm is multiplicative -/
theorem nrm_mul (p q : Int × Int) : nrm (mulP p q) = nrm p * nrm q := by
  unfold nrm mulP; dsimp only; grind
theorem nrm_conj (p : Int × Int) : nrm (conjP p) = nrm p := by unfold nrm conjP; dsimp only; grind
/-- the quotient is nearest: each part of the rest times the conjugate is at most half of the norm -/
theorem near {t n : Int} (hn : 1 ≤ n) : -n ≤ 2 * (t - n * ((2 * t + n) / (2 * n))) ∧ 2 * (t - n * ((2 * t + n) / (2 * n))) ≤ n := by
  have hn2 : 0 < 2 * n := by omega
  have h1 := Int.mul_ediv_self_le (x := 2 * t + n) (k := 2 * n) (by omega)
  have h2 := Int.lt_mul_ediv_self_add (x := 2 * t + n) hn2
  generalize (2 * t + n) / (2 * n) = q at *
  have e : 2 * n * q = 2 * (n * q) := by grind
  omega
/-- the norm of a rest is at most half of that of the divisor -/
theorem rest_nrm {x y : Int × Int} (hy : 1 ≤ nrm y) : 2 * nrm (restP x y) ≤ nrm y := by
  have a := near (t := (mulP x (conjP y)).1) hy
  have b := near (t := (mulP x (conjP y)).2) hy
  have e : mulP (restP x y) (conjP y) = ((mulP x (conjP y)).1 - nrm y * (quoP x y).1, (mulP x (conjP y)).2 - nrm y * (quoP x y).2) := by
    unfold restP
    generalize quoP x y = q
    unfold mulP conjP subP nrm
    dsimp only
    refine Prod.ext ?_ ?_
    · dsimp only; grind
    · dsimp only; grind
  have k := nrm_mul (restP x y) (conjP y)
  rw [nrm_conj, e] at k
  unfold quoP at k
  dsimp only at k
  generalize (mulP x (conjP y)).1 - nrm y * ((2 * (mulP x (conjP y)).1 + nrm y) / (2 * nrm y)) = u at *
  generalize (mulP x (conjP y)).2 - nrm y * ((2 * (mulP x (conjP y)).2 + nrm y) / (2 * nrm y)) = v at *
  have c1 := mul_bd (a := 2 * u) (c := 2 * u) (A := nrm y) (C := nrm y) (by omega) (by omega) (by omega) (by omega)
  have c2 := mul_bd (a := 2 * v) (c := 2 * v) (A := nrm y) (C := nrm y) (by omega) (by omega) (by omega) (by omega)
  have c3 : 4 * (nrm (restP x y) * nrm y) ≤ 2 * (nrm y * nrm y) := by
    rw [← k]
    unfold nrm
    dsimp only
    have e1 : 2 * u * (2 * u) = 4 * (u * u) := by grind
    have e2 : 2 * v * (2 * v) = 4 * (v * v) := by grind
    unfold nrm at c1 c2
    omega
  have c4 : (2 * nrm (restP x y)) * nrm y ≤ nrm y * nrm y := by
    have : (2 * nrm (restP x y)) * nrm y = 2 * (nrm (restP x y) * nrm y) := by grind
    omega
  exact Int.le_of_mul_le_mul_right c4 (by omega)
/-- each part is at most the norm's root -/
theorem part_bd {p : Int × Int} {A : Int} (hA : 0 ≤ A) (h : nrm p < (A + 1) * (A + 1)) : Bd A p := by
  have key : ∀ a : Int, a * a < (A + 1) * (A + 1) → -A ≤ a ∧ a ≤ A := by
    intro a ha
    have h1 : a.natAbs < (A + 1).toNat := by
      by_cases e : a.natAbs < (A + 1).toNat
      · exact e
      · exfalso
        have := Nat.mul_le_mul (show (A + 1).toNat ≤ a.natAbs by omega) (show (A + 1).toNat ≤ a.natAbs by omega)
        rw [← Int.natAbs_mul] at this
        have e2 : (((A + 1).toNat * (A + 1).toNat : Nat) : Int) = (A + 1) * (A + 1) := by
          rw [Int.natCast_mul, Int.toNat_of_nonneg (by omega)]
        have := sqn a
        omega
    omega
  have s1 := sqn p.1
  have s2 := sqn p.2
  unfold nrm at h
  have k1 := key p.1 (by omega)
  have k2 := key p.2 (by omega)
  exact ⟨k1.1, k1.2, k2.1, k2.2⟩
theorem nrm_le {p : Int × Int} {A : Int} (hp : Bd A p) : nrm p ≤ 2 * (A * A) := by
  obtain ⟨p1, p2, p3, p4⟩ := hp
  have m1 := mul_bd p1 p2 p1 p2
  have m2 := mul_bd p3 p4 p3 p4
  unfold nrm; omega
theorem rest_bd {x y : Int × Int} {Y : Int} (hy : 1 ≤ nrm y) (hY : Bd Y y) : Bd Y (restP x y) := by
  have h1 := rest_nrm (x := x) hy
  have h2 := nrm_le hY
  have hY0 : 0 ≤ Y := by obtain ⟨a, b, _⟩ := hY; omega
  refine part_bd hY0 ?_
  have : (Y + 1) * (Y + 1) = Y * Y + 2 * Y + 1 := by grind
  omega

theorem q_cell2 {base : Nat} {i j n m : Nat} {ρ : Reg} {h h0 : SHeap} (l1 l2 : List Value) (hv : loadS h (some n) (ρ i) = some (.agg l1.toArray)) (hw : loadS h (some m) (ρ j) = some (.agg l2.toArray)) (hf1 : l1.all (flat 1) = true) (hf2 : l2.all (flat 1) = true)
    (hp : ∃ a, ρ i = .pointer a) (hq : ∃ a, ρ j = .pointer a) (ht : h.take base = h0) : callQ [.cell (some n) i, .cell (some m) j] base (.tuple #[.agg l1.toArray, .agg l2.toArray], h0, []) .ret ρ [] h [] := by
  obtain ⟨a, ha⟩ := hp
  obtain ⟨b, hb⟩ := hq
  refine ⟨rfl, ?_⟩
  show opn (ρ i) fun a => ∃ v, loadS h (some n) a = some v ∧ opn v fun v' => opn (ρ j) fun b => ∃ w, loadS h (some m) b = some w ∧ opn w fun w' => endW base h [] (.tuple #[.agg l1.toArray, .agg l2.toArray], h0, []) [v', w']
  rw [ha] at hv ⊢
  rw [hb] at hw ⊢
  refine ⟨_, hv, ?_⟩
  have g1 : flat 2 (.agg l1.toArray) = true := by simpa [flat] using hf1
  have g2 : flat 2 (.agg l2.toArray) = true := by simpa [flat] using hf2
  refine opn_of (n := 2) g1 ?_
  refine ⟨_, hw, ?_⟩
  exact opn_of (n := 2) g2 (end_flat (l := [.agg l1.toArray, .agg l2.toArray]) (by simpa [oneV, flat] using ⟨by simpa using hf1, by simpa using hf2⟩) ht)

/-- quo -/
theorem quo60 {x y : Int × Int} {X Y : Int} (hx : Bd X x) (hy : Bd Y y) (hXY : X * Y ≤ 1125899906842624) (hX : X ≤ 1125899906842624) (hY : Y * Y ≤ 1125899906842624) (h0 : y ≠ (0, 0)) (h : SHeap) :
    M.call 60 [.agg #[.int .i64 x.1, .int .i64 x.2], .agg #[.int .i64 y.1, .int .i64 y.2]] h = some (.tuple #[.agg #[.int .i64 (quoP x y).1, .int .i64 (quoP x y).2], .agg #[.int .i64 (restP x y).1, .int .i64 (restP x y).2]], h, []) := by
  have hn := nrm_pos h0
  have hY0 : 0 ≤ Y := by obtain ⟨a, b, _⟩ := hy; omega
  have hX0 : 0 ≤ X := by obtain ⟨a, b, _⟩ := hx; omega
  have hc : Bd Y (conjP y) := by unfold Bd conjP at *; dsimp only; omega
  have hYY : Y ≤ 1125899906842624 := by
    by_cases e : Y ≤ 1
    · omega
    · have := Int.mul_le_mul_of_nonneg_left (show (1 : Int) ≤ Y by omega) hY0
      omega
  have t78 := fun h => turned78 hy (by omega) h
  have t65 := fun h => times65 hx hc (by omega) h
  have tb := mulP_bd hx hc
  have t59 := fun h => norm59 hy (by omega) h
  have nb := nrm_le hy
  have hq := quo_bd hx hn
  obtain ⟨b1, b2, b3, b4⟩ := tb
  have w1 : IntKind.i64.wrap (2 * (mulP x (conjP y)).1) = 2 * (mulP x (conjP y)).1 := wrap64 (by omega) (by omega)
  have w2 : IntKind.i64.wrap (2 * (mulP x (conjP y)).2) = 2 * (mulP x (conjP y)).2 := wrap64 (by omega) (by omega)
  have w3 : IntKind.i64.wrap (2 * (mulP x (conjP y)).1 + nrm y) = 2 * (mulP x (conjP y)).1 + nrm y := wrap64 (by omega) (by omega)
  have w4 : IntKind.i64.wrap (2 * (mulP x (conjP y)).2 + nrm y) = 2 * (mulP x (conjP y)).2 + nrm y := wrap64 (by omega) (by omega)
  have w5 : IntKind.i64.wrap (2 * nrm y) = 2 * nrm y := wrap64 (by omega) (by omega)
  have f1 := fun h => floor80 (a := 2 * (mulP x (conjP y)).1 + nrm y) (b := 2 * nrm y) (A := 4611686018427387904) (by omega) (by omega) (by omega) (by omega) h
  have f2 := fun h => floor80 (a := 2 * (mulP x (conjP y)).2 + nrm y) (b := 2 * nrm y) (A := 4611686018427387904) (by omega) (by omega) (by omega) (by omega) h
  have e1 : (2 * (mulP x (conjP y)).1 + nrm y) / (2 * nrm y) = (quoP x y).1 := rfl
  have e2 : (2 * (mulP x (conjP y)).2 + nrm y) / (2 * nrm y) = (quoP x y).2 := rfl
  rw [e1] at f1
  rw [e2] at f2
  have t65' := fun h => times65 hq hy (by omega) h
  have t79 := fun h => minus79 hx (mulP_bd hq hy) (by omega) h
  have e3 : subP x (mulP (quoP x y) y) = restP x y := rfl
  rw [e3] at t79
  refine call_run sf60 rfl rfl rfl ?_
  unfold sf60
  repeat (first | apply run_seq | apply run_block | apply end_seq | apply end_blk_hit | apply end_blk_miss rfl | apply end_blk | apply end_seq_exit | apply end_seq_ret | apply end_blk_ret | apply run_skip | apply run_ret | apply run_exit | (apply run_region (by decide); (simp (maxSteps := 9999999) only [go_sem, argR, t78, t65, t59, w1, w2, w3, w4, w5, f1, f2, t65', t79]; rfl)) | (apply run_regionN (by decide); (simp (maxSteps := 9999999) only [go_sem, argR, t78, t65, t59, w1, w2, w3, w4, w5, f1, f2, t65', t79]; rfl)) | (refine run_cond_t ?_ ?_; · simp only [go_sem]) | (refine run_cond_f ?_ ?_; · simp only [go_sem]))
  exact end_nil (q_cell2 [.int .i64 (quoP x y).1, .int .i64 (quoP x y).2] [.int .i64 (restP x y).1, .int .i64 (restP x y).2] (by simp (maxSteps := 9999999) only [go_sem]) (by simp (maxSteps := 9999999) only [go_sem]) rfl rfl ⟨_, by simp (maxSteps := 9999999) only [go_sem]; rfl⟩ ⟨_, by simp (maxSteps := 9999999) only [go_sem]; rfl⟩ (take_app _ _))
end Go.Proofs.YtdmfhdnpakgkpaaDoor.Sh


/- Numbers of the chapter: Check, Norm, and whether they are prime. -/
namespace Go.Proofs.YtdmfhdnpakgkpaaDoor.Sh
open Go
set_option maxRecDepth 100000

/-- Check -/
theorem check57 (p : Int × Int) (h : SHeap) : M.call 57 [.agg #[.int .i64 p.1, .int .i64 p.2]] h = some (.int .i64 (if Bd 30000 p then 0 else 70), h, []) := by
  have c64 := open64 (h := h ++ [SO.cells [.int .i64 p.1, .int .i64 p.2] 34 true 0 [], SO.cells [.int .i64 p.1, .int .i64 p.2] 68 true 0 []]) (v := .slice (some ⟨h.length + 1, 0, none⟩) 1 1) (a := [p]) (PS.mk0 (el := 68) (by rw [app_get]; rfl) rfl) (by simp)
  have e : openE [p] = if Bd 30000 p then 0 else 70 := by simp [openE]
  rw [e] at c64
  refine call_run sf57 rfl rfl rfl ?_
  unfold sf57
  repeat (first | apply run_seq | apply run_block | apply end_seq | apply end_blk_hit | apply end_blk_miss rfl | apply end_blk | apply end_seq_exit | apply end_seq_ret | apply end_blk_ret | apply run_skip | apply run_ret | apply run_exit | (apply run_region (by decide); (simp (maxSteps := 9999999) only [go_sem, argR, c64]; rfl)) | (apply run_regionN (by decide); (simp (maxSteps := 9999999) only [go_sem, argR, c64]; rfl)) | (refine run_cond_t ?_ ?_; · simp only [go_sem]) | (refine run_cond_f ?_ ?_; · simp only [go_sem]))
  exact end_nil (q_ret1 _ (by simp (maxSteps := 9999999) only [go_sem]) rfl (take_app _ _))

/-- Norm -/
theorem norm32 {p : Int × Int} (hp : Bd 30000 p) (h : SHeap) : M.call 32 [.agg #[.int .i64 p.1, .int .i64 p.2]] h = some (.tuple #[.int .i64 (nrm p), .int .i64 0], h, []) := by
  have c57 := fun h => check57 p h
  simp only [hp, if_true] at c57
  have c59 := fun h => norm59 hp (by decide) h
  refine call_run sf32 rfl rfl rfl ?_
  unfold sf32
  repeat (first | apply run_seq | apply run_block | apply end_seq | apply end_blk_hit | apply end_blk_miss rfl | apply end_blk | apply end_seq_exit | apply end_seq_ret | apply end_blk_ret | apply run_skip | apply run_ret | apply run_exit | (apply run_region (by decide); (simp (maxSteps := 9999999) only [go_sem, argR, c57, c59]; rfl)) | (apply run_regionN (by decide); (simp (maxSteps := 9999999) only [go_sem, argR, c57, c59]; rfl)) | (refine run_cond_t ?_ ?_; · simp only [go_sem]) | (refine run_cond_f ?_ ?_; · simp only [go_sem]))
  exact end_nil (q_ret2 _ _ (by simp (maxSteps := 9999999) only [go_sem]) (by simp (maxSteps := 9999999) only [go_sem]) rfl rfl (take_app _ _))
end Go.Proofs.YtdmfhdnpakgkpaaDoor.Sh


