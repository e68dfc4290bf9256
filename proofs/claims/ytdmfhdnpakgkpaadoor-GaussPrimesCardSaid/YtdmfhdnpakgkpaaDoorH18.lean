/- Numbers of the chapter: their norms, products, quotients, and whether they are in range. -/
import Derived.Test.YtdmfhdnpakgkpaaDoorGi
import Derived.Test.YtdmfhdnpakgkpaaDoorShZw
set_option linter.all false
/- Numbers of the chapter: their norms, products, quotients, and whether they are in range. -/
namespace Go.Proofs.YtdmfhdnpakgkpaaDoor.Sh
open Go
set_option maxRecDepth 100000

/-- both parts of a number are within a bound -/
def Bd (A : Int) (p : Int × Int) : Prop := -A ≤ p.1 ∧ p.1 ≤ A ∧ -A ≤ p.2 ∧ p.2 ≤ A
instance (A : Int) (p : Int × Int) : Decidable (Bd A p) := by unfold Bd; exact inferInstance
theorem Bd.mono {A B : Int} {p : Int × Int} (h : Bd A p) (hab : A ≤ B) : Bd B p := by unfold Bd at *; omega
/-- products of bounded numbers -/
theorem mul_bd {a c A C : Int} (h1 : -A ≤ a) (h2 : a ≤ A) (h3 : -C ≤ c) (h4 : c ≤ C) : -(A * C) ≤ a * c ∧ a * c ≤ A * C := by
  have hA : 0 ≤ A := by omega
  have hC : 0 ≤ C := by omega
  have e1 : a.natAbs ≤ A.toNat := by omega
  have e2 : c.natAbs ≤ C.toNat := by omega
  have e3 := Nat.mul_le_mul e1 e2
  rw [← Int.natAbs_mul] at e3
  have e4 : ((A.toNat * C.toNat : Nat) : Int) = A * C := by
    rw [Int.natCast_mul, Int.toNat_of_nonneg hA, Int.toNat_of_nonneg hC]
  omega
def nrm (p : Int × Int) : Int := p.1 * p.1 + p.2 * p.2
def mulP (p q : Int × Int) : Int × Int := (p.1 * q.1 - p.2 * q.2, p.1 * q.2 + p.2 * q.1)
def conjP (p : Int × Int) : Int × Int := (p.1, -p.2)
end Go.Proofs.YtdmfhdnpakgkpaaDoor.Sh


/- Numbers of the chapter: the program's norm, product, difference, quotient and rest. -/
namespace Go.Proofs.YtdmfhdnpakgkpaaDoor.Sh
open Go
set_option maxRecDepth 100000

/-- products that stay in the machine's range -/
structure MW (p q : Int × Int) : Prop where
  a : IntKind.i64.wrap (p.1 * q.1) = p.1 * q.1
  b : IntKind.i64.wrap (p.2 * q.2) = p.2 * q.2
  c : IntKind.i64.wrap (p.1 * q.2) = p.1 * q.2
  d : IntKind.i64.wrap (p.2 * q.1) = p.2 * q.1
  m : IntKind.i64.wrap (p.1 * q.1 - p.2 * q.2) = (mulP p q).1
  s : IntKind.i64.wrap (p.1 * q.2 + p.2 * q.1) = (mulP p q).2
theorem mw_of {p q : Int × Int} {A C : Int} (hp : Bd A p) (hq : Bd C q) (h : A * C ≤ 2305843009213693952) : MW p q ∧ Bd (2 * (A * C)) (mulP p q) := by
  obtain ⟨p1, p2, p3, p4⟩ := hp
  obtain ⟨q1, q2, q3, q4⟩ := hq
  have m1 := mul_bd p1 p2 q1 q2
  have m2 := mul_bd p3 p4 q3 q4
  have m3 := mul_bd p1 p2 q3 q4
  have m4 := mul_bd p3 p4 q1 q2
  refine ⟨⟨wrap64 (by omega) (by omega), wrap64 (by omega) (by omega), wrap64 (by omega) (by omega), wrap64 (by omega) (by omega), wrap64 (by omega) (by omega), wrap64 (by omega) (by omega)⟩, ?_⟩
  unfold Bd mulP
  dsimp only
  omega
theorem sqn (a : Int) : 0 ≤ a * a := by rw [← Int.natAbs_mul_self]; exact Int.natCast_nonneg _
theorem nrm_w {p : Int × Int} {A : Int} (hp : Bd A p) (h : A * A ≤ 2305843009213693952) : IntKind.i64.wrap (p.1 * p.1) = p.1 * p.1 ∧ IntKind.i64.wrap (p.2 * p.2) = p.2 * p.2 ∧ IntKind.i64.wrap (p.1 * p.1 + p.2 * p.2) = nrm p ∧ 0 ≤ nrm p ∧ nrm p ≤ 2 * (A * A) := by
  obtain ⟨p1, p2, p3, p4⟩ := hp
  have m1 := mul_bd p1 p2 p1 p2
  have m2 := mul_bd p3 p4 p3 p4
  have s1 := sqn p.1
  have s2 := sqn p.2
  refine ⟨wrap64 (by omega) (by omega), wrap64 (by omega) (by omega), wrap64 (by omega) (by omega), ?_, ?_⟩
  · unfold nrm; omega
  · unfold nrm; omega
/-- norm -/
theorem norm59 {p : Int × Int} {A : Int} (hp : Bd A p) (hA : A * A ≤ 2305843009213693952) (h : SHeap) :
    M.call 59 [.agg #[.int .i64 p.1, .int .i64 p.2]] h = some (.int .i64 (nrm p), h, []) := by
  obtain ⟨w1, w2, w3, _, _⟩ := nrm_w hp hA
  refine call_run sf59 rfl rfl rfl ?_
  unfold sf59
  repeat (first | apply run_seq | apply run_block | apply end_seq | apply end_blk_hit | apply end_blk_miss rfl | apply end_blk | apply end_seq_exit | apply end_seq_ret | apply end_blk_ret | apply run_skip | apply run_ret | apply run_exit | (apply run_region (by decide); (simp (maxSteps := 9999999) only [go_sem, argR, w1, w2, w3]; rfl)) | (apply run_regionN (by decide); (simp (maxSteps := 9999999) only [go_sem, argR, w1, w2, w3]; rfl)) | (refine run_cond_t ?_ ?_; · simp only [go_sem]) | (refine run_cond_f ?_ ?_; · simp only [go_sem]))
  exact end_nil (q_ret1 _ (by simp (maxSteps := 9999999) only [go_sem]) rfl (take_app _ _))

end Go.Proofs.YtdmfhdnpakgkpaaDoor.Sh


/- Numbers of the chapter: the program's quotient and rest, and what they are bounded by. -/
namespace Go.Proofs.YtdmfhdnpakgkpaaDoor.Sh
open Go
set_option maxRecDepth 100000

end Go.Proofs.YtdmfhdnpakgkpaaDoor.Sh


/- Numbers of the chapter: Check, Norm, and whether they are prime. -/
namespace Go.Proofs.YtdmfhdnpakgkpaaDoor.Sh
open Go
set_option maxRecDepth 100000

/-- a prime number -/
def primeN (n : Nat) : Bool := Nat.ble 2 n && (List.range n).all fun d => Nat.blt d 2 || Nat.blt n (d * d) || !(Nat.beq (n % d) 0)
theorem prime_iff {n : Nat} : primeN n = true ↔ 2 ≤ n ∧ ∀ d, 2 ≤ d → d * d ≤ n → ¬ n % d = 0 := by
  unfold primeN
  simp only [Bool.and_eq_true, List.all_eq_true, List.mem_range, Bool.or_eq_true, Bool.not_eq_true', Nat.ble_eq, blt_dec, decide_eq_true_eq, nbeq_dec, decide_eq_false_iff_not]
  constructor
  · rintro ⟨h1, h2⟩
    refine ⟨h1, fun d hd hdd => ?_⟩
    have hlt : d < n := by
      have : d * 2 ≤ d * d := Nat.mul_le_mul_left d hd
      omega
    rcases h2 d hlt with (h | h) | h
    · omega
    · omega
    · exact h
  · rintro ⟨h1, h2⟩
    refine ⟨h1, fun d _ => ?_⟩
    by_cases e1 : d < 2
    · exact .inl (.inl e1)
    · by_cases e2 : n < d * d
      · exact .inl (.inr e2)
      · exact .inr (h2 d (by omega) (by omega))
theorem prime_yes {n d : Nat} (h2 : 2 ≤ n) (hn : n < d * d) (hd : ∀ e, 2 ≤ e → e < d → ¬ n % e = 0) : primeN n = true := by
  refine prime_iff.2 ⟨h2, fun e he hee => hd e he ?_⟩
  by_cases c : e < d
  · exact c
  · have := Nat.mul_le_mul (show d ≤ e by omega) (show d ≤ e by omega)
    omega
theorem prime_no {n d : Nat} (h2 : 2 ≤ d) (hd : d * d ≤ n) (h : n % d = 0) : primeN n = false := by
  cases e : primeN n with
  | false => rfl
  | true => exact ((prime_iff.1 e).2 d h2 hd h).elim
theorem tmod_nat (a b : Nat) : ((a : Int)).tmod (b : Int) = ((a % b : Nat) : Int) := by
  rw [Int.tmod_eq_emod_of_nonneg (by omega)]; rfl
theorem mul_wn {a b : Nat} (ha : a ≤ 2147483648) (hb : b ≤ 2147483648) : IntKind.i64.wrap ((a : Int) * b) = ((a * b : Nat) : Int) := by
  have h1 : a * b ≤ 2147483648 * 2147483648 := Nat.mul_le_mul ha hb
  rw [← Int.natCast_mul, wrap64 (by omega) (by omega)]

theorem primen_loop (cx : Cx) {n : Nat} (h2 : 2 ≤ n) (hn : n ≤ 2000000000) (H : SHeap) : ∀ k ρ ms h' d', (∃ d : Nat, d + k = n + 2 ∧ 2 ≤ d ∧ ρ 0 = .int .i64 n ∧ ρ 3 = .int .i64 d ∧ (∀ e, 2 ≤ e → e < d → ¬ n % e = 0) ∧ ms = [] ∧ h' = H ∧ d' = []) →
    LoopW M cx 5 sf89L0 ρ ms h' d' (fun ex ρ' ms' h' d' => ms' = [] ∧ h' = H ∧ d' = [] ∧ ((ex = .exit 0 ∧ primeN n = true) ∨ (ex = .ret ∧ ρ' 2 = .bool false ∧ primeN n = false))) := by
  refine loop_run _ ?_
  rintro k ρ ms h' d' ⟨d, hd, hd2, r0, r3, hno, rfl, rfl, rfl⟩
  unfold sf89L0
  have w1 := mul_wn (a := d) (b := d) (by omega) (by omega)
  by_cases hc : d * d ≤ n
  · have e1 : ((d * d : Nat) : Int) ≤ n := by omega
    have hz : ¬ ((d : Int) = 0) := by omega
    have hdn : d ≤ n := by have := Nat.le_mul_self d; omega
    have ew : IntKind.i64.wrap ((d : Int) + 1) = ((d + 1 : Nat) : Int) := by rw [wrap64 (by omega) (by omega)]; rfl
    by_cases hm : n % d = 0
    · have e2 : ((n % d : Nat) : Int) = 0 := by omega
      repeat (first | apply run_seq | apply run_block | apply end_seq | apply end_blk_hit | apply end_blk_miss rfl | apply end_blk | apply end_seq_exit | apply end_seq_ret | apply end_blk_ret | apply run_skip | apply run_ret | apply run_exit | (apply run_region (by decide); (simp (maxSteps := 9999999) only [go_sem, r0, r3, w1, e1, hz, tmod_nat, e2]; rfl)) | (apply run_regionN (by decide); (simp (maxSteps := 9999999) only [go_sem, r0, r3, w1, e1, hz, tmod_nat, e2]; rfl)) | (refine run_cond_t ?_ ?_; · simp only [go_sem]) | (refine run_cond_f ?_ ?_; · simp only [go_sem]))
      exact end_nil ⟨rfl, rfl, rfl, .inr ⟨rfl, by simp (maxSteps := 9999999) only [go_sem], prime_no hd2 hc hm⟩⟩
    · have e2 : ¬ ((n % d : Nat) : Int) = 0 := by omega
      repeat (first | apply run_seq | apply run_block | apply end_seq | apply end_blk_hit | apply end_blk_miss rfl | apply end_blk | apply end_seq_exit | apply end_seq_ret | apply end_blk_ret | apply run_skip | apply run_ret | apply run_exit | (apply run_region (by decide); (simp (maxSteps := 9999999) only [go_sem, r0, r3, w1, e1, hz, tmod_nat, e2, ew]; rfl)) | (apply run_regionN (by decide); (simp (maxSteps := 9999999) only [go_sem, r0, r3, w1, e1, hz, tmod_nat, e2, ew]; rfl)) | (refine run_cond_t ?_ ?_; · simp only [go_sem]) | (refine run_cond_f ?_ ?_; · simp only [go_sem]))
      refine end_nil ⟨k - 1, by omega, d + 1, by omega, by omega, ?_, ?_, fun e he1 he2 => ?_, rfl, rfl, rfl⟩
      · simp (maxSteps := 9999999) only [go_sem, r0]
      · simp (maxSteps := 9999999) only [go_sem, ew]
      · by_cases c : e = d
        · subst c; exact hm
        · exact hno e he1 (by omega)
  · have e1 : ¬ ((d * d : Nat) : Int) ≤ n := by omega
    repeat (first | apply run_seq | apply run_block | apply end_seq | apply end_blk_hit | apply end_blk_miss rfl | apply end_blk | apply end_seq_exit | apply end_seq_ret | apply end_blk_ret | apply run_skip | apply run_ret | apply run_exit | (apply run_region (by decide); (simp (maxSteps := 9999999) only [go_sem, r0, r3, w1, e1]; rfl)) | (apply run_regionN (by decide); (simp (maxSteps := 9999999) only [go_sem, r0, r3, w1, e1]; rfl)) | (refine run_cond_t ?_ ?_; · simp only [go_sem]) | (refine run_cond_f ?_ ?_; · simp only [go_sem]))
    exact end_nil ⟨rfl, rfl, rfl, .inl ⟨rfl, prime_yes h2 (by omega) hno⟩⟩
/-- isPrimeNumber -/
theorem prime89 {n : Nat} (hn : n ≤ 2000000000) (h : SHeap) : M.call 89 [.int .i64 n] h = some (.bool (primeN n), h, []) := by
  refine call_run sf89 rfl rfl rfl ?_
  unfold sf89
  by_cases c : n < 2
  · have e1 : (n : Int) < 2 := by omega
    have e2 : primeN n = false := by
      cases e : primeN n with
      | false => rfl
      | true => have := (prime_iff.1 e).1; omega
    rw [e2]
    repeat (first | apply run_seq | apply run_block | apply end_seq | apply end_blk_hit | apply end_blk_miss rfl | apply end_blk | apply end_seq_exit | apply end_seq_ret | apply end_blk_ret | apply run_skip | apply run_ret | apply run_exit | (apply run_region (by decide); (simp (maxSteps := 9999999) only [go_sem, argR, e1]; rfl)) | (apply run_regionN (by decide); (simp (maxSteps := 9999999) only [go_sem, argR, e1]; rfl)) | (refine run_cond_t ?_ ?_; · simp only [go_sem]) | (refine run_cond_f ?_ ?_; · simp only [go_sem]))
    exact end_nil (q_ret1 _ (by simp (maxSteps := 9999999) only [go_sem]) rfl (take_self _))
  · have e1 : ¬ (n : Int) < 2 := by omega
    repeat (first | apply run_seq | apply run_block | apply end_seq | apply end_blk_hit | apply end_blk_miss rfl | apply end_blk | apply end_seq_exit | apply end_seq_ret | apply end_blk_ret | apply run_skip | apply run_ret | apply run_exit | (apply run_region (by decide); (simp (maxSteps := 9999999) only [go_sem, argR, e1]; rfl)) | (apply run_regionN (by decide); (simp (maxSteps := 9999999) only [go_sem, argR, e1]; rfl)) | (refine run_cond_t ?_ ?_; · simp only [go_sem]) | (refine run_cond_f ?_ ?_; · simp only [go_sem]))
    refine run_loop (primen_loop _ (by omega) hn h n _ _ _ _ ⟨2, by omega, by omega, by simp (maxSteps := 9999999) only [go_sem, argR], by (simp (maxSteps := 9999999) only [go_sem]) <;> rfl, fun e h1 h2 => by omega, rfl, rfl, rfl⟩) ?_
    rintro ex ρ' ms' h1 d1 ⟨rfl, rfl, rfl, ⟨rfl, he⟩ | ⟨rfl, k2, he⟩⟩
    · rw [he]
      repeat (first | apply run_seq | apply run_block | apply end_seq | apply end_blk_hit | apply end_blk_miss rfl | apply end_blk | apply end_seq_exit | apply end_seq_ret | apply end_blk_ret | apply run_skip | apply run_ret | apply run_exit | (apply run_region (by decide); (simp (maxSteps := 9999999) only [go_sem]; rfl)) | (apply run_regionN (by decide); (simp (maxSteps := 9999999) only [go_sem]; rfl)) | (refine run_cond_t ?_ ?_; · simp only [go_sem]) | (refine run_cond_f ?_ ?_; · simp only [go_sem]))
      exact end_nil (q_ret1 _ (by simp (maxSteps := 9999999) only [go_sem]) rfl (take_self _))
    · rw [he]
      repeat (first | apply run_seq | apply run_block | apply end_seq | apply end_blk_hit | apply end_blk_miss rfl | apply end_blk | apply end_seq_exit | apply end_seq_ret | apply end_blk_ret | apply run_skip | apply run_ret | apply run_exit | (apply run_region (by decide); (simp (maxSteps := 9999999) only [go_sem]; rfl)) | (apply run_regionN (by decide); (simp (maxSteps := 9999999) only [go_sem]; rfl)) | (refine run_cond_t ?_ ?_; · simp only [go_sem]) | (refine run_cond_f ?_ ?_; · simp only [go_sem]))
      exact end_nil (q_ret1 _ (by simp (maxSteps := 9999999) only [go_sem, k2]) rfl (take_self _))

/-- the greatest part, without its sign -/
def mxP (p : Int × Int) : Nat := max p.1.natAbs p.2.natAbs
theorem max_abs (p : Int × Int) : foldS max2S [.int .i64 p.1, .int .i64 (-p.1), .int .i64 p.2, .int .i64 (-p.2)] = some (.int .i64 (mxP p)) := by
  have : foldS max2S [.int .i64 p.1, .int .i64 (-p.1), .int .i64 p.2, .int .i64 (-p.2)] = some (.int .i64 (if -p.2 > (if p.2 > (if -p.1 > p.1 then -p.1 else p.1) then p.2 else (if -p.1 > p.1 then -p.1 else p.1)) then -p.2 else (if p.2 > (if -p.1 > p.1 then -p.1 else p.1) then p.2 else (if -p.1 > p.1 then -p.1 else p.1)))) := rfl
  rw [this]
  congr 2
  unfold mxP
  split <;> split <;> split <;> omega
/-- a prime -/
def primeP (p : Int × Int) : Bool := if p.1 = 0 ∨ p.2 = 0 then decide (mxP p % 4 = 3) && primeN (mxP p) else primeN (nrm p).toNat
/-- isPrime -/
theorem prime75 {p : Int × Int} (hp : Bd 30000 p) (h : SHeap) : M.call 75 [.agg #[.int .i64 p.1, .int .i64 p.2]] h = some (.bool (primeP p), h, []) := by
  have c59 := fun h => norm59 hp (by decide) h
  obtain ⟨_, _, _, n1, n2⟩ := nrm_w hp (by decide)
  have hm : mxP p ≤ 30000 := by
    obtain ⟨a, b, c, d⟩ := hp
    unfold mxP; omega
  have c89 := fun h => prime89 (n := mxP p) (by omega) h
  have c89' := fun h => prime89 (n := (nrm p).toNat) (by omega) h
  rw [Int.toNat_of_nonneg n1] at c89'
  have wn1 : IntKind.i64.wrap (-p.1) = -p.1 := by obtain ⟨a, b, c, d⟩ := hp; exact wrap64 (by omega) (by omega)
  have wn2 : IntKind.i64.wrap (-p.2) = -p.2 := by obtain ⟨a, b, c, d⟩ := hp; exact wrap64 (by omega) (by omega)
  have m4 : ((mxP p : Nat) : Int).tmod 4 = ((mxP p % 4 : Nat) : Int) := tmod_nat _ 4
  refine call_run sf75 rfl rfl rfl ?_
  unfold sf75
  have key : ∀ c : p.1 = 0 ∨ p.2 = 0, Run M ⟨h.length, none, 75⟩ sf75.dep sf75.body [] (argR [.agg #[.int .i64 p.1, .int .i64 p.2]]) [] h [] (callQ sf75.res h.length (.bool (primeP p), h, [])) := by
    intro c
    have hpp : primeP p = (decide (mxP p % 4 = 3) && primeN (mxP p)) := by unfold primeP; rw [if_pos c]
    rw [hpp]
    unfold sf75
    by_cases d : mxP p % 4 = 3
    · have d1 : (((mxP p % 4 : Nat) : Int) = 3) = True := eq_true (by omega)
      rw [decide_eq_true d, Bool.true_and]
      by_cases c1 : p.1 = 0
      · have c1' : (p.1 = 0) = True := eq_true c1
        repeat (first | apply run_seq | apply run_block | apply end_seq | apply end_blk_hit | apply end_blk_miss rfl | apply end_blk | apply end_seq_exit | apply end_seq_ret | apply end_blk_ret | apply run_skip | apply run_ret | apply run_exit | (apply run_region (by decide); (simp (maxSteps := 9999999) only [go_sem, argR, c1', wn1, wn2, max_abs, m4, d1, c89]; rfl)) | (apply run_regionN (by decide); (simp (maxSteps := 9999999) only [go_sem, argR, c1', wn1, wn2, max_abs, m4, d1, c89]; rfl)) | (refine run_cond_t ?_ ?_; · simp only [go_sem]) | (refine run_cond_f ?_ ?_; · simp only [go_sem]))
        exact end_nil (q_ret1 _ (by simp (maxSteps := 9999999) only [go_sem]) rfl (take_app _ _))
      · have c1' : (p.1 = 0) = False := eq_false c1
        have c2' : (p.2 = 0) = True := eq_true (by omega)
        repeat (first | apply run_seq | apply run_block | apply end_seq | apply end_blk_hit | apply end_blk_miss rfl | apply end_blk | apply end_seq_exit | apply end_seq_ret | apply end_blk_ret | apply run_skip | apply run_ret | apply run_exit | (apply run_region (by decide); (simp (maxSteps := 9999999) only [go_sem, argR, c1', c2', wn1, wn2, max_abs, m4, d1, c89]; rfl)) | (apply run_regionN (by decide); (simp (maxSteps := 9999999) only [go_sem, argR, c1', c2', wn1, wn2, max_abs, m4, d1, c89]; rfl)) | (refine run_cond_t ?_ ?_; · simp only [go_sem]) | (refine run_cond_f ?_ ?_; · simp only [go_sem]))
        exact end_nil (q_ret1 _ (by simp (maxSteps := 9999999) only [go_sem]) rfl (take_app _ _))
    · have d1 : (((mxP p % 4 : Nat) : Int) = 3) = False := eq_false (by omega)
      rw [decide_eq_false d, Bool.false_and]
      by_cases c1 : p.1 = 0
      · have c1' : (p.1 = 0) = True := eq_true c1
        repeat (first | apply run_seq | apply run_block | apply end_seq | apply end_blk_hit | apply end_blk_miss rfl | apply end_blk | apply end_seq_exit | apply end_seq_ret | apply end_blk_ret | apply run_skip | apply run_ret | apply run_exit | (apply run_region (by decide); (simp (maxSteps := 9999999) only [go_sem, argR, c1', wn1, wn2, max_abs, m4, d1]; rfl)) | (apply run_regionN (by decide); (simp (maxSteps := 9999999) only [go_sem, argR, c1', wn1, wn2, max_abs, m4, d1]; rfl)) | (refine run_cond_t ?_ ?_; · simp only [go_sem]) | (refine run_cond_f ?_ ?_; · simp only [go_sem]))
        exact end_nil (q_ret1 _ (by simp (maxSteps := 9999999) only [go_sem]) rfl (take_app _ _))
      · have c1' : (p.1 = 0) = False := eq_false c1
        have c2' : (p.2 = 0) = True := eq_true (by omega)
        repeat (first | apply run_seq | apply run_block | apply end_seq | apply end_blk_hit | apply end_blk_miss rfl | apply end_blk | apply end_seq_exit | apply end_seq_ret | apply end_blk_ret | apply run_skip | apply run_ret | apply run_exit | (apply run_region (by decide); (simp (maxSteps := 9999999) only [go_sem, argR, c1', c2', wn1, wn2, max_abs, m4, d1]; rfl)) | (apply run_regionN (by decide); (simp (maxSteps := 9999999) only [go_sem, argR, c1', c2', wn1, wn2, max_abs, m4, d1]; rfl)) | (refine run_cond_t ?_ ?_; · simp only [go_sem]) | (refine run_cond_f ?_ ?_; · simp only [go_sem]))
        exact end_nil (q_ret1 _ (by simp (maxSteps := 9999999) only [go_sem]) rfl (take_app _ _))
  by_cases c : p.1 = 0 ∨ p.2 = 0
  · exact key c
  · have hpp : primeP p = primeN (nrm p).toNat := by unfold primeP; rw [if_neg c]
    rw [hpp]
    have c1' : (p.1 = 0) = False := eq_false (by omega)
    have c2' : (p.2 = 0) = False := eq_false (by omega)
    repeat (first | apply run_seq | apply run_block | apply end_seq | apply end_blk_hit | apply end_blk_miss rfl | apply end_blk | apply end_seq_exit | apply end_seq_ret | apply end_blk_ret | apply run_skip | apply run_ret | apply run_exit | (apply run_region (by decide); (simp (maxSteps := 9999999) only [go_sem, argR, c1', c2', c59, c89']; rfl)) | (apply run_regionN (by decide); (simp (maxSteps := 9999999) only [go_sem, argR, c1', c2', c59, c89']; rfl)) | (refine run_cond_t ?_ ?_; · simp only [go_sem]) | (refine run_cond_f ?_ ?_; · simp only [go_sem]))
    exact end_nil (q_ret1 _ (by simp (maxSteps := 9999999) only [go_sem]) rfl (take_app _ _))
end Go.Proofs.YtdmfhdnpakgkpaaDoor.Sh


