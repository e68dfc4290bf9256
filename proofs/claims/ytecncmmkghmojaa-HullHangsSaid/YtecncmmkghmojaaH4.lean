/- Harmonic of the program and of the document: what they return for 1 to 30, and that it is the same. -/
import Derived.Test.YtecncmmkghmojaaH1
set_option linter.all false
/- Harmonic of the program and of the document: what they return for 1 to 30, and that it is the same. -/
namespace Go.Proofs.Ytecncmmkghmojaa.Sh
open Go
set_option maxRecDepth 100000
set_option linter.unusedSimpArgs false
set_option linter.unusedVariables false

def stepH (p : Int × Int) (i : Int) : Int × Int :=
  if p.1 = 0 then (1, 1) else ((p.1 * i + p.2).tdiv (Int.gcd (p.1 * i + p.2) (p.2 * i)), (p.2 * i).tdiv (Int.gcd (p.1 * i + p.2) (p.2 * i)))
def hs : Nat → Int × Int
  | 0 => (0, 0)
  | n + 1 => stepH (hs n) (n + 1)
def stepG (p : Int × Int) (i : Int) : Int × Int :=
  let g : Int := Int.gcd p.2 i
  let a := p.1 * (i.tdiv g) + p.2.tdiv g
  let b := p.2.tdiv g * i
  (a.tdiv (Int.gcd a b), b.tdiv (Int.gcd a b))
def rs : Nat → Int × Int
  | 0 => (0, 1)
  | n + 1 => stepG (rs n) (n + 1)
/-- bounds by which nothing overflows -/
def okH (n : Nat) : Bool :=
  let p := hs n
  let i : Int := n + 1
  decide (n = 0 ∨ (p.1 ≠ 0 ∧ (p.1 * i).natAbs ≤ 4611686018427387904 ∧ p.2.natAbs ≤ 4611686018427387903 ∧ (p.2 * i).natAbs ≤ 9223372036854775807 ∧ Int.gcd (p.1 * i + p.2) (p.2 * i) ≠ 0))
def okG (n : Nat) : Bool :=
  let p := rs n
  let i : Int := n + 1
  let g : Int := Int.gcd p.2 i
  let a := p.1 * (i.tdiv g) + p.2.tdiv g
  let b := p.2.tdiv g * i
  decide (g ≠ 0 ∧ p.2.natAbs ≤ 4611686018427387903 ∧ (p.1 * (i.tdiv g)).natAbs ≤ 4611686018427387903 ∧ b.natAbs ≤ 9223372036854775807 ∧ ((Int.gcd a b : Nat) : Int) ≠ 0)
theorem okH_all : ∀ n, n < 30 → okH n = true := by
  have : (List.range 30).all okH = true := by decide +kernel
  intro n hn
  exact List.all_eq_true.1 this n (List.mem_range.2 hn)
theorem okG_all : ∀ n, n < 30 → okG n = true := by
  have : (List.range 30).all okG = true := by decide +kernel
  intro n hn
  exact List.all_eq_true.1 this n (List.mem_range.2 hn)
def sameHG (n : Nat) : Bool := decide (hs (n + 1) = rs (n + 1))
theorem hs_rs : ∀ n, 1 ≤ n → n ≤ 30 → hs n = rs n := by
  have : (List.range 30).all sameHG = true := by decide +kernel
  intro n h1 h2
  obtain ⟨m, rfl⟩ : ∃ m, n = m + 1 := ⟨n - 1, by omega⟩
  exact of_decide_eq_true (List.all_eq_true.1 this m (List.mem_range.2 (by omega)))

def two (p : Int × Int) : List Value := [.int .i64 p.1, .int .i64 p.2]

theorem harm_loop (cx : Cx) (h : SHeap) (n : Nat) (hn : n ≤ 30) : ∀ k ρ ms h' d', (∃ i : Nat, i + k = n ∧ ρ 0 = .int .i64 n ∧ ρ 6 = .int .i64 (i + 1 : Nat) ∧ ρ 2 = .pointer (some ⟨h.length, 0, none⟩) ∧ ρ 4 = .pointer (some ⟨h.length + 1, 0, none⟩) ∧ ρ 5 = .pointer (some ⟨h.length + 2, 0, none⟩) ∧
    ms = [] ∧ h' = h ++ [.cells [.int .i64 0, .int .i64 0] 34 true 0 [], .cells [.int .i64 0, .int .i64 0] 82 true 0 [], .cells [.int .i64 (hs i).1, .int .i64 (hs i).2] 82 true 0 []] ∧ d' = []) →
    LoopW M cx 6 sf24L0 ρ ms h' d' (fun ex ρ' ms' h' d' => ex = .exit 0 ∧ ρ' 2 = .pointer (some ⟨h.length, 0, none⟩) ∧ ρ' 5 = .pointer (some ⟨h.length + 2, 0, none⟩) ∧
      ms' = [] ∧ h' = h ++ [.cells [.int .i64 0, .int .i64 0] 34 true 0 [], .cells [.int .i64 0, .int .i64 0] 82 true 0 [], .cells [.int .i64 (hs n).1, .int .i64 (hs n).2] 82 true 0 []] ∧ d' = []) := by
  refine loop_run _ ?_
  rintro k ρ ms h' d' ⟨i, hi, h0, h6, h2, h4, h5, rfl, rfl, rfl⟩
  unfold sf24L0
  have ew : IntKind.i64.wrap (((i + 1 : Nat) : Int) + 1) = ((i + 1 + 1 : Nat) : Int) := by rw [wrap64 (by omega) (by omega)]; rfl
  by_cases hk : k = 0
  · have e1 : ¬ (((i + 1 : Nat) : Int) ≤ n) := by omega
    repeat (first | apply run_seq | apply run_block | apply end_seq | apply end_blk_hit | apply end_blk_miss rfl | apply end_blk | apply end_seq_exit | apply end_seq_ret | apply end_blk_ret | apply run_skip | apply run_ret | apply run_exit | (apply run_region (by decide); (simp only [go_sem, ↓reduceIte, Int.reduceAdd, Int.reduceEq, Int.reduceLE, Int.reduceLT, Int.reduceMul, Int.reduceNeg, Int.reduceSub, Int.reduceToNat, Nat.reduceAdd, Nat.reduceBEq, Nat.reduceEqDiff, Nat.reduceLT, Nat.reduceLeDiff, Nat.reduceMul, Nat.reduceSub, h0, h6, h2, h4, h5, e1]; rfl)) | (refine run_cond_t ?_ ?_; · simp only [go_sem, ↓reduceIte, Nat.reduceEqDiff]) | (refine run_cond_f ?_ ?_; · simp only [go_sem, ↓reduceIte, Nat.reduceEqDiff]))
    refine end_nil ⟨rfl, ?_, ?_, rfl, ?_, rfl⟩
    · simp only [go_sem, ↓reduceIte, Int.reduceAdd, Int.reduceEq, Int.reduceLE, Int.reduceLT, Int.reduceMul, Int.reduceNeg, Int.reduceSub, Int.reduceToNat, Nat.reduceAdd, Nat.reduceBEq, Nat.reduceEqDiff, Nat.reduceLT, Nat.reduceLeDiff, Nat.reduceMul, Nat.reduceSub, h2]
    · simp only [go_sem, ↓reduceIte, Int.reduceAdd, Int.reduceEq, Int.reduceLE, Int.reduceLT, Int.reduceMul, Int.reduceNeg, Int.reduceSub, Int.reduceToNat, Nat.reduceAdd, Nat.reduceBEq, Nat.reduceEqDiff, Nat.reduceLT, Nat.reduceLeDiff, Nat.reduceMul, Nat.reduceSub, h5]
    · rw [show i = n by omega]
  · have e1 : ((i + 1 : Nat) : Int) ≤ n := by omega
    by_cases h0i : i = 0
    · subst h0i
      have z1 : (hs 0).1 = 0 := rfl
      have z2 : (hs 0).2 = 0 := rfl
      have o1 : (hs 1).1 = 1 := rfl
      have o2 : (hs 1).2 = 1 := rfl
      have h6' : ρ 6 = .int .i64 1 := h6
      have e1' : (1 : Int) ≤ n := e1
      have ew' : IntKind.i64.wrap 2 = 2 := by decide
      repeat (first | apply run_seq | apply run_block | apply end_seq | apply end_blk_hit | apply end_blk_miss rfl | apply end_blk | apply end_seq_exit | apply end_seq_ret | apply end_blk_ret | apply run_skip | apply run_ret | apply run_exit | (apply run_region (by decide); (simp only [go_sem, ↓reduceIte, Int.reduceAdd, Int.reduceEq, Int.reduceLE, Int.reduceLT, Int.reduceMul, Int.reduceNeg, Int.reduceSub, Int.reduceToNat, Nat.reduceAdd, Nat.reduceBEq, Nat.reduceEqDiff, Nat.reduceLT, Nat.reduceLeDiff, Nat.reduceMul, Nat.reduceSub, h0, h6', h2, h4, h5, e1', z1, z2, ew']; rfl)) | (refine run_cond_t ?_ ?_; · simp only [go_sem, ↓reduceIte, Nat.reduceEqDiff]) | (refine run_cond_f ?_ ?_; · simp only [go_sem, ↓reduceIte, Nat.reduceEqDiff]))
      refine end_nil ⟨k - 1, by omega, 1, by omega, ?_, ?_, ?_, ?_, ?_, rfl, ?_, rfl⟩
      · simp only [go_sem, ↓reduceIte, Int.reduceAdd, Int.reduceEq, Int.reduceLE, Int.reduceLT, Int.reduceMul, Int.reduceNeg, Int.reduceSub, Int.reduceToNat, Nat.reduceAdd, Nat.reduceBEq, Nat.reduceEqDiff, Nat.reduceLT, Nat.reduceLeDiff, Nat.reduceMul, Nat.reduceSub, h0]
      · simp only [go_sem, ↓reduceIte, Int.reduceAdd, Int.reduceEq, Int.reduceLE, Int.reduceLT, Int.reduceMul, Int.reduceNeg, Int.reduceSub, Int.reduceToNat, Nat.reduceAdd, Nat.reduceBEq, Nat.reduceEqDiff, Nat.reduceLT, Nat.reduceLeDiff, Nat.reduceMul, Nat.reduceSub, ew']
      · simp only [go_sem, ↓reduceIte, Int.reduceAdd, Int.reduceEq, Int.reduceLE, Int.reduceLT, Int.reduceMul, Int.reduceNeg, Int.reduceSub, Int.reduceToNat, Nat.reduceAdd, Nat.reduceBEq, Nat.reduceEqDiff, Nat.reduceLT, Nat.reduceLeDiff, Nat.reduceMul, Nat.reduceSub, h2]
      · simp only [go_sem, ↓reduceIte, Int.reduceAdd, Int.reduceEq, Int.reduceLE, Int.reduceLT, Int.reduceMul, Int.reduceNeg, Int.reduceSub, Int.reduceToNat, Nat.reduceAdd, Nat.reduceBEq, Nat.reduceEqDiff, Nat.reduceLT, Nat.reduceLeDiff, Nat.reduceMul, Nat.reduceSub, h4]
      · simp only [go_sem, ↓reduceIte, Int.reduceAdd, Int.reduceEq, Int.reduceLE, Int.reduceLT, Int.reduceMul, Int.reduceNeg, Int.reduceSub, Int.reduceToNat, Nat.reduceAdd, Nat.reduceBEq, Nat.reduceEqDiff, Nat.reduceLT, Nat.reduceLeDiff, Nat.reduceMul, Nat.reduceSub, h5]
      · simp only [go_sem, ↓reduceIte, Int.reduceAdd, Int.reduceEq, Int.reduceLE, Int.reduceLT, Int.reduceMul, Int.reduceNeg, Int.reduceSub, Int.reduceToNat, Nat.reduceAdd, Nat.reduceBEq, Nat.reduceEqDiff, Nat.reduceLT, Nat.reduceLeDiff, Nat.reduceMul, Nat.reduceSub, o1, o2]
    · have ok := okH_all i (by omega)
      simp only [okH, decide_eq_true_eq] at ok
      obtain ⟨b1, b2, b3, b4, b5⟩ := ok.resolve_left h0i
      have hc : ((i + 1 : Nat) : Int) = (i : Int) + 1 := rfl
      rw [← hc] at b2 b4 b5
      have hst : hs (i + 1) = (((hs i).1 * ((i + 1 : Nat) : Int) + (hs i).2).tdiv (Int.gcd ((hs i).1 * ((i + 1 : Nat) : Int) + (hs i).2) ((hs i).2 * ((i + 1 : Nat) : Int))), ((hs i).2 * ((i + 1 : Nat) : Int)).tdiv (Int.gcd ((hs i).1 * ((i + 1 : Nat) : Int) + (hs i).2) ((hs i).2 * ((i + 1 : Nat) : Int)))) := by
        show stepH (hs i) _ = _
        unfold stepH
        rw [if_neg b1]
        rfl
      have w1 : IntKind.i64.wrap ((hs i).1 * ((i + 1 : Nat) : Int)) = (hs i).1 * ((i + 1 : Nat) : Int) := wrap_abs (by omega)
      have w2 : IntKind.i64.wrap ((hs i).1 * ((i + 1 : Nat) : Int) + (hs i).2) = (hs i).1 * ((i + 1 : Nat) : Int) + (hs i).2 := wrap_abs (by omega)
      have w3 : IntKind.i64.wrap ((hs i).2 * ((i + 1 : Nat) : Int)) = (hs i).2 * ((i + 1 : Nat) : Int) := wrap_abs b4
      have cl := fun h => lowest ((hs i).1 * ((i + 1 : Nat) : Int) + (hs i).2) ((hs i).2 * ((i + 1 : Nat) : Int)) h (by omega) b4 b5
      repeat (first | apply run_seq | apply run_block | apply end_seq | apply end_blk_hit | apply end_blk_miss rfl | apply end_blk | apply end_seq_exit | apply end_seq_ret | apply end_blk_ret | apply run_skip | apply run_ret | apply run_exit | (apply run_region (by decide); (simp only [go_sem, ↓reduceIte, Int.reduceAdd, Int.reduceEq, Int.reduceLE, Int.reduceLT, Int.reduceMul, Int.reduceNeg, Int.reduceSub, Int.reduceToNat, Nat.reduceAdd, Nat.reduceBEq, Nat.reduceEqDiff, Nat.reduceLT, Nat.reduceLeDiff, Nat.reduceMul, Nat.reduceSub, h0, h6, h2, h4, h5, e1, b1, w1, w2, w3, cl, ew]; rfl)) | (refine run_cond_t ?_ ?_; · simp only [go_sem, ↓reduceIte, Nat.reduceEqDiff]) | (refine run_cond_f ?_ ?_; · simp only [go_sem, ↓reduceIte, Nat.reduceEqDiff]))
      refine end_nil ⟨k - 1, by omega, i + 1, by omega, ?_, ?_, ?_, ?_, ?_, rfl, ?_, rfl⟩
      · simp only [go_sem, ↓reduceIte, Int.reduceAdd, Int.reduceEq, Int.reduceLE, Int.reduceLT, Int.reduceMul, Int.reduceNeg, Int.reduceSub, Int.reduceToNat, Nat.reduceAdd, Nat.reduceBEq, Nat.reduceEqDiff, Nat.reduceLT, Nat.reduceLeDiff, Nat.reduceMul, Nat.reduceSub, h0]
      · simp only [go_sem, ↓reduceIte, Int.reduceAdd, Int.reduceEq, Int.reduceLE, Int.reduceLT, Int.reduceMul, Int.reduceNeg, Int.reduceSub, Int.reduceToNat, Nat.reduceAdd, Nat.reduceBEq, Nat.reduceEqDiff, Nat.reduceLT, Nat.reduceLeDiff, Nat.reduceMul, Nat.reduceSub, h6, ew]
      · simp only [go_sem, ↓reduceIte, Int.reduceAdd, Int.reduceEq, Int.reduceLE, Int.reduceLT, Int.reduceMul, Int.reduceNeg, Int.reduceSub, Int.reduceToNat, Nat.reduceAdd, Nat.reduceBEq, Nat.reduceEqDiff, Nat.reduceLT, Nat.reduceLeDiff, Nat.reduceMul, Nat.reduceSub, h2]
      · simp only [go_sem, ↓reduceIte, Int.reduceAdd, Int.reduceEq, Int.reduceLE, Int.reduceLT, Int.reduceMul, Int.reduceNeg, Int.reduceSub, Int.reduceToNat, Nat.reduceAdd, Nat.reduceBEq, Nat.reduceEqDiff, Nat.reduceLT, Nat.reduceLeDiff, Nat.reduceMul, Nat.reduceSub, h4]
      · simp only [go_sem, ↓reduceIte, Int.reduceAdd, Int.reduceEq, Int.reduceLE, Int.reduceLT, Int.reduceMul, Int.reduceNeg, Int.reduceSub, Int.reduceToNat, Nat.reduceAdd, Nat.reduceBEq, Nat.reduceEqDiff, Nat.reduceLT, Nat.reduceLeDiff, Nat.reduceMul, Nat.reduceSub, h5]
      · simp only [go_sem, ↓reduceIte, Int.reduceAdd, Int.reduceEq, Int.reduceLE, Int.reduceLT, Int.reduceMul, Int.reduceNeg, Int.reduceSub, Int.reduceToNat, Nat.reduceAdd, Nat.reduceBEq, Nat.reduceEqDiff, Nat.reduceLT, Nat.reduceLeDiff, Nat.reduceMul, Nat.reduceSub, hst]

/-- Harmonic of the program -/
theorem harmonic (n : Nat) (h1 : 1 ≤ n) (h2 : n ≤ 30) (h : SHeap) : M.call 24 [.int .i64 n] h = some (.tuple #[.agg #[.int .i64 (hs n).1, .int .i64 (hs n).2], .int .i64 0], h, []) := by
  refine call_run sf24 rfl rfl rfl ?_
  unfold sf24
  have e1 : ¬ ((n : Int) < 1) := by omega
  have e2 : ¬ ((30 : Int) < n) := by omega
  repeat (first | apply run_seq | apply run_block | apply end_seq | apply end_blk_hit | apply end_blk_miss rfl | apply end_blk | apply end_seq_exit | apply end_seq_ret | apply end_blk_ret | apply run_skip | apply run_ret | apply run_exit | (apply run_region (by decide); (simp only [go_sem, ↓reduceIte, Int.reduceAdd, Int.reduceEq, Int.reduceLE, Int.reduceLT, Int.reduceMul, Int.reduceNeg, Int.reduceSub, Int.reduceToNat, Nat.reduceAdd, Nat.reduceBEq, Nat.reduceEqDiff, Nat.reduceLT, Nat.reduceLeDiff, Nat.reduceMul, Nat.reduceSub, argR, e1, e2]; rfl)) | (refine run_cond_t ?_ ?_; · simp only [go_sem, ↓reduceIte, Nat.reduceEqDiff]) | (refine run_cond_f ?_ ?_; · simp only [go_sem, ↓reduceIte, Nat.reduceEqDiff]))
  refine run_loop (harm_loop _ h n h2 n _ _ _ _ ⟨0, by omega, ?_, ?_, ?_, ?_, ?_, rfl, ?_, rfl⟩) ?_
  · simp only [go_sem, ↓reduceIte, Int.reduceAdd, Int.reduceEq, Int.reduceLE, Int.reduceLT, Int.reduceMul, Int.reduceNeg, Int.reduceSub, Int.reduceToNat, Nat.reduceAdd, Nat.reduceBEq, Nat.reduceEqDiff, Nat.reduceLT, Nat.reduceLeDiff, Nat.reduceMul, Nat.reduceSub, argR]
  · simp only [go_sem, ↓reduceIte, Int.reduceAdd, Int.reduceEq, Int.reduceLE, Int.reduceLT, Int.reduceMul, Int.reduceNeg, Int.reduceSub, Int.reduceToNat, Nat.reduceAdd, Nat.reduceBEq, Nat.reduceEqDiff, Nat.reduceLT, Nat.reduceLeDiff, Nat.reduceMul, Nat.reduceSub]
  · simp only [go_sem, ↓reduceIte, Int.reduceAdd, Int.reduceEq, Int.reduceLE, Int.reduceLT, Int.reduceMul, Int.reduceNeg, Int.reduceSub, Int.reduceToNat, Nat.reduceAdd, Nat.reduceBEq, Nat.reduceEqDiff, Nat.reduceLT, Nat.reduceLeDiff, Nat.reduceMul, Nat.reduceSub]
  · simp only [go_sem, ↓reduceIte, Int.reduceAdd, Int.reduceEq, Int.reduceLE, Int.reduceLT, Int.reduceMul, Int.reduceNeg, Int.reduceSub, Int.reduceToNat, Nat.reduceAdd, Nat.reduceBEq, Nat.reduceEqDiff, Nat.reduceLT, Nat.reduceLeDiff, Nat.reduceMul, Nat.reduceSub]
  · simp only [go_sem, ↓reduceIte, Int.reduceAdd, Int.reduceEq, Int.reduceLE, Int.reduceLT, Int.reduceMul, Int.reduceNeg, Int.reduceSub, Int.reduceToNat, Nat.reduceAdd, Nat.reduceBEq, Nat.reduceEqDiff, Nat.reduceLT, Nat.reduceLeDiff, Nat.reduceMul, Nat.reduceSub]
  · rfl
  · rintro ex ρ' ms' h1 d1 ⟨rfl, k2, k5, rfl, rfl, rfl⟩
    repeat (first | apply run_seq | apply run_block | apply end_seq | apply end_blk_hit | apply end_blk_miss rfl | apply end_blk | apply end_seq_exit | apply end_seq_ret | apply end_blk_ret | apply run_skip | apply run_ret | apply run_exit | (apply run_region (by decide); (simp only [go_sem, ↓reduceIte, Int.reduceAdd, Int.reduceEq, Int.reduceLE, Int.reduceLT, Int.reduceMul, Int.reduceNeg, Int.reduceSub, Int.reduceToNat, Nat.reduceAdd, Nat.reduceBEq, Nat.reduceEqDiff, Nat.reduceLT, Nat.reduceLeDiff, Nat.reduceMul, Nat.reduceSub, k2, k5]; rfl)) | (refine run_cond_t ?_ ?_; · simp only [go_sem, ↓reduceIte, Nat.reduceEqDiff]) | (refine run_cond_f ?_ ?_; · simp only [go_sem, ↓reduceIte, Nat.reduceEqDiff]))
    exact end_nil (q_cell_tmp (FT := FT) [.int .i64 (hs n).1, .int .i64 (hs n).2] (.int .i64 0) (by simp only [go_sem, ↓reduceIte, Int.reduceAdd, Int.reduceEq, Int.reduceLE, Int.reduceLT, Int.reduceMul, Int.reduceNeg, Int.reduceSub, Int.reduceToNat, Nat.reduceAdd, Nat.reduceBEq, Nat.reduceEqDiff, Nat.reduceLT, Nat.reduceLeDiff, Nat.reduceMul, Nat.reduceSub, k2]) (by simp only [go_sem, ↓reduceIte, Int.reduceAdd, Int.reduceEq, Int.reduceLE, Int.reduceLT, Int.reduceMul, Int.reduceNeg, Int.reduceSub, Int.reduceToNat, Nat.reduceAdd, Nat.reduceBEq, Nat.reduceEqDiff, Nat.reduceLT, Nat.reduceLeDiff, Nat.reduceMul, Nat.reduceSub]) rfl rfl ⟨_, by simp only [go_sem, ↓reduceIte, Int.reduceAdd, Int.reduceEq, Int.reduceLE, Int.reduceLT, Int.reduceMul, Int.reduceNeg, Int.reduceSub, Int.reduceToNat, Nat.reduceAdd, Nat.reduceBEq, Nat.reduceEqDiff, Nat.reduceLT, Nat.reduceLeDiff, Nat.reduceMul, Nat.reduceSub, k2]; rfl⟩ (take_app _ _))
theorem harmonic_low (n : Int) (h1 : n < 1) (h : SHeap) : M.call 24 [.int .i64 n] h = some (.tuple #[.agg #[.int .i64 0, .int .i64 0], .int .i64 1], h, []) := by
  refine call_run sf24 rfl rfl rfl ?_
  unfold sf24
  repeat (first | apply run_seq | apply run_block | apply end_seq | apply end_blk_hit | apply end_blk_miss rfl | apply end_blk | apply end_seq_exit | apply end_seq_ret | apply end_blk_ret | apply run_skip | apply run_ret | apply run_exit | (apply run_region (by decide); (simp only [go_sem, ↓reduceIte, Int.reduceAdd, Int.reduceEq, Int.reduceLE, Int.reduceLT, Int.reduceMul, Int.reduceNeg, Int.reduceSub, Int.reduceToNat, Nat.reduceAdd, Nat.reduceBEq, Nat.reduceEqDiff, Nat.reduceLT, Nat.reduceLeDiff, Nat.reduceMul, Nat.reduceSub, argR, h1]; rfl)) | (refine run_cond_t ?_ ?_; · simp only [go_sem, ↓reduceIte, Nat.reduceEqDiff]) | (refine run_cond_f ?_ ?_; · simp only [go_sem, ↓reduceIte, Nat.reduceEqDiff]))
  exact end_nil (q_cell_tmp (FT := FT) [.int .i64 0, .int .i64 0] (.int .i64 1) (by simp only [go_sem, ↓reduceIte, Int.reduceAdd, Int.reduceEq, Int.reduceLE, Int.reduceLT, Int.reduceMul, Int.reduceNeg, Int.reduceSub, Int.reduceToNat, Nat.reduceAdd, Nat.reduceBEq, Nat.reduceEqDiff, Nat.reduceLT, Nat.reduceLeDiff, Nat.reduceMul, Nat.reduceSub]) (by simp only [go_sem, ↓reduceIte, Int.reduceAdd, Int.reduceEq, Int.reduceLE, Int.reduceLT, Int.reduceMul, Int.reduceNeg, Int.reduceSub, Int.reduceToNat, Nat.reduceAdd, Nat.reduceBEq, Nat.reduceEqDiff, Nat.reduceLT, Nat.reduceLeDiff, Nat.reduceMul, Nat.reduceSub]) rfl rfl ⟨_, rfl⟩ (take_app _ _))
theorem harmonic_high (n : Int) (h1 : ¬ n < 1) (h2 : (30 : Int) < n) (h : SHeap) : M.call 24 [.int .i64 n] h = some (.tuple #[.agg #[.int .i64 0, .int .i64 0], .int .i64 1], h, []) := by
  refine call_run sf24 rfl rfl rfl ?_
  unfold sf24
  repeat (first | apply run_seq | apply run_block | apply end_seq | apply end_blk_hit | apply end_blk_miss rfl | apply end_blk | apply end_seq_exit | apply end_seq_ret | apply end_blk_ret | apply run_skip | apply run_ret | apply run_exit | (apply run_region (by decide); (simp only [go_sem, ↓reduceIte, Int.reduceAdd, Int.reduceEq, Int.reduceLE, Int.reduceLT, Int.reduceMul, Int.reduceNeg, Int.reduceSub, Int.reduceToNat, Nat.reduceAdd, Nat.reduceBEq, Nat.reduceEqDiff, Nat.reduceLT, Nat.reduceLeDiff, Nat.reduceMul, Nat.reduceSub, argR, h1, h2]; rfl)) | (refine run_cond_t ?_ ?_; · simp only [go_sem, ↓reduceIte, Nat.reduceEqDiff]) | (refine run_cond_f ?_ ?_; · simp only [go_sem, ↓reduceIte, Nat.reduceEqDiff]))
  exact end_nil (q_cell_tmp (FT := FT) [.int .i64 0, .int .i64 0] (.int .i64 1) (by simp only [go_sem, ↓reduceIte, Int.reduceAdd, Int.reduceEq, Int.reduceLE, Int.reduceLT, Int.reduceMul, Int.reduceNeg, Int.reduceSub, Int.reduceToNat, Nat.reduceAdd, Nat.reduceBEq, Nat.reduceEqDiff, Nat.reduceLT, Nat.reduceLeDiff, Nat.reduceMul, Nat.reduceSub]) (by simp only [go_sem, ↓reduceIte, Int.reduceAdd, Int.reduceEq, Int.reduceLE, Int.reduceLT, Int.reduceMul, Int.reduceNeg, Int.reduceSub, Int.reduceToNat, Nat.reduceAdd, Nat.reduceBEq, Nat.reduceEqDiff, Nat.reduceLT, Nat.reduceLeDiff, Nat.reduceMul, Nat.reduceSub]) rfl rfl ⟨_, rfl⟩ (take_app _ _))
end Go.Proofs.Ytecncmmkghmojaa.Sh

