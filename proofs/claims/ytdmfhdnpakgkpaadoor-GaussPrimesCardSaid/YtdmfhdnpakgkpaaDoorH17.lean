/- Primes of the document: the walk. -/
import Derived.Test.YtdmfhdnpakgkpaaDoorH16
import Derived.Test.YtdmfhdnpakgkpaaDoorGh
import Derived.Test.YtdmfhdnpakgkpaaDoorH13
import Derived.Test.YtdmfhdnpakgkpaaDoorGi
import Derived.Test.YtdmfhdnpakgkpaaDoorGk
import Derived.Test.YtdmfhdnpakgkpaaDoorNq
set_option linter.all false
/- Primes of the document: the walk. -/
namespace Go.Proofs.YtdmfhdnpakgkpaaDoor.Sh
open Go
set_option maxRecDepth 100000
set_option maxHeartbeats 4000000

theorem colD_at {m a b : Nat} (hm : m ≤ 2000) (hlo : ∀ c, c < b → a * a + c * c < m) (hle : m ≤ a * a + b * b) : colD m a = if a * a + b * b = m then hD m a b else [] := by
  have h1 : ∀ c, c < b → hD m a c = [] := fun c hc => by
    unfold hD; rw [if_neg]; have := hlo c hc; omega
  have h2 : ∀ c, b < c → hD m a c = [] := fun c hc => by
    unfold hD; rw [if_neg]
    have := Nat.mul_le_mul (show b + 1 ≤ c by omega) (show b + 1 ≤ c by omega)
    have e : (b + 1) * (b + 1) = b * b + 2 * b + 1 := by rw [Nat.add_mul, Nat.mul_add]; omega
    omega
  unfold colD
  split
  · rename_i h
    have hb : b < 45 := sq_45 (show b * b ≤ m by omega) hm
    rw [fm_cut (hD m a) (b := b + 1) (n := 45) (by omega) (fun i h1 _ => h2 i (by omega)), fm_succ, fm_cut (hD m a) (b := 0) (n := b) (by omega) (fun i _ h => h1 i h)]
    simp
  · rename_i h
    rw [fm_cut (hD m a) (b := 0) (n := 45) (by omega) (fun i _ _ => ?_)]
    · simp
    · by_cases c1 : i < b
      · exact h1 i c1
      · by_cases c2 : i = b
        · subst c2; unfold hD; rw [if_neg]; omega
        · exact h2 i (by omega)
theorem rowD_end {m a : Nat} (ha : a ≤ 45) (h : m < a * a) : rowD m 45 = rowD m a := by
  unfold rowD
  refine fm_cut _ ha (fun i h1 _ => ?_)
  unfold colD
  rw [fm_cut (hD m i) (b := 0) (n := 45) (by omega) (fun j _ _ => ?_)]
  · simp
  · unfold hD; rw [if_neg]
    have := Nat.mul_le_mul h1 h1
    omega
theorem listD_2 : listD 2 = [] := by
  unfold listD rowD colD
  rw [fm_cut _ (b := 0) (n := 2) (by omega) (fun m _ hm => ?_)]
  · simp
  · rw [fm_cut _ (b := 0) (n := 45) (by omega) (fun a _ _ => ?_)]
    · simp
    · rw [fm_cut _ (b := 0) (n := 45) (by omega) (fun b _ _ => ?_)]
      · simp
      · unfold hD; rw [if_neg]; omega
theorem rowD_1 {m : Nat} : rowD m 1 = [] := by
  unfold rowD colD
  rw [fm_cut _ (b := 0) (n := 1) (by omega) (fun a _ _ => ?_)]
  · simp
  · rw [fm_cut _ (b := 0) (n := 45) (by omega) (fun b _ _ => ?_)]
    · simp
    · unfold hD; rw [if_neg]; omega
/-- the numbers so far -/
def wD (m a : Nat) : List (Int × Int) := (listD m ++ rowD m a).map (fun x => x.2)
theorem wD_len (m a : Nat) : (wD m a).length ≤ m * 2025 + a * 45 := by
  unfold wD
  rw [List.length_map, List.length_append]
  have := len_D m
  have := len_rowD m a
  omega
theorem wD_succ {m a : Nat} : wD m (a + 1) = wD m a ++ (colD m a).map (fun x => x.2) := by
  unfold wD rowD
  rw [fm_succ, ← List.append_assoc, List.map_append]
theorem wD_end {m a : Nat} (ha : a ≤ 45) (h : m < a * a) : wD m a = wD (m + 1) 1 := by
  unfold wD
  rw [rowD_1, ← rowD_end ha h, List.append_nil]
  unfold listD
  rw [fm_succ]

theorem climbD_loop (cx : Cx) {n m a : Nat} (hn : m ≤ 2000) (ha : a ≤ 45) (H : SHeap) (v : Value) : ∀ k ρ ms h' d', (∃ b : Nat, b + k = m + 1 ∧ ρ 0 = .int .i64 n ∧ ρ 3 = v ∧ ρ 4 = .int .i64 m ∧ ρ 5 = .int .i64 a ∧ ρ 6 = .int .i64 b ∧ (∀ c, c < b → a * a + c * c < m) ∧ ms = [] ∧ h' = H ∧ d' = []) →
    LoopW M cx 6 sf52L0 ρ ms h' d' (fun ex ρ' ms' h' d' => ex = .exit 4 ∧ ms' = [] ∧ h' = H ∧ d' = [] ∧ ∃ b : Nat, b ≤ m + 1 ∧ ρ' 0 = .int .i64 n ∧ ρ' 3 = v ∧ ρ' 4 = .int .i64 m ∧ ρ' 5 = .int .i64 a ∧ ρ' 6 = .int .i64 b ∧ (∀ c, c < b → a * a + c * c < m) ∧ m ≤ a * a + b * b) := by
  refine loop_run _ ?_
  rintro k ρ ms h' d' ⟨b, hb, r0, r3, r4, r5, r6, hdn, rfl, rfl, rfl⟩
  unfold sf52L0
  have w1 := mul_w (a := b) (b := b) (by omega) (by omega)
  have w2 := mul_w (a := a) (b := a) (by omega) (by omega)
  have w3 := add_w (sq_le (show a ≤ 1000001 by omega)) (sq_le (show b ≤ 1000001 by omega))
  have hs := sq_self b
  by_cases hc : a * a + b * b < m
  · have e1 : ((a * a + b * b : Nat) : Int) < m := by omega
    have ew : IntKind.i64.wrap ((b : Int) + 1) = ((b + 1 : Nat) : Int) := by rw [wrap64 (by omega) (by omega)]; rfl
    repeat (first | apply run_seq | apply run_block | apply end_seq | apply end_blk_hit | apply end_blk_miss rfl | apply end_blk | apply end_seq_exit | apply end_seq_ret | apply end_blk_ret | apply run_skip | apply run_ret | apply run_exit | (apply run_region (by decide); (simp (maxSteps := 9999999) only [go_sem, r4, r5, r6, w1, w2, w3, e1, ew]; rfl)) | (apply run_regionN (by decide); (simp (maxSteps := 9999999) only [go_sem, r4, r5, r6, w1, w2, w3, e1, ew]; rfl)) | (refine run_cond_t ?_ ?_; · simp only [go_sem]) | (refine run_cond_f ?_ ?_; · simp only [go_sem]))
    refine end_nil ⟨k - 1, by omega, b + 1, by omega, by simp (maxSteps := 9999999) only [go_sem, r0], by simp (maxSteps := 9999999) only [go_sem, r3], by simp (maxSteps := 9999999) only [go_sem, r4], by simp (maxSteps := 9999999) only [go_sem, r5], by simp (maxSteps := 9999999) only [go_sem, ew], fun c hc' => ?_, rfl, rfl, rfl⟩
    by_cases e : c = b
    · subst e; exact hc
    · exact hdn c (by omega)
  · have e1 : ¬ (((a * a + b * b : Nat) : Int) < m) := by omega
    repeat (first | apply run_seq | apply run_block | apply end_seq | apply end_blk_hit | apply end_blk_miss rfl | apply end_blk | apply end_seq_exit | apply end_seq_ret | apply end_blk_ret | apply run_skip | apply run_ret | apply run_exit | (apply run_region (by decide); (simp (maxSteps := 9999999) only [go_sem, r4, r5, r6, w1, w2, w3, e1]; rfl)) | (apply run_regionN (by decide); (simp (maxSteps := 9999999) only [go_sem, r4, r5, r6, w1, w2, w3, e1]; rfl)) | (refine run_cond_t ?_ ?_; · simp only [go_sem]) | (refine run_cond_f ?_ ?_; · simp only [go_sem]))
    exact end_nil ⟨rfl, rfl, rfl, rfl, b, by omega, by simp (maxSteps := 9999999) only [go_sem, r0], by simp (maxSteps := 9999999) only [go_sem, r3], by simp (maxSteps := 9999999) only [go_sem, r4], by simp (maxSteps := 9999999) only [go_sem, r5], by simp (maxSteps := 9999999) only [go_sem, r6], hdn, by omega⟩

theorem rowD_loop (cx : Cx) {n m : Nat} (hm2 : 2 ≤ m) (hm : m ≤ 2000) (H : SHeap) : ∀ k ρ ms h' d', (∃ (a : Nat) (v : Value), a + k = 45 ∧ 1 ≤ a ∧ ρ 0 = .int .i64 n ∧ ρ 3 = v ∧ ρ 4 = .int .i64 m ∧ ρ 5 = .int .i64 a ∧ AccS H h' v (prs (wD m a)) (wD m a).length 2 34 ∧ ms = [] ∧ d' = []) →
    LoopW M cx 6 sf52L1 ρ ms h' d' (fun ex ρ' ms' h' d' => ex = .exit 2 ∧ ms' = [] ∧ d' = [] ∧ ∃ v : Value, ρ' 0 = .int .i64 n ∧ ρ' 3 = v ∧ ρ' 4 = .int .i64 m ∧ AccS H h' v (prs (wD (m + 1) 1)) (wD (m + 1) 1).length 2 34) := by
  refine loop_run _ ?_
  rintro k ρ ms h' d' ⟨a, v, hk, ha1, r0, r3, r4, r5, A, rfl, rfl⟩
  unfold sf52L1
  have w1 := mul_w (a := a) (b := a) (by omega) (by omega)
  by_cases hc : m < a * a
  · have e1 : ¬ (((a * a : Nat) : Int) ≤ m) := by omega
    repeat (first | apply run_seq | apply run_block | apply end_seq | apply end_blk_hit | apply end_blk_miss rfl | apply end_blk | apply end_seq_exit | apply end_seq_ret | apply end_blk_ret | apply run_skip | apply run_ret | apply run_exit | (apply run_region (by decide); (simp (maxSteps := 9999999) only [go_sem, r4, r5, w1, e1]; rfl)) | (apply run_regionN (by decide); (simp (maxSteps := 9999999) only [go_sem, r4, r5, w1, e1]; rfl)) | (refine run_cond_t ?_ ?_; · simp only [go_sem]) | (refine run_cond_f ?_ ?_; · simp only [go_sem]))
    refine end_nil ⟨rfl, rfl, rfl, v, by simp (maxSteps := 9999999) only [go_sem, r0], by simp (maxSteps := 9999999) only [go_sem, r3], by simp (maxSteps := 9999999) only [go_sem, r4], ?_⟩
    rw [← wD_end (by omega) hc]; exact A
  · have e1 : ((a * a : Nat) : Int) ≤ m := by omega
    have ha : a < 45 := sq_45 (show a * a ≤ m by omega) hm
    have ew : IntKind.i64.wrap ((a : Int) + 1) = ((a + 1 : Nat) : Int) := by rw [wrap64 (by omega) (by omega)]; rfl
    repeat (first | apply run_seq | apply run_block | apply end_seq | apply end_blk_hit | apply end_blk_miss rfl | apply end_blk | apply end_seq_exit | apply end_seq_ret | apply end_blk_ret | apply run_skip | apply run_ret | apply run_exit | (apply run_region (by decide); (simp (maxSteps := 9999999) only [go_sem, r4, r5, w1, e1]; rfl)) | (apply run_regionN (by decide); (simp (maxSteps := 9999999) only [go_sem, r4, r5, w1, e1]; rfl)) | (refine run_cond_t ?_ ?_; · simp only [go_sem]) | (refine run_cond_f ?_ ?_; · simp only [go_sem]))
    refine run_loop (climbD_loop cx (n := n) (a := a) hm (by omega) h' v (m + 1) _ _ _ _ ⟨0, by omega, by simp (maxSteps := 9999999) only [go_sem, r0], by simp (maxSteps := 9999999) only [go_sem, r3], by simp (maxSteps := 9999999) only [go_sem, r4], by simp (maxSteps := 9999999) only [go_sem, r5], by simp (maxSteps := 9999999) only [go_sem], fun c hc => by omega, rfl, rfl, rfl⟩) ?_
    rintro ex ρ' ms' h1 d1 ⟨rfl, rfl, rfl, rfl, b, hb, k0, k3, k4, k5, k6, hdn, hle⟩
    have m2 := mul_w (a := b) (b := b) (by omega) (by omega)
    have m3 := add_w (sq_le (show a ≤ 1000001 by omega)) (sq_le (show b ≤ 1000001 by omega))
    have hcol := colD_at hm hdn hle
    have hlen := wD_len m a
    by_cases he : a * a + b * b = m
    · have e2 : ((a * a + b * b : Nat) : Int) = m := by omega
      have hb45 : b < 45 := sq_45 (show b * b ≤ m by omega) hm
      have c46 : ∀ h, M.call 46 [.agg #[.int .i64 a, .int .i64 b]] h = some (.bool (primeP ((a : Int), (b : Int))), h, []) := fun h => primeR46 (p := ((a : Int), (b : Int))) ⟨by dsimp only; omega, by dsimp only; omega, by dsimp only; omega, by dsimp only; omega⟩ ⟨by dsimp only; omega, by dsimp only; omega⟩ h
      rw [if_pos he] at hcol
      unfold hD at hcol
      by_cases hp : primeP ((a : Int), (b : Int)) = true
      · rw [if_pos ⟨hm2, ha1, he, hp⟩] at hcol
        rw [hp] at c46
        have hW : wD m (a + 1) = wD m a ++ [((a : Int), (b : Int))] := by rw [wD_succ, hcol]; rfl
        obtain ⟨H2, v2, ap, -, A2, -, -⟩ := (A.app [.cells [.int .i64 a, .int .i64 b] 34 true 0 []]).push (bytes := 16) (new := [.int .i64 a, .int .i64 b]) (by rw [app_get0]; rfl) rfl rfl (by decide) rfl (by decide) (by omega)
        have hpp : prs (wD m (a + 1)) = prs (wD m a) ++ [.int .i64 a, .int .i64 b] := by rw [hW, prs_app]; rfl
        have hl : (wD m (a + 1)).length = (wD m a).length + 1 := by rw [hW, List.length_append]; rfl
        rw [← hpp, ← hl] at A2
        obtain ⟨va, vc, rfl⟩ := A.shape
        repeat (first | apply run_seq | apply run_block | apply end_seq | apply end_blk_hit | apply end_blk_miss rfl | apply end_blk | apply end_seq_exit | apply end_seq_ret | apply end_blk_ret | apply run_skip | apply run_ret | apply run_exit | (apply run_region (by decide); (simp (maxSteps := 9999999) only [go_sem, k0, k3, k4, k5, k6, w1, m2, m3, e2, c46, ap, ew]; rfl)) | (apply run_regionN (by decide); (simp (maxSteps := 9999999) only [go_sem, k0, k3, k4, k5, k6, w1, m2, m3, e2, c46, ap, ew]; rfl)) | (refine run_cond_t ?_ ?_; · simp only [go_sem]) | (refine run_cond_f ?_ ?_; · simp only [go_sem]))
        exact end_nil ⟨k - 1, by omega, a + 1, v2, by omega, by omega, by simp (maxSteps := 9999999) only [go_sem, k0], by simp (maxSteps := 9999999) only [go_sem], by simp (maxSteps := 9999999) only [go_sem, k4], by simp (maxSteps := 9999999) only [go_sem, ew], A2, rfl, rfl⟩
      · rw [if_neg (fun h => hp h.2.2.2)] at hcol
        have hp' : primeP ((a : Int), (b : Int)) = false := by simpa using hp
        rw [hp'] at c46
        have hW : wD m (a + 1) = wD m a := by rw [wD_succ, hcol]; simp
        repeat (first | apply run_seq | apply run_block | apply end_seq | apply end_blk_hit | apply end_blk_miss rfl | apply end_blk | apply end_seq_exit | apply end_seq_ret | apply end_blk_ret | apply run_skip | apply run_ret | apply run_exit | (apply run_region (by decide); (simp (maxSteps := 9999999) only [go_sem, k0, k3, k4, k5, k6, w1, m2, m3, e2, c46, ew]; rfl)) | (apply run_regionN (by decide); (simp (maxSteps := 9999999) only [go_sem, k0, k3, k4, k5, k6, w1, m2, m3, e2, c46, ew]; rfl)) | (refine run_cond_t ?_ ?_; · simp only [go_sem]) | (refine run_cond_f ?_ ?_; · simp only [go_sem]))
        exact end_nil ⟨k - 1, by omega, a + 1, v, by omega, by omega, by simp (maxSteps := 9999999) only [go_sem, k0], by simp (maxSteps := 9999999) only [go_sem, k3], by simp (maxSteps := 9999999) only [go_sem, k4], by simp (maxSteps := 9999999) only [go_sem, ew], by rw [hW]; exact A, rfl, rfl⟩
    · have e2 : ¬ (((a * a + b * b : Nat) : Int) = m) := by omega
      rw [if_neg he] at hcol
      have hW : wD m (a + 1) = wD m a := by rw [wD_succ, hcol]; simp
      repeat (first | apply run_seq | apply run_block | apply end_seq | apply end_blk_hit | apply end_blk_miss rfl | apply end_blk | apply end_seq_exit | apply end_seq_ret | apply end_blk_ret | apply run_skip | apply run_ret | apply run_exit | (apply run_region (by decide); (simp (maxSteps := 9999999) only [go_sem, k0, k3, k4, k5, k6, w1, m2, m3, e2, ew]; rfl)) | (apply run_regionN (by decide); (simp (maxSteps := 9999999) only [go_sem, k0, k3, k4, k5, k6, w1, m2, m3, e2, ew]; rfl)) | (refine run_cond_t ?_ ?_; · simp only [go_sem]) | (refine run_cond_f ?_ ?_; · simp only [go_sem]))
      exact end_nil ⟨k - 1, by omega, a + 1, v, by omega, by omega, by simp (maxSteps := 9999999) only [go_sem, k0], by simp (maxSteps := 9999999) only [go_sem, k3], by simp (maxSteps := 9999999) only [go_sem, k4], by simp (maxSteps := 9999999) only [go_sem, ew], by rw [hW]; exact A, rfl, rfl⟩

theorem listD_loop (cx : Cx) {n : Nat} (hn : n ≤ 2000) (H : SHeap) : ∀ k ρ ms h' d', (∃ (m : Nat) (v : Value), (m + k = n + 1 ∨ (n < m ∧ k = 0)) ∧ 2 ≤ m ∧ ρ 0 = .int .i64 n ∧ ρ 3 = v ∧ ρ 4 = .int .i64 m ∧ (n < m → wD m 1 = (listD (n + 1)).map (fun x => x.2)) ∧ AccS H h' v (prs (wD m 1)) (wD m 1).length 2 34 ∧ ms = [] ∧ d' = []) →
    LoopW M cx 6 sf52L2 ρ ms h' d' (fun ex ρ' ms' h' d' => ex = .exit 0 ∧ ms' = [] ∧ d' = [] ∧ ∃ v : Value, ρ' 3 = v ∧ AccS H h' v (prs ((listD (n + 1)).map (fun x => x.2))) ((listD (n + 1)).map (fun x => x.2)).length 2 34) := by
  refine loop_run _ ?_
  rintro k ρ ms h' d' ⟨m, v, hk, hm2, r0, r3, r4, hw, A, rfl, rfl⟩
  unfold sf52L2
  by_cases hc : n < m
  · have e1 : ¬ ((m : Int) ≤ n) := by omega
    repeat (first | apply run_seq | apply run_block | apply end_seq | apply end_blk_hit | apply end_blk_miss rfl | apply end_blk | apply end_seq_exit | apply end_seq_ret | apply end_blk_ret | apply run_skip | apply run_ret | apply run_exit | (apply run_region (by decide); (simp (maxSteps := 9999999) only [go_sem, r0, r4, e1]; rfl)) | (apply run_regionN (by decide); (simp (maxSteps := 9999999) only [go_sem, r0, r4, e1]; rfl)) | (refine run_cond_t ?_ ?_; · simp only [go_sem]) | (refine run_cond_f ?_ ?_; · simp only [go_sem]))
    refine end_nil ⟨rfl, rfl, rfl, v, by simp (maxSteps := 9999999) only [go_sem, r3], ?_⟩
    rw [← hw hc]; exact A
  · have e1 : (m : Int) ≤ n := by omega
    have ew : IntKind.i64.wrap ((m : Int) + 1) = ((m + 1 : Nat) : Int) := by rw [wrap64 (by omega) (by omega)]; rfl
    repeat (first | apply run_seq | apply run_block | apply end_seq | apply end_blk_hit | apply end_blk_miss rfl | apply end_blk | apply end_seq_exit | apply end_seq_ret | apply end_blk_ret | apply run_skip | apply run_ret | apply run_exit | (apply run_region (by decide); (simp (maxSteps := 9999999) only [go_sem, r0, r4, e1]; rfl)) | (apply run_regionN (by decide); (simp (maxSteps := 9999999) only [go_sem, r0, r4, e1]; rfl)) | (refine run_cond_t ?_ ?_; · simp only [go_sem]) | (refine run_cond_f ?_ ?_; · simp only [go_sem]))
    refine run_loop (rowD_loop cx (n := n) hm2 (by omega) H 44 _ _ _ _ ⟨1, v, by omega, by omega, by simp (maxSteps := 9999999) only [go_sem, r0], by simp (maxSteps := 9999999) only [go_sem, r3], by simp (maxSteps := 9999999) only [go_sem, r4], by simp (maxSteps := 9999999) only [go_sem], A, rfl, rfl⟩) ?_
    rintro ex ρ' ms' h1 d1 ⟨rfl, rfl, rfl, v2, k0, k3, k4, A2⟩
    repeat (first | apply run_seq | apply run_block | apply end_seq | apply end_blk_hit | apply end_blk_miss rfl | apply end_blk | apply end_seq_exit | apply end_seq_ret | apply end_blk_ret | apply run_skip | apply run_ret | apply run_exit | (apply run_region (by decide); (simp (maxSteps := 9999999) only [go_sem, k4, ew]; rfl)) | (apply run_regionN (by decide); (simp (maxSteps := 9999999) only [go_sem, k4, ew]; rfl)) | (refine run_cond_t ?_ ?_; · simp only [go_sem]) | (refine run_cond_f ?_ ?_; · simp only [go_sem]))
    refine end_nil ⟨k - 1, by omega, m + 1, v2, by omega, by omega, by simp (maxSteps := 9999999) only [go_sem, k0], by simp (maxSteps := 9999999) only [go_sem, k3], by simp (maxSteps := 9999999) only [go_sem, ew], fun h => ?_, A2, rfl, rfl⟩
    have : m = n := by omega
    subst this
    unfold wD
    rw [rowD_1, List.append_nil]

/-- Primes of the document -/
theorem primesR52 {n : Nat} (hn : n ≤ 2000) (h : SHeap) : M.call 52 [.int .i64 n] h = some (resV h ((listD (n + 1)).map (fun x => x.2)).length 2, resH h (prs ((listD (n + 1)).map (fun x => x.2))) ((listD (n + 1)).map (fun x => x.2)).length 34, []) := by
  refine call_run sf52 rfl rfl rfl ?_
  unfold sf52
  have e0 : wD 2 1 = [] := by unfold wD; rw [listD_2, rowD_1]; rfl
  repeat (first | apply run_seq | apply run_block | apply end_seq | apply end_blk_hit | apply end_blk_miss rfl | apply end_blk | apply end_seq_exit | apply end_seq_ret | apply end_blk_ret | apply run_skip | apply run_ret | apply run_exit | (apply run_region (by decide); (simp (maxSteps := 9999999) only [go_sem, argR]; rfl)) | (apply run_regionN (by decide); (simp (maxSteps := 9999999) only [go_sem, argR]; rfl)) | (refine run_cond_t ?_ ?_; · simp only [go_sem]) | (refine run_cond_f ?_ ?_; · simp only [go_sem]))
  refine run_loop (listD_loop _ hn h (n + 1 - 2) _ _ _ _ ⟨2, .slice none 0 0, by omega, by omega, by simp (maxSteps := 9999999) only [go_sem, argR], by simp (maxSteps := 9999999) only [go_sem], by (simp (maxSteps := 9999999) only [go_sem]) <;> rfl, fun hlt => ?_, by rw [e0]; exact AccS.nil0 h 2 34, rfl, rfl⟩) ?_
  · rw [e0]
    have : listD (n + 1) = [] := by
      have h2 : listD 2 = listD (n + 1) := by
        unfold listD
        refine fm_cut _ (by omega) (fun m _ _ => ?_)
        unfold rowD colD
        rw [fm_cut _ (b := 0) (n := 45) (by omega) (fun a _ _ => ?_)]
        · simp
        · rw [fm_cut _ (b := 0) (n := 45) (by omega) (fun b _ _ => ?_)]
          · simp
          · unfold hD; rw [if_neg]; omega
      rw [← h2, listD_2]
    rw [this]; rfl
  rintro ex ρ2 ms2 h2 d2 ⟨rfl, rfl, rfl, v, k3, A⟩
  repeat (first | apply run_seq | apply run_block | apply end_seq | apply end_blk_hit | apply end_blk_miss rfl | apply end_blk | apply end_seq_exit | apply end_seq_ret | apply end_blk_ret | apply run_skip | apply run_ret | apply run_exit | (apply run_region (by decide); (simp (maxSteps := 9999999) only [go_sem, k3]; rfl)) | (apply run_regionN (by decide); (simp (maxSteps := 9999999) only [go_sem, k3]; rfl)) | (refine run_cond_t ?_ ?_; · simp only [go_sem]) | (refine run_cond_f ?_ ?_; · simp only [go_sem]))
  have A' := A.at0
  exact end_nil (A'.q1 rfl rfl (by simp (maxSteps := 9999999) only [go_sem]))
end Go.Proofs.YtdmfhdnpakgkpaaDoor.Sh


/- Primes: the walk. -/
namespace Go.Proofs.YtdmfhdnpakgkpaaDoor.Sh
open Go
set_option maxRecDepth 100000
set_option maxHeartbeats 4000000

theorem celF_len (x : Fa) : (celF x).length = 3 := rfl
theorem celF_sc (x : Fa) : (celF x).all sc = true := rfl
/-- the factors so far -/
def uL (n a b : Nat) : List Fa := listU n a ++ rowU n a b
theorem rowU_len (n a b : Nat) : (rowU n a b).length ≤ b := by
  have : (rowU n a b).length ≤ b * 1 := fm_len _ 1 (fun b => by unfold gU; split <;> simp) b
  omega
theorem uL_len (n a b : Nat) : (uL n a b).length ≤ a * 45 + b := by
  unfold uL
  rw [List.length_append]
  have := len_U n a
  have := rowU_len n a b
  omega
theorem uL_succ {n a b : Nat} : uL n a (b + 1) = uL n a b ++ gU n a b := by
  unfold uL rowU
  rw [fm_succ, List.append_assoc]
theorem uL_end {n a b : Nat} (hb : b ≤ 45) (h : n < a * a + b * b) : uL n a b = listU n (a + 1) := by
  have e : rowU n a 45 = rowU n a b := by
    unfold rowU
    refine fm_cut _ hb (fun i h1 _ => ?_)
    unfold gU; rw [if_neg]
    have := Nat.mul_le_mul h1 h1
    omega
  unfold uL listU
  rw [fm_succ, e]
theorem listU_end {n a : Nat} (ha : a ≤ 45) (h : n < a * a) : listU n a = listU n 45 := by
  unfold listU
  refine (fm_cut _ ha (fun i h1 _ => ?_)).symm
  unfold rowU
  rw [fm_cut _ (b := 0) (n := 45) (by omega) (fun j _ _ => ?_)]
  · simp
  · unfold gU; rw [if_neg]
    have := Nat.mul_le_mul h1 h1
    omega
theorem listU_1 (n : Nat) : listU n 1 = [] := by
  unfold listU rowU
  rw [fm_cut _ (b := 0) (n := 1) (by omega) (fun a _ _ => ?_)]
  · simp
  · rw [fm_cut _ (b := 0) (n := 45) (by omega) (fun j _ _ => ?_)]
    · simp
    · unfold gU; rw [if_neg]; omega

theorem colU_loop (cx : Cx) {n a : Nat} (hn : n ≤ 2000) (ha1 : 1 ≤ a) (ha : a < 45) (H : SHeap) : ∀ k ρ ms h' d', (∃ (b : Nat) (v : Value), b + k = 45 ∧ ρ 0 = .int .i64 n ∧ ρ 4 = v ∧ ρ 5 = .int .i64 a ∧ ρ 6 = .int .i64 b ∧ AccS H h' v ((uL n a b).flatMap celF) (uL n a b).length 3 84 ∧ ms = [] ∧ d' = []) →
    LoopW M cx 6 sf51L1 ρ ms h' d' (fun ex ρ' ms' h' d' => ex = .exit 2 ∧ ms' = [] ∧ d' = [] ∧ ∃ v : Value, ρ' 0 = .int .i64 n ∧ ρ' 4 = v ∧ ρ' 5 = .int .i64 a ∧ AccS H h' v ((listU n (a + 1)).flatMap celF) (listU n (a + 1)).length 3 84) := by
  refine loop_run _ ?_
  rintro k ρ ms h' d' ⟨b, v, hk, r0, r4, r5, r6, A, rfl, rfl⟩
  unfold sf51L1
  have w1 := mul_w (a := a) (b := a) (by omega) (by omega)
  have w2 := mul_w (a := b) (b := b) (by omega) (by omega)
  have w3 := add_w (sq_le (show a ≤ 1000001 by omega)) (sq_le (show b ≤ 1000001 by omega))
  by_cases hc : n < a * a + b * b
  · have e1 : ¬ (((a * a + b * b : Nat) : Int) ≤ n) := by omega
    repeat (first | apply run_seq | apply run_block | apply end_seq | apply end_blk_hit | apply end_blk_miss rfl | apply end_blk | apply end_seq_exit | apply end_seq_ret | apply end_blk_ret | apply run_skip | apply run_ret | apply run_exit | (apply run_region (by decide); (simp (maxSteps := 9999999) only [go_sem, r0, r5, r6, w1, w2, w3, e1]; rfl)) | (apply run_regionN (by decide); (simp (maxSteps := 9999999) only [go_sem, r0, r5, r6, w1, w2, w3, e1]; rfl)) | (refine run_cond_t ?_ ?_; · simp only [go_sem]) | (refine run_cond_f ?_ ?_; · simp only [go_sem]))
    refine end_nil ⟨rfl, rfl, rfl, v, by simp (maxSteps := 9999999) only [go_sem, r0], by simp (maxSteps := 9999999) only [go_sem, r4], by simp (maxSteps := 9999999) only [go_sem, r5], ?_⟩
    rw [← uL_end (by omega) hc]; exact A
  · have e1 : ((a * a + b * b : Nat) : Int) ≤ n := by omega
    have hb : b < 45 := sq_45 (show b * b ≤ n by omega) hn
    have ew : IntKind.i64.wrap ((b : Int) + 1) = ((b + 1 : Nat) : Int) := by rw [wrap64 (by omega) (by omega)]; rfl
    have bd : Bd 30000 ((a : Int), (b : Int)) := ⟨by dsimp only; omega, by dsimp only; omega, by dsimp only; omega, by dsimp only; omega⟩
    have c75 : ∀ h, M.call 75 [.agg #[.int .i64 a, .int .i64 b]] h = some (.bool (primeP ((a : Int), (b : Int))), h, []) := fun h => prime75 (p := ((a : Int), (b : Int))) bd h
    have c59 : ∀ h, M.call 59 [.agg #[.int .i64 a, .int .i64 b]] h = some (.int .i64 ((a * a + b * b : Nat) : Int), h, []) := fun h => by
      have := norm59 (p := ((a : Int), (b : Int))) bd (by decide) h
      rw [show nrm ((a : Int), (b : Int)) = ((a * a + b * b : Nat) : Int) by unfold nrm; dsimp only; rw [← Int.natCast_mul, ← Int.natCast_mul]; rfl] at this
      exact this
    have hs : uL n a (b + 1) = uL n a b ++ gU n a b := uL_succ
    have hlen := uL_len n a b
    unfold gU at hs
    by_cases hp : primeP ((a : Int), (b : Int)) = true
    · rw [if_pos ⟨ha1, by omega, hp⟩] at hs
      rw [hp] at c75
      obtain ⟨H2, v2, ap, -, A2, -, -⟩ := ((A.app [.cells [.int .i64 a, .int .i64 b] 68 true 0 []]).app [.cells (celF (fa a b)) 84 true 0 []]).push (bytes := 24) (new := celF (fa a b)) (by rw [app_get0]; rfl) rfl rfl (by decide) rfl (by decide) (by omega)
      have hpp : (uL n a (b + 1)).flatMap celF = (uL n a b).flatMap celF ++ celF (fa a b) := by rw [hs, List.flatMap_append]; simp
      have hl : (uL n a (b + 1)).length = (uL n a b).length + 1 := by rw [hs, List.length_append]; rfl
      rw [← hpp, ← hl] at A2
      obtain ⟨va, vc, rfl⟩ := A.shape
      simp only [celF, fa, List.append_assoc, List.length_append, List.length_cons, List.length_nil, List.cons_append, List.nil_append, Nat.zero_add] at ap
      repeat (first | apply run_seq | apply run_block | apply end_seq | apply end_blk_hit | apply end_blk_miss rfl | apply end_blk | apply end_seq_exit | apply end_seq_ret | apply end_blk_ret | apply run_skip | apply run_ret | apply run_exit | (apply run_region (by decide); (simp (maxSteps := 9999999) only [go_sem, r0, r4, r5, r6, w1, w2, w3, e1, c75, c59, ap, ew]; rfl)) | (apply run_regionN (by decide); (simp (maxSteps := 9999999) only [go_sem, r0, r4, r5, r6, w1, w2, w3, e1, c75, c59, ap, ew]; rfl)) | (refine run_cond_t ?_ ?_; · simp only [go_sem]) | (refine run_cond_f ?_ ?_; · simp only [go_sem]))
      exact end_nil ⟨k - 1, by omega, b + 1, v2, by omega, by simp (maxSteps := 9999999) only [go_sem, r0], by simp (maxSteps := 9999999) only [go_sem], by simp (maxSteps := 9999999) only [go_sem, r5], by simp (maxSteps := 9999999) only [go_sem, ew], A2, rfl, rfl⟩
    · rw [if_neg (fun h => hp h.2.2), List.append_nil] at hs
      have hp' : primeP ((a : Int), (b : Int)) = false := by simpa using hp
      rw [hp'] at c75
      repeat (first | apply run_seq | apply run_block | apply end_seq | apply end_blk_hit | apply end_blk_miss rfl | apply end_blk | apply end_seq_exit | apply end_seq_ret | apply end_blk_ret | apply run_skip | apply run_ret | apply run_exit | (apply run_region (by decide); (simp (maxSteps := 9999999) only [go_sem, r0, r4, r5, r6, w1, w2, w3, e1, c75, ew]; rfl)) | (apply run_regionN (by decide); (simp (maxSteps := 9999999) only [go_sem, r0, r4, r5, r6, w1, w2, w3, e1, c75, ew]; rfl)) | (refine run_cond_t ?_ ?_; · simp only [go_sem]) | (refine run_cond_f ?_ ?_; · simp only [go_sem]))
      exact end_nil ⟨k - 1, by omega, b + 1, v, by omega, by simp (maxSteps := 9999999) only [go_sem, r0], by simp (maxSteps := 9999999) only [go_sem, r4], by simp (maxSteps := 9999999) only [go_sem, r5], by simp (maxSteps := 9999999) only [go_sem, ew], by rw [hs]; exact A.app _, rfl, rfl⟩
theorem tabU_loop (cx : Cx) {n : Nat} (hn : n ≤ 2000) (H : SHeap) : ∀ k ρ ms h' d', (∃ (a : Nat) (v : Value), a + k = 45 ∧ 1 ≤ a ∧ ρ 0 = .int .i64 n ∧ ρ 4 = v ∧ ρ 5 = .int .i64 a ∧ AccS H h' v ((listU n a).flatMap celF) (listU n a).length 3 84 ∧ ms = [] ∧ d' = []) →
    LoopW M cx 6 sf51L2 ρ ms h' d' (fun ex ρ' ms' h' d' => ex = .exit 0 ∧ ms' = [] ∧ d' = [] ∧ ∃ v : Value, ρ' 4 = v ∧ AccS H h' v ((listU n 45).flatMap celF) (listU n 45).length 3 84) := by
  refine loop_run _ ?_
  rintro k ρ ms h' d' ⟨a, v, hk, ha1, r0, r4, r5, A, rfl, rfl⟩
  unfold sf51L2
  have w1 := mul_w (a := a) (b := a) (by omega) (by omega)
  by_cases hc : n < a * a
  · have e1 : ¬ (((a * a : Nat) : Int) ≤ n) := by omega
    repeat (first | apply run_seq | apply run_block | apply end_seq | apply end_blk_hit | apply end_blk_miss rfl | apply end_blk | apply end_seq_exit | apply end_seq_ret | apply end_blk_ret | apply run_skip | apply run_ret | apply run_exit | (apply run_region (by decide); (simp (maxSteps := 9999999) only [go_sem, r0, r5, w1, e1]; rfl)) | (apply run_regionN (by decide); (simp (maxSteps := 9999999) only [go_sem, r0, r5, w1, e1]; rfl)) | (refine run_cond_t ?_ ?_; · simp only [go_sem]) | (refine run_cond_f ?_ ?_; · simp only [go_sem]))
    refine end_nil ⟨rfl, rfl, rfl, v, by simp (maxSteps := 9999999) only [go_sem, r4], ?_⟩
    rw [← listU_end (by omega) hc]; exact A
  · have e1 : ((a * a : Nat) : Int) ≤ n := by omega
    have ha : a < 45 := sq_45 (show a * a ≤ n by omega) hn
    have ew : IntKind.i64.wrap ((a : Int) + 1) = ((a + 1 : Nat) : Int) := by rw [wrap64 (by omega) (by omega)]; rfl
    have e0 : uL n a 0 = listU n a := by unfold uL rowU; simp
    repeat (first | apply run_seq | apply run_block | apply end_seq | apply end_blk_hit | apply end_blk_miss rfl | apply end_blk | apply end_seq_exit | apply end_seq_ret | apply end_blk_ret | apply run_skip | apply run_ret | apply run_exit | (apply run_region (by decide); (simp (maxSteps := 9999999) only [go_sem, r0, r5, w1, e1]; rfl)) | (apply run_regionN (by decide); (simp (maxSteps := 9999999) only [go_sem, r0, r5, w1, e1]; rfl)) | (refine run_cond_t ?_ ?_; · simp only [go_sem]) | (refine run_cond_f ?_ ?_; · simp only [go_sem]))
    refine run_loop (colU_loop cx (n := n) (a := a) hn ha1 ha H 45 _ _ _ _ ⟨0, v, by omega, by simp (maxSteps := 9999999) only [go_sem, r0], by simp (maxSteps := 9999999) only [go_sem, r4], by simp (maxSteps := 9999999) only [go_sem, r5], by simp (maxSteps := 9999999) only [go_sem], by rw [e0]; exact A, rfl, rfl⟩) ?_
    rintro ex ρ' ms' h1 d1 ⟨rfl, rfl, rfl, v2, k0, k4, k5, A2⟩
    repeat (first | apply run_seq | apply run_block | apply end_seq | apply end_blk_hit | apply end_blk_miss rfl | apply end_blk | apply end_seq_exit | apply end_seq_ret | apply end_blk_ret | apply run_skip | apply run_ret | apply run_exit | (apply run_region (by decide); (simp (maxSteps := 9999999) only [go_sem, k5, ew]; rfl)) | (apply run_regionN (by decide); (simp (maxSteps := 9999999) only [go_sem, k5, ew]; rfl)) | (refine run_cond_t ?_ ?_; · simp only [go_sem]) | (refine run_cond_f ?_ ?_; · simp only [go_sem]))
    exact end_nil ⟨k - 1, by omega, a + 1, v2, by omega, by omega, by simp (maxSteps := 9999999) only [go_sem, k0], by simp (maxSteps := 9999999) only [go_sem, k4], by simp (maxSteps := 9999999) only [go_sem, ew], A2, rfl, rfl⟩
end Go.Proofs.YtdmfhdnpakgkpaaDoor.Sh


/- Primes: the end of the walk. -/
namespace Go.Proofs.YtdmfhdnpakgkpaaDoor.Sh
open Go
set_option maxRecDepth 100000
set_option maxHeartbeats 4000000

/-- the numbers of the first factors -/
def gP (f : Nat → Fa) (i : Nat) : List (Int × Int) := (List.range i).map (fun j => (f j).2)
theorem gP_succ (f : Nat → Fa) (i : Nat) : gP f (i + 1) = gP f i ++ [(f i).2] := by unfold gP; rw [List.range_succ, List.map_append]; rfl
theorem load_same {h h' : SHeap} {b o : Nat} (e : h'[b]? = h[b]?) (t : Option Nat) : loadS h' t (.pointer (some ⟨b, o, none⟩)) = loadS h t (.pointer (some ⟨b, o, none⟩)) := by
  cases t with
  | none => rw [load_rdO, load_rdO, e]
  | some n => rw [load_rdON, load_rdON, e]
theorem copy_loop (cx : Cx) {N b cap : Nat} {h1 h2 : SHeap} {old : List Nat} {f : Nat → Fa} (hN : N ≤ 60000) (S : SA celF N b 84 h1 old h2 f) : ∀ k ρ ms h' d', (∃ (i : Nat) (v : Value), i + k = N ∧ ρ 8 = v ∧ ρ 49 = .slice (some ⟨b, 0, none⟩) N cap ∧ ρ 50 = .int .i64 N ∧ ρ 51 = .int .i64 i ∧ AccS h2 h' v (prs (gP f i)) i 2 34 ∧ ms = [] ∧ d' = []) →
    LoopW M cx 6 sf51L0 ρ ms h' d' (fun ex ρ' ms' h' d' => ex = .exit 4 ∧ ms' = [] ∧ d' = [] ∧ ∃ v : Value, ρ' 8 = v ∧ AccS h2 h' v (prs (gP f N)) N 2 34) := by
  refine loop_run _ ?_
  rintro k ρ ms h' d' ⟨i, v, hk, r8, r49, r50, r51, A, rfl, rfl⟩
  unfold sf51L0
  by_cases hc : i = N
  · have e1 : ¬ ((i : Int) < N) := by omega
    repeat (first | apply run_seq | apply run_block | apply end_seq | apply end_blk_hit | apply end_blk_miss rfl | apply end_blk | apply end_seq_exit | apply end_seq_ret | apply end_blk_ret | apply run_skip | apply run_ret | apply run_exit | (apply run_region (by decide); (simp (maxSteps := 9999999) only [go_sem, r49, r50, r51, e1]; rfl)) | (apply run_regionN (by decide); (simp (maxSteps := 9999999) only [go_sem, r49, r50, r51, e1]; rfl)) | (refine run_cond_t ?_ ?_; · simp only [go_sem]) | (refine run_cond_f ?_ ?_; · simp only [go_sem]))
    refine end_nil ⟨rfl, rfl, rfl, v, by simp (maxSteps := 9999999) only [go_sem, r8], ?_⟩
    rw [← hc]; exact A
  · have e1 : ((i : Int) < N) := by omega
    have e2 : (0 : Int) ≤ i := by omega
    have l1 := S.load celF_len (show i < N by omega)
    rw [← load_same (A.same b S.lt)] at l1
    have hs := gP_succ f i
    have ew : IntKind.i64.wrap ((i : Int) + 1) = ((i + 1 : Nat) : Int) := by rw [wrap64 (by omega) (by omega)]; rfl
    generalize f i = x at *
    unfold celF at l1
    obtain ⟨H2, v2, ap, -, A2, -, -⟩ := ((A.app [.cells [.int .i64 x.1, .int .i64 x.2.1, .int .i64 x.2.2] 84 true 0 []]).app [.cells [.int .i64 x.2.1, .int .i64 x.2.2] 34 true 0 []]).push (bytes := 16) (new := [.int .i64 x.2.1, .int .i64 x.2.2]) (by rw [app_get0]; rfl) rfl rfl (by decide) rfl (by decide) (by omega)
    have hpp : prs (gP f (i + 1)) = prs (gP f i) ++ [.int .i64 x.2.1, .int .i64 x.2.2] := by rw [hs, prs_app]; rfl
    rw [← hpp] at A2
    obtain ⟨va, vc, rfl⟩ := A.shape
    simp only [List.append_assoc, List.length_append, List.length_cons, List.length_nil, List.cons_append, List.nil_append, Nat.zero_add] at ap
    repeat (first | apply run_seq | apply run_block | apply end_seq | apply end_blk_hit | apply end_blk_miss rfl | apply end_blk | apply end_seq_exit | apply end_seq_ret | apply end_blk_ret | apply run_skip | apply run_ret | apply run_exit | (apply run_region (by decide); (simp (maxSteps := 9999999) only [go_sem, r8, r49, r50, r51, e1, e2, l1, ap, ew]; rfl)) | (apply run_regionN (by decide); (simp (maxSteps := 9999999) only [go_sem, r8, r49, r50, r51, e1, e2, l1, ap, ew]; rfl)) | (refine run_cond_t ?_ ?_; · simp only [go_sem]) | (refine run_cond_f ?_ ?_; · simp only [go_sem]))
    exact end_nil ⟨k - 1, by omega, i + 1, v2, by omega, by simp (maxSteps := 9999999) only [go_sem], by simp (maxSteps := 9999999) only [go_sem, r49], by simp (maxSteps := 9999999) only [go_sem, r50], by simp (maxSteps := 9999999) only [go_sem, ew], A2, rfl, rfl⟩
theorem copy0_loop (cx : Cx) (H : SHeap) : ∀ (k : Nat) ρ ms h' d', (ρ 8 = .slice none 0 0 ∧ ρ 50 = .int .i64 0 ∧ ρ 51 = .int .i64 0 ∧ ms = [] ∧ h' = H ∧ d' = []) →
    LoopW M cx 6 sf51L0 ρ ms h' d' (fun ex ρ' ms' h' d' => ex = .exit 4 ∧ ms' = [] ∧ d' = [] ∧ h' = H ∧ ρ' 8 = .slice none 0 0) := by
  refine loop_run _ ?_
  rintro k ρ ms h' d' ⟨r8, r50, r51, rfl, rfl, rfl⟩
  unfold sf51L0
  repeat (first | apply run_seq | apply run_block | apply end_seq | apply end_blk_hit | apply end_blk_miss rfl | apply end_blk | apply end_seq_exit | apply end_seq_ret | apply end_blk_ret | apply run_skip | apply run_ret | apply run_exit | (apply run_region (by decide); (simp (maxSteps := 9999999) only [go_sem, r8, r50, r51]; rfl)) | (apply run_regionN (by decide); (simp (maxSteps := 9999999) only [go_sem, r8, r50, r51]; rfl)) | (refine run_cond_t ?_ ?_; · simp only [go_sem]) | (refine run_cond_f ?_ ?_; · simp only [go_sem]))
  exact end_nil ⟨rfl, rfl, rfl, rfl, by simp (maxSteps := 9999999) only [go_sem, r8]⟩

/-- the numbers in order -/
def prL (n : Nat) : List (Int × Int) := (listD (n + 1)).map (fun x => x.2)
theorem prL_len {n : Nat} : (prL n).length = (listU n 45).length := by
  unfold prL
  rw [List.length_map, (perm_UD n).length_eq]
/-- Primes -/
theorem primes51 {n : Nat} (hn : n ≤ 2000) (h : SHeap) : M.call 51 [.int .i64 n] h = some (.tuple #[resV h (prL n).length 2, .int .i64 0], resH h (prs (prL n)) (prL n).length 34, []) := by
  have e1 : ¬ ((n : Int) < 0) := by omega
  have e2 : ¬ ((2000 : Int) < n) := by omega
  refine call_run sf51 rfl rfl rfl ?_
  unfold sf51
  repeat (first | apply run_seq | apply run_block | apply end_seq | apply end_blk_hit | apply end_blk_miss rfl | apply end_blk | apply end_seq_exit | apply end_seq_ret | apply end_blk_ret | apply run_skip | apply run_ret | apply run_exit | (apply run_region (by decide); (simp (maxSteps := 9999999) only [go_sem, argR, e1, e2]; rfl)) | (apply run_regionN (by decide); (simp (maxSteps := 9999999) only [go_sem, argR, e1, e2]; rfl)) | (refine run_cond_t ?_ ?_; · simp only [go_sem]) | (refine run_cond_f ?_ ?_; · simp only [go_sem]))
  refine run_loop (tabU_loop _ hn h 44 _ _ _ _ ⟨1, .slice none 0 0, by omega, by omega, by simp (maxSteps := 9999999) only [go_sem, argR], by simp (maxSteps := 9999999) only [go_sem], by simp (maxSteps := 9999999) only [go_sem], by rw [listU_1]; exact AccS.nil0 h 3 84, rfl, rfl⟩) ?_
  rintro ex ρ' ms' h1 d1 ⟨rfl, rfl, rfl, v, k4, A⟩
  have hlU := len_U n 45
  by_cases hz : (listU n 45).length = 0
  · have hv : v = .slice none 0 0 ∧ True := by
      have := A.acc
      rw [hz] at this
      rcases this with ⟨_, e, _⟩ | ⟨b, old, _, _, _, _, _, _, hh⟩
      · exact ⟨by first | exact e | assumption, trivial⟩
      · exact ⟨by first | assumption | omega, trivial⟩
    obtain ⟨rfl, -⟩ := hv
    have c := fun h => sort0F 71 h
    repeat (first | apply run_seq | apply run_block | apply end_seq | apply end_blk_hit | apply end_blk_miss rfl | apply end_blk | apply end_seq_exit | apply end_seq_ret | apply end_blk_ret | apply run_skip | apply run_ret | apply run_exit | (apply run_region (by decide); (simp (maxSteps := 9999999) only [go_sem, k4, c]; rfl)) | (apply run_regionN (by decide); (simp (maxSteps := 9999999) only [go_sem, k4, c]; rfl)) | (refine run_cond_t ?_ ?_; · simp only [go_sem]) | (refine run_cond_f ?_ ?_; · simp only [go_sem]))
    refine run_loop (copy0_loop _ h1 0 _ _ _ _ ⟨by simp (maxSteps := 9999999) only [go_sem], by simp (maxSteps := 9999999) only [go_sem], by simp (maxSteps := 9999999) only [go_sem], rfl, rfl, rfl⟩) ?_
    rintro ex ρ2 ms2 h2 d2 ⟨rfl, rfl, rfl, rfl, k8⟩
    repeat (first | apply run_seq | apply run_block | apply end_seq | apply end_blk_hit | apply end_blk_miss rfl | apply end_blk | apply end_seq_exit | apply end_seq_ret | apply end_blk_ret | apply run_skip | apply run_ret | apply run_exit | (apply run_region (by decide); (simp (maxSteps := 9999999) only [go_sem, k8]; rfl)) | (apply run_regionN (by decide); (simp (maxSteps := 9999999) only [go_sem, k8]; rfl)) | (refine run_cond_t ?_ ?_; · simp only [go_sem]) | (refine run_cond_f ?_ ?_; · simp only [go_sem]))
    have hl : (prL n).length = 0 := by rw [prL_len, hz]
    rw [hl, show resV h 0 2 = .slice none 0 0 from rfl, show resH h (prs (prL n)) 0 34 = h from rfl]
    exact end_nil (q_free [.slice none 0 0, .int .i64 0] (by simp (maxSteps := 9999999) only [go_sem, k8]) rfl rfl rfl (fun _ => rfl) (A.at0.take rfl) rfl)
  · obtain ⟨b, old, rfl, hb, hb1, hold⟩ := A.at0.cellsAt hz
    have hbl : b < h1.length := (List.getElem?_eq_some_iff.1 hb).1
    generalize hf : (fun i => (listU n 45).getD i (0, 0, 0)) = f at *
    have hfl : flF celF f (listU n 45).length = (listU n 45).flatMap celF := by
      rw [flF_list, ← hf, getD_range]
    have S : SA celF (listU n 45).length b 84 h1 old h1 f := ⟨rfl, fun j _ _ => rfl, old, fun c hc => hc, by rw [hfl]; exact hb⟩
    obtain ⟨h2, f2, cs, S2, W, O⟩ := sortF (cap := UNK + 3) CF celF_len celF_sc (by omega) (fun c hc => by have := (hold c hc).2; omega) S
    have hL : (List.range (listU n 45).length).map f2 = listD (n + 1) := by
      refine sorted_eq (c := cF) (fun x y => cF_anti) W O (l := listU n 45) ?_ (perm_UD n) (le_listD _)
      rw [← hf, getD_range]
    have hg : gP f2 (listU n 45).length = prL n := by
      unfold gP prL
      rw [← hL, List.map_map]; rfl
    have hlen2 : h.length ≤ h2.length := by rw [S2.len]; omega
    have hpre : h2.take h.length = h := take_of_same hlen2 (fun j hj => by
      rw [S2.same j (by omega) (fun hm => by have := (hold j hm).1; omega)]
      exact A.same j hj)
    obtain ⟨g, rfl⟩ : ∃ g, h2 = h ++ g := ⟨h2.drop h.length, by have := List.take_append_drop h.length h2; rw [hpre] at this; exact this.symm⟩
    repeat (first | apply run_seq | apply run_block | apply end_seq | apply end_blk_hit | apply end_blk_miss rfl | apply end_blk | apply end_seq_exit | apply end_seq_ret | apply end_blk_ret | apply run_skip | apply run_ret | apply run_exit | (apply run_region (by decide); (simp (maxSteps := 9999999) only [go_sem, k4, cs]; rfl)) | (apply run_regionN (by decide); (simp (maxSteps := 9999999) only [go_sem, k4, cs]; rfl)) | (refine run_cond_t ?_ ?_; · simp only [go_sem]) | (refine run_cond_f ?_ ?_; · simp only [go_sem]))
    refine run_loop (copy_loop _ (cap := UNK + 3) (by omega) S2 (listU n 45).length _ _ _ _ ⟨0, .slice none 0 0, by omega, by simp (maxSteps := 9999999) only [go_sem], by simp (maxSteps := 9999999) only [go_sem], by simp (maxSteps := 9999999) only [go_sem], by simp (maxSteps := 9999999) only [go_sem], AccS.nil0 _ 2 34, rfl, rfl⟩) ?_
    rintro ex ρ2 ms2 h3 d3 ⟨rfl, rfl, rfl, v, k8, A3⟩
    repeat (first | apply run_seq | apply run_block | apply end_seq | apply end_blk_hit | apply end_blk_miss rfl | apply end_blk | apply end_seq_exit | apply end_seq_ret | apply end_blk_ret | apply run_skip | apply run_ret | apply run_exit | (apply run_region (by decide); (simp (maxSteps := 9999999) only [go_sem, k8]; rfl)) | (apply run_regionN (by decide); (simp (maxSteps := 9999999) only [go_sem, k8]; rfl)) | (refine run_cond_t ?_ ?_; · simp only [go_sem]) | (refine run_cond_f ?_ ?_; · simp only [go_sem]))
    rw [hg, ← prL_len] at A3
    exact end_nil (A3.q2 _ rfl rfl (by simp (maxSteps := 9999999) only [go_sem, k8]) (by simp (maxSteps := 9999999) only [go_sem]) rfl)
end Go.Proofs.YtdmfhdnpakgkpaaDoor.Sh


/- GaussPrimes: the law. -/
namespace Go.Proofs.YtdmfhdnpakgkpaaDoor.Sh
open Go
set_option maxRecDepth 100000
set_option maxHeartbeats 4000000

theorem primes51_no {x : Int} (hx : x < 0 ∨ 2000 < x) (h : SHeap) : M.call 51 [.int .i64 x] h = some (.tuple #[.slice none 0 0, .int .i64 1], h, []) := by
  refine call_run sf51 rfl rfl rfl ?_
  unfold sf51
  by_cases c : x < 0
  · have c' : (x < 0) = True := eq_true c
    repeat (first | apply run_seq | apply run_block | apply end_seq | apply end_blk_hit | apply end_blk_miss rfl | apply end_blk | apply end_seq_exit | apply end_seq_ret | apply end_blk_ret | apply run_skip | apply run_ret | apply run_exit | (apply run_region (by decide); (simp (maxSteps := 9999999) only [go_sem, argR, c']; rfl)) | (apply run_regionN (by decide); (simp (maxSteps := 9999999) only [go_sem, argR, c']; rfl)) | (refine run_cond_t ?_ ?_; · simp only [go_sem]) | (refine run_cond_f ?_ ?_; · simp only [go_sem]))
    exact end_nil (q_free [.slice none 0 0, .int .i64 1] (by simp (maxSteps := 9999999) only [go_sem]) rfl rfl rfl (fun _ => rfl) (take_self _) rfl)
  · have c' : (x < 0) = False := eq_false c
    have d' : (2000 < x) = True := eq_true (by omega)
    repeat (first | apply run_seq | apply run_block | apply end_seq | apply end_blk_hit | apply end_blk_miss rfl | apply end_blk | apply end_seq_exit | apply end_seq_ret | apply end_blk_ret | apply run_skip | apply run_ret | apply run_exit | (apply run_region (by decide); (simp (maxSteps := 9999999) only [go_sem, argR, c', d']; rfl)) | (apply run_regionN (by decide); (simp (maxSteps := 9999999) only [go_sem, argR, c', d']; rfl)) | (refine run_cond_t ?_ ?_; · simp only [go_sem]) | (refine run_cond_f ?_ ?_; · simp only [go_sem]))
    exact end_nil (q_free [.slice none 0 0, .int .i64 1] (by simp (maxSteps := 9999999) only [go_sem]) rfl rfl rfl (fun _ => rfl) (take_self _) rfl)
theorem law13_loop (cx : Cx) (H : SHeap) : ∀ k ρ ms h' d', (∃ (i : Nat) (x : Int), i + k = 2 ∧ ρ 0 = .int .i64 x ∧ ρ 3 = .int .i64 i ∧ ms = [] ∧ (∃ g, h' = H ++ g) ∧ d' = []) →
    LoopW M cx 6 sf13L0 ρ ms h' d' (fun ex ρ' ms' h' d' => ex = .exit 0 ∧ ms' = [] ∧ (∃ g, h' = H ++ g) ∧ d' = []) := by
  refine loop_run _ ?_
  rintro k ρ ms h' d' ⟨i, x, hi, r0, r3, rfl, ⟨g, rfl⟩, rfl⟩
  unfold sf13L0
  by_cases hk : k = 0
  · have e1 : ¬ ((i : Int) < 2) := by omega
    repeat (first | apply run_seq | apply run_block | apply end_seq | apply end_blk_hit | apply end_blk_miss rfl | apply end_blk | apply end_seq_exit | apply end_seq_ret | apply end_blk_ret | apply run_skip | apply run_ret | apply run_exit | (apply run_region (by decide); (simp (maxSteps := 9999999) only [go_sem, r0, r3, e1]; rfl)) | (apply run_regionN (by decide); (simp (maxSteps := 9999999) only [go_sem, r0, r3, e1]; rfl)) | (refine run_cond_t ?_ ?_; · simp only [go_sem]) | (refine run_cond_f ?_ ?_; · simp only [go_sem]))
    exact end_nil ⟨rfl, rfl, ⟨g, rfl⟩, rfl⟩
  · have e1 : ((i : Int) < 2) := by omega
    have ew : IntKind.i64.wrap ((i : Int) + 1) = ((i + 1 : Nat) : Int) := by rw [wrap64 (by omega) (by omega)]; rfl
    obtain ⟨q1, q2⟩ := u64_mod' x 300 (by decide)
    generalize hq : (IntKind.u64.wrap x).tmod 300 = q at *
    have wq : IntKind.i64.wrap q = q := wrap64 (by omega) (by omega)
    by_cases hx : x < 0 ∨ 2000 < x
    · have c51 := fun h => primes51_no hx h
      by_cases c : x < 0
      · have c' : (x < 0) = True := eq_true c
        repeat (first | apply run_seq | apply run_block | apply end_seq | apply end_blk_hit | apply end_blk_miss rfl | apply end_blk | apply end_seq_exit | apply end_seq_ret | apply end_blk_ret | apply run_skip | apply run_ret | apply run_exit | (apply run_region (by decide); (simp (maxSteps := 9999999) only [go_sem, r0, r3, e1, c51, c', hq, wq, ew]; rfl)) | (apply run_regionN (by decide); (simp (maxSteps := 9999999) only [go_sem, r0, r3, e1, c51, c', hq, wq, ew]; rfl)) | (refine run_cond_t ?_ ?_; · simp only [go_sem]) | (refine run_cond_f ?_ ?_; · simp only [go_sem]))
        exact end_nil ⟨k - 1, by omega, i + 1, q, by omega, by simp (maxSteps := 9999999) only [go_sem], by simp (maxSteps := 9999999) only [go_sem, ew], rfl, ⟨g, rfl⟩, rfl⟩
      · have c' : (x < 0) = False := eq_false c
        have d' : (2000 < x) = True := eq_true (by omega)
        repeat (first | apply run_seq | apply run_block | apply end_seq | apply end_blk_hit | apply end_blk_miss rfl | apply end_blk | apply end_seq_exit | apply end_seq_ret | apply end_blk_ret | apply run_skip | apply run_ret | apply run_exit | (apply run_region (by decide); (simp (maxSteps := 9999999) only [go_sem, r0, r3, e1, c51, c', d', hq, wq, ew]; rfl)) | (apply run_regionN (by decide); (simp (maxSteps := 9999999) only [go_sem, r0, r3, e1, c51, c', d', hq, wq, ew]; rfl)) | (refine run_cond_t ?_ ?_; · simp only [go_sem]) | (refine run_cond_f ?_ ?_; · simp only [go_sem]))
        exact end_nil ⟨k - 1, by omega, i + 1, q, by omega, by simp (maxSteps := 9999999) only [go_sem], by simp (maxSteps := 9999999) only [go_sem, ew], rfl, ⟨g, rfl⟩, rfl⟩
    · have c' : (x < 0) = False := eq_false (by omega)
      have d' : (2000 < x) = False := eq_false (by omega)
      obtain ⟨n, rfl⟩ : ∃ n : Nat, x = n := ⟨x.toNat, by omega⟩
      have hn : n ≤ 2000 := by omega
      have c51 := primes51 hn (H ++ g)
      have c52 := primesR52 hn (resH (H ++ g) (prs (prL n)) (prL n).length 34)
      rw [show (listD (n + 1)).map (fun x => x.2) = prL n from rfl] at c52
      have hL : (prL n).length ≤ 2025 := by rw [prL_len]; exact len_U n 45
      obtain ⟨g1, hg1⟩ := resH_pre (H ++ g) (prs (prL n)) (prL n).length 34
      obtain ⟨g2, hg2⟩ := resH_pre (resH (H ++ g) (prs (prL n)) (prL n).length 34) (prs (prL n)) (prL n).length 34
      have p1 := PS.ofRes (H ++ g) g2 (prL n) 34
      have p2 := PS.ofRes (resH (H ++ g) (prs (prL n)) (prL n).length 34) [] (prL n) 34
      rw [List.append_nil, hg2] at p2
      rw [hg2] at c52
      generalize resV (resH (H ++ g) (prs (prL n)) (prL n).length 34) (prL n).length 2 = w at *
      generalize resV (H ++ g) (prL n).length 2 = u at *
      generalize resH (H ++ g) (prs (prL n)) (prL n).length 34 = H1 at *
      have c19 := pairs19 p1 p2 (by omega)
      rw [decide_eq_true rfl] at c19
      repeat (first | apply run_seq | apply run_block | apply end_seq | apply end_blk_hit | apply end_blk_miss rfl | apply end_blk | apply end_seq_exit | apply end_seq_ret | apply end_blk_ret | apply run_skip | apply run_ret | apply run_exit | (apply run_region (by decide); (simp (maxSteps := 9999999) only [go_sem, r0, r3, e1, c51, c52, c19, c', d', hq, wq, ew]; rfl)) | (apply run_regionN (by decide); (simp (maxSteps := 9999999) only [go_sem, r0, r3, e1, c51, c52, c19, c', d', hq, wq, ew]; rfl)) | (refine run_cond_t ?_ ?_; · simp only [go_sem]) | (refine run_cond_f ?_ ?_; · simp only [go_sem]))
      exact end_nil ⟨k - 1, by omega, i + 1, q, by omega, by simp (maxSteps := 9999999) only [go_sem], by simp (maxSteps := 9999999) only [go_sem, ew], rfl, ⟨g ++ g1 ++ g2, by rw [hg1]; simp⟩, rfl⟩
/-- GaussPrimes on the shadow machine -/
theorem law13 (x : Int) (h : SHeap) : M.call 13 [.int .i64 x] h = some (.bool true, h, []) := by
  refine call_run sf13 rfl rfl rfl ?_
  unfold sf13
  repeat (first | apply run_seq | apply run_block | apply end_seq | apply end_blk_hit | apply end_blk_miss rfl | apply end_blk | apply end_seq_exit | apply end_seq_ret | apply end_blk_ret | apply run_skip | apply run_ret | apply run_exit | (apply run_region (by decide); (simp (maxSteps := 9999999) only [go_sem, argR]; rfl)) | (apply run_regionN (by decide); (simp (maxSteps := 9999999) only [go_sem, argR]; rfl)) | (refine run_cond_t ?_ ?_; · simp only [go_sem]) | (refine run_cond_f ?_ ?_; · simp only [go_sem]))
  refine run_loop (law13_loop _ h 2 _ _ _ _ ⟨0, x, by omega, by simp (maxSteps := 9999999) only [go_sem, argR], by simp (maxSteps := 9999999) only [go_sem], rfl, ⟨[], by simp⟩, rfl⟩) ?_
  rintro ex ρ' ms' h1 d1 ⟨rfl, rfl, ⟨g, rfl⟩, rfl⟩
  repeat (first | apply run_seq | apply run_block | apply end_seq | apply end_blk_hit | apply end_blk_miss rfl | apply end_blk | apply end_seq_exit | apply end_seq_ret | apply end_blk_ret | apply run_skip | apply run_ret | apply run_exit | (apply run_region (by decide); (simp (maxSteps := 9999999) only [go_sem, awake_call]; rfl)) | (apply run_regionN (by decide); (simp (maxSteps := 9999999) only [go_sem, awake_call]; rfl)) | (refine run_cond_t ?_ ?_; · simp only [go_sem]) | (refine run_cond_f ?_ ?_; · simp only [go_sem]))
  exact end_nil (q_ret1 _ (by simp (maxSteps := 9999999) only [go_sem]) rfl (take_app _ _))
end Go.Proofs.YtdmfhdnpakgkpaaDoor.Sh


