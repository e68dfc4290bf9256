/- Greatest common divisors of the program and of the document: what they return. -/
import Derived.Test.YtecncmmkghmojaaShT
import Derived.Test.YtecncmmkghmojaaM3
set_option linter.all false
/- Greatest common divisors of the program and of the document: what they return. -/
namespace Go.Proofs.Ytecncmmkghmojaa.Sh
open Go
set_option maxRecDepth 100000
set_option linter.unusedSimpArgs false
set_option linter.unusedVariables false

/-- what is known of awake -/
def CA : FuncId → List Value → Option Value
  | 23, [] => some (.bool true)
  | _, _ => none
/-- the machine -/
noncomputable abbrev M : Rec := big FT CA
theorem awake_call (h : SHeap) : M.call 23 [] h = some (.bool true, h, []) := big_known (by rfl) h

theorem gcd_step (a x : Int) : Int.gcd x (a.tmod x) = Int.gcd a x := by
  simp only [Int.gcd, Int.natAbs_tmod]
  rw [Nat.gcd_comm a.natAbs x.natAbs, Nat.gcd_rec x.natAbs a.natAbs, Nat.gcd_comm]
theorem tmod_lt (a x : Int) (hx : x ≠ 0) : (a.tmod x).natAbs < x.natAbs := by
  rw [Int.natAbs_tmod]
  exact Nat.mod_lt _ (by omega)
theorem wrap_neg {a : Int} (h : a.natAbs ≤ 9223372036854775807) : IntKind.i64.wrap (-a) = -a := wrap64 (by omega) (by omega)
theorem max_abs (a : Int) : (if -a > a then -a else a) = (a.natAbs : Int) := by split <;> omega

/-- the greatest common divisor of a list -/
def gcdL (l : List Int) : Nat := l.foldl (fun g x => Int.gcd g x) 0

theorem div_in (cx : Cx) (g : Nat) (ρ0 : Reg) (h : SHeap) (d : List Nat) : ∀ k ρ ms h' d', (∃ a x, ρ 3 = .int .i64 a ∧ ρ 5 = .int .i64 x ∧ Int.gcd a x = g ∧ x.natAbs = k ∧ ρ 6 = ρ0 6 ∧ ρ 7 = ρ0 7 ∧ ρ 8 = ρ0 8 ∧ ms = [] ∧ h' = h ∧ d' = d) →
    LoopW M cx 5 sf102L0 ρ ms h' d' (fun ex ρ' ms' h' d' => ex = .exit 2 ∧ ∃ a : Int, ρ' 3 = .int .i64 a ∧ a.natAbs = g ∧ ρ' 6 = ρ0 6 ∧ ρ' 7 = ρ0 7 ∧ ρ' 8 = ρ0 8 ∧ ms' = [] ∧ h' = h ∧ d' = d) := by
  refine loop_run _ ?_
  rintro k ρ ms h' d' ⟨a, x, h3, h5, hg, hk, h6, h7, h8, rfl, rfl, rfl⟩
  unfold sf102L0
  by_cases hx : x = 0
  · subst hx
    repeat (first | apply run_seq | apply run_block | apply end_seq | apply end_blk_hit | apply end_blk_miss rfl | apply end_blk | apply end_seq_exit | apply end_seq_ret | apply end_blk_ret | apply run_skip | apply run_ret | apply run_exit | (apply run_region (by decide); (simp only [go_sem, h3, h5]; rfl)) | (refine run_cond_t ?_ ?_; · simp only [go_sem]) | (refine run_cond_f ?_ ?_; · simp only [go_sem]))
    refine end_nil ⟨rfl, a, ?_, ?_, ?_, ?_, ?_, rfl, rfl, rfl⟩
    · simp only [go_sem, h3]
    · rw [← hg]; simp
    · simp only [go_sem, h6]
    · simp only [go_sem, h7]
    · simp only [go_sem, h8]
  · repeat (first | apply run_seq | apply run_block | apply end_seq | apply end_blk_hit | apply end_blk_miss rfl | apply end_blk | apply end_seq_exit | apply end_seq_ret | apply end_blk_ret | apply run_skip | apply run_ret | apply run_exit | (apply run_region (by decide); (simp only [go_sem, h3, h5, hx, ne_eq, not_false_eq_true]; rfl)) | (refine run_cond_t ?_ ?_; · simp only [go_sem]) | (refine run_cond_f ?_ ?_; · simp only [go_sem]))
    refine end_nil ⟨(a.tmod x).natAbs, by rw [← hk]; exact tmod_lt a x hx, x, a.tmod x, ?_, ?_, by rw [gcd_step, hg], rfl, ?_, ?_, ?_, rfl, rfl, rfl⟩
    · simp only [go_sem, h3]
    · simp only [go_sem, h5]
    · simp only [go_sem, h6]
    · simp only [go_sem, h7]
    · simp only [go_sem, h8]

theorem div_out (cx : Cx) (b n c : Nat) (l : List Int) (h : SHeap) (d : List Nat) (hl : Ints h b l) (hn : n = l.length) (hs : n < 9223372036854775807) : ∀ k ρ ms h' d', (∃ (i : Nat) (a : Int), i + k = n ∧ ρ 3 = .int .i64 a ∧ a.natAbs = gcdL (l.take i) ∧ ρ 6 = .slice (some ⟨b, 0, none⟩) n c ∧ ρ 7 = .int .i64 n ∧ ρ 8 = .int .i64 i ∧ ms = [] ∧ h' = h ∧ d' = d) →
    LoopW M cx 5 sf102L1 ρ ms h' d' (fun ex ρ' ms' h' d' => ex = .exit 0 ∧ ∃ a : Int, ρ' 3 = .int .i64 a ∧ a.natAbs = gcdL l ∧ ms' = [] ∧ h' = h ∧ d' = d) := by
  refine loop_run _ ?_
  rintro k ρ ms h' d' ⟨i, a, hi, h3, hg, h6, h7, h8, rfl, rfl, rfl⟩
  unfold sf102L1
  by_cases hk : k = 0
  · have e1 : ¬ ((i : Int) < n) := by omega
    repeat (first | apply run_seq | apply run_block | apply end_seq | apply end_blk_hit | apply end_blk_miss rfl | apply end_blk | apply end_seq_exit | apply end_seq_ret | apply end_blk_ret | apply run_skip | apply run_ret | apply run_exit | (apply run_region (by decide); (simp only [go_sem, h3, h6, h7, h8, e1]; rfl)) | (refine run_cond_t ?_ ?_; · simp only [go_sem]) | (refine run_cond_f ?_ ?_; · simp only [go_sem]))
    refine end_nil ⟨rfl, a, ?_, ?_, rfl, rfl, rfl⟩
    · simp only [go_sem, h3]
    · rw [hg, List.take_of_length_le (by omega)]
  · have e1 : (i : Int) < n := by omega
    have e2 : (0 : Int) ≤ i := by omega
    have hil : i < l.length := by omega
    have e3 := hl.load hil
    repeat (first | apply run_seq | apply run_block | apply end_seq | apply end_blk_hit | apply end_blk_miss rfl | apply end_blk | apply end_seq_exit | apply end_seq_ret | apply end_blk_ret | apply run_skip | apply run_ret | apply run_exit | (apply run_region (by decide); (simp only [go_sem, h3, h6, h7, h8, e1, e2, e3, Int.toNat_natCast]; rfl)) | (refine run_cond_t ?_ ?_; · simp only [go_sem]) | (refine run_cond_f ?_ ?_; · simp only [go_sem]))
    refine run_loop (div_in cx (Int.gcd a l[i]) _ h' d' _ _ _ _ _ ⟨a, l[i], ?_, ?_, rfl, rfl, rfl, rfl, rfl, rfl, rfl, rfl⟩) ?_
    · simp only [go_sem, h3]
    · simp only [go_sem]
    · rintro ex ρ' ms' h1 d1 ⟨rfl, a', k3, hg', k6, k7, k8, rfl, rfl, rfl⟩
      have q6 : ρ' 6 = .slice (some ⟨b, 0, none⟩) n c := by rw [k6]; simp only [go_sem, h6]
      have q7 : ρ' 7 = .int .i64 n := by rw [k7]; simp only [go_sem, h7]
      have q8 : ρ' 8 = .int .i64 i := by rw [k8]; simp only [go_sem, h8]
      have e4 : IntKind.i64.wrap ((i : Int) + 1) = ((i + 1 : Nat) : Int) := by rw [wrap64 (by omega) (by omega)]; rfl
      repeat (first | apply run_seq | apply run_block | apply end_seq | apply end_blk_hit | apply end_blk_miss rfl | apply end_blk | apply end_seq_exit | apply end_seq_ret | apply end_blk_ret | apply run_skip | apply run_ret | apply run_exit | (apply run_region (by decide); (simp only [go_sem, k3, q6, q7, q8, e4]; rfl)) | (refine run_cond_t ?_ ?_; · simp only [go_sem]) | (refine run_cond_f ?_ ?_; · simp only [go_sem]))
      refine end_nil ⟨k - 1, by omega, i + 1, a', by omega, ?_, ?_, ?_, ?_, ?_, rfl, rfl, rfl⟩
      · simp only [go_sem, k3]
      · rw [hg', List.take_add_one, List.getElem?_eq_getElem hil, gcdL, List.foldl_append]
        simp only [Option.toList_some, List.foldl_cons, List.foldl_nil]
        rw [← gcdL, ← hg, Int.gcd, Int.gcd, Int.natAbs_natCast]
      · simp only [go_sem, q6]
      · simp only [go_sem, q7]
      · simp only [go_sem, q8, e4]

theorem gcdL_le (l : List Int) (m : Nat) (hm : ∀ x ∈ l, x.natAbs ≤ m) : gcdL l ≤ m := by
  have : ∀ (l : List Int) (g : Nat), g ≤ m → (∀ x ∈ l, x.natAbs ≤ m) → l.foldl (fun g x => Int.gcd g x) g ≤ m := by
    intro l
    induction l with
    | nil => intro g hg _; exact hg
    | cons x l ih =>
      intro g hg hx
      refine ih _ ?_ (fun y hy => hx y (by simp [hy]))
      have h1 := hx x (by simp)
      simp only [Int.gcd, Int.natAbs_natCast]
      by_cases e : g = 0
      · subst e; simpa using h1
      · exact Nat.le_trans (Nat.gcd_le_left _ (by omega)) hg
  exact this l 0 (by omega) hm

/-- divisor[int64] -/
theorem div64 (b c : Nat) (l : List Int) (h : SHeap) (hl : Ints h b l) (hs : l.length < 9223372036854775807) (hb : ∀ x ∈ l, x.natAbs ≤ 9223372036854775807) :
    M.call 102 [.slice (some ⟨b, 0, none⟩) l.length c] h = some (.int .i64 (gcdL l), h, []) := by
  refine call_run sf102 rfl rfl rfl ?_
  unfold sf102
  repeat (first | apply run_seq | apply run_block | apply end_seq | apply end_blk_hit | apply end_blk_miss rfl | apply end_blk | apply end_seq_exit | apply end_seq_ret | apply end_blk_ret | apply run_skip | apply run_ret | apply run_exit | (apply run_region (by decide); (simp only [go_sem, argR]; rfl)) | (refine run_cond_t ?_ ?_; · simp only [go_sem]) | (refine run_cond_f ?_ ?_; · simp only [go_sem]))
  refine run_loop (div_out _ b l.length c l h [] hl rfl hs l.length _ _ _ _ ⟨0, 0, by omega, ?_, rfl, ?_, ?_, ?_, rfl, rfl, rfl⟩) ?_
  · simp only [go_sem]
  · simp only [go_sem, argR]
  · simp only [go_sem, argR]
  · simp only [go_sem, argR]
  · rintro ex ρ' ms' h1 d1 ⟨rfl, a, k3, hg, rfl, rfl, rfl⟩
    have hw := wrap_neg (a := a) (by rw [hg]; exact gcdL_le l _ hb)
    have hm := max_abs a
    repeat (first | apply run_seq | apply run_block | apply end_seq | apply end_blk_hit | apply end_blk_miss rfl | apply end_blk | apply end_seq_exit | apply end_seq_ret | apply end_blk_ret | apply run_skip | apply run_ret | apply run_exit | (apply run_region (by decide); (simp only [go_sem, k3, hw, hm, hg]; rfl)) | (refine run_cond_t ?_ ?_; · simp only [go_sem]) | (refine run_cond_f ?_ ?_; · simp only [go_sem]))
    exact end_nil (q_ret1 _ (by simp only [go_sem, hm, hg]) rfl (take_self _))
end Go.Proofs.Ytecncmmkghmojaa.Sh


/- Fractions in lowest terms, and the greatest common divisor of the document. -/
namespace Go.Proofs.Ytecncmmkghmojaa.Sh
open Go
set_option maxRecDepth 100000
set_option linter.unusedSimpArgs false
set_option linter.unusedVariables false

theorem gcdL_two (a b : Int) : gcdL [a, b] = Int.gcd a b := by
  simp [gcdL, Int.gcd]
theorem tdiv_le (a g : Int) (m : Nat) (h : a.natAbs ≤ m) : (a.tdiv g).natAbs ≤ m := by
  rw [Int.natAbs_tdiv]
  exact Nat.le_trans (Nat.div_le_self _ _) h
theorem wrap_abs {a : Int} (h : a.natAbs ≤ 9223372036854775807) : IntKind.i64.wrap a = a := wrap64 (by omega) (by omega)

/-- fraction.lowest -/
theorem lowest (a b : Int) (h : SHeap) (ha : a.natAbs ≤ 9223372036854775807) (hb : b.natAbs ≤ 9223372036854775807) (hg : Int.gcd a b ≠ 0) :
    M.call 65 [.agg #[.int .i64 a, .int .i64 b]] h = some (.agg #[.int .i64 (a.tdiv (Int.gcd a b)), .int .i64 (b.tdiv (Int.gcd a b))], h, []) := by
  refine call_run sf65 rfl rfl rfl ?_
  unfold sf65
  have e1 : M.call 102 [.slice (some ⟨h.length + 2, 0, none⟩) 2 2] (h ++ [.cells [.int .i64 a, .int .i64 b] 82 true 0 [], .cells [.int .i64 0, .int .i64 0] 82 true 0 [], .cells [.int .i64 a, .int .i64 b] 2 true 0 []]) = some (.int .i64 (Int.gcd a b), (h ++ [.cells [.int .i64 a, .int .i64 b] 82 true 0 [], .cells [.int .i64 0, .int .i64 0] 82 true 0 [], .cells [.int .i64 a, .int .i64 b] 2 true 0 []]), []) := by
    have := div64 (h.length + 2) 2 [a, b] (h ++ [.cells [.int .i64 a, .int .i64 b] 82 true 0 [], .cells [.int .i64 0, .int .i64 0] 82 true 0 [], .cells [.int .i64 a, .int .i64 b] 2 true 0 []]) ⟨2, true, 0, [], by rw [app_get]; rfl, rfl⟩ (by simp) (by simp; omega)
    rw [gcdL_two] at this
    exact this
  have hg' : ((Int.gcd a b : Nat) : Int) ≠ 0 := by omega
  have w1 := wrap_abs (tdiv_le a (Int.gcd a b) _ ha)
  have w2 := wrap_abs (tdiv_le b (Int.gcd a b) _ hb)
  repeat (first | apply run_seq | apply run_block | apply end_seq | apply end_blk_hit | apply end_blk_miss rfl | apply end_blk | apply end_seq_exit | apply end_seq_ret | apply end_blk_ret | apply run_skip | apply run_ret | apply run_exit | (apply run_region (by decide); (simp only [go_sem, argR, e1, hg', ne_eq, not_false_eq_true, w1, w2]; rfl)) | (refine run_cond_t ?_ ?_; · simp only [go_sem]) | (refine run_cond_f ?_ ?_; · simp only [go_sem]))
  exact end_nil (q_cell [.int .i64 (a.tdiv (Int.gcd a b)), .int .i64 (b.tdiv (Int.gcd a b))] (by simp only [go_sem]) rfl ⟨_, rfl⟩ (take_app _ _))

theorem gcd_in (cx : Cx) (g : Nat) (h : SHeap) (d : List Nat) : ∀ k ρ ms h' d', (∃ a x : Int, ρ 0 = .int .i64 a ∧ ρ 1 = .int .i64 x ∧ 0 ≤ a ∧ 0 ≤ x ∧ Int.gcd a x = g ∧ x.natAbs = k ∧ ms = [] ∧ h' = h ∧ d' = d) →
    LoopW M cx 5 sf64L0 ρ ms h' d' (fun ex ρ' ms' h' d' => ex = .exit 0 ∧ ρ' 0 = .int .i64 g ∧ ms' = [] ∧ h' = h ∧ d' = d) := by
  refine loop_run _ ?_
  rintro k ρ ms h' d' ⟨a, x, h3, h5, ha, hx0, hg, hk, rfl, rfl, rfl⟩
  unfold sf64L0
  by_cases hx : x = 0
  · subst hx
    repeat (first | apply run_seq | apply run_block | apply end_seq | apply end_blk_hit | apply end_blk_miss rfl | apply end_blk | apply end_seq_exit | apply end_seq_ret | apply end_blk_ret | apply run_skip | apply run_ret | apply run_exit | (apply run_region (by decide); (simp only [go_sem, h3, h5]; rfl)) | (refine run_cond_t ?_ ?_; · simp only [go_sem]) | (refine run_cond_f ?_ ?_; · simp only [go_sem]))
    refine end_nil ⟨rfl, ?_, rfl, rfl, rfl⟩
    simp only [go_sem, h3]
    rw [← hg]; simp; omega
  · have hp : 0 < x := by omega
    repeat (first | apply run_seq | apply run_block | apply end_seq | apply end_blk_hit | apply end_blk_miss rfl | apply end_blk | apply end_seq_exit | apply end_seq_ret | apply end_blk_ret | apply run_skip | apply run_ret | apply run_exit | (apply run_region (by decide); (simp only [go_sem, h3, h5, hx, ne_eq, not_false_eq_true, hp]; rfl)) | (refine run_cond_t ?_ ?_; · simp only [go_sem]) | (refine run_cond_f ?_ ?_; · simp only [go_sem]))
    refine end_nil ⟨(a.tmod x).natAbs, by rw [← hk]; exact tmod_lt a x hx, x, a.tmod x, ?_, ?_, hx0, Int.tmod_nonneg _ ha, by rw [gcd_step, hg], rfl, rfl, rfl, rfl⟩
    · simp only [go_sem, h3]
    · simp only [go_sem, h5]

/-- gcd of the document -/
theorem gcdR (a b : Int) (h : SHeap) (ha : a.natAbs ≤ 9223372036854775807) (hb : b.natAbs ≤ 9223372036854775807) :
    M.call 64 [.int .i64 a, .int .i64 b] h = some (.int .i64 (Int.gcd a b), h, []) := by
  refine call_run sf64 rfl rfl rfl ?_
  unfold sf64
  have wa := wrap_neg ha
  have wb := wrap_neg hb
  have ma := max_abs a
  have mb := max_abs b
  repeat (first | apply run_seq | apply run_block | apply end_seq | apply end_blk_hit | apply end_blk_miss rfl | apply end_blk | apply end_seq_exit | apply end_seq_ret | apply end_blk_ret | apply run_skip | apply run_ret | apply run_exit | (apply run_region (by decide); (simp only [go_sem, argR, wa, wb, ma, mb]; rfl)) | (refine run_cond_t ?_ ?_; · simp only [go_sem]) | (refine run_cond_f ?_ ?_; · simp only [go_sem]))
  refine run_loop (gcd_in _ (Int.gcd a b) h [] b.natAbs _ _ _ _ ⟨a.natAbs, b.natAbs, ?_, ?_, by omega, by omega, by simp [Int.gcd], by simp, rfl, rfl, rfl⟩) ?_
  · simp only [go_sem, ma]
  · simp only [go_sem, mb]
  · rintro ex ρ' ms' h1 d1 ⟨rfl, k0, rfl, rfl, rfl⟩
    repeat (first | apply run_seq | apply run_block | apply end_seq | apply end_blk_hit | apply end_blk_miss rfl | apply end_blk | apply end_seq_exit | apply end_seq_ret | apply end_blk_ret | apply run_skip | apply run_ret | apply run_exit | (apply run_region (by decide); (simp only [go_sem, k0]; rfl)) | (refine run_cond_t ?_ ?_; · simp only [go_sem]) | (refine run_cond_f ?_ ?_; · simp only [go_sem]))
    exact end_nil (q_ret1 _ (by simp only [go_sem]) rfl (take_self _))
end Go.Proofs.Ytecncmmkghmojaa.Sh


