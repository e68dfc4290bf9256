/- The program's points: differences, products; sums and divisors of numbers of the kind int. -/
import Derived.Test.YtecncmmkghmojaaXb
set_option linter.all false
namespace Go.Proofs.Ytecncmmkghmojaa.Sh
open Go Geo
set_option maxRecDepth 100000

theorem sumi_loop (cx : Cx) (a : Option Addr) (c : Nat) (l : List Int) (h : SHeap) (d : List Nat) (hl : l ≠ [] → ∃ b, a = some ⟨b, 0, none⟩ ∧ Ints h b l) (hs : l.length ≤ 1000) (hb : ∀ x ∈ l, x.natAbs ≤ 1000000000000) :
    ∀ k ρ ms h' d', (∃ i : Nat, i + k = l.length ∧ ρ 3 = .int .i64 (isum (l.take i)) ∧ ρ 6 = .slice a l.length c ∧ ρ 7 = .int .i64 l.length ∧ ρ 8 = .int .i64 i ∧ ms = [] ∧ h' = h ∧ d' = d) →
    LoopW M cx 5 sf100L0 ρ ms h' d' (fun ex ρ' ms' h' d' => ex = .exit 0 ∧ ρ' 3 = .int .i64 (isum l) ∧ ms' = [] ∧ h' = h ∧ d' = d) := by
  refine loop_run _ ?_
  rintro k ρ ms h' d' ⟨i, hi, h3, h5, h6, h7, rfl, rfl, rfl⟩
  unfold sf100L0
  by_cases hk : k = 0
  · have e1 : ¬ ((i : Int) < l.length) := by omega
    repeat (first | apply run_seq | apply run_block | apply end_seq | apply end_blk_hit | apply end_blk_miss rfl | apply end_blk | apply end_seq_exit | apply end_seq_ret | apply end_blk_ret | apply run_skip | apply run_ret | apply run_exit | (apply run_region (by decide); (simp only [go_sem, h3, h5, h6, h7, e1]; rfl)) | (refine run_cond_t ?_ ?_; · simp only [go_sem]) | (refine run_cond_f ?_ ?_; · simp only [go_sem]))
    refine end_nil ⟨rfl, ?_, rfl, rfl, rfl⟩
    simp only [go_sem, h3]
    rw [List.take_of_length_le (by omega)]
  · have e1 : (i : Int) < l.length := by omega
    have hil : i < l.length := by omega
    have e2 : (0 : Int) ≤ i := by omega
    obtain ⟨b, rfl, hp⟩ := hl (by intro e; rw [e] at hil; simp at hil)
    have l1 := hp.load hil
    have ew : IntKind.i64.wrap ((i : Int) + 1) = ((i + 1 : Nat) : Int) := by rw [wrap64 (by omega) (by omega)]; rfl
    have hst := isum_take_succ l i hil
    have hbd := isum_bound 1000000000000 (l.take (i + 1)) (fun x hx => hb x (List.mem_of_mem_take hx))
    have hlen : (l.take (i + 1)).length = i + 1 := by simp; omega
    rw [hlen] at hbd
    have e3 : IntKind.i64.wrap (isum (l.take i) + l[i]) = isum (l.take (i + 1)) := by
      rw [← hst]
      exact wrap_abs (by omega)
    repeat (first | apply run_seq | apply run_block | apply end_seq | apply end_blk_hit | apply end_blk_miss rfl | apply end_blk | apply end_seq_exit | apply end_seq_ret | apply end_blk_ret | apply run_skip | apply run_ret | apply run_exit | (apply run_region (by decide); (simp only [go_sem, h3, h5, h6, h7, e1, e2, l1, e3, Int.toNat_natCast, ew]; rfl)) | (refine run_cond_t ?_ ?_; · simp only [go_sem]) | (refine run_cond_f ?_ ?_; · simp only [go_sem]))
    refine end_nil ⟨k - 1, by omega, i + 1, by omega, ?_, ?_, ?_, ?_, rfl, rfl, rfl⟩
    · simp only [go_sem, e3]
    · simp only [go_sem, h5]
    · simp only [go_sem, h6]
    · simp only [go_sem, ew]

/-- sum[int] -/
theorem sum100 {h : SHeap} {v : Value} {l : List Int} (hv : IS h v l) (hs : l.length ≤ 1000) (hb : ∀ x ∈ l, x.natAbs ≤ 1000000000000) : M.call 100 [v] h = some (.int .i64 (isum l), h, []) := by
  obtain ⟨a, c, rfl, hl⟩ := hv
  refine call_run sf100 rfl rfl rfl ?_
  unfold sf100
  repeat (first | apply run_seq | apply run_block | apply end_seq | apply end_blk_hit | apply end_blk_miss rfl | apply end_blk | apply end_seq_exit | apply end_seq_ret | apply end_blk_ret | apply run_skip | apply run_ret | apply run_exit | (apply run_region (by decide); (simp only [go_sem, argR]; rfl)) | (refine run_cond_t ?_ ?_; · simp only [go_sem]) | (refine run_cond_f ?_ ?_; · simp only [go_sem]))
  refine run_loop (sumi_loop _ a c l h [] hl hs hb l.length _ _ _ _ ⟨0, by omega, ?_, ?_, ?_, ?_, rfl, rfl, rfl⟩) ?_
  · (simp only [go_sem]) <;> rfl
  · simp only [go_sem, argR]
  · simp only [go_sem, argR]
  · (simp only [go_sem, argR]) <;> rfl
  · rintro ex ρ' ms' h1 d1 ⟨rfl, k3, rfl, rfl, rfl⟩
    repeat (first | apply run_seq | apply run_block | apply end_seq | apply end_blk_hit | apply end_blk_miss rfl | apply end_blk | apply end_seq_exit | apply end_seq_ret | apply end_blk_ret | apply run_skip | apply run_ret | apply run_exit | (apply run_region (by decide); (simp only [go_sem, k3]; rfl)) | (refine run_cond_t ?_ ?_; · simp only [go_sem]) | (refine run_cond_f ?_ ?_; · simp only [go_sem]))
    exact end_nil (q_ret1 _ (by simp only [go_sem]) rfl (take_self _))

theorem divi_in (cx : Cx) (g : Nat) (ρ0 : Reg) (h : SHeap) (d : List Nat) : ∀ k ρ ms h' d', (∃ a x, ρ 3 = .int .i64 a ∧ ρ 5 = .int .i64 x ∧ Int.gcd a x = g ∧ x.natAbs = k ∧ ρ 6 = ρ0 6 ∧ ρ 7 = ρ0 7 ∧ ρ 8 = ρ0 8 ∧ ms = [] ∧ h' = h ∧ d' = d) →
    LoopW M cx 5 sf101L0 ρ ms h' d' (fun ex ρ' ms' h' d' => ex = .exit 2 ∧ ∃ a : Int, ρ' 3 = .int .i64 a ∧ a.natAbs = g ∧ ρ' 6 = ρ0 6 ∧ ρ' 7 = ρ0 7 ∧ ρ' 8 = ρ0 8 ∧ ms' = [] ∧ h' = h ∧ d' = d) := by
  refine loop_run _ ?_
  rintro k ρ ms h' d' ⟨a, x, h3, h5, hg, hk, h6, h7, h8, rfl, rfl, rfl⟩
  unfold sf101L0
  by_cases hx : x = 0
  · subst hx
    repeat (first | apply run_seq | apply run_block | apply end_seq | apply end_blk_hit | apply end_blk_miss rfl | apply end_blk | apply end_seq_exit | apply end_seq_ret | apply end_blk_ret | apply run_skip | apply run_ret | apply run_exit | (apply run_region (by decide); (simp only [go_sem, h3, h5]; rfl)) | (refine run_cond_t ?_ ?_; · simp only [go_sem]) | (refine run_cond_f ?_ ?_; · simp only [go_sem]))
    refine end_nil ⟨rfl, a, ?_, ?_, ?_, ?_, ?_, rfl, rfl, rfl⟩
    · simp only [go_sem, h3]
    · rw [← hg]; simp
    · simp only [go_sem, h6]
    · simp only [go_sem, h7]
    · simp only [go_sem, h8]
  · repeat (first | apply run_seq | apply run_block | apply end_seq | apply end_blk_hit | apply end_blk_miss rfl | apply end_blk | apply end_seq_exit | apply end_seq_ret | apply end_blk_ret | apply run_skip | apply run_ret | apply run_exit | (apply run_region (by decide); (simp only [go_sem, h3, h5, hx, ne_eq, not_false_eq_true]; rfl)) | (refine run_cond_t ?_ ?_; · simp only [go_sem]) | (refine run_cond_f ?_ ?_; · simp only [go_sem]))
    refine end_nil ⟨(a.tmod x).natAbs, by rw [← hk]; exact tmod_lt a x hx, x, a.tmod x, ?_, ?_, by rw [gcd_step, hg], rfl, ?_, ?_, ?_, rfl, rfl, rfl⟩
    · simp only [go_sem, h3]
    · simp only [go_sem, h5]
    · simp only [go_sem, h6]
    · simp only [go_sem, h7]
    · simp only [go_sem, h8]

theorem divi_out (cx : Cx) (b n c : Nat) (l : List Int) (h : SHeap) (d : List Nat) (hl : Ints h b l) (hn : n = l.length) (hs : n < 9223372036854775807) : ∀ k ρ ms h' d', (∃ (i : Nat) (a : Int), i + k = n ∧ ρ 3 = .int .i64 a ∧ a.natAbs = gcdL (l.take i) ∧ ρ 6 = .slice (some ⟨b, 0, none⟩) n c ∧ ρ 7 = .int .i64 n ∧ ρ 8 = .int .i64 i ∧ ms = [] ∧ h' = h ∧ d' = d) →
    LoopW M cx 5 sf101L1 ρ ms h' d' (fun ex ρ' ms' h' d' => ex = .exit 0 ∧ ∃ a : Int, ρ' 3 = .int .i64 a ∧ a.natAbs = gcdL l ∧ ms' = [] ∧ h' = h ∧ d' = d) := by
  refine loop_run _ ?_
  rintro k ρ ms h' d' ⟨i, a, hi, h3, hg, h6, h7, h8, rfl, rfl, rfl⟩
  unfold sf101L1
  by_cases hk : k = 0
  · have e1 : ¬ ((i : Int) < n) := by omega
    repeat (first | apply run_seq | apply run_block | apply end_seq | apply end_blk_hit | apply end_blk_miss rfl | apply end_blk | apply end_seq_exit | apply end_seq_ret | apply end_blk_ret | apply run_skip | apply run_ret | apply run_exit | (apply run_region (by decide); (simp only [go_sem, h3, h6, h7, h8, e1]; rfl)) | (refine run_cond_t ?_ ?_; · simp only [go_sem]) | (refine run_cond_f ?_ ?_; · simp only [go_sem]))
    refine end_nil ⟨rfl, a, ?_, ?_, rfl, rfl, rfl⟩
    · simp only [go_sem, h3]
    · rw [hg, List.take_of_length_le (by omega)]
  · have e1 : (i : Int) < n := by omega
    have e2 : (0 : Int) ≤ i := by omega
    have hil : i < l.length := by omega
    have e3 := hl.load hil
    repeat (first | apply run_seq | apply run_block | apply end_seq | apply end_blk_hit | apply end_blk_miss rfl | apply end_blk | apply end_seq_exit | apply end_seq_ret | apply end_blk_ret | apply run_skip | apply run_ret | apply run_exit | (apply run_region (by decide); (simp only [go_sem, h3, h6, h7, h8, e1, e2, e3, Int.toNat_natCast]; rfl)) | (refine run_cond_t ?_ ?_; · simp only [go_sem]) | (refine run_cond_f ?_ ?_; · simp only [go_sem]))
    refine run_loop (divi_in cx (Int.gcd a l[i]) _ h' d' _ _ _ _ _ ⟨a, l[i], ?_, ?_, rfl, rfl, rfl, rfl, rfl, rfl, rfl, rfl⟩) ?_
    · simp only [go_sem, h3]
    · simp only [go_sem]
    · rintro ex ρ' ms' h1 d1 ⟨rfl, a', k3, hg', k6, k7, k8, rfl, rfl, rfl⟩
      have q6 : ρ' 6 = .slice (some ⟨b, 0, none⟩) n c := by rw [k6]; simp only [go_sem, h6]
      have q7 : ρ' 7 = .int .i64 n := by rw [k7]; simp only [go_sem, h7]
      have q8 : ρ' 8 = .int .i64 i := by rw [k8]; simp only [go_sem, h8]
      have e4 : IntKind.i64.wrap ((i : Int) + 1) = ((i + 1 : Nat) : Int) := by rw [wrap64 (by omega) (by omega)]; rfl
      repeat (first | apply run_seq | apply run_block | apply end_seq | apply end_blk_hit | apply end_blk_miss rfl | apply end_blk | apply end_seq_exit | apply end_seq_ret | apply end_blk_ret | apply run_skip | apply run_ret | apply run_exit | (apply run_region (by decide); (simp only [go_sem, k3, q6, q7, q8, e4]; rfl)) | (refine run_cond_t ?_ ?_; · simp only [go_sem]) | (refine run_cond_f ?_ ?_; · simp only [go_sem]))
      refine end_nil ⟨k - 1, by omega, i + 1, a', by omega, ?_, ?_, ?_, ?_, ?_, rfl, rfl, rfl⟩
      · simp only [go_sem, k3]
      · rw [hg', List.take_add_one, List.getElem?_eq_getElem hil, gcdL, List.foldl_append]
        simp only [Option.toList_some, List.foldl_cons, List.foldl_nil]
        rw [← gcdL, ← hg, Int.gcd, Int.gcd, Int.natAbs_natCast]
      · simp only [go_sem, q6]
      · simp only [go_sem, q7]
      · simp only [go_sem, q8, e4]

/-- divisor[int] -/
theorem divi (b c : Nat) (l : List Int) (h : SHeap) (hl : Ints h b l) (hs : l.length < 9223372036854775807) (hb : ∀ x ∈ l, x.natAbs ≤ 9223372036854775807) :
    M.call 101 [.slice (some ⟨b, 0, none⟩) l.length c] h = some (.int .i64 (gcdL l), h, []) := by
  refine call_run sf101 rfl rfl rfl ?_
  unfold sf101
  repeat (first | apply run_seq | apply run_block | apply end_seq | apply end_blk_hit | apply end_blk_miss rfl | apply end_blk | apply end_seq_exit | apply end_seq_ret | apply end_blk_ret | apply run_skip | apply run_ret | apply run_exit | (apply run_region (by decide); (simp only [go_sem, argR]; rfl)) | (refine run_cond_t ?_ ?_; · simp only [go_sem]) | (refine run_cond_f ?_ ?_; · simp only [go_sem]))
  refine run_loop (divi_out _ b l.length c l h [] hl rfl hs l.length _ _ _ _ ⟨0, 0, by omega, ?_, rfl, ?_, ?_, ?_, rfl, rfl, rfl⟩) ?_
  · simp only [go_sem]
  · simp only [go_sem, argR]
  · simp only [go_sem, argR]
  · simp only [go_sem, argR]
  · rintro ex ρ' ms' h1 d1 ⟨rfl, a, k3, hg, rfl, rfl, rfl⟩
    have hw := wrap_neg (a := a) (by rw [hg]; exact gcdL_le l _ hb)
    have hm := max_abs a
    repeat (first | apply run_seq | apply run_block | apply end_seq | apply end_blk_hit | apply end_blk_miss rfl | apply end_blk | apply end_seq_exit | apply end_seq_ret | apply end_blk_ret | apply run_skip | apply run_ret | apply run_exit | (apply run_region (by decide); (simp only [go_sem, k3, hw, hm, hg]; rfl)) | (refine run_cond_t ?_ ?_; · simp only [go_sem]) | (refine run_cond_f ?_ ?_; · simp only [go_sem]))
    exact end_nil (q_ret1 _ (by simp only [go_sem, hm, hg]) rfl (take_self _))

/-- a point of which the numbers are not great -/
def sm (p : Int × Int) : Prop := p.1.natAbs ≤ 1000000000 ∧ p.2.natAbs ≤ 1000000000
def crs (p q : Int × Int) : Int := p.1 * q.2 - p.2 * q.1
def dotp (p q : Int × Int) : Int := p.1 * q.1 + p.2 * q.2
def sbt (p q : Int × Int) : Int × Int := (p.1 - q.1, p.2 - q.2)

/-- minus -/
theorem minus80 (p q : Int × Int) (h : SHeap) (hp : sm p) (hq : sm q) : M.call 80 [.agg #[.int .i64 p.1, .int .i64 p.2], .agg #[.int .i64 q.1, .int .i64 q.2]] h = some (.agg #[.int .i64 (sbt p q).1, .int .i64 (sbt p q).2], h, []) := by
  obtain ⟨a1, a2⟩ := hp
  obtain ⟨b1, b2⟩ := hq
  have w1 : IntKind.i64.wrap (p.1 - q.1) = p.1 - q.1 := wrap_abs (by omega)
  have w2 : IntKind.i64.wrap (p.2 - q.2) = p.2 - q.2 := wrap_abs (by omega)
  refine call_run sf80 rfl rfl rfl ?_
  unfold sf80
  repeat (first | apply run_seq | apply run_block | apply end_seq | apply end_blk_hit | apply end_blk_miss rfl | apply end_blk | apply end_seq_exit | apply end_seq_ret | apply end_blk_ret | apply run_skip | apply run_ret | apply run_exit | (apply run_region (by decide); (simp only [go_sem, argR, w1, w2]; rfl)) | (refine run_cond_t ?_ ?_; · simp only [go_sem]) | (refine run_cond_f ?_ ?_; · simp only [go_sem]))
  exact end_nil (q_cell [.int .i64 (p.1 - q.1), .int .i64 (p.2 - q.2)] (by (simp only [go_sem]) <;> rfl) rfl ⟨_, rfl⟩ (take_app _ _))

/-- times -/
theorem times103 (n : Int) (p : Int × Int) (h : SHeap) (hp : sm p) (hn : n.natAbs ≤ 1000000000) : M.call 103 [.agg #[.int .i64 p.1, .int .i64 p.2], .int .i64 n] h = some (.agg #[.int .i64 (n * p.1), .int .i64 (n * p.2)], h, []) := by
  obtain ⟨a1, a2⟩ := hp
  have m1 := mul_bound hn a1
  have m2 := mul_bound hn a2
  have w1 : IntKind.i64.wrap (n * p.1) = n * p.1 := wrap_abs (by omega)
  have w2 : IntKind.i64.wrap (n * p.2) = n * p.2 := wrap_abs (by omega)
  refine call_run sf103 rfl rfl rfl ?_
  unfold sf103
  repeat (first | apply run_seq | apply run_block | apply end_seq | apply end_blk_hit | apply end_blk_miss rfl | apply end_blk | apply end_seq_exit | apply end_seq_ret | apply end_blk_ret | apply run_skip | apply run_ret | apply run_exit | (apply run_region (by decide); (simp only [go_sem, argR, w1, w2]; rfl)) | (refine run_cond_t ?_ ?_; · simp only [go_sem]) | (refine run_cond_f ?_ ?_; · simp only [go_sem]))
  exact end_nil (q_cell [.int .i64 (n * p.1), .int .i64 (n * p.2)] (by (simp only [go_sem]) <;> rfl) rfl ⟨_, rfl⟩ (take_app _ _))

/-- cross -/
theorem cross95 (p q : Int × Int) (h : SHeap) (hp : sm p) (hq : sm q) : M.call 95 [.agg #[.int .i64 p.1, .int .i64 p.2], .agg #[.int .i64 q.1, .int .i64 q.2]] h = some (.int .i64 (crs p q), h, []) := by
  obtain ⟨a1, a2⟩ := hp
  obtain ⟨b1, b2⟩ := hq
  have m1 := mul_bound a1 b2
  have m2 := mul_bound a2 b1
  have w1 : IntKind.i64.wrap (p.1 * q.2) = p.1 * q.2 := wrap_abs (by omega)
  have w2 : IntKind.i64.wrap (p.2 * q.1) = p.2 * q.1 := wrap_abs (by omega)
  have w3 : IntKind.i64.wrap (p.1 * q.2 - p.2 * q.1) = p.1 * q.2 - p.2 * q.1 := wrap_abs (by omega)
  refine call_run sf95 rfl rfl rfl ?_
  unfold sf95
  repeat (first | apply run_seq | apply run_block | apply end_seq | apply end_blk_hit | apply end_blk_miss rfl | apply end_blk | apply end_seq_exit | apply end_seq_ret | apply end_blk_ret | apply run_skip | apply run_ret | apply run_exit | (apply run_region (by decide); (simp only [go_sem, argR, w1, w2, w3]; rfl)) | (refine run_cond_t ?_ ?_; · simp only [go_sem]) | (refine run_cond_f ?_ ?_; · simp only [go_sem]))
  exact end_nil (q_ret1 _ (by simp only [go_sem]; rfl) rfl (take_app _ _))

/-- dot -/
theorem dot82 (p q : Int × Int) (h : SHeap) (hp : sm p) (hq : sm q) : M.call 82 [.agg #[.int .i64 p.1, .int .i64 p.2], .agg #[.int .i64 q.1, .int .i64 q.2]] h = some (.int .i64 (dotp p q), h, []) := by
  obtain ⟨a1, a2⟩ := hp
  obtain ⟨b1, b2⟩ := hq
  have m1 := mul_bound a1 b1
  have m2 := mul_bound a2 b2
  have w1 : IntKind.i64.wrap (p.1 * q.1) = p.1 * q.1 := wrap_abs (by omega)
  have w2 : IntKind.i64.wrap (p.2 * q.2) = p.2 * q.2 := wrap_abs (by omega)
  have w3 : IntKind.i64.wrap (p.1 * q.1 + p.2 * q.2) = p.1 * q.1 + p.2 * q.2 := wrap_abs (by omega)
  refine call_run sf82 rfl rfl rfl ?_
  unfold sf82
  repeat (first | apply run_seq | apply run_block | apply end_seq | apply end_blk_hit | apply end_blk_miss rfl | apply end_blk | apply end_seq_exit | apply end_seq_ret | apply end_blk_ret | apply run_skip | apply run_ret | apply run_exit | (apply run_region (by decide); (simp only [go_sem, argR, w1, w2, w3]; rfl)) | (refine run_cond_t ?_ ?_; · simp only [go_sem]) | (refine run_cond_f ?_ ?_; · simp only [go_sem]))
  exact end_nil (q_ret1 _ (by simp only [go_sem]; rfl) rfl (take_app _ _))

/-- a point in range -/
def ptB (p : Int × Int) : Bool := decide (-20 ≤ p.1 ∧ p.1 ≤ 20 ∧ -20 ≤ p.2 ∧ p.2 ≤ 20)

/-- isPoint -/
theorem point87 (x y : Int) (h : SHeap) : M.call 87 [.agg #[.int .i64 x, .int .i64 y]] h = some (.bool (ptB (x, y)), h, []) := by
  refine call_run sf87 rfl rfl rfl ?_
  unfold sf87
  by_cases c1 : y < x
  · have c2 : ¬ (y > x) := by omega
    by_cases c3 : -20 ≤ y
    · repeat (first | apply run_seq | apply run_block | apply end_seq | apply end_blk_hit | apply end_blk_miss rfl | apply end_blk | apply end_seq_exit | apply end_seq_ret | apply end_blk_ret | apply run_skip | apply run_ret | apply run_exit | (apply run_region (by decide); (simp only [go_sem, argR, c1, c2, c3]; rfl)) | (refine run_cond_t ?_ ?_; · simp only [go_sem]) | (refine run_cond_f ?_ ?_; · simp only [go_sem]))
      refine end_nil (q_ret1 _ ?_ rfl (take_app _ _))
      have : ptB (x, y) = decide (x ≤ 20) := by unfold ptB; congr 1; simp only [eq_iff_iff]; omega
      simp only [go_sem, this]
    · repeat (first | apply run_seq | apply run_block | apply end_seq | apply end_blk_hit | apply end_blk_miss rfl | apply end_blk | apply end_seq_exit | apply end_seq_ret | apply end_blk_ret | apply run_skip | apply run_ret | apply run_exit | (apply run_region (by decide); (simp only [go_sem, argR, c1, c2, c3]; rfl)) | (refine run_cond_t ?_ ?_; · simp only [go_sem]) | (refine run_cond_f ?_ ?_; · simp only [go_sem]))
      refine end_nil (q_ret1 _ ?_ rfl (take_app _ _))
      have : ptB (x, y) = false := by simp only [ptB, decide_eq_false_iff_not]; omega
      simp only [go_sem, this]
  · by_cases c2 : y > x
    · by_cases c3 : -20 ≤ x
      · repeat (first | apply run_seq | apply run_block | apply end_seq | apply end_blk_hit | apply end_blk_miss rfl | apply end_blk | apply end_seq_exit | apply end_seq_ret | apply end_blk_ret | apply run_skip | apply run_ret | apply run_exit | (apply run_region (by decide); (simp only [go_sem, argR, c1, c2, c3]; rfl)) | (refine run_cond_t ?_ ?_; · simp only [go_sem]) | (refine run_cond_f ?_ ?_; · simp only [go_sem]))
        refine end_nil (q_ret1 _ ?_ rfl (take_app _ _))
        have : ptB (x, y) = decide (y ≤ 20) := by unfold ptB; congr 1; simp only [eq_iff_iff]; omega
        simp only [go_sem, this]
      · repeat (first | apply run_seq | apply run_block | apply end_seq | apply end_blk_hit | apply end_blk_miss rfl | apply end_blk | apply end_seq_exit | apply end_seq_ret | apply end_blk_ret | apply run_skip | apply run_ret | apply run_exit | (apply run_region (by decide); (simp only [go_sem, argR, c1, c2, c3]; rfl)) | (refine run_cond_t ?_ ?_; · simp only [go_sem]) | (refine run_cond_f ?_ ?_; · simp only [go_sem]))
        refine end_nil (q_ret1 _ ?_ rfl (take_app _ _))
        have : ptB (x, y) = false := by simp only [ptB, decide_eq_false_iff_not]; omega
        simp only [go_sem, this]
    · have e : y = x := by omega
      subst e
      by_cases c3 : -20 ≤ y
      · repeat (first | apply run_seq | apply run_block | apply end_seq | apply end_blk_hit | apply end_blk_miss rfl | apply end_blk | apply end_seq_exit | apply end_seq_ret | apply end_blk_ret | apply run_skip | apply run_ret | apply run_exit | (apply run_region (by decide); (simp only [go_sem, argR, c1, c2, c3]; rfl)) | (refine run_cond_t ?_ ?_; · simp only [go_sem]) | (refine run_cond_f ?_ ?_; · simp only [go_sem]))
        refine end_nil (q_ret1 _ ?_ rfl (take_app _ _))
        have : ptB (y, y) = decide (y ≤ 20) := by unfold ptB; congr 1; simp only [eq_iff_iff]; omega
        simp only [go_sem, this]
      · repeat (first | apply run_seq | apply run_block | apply end_seq | apply end_blk_hit | apply end_blk_miss rfl | apply end_blk | apply end_seq_exit | apply end_seq_ret | apply end_blk_ret | apply run_skip | apply run_ret | apply run_exit | (apply run_region (by decide); (simp only [go_sem, argR, c1, c2, c3]; rfl)) | (refine run_cond_t ?_ ?_; · simp only [go_sem]) | (refine run_cond_f ?_ ?_; · simp only [go_sem]))
        refine end_nil (q_ret1 _ ?_ rfl (take_app _ _))
        have : ptB (y, y) = false := by simp only [ptB, decide_eq_false_iff_not]; omega
        simp only [go_sem, this]

/-- its opposite -/
theorem not98 (x y : Int) (h : SHeap) : M.call 98 [.agg #[.int .i64 x, .int .i64 y]] h = some (.bool (!ptB (x, y)), h, []) := by
  have c := fun h => point87 x y h
  refine call_run sf98 rfl rfl rfl ?_
  unfold sf98
  repeat (first | apply run_seq | apply run_block | apply end_seq | apply end_blk_hit | apply end_blk_miss rfl | apply end_blk | apply end_seq_exit | apply end_seq_ret | apply end_blk_ret | apply run_skip | apply run_ret | apply run_exit | (apply run_region (by decide); (simp only [go_sem, argR, c]; rfl)) | (refine run_cond_t ?_ ?_; · simp only [go_sem]) | (refine run_cond_f ?_ ?_; · simp only [go_sem]))
  exact end_nil (q_ret1 _ (by simp only [go_sem]) rfl (take_app _ _))

/-- the range of points is tested -/
theorem any98 {h : SHeap} {v : Value} {l : List (Int × Int)} (hv : PS h v l) (hs : l.length < 4611686018427387904) (hin : ∀ q ∈ l, inR q) : M.call 85 [v, .func (.func 98) #[] #[]] h = some (.bool false, h, []) := by
  have := contains85 98 (fun p => !ptB p) (fun x y h => not98 x y h) hv hs
  rw [this]
  have e : l.any (fun p => !ptB p) = false := by
    rw [List.any_eq_false]
    intro x hx
    have := hin x hx
    simp only [inR] at this
    simp [ptB, this]
  rw [e]
end Go.Proofs.Ytecncmmkghmojaa.Sh

