/- Sorting points: the program's order, insertion, and the library's sort of few elements. -/
import Derived.Test.YtecncmmkghmojaaYe
set_option linter.all false
/- Sorting points: the program's order, insertion, and the library's sort of few elements. -/
namespace Go.Proofs.Ytecncmmkghmojaa.Sh
open Go Geo
set_option maxRecDepth 100000

theorem E_idxStr (R : Rec) (cx : Cx) (e : Evl) (sl : Option Nat) (h : SHeap) (d : List Nat) (x i : Operand) : opE R cx e sl (.idxStr x i) h d = match e x, e i with
    | some (.string s), some (.int _ n) =>
      if decide (0 ≤ n) then match s.data.toList[n.toNat]? with
        | some b => some (.int .u8 b.toNat, h, d)
        | none => none
      else none
    | _, _ => none := (rfl)
attribute [go_sem ↓] E_idxStr
theorem E_sliceArr0 (n size b o : Nat) (h : n < 9223372036854775808) : sliceArrS n size (.pointer (some ⟨b, o, none⟩)) none none none = some (.slice (some (if n == 0 then ⟨b, o, none⟩ else ⟨b, o + 0 * size, none⟩)) n n) := by
  have e : Nat.blt n UNK = true := by rw [blt_dec]; exact decide_eq_true h
  unfold sliceArrS
  simp only [bMx, bHi, bLo, e, if_true]
  simp

/-- bits.Len of a few -/
theorem len119 {n : Nat} (hn : n < 256) : ∃ k : Int, ∀ h, M.call 119 [.int .u64 n] h = some (.int .i64 k, h, []) := by
  obtain ⟨v, hv⟩ : ∃ v : Value, v = .int .i64 0 := ⟨_, rfl⟩
  have n1 : ¬ ((4294967296 : Int) ≤ n) := by omega
  have n2 : ¬ ((65536 : Int) ≤ n) := by omega
  have n3 : ¬ ((256 : Int) ≤ n) := by omega
  have e0 : (0 : Int) ≤ n := by omega
  have e1 : IntKind.u8.wrap (n : Int) = n := by simp [IntKind.wrap, IntKind.signed, IntKind.bits]; omega
  generalize hs : (⟨#[0, 1, 2, 2, 3, 3, 3, 3, 4, 4, 4, 4, 4, 4, 4, 4, 5, 5, 5, 5, 5, 5, 5, 5, 5, 5, 5, 5, 5, 5, 5, 5, 6, 6, 6, 6, 6, 6, 6, 6, 6, 6, 6, 6, 6, 6, 6, 6, 6, 6, 6, 6, 6, 6, 6, 6, 6, 6, 6, 6, 6, 6, 6, 6, 7, 7, 7, 7, 7, 7, 7, 7, 7, 7, 7, 7, 7, 7, 7, 7, 7, 7, 7, 7, 7, 7, 7, 7, 7, 7, 7, 7, 7, 7, 7, 7, 7, 7, 7, 7, 7, 7, 7, 7, 7, 7, 7, 7, 7, 7, 7, 7, 7, 7, 7, 7, 7, 7, 7, 7, 7, 7, 7, 7, 7, 7, 7, 7, 8, 8, 8, 8, 8, 8, 8, 8, 8, 8, 8, 8, 8, 8, 8, 8, 8, 8, 8, 8, 8, 8, 8, 8, 8, 8, 8, 8, 8, 8, 8, 8, 8, 8, 8, 8, 8, 8, 8, 8, 8, 8, 8, 8, 8, 8, 8, 8, 8, 8, 8, 8, 8, 8, 8, 8, 8, 8, 8, 8, 8, 8, 8, 8, 8, 8, 8, 8, 8, 8, 8, 8, 8, 8, 8, 8, 8, 8, 8, 8, 8, 8, 8, 8, 8, 8, 8, 8, 8, 8, 8, 8, 8, 8, 8, 8, 8, 8, 8, 8, 8, 8, 8, 8, 8, 8, 8, 8, 8, 8, 8, 8, 8, 8, 8, 8, 8, 8, 8, 8, 8, 8, 8, 8, 8, 8, 8, 8]⟩ : ByteArray) = s
  obtain ⟨b, hb⟩ : ∃ b, s.data.toList[n]? = some b := ⟨_, List.getElem?_eq_getElem (by rw [← hs]; exact hn)⟩
  refine ⟨IntKind.i64.wrap (IntKind.i64.wrap b.toNat), fun h => ?_⟩
  refine call_run sf119 rfl rfl rfl ?_
  show Run M ⟨h.length, none, 119⟩ 5 sf119.body [] _ [] h [] (callQ [.tmp 2] h.length _)
  unfold sf119
  dsimp only
  rw [hs]
  repeat (first | apply run_seq | apply run_block | apply end_seq | apply end_blk_hit | apply end_blk_miss rfl | apply end_blk | apply end_seq_exit | apply end_seq_ret | apply end_blk_ret | apply run_skip | apply run_ret | apply run_exit | (apply run_region (by decide); (simp only [go_sem, argR, n1, n2, n3]; rfl)) | (refine run_cond_t ?_ ?_; · simp only [go_sem]) | (refine run_cond_f ?_ ?_; · simp only [go_sem]))
  apply run_region (by rfl)
  · simp only [go_sem, argR, n1, n2, n3, e1, e0, hb, Int.toNat_natCast]
    rfl
  repeat (first | apply run_seq | apply run_block | apply end_seq | apply end_blk_hit | apply end_blk_miss rfl | apply end_blk | apply end_seq_exit | apply end_seq_ret | apply end_blk_ret | apply run_skip | apply run_ret | apply run_exit | (apply run_region (by decide); (simp only [go_sem]; rfl)) | (refine run_cond_t ?_ ?_; · simp only [go_sem]) | (refine run_cond_f ?_ ?_; · simp only [go_sem]))
  exact end_nil (q_ret1 _ (by simp only [go_sem]) rfl (take_self _))
theorem len107 {n : Nat} (hn : n < 256) : ∃ k : Int, ∀ h, M.call 107 [.int .u64 n] h = some (.int .i64 k, h, []) := by
  obtain ⟨k, hk⟩ := len119 hn
  refine ⟨k, fun h => ?_⟩
  refine call_run sf107 rfl rfl rfl ?_
  unfold sf107
  repeat (first | apply run_seq | apply run_block | apply end_seq | apply end_blk_hit | apply end_blk_miss rfl | apply end_blk | apply end_seq_exit | apply end_seq_ret | apply end_blk_ret | apply run_skip | apply run_ret | apply run_exit | (apply run_region (by decide); (simp only [go_sem, argR, hk]; rfl)) | (refine run_cond_t ?_ ?_; · simp only [go_sem]) | (refine run_cond_f ?_ ?_; · simp only [go_sem]))
  exact end_nil (q_ret1 _ (by simp only [go_sem]) rfl (take_self _))

theorem nan120 (x : Int) (h : SHeap) : M.call 120 [.int .i64 x] h = some (.bool false, h, []) := by
  refine call_run sf120 rfl rfl rfl ?_
  unfold sf120
  repeat (first | apply run_seq | apply run_block | apply end_seq | apply end_blk_hit | apply end_blk_miss rfl | apply end_blk | apply end_seq_exit | apply end_seq_ret | apply end_blk_ret | apply run_skip | apply run_ret | apply run_exit | (apply run_region (by decide); (simp only [go_sem, argR]; rfl)) | (refine run_cond_t ?_ ?_; · simp only [go_sem]) | (refine run_cond_f ?_ ?_; · simp only [go_sem]))
  exact end_nil (q_ret1 _ (by simp only [go_sem]) rfl (take_self _))
def cmpI (x y : Int) : Int := if x < y then -1 else if y < x then 1 else 0
theorem cmp108 (x y : Int) (h : SHeap) : M.call 108 [.int .i64 x, .int .i64 y] h = some (.int .i64 (cmpI x y), h, []) := by
  have c120 := fun z => nan120 z h
  refine call_run sf108 rfl rfl rfl ?_
  unfold sf108 cmpI
  by_cases c1 : x < y
  · repeat (first | apply run_seq | apply run_block | apply end_seq | apply end_blk_hit | apply end_blk_miss rfl | apply end_blk | apply end_seq_exit | apply end_seq_ret | apply end_blk_ret | apply run_skip | apply run_ret | apply run_exit | (apply run_region (by decide); (simp only [go_sem, argR, c120, c1]; rfl)) | (refine run_cond_t ?_ ?_; · simp only [go_sem]) | (refine run_cond_f ?_ ?_; · simp only [go_sem]))
    exact end_nil (q_ret1 _ (by simp only [go_sem, c1]) rfl (take_self _))
  · by_cases c2 : y < x
    · repeat (first | apply run_seq | apply run_block | apply end_seq | apply end_blk_hit | apply end_blk_miss rfl | apply end_blk | apply end_seq_exit | apply end_seq_ret | apply end_blk_ret | apply run_skip | apply run_ret | apply run_exit | (apply run_region (by decide); (simp only [go_sem, argR, c120, c1, c2]; rfl)) | (refine run_cond_t ?_ ?_; · simp only [go_sem]) | (refine run_cond_f ?_ ?_; · simp only [go_sem]))
      exact end_nil (q_ret1 _ (by simp only [go_sem, c1, c2]) rfl (take_self _))
    · repeat (first | apply run_seq | apply run_block | apply end_seq | apply end_blk_hit | apply end_blk_miss rfl | apply end_blk | apply end_seq_exit | apply end_seq_ret | apply end_blk_ret | apply run_skip | apply run_ret | apply run_exit | (apply run_region (by decide); (simp only [go_sem, argR, c120, c1, c2]; rfl)) | (refine run_cond_t ?_ ?_; · simp only [go_sem]) | (refine run_cond_f ?_ ?_; · simp only [go_sem]))
      exact end_nil (q_ret1 _ (by simp only [go_sem, c1, c2]) rfl (take_self _))

/-- the order of points, as the program compares -/
def cmpP (p q : Int × Int) : Int := if cmpI p.1 q.1 ≠ 0 then cmpI p.1 q.1 else cmpI p.2 q.2
theorem cmpP_neg (p q : Int × Int) : cmpP p q < 0 ↔ before p q = true := by
  simp only [before, decide_eq_true_eq]
  unfold cmpP cmpI
  by_cases c1 : p.1 < q.1
  · simp [c1]
  · by_cases c2 : q.1 < p.1
    · simp [c1, c2]; omega
    · have : p.1 = q.1 := by omega
      simp [this]
      by_cases c3 : p.2 < q.2
      · simp [c3]
      · by_cases c4 : q.2 < p.2
        · simp [c3, c4]
        · simp [c3, c4]

theorem cmp_loop (cx : Cx) {H : SHeap} {p q : Int × Int} (b1 b2 : Nat) (h1 : H[b1]? = some (.cells [.int .i64 p.1, .int .i64 p.2] 53 true 0 [])) (h2 : H[b2]? = some (.cells [.int .i64 q.1, .int .i64 q.2] 53 true 0 [])) :
    ∀ k ρ ms h' d', (∃ i : Nat, i + k = 2 ∧ ρ 1 = .slice (some ⟨b2, 0, none⟩) 2 2 ∧ ρ 9 = .slice (some ⟨b1, 0, none⟩) 2 2 ∧ ρ 10 = .int .i64 2 ∧ ρ 11 = .int .i64 i ∧ ρ 0 = .slice (some ⟨b1, 0, none⟩) 2 2 ∧ (1 ≤ i → cmpI p.1 q.1 = 0) ∧ (2 ≤ i → cmpI p.2 q.2 = 0) ∧ ms = [] ∧ h' = H ∧ d' = []) →
    LoopW M cx 6 sf91L0 ρ ms h' d' (fun ex ρ' ms' h' d' => ms' = [] ∧ h' = H ∧ d' = [] ∧ ((ex = .exit 0 ∧ ρ' 0 = .slice (some ⟨b1, 0, none⟩) 2 2 ∧ ρ' 1 = .slice (some ⟨b2, 0, none⟩) 2 2 ∧ cmpP p q = 0) ∨ (ex = .ret ∧ ρ' 4 = .int .i64 (cmpP p q)))) := by
  refine loop_run _ ?_
  rintro k ρ ms h' d' ⟨i, hi, r1, r9, r10, r11, r0, z1, z2, rfl, rfl, rfl⟩
  unfold sf91L0
  have l1 : loadS h' none (.pointer (some ⟨b1, 0, none⟩)) = some (.int .i64 p.1) := by rw [load_rdO, h1]; rfl
  have l2 : loadS h' none (.pointer (some ⟨b1, 1, none⟩)) = some (.int .i64 p.2) := by rw [load_rdO, h1]; rfl
  have l3 : loadS h' none (.pointer (some ⟨b2, 0, none⟩)) = some (.int .i64 q.1) := by rw [load_rdO, h2]; rfl
  have l4 : loadS h' none (.pointer (some ⟨b2, 1, none⟩)) = some (.int .i64 q.2) := by rw [load_rdO, h2]; rfl
  have c1 := cmp108 p.1 q.1 h'
  have c2 := cmp108 p.2 q.2 h'
  have j3 : i = 0 ∨ i = 1 ∨ i = 2 := by omega
  rcases j3 with rfl | rfl | rfl
  · by_cases q1 : cmpI p.1 q.1 = 0
    · rw [q1] at c1
      repeat (first | apply run_seq | apply run_block | apply end_seq | apply end_blk_hit | apply end_blk_miss rfl | apply end_blk | apply end_seq_exit | apply end_seq_ret | apply end_blk_ret | apply run_skip | apply run_ret | apply run_exit | (apply run_region (by decide); (simp only [go_sem, r1, r9, r10, r11, l1, l3, c1, wrap_1]; rfl)) | (refine run_cond_t ?_ ?_; · simp only [go_sem]) | (refine run_cond_f ?_ ?_; · simp only [go_sem]))
      refine end_nil ⟨1, by omega, 1, rfl, ?_, ?_, ?_, ?_, ?_, fun _ => q1, fun h => by omega, rfl, rfl, rfl⟩
      · simp only [go_sem, r1]
      · simp only [go_sem, r9]
      · simp only [go_sem, r10]
      · (simp only [go_sem, wrap_1]) <;> rfl
      · simp only [go_sem, r0]
    · repeat (first | apply run_seq | apply run_block | apply end_seq | apply end_blk_hit | apply end_blk_miss rfl | apply end_blk | apply end_seq_exit | apply end_seq_ret | apply end_blk_ret | apply run_skip | apply run_ret | apply run_exit | (apply run_region (by decide); (simp only [go_sem, r1, r9, r10, r11, l1, l3, c1, q1]; rfl)) | (refine run_cond_t ?_ ?_; · simp only [go_sem]) | (refine run_cond_f ?_ ?_; · simp only [go_sem]))
      refine end_nil ⟨rfl, rfl, rfl, .inr ⟨rfl, ?_⟩⟩
      simp only [go_sem]
      unfold cmpP; rw [if_pos q1]
  · have q1 := z1 (Nat.le_refl _)
    have ew : IntKind.i64.wrap 2 = 2 := rfl
    by_cases q2 : cmpI p.2 q.2 = 0
    · rw [q2] at c2
      repeat (first | apply run_seq | apply run_block | apply end_seq | apply end_blk_hit | apply end_blk_miss rfl | apply end_blk | apply end_seq_exit | apply end_seq_ret | apply end_blk_ret | apply run_skip | apply run_ret | apply run_exit | (apply run_region (by decide); (simp only [go_sem, r1, r9, r10, r11, l2, l4, c2, ew]; rfl)) | (refine run_cond_t ?_ ?_; · simp only [go_sem]) | (refine run_cond_f ?_ ?_; · simp only [go_sem]))
      refine end_nil ⟨0, by omega, 2, rfl, ?_, ?_, ?_, ?_, ?_, fun _ => q1, fun _ => q2, rfl, rfl, rfl⟩
      · simp only [go_sem, r1]
      · simp only [go_sem, r9]
      · simp only [go_sem, r10]
      · (simp only [go_sem, ew]) <;> rfl
      · simp only [go_sem, r0]
    · repeat (first | apply run_seq | apply run_block | apply end_seq | apply end_blk_hit | apply end_blk_miss rfl | apply end_blk | apply end_seq_exit | apply end_seq_ret | apply end_blk_ret | apply run_skip | apply run_ret | apply run_exit | (apply run_region (by decide); (simp only [go_sem, r1, r9, r10, r11, l2, l4, c2, q2]; rfl)) | (refine run_cond_t ?_ ?_; · simp only [go_sem]) | (refine run_cond_f ?_ ?_; · simp only [go_sem]))
      refine end_nil ⟨rfl, rfl, rfl, .inr ⟨rfl, ?_⟩⟩
      simp only [go_sem]
      unfold cmpP; rw [if_neg (by simp [q1])]
  · repeat (first | apply run_seq | apply run_block | apply end_seq | apply end_blk_hit | apply end_blk_miss rfl | apply end_blk | apply end_seq_exit | apply end_seq_ret | apply end_blk_ret | apply run_skip | apply run_ret | apply run_exit | (apply run_region (by decide); (simp only [go_sem, r10, r11]; rfl)) | (refine run_cond_t ?_ ?_; · simp only [go_sem]) | (refine run_cond_f ?_ ?_; · simp only [go_sem]))
    refine end_nil ⟨rfl, rfl, rfl, .inl ⟨rfl, ?_, ?_, ?_⟩⟩
    · simp only [go_sem, r0]
    · simp only [go_sem, r1]
    · unfold cmpP; rw [if_neg (by simp [z1 (by omega)]), z2 (by omega)]

/-- comparing two points as slices -/
theorem cmp91 {H : SHeap} {p q : Int × Int} {b1 b2 : Nat} (h1 : H[b1]? = some (.cells [.int .i64 p.1, .int .i64 p.2] 53 true 0 [])) (h2 : H[b2]? = some (.cells [.int .i64 q.1, .int .i64 q.2] 53 true 0 [])) :
    M.call 91 [.slice (some ⟨b1, 0, none⟩) 2 2, .slice (some ⟨b2, 0, none⟩) 2 2] H = some (.int .i64 (cmpP p q), H, []) := by
  refine call_run sf91 rfl rfl rfl ?_
  unfold sf91
  repeat (first | apply run_seq | apply run_block | apply end_seq | apply end_blk_hit | apply end_blk_miss rfl | apply end_blk | apply end_seq_exit | apply end_seq_ret | apply end_blk_ret | apply run_skip | apply run_ret | apply run_exit | (apply run_region (by decide); (simp only [go_sem, argR]; rfl)) | (refine run_cond_t ?_ ?_; · simp only [go_sem]) | (refine run_cond_f ?_ ?_; · simp only [go_sem]))
  refine run_loop (cmp_loop _ b1 b2 h1 h2 2 _ _ _ _ ⟨0, rfl, by simp only [go_sem, argR], by simp only [go_sem, argR], by (simp only [go_sem, argR]) <;> rfl, by (simp only [go_sem]) <;> rfl, by simp only [go_sem, argR], fun h => by omega, fun h => by omega, rfl, rfl, rfl⟩) ?_
  rintro ex ρ' ms' h1 d1 ⟨rfl, rfl, rfl, ⟨rfl, k0, k1, he⟩ | ⟨rfl, h4⟩⟩
  · rw [he]
    repeat (first | apply run_seq | apply run_block | apply end_seq | apply end_blk_hit | apply end_blk_miss rfl | apply end_blk | apply end_seq_exit | apply end_seq_ret | apply end_blk_ret | apply run_skip | apply run_ret | apply run_exit | (apply run_region (by decide); (simp only [go_sem, k0, k1]; rfl)) | (refine run_cond_t ?_ ?_; · simp only [go_sem]) | (refine run_cond_f ?_ ?_; · simp only [go_sem]))
    exact end_nil (q_ret1 _ (by simp only [go_sem]) rfl (take_self _))
  · repeat (first | apply run_seq | apply run_block | apply end_seq | apply end_blk_hit | apply end_blk_miss rfl | apply end_blk | apply end_seq_exit | apply end_seq_ret | apply end_blk_ret | apply run_skip | apply run_ret | apply run_exit | (apply run_region (by decide); (simp only [go_sem]; rfl)) | (refine run_cond_t ?_ ?_; · simp only [go_sem]) | (refine run_cond_f ?_ ?_; · simp only [go_sem]))
    exact end_nil (q_ret1 _ h4 rfl (take_self _))
/-- the function by which the program sorts -/
theorem cmp90 (p q : Int × Int) (h : SHeap) : M.call 90 [.agg #[.int .i64 p.1, .int .i64 p.2], .agg #[.int .i64 q.1, .int .i64 q.2]] h = some (.int .i64 (cmpP p q), h, []) := by
  have c91 := cmp91 (H := h ++ [SO.cells [.int .i64 p.1, .int .i64 p.2] 53 true 0 [], .cells [.int .i64 q.1, .int .i64 q.2] 53 true 0 []]) (p := p) (q := q) (b1 := h.length) (b2 := h.length + 1) (by rw [app_get0]; rfl) (by rw [app_get]; rfl)
  have s1 := E_sliceArr0 2 1 h.length 0 (by decide)
  have s2 := E_sliceArr0 2 1 (h.length + 1) 0 (by decide)
  have e0 : ((2 : Nat) == 0) = false := rfl
  simp only [e0, Bool.false_eq_true, if_false, Nat.zero_mul, Nat.add_zero] at s1 s2
  refine call_run sf90 rfl rfl rfl ?_
  unfold sf90
  repeat (first | apply run_seq | apply run_block | apply end_seq | apply end_blk_hit | apply end_blk_miss rfl | apply end_blk | apply end_seq_exit | apply end_seq_ret | apply end_blk_ret | apply run_skip | apply run_ret | apply run_exit | (apply run_region (by decide); (simp only [go_sem, argR, s1, s2, c91]; rfl)) | (refine run_cond_t ?_ ?_; · simp only [go_sem]) | (refine run_cond_f ?_ ?_; · simp only [go_sem]))
  exact end_nil (q_ret1 _ (by simp only [go_sem]) rfl (take_app _ _))
end Go.Proofs.Ytecncmmkghmojaa.Sh


/- The library's sort of few points. -/
namespace Go.Proofs.Ytecncmmkghmojaa.Sh
open Go Geo
set_option maxRecDepth 100000

theorem write_prs {y : List (Int × Int)} {j : Nat} (hj : j < y.length) (p : Int × Int) : ((prs y).set (j * 2) (.int .i64 p.1)).set (j * 2 + 1) (.int .i64 p.2) = prs (y.set j p) := by
  induction y generalizing j with
  | nil => simp at hj
  | cons q r ih =>
    cases j with
    | zero => simp [prs]
    | succ j =>
      have := ih (j := j) (by simpa using hj)
      rw [show (j + 1) * 2 = j * 2 + 1 + 1 by omega]
      simp only [prs, List.set_cons_succ]
      rw [this]
theorem cn_set {y : List (Int × Int)} {j : Nat} (hj : j < y.length) (p : Int × Int) (x : Nat) : cn (y.set j p) x = if x = j then p else cn y x := by
  unfold cn
  rw [List.getD_eq_getElem?_getD, List.getD_eq_getElem?_getD]
  by_cases e : x = j
  · subst e; rw [if_pos rfl, List.getElem?_set_self hj]; rfl
  · rw [if_neg e, List.getElem?_set_ne (by omega)]
theorem cn_elem {y : List (Int × Int)} {j : Nat} (hj : j < y.length) : y[j] = cn y j := by
  unfold cn; rw [List.getD_eq_getElem?_getD, List.getElem?_eq_getElem hj]; rfl
def swp (y : List (Int × Int)) (i j : Nat) : List (Int × Int) := (y.set i (cn y j)).set j (cn y i)
theorem swp_len (y : List (Int × Int)) (i j : Nat) : (swp y i j).length = y.length := by simp [swp]
theorem swp_perm {y : List (Int × Int)} {i j : Nat} (hi : i < y.length) (hj : j < y.length) : (swp y i j).Perm y := by
  unfold swp
  rw [← cn_elem hi, ← cn_elem hj]
  exact List.set_set_perm hi hj
theorem swp_cn {y : List (Int × Int)} {i j : Nat} (hi : i < y.length) (hj : j < y.length) (x : Nat) : cn (swp y i j) x = if x = j then cn y i else if x = i then cn y j else cn y x := by
  unfold swp
  rw [cn_set (by simpa using hj), cn_set hi]

/-- sorted but for one that has come to place j -/
def InsP (y : List (Int × Int)) (i j : Nat) : Prop := (∀ a c, a < c → c ≤ i → a ≠ j → c ≠ j → before (cn y c) (cn y a) = false) ∧ (∀ c, j < c → c ≤ i → before (cn y c) (cn y j) = false)
def SortP (y : List (Int × Int)) (i : Nat) : Prop := ∀ a c, a < c → c < i → before (cn y c) (cn y a) = false
theorem before_asym {p q : Int × Int} (h : before p q = true) : before q p = false := by
  simp only [before, decide_eq_true_eq, decide_eq_false_iff_not] at *
  omega
theorem ins_done {y : List (Int × Int)} {i j : Nat} (h : InsP y i j) (hj : j ≤ i) (he : j = 0 ∨ before (cn y j) (cn y (j - 1)) = false) : SortP y (i + 1) := by
  intro a c hac hc
  by_cases ha : a = j
  · subst ha; exact h.2 c hac (by omega)
  · by_cases hcj : c = j
    · subst hcj
      rcases he with e | e
      · omega
      · by_cases e2 : a = c - 1
        · subst e2; exact e
        · exact before_trans (h.1 a (c - 1) (by omega) (by omega) (by omega) (by omega)) e
    · exact h.1 a c hac (by omega) ha hcj
theorem ins_swap {y : List (Int × Int)} {i j : Nat} (h : InsP y i j) (hj : j ≤ i) (hi : i < y.length) (hj0 : 0 < j) (hb : before (cn y j) (cn y (j - 1)) = true) : InsP (swp y j (j - 1)) i (j - 1) := by
  have e := swp_cn (y := y) (i := j) (j := j - 1) (by omega) (by omega)
  refine ⟨fun a c hac hc ha hcj => ?_, fun c hjc hc => ?_⟩
  · rw [e, e, if_neg hcj, if_neg ha]
    by_cases c1 : c = j
    · subst c1
      rw [if_pos rfl, if_neg (by omega)]
      exact h.1 a (c - 1) (by omega) (by omega) (by omega) (by omega)
    · rw [if_neg c1]
      by_cases c2 : a = j
      · subst c2
        rw [if_pos rfl]
        exact h.1 (a - 1) c (by omega) hc (by omega) c1
      · rw [if_neg c2]
        exact h.1 a c hac hc c2 c1
  · rw [e, e, if_neg (show c ≠ j - 1 by omega), if_pos rfl]
    by_cases c1 : c = j
    · subst c1
      rw [if_pos rfl]
      exact before_asym hb
    · rw [if_neg c1]
      exact h.2 c (by omega) hc

/-- a block that holds points -/
abbrev blk (y : List (Int × Int)) : SO := .cells (prs y) 53 true 0 []

theorem ins_in (cx : Cx) {h : SHeap} {b c : Nat} {n : Nat} (hb : b < h.length) (hn : n ≤ 1000) {i : Nat} (hi : i < n) (l : List (Int × Int)) :
    ∀ k ρ ms h' d', (∃ y : List (Int × Int), k ≤ i ∧ y.length = n ∧ y.Perm l ∧ InsP y i k ∧ ρ 0 = .slice (some ⟨b, 0, none⟩) n c ∧ ρ 1 = .int .i64 0 ∧ ρ 2 = .int .i64 n ∧ ρ 3 = .func (.func 90) #[] #[] ∧ ρ 8 = .int .i64 i ∧ ρ 9 = .int .i64 k ∧ ms = [] ∧ h' = h.set b (blk y) ∧ d' = []) →
    LoopW M cx 6 sf110L0 ρ ms h' d' (fun ex ρ' ms' h' d' => ex = .exit 2 ∧ ρ' 0 = .slice (some ⟨b, 0, none⟩) n c ∧ ρ' 1 = .int .i64 0 ∧ ρ' 2 = .int .i64 n ∧ ρ' 3 = .func (.func 90) #[] #[] ∧ ρ' 8 = .int .i64 i ∧ (∃ y : List (Int × Int), y.length = n ∧ y.Perm l ∧ SortP y (i + 1) ∧ h' = h.set b (blk y)) ∧ ms' = [] ∧ d' = []) := by
  refine loop_run _ ?_
  rintro k ρ ms h' d' ⟨y, hk, hy, hp, hI, r0, r1, r2, r3, r8, r9, rfl, rfl, rfl⟩
  unfold sf110L0
  have hset : ∀ z : SO, (h.set b z)[b]? = some z := fun z => List.getElem?_set_self hb
  by_cases hk0 : k = 0
  · subst hk0
    repeat (first | apply run_seq | apply run_block | apply end_seq | apply end_blk_hit | apply end_blk_miss rfl | apply end_blk | apply end_seq_exit | apply end_seq_ret | apply end_blk_ret | apply run_skip | apply run_ret | apply run_exit | (apply run_region (by decide); (simp only [go_sem, r1, r9]; rfl)) | (refine run_cond_t ?_ ?_; · simp only [go_sem]) | (refine run_cond_f ?_ ?_; · simp only [go_sem]))
    refine end_nil ⟨rfl, ?_, ?_, ?_, ?_, ?_, ⟨y, hy, hp, ins_done hI (by omega) (.inl rfl), rfl⟩, rfl, rfl⟩
    · simp only [go_sem, r0]
    · simp only [go_sem, r1]
    · simp only [go_sem, r2]
    · simp only [go_sem, r3]
    · simp only [go_sem, r8]
  · have e0 : (0 : Int) < k := by omega
    have e1 : (0 : Int) ≤ k := by omega
    have e2 : (k : Int) < n := by omega
    have e3 : IntKind.i64.wrap ((k : Int) - 1) = ((k - 1 : Nat) : Int) := by rw [wrap64 (by omega) (by omega)]; omega
    have e4 : (0 : Int) ≤ ((k - 1 : Nat) : Int) := by omega
    have e5 : ((k - 1 : Nat) : Int) < n := by omega
    have pp : Prs (h.set b (blk y)) b 0 y := Prs.mk0 (hset _) rfl
    have l1 := pp.corner (i := k) (by omega) []
    have l2 := pp.corner (i := k - 1) (by omega) []
    rw [List.append_nil, Nat.zero_add] at l1 l2
    have c90 := cmp90 (cn y k) (cn y (k - 1)) (h.set b (blk y))
    have hbf := cmpP_neg (cn y k) (cn y (k - 1))
    by_cases hc : cmpP (cn y k) (cn y (k - 1)) < 0
    · have ws1 := write_prs (y := y) (j := k) (by omega) (cn y (k - 1))
      have ws2 := write_prs (y := y.set k (cn y (k - 1))) (j := k - 1) (by simp; omega) (cn y k)
      have hsw : (y.set k (cn y (k - 1))).set (k - 1) (cn y k) = swp y k (k - 1) := rfl
      rw [hsw] at ws2
      have e6 : k * 2 + 2 ≤ (prs y).length := by rw [prs_len]; omega
      have e7 : (k - 1) * 2 + 2 ≤ (prs (y.set k (cn y (k - 1)))).length := by rw [prs_len, List.length_set]; omega
      have hI' := ins_swap hI hk (by omega) (by omega) (hbf.1 hc)
      have hp' := (swp_perm (y := y) (i := k) (j := k - 1) (by omega) (by omega)).trans hp
      have hl' := swp_len y k (k - 1)
      generalize swp y k (k - 1) = y' at *
      generalize y.set k (cn y (k - 1)) = y1 at *
      generalize cn y k = p at *
      generalize cn y (k - 1) = q at *
      repeat (first | apply run_seq | apply run_block | apply end_seq | apply end_blk_hit | apply end_blk_miss rfl | apply end_blk | apply end_seq_exit | apply end_seq_ret | apply end_blk_ret | apply run_skip | apply run_ret | apply run_exit | (apply run_region (by decide); (simp only [go_sem, r0, r1, r3, r9, e0, e1, e2, e3, e4, e5, l1, l2, c90, hc, hset, List.set_set, e6, e7, ws1, ws2, Int.toNat_natCast]; rfl)) | (refine run_cond_t ?_ ?_; · simp only [go_sem]) | (refine run_cond_f ?_ ?_; · simp only [go_sem]))
      refine end_nil ⟨k - 1, by omega, y', by omega, by omega, hp', hI', ?_, ?_, ?_, ?_, ?_, ?_, rfl, rfl, rfl⟩
      · simp only [go_sem, r0]
      · simp only [go_sem, r1]
      · simp only [go_sem, r2]
      · simp only [go_sem, r3]
      · simp only [go_sem, r8]
      · simp only [go_sem, e3]
    · have hS : before (cn y k) (cn y (k - 1)) = false := by
        cases e : before (cn y k) (cn y (k - 1))
        · rfl
        · exact (hc (hbf.2 e)).elim
      have hD := ins_done hI hk (.inr hS)
      generalize cn y k = p at *
      generalize cn y (k - 1) = q at *
      repeat (first | apply run_seq | apply run_block | apply end_seq | apply end_blk_hit | apply end_blk_miss rfl | apply end_blk | apply end_seq_exit | apply end_seq_ret | apply end_blk_ret | apply run_skip | apply run_ret | apply run_exit | (apply run_region (by decide); (simp only [go_sem, r0, r1, r3, r9, e0, e1, e2, e3, e4, e5, l1, l2, c90, hc, Int.toNat_natCast]; rfl)) | (refine run_cond_t ?_ ?_; · simp only [go_sem]) | (refine run_cond_f ?_ ?_; · simp only [go_sem]))
      refine end_nil ⟨rfl, ?_, ?_, ?_, ?_, ?_, ⟨y, hy, hp, hD, rfl⟩, rfl, rfl⟩
      · simp only [go_sem, r0]
      · simp only [go_sem, r1]
      · simp only [go_sem, r2]
      · simp only [go_sem, r3]
      · simp only [go_sem, r8]

theorem ins_out (cx : Cx) {h : SHeap} {b c : Nat} {n : Nat} (hb : b < h.length) (hn : n ≤ 1000) (l : List (Int × Int)) :
    ∀ k ρ ms h' d', (∃ (i : Nat) (y : List (Int × Int)), i + k = n ∧ y.length = n ∧ y.Perm l ∧ SortP y i ∧ ρ 0 = .slice (some ⟨b, 0, none⟩) n c ∧ ρ 1 = .int .i64 0 ∧ ρ 2 = .int .i64 n ∧ ρ 3 = .func (.func 90) #[] #[] ∧ ρ 8 = .int .i64 i ∧ ms = [] ∧ h' = h.set b (blk y) ∧ d' = []) →
    LoopW M cx 6 sf110L1 ρ ms h' d' (fun ex ρ' ms' h' d' => ex = .exit 0 ∧ (∃ y : List (Int × Int), y.length = n ∧ y.Perm l ∧ SortP y n ∧ h' = h.set b (blk y)) ∧ ms' = [] ∧ d' = []) := by
  refine loop_run _ ?_
  rintro k ρ ms h' d' ⟨i, y, hi, hy, hp, hS, r0, r1, r2, r3, r8, rfl, rfl, rfl⟩
  unfold sf110L1
  by_cases hk : k = 0
  · have e1 : ¬ ((i : Int) < n) := by omega
    have ei : i = n := by omega
    repeat (first | apply run_seq | apply run_block | apply end_seq | apply end_blk_hit | apply end_blk_miss rfl | apply end_blk | apply end_seq_exit | apply end_seq_ret | apply end_blk_ret | apply run_skip | apply run_ret | apply run_exit | (apply run_region (by decide); (simp only [go_sem, r2, r8, e1]; rfl)) | (refine run_cond_t ?_ ?_; · simp only [go_sem]) | (refine run_cond_f ?_ ?_; · simp only [go_sem]))
    exact end_nil ⟨rfl, ⟨y, hy, hp, by rw [← ei]; exact hS, rfl⟩, rfl, rfl⟩
  · have e1 : (i : Int) < n := by omega
    have ew : IntKind.i64.wrap ((i : Int) + 1) = ((i + 1 : Nat) : Int) := by rw [wrap64 (by omega) (by omega)]; rfl
    repeat (first | apply run_seq | apply run_block | apply end_seq | apply end_blk_hit | apply end_blk_miss rfl | apply end_blk | apply end_seq_exit | apply end_seq_ret | apply end_blk_ret | apply run_skip | apply run_ret | apply run_exit | (apply run_region (by decide); (simp only [go_sem, r2, r8, e1]; rfl)) | (refine run_cond_t ?_ ?_; · simp only [go_sem]) | (refine run_cond_f ?_ ?_; · simp only [go_sem]))
    refine run_loop (ins_in cx (c := c) hb hn (show i < n by omega) l i _ _ _ _ ⟨y, Nat.le_refl _, hy, hp, ⟨fun a c h1 h2 h3 h4 => hS a c h1 (by omega), fun c h1 h2 => by omega⟩, by simp only [go_sem, r0], by simp only [go_sem, r1], by simp only [go_sem, r2], by simp only [go_sem, r3], by simp only [go_sem, r8], by simp only [go_sem, r8], rfl, rfl, rfl⟩) ?_
    rintro ex ρ' ms' h1 d1 ⟨rfl, k0, k1, k2, k3, k8, ⟨y', hy', hp', hS', rfl⟩, rfl, rfl⟩
    repeat (first | apply run_seq | apply run_block | apply end_seq | apply end_blk_hit | apply end_blk_miss rfl | apply end_blk | apply end_seq_exit | apply end_seq_ret | apply end_blk_ret | apply run_skip | apply run_ret | apply run_exit | (apply run_region (by decide); (simp only [go_sem, k8, ew]; rfl)) | (refine run_cond_t ?_ ?_; · simp only [go_sem]) | (refine run_cond_f ?_ ?_; · simp only [go_sem]))
    refine end_nil ⟨k - 1, by omega, i + 1, y', by omega, hy', hp', hS', ?_, ?_, ?_, ?_, ?_, rfl, rfl, rfl⟩
    · simp only [go_sem, k0]
    · simp only [go_sem, k1]
    · simp only [go_sem, k2]
    · simp only [go_sem, k3]
    · simp only [go_sem, ew]

theorem q_none {base : Nat} {ρ : Reg} {h h0 : SHeap} {ex : Ex} (he : isEnd ex = true) (ht : h.take base = h0) : callQ [] base (.tuple #[], h0, []) ex ρ [] h [] := by
  refine ⟨he, ?_⟩
  exact end_flat (l := []) rfl ht
theorem take_set_all {h : SHeap} {b : Nat} (x : SO) : (h.set b x).take h.length = h.set b x := by
  rw [List.take_of_length_le (by simp)]

/-- insertionSort -/
theorem ins110 {h : SHeap} {b c : Nat} {l : List (Int × Int)} (hb : h[b]? = some (blk l)) (hn : l.length ≤ 1000) (hn0 : 1 ≤ l.length) :
    ∃ y : List (Int × Int), y.length = l.length ∧ y.Perm l ∧ SortP y l.length ∧ M.call 110 [.slice (some ⟨b, 0, none⟩) l.length c, .int .i64 0, .int .i64 l.length, .func (.func 90) #[] #[]] h = some (.tuple #[], h.set b (blk y), []) := by
  have hbl : b < h.length := (List.getElem?_eq_some_iff.1 hb).1
  have hself : h = h.set b (blk l) := by
    apply List.ext_getElem?
    intro j
    by_cases e : j = b
    · subst e; rw [hb, List.getElem?_set_self hbl]
    · rw [List.getElem?_set_ne (by omega)]
  suffices h2 : ∃ r, (∃ y : List (Int × Int), y.length = l.length ∧ y.Perm l ∧ SortP y l.length ∧ r = (.tuple #[], h.set b (blk y), [])) ∧ M.call 110 [.slice (some ⟨b, 0, none⟩) l.length c, .int .i64 0, .int .i64 l.length, .func (.func 90) #[] #[]] h = some r by
    obtain ⟨r, ⟨y, h1, h2, h3, rfl⟩, e⟩ := h2
    exact ⟨y, h1, h2, h3, e⟩
  refine call_ex _ sf110 rfl rfl rfl ?_
  unfold sf110
  repeat (first | apply run_seq | apply run_block | apply end_seq | apply end_blk_hit | apply end_blk_miss rfl | apply end_blk | apply end_seq_exit | apply end_seq_ret | apply end_blk_ret | apply run_skip | apply run_ret | apply run_exit | (apply run_region (by decide); (simp only [go_sem, argR, wrap_1]; rfl)) | (refine run_cond_t ?_ ?_; · simp only [go_sem]) | (refine run_cond_f ?_ ?_; · simp only [go_sem]))
  refine run_loop (ins_out _ (c := c) hbl hn l (l.length - 1) _ _ _ _ ⟨1, l, by omega, rfl, List.Perm.refl _, fun a c h1 h2 => by omega, by simp only [go_sem, argR], by simp only [go_sem, argR], by simp only [go_sem, argR], by simp only [go_sem, argR], by (simp only [go_sem, wrap_1]) <;> rfl, rfl, hself, rfl⟩) ?_
  rintro ex ρ' ms' h1 d1 ⟨rfl, ⟨y, h1, h2, h3, rfl⟩, rfl, rfl⟩
  repeat (first | apply run_seq | apply run_block | apply end_seq | apply end_blk_hit | apply end_blk_miss rfl | apply end_blk | apply end_seq_exit | apply end_seq_ret | apply end_blk_ret | apply run_skip | apply run_ret | apply run_exit | (apply run_region (by decide); (simp only [go_sem]; rfl)) | (refine run_cond_t ?_ ?_; · simp only [go_sem]) | (refine run_cond_f ?_ ?_; · simp only [go_sem]))
  exact end_nil ⟨_, ⟨y, h1, h2, h3, rfl⟩, q_none rfl (take_set_all _)⟩
end Go.Proofs.Ytecncmmkghmojaa.Sh


/- Sorting, copying, reversing points. -/
namespace Go.Proofs.Ytecncmmkghmojaa.Sh
open Go Geo
set_option maxRecDepth 100000

theorem pdq_loop (cx : Cx) {h : SHeap} {b c : Nat} {l : List (Int × Int)} (hb : h[b]? = some (blk l)) (hn : l.length ≤ 12) (hn0 : 1 ≤ l.length) :
    ∀ (k : Nat) ρ ms h' d', (ρ 0 = .slice (some ⟨b, 0, none⟩) l.length c ∧ ρ 1 = .int .i64 0 ∧ ρ 2 = .int .i64 l.length ∧ ρ 4 = .func (.func 90) #[] #[] ∧ ms = [] ∧ h' = h ∧ d' = []) →
    LoopW M cx 8 sf106L0 ρ ms h' d' (fun ex ρ' ms' h' d' => ex = .ret ∧ (∃ y : List (Int × Int), y.length = l.length ∧ y.Perm l ∧ SortP y l.length ∧ h' = h.set b (blk y)) ∧ ms' = [] ∧ d' = []) := by
  refine loop_run _ ?_
  rintro k ρ ms h' d' ⟨r0, r1, r2, r4, rfl, rfl, rfl⟩
  unfold sf106L0
  obtain ⟨y, h1, h2, h3, c110⟩ := ins110 (c := c) hb (by omega) hn0
  have e1 : IntKind.i64.wrap ((l.length : Int) - 0) = l.length := by rw [Int.sub_zero]; exact wrap64 (by omega) (by omega)
  have e1' : IntKind.i64.wrap (l.length : Int) = l.length := wrap64 (by omega) (by omega)
  have e2 : (l.length : Int) ≤ 12 := by omega
  repeat (first | apply run_seq | apply run_block | apply end_seq | apply end_blk_hit | apply end_blk_miss rfl | apply end_blk | apply end_seq_exit | apply end_seq_ret | apply end_blk_ret | apply run_skip | apply run_ret | apply run_exit | (apply run_region (by decide); (simp only [go_sem, r0, r1, r2, r4, e1, e1', e2, c110, Int.sub_zero]; rfl)) | (refine run_cond_t ?_ ?_; · simp only [go_sem]) | (refine run_cond_f ?_ ?_; · simp only [go_sem]))
  exact end_nil ⟨rfl, ⟨y, h1, h2, h3, rfl⟩, rfl, rfl⟩

theorem pdq106 {h : SHeap} {b c : Nat} {l : List (Int × Int)} (k : Int) (hb : h[b]? = some (blk l)) (hn : l.length ≤ 12) (hn0 : 1 ≤ l.length) :
    ∃ y : List (Int × Int), y.length = l.length ∧ y.Perm l ∧ SortP y l.length ∧ M.call 106 [.slice (some ⟨b, 0, none⟩) l.length c, .int .i64 0, .int .i64 l.length, .int .i64 k, .func (.func 90) #[] #[]] h = some (.tuple #[], h.set b (blk y), []) := by
  suffices h2 : ∃ r, (∃ y : List (Int × Int), y.length = l.length ∧ y.Perm l ∧ SortP y l.length ∧ r = (.tuple #[], h.set b (blk y), [])) ∧ M.call 106 [.slice (some ⟨b, 0, none⟩) l.length c, .int .i64 0, .int .i64 l.length, .int .i64 k, .func (.func 90) #[] #[]] h = some r by
    obtain ⟨r, ⟨y, h1, h2, h3, rfl⟩, e⟩ := h2
    exact ⟨y, h1, h2, h3, e⟩
  refine call_ex _ sf106 rfl rfl rfl ?_
  unfold sf106
  repeat (first | apply run_seq | apply run_block | apply end_seq | apply end_blk_hit | apply end_blk_miss rfl | apply end_blk | apply end_seq_exit | apply end_seq_ret | apply end_blk_ret | apply run_skip | apply run_ret | apply run_exit | (apply run_region (by decide); (simp only [go_sem, argR]; rfl)) | (refine run_cond_t ?_ ?_; · simp only [go_sem]) | (refine run_cond_f ?_ ?_; · simp only [go_sem]))
  refine run_loop (pdq_loop _ (c := c) hb hn hn0 0 _ _ _ _ ⟨by simp only [go_sem, argR], by simp only [go_sem, argR], by simp only [go_sem, argR], by simp only [go_sem, argR], rfl, rfl, rfl⟩) ?_
  rintro ex ρ' ms' h1 d1 ⟨rfl, ⟨y, h1, h2, h3, rfl⟩, rfl, rfl⟩
  repeat (first | apply run_seq | apply run_block | apply end_seq | apply end_blk_hit | apply end_blk_miss rfl | apply end_blk | apply end_seq_exit | apply end_seq_ret | apply end_blk_ret | apply run_skip | apply run_ret | apply run_exit | (apply run_region (by decide); (simp only [go_sem]; rfl)) | (refine run_cond_t ?_ ?_; · simp only [go_sem]) | (refine run_cond_f ?_ ?_; · simp only [go_sem]))
  exact end_nil ⟨_, ⟨y, h1, h2, h3, rfl⟩, q_none rfl (take_set_all _)⟩

/-- SortFunc -/
theorem sort89 {h : SHeap} {b c : Nat} {l : List (Int × Int)} (hb : h[b]? = some (blk l)) (hn : l.length ≤ 12) (hn0 : 1 ≤ l.length) :
    ∃ y : List (Int × Int), y.length = l.length ∧ y.Perm l ∧ SortP y l.length ∧ M.call 89 [.slice (some ⟨b, 0, none⟩) l.length c, .func (.func 90) #[] #[]] h = some (.tuple #[], h.set b (blk y), []) := by
  obtain ⟨k, hk⟩ := len107 (n := l.length) (by omega)
  obtain ⟨y, h1, h2, h3, c106⟩ := pdq106 (c := c) k hb hn hn0
  refine ⟨y, h1, h2, h3, ?_⟩
  have e1 : IntKind.u64.wrap (l.length : Int) = l.length := by simp [IntKind.wrap, IntKind.signed, IntKind.bits]; omega
  refine call_run sf89 rfl rfl rfl ?_
  unfold sf89
  repeat (first | apply run_seq | apply run_block | apply end_seq | apply end_blk_hit | apply end_blk_miss rfl | apply end_blk | apply end_seq_exit | apply end_seq_ret | apply end_blk_ret | apply run_skip | apply run_ret | apply run_exit | (apply run_region (by decide); (simp only [go_sem, argR, e1, hk, c106]; rfl)) | (refine run_cond_t ?_ ?_; · simp only [go_sem]) | (refine run_cond_f ?_ ?_; · simp only [go_sem]))
  exact end_nil (q_none rfl (take_set_all _))

/-- Clone -/
theorem clone88 {h : SHeap} {b o n c : Nat} {l : List (Int × Int)} (hp : Prs h b o l) (hn : n = l.length) (h0 : 1 ≤ l.length) (h1 : l.length ≤ 1000) :
    M.call 88 [.slice (some ⟨b, o, none⟩) n c] h = some (.slice (some ⟨h.length, 0, none⟩) n (UNK + 2), h ++ [blk l], []) := by
  subst hn
  have hp1 := hp.app [SO.cells [] 53 true 0 []]
  have hsy := hp1.seen (Nat.le_refl l.length)
  rw [List.take_length] at hsy
  have ap : ∀ base d, appendS base (h ++ [SO.cells [] 53 true 0 []]) d 53 true 2 16 (.slice (some ⟨h.length, 0, none⟩) 0 0) (.slice (some ⟨b, o, none⟩) l.length c) = some (.slice (some ⟨h.length + 1, 0, none⟩) l.length (UNK + 2), h ++ [SO.cells [] 53 true 0 [], blk l], d) := by
    intro base d
    have e0 : (l.length == 0) = false := beq_eq_false_iff_ne.2 (by omega)
    have e1 : Nat.ble UNK 0 = false := by decide
    have e2 : Nat.ble l.length 0 = false := by rw [ble_dec]; exact decide_eq_false (by omega)
    have e4 : Nat.ble (l.length * 16) 140737488355328 = true := by rw [ble_dec]; exact decide_eq_true (by omega)
    have e5 : Nat.blt 0 16 = true := by decide
    unfold appendS
    simp only [lenS, e0, Bool.false_eq_true, if_false, Nat.zero_add, e4, e5, Bool.and_self, if_true, seenS, hsy, beq_self_eq_true, prs_one, prs_sc, e1, e2, List.nil_append, List.all_nil, Bool.or_true]
    simp
  refine call_run sf88 rfl rfl rfl ?_
  unfold sf88
  have e9 : eqS .slice (.slice (some ⟨b, o, none⟩) l.length c) (.slice none 0 0) = some false := rfl
  repeat (first | apply run_seq | apply run_block | apply end_seq | apply end_blk_hit | apply end_blk_miss rfl | apply end_blk | apply end_seq_exit | apply end_seq_ret | apply end_blk_ret | apply run_skip | apply run_ret | apply run_exit | (apply run_region (by decide); (simp only [go_sem, argR, e9, ap]; rfl)) | (refine run_cond_t ?_ ?_; · simp only [go_sem]) | (refine run_cond_f ?_ ?_; · simp only [go_sem]))
  refine end_nil (q_own1 (H := h) (b := h.length + 1) (o := 0) (n := l.length) (c := UNK + 2) (el := 53) (own := 0) (old := []) (cs := prs l) ?_ (take_app _ _) (by rw [app_get]; rfl) rfl (by omega))
  simp only [go_sem]

theorem rev_loop (cx : Cx) {h : SHeap} {b c n : Nat} {l : List (Int × Int)} (hb : b < h.length) (hl : l.length = n) (hn : n ≤ 1000) :
    ∀ k ρ ms h' d', (∃ (i j : Nat) (y : List (Int × Int)), k = j - i ∧ i + j + 1 = n ∧ i ≤ j + 1 ∧ y.length = n ∧ (∀ x, x < n → cn y x = if i ≤ x ∧ x ≤ j then cn l x else cn l (n - 1 - x)) ∧ ρ 0 = .slice (some ⟨b, 0, none⟩) n c ∧ ρ 2 = .int .i64 i ∧ ρ 3 = .int .i64 j ∧ ms = [] ∧ h' = h.set b (blk y) ∧ d' = []) →
    LoopW M cx 5 sf96L0 ρ ms h' d' (fun ex ρ' ms' h' d' => ex = .exit 0 ∧ h' = h.set b (blk l.reverse) ∧ ms' = [] ∧ d' = []) := by
  refine loop_run _ ?_
  rintro k ρ ms h' d' ⟨i, j, y, hk, hij, hij2, hy, hv, r0, r2, r3, rfl, rfl, rfl⟩
  unfold sf96L0
  by_cases c1 : i < j
  · have e1 : (i : Int) < j := by omega
    have i0 : (0 : Int) ≤ i := by omega
    have i1 : (i : Int) < n := by omega
    have j0 : (0 : Int) ≤ j := by omega
    have j1 : (j : Int) < n := by omega
    have w1 : IntKind.i64.wrap ((i : Int) + 1) = ((i + 1 : Nat) : Int) := by rw [wrap64 (by omega) (by omega)]; rfl
    have w2 : IntKind.i64.wrap ((j : Int) - 1) = ((j - 1 : Nat) : Int) := by rw [wrap64 (by omega) (by omega)]; omega
    have hset : ∀ z : SO, (h.set b z)[b]? = some z := fun z => List.getElem?_set_self hb
    have pp : Prs (h.set b (blk y)) b 0 y := Prs.mk0 (hset _) rfl
    have l1 := pp.corner (i := i) (by omega) []
    have l2 := pp.corner (i := j) (by omega) []
    rw [List.append_nil, Nat.zero_add] at l1 l2
    have ws1 := write_prs (y := y) (j := i) (by omega) (cn y j)
    have ws2 := write_prs (y := y.set i (cn y j)) (j := j) (by simp; omega) (cn y i)
    have hsw : (y.set i (cn y j)).set j (cn y i) = swp y i j := rfl
    rw [hsw] at ws2
    have e6 : i * 2 + 2 ≤ (prs y).length := by rw [prs_len]; omega
    have e7 : j * 2 + 2 ≤ (prs (y.set i (cn y j))).length := by rw [prs_len, List.length_set]; omega
    have hcn := swp_cn (y := y) (i := i) (j := j) (by omega) (by omega)
    have hl' := swp_len y i j
    have vi := hv i (by omega)
    have vj := hv j (by omega)
    rw [if_pos (by omega)] at vi vj
    generalize swp y i j = y' at *
    generalize y.set i (cn y j) = y1 at *
    have hv' : ∀ x, x < n → cn y' x = if i + 1 ≤ x ∧ x ≤ j - 1 then cn l x else cn l (n - 1 - x) := by
      intro x hx
      rw [hcn]
      by_cases q1 : x = j
      · subst q1; rw [if_pos rfl, if_neg (by omega), vi]; congr 1; omega
      · rw [if_neg q1]
        by_cases q2 : x = i
        · subst q2; rw [if_pos rfl, if_neg (by omega), vj]; congr 1; omega
        · rw [if_neg q2, hv x hx]
          by_cases q3 : i ≤ x ∧ x ≤ j
          · rw [if_pos q3, if_pos (by omega)]
          · rw [if_neg q3, if_neg (by omega)]
    clear vi vj hcn hv
    generalize cn y i = p at *
    generalize cn y j = q at *
    repeat (first | apply run_seq | apply run_block | apply end_seq | apply end_blk_hit | apply end_blk_miss rfl | apply end_blk | apply end_seq_exit | apply end_seq_ret | apply end_blk_ret | apply run_skip | apply run_ret | apply run_exit | (apply run_region (by decide); (simp only [go_sem, r0, r2, r3, e1, i0, i1, j0, j1, l1, l2, hset, List.set_set, e6, e7, ws1, ws2, w1, w2, Int.toNat_natCast]; rfl)) | (refine run_cond_t ?_ ?_; · simp only [go_sem]) | (refine run_cond_f ?_ ?_; · simp only [go_sem]))
    refine end_nil ⟨j - 1 - (i + 1), by omega, i + 1, j - 1, y', rfl, by omega, by omega, by omega, hv', ?_, ?_, ?_, rfl, rfl, rfl⟩
    · simp only [go_sem, r0]
    · simp only [go_sem, w1]
    · simp only [go_sem, w2]
  · have e1 : ¬ ((i : Int) < j) := by omega
    have hrev : y = l.reverse := by
      apply List.ext_getElem (by simp; omega)
      intro x h1 h2
      have hx : x < n := by omega
      rw [cn_elem h1, hv x hx, List.getElem_reverse]
      rw [cn_elem (show l.length - 1 - x < l.length by omega)]
      split
      · rename_i q; congr 1; omega
      · congr 1; omega
    repeat (first | apply run_seq | apply run_block | apply end_seq | apply end_blk_hit | apply end_blk_miss rfl | apply end_blk | apply end_seq_exit | apply end_seq_ret | apply end_blk_ret | apply run_skip | apply run_ret | apply run_exit | (apply run_region (by decide); (simp only [go_sem, r2, r3, e1]; rfl)) | (refine run_cond_t ?_ ?_; · simp only [go_sem]) | (refine run_cond_f ?_ ?_; · simp only [go_sem]))
    exact end_nil ⟨rfl, by rw [hrev], rfl, rfl⟩

/-- Reverse -/
theorem rev96 {h : SHeap} {b c : Nat} {l : List (Int × Int)} (hb : h[b]? = some (blk l)) (hn : l.length ≤ 1000) (h0 : 1 ≤ l.length) :
    M.call 96 [.slice (some ⟨b, 0, none⟩) l.length c] h = some (.tuple #[], h.set b (blk l.reverse), []) := by
  have hbl : b < h.length := (List.getElem?_eq_some_iff.1 hb).1
  have hself : h = h.set b (blk l) := by
    apply List.ext_getElem?
    intro j
    by_cases e : j = b
    · subst e; rw [hb, List.getElem?_set_self hbl]
    · rw [List.getElem?_set_ne (by omega)]
  have e1 : IntKind.i64.wrap ((l.length : Int) - 1) = ((l.length - 1 : Nat) : Int) := by rw [wrap64 (by omega) (by omega)]; omega
  refine call_run sf96 rfl rfl rfl ?_
  unfold sf96
  repeat (first | apply run_seq | apply run_block | apply end_seq | apply end_blk_hit | apply end_blk_miss rfl | apply end_blk | apply end_seq_exit | apply end_seq_ret | apply end_blk_ret | apply run_skip | apply run_ret | apply run_exit | (apply run_region (by decide); (simp only [go_sem, argR, e1]; rfl)) | (refine run_cond_t ?_ ?_; · simp only [go_sem]) | (refine run_cond_f ?_ ?_; · simp only [go_sem]))
  refine run_loop (rev_loop _ (c := c) hbl rfl hn (l.length - 1) _ _ _ _ ⟨0, l.length - 1, l, rfl, by omega, by omega, rfl, fun x hx => by rw [if_pos (by omega)], by simp only [go_sem, argR], by (simp only [go_sem]) <;> rfl, by (simp only [go_sem]) <;> rfl, rfl, hself, rfl⟩) ?_
  rintro ex ρ' ms' h1 d1 ⟨rfl, rfl, rfl, rfl⟩
  repeat (first | apply run_seq | apply run_block | apply end_seq | apply end_blk_hit | apply end_blk_miss rfl | apply end_blk | apply end_seq_exit | apply end_seq_ret | apply end_blk_ret | apply run_skip | apply run_ret | apply run_exit | (apply run_region (by decide); (simp only [go_sem]; rfl)) | (refine run_cond_t ?_ ?_; · simp only [go_sem]) | (refine run_cond_f ?_ ?_; · simp only [go_sem]))
  exact end_nil (q_none rfl (take_set_all _))
end Go.Proofs.Ytecncmmkghmojaa.Sh


/- CompactFunc: equal neighbours go. -/
namespace Go.Proofs.Ytecncmmkghmojaa.Sh
open Go Geo
set_option maxRecDepth 100000

def ddg (a : Int × Int) : List (Int × Int) → List (Int × Int)
  | [] => []
  | b :: r => if b = a then ddg a r else b :: ddg b r
def dd : List (Int × Int) → List (Int × Int)
  | [] => []
  | a :: r => a :: ddg a r
def app1 (x y : Int × Int) : List (Int × Int) := if x = y then [] else [x]
theorem app1_eq {x y : Int × Int} (h : x = y) : app1 x y = [] := if_pos h
theorem app1_ne {x y : Int × Int} (h : x ≠ y) : app1 x y = [x] := if_neg h
theorem ddg_eq {a b : Int × Int} (h : b = a) (r : List (Int × Int)) : ddg a (b :: r) = ddg a r := by rw [ddg, if_pos h]
theorem ddg_ne {a b : Int × Int} (h : b ≠ a) (r : List (Int × Int)) : ddg a (b :: r) = b :: ddg b r := by rw [ddg, if_neg h]
theorem ddg_snoc (x : Int × Int) : ∀ (r : List (Int × Int)) (a : Int × Int), ddg a (r ++ [x]) = ddg a r ++ app1 x ((a :: r).getLast (by simp))
  | [], a => by
    rw [List.nil_append]
    by_cases e : x = a
    · rw [ddg_eq e, app1_eq (by simpa using e)]; rfl
    · rw [ddg_ne e, app1_ne (by simpa using e)]; rfl
  | b :: r, a => by
    rw [List.cons_append]
    have e2 : (a :: b :: r).getLast (by simp) = (b :: r).getLast (by simp) := by simp
    rw [e2]
    by_cases e : b = a
    · subst e
      rw [ddg_eq rfl, ddg_eq rfl, ddg_snoc x r b]
    · rw [ddg_ne e, ddg_ne e, ddg_snoc x r b, List.cons_append]
theorem ddg_mem (q : Int × Int) : ∀ (r : List (Int × Int)) (a : Int × Int), q ∈ a :: ddg a r ↔ q ∈ a :: r
  | [], a => by simp [ddg]
  | b :: r, a => by
    rw [ddg]
    by_cases e : b = a
    · subst e; rw [if_pos rfl]; have := ddg_mem q r b; simp only [List.mem_cons] at this ⊢; rw [this]; simp
    · rw [if_neg e]
      have := ddg_mem q r b
      rw [List.mem_cons, List.mem_cons (a := q) (b := a), this]
theorem dd_mem (q : Int × Int) (l : List (Int × Int)) : q ∈ dd l ↔ q ∈ l := by
  cases l with
  | nil => rfl
  | cons a r => exact ddg_mem q r a
theorem dd_take {l : List (Int × Int)} {k : Nat} (hk : k < l.length) (h0 : 1 ≤ k) : dd (l.take (k + 1)) = dd (l.take k) ++ app1 (cn l k) (cn l (k - 1)) := by
  cases l with
  | nil => simp at hk
  | cons a r =>
    obtain ⟨j, rfl⟩ : ∃ j, k = j + 1 := ⟨k - 1, by omega⟩
    have hj : j < r.length := by simpa using hk
    have e1 : (a :: r).take (j + 1 + 1) = a :: (r.take j ++ [r[j]]) := by
      rw [List.take_succ_cons, List.take_add_one, List.getElem?_eq_getElem hj]; rfl
    have e2 : (a :: r).take (j + 1) = a :: r.take j := rfl
    have e3 : cn (a :: r) (j + 1) = r[j] := by rw [← cn_elem (show j + 1 < (a :: r).length by simpa using hj)]; rfl
    have e4 : cn (a :: r) (j + 1 - 1) = (a :: r.take j).getLast (by simp) := by
      rw [List.getLast_eq_getElem, ← cn_elem (show j + 1 - 1 < (a :: r).length by simp; omega)]
      have hlen : (a :: r.take j).length - 1 = j := by simp; omega
      simp only [hlen, Nat.add_sub_cancel]
      cases j with
      | zero => rfl
      | succ j => simp only [List.getElem_cons_succ, List.getElem_take]
    rw [e1, e2, e3, e4]
    show a :: ddg a (r.take j ++ [r[j]]) = (a :: ddg a (r.take j)) ++ _
    rw [ddg_snoc, List.cons_append]
theorem ddg_le : ∀ (r : List (Int × Int)) (a : Int × Int), (ddg a r).length ≤ r.length
  | [], a => by simp [ddg]
  | b :: r, a => by
    rw [ddg]
    split
    · have := ddg_le r a; simp; omega
    · have := ddg_le r b; simp; omega
theorem dd_le (l : List (Int × Int)) : (dd l).length ≤ l.length := by
  cases l with
  | nil => exact Nat.le_refl _
  | cons a r => have := ddg_le r a; simp [dd]; omega
theorem dd_pos {l : List (Int × Int)} (h : l ≠ []) : 1 ≤ (dd l).length := by
  cases l with
  | nil => exact (h rfl).elim
  | cons a r => simp [dd]

theorem writeAt_eq : ∀ (vs cs : List Value) (o : Nat), o + vs.length ≤ cs.length → writeAt cs o vs = cs.take o ++ (vs ++ cs.drop (o + vs.length))
  | [], cs, o, _ => by simp [writeAt]
  | v :: vs, cs, o, h => by
    have h2 : o + 1 + vs.length ≤ (cs.set o v).length := by simp at h ⊢; omega
    have ho : o < cs.length := by simp at h; omega
    rw [writeAt, writeAt_eq vs (cs.set o v) (o + 1) h2]
    have e1 : (cs.set o v).take (o + 1) = cs.take o ++ [v] := by
      rw [List.take_add_one, List.getElem?_set_self ho, List.take_set, List.set_eq_of_length_le (by rw [List.length_take]; omega)]; rfl
    have e2 : (cs.set o v).drop (o + 1 + vs.length) = cs.drop (o + 1 + vs.length) := by rw [List.drop_set_of_lt (by omega)]
    rw [e1, e2, List.append_assoc, List.length_cons, show o + 1 + vs.length = o + (vs.length + 1) by omega]
    rfl
theorem rep_len (z : List Value) : ∀ n, (repeatL z n).length = n * z.length
  | 0 => by simp [repeatL]
  | n + 1 => by rw [repeatL, List.length_append, rep_len z n, Nat.add_mul]; omega
theorem rep_all (f : Value → Bool) {z : List Value} (h : z.all f = true) : ∀ n, (repeatL z n).all f = true
  | 0 => rfl
  | n + 1 => by rw [repeatL, List.all_append, h, rep_all f h n]; rfl

theorem E_clear (R : Rec) (cx : Cx) (e : Evl) (sl : Option Nat) (h : SHeap) (d : List Nat) (size : Nat) (zero : List Value) (x : Operand) : opE R cx e sl (.clear size zero x) h d = match e x with
    | some (.slice none _ _) => some (udf, h, d)
    | some (.slice (some ⟨b, o, none⟩) len _) =>
      if len == 0 then some (udf, h, d) else
      match storeS cx.base h d b o (repeatL zero len) with
      | some (h', d') => if Nat.beq (zero.length) size then some (udf, h', d') else none
      | none => none
    | _ => none := (rfl)

theorem eq93 (p q : Int × Int) (h : SHeap) : M.call 93 [.agg #[.int .i64 p.1, .int .i64 p.2], .agg #[.int .i64 q.1, .int .i64 q.2]] h = some (.bool (decide (p = q)), h, []) := by
  refine call_run sf93 rfl rfl rfl ?_
  unfold sf93
  repeat (first | apply run_seq | apply run_block | apply end_seq | apply end_blk_hit | apply end_blk_miss rfl | apply end_blk | apply end_seq_exit | apply end_seq_ret | apply end_blk_ret | apply run_skip | apply run_ret | apply run_exit | (apply run_region (by decide); (simp only [go_sem, argR]; rfl)) | (refine run_cond_t ?_ ?_; · simp only [go_sem]) | (refine run_cond_f ?_ ?_; · simp only [go_sem]))
  exact end_nil (q_ret1 _ (by simp only [go_sem]) rfl (take_app _ _))

theorem slice_from {b n k : Nat} (h1 : k ≤ n) : sliceS 2 (.slice (some ⟨b, 0, none⟩) n (UNK + 2)) (some (.int .i64 (k : Int))) none none = some (.slice (some ⟨b, k * 2, none⟩) (n - k) (UNK + 2)) := by
  have e1 : Nat.ble UNK (UNK + 2) = true := by decide
  have e2 : (decide (0 ≤ (k : Int)) && decide ((k : Int) ≤ (n : Int))) = true := by simp; omega
  unfold sliceS
  simp only [bMx, e1, if_true, bHi, bLo, bnd, e2, Int.toNat_natCast]
  simp

theorem comp_in (cx : Cx) {h : SHeap} {b n i0 : Nat} {l : List (Int × Int)} (hb : b < h.length) (hl : l.length = n) (hn : n ≤ 1000) (hi0 : 1 ≤ i0) (hin : i0 < n) (r0v : Value) (hr0 : r0v = .slice (some ⟨b, 0, none⟩) n (UNK + 2)) :
    ∀ k ρ ms h' d', (∃ (j w : Nat) (y : List (Int × Int)), j + k = n - i0 ∧ 1 ≤ j ∧ y.length = n ∧ w = (dd (l.take (i0 + j))).length ∧ w ≤ i0 + j - 1 ∧ y.take w = dd (l.take (i0 + j)) ∧ (∀ x, i0 + j - 1 ≤ x → cn y x = cn l x) ∧
      ρ 0 = r0v ∧ ρ 1 = .func (.func 93) #[] #[] ∧ ρ 5 = .int .i64 w ∧ ρ 6 = .slice (some ⟨b, i0 * 2, none⟩) (n - i0) (UNK + 2) ∧ ρ 7 = .int .i64 j ∧ ms = [] ∧ h' = h.set b (blk y) ∧ d' = []) →
    LoopW M cx 7 sf92L0 ρ ms h' d' (fun ex ρ' ms' h' d' => ex = .exit 2 ∧ (∃ (w : Nat) (y : List (Int × Int)), y.length = n ∧ w = (dd l).length ∧ w < n ∧ y.take w = dd l ∧ ρ' 0 = r0v ∧ ρ' 5 = .int .i64 w ∧ h' = h.set b (blk y)) ∧ ms' = [] ∧ d' = []) := by
  subst hr0
  refine loop_run _ ?_
  rintro k ρ ms h' d' ⟨j, w, y, hj, hj1, hy, hw, hwl, ht, hx, r0, r1, r5, r6, r7, rfl, rfl, rfl⟩
  unfold sf92L0
  by_cases hk : k = 0
  · have e1 : ¬ ((j : Int) < ((n - i0 : Nat) : Int)) := by omega
    have ej : i0 + j = n := by omega
    rw [ej, ← hl, List.take_length] at hw ht
    repeat (first | apply run_seq | apply run_block | apply end_seq | apply end_blk_hit | apply end_blk_miss rfl | apply end_blk | apply end_seq_exit | apply end_seq_ret | apply end_blk_ret | apply run_skip | apply run_ret | apply run_exit | (apply run_region (by decide); (simp only [go_sem, r6, r7, e1]; rfl)) | (refine run_cond_t ?_ ?_; · simp only [go_sem]) | (refine run_cond_f ?_ ?_; · simp only [go_sem]))
    refine end_nil ⟨rfl, ⟨w, y, hy, hw, by omega, ht, ?_, ?_, rfl⟩, rfl, rfl⟩
    · simp only [go_sem, r0]
    · simp only [go_sem, r5]
  · have e1 : (j : Int) < ((n - i0 : Nat) : Int) := by omega
    have e0 : (0 : Int) ≤ j := by omega
    have w1 : IntKind.i64.wrap ((j : Int) - 1) = ((j - 1 : Nat) : Int) := by rw [wrap64 (by omega) (by omega)]; omega
    have w2 : IntKind.i64.wrap ((j : Int) + 1) = ((j + 1 : Nat) : Int) := by rw [wrap64 (by omega) (by omega)]; rfl
    have w3 : IntKind.i64.wrap ((w : Int) + 1) = ((w + 1 : Nat) : Int) := by rw [wrap64 (by omega) (by omega)]; rfl
    have f0 : (0 : Int) ≤ ((j - 1 : Nat) : Int) := by omega
    have f1 : ((j - 1 : Nat) : Int) < ((n - i0 : Nat) : Int) := by omega
    have g0 : (0 : Int) ≤ w := by omega
    have g1 : (w : Int) < n := by omega
    have hset : ∀ z : SO, (h.set b z)[b]? = some z := fun z => List.getElem?_set_self hb
    have pp : Prs (h.set b (blk y)) b 0 y := Prs.mk0 (hset _) rfl
    have l1 := pp.corner (i := i0 + j) (by omega) []
    have l2 := pp.corner (i := i0 + (j - 1)) (by omega) []
    rw [List.append_nil, Nat.zero_add, Nat.add_mul, hx _ (by omega)] at l1 l2
    have c93 := eq93 (cn l (i0 + j)) (cn l (i0 + (j - 1))) (h.set b (blk y))
    have hdd := dd_take (l := l) (k := i0 + j) (by omega) (by omega)
    rw [show i0 + j - 1 = i0 + (j - 1) by omega] at hdd
    by_cases hc : cn l (i0 + j) = cn l (i0 + (j - 1))
    · rw [decide_eq_true hc] at c93
      rw [app1_eq hc, List.append_nil] at hdd
      generalize cn l (i0 + j) = p at *
      generalize cn l (i0 + (j - 1)) = q at *
      repeat (first | apply run_seq | apply run_block | apply end_seq | apply end_blk_hit | apply end_blk_miss rfl | apply end_blk | apply end_seq_exit | apply end_seq_ret | apply end_blk_ret | apply run_skip | apply run_ret | apply run_exit | (apply run_region (by decide); (simp only [go_sem, r0, r1, r5, r6, r7, e0, e1, w1, w2, f0, f1, l1, l2, c93, Int.toNat_natCast]; rfl)) | (refine run_cond_t ?_ ?_; · simp only [go_sem]) | (refine run_cond_f ?_ ?_; · simp only [go_sem]))
      refine end_nil ⟨k - 1, by omega, j + 1, w, y, by omega, by omega, hy, ?_, by omega, ?_, fun x h1 => hx x (by omega), ?_, ?_, ?_, ?_, ?_, rfl, rfl, rfl⟩
      · rw [← Nat.add_assoc, hdd]; exact hw
      · rw [← Nat.add_assoc, hdd]; exact ht
      · simp only [go_sem, r0]
      · simp only [go_sem, r1]
      · simp only [go_sem, r5]
      · simp only [go_sem, r6]
      · simp only [go_sem, w2]
    · rw [decide_eq_false hc] at c93
      rw [app1_ne hc] at hdd
      have ws1 := write_prs (y := y) (j := w) (by omega) (cn l (i0 + j))
      have e6 : w * 2 + 2 ≤ (prs y).length := by rw [prs_len]; omega
      have hyl : (y.set w (cn l (i0 + j))).length = n := by simp [hy]
      have ht' : (y.set w (cn l (i0 + j))).take (w + 1) = dd (l.take (i0 + j + 1)) := by
        rw [hdd, List.take_add_one, List.getElem?_set_self (by omega), List.take_set, List.set_eq_of_length_le (by simp; omega), ht]; rfl
      have hw' : w + 1 = (dd (l.take (i0 + j + 1))).length := by rw [hdd, List.length_append, ← hw]; rfl
      have hx' : ∀ x, i0 + j ≤ x → cn (y.set w (cn l (i0 + j))) x = cn l x := fun x h1 => by rw [cn_set (by omega), if_neg (by omega)]; exact hx x (by omega)
      generalize y.set w (cn l (i0 + j)) = y1 at *
      generalize cn l (i0 + j) = p at *
      generalize cn l (i0 + (j - 1)) = q at *
      repeat (first | apply run_seq | apply run_block | apply end_seq | apply end_blk_hit | apply end_blk_miss rfl | apply end_blk | apply end_seq_exit | apply end_seq_ret | apply end_blk_ret | apply run_skip | apply run_ret | apply run_exit | (apply run_region (by decide); (simp only [go_sem, r0, r1, r5, r6, r7, e0, e1, w1, w2, w3, f0, f1, g0, g1, l1, l2, c93, hset, List.set_set, e6, ws1, Int.toNat_natCast]; rfl)) | (refine run_cond_t ?_ ?_; · simp only [go_sem]) | (refine run_cond_f ?_ ?_; · simp only [go_sem]))
      refine end_nil ⟨k - 1, by omega, j + 1, w + 1, y1, by omega, by omega, hyl, ?_, by omega, ?_, fun x h1 => hx' x (by omega), ?_, ?_, ?_, ?_, ?_, rfl, rfl, rfl⟩
      · rw [← Nat.add_assoc]; exact hw'
      · rw [← Nat.add_assoc]; exact ht'
      · simp only [go_sem, r0]
      · simp only [go_sem, r1]
      · simp only [go_sem, w3]
      · simp only [go_sem, r6]
      · simp only [go_sem, w2]

/-- an older slice is returned -/
theorem q_old1 {base i b o n c : Nat} {ρ : Reg} {h h0 : SHeap} (hv : ρ i = .slice (some ⟨b, o, none⟩) n c) (hb : b < base) (ht : h.take base = h0) : callQ [.tmp i] base (.slice (some ⟨b, o, none⟩) n c, h0, []) .ret ρ [] h [] := by
  refine q_gc1 hv ?_
  have ec : Nat.ble base b = false := by rw [ble_dec]; exact decide_eq_false (by omega)
  have e1 : reach base h 1000000 [b] [] = [] := by
    rw [show (1000000 : Nat) = 999998 + 1 + 1 from rfl, reach]
    simp only [ec, List.contains_nil, Bool.not_false, Bool.true_or, if_true]
    rw [reach]
  have e3 : ren base [] b = some b := by simp [ren, ec]
  have ep : ptrs 3 (.slice (some ⟨b, o, none⟩) n c) = [b] := rfl
  unfold gcS
  simp only [ep, e1, mapO]
  simp [renV, e3, ht]

/-- the cells of a block, the last ones made nothing -/
theorem clear_cells {y : List (Int × Int)} {w n : Nat} (hy : y.length = n) (hw : w ≤ n) : writeAt (prs y) (w * 2) (repeatL [.int .i64 0, .int .i64 0] (n - w)) = prs (y.take w) ++ repeatL [.int .i64 0, .int .i64 0] (n - w) := by
  have hr := rep_len [.int .i64 0, .int .i64 0] (n - w)
  have hr2 : (repeatL [.int .i64 0, .int .i64 0] (n - w)).length = (n - w) * 2 := hr
  rw [writeAt_eq _ _ _ (by rw [prs_len, hr2]; omega), Nat.mul_comm w 2, prs_take, hr2, List.drop_eq_nil_of_le (by rw [prs_len]; omega), List.append_nil]
theorem store_clear {h : SHeap} {b w n : Nat} {y : List (Int × Int)} (hb : h[b]? = some (blk y)) (hy : y.length = n) (hw : w < n) (base : Nat) (d : List Nat) :
    storeS base h d b (w * 2) (repeatL [.int .i64 0, .int .i64 0] (n - w)) = some (h.set b (.cells (prs (y.take w) ++ repeatL [.int .i64 0, .int .i64 0] (n - w)) 53 true 0 []), d) := by
  have hr2 : (repeatL [.int .i64 0, .int .i64 0] (n - w)).length = (n - w) * 2 := rep_len [.int .i64 0, .int .i64 0] (n - w)
  have e1 : Nat.ble (w * 2 + (repeatL [.int .i64 0, .int .i64 0] (n - w)).length) (prs y).length = true := by rw [ble_dec]; exact decide_eq_true (by rw [hr2, prs_len]; omega)
  have e2 : Nat.blt 0 (repeatL [.int .i64 0, .int .i64 0] (n - w)).length = true := by rw [blt_dec]; exact decide_eq_true (by rw [hr2]; omega)
  have e3 : (repeatL [.int .i64 0, .int .i64 0] (n - w)).all oneC = true := rep_all oneC (z := [.int .i64 0, .int .i64 0]) rfl _
  have e4 : (repeatL [.int .i64 0, .int .i64 0] (n - w)).all sc = true := rep_all sc (z := [.int .i64 0, .int .i64 0]) rfl _
  rw [store_def, hb]
  dsimp only
  rw [e1, e2, e3, e4, clear_cells hy (by omega), kill_nil, dirty_pf]
  rfl

theorem comp_out (cx : Cx) {h : SHeap} {b n : Nat} {l : List (Int × Int)} (hb : b < h.length) (hl : l.length = n) (hn : n ≤ 1000) :
    ∀ k ρ ms h' d', (∃ i : Nat, i + k = n ∧ 1 ≤ i ∧ dd (l.take i) = l.take i ∧ ρ 0 = .slice (some ⟨b, 0, none⟩) n (UNK + 2) ∧ ρ 1 = .func (.func 93) #[] #[] ∧ ρ 5 = .int .i64 i ∧ ms = [] ∧ h' = h.set b (blk l) ∧ d' = []) →
    LoopW M cx 7 sf92L1 ρ ms h' d' (fun ex ρ' ms' h' d' => ms' = [] ∧ d' = [] ∧ ((ex = .exit 0 ∧ ρ' 0 = .slice (some ⟨b, 0, none⟩) n (UNK + 2) ∧ dd l = l ∧ h' = h.set b (blk l)) ∨
      (ex = .ret ∧ ρ' 4 = .slice (some ⟨b, 0, none⟩) (dd l).length (UNK + 2) ∧ ∃ z, z.all sc = true ∧ h' = h.set b (.cells (prs (dd l) ++ z) 53 true 0 [])))) := by
  refine loop_run _ ?_
  rintro k ρ ms h' d' ⟨i, hi, hi1, hd, r0, r1, r5, rfl, rfl, rfl⟩
  unfold sf92L1
  by_cases hk : k = 0
  · have e1 : ¬ ((i : Int) < n) := by omega
    have ei : i = n := by omega
    rw [ei, ← hl, List.take_length] at hd
    repeat (first | apply run_seq | apply run_block | apply end_seq | apply end_blk_hit | apply end_blk_miss rfl | apply end_blk | apply end_seq_exit | apply end_seq_ret | apply end_blk_ret | apply run_skip | apply run_ret | apply run_exit | (apply run_region (by decide); (simp only [go_sem, r0, r5, e1]; rfl)) | (refine run_cond_t ?_ ?_; · simp only [go_sem]) | (refine run_cond_f ?_ ?_; · simp only [go_sem]))
    refine end_nil ⟨rfl, rfl, .inl ⟨rfl, ?_, hd, rfl⟩⟩
    simp only [go_sem, r0]
  · have e1 : (i : Int) < n := by omega
    have e0 : (0 : Int) ≤ i := by omega
    have w1 : IntKind.i64.wrap ((i : Int) - 1) = ((i - 1 : Nat) : Int) := by rw [wrap64 (by omega) (by omega)]; omega
    have w2 : IntKind.i64.wrap ((i : Int) + 1) = ((i + 1 : Nat) : Int) := by rw [wrap64 (by omega) (by omega)]; rfl
    have f0 : (0 : Int) ≤ ((i - 1 : Nat) : Int) := by omega
    have f1 : ((i - 1 : Nat) : Int) < n := by omega
    have hset : ∀ z : SO, (h.set b z)[b]? = some z := fun z => List.getElem?_set_self hb
    have pp : Prs (h.set b (blk l)) b 0 l := Prs.mk0 (hset _) rfl
    have l1 := pp.corner (i := i) (by omega) []
    have l2 := pp.corner (i := i - 1) (by omega) []
    rw [List.append_nil, Nat.zero_add] at l1 l2
    have c93 := eq93 (cn l i) (cn l (i - 1)) (h.set b (blk l))
    have hdd := dd_take (l := l) (k := i) (by omega) hi1
    by_cases hc : cn l i = cn l (i - 1)
    · rw [decide_eq_true hc] at c93
      rw [app1_eq hc, List.append_nil] at hdd
      have s1 := slice_from (b := b) (n := n) (k := i) (by omega)
      have hlen : (l.take i).length = i := by rw [List.length_take]; omega
      have ci := comp_in cx (h := h) (i0 := i) hb hl hn hi1 (by omega) _ rfl (n - i - 1)
      generalize cn l i = p at *
      generalize cn l (i - 1) = q at *
      repeat (first | apply run_seq | apply run_block | apply end_seq | apply end_blk_hit | apply end_blk_miss rfl | apply end_blk | apply end_seq_exit | apply end_seq_ret | apply end_blk_ret | apply run_skip | apply run_ret | apply run_exit | (apply run_region (by decide); (simp only [go_sem, r0, r1, r5, e0, e1, w1, f0, f1, l1, l2, c93, s1, Int.toNat_natCast]; rfl)) | (refine run_cond_t ?_ ?_; · simp only [go_sem]) | (refine run_cond_f ?_ ?_; · simp only [go_sem]))
      refine run_loop (ci _ _ _ _ ⟨1, i, l, by omega, Nat.le_refl _, hl, by rw [hdd, hd, hlen], by omega, by rw [hdd, hd], fun x _ => rfl, by simp only [go_sem, r0], by simp only [go_sem, r1], by simp only [go_sem, r5], by simp only [go_sem], by (simp only [go_sem]) <;> rfl, rfl, rfl, rfl⟩) ?_
      rintro ex ρ' ms' h1 d1 ⟨rfl, ⟨w, y, hy, hw, hwn, ht, k0, k5, rfl⟩, rfl, rfl⟩
      have s2 := slice_from (b := b) (n := n) (k := w) (by omega)
      have s3 := slice_to (b := b) (n := n) (k := w) (by omega)
      have st := fun base d => store_clear (hset (blk y)) hy hwn base d
      have e9 : (n - w == 0) = false := beq_eq_false_iff_ne.2 (by omega)
      rw [ht] at st
      simp only [List.set_set] at st
      have E : ∀ (ρ : Reg) (hh : SHeap) (d : List Nat), ρ 61 = .slice (some ⟨b, w * 2, none⟩) (n - w) (UNK + 2) → hh = h.set b (blk y) → opE M cx (evR ρ) none (.clear 2 [.int .i64 0, .int .i64 0] (.tmp 61)) hh d = some (udf, h.set b (.cells (prs (dd l) ++ repeatL [.int .i64 0, .int .i64 0] (n - w)) 53 true 0 []), d) := by
        intro ρ hh d h1 h2
        subst h2
        rw [E_clear]
        simp only [evR_tmp, h1, e9, Bool.false_eq_true, if_false, st]
        rfl
      repeat (first | apply run_seq | apply run_block | apply end_seq | apply end_blk_hit | apply end_blk_miss rfl | apply end_blk | apply end_seq_exit | apply end_seq_ret | apply end_blk_ret | apply run_skip | apply run_ret | apply run_exit | (apply run_region (by decide); (simp only [go_sem, k0, k5, s2]; rfl)) | (refine run_cond_t ?_ ?_; · simp only [go_sem]) | (refine run_cond_f ?_ ?_; · simp only [go_sem]))
      apply run_region (by decide)
      · simp only [s_op, slot_none, E_mov, evR_tmp, same_ok, updO_some, upd_get, ↓reduceIte, Nat.reduceEqDiff, k0, k5, E_slice, evoE_some, evoE_none, s2]
        rw [E _ _ _ (by simp only [go_sem]) rfl]
        simp only [updO_none, s_nil]
        rfl
      repeat (first | apply run_seq | apply run_block | apply end_seq | apply end_blk_hit | apply end_blk_miss rfl | apply end_blk | apply end_seq_exit | apply end_seq_ret | apply end_blk_ret | apply run_skip | apply run_ret | apply run_exit | (apply run_region (by decide); (simp only [go_sem, k0, k5, s3]; rfl)) | (refine run_cond_t ?_ ?_; · simp only [go_sem]) | (refine run_cond_f ?_ ?_; · simp only [go_sem]))
      refine end_nil ⟨rfl, rfl, .inr ⟨rfl, ?_, _, rep_all sc (z := [.int .i64 0, .int .i64 0]) rfl (n - w), rfl⟩⟩
      simp only [go_sem]; rw [← hw]
    · rw [decide_eq_false hc] at c93
      rw [app1_ne hc, hd] at hdd
      have ht : dd (l.take (i + 1)) = l.take (i + 1) := by
        rw [hdd, List.take_add_one, List.getElem?_eq_getElem (by omega), ← cn_elem (by omega)]; rfl
      generalize cn l i = p at *
      generalize cn l (i - 1) = q at *
      repeat (first | apply run_seq | apply run_block | apply end_seq | apply end_blk_hit | apply end_blk_miss rfl | apply end_blk | apply end_seq_exit | apply end_seq_ret | apply end_blk_ret | apply run_skip | apply run_ret | apply run_exit | (apply run_region (by decide); (simp only [go_sem, r0, r1, r5, e0, e1, w1, w2, f0, f1, l1, l2, c93, Int.toNat_natCast]; rfl)) | (refine run_cond_t ?_ ?_; · simp only [go_sem]) | (refine run_cond_f ?_ ?_; · simp only [go_sem]))
      refine end_nil ⟨k - 1, by omega, i + 1, by omega, by omega, ht, ?_, ?_, ?_, rfl, rfl, rfl⟩
      · simp only [go_sem, r0]
      · simp only [go_sem, r1]
      · simp only [go_sem, w2]

/-- CompactFunc -/
theorem comp92 {h : SHeap} {b : Nat} {l : List (Int × Int)} (hb : h[b]? = some (blk l)) (hn : l.length ≤ 1000) (h2 : 2 ≤ l.length) :
    ∃ z, z.all sc = true ∧ M.call 92 [.slice (some ⟨b, 0, none⟩) l.length (UNK + 2), .func (.func 93) #[] #[]] h = some (.slice (some ⟨b, 0, none⟩) (dd l).length (UNK + 2), h.set b (.cells (prs (dd l) ++ z) 53 true 0 []), []) := by
  have hbl : b < h.length := (List.getElem?_eq_some_iff.1 hb).1
  have hself : h = h.set b (blk l) := by
    apply List.ext_getElem?
    intro j
    by_cases e : j = b
    · subst e; rw [hb, List.getElem?_set_self hbl]
    · rw [List.getElem?_set_ne (by omega)]
  suffices h3 : ∃ r, (∃ z, z.all sc = true ∧ r = (.slice (some ⟨b, 0, none⟩) (dd l).length (UNK + 2), h.set b (.cells (prs (dd l) ++ z) 53 true 0 []), [])) ∧ M.call 92 [.slice (some ⟨b, 0, none⟩) l.length (UNK + 2), .func (.func 93) #[] #[]] h = some r by
    obtain ⟨r, ⟨z, h1, rfl⟩, e⟩ := h3
    exact ⟨z, h1, e⟩
  have e1 : ¬ ((l.length : Int) < 2) := by omega
  have hd1 : dd (l.take 1) = l.take 1 := by
    cases l with
    | nil => simp at h2
    | cons a r => rfl
  refine call_ex _ sf92 rfl rfl rfl ?_
  unfold sf92
  repeat (first | apply run_seq | apply run_block | apply end_seq | apply end_blk_hit | apply end_blk_miss rfl | apply end_blk | apply end_seq_exit | apply end_seq_ret | apply end_blk_ret | apply run_skip | apply run_ret | apply run_exit | (apply run_region (by decide); (simp only [go_sem, argR, e1]; rfl)) | (refine run_cond_t ?_ ?_; · simp only [go_sem]) | (refine run_cond_f ?_ ?_; · simp only [go_sem]))
  refine run_loop (comp_out _ hbl rfl hn (l.length - 1) _ _ _ _ ⟨1, by omega, Nat.le_refl _, hd1, by simp only [go_sem, argR], by simp only [go_sem, argR], by (simp only [go_sem]) <;> rfl, rfl, hself, rfl⟩) ?_
  rintro ex ρ' ms' h1 d1 ⟨rfl, rfl, ⟨rfl, k0, he, rfl⟩ | ⟨rfl, k4, z, hz, rfl⟩⟩
  · repeat (first | apply run_seq | apply run_block | apply end_seq | apply end_blk_hit | apply end_blk_miss rfl | apply end_blk | apply end_seq_exit | apply end_seq_ret | apply end_blk_ret | apply run_skip | apply run_ret | apply run_exit | (apply run_region (by decide); (simp only [go_sem, k0]; rfl)) | (refine run_cond_t ?_ ?_; · simp only [go_sem]) | (refine run_cond_f ?_ ?_; · simp only [go_sem]))
    refine end_nil ⟨_, ⟨[], rfl, rfl⟩, ?_⟩
    rw [he, List.append_nil]
    exact q_old1 (by simp only [go_sem]) hbl (take_set_all _)
  · repeat (first | apply run_seq | apply run_block | apply end_seq | apply end_blk_hit | apply end_blk_miss rfl | apply end_blk | apply end_seq_exit | apply end_seq_ret | apply end_blk_ret | apply run_skip | apply run_ret | apply run_exit | (apply run_region (by decide); (simp only [go_sem]; rfl)) | (refine run_cond_t ?_ ?_; · simp only [go_sem]) | (refine run_cond_f ?_ ?_; · simp only [go_sem]))
    exact end_nil ⟨_, ⟨z, hz, rfl⟩, q_old1 k4 hbl (take_set_all _)⟩
end Go.Proofs.Ytecncmmkghmojaa.Sh


