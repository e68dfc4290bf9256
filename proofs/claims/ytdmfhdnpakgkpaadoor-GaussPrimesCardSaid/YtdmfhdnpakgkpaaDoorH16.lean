/- Comparisons: of numbers, of lists, of factors. -/
import Derived.Test.YtdmfhdnpakgkpaaDoorShSo
import Derived.Test.YtdmfhdnpakgkpaaDoorGb
import Derived.Test.YtdmfhdnpakgkpaaDoorH19
import Derived.Test.YtdmfhdnpakgkpaaDoorH18
import Derived.Test.YtdmfhdnpakgkpaaDoorNe
set_option linter.all false
/- Comparisons: of numbers, of lists, of factors. -/
namespace Go.Proofs.YtdmfhdnpakgkpaaDoor.Sh
open Go
set_option maxRecDepth 100000
set_option maxHeartbeats 4000000

theorem sa_two (b o : Nat) : sliceArrS 2 1 (.pointer (some ⟨b, o, none⟩)) none none none = some (.slice (some ⟨b, o, none⟩) 2 2) := (rfl)
attribute [go_sem ↓] sa_two
/-- the order of numbers -/
def cmpI (x y : Int) : Int := if x < y then -1 else if y < x then 1 else 0
/-- the order of lists -/
def lexC : List Int → List Int → Int
  | [], [] => 0
  | [], _ :: _ => -1
  | _ :: _, [] => 1
  | x :: xs, y :: ys => if cmpI x y = 0 then lexC xs ys else cmpI x y
theorem cmpI_0 {x y : Int} : cmpI x y = 0 ↔ x = y := by
  unfold cmpI; split
  · omega
  · split <;> omega
theorem cmpI_lt {x y : Int} : cmpI x y < 0 ↔ x < y := by
  unfold cmpI; split
  · omega
  · split <;> omega
theorem lexC_lt : ∀ (x y : Int) (xs ys : List Int), lexC (x :: xs) (y :: ys) < 0 ↔ x < y ∨ (x = y ∧ lexC xs ys < 0) := by
  intro x y xs ys
  show (if cmpI x y = 0 then lexC xs ys else cmpI x y) < 0 ↔ _
  by_cases e : x = y
  · rw [if_pos (cmpI_0.2 e)]
    constructor
    · intro h; exact .inr ⟨e, h⟩
    · rintro (h | h)
      · omega
      · exact h.2
  · rw [if_neg (fun h => e (cmpI_0.1 h)), cmpI_lt]
    constructor
    · intro h; exact .inl h
    · rintro (h | h)
      · exact h
      · exact (e h.1).elim
theorem lexC_irr : ∀ l, ¬ lexC l l < 0
  | [] => by show ¬ (0 : Int) < 0; omega
  | x :: xs => by
    rw [lexC_lt]
    rintro (h | h)
    · omega
    · exact lexC_irr xs h.2
theorem lexC_asym : ∀ a b, lexC a b < 0 → ¬ lexC b a < 0
  | [], [], h => by
    have : (0 : Int) < 0 := h
    omega
  | [], y :: ys, _ => by show ¬ (1 : Int) < 0; omega
  | x :: xs, [], h => by
    have : (1 : Int) < 0 := h
    omega
  | x :: xs, y :: ys, h => by
    rw [lexC_lt] at h ⊢
    rintro (k | k)
    · rcases h with h | h <;> omega
    · rcases h with h | h
      · omega
      · exact lexC_asym xs ys h.2 k.2
theorem lexC_ntr : ∀ a b c, ¬ lexC a b < 0 → ¬ lexC b c < 0 → ¬ lexC a c < 0
  | [], [], c, _, h2 => h2
  | [], y :: ys, c, h1, _ => (h1 (by show (-1 : Int) < 0; omega)).elim
  | x :: xs, b, [], _, _ => by show ¬ (1 : Int) < 0; omega
  | x :: xs, [], z :: zs, _, h2 => (h2 (by show (-1 : Int) < 0; omega)).elim
  | x :: xs, y :: ys, z :: zs, h1, h2 => by
    rw [lexC_lt] at h1 h2 ⊢
    rintro (k | k)
    · by_cases e1 : x < y
      · exact h1 (.inl e1)
      · by_cases e2 : y < z
        · exact h2 (.inl e2)
        · omega
    · by_cases e1 : x < y
      · exact h1 (.inl e1)
      · by_cases e2 : y < z
        · exact h2 (.inl e2)
        · have e3 : x = y := by omega
          have e4 : y = z := by omega
          exact lexC_ntr xs ys zs (fun h => h1 (.inr ⟨e3, h⟩)) (fun h => h2 (.inr ⟨e4, h⟩)) k.2
theorem lexC_anti : ∀ a b : List Int, a.length = b.length → ¬ lexC a b < 0 → ¬ lexC b a < 0 → a = b
  | [], [], _, _, _ => rfl
  | [], y :: ys, h, _, _ => by simp at h
  | x :: xs, [], h, _, _ => by simp at h
  | x :: xs, y :: ys, h, h1, h2 => by
    rw [lexC_lt] at h1 h2
    have e : x = y := by
      by_cases k1 : x < y
      · exact (h1 (.inl k1)).elim
      · by_cases k2 : y < x
        · exact (h2 (.inl k2)).elim
        · omega
    subst e
    rw [lexC_anti xs ys (by simpa using h) (fun k => h1 (.inr ⟨rfl, k⟩)) (fun k => h2 (.inr ⟨rfl, k⟩))]

theorem nan100 (x : Int) (h : SHeap) : M.call 100 [.int .i64 x] h = some (.bool false, h, []) := by
  refine call_run sf100 rfl rfl rfl ?_
  unfold sf100
  repeat (first | apply run_seq | apply run_block | apply end_seq | apply end_blk_hit | apply end_blk_miss rfl | apply end_blk | apply end_seq_exit | apply end_seq_ret | apply end_blk_ret | apply run_skip | apply run_ret | apply run_exit | (apply run_region (by decide); (simp (maxSteps := 9999999) only [go_sem, argR]; rfl)) | (apply run_regionN (by decide); (simp (maxSteps := 9999999) only [go_sem, argR]; rfl)) | (refine run_cond_t ?_ ?_; · simp only [go_sem]) | (refine run_cond_f ?_ ?_; · simp only [go_sem]))
  exact end_nil (q_ret1 _ (by simp (maxSteps := 9999999) only [go_sem]) rfl (take_self _))
theorem cmp83 (x y : Int) (h : SHeap) : M.call 83 [.int .i64 x, .int .i64 y] h = some (.int .i64 (cmpI x y), h, []) := by
  refine call_run sf83 rfl rfl rfl ?_
  unfold sf83
  unfold cmpI
  by_cases e1 : x < y
  · rw [if_pos e1]
    repeat (first | apply run_seq | apply run_block | apply end_seq | apply end_blk_hit | apply end_blk_miss rfl | apply end_blk | apply end_seq_exit | apply end_seq_ret | apply end_blk_ret | apply run_skip | apply run_ret | apply run_exit | (apply run_region (by decide); (simp (maxSteps := 9999999) only [go_sem, argR, nan100, e1]; rfl)) | (apply run_regionN (by decide); (simp (maxSteps := 9999999) only [go_sem, argR, nan100, e1]; rfl)) | (refine run_cond_t ?_ ?_; · simp only [go_sem]) | (refine run_cond_f ?_ ?_; · simp only [go_sem]))
    exact end_nil (q_ret1 _ (by simp (maxSteps := 9999999) only [go_sem]) rfl (take_self _))
  · rw [if_neg e1]
    by_cases e2 : y < x
    · rw [if_pos e2]
      repeat (first | apply run_seq | apply run_block | apply end_seq | apply end_blk_hit | apply end_blk_miss rfl | apply end_blk | apply end_seq_exit | apply end_seq_ret | apply end_blk_ret | apply run_skip | apply run_ret | apply run_exit | (apply run_region (by decide); (simp (maxSteps := 9999999) only [go_sem, argR, nan100, e1, e2]; rfl)) | (apply run_regionN (by decide); (simp (maxSteps := 9999999) only [go_sem, argR, nan100, e1, e2]; rfl)) | (refine run_cond_t ?_ ?_; · simp only [go_sem]) | (refine run_cond_f ?_ ?_; · simp only [go_sem]))
      exact end_nil (q_ret1 _ (by simp (maxSteps := 9999999) only [go_sem]) rfl (take_self _))
    · rw [if_neg e2]
      repeat (first | apply run_seq | apply run_block | apply end_seq | apply end_blk_hit | apply end_blk_miss rfl | apply end_blk | apply end_seq_exit | apply end_seq_ret | apply end_blk_ret | apply run_skip | apply run_ret | apply run_exit | (apply run_region (by decide); (simp (maxSteps := 9999999) only [go_sem, argR, nan100, e1, e2]; rfl)) | (apply run_regionN (by decide); (simp (maxSteps := 9999999) only [go_sem, argR, nan100, e1, e2]; rfl)) | (refine run_cond_t ?_ ?_; · simp only [go_sem]) | (refine run_cond_f ?_ ?_; · simp only [go_sem]))
      exact end_nil (q_ret1 _ (by simp (maxSteps := 9999999) only [go_sem]) rfl (take_self _))

/-- these integers lie there -/
def IL (h : SHeap) (b o : Nat) (l : List Int) : Prop := ∀ (i : Nat) (hi : i < l.length), loadS h none (.pointer (some ⟨b, o + i, none⟩)) = some (.int .i64 l[i])
theorem lex_loop (cx : Cx) {h : SHeap} {ba oa bb ob ca cb : Nat} {a b : List Int} (ha : IL h ba oa a) (hb : IL h bb ob b) (hl : a.length ≤ 1000000) (hl2 : b.length ≤ 1000000) : ∀ k ρ ms h' d', (∃ i : Nat, i + k = a.length ∧ lexC a b = lexC (a.drop i) (b.drop i) ∧ ρ 0 = .slice (some ⟨ba, oa, none⟩) a.length ca ∧ ρ 1 = .slice (some ⟨bb, ob, none⟩) b.length cb ∧ ρ 9 = .slice (some ⟨ba, oa, none⟩) a.length ca ∧ ρ 10 = .int .i64 a.length ∧ ρ 11 = .int .i64 i ∧ ms = [] ∧ h' = h ∧ d' = []) →
    LoopW M cx 6 sf63L0 ρ ms h' d' (fun ex ρ' ms' h' d' => ms' = [] ∧ h' = h ∧ d' = [] ∧ ((ex = .exit 0 ∧ lexC a b = (if a.length < b.length then -1 else 0) ∧ ρ' 0 = .slice (some ⟨ba, oa, none⟩) a.length ca ∧ ρ' 1 = .slice (some ⟨bb, ob, none⟩) b.length cb) ∨ (ex = .ret ∧ ρ' 4 = .int .i64 (lexC a b)))) := by
  refine loop_run _ ?_
  rintro k ρ ms h' d' ⟨i, hi, he, r0, r1, r9, r10, r11, rfl, rfl, rfl⟩
  unfold sf63L0
  by_cases hk : k = 0
  · have e1 : ¬ ((i : Int) < a.length) := by omega
    repeat (first | apply run_seq | apply run_block | apply end_seq | apply end_blk_hit | apply end_blk_miss rfl | apply end_blk | apply end_seq_exit | apply end_seq_ret | apply end_blk_ret | apply run_skip | apply run_ret | apply run_exit | (apply run_region (by decide); (simp (maxSteps := 9999999) only [go_sem, r9, r10, r11, e1]; rfl)) | (apply run_regionN (by decide); (simp (maxSteps := 9999999) only [go_sem, r9, r10, r11, e1]; rfl)) | (refine run_cond_t ?_ ?_; · simp only [go_sem]) | (refine run_cond_f ?_ ?_; · simp only [go_sem]))
    refine end_nil ⟨rfl, rfl, rfl, .inl ⟨rfl, ?_, by simp (maxSteps := 9999999) only [go_sem, r0], by simp (maxSteps := 9999999) only [go_sem, r1]⟩⟩
    rw [he, List.drop_eq_nil_of_le (by omega)]
    by_cases c : a.length < b.length
    · rw [if_pos c]
      obtain ⟨y, ys, e⟩ : ∃ y ys, b.drop i = y :: ys := by
        cases e : b.drop i with
        | nil => have := congrArg List.length e; simp at this; omega
        | cons y ys => exact ⟨y, ys, rfl⟩
      rw [e]; rfl
    · rw [if_neg c, List.drop_eq_nil_of_le (by omega)]; rfl
  · have e1 : ((i : Int) < a.length) := by omega
    have hia : i < a.length := by omega
    have p1 : (0 : Int) ≤ (i : Int) := by omega
    have l1 := ha i hia
    have da : a.drop i = a[i] :: a.drop (i + 1) := by simp
    by_cases c : i < b.length
    · have e2 : ¬ ((b.length : Int) ≤ i) := by omega
      have p2 : (i : Int) < b.length := by omega
      have l2 := hb i c
      have db : b.drop i = b[i] :: b.drop (i + 1) := by simp
      have ew : IntKind.i64.wrap ((i : Int) + 1) = ((i + 1 : Nat) : Int) := by rw [wrap64 (by omega) (by omega)]; rfl
      rw [da, db] at he
      generalize a[i] = x at *
      generalize b[i] = y at *
      have he' : lexC a b = (if cmpI x y = 0 then lexC (a.drop (i + 1)) (b.drop (i + 1)) else cmpI x y) := he
      by_cases z : cmpI x y = 0
      · rw [if_pos z] at he'
        repeat (first | apply run_seq | apply run_block | apply end_seq | apply end_blk_hit | apply end_blk_miss rfl | apply end_blk | apply end_seq_exit | apply end_seq_ret | apply end_blk_ret | apply run_skip | apply run_ret | apply run_exit | (apply run_region (by decide); (simp (maxSteps := 9999999) only [go_sem, r0, r1, r9, r10, r11, e1, p1, l1, e2, p2, l2, cmp83, z, ew]; rfl)) | (apply run_regionN (by decide); (simp (maxSteps := 9999999) only [go_sem, r0, r1, r9, r10, r11, e1, p1, l1, e2, p2, l2, cmp83, z, ew]; rfl)) | (refine run_cond_t ?_ ?_; · simp only [go_sem]) | (refine run_cond_f ?_ ?_; · simp only [go_sem]))
        exact end_nil ⟨k - 1, by omega, i + 1, by omega, he', by simp (maxSteps := 9999999) only [go_sem, r0], by simp (maxSteps := 9999999) only [go_sem, r1], by simp (maxSteps := 9999999) only [go_sem, r9], by simp (maxSteps := 9999999) only [go_sem, r10], by simp (maxSteps := 9999999) only [go_sem, ew], rfl, rfl, rfl⟩
      · rw [if_neg z] at he'
        repeat (first | apply run_seq | apply run_block | apply end_seq | apply end_blk_hit | apply end_blk_miss rfl | apply end_blk | apply end_seq_exit | apply end_seq_ret | apply end_blk_ret | apply run_skip | apply run_ret | apply run_exit | (apply run_region (by decide); (simp (maxSteps := 9999999) only [go_sem, r0, r1, r9, r10, r11, e1, p1, l1, e2, p2, l2, cmp83, z]; rfl)) | (apply run_regionN (by decide); (simp (maxSteps := 9999999) only [go_sem, r0, r1, r9, r10, r11, e1, p1, l1, e2, p2, l2, cmp83, z]; rfl)) | (refine run_cond_t ?_ ?_; · simp only [go_sem]) | (refine run_cond_f ?_ ?_; · simp only [go_sem]))
        exact end_nil ⟨rfl, rfl, rfl, .inr ⟨rfl, by rw [he']; simp (maxSteps := 9999999) only [go_sem]⟩⟩
    · have e2 : ((b.length : Int) ≤ i) := by omega
      repeat (first | apply run_seq | apply run_block | apply end_seq | apply end_blk_hit | apply end_blk_miss rfl | apply end_blk | apply end_seq_exit | apply end_seq_ret | apply end_blk_ret | apply run_skip | apply run_ret | apply run_exit | (apply run_region (by decide); (simp (maxSteps := 9999999) only [go_sem, r0, r1, r9, r10, r11, e1, p1, l1, e2]; rfl)) | (apply run_regionN (by decide); (simp (maxSteps := 9999999) only [go_sem, r0, r1, r9, r10, r11, e1, p1, l1, e2]; rfl)) | (refine run_cond_t ?_ ?_; · simp only [go_sem]) | (refine run_cond_f ?_ ?_; · simp only [go_sem]))
      refine end_nil ⟨rfl, rfl, rfl, .inr ⟨rfl, ?_⟩⟩
      rw [he, da, List.drop_eq_nil_of_le (show b.length ≤ i by omega)]
      simp (maxSteps := 9999999) only [go_sem]
      rfl
/-- slices.Compare -/
theorem lex63 {h : SHeap} {ba oa bb ob ca cb : Nat} {a b : List Int} (ha : IL h ba oa a) (hb : IL h bb ob b) (hl : a.length ≤ 1000000) (hl2 : b.length ≤ 1000000) {na nb : Nat} (hna : na = a.length) (hnb : nb = b.length) : M.call 63 [.slice (some ⟨ba, oa, none⟩) na ca, .slice (some ⟨bb, ob, none⟩) nb cb] h = some (.int .i64 (lexC a b), h, []) := by
  subst hna hnb
  refine call_run sf63 rfl rfl rfl ?_
  unfold sf63
  repeat (first | apply run_seq | apply run_block | apply end_seq | apply end_blk_hit | apply end_blk_miss rfl | apply end_blk | apply end_seq_exit | apply end_seq_ret | apply end_blk_ret | apply run_skip | apply run_ret | apply run_exit | (apply run_region (by decide); (simp (maxSteps := 9999999) only [go_sem, argR]; rfl)) | (apply run_regionN (by decide); (simp (maxSteps := 9999999) only [go_sem, argR]; rfl)) | (refine run_cond_t ?_ ?_; · simp only [go_sem]) | (refine run_cond_f ?_ ?_; · simp only [go_sem]))
  refine run_loop (lex_loop (ca := ca) (cb := cb) _ ha hb hl hl2 a.length _ _ _ _ ⟨0, by omega, by simp, by simp (maxSteps := 9999999) only [go_sem, argR], by simp (maxSteps := 9999999) only [go_sem, argR], by simp (maxSteps := 9999999) only [go_sem, argR], by simp (maxSteps := 9999999) only [go_sem, argR], by (simp (maxSteps := 9999999) only [go_sem]) <;> rfl, rfl, rfl, rfl⟩) ?_
  rintro ex ρ' ms' h1 d1 ⟨rfl, rfl, rfl, ⟨rfl, he, k0, k1⟩ | ⟨rfl, k4⟩⟩
  · by_cases c : a.length < b.length
    · have e1 : (a.length : Int) < b.length := by omega
      rw [if_pos c] at he
      rw [he]
      repeat (first | apply run_seq | apply run_block | apply end_seq | apply end_blk_hit | apply end_blk_miss rfl | apply end_blk | apply end_seq_exit | apply end_seq_ret | apply end_blk_ret | apply run_skip | apply run_ret | apply run_exit | (apply run_region (by decide); (simp (maxSteps := 9999999) only [go_sem, k0, k1, e1]; rfl)) | (apply run_regionN (by decide); (simp (maxSteps := 9999999) only [go_sem, k0, k1, e1]; rfl)) | (refine run_cond_t ?_ ?_; · simp only [go_sem]) | (refine run_cond_f ?_ ?_; · simp only [go_sem]))
      exact end_nil (q_ret1 _ (by simp (maxSteps := 9999999) only [go_sem]) rfl (take_self _))
    · have e1 : ¬ (a.length : Int) < b.length := by omega
      rw [if_neg c] at he
      rw [he]
      repeat (first | apply run_seq | apply run_block | apply end_seq | apply end_blk_hit | apply end_blk_miss rfl | apply end_blk | apply end_seq_exit | apply end_seq_ret | apply end_blk_ret | apply run_skip | apply run_ret | apply run_exit | (apply run_region (by decide); (simp (maxSteps := 9999999) only [go_sem, k0, k1, e1]; rfl)) | (apply run_regionN (by decide); (simp (maxSteps := 9999999) only [go_sem, k0, k1, e1]; rfl)) | (refine run_cond_t ?_ ?_; · simp only [go_sem]) | (refine run_cond_f ?_ ?_; · simp only [go_sem]))
      exact end_nil (q_ret1 _ (by simp (maxSteps := 9999999) only [go_sem]) rfl (take_self _))
  · repeat (first | apply run_seq | apply run_block | apply end_seq | apply end_blk_hit | apply end_blk_miss rfl | apply end_blk | apply end_seq_exit | apply end_seq_ret | apply end_blk_ret | apply run_skip | apply run_ret | apply run_exit | (apply run_region (by decide); (simp (maxSteps := 9999999) only [go_sem]; rfl)) | (apply run_regionN (by decide); (simp (maxSteps := 9999999) only [go_sem]; rfl)) | (refine run_cond_t ?_ ?_; · simp only [go_sem]) | (refine run_cond_f ?_ ?_; · simp only [go_sem]))
    exact end_nil (q_ret1 _ (by simp (maxSteps := 9999999) only [go_sem, k4]) rfl (take_self _))
end Go.Proofs.YtdmfhdnpakgkpaaDoor.Sh


/- Comparison of factors. -/
namespace Go.Proofs.YtdmfhdnpakgkpaaDoor.Sh
open Go
set_option maxRecDepth 100000
set_option maxHeartbeats 4000000

/-- the first that is not zero -/
def orL : List Int → Int
  | [] => 0
  | x :: xs => if x = 0 then orL xs else x
theorem or_loop (cx : Cx) {h : SHeap} {ba oa ca : Nat} {a : List Int} (ha : IL h ba oa a) (hl : a.length ≤ 1000000) : ∀ k ρ ms h' d', (∃ i : Nat, i + k = a.length ∧ orL a = orL (a.drop i) ∧ ρ 3 = .int .i64 0 ∧ ρ 6 = .slice (some ⟨ba, oa, none⟩) a.length ca ∧ ρ 7 = .int .i64 a.length ∧ ρ 8 = .int .i64 i ∧ ms = [] ∧ h' = h ∧ d' = []) →
    LoopW M cx 5 sf85L0 ρ ms h' d' (fun ex ρ' ms' h' d' => ms' = [] ∧ h' = h ∧ d' = [] ∧ ((ex = .exit 0 ∧ orL a = 0 ∧ ρ' 3 = .int .i64 0) ∨ (ex = .ret ∧ ρ' 2 = .int .i64 (orL a)))) := by
  refine loop_run _ ?_
  rintro k ρ ms h' d' ⟨i, hi, he, r3, r6, r7, r8, rfl, rfl, rfl⟩
  unfold sf85L0
  by_cases hk : k = 0
  · have e1 : ¬ ((i : Int) < a.length) := by omega
    repeat (first | apply run_seq | apply run_block | apply end_seq | apply end_blk_hit | apply end_blk_miss rfl | apply end_blk | apply end_seq_exit | apply end_seq_ret | apply end_blk_ret | apply run_skip | apply run_ret | apply run_exit | (apply run_region (by decide); (simp (maxSteps := 9999999) only [go_sem, r6, r7, r8, e1]; rfl)) | (apply run_regionN (by decide); (simp (maxSteps := 9999999) only [go_sem, r6, r7, r8, e1]; rfl)) | (refine run_cond_t ?_ ?_; · simp only [go_sem]) | (refine run_cond_f ?_ ?_; · simp only [go_sem]))
    refine end_nil ⟨rfl, rfl, rfl, .inl ⟨rfl, ?_, by simp (maxSteps := 9999999) only [go_sem, r3]⟩⟩
    rw [he, List.drop_eq_nil_of_le (by omega)]
    rfl
  · have e1 : ((i : Int) < a.length) := by omega
    have hia : i < a.length := by omega
    have p1 : (0 : Int) ≤ (i : Int) := by omega
    have l1 := ha i hia
    have da : a.drop i = a[i] :: a.drop (i + 1) := by simp
    have ew : IntKind.i64.wrap ((i : Int) + 1) = ((i + 1 : Nat) : Int) := by rw [wrap64 (by omega) (by omega)]; rfl
    rw [da] at he
    generalize a[i] = x at *
    have he' : orL a = (if x = 0 then orL (a.drop (i + 1)) else x) := he
    by_cases z : x = 0
    · rw [if_pos z] at he'
      repeat (first | apply run_seq | apply run_block | apply end_seq | apply end_blk_hit | apply end_blk_miss rfl | apply end_blk | apply end_seq_exit | apply end_seq_ret | apply end_blk_ret | apply run_skip | apply run_ret | apply run_exit | (apply run_region (by decide); (simp (maxSteps := 9999999) only [go_sem, r3, r6, r7, r8, e1, p1, l1, z, ew]; rfl)) | (apply run_regionN (by decide); (simp (maxSteps := 9999999) only [go_sem, r3, r6, r7, r8, e1, p1, l1, z, ew]; rfl)) | (refine run_cond_t ?_ ?_; · simp only [go_sem]) | (refine run_cond_f ?_ ?_; · simp only [go_sem]))
      exact end_nil ⟨k - 1, by omega, i + 1, by omega, he', by simp (maxSteps := 9999999) only [go_sem, r3], by simp (maxSteps := 9999999) only [go_sem, r6], by simp (maxSteps := 9999999) only [go_sem, r7], by simp (maxSteps := 9999999) only [go_sem, ew], rfl, rfl, rfl⟩
    · rw [if_neg z] at he'
      repeat (first | apply run_seq | apply run_block | apply end_seq | apply end_blk_hit | apply end_blk_miss rfl | apply end_blk | apply end_seq_exit | apply end_seq_ret | apply end_blk_ret | apply run_skip | apply run_ret | apply run_exit | (apply run_region (by decide); (simp (maxSteps := 9999999) only [go_sem, r3, r6, r7, r8, e1, p1, l1, z, ew]; rfl)) | (apply run_regionN (by decide); (simp (maxSteps := 9999999) only [go_sem, r3, r6, r7, r8, e1, p1, l1, z, ew]; rfl)) | (refine run_cond_t ?_ ?_; · simp only [go_sem]) | (refine run_cond_f ?_ ?_; · simp only [go_sem]))
      exact end_nil ⟨rfl, rfl, rfl, .inr ⟨rfl, by rw [he']; simp (maxSteps := 9999999) only [go_sem]⟩⟩
/-- cmp.Or -/
theorem or85 {h : SHeap} {ba oa ca : Nat} {a : List Int} (ha : IL h ba oa a) (hl : a.length ≤ 1000000) {na : Nat} (hna : na = a.length) : M.call 85 [.slice (some ⟨ba, oa, none⟩) na ca] h = some (.int .i64 (orL a), h, []) := by
  subst hna
  refine call_run sf85 rfl rfl rfl ?_
  unfold sf85
  repeat (first | apply run_seq | apply run_block | apply end_seq | apply end_blk_hit | apply end_blk_miss rfl | apply end_blk | apply end_seq_exit | apply end_seq_ret | apply end_blk_ret | apply run_skip | apply run_ret | apply run_exit | (apply run_region (by decide); (simp (maxSteps := 9999999) only [go_sem, argR]; rfl)) | (apply run_regionN (by decide); (simp (maxSteps := 9999999) only [go_sem, argR]; rfl)) | (refine run_cond_t ?_ ?_; · simp only [go_sem]) | (refine run_cond_f ?_ ?_; · simp only [go_sem]))
  refine run_loop (or_loop (ca := ca) _ ha hl a.length _ _ _ _ ⟨0, by omega, by simp, by simp (maxSteps := 9999999) only [go_sem, argR], by simp (maxSteps := 9999999) only [go_sem, argR], by simp (maxSteps := 9999999) only [go_sem, argR], by (simp (maxSteps := 9999999) only [go_sem]) <;> rfl, rfl, rfl, rfl⟩) ?_
  rintro ex ρ' ms' h1 d1 ⟨rfl, rfl, rfl, ⟨rfl, he, k3⟩ | ⟨rfl, k2⟩⟩
  · rw [he]
    repeat (first | apply run_seq | apply run_block | apply end_seq | apply end_blk_hit | apply end_blk_miss rfl | apply end_blk | apply end_seq_exit | apply end_seq_ret | apply end_blk_ret | apply run_skip | apply run_ret | apply run_exit | (apply run_region (by decide); (simp (maxSteps := 9999999) only [go_sem, k3]; rfl)) | (apply run_regionN (by decide); (simp (maxSteps := 9999999) only [go_sem, k3]; rfl)) | (refine run_cond_t ?_ ?_; · simp only [go_sem]) | (refine run_cond_f ?_ ?_; · simp only [go_sem]))
    exact end_nil (q_ret1 _ (by simp (maxSteps := 9999999) only [go_sem]) rfl (take_self _))
  · repeat (first | apply run_seq | apply run_block | apply end_seq | apply end_blk_hit | apply end_blk_miss rfl | apply end_blk | apply end_seq_exit | apply end_seq_ret | apply end_blk_ret | apply run_skip | apply run_ret | apply run_exit | (apply run_region (by decide); (simp (maxSteps := 9999999) only [go_sem]; rfl)) | (apply run_regionN (by decide); (simp (maxSteps := 9999999) only [go_sem]; rfl)) | (refine run_cond_t ?_ ?_; · simp only [go_sem]) | (refine run_cond_f ?_ ?_; · simp only [go_sem]))
    exact end_nil (q_ret1 _ (by simp (maxSteps := 9999999) only [go_sem, k2]) rfl (take_self _))
/-- factors: a number and how often, or a norm and a number -/
abbrev Fa := Int × Int × Int
def celF (x : Fa) : List Value := [.int .i64 x.1, .int .i64 x.2.1, .int .i64 x.2.2]
def bxF (x : Fa) : SO := .cells (celF x) 84 true 0 []
def cF (x y : Fa) : Int := orL [cmpI x.1 y.1, lexC [x.2.1, x.2.2] [y.2.1, y.2.2]]
theorem cF_lex (x y : Fa) : cF x y = lexC [x.1, x.2.1, x.2.2] [y.1, y.2.1, y.2.2] := by
  show (if cmpI x.1 y.1 = 0 then (if lexC [x.2.1, x.2.2] [y.2.1, y.2.2] = 0 then 0 else lexC [x.2.1, x.2.2] [y.2.1, y.2.2]) else cmpI x.1 y.1) = (if cmpI x.1 y.1 = 0 then lexC [x.2.1, x.2.2] [y.2.1, y.2.2] else cmpI x.1 y.1)
  by_cases c : cmpI x.1 y.1 = 0
  · rw [if_pos c, if_pos c]
    by_cases d : lexC [x.2.1, x.2.2] [y.2.1, y.2.2] = 0
    · rw [if_pos d, d]
    · rw [if_neg d]
  · rw [if_neg c, if_neg c]
theorem cmp71 (p q : Fa) (h : SHeap) : M.call 71 [.agg (celF p).toArray, .agg (celF q).toArray] h = some (.int .i64 (cF p q), h, []) := by
  have c63 : ∀ g, M.call 63 [.slice (some ⟨h.length, 1, none⟩) 2 2, .slice (some ⟨h.length + 1, 1, none⟩) 2 2] (h ++ bxF p :: bxF q :: g) = some (.int .i64 (lexC [p.2.1, p.2.2] [q.2.1, q.2.2]), h ++ bxF p :: bxF q :: g, []) := fun g =>
    lex63 (ba := h.length) (oa := 1) (bb := h.length + 1) (ob := 1) (ca := 2) (cb := 2) (a := [p.2.1, p.2.2]) (b := [q.2.1, q.2.2])
    (fun i hi => by
      match i, hi with
      | 0, _ => rw [load_app0]; rfl
      | 1, _ => rw [load_app0]; rfl)
    (fun i hi => by
      match i, hi with
      | 0, _ => rw [load_app]; rfl
      | 1, _ => rw [load_app]; rfl) (by simp) (by simp) (na := 2) (nb := 2) rfl rfl
  have c85 : ∀ z g, M.call 85 [.slice (some ⟨h.length + 2, 0, none⟩) 2 2] (h ++ bxF p :: bxF q :: .cells [.int .i64 (cmpI p.1 q.1), .int .i64 z] 3 true 0 [] :: g) = some (.int .i64 (orL [cmpI p.1 q.1, z]), h ++ bxF p :: bxF q :: .cells [.int .i64 (cmpI p.1 q.1), .int .i64 z] 3 true 0 [] :: g, []) := fun z g =>
    or85 (ba := h.length + 2) (oa := 0) (a := [cmpI p.1 q.1, z])
    (fun i hi => by
      match i, hi with
      | 0, _ => rw [load_app]; rfl
      | 1, _ => rw [load_app]; rfl) (by simp) (na := 2) rfl
  refine call_run sf71 rfl rfl rfl ?_
  unfold sf71 cF
  simp only [bxF, celF] at c63 c85
  unfold celF
  repeat (first | apply run_seq | apply run_block | apply end_seq | apply end_blk_hit | apply end_blk_miss rfl | apply end_blk | apply end_seq_exit | apply end_seq_ret | apply end_blk_ret | apply run_skip | apply run_ret | apply run_exit | (apply run_region (by decide); (simp (maxSteps := 9999999) only [go_sem, argR, c63, c85, cmp83, Nat.add_assoc]; rfl)) | (apply run_regionN (by decide); (simp (maxSteps := 9999999) only [go_sem, argR, c63, c85, cmp83, Nat.add_assoc]; rfl)) | (refine run_cond_t ?_ ?_; · simp only [go_sem]) | (refine run_cond_f ?_ ?_; · simp only [go_sem]))
  exact end_nil (q_ret1 _ (by simp (maxSteps := 9999999) only [go_sem]) rfl (take_app _ _))
theorem CF : Cmp M 71 celF cF := ⟨cmp71, fun x => by rw [cF_lex]; exact lexC_irr _, fun x y => by rw [cF_lex, cF_lex]; exact lexC_asym _ _, fun x y z => by rw [cF_lex, cF_lex, cF_lex]; exact lexC_ntr _ _ _⟩
theorem cF_anti {p q : Fa} (h1 : ¬ cF p q < 0) (h2 : ¬ cF q p < 0) : p = q := by
  rw [cF_lex] at h1 h2
  have := lexC_anti [p.1, p.2.1, p.2.2] [q.1, q.2.1, q.2.2] rfl h1 h2
  simp at this
  exact Prod.ext this.1 (Prod.ext this.2.1 this.2.2)
end Go.Proofs.YtdmfhdnpakgkpaaDoor.Sh


/- Primes of the document, and the plain lists of primes. -/
namespace Go.Proofs.YtdmfhdnpakgkpaaDoor.Sh
open Go
set_option maxRecDepth 100000
set_option maxHeartbeats 4000000

theorem prime76_loop (cx : Cx) {n : Nat} (hn : n ≤ 2000000000) (H : SHeap) : ∀ k ρ ms h' d', (∃ d : Nat, d + k = n + 2 ∧ 2 ≤ d ∧ ρ 0 = .int .i64 n ∧ ρ 3 = .int .i64 d ∧ (∀ e, 2 ≤ e → e < d → ¬ (n % e = 0 ∧ e * e ≤ n)) ∧ ms = [] ∧ h' = H ∧ d' = []) →
    LoopW M cx 5 sf76L0 ρ ms h' d' (fun ex ρ' ms' h' d' => ms' = [] ∧ h' = H ∧ d' = [] ∧ ((ex = .exit 0 ∧ primeN n = decide (2 ≤ n) ∧ ρ' 0 = .int .i64 n) ∨ (ex = .ret ∧ ρ' 2 = .bool false ∧ primeN n = false))) := by
  refine loop_run _ ?_
  rintro k ρ ms h' d' ⟨d, hd, hd2, r0, r3, hno, rfl, rfl, rfl⟩
  unfold sf76L0
  have w1 := mul_wn (a := d) (b := d) (by omega) (by omega)
  by_cases hc : d * d ≤ n
  · have e1 : ((d * d : Nat) : Int) ≤ n := by omega
    have hz : ¬ ((d : Int) = 0) := by omega
    have ht := tmod_nat n d
    have hlt : d < n + 2 := by
      have : d * 1 ≤ d * d := Nat.mul_le_mul_left d (by omega)
      omega
    by_cases he : n % d = 0
    · have e2 : ((n % d : Nat) : Int) = 0 := by omega
      have hp := prime_no hd2 hc he
      repeat (first | apply run_seq | apply run_block | apply end_seq | apply end_blk_hit | apply end_blk_miss rfl | apply end_blk | apply end_seq_exit | apply end_seq_ret | apply end_blk_ret | apply run_skip | apply run_ret | apply run_exit | (apply run_region (by decide); (simp (maxSteps := 9999999) only [go_sem, r0, r3, w1, e1, hz, ht, e2]; rfl)) | (apply run_regionN (by decide); (simp (maxSteps := 9999999) only [go_sem, r0, r3, w1, e1, hz, ht, e2]; rfl)) | (refine run_cond_t ?_ ?_; · simp only [go_sem]) | (refine run_cond_f ?_ ?_; · simp only [go_sem]))
      exact end_nil ⟨rfl, rfl, rfl, .inr ⟨rfl, by simp (maxSteps := 9999999) only [go_sem], hp⟩⟩
    · have e2 : ¬ (((n % d : Nat) : Int) = 0) := by omega
      have ew : IntKind.i64.wrap ((d : Int) + 1) = ((d + 1 : Nat) : Int) := by rw [wrap64 (by omega) (by omega)]; rfl
      repeat (first | apply run_seq | apply run_block | apply end_seq | apply end_blk_hit | apply end_blk_miss rfl | apply end_blk | apply end_seq_exit | apply end_seq_ret | apply end_blk_ret | apply run_skip | apply run_ret | apply run_exit | (apply run_region (by decide); (simp (maxSteps := 9999999) only [go_sem, r0, r3, w1, e1, hz, ht, e2, ew]; rfl)) | (apply run_regionN (by decide); (simp (maxSteps := 9999999) only [go_sem, r0, r3, w1, e1, hz, ht, e2, ew]; rfl)) | (refine run_cond_t ?_ ?_; · simp only [go_sem]) | (refine run_cond_f ?_ ?_; · simp only [go_sem]))
      refine end_nil ⟨k - 1, by omega, d + 1, by omega, by omega, by simp (maxSteps := 9999999) only [go_sem, r0], by simp (maxSteps := 9999999) only [go_sem, ew], fun e h1 h2 => ?_, rfl, rfl, rfl⟩
      by_cases e3 : e = d
      · subst e3; exact fun h => he h.1
      · exact hno e h1 (by omega)
  · have e1 : ¬ (((d * d : Nat) : Int) ≤ n) := by omega
    repeat (first | apply run_seq | apply run_block | apply end_seq | apply end_blk_hit | apply end_blk_miss rfl | apply end_blk | apply end_seq_exit | apply end_seq_ret | apply end_blk_ret | apply run_skip | apply run_ret | apply run_exit | (apply run_region (by decide); (simp (maxSteps := 9999999) only [go_sem, r0, r3, w1, e1]; rfl)) | (apply run_regionN (by decide); (simp (maxSteps := 9999999) only [go_sem, r0, r3, w1, e1]; rfl)) | (refine run_cond_t ?_ ?_; · simp only [go_sem]) | (refine run_cond_f ?_ ?_; · simp only [go_sem]))
    refine end_nil ⟨rfl, rfl, rfl, .inl ⟨rfl, ?_, by simp (maxSteps := 9999999) only [go_sem, r0]⟩⟩
    by_cases h2 : 2 ≤ n
    · rw [decide_eq_true h2, prime_iff]
      refine ⟨h2, fun e he1 he2 he3 => ?_⟩
      by_cases h3 : e < d
      · exact hno e he1 h3 ⟨he3, he2⟩
      · have := Nat.mul_le_mul (show d ≤ e by omega) (show d ≤ e by omega)
        omega
    · rw [decide_eq_false h2]
      cases e : primeN n with
      | false => rfl
      | true => exact (h2 (prime_iff.1 e).1).elim
/-- prime of the document -/
theorem prime76 {n : Nat} (hn : n ≤ 2000000000) (h : SHeap) : M.call 76 [.int .i64 n] h = some (.bool (primeN n), h, []) := by
  refine call_run sf76 rfl rfl rfl ?_
  unfold sf76
  repeat (first | apply run_seq | apply run_block | apply end_seq | apply end_blk_hit | apply end_blk_miss rfl | apply end_blk | apply end_seq_exit | apply end_seq_ret | apply end_blk_ret | apply run_skip | apply run_ret | apply run_exit | (apply run_region (by decide); (simp (maxSteps := 9999999) only [go_sem, argR]; rfl)) | (apply run_regionN (by decide); (simp (maxSteps := 9999999) only [go_sem, argR]; rfl)) | (refine run_cond_t ?_ ?_; · simp only [go_sem]) | (refine run_cond_f ?_ ?_; · simp only [go_sem]))
  refine run_loop (prime76_loop _ hn h n _ _ _ _ ⟨2, by omega, by omega, by simp (maxSteps := 9999999) only [go_sem, argR], by (simp (maxSteps := 9999999) only [go_sem]) <;> rfl, fun e h1 h2 => by omega, rfl, rfl, rfl⟩) ?_
  rintro ex ρ' ms' h1 d1 ⟨rfl, rfl, rfl, ⟨rfl, he, k0⟩ | ⟨rfl, k2, he⟩⟩
  · have e2 : decide ((2 : Int) ≤ n) = decide (2 ≤ n) := by
      by_cases c : 2 ≤ n
      · rw [decide_eq_true c, decide_eq_true (by omega)]
      · rw [decide_eq_false c, decide_eq_false (by omega)]
    rw [he]
    repeat (first | apply run_seq | apply run_block | apply end_seq | apply end_blk_hit | apply end_blk_miss rfl | apply end_blk | apply end_seq_exit | apply end_seq_ret | apply end_blk_ret | apply run_skip | apply run_ret | apply run_exit | (apply run_region (by decide); (simp (maxSteps := 9999999) only [go_sem, k0, e2]; rfl)) | (apply run_regionN (by decide); (simp (maxSteps := 9999999) only [go_sem, k0, e2]; rfl)) | (refine run_cond_t ?_ ?_; · simp only [go_sem]) | (refine run_cond_f ?_ ?_; · simp only [go_sem]))
    exact end_nil (q_ret1 _ (by simp (maxSteps := 9999999) only [go_sem]) rfl (take_self _))
  · rw [he]
    repeat (first | apply run_seq | apply run_block | apply end_seq | apply end_blk_hit | apply end_blk_miss rfl | apply end_blk | apply end_seq_exit | apply end_seq_ret | apply end_blk_ret | apply run_skip | apply run_ret | apply run_exit | (apply run_region (by decide); (simp (maxSteps := 9999999) only [go_sem]; rfl)) | (apply run_regionN (by decide); (simp (maxSteps := 9999999) only [go_sem]; rfl)) | (refine run_cond_t ?_ ?_; · simp only [go_sem]) | (refine run_cond_f ?_ ?_; · simp only [go_sem]))
    exact end_nil (q_ret1 _ (by simp (maxSteps := 9999999) only [go_sem, k2]) rfl (take_self _))
theorem primeN_sq (n : Nat) : primeN (n * n) = false := by
  by_cases h : 2 ≤ n
  · exact prime_no h (Nat.le_refl _) (Nat.mul_mod_left n n)
  · cases e : primeN (n * n) with
    | false => rfl
    | true =>
      have := (prime_iff.1 e).1
      have h2 : n = 0 ∨ n = 1 := by omega
      rcases h2 with h2 | h2 <;> subst h2 <;> omega
/-- Prime of the document, for the first of the associates -/
theorem primeR46 {p : Int × Int} (hp : Bd 30000 p) (hf : isF p) (h : SHeap) : M.call 46 [agV p] h = some (.bool (primeP p), h, []) := by
  have c43 := fun h => firstR43 (hp.mono (show (30000 : Int) ≤ 1000000000 by decide)) h
  rw [firP_yes hf] at c43
  have c27 := fun h => normR27 hp (by decide) h
  obtain ⟨_, _, _, n1, n2⟩ := nrm_w hp (by decide)
  obtain ⟨f1, f2⟩ := hf
  obtain ⟨b1, b2, b3, b4⟩ := hp
  have c76 := fun h => prime76 (n := (nrm p).toNat) (by omega) h
  rw [Int.toNat_of_nonneg n1] at c76
  have c76' := fun h => prime76 (n := p.1.toNat) (by omega) h
  rw [Int.toNat_of_nonneg (show (0 : Int) ≤ p.1 by omega)] at c76'
  have m4 : (p.1.tmod 4 = 3) ↔ p.1.toNat % 4 = 3 := by
    rw [Int.tmod_eq_emod_of_nonneg (by omega)]; omega
  have hm : p.2 = 0 → mxP p = p.1.toNat := fun e => by unfold mxP; omega
  refine call_run sf46 rfl rfl rfl ?_
  unfold sf46
  by_cases c : primeN (nrm p).toNat = true
  · have hpp : primeP p = true := by
      unfold primeP
      by_cases e : p.1 = 0 ∨ p.2 = 0
      · exfalso
        have e0 : p.2 = 0 := by omega
        have : (nrm p).toNat = p.1.toNat * p.1.toNat := by
          unfold nrm
          rw [e0, Int.mul_zero, Int.add_zero]
          have e1 : p.1 = (p.1.toNat : Int) := by omega
          generalize p.1.toNat = m at *
          rw [e1, ← Int.natCast_mul]; rfl
        rw [this, primeN_sq] at c
        exact Bool.noConfusion c
      · rw [if_neg e]; exact c
    rw [hpp]
    rw [c] at c76
    repeat (first | apply run_seq | apply run_block | apply end_seq | apply end_blk_hit | apply end_blk_miss rfl | apply end_blk | apply end_seq_exit | apply end_seq_ret | apply end_blk_ret | apply run_skip | apply run_ret | apply run_exit | (apply run_region (by decide); (simp (maxSteps := 9999999) only [go_sem, argR, c43, c27, c76]; rfl)) | (apply run_regionN (by decide); (simp (maxSteps := 9999999) only [go_sem, argR, c43, c27, c76]; rfl)) | (refine run_cond_t ?_ ?_; · simp only [go_sem]) | (refine run_cond_f ?_ ?_; · simp only [go_sem]))
    exact end_nil (q_ret1 _ (by simp (maxSteps := 9999999) only [go_sem]) rfl (take_app _ _))
  · have c' : primeN (nrm p).toNat = false := by simpa using c
    rw [c'] at c76
    by_cases e0 : p.2 = 0
    · have e0' : (p.2 = 0) = True := eq_true e0
      have hpp : primeP p = (decide (p.1.toNat % 4 = 3) && primeN p.1.toNat) := by unfold primeP; rw [if_pos (.inr e0), hm e0]
      rw [hpp]
      by_cases d : p.1.toNat % 4 = 3
      · have d' : (p.1.tmod 4 = 3) = True := eq_true (m4.2 d)
        rw [decide_eq_true d, Bool.true_and]
        repeat (first | apply run_seq | apply run_block | apply end_seq | apply end_blk_hit | apply end_blk_miss rfl | apply end_blk | apply end_seq_exit | apply end_seq_ret | apply end_blk_ret | apply run_skip | apply run_ret | apply run_exit | (apply run_region (by decide); (simp (maxSteps := 9999999) only [go_sem, argR, c43, c27, c76, c76', e0', d']; rfl)) | (apply run_regionN (by decide); (simp (maxSteps := 9999999) only [go_sem, argR, c43, c27, c76, c76', e0', d']; rfl)) | (refine run_cond_t ?_ ?_; · simp only [go_sem]) | (refine run_cond_f ?_ ?_; · simp only [go_sem]))
        exact end_nil (q_ret1 _ (by simp (maxSteps := 9999999) only [go_sem]) rfl (take_app _ _))
      · have d' : (p.1.tmod 4 = 3) = False := eq_false (fun k => d (m4.1 k))
        rw [decide_eq_false d, Bool.false_and]
        repeat (first | apply run_seq | apply run_block | apply end_seq | apply end_blk_hit | apply end_blk_miss rfl | apply end_blk | apply end_seq_exit | apply end_seq_ret | apply end_blk_ret | apply run_skip | apply run_ret | apply run_exit | (apply run_region (by decide); (simp (maxSteps := 9999999) only [go_sem, argR, c43, c27, c76, c76', e0', d']; rfl)) | (apply run_regionN (by decide); (simp (maxSteps := 9999999) only [go_sem, argR, c43, c27, c76, c76', e0', d']; rfl)) | (refine run_cond_t ?_ ?_; · simp only [go_sem]) | (refine run_cond_f ?_ ?_; · simp only [go_sem]))
        exact end_nil (q_ret1 _ (by simp (maxSteps := 9999999) only [go_sem]) rfl (take_app _ _))
    · have e0' : (p.2 = 0) = False := eq_false e0
      have hpp : primeP p = false := by unfold primeP; rw [if_neg (by omega)]; exact c'
      rw [hpp]
      repeat (first | apply run_seq | apply run_block | apply end_seq | apply end_blk_hit | apply end_blk_miss rfl | apply end_blk | apply end_seq_exit | apply end_seq_ret | apply end_blk_ret | apply run_skip | apply run_ret | apply run_exit | (apply run_region (by decide); (simp (maxSteps := 9999999) only [go_sem, argR, c43, c27, c76, e0']; rfl)) | (apply run_regionN (by decide); (simp (maxSteps := 9999999) only [go_sem, argR, c43, c27, c76, e0']; rfl)) | (refine run_cond_t ?_ ?_; · simp only [go_sem]) | (refine run_cond_f ?_ ?_; · simp only [go_sem]))
      exact end_nil (q_ret1 _ (by simp (maxSteps := 9999999) only [go_sem]) rfl (take_app _ _))
theorem primeP_big {a b : Nat} (ha : 1 ≤ a) (h : primeP ((a : Int), (b : Int)) = true) : 2 ≤ a * a + b * b := by
  by_cases hb : b = 0
  · subst hb
    unfold primeP at h
    rw [if_pos (.inr rfl)] at h
    have : mxP ((a : Int), ((0 : Nat) : Int)) = a := by unfold mxP; simp
    rw [this] at h
    simp only [Bool.and_eq_true, decide_eq_true_eq] at h
    have h2 : 3 ≤ a := by omega
    have := Nat.mul_le_mul h2 h2
    omega
  · have h1 := Nat.mul_le_mul ha ha
    have h2 := Nat.mul_le_mul (show 1 ≤ b by omega) (show 1 ≤ b by omega)
    omega
end Go.Proofs.YtdmfhdnpakgkpaaDoor.Sh


/- The plain lists of primes: sorted, they are the same. -/
namespace Go.Proofs.YtdmfhdnpakgkpaaDoor.Sh
open Go
set_option maxRecDepth 100000
set_option maxHeartbeats 4000000

/-! ### lists by loops -/
theorem pw_range {E : Type} {R : E → E → Prop} (F : Nat → List E) (n : Nat) (h1 : ∀ i, i < n → (F i).Pairwise R) (h2 : ∀ i j, i < j → j < n → ∀ x ∈ F i, ∀ y ∈ F j, R x y) : ((List.range n).flatMap F).Pairwise R := by
  rw [List.pairwise_flatMap]
  refine ⟨fun i hi => h1 i (List.mem_range.1 hi), ?_⟩
  have := @List.pairwise_lt_range n
  refine List.Pairwise.imp_of_mem ?_ this
  intro i j hi hj hij
  exact h2 i j hij (List.mem_range.1 hj)
theorem fm_succ {E : Type} (F : Nat → List E) (n : Nat) : (List.range (n + 1)).flatMap F = (List.range n).flatMap F ++ F n := by
  rw [List.range_succ, List.flatMap_append]; simp
theorem fm_cut {E : Type} (F : Nat → List E) {b n : Nat} (hb : b ≤ n) (h : ∀ i, b ≤ i → i < n → F i = []) : (List.range n).flatMap F = (List.range b).flatMap F := by
  obtain ⟨k, rfl⟩ : ∃ k, n = b + k := ⟨n - b, by omega⟩
  clear hb
  induction k with
  | zero => rfl
  | succ k ih =>
    rw [← Nat.add_assoc, fm_succ, ih (fun i h1 h2 => h i h1 (by omega)), h (b + k) (by omega) (by omega), List.append_nil]
theorem fm_len {E : Type} (F : Nat → List E) (k : Nat) (h : ∀ i, (F i).length ≤ k) : ∀ n, ((List.range n).flatMap F).length ≤ n * k
  | 0 => by simp
  | n + 1 => by
    rw [fm_succ, List.length_append, Nat.succ_mul]
    have := fm_len F k h n
    have := h n
    omega
/-- an array as a list -/
theorem flF_list {E : Type} (cel : E → List Value) (f : Nat → E) : ∀ n, flF cel f n = ((List.range n).map f).flatMap cel
  | 0 => rfl
  | n + 1 => by
    rw [List.range_succ, List.map_append, List.flatMap_append]
    show flF cel f n ++ cel (f n) = _
    rw [flF_list cel f n]; simp
theorem getD_range {E : Type} (l : List E) (d : E) : (List.range l.length).map (fun i => l.getD i d) = l := by
  apply List.ext_getElem
  · simp
  · intro i h1 h2
    simp at h1
    simp [h1]
/-- what swaps leave in order is the list itself -/
theorem sorted_eq {E : Type} {c : E → E → Int} (anti : ∀ x y, ¬ c x y < 0 → ¬ c y x < 0 → x = y) {n : Nat} {f f' : Nat → E} (W : Sw 0 n f f') (O : Ord c 0 n f') {l l' : List E} (hl : (List.range n).map f = l) (hp : l.Perm l') (hs : l'.Pairwise (fun x y => ¬ c y x < 0)) : (List.range n).map f' = l' := by
  subst hl
  refine List.Perm.eq_of_pairwise (le := fun x y => ¬ c y x < 0) (fun a b _ _ h1 h2 => anti a b h2 h1) ?_ hs ((W.perm (Nat.le_refl n)).trans hp)
  rw [List.pairwise_map]
  refine List.Pairwise.imp_of_mem ?_ (@List.pairwise_lt_range n)
  intro i j hi hj hij
  exact O i j (Nat.zero_le _) hij (List.mem_range.1 hj)

/-! ### primes -/
def fa (a b : Nat) : Fa := (((a * a + b * b : Nat) : Int), (a : Int), (b : Int))
def gU (n a b : Nat) : List Fa := if 1 ≤ a ∧ a * a + b * b ≤ n ∧ primeP ((a : Int), (b : Int)) = true then [fa a b] else []
def rowU (n a b : Nat) : List Fa := (List.range b).flatMap (gU n a)
def listU (n a : Nat) : List Fa := (List.range a).flatMap fun a => rowU n a 45
def hD (m a b : Nat) : List Fa := if 2 ≤ m ∧ 1 ≤ a ∧ a * a + b * b = m ∧ primeP ((a : Int), (b : Int)) = true then [fa a b] else []
def colD (m a : Nat) : List Fa := (List.range 45).flatMap (hD m a)
def rowD (m a : Nat) : List Fa := (List.range a).flatMap (colD m)
def listD (m : Nat) : List Fa := (List.range m).flatMap fun m => rowD m 45

theorem mem_gU {n a b : Nat} {x : Fa} : x ∈ gU n a b ↔ x = fa a b ∧ 1 ≤ a ∧ a * a + b * b ≤ n ∧ primeP ((a : Int), (b : Int)) = true := by
  unfold gU; split
  · rename_i h; simp only [List.mem_singleton]; exact ⟨fun e => ⟨e, h⟩, fun e => e.1⟩
  · rename_i h; exact ⟨fun e => absurd e List.not_mem_nil, fun e => (h e.2).elim⟩
theorem mem_hD {m a b : Nat} {x : Fa} : x ∈ hD m a b ↔ x = fa a b ∧ 2 ≤ m ∧ 1 ≤ a ∧ a * a + b * b = m ∧ primeP ((a : Int), (b : Int)) = true := by
  unfold hD; split
  · rename_i h; simp only [List.mem_singleton]; exact ⟨fun e => ⟨e, h⟩, fun e => e.1⟩
  · rename_i h; exact ⟨fun e => absurd e List.not_mem_nil, fun e => (h e.2).elim⟩
theorem fa_inj {a b a' b' : Nat} (h : fa a b = fa a' b') : a = a' ∧ b = b' := by
  unfold fa at h
  have h1 := congrArg (fun x : Fa => x.2.1) h
  have h2 := congrArg (fun x : Fa => x.2.2) h
  dsimp only at h1 h2
  omega
theorem sq_45 {a n : Nat} (h : a * a ≤ n) (hn : n ≤ 2000) : a < 45 := by
  by_cases c : a < 45
  · exact c
  · have := Nat.mul_le_mul (show 45 ≤ a by omega) (show 45 ≤ a by omega)
    omega
theorem mem_listU {n : Nat} {x : Fa} : x ∈ listU n 45 ↔ ∃ a b, a < 45 ∧ b < 45 ∧ x = fa a b ∧ 1 ≤ a ∧ a * a + b * b ≤ n ∧ primeP ((a : Int), (b : Int)) = true := by
  unfold listU rowU
  simp only [List.mem_flatMap, List.mem_range, mem_gU]
  constructor
  · rintro ⟨a, ha, b, hb, h⟩; exact ⟨a, b, ha, hb, h⟩
  · rintro ⟨a, b, ha, hb, h⟩; exact ⟨a, ha, b, hb, h⟩
theorem mem_listD {n : Nat} {x : Fa} : x ∈ listD (n + 1) ↔ ∃ a b, a < 45 ∧ b < 45 ∧ x = fa a b ∧ 1 ≤ a ∧ a * a + b * b ≤ n ∧ primeP ((a : Int), (b : Int)) = true := by
  unfold listD rowD colD
  simp only [List.mem_flatMap, List.mem_range, mem_hD]
  constructor
  · rintro ⟨m, hm, a, ha, b, hb, h1, h2, h3, h4, h5⟩; exact ⟨a, b, ha, hb, h1, h3, by omega, h5⟩
  · rintro ⟨a, b, ha, hb, h1, h2, h3, h4⟩; exact ⟨a * a + b * b, by omega, a, ha, b, hb, h1, primeP_big h2 h4, h2, rfl, h4⟩
theorem nodup_listU (n : Nat) : (listU n 45).Nodup := by
  unfold listU
  refine pw_range _ _ (fun a _ => ?_) (fun a a' h _ x hx y hy e => ?_)
  · unfold rowU
    refine pw_range _ _ (fun b _ => ?_) (fun b b' h _ x hx y hy e => ?_)
    · unfold gU; split <;> simp
    · have h1 := (mem_gU.1 hx).1
      have h2 := (mem_gU.1 hy).1
      have := fa_inj (h1.symm.trans (e.trans h2))
      omega
  · unfold rowU at hx hy
    obtain ⟨b, _, hx⟩ := List.mem_flatMap.1 hx
    obtain ⟨b', _, hy⟩ := List.mem_flatMap.1 hy
    have h1 := (mem_gU.1 hx).1
    have h2 := (mem_gU.1 hy).1
    have := fa_inj (h1.symm.trans (e.trans h2))
    omega
theorem cF_lt (x y : Fa) : cF x y < 0 ↔ x.1 < y.1 ∨ (x.1 = y.1 ∧ (x.2.1 < y.2.1 ∨ (x.2.1 = y.2.1 ∧ x.2.2 < y.2.2))) := by
  rw [cF_lex, lexC_lt, lexC_lt, lexC_lt]
  have : ¬ lexC [] [] < 0 := lexC_irr []
  constructor
  · rintro (h | ⟨h1, h | ⟨h2, h | h⟩⟩)
    · exact .inl h
    · exact .inr ⟨h1, .inl h⟩
    · exact .inr ⟨h1, .inr ⟨h2, h⟩⟩
    · exact (this h.2).elim
  · rintro (h | ⟨h1, h | ⟨h2, h⟩⟩)
    · exact .inl h
    · exact .inr ⟨h1, .inl h⟩
    · exact .inr ⟨h1, .inr ⟨h2, .inl h⟩⟩
theorem lt_listD (n : Nat) : (listD n).Pairwise (fun x y => cF x y < 0) := by
  unfold listD
  refine pw_range _ _ (fun m _ => ?_) (fun m m' h _ x hx y hy => ?_)
  · unfold rowD
    refine pw_range _ _ (fun a _ => ?_) (fun a a' h _ x hx y hy => ?_)
    · unfold colD
      refine pw_range _ _ (fun b _ => ?_) (fun b b' h _ x hx y hy => ?_)
      · unfold hD; split <;> simp
      · obtain ⟨rfl, _, _, h1, _⟩ := mem_hD.1 hx
        obtain ⟨rfl, _, _, h2, _⟩ := mem_hD.1 hy
        rw [cF_lt]; unfold fa; dsimp only
        omega
    · unfold colD at hx hy
      obtain ⟨b, _, hx⟩ := List.mem_flatMap.1 hx
      obtain ⟨b', _, hy⟩ := List.mem_flatMap.1 hy
      obtain ⟨rfl, _, _, h1, _⟩ := mem_hD.1 hx
      obtain ⟨rfl, _, _, h2, _⟩ := mem_hD.1 hy
      rw [cF_lt]; unfold fa; dsimp only
      omega
  · unfold rowD colD at hx hy
    obtain ⟨a, _, hx⟩ := List.mem_flatMap.1 hx
    obtain ⟨b, _, hx⟩ := List.mem_flatMap.1 hx
    obtain ⟨a', _, hy⟩ := List.mem_flatMap.1 hy
    obtain ⟨b', _, hy⟩ := List.mem_flatMap.1 hy
    obtain ⟨rfl, _, _, h1, _⟩ := mem_hD.1 hx
    obtain ⟨rfl, _, _, h2, _⟩ := mem_hD.1 hy
    rw [cF_lt]; unfold fa; dsimp only
    omega
theorem le_listD (n : Nat) : (listD n).Pairwise (fun x y => ¬ cF y x < 0) := (lt_listD n).imp (fun {x y} h => CF.asym x y h)
theorem nodup_listD (n : Nat) : (listD n).Nodup := (lt_listD n).imp (fun {x y} h e => by subst e; exact CF.irr x h)
theorem perm_UD (n : Nat) : (listU n 45).Perm (listD (n + 1)) := (List.perm_ext_iff_of_nodup (nodup_listU n) (nodup_listD _)).2 (fun x => mem_listU.trans mem_listD.symm)
theorem len_U (n a : Nat) : (listU n a).length ≤ a * 45 := by
  refine fm_len _ 45 (fun i => ?_) a
  have : (rowU n i 45).length ≤ 45 * 1 := fm_len _ 1 (fun b => by unfold gU; split <;> simp) 45
  omega
theorem len_rowD (m a : Nat) : (rowD m a).length ≤ a * 45 := by
  refine fm_len _ 45 (fun i => ?_) a
  have : (colD m i).length ≤ 45 * 1 := fm_len _ 1 (fun b => by unfold hD; split <;> simp) 45
  omega
theorem len_D (n : Nat) : (listD n).length ≤ n * 2025 := fm_len _ 2025 (fun m => len_rowD m 45) n
end Go.Proofs.YtdmfhdnpakgkpaaDoor.Sh


