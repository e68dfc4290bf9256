/- Comparisons: of numbers, of lists, of factors. -/
import Derived.Test.YtdmfhdnpakgkpaaDoorShSo
import Derived.Test.YtdmfhdnpakgkpaaDoorGb
import Derived.Test.YtdmfhdnpakgkpaaDoorH19
import Derived.Test.YtdmfhdnpakgkpaaDoorH18
import Derived.Test.YtdmfhdnpakgkpaaDoorNe
set_option linter.all false
/- Comparisons: of numbers, of lists, of factors. -/
namespace Go.Proofs.YtdmfhdnpakgkpaaDoor.Sh
open Go
set_option maxRecDepth 100000
set_option maxHeartbeats 4000000

theorem sa_two (b o : Nat) : sliceArrS 2 1 (.pointer (some ⟨b, o, none⟩)) none none none = some (.slice (some ⟨b, o, none⟩) 2 2) := (rfl)
attribute [go_sem ↓] sa_two
/-- the order of numbers -/
def cmpI (x y : Int) : Int := if x < y then -1 else if y < x then 1 else 0
/-- the order of lists -/
def lexC : List Int → List Int → Int
  | [], [] => 0
  | [], _ :: _ => -1
  | _ :: _, [] => 1
  | x :: xs, y :: ys => if cmpI x y = 0 then lexC xs ys else cmpI x y
theorem cmpI_0 {x y : Int} : cmpI x y = 0 ↔ x = y := by
  unfold cmpI; split
  · omega
  · split <;> omega
theorem cmpI_lt {x y : Int} : cmpI x y < 0 ↔ x < y := by
  unfold cmpI; split
  · omega
  · split <;> omega
theorem lexC_lt : ∀ (x y : Int) (xs ys : List Int), lexC (x :: xs) (y :: ys) < 0 ↔ x < y ∨ (x = y ∧ lexC xs ys < 0) := by
  intro x y xs ys
  show (if cmpI x y = 0 then lexC xs ys else cmpI x y) < 0 ↔ _
  by_cases e : x = y
  · rw [if_pos (cmpI_0.2 e)]
    constructor
    · intro h; exact .inr ⟨e, h⟩
    · rintro (h | h)
      · omega
      · exact h.2
  · rw [if_neg (fun h => e (cmpI_0.1 h)), cmpI_lt]
    constructor
    · intro h; exact .inl h
    · rintro (h | h)
      · exact h
      · exact (e h.1).elim
theorem lexC_irr : ∀ l, ¬ lexC l l < 0
  | [] => by show ¬ (0 : Int) < 0; omega
  | x :: xs => by
    rw [lexC_lt]
    rintro (h | h)
    · omega
    · exact lexC_irr xs h.2
theorem lexC_asym : ∀ a b, lexC a b < 0 → ¬ lexC b a < 0
  | [], [], h => by
    have : (0 : Int) < 0 := h
    omega
  | [], y :: ys, _ => by show ¬ (1 : Int) < 0; omega
  | x :: xs, [], h => by
    have : (1 : Int) < 0 := h
    omega
  | x :: xs, y :: ys, h => by
    rw [lexC_lt] at h ⊢
    rintro (k | k)
    · rcases h with h | h <;> omega
    · rcases h with h | h
      · omega
      · exact lexC_asym xs ys h.2 k.2
theorem lexC_ntr : ∀ a b c, ¬ lexC a b < 0 → ¬ lexC b c < 0 → ¬ lexC a c < 0
  | [], [], c, _, h2 => h2
  | [], y :: ys, c, h1, _ => (h1 (by show (-1 : Int) < 0; omega)).elim
  | x :: xs, b, [], _, _ => by show ¬ (1 : Int) < 0; omega
  | x :: xs, [], z :: zs, _, h2 => (h2 (by show (-1 : Int) < 0; omega)).elim
  | x :: xs, y :: ys, z :: zs, h1, h2 => by
    rw [lexC_lt] at h1 h2 ⊢
    rintro (k | k)
    · by_cases e1 : x < y
      · exact h1 (.inl e1)
      · by_cases e2 : y < z
        · exact h2 (.inl e2)
        · omega
    · by_cases e1 : x < y
      · exact h1 (.inl e1)
      · by_cases e2 : y < z
        · exact h2 (.inl e2)
        · have e3 : x = y := by omega
          have e4 : y = z := by omega
          exact lexC_ntr xs ys zs (fun h => h1 (.inr ⟨e3, h⟩)) (fun h => h2 (.inr ⟨e4, h⟩)) k.2
theorem lexC_anti : ∀ a b : List Int, a.length = b.length → ¬ lexC a b < 0 → ¬ lexC b a < 0 → a = b
  | [], [], _, _, _ => rfl
  | [], y :: ys, h, _, _ => by simp at h
  | x :: xs, [], h, _, _ => by simp at h
  | x :: xs, y :: ys, h, h1, h2 => by
    rw [lexC_lt] at h1 h2
    have e : x = y := by
      by_cases k1 : x < y
      · exact (h1 (.inl k1)).elim
      · by_cases k2 : y < x
        · exact (h2 (.inl k2)).elim
        · omega
    subst e
    rw [lexC_anti xs ys (by simpa using h) (fun k => h1 (.inr ⟨rfl, k⟩)) (fun k => h2 (.inr ⟨rfl, k⟩))]

theorem nan100 (x : Int) (h : SHeap) : M.call 100 [.int .i64 x] h = some (.bool false, h, []) := by
  refine call_run sf100 rfl rfl rfl ?_
  unfold sf100
  repeat (first | apply run_seq | apply run_block | apply end_seq | apply end_blk_hit | apply end_blk_miss rfl | apply end_blk | apply end_seq_exit | apply end_seq_ret | apply end_blk_ret | apply run_skip | apply run_ret | apply run_exit | (apply run_region (by decide); (simp (maxSteps := 9999999) only [go_sem, argR]; rfl)) | (apply run_regionN (by decide); (simp (maxSteps := 9999999) only [go_sem, argR]; rfl)) | (refine run_cond_t ?_ ?_; · simp only [go_sem]) | (refine run_cond_f ?_ ?_; · simp only [go_sem]))
  exact end_nil (q_ret1 _ (by simp (maxSteps := 9999999) only [go_sem]) rfl (take_self _))
theorem cmp83 (x y : Int) (h : SHeap) : M.call 83 [.int .i64 x, .int .i64 y] h = some (.int .i64 (cmpI x y), h, []) := by
  refine call_run sf83 rfl rfl rfl ?_
  unfold sf83
  unfold cmpI
  by_cases e1 : x < y
  · rw [if_pos e1]
    repeat (first | apply run_seq | apply run_block | apply end_seq | apply end_blk_hit | apply end_blk_miss rfl | apply end_blk | apply end_seq_exit | apply end_seq_ret | apply end_blk_ret | apply run_skip | apply run_ret | apply run_exit | (apply run_region (by decide); (simp (maxSteps := 9999999) only [go_sem, argR, nan100, e1]; rfl)) | (apply run_regionN (by decide); (simp (maxSteps := 9999999) only [go_sem, argR, nan100, e1]; rfl)) | (refine run_cond_t ?_ ?_; · simp only [go_sem]) | (refine run_cond_f ?_ ?_; · simp only [go_sem]))
    exact end_nil (q_ret1 _ (by simp (maxSteps := 9999999) only [go_sem]) rfl (take_self _))
  · rw [if_neg e1]
    by_cases e2 : y < x
    · rw [if_pos e2]
      repeat (first | apply run_seq | apply run_block | apply end_seq | apply end_blk_hit | apply end_blk_miss rfl | apply end_blk | apply end_seq_exit | apply end_seq_ret | apply end_blk_ret | apply run_skip | apply run_ret | apply run_exit | (apply run_region (by decide); (simp (maxSteps := 9999999) only [go_sem, argR, nan100, e1, e2]; rfl)) | (apply run_regionN (by decide); (simp (maxSteps := 9999999) only [go_sem, argR, nan100, e1, e2]; rfl)) | (refine run_cond_t ?_ ?_; · simp only [go_sem]) | (refine run_cond_f ?_ ?_; · simp only [go_sem]))
      exact end_nil (q_ret1 _ (by simp (maxSteps := 9999999) only [go_sem]) rfl (take_self _))
    · rw [if_neg e2]
      repeat (first | apply run_seq | apply run_block | apply end_seq | apply end_blk_hit | apply end_blk_miss rfl | apply end_blk | apply end_seq_exit | apply end_seq_ret | apply end_blk_ret | apply run_skip | apply run_ret | apply run_exit | (apply run_region (by decide); (simp (maxSteps := 9999999) only [go_sem, argR, nan100, e1, e2]; rfl)) | (apply run_regionN (by decide); (simp (maxSteps := 9999999) only [go_sem, argR, nan100, e1, e2]; rfl)) | (refine run_cond_t ?_ ?_; · simp only [go_sem]) | (refine run_cond_f ?_ ?_; · simp only [go_sem]))
      exact end_nil (q_ret1 _ (by simp (maxSteps := 9999999) only [go_sem]) rfl (take_self _))

/-- these integers lie there -/
def IL (h : SHeap) (b o : Nat) (l : List Int) : Prop := ∀ (i : Nat) (hi : i < l.length), loadS h none (.pointer (some ⟨b, o + i, none⟩)) = some (.int .i64 l[i])
theorem lex_loop (cx : Cx) {h : SHeap} {ba oa bb ob ca cb : Nat} {a b : List Int} (ha : IL h ba oa a) (hb : IL h bb ob b) (hl : a.length ≤ 1000000) (hl2 : b.length ≤ 1000000) : ∀ k ρ ms h' d', (∃ i : Nat, i + k = a.length ∧ lexC a b = lexC (a.drop i) (b.drop i) ∧ ρ 0 = .slice (some ⟨ba, oa, none⟩) a.length ca ∧ ρ 1 = .slice (some ⟨bb, ob, none⟩) b.length cb ∧ ρ 9 = .slice (some ⟨ba, oa, none⟩) a.length ca ∧ ρ 10 = .int .i64 a.length ∧ ρ 11 = .int .i64 i ∧ ms = [] ∧ h' = h ∧ d' = []) →
    LoopW M cx 6 sf63L0 ρ ms h' d' (fun ex ρ' ms' h' d' => ms' = [] ∧ h' = h ∧ d' = [] ∧ ((ex = .exit 0 ∧ lexC a b = (if a.length < b.length then -1 else 0) ∧ ρ' 0 = .slice (some ⟨ba, oa, none⟩) a.length ca ∧ ρ' 1 = .slice (some ⟨bb, ob, none⟩) b.length cb) ∨ (ex = .ret ∧ ρ' 4 = .int .i64 (lexC a b)))) := by
  refine loop_run _ ?_
  rintro k ρ ms h' d' ⟨i, hi, he, r0, r1, r9, r10, r11, rfl, rfl, rfl⟩
  unfold sf63L0
  by_cases hk : k = 0
  · have e1 : ¬ ((i : Int) < a.length) := by omega
    repeat (first | apply run_seq | apply run_block | apply end_seq | apply end_blk_hit | apply end_blk_miss rfl | apply end_blk | apply end_seq_exit | apply end_seq_ret | apply end_blk_ret | apply run_skip | apply run_ret | apply run_exit | (apply run_region (by decide); (simp (maxSteps := 9999999) only [go_sem, r9, r10, r11, e1]; rfl)) | (apply run_regionN (by decide); (simp (maxSteps := 9999999) only [go_sem, r9, r10, r11, e1]; rfl)) | (refine run_cond_t ?_ ?_; · simp only [go_sem]) | (refine run_cond_f ?_ ?_; · simp only [go_sem]))
    refine end_nil ⟨rfl, rfl, rfl, .inl ⟨rfl, ?_, by simp (maxSteps := 9999999) only [go_sem, r0], by simp (maxSteps := 9999999) only [go_sem, r1]⟩⟩
    rw [he, List.drop_eq_nil_of_le (by omega)]
    by_cases c : a.length < b.length
    · rw [if_pos c]
      obtain ⟨y, ys, e⟩ : ∃ y ys, b.drop i = y :: ys := by
        cases e : b.drop i with
        | nil => have := congrArg List.length e; simp at this; omega
        | cons y ys => exact ⟨y, ys, rfl⟩
      rw [e]; rfl
    · rw [if_neg c, List.drop_eq_nil_of_le (by omega)]; rfl
  · have e1 : ((i : Int) < a.length) := by omega
    have hia : i < a.length := by omega
    have p1 : (0 : Int) ≤ (i : Int) := by omega
    have l1 := ha i hia
    have da : a.drop i = a[i] :: a.drop (i + 1) := by simp
    by_cases c : i < b.length
    · have e2 : ¬ ((b.length : Int) ≤ i) := by omega
      have p2 : (i : Int) < b.length := by omega
      have l2 := hb i c
      have db : b.drop i = b[i] :: b.drop (i + 1) := by simp
      have ew : IntKind.i64.wrap ((i : Int) + 1) = ((i + 1 : Nat) : Int) := by rw [wrap64 (by omega) (by omega)]; rfl
      rw [da, db] at he
      generalize a[i] = x at *
      generalize b[i] = y at *
      have he' : lexC a b = (if cmpI x y = 0 then lexC (a.drop (i + 1)) (b.drop (i + 1)) else cmpI x y) := he
      by_cases z : cmpI x y = 0
      · rw [if_pos z] at he'
        repeat (first | apply run_seq | apply run_block | apply end_seq | apply end_blk_hit | apply end_blk_miss rfl | apply end_blk | apply end_seq_exit | apply end_seq_ret | apply end_blk_ret | apply run_skip | apply run_ret | apply run_exit | (apply run_region (by decide); (simp (maxSteps := 9999999) only [go_sem, r0, r1, r9, r10, r11, e1, p1, l1, e2, p2, l2, cmp83, z, ew]; rfl)) | (apply run_regionN (by decide); (simp (maxSteps := 9999999) only [go_sem, r0, r1, r9, r10, r11, e1, p1, l1, e2, p2, l2, cmp83, z, ew]; rfl)) | (refine run_cond_t ?_ ?_; · simp only [go_sem]) | (refine run_cond_f ?_ ?_; · simp only [go_sem]))
        exact end_nil ⟨k - 1, by omega, i + 1, by omega, he', by simp (maxSteps := 9999999) only [go_sem, r0], by simp (maxSteps := 9999999) only [go_sem, r1], by simp (maxSteps := 9999999) only [go_sem, r9], by simp (maxSteps := 9999999) only [go_sem, r10], by simp (maxSteps := 9999999) only [go_sem, ew], rfl, rfl, rfl⟩
      · rw [if_neg z] at he'
        repeat (first | apply run_seq | apply run_block | apply end_seq | apply end_blk_hit | apply end_blk_miss rfl | apply end_blk | apply end_seq_exit | apply end_seq_ret | apply end_blk_ret | apply run_skip | apply run_ret | apply run_exit | (apply run_region (by decide); (simp (maxSteps := 9999999) only [go_sem, r0, r1, r9, r10, r11, e1, p1, l1, e2, p2, l2, cmp83, z]; rfl)) | (apply run_regionN (by decide); (simp (maxSteps := 9999999) only [go_sem, r0, r1, r9, r10, r11, e1, p1, l1, e2, p2, l2, cmp83, z]; rfl)) | (refine run_cond_t ?_ ?_; · simp only [go_sem]) | (refine run_cond_f ?_ ?_; · simp only [go_sem]))
        exact end_nil ⟨rfl, rfl, rfl, .inr ⟨rfl, by rw [he']; simp (maxSteps := 9999999) only [go_sem]⟩⟩
    · have e2 : ((b.length : Int) ≤ i) := by omega
      repeat (first | apply run_seq | apply run_block | apply end_seq | apply end_blk_hit | apply end_blk_miss rfl | apply end_blk | apply end_seq_exit | apply end_seq_ret | apply end_blk_ret | apply run_skip | apply run_ret | apply run_exit | (apply run_region (by decide); (simp (maxSteps := 9999999) only [go_sem, r0, r1, r9, r10, r11, e1, p1, l1, e2]; rfl)) | (apply run_regionN (by decide); (simp (maxSteps := 9999999) only [go_sem, r0, r1, r9, r10, r11, e1, p1, l1, e2]; rfl)) | (refine run_cond_t ?_ ?_; · simp only [go_sem]) | (refine run_cond_f ?_ ?_; · simp only [go_sem]))
      refine end_nil ⟨rfl, rfl, rfl, .inr ⟨rfl, ?_⟩⟩
      rw [he, da, List.drop_eq_nil_of_le (show b.length ≤ i by omega)]
      simp (maxSteps := 9999999) only [go_sem]
      rfl
/-- slices.Compare -/
theorem lex63 {h : SHeap} {ba oa bb ob ca cb : Nat} {a b : List Int} (ha : IL h ba oa a) (hb : IL h bb ob b) (hl : a.length ≤ 1000000) (hl2 : b.length ≤ 1000000) {na nb : Nat} (hna : na = a.length) (hnb : nb = b.length) : M.call 63 [.slice (some ⟨ba, oa, none⟩) na ca, .slice (some ⟨bb, ob, none⟩) nb cb] h = some (.int .i64 (lexC a b), h, []) := by
  subst hna hnb
  refine call_run sf63 rfl rfl rfl ?_
  unfold sf63
  repeat (first | apply run_seq | apply run_block | apply end_seq | apply end_blk_hit | apply end_blk_miss rfl | apply end_blk | apply end_seq_exit | apply end_seq_ret | apply end_blk_ret | apply run_skip | apply run_ret | apply run_exit | (apply run_region (by decide); (simp (maxSteps := 9999999) only [go_sem, argR]; rfl)) | (apply run_regionN (by decide); (simp (maxSteps := 9999999) only [go_sem, argR]; rfl)) | (refine run_cond_t ?_ ?_; · simp only [go_sem]) | (refine run_cond_f ?_ ?_; · simp only [go_sem]))
  refine run_loop (lex_loop (ca := ca) (cb := cb) _ ha hb hl hl2 a.length _ _ _ _ ⟨0, by omega, by simp, by simp (maxSteps := 9999999) only [go_sem, argR], by simp (maxSteps := 9999999) only [go_sem, argR], by simp (maxSteps := 9999999) only [go_sem, argR], by simp (maxSteps := 9999999) only [go_sem, argR], by (simp (maxSteps := 9999999) only [go_sem]) <;> rfl, rfl, rfl, rfl⟩) ?_
  rintro ex ρ' ms' h1 d1 ⟨rfl, rfl, rfl, ⟨rfl, he, k0, k1⟩ | ⟨rfl, k4⟩⟩
  · by_cases c : a.length < b.length
    · have e1 : (a.length : Int) < b.length := by omega
      rw [if_pos c] at he
      rw [he]
      repeat (first | apply run_seq | apply run_block | apply end_seq | apply end_blk_hit | apply end_blk_miss rfl | apply end_blk | apply end_seq_exit | apply end_seq_ret | apply end_blk_ret | apply run_skip | apply run_ret | apply run_exit | (apply run_region (by decide); (simp (maxSteps := 9999999) only [go_sem, k0, k1, e1]; rfl)) | (apply run_regionN (by decide); (simp (maxSteps := 9999999) only [go_sem, k0, k1, e1]; rfl)) | (refine run_cond_t ?_ ?_; · simp only [go_sem]) | (refine run_cond_f ?_ ?_; · simp only [go_sem]))
      exact end_nil (q_ret1 _ (by simp (maxSteps := 9999999) only [go_sem]) rfl (take_self _))
    · have e1 : ¬ (a.length : Int) < b.length := by omega
      rw [if_neg c] at he
      rw [he]
      repeat (first | apply run_seq | apply run_block | apply end_seq | apply end_blk_hit | apply end_blk_miss rfl | apply end_blk | apply end_seq_exit | apply end_seq_ret | apply end_blk_ret | apply run_skip | apply run_ret | apply run_exit | (apply run_region (by decide); (simp (maxSteps := 9999999) only [go_sem, k0, k1, e1]; rfl)) | (apply run_regionN (by decide); (simp (maxSteps := 9999999) only [go_sem, k0, k1, e1]; rfl)) | (refine run_cond_t ?_ ?_; · simp only [go_sem]) | (refine run_cond_f ?_ ?_; · simp only [go_sem]))
      exact end_nil (q_ret1 _ (by simp (maxSteps := 9999999) only [go_sem]) rfl (take_self _))
  · repeat (first | apply run_seq | apply run_block | apply end_seq | apply end_blk_hit | apply end_blk_miss rfl | apply end_blk | apply end_seq_exit | apply end_seq_ret | apply end_blk_ret | apply run_skip | apply run_ret | apply run_exit | (apply run_region (by decide); (simp (maxSteps := 9999999) only [go_sem]; rfl)) | (apply run_regionN (by decide); (simp (maxSteps := 9999999) only [go_sem]; rfl)) | (refine run_cond_t ?_ ?_; · simp only [go_sem]) | (refine run_cond_f ?_ ?_; · simp only [go_sem]))
    exact end_nil (q_ret1 _ (by simp (maxSteps := 9999999) only [go_sem, k4]) rfl (take_self _))
/-- the closure of Rests: pairs in the order of lists -/
def cP (p q : Int × Int) : Int := lexC [p.1, p.2] [q.1, q.2]
def celP (p : Int × Int) : List Value := [.int .i64 p.1, .int .i64 p.2]
theorem cmp62 (p q : Int × Int) (h : SHeap) : M.call 62 [.agg (celP p).toArray, .agg (celP q).toArray] h = some (.int .i64 (cP p q), h, []) := by
  have c63 := lex63 (h := h ++ [bx p, bx q]) (ba := h.length) (oa := 0) (bb := h.length + 1) (ob := 0) (ca := 2) (cb := 2) (a := [p.1, p.2]) (b := [q.1, q.2])
    (fun i hi => by
      match i, hi with
      | 0, _ => rw [load_app0]; rfl
      | 1, _ => rw [load_app0]; rfl)
    (fun i hi => by
      match i, hi with
      | 0, _ => rw [load_app]; rfl
      | 1, _ => rw [load_app]; rfl) (by simp) (by simp) (na := 2) (nb := 2) rfl rfl
  show M.call 62 [agV p, agV q] h = _
  refine call_run sf62 rfl rfl rfl ?_
  unfold sf62
  repeat (first | apply run_seq | apply run_block | apply end_seq | apply end_blk_hit | apply end_blk_miss rfl | apply end_blk | apply end_seq_exit | apply end_seq_ret | apply end_blk_ret | apply run_skip | apply run_ret | apply run_exit | (apply run_region (by decide); (simp (maxSteps := 9999999) only [go_sem, argR, c63]; rfl)) | (apply run_regionN (by decide); (simp (maxSteps := 9999999) only [go_sem, argR, c63]; rfl)) | (refine run_cond_t ?_ ?_; · simp only [go_sem]) | (refine run_cond_f ?_ ?_; · simp only [go_sem]))
  exact end_nil (q_ret1 _ (by simp (maxSteps := 9999999) only [go_sem]; rfl) rfl (take_app _ _))
theorem CP : Cmp M 62 celP cP := ⟨cmp62, fun x => lexC_irr _, fun x y => lexC_asym _ _, fun x y z => lexC_ntr _ _ _⟩
theorem cP_anti {p q : Int × Int} (h1 : ¬ cP p q < 0) (h2 : ¬ cP q p < 0) : p = q := by
  have := lexC_anti [p.1, p.2] [q.1, q.2] rfl h1 h2
  simp at this
  exact Prod.ext this.1 this.2
end Go.Proofs.YtdmfhdnpakgkpaaDoor.Sh


/- Comparison of factors. -/
namespace Go.Proofs.YtdmfhdnpakgkpaaDoor.Sh
open Go
set_option maxRecDepth 100000
set_option maxHeartbeats 4000000

end Go.Proofs.YtdmfhdnpakgkpaaDoor.Sh


/- Primes of the document, and the plain lists of primes. -/
namespace Go.Proofs.YtdmfhdnpakgkpaaDoor.Sh
open Go
set_option maxRecDepth 100000
set_option maxHeartbeats 4000000

end Go.Proofs.YtdmfhdnpakgkpaaDoor.Sh


/- The plain lists of primes: sorted, they are the same. -/
namespace Go.Proofs.YtdmfhdnpakgkpaaDoor.Sh
open Go
set_option maxRecDepth 100000
set_option maxHeartbeats 4000000

/-! ### lists by loops -/
theorem pw_range {E : Type} {R : E → E → Prop} (F : Nat → List E) (n : Nat) (h1 : ∀ i, i < n → (F i).Pairwise R) (h2 : ∀ i j, i < j → j < n → ∀ x ∈ F i, ∀ y ∈ F j, R x y) : ((List.range n).flatMap F).Pairwise R := by
  rw [List.pairwise_flatMap]
  refine ⟨fun i hi => h1 i (List.mem_range.1 hi), ?_⟩
  have := @List.pairwise_lt_range n
  refine List.Pairwise.imp_of_mem ?_ this
  intro i j hi hj hij
  exact h2 i j hij (List.mem_range.1 hj)
theorem fm_succ {E : Type} (F : Nat → List E) (n : Nat) : (List.range (n + 1)).flatMap F = (List.range n).flatMap F ++ F n := by
  rw [List.range_succ, List.flatMap_append]; simp
theorem fm_len {E : Type} (F : Nat → List E) (k : Nat) (h : ∀ i, (F i).length ≤ k) : ∀ n, ((List.range n).flatMap F).length ≤ n * k
  | 0 => by simp
  | n + 1 => by
    rw [fm_succ, List.length_append, Nat.succ_mul]
    have := fm_len F k h n
    have := h n
    omega
/-- an array as a list -/
theorem flF_list {E : Type} (cel : E → List Value) (f : Nat → E) : ∀ n, flF cel f n = ((List.range n).map f).flatMap cel
  | 0 => rfl
  | n + 1 => by
    rw [List.range_succ, List.map_append, List.flatMap_append]
    show flF cel f n ++ cel (f n) = _
    rw [flF_list cel f n]; simp
theorem getD_range {E : Type} (l : List E) (d : E) : (List.range l.length).map (fun i => l.getD i d) = l := by
  apply List.ext_getElem
  · simp
  · intro i h1 h2
    simp at h1
    simp [h1]
/-- what swaps leave in order is the list itself -/
theorem sorted_eq {E : Type} {c : E → E → Int} (anti : ∀ x y, ¬ c x y < 0 → ¬ c y x < 0 → x = y) {n : Nat} {f f' : Nat → E} (W : Sw 0 n f f') (O : Ord c 0 n f') {l l' : List E} (hl : (List.range n).map f = l) (hp : l.Perm l') (hs : l'.Pairwise (fun x y => ¬ c y x < 0)) : (List.range n).map f' = l' := by
  subst hl
  refine List.Perm.eq_of_pairwise (le := fun x y => ¬ c y x < 0) (fun a b _ _ h1 h2 => anti a b h2 h1) ?_ hs ((W.perm (Nat.le_refl n)).trans hp)
  rw [List.pairwise_map]
  refine List.Pairwise.imp_of_mem ?_ (@List.pairwise_lt_range n)
  intro i j hi hj hij
  exact O i j (Nat.zero_le _) hij (List.mem_range.1 hj)

/-! ### primes -/
end Go.Proofs.YtdmfhdnpakgkpaaDoor.Sh


