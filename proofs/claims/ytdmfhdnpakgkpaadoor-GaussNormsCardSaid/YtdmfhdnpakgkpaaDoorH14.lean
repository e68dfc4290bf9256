/- Sorting: insertion. -/
import Derived.Test.YtdmfhdnpakgkpaaDoorShSo
import Derived.Test.YtdmfhdnpakgkpaaDoorGb
import Derived.Test.YtdmfhdnpakgkpaaDoorH12
set_option linter.all false
/- Sorting: insertion. -/
namespace Go.Proofs.YtdmfhdnpakgkpaaDoor.Sh
open Go
set_option maxRecDepth 100000
set_option maxHeartbeats 4000000

section
variable {E : Type} {cel : E → List Value} {c : E → E → Int} {g : FuncId} {n B cap : Nat} {el : TypeId} {h0 : SHeap} {old0 : List Nat}
/-- element j is being brought to its place -/
def InsI (c : E → E → Int) (a i j : Nat) (f : Nat → E) : Prop := (∀ p q, a ≤ p → p < q → q ≤ i → p ≠ j → q ≠ j → ¬ c (f q) (f p) < 0) ∧ ∀ q, j < q → q ≤ i → c (f j) (f q) < 0
theorem InsI.start {a i : Nat} {f : Nat → E} (h : Ord c a i f) : InsI c a i i f := ⟨fun p q h1 h2 h3 h4 h5 => h p q h1 h2 (by omega), fun q h1 h2 => by omega⟩
theorem InsI.stop (C : Cmp M g cel c) {a i j : Nat} {f : Nat → E} (h : InsI c a i j f) (h2 : j ≤ a ∨ ¬ c (f j) (f (j - 1)) < 0) : Ord c a (i + 1) f := by
  intro p q h3 h4 h5
  by_cases e1 : p = j
  · subst e1; exact C.asym _ _ (h.2 q h4 (by omega))
  · by_cases e2 : q = j
    · subst e2
      rcases h2 with h2 | h2
      · omega
      · by_cases e3 : p = q - 1
        · subst e3; exact h2
        · exact C.ntr _ _ _ h2 (h.1 p (q - 1) h3 (by omega) (by omega) e1 (by omega))
    · exact h.1 p q h3 h4 (by omega) e1 e2
theorem InsI.step {a i j : Nat} {f : Nat → E} (h : InsI c a i j f) (hj : a < j) (hji : j ≤ i) (h2 : c (f j) (f (j - 1)) < 0) : InsI c a i (j - 1) (swp f j (j - 1)) := by
  constructor
  · intro p q h3 h4 h5 h6 h7
    by_cases e1 : p = j
    · subst e1
      rw [swp_l, swp_o f (by omega) (by omega)]
      exact h.1 (p - 1) q (by omega) (by omega) h5 (by omega) (by omega)
    · by_cases e2 : q = j
      · subst e2
        rw [swp_l, swp_o f (by omega) (by omega)]
        exact h.1 p (q - 1) h3 (by omega) (by omega) (by omega) (by omega)
      · rw [swp_o f e1 h6, swp_o f e2 h7]
        exact h.1 p q h3 h4 h5 e1 e2
  · intro q h3 h4
    rw [swp_r]
    by_cases e : q = j
    · subst e; rw [swp_l]; exact h2
    · rw [swp_o f e (by omega)]; exact h.2 q (by omega) h4

theorem ins_loopP (C : Cmp M g cel c) (hl : ∀ x, (cel x).length = 2) (hc : ∀ x, (cel x).all sc = true) (hn : n ≤ 1000000) {a b i : Nat} (hb : b ≤ n) (hi : i < b) (cx : Cx) (f0 : Nat → E) : ∀ k ρ ms h' d', (∃ (j : Nat) (f : Nat → E), j = k ∧ a ≤ j ∧ j ≤ i ∧ SA cel n B el h0 old0 h' f ∧ Sw a (i + 1) f0 f ∧ InsI c a i j f ∧ ρ 0 = .slice (some ⟨B, 0, none⟩) n cap ∧ ρ 1 = .int .i64 a ∧ ρ 2 = .int .i64 b ∧ ρ 3 = .func (.func g) #[] #[] ∧ ρ 8 = .int .i64 i ∧ ρ 9 = .int .i64 j ∧ ms = [] ∧ d' = []) →
    LoopW M cx 6 sf90L0 ρ ms h' d' (fun ex ρ' ms' h' d' => ex = .exit 2 ∧ ms' = [] ∧ d' = [] ∧ ∃ f : Nat → E, SA cel n B el h0 old0 h' f ∧ Sw a (i + 1) f0 f ∧ Ord c a (i + 1) f ∧ ρ' 0 = .slice (some ⟨B, 0, none⟩) n cap ∧ ρ' 1 = .int .i64 a ∧ ρ' 2 = .int .i64 b ∧ ρ' 3 = .func (.func g) #[] #[] ∧ ρ' 8 = .int .i64 i) := by
  refine loop_run _ ?_
  rintro k ρ ms h' d' ⟨j, f, rfl, ha, hji, S, W, I, r0, r1, r2, r3, r8, r9, rfl, rfl⟩
  unfold sf90L0
  by_cases hk : j = a
  · have e1 : ¬ ((a : Int) < j) := by omega
    repeat (first | apply run_seq | apply run_block | apply end_seq | apply end_blk_hit | apply end_blk_miss rfl | apply end_blk | apply end_seq_exit | apply end_seq_ret | apply end_blk_ret | apply run_skip | apply run_ret | apply run_exit | (apply run_region (by decide); (simp (maxSteps := 9999999) only [go_sem, r0, r1, r2, r3, r8, r9, e1]; rfl)) | (apply run_regionN (by decide); (simp (maxSteps := 9999999) only [go_sem, r0, r1, r2, r3, r8, r9, e1]; rfl)) | (refine run_cond_t ?_ ?_; · simp only [go_sem]) | (refine run_cond_f ?_ ?_; · simp only [go_sem]))
    refine end_nil ⟨rfl, rfl, rfl, f, S, W, I.stop C (.inl (by omega)), ?_, ?_, ?_, ?_, ?_⟩
    · simp (maxSteps := 9999999) only [go_sem, r0]
    · simp (maxSteps := 9999999) only [go_sem, r1]
    · simp (maxSteps := 9999999) only [go_sem, r2]
    · simp (maxSteps := 9999999) only [go_sem, r3]
    · simp (maxSteps := 9999999) only [go_sem, r8]
  · have e1 : ((a : Int) < j) := by omega
    have e2 : (0 : Int) ≤ j := by omega
    have e3 : (j : Int) < n := by omega
    have e4 : (0 : Int) ≤ ((j - 1 : Nat) : Int) := by omega
    have e5 : ((j - 1 : Nat) : Int) < n := by omega
    have ew : IntKind.i64.wrap ((j : Int) - 1) = ((j - 1 : Nat) : Int) := by rw [wrap64 (by omega) (by omega)]; omega
    have l1 := S.load hl (show j < n by omega)
    have l2 := S.load hl (show j - 1 < n by omega)
    have cc := fun h => C.call (f j) (f (j - 1)) h
    by_cases hlt : c (f j) (f (j - 1)) < 0
    · obtain ⟨h1, h2, st1, st2, S2⟩ := S.swap hl hc (by decide) (show j < n by omega) (show j - 1 < n by omega)
      repeat (first | apply run_seq | apply run_block | apply end_seq | apply end_blk_hit | apply end_blk_miss rfl | apply end_blk | apply end_seq_exit | apply end_seq_ret | apply end_blk_ret | apply run_skip | apply run_ret | apply run_exit | (apply run_region (by decide); (simp (maxSteps := 9999999) only [go_sem, r0, r1, r2, r3, r8, r9, e1, e2, e3, e4, e5, ew, l1, l2, cc, hlt, hl, ↓st1, ↓st2]; rfl)) | (apply run_regionN (by decide); (simp (maxSteps := 9999999) only [go_sem, r0, r1, r2, r3, r8, r9, e1, e2, e3, e4, e5, ew, l1, l2, cc, hlt, hl, ↓st1, ↓st2]; rfl)) | (refine run_cond_t ?_ ?_; · simp only [go_sem]) | (refine run_cond_f ?_ ?_; · simp only [go_sem]))
      refine end_nil ⟨j - 1, by omega, j - 1, _, rfl, by omega, by omega, S2, W.step ha (by omega) (by omega) (by omega), I.step (by omega) hji hlt, ?_, ?_, ?_, ?_, ?_, ?_, rfl, rfl⟩
      · simp (maxSteps := 9999999) only [go_sem, r0]
      · simp (maxSteps := 9999999) only [go_sem, r1]
      · simp (maxSteps := 9999999) only [go_sem, r2]
      · simp (maxSteps := 9999999) only [go_sem, r3]
      · simp (maxSteps := 9999999) only [go_sem, r8]
      · simp (maxSteps := 9999999) only [go_sem, ew]
    · repeat (first | apply run_seq | apply run_block | apply end_seq | apply end_blk_hit | apply end_blk_miss rfl | apply end_blk | apply end_seq_exit | apply end_seq_ret | apply end_blk_ret | apply run_skip | apply run_ret | apply run_exit | (apply run_region (by decide); (simp (maxSteps := 9999999) only [go_sem, r0, r1, r2, r3, r8, r9, e1, e2, e3, e4, e5, ew, l1, l2, cc, hlt, hl]; rfl)) | (apply run_regionN (by decide); (simp (maxSteps := 9999999) only [go_sem, r0, r1, r2, r3, r8, r9, e1, e2, e3, e4, e5, ew, l1, l2, cc, hlt, hl]; rfl)) | (refine run_cond_t ?_ ?_; · simp only [go_sem]) | (refine run_cond_f ?_ ?_; · simp only [go_sem]))
      refine end_nil ⟨rfl, rfl, rfl, f, S, W, I.stop C (.inr hlt), ?_, ?_, ?_, ?_, ?_⟩
      · simp (maxSteps := 9999999) only [go_sem, r0]
      · simp (maxSteps := 9999999) only [go_sem, r1]
      · simp (maxSteps := 9999999) only [go_sem, r2]
      · simp (maxSteps := 9999999) only [go_sem, r3]
      · simp (maxSteps := 9999999) only [go_sem, r8]
theorem insO_loopP (C : Cmp M g cel c) (hl : ∀ x, (cel x).length = 2) (hc : ∀ x, (cel x).all sc = true) (hn : n ≤ 1000000) {a b : Nat} (hb : b ≤ n) (cx : Cx) (f0 : Nat → E) : ∀ k ρ ms h' d', (∃ (i : Nat) (f : Nat → E), b - i = k ∧ a < i ∧ SA cel n B el h0 old0 h' f ∧ Sw a b f0 f ∧ Ord c a (min i b) f ∧ ρ 0 = .slice (some ⟨B, 0, none⟩) n cap ∧ ρ 1 = .int .i64 a ∧ ρ 2 = .int .i64 b ∧ ρ 3 = .func (.func g) #[] #[] ∧ ρ 8 = .int .i64 i ∧ ms = [] ∧ d' = []) →
    LoopW M cx 6 sf90L1 ρ ms h' d' (fun ex ρ' ms' h' d' => ex = .exit 0 ∧ ms' = [] ∧ d' = [] ∧ ∃ f : Nat → E, SA cel n B el h0 old0 h' f ∧ Sw a b f0 f ∧ Ord c a b f) := by
  refine loop_run _ ?_
  rintro k ρ ms h' d' ⟨i, f, hk, ha, S, W, O, r0, r1, r2, r3, r8, rfl, rfl⟩
  unfold sf90L1
  by_cases hib : i < b
  · have e1 : (i : Int) < b := by omega
    have ew : IntKind.i64.wrap ((i : Int) + 1) = ((i + 1 : Nat) : Int) := by rw [wrap64 (by omega) (by omega)]; rfl
    rw [Nat.min_eq_left (by omega)] at O
    repeat (first | apply run_seq | apply run_block | apply end_seq | apply end_blk_hit | apply end_blk_miss rfl | apply end_blk | apply end_seq_exit | apply end_seq_ret | apply end_blk_ret | apply run_skip | apply run_ret | apply run_exit | (apply run_region (by decide); (simp (maxSteps := 9999999) only [go_sem, r0, r1, r2, r3, r8, e1]; rfl)) | (apply run_regionN (by decide); (simp (maxSteps := 9999999) only [go_sem, r0, r1, r2, r3, r8, e1]; rfl)) | (refine run_cond_t ?_ ?_; · simp only [go_sem]) | (refine run_cond_f ?_ ?_; · simp only [go_sem]))
    refine run_loop (ins_loopP (cap := cap) C hl hc hn hb hib cx f i _ _ _ _ ⟨i, f, rfl, by omega, by omega, S, .refl, InsI.start O, ?_, ?_, ?_, ?_, ?_, ?_, rfl, rfl⟩) ?_
    · simp (maxSteps := 9999999) only [go_sem, r0]
    · simp (maxSteps := 9999999) only [go_sem, r1]
    · simp (maxSteps := 9999999) only [go_sem, r2]
    · simp (maxSteps := 9999999) only [go_sem, r3]
    · simp (maxSteps := 9999999) only [go_sem, r8]
    · simp (maxSteps := 9999999) only [go_sem]
    rintro ex ρ' ms' h1 d1 ⟨rfl, rfl, rfl, f2, S2, W2, O2, k0, k1, k2, k3, k8⟩
    repeat (first | apply run_seq | apply run_block | apply end_seq | apply end_blk_hit | apply end_blk_miss rfl | apply end_blk | apply end_seq_exit | apply end_seq_ret | apply end_blk_ret | apply run_skip | apply run_ret | apply run_exit | (apply run_region (by decide); (simp (maxSteps := 9999999) only [go_sem, k0, k1, k2, k3, k8, ew]; rfl)) | (apply run_regionN (by decide); (simp (maxSteps := 9999999) only [go_sem, k0, k1, k2, k3, k8, ew]; rfl)) | (refine run_cond_t ?_ ?_; · simp only [go_sem]) | (refine run_cond_f ?_ ?_; · simp only [go_sem]))
    refine end_nil ⟨b - (i + 1), by omega, i + 1, f2, rfl, by omega, S2, W.trans (W2.mono (by omega) (by omega)), by rw [Nat.min_eq_left (by omega)]; exact O2, ?_, ?_, ?_, ?_, ?_, rfl, rfl⟩
    · simp (maxSteps := 9999999) only [go_sem, k0]
    · simp (maxSteps := 9999999) only [go_sem, k1]
    · simp (maxSteps := 9999999) only [go_sem, k2]
    · simp (maxSteps := 9999999) only [go_sem, k3]
    · simp (maxSteps := 9999999) only [go_sem, ew]
  · have e1 : ¬ (i : Int) < b := by omega
    repeat (first | apply run_seq | apply run_block | apply end_seq | apply end_blk_hit | apply end_blk_miss rfl | apply end_blk | apply end_seq_exit | apply end_seq_ret | apply end_blk_ret | apply run_skip | apply run_ret | apply run_exit | (apply run_region (by decide); (simp (maxSteps := 9999999) only [go_sem, r0, r1, r2, r3, r8, e1]; rfl)) | (apply run_regionN (by decide); (simp (maxSteps := 9999999) only [go_sem, r0, r1, r2, r3, r8, e1]; rfl)) | (refine run_cond_t ?_ ?_; · simp only [go_sem]) | (refine run_cond_f ?_ ?_; · simp only [go_sem]))
    exact end_nil ⟨rfl, rfl, rfl, f, S, W, by rw [Nat.min_eq_right (by omega)] at O; exact O⟩
/-- insertion sort -/
theorem insP (C : Cmp M g cel c) (hl : ∀ x, (cel x).length = 2) (hc : ∀ x, (cel x).all sc = true) (hn : n ≤ 1000000) {a b : Nat} (hab : a ≤ b) (hb : b ≤ n) {h : SHeap} {f : Nat → E} (S : SA cel n B el h0 old0 h f) :
    ∃ h' f', M.call 90 [.slice (some ⟨B, 0, none⟩) n cap, .int .i64 a, .int .i64 b, .func (.func g) #[] #[]] h = some (.tuple #[], h', []) ∧ SA cel n B el h0 old0 h' f' ∧ Sw a b f f' ∧ Ord c a b f' := by
  have key : ∃ r, (∃ h' f', r = (Value.tuple #[], h', ([] : List Nat)) ∧ SA cel n B el h0 old0 h' f' ∧ Sw a b f f' ∧ Ord c a b f') ∧ M.call 90 [.slice (some ⟨B, 0, none⟩) n cap, .int .i64 a, .int .i64 b, .func (.func g) #[] #[]] h = some r := by
    refine call_ex (f := 90) _ sf90 rfl rfl rfl ?_
    unfold sf90
    have ew : IntKind.i64.wrap ((a : Int) + 1) = ((a + 1 : Nat) : Int) := by rw [wrap64 (by omega) (by omega)]; rfl
    repeat (first | apply run_seq | apply run_block | apply end_seq | apply end_blk_hit | apply end_blk_miss rfl | apply end_blk | apply end_seq_exit | apply end_seq_ret | apply end_blk_ret | apply run_skip | apply run_ret | apply run_exit | (apply run_region (by decide); (simp (maxSteps := 9999999) only [go_sem, argR, ew]; rfl)) | (apply run_regionN (by decide); (simp (maxSteps := 9999999) only [go_sem, argR, ew]; rfl)) | (refine run_cond_t ?_ ?_; · simp only [go_sem]) | (refine run_cond_f ?_ ?_; · simp only [go_sem]))
    refine run_loop (insO_loopP (a := a) (b := b) (cap := cap) (el := el) (h0 := h0) (old0 := old0) C hl hc hn hb _ f (b - (a + 1)) _ _ _ _ ⟨a + 1, f, rfl, by omega, S, .refl, Ord.nil c (by omega) f, ?_, ?_, ?_, ?_, ?_, rfl, rfl⟩) ?_
    · simp (maxSteps := 9999999) only [go_sem, argR]
    · simp (maxSteps := 9999999) only [go_sem, argR]
    · simp (maxSteps := 9999999) only [go_sem, argR]
    · simp (maxSteps := 9999999) only [go_sem, argR]
    · simp (maxSteps := 9999999) only [go_sem, ew]
    rintro ex ρ' ms' h1 d1 ⟨rfl, rfl, rfl, f2, S2, W2, O2⟩
    repeat (first | apply run_seq | apply run_block | apply end_seq | apply end_blk_hit | apply end_blk_miss rfl | apply end_blk | apply end_seq_exit | apply end_seq_ret | apply end_blk_ret | apply run_skip | apply run_ret | apply run_exit | (apply run_region (by decide); (simp (maxSteps := 9999999) only [go_sem]; rfl)) | (apply run_regionN (by decide); (simp (maxSteps := 9999999) only [go_sem]; rfl)) | (refine run_cond_t ?_ ?_; · simp only [go_sem]) | (refine run_cond_f ?_ ?_; · simp only [go_sem]))
    exact end_nil ⟨_, ⟨h1, f2, rfl, S2, W2, O2⟩, q_free [] rfl rfl rfl rfl (fun _ => rfl) (by rw [List.take_of_length_le]; rw [S2.len, S.len]; exact Nat.le_refl _) rfl⟩
  obtain ⟨r, ⟨h', f', rfl, k⟩, e⟩ := key
  exact ⟨h', f', e, k⟩
end
end Go.Proofs.YtdmfhdnpakgkpaaDoor.Sh


/- Sorting: heaps. -/
namespace Go.Proofs.YtdmfhdnpakgkpaaDoor.Sh
open Go
set_option maxRecDepth 100000
set_option maxHeartbeats 4000000

section
variable {E : Type} {cel : E → List Value} {c : E → E → Int} {g : FuncId} {n B cap : Nat} {el : TypeId} {h0 : SHeap} {old0 : List Nat}
/-- no parent from lo on is less than its children -/
def HP (c : E → E → Int) (a lo hi : Nat) (f : Nat → E) : Prop := ∀ i j, lo ≤ i → (j = 2 * i + 1 ∨ j = 2 * i + 2) → j < hi → ¬ c (f (a + i)) (f (a + j)) < 0
/-- the same but for r, which is sinking -/
structure HX (c : E → E → Int) (a lo hi r : Nat) (f : Nat → E) : Prop where
  all : ∀ i j, lo ≤ i → i ≠ r → (j = 2 * i + 1 ∨ j = 2 * i + 2) → j < hi → ¬ c (f (a + i)) (f (a + j)) < 0
  up : ∀ p j, lo ≤ p → (r = 2 * p + 1 ∨ r = 2 * p + 2) → (j = 2 * r + 1 ∨ j = 2 * r + 2) → j < hi → ¬ c (f (a + p)) (f (a + j)) < 0
theorem HX.start {a lo hi : Nat} {f : Nat → E} (h : HP c a (lo + 1) hi f) : HX c a lo hi lo f :=
  ⟨fun i j h1 h2 h3 h4 => h i j (by omega) h3 h4, fun p j h1 h2 => by omega⟩
theorem HX.stop {a lo hi r : Nat} {f : Nat → E} (h : HX c a lo hi r f) (hr : ∀ j, (j = 2 * r + 1 ∨ j = 2 * r + 2) → j < hi → ¬ c (f (a + r)) (f (a + j)) < 0) : HP c a lo hi f := fun i j h1 h2 h3 => by
  by_cases e : i = r
  · subst e; exact hr j h2 h3
  · exact h.all i j h1 e h2 h3
theorem HX.step (C : Cmp M g cel c) {a lo hi r k : Nat} {f : Nat → E} (h : HX c a lo hi r f) (hr : lo ≤ r) (hk : k = 2 * r + 1 ∨ k = 2 * r + 2) (hkh : k < hi) (hlt : c (f (a + r)) (f (a + k)) < 0)
    (hbig : ∀ j, (j = 2 * r + 1 ∨ j = 2 * r + 2) → j < hi → ¬ c (f (a + k)) (f (a + j)) < 0) : HX c a lo hi k (swp f (a + r) (a + k)) := by
  constructor
  · intro i j h1 h2 h3 h4
    by_cases e1 : i = r
    · subst e1
      rw [swp_l]
      by_cases e2 : j = k
      · subst e2; rw [swp_r]; exact C.asym _ _ hlt
      · rw [swp_o f (by omega) (by omega)]; exact hbig j h3 h4
    · rw [swp_o f (i := a + r) (j := a + k) (k := a + i) (by omega) (by omega)]
      by_cases e2 : j = r
      · subst e2
        rw [swp_l]
        exact h.up i k h1 h3 hk hkh
      · by_cases e3 : j = k
        · omega
        · rw [swp_o f (by omega) (by omega)]
          exact h.all i j h1 e1 h3 h4
  · intro p j h1 h2 h3 h4
    have e : p = r := by omega
    subst e
    rw [swp_l, swp_o f (by omega) (by omega)]
    exact h.all k j (by omega) (by omega) h3 h4
/-- the first is the greatest -/
theorem HP.top (C : Cmp M g cel c) {a hi : Nat} {f : Nat → E} (h : HP c a 0 hi f) : ∀ k, k < hi → ¬ c (f a) (f (a + k)) < 0 := by
  intro k
  induction k using Nat.strongRecOn with
  | _ k ih =>
    intro hk
    by_cases e : k = 0
    · subst e; exact C.irr _
    · exact C.ntr _ _ _ (ih ((k - 1) / 2) (by omega) (by omega)) (h ((k - 1) / 2) k (by omega) (by omega) hk)

theorem sift_loopP (C : Cmp M g cel c) (hl : ∀ x, (cel x).length = 2) (hc : ∀ x, (cel x).all sc = true) (hn : n ≤ 1000000) {a lo hi : Nat} (hh : a + hi ≤ n) (cx : Cx) (f0 : Nat → E) : ∀ k ρ ms h' d', (∃ (r : Nat) (f : Nat → E), hi - r = k ∧ lo ≤ r ∧ r ≤ hi ∧ SA cel n B el h0 old0 h' f ∧ Sw (a + lo) (a + hi) f0 f ∧ HX c a lo hi r f ∧ ρ 0 = .slice (some ⟨B, 0, none⟩) n cap ∧ ρ 2 = .int .i64 hi ∧ ρ 3 = .int .i64 a ∧ ρ 4 = .func (.func g) #[] #[] ∧ ρ 10 = .int .i64 r ∧ ms = [] ∧ d' = []) →
    LoopW M cx 7 sf110L0 ρ ms h' d' (fun ex ρ' ms' h' d' => (ex = .exit 0 ∨ ex = .ret) ∧ ms' = [] ∧ d' = [] ∧ ∃ f : Nat → E, SA cel n B el h0 old0 h' f ∧ Sw (a + lo) (a + hi) f0 f ∧ HP c a lo hi f) := by
  refine loop_run _ ?_
  rintro k ρ ms h' d' ⟨r, f, hk, hlo, hrh, S, W, I, r0, r2, r3, r4, r10, rfl, rfl⟩
  have w1 : IntKind.i64.wrap (2 * (r : Int)) = ((2 * r : Nat) : Int) := by rw [wrap64 (by omega) (by omega)]; rfl
  have w2 : IntKind.i64.wrap (((2 * r : Nat) : Int) + 1) = ((2 * r + 1 : Nat) : Int) := by rw [wrap64 (by omega) (by omega)]; rfl
  unfold sf110L0
  by_cases c1 : hi ≤ 2 * r + 1
  · have e1 : (hi : Int) ≤ ((2 * r + 1 : Nat) : Int) := by omega
    repeat (first | apply run_seq | apply run_block | apply end_seq | apply end_blk_hit | apply end_blk_miss rfl | apply end_blk | apply end_seq_exit | apply end_seq_ret | apply end_blk_ret | apply run_skip | apply run_ret | apply run_exit | (apply run_region (by decide); (simp (maxSteps := 9999999) only [go_sem, r0, r2, r3, r4, r10, w1, w2, e1]; rfl)) | (apply run_regionN (by decide); (simp (maxSteps := 9999999) only [go_sem, r0, r2, r3, r4, r10, w1, w2, e1]; rfl)) | (refine run_cond_t ?_ ?_; · simp only [go_sem]) | (refine run_cond_f ?_ ?_; · simp only [go_sem]))
    exact end_nil ⟨.inl rfl, rfl, rfl, f, S, W, I.stop (fun j h1 h2 => by omega)⟩
  · have e1 : ¬ (hi : Int) ≤ ((2 * r + 1 : Nat) : Int) := by omega
    have w3 : IntKind.i64.wrap (((2 * r + 1 : Nat) : Int) + 1) = ((2 * r + 1 + 1 : Nat) : Int) := by rw [wrap64 (by omega) (by omega)]; rfl
    have w4 : IntKind.i64.wrap ((a : Int) + ((2 * r + 1 : Nat) : Int)) = ((a + (2 * r + 1) : Nat) : Int) := by rw [wrap64 (by omega) (by omega)]; rfl
    have w5 : IntKind.i64.wrap (((a + (2 * r + 1) : Nat) : Int) + 1) = ((a + (2 * r + 1 + 1) : Nat) : Int) := by rw [wrap64 (by omega) (by omega)]; rfl
    have w6 : IntKind.i64.wrap ((a : Int) + (r : Int)) = ((a + r : Nat) : Int) := by rw [wrap64 (by omega) (by omega)]; rfl
    have w7 : IntKind.i64.wrap ((a : Int) + ((2 * r + 1 + 1 : Nat) : Int)) = ((a + (2 * r + 1 + 1) : Nat) : Int) := by rw [wrap64 (by omega) (by omega)]; rfl
    have p1 : (0 : Int) ≤ ((a + (2 * r + 1) : Nat) : Int) := by omega
    have p2 : ((a + (2 * r + 1) : Nat) : Int) < n := by omega
    have p3 : (0 : Int) ≤ ((a + r : Nat) : Int) := by omega
    have p4 : ((a + r : Nat) : Int) < n := by omega
    have p5 : (0 : Int) ≤ ((a + (2 * r + 1 + 1) : Nat) : Int) := by omega
    have l1 := S.load hl (show a + (2 * r + 1) < n by omega)
    have l2 := S.load hl (show a + r < n by omega)
    have key : ∀ kk : Nat, (kk = 2 * r + 1 ∨ kk = 2 * r + 2) → kk < hi → (∀ j, (j = 2 * r + 1 ∨ j = 2 * r + 2) → j < hi → ¬ c (f (a + kk)) (f (a + j)) < 0) → ¬ c (f (a + r)) (f (a + kk)) < 0 → HP c a lo hi f := fun kk h1 h2 h3 h4 =>
      I.stop (fun j h5 h6 => C.ntr _ _ _ h4 (h3 j h5 h6))
    by_cases c2 : 2 * r + 1 + 1 < hi
    · have e2 : ((2 * r + 1 + 1 : Nat) : Int) < hi := by omega
      have p6 : ((a + (2 * r + 1 + 1) : Nat) : Int) < n := by omega
      have l3 := S.load hl (show a + (2 * r + 1 + 1) < n by omega)
      have cc := fun h => C.call (f (a + (2 * r + 1))) (f (a + (2 * r + 1 + 1))) h
      by_cases c3 : c (f (a + (2 * r + 1))) (f (a + (2 * r + 1 + 1))) < 0
      · have cd := fun h => C.call (f (a + r)) (f (a + (2 * r + 1 + 1))) h
        have hb : ∀ j, (j = 2 * r + 1 ∨ j = 2 * r + 2) → j < hi → ¬ c (f (a + (2 * r + 1 + 1))) (f (a + j)) < 0 := fun j h1 h2 => by
          rcases h1 with h1 | h1
          · subst h1; exact C.asym _ _ c3
          · subst h1; exact C.irr _
        by_cases c4 : c (f (a + r)) (f (a + (2 * r + 1 + 1))) < 0
        · obtain ⟨h1, h2, st1, st2, S2⟩ := S.swap hl hc (by decide) (show a + r < n by omega) (show a + (2 * r + 1 + 1) < n by omega)
          repeat (first | apply run_seq | apply run_block | apply end_seq | apply end_blk_hit | apply end_blk_miss rfl | apply end_blk | apply end_seq_exit | apply end_seq_ret | apply end_blk_ret | apply run_skip | apply run_ret | apply run_exit | (apply run_region (by decide); (simp (maxSteps := 9999999) only [go_sem, r0, r2, r3, r4, r10, w1, w2, e1, w3, w4, w5, w6, w7, p1, p2, p3, p4, p5, p6, l1, l2, l3, e2, cc, c3, cd, c4, hl, ↓st1, ↓st2]; rfl)) | (apply run_regionN (by decide); (simp (maxSteps := 9999999) only [go_sem, r0, r2, r3, r4, r10, w1, w2, e1, w3, w4, w5, w6, w7, p1, p2, p3, p4, p5, p6, l1, l2, l3, e2, cc, c3, cd, c4, hl, ↓st1, ↓st2]; rfl)) | (refine run_cond_t ?_ ?_; · simp only [go_sem]) | (refine run_cond_f ?_ ?_; · simp only [go_sem]))
          refine end_nil ⟨hi - (2 * r + 1 + 1), by omega, 2 * r + 1 + 1, _, rfl, by omega, by omega, S2, W.step (by omega) (by omega) (by omega) (by omega), I.step C hlo (.inr rfl) c2 c4 hb, ?_, ?_, ?_, ?_, ?_, rfl, rfl⟩
          · simp (maxSteps := 9999999) only [go_sem, r0]
          · simp (maxSteps := 9999999) only [go_sem, r2]
          · simp (maxSteps := 9999999) only [go_sem, r3]
          · simp (maxSteps := 9999999) only [go_sem, r4]
          · simp (maxSteps := 9999999) only [go_sem, w3]
        · repeat (first | apply run_seq | apply run_block | apply end_seq | apply end_blk_hit | apply end_blk_miss rfl | apply end_blk | apply end_seq_exit | apply end_seq_ret | apply end_blk_ret | apply run_skip | apply run_ret | apply run_exit | (apply run_region (by decide); (simp (maxSteps := 9999999) only [go_sem, r0, r2, r3, r4, r10, w1, w2, e1, w3, w4, w5, w6, w7, p1, p2, p3, p4, p5, p6, l1, l2, l3, e2, cc, c3, cd, c4]; rfl)) | (apply run_regionN (by decide); (simp (maxSteps := 9999999) only [go_sem, r0, r2, r3, r4, r10, w1, w2, e1, w3, w4, w5, w6, w7, p1, p2, p3, p4, p5, p6, l1, l2, l3, e2, cc, c3, cd, c4]; rfl)) | (refine run_cond_t ?_ ?_; · simp only [go_sem]) | (refine run_cond_f ?_ ?_; · simp only [go_sem]))
          exact end_nil ⟨.inr rfl, rfl, rfl, f, S, W, key _ (.inr rfl) c2 hb c4⟩
      · have cd := fun h => C.call (f (a + r)) (f (a + (2 * r + 1))) h
        have hb : ∀ j, (j = 2 * r + 1 ∨ j = 2 * r + 2) → j < hi → ¬ c (f (a + (2 * r + 1))) (f (a + j)) < 0 := fun j h1 h2 => by
          rcases h1 with h1 | h1
          · subst h1; exact C.irr _
          · subst h1; exact c3
        by_cases c4 : c (f (a + r)) (f (a + (2 * r + 1))) < 0
        · obtain ⟨h1, h2, st1, st2, S2⟩ := S.swap hl hc (by decide) (show a + r < n by omega) (show a + (2 * r + 1) < n by omega)
          repeat (first | apply run_seq | apply run_block | apply end_seq | apply end_blk_hit | apply end_blk_miss rfl | apply end_blk | apply end_seq_exit | apply end_seq_ret | apply end_blk_ret | apply run_skip | apply run_ret | apply run_exit | (apply run_region (by decide); (simp (maxSteps := 9999999) only [go_sem, r0, r2, r3, r4, r10, w1, w2, e1, w3, w4, w5, w6, w7, p1, p2, p3, p4, p5, p6, l1, l2, l3, e2, cc, c3, cd, c4, hl, ↓st1, ↓st2]; rfl)) | (apply run_regionN (by decide); (simp (maxSteps := 9999999) only [go_sem, r0, r2, r3, r4, r10, w1, w2, e1, w3, w4, w5, w6, w7, p1, p2, p3, p4, p5, p6, l1, l2, l3, e2, cc, c3, cd, c4, hl, ↓st1, ↓st2]; rfl)) | (refine run_cond_t ?_ ?_; · simp only [go_sem]) | (refine run_cond_f ?_ ?_; · simp only [go_sem]))
          refine end_nil ⟨hi - (2 * r + 1), by omega, 2 * r + 1, _, rfl, by omega, by omega, S2, W.step (by omega) (by omega) (by omega) (by omega), I.step C hlo (.inl rfl) (by omega) c4 hb, ?_, ?_, ?_, ?_, ?_, rfl, rfl⟩
          · simp (maxSteps := 9999999) only [go_sem, r0]
          · simp (maxSteps := 9999999) only [go_sem, r2]
          · simp (maxSteps := 9999999) only [go_sem, r3]
          · simp (maxSteps := 9999999) only [go_sem, r4]
          · simp (maxSteps := 9999999) only [go_sem, w2]
        · repeat (first | apply run_seq | apply run_block | apply end_seq | apply end_blk_hit | apply end_blk_miss rfl | apply end_blk | apply end_seq_exit | apply end_seq_ret | apply end_blk_ret | apply run_skip | apply run_ret | apply run_exit | (apply run_region (by decide); (simp (maxSteps := 9999999) only [go_sem, r0, r2, r3, r4, r10, w1, w2, e1, w3, w4, w5, w6, w7, p1, p2, p3, p4, p5, p6, l1, l2, l3, e2, cc, c3, cd, c4]; rfl)) | (apply run_regionN (by decide); (simp (maxSteps := 9999999) only [go_sem, r0, r2, r3, r4, r10, w1, w2, e1, w3, w4, w5, w6, w7, p1, p2, p3, p4, p5, p6, l1, l2, l3, e2, cc, c3, cd, c4]; rfl)) | (refine run_cond_t ?_ ?_; · simp only [go_sem]) | (refine run_cond_f ?_ ?_; · simp only [go_sem]))
          exact end_nil ⟨.inr rfl, rfl, rfl, f, S, W, key _ (.inl rfl) (by omega) hb c4⟩
    · have e2 : ¬ ((2 * r + 1 + 1 : Nat) : Int) < hi := by omega
      have cd := fun h => C.call (f (a + r)) (f (a + (2 * r + 1))) h
      have hb : ∀ j, (j = 2 * r + 1 ∨ j = 2 * r + 2) → j < hi → ¬ c (f (a + (2 * r + 1))) (f (a + j)) < 0 := fun j h1 h2 => by
        rcases h1 with h1 | h1
        · subst h1; exact C.irr _
        · omega
      by_cases c4 : c (f (a + r)) (f (a + (2 * r + 1))) < 0
      · obtain ⟨h1, h2, st1, st2, S2⟩ := S.swap hl hc (by decide) (show a + r < n by omega) (show a + (2 * r + 1) < n by omega)
        repeat (first | apply run_seq | apply run_block | apply end_seq | apply end_blk_hit | apply end_blk_miss rfl | apply end_blk | apply end_seq_exit | apply end_seq_ret | apply end_blk_ret | apply run_skip | apply run_ret | apply run_exit | (apply run_region (by decide); (simp (maxSteps := 9999999) only [go_sem, r0, r2, r3, r4, r10, w1, w2, e1, w3, w4, w5, w6, w7, p1, p2, p3, p4, p5, l1, l2, e2, cd, c4, hl, ↓st1, ↓st2]; rfl)) | (apply run_regionN (by decide); (simp (maxSteps := 9999999) only [go_sem, r0, r2, r3, r4, r10, w1, w2, e1, w3, w4, w5, w6, w7, p1, p2, p3, p4, p5, l1, l2, e2, cd, c4, hl, ↓st1, ↓st2]; rfl)) | (refine run_cond_t ?_ ?_; · simp only [go_sem]) | (refine run_cond_f ?_ ?_; · simp only [go_sem]))
        refine end_nil ⟨hi - (2 * r + 1), by omega, 2 * r + 1, _, rfl, by omega, by omega, S2, W.step (by omega) (by omega) (by omega) (by omega), I.step C hlo (.inl rfl) (by omega) c4 hb, ?_, ?_, ?_, ?_, ?_, rfl, rfl⟩
        · simp (maxSteps := 9999999) only [go_sem, r0]
        · simp (maxSteps := 9999999) only [go_sem, r2]
        · simp (maxSteps := 9999999) only [go_sem, r3]
        · simp (maxSteps := 9999999) only [go_sem, r4]
        · simp (maxSteps := 9999999) only [go_sem, w2]
      · repeat (first | apply run_seq | apply run_block | apply end_seq | apply end_blk_hit | apply end_blk_miss rfl | apply end_blk | apply end_seq_exit | apply end_seq_ret | apply end_blk_ret | apply run_skip | apply run_ret | apply run_exit | (apply run_region (by decide); (simp (maxSteps := 9999999) only [go_sem, r0, r2, r3, r4, r10, w1, w2, e1, w3, w4, w5, w6, w7, p1, p2, p3, p4, p5, l1, l2, e2, cd, c4]; rfl)) | (apply run_regionN (by decide); (simp (maxSteps := 9999999) only [go_sem, r0, r2, r3, r4, r10, w1, w2, e1, w3, w4, w5, w6, w7, p1, p2, p3, p4, p5, l1, l2, e2, cd, c4]; rfl)) | (refine run_cond_t ?_ ?_; · simp only [go_sem]) | (refine run_cond_f ?_ ?_; · simp only [go_sem]))
        exact end_nil ⟨.inr rfl, rfl, rfl, f, S, W, key _ (.inl rfl) (by omega) hb c4⟩
/-- siftDown -/
theorem siftP (C : Cmp M g cel c) (hl : ∀ x, (cel x).length = 2) (hc : ∀ x, (cel x).all sc = true) (hn : n ≤ 1000000) {a lo hi : Nat} (hlh : lo ≤ hi) (hh : a + hi ≤ n) {h : SHeap} {f : Nat → E} (S : SA cel n B el h0 old0 h f) (P : HP c a (lo + 1) hi f) :
    ∃ h' f', M.call 110 [.slice (some ⟨B, 0, none⟩) n cap, .int .i64 lo, .int .i64 hi, .int .i64 a, .func (.func g) #[] #[]] h = some (.tuple #[], h', []) ∧ SA cel n B el h0 old0 h' f' ∧ Sw (a + lo) (a + hi) f f' ∧ HP c a lo hi f' := by
  have key : ∃ r, (∃ h' f', r = (Value.tuple #[], h', ([] : List Nat)) ∧ SA cel n B el h0 old0 h' f' ∧ Sw (a + lo) (a + hi) f f' ∧ HP c a lo hi f') ∧ M.call 110 [.slice (some ⟨B, 0, none⟩) n cap, .int .i64 lo, .int .i64 hi, .int .i64 a, .func (.func g) #[] #[]] h = some r := by
    refine call_ex (f := 110) _ sf110 rfl rfl rfl ?_
    unfold sf110
    repeat (first | apply run_seq | apply run_block | apply end_seq | apply end_blk_hit | apply end_blk_miss rfl | apply end_blk | apply end_seq_exit | apply end_seq_ret | apply end_blk_ret | apply run_skip | apply run_ret | apply run_exit | (apply run_region (by decide); (simp (maxSteps := 9999999) only [go_sem, argR]; rfl)) | (apply run_regionN (by decide); (simp (maxSteps := 9999999) only [go_sem, argR]; rfl)) | (refine run_cond_t ?_ ?_; · simp only [go_sem]) | (refine run_cond_f ?_ ?_; · simp only [go_sem]))
    refine run_loop (sift_loopP (cap := cap) (el := el) (h0 := h0) (old0 := old0) C hl hc hn (lo := lo) hh _ f (hi - lo) _ _ _ _ ⟨lo, f, rfl, Nat.le_refl _, hlh, S, .refl, HX.start P, ?_, ?_, ?_, ?_, ?_, rfl, rfl⟩) ?_
    · simp (maxSteps := 9999999) only [go_sem, argR]
    · simp (maxSteps := 9999999) only [go_sem, argR]
    · simp (maxSteps := 9999999) only [go_sem, argR]
    · simp (maxSteps := 9999999) only [go_sem, argR]
    · simp (maxSteps := 9999999) only [go_sem, argR]
    rintro ex ρ' ms' h1 d1 ⟨rfl | rfl, rfl, rfl, f2, S2, W2, O2⟩
    · repeat (first | apply run_seq | apply run_block | apply end_seq | apply end_blk_hit | apply end_blk_miss rfl | apply end_blk | apply end_seq_exit | apply end_seq_ret | apply end_blk_ret | apply run_skip | apply run_ret | apply run_exit | (apply run_region (by decide); (simp (maxSteps := 9999999) only [go_sem]; rfl)) | (apply run_regionN (by decide); (simp (maxSteps := 9999999) only [go_sem]; rfl)) | (refine run_cond_t ?_ ?_; · simp only [go_sem]) | (refine run_cond_f ?_ ?_; · simp only [go_sem]))
      exact end_nil ⟨_, ⟨h1, f2, rfl, S2, W2, O2⟩, q_free [] rfl rfl rfl rfl (fun _ => rfl) (by rw [List.take_of_length_le]; rw [S2.len, S.len]; exact Nat.le_refl _) rfl⟩
    · repeat (first | apply run_seq | apply run_block | apply end_seq | apply end_blk_hit | apply end_blk_miss rfl | apply end_blk | apply end_seq_exit | apply end_seq_ret | apply end_blk_ret | apply run_skip | apply run_ret | apply run_exit | (apply run_region (by decide); (simp (maxSteps := 9999999) only [go_sem]; rfl)) | (apply run_regionN (by decide); (simp (maxSteps := 9999999) only [go_sem]; rfl)) | (refine run_cond_t ?_ ?_; · simp only [go_sem]) | (refine run_cond_f ?_ ?_; · simp only [go_sem]))
      exact end_nil ⟨_, ⟨h1, f2, rfl, S2, W2, O2⟩, q_free [] rfl rfl rfl rfl (fun _ => rfl) (by rw [List.take_of_length_le]; rw [S2.len, S.len]; exact Nat.le_refl _) rfl⟩
  obtain ⟨r, ⟨h', f', rfl, k⟩, e⟩ := key
  exact ⟨h', f', e, k⟩
end
end Go.Proofs.YtdmfhdnpakgkpaaDoor.Sh


/- Sorting: by a heap. -/
namespace Go.Proofs.YtdmfhdnpakgkpaaDoor.Sh
open Go
set_option maxRecDepth 100000
set_option maxHeartbeats 4000000

section
variable {E : Type} {cel : E → List Value} {c : E → E → Int} {g : FuncId} {n B cap : Nat} {el : TypeId} {h0 : SHeap} {old0 : List Nat}
theorem heapA_loopP (C : Cmp M g cel c) (hl : ∀ x, (cel x).length = 2) (hc : ∀ x, (cel x).all sc = true) (hn : n ≤ 1000000) {a hi : Nat} (hh : a + hi ≤ n) (cx : Cx) (f0 : Nat → E) : ∀ k ρ ms h' d', (∃ (f : Nat → E), k ≤ hi ∧ SA cel n B el h0 old0 h' f ∧ Sw a (a + hi) f0 f ∧ HP c a k hi f ∧ ρ 0 = .slice (some ⟨B, 0, none⟩) n cap ∧ ρ 3 = .func (.func g) #[] #[] ∧ ρ 8 = .int .i64 a ∧ ρ 9 = .int .i64 0 ∧ ρ 10 = .int .i64 hi ∧ ρ 11 = .int .i64 ((k : Int) - 1) ∧ ms = [] ∧ d' = []) →
    LoopW M cx 6 sf91L1 ρ ms h' d' (fun ex ρ' ms' h' d' => ex = .exit 0 ∧ ms' = [] ∧ d' = [] ∧ ∃ f : Nat → E, SA cel n B el h0 old0 h' f ∧ Sw a (a + hi) f0 f ∧ HP c a 0 hi f ∧ ρ' 0 = .slice (some ⟨B, 0, none⟩) n cap ∧ ρ' 3 = .func (.func g) #[] #[] ∧ ρ' 8 = .int .i64 a ∧ ρ' 9 = .int .i64 0 ∧ ρ' 10 = .int .i64 hi) := by
  refine loop_run _ ?_
  rintro k ρ ms h' d' ⟨f, hk, S, W, P, r0, r3, r8, r9, r10, r11, rfl, rfl⟩
  unfold sf91L1
  by_cases z : k = 0
  · have e1 : ¬ (0 : Int) ≤ (k : Int) - 1 := by omega
    subst z
    repeat (first | apply run_seq | apply run_block | apply end_seq | apply end_blk_hit | apply end_blk_miss rfl | apply end_blk | apply end_seq_exit | apply end_seq_ret | apply end_blk_ret | apply run_skip | apply run_ret | apply run_exit | (apply run_region (by decide); (simp (maxSteps := 9999999) only [go_sem, r0, r3, r8, r9, r10, r11, e1]; rfl)) | (apply run_regionN (by decide); (simp (maxSteps := 9999999) only [go_sem, r0, r3, r8, r9, r10, r11, e1]; rfl)) | (refine run_cond_t ?_ ?_; · simp only [go_sem]) | (refine run_cond_f ?_ ?_; · simp only [go_sem]))
    refine end_nil ⟨rfl, rfl, rfl, f, S, W, P, ?_, ?_, ?_, ?_, ?_⟩
    · simp (maxSteps := 9999999) only [go_sem, r0]
    · simp (maxSteps := 9999999) only [go_sem, r3]
    · simp (maxSteps := 9999999) only [go_sem, r8]
    · simp (maxSteps := 9999999) only [go_sem, r9]
    · simp (maxSteps := 9999999) only [go_sem, r10]
  · obtain ⟨m, rfl⟩ : ∃ m, k = m + 1 := ⟨k - 1, by omega⟩
    have em : (((m + 1 : Nat) : Int) - 1) = (m : Int) := by omega
    rw [em] at r11
    have e1 : (0 : Int) ≤ (m : Int) := by omega
    have ew : IntKind.i64.wrap ((m : Int) - 1) = (m : Int) - 1 := wrap64 (by omega) (by omega)
    obtain ⟨h2, f2, e, S2, W2, P2⟩ := siftP (cap := cap) C hl hc hn (lo := m) (by omega) hh S P
    repeat (first | apply run_seq | apply run_block | apply end_seq | apply end_blk_hit | apply end_blk_miss rfl | apply end_blk | apply end_seq_exit | apply end_seq_ret | apply end_blk_ret | apply run_skip | apply run_ret | apply run_exit | (apply run_region (by decide); (simp (maxSteps := 9999999) only [go_sem, r0, r3, r8, r9, r10, r11, e1, e, ew]; rfl)) | (apply run_regionN (by decide); (simp (maxSteps := 9999999) only [go_sem, r0, r3, r8, r9, r10, r11, e1, e, ew]; rfl)) | (refine run_cond_t ?_ ?_; · simp only [go_sem]) | (refine run_cond_f ?_ ?_; · simp only [go_sem]))
    refine end_nil ⟨m, by omega, f2, by omega, S2, W.trans (W2.mono (by omega) (by omega)), P2, ?_, ?_, ?_, ?_, ?_, ?_, rfl, rfl⟩
    · simp (maxSteps := 9999999) only [go_sem, r0]
    · simp (maxSteps := 9999999) only [go_sem, r3]
    · simp (maxSteps := 9999999) only [go_sem, r8]
    · simp (maxSteps := 9999999) only [go_sem, r9]
    · simp (maxSteps := 9999999) only [go_sem, r10]
    · simp (maxSteps := 9999999) only [go_sem, ew]
theorem heapB_loopP (C : Cmp M g cel c) (hl : ∀ x, (cel x).length = 2) (hc : ∀ x, (cel x).all sc = true) (hn : n ≤ 1000000) {a hi : Nat} (hh : a + hi ≤ n) (cx : Cx) (f0 : Nat → E) : ∀ k ρ ms h' d', (∃ (f : Nat → E), k ≤ hi ∧ SA cel n B el h0 old0 h' f ∧ Sw a (a + hi) f0 f ∧ HP c a 0 k f ∧ Ord c (a + k) (a + hi) f ∧ (∀ p q, a ≤ p → p < a + k → a + k ≤ q → q < a + hi → ¬ c (f q) (f p) < 0) ∧ ρ 0 = .slice (some ⟨B, 0, none⟩) n cap ∧ ρ 3 = .func (.func g) #[] #[] ∧ ρ 8 = .int .i64 a ∧ ρ 9 = .int .i64 0 ∧ ρ 12 = .int .i64 ((k : Int) - 1) ∧ ms = [] ∧ d' = []) →
    LoopW M cx 6 sf91L0 ρ ms h' d' (fun ex ρ' ms' h' d' => ex = .exit 2 ∧ ms' = [] ∧ d' = [] ∧ ∃ f : Nat → E, SA cel n B el h0 old0 h' f ∧ Sw a (a + hi) f0 f ∧ Ord c a (a + hi) f) := by
  refine loop_run _ ?_
  rintro k ρ ms h' d' ⟨f, hk, S, W, P, O, hle, r0, r3, r8, r9, r12, rfl, rfl⟩
  unfold sf91L0
  by_cases z : k = 0
  · have e1 : ¬ (0 : Int) ≤ (k : Int) - 1 := by omega
    subst z
    repeat (first | apply run_seq | apply run_block | apply end_seq | apply end_blk_hit | apply end_blk_miss rfl | apply end_blk | apply end_seq_exit | apply end_seq_ret | apply end_blk_ret | apply run_skip | apply run_ret | apply run_exit | (apply run_region (by decide); (simp (maxSteps := 9999999) only [go_sem, r0, r3, r8, r9, r12, e1]; rfl)) | (apply run_regionN (by decide); (simp (maxSteps := 9999999) only [go_sem, r0, r3, r8, r9, r12, e1]; rfl)) | (refine run_cond_t ?_ ?_; · simp only [go_sem]) | (refine run_cond_f ?_ ?_; · simp only [go_sem]))
    exact end_nil ⟨rfl, rfl, rfl, f, S, W, O⟩
  · obtain ⟨m, rfl⟩ : ∃ m, k = m + 1 := ⟨k - 1, by omega⟩
    have em : (((m + 1 : Nat) : Int) - 1) = (m : Int) := by omega
    rw [em] at r12
    have e1 : (0 : Int) ≤ (m : Int) := by omega
    have ew : IntKind.i64.wrap ((m : Int) - 1) = (m : Int) - 1 := wrap64 (by omega) (by omega)
    have ea : IntKind.i64.wrap ((a : Int) + (m : Int)) = ((a + m : Nat) : Int) := by rw [wrap64 (by omega) (by omega)]; rfl
    have p1 : (0 : Int) ≤ ((a + m : Nat) : Int) := by omega
    have p2 : ((a + m : Nat) : Int) < n := by omega
    have p3 : (0 : Int) ≤ (a : Int) := by omega
    have p4 : (a : Int) < n := by omega
    have l1 := S.load hl (show a + m < n by omega)
    have l2 := S.load hl (show a < n by omega)
    obtain ⟨h1, h2, st1, st2, S2⟩ := S.swap hl hc (by decide) (show a < n by omega) (show a + m < n by omega)
    have P2 : HP c a (0 + 1) m (swp f a (a + m)) := fun i j h1 h2 h3 => by
      rw [swp_o f (by omega) (by omega), swp_o f (by omega) (by omega)]
      exact P i j (by omega) h2 (by omega)
    have top := P.top C
    obtain ⟨h3, f3, e, S3, W3, P3⟩ := siftP (cap := cap) C hl hc hn (lo := 0) (hi := m) (by omega) (by omega) S2 P2
    have ez : ((0 : Nat) : Int) = 0 := rfl
    rw [ez] at e
    have W3' : Sw a (a + m) (swp f a (a + m)) f3 := W3.mono (by omega) (by omega)
    -- what stays
    have f3m : f3 (a + m) = f a := by rw [W3'.out (by omega), swp_r]
    have f3o : ∀ q, a + m < q → f3 q = f q := fun q hq => by rw [W3'.out (by omega), swp_o f (by omega) (by omega)]
    have low : ∀ p, a ≤ p → p < a + m → ¬ c (f a) (f3 p) < 0 := W3'.all (P := fun x => ¬ c (f a) x < 0) (fun p h1 h2 => by
      by_cases e : p = a
      · subst e; rw [swp_l]; exact top m (by omega)
      · rw [swp_o f e (by omega)]
        have := top (p - a) (by omega)
        rwa [show a + (p - a) = p by omega] at this)
    have low2 : ∀ q, a + m < q → q < a + hi → ∀ p, a ≤ p → p < a + m → ¬ c (f q) (f3 p) < 0 := fun q q1 q2 p p1 p2 => C.ntr _ _ _ (hle a q (by omega) (by omega) (by omega) q2) (low p p1 p2)
    repeat (first | apply run_seq | apply run_block | apply end_seq | apply end_blk_hit | apply end_blk_miss rfl | apply end_blk | apply end_seq_exit | apply end_seq_ret | apply end_blk_ret | apply run_skip | apply run_ret | apply run_exit | (apply run_region (by decide); (simp (maxSteps := 9999999) only [go_sem, r0, r3, r8, r9, r12, e1, ea, p1, p2, p3, p4, l1, l2, hl, ↓st1, ↓st2, e, ew]; rfl)) | (apply run_regionN (by decide); (simp (maxSteps := 9999999) only [go_sem, r0, r3, r8, r9, r12, e1, ea, p1, p2, p3, p4, l1, l2, hl, ↓st1, ↓st2, e, ew]; rfl)) | (refine run_cond_t ?_ ?_; · simp only [go_sem]) | (refine run_cond_f ?_ ?_; · simp only [go_sem]))
    refine end_nil ⟨m, by omega, f3, by omega, S3, (W.step (by omega) (by omega) (by omega) (by omega)).trans (W3'.mono (by omega) (by omega)), P3, ?_, ?_, ?_, ?_, ?_, ?_, ?_, rfl, rfl⟩
    · intro p q h1 h2 h3
      by_cases ep : p = a + m
      · subst ep
        rw [f3m, f3o q h2]
        exact hle a q (by omega) (by omega) (by omega) h3
      · rw [f3o p (by omega), f3o q (by omega)]
        exact O p q (by omega) h2 h3
    · intro p q h1 h2 h3 h4
      by_cases eq : q = a + m
      · subst eq; rw [f3m]; exact low p h1 h2
      · rw [f3o q (by omega)]; exact low2 q (by omega) h4 p h1 h2
    · simp (maxSteps := 9999999) only [go_sem, r0]
    · simp (maxSteps := 9999999) only [go_sem, r3]
    · simp (maxSteps := 9999999) only [go_sem, r8]
    · simp (maxSteps := 9999999) only [go_sem, r9]
    · simp (maxSteps := 9999999) only [go_sem, ew]
/-- heapSort -/
theorem heapP (C : Cmp M g cel c) (hl : ∀ x, (cel x).length = 2) (hc : ∀ x, (cel x).all sc = true) (hn : n ≤ 1000000) {a b : Nat} (hab : a < b) (hb : b ≤ n) {h : SHeap} {f : Nat → E} (S : SA cel n B el h0 old0 h f) :
    ∃ h' f', M.call 91 [.slice (some ⟨B, 0, none⟩) n cap, .int .i64 a, .int .i64 b, .func (.func g) #[] #[]] h = some (.tuple #[], h', []) ∧ SA cel n B el h0 old0 h' f' ∧ Sw a b f f' ∧ Ord c a b f' := by
  have key : ∃ r, (∃ h' f', r = (Value.tuple #[], h', ([] : List Nat)) ∧ SA cel n B el h0 old0 h' f' ∧ Sw a b f f' ∧ Ord c a b f') ∧ M.call 91 [.slice (some ⟨B, 0, none⟩) n cap, .int .i64 a, .int .i64 b, .func (.func g) #[] #[]] h = some r := by
    refine call_ex (f := 91) _ sf91 rfl rfl rfl ?_
    unfold sf91
    have w1 : IntKind.i64.wrap ((b : Int) - (a : Int)) = ((b - a : Nat) : Int) := by rw [wrap64 (by omega) (by omega)]; omega
    have w2 : IntKind.i64.wrap (((b - a : Nat) : Int) - 1) = ((b - a - 1 : Nat) : Int) := by rw [wrap64 (by omega) (by omega)]; omega
    have w3 : IntKind.i64.wrap (((b - a - 1 : Nat) : Int).tdiv 2) = (((b - a - 1) / 2 : Nat) : Int) := by rw [Int.tdiv_eq_ediv_of_nonneg (by omega), wrap64 (by omega) (by omega)]; rfl
    repeat (first | apply run_seq | apply run_block | apply end_seq | apply end_blk_hit | apply end_blk_miss rfl | apply end_blk | apply end_seq_exit | apply end_seq_ret | apply end_blk_ret | apply run_skip | apply run_ret | apply run_exit | (apply run_region (by decide); (simp (maxSteps := 9999999) only [go_sem, argR, w1, w2, w3]; rfl)) | (apply run_regionN (by decide); (simp (maxSteps := 9999999) only [go_sem, argR, w1, w2, w3]; rfl)) | (refine run_cond_t ?_ ?_; · simp only [go_sem]) | (refine run_cond_f ?_ ?_; · simp only [go_sem]))
    refine run_loop (heapA_loopP (cap := cap) (el := el) (h0 := h0) (old0 := old0) C hl hc hn (a := a) (hi := b - a) (by omega) _ f ((b - a - 1) / 2 + 1) _ _ _ _ ⟨f, by omega, S, .refl, fun i j h1 h2 h3 => by omega, ?_, ?_, ?_, ?_, ?_, ?_, rfl, rfl⟩) ?_
    · simp (maxSteps := 9999999) only [go_sem, argR]
    · simp (maxSteps := 9999999) only [go_sem, argR]
    · simp (maxSteps := 9999999) only [go_sem, argR]
    · simp (maxSteps := 9999999) only [go_sem]
    · simp (maxSteps := 9999999) only [go_sem]
    · simp (maxSteps := 9999999) only [go_sem]; congr 1; omega
    rintro ex ρ' ms' h1 d1 ⟨rfl, rfl, rfl, f2, S2, W2, P2, k0, k3, k8, k9, k10⟩
    repeat (first | apply run_seq | apply run_block | apply end_seq | apply end_blk_hit | apply end_blk_miss rfl | apply end_blk | apply end_seq_exit | apply end_seq_ret | apply end_blk_ret | apply run_skip | apply run_ret | apply run_exit | (apply run_region (by decide); (simp (maxSteps := 9999999) only [go_sem, k0, k3, k8, k9, k10, w2]; rfl)) | (apply run_regionN (by decide); (simp (maxSteps := 9999999) only [go_sem, k0, k3, k8, k9, k10, w2]; rfl)) | (refine run_cond_t ?_ ?_; · simp only [go_sem]) | (refine run_cond_f ?_ ?_; · simp only [go_sem]))
    refine run_loop (heapB_loopP (cap := cap) (el := el) (h0 := h0) (old0 := old0) C hl hc hn (a := a) (hi := b - a) (by omega) _ f2 (b - a) _ _ _ _ ⟨f2, Nat.le_refl _, S2, .refl, P2, Ord.nil c (by omega) _, fun p q _ _ h3 h4 => by omega, ?_, ?_, ?_, ?_, ?_, rfl, rfl⟩) ?_
    · simp (maxSteps := 9999999) only [go_sem, k0]
    · simp (maxSteps := 9999999) only [go_sem, k3]
    · simp (maxSteps := 9999999) only [go_sem, k8]
    · simp (maxSteps := 9999999) only [go_sem, k9]
    · simp (maxSteps := 9999999) only [go_sem]; congr 1; omega
    rintro ex ρ2 ms2 h3 d2 ⟨rfl, rfl, rfl, f3, S3, W3, O3⟩
    rw [show a + (b - a) = b by omega] at W2 W3 O3
    repeat (first | apply run_seq | apply run_block | apply end_seq | apply end_blk_hit | apply end_blk_miss rfl | apply end_blk | apply end_seq_exit | apply end_seq_ret | apply end_blk_ret | apply run_skip | apply run_ret | apply run_exit | (apply run_region (by decide); (simp (maxSteps := 9999999) only [go_sem]; rfl)) | (apply run_regionN (by decide); (simp (maxSteps := 9999999) only [go_sem]; rfl)) | (refine run_cond_t ?_ ?_; · simp only [go_sem]) | (refine run_cond_f ?_ ?_; · simp only [go_sem]))
    exact end_nil ⟨_, ⟨h3, f3, rfl, S3, W2.trans W3, O3⟩, q_free [] rfl rfl rfl rfl (fun _ => rfl) (by rw [List.take_of_length_le]; rw [S3.len, S.len]; exact Nat.le_refl _) rfl⟩
  obtain ⟨r, ⟨h', f', rfl, k⟩, e⟩ := key
  exact ⟨h', f', e, k⟩
end
end Go.Proofs.YtdmfhdnpakgkpaaDoor.Sh


/- Sorting: reversing a range, breaking patterns, choosing a pivot. -/
namespace Go.Proofs.YtdmfhdnpakgkpaaDoor.Sh
open Go
set_option maxRecDepth 100000
set_option maxHeartbeats 4000000

section
variable {E : Type} {cel : E → List Value} {c : E → E → Int} {g : FuncId} {n B cap : Nat} {el : TypeId} {h0 : SHeap} {old0 : List Nat}

theorem rev_loopP (hl : ∀ x, (cel x).length = 2) (hc : ∀ x, (cel x).all sc = true) (hn : n ≤ 1000000) {a b : Nat} (hb : b ≤ n) (cx : Cx) (f0 : Nat → E) : ∀ k ρ ms h' d', (∃ (i j : Nat) (f : Nat → E), j - i = k ∧ a ≤ i ∧ i ≤ b ∧ a ≤ j + 1 ∧ j < b ∧ SA cel n B el h0 old0 h' f ∧ Sw a b f0 f ∧ ρ 0 = .slice (some ⟨B, 0, none⟩) n cap ∧ ρ 8 = .int .i64 i ∧ ρ 9 = .int .i64 j ∧ ms = [] ∧ d' = []) →
    LoopW M cx 6 sf94L0 ρ ms h' d' (fun ex ρ' ms' h' d' => ex = .exit 0 ∧ ms' = [] ∧ d' = [] ∧ ∃ f : Nat → E, SA cel n B el h0 old0 h' f ∧ Sw a b f0 f) := by
  refine loop_run _ ?_
  rintro k ρ ms h' d' ⟨i, j, f, hk, hai, hib, haj, hjb, S, W, r0, r8, r9, rfl, rfl⟩
  unfold sf94L0
  by_cases z : i < j
  · have e1 : (i : Int) < j := by omega
    have p1 : (0 : Int) ≤ (i : Int) := by omega
    have p2 : (i : Int) < n := by omega
    have p3 : (0 : Int) ≤ (j : Int) := by omega
    have p4 : (j : Int) < n := by omega
    have l1 := S.load hl (show i < n by omega)
    have l2 := S.load hl (show j < n by omega)
    obtain ⟨h1, h2, st1, st2, S2⟩ := S.swap hl hc (by decide) (show i < n by omega) (show j < n by omega)
    have w1 : IntKind.i64.wrap ((i : Int) + 1) = ((i + 1 : Nat) : Int) := by rw [wrap64 (by omega) (by omega)]; rfl
    have w2 : IntKind.i64.wrap ((j : Int) - 1) = ((j - 1 : Nat) : Int) := by rw [wrap64 (by omega) (by omega)]; omega
    repeat (first | apply run_seq | apply run_block | apply end_seq | apply end_blk_hit | apply end_blk_miss rfl | apply end_blk | apply end_seq_exit | apply end_seq_ret | apply end_blk_ret | apply run_skip | apply run_ret | apply run_exit | (apply run_region (by decide); (simp (maxSteps := 9999999) only [go_sem, r0, r8, r9, e1, p1, p2, p3, p4, l1, l2, hl, ↓st1, ↓st2, w1, w2]; rfl)) | (apply run_regionN (by decide); (simp (maxSteps := 9999999) only [go_sem, r0, r8, r9, e1, p1, p2, p3, p4, l1, l2, hl, ↓st1, ↓st2, w1, w2]; rfl)) | (refine run_cond_t ?_ ?_; · simp only [go_sem]) | (refine run_cond_f ?_ ?_; · simp only [go_sem]))
    refine end_nil ⟨j - 1 - (i + 1), by omega, i + 1, j - 1, _, rfl, by omega, by omega, by omega, by omega, S2, W.step (by omega) (by omega) (by omega) (by omega), ?_, ?_, ?_, rfl, rfl⟩
    · simp (maxSteps := 9999999) only [go_sem, r0]
    · simp (maxSteps := 9999999) only [go_sem, w1]
    · simp (maxSteps := 9999999) only [go_sem, w2]
  · have e1 : ¬ (i : Int) < j := by omega
    repeat (first | apply run_seq | apply run_block | apply end_seq | apply end_blk_hit | apply end_blk_miss rfl | apply end_blk | apply end_seq_exit | apply end_seq_ret | apply end_blk_ret | apply run_skip | apply run_ret | apply run_exit | (apply run_region (by decide); (simp (maxSteps := 9999999) only [go_sem, r0, r8, r9, e1]; rfl)) | (apply run_regionN (by decide); (simp (maxSteps := 9999999) only [go_sem, r0, r8, r9, e1]; rfl)) | (refine run_cond_t ?_ ?_; · simp only [go_sem]) | (refine run_cond_f ?_ ?_; · simp only [go_sem]))
    exact end_nil ⟨rfl, rfl, rfl, f, S, W⟩
/-- reverseRange -/
theorem revP (hl : ∀ x, (cel x).length = 2) (hc : ∀ x, (cel x).all sc = true) (hn : n ≤ 1000000) {a b : Nat} (hab : a < b) (hb : b ≤ n) (cf : Value) {h : SHeap} {f : Nat → E} (S : SA cel n B el h0 old0 h f) :
    ∃ h' f', M.call 94 [.slice (some ⟨B, 0, none⟩) n cap, .int .i64 a, .int .i64 b, cf] h = some (.tuple #[], h', []) ∧ SA cel n B el h0 old0 h' f' ∧ Sw a b f f' := by
  have key : ∃ r, (∃ h' f', r = (Value.tuple #[], h', ([] : List Nat)) ∧ SA cel n B el h0 old0 h' f' ∧ Sw a b f f') ∧ M.call 94 [.slice (some ⟨B, 0, none⟩) n cap, .int .i64 a, .int .i64 b, cf] h = some r := by
    refine call_ex (f := 94) _ sf94 rfl rfl rfl ?_
    unfold sf94
    have w1 : IntKind.i64.wrap ((b : Int) - 1) = ((b - 1 : Nat) : Int) := by rw [wrap64 (by omega) (by omega)]; omega
    repeat (first | apply run_seq | apply run_block | apply end_seq | apply end_blk_hit | apply end_blk_miss rfl | apply end_blk | apply end_seq_exit | apply end_seq_ret | apply end_blk_ret | apply run_skip | apply run_ret | apply run_exit | (apply run_region (by decide); (simp (maxSteps := 9999999) only [go_sem, argR, w1]; rfl)) | (apply run_regionN (by decide); (simp (maxSteps := 9999999) only [go_sem, argR, w1]; rfl)) | (refine run_cond_t ?_ ?_; · simp only [go_sem]) | (refine run_cond_f ?_ ?_; · simp only [go_sem]))
    refine run_loop (rev_loopP (cap := cap) (el := el) (h0 := h0) (old0 := old0) hl hc hn (a := a) hb _ f (b - 1 - a) _ _ _ _ ⟨a, b - 1, f, rfl, Nat.le_refl _, by omega, by omega, by omega, S, .refl, ?_, ?_, ?_, rfl, rfl⟩) ?_
    · simp (maxSteps := 9999999) only [go_sem, argR]
    · simp (maxSteps := 9999999) only [go_sem, argR]
    · simp (maxSteps := 9999999) only [go_sem, w1]
    rintro ex ρ' ms' h1 d1 ⟨rfl, rfl, rfl, f2, S2, W2⟩
    repeat (first | apply run_seq | apply run_block | apply end_seq | apply end_blk_hit | apply end_blk_miss rfl | apply end_blk | apply end_seq_exit | apply end_seq_ret | apply end_blk_ret | apply run_skip | apply run_ret | apply run_exit | (apply run_region (by decide); (simp (maxSteps := 9999999) only [go_sem]; rfl)) | (apply run_regionN (by decide); (simp (maxSteps := 9999999) only [go_sem]; rfl)) | (refine run_cond_t ?_ ?_; · simp only [go_sem]) | (refine run_cond_f ?_ ?_; · simp only [go_sem]))
    exact end_nil ⟨_, ⟨h1, f2, rfl, S2, W2⟩, q_free [] rfl rfl rfl rfl (fun _ => rfl) (by rw [List.take_of_length_le]; rw [S2.len, S.len]; exact Nat.le_refl _) rfl⟩
  obtain ⟨r, ⟨h', f', rfl, k⟩, e⟩ := key
  exact ⟨h', f', e, k⟩

/-! breaking patterns: the block behind all holds the random number -/
abbrev xb (z : Int) : SO := .cells [.int .u64 z] 117 true 0 []
theorem SA.rnd (hlow : ∀ c ∈ old0, c < h0.length) {h : SHeap} {f : Nat → E} {z : Int} (hB : B < h0.length) (S : SA cel n B el (h0 ++ [xb z]) old0 h f) : h[h0.length]? = some (xb z) := by
  rw [S.same _ (by omega) (fun e => by have := hlow _ e; omega), app_get0]; rfl
theorem SA.setR {h : SHeap} {f : Nat → E} {z : Int} (hB : B < h0.length) (S : SA cel n B el (h0 ++ [xb z]) old0 h f) (z' : Int) : SA cel n B el (h0 ++ [xb z']) old0 (h.set h0.length (xb z')) f := by
  have hl := S.len
  simp at hl
  refine ⟨by simp [hl], fun j h1 h2 => ?_, ?_⟩
  · by_cases e : j = h0.length
    · subst e; rw [List.getElem?_set_self (by omega), app_get0]; rfl
    · rw [List.getElem?_set_ne (by omega), S.same j h1 h2]
      by_cases e2 : j < h0.length
      · rw [List.getElem?_append_left e2, List.getElem?_append_left e2]
      · rw [List.getElem?_eq_none (by simp; omega), List.getElem?_eq_none (by simp; omega)]
  · obtain ⟨old, ho, e⟩ := S.at_
    exact ⟨old, ho, by rw [List.getElem?_set_ne (by omega)]; exact e⟩
theorem SA.cut {h : SHeap} {f : Nat → E} {x : SO} (hB : B < h0.length) (S : SA cel n B el (h0 ++ [x]) old0 h f) : SA cel n B el h0 old0 (h.take h0.length) f := by
  have hl := S.len
  simp at hl
  refine ⟨by simp; omega, fun j h1 h2 => ?_, ?_⟩
  · by_cases e2 : j < h0.length
    · rw [List.getElem?_take, if_pos e2, S.same j h1 h2, List.getElem?_append_left e2]
    · rw [List.getElem?_eq_none (by simp; omega), List.getElem?_eq_none (by omega)]
  · obtain ⟨old, ho, e⟩ := S.at_
    exact ⟨old, ho, by rw [List.getElem?_take, if_pos hB]; exact e⟩
theorem SA.grow {h : SHeap} {f : Nat → E} (S : SA cel n B el h0 old0 h f) (x : SO) : SA cel n B el (h0 ++ [x]) old0 (h ++ [x]) f := by
  have hl := S.len
  refine ⟨by simp [hl], fun j h1 h2 => ?_, ?_⟩
  · by_cases e2 : j < h0.length
    · rw [List.getElem?_append_left (by omega), List.getElem?_append_left e2, S.same j h1 h2]
    · by_cases e3 : j = h0.length
      · subst e3; rw [app_get0, ← hl, app_get0]
      · rw [List.getElem?_eq_none (by simp; omega), List.getElem?_eq_none (by simp; omega)]
  · obtain ⟨old, ho, e⟩ := S.at_
    exact ⟨old, ho, by rw [List.getElem?_append_left S.lt]; exact e⟩
theorem brk_loopP (hl : ∀ x, (cel x).length = 2) (hc : ∀ x, (cel x).all sc = true) (hn : n ≤ 60000) {a b : Nat} (hab : a + 8 ≤ b) (hb : b ≤ n) (hlow : ∀ c ∈ old0, c < h0.length) (hB : B < h0.length) (cx : Cx) (f0 : Nat → E) : ∀ k ρ ms h' d', (∃ (i : Nat) (z : Int) (f : Nat → E), a + (b - a) / 4 * 2 + 2 - i = k ∧ a + (b - a) / 4 * 2 ≤ i + 1 ∧ i ≤ a + (b - a) / 4 * 2 + 2 ∧ SA cel n B el (h0 ++ [xb z]) old0 h' f ∧ Sw a b f0 f ∧ ρ 0 = .slice (some ⟨B, 0, none⟩) n cap ∧ ρ 1 = .int .i64 a ∧ ρ 8 = .int .i64 ((b - a : Nat) : Int) ∧ ρ 9 = .pointer (some ⟨h0.length, 0, none⟩) ∧ ρ 10 = .int .u64 ((2 ^ lenB (b - a) : Nat) : Int) ∧ ρ 11 = .int .i64 i ∧ ms = [] ∧ d' = []) →
    LoopW M cx 7 sf92L0 ρ ms h' d' (fun ex ρ' ms' h' d' => ex = .exit 0 ∧ ms' = [] ∧ d' = [] ∧ ∃ (f : Nat → E) (z : Int), SA cel n B el (h0 ++ [xb z]) old0 h' f ∧ Sw a b f0 f) := by
  refine loop_run _ ?_
  rintro k ρ ms h' d' ⟨i, z, f, hk, hi1, hi2, S, W, r0, r1, r8, r9, r10, r11, rfl, rfl⟩
  obtain ⟨b1, b2, b3⟩ := lenB_p (n := b - a) (by omega)
  have b3 := b3 (by omega)
  generalize hP : 2 ^ lenB (b - a) = P at *
  have d4 : IntKind.i64.wrap (((b - a : Nat) : Int).tdiv 4) = (((b - a) / 4 : Nat) : Int) := by rw [Int.tdiv_eq_ediv_of_nonneg (by omega), wrap64 (by omega) (by omega)]; rfl
  have m4 : IntKind.i64.wrap ((((b - a) / 4 : Nat) : Int) * 2) = (((b - a) / 4 * 2 : Nat) : Int) := by rw [wrap64 (by omega) (by omega)]; rfl
  have a4 : IntKind.i64.wrap ((a : Int) + (((b - a) / 4 * 2 : Nat) : Int)) = ((a + (b - a) / 4 * 2 : Nat) : Int) := by rw [wrap64 (by omega) (by omega)]; rfl
  have a5 : IntKind.i64.wrap (((a + (b - a) / 4 * 2 : Nat) : Int) + 1) = ((a + (b - a) / 4 * 2 + 1 : Nat) : Int) := by rw [wrap64 (by omega) (by omega)]; rfl
  unfold sf92L0
  by_cases zi : i ≤ a + (b - a) / 4 * 2 + 1
  · have e1 : (i : Int) ≤ ((a + (b - a) / 4 * 2 + 1 : Nat) : Int) := by omega
    have cx112 := xs112 (S.rnd hlow hB)
    have S1 := S.setR hB (nxt z)
    have w1 : IntKind.u64.wrap ((P : Int) - 1) = ((P - 1 : Nat) : Int) := by rw [wrapU' (by omega) (by omega)]; omega
    obtain ⟨u1, u2⟩ := andU_le (nxt z) (b := P - 1) (by omega)
    obtain ⟨r, hr⟩ : ∃ r : Nat, andU (nxt z) ((P - 1 : Nat) : Int) = r := ⟨(andU (nxt z) ((P - 1 : Nat) : Int)).toNat, by omega⟩
    rw [hr] at u1 u2
    have w2 : IntKind.i64.wrap (r : Int) = r := wrap64 (by omega) (by omega)
    have ew : IntKind.i64.wrap ((i : Int) + 1) = ((i + 1 : Nat) : Int) := by rw [wrap64 (by omega) (by omega)]; rfl
    have p1 : (0 : Int) ≤ (i : Int) := by omega
    have p2 : (i : Int) < n := by omega
    have l1 := S1.load hl (show i < n by omega)
    by_cases q : b - a ≤ r
    · have e2 : ((b - a : Nat) : Int) ≤ r := by omega
      have w3 : IntKind.i64.wrap ((r : Int) - ((b - a : Nat) : Int)) = ((r - (b - a) : Nat) : Int) := by rw [wrap64 (by omega) (by omega)]; omega
      have w4 : IntKind.i64.wrap ((a : Int) + ((r - (b - a) : Nat) : Int)) = ((a + (r - (b - a)) : Nat) : Int) := by rw [wrap64 (by omega) (by omega)]; rfl
      have p3 : (0 : Int) ≤ ((a + (r - (b - a)) : Nat) : Int) := by omega
      have p4 : ((a + (r - (b - a)) : Nat) : Int) < n := by omega
      have l2 := S1.load hl (show a + (r - (b - a)) < n by omega)
      obtain ⟨h1, h2, st1, st2, S2⟩ := S1.swap hl hc (by decide) (show i < n by omega) (show a + (r - (b - a)) < n by omega)
      repeat (first | apply run_seq | apply run_block | apply end_seq | apply end_blk_hit | apply end_blk_miss rfl | apply end_blk | apply end_seq_exit | apply end_seq_ret | apply end_blk_ret | apply run_skip | apply run_ret | apply run_exit | (apply run_region (by decide); (simp (maxSteps := 9999999) only [go_sem, r0, r1, r8, r9, r10, r11, d4, m4, a4, a5, e1, cx112, w1, hr, w2, e2, w3, w4, p1, p2, p3, p4, l1, l2, hl, ↓st1, ↓st2, ew]; rfl)) | (apply run_regionN (by decide); (simp (maxSteps := 9999999) only [go_sem, r0, r1, r8, r9, r10, r11, d4, m4, a4, a5, e1, cx112, w1, hr, w2, e2, w3, w4, p1, p2, p3, p4, l1, l2, hl, ↓st1, ↓st2, ew]; rfl)) | (refine run_cond_t ?_ ?_; · simp only [go_sem]) | (refine run_cond_f ?_ ?_; · simp only [go_sem]))
      refine end_nil ⟨a + (b - a) / 4 * 2 + 2 - (i + 1), by omega, i + 1, nxt z, _, rfl, by omega, by omega, S2, W.step (by omega) (by omega) (by omega) (by omega), ?_, ?_, ?_, ?_, ?_, ?_, rfl, rfl⟩
      · simp (maxSteps := 9999999) only [go_sem, r0]
      · simp (maxSteps := 9999999) only [go_sem, r1]
      · simp (maxSteps := 9999999) only [go_sem, r8]
      · simp (maxSteps := 9999999) only [go_sem, r9]
      · simp (maxSteps := 9999999) only [go_sem, r10]
      · simp (maxSteps := 9999999) only [go_sem, ew]
    · have e2 : ¬ ((b - a : Nat) : Int) ≤ r := by omega
      have w4 : IntKind.i64.wrap ((a : Int) + (r : Int)) = ((a + r : Nat) : Int) := by rw [wrap64 (by omega) (by omega)]; rfl
      have p3 : (0 : Int) ≤ ((a + r : Nat) : Int) := by omega
      have p4 : ((a + r : Nat) : Int) < n := by omega
      have l2 := S1.load hl (show a + r < n by omega)
      obtain ⟨h1, h2, st1, st2, S2⟩ := S1.swap hl hc (by decide) (show i < n by omega) (show a + r < n by omega)
      repeat (first | apply run_seq | apply run_block | apply end_seq | apply end_blk_hit | apply end_blk_miss rfl | apply end_blk | apply end_seq_exit | apply end_seq_ret | apply end_blk_ret | apply run_skip | apply run_ret | apply run_exit | (apply run_region (by decide); (simp (maxSteps := 9999999) only [go_sem, r0, r1, r8, r9, r10, r11, d4, m4, a4, a5, e1, cx112, w1, hr, w2, e2, w4, p1, p2, p3, p4, l1, l2, hl, ↓st1, ↓st2, ew]; rfl)) | (apply run_regionN (by decide); (simp (maxSteps := 9999999) only [go_sem, r0, r1, r8, r9, r10, r11, d4, m4, a4, a5, e1, cx112, w1, hr, w2, e2, w4, p1, p2, p3, p4, l1, l2, hl, ↓st1, ↓st2, ew]; rfl)) | (refine run_cond_t ?_ ?_; · simp only [go_sem]) | (refine run_cond_f ?_ ?_; · simp only [go_sem]))
      refine end_nil ⟨a + (b - a) / 4 * 2 + 2 - (i + 1), by omega, i + 1, nxt z, _, rfl, by omega, by omega, S2, W.step (by omega) (by omega) (by omega) (by omega), ?_, ?_, ?_, ?_, ?_, ?_, rfl, rfl⟩
      · simp (maxSteps := 9999999) only [go_sem, r0]
      · simp (maxSteps := 9999999) only [go_sem, r1]
      · simp (maxSteps := 9999999) only [go_sem, r8]
      · simp (maxSteps := 9999999) only [go_sem, r9]
      · simp (maxSteps := 9999999) only [go_sem, r10]
      · simp (maxSteps := 9999999) only [go_sem, ew]
  · have e1 : ¬ (i : Int) ≤ ((a + (b - a) / 4 * 2 + 1 : Nat) : Int) := by omega
    repeat (first | apply run_seq | apply run_block | apply end_seq | apply end_blk_hit | apply end_blk_miss rfl | apply end_blk | apply end_seq_exit | apply end_seq_ret | apply end_blk_ret | apply run_skip | apply run_ret | apply run_exit | (apply run_region (by decide); (simp (maxSteps := 9999999) only [go_sem, r0, r1, r8, r9, r10, r11, d4, m4, a4, a5, e1]; rfl)) | (apply run_regionN (by decide); (simp (maxSteps := 9999999) only [go_sem, r0, r1, r8, r9, r10, r11, d4, m4, a4, a5, e1]; rfl)) | (refine run_cond_t ?_ ?_; · simp only [go_sem]) | (refine run_cond_f ?_ ?_; · simp only [go_sem]))
    exact end_nil ⟨rfl, rfl, rfl, f, z, S, W⟩
/-- breakPatterns -/
theorem brkP (hl : ∀ x, (cel x).length = 2) (hc : ∀ x, (cel x).all sc = true) (hn : n ≤ 60000) {a b : Nat} (hab : a + 8 ≤ b) (hb : b ≤ n) (hlow : ∀ c ∈ old0, c < h0.length) (cf : Value) {h : SHeap} {f : Nat → E} (S : SA cel n B el h0 old0 h f) :
    ∃ h' f', M.call 92 [.slice (some ⟨B, 0, none⟩) n cap, .int .i64 a, .int .i64 b, cf] h = some (.tuple #[], h', []) ∧ SA cel n B el h0 old0 h' f' ∧ Sw a b f f' := by
  have hB := S.lt
  have hln := S.len
  have key : ∃ r, (∃ h' f', r = (Value.tuple #[], h', ([] : List Nat)) ∧ SA cel n B el h0 old0 h' f' ∧ Sw a b f f') ∧ M.call 92 [.slice (some ⟨B, 0, none⟩) n cap, .int .i64 a, .int .i64 b, cf] h = some r := by
    refine call_ex (f := 92) _ sf92 rfl rfl rfl ?_
    unfold sf92
    have w1 : IntKind.i64.wrap ((b : Int) - (a : Int)) = ((b - a : Nat) : Int) := by rw [wrap64 (by omega) (by omega)]; omega
    have e1 : (8 : Int) ≤ ((b - a : Nat) : Int) := by omega
    have wu : IntKind.u64.wrap ((b - a : Nat) : Int) = ((b - a : Nat) : Int) := wrapU' (by omega) (by omega)
    have cnp := fun h => np111 (n := b - a) (by omega) h
    have d4 : IntKind.i64.wrap (((b - a : Nat) : Int).tdiv 4) = (((b - a) / 4 : Nat) : Int) := by rw [Int.tdiv_eq_ediv_of_nonneg (by omega), wrap64 (by omega) (by omega)]; rfl
    have m4 : IntKind.i64.wrap ((((b - a) / 4 : Nat) : Int) * 2) = (((b - a) / 4 * 2 : Nat) : Int) := by rw [wrap64 (by omega) (by omega)]; rfl
    have a4 : IntKind.i64.wrap ((a : Int) + (((b - a) / 4 * 2 : Nat) : Int)) = ((a + (b - a) / 4 * 2 : Nat) : Int) := by rw [wrap64 (by omega) (by omega)]; rfl
    have a5 : IntKind.i64.wrap (((a + (b - a) / 4 * 2 : Nat) : Int) - 1) = ((a + (b - a) / 4 * 2 - 1 : Nat) : Int) := by rw [wrap64 (by omega) (by omega)]; omega
    repeat (first | apply run_seq | apply run_block | apply end_seq | apply end_blk_hit | apply end_blk_miss rfl | apply end_blk | apply end_seq_exit | apply end_seq_ret | apply end_blk_ret | apply run_skip | apply run_ret | apply run_exit | (apply run_region (by decide); (simp (maxSteps := 9999999) only [go_sem, argR, w1, e1, wu, cnp, d4, m4, a4, a5]; rfl)) | (apply run_regionN (by decide); (simp (maxSteps := 9999999) only [go_sem, argR, w1, e1, wu, cnp, d4, m4, a4, a5]; rfl)) | (refine run_cond_t ?_ ?_; · simp only [go_sem]) | (refine run_cond_f ?_ ?_; · simp only [go_sem]))
    refine run_loop (brk_loopP (cap := cap) (el := el) (h0 := h0) (old0 := old0) hl hc hn hab hb hlow (by omega) _ f (a + (b - a) / 4 * 2 + 2 - (a + (b - a) / 4 * 2 - 1)) _ _ _ _ ⟨a + (b - a) / 4 * 2 - 1, ((b - a : Nat) : Int), f, rfl, by omega, by omega, S.grow _, .refl, ?_, ?_, ?_, ?_, ?_, ?_, rfl, rfl⟩) ?_
    · simp (maxSteps := 9999999) only [go_sem, argR]
    · simp (maxSteps := 9999999) only [go_sem, argR]
    · simp (maxSteps := 9999999) only [go_sem]
    · simp (maxSteps := 9999999) only [go_sem]; rw [hln]
    · simp (maxSteps := 9999999) only [go_sem]
    · simp (maxSteps := 9999999) only [go_sem]
    rintro ex ρ' ms' h1 d1 ⟨rfl, rfl, rfl, f2, z, S2, W2⟩
    repeat (first | apply run_seq | apply run_block | apply end_seq | apply end_blk_hit | apply end_blk_miss rfl | apply end_blk | apply end_seq_exit | apply end_seq_ret | apply end_blk_ret | apply run_skip | apply run_ret | apply run_exit | (apply run_region (by decide); (simp (maxSteps := 9999999) only [go_sem]; rfl)) | (apply run_regionN (by decide); (simp (maxSteps := 9999999) only [go_sem]; rfl)) | (refine run_cond_t ?_ ?_; · simp only [go_sem]) | (refine run_cond_f ?_ ?_; · simp only [go_sem]))
    exact end_nil ⟨_, ⟨h1.take h0.length, f2, rfl, S2.cut (by omega), W2⟩, q_free [] rfl rfl rfl rfl (fun _ => rfl) (by rw [hln]) rfl⟩
  obtain ⟨r, ⟨h', f', rfl, k⟩, e⟩ := key
  exact ⟨h', f', e, k⟩
end
end Go.Proofs.YtdmfhdnpakgkpaaDoor.Sh


/- Sorting: the pivot. -/
namespace Go.Proofs.YtdmfhdnpakgkpaaDoor.Sh
open Go
set_option maxRecDepth 100000
set_option maxHeartbeats 4000000

section
variable {E : Type} {cel : E → List Value} {c : E → E → Int} {g : FuncId} {n B cap R : Nat} {el : TypeId}
/-- the block B can be read as an array -/
def Rd (cel : E → List Value) (n B : Nat) (el : TypeId) (h : SHeap) (f : Nat → E) : Prop := ∃ old, h[B]? = some (.cells (flF cel f n) el true 0 old)
theorem Rd.load {h : SHeap} {f : Nat → E} {s : Nat} (S : Rd cel n B el h f) (hl : ∀ x, (cel x).length = s) {i : Nat} (hi : i < n) : loadS h (some s) (.pointer (some ⟨B, i * s, none⟩)) = some (.agg (cel (f i)).toArray) := by
  obtain ⟨old, e⟩ := S
  exact SA.load (h0 := h) (old0 := old) ⟨rfl, fun _ _ _ => rfl, old, fun _ h => h, e⟩ hl hi
theorem Rd.set {h : SHeap} {f : Nat → E} (S : Rd cel n B el h f) (hR : R ≠ B) (x : SO) : Rd cel n B el (h.set R x) f := by
  obtain ⟨old, e⟩ := S
  exact ⟨old, by rw [List.getElem?_set_ne hR]; exact e⟩
abbrev wb (w : Nat) : SO := .cells [.int .i64 w] 3 true 0 []
/-- order2 -/
theorem ordP (C : Cmp M g cel c) (hl : ∀ x, (cel x).length = 2) {h : SHeap} {f : Nat → E} (S : Rd cel n B el h f) (hRB : R ≠ B) {w : Nat} (hw : w ≤ 1000) (hR : h[R]? = some (wb w)) {i j : Nat} (hi : i < n) (hj : j < n) :
    ∃ p q w', ((p = i ∧ q = j) ∨ (p = j ∧ q = i)) ∧ w' ≤ w + 1 ∧ M.call 118 [.slice (some ⟨B, 0, none⟩) n cap, .int .i64 ((i : Nat) : Int), .int .i64 ((j : Nat) : Int), .pointer (some ⟨R, 0, none⟩), .func (.func g) #[] #[]] h = some (.tuple #[.int .i64 ((p : Nat) : Int), .int .i64 ((q : Nat) : Int)], h.set R (wb w'), []) := by
  have hlt : R < h.length := (List.getElem?_eq_some_iff.1 hR).1
  have p1 : (0 : Int) ≤ (i : Int) := by omega
  have p2 : (i : Int) < n := by omega
  have p3 : (0 : Int) ≤ (j : Int) := by omega
  have p4 : (j : Int) < n := by omega
  have l1 := S.load hl hi
  have l2 := S.load hl hj
  have cc := fun h => C.call (f j) (f i) h
  by_cases hlt2 : c (f j) (f i) < 0
  · refine ⟨j, i, w + 1, .inr ⟨rfl, rfl⟩, Nat.le_refl _, ?_⟩
    have l0 : loadS h none (.pointer (some ⟨R, 0, none⟩)) = some (.int .i64 w) := by rw [load_rdO, hR]; rfl
    have ew : IntKind.i64.wrap ((w : Int) + 1) = ((w + 1 : Nat) : Int) := by rw [wrap64 (by omega) (by omega)]; rfl
    refine call_run sf118 rfl rfl rfl ?_
    unfold sf118
    repeat (first | apply run_seq | apply run_block | apply end_seq | apply end_blk_hit | apply end_blk_miss rfl | apply end_blk | apply end_seq_exit | apply end_seq_ret | apply end_blk_ret | apply run_skip | apply run_ret | apply run_exit | (apply run_region (by decide); (simp (maxSteps := 9999999) only [go_sem, argR, p1, p2, p3, p4, l1, l2, cc, hlt2, l0, ew, hR]; rfl)) | (apply run_regionN (by decide); (simp (maxSteps := 9999999) only [go_sem, argR, p1, p2, p3, p4, l1, l2, cc, hlt2, l0, ew, hR]; rfl)) | (refine run_cond_t ?_ ?_; · simp only [go_sem]) | (refine run_cond_f ?_ ?_; · simp only [go_sem]))
    refine end_nil (q_free [.int .i64 j, .int .i64 i] (by simp (maxSteps := 9999999) only [go_sem]) rfl rfl rfl (fun _ => rfl) ?_ rfl)
    rw [List.take_of_length_le (by simp)]
  · refine ⟨i, j, w, .inl ⟨rfl, rfl⟩, by omega, ?_⟩
    have hs : h.set R (wb w) = h := by
      apply List.ext_getElem?
      intro k
      by_cases e : k = R
      · subst e; rw [List.getElem?_set_self hlt, hR]
      · rw [List.getElem?_set_ne (fun e2 => e e2.symm)]
    rw [hs]
    refine call_run sf118 rfl rfl rfl ?_
    unfold sf118
    repeat (first | apply run_seq | apply run_block | apply end_seq | apply end_blk_hit | apply end_blk_miss rfl | apply end_blk | apply end_seq_exit | apply end_seq_ret | apply end_blk_ret | apply run_skip | apply run_ret | apply run_exit | (apply run_region (by decide); (simp (maxSteps := 9999999) only [go_sem, argR, p1, p2, p3, p4, l1, l2, cc, hlt2]; rfl)) | (apply run_regionN (by decide); (simp (maxSteps := 9999999) only [go_sem, argR, p1, p2, p3, p4, l1, l2, cc, hlt2]; rfl)) | (refine run_cond_t ?_ ?_; · simp only [go_sem]) | (refine run_cond_f ?_ ?_; · simp only [go_sem]))
    exact end_nil (q_free [.int .i64 i, .int .i64 j] (by simp (maxSteps := 9999999) only [go_sem]) rfl rfl rfl (fun _ => rfl) (take_self _) rfl)
/-- median -/
theorem medP (C : Cmp M g cel c) (hl : ∀ x, (cel x).length = 2) {h : SHeap} {f : Nat → E} (S : Rd cel n B el h f) (hRB : R ≠ B) {w : Nat} (hw : w ≤ 500) (hR : h[R]? = some (wb w)) {i j k : Nat} (hi : i < n) (hj : j < n) (hk : k < n) :
    ∃ m w', (m = i ∨ m = j ∨ m = k) ∧ w' ≤ w + 3 ∧ M.call 114 [.slice (some ⟨B, 0, none⟩) n cap, .int .i64 ((i : Nat) : Int), .int .i64 ((j : Nat) : Int), .int .i64 ((k : Nat) : Int), .pointer (some ⟨R, 0, none⟩), .func (.func g) #[] #[]] h = some (.int .i64 ((m : Nat) : Int), h.set R (wb w'), []) := by
  have hlt : R < h.length := (List.getElem?_eq_some_iff.1 hR).1
  obtain ⟨i1, j1, w1, a1, b1, e1⟩ := ordP (cap := cap) C hl S hRB (by omega) hR hi hj
  have S1 := S.set hRB (wb w1)
  have g1 : (h.set R (wb w1))[R]? = some (wb w1) := List.getElem?_set_self hlt
  have hi1 : i1 < n := by omega
  have hj1 : j1 < n := by omega
  obtain ⟨j2, k2, w2, a2, b2, e2⟩ := ordP (cap := cap) C hl S1 hRB (by omega) g1 hj1 hk
  rw [List.set_set] at e2
  have S2 := S.set hRB (wb w2)
  have g2 : (h.set R (wb w2))[R]? = some (wb w2) := List.getElem?_set_self hlt
  have hj2 : j2 < n := by omega
  obtain ⟨i3, j3, w3, a3, b3, e3⟩ := ordP (cap := cap) C hl S2 hRB (by omega) g2 hi1 hj2
  rw [List.set_set] at e3
  refine ⟨j3, w3, by omega, by omega, ?_⟩
  refine call_run sf114 rfl rfl rfl ?_
  unfold sf114
  repeat (first | apply run_seq | apply run_block | apply end_seq | apply end_blk_hit | apply end_blk_miss rfl | apply end_blk | apply end_seq_exit | apply end_seq_ret | apply end_blk_ret | apply run_skip | apply run_ret | apply run_exit | (apply run_region (by decide); (simp (maxSteps := 9999999) only [go_sem, argR, e1, e2, e3]; rfl)) | (apply run_regionN (by decide); (simp (maxSteps := 9999999) only [go_sem, argR, e1, e2, e3]; rfl)) | (refine run_cond_t ?_ ?_; · simp only [go_sem]) | (refine run_cond_f ?_ ?_; · simp only [go_sem]))
  refine end_nil (q_free [.int .i64 j3] (by simp (maxSteps := 9999999) only [go_sem]) rfl rfl rfl (fun _ => rfl) ?_ rfl)
  rw [List.take_of_length_le (by simp)]
/-- medianAdjacent -/
theorem madjP (C : Cmp M g cel c) (hl : ∀ x, (cel x).length = 2) {h : SHeap} {f : Nat → E} (S : Rd cel n B el h f) (hRB : R ≠ B) {w : Nat} (hw : w ≤ 500) (hR : h[R]? = some (wb w)) {i : Nat} (h1 : 1 ≤ i) (hi : i + 1 < n) (hn : n ≤ 1000000) :
    ∃ m w', (m + 1 = i ∨ m = i ∨ m = i + 1) ∧ w' ≤ w + 3 ∧ M.call 113 [.slice (some ⟨B, 0, none⟩) n cap, .int .i64 ((i : Nat) : Int), .pointer (some ⟨R, 0, none⟩), .func (.func g) #[] #[]] h = some (.int .i64 ((m : Nat) : Int), h.set R (wb w'), []) := by
  obtain ⟨m, w', a, b, e⟩ := medP (cap := cap) C hl S hRB hw hR (show i - 1 < n by omega) (show i < n by omega) hi
  refine ⟨m, w', by omega, b, ?_⟩
  have w1 : IntKind.i64.wrap ((i : Int) - 1) = ((i - 1 : Nat) : Int) := by rw [wrap64 (by omega) (by omega)]; omega
  have w2 : IntKind.i64.wrap ((i : Int) + 1) = ((i + 1 : Nat) : Int) := by rw [wrap64 (by omega) (by omega)]; rfl
  refine call_run sf113 rfl rfl rfl ?_
  unfold sf113
  repeat (first | apply run_seq | apply run_block | apply end_seq | apply end_blk_hit | apply end_blk_miss rfl | apply end_blk | apply end_seq_exit | apply end_seq_ret | apply end_blk_ret | apply run_skip | apply run_ret | apply run_exit | (apply run_region (by decide); (simp (maxSteps := 9999999) only [go_sem, argR, w1, w2, e]; rfl)) | (apply run_regionN (by decide); (simp (maxSteps := 9999999) only [go_sem, argR, w1, w2, e]; rfl)) | (refine run_cond_t ?_ ?_; · simp only [go_sem]) | (refine run_cond_f ?_ ?_; · simp only [go_sem]))
  refine end_nil (q_free [.int .i64 m] (by simp (maxSteps := 9999999) only [go_sem]) rfl rfl rfl (fun _ => rfl) ?_ rfl)
  rw [List.take_of_length_le (by simp)]
/-- choosePivot -/
theorem pivP (C : Cmp M g cel c) (hl : ∀ x, (cel x).length = 2) (hn : n ≤ 1000000) {h : SHeap} {f : Nat → E} (S : Rd cel n B el h f) {a b : Nat} (hab : a + 13 ≤ b) (hb : b ≤ n) :
    ∃ (p : Nat) (t : Int), a ≤ p ∧ p < b ∧ (t = 0 ∨ t = 1 ∨ t = 2) ∧ M.call 93 [.slice (some ⟨B, 0, none⟩) n cap, .int .i64 a, .int .i64 b, .func (.func g) #[] #[]] h = some (.tuple #[.int .i64 ((p : Nat) : Int), .int .i64 t], h, []) := by
  have hB : B < h.length := by obtain ⟨old, e⟩ := S; exact (List.getElem?_eq_some_iff.1 e).1
  have hRB : h.length ≠ B := by omega
  have q1 : 1 ≤ a + (b - a) / 4 := by omega
  have q2 : a + (b - a) / 4 + 1 < n := by omega
  have q3 : 1 ≤ a + (b - a) / 4 * 2 := by omega
  have q4 : a + (b - a) / 4 * 2 + 1 < n := by omega
  have q5 : 1 ≤ a + (b - a) / 4 * 3 := by omega
  have q6 : 50 ≤ b - a → a + (b - a) / 4 * 3 + 1 < n := by omega
  have q7 : a + (b - a) / 4 * 3 < n := by omega
  have r1 : ∀ i1 : Nat, (i1 + 1 = a + (b - a) / 4 ∨ i1 = a + (b - a) / 4 ∨ i1 = a + (b - a) / 4 + 1) → a ≤ i1 ∧ i1 < b ∧ i1 < n := by intro i1 h1; omega
  have r2 : ∀ i1 : Nat, (i1 + 1 = a + (b - a) / 4 * 2 ∨ i1 = a + (b - a) / 4 * 2 ∨ i1 = a + (b - a) / 4 * 2 + 1) → a ≤ i1 ∧ i1 < b ∧ i1 < n := by intro i1 h1; omega
  have r3 : ∀ i1 : Nat, 50 ≤ b - a → (i1 + 1 = a + (b - a) / 4 * 3 ∨ i1 = a + (b - a) / 4 * 3 ∨ i1 = a + (b - a) / 4 * 3 + 1) → a ≤ i1 ∧ i1 < b ∧ i1 < n := by intro i1 h0 h1; omega
  have r4 : ∀ m : Nat, (m = a + (b - a) / 4 ∨ m = a + (b - a) / 4 * 2 ∨ m = a + (b - a) / 4 * 3) → a ≤ m ∧ m < b := by intro m h1; omega
  have r5 : ∀ i j k m : Nat, (m = i ∨ m = j ∨ m = k) → (a ≤ i ∧ i < b ∧ i < n) → (a ≤ j ∧ j < b ∧ j < n) → (a ≤ k ∧ k < b ∧ k < n) → a ≤ m ∧ m < b := by intro i j k m h1 h2 h3 h4; omega
  have S0 : Rd cel n B el (h ++ [wb 0]) f := by obtain ⟨old, e⟩ := S; exact ⟨old, by rw [List.getElem?_append_left hB]; exact e⟩
  have g0 : (h ++ [wb 0])[h.length]? = some (wb 0) := by rw [app_get0]; rfl
  have hset : ∀ w x, (h ++ [wb w]).set h.length x = h ++ [x] := fun w x => by rw [app_set0]; rfl
  have w1 : IntKind.i64.wrap ((b : Int) - (a : Int)) = ((b - a : Nat) : Int) := by rw [wrap64 (by omega) (by omega)]; omega
  have d4 : IntKind.i64.wrap (((b - a : Nat) : Int).tdiv 4) = (((b - a) / 4 : Nat) : Int) := by rw [Int.tdiv_eq_ediv_of_nonneg (by omega), wrap64 (by omega) (by omega)]; rfl
  have m1 : IntKind.i64.wrap (((b - a) / 4 : Nat) : Int) = (((b - a) / 4 : Nat) : Int) := wrap64 (by omega) (by omega)
  have m2 : IntKind.i64.wrap ((((b - a) / 4 : Nat) : Int) * 2) = (((b - a) / 4 * 2 : Nat) : Int) := by rw [wrap64 (by omega) (by omega)]; rfl
  have m3 : IntKind.i64.wrap ((((b - a) / 4 : Nat) : Int) * 3) = (((b - a) / 4 * 3 : Nat) : Int) := by rw [wrap64 (by omega) (by omega)]; rfl
  have a1 : IntKind.i64.wrap ((a : Int) + (((b - a) / 4 : Nat) : Int)) = ((a + (b - a) / 4 : Nat) : Int) := by rw [wrap64 (by omega) (by omega)]; rfl
  have a2 : IntKind.i64.wrap ((a : Int) + (((b - a) / 4 * 2 : Nat) : Int)) = ((a + (b - a) / 4 * 2 : Nat) : Int) := by rw [wrap64 (by omega) (by omega)]; rfl
  have a3 : IntKind.i64.wrap ((a : Int) + (((b - a) / 4 * 3 : Nat) : Int)) = ((a + (b - a) / 4 * 3 : Nat) : Int) := by rw [wrap64 (by omega) (by omega)]; rfl
  have e8 : (8 : Int) ≤ ((b - a : Nat) : Int) := by omega
  have mul1 : ∀ z : Int, z * 1 = z := Int.mul_one
  have key : ∃ r, (∃ (p : Nat) (t : Int), a ≤ p ∧ p < b ∧ (t = 0 ∨ t = 1 ∨ t = 2) ∧ r = (Value.tuple #[.int .i64 ((p : Nat) : Int), .int .i64 t], h, ([] : List Nat))) ∧ M.call 93 [.slice (some ⟨B, 0, none⟩) n cap, .int .i64 a, .int .i64 b, .func (.func g) #[] #[]] h = some r := by
    refine call_ex (f := 93) _ sf93 rfl rfl rfl ?_
    unfold sf93
    by_cases c50 : 50 ≤ b - a
    · have e50 : (50 : Int) ≤ ((b - a : Nat) : Int) := by omega
      obtain ⟨i1, v1, x1, y1, z1⟩ := madjP (cap := cap) (w := 0) C hl S0 hRB (by decide) g0 q1 q2 hn
      rw [hset] at z1
      have S1 : Rd cel n B el (h ++ [wb v1]) f := by obtain ⟨old, e⟩ := S; exact ⟨old, by rw [List.getElem?_append_left hB]; exact e⟩
      obtain ⟨i2, v2, x2, y2, z2⟩ := madjP (cap := cap) (w := v1) C hl S1 hRB (Nat.le_trans y1 (by decide)) (by rw [app_get0]; rfl) q3 q4 hn
      rw [hset] at z2
      have S2 : Rd cel n B el (h ++ [wb v2]) f := by obtain ⟨old, e⟩ := S; exact ⟨old, by rw [List.getElem?_append_left hB]; exact e⟩
      obtain ⟨i3, v3, x3, y3, z3⟩ := madjP (cap := cap) (w := v2) C hl S2 hRB (Nat.le_trans y2 (Nat.le_trans (Nat.add_le_add_right y1 3) (by decide))) (by rw [app_get0]; rfl) q5 (q6 c50) hn
      rw [hset] at z3
      have S3 : Rd cel n B el (h ++ [wb v3]) f := by obtain ⟨old, e⟩ := S; exact ⟨old, by rw [List.getElem?_append_left hB]; exact e⟩
      obtain ⟨p, v4, x4, y4, z4⟩ := medP (cap := cap) (w := v3) C hl S3 hRB (Nat.le_trans y3 (Nat.le_trans (Nat.add_le_add_right (Nat.le_trans y2 (Nat.add_le_add_right y1 3)) 3) (by decide))) (by rw [app_get0]; rfl) (r1 _ x1).2.2 (r2 _ x2).2.2 (r3 _ c50 x3).2.2
      rw [hset] at z4
      have hp := r5 _ _ _ _ x4 (r1 _ x1) (r2 _ x2) (r3 _ c50 x3)
      have n0 : ((0 : Nat) : Int) = 0 := rfl
      simp only [wb, n0] at z1
      repeat (first | apply run_seq | apply run_block | apply end_seq | apply end_blk_hit | apply end_blk_miss rfl | apply end_blk | apply end_seq_exit | apply end_seq_ret | apply end_blk_ret | apply run_skip | apply run_ret | apply run_exit | (apply run_region (by decide); (simp (maxSteps := 9999999) only [go_sem, argR, w1, d4, m1, m2, m3, mul1, a1, a2, a3, e8, e50, z1, z2, z3, z4]; rfl)) | (apply run_regionN (by decide); (simp (maxSteps := 9999999) only [go_sem, argR, w1, d4, m1, m2, m3, mul1, a1, a2, a3, e8, e50, z1, z2, z3, z4]; rfl)) | (refine run_cond_t ?_ ?_; · simp only [go_sem]) | (refine run_cond_f ?_ ?_; · simp only [go_sem]))
      by_cases t0 : v4 = 0
      · have t0' : (((v4 : Nat) : Int) = 0) = True := eq_true (by rw [t0]; rfl)
        refine run_cond_t (by simp (maxSteps := 9999999) only [go_sem, t0']) ?_
        repeat (first | apply run_seq | apply run_block | apply end_seq | apply end_blk_hit | apply end_blk_miss rfl | apply end_blk | apply end_seq_exit | apply end_seq_ret | apply end_blk_ret | apply run_skip | apply run_ret | apply run_exit | (apply run_region (by decide); (simp (maxSteps := 9999999) only [go_sem]; rfl)) | (apply run_regionN (by decide); (simp (maxSteps := 9999999) only [go_sem]; rfl)) | (refine run_cond_t ?_ ?_; · simp only [go_sem]) | (refine run_cond_f ?_ ?_; · simp only [go_sem]))
        exact end_nil ⟨_, ⟨p, 1, hp.1, hp.2, .inr (.inl rfl), rfl⟩, q_free [.int .i64 p, .int .i64 1] (by simp (maxSteps := 9999999) only [go_sem]) rfl rfl rfl (fun _ => rfl) (take_app _ _) rfl⟩
      · have t0' : (((v4 : Nat) : Int) = 0) = False := eq_false (fun e => t0 (Int.ofNat.inj e))
        refine run_cond_f (by simp (maxSteps := 9999999) only [go_sem, t0']) ?_
        repeat (first | apply run_seq | apply run_block | apply end_seq | apply end_blk_hit | apply end_blk_miss rfl | apply end_blk | apply end_seq_exit | apply end_seq_ret | apply end_blk_ret | apply run_skip | apply run_ret | apply run_exit | (apply run_region (by decide); (simp (maxSteps := 9999999) only [go_sem]; rfl)) | (apply run_regionN (by decide); (simp (maxSteps := 9999999) only [go_sem]; rfl)) | (refine run_cond_t ?_ ?_; · simp only [go_sem]) | (refine run_cond_f ?_ ?_; · simp only [go_sem]))
        by_cases t1 : v4 = 12
        · have t1' : (((v4 : Nat) : Int) = 12) = True := eq_true (by rw [t1]; rfl)
          refine run_cond_t (by simp (maxSteps := 9999999) only [go_sem, t1']) ?_
          repeat (first | apply run_seq | apply run_block | apply end_seq | apply end_blk_hit | apply end_blk_miss rfl | apply end_blk | apply end_seq_exit | apply end_seq_ret | apply end_blk_ret | apply run_skip | apply run_ret | apply run_exit | (apply run_region (by decide); (simp (maxSteps := 9999999) only [go_sem]; rfl)) | (apply run_regionN (by decide); (simp (maxSteps := 9999999) only [go_sem]; rfl)) | (refine run_cond_t ?_ ?_; · simp only [go_sem]) | (refine run_cond_f ?_ ?_; · simp only [go_sem]))
          exact end_nil ⟨_, ⟨p, 2, hp.1, hp.2, .inr (.inr rfl), rfl⟩, q_free [.int .i64 p, .int .i64 2] (by simp (maxSteps := 9999999) only [go_sem]) rfl rfl rfl (fun _ => rfl) (take_app _ _) rfl⟩
        · have t1' : (((v4 : Nat) : Int) = 12) = False := eq_false (fun e => t1 (Int.ofNat.inj e))
          refine run_cond_f (by simp (maxSteps := 9999999) only [go_sem, t1']) ?_
          repeat (first | apply run_seq | apply run_block | apply end_seq | apply end_blk_hit | apply end_blk_miss rfl | apply end_blk | apply end_seq_exit | apply end_seq_ret | apply end_blk_ret | apply run_skip | apply run_ret | apply run_exit | (apply run_region (by decide); (simp (maxSteps := 9999999) only [go_sem]; rfl)) | (apply run_regionN (by decide); (simp (maxSteps := 9999999) only [go_sem]; rfl)) | (refine run_cond_t ?_ ?_; · simp only [go_sem]) | (refine run_cond_f ?_ ?_; · simp only [go_sem]))
          exact end_nil ⟨_, ⟨p, 0, hp.1, hp.2, .inl rfl, rfl⟩, q_free [.int .i64 p, .int .i64 0] (by simp (maxSteps := 9999999) only [go_sem]) rfl rfl rfl (fun _ => rfl) (take_app _ _) rfl⟩
    · have e50 : ¬ (50 : Int) ≤ ((b - a : Nat) : Int) := by omega
      obtain ⟨p, v4, x4, y4, z4⟩ := medP (cap := cap) (w := 0) C hl S0 hRB (by decide) g0 (i := a + (b - a) / 4) (j := a + (b - a) / 4 * 2) (k := a + (b - a) / 4 * 3) (Nat.lt_of_succ_lt q2) (Nat.lt_of_succ_lt q4) q7
      have hp := r4 _ x4
      rw [hset] at z4
      have n0 : ((0 : Nat) : Int) = 0 := rfl
      simp only [wb, n0] at z4
      repeat (first | apply run_seq | apply run_block | apply end_seq | apply end_blk_hit | apply end_blk_miss rfl | apply end_blk | apply end_seq_exit | apply end_seq_ret | apply end_blk_ret | apply run_skip | apply run_ret | apply run_exit | (apply run_region (by decide); (simp (maxSteps := 9999999) only [go_sem, argR, w1, d4, m1, m2, m3, mul1, a1, a2, a3, e8, e50, z4]; rfl)) | (apply run_regionN (by decide); (simp (maxSteps := 9999999) only [go_sem, argR, w1, d4, m1, m2, m3, mul1, a1, a2, a3, e8, e50, z4]; rfl)) | (refine run_cond_t ?_ ?_; · simp only [go_sem]) | (refine run_cond_f ?_ ?_; · simp only [go_sem]))
      by_cases t0 : v4 = 0
      · have t0' : (((v4 : Nat) : Int) = 0) = True := eq_true (by rw [t0]; rfl)
        refine run_cond_t (by simp (maxSteps := 9999999) only [go_sem, t0']) ?_
        repeat (first | apply run_seq | apply run_block | apply end_seq | apply end_blk_hit | apply end_blk_miss rfl | apply end_blk | apply end_seq_exit | apply end_seq_ret | apply end_blk_ret | apply run_skip | apply run_ret | apply run_exit | (apply run_region (by decide); (simp (maxSteps := 9999999) only [go_sem]; rfl)) | (apply run_regionN (by decide); (simp (maxSteps := 9999999) only [go_sem]; rfl)) | (refine run_cond_t ?_ ?_; · simp only [go_sem]) | (refine run_cond_f ?_ ?_; · simp only [go_sem]))
        exact end_nil ⟨_, ⟨p, 1, hp.1, hp.2, .inr (.inl rfl), rfl⟩, q_free [.int .i64 p, .int .i64 1] (by simp (maxSteps := 9999999) only [go_sem]) rfl rfl rfl (fun _ => rfl) (take_app _ _) rfl⟩
      · have t0' : (((v4 : Nat) : Int) = 0) = False := eq_false (fun e => t0 (Int.ofNat.inj e))
        refine run_cond_f (by simp (maxSteps := 9999999) only [go_sem, t0']) ?_
        repeat (first | apply run_seq | apply run_block | apply end_seq | apply end_blk_hit | apply end_blk_miss rfl | apply end_blk | apply end_seq_exit | apply end_seq_ret | apply end_blk_ret | apply run_skip | apply run_ret | apply run_exit | (apply run_region (by decide); (simp (maxSteps := 9999999) only [go_sem]; rfl)) | (apply run_regionN (by decide); (simp (maxSteps := 9999999) only [go_sem]; rfl)) | (refine run_cond_t ?_ ?_; · simp only [go_sem]) | (refine run_cond_f ?_ ?_; · simp only [go_sem]))
        by_cases t1 : v4 = 12
        · have t1' : (((v4 : Nat) : Int) = 12) = True := eq_true (by rw [t1]; rfl)
          refine run_cond_t (by simp (maxSteps := 9999999) only [go_sem, t1']) ?_
          repeat (first | apply run_seq | apply run_block | apply end_seq | apply end_blk_hit | apply end_blk_miss rfl | apply end_blk | apply end_seq_exit | apply end_seq_ret | apply end_blk_ret | apply run_skip | apply run_ret | apply run_exit | (apply run_region (by decide); (simp (maxSteps := 9999999) only [go_sem]; rfl)) | (apply run_regionN (by decide); (simp (maxSteps := 9999999) only [go_sem]; rfl)) | (refine run_cond_t ?_ ?_; · simp only [go_sem]) | (refine run_cond_f ?_ ?_; · simp only [go_sem]))
          exact end_nil ⟨_, ⟨p, 2, hp.1, hp.2, .inr (.inr rfl), rfl⟩, q_free [.int .i64 p, .int .i64 2] (by simp (maxSteps := 9999999) only [go_sem]) rfl rfl rfl (fun _ => rfl) (take_app _ _) rfl⟩
        · have t1' : (((v4 : Nat) : Int) = 12) = False := eq_false (fun e => t1 (Int.ofNat.inj e))
          refine run_cond_f (by simp (maxSteps := 9999999) only [go_sem, t1']) ?_
          repeat (first | apply run_seq | apply run_block | apply end_seq | apply end_blk_hit | apply end_blk_miss rfl | apply end_blk | apply end_seq_exit | apply end_seq_ret | apply end_blk_ret | apply run_skip | apply run_ret | apply run_exit | (apply run_region (by decide); (simp (maxSteps := 9999999) only [go_sem]; rfl)) | (apply run_regionN (by decide); (simp (maxSteps := 9999999) only [go_sem]; rfl)) | (refine run_cond_t ?_ ?_; · simp only [go_sem]) | (refine run_cond_f ?_ ?_; · simp only [go_sem]))
          exact end_nil ⟨_, ⟨p, 0, hp.1, hp.2, .inl rfl, rfl⟩, q_free [.int .i64 p, .int .i64 0] (by simp (maxSteps := 9999999) only [go_sem]) rfl rfl rfl (fun _ => rfl) (take_app _ _) rfl⟩
  obtain ⟨r, ⟨p, t, x1, x2, x3, rfl⟩, e⟩ := key
  exact ⟨p, t, x1, x2, x3, e⟩
end
end Go.Proofs.YtdmfhdnpakgkpaaDoor.Sh


/- Sorting: nearly sorted ranges. -/
namespace Go.Proofs.YtdmfhdnpakgkpaaDoor.Sh
open Go
set_option maxRecDepth 100000
set_option maxHeartbeats 4000000

section
variable {E : Type} {cel : E → List Value} {c : E → E → Int} {g : FuncId} {n B cap : Nat} {el : TypeId} {h0 : SHeap} {old0 : List Nat}
/-- the registers that all loops keep -/
def PK (n B cap : Nat) (g : FuncId) (a b : Nat) (ρ : Reg) : Prop := ρ 0 = .slice (some ⟨B, 0, none⟩) n cap ∧ ρ 1 = .int .i64 a ∧ ρ 2 = .int .i64 b ∧ ρ 3 = .func (.func g) #[] #[]

theorem pinA_loopP (C : Cmp M g cel c) (hl : ∀ x, (cel x).length = 2) (hn : n ≤ 1000000) {a b : Nat} (hb : b ≤ n) (cx : Cx) {h : SHeap} {f : Nat → E} (S : SA cel n B el h0 old0 h f) (t : Int) : ∀ k ρ ms h' d', (∃ i : Nat, b - i = k ∧ a < i ∧ i ≤ b ∧ Ord c a i f ∧ PK n B cap g a b ρ ∧ ρ 9 = .int .i64 i ∧ ρ 10 = .int .i64 t ∧ ms = [] ∧ h' = h ∧ d' = []) →
    LoopW M cx 8 sf95L2 ρ ms h' d' (fun ex ρ' ms' h' d' => ex = .exit 2 ∧ ms' = [] ∧ h' = h ∧ d' = [] ∧ ∃ i : Nat, a < i ∧ i ≤ b ∧ Ord c a i f ∧ PK n B cap g a b ρ' ∧ ρ' 9 = .int .i64 i ∧ ρ' 10 = .int .i64 t) := by
  refine loop_run _ ?_
  rintro k ρ ms h' d' ⟨i, hk, hai, hib, O, ⟨r0, r1, r2, r3⟩, r9, r10, rfl, rfl, rfl⟩
  unfold sf95L2
  by_cases z : i < b
  · have e1 : (i : Int) < b := by omega
    have p1 : (0 : Int) ≤ (i : Int) := by omega
    have p2 : (i : Int) < n := by omega
    have p3 : (0 : Int) ≤ ((i - 1 : Nat) : Int) := by omega
    have p4 : ((i - 1 : Nat) : Int) < n := by omega
    have w1 : IntKind.i64.wrap ((i : Int) - 1) = ((i - 1 : Nat) : Int) := by rw [wrap64 (by omega) (by omega)]; omega
    have w2 : IntKind.i64.wrap ((i : Int) + 1) = ((i + 1 : Nat) : Int) := by rw [wrap64 (by omega) (by omega)]; rfl
    have l1 := S.load hl (show i < n by omega)
    have l2 := S.load hl (show i - 1 < n by omega)
    have cc := fun h => C.call (f i) (f (i - 1)) h
    by_cases hlt : c (f i) (f (i - 1)) < 0
    · repeat (first | apply run_seq | apply run_block | apply end_seq | apply end_blk_hit | apply end_blk_miss rfl | apply end_blk | apply end_seq_exit | apply end_seq_ret | apply end_blk_ret | apply run_skip | apply run_ret | apply run_exit | (apply run_region (by decide); (simp (maxSteps := 9999999) only [go_sem, r0, r1, r2, r3, r9, e1, p1, p2, p3, p4, w1, l1, l2, cc, hlt]; rfl)) | (apply run_regionN (by decide); (simp (maxSteps := 9999999) only [go_sem, r0, r1, r2, r3, r9, e1, p1, p2, p3, p4, w1, l1, l2, cc, hlt]; rfl)) | (refine run_cond_t ?_ ?_; · simp only [go_sem]) | (refine run_cond_f ?_ ?_; · simp only [go_sem]))
      refine end_nil ⟨rfl, rfl, rfl, rfl, i, hai, hib, O, ⟨?_, ?_, ?_, ?_⟩, ?_, ?_⟩
      · simp (maxSteps := 9999999) only [go_sem, r0]
      · simp (maxSteps := 9999999) only [go_sem, r1]
      · simp (maxSteps := 9999999) only [go_sem, r2]
      · simp (maxSteps := 9999999) only [go_sem, r3]
      · simp (maxSteps := 9999999) only [go_sem, r9]
      · simp (maxSteps := 9999999) only [go_sem, r10]
    · repeat (first | apply run_seq | apply run_block | apply end_seq | apply end_blk_hit | apply end_blk_miss rfl | apply end_blk | apply end_seq_exit | apply end_seq_ret | apply end_blk_ret | apply run_skip | apply run_ret | apply run_exit | (apply run_region (by decide); (simp (maxSteps := 9999999) only [go_sem, r0, r1, r2, r3, r9, e1, p1, p2, p3, p4, w1, l1, l2, cc, hlt, w2]; rfl)) | (apply run_regionN (by decide); (simp (maxSteps := 9999999) only [go_sem, r0, r1, r2, r3, r9, e1, p1, p2, p3, p4, w1, l1, l2, cc, hlt, w2]; rfl)) | (refine run_cond_t ?_ ?_; · simp only [go_sem]) | (refine run_cond_f ?_ ?_; · simp only [go_sem]))
      refine end_nil ⟨b - (i + 1), by omega, i + 1, rfl, by omega, by omega, O.snoc C (fun _ => hlt), ⟨?_, ?_, ?_, ?_⟩, ?_, ?_, rfl, rfl, rfl⟩
      · simp (maxSteps := 9999999) only [go_sem, r0]
      · simp (maxSteps := 9999999) only [go_sem, r1]
      · simp (maxSteps := 9999999) only [go_sem, r2]
      · simp (maxSteps := 9999999) only [go_sem, r3]
      · simp (maxSteps := 9999999) only [go_sem, w2]
      · simp (maxSteps := 9999999) only [go_sem, r10]
  · have e1 : ¬ (i : Int) < b := by omega
    repeat (first | apply run_seq | apply run_block | apply end_seq | apply end_blk_hit | apply end_blk_miss rfl | apply end_blk | apply end_seq_exit | apply end_seq_ret | apply end_blk_ret | apply run_skip | apply run_ret | apply run_exit | (apply run_region (by decide); (simp (maxSteps := 9999999) only [go_sem, r0, r1, r2, r3, r9, e1]; rfl)) | (apply run_regionN (by decide); (simp (maxSteps := 9999999) only [go_sem, r0, r1, r2, r3, r9, e1]; rfl)) | (refine run_cond_t ?_ ?_; · simp only [go_sem]) | (refine run_cond_f ?_ ?_; · simp only [go_sem]))
    refine end_nil ⟨rfl, rfl, rfl, rfl, i, hai, hib, O, ⟨?_, ?_, ?_, ?_⟩, ?_, ?_⟩
    · simp (maxSteps := 9999999) only [go_sem, r0]
    · simp (maxSteps := 9999999) only [go_sem, r1]
    · simp (maxSteps := 9999999) only [go_sem, r2]
    · simp (maxSteps := 9999999) only [go_sem, r3]
    · simp (maxSteps := 9999999) only [go_sem, r9]
    · simp (maxSteps := 9999999) only [go_sem, r10]

theorem pinB_loopP (C : Cmp M g cel c) (hl : ∀ x, (cel x).length = 2) (hc : ∀ x, (cel x).all sc = true) (hn : n ≤ 1000000) {a b i : Nat} (hb : b ≤ n) (hai : a + 1 < i) (hib : i < b) (cx : Cx) (f0 : Nat → E) (hpre : 0 < a → ∀ j, a ≤ j → j < i → ¬ c (f0 j) (f0 (a - 1)) < 0) (t : Int) : ∀ k ρ ms h' d', (∃ (j : Nat) (f : Nat → E), j = k ∧ a ≤ j ∧ j < i ∧ SA cel n B el h0 old0 h' f ∧ Sw a i f0 f ∧ InsI c a (i - 1) j f ∧ PK n B cap g a b ρ ∧ ρ 9 = .int .i64 i ∧ ρ 10 = .int .i64 t ∧ ρ 11 = .int .i64 j ∧ ms = [] ∧ d' = []) →
    LoopW M cx 8 sf95L1 ρ ms h' d' (fun ex ρ' ms' h' d' => ex = .exit 4 ∧ ms' = [] ∧ d' = [] ∧ ∃ f : Nat → E, SA cel n B el h0 old0 h' f ∧ Sw a i f0 f ∧ Ord c a i f ∧ PK n B cap g a b ρ' ∧ ρ' 9 = .int .i64 i ∧ ρ' 10 = .int .i64 t) := by
  refine loop_run _ ?_
  rintro k ρ ms h' d' ⟨j, f, rfl, haj, hji, S, W, I, ⟨r0, r1, r2, r3⟩, r9, r10, r11, rfl, rfl⟩
  have hord : (j ≤ a ∨ ¬ c (f j) (f (j - 1)) < 0) → Ord c a i f := fun h => by
    have := I.stop C h
    rwa [show i - 1 + 1 = i by omega] at this
  unfold sf95L1
  by_cases z : 1 ≤ j
  · have e1 : (1 : Int) ≤ j := by omega
    have p1 : (0 : Int) ≤ (j : Int) := by omega
    have p2 : (j : Int) < n := by omega
    have p3 : (0 : Int) ≤ ((j - 1 : Nat) : Int) := by omega
    have p4 : ((j - 1 : Nat) : Int) < n := by omega
    have w1 : IntKind.i64.wrap ((j : Int) - 1) = ((j - 1 : Nat) : Int) := by rw [wrap64 (by omega) (by omega)]; omega
    have l1 := S.load hl (show j < n by omega)
    have l2 := S.load hl (show j - 1 < n by omega)
    have cc := fun h => C.call (f j) (f (j - 1)) h
    by_cases hlt : c (f j) (f (j - 1)) < 0
    · -- so j is behind a
      have hja : a < j := by
        by_cases e : a < j
        · exact e
        · exfalso
          have ej : j = a := by omega
          subst ej
          have := W.all (P := fun x => ¬ c x (f0 (j - 1)) < 0) (hpre (by omega)) j (by omega) hji
          rw [← W.out (i := j - 1) (by omega)] at this
          exact this hlt
      obtain ⟨h1, h2, st1, st2, S2⟩ := S.swap hl hc (by decide) (show j < n by omega) (show j - 1 < n by omega)
      repeat (first | apply run_seq | apply run_block | apply end_seq | apply end_blk_hit | apply end_blk_miss rfl | apply end_blk | apply end_seq_exit | apply end_seq_ret | apply end_blk_ret | apply run_skip | apply run_ret | apply run_exit | (apply run_region (by decide); (simp (maxSteps := 9999999) only [go_sem, r0, r1, r2, r3, r9, r11, e1, p1, p2, p3, p4, w1, l1, l2, cc, hlt, hl, ↓st1, ↓st2]; rfl)) | (apply run_regionN (by decide); (simp (maxSteps := 9999999) only [go_sem, r0, r1, r2, r3, r9, r11, e1, p1, p2, p3, p4, w1, l1, l2, cc, hlt, hl, ↓st1, ↓st2]; rfl)) | (refine run_cond_t ?_ ?_; · simp only [go_sem]) | (refine run_cond_f ?_ ?_; · simp only [go_sem]))
      refine end_nil ⟨j - 1, by omega, j - 1, _, rfl, by omega, by omega, S2, W.step (by omega) (by omega) (by omega) (by omega), I.step hja (by omega) hlt, ⟨?_, ?_, ?_, ?_⟩, ?_, ?_, ?_, rfl, rfl⟩
      · simp (maxSteps := 9999999) only [go_sem, r0]
      · simp (maxSteps := 9999999) only [go_sem, r1]
      · simp (maxSteps := 9999999) only [go_sem, r2]
      · simp (maxSteps := 9999999) only [go_sem, r3]
      · simp (maxSteps := 9999999) only [go_sem, r9]
      · simp (maxSteps := 9999999) only [go_sem, r10]
      · simp (maxSteps := 9999999) only [go_sem, w1]
    · repeat (first | apply run_seq | apply run_block | apply end_seq | apply end_blk_hit | apply end_blk_miss rfl | apply end_blk | apply end_seq_exit | apply end_seq_ret | apply end_blk_ret | apply run_skip | apply run_ret | apply run_exit | (apply run_region (by decide); (simp (maxSteps := 9999999) only [go_sem, r0, r1, r2, r3, r9, r11, e1, p1, p2, p3, p4, w1, l1, l2, cc, hlt]; rfl)) | (apply run_regionN (by decide); (simp (maxSteps := 9999999) only [go_sem, r0, r1, r2, r3, r9, r11, e1, p1, p2, p3, p4, w1, l1, l2, cc, hlt]; rfl)) | (refine run_cond_t ?_ ?_; · simp only [go_sem]) | (refine run_cond_f ?_ ?_; · simp only [go_sem]))
      refine end_nil ⟨rfl, rfl, rfl, f, S, W, hord (.inr hlt), ⟨?_, ?_, ?_, ?_⟩, ?_, ?_⟩
      · simp (maxSteps := 9999999) only [go_sem, r0]
      · simp (maxSteps := 9999999) only [go_sem, r1]
      · simp (maxSteps := 9999999) only [go_sem, r2]
      · simp (maxSteps := 9999999) only [go_sem, r3]
      · simp (maxSteps := 9999999) only [go_sem, r9]
      · simp (maxSteps := 9999999) only [go_sem, r10]
  · have e1 : ¬ (1 : Int) ≤ j := by omega
    repeat (first | apply run_seq | apply run_block | apply end_seq | apply end_blk_hit | apply end_blk_miss rfl | apply end_blk | apply end_seq_exit | apply end_seq_ret | apply end_blk_ret | apply run_skip | apply run_ret | apply run_exit | (apply run_region (by decide); (simp (maxSteps := 9999999) only [go_sem, r0, r1, r2, r3, r9, r11, e1]; rfl)) | (apply run_regionN (by decide); (simp (maxSteps := 9999999) only [go_sem, r0, r1, r2, r3, r9, r11, e1]; rfl)) | (refine run_cond_t ?_ ?_; · simp only [go_sem]) | (refine run_cond_f ?_ ?_; · simp only [go_sem]))
    refine end_nil ⟨rfl, rfl, rfl, f, S, W, hord (.inl (by omega)), ⟨?_, ?_, ?_, ?_⟩, ?_, ?_⟩
    · simp (maxSteps := 9999999) only [go_sem, r0]
    · simp (maxSteps := 9999999) only [go_sem, r1]
    · simp (maxSteps := 9999999) only [go_sem, r2]
    · simp (maxSteps := 9999999) only [go_sem, r3]
    · simp (maxSteps := 9999999) only [go_sem, r9]
    · simp (maxSteps := 9999999) only [go_sem, r10]

theorem pinC_loopP (C : Cmp M g cel c) (hl : ∀ x, (cel x).length = 2) (hc : ∀ x, (cel x).all sc = true) (hn : n ≤ 1000000) {a b i : Nat} (hb : b ≤ n) (hib : i < b) (cx : Cx) (f0 : Nat → E) (t : Int) : ∀ k ρ ms h' d', (∃ (j : Nat) (f : Nat → E), b - j = k ∧ i < j ∧ j ≤ b ∧ SA cel n B el h0 old0 h' f ∧ Sw i b f0 f ∧ PK n B cap g a b ρ ∧ ρ 9 = .int .i64 i ∧ ρ 10 = .int .i64 t ∧ ρ 12 = .int .i64 j ∧ ms = [] ∧ d' = []) →
    LoopW M cx 8 sf95L0 ρ ms h' d' (fun ex ρ' ms' h' d' => ex = .exit 6 ∧ ms' = [] ∧ d' = [] ∧ ∃ f : Nat → E, SA cel n B el h0 old0 h' f ∧ Sw i b f0 f ∧ PK n B cap g a b ρ' ∧ ρ' 9 = .int .i64 i ∧ ρ' 10 = .int .i64 t) := by
  refine loop_run _ ?_
  rintro k ρ ms h' d' ⟨j, f, hk, hij, hjb, S, W, ⟨r0, r1, r2, r3⟩, r9, r10, r12, rfl, rfl⟩
  unfold sf95L0
  by_cases z : j < b
  · have e1 : (j : Int) < b := by omega
    have p1 : (0 : Int) ≤ (j : Int) := by omega
    have p2 : (j : Int) < n := by omega
    have p3 : (0 : Int) ≤ ((j - 1 : Nat) : Int) := by omega
    have p4 : ((j - 1 : Nat) : Int) < n := by omega
    have w1 : IntKind.i64.wrap ((j : Int) - 1) = ((j - 1 : Nat) : Int) := by rw [wrap64 (by omega) (by omega)]; omega
    have w2 : IntKind.i64.wrap ((j : Int) + 1) = ((j + 1 : Nat) : Int) := by rw [wrap64 (by omega) (by omega)]; rfl
    have l1 := S.load hl (show j < n by omega)
    have l2 := S.load hl (show j - 1 < n by omega)
    have cc := fun h => C.call (f j) (f (j - 1)) h
    by_cases hlt : c (f j) (f (j - 1)) < 0
    · obtain ⟨h1, h2, st1, st2, S2⟩ := S.swap hl hc (by decide) (show j < n by omega) (show j - 1 < n by omega)
      repeat (first | apply run_seq | apply run_block | apply end_seq | apply end_blk_hit | apply end_blk_miss rfl | apply end_blk | apply end_seq_exit | apply end_seq_ret | apply end_blk_ret | apply run_skip | apply run_ret | apply run_exit | (apply run_region (by decide); (simp (maxSteps := 9999999) only [go_sem, r0, r1, r2, r3, r9, r12, e1, p1, p2, p3, p4, w1, w2, l1, l2, cc, hlt, hl, ↓st1, ↓st2]; rfl)) | (apply run_regionN (by decide); (simp (maxSteps := 9999999) only [go_sem, r0, r1, r2, r3, r9, r12, e1, p1, p2, p3, p4, w1, w2, l1, l2, cc, hlt, hl, ↓st1, ↓st2]; rfl)) | (refine run_cond_t ?_ ?_; · simp only [go_sem]) | (refine run_cond_f ?_ ?_; · simp only [go_sem]))
      refine end_nil ⟨b - (j + 1), by omega, j + 1, _, rfl, by omega, by omega, S2, W.step (by omega) (by omega) (by omega) (by omega), ⟨?_, ?_, ?_, ?_⟩, ?_, ?_, ?_, rfl, rfl⟩
      · simp (maxSteps := 9999999) only [go_sem, r0]
      · simp (maxSteps := 9999999) only [go_sem, r1]
      · simp (maxSteps := 9999999) only [go_sem, r2]
      · simp (maxSteps := 9999999) only [go_sem, r3]
      · simp (maxSteps := 9999999) only [go_sem, r9]
      · simp (maxSteps := 9999999) only [go_sem, r10]
      · simp (maxSteps := 9999999) only [go_sem, w2]
    · repeat (first | apply run_seq | apply run_block | apply end_seq | apply end_blk_hit | apply end_blk_miss rfl | apply end_blk | apply end_seq_exit | apply end_seq_ret | apply end_blk_ret | apply run_skip | apply run_ret | apply run_exit | (apply run_region (by decide); (simp (maxSteps := 9999999) only [go_sem, r0, r1, r2, r3, r9, r12, e1, p1, p2, p3, p4, w1, l1, l2, cc, hlt]; rfl)) | (apply run_regionN (by decide); (simp (maxSteps := 9999999) only [go_sem, r0, r1, r2, r3, r9, r12, e1, p1, p2, p3, p4, w1, l1, l2, cc, hlt]; rfl)) | (refine run_cond_t ?_ ?_; · simp only [go_sem]) | (refine run_cond_f ?_ ?_; · simp only [go_sem]))
      refine end_nil ⟨rfl, rfl, rfl, f, S, W, ⟨?_, ?_, ?_, ?_⟩, ?_, ?_⟩
      · simp (maxSteps := 9999999) only [go_sem, r0]
      · simp (maxSteps := 9999999) only [go_sem, r1]
      · simp (maxSteps := 9999999) only [go_sem, r2]
      · simp (maxSteps := 9999999) only [go_sem, r3]
      · simp (maxSteps := 9999999) only [go_sem, r9]
      · simp (maxSteps := 9999999) only [go_sem, r10]
  · have e1 : ¬ (j : Int) < b := by omega
    repeat (first | apply run_seq | apply run_block | apply end_seq | apply end_blk_hit | apply end_blk_miss rfl | apply end_blk | apply end_seq_exit | apply end_seq_ret | apply end_blk_ret | apply run_skip | apply run_ret | apply run_exit | (apply run_region (by decide); (simp (maxSteps := 9999999) only [go_sem, r0, r1, r2, r3, r9, r12, e1]; rfl)) | (apply run_regionN (by decide); (simp (maxSteps := 9999999) only [go_sem, r0, r1, r2, r3, r9, r12, e1]; rfl)) | (refine run_cond_t ?_ ?_; · simp only [go_sem]) | (refine run_cond_f ?_ ?_; · simp only [go_sem]))
    refine end_nil ⟨rfl, rfl, rfl, f, S, W, ⟨?_, ?_, ?_, ?_⟩, ?_, ?_⟩
    · simp (maxSteps := 9999999) only [go_sem, r0]
    · simp (maxSteps := 9999999) only [go_sem, r1]
    · simp (maxSteps := 9999999) only [go_sem, r2]
    · simp (maxSteps := 9999999) only [go_sem, r3]
    · simp (maxSteps := 9999999) only [go_sem, r9]
    · simp (maxSteps := 9999999) only [go_sem, r10]

theorem pinO_loopP (C : Cmp M g cel c) (hl : ∀ x, (cel x).length = 2) (hc : ∀ x, (cel x).all sc = true) (hn : n ≤ 1000000) {a b : Nat} (hb : b ≤ n) (cx : Cx) (f0 : Nat → E) (hpre : 0 < a → ∀ j, a ≤ j → j < b → ¬ c (f0 j) (f0 (a - 1)) < 0) : ∀ k ρ ms h' d', (∃ (t i : Nat) (f : Nat → E), t + k = 5 ∧ a < i ∧ i ≤ b ∧ SA cel n B el h0 old0 h' f ∧ Sw a b f0 f ∧ Ord c a i f ∧ PK n B cap g a b ρ ∧ ρ 9 = .int .i64 i ∧ ρ 10 = .int .i64 t ∧ ms = [] ∧ d' = []) →
    LoopW M cx 8 sf95L3 ρ ms h' d' (fun ex ρ' ms' h' d' => ms' = [] ∧ d' = [] ∧ ∃ f : Nat → E, SA cel n B el h0 old0 h' f ∧ Sw a b f0 f ∧ (ex = .exit 0 ∨ (ex = .ret ∧ ((ρ' 8 = .bool true ∧ Ord c a b f) ∨ ρ' 8 = .bool false)))) := by
  refine loop_run _ ?_
  rintro k ρ ms h' d' ⟨t, i, f, hk, hai, hib, S, W, O, P, r9, r10, rfl, rfl⟩
  unfold sf95L3
  by_cases z : t < 5
  · have e1 : (t : Int) < 5 := by omega
    have ew : IntKind.i64.wrap ((t : Int) + 1) = ((t + 1 : Nat) : Int) := by rw [wrap64 (by omega) (by omega)]; rfl
    repeat (first | apply run_seq | apply run_block | apply end_seq | apply end_blk_hit | apply end_blk_miss rfl | apply end_blk | apply end_seq_exit | apply end_seq_ret | apply end_blk_ret | apply run_skip | apply run_ret | apply run_exit | (apply run_region (by decide); (simp (maxSteps := 9999999) only [go_sem, r10, e1]; rfl)) | (apply run_regionN (by decide); (simp (maxSteps := 9999999) only [go_sem, r10, e1]; rfl)) | (refine run_cond_t ?_ ?_; · simp only [go_sem]) | (refine run_cond_f ?_ ?_; · simp only [go_sem]))
    obtain ⟨r0, r1, r2, r3⟩ := P
    refine run_loop (pinA_loopP (cap := cap) C hl hn (a := a) hb cx S t (b - i) _ _ _ _ ⟨i, rfl, hai, hib, O, ⟨by simp (maxSteps := 9999999) only [go_sem, r0], by simp (maxSteps := 9999999) only [go_sem, r1], by simp (maxSteps := 9999999) only [go_sem, r2], by simp (maxSteps := 9999999) only [go_sem, r3]⟩, by simp (maxSteps := 9999999) only [go_sem, r9], by simp (maxSteps := 9999999) only [go_sem, r10], rfl, rfl, rfl⟩) ?_
    rintro ex ρ1 ms1 h1 d1 ⟨rfl, rfl, rfl, rfl, i, hai, hib, O, ⟨r0, r1, r2, r3⟩, r9, r10⟩
    by_cases zi : i = b
    · have e2 : ((i : Int) = b) := by omega
      repeat (first | apply run_seq | apply run_block | apply end_seq | apply end_blk_hit | apply end_blk_miss rfl | apply end_blk | apply end_seq_exit | apply end_seq_ret | apply end_blk_ret | apply run_skip | apply run_ret | apply run_exit | (apply run_region (by decide); (simp (maxSteps := 9999999) only [go_sem, r0, r1, r2, r3, r9, r10, e2]; rfl)) | (apply run_regionN (by decide); (simp (maxSteps := 9999999) only [go_sem, r0, r1, r2, r3, r9, r10, e2]; rfl)) | (refine run_cond_t ?_ ?_; · simp only [go_sem]) | (refine run_cond_f ?_ ?_; · simp only [go_sem]))
      exact end_nil ⟨rfl, rfl, f, S, W, .inr ⟨rfl, .inl ⟨by simp (maxSteps := 9999999) only [go_sem], by rw [zi] at O; exact O⟩⟩⟩
    · have e2 : ¬ ((i : Int) = b) := by omega
      have w1 : IntKind.i64.wrap ((b : Int) - (a : Int)) = ((b - a : Nat) : Int) := by rw [wrap64 (by omega) (by omega)]; omega
      by_cases z50 : b - a < 50
      · have e3 : ((b - a : Nat) : Int) < 50 := by omega
        repeat (first | apply run_seq | apply run_block | apply end_seq | apply end_blk_hit | apply end_blk_miss rfl | apply end_blk | apply end_seq_exit | apply end_seq_ret | apply end_blk_ret | apply run_skip | apply run_ret | apply run_exit | (apply run_region (by decide); (simp (maxSteps := 9999999) only [go_sem, r0, r1, r2, r3, r9, r10, e2, w1, e3]; rfl)) | (apply run_regionN (by decide); (simp (maxSteps := 9999999) only [go_sem, r0, r1, r2, r3, r9, r10, e2, w1, e3]; rfl)) | (refine run_cond_t ?_ ?_; · simp only [go_sem]) | (refine run_cond_f ?_ ?_; · simp only [go_sem]))
        exact end_nil ⟨rfl, rfl, f, S, W, .inr ⟨rfl, .inr (by simp (maxSteps := 9999999) only [go_sem])⟩⟩
      · have e3 : ¬ ((b - a : Nat) : Int) < 50 := by omega
        have p1 : (0 : Int) ≤ (i : Int) := by omega
        have p2 : (i : Int) < n := by omega
        have p3 : (0 : Int) ≤ ((i - 1 : Nat) : Int) := by omega
        have p4 : ((i - 1 : Nat) : Int) < n := by omega
        have w2 : IntKind.i64.wrap ((i : Int) - 1) = ((i - 1 : Nat) : Int) := by rw [wrap64 (by omega) (by omega)]; omega
        have w3 : IntKind.i64.wrap ((i : Int) - (a : Int)) = ((i - a : Nat) : Int) := by rw [wrap64 (by omega) (by omega)]; omega
        have w4 : IntKind.i64.wrap ((b : Int) - (i : Int)) = ((b - i : Nat) : Int) := by rw [wrap64 (by omega) (by omega)]; omega
        have w5 : IntKind.i64.wrap ((i : Int) + 1) = ((i + 1 : Nat) : Int) := by rw [wrap64 (by omega) (by omega)]; rfl
        have l1 := S.load hl (show i < n by omega)
        have l2 := S.load hl (show i - 1 < n by omega)
        obtain ⟨h2, h3, st1, st2, S2⟩ := S.swap hl hc (by decide) (show i < n by omega) (show i - 1 < n by omega)
        have W2 : Sw a b f0 (swp f i (i - 1)) := W.step (by omega) (by omega) (by omega) (by omega)
        have O2 : Ord c a (i - 1) (swp f i (i - 1)) := (O.mono (Nat.le_refl _) (by omega)).congr (fun q q1 q2 => swp_o f (by omega) (by omega))
        have hpre2 : 0 < a → ∀ j, a ≤ j → j < i → ¬ c (swp f i (i - 1) j) (swp f i (i - 1) (a - 1)) < 0 := fun h0 j j1 j2 => by
          have := W2.all (P := fun x => ¬ c x (f0 (a - 1)) < 0) (hpre h0) j j1 (by omega)
          rwa [W2.out (i := a - 1) (by omega)]
        generalize swp f i (i - 1) = f2 at *
        by_cases z2 : 2 ≤ i - a
        · have e4 : (2 : Int) ≤ ((i - a : Nat) : Int) := by omega
          repeat (first | apply run_seq | apply run_block | apply end_seq | apply end_blk_hit | apply end_blk_miss rfl | apply end_blk | apply end_seq_exit | apply end_seq_ret | apply end_blk_ret | apply run_skip | apply run_ret | apply run_exit | (apply run_region (by decide); (simp (maxSteps := 9999999) only [go_sem, r0, r1, r2, r3, r9, r10, e2, w1, e3, p1, p2, p3, p4, w2, l1, l2, hl, ↓st1, ↓st2, w3, e4]; rfl)) | (apply run_regionN (by decide); (simp (maxSteps := 9999999) only [go_sem, r0, r1, r2, r3, r9, r10, e2, w1, e3, p1, p2, p3, p4, w2, l1, l2, hl, ↓st1, ↓st2, w3, e4]; rfl)) | (refine run_cond_t ?_ ?_; · simp only [go_sem]) | (refine run_cond_f ?_ ?_; · simp only [go_sem]))
          refine run_loop (pinB_loopP (cap := cap) C hl hc hn (a := a) (i := i) hb (by omega) (by omega) cx f2 hpre2 t (i - 1) _ _ _ _ ⟨i - 1, f2, rfl, by omega, by omega, S2, .refl, InsI.start O2, ⟨by simp (maxSteps := 9999999) only [go_sem, r0], by simp (maxSteps := 9999999) only [go_sem, r1], by simp (maxSteps := 9999999) only [go_sem, r2], by simp (maxSteps := 9999999) only [go_sem, r3]⟩, by simp (maxSteps := 9999999) only [go_sem, r9], by simp (maxSteps := 9999999) only [go_sem, r10], by simp (maxSteps := 9999999) only [go_sem, w2], rfl, rfl⟩) ?_
          rintro ex ρ3 ms3 h4 d3 ⟨rfl, rfl, rfl, f3, S3, W3, O3, ⟨r0, r1, r2, r3⟩, r9, r10⟩
          have W3' : Sw a b f0 f3 := W2.trans (W3.mono (by omega) (by omega))
          by_cases z3 : 2 ≤ b - i
          · have e5 : (2 : Int) ≤ ((b - i : Nat) : Int) := by omega
            repeat (first | apply run_seq | apply run_block | apply end_seq | apply end_blk_hit | apply end_blk_miss rfl | apply end_blk | apply end_seq_exit | apply end_seq_ret | apply end_blk_ret | apply run_skip | apply run_ret | apply run_exit | (apply run_region (by decide); (simp (maxSteps := 9999999) only [go_sem, r0, r1, r2, r3, r9, r10, w4, e5, w5]; rfl)) | (apply run_regionN (by decide); (simp (maxSteps := 9999999) only [go_sem, r0, r1, r2, r3, r9, r10, w4, e5, w5]; rfl)) | (refine run_cond_t ?_ ?_; · simp only [go_sem]) | (refine run_cond_f ?_ ?_; · simp only [go_sem]))
            refine run_loop (pinC_loopP (cap := cap) C hl hc hn (a := a) (i := i) hb (by omega) cx f3 t (b - (i + 1)) _ _ _ _ ⟨i + 1, f3, rfl, by omega, by omega, S3, .refl, ⟨by simp (maxSteps := 9999999) only [go_sem, r0], by simp (maxSteps := 9999999) only [go_sem, r1], by simp (maxSteps := 9999999) only [go_sem, r2], by simp (maxSteps := 9999999) only [go_sem, r3]⟩, by simp (maxSteps := 9999999) only [go_sem, r9], by simp (maxSteps := 9999999) only [go_sem, r10], by simp (maxSteps := 9999999) only [go_sem, w5], rfl, rfl⟩) ?_
            rintro ex ρ4 ms4 h5 d4 ⟨rfl, rfl, rfl, f4, S4, W4, ⟨r0, r1, r2, r3⟩, r9, r10⟩
            repeat (first | apply run_seq | apply run_block | apply end_seq | apply end_blk_hit | apply end_blk_miss rfl | apply end_blk | apply end_seq_exit | apply end_seq_ret | apply end_blk_ret | apply run_skip | apply run_ret | apply run_exit | (apply run_region (by decide); (simp (maxSteps := 9999999) only [go_sem, r0, r1, r2, r3, r9, r10, ew]; rfl)) | (apply run_regionN (by decide); (simp (maxSteps := 9999999) only [go_sem, r0, r1, r2, r3, r9, r10, ew]; rfl)) | (refine run_cond_t ?_ ?_; · simp only [go_sem]) | (refine run_cond_f ?_ ?_; · simp only [go_sem]))
            exact end_nil ⟨k - 1, by omega, t + 1, i, f4, by omega, hai, hib, S4, W3'.trans (W4.mono (by omega) (by omega)), O3.congr (fun q q1 q2 => W4.out (by omega)), ⟨by simp (maxSteps := 9999999) only [go_sem, r0], by simp (maxSteps := 9999999) only [go_sem, r1], by simp (maxSteps := 9999999) only [go_sem, r2], by simp (maxSteps := 9999999) only [go_sem, r3]⟩, by simp (maxSteps := 9999999) only [go_sem, r9], by simp (maxSteps := 9999999) only [go_sem, ew], rfl, rfl⟩
          · have e5 : ¬ (2 : Int) ≤ ((b - i : Nat) : Int) := by omega
            repeat (first | apply run_seq | apply run_block | apply end_seq | apply end_blk_hit | apply end_blk_miss rfl | apply end_blk | apply end_seq_exit | apply end_seq_ret | apply end_blk_ret | apply run_skip | apply run_ret | apply run_exit | (apply run_region (by decide); (simp (maxSteps := 9999999) only [go_sem, r0, r1, r2, r3, r9, r10, w4, e5, w5, ew]; rfl)) | (apply run_regionN (by decide); (simp (maxSteps := 9999999) only [go_sem, r0, r1, r2, r3, r9, r10, w4, e5, w5, ew]; rfl)) | (refine run_cond_t ?_ ?_; · simp only [go_sem]) | (refine run_cond_f ?_ ?_; · simp only [go_sem]))
            exact end_nil ⟨k - 1, by omega, t + 1, i, f3, by omega, hai, hib, S3, W3', O3, ⟨by simp (maxSteps := 9999999) only [go_sem, r0], by simp (maxSteps := 9999999) only [go_sem, r1], by simp (maxSteps := 9999999) only [go_sem, r2], by simp (maxSteps := 9999999) only [go_sem, r3]⟩, by simp (maxSteps := 9999999) only [go_sem, r9], by simp (maxSteps := 9999999) only [go_sem, ew], rfl, rfl⟩
        · have e4 : ¬ (2 : Int) ≤ ((i - a : Nat) : Int) := by omega
          have O3 : Ord c a i f2 := Ord.nil c (by omega) _
          by_cases z3 : 2 ≤ b - i
          · have e5 : (2 : Int) ≤ ((b - i : Nat) : Int) := by omega
            repeat (first | apply run_seq | apply run_block | apply end_seq | apply end_blk_hit | apply end_blk_miss rfl | apply end_blk | apply end_seq_exit | apply end_seq_ret | apply end_blk_ret | apply run_skip | apply run_ret | apply run_exit | (apply run_region (by decide); (simp (maxSteps := 9999999) only [go_sem, r0, r1, r2, r3, r9, r10, e2, w1, e3, p1, p2, p3, p4, w2, l1, l2, hl, ↓st1, ↓st2, w3, e4, w4, e5, w5]; rfl)) | (apply run_regionN (by decide); (simp (maxSteps := 9999999) only [go_sem, r0, r1, r2, r3, r9, r10, e2, w1, e3, p1, p2, p3, p4, w2, l1, l2, hl, ↓st1, ↓st2, w3, e4, w4, e5, w5]; rfl)) | (refine run_cond_t ?_ ?_; · simp only [go_sem]) | (refine run_cond_f ?_ ?_; · simp only [go_sem]))
            refine run_loop (pinC_loopP (cap := cap) C hl hc hn (a := a) (i := i) hb (by omega) cx f2 t (b - (i + 1)) _ _ _ _ ⟨i + 1, f2, rfl, by omega, by omega, S2, .refl, ⟨by simp (maxSteps := 9999999) only [go_sem, r0], by simp (maxSteps := 9999999) only [go_sem, r1], by simp (maxSteps := 9999999) only [go_sem, r2], by simp (maxSteps := 9999999) only [go_sem, r3]⟩, by simp (maxSteps := 9999999) only [go_sem, r9], by simp (maxSteps := 9999999) only [go_sem, r10], by simp (maxSteps := 9999999) only [go_sem, w5], rfl, rfl⟩) ?_
            rintro ex ρ4 ms4 h5 d4 ⟨rfl, rfl, rfl, f4, S4, W4, ⟨r0, r1, r2, r3⟩, r9, r10⟩
            repeat (first | apply run_seq | apply run_block | apply end_seq | apply end_blk_hit | apply end_blk_miss rfl | apply end_blk | apply end_seq_exit | apply end_seq_ret | apply end_blk_ret | apply run_skip | apply run_ret | apply run_exit | (apply run_region (by decide); (simp (maxSteps := 9999999) only [go_sem, r0, r1, r2, r3, r9, r10, ew]; rfl)) | (apply run_regionN (by decide); (simp (maxSteps := 9999999) only [go_sem, r0, r1, r2, r3, r9, r10, ew]; rfl)) | (refine run_cond_t ?_ ?_; · simp only [go_sem]) | (refine run_cond_f ?_ ?_; · simp only [go_sem]))
            exact end_nil ⟨k - 1, by omega, t + 1, i, f4, by omega, hai, hib, S4, W2.trans (W4.mono (by omega) (by omega)), O3.congr (fun q q1 q2 => W4.out (by omega)), ⟨by simp (maxSteps := 9999999) only [go_sem, r0], by simp (maxSteps := 9999999) only [go_sem, r1], by simp (maxSteps := 9999999) only [go_sem, r2], by simp (maxSteps := 9999999) only [go_sem, r3]⟩, by simp (maxSteps := 9999999) only [go_sem, r9], by simp (maxSteps := 9999999) only [go_sem, ew], rfl, rfl⟩
          · have e5 : ¬ (2 : Int) ≤ ((b - i : Nat) : Int) := by omega
            repeat (first | apply run_seq | apply run_block | apply end_seq | apply end_blk_hit | apply end_blk_miss rfl | apply end_blk | apply end_seq_exit | apply end_seq_ret | apply end_blk_ret | apply run_skip | apply run_ret | apply run_exit | (apply run_region (by decide); (simp (maxSteps := 9999999) only [go_sem, r0, r1, r2, r3, r9, r10, e2, w1, e3, p1, p2, p3, p4, w2, l1, l2, hl, ↓st1, ↓st2, w3, e4, w4, e5, w5, ew]; rfl)) | (apply run_regionN (by decide); (simp (maxSteps := 9999999) only [go_sem, r0, r1, r2, r3, r9, r10, e2, w1, e3, p1, p2, p3, p4, w2, l1, l2, hl, ↓st1, ↓st2, w3, e4, w4, e5, w5, ew]; rfl)) | (refine run_cond_t ?_ ?_; · simp only [go_sem]) | (refine run_cond_f ?_ ?_; · simp only [go_sem]))
            exact end_nil ⟨k - 1, by omega, t + 1, i, f2, by omega, hai, hib, S2, W2, O3, ⟨by simp (maxSteps := 9999999) only [go_sem, r0], by simp (maxSteps := 9999999) only [go_sem, r1], by simp (maxSteps := 9999999) only [go_sem, r2], by simp (maxSteps := 9999999) only [go_sem, r3]⟩, by simp (maxSteps := 9999999) only [go_sem, r9], by simp (maxSteps := 9999999) only [go_sem, ew], rfl, rfl⟩
  · have e1 : ¬ (t : Int) < 5 := by omega
    repeat (first | apply run_seq | apply run_block | apply end_seq | apply end_blk_hit | apply end_blk_miss rfl | apply end_blk | apply end_seq_exit | apply end_seq_ret | apply end_blk_ret | apply run_skip | apply run_ret | apply run_exit | (apply run_region (by decide); (simp (maxSteps := 9999999) only [go_sem, r10, e1]; rfl)) | (apply run_regionN (by decide); (simp (maxSteps := 9999999) only [go_sem, r10, e1]; rfl)) | (refine run_cond_t ?_ ?_; · simp only [go_sem]) | (refine run_cond_f ?_ ?_; · simp only [go_sem]))
    exact end_nil ⟨rfl, rfl, f, S, W, .inl rfl⟩
/-- partialInsertionSort -/
theorem pinP (C : Cmp M g cel c) (hl : ∀ x, (cel x).length = 2) (hc : ∀ x, (cel x).all sc = true) (hn : n ≤ 1000000) {a b : Nat} (hab : a < b) (hb : b ≤ n) {h : SHeap} {f : Nat → E} (S : SA cel n B el h0 old0 h f) (hpre : 0 < a → ∀ j, a ≤ j → j < b → ¬ c (f j) (f (a - 1)) < 0) :
    ∃ h' f' r, M.call 95 [.slice (some ⟨B, 0, none⟩) n cap, .int .i64 a, .int .i64 b, .func (.func g) #[] #[]] h = some (.bool r, h', []) ∧ SA cel n B el h0 old0 h' f' ∧ Sw a b f f' ∧ (r = true → Ord c a b f') := by
  have key : ∃ r, (∃ h' f' q, r = (Value.bool q, h', ([] : List Nat)) ∧ SA cel n B el h0 old0 h' f' ∧ Sw a b f f' ∧ (q = true → Ord c a b f')) ∧ M.call 95 [.slice (some ⟨B, 0, none⟩) n cap, .int .i64 a, .int .i64 b, .func (.func g) #[] #[]] h = some r := by
    refine call_ex (f := 95) _ sf95 rfl rfl rfl ?_
    unfold sf95
    have ew : IntKind.i64.wrap ((a : Int) + 1) = ((a + 1 : Nat) : Int) := by rw [wrap64 (by omega) (by omega)]; rfl
    repeat (first | apply run_seq | apply run_block | apply end_seq | apply end_blk_hit | apply end_blk_miss rfl | apply end_blk | apply end_seq_exit | apply end_seq_ret | apply end_blk_ret | apply run_skip | apply run_ret | apply run_exit | (apply run_region (by decide); (simp (maxSteps := 9999999) only [go_sem, argR, ew]; rfl)) | (apply run_regionN (by decide); (simp (maxSteps := 9999999) only [go_sem, argR, ew]; rfl)) | (refine run_cond_t ?_ ?_; · simp only [go_sem]) | (refine run_cond_f ?_ ?_; · simp only [go_sem]))
    refine run_loop (pinO_loopP (cap := cap) (el := el) (h0 := h0) (old0 := old0) C hl hc hn (a := a) (b := b) hb _ f hpre 5 _ _ _ _ ⟨0, a + 1, f, rfl, by omega, by omega, S, .refl, Ord.nil c (by omega) f, ⟨by simp (maxSteps := 9999999) only [go_sem, argR], by simp (maxSteps := 9999999) only [go_sem, argR], by simp (maxSteps := 9999999) only [go_sem, argR], by simp (maxSteps := 9999999) only [go_sem, argR]⟩, by simp (maxSteps := 9999999) only [go_sem, ew], by (simp (maxSteps := 9999999) only [go_sem]) <;> rfl, rfl, rfl⟩) ?_
    rintro ex ρ' ms' h1 d1 ⟨rfl, rfl, f2, S2, W2, rfl | ⟨rfl, ⟨k8, O⟩ | k8⟩⟩
    · repeat (first | apply run_seq | apply run_block | apply end_seq | apply end_blk_hit | apply end_blk_miss rfl | apply end_blk | apply end_seq_exit | apply end_seq_ret | apply end_blk_ret | apply run_skip | apply run_ret | apply run_exit | (apply run_region (by decide); (simp (maxSteps := 9999999) only [go_sem]; rfl)) | (apply run_regionN (by decide); (simp (maxSteps := 9999999) only [go_sem]; rfl)) | (refine run_cond_t ?_ ?_; · simp only [go_sem]) | (refine run_cond_f ?_ ?_; · simp only [go_sem]))
      exact end_nil ⟨_, ⟨h1, f2, false, rfl, S2, W2, fun h => by cases h⟩, q_free [.bool false] (by simp (maxSteps := 9999999) only [go_sem]) rfl rfl rfl (fun _ => rfl) (by rw [List.take_of_length_le]; rw [S2.len, S.len]; exact Nat.le_refl _) rfl⟩
    · repeat (first | apply run_seq | apply run_block | apply end_seq | apply end_blk_hit | apply end_blk_miss rfl | apply end_blk | apply end_seq_exit | apply end_seq_ret | apply end_blk_ret | apply run_skip | apply run_ret | apply run_exit | (apply run_region (by decide); (simp (maxSteps := 9999999) only [go_sem]; rfl)) | (apply run_regionN (by decide); (simp (maxSteps := 9999999) only [go_sem]; rfl)) | (refine run_cond_t ?_ ?_; · simp only [go_sem]) | (refine run_cond_f ?_ ?_; · simp only [go_sem]))
      exact end_nil ⟨_, ⟨h1, f2, true, rfl, S2, W2, fun _ => O⟩, q_free [.bool true] (by simp (maxSteps := 9999999) only [go_sem, k8]) rfl rfl rfl (fun _ => rfl) (by rw [List.take_of_length_le]; rw [S2.len, S.len]; exact Nat.le_refl _) rfl⟩
    · repeat (first | apply run_seq | apply run_block | apply end_seq | apply end_blk_hit | apply end_blk_miss rfl | apply end_blk | apply end_seq_exit | apply end_seq_ret | apply end_blk_ret | apply run_skip | apply run_ret | apply run_exit | (apply run_region (by decide); (simp (maxSteps := 9999999) only [go_sem]; rfl)) | (apply run_regionN (by decide); (simp (maxSteps := 9999999) only [go_sem]; rfl)) | (refine run_cond_t ?_ ?_; · simp only [go_sem]) | (refine run_cond_f ?_ ?_; · simp only [go_sem]))
      exact end_nil ⟨_, ⟨h1, f2, false, rfl, S2, W2, fun h => by cases h⟩, q_free [.bool false] (by simp (maxSteps := 9999999) only [go_sem, k8]) rfl rfl rfl (fun _ => rfl) (by rw [List.take_of_length_le]; rw [S2.len, S.len]; exact Nat.le_refl _) rfl⟩
  obtain ⟨r, ⟨h', f', q, rfl, k⟩, e⟩ := key
  exact ⟨h', f', q, e, k⟩
end
end Go.Proofs.YtdmfhdnpakgkpaaDoor.Sh


