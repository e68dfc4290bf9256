/- Sorting: partitions. -/
import Derived.Test.YtdmfhdnpakgkpaaDoorShSo
import Derived.Test.YtdmfhdnpakgkpaaDoorGb
import Derived.Test.YtdmfhdnpakgkpaaDoorH14
set_option linter.all false
/- Sorting: partitions. -/
namespace Go.Proofs.YtdmfhdnpakgkpaaDoor.Sh
open Go
set_option maxRecDepth 100000
set_option maxHeartbeats 4000000

section
variable {E : Type} {cel : E → List Value} {c : E → E → Int} {g : FuncId} {n B cap : Nat} {el : TypeId} {h0 : SHeap} {old0 : List Nat}
def KRP (n B cap : Nat) (g : FuncId) (a : Nat) (ρ : Reg) : Prop := ρ 0 = .slice (some ⟨B, 0, none⟩) n cap ∧ ρ 1 = .int .i64 a ∧ ρ 4 = .func (.func g) #[] #[]

theorem peqU_loopP (C : Cmp M g cel c) (hl : ∀ x, (cel x).length = 2) (hn : n ≤ 1000000) {a b j : Nat} (hb : b ≤ n) (hj : j < b) (haj : a ≤ j) (i0 : Nat) (cx : Cx) {h : SHeap} {f : Nat → E} (S : SA cel n B el h0 old0 h f) : ∀ k ρ ms h' d', (∃ i : Nat, j + 1 - i = k ∧ i0 ≤ i ∧ a < i ∧ i ≤ j + 1 ∧ (∀ q, a < q → q < i → ¬ c (f a) (f q) < 0) ∧ KRP n B cap g a ρ ∧ ρ 11 = .int .i64 i ∧ ρ 12 = .int .i64 j ∧ ms = [] ∧ h' = h ∧ d' = []) →
    LoopW M cx 7 sf96L1 ρ ms h' d' (fun ex ρ' ms' h' d' => ex = .exit 2 ∧ ms' = [] ∧ h' = h ∧ d' = [] ∧ ∃ i : Nat, i0 ≤ i ∧ a < i ∧ i ≤ j + 1 ∧ (∀ q, a < q → q < i → ¬ c (f a) (f q) < 0) ∧ (i ≤ j → ¬ ¬ c (f a) (f i) < 0) ∧ KRP n B cap g a ρ' ∧ ρ' 11 = .int .i64 i ∧ ρ' 12 = .int .i64 j) := by
  refine loop_run _ ?_
  rintro k ρ ms h' d' ⟨i, hk, h0i, hai, hij, hP, ⟨r0, r1, r4⟩, ri, rj, rfl, rfl, rfl⟩
  unfold sf96L1
  by_cases z : i ≤ j
  · have e1 : (i : Int) ≤ j := by omega
    have p1 : (0 : Int) ≤ (i : Int) := by omega
    have p2 : (i : Int) < n := by omega
    have p3 : (0 : Int) ≤ (a : Int) := by omega
    have p4 : (a : Int) < n := by omega
    have w1 : IntKind.i64.wrap ((i : Int) + 1) = ((i + 1 : Nat) : Int) := by rw [wrap64 (by omega) (by omega)]; rfl
    have l1 := S.load hl (show i < n by omega)
    have l2 := S.load hl (show a < n by omega)
    have cc := fun h => C.call (f a) (f i) h
    by_cases hlt : ¬ c (f a) (f i) < 0
    · repeat (first | apply run_seq | apply run_block | apply end_seq | apply end_blk_hit | apply end_blk_miss rfl | apply end_blk | apply end_seq_exit | apply end_seq_ret | apply end_blk_ret | apply run_skip | apply run_ret | apply run_exit | (apply run_region (by decide); (simp (maxSteps := 9999999) only [go_sem, r0, r1, r4, ri, rj, e1, p1, p2, p3, p4, w1, l1, l2, cc, hlt]; rfl)) | (apply run_regionN (by decide); (simp (maxSteps := 9999999) only [go_sem, r0, r1, r4, ri, rj, e1, p1, p2, p3, p4, w1, l1, l2, cc, hlt]; rfl)) | (refine run_cond_t ?_ ?_; · simp only [go_sem]) | (refine run_cond_f ?_ ?_; · simp only [go_sem]))
      refine end_nil ⟨j + 1 - (i + 1), by omega, i + 1, rfl, by omega, by omega, by omega, fun q q1 q2 => ?_, ⟨by simp (maxSteps := 9999999) only [go_sem, r0], by simp (maxSteps := 9999999) only [go_sem, r1], by simp (maxSteps := 9999999) only [go_sem, r4]⟩, by simp (maxSteps := 9999999) only [go_sem, w1], by simp (maxSteps := 9999999) only [go_sem, rj], rfl, rfl, rfl⟩
      by_cases e : q = i
      · subst e; exact hlt
      · exact hP q q1 (by omega)
    · have hlt2 := Classical.not_not.1 hlt
      repeat (first | apply run_seq | apply run_block | apply end_seq | apply end_blk_hit | apply end_blk_miss rfl | apply end_blk | apply end_seq_exit | apply end_seq_ret | apply end_blk_ret | apply run_skip | apply run_ret | apply run_exit | (apply run_region (by decide); (simp (maxSteps := 9999999) only [go_sem, r0, r1, r4, ri, rj, e1, p1, p2, p3, p4, l1, l2, cc, hlt2]; rfl)) | (apply run_regionN (by decide); (simp (maxSteps := 9999999) only [go_sem, r0, r1, r4, ri, rj, e1, p1, p2, p3, p4, l1, l2, cc, hlt2]; rfl)) | (refine run_cond_t ?_ ?_; · simp only [go_sem]) | (refine run_cond_f ?_ ?_; · simp only [go_sem]))
      exact end_nil ⟨rfl, rfl, rfl, rfl, i, h0i, hai, hij, hP, fun _ => hlt, ⟨by simp (maxSteps := 9999999) only [go_sem, r0], by simp (maxSteps := 9999999) only [go_sem, r1], by simp (maxSteps := 9999999) only [go_sem, r4]⟩, by simp (maxSteps := 9999999) only [go_sem, ri], by simp (maxSteps := 9999999) only [go_sem, rj]⟩
  · have e1 : ¬ (i : Int) ≤ j := by omega
    repeat (first | apply run_seq | apply run_block | apply end_seq | apply end_blk_hit | apply end_blk_miss rfl | apply end_blk | apply end_seq_exit | apply end_seq_ret | apply end_blk_ret | apply run_skip | apply run_ret | apply run_exit | (apply run_region (by decide); (simp (maxSteps := 9999999) only [go_sem, r0, r1, r4, ri, rj, e1]; rfl)) | (apply run_regionN (by decide); (simp (maxSteps := 9999999) only [go_sem, r0, r1, r4, ri, rj, e1]; rfl)) | (refine run_cond_t ?_ ?_; · simp only [go_sem]) | (refine run_cond_f ?_ ?_; · simp only [go_sem]))
    exact end_nil ⟨rfl, rfl, rfl, rfl, i, h0i, hai, hij, hP, fun h => (z h).elim, ⟨by simp (maxSteps := 9999999) only [go_sem, r0], by simp (maxSteps := 9999999) only [go_sem, r1], by simp (maxSteps := 9999999) only [go_sem, r4]⟩, by simp (maxSteps := 9999999) only [go_sem, ri], by simp (maxSteps := 9999999) only [go_sem, rj]⟩

theorem peqD_loopP (C : Cmp M g cel c) (hl : ∀ x, (cel x).length = 2) (hn : n ≤ 1000000) {a b i : Nat} (hb : b ≤ n) (hai : a < i) (j0 : Nat) (cx : Cx) {h : SHeap} {f : Nat → E} (S : SA cel n B el h0 old0 h f) : ∀ k ρ ms h' d', (∃ j : Nat, j + 1 - i = k ∧ j ≤ j0 ∧ j < b ∧ i ≤ j + 1 ∧ (∀ q, j < q → q < b → c (f a) (f q) < 0) ∧ KRP n B cap g a ρ ∧ ρ 11 = .int .i64 i ∧ ρ 12 = .int .i64 j ∧ ms = [] ∧ h' = h ∧ d' = []) →
    LoopW M cx 7 sf96L0 ρ ms h' d' (fun ex ρ' ms' h' d' => ex = .exit 4 ∧ ms' = [] ∧ h' = h ∧ d' = [] ∧ ∃ j : Nat, j ≤ j0 ∧ j < b ∧ i ≤ j + 1 ∧ (∀ q, j < q → q < b → c (f a) (f q) < 0) ∧ (i ≤ j → ¬ c (f a) (f j) < 0) ∧ KRP n B cap g a ρ' ∧ ρ' 11 = .int .i64 i ∧ ρ' 12 = .int .i64 j) := by
  refine loop_run _ ?_
  rintro k ρ ms h' d' ⟨j, hk, h0j, hjb, hij, hR, ⟨r0, r1, r4⟩, ri, rj, rfl, rfl, rfl⟩
  unfold sf96L0
  by_cases z : i ≤ j
  · have e1 : (i : Int) ≤ j := by omega
    have p1 : (0 : Int) ≤ (j : Int) := by omega
    have p2 : (j : Int) < n := by omega
    have p3 : (0 : Int) ≤ (a : Int) := by omega
    have p4 : (a : Int) < n := by omega
    have w1 : IntKind.i64.wrap ((j : Int) - 1) = ((j - 1 : Nat) : Int) := by rw [wrap64 (by omega) (by omega)]; omega
    have l1 := S.load hl (show j < n by omega)
    have l2 := S.load hl (show a < n by omega)
    have cc := fun h => C.call (f a) (f j) h
    by_cases hlt : c (f a) (f j) < 0
    · repeat (first | apply run_seq | apply run_block | apply end_seq | apply end_blk_hit | apply end_blk_miss rfl | apply end_blk | apply end_seq_exit | apply end_seq_ret | apply end_blk_ret | apply run_skip | apply run_ret | apply run_exit | (apply run_region (by decide); (simp (maxSteps := 9999999) only [go_sem, r0, r1, r4, ri, rj, e1, p1, p2, p3, p4, w1, l1, l2, cc, hlt]; rfl)) | (apply run_regionN (by decide); (simp (maxSteps := 9999999) only [go_sem, r0, r1, r4, ri, rj, e1, p1, p2, p3, p4, w1, l1, l2, cc, hlt]; rfl)) | (refine run_cond_t ?_ ?_; · simp only [go_sem]) | (refine run_cond_f ?_ ?_; · simp only [go_sem]))
      refine end_nil ⟨j - 1 + 1 - i, by omega, j - 1, rfl, by omega, by omega, by omega, fun q q1 q2 => ?_, ⟨by simp (maxSteps := 9999999) only [go_sem, r0], by simp (maxSteps := 9999999) only [go_sem, r1], by simp (maxSteps := 9999999) only [go_sem, r4]⟩, by simp (maxSteps := 9999999) only [go_sem, ri], by simp (maxSteps := 9999999) only [go_sem, w1], rfl, rfl, rfl⟩
      by_cases e : q = j
      · subst e; exact hlt
      · exact hR q (by omega) q2
    · have hlt2 := hlt
      repeat (first | apply run_seq | apply run_block | apply end_seq | apply end_blk_hit | apply end_blk_miss rfl | apply end_blk | apply end_seq_exit | apply end_seq_ret | apply end_blk_ret | apply run_skip | apply run_ret | apply run_exit | (apply run_region (by decide); (simp (maxSteps := 9999999) only [go_sem, r0, r1, r4, ri, rj, e1, p1, p2, p3, p4, l1, l2, cc, hlt2]; rfl)) | (apply run_regionN (by decide); (simp (maxSteps := 9999999) only [go_sem, r0, r1, r4, ri, rj, e1, p1, p2, p3, p4, l1, l2, cc, hlt2]; rfl)) | (refine run_cond_t ?_ ?_; · simp only [go_sem]) | (refine run_cond_f ?_ ?_; · simp only [go_sem]))
      exact end_nil ⟨rfl, rfl, rfl, rfl, j, h0j, hjb, hij, hR, fun _ => hlt, ⟨by simp (maxSteps := 9999999) only [go_sem, r0], by simp (maxSteps := 9999999) only [go_sem, r1], by simp (maxSteps := 9999999) only [go_sem, r4]⟩, by simp (maxSteps := 9999999) only [go_sem, ri], by simp (maxSteps := 9999999) only [go_sem, rj]⟩
  · have e1 : ¬ (i : Int) ≤ j := by omega
    repeat (first | apply run_seq | apply run_block | apply end_seq | apply end_blk_hit | apply end_blk_miss rfl | apply end_blk | apply end_seq_exit | apply end_seq_ret | apply end_blk_ret | apply run_skip | apply run_ret | apply run_exit | (apply run_region (by decide); (simp (maxSteps := 9999999) only [go_sem, r0, r1, r4, ri, rj, e1]; rfl)) | (apply run_regionN (by decide); (simp (maxSteps := 9999999) only [go_sem, r0, r1, r4, ri, rj, e1]; rfl)) | (refine run_cond_t ?_ ?_; · simp only [go_sem]) | (refine run_cond_f ?_ ?_; · simp only [go_sem]))
    exact end_nil ⟨rfl, rfl, rfl, rfl, j, h0j, hjb, hij, hR, fun h => (z h).elim, ⟨by simp (maxSteps := 9999999) only [go_sem, r0], by simp (maxSteps := 9999999) only [go_sem, r1], by simp (maxSteps := 9999999) only [go_sem, r4]⟩, by simp (maxSteps := 9999999) only [go_sem, ri], by simp (maxSteps := 9999999) only [go_sem, rj]⟩

theorem peqO_loopP (C : Cmp M g cel c) (hl : ∀ x, (cel x).length = 2) (hc : ∀ x, (cel x).all sc = true) (hn : n ≤ 1000000) {a b : Nat} (hb : b ≤ n) (cx : Cx) (f0 : Nat → E) : ∀ k ρ ms h' d', (∃ (i j : Nat) (f : Nat → E), j + 1 - i = k ∧ a < i ∧ i ≤ j + 1 ∧ j < b ∧ SA cel n B el h0 old0 h' f ∧ Sw (a + 1) b f0 f ∧ (∀ q, a < q → q < i → ¬ c (f a) (f q) < 0) ∧ (∀ q, j < q → q < b → c (f a) (f q) < 0) ∧ KRP n B cap g a ρ ∧ ρ 11 = .int .i64 i ∧ ρ 12 = .int .i64 j ∧ ms = [] ∧ d' = []) →
    LoopW M cx 7 sf96L2 ρ ms h' d' (fun ex ρ' ms' h' d' => ex = .exit 0 ∧ ms' = [] ∧ d' = [] ∧ ∃ (i : Nat) (f : Nat → E), a < i ∧ i ≤ b ∧ SA cel n B el h0 old0 h' f ∧ Sw (a + 1) b f0 f ∧ (∀ q, a < q → q < i → ¬ c (f a) (f q) < 0) ∧ (∀ q, i ≤ q → q < b → c (f a) (f q) < 0) ∧ ρ' 11 = .int .i64 i) := by
  refine loop_run _ ?_
  rintro k ρ ms h' d' ⟨i, j, f, hk, hai, hij, hjb, S, W, hP, hR, ⟨r0, r1, r4⟩, ri, rj, rfl, rfl⟩
  unfold sf96L2
  repeat (first | apply run_seq | apply run_block | apply end_seq | apply end_blk_hit | apply end_blk_miss rfl | apply end_blk | apply end_seq_exit | apply end_seq_ret | apply end_blk_ret | apply run_skip | apply run_ret | apply run_exit | (apply run_region (by decide); (simp (maxSteps := 9999999) only [go_sem]; rfl)) | (apply run_regionN (by decide); (simp (maxSteps := 9999999) only [go_sem]; rfl)) | (refine run_cond_t ?_ ?_; · simp only [go_sem]) | (refine run_cond_f ?_ ?_; · simp only [go_sem]))
  refine run_loop (peqU_loopP (cap := cap) C hl hn (a := a) hb hjb (by omega) i cx S (j + 1 - i) _ _ _ _ ⟨i, rfl, Nat.le_refl _, hai, hij, hP, ⟨by simp (maxSteps := 9999999) only [go_sem, r0], by simp (maxSteps := 9999999) only [go_sem, r1], by simp (maxSteps := 9999999) only [go_sem, r4]⟩, by simp (maxSteps := 9999999) only [go_sem, ri], by simp (maxSteps := 9999999) only [go_sem, rj], rfl, rfl, rfl⟩) ?_
  rintro ex ρ1 ms1 h1 d1 ⟨rfl, rfl, rfl, rfl, i2, h0i2, hai2, hij2, hP2, hstop1, ⟨r0, r1, r4⟩, ri, rj⟩
  repeat (first | apply run_seq | apply run_block | apply end_seq | apply end_blk_hit | apply end_blk_miss rfl | apply end_blk | apply end_seq_exit | apply end_seq_ret | apply end_blk_ret | apply run_skip | apply run_ret | apply run_exit | (apply run_region (by decide); (simp (maxSteps := 9999999) only [go_sem]; rfl)) | (apply run_regionN (by decide); (simp (maxSteps := 9999999) only [go_sem]; rfl)) | (refine run_cond_t ?_ ?_; · simp only [go_sem]) | (refine run_cond_f ?_ ?_; · simp only [go_sem]))
  refine run_loop (peqD_loopP (cap := cap) C hl hn (a := a) hb hai2 j cx S (j + 1 - i2) _ _ _ _ ⟨j, rfl, Nat.le_refl _, hjb, hij2, hR, ⟨by simp (maxSteps := 9999999) only [go_sem, r0], by simp (maxSteps := 9999999) only [go_sem, r1], by simp (maxSteps := 9999999) only [go_sem, r4]⟩, by simp (maxSteps := 9999999) only [go_sem, ri], by simp (maxSteps := 9999999) only [go_sem, rj], rfl, rfl, rfl⟩) ?_
  rintro ex ρ2 ms2 h2 d2 ⟨rfl, rfl, rfl, rfl, j2, h0j2, hjb2, hij3, hR2, hstop2, ⟨r0, r1, r4⟩, ri, rj⟩
  by_cases z : j2 < i2
  · have e1 : (j2 : Int) < i2 := by omega
    repeat (first | apply run_seq | apply run_block | apply end_seq | apply end_blk_hit | apply end_blk_miss rfl | apply end_blk | apply end_seq_exit | apply end_seq_ret | apply end_blk_ret | apply run_skip | apply run_ret | apply run_exit | (apply run_region (by decide); (simp (maxSteps := 9999999) only [go_sem, r0, r1, r4, ri, rj, e1]; rfl)) | (apply run_regionN (by decide); (simp (maxSteps := 9999999) only [go_sem, r0, r1, r4, ri, rj, e1]; rfl)) | (refine run_cond_t ?_ ?_; · simp only [go_sem]) | (refine run_cond_f ?_ ?_; · simp only [go_sem]))
    exact end_nil ⟨rfl, rfl, rfl, i2, f, hai2, by omega, S, W, hP2, fun q q1 q2 => hR2 q (by omega) q2, by simp (maxSteps := 9999999) only [go_sem, ri]⟩
  · have e1 : ¬ (j2 : Int) < i2 := by omega
    have n2 := hstop2 (by omega)
    have hlt : i2 < j2 := by
      by_cases e : i2 < j2
      · exact e
      · exfalso
        have e3 : i2 = j2 := by omega
        subst e3
        by_cases e4 : i2 ≤ j
        · exact n2 (Classical.not_not.1 (hstop1 e4))
        · exact n2 (hR i2 (by omega) hjb2)
    have m1 : c (f a) (f i2) < 0 := by
      by_cases e4 : i2 ≤ j
      · exact Classical.not_not.1 (hstop1 e4)
      · exact hR i2 (by omega) (by omega)
    have p1 : (0 : Int) ≤ (i2 : Int) := by omega
    have p2 : (i2 : Int) < n := by omega
    have p3 : (0 : Int) ≤ (j2 : Int) := by omega
    have p4 : (j2 : Int) < n := by omega
    have w1 : IntKind.i64.wrap ((i2 : Int) + 1) = ((i2 + 1 : Nat) : Int) := by rw [wrap64 (by omega) (by omega)]; rfl
    have w2 : IntKind.i64.wrap ((j2 : Int) - 1) = ((j2 - 1 : Nat) : Int) := by rw [wrap64 (by omega) (by omega)]; omega
    have l1 := S.load hl (show i2 < n by omega)
    have l2 := S.load hl (show j2 < n by omega)
    obtain ⟨h3, h4, st1, st2, S2⟩ := S.swap hl hc (by decide) (show i2 < n by omega) (show j2 < n by omega)
    repeat (first | apply run_seq | apply run_block | apply end_seq | apply end_blk_hit | apply end_blk_miss rfl | apply end_blk | apply end_seq_exit | apply end_seq_ret | apply end_blk_ret | apply run_skip | apply run_ret | apply run_exit | (apply run_region (by decide); (simp (maxSteps := 9999999) only [go_sem, r0, r1, r4, ri, rj, e1, p1, p2, p3, p4, l1, l2, hl, ↓st1, ↓st2, w1, w2]; rfl)) | (apply run_regionN (by decide); (simp (maxSteps := 9999999) only [go_sem, r0, r1, r4, ri, rj, e1, p1, p2, p3, p4, l1, l2, hl, ↓st1, ↓st2, w1, w2]; rfl)) | (refine run_cond_t ?_ ?_; · simp only [go_sem]) | (refine run_cond_f ?_ ?_; · simp only [go_sem]))
    have ea : swp f i2 j2 a = f a := swp_o f (by omega) (by omega)
    refine end_nil ⟨j2 - 1 + 1 - (i2 + 1), by omega, i2 + 1, j2 - 1, _, rfl, by omega, by omega, by omega, S2, W.step (by omega) (by omega) (by omega) (by omega), fun q q1 q2 => ?_, fun q q1 q2 => ?_, ⟨by simp (maxSteps := 9999999) only [go_sem, r0], by simp (maxSteps := 9999999) only [go_sem, r1], by simp (maxSteps := 9999999) only [go_sem, r4]⟩, by simp (maxSteps := 9999999) only [go_sem, w1], by simp (maxSteps := 9999999) only [go_sem, w2], rfl, rfl⟩
    · rw [ea]
      by_cases e : q = i2
      · subst e; rw [swp_l]; exact n2
      · rw [swp_o f e (by omega)]; exact hP2 q q1 (by omega)
    · rw [ea]
      by_cases e : q = j2
      · subst e; rw [swp_r]; exact m1
      · rw [swp_o f (by omega) e]; exact hR2 q (by omega) q2
/-- partitionEqual -/
theorem peqP (C : Cmp M g cel c) (hl : ∀ x, (cel x).length = 2) (hc : ∀ x, (cel x).all sc = true) (hn : n ≤ 1000000) {a b p : Nat} (hap : a ≤ p) (hpb : p < b) (hb : b ≤ n) {h : SHeap} {f : Nat → E} (S : SA cel n B el h0 old0 h f) :
    ∃ h' f' m, M.call 96 [.slice (some ⟨B, 0, none⟩) n cap, .int .i64 a, .int .i64 b, .int .i64 ((p : Nat) : Int), .func (.func g) #[] #[]] h = some (.int .i64 ((m : Nat) : Int), h', []) ∧ SA cel n B el h0 old0 h' f' ∧ Sw a b f f' ∧ a < m ∧ m ≤ b ∧ f' a = f p ∧ (∀ q, a < q → q < m → ¬ c (f' a) (f' q) < 0) ∧ (∀ q, m ≤ q → q < b → c (f' a) (f' q) < 0) := by
  have key : ∃ r, (∃ h' f' m, r = (Value.int .i64 ((m : Nat) : Int), h', ([] : List Nat)) ∧ SA cel n B el h0 old0 h' f' ∧ Sw a b f f' ∧ a < m ∧ m ≤ b ∧ f' a = f p ∧ (∀ q, a < q → q < m → ¬ c (f' a) (f' q) < 0) ∧ (∀ q, m ≤ q → q < b → c (f' a) (f' q) < 0)) ∧ M.call 96 [.slice (some ⟨B, 0, none⟩) n cap, .int .i64 a, .int .i64 b, .int .i64 ((p : Nat) : Int), .func (.func g) #[] #[]] h = some r := by
    refine call_ex (f := 96) _ sf96 rfl rfl rfl ?_
    unfold sf96
    have p1 : (0 : Int) ≤ (a : Int) := by omega
    have p2 : (a : Int) < n := by omega
    have p3 : (0 : Int) ≤ (p : Int) := by omega
    have p4 : (p : Int) < n := by omega
    have w1 : IntKind.i64.wrap ((a : Int) + 1) = ((a + 1 : Nat) : Int) := by rw [wrap64 (by omega) (by omega)]; rfl
    have w2 : IntKind.i64.wrap ((b : Int) - 1) = ((b - 1 : Nat) : Int) := by rw [wrap64 (by omega) (by omega)]; omega
    have l1 := S.load hl (show a < n by omega)
    have l2 := S.load hl (show p < n by omega)
    obtain ⟨h3, h4, st1, st2, S2⟩ := S.swap hl hc (by decide) (show a < n by omega) (show p < n by omega)
    repeat (first | apply run_seq | apply run_block | apply end_seq | apply end_blk_hit | apply end_blk_miss rfl | apply end_blk | apply end_seq_exit | apply end_seq_ret | apply end_blk_ret | apply run_skip | apply run_ret | apply run_exit | (apply run_region (by decide); (simp (maxSteps := 9999999) only [go_sem, argR, p1, p2, p3, p4, l1, l2, hl, ↓st1, ↓st2, w1, w2]; rfl)) | (apply run_regionN (by decide); (simp (maxSteps := 9999999) only [go_sem, argR, p1, p2, p3, p4, l1, l2, hl, ↓st1, ↓st2, w1, w2]; rfl)) | (refine run_cond_t ?_ ?_; · simp only [go_sem]) | (refine run_cond_f ?_ ?_; · simp only [go_sem]))
    refine run_loop (peqO_loopP (cap := cap) (el := el) (h0 := h0) (old0 := old0) C hl hc hn (a := a) hb _ (swp f a p) (b - 1 + 1 - (a + 1)) _ _ _ _ ⟨a + 1, b - 1, _, rfl, by omega, by omega, by omega, S2, .refl, fun q q1 q2 => by omega, fun q q1 q2 => by omega, ⟨by simp (maxSteps := 9999999) only [go_sem, argR], by simp (maxSteps := 9999999) only [go_sem, argR], by simp (maxSteps := 9999999) only [go_sem, argR]⟩, by simp (maxSteps := 9999999) only [go_sem, w1], by simp (maxSteps := 9999999) only [go_sem, w2], rfl, rfl⟩) ?_
    rintro ex ρ' ms' h5 d1 ⟨rfl, rfl, rfl, m, f3, m1, m2, S3, W3, hP, hR, k11⟩
    repeat (first | apply run_seq | apply run_block | apply end_seq | apply end_blk_hit | apply end_blk_miss rfl | apply end_blk | apply end_seq_exit | apply end_seq_ret | apply end_blk_ret | apply run_skip | apply run_ret | apply run_exit | (apply run_region (by decide); (simp (maxSteps := 9999999) only [go_sem, k11]; rfl)) | (apply run_regionN (by decide); (simp (maxSteps := 9999999) only [go_sem, k11]; rfl)) | (refine run_cond_t ?_ ?_; · simp only [go_sem]) | (refine run_cond_f ?_ ?_; · simp only [go_sem]))
    exact end_nil ⟨_, ⟨h5, f3, m, rfl, S3, (Sw.one f (by omega) (by omega) (by omega) (by omega)).trans (W3.mono (by omega) (by omega)), m1, m2, by rw [W3.out (by omega), swp_l], hP, hR⟩, q_free [.int .i64 m] (by simp (maxSteps := 9999999) only [go_sem]) rfl rfl rfl (fun _ => rfl) (by rw [List.take_of_length_le]; rw [S3.len, S.len]; exact Nat.le_refl _) rfl⟩
  obtain ⟨r, ⟨h', f', m, rfl, k⟩, e⟩ := key
  exact ⟨h', f', m, e, k⟩

theorem ptA_loopP (C : Cmp M g cel c) (hl : ∀ x, (cel x).length = 2) (hn : n ≤ 1000000) {a b j : Nat} (hb : b ≤ n) (hj : j < b) (haj : a ≤ j) (i0 : Nat) (cx : Cx) {h : SHeap} {f : Nat → E} (S : SA cel n B el h0 old0 h f) : ∀ k ρ ms h' d', (∃ i : Nat, j + 1 - i = k ∧ i0 ≤ i ∧ a < i ∧ i ≤ j + 1 ∧ (∀ q, a < q → q < i → c (f q) (f a) < 0) ∧ KRP n B cap g a ρ ∧ ρ 12 = .int .i64 i ∧ ρ 13 = .int .i64 j ∧ ms = [] ∧ h' = h ∧ d' = []) →
    LoopW M cx 8 sf97L4 ρ ms h' d' (fun ex ρ' ms' h' d' => ex = .exit 0 ∧ ms' = [] ∧ h' = h ∧ d' = [] ∧ ∃ i : Nat, i0 ≤ i ∧ a < i ∧ i ≤ j + 1 ∧ (∀ q, a < q → q < i → c (f q) (f a) < 0) ∧ (i ≤ j → ¬ c (f i) (f a) < 0) ∧ KRP n B cap g a ρ' ∧ ρ' 12 = .int .i64 i ∧ ρ' 13 = .int .i64 j) := by
  refine loop_run _ ?_
  rintro k ρ ms h' d' ⟨i, hk, h0i, hai, hij, hP, ⟨r0, r1, r4⟩, ri, rj, rfl, rfl, rfl⟩
  unfold sf97L4
  by_cases z : i ≤ j
  · have e1 : (i : Int) ≤ j := by omega
    have p1 : (0 : Int) ≤ (i : Int) := by omega
    have p2 : (i : Int) < n := by omega
    have p3 : (0 : Int) ≤ (a : Int) := by omega
    have p4 : (a : Int) < n := by omega
    have w1 : IntKind.i64.wrap ((i : Int) + 1) = ((i + 1 : Nat) : Int) := by rw [wrap64 (by omega) (by omega)]; rfl
    have l1 := S.load hl (show i < n by omega)
    have l2 := S.load hl (show a < n by omega)
    have cc := fun h => C.call (f i) (f a) h
    by_cases hlt : c (f i) (f a) < 0
    · repeat (first | apply run_seq | apply run_block | apply end_seq | apply end_blk_hit | apply end_blk_miss rfl | apply end_blk | apply end_seq_exit | apply end_seq_ret | apply end_blk_ret | apply run_skip | apply run_ret | apply run_exit | (apply run_region (by decide); (simp (maxSteps := 9999999) only [go_sem, r0, r1, r4, ri, rj, e1, p1, p2, p3, p4, w1, l1, l2, cc, hlt]; rfl)) | (apply run_regionN (by decide); (simp (maxSteps := 9999999) only [go_sem, r0, r1, r4, ri, rj, e1, p1, p2, p3, p4, w1, l1, l2, cc, hlt]; rfl)) | (refine run_cond_t ?_ ?_; · simp only [go_sem]) | (refine run_cond_f ?_ ?_; · simp only [go_sem]))
      refine end_nil ⟨j + 1 - (i + 1), by omega, i + 1, rfl, by omega, by omega, by omega, fun q q1 q2 => ?_, ⟨by simp (maxSteps := 9999999) only [go_sem, r0], by simp (maxSteps := 9999999) only [go_sem, r1], by simp (maxSteps := 9999999) only [go_sem, r4]⟩, by simp (maxSteps := 9999999) only [go_sem, w1], by simp (maxSteps := 9999999) only [go_sem, rj], rfl, rfl, rfl⟩
      by_cases e : q = i
      · subst e; exact hlt
      · exact hP q q1 (by omega)
    · have hlt2 := hlt
      repeat (first | apply run_seq | apply run_block | apply end_seq | apply end_blk_hit | apply end_blk_miss rfl | apply end_blk | apply end_seq_exit | apply end_seq_ret | apply end_blk_ret | apply run_skip | apply run_ret | apply run_exit | (apply run_region (by decide); (simp (maxSteps := 9999999) only [go_sem, r0, r1, r4, ri, rj, e1, p1, p2, p3, p4, l1, l2, cc, hlt2]; rfl)) | (apply run_regionN (by decide); (simp (maxSteps := 9999999) only [go_sem, r0, r1, r4, ri, rj, e1, p1, p2, p3, p4, l1, l2, cc, hlt2]; rfl)) | (refine run_cond_t ?_ ?_; · simp only [go_sem]) | (refine run_cond_f ?_ ?_; · simp only [go_sem]))
      exact end_nil ⟨rfl, rfl, rfl, rfl, i, h0i, hai, hij, hP, fun _ => hlt, ⟨by simp (maxSteps := 9999999) only [go_sem, r0], by simp (maxSteps := 9999999) only [go_sem, r1], by simp (maxSteps := 9999999) only [go_sem, r4]⟩, by simp (maxSteps := 9999999) only [go_sem, ri], by simp (maxSteps := 9999999) only [go_sem, rj]⟩
  · have e1 : ¬ (i : Int) ≤ j := by omega
    repeat (first | apply run_seq | apply run_block | apply end_seq | apply end_blk_hit | apply end_blk_miss rfl | apply end_blk | apply end_seq_exit | apply end_seq_ret | apply end_blk_ret | apply run_skip | apply run_ret | apply run_exit | (apply run_region (by decide); (simp (maxSteps := 9999999) only [go_sem, r0, r1, r4, ri, rj, e1]; rfl)) | (apply run_regionN (by decide); (simp (maxSteps := 9999999) only [go_sem, r0, r1, r4, ri, rj, e1]; rfl)) | (refine run_cond_t ?_ ?_; · simp only [go_sem]) | (refine run_cond_f ?_ ?_; · simp only [go_sem]))
    exact end_nil ⟨rfl, rfl, rfl, rfl, i, h0i, hai, hij, hP, fun h => (z h).elim, ⟨by simp (maxSteps := 9999999) only [go_sem, r0], by simp (maxSteps := 9999999) only [go_sem, r1], by simp (maxSteps := 9999999) only [go_sem, r4]⟩, by simp (maxSteps := 9999999) only [go_sem, ri], by simp (maxSteps := 9999999) only [go_sem, rj]⟩

theorem ptB_loopP (C : Cmp M g cel c) (hl : ∀ x, (cel x).length = 2) (hn : n ≤ 1000000) {a b i : Nat} (hb : b ≤ n) (hai : a < i) (j0 : Nat) (cx : Cx) {h : SHeap} {f : Nat → E} (S : SA cel n B el h0 old0 h f) : ∀ k ρ ms h' d', (∃ j : Nat, j + 1 - i = k ∧ j ≤ j0 ∧ j < b ∧ i ≤ j + 1 ∧ (∀ q, j < q → q < b → ¬ c (f q) (f a) < 0) ∧ KRP n B cap g a ρ ∧ ρ 12 = .int .i64 i ∧ ρ 13 = .int .i64 j ∧ ms = [] ∧ h' = h ∧ d' = []) →
    LoopW M cx 8 sf97L3 ρ ms h' d' (fun ex ρ' ms' h' d' => ex = .exit 2 ∧ ms' = [] ∧ h' = h ∧ d' = [] ∧ ∃ j : Nat, j ≤ j0 ∧ j < b ∧ i ≤ j + 1 ∧ (∀ q, j < q → q < b → ¬ c (f q) (f a) < 0) ∧ (i ≤ j → ¬ ¬ c (f j) (f a) < 0) ∧ KRP n B cap g a ρ' ∧ ρ' 12 = .int .i64 i ∧ ρ' 13 = .int .i64 j) := by
  refine loop_run _ ?_
  rintro k ρ ms h' d' ⟨j, hk, h0j, hjb, hij, hR, ⟨r0, r1, r4⟩, ri, rj, rfl, rfl, rfl⟩
  unfold sf97L3
  by_cases z : i ≤ j
  · have e1 : (i : Int) ≤ j := by omega
    have p1 : (0 : Int) ≤ (j : Int) := by omega
    have p2 : (j : Int) < n := by omega
    have p3 : (0 : Int) ≤ (a : Int) := by omega
    have p4 : (a : Int) < n := by omega
    have w1 : IntKind.i64.wrap ((j : Int) - 1) = ((j - 1 : Nat) : Int) := by rw [wrap64 (by omega) (by omega)]; omega
    have l1 := S.load hl (show j < n by omega)
    have l2 := S.load hl (show a < n by omega)
    have cc := fun h => C.call (f j) (f a) h
    by_cases hlt : ¬ c (f j) (f a) < 0
    · repeat (first | apply run_seq | apply run_block | apply end_seq | apply end_blk_hit | apply end_blk_miss rfl | apply end_blk | apply end_seq_exit | apply end_seq_ret | apply end_blk_ret | apply run_skip | apply run_ret | apply run_exit | (apply run_region (by decide); (simp (maxSteps := 9999999) only [go_sem, r0, r1, r4, ri, rj, e1, p1, p2, p3, p4, w1, l1, l2, cc, hlt]; rfl)) | (apply run_regionN (by decide); (simp (maxSteps := 9999999) only [go_sem, r0, r1, r4, ri, rj, e1, p1, p2, p3, p4, w1, l1, l2, cc, hlt]; rfl)) | (refine run_cond_t ?_ ?_; · simp only [go_sem]) | (refine run_cond_f ?_ ?_; · simp only [go_sem]))
      refine end_nil ⟨j - 1 + 1 - i, by omega, j - 1, rfl, by omega, by omega, by omega, fun q q1 q2 => ?_, ⟨by simp (maxSteps := 9999999) only [go_sem, r0], by simp (maxSteps := 9999999) only [go_sem, r1], by simp (maxSteps := 9999999) only [go_sem, r4]⟩, by simp (maxSteps := 9999999) only [go_sem, ri], by simp (maxSteps := 9999999) only [go_sem, w1], rfl, rfl, rfl⟩
      by_cases e : q = j
      · subst e; exact hlt
      · exact hR q (by omega) q2
    · have hlt2 := Classical.not_not.1 hlt
      repeat (first | apply run_seq | apply run_block | apply end_seq | apply end_blk_hit | apply end_blk_miss rfl | apply end_blk | apply end_seq_exit | apply end_seq_ret | apply end_blk_ret | apply run_skip | apply run_ret | apply run_exit | (apply run_region (by decide); (simp (maxSteps := 9999999) only [go_sem, r0, r1, r4, ri, rj, e1, p1, p2, p3, p4, l1, l2, cc, hlt2]; rfl)) | (apply run_regionN (by decide); (simp (maxSteps := 9999999) only [go_sem, r0, r1, r4, ri, rj, e1, p1, p2, p3, p4, l1, l2, cc, hlt2]; rfl)) | (refine run_cond_t ?_ ?_; · simp only [go_sem]) | (refine run_cond_f ?_ ?_; · simp only [go_sem]))
      exact end_nil ⟨rfl, rfl, rfl, rfl, j, h0j, hjb, hij, hR, fun _ => hlt, ⟨by simp (maxSteps := 9999999) only [go_sem, r0], by simp (maxSteps := 9999999) only [go_sem, r1], by simp (maxSteps := 9999999) only [go_sem, r4]⟩, by simp (maxSteps := 9999999) only [go_sem, ri], by simp (maxSteps := 9999999) only [go_sem, rj]⟩
  · have e1 : ¬ (i : Int) ≤ j := by omega
    repeat (first | apply run_seq | apply run_block | apply end_seq | apply end_blk_hit | apply end_blk_miss rfl | apply end_blk | apply end_seq_exit | apply end_seq_ret | apply end_blk_ret | apply run_skip | apply run_ret | apply run_exit | (apply run_region (by decide); (simp (maxSteps := 9999999) only [go_sem, r0, r1, r4, ri, rj, e1]; rfl)) | (apply run_regionN (by decide); (simp (maxSteps := 9999999) only [go_sem, r0, r1, r4, ri, rj, e1]; rfl)) | (refine run_cond_t ?_ ?_; · simp only [go_sem]) | (refine run_cond_f ?_ ?_; · simp only [go_sem]))
    exact end_nil ⟨rfl, rfl, rfl, rfl, j, h0j, hjb, hij, hR, fun h => (z h).elim, ⟨by simp (maxSteps := 9999999) only [go_sem, r0], by simp (maxSteps := 9999999) only [go_sem, r1], by simp (maxSteps := 9999999) only [go_sem, r4]⟩, by simp (maxSteps := 9999999) only [go_sem, ri], by simp (maxSteps := 9999999) only [go_sem, rj]⟩

theorem ptD_loopP (C : Cmp M g cel c) (hl : ∀ x, (cel x).length = 2) (hn : n ≤ 1000000) {a b j : Nat} (hb : b ≤ n) (hj : j < b) (haj : a ≤ j) (i0 : Nat) (cx : Cx) {h : SHeap} {f : Nat → E} (S : SA cel n B el h0 old0 h f) : ∀ k ρ ms h' d', (∃ i : Nat, j + 1 - i = k ∧ i0 ≤ i ∧ a < i ∧ i ≤ j + 1 ∧ (∀ q, a < q → q < i → c (f q) (f a) < 0) ∧ KRP n B cap g a ρ ∧ ρ 12 = .int .i64 i ∧ ρ 13 = .int .i64 j ∧ ms = [] ∧ h' = h ∧ d' = []) →
    LoopW M cx 8 sf97L1 ρ ms h' d' (fun ex ρ' ms' h' d' => ex = .exit 6 ∧ ms' = [] ∧ h' = h ∧ d' = [] ∧ ∃ i : Nat, i0 ≤ i ∧ a < i ∧ i ≤ j + 1 ∧ (∀ q, a < q → q < i → c (f q) (f a) < 0) ∧ (i ≤ j → ¬ c (f i) (f a) < 0) ∧ KRP n B cap g a ρ' ∧ ρ' 12 = .int .i64 i ∧ ρ' 13 = .int .i64 j) := by
  refine loop_run _ ?_
  rintro k ρ ms h' d' ⟨i, hk, h0i, hai, hij, hP, ⟨r0, r1, r4⟩, ri, rj, rfl, rfl, rfl⟩
  unfold sf97L1
  by_cases z : i ≤ j
  · have e1 : (i : Int) ≤ j := by omega
    have p1 : (0 : Int) ≤ (i : Int) := by omega
    have p2 : (i : Int) < n := by omega
    have p3 : (0 : Int) ≤ (a : Int) := by omega
    have p4 : (a : Int) < n := by omega
    have w1 : IntKind.i64.wrap ((i : Int) + 1) = ((i + 1 : Nat) : Int) := by rw [wrap64 (by omega) (by omega)]; rfl
    have l1 := S.load hl (show i < n by omega)
    have l2 := S.load hl (show a < n by omega)
    have cc := fun h => C.call (f i) (f a) h
    by_cases hlt : c (f i) (f a) < 0
    · repeat (first | apply run_seq | apply run_block | apply end_seq | apply end_blk_hit | apply end_blk_miss rfl | apply end_blk | apply end_seq_exit | apply end_seq_ret | apply end_blk_ret | apply run_skip | apply run_ret | apply run_exit | (apply run_region (by decide); (simp (maxSteps := 9999999) only [go_sem, r0, r1, r4, ri, rj, e1, p1, p2, p3, p4, w1, l1, l2, cc, hlt]; rfl)) | (apply run_regionN (by decide); (simp (maxSteps := 9999999) only [go_sem, r0, r1, r4, ri, rj, e1, p1, p2, p3, p4, w1, l1, l2, cc, hlt]; rfl)) | (refine run_cond_t ?_ ?_; · simp only [go_sem]) | (refine run_cond_f ?_ ?_; · simp only [go_sem]))
      refine end_nil ⟨j + 1 - (i + 1), by omega, i + 1, rfl, by omega, by omega, by omega, fun q q1 q2 => ?_, ⟨by simp (maxSteps := 9999999) only [go_sem, r0], by simp (maxSteps := 9999999) only [go_sem, r1], by simp (maxSteps := 9999999) only [go_sem, r4]⟩, by simp (maxSteps := 9999999) only [go_sem, w1], by simp (maxSteps := 9999999) only [go_sem, rj], rfl, rfl, rfl⟩
      by_cases e : q = i
      · subst e; exact hlt
      · exact hP q q1 (by omega)
    · have hlt2 := hlt
      repeat (first | apply run_seq | apply run_block | apply end_seq | apply end_blk_hit | apply end_blk_miss rfl | apply end_blk | apply end_seq_exit | apply end_seq_ret | apply end_blk_ret | apply run_skip | apply run_ret | apply run_exit | (apply run_region (by decide); (simp (maxSteps := 9999999) only [go_sem, r0, r1, r4, ri, rj, e1, p1, p2, p3, p4, l1, l2, cc, hlt2]; rfl)) | (apply run_regionN (by decide); (simp (maxSteps := 9999999) only [go_sem, r0, r1, r4, ri, rj, e1, p1, p2, p3, p4, l1, l2, cc, hlt2]; rfl)) | (refine run_cond_t ?_ ?_; · simp only [go_sem]) | (refine run_cond_f ?_ ?_; · simp only [go_sem]))
      exact end_nil ⟨rfl, rfl, rfl, rfl, i, h0i, hai, hij, hP, fun _ => hlt, ⟨by simp (maxSteps := 9999999) only [go_sem, r0], by simp (maxSteps := 9999999) only [go_sem, r1], by simp (maxSteps := 9999999) only [go_sem, r4]⟩, by simp (maxSteps := 9999999) only [go_sem, ri], by simp (maxSteps := 9999999) only [go_sem, rj]⟩
  · have e1 : ¬ (i : Int) ≤ j := by omega
    repeat (first | apply run_seq | apply run_block | apply end_seq | apply end_blk_hit | apply end_blk_miss rfl | apply end_blk | apply end_seq_exit | apply end_seq_ret | apply end_blk_ret | apply run_skip | apply run_ret | apply run_exit | (apply run_region (by decide); (simp (maxSteps := 9999999) only [go_sem, r0, r1, r4, ri, rj, e1]; rfl)) | (apply run_regionN (by decide); (simp (maxSteps := 9999999) only [go_sem, r0, r1, r4, ri, rj, e1]; rfl)) | (refine run_cond_t ?_ ?_; · simp only [go_sem]) | (refine run_cond_f ?_ ?_; · simp only [go_sem]))
    exact end_nil ⟨rfl, rfl, rfl, rfl, i, h0i, hai, hij, hP, fun h => (z h).elim, ⟨by simp (maxSteps := 9999999) only [go_sem, r0], by simp (maxSteps := 9999999) only [go_sem, r1], by simp (maxSteps := 9999999) only [go_sem, r4]⟩, by simp (maxSteps := 9999999) only [go_sem, ri], by simp (maxSteps := 9999999) only [go_sem, rj]⟩

theorem ptE_loopP (C : Cmp M g cel c) (hl : ∀ x, (cel x).length = 2) (hn : n ≤ 1000000) {a b i : Nat} (hb : b ≤ n) (hai : a < i) (j0 : Nat) (cx : Cx) {h : SHeap} {f : Nat → E} (S : SA cel n B el h0 old0 h f) : ∀ k ρ ms h' d', (∃ j : Nat, j + 1 - i = k ∧ j ≤ j0 ∧ j < b ∧ i ≤ j + 1 ∧ (∀ q, j < q → q < b → ¬ c (f q) (f a) < 0) ∧ KRP n B cap g a ρ ∧ ρ 12 = .int .i64 i ∧ ρ 13 = .int .i64 j ∧ ms = [] ∧ h' = h ∧ d' = []) →
    LoopW M cx 8 sf97L0 ρ ms h' d' (fun ex ρ' ms' h' d' => ex = .exit 8 ∧ ms' = [] ∧ h' = h ∧ d' = [] ∧ ∃ j : Nat, j ≤ j0 ∧ j < b ∧ i ≤ j + 1 ∧ (∀ q, j < q → q < b → ¬ c (f q) (f a) < 0) ∧ (i ≤ j → ¬ ¬ c (f j) (f a) < 0) ∧ KRP n B cap g a ρ' ∧ ρ' 12 = .int .i64 i ∧ ρ' 13 = .int .i64 j) := by
  refine loop_run _ ?_
  rintro k ρ ms h' d' ⟨j, hk, h0j, hjb, hij, hR, ⟨r0, r1, r4⟩, ri, rj, rfl, rfl, rfl⟩
  unfold sf97L0
  by_cases z : i ≤ j
  · have e1 : (i : Int) ≤ j := by omega
    have p1 : (0 : Int) ≤ (j : Int) := by omega
    have p2 : (j : Int) < n := by omega
    have p3 : (0 : Int) ≤ (a : Int) := by omega
    have p4 : (a : Int) < n := by omega
    have w1 : IntKind.i64.wrap ((j : Int) - 1) = ((j - 1 : Nat) : Int) := by rw [wrap64 (by omega) (by omega)]; omega
    have l1 := S.load hl (show j < n by omega)
    have l2 := S.load hl (show a < n by omega)
    have cc := fun h => C.call (f j) (f a) h
    by_cases hlt : ¬ c (f j) (f a) < 0
    · repeat (first | apply run_seq | apply run_block | apply end_seq | apply end_blk_hit | apply end_blk_miss rfl | apply end_blk | apply end_seq_exit | apply end_seq_ret | apply end_blk_ret | apply run_skip | apply run_ret | apply run_exit | (apply run_region (by decide); (simp (maxSteps := 9999999) only [go_sem, r0, r1, r4, ri, rj, e1, p1, p2, p3, p4, w1, l1, l2, cc, hlt]; rfl)) | (apply run_regionN (by decide); (simp (maxSteps := 9999999) only [go_sem, r0, r1, r4, ri, rj, e1, p1, p2, p3, p4, w1, l1, l2, cc, hlt]; rfl)) | (refine run_cond_t ?_ ?_; · simp only [go_sem]) | (refine run_cond_f ?_ ?_; · simp only [go_sem]))
      refine end_nil ⟨j - 1 + 1 - i, by omega, j - 1, rfl, by omega, by omega, by omega, fun q q1 q2 => ?_, ⟨by simp (maxSteps := 9999999) only [go_sem, r0], by simp (maxSteps := 9999999) only [go_sem, r1], by simp (maxSteps := 9999999) only [go_sem, r4]⟩, by simp (maxSteps := 9999999) only [go_sem, ri], by simp (maxSteps := 9999999) only [go_sem, w1], rfl, rfl, rfl⟩
      by_cases e : q = j
      · subst e; exact hlt
      · exact hR q (by omega) q2
    · have hlt2 := Classical.not_not.1 hlt
      repeat (first | apply run_seq | apply run_block | apply end_seq | apply end_blk_hit | apply end_blk_miss rfl | apply end_blk | apply end_seq_exit | apply end_seq_ret | apply end_blk_ret | apply run_skip | apply run_ret | apply run_exit | (apply run_region (by decide); (simp (maxSteps := 9999999) only [go_sem, r0, r1, r4, ri, rj, e1, p1, p2, p3, p4, l1, l2, cc, hlt2]; rfl)) | (apply run_regionN (by decide); (simp (maxSteps := 9999999) only [go_sem, r0, r1, r4, ri, rj, e1, p1, p2, p3, p4, l1, l2, cc, hlt2]; rfl)) | (refine run_cond_t ?_ ?_; · simp only [go_sem]) | (refine run_cond_f ?_ ?_; · simp only [go_sem]))
      exact end_nil ⟨rfl, rfl, rfl, rfl, j, h0j, hjb, hij, hR, fun _ => hlt, ⟨by simp (maxSteps := 9999999) only [go_sem, r0], by simp (maxSteps := 9999999) only [go_sem, r1], by simp (maxSteps := 9999999) only [go_sem, r4]⟩, by simp (maxSteps := 9999999) only [go_sem, ri], by simp (maxSteps := 9999999) only [go_sem, rj]⟩
  · have e1 : ¬ (i : Int) ≤ j := by omega
    repeat (first | apply run_seq | apply run_block | apply end_seq | apply end_blk_hit | apply end_blk_miss rfl | apply end_blk | apply end_seq_exit | apply end_seq_ret | apply end_blk_ret | apply run_skip | apply run_ret | apply run_exit | (apply run_region (by decide); (simp (maxSteps := 9999999) only [go_sem, r0, r1, r4, ri, rj, e1]; rfl)) | (apply run_regionN (by decide); (simp (maxSteps := 9999999) only [go_sem, r0, r1, r4, ri, rj, e1]; rfl)) | (refine run_cond_t ?_ ?_; · simp only [go_sem]) | (refine run_cond_f ?_ ?_; · simp only [go_sem]))
    exact end_nil ⟨rfl, rfl, rfl, rfl, j, h0j, hjb, hij, hR, fun h => (z h).elim, ⟨by simp (maxSteps := 9999999) only [go_sem, r0], by simp (maxSteps := 9999999) only [go_sem, r1], by simp (maxSteps := 9999999) only [go_sem, r4]⟩, by simp (maxSteps := 9999999) only [go_sem, ri], by simp (maxSteps := 9999999) only [go_sem, rj]⟩

theorem ptO_loopP (C : Cmp M g cel c) (hl : ∀ x, (cel x).length = 2) (hc : ∀ x, (cel x).all sc = true) (hn : n ≤ 1000000) {a b : Nat} (hb : b ≤ n) (cx : Cx) (f0 : Nat → E) : ∀ k ρ ms h' d', (∃ (i j : Nat) (f : Nat → E), j + 1 - i = k ∧ a < i ∧ i ≤ j + 1 ∧ j < b ∧ SA cel n B el h0 old0 h' f ∧ Sw (a + 1) b f0 f ∧ (∀ q, a < q → q < i → c (f q) (f a) < 0) ∧ (∀ q, j < q → q < b → ¬ c (f q) (f a) < 0) ∧ KRP n B cap g a ρ ∧ ρ 12 = .int .i64 i ∧ ρ 13 = .int .i64 j ∧ ms = [] ∧ d' = []) →
    LoopW M cx 8 sf97L2 ρ ms h' d' (fun ex ρ' ms' h' d' => ex = .exit 4 ∧ ms' = [] ∧ d' = [] ∧ ∃ (j : Nat) (f : Nat → E), a ≤ j ∧ j < b ∧ SA cel n B el h0 old0 h' f ∧ Sw (a + 1) b f0 f ∧ (∀ q, a < q → q ≤ j → c (f q) (f a) < 0) ∧ (∀ q, j < q → q < b → ¬ c (f q) (f a) < 0) ∧ KRP n B cap g a ρ' ∧ ρ' 13 = .int .i64 j) := by
  refine loop_run _ ?_
  rintro k ρ ms h' d' ⟨i, j, f, hk, hai, hij, hjb, S, W, hP, hR, ⟨r0, r1, r4⟩, ri, rj, rfl, rfl⟩
  unfold sf97L2
  repeat (first | apply run_seq | apply run_block | apply end_seq | apply end_blk_hit | apply end_blk_miss rfl | apply end_blk | apply end_seq_exit | apply end_seq_ret | apply end_blk_ret | apply run_skip | apply run_ret | apply run_exit | (apply run_region (by decide); (simp (maxSteps := 9999999) only [go_sem]; rfl)) | (apply run_regionN (by decide); (simp (maxSteps := 9999999) only [go_sem]; rfl)) | (refine run_cond_t ?_ ?_; · simp only [go_sem]) | (refine run_cond_f ?_ ?_; · simp only [go_sem]))
  refine run_loop (ptD_loopP (cap := cap) C hl hn (a := a) hb hjb (by omega) i cx S (j + 1 - i) _ _ _ _ ⟨i, rfl, Nat.le_refl _, hai, hij, hP, ⟨by simp (maxSteps := 9999999) only [go_sem, r0], by simp (maxSteps := 9999999) only [go_sem, r1], by simp (maxSteps := 9999999) only [go_sem, r4]⟩, by simp (maxSteps := 9999999) only [go_sem, ri], by simp (maxSteps := 9999999) only [go_sem, rj], rfl, rfl, rfl⟩) ?_
  rintro ex ρ1 ms1 h1 d1 ⟨rfl, rfl, rfl, rfl, i2, h0i2, hai2, hij2, hP2, hstop1, ⟨r0, r1, r4⟩, ri, rj⟩
  repeat (first | apply run_seq | apply run_block | apply end_seq | apply end_blk_hit | apply end_blk_miss rfl | apply end_blk | apply end_seq_exit | apply end_seq_ret | apply end_blk_ret | apply run_skip | apply run_ret | apply run_exit | (apply run_region (by decide); (simp (maxSteps := 9999999) only [go_sem]; rfl)) | (apply run_regionN (by decide); (simp (maxSteps := 9999999) only [go_sem]; rfl)) | (refine run_cond_t ?_ ?_; · simp only [go_sem]) | (refine run_cond_f ?_ ?_; · simp only [go_sem]))
  refine run_loop (ptE_loopP (cap := cap) C hl hn (a := a) hb hai2 j cx S (j + 1 - i2) _ _ _ _ ⟨j, rfl, Nat.le_refl _, hjb, hij2, hR, ⟨by simp (maxSteps := 9999999) only [go_sem, r0], by simp (maxSteps := 9999999) only [go_sem, r1], by simp (maxSteps := 9999999) only [go_sem, r4]⟩, by simp (maxSteps := 9999999) only [go_sem, ri], by simp (maxSteps := 9999999) only [go_sem, rj], rfl, rfl, rfl⟩) ?_
  rintro ex ρ2 ms2 h2 d2 ⟨rfl, rfl, rfl, rfl, j2, h0j2, hjb2, hij3, hR2, hstop2, ⟨r0, r1, r4⟩, ri, rj⟩
  by_cases z : j2 < i2
  · have e1 : (j2 : Int) < i2 := by omega
    repeat (first | apply run_seq | apply run_block | apply end_seq | apply end_blk_hit | apply end_blk_miss rfl | apply end_blk | apply end_seq_exit | apply end_seq_ret | apply end_blk_ret | apply run_skip | apply run_ret | apply run_exit | (apply run_region (by decide); (simp (maxSteps := 9999999) only [go_sem, r0, r1, r4, ri, rj, e1]; rfl)) | (apply run_regionN (by decide); (simp (maxSteps := 9999999) only [go_sem, r0, r1, r4, ri, rj, e1]; rfl)) | (refine run_cond_t ?_ ?_; · simp only [go_sem]) | (refine run_cond_f ?_ ?_; · simp only [go_sem]))
    exact end_nil ⟨rfl, rfl, rfl, j2, f, by omega, hjb2, S, W, fun q q1 q2 => hP2 q q1 (by omega), hR2, ⟨by simp (maxSteps := 9999999) only [go_sem, r0], by simp (maxSteps := 9999999) only [go_sem, r1], by simp (maxSteps := 9999999) only [go_sem, r4]⟩, by simp (maxSteps := 9999999) only [go_sem, rj]⟩
  · have e1 : ¬ (j2 : Int) < i2 := by omega
    have n2 := Classical.not_not.1 (hstop2 (by omega))
    have m1 : ¬ c (f i2) (f a) < 0 := by
      by_cases e4 : i2 ≤ j
      · exact hstop1 e4
      · exact hR i2 (by omega) (by omega)
    have hlt : i2 < j2 := by
      by_cases e : i2 < j2
      · exact e
      · exfalso
        have e3 : i2 = j2 := by omega
        subst e3
        exact m1 n2
    have p1 : (0 : Int) ≤ (i2 : Int) := by omega
    have p2 : (i2 : Int) < n := by omega
    have p3 : (0 : Int) ≤ (j2 : Int) := by omega
    have p4 : (j2 : Int) < n := by omega
    have w1 : IntKind.i64.wrap ((i2 : Int) + 1) = ((i2 + 1 : Nat) : Int) := by rw [wrap64 (by omega) (by omega)]; rfl
    have w2 : IntKind.i64.wrap ((j2 : Int) - 1) = ((j2 - 1 : Nat) : Int) := by rw [wrap64 (by omega) (by omega)]; omega
    have l1 := S.load hl (show i2 < n by omega)
    have l2 := S.load hl (show j2 < n by omega)
    obtain ⟨h3, h4, st1, st2, S2⟩ := S.swap hl hc (by decide) (show i2 < n by omega) (show j2 < n by omega)
    repeat (first | apply run_seq | apply run_block | apply end_seq | apply end_blk_hit | apply end_blk_miss rfl | apply end_blk | apply end_seq_exit | apply end_seq_ret | apply end_blk_ret | apply run_skip | apply run_ret | apply run_exit | (apply run_region (by decide); (simp (maxSteps := 9999999) only [go_sem, r0, r1, r4, ri, rj, e1, p1, p2, p3, p4, l1, l2, hl, ↓st1, ↓st2, w1, w2]; rfl)) | (apply run_regionN (by decide); (simp (maxSteps := 9999999) only [go_sem, r0, r1, r4, ri, rj, e1, p1, p2, p3, p4, l1, l2, hl, ↓st1, ↓st2, w1, w2]; rfl)) | (refine run_cond_t ?_ ?_; · simp only [go_sem]) | (refine run_cond_f ?_ ?_; · simp only [go_sem]))
    have ea : swp f i2 j2 a = f a := swp_o f (by omega) (by omega)
    refine end_nil ⟨j2 - 1 + 1 - (i2 + 1), by omega, i2 + 1, j2 - 1, _, rfl, by omega, by omega, by omega, S2, W.step (by omega) (by omega) (by omega) (by omega), fun q q1 q2 => ?_, fun q q1 q2 => ?_, ⟨by simp (maxSteps := 9999999) only [go_sem, r0], by simp (maxSteps := 9999999) only [go_sem, r1], by simp (maxSteps := 9999999) only [go_sem, r4]⟩, by simp (maxSteps := 9999999) only [go_sem, w1], by simp (maxSteps := 9999999) only [go_sem, w2], rfl, rfl⟩
    · rw [ea]
      by_cases e : q = i2
      · subst e; rw [swp_l]; exact n2
      · rw [swp_o f e (by omega)]; exact hP2 q q1 (by omega)
    · rw [ea]
      by_cases e : q = j2
      · subst e; rw [swp_r]; exact m1
      · rw [swp_o f (by omega) e]; exact hR2 q (by omega) q2
theorem part_endP {a b j : Nat} {f : Nat → E} (haj : a ≤ j) (hjb : j < b) (hP : ∀ q, a < q → q ≤ j → c (f q) (f a) < 0) (hR : ∀ q, j < q → q < b → ¬ c (f q) (f a) < 0) :
    (∀ q, a ≤ q → q < j → c (swp f j a q) (swp f j a j) < 0) ∧ (∀ q, j < q → q < b → ¬ c (swp f j a q) (swp f j a j) < 0) ∧ swp f j a j = f a := by
  refine ⟨fun q q1 q2 => ?_, fun q q1 q2 => ?_, swp_l f j a⟩
  · rw [swp_l]
    by_cases e : q = a
    · subst e; rw [swp_r]; exact hP j (by omega) (Nat.le_refl _)
    · rw [swp_o f (by omega) e]; exact hP q (by omega) (by omega)
  · rw [swp_l, swp_o f (by omega) (by omega)]; exact hR q q1 q2
/-- partition -/
theorem partP (C : Cmp M g cel c) (hl : ∀ x, (cel x).length = 2) (hc : ∀ x, (cel x).all sc = true) (hn : n ≤ 1000000) {a b p : Nat} (hap : a ≤ p) (hpb : p < b) (hb : b ≤ n) {h : SHeap} {f : Nat → E} (S : SA cel n B el h0 old0 h f) :
    ∃ h' f' m q, M.call 97 [.slice (some ⟨B, 0, none⟩) n cap, .int .i64 a, .int .i64 b, .int .i64 ((p : Nat) : Int), .func (.func g) #[] #[]] h = some (.tuple #[.int .i64 ((m : Nat) : Int), .bool q], h', []) ∧ SA cel n B el h0 old0 h' f' ∧ Sw a b f f' ∧ a ≤ m ∧ m < b ∧ (∀ q, a ≤ q → q < m → c (f' q) (f' m) < 0) ∧ (∀ q, m < q → q < b → ¬ c (f' q) (f' m) < 0) := by
  have key : ∃ r, (∃ h' f' m q, r = (Value.tuple #[.int .i64 ((m : Nat) : Int), .bool q], h', ([] : List Nat)) ∧ SA cel n B el h0 old0 h' f' ∧ Sw a b f f' ∧ a ≤ m ∧ m < b ∧ (∀ q, a ≤ q → q < m → c (f' q) (f' m) < 0) ∧ (∀ q, m < q → q < b → ¬ c (f' q) (f' m) < 0)) ∧ M.call 97 [.slice (some ⟨B, 0, none⟩) n cap, .int .i64 a, .int .i64 b, .int .i64 ((p : Nat) : Int), .func (.func g) #[] #[]] h = some r := by
    refine call_ex (f := 97) _ sf97 rfl rfl rfl ?_
    unfold sf97
    have p1 : (0 : Int) ≤ (a : Int) := by omega
    have p2 : (a : Int) < n := by omega
    have p3 : (0 : Int) ≤ (p : Int) := by omega
    have p4 : (p : Int) < n := by omega
    have w1 : IntKind.i64.wrap ((a : Int) + 1) = ((a + 1 : Nat) : Int) := by rw [wrap64 (by omega) (by omega)]; rfl
    have w2 : IntKind.i64.wrap ((b : Int) - 1) = ((b - 1 : Nat) : Int) := by rw [wrap64 (by omega) (by omega)]; omega
    have l1 := S.load hl (show a < n by omega)
    have l2 := S.load hl (show p < n by omega)
    obtain ⟨h3, h4, st1, st2, S2⟩ := S.swap hl hc (by decide) (show a < n by omega) (show p < n by omega)
    have W1 : Sw a b f (swp f a p) := Sw.one f (by omega) (by omega) (by omega) (by omega)
    repeat (first | apply run_seq | apply run_block | apply end_seq | apply end_blk_hit | apply end_blk_miss rfl | apply end_blk | apply end_seq_exit | apply end_seq_ret | apply end_blk_ret | apply run_skip | apply run_ret | apply run_exit | (apply run_region (by decide); (simp (maxSteps := 9999999) only [go_sem, argR, p1, p2, p3, p4, l1, l2, hl, ↓st1, ↓st2, w1, w2]; rfl)) | (apply run_regionN (by decide); (simp (maxSteps := 9999999) only [go_sem, argR, p1, p2, p3, p4, l1, l2, hl, ↓st1, ↓st2, w1, w2]; rfl)) | (refine run_cond_t ?_ ?_; · simp only [go_sem]) | (refine run_cond_f ?_ ?_; · simp only [go_sem]))
    generalize swp f a p = f1 at *
    refine run_loop (ptA_loopP (cap := cap) C hl hn (a := a) (b := b) (j := b - 1) hb (by omega) (by omega) (a + 1) _ S2 (b - 1 + 1 - (a + 1)) _ _ _ _ ⟨a + 1, rfl, Nat.le_refl _, by omega, by omega, fun q q1 q2 => by omega, ⟨by simp (maxSteps := 9999999) only [go_sem, argR], by simp (maxSteps := 9999999) only [go_sem, argR], by simp (maxSteps := 9999999) only [go_sem, argR]⟩, by simp (maxSteps := 9999999) only [go_sem, w1], by simp (maxSteps := 9999999) only [go_sem, w2], rfl, rfl, rfl⟩) ?_
    rintro ex ρ1 ms1 h5 d1 ⟨rfl, rfl, rfl, rfl, i2, h0i2, hai2, hij2, hP2, hstop1, ⟨r0, r1, r4⟩, ri, rj⟩
    repeat (first | apply run_seq | apply run_block | apply end_seq | apply end_blk_hit | apply end_blk_miss rfl | apply end_blk | apply end_seq_exit | apply end_seq_ret | apply end_blk_ret | apply run_skip | apply run_ret | apply run_exit | (apply run_region (by decide); (simp (maxSteps := 9999999) only [go_sem]; rfl)) | (apply run_regionN (by decide); (simp (maxSteps := 9999999) only [go_sem]; rfl)) | (refine run_cond_t ?_ ?_; · simp only [go_sem]) | (refine run_cond_f ?_ ?_; · simp only [go_sem]))
    refine run_loop (ptB_loopP (cap := cap) C hl hn (a := a) (b := b) hb hai2 (b - 1) _ S2 (b - 1 + 1 - i2) _ _ _ _ ⟨b - 1, rfl, Nat.le_refl _, by omega, hij2, fun q q1 q2 => by omega, ⟨by simp (maxSteps := 9999999) only [go_sem, r0], by simp (maxSteps := 9999999) only [go_sem, r1], by simp (maxSteps := 9999999) only [go_sem, r4]⟩, by simp (maxSteps := 9999999) only [go_sem, ri], by simp (maxSteps := 9999999) only [go_sem, rj], rfl, rfl, rfl⟩) ?_
    rintro ex ρ2 ms2 h6 d2 ⟨rfl, rfl, rfl, rfl, j2, h0j2, hjb2, hij3, hR2, hstop2, ⟨r0, r1, r4⟩, ri, rj⟩
    have x1 : (0 : Int) ≤ (j2 : Int) := by omega
    have x2 : (j2 : Int) < n := by omega
    by_cases z : j2 < i2
    · have e1 : (j2 : Int) < i2 := by omega
      have y1 := S2.load hl (show j2 < n by omega)
      have y2 := S2.load hl (show a < n by omega)
      obtain ⟨h7, h8, st3, st4, S3⟩ := S2.swap hl hc (by decide) (show j2 < n by omega) (show a < n by omega)
      obtain ⟨pe1, pe2, pe3⟩ := part_endP (c := c) (show a ≤ j2 by omega) hjb2 (fun q q1 q2 => hP2 q q1 (by omega)) hR2
      repeat (first | apply run_seq | apply run_block | apply end_seq | apply end_blk_hit | apply end_blk_miss rfl | apply end_blk | apply end_seq_exit | apply end_seq_ret | apply end_blk_ret | apply run_skip | apply run_ret | apply run_exit | (apply run_region (by decide); (simp (maxSteps := 9999999) only [go_sem, r0, r1, r4, ri, rj, e1, p1, p2, x1, x2, y1, y2, hl, ↓st3, ↓st4]; rfl)) | (apply run_regionN (by decide); (simp (maxSteps := 9999999) only [go_sem, r0, r1, r4, ri, rj, e1, p1, p2, x1, x2, y1, y2, hl, ↓st3, ↓st4]; rfl)) | (refine run_cond_t ?_ ?_; · simp only [go_sem]) | (refine run_cond_f ?_ ?_; · simp only [go_sem]))
      exact end_nil ⟨_, ⟨h8, _, j2, true, rfl, S3, W1.step (by omega) (by omega) (by omega) (by omega), by omega, hjb2, pe1, pe2⟩, q_free [.int .i64 j2, .bool true] (by simp (maxSteps := 9999999) only [go_sem]) rfl rfl rfl (fun _ => rfl) (by rw [List.take_of_length_le]; rw [S3.len, S.len]; exact Nat.le_refl _) rfl⟩
    · have e1 : ¬ (j2 : Int) < i2 := by omega
      have n2 := Classical.not_not.1 (hstop2 (by omega))
      have m1 : ¬ c (f1 i2) (f1 a) < 0 := hstop1 (by omega)
      have hlt : i2 < j2 := by
        by_cases e : i2 < j2
        · exact e
        · exfalso
          have e3 : i2 = j2 := by omega
          subst e3
          exact m1 n2
      have x3 : (0 : Int) ≤ (i2 : Int) := by omega
      have x4 : (i2 : Int) < n := by omega
      have w3 : IntKind.i64.wrap ((i2 : Int) + 1) = ((i2 + 1 : Nat) : Int) := by rw [wrap64 (by omega) (by omega)]; rfl
      have w4 : IntKind.i64.wrap ((j2 : Int) - 1) = ((j2 - 1 : Nat) : Int) := by rw [wrap64 (by omega) (by omega)]; omega
      have y1 := S2.load hl (show i2 < n by omega)
      have y2 := S2.load hl (show j2 < n by omega)
      obtain ⟨h7, h8, st3, st4, S3⟩ := S2.swap hl hc (by decide) (show i2 < n by omega) (show j2 < n by omega)
      have W2 : Sw a b f (swp f1 i2 j2) := W1.step (by omega) (by omega) (by omega) (by omega)
      have ea : swp f1 i2 j2 a = f1 a := swp_o f1 (by omega) (by omega)
      have hP3 : ∀ q, a < q → q < i2 + 1 → c (swp f1 i2 j2 q) (swp f1 i2 j2 a) < 0 := fun q q1 q2 => by
        rw [ea]
        by_cases e : q = i2
        · subst e; rw [swp_l]; exact n2
        · rw [swp_o f1 e (by omega)]; exact hP2 q q1 (by omega)
      have hR3 : ∀ q, j2 - 1 < q → q < b → ¬ c (swp f1 i2 j2 q) (swp f1 i2 j2 a) < 0 := fun q q1 q2 => by
        rw [ea]
        by_cases e : q = j2
        · subst e; rw [swp_r]; exact m1
        · rw [swp_o f1 (by omega) e]; exact hR2 q (by omega) q2
      repeat (first | apply run_seq | apply run_block | apply end_seq | apply end_blk_hit | apply end_blk_miss rfl | apply end_blk | apply end_seq_exit | apply end_seq_ret | apply end_blk_ret | apply run_skip | apply run_ret | apply run_exit | (apply run_region (by decide); (simp (maxSteps := 9999999) only [go_sem, r0, r1, r4, ri, rj, e1, x1, x2, x3, x4, y1, y2, hl, ↓st3, ↓st4, w3, w4]; rfl)) | (apply run_regionN (by decide); (simp (maxSteps := 9999999) only [go_sem, r0, r1, r4, ri, rj, e1, x1, x2, x3, x4, y1, y2, hl, ↓st3, ↓st4, w3, w4]; rfl)) | (refine run_cond_t ?_ ?_; · simp only [go_sem]) | (refine run_cond_f ?_ ?_; · simp only [go_sem]))
      generalize swp f1 i2 j2 = f2 at *
      refine run_loop (ptO_loopP (cap := cap) C hl hc hn (a := a) (b := b) hb _ f2 (j2 - 1 + 1 - (i2 + 1)) _ _ _ _ ⟨i2 + 1, j2 - 1, f2, rfl, by omega, by omega, by omega, S3, .refl, hP3, hR3, ⟨by simp (maxSteps := 9999999) only [go_sem, r0], by simp (maxSteps := 9999999) only [go_sem, r1], by simp (maxSteps := 9999999) only [go_sem, r4]⟩, by simp (maxSteps := 9999999) only [go_sem, w3], by simp (maxSteps := 9999999) only [go_sem, w4], rfl, rfl⟩) ?_
      rintro ex ρ3 ms3 h9 d3 ⟨rfl, rfl, rfl, j3, f3, haj3, hjb3, S4, W3, hP4, hR4, ⟨r0, r1, r4⟩, rj⟩
      have x5 : (0 : Int) ≤ (j3 : Int) := by omega
      have x6 : (j3 : Int) < n := by omega
      have y3 := S4.load hl (show j3 < n by omega)
      have y4 := S4.load hl (show a < n by omega)
      obtain ⟨h10, h11, st5, st6, S5⟩ := S4.swap hl hc (by decide) (show j3 < n by omega) (show a < n by omega)
      obtain ⟨pe1, pe2, pe3⟩ := part_endP (c := c) haj3 hjb3 hP4 hR4
      repeat (first | apply run_seq | apply run_block | apply end_seq | apply end_blk_hit | apply end_blk_miss rfl | apply end_blk | apply end_seq_exit | apply end_seq_ret | apply end_blk_ret | apply run_skip | apply run_ret | apply run_exit | (apply run_region (by decide); (simp (maxSteps := 9999999) only [go_sem, r0, r1, r4, rj, p1, p2, x5, x6, y3, y4, hl, ↓st5, ↓st6]; rfl)) | (apply run_regionN (by decide); (simp (maxSteps := 9999999) only [go_sem, r0, r1, r4, rj, p1, p2, x5, x6, y3, y4, hl, ↓st5, ↓st6]; rfl)) | (refine run_cond_t ?_ ?_; · simp only [go_sem]) | (refine run_cond_f ?_ ?_; · simp only [go_sem]))
      exact end_nil ⟨_, ⟨h11, _, j3, false, rfl, S5, (W2.trans (W3.mono (by omega) (by omega))).step (by omega) (by omega) (by omega) (by omega), by omega, hjb3, pe1, pe2⟩, q_free [.int .i64 j3, .bool false] (by simp (maxSteps := 9999999) only [go_sem]) rfl rfl rfl (fun _ => rfl) (by rw [List.take_of_length_le]; rw [S5.len, S.len]; exact Nat.le_refl _) rfl⟩
  obtain ⟨r, ⟨h', f', m, q, rfl, k⟩, e⟩ := key
  exact ⟨h', f', m, q, e, k⟩
end
end Go.Proofs.YtdmfhdnpakgkpaaDoor.Sh


/- Sorting: pdqsort. -/
namespace Go.Proofs.YtdmfhdnpakgkpaaDoor.Sh
open Go
set_option maxRecDepth 100000
set_option maxHeartbeats 4000000

theorem run_cutP {R : Rec} {cx : Cx} {dep : Nat} {a b : SCode} {st : List Fr} {ρ : Reg} {ms : List Nat} {h : SHeap} {d : List Nat} {Q : Post} (I : Post) (w : Run R cx dep a [] ρ ms h d I) (k : ∀ ex ρ' ms' h' d', I ex ρ' ms' h' d' → Ends R cx dep ex (.seq b :: st) ρ' ms' h' d' Q) : Run R cx dep (.seq a b) st ρ ms h d Q := by
  refine run_seq ?_
  unfold Run at *
  intro t hf ht
  obtain ⟨ex, t', ms', h', d', e, f, q⟩ := w t hf ht
  refine ⟨ex, t', ms', h', d', e, f, k _ _ _ _ _ ?_⟩
  unfold Ends at q
  exact q

section
variable {E : Type} {cel : E → List Value} {c : E → E → Int} {g : FuncId} {n B cap : Nat} {el : TypeId} {h0 : SHeap} {old0 : List Nat}
/-- nothing in the range is less than what lies just before it -/
def PreP (c : E → E → Int) (a b : Nat) (f : Nat → E) : Prop := 0 < a → ∀ j, a ≤ j → j < b → ¬ c (f j) (f (a - 1)) < 0
theorem PreP.sw {a b : Nat} {f k : Nat → E} (h : PreP c a b f) (W : Sw a b f k) : PreP c a b k := fun h0 => by
  rw [W.out (i := a - 1) (by omega)]
  exact W.all (P := fun x => ¬ c x (f (a - 1)) < 0) (h h0)
/-- all pairs are in order but those within a and b -/
def DnP (c : E → E → Int) (a0 b0 a b : Nat) (f : Nat → E) : Prop := ∀ i j, a0 ≤ i → i < j → j < b0 → ¬ (a ≤ i ∧ j < b) → ¬ c (f j) (f i) < 0
theorem DnP.sw {a0 b0 a b : Nat} {f k : Nat → E} (h : DnP c a0 b0 a b f) (W : Sw a b f k) (ha : a0 ≤ a) (hb : b ≤ b0) : DnP c a0 b0 a b k := by
  intro i j h1 h2 h3 h4
  by_cases c1 : a ≤ i ∧ i < b
  · by_cases c2 : a ≤ j ∧ j < b
    · omega
    · rw [W.out (i := j) (by omega)]
      exact W.all (P := fun x => ¬ c (f j) x < 0) (fun q q1 q2 => h q j (by omega) (by omega) h3 (by omega)) i c1.1 c1.2
  · by_cases c2 : a ≤ j ∧ j < b
    · rw [W.out (i := i) (by omega)]
      exact W.all (P := fun x => ¬ c x (f i) < 0) (fun q q1 q2 => h i q (by omega) (by omega) (by omega) (by omega)) j c2.1 c2.2
    · rw [W.out (i := i) (by omega), W.out (i := j) (by omega)]
      exact h i j h1 h2 h3 h4
theorem DnP.fin {a0 b0 a b : Nat} {f : Nat → E} (h : DnP c a0 b0 a b f) (O : Ord c a b f) : Ord c a0 b0 f := fun i j h1 h2 h3 => by
  by_cases e : a ≤ i ∧ j < b
  · exact O i j e.1 h2 e.2
  · exact h i j h1 h2 h3 e

/-- what a call of pdqsort on less than L elements does -/
def PdqOKP (c : E → E → Int) (cel : E → List Value) (g : FuncId) (n B cap : Nat) (el : TypeId) (h0 : SHeap) (old0 : List Nat) (L : Nat) : Prop :=
  ∀ (a b lim : Nat) (h : SHeap) (f : Nat → E), b - a < L → a ≤ b → b ≤ n → lim ≤ 1000 → SA cel n B el h0 old0 h f → PreP c a b f →
    ∃ h' f', M.call 81 [.slice (some ⟨B, 0, none⟩) n cap, .int .i64 a, .int .i64 b, .int .i64 lim, .func (.func g) #[] #[]] h = some (.tuple #[], h', []) ∧ SA cel n B el h0 old0 h' f' ∧ Sw a b f f' ∧ Ord c a b f'

/-- the registers -/
structure PRP (n B cap : Nat) (g : FuncId) (a b lim : Nat) (wb wp : Bool) (ρ : Reg) : Prop where
  r0 : ρ 0 = .slice (some ⟨B, 0, none⟩) n cap
  r1 : ρ 1 = .int .i64 a
  r2 : ρ 2 = .int .i64 b
  r3 : ρ 3 = .int .i64 lim
  r4 : ρ 4 = .func (.func g) #[] #[]
  r10 : ρ 10 = .bool wb
  r11 : ρ 11 = .bool wp
theorem pdq_loopP (C : Cmp M g cel c) (hl : ∀ x, (cel x).length = 2) (hc : ∀ x, (cel x).all sc = true) (hn : n ≤ 60000) (hlow : ∀ c ∈ old0, c < h0.length) {a0 b0 : Nat} (hb0 : b0 ≤ n) (IH : PdqOKP c cel g n B cap el h0 old0 (b0 - a0)) (cx : Cx) (f0 : Nat → E) :
    ∀ k ρ ms h' d', (∃ (a b lim : Nat) (wb wp : Bool) (f : Nat → E), b - a = k ∧ a0 ≤ a ∧ a ≤ b ∧ b ≤ b0 ∧ lim ≤ 1000 ∧ SA cel n B el h0 old0 h' f ∧ Sw a0 b0 f0 f ∧ DnP c a0 b0 a b f ∧ PreP c a b f ∧ PRP n B cap g a b lim wb wp ρ ∧ ms = [] ∧ d' = []) →
    LoopW M cx 8 sf81L0 ρ ms h' d' (fun ex ρ' ms' h' d' => ex = .ret ∧ ms' = [] ∧ d' = [] ∧ ∃ f : Nat → E, SA cel n B el h0 old0 h' f ∧ Sw a0 b0 f0 f ∧ Ord c a0 b0 f) := by
  refine loop_run _ ?_
  rintro k ρ ms h' d' ⟨a, b, lim, wb, wp, f, hk, ha, hab, hb, hlim, S, W, D, P, ⟨r0, r1, r2, r3, r4, r10, r11⟩, rfl, rfl⟩
  have w1 : IntKind.i64.wrap ((b : Int) - (a : Int)) = ((b - a : Nat) : Int) := by rw [wrap64 (by omega) (by omega)]; omega
  unfold sf81L0
  by_cases c12 : b - a ≤ 12
  · have e12 : ((b - a : Nat) : Int) ≤ 12 := by omega
    obtain ⟨h2, f2, e, S2, W2, O2⟩ := insP (cap := cap) C hl hc (by omega) hab (by omega) S
    repeat (first | apply run_seq | apply run_block | apply end_seq | apply end_blk_hit | apply end_blk_miss rfl | apply end_blk | apply end_seq_exit | apply end_seq_ret | apply end_blk_ret | apply run_skip | apply run_ret | apply run_exit | (apply run_region (by decide); (simp (maxSteps := 9999999) only [go_sem, r0, r1, r2, r3, r4, w1, e12, e]; rfl)) | (apply run_regionN (by decide); (simp (maxSteps := 9999999) only [go_sem, r0, r1, r2, r3, r4, w1, e12, e]; rfl)) | (refine run_cond_t ?_ ?_; · simp only [go_sem]) | (refine run_cond_f ?_ ?_; · simp only [go_sem]))
    exact end_nil ⟨rfl, rfl, rfl, f2, S2, W.trans (W2.mono ha hb), (D.sw W2 ha hb).fin O2⟩
  have e12 : ¬ ((b - a : Nat) : Int) ≤ 12 := by omega
  by_cases cl : lim = 0
  · have elim : ((lim : Nat) : Int) = 0 := by omega
    obtain ⟨h2, f2, e, S2, W2, O2⟩ := heapP (cap := cap) C hl hc (by omega) (show a < b by omega) (by omega) S
    repeat (first | apply run_seq | apply run_block | apply end_seq | apply end_blk_hit | apply end_blk_miss rfl | apply end_blk | apply end_seq_exit | apply end_seq_ret | apply end_blk_ret | apply run_skip | apply run_ret | apply run_exit | (apply run_region (by decide); (simp (maxSteps := 9999999) only [go_sem, r0, r1, r2, r3, r4, w1, e12, elim, e]; rfl)) | (apply run_regionN (by decide); (simp (maxSteps := 9999999) only [go_sem, r0, r1, r2, r3, r4, w1, e12, elim, e]; rfl)) | (refine run_cond_t ?_ ?_; · simp only [go_sem]) | (refine run_cond_f ?_ ?_; · simp only [go_sem]))
    exact end_nil ⟨rfl, rfl, rfl, f2, S2, W.trans (W2.mono ha hb), (D.sw W2 ha hb).fin O2⟩
  have elim : ¬ ((lim : Nat) : Int) = 0 := by omega
  -- breaking patterns
  have wl : IntKind.i64.wrap ((lim : Int) - 1) = ((lim - 1 : Nat) : Int) := by rw [wrap64 (by omega) (by omega)]; omega
  apply run_block
  apply run_seq
  apply run_region (by decide)
  · simp (maxSteps := 9999999) only [go_sem, r1, r2, w1]
    rfl
  apply end_seq
  refine run_cutP (fun ex ρ' ms' h2 d2 => ex = .normal ∧ ms' = [] ∧ h2 = h' ∧ d2 = [] ∧ PRP n B cap g a b lim wb wp ρ' ∧ ρ' 12 = .int .i64 ((b - a : Nat) : Int)) ?_ ?_
  · repeat (first | apply run_seq | apply run_block | apply end_seq | apply end_blk_hit | apply end_blk_miss rfl | apply end_blk | apply end_seq_exit | apply end_seq_ret | apply end_blk_ret | apply run_skip | apply run_ret | apply run_exit | (apply run_region (by decide); (simp (maxSteps := 9999999) only [go_sem, e12]; rfl)) | (apply run_regionN (by decide); (simp (maxSteps := 9999999) only [go_sem, e12]; rfl)) | (refine run_cond_t ?_ ?_; · simp only [go_sem]) | (refine run_cond_f ?_ ?_; · simp only [go_sem]))
    exact end_nil ⟨rfl, rfl, rfl, rfl, ⟨by simp (maxSteps := 9999999) only [go_sem, r0], by simp (maxSteps := 9999999) only [go_sem, r1], by simp (maxSteps := 9999999) only [go_sem, r2], by simp (maxSteps := 9999999) only [go_sem, r3], by simp (maxSteps := 9999999) only [go_sem, r4], by simp (maxSteps := 9999999) only [go_sem, r10], by simp (maxSteps := 9999999) only [go_sem, r11]⟩, by simp (maxSteps := 9999999) only [go_sem]⟩
  rintro ex ρ ms h2 d ⟨rfl, rfl, rfl, rfl, ⟨r0, r1, r2, r3, r4, r10, r11⟩, r12⟩
  apply end_seq
  refine run_cutP (fun ex ρ' ms' h3 d2 => ex = .normal ∧ ms' = [] ∧ h3 = h2 ∧ d2 = [] ∧ PRP n B cap g a b lim wb wp ρ' ∧ ρ' 12 = .int .i64 ((b - a : Nat) : Int)) ?_ ?_
  · repeat (first | apply run_seq | apply run_block | apply end_seq | apply end_blk_hit | apply end_blk_miss rfl | apply end_blk | apply end_seq_exit | apply end_seq_ret | apply end_blk_ret | apply run_skip | apply run_ret | apply run_exit | (apply run_region (by decide); (simp (maxSteps := 9999999) only [go_sem, r3, elim]; rfl)) | (apply run_regionN (by decide); (simp (maxSteps := 9999999) only [go_sem, r3, elim]; rfl)) | (refine run_cond_t ?_ ?_; · simp only [go_sem]) | (refine run_cond_f ?_ ?_; · simp only [go_sem]))
    exact end_nil ⟨rfl, rfl, rfl, rfl, ⟨by simp (maxSteps := 9999999) only [go_sem, r0], by simp (maxSteps := 9999999) only [go_sem, r1], by simp (maxSteps := 9999999) only [go_sem, r2], by simp (maxSteps := 9999999) only [go_sem, r3], by simp (maxSteps := 9999999) only [go_sem, r4], by simp (maxSteps := 9999999) only [go_sem, r10], by simp (maxSteps := 9999999) only [go_sem, r11]⟩, by simp (maxSteps := 9999999) only [go_sem, r12]⟩
  rintro ex ρ ms h3 d ⟨rfl, rfl, rfl, rfl, ⟨r0, r1, r2, r3, r4, r10, r11⟩, r12⟩
  apply end_seq
  refine run_cutP (fun ex ρ' ms' h2 d2 => ex = .normal ∧ ms' = [] ∧ d2 = [] ∧ ∃ (lim' : Nat) (f' : Nat → E), lim' ≤ 1000 ∧ SA cel n B el h0 old0 h2 f' ∧ Sw a b f f' ∧ PRP n B cap g a b lim' wb wp ρ' ∧ ρ' 12 = .int .i64 ((b - a : Nat) : Int)) ?_ ?_
  · cases wb with
    | true =>
      repeat (first | apply run_seq | apply run_block | apply end_seq | apply end_blk_hit | apply end_blk_miss rfl | apply end_blk | apply end_seq_exit | apply end_seq_ret | apply end_blk_ret | apply run_skip | apply run_ret | apply run_exit | (apply run_region (by decide); (simp (maxSteps := 9999999) only [go_sem, r10]; rfl)) | (apply run_regionN (by decide); (simp (maxSteps := 9999999) only [go_sem, r10]; rfl)) | (refine run_cond_t ?_ ?_; · simp only [go_sem]) | (refine run_cond_f ?_ ?_; · simp only [go_sem]))
      exact end_nil ⟨rfl, rfl, rfl, lim, f, hlim, S, .refl, ⟨by simp (maxSteps := 9999999) only [go_sem, r0], by simp (maxSteps := 9999999) only [go_sem, r1], by simp (maxSteps := 9999999) only [go_sem, r2], by simp (maxSteps := 9999999) only [go_sem, r3], by simp (maxSteps := 9999999) only [go_sem, r4], by simp (maxSteps := 9999999) only [go_sem, r10], by simp (maxSteps := 9999999) only [go_sem, r11]⟩, by simp (maxSteps := 9999999) only [go_sem, r12]⟩
    | false =>
      obtain ⟨h4, f4, e, S4, W4⟩ := brkP (cap := cap) hl hc hn (show a + 8 ≤ b by omega) (by omega) hlow (.func (.func g) #[] #[]) S
      repeat (first | apply run_seq | apply run_block | apply end_seq | apply end_blk_hit | apply end_blk_miss rfl | apply end_blk | apply end_seq_exit | apply end_seq_ret | apply end_blk_ret | apply run_skip | apply run_ret | apply run_exit | (apply run_region (by decide); (simp (maxSteps := 9999999) only [go_sem, r0, r1, r2, r3, r4, r10, e, wl]; rfl)) | (apply run_regionN (by decide); (simp (maxSteps := 9999999) only [go_sem, r0, r1, r2, r3, r4, r10, e, wl]; rfl)) | (refine run_cond_t ?_ ?_; · simp only [go_sem]) | (refine run_cond_f ?_ ?_; · simp only [go_sem]))
      exact end_nil ⟨rfl, rfl, rfl, lim - 1, f4, by omega, S4, W4, ⟨by simp (maxSteps := 9999999) only [go_sem, r0], by simp (maxSteps := 9999999) only [go_sem, r1], by simp (maxSteps := 9999999) only [go_sem, r2], by simp (maxSteps := 9999999) only [go_sem, wl], by simp (maxSteps := 9999999) only [go_sem, r4], by simp (maxSteps := 9999999) only [go_sem, r10], by simp (maxSteps := 9999999) only [go_sem, r11]⟩, by simp (maxSteps := 9999999) only [go_sem, r12]⟩
  rintro ex ρ ms h3 d ⟨rfl, rfl, rfl, lim, f2, hlim, S2, W2, ⟨r0, r1, r2, r3, r4, r10, r11⟩, r12⟩
  have D2 := D.sw W2 ha hb
  have P2 := P.sw W2
  have W2' := W.trans (W2.mono ha hb)
  clear W D P S W2 wl elim cl
  -- the pivot
  obtain ⟨p, t, hp1, hp2, ht, epiv⟩ := pivP (cap := cap) C hl (by omega) (show Rd cel n B el h3 f2 by obtain ⟨old, _, e⟩ := S2.at_; exact ⟨old, e⟩) (show a + 13 ≤ b by omega) (by omega)
  apply end_seq
  apply run_seq
  apply run_region (by decide)
  · simp (maxSteps := 9999999) only [go_sem, r0, r1, r2, r4, epiv]
    rfl
  apply end_seq
  refine run_cutP (fun ex ρ' ms' h2 d2 => ex = .normal ∧ ms' = [] ∧ d2 = [] ∧ ∃ (f' : Nat → E) (p' : Nat) (t' : Int), a ≤ p' ∧ p' < b ∧ SA cel n B el h0 old0 h2 f' ∧ Sw a b f2 f' ∧ PRP n B cap g a b lim wb wp ρ' ∧ ρ' 12 = .int .i64 ((b - a : Nat) : Int) ∧ ρ' 13 = .int .i64 ((p' : Nat) : Int) ∧ ρ' 14 = .int .i64 t') ?_ ?_
  · by_cases ct : t = 2
    · obtain ⟨h4, f4, e, S4, W4⟩ := revP (cap := cap) hl hc (by omega) (show a < b by omega) (by omega) (.func (.func g) #[] #[]) S2
      have w2 : IntKind.i64.wrap ((b : Int) - 1) = ((b - 1 : Nat) : Int) := by rw [wrap64 (by omega) (by omega)]; omega
      have w3 : IntKind.i64.wrap ((p : Int) - (a : Int)) = ((p - a : Nat) : Int) := by rw [wrap64 (by omega) (by omega)]; omega
      have w4 : IntKind.i64.wrap (((b - 1 : Nat) : Int) - ((p - a : Nat) : Int)) = ((b - 1 - (p - a) : Nat) : Int) := by rw [wrap64 (by omega) (by omega)]; omega
      repeat (first | apply run_seq | apply run_block | apply end_seq | apply end_blk_hit | apply end_blk_miss rfl | apply end_blk | apply end_seq_exit | apply end_seq_ret | apply end_blk_ret | apply run_skip | apply run_ret | apply run_exit | (apply run_region (by decide); (simp (maxSteps := 9999999) only [go_sem, r0, r1, r2, r4, ct, e, w2, w3, w4]; rfl)) | (apply run_regionN (by decide); (simp (maxSteps := 9999999) only [go_sem, r0, r1, r2, r4, ct, e, w2, w3, w4]; rfl)) | (refine run_cond_t ?_ ?_; · simp only [go_sem]) | (refine run_cond_f ?_ ?_; · simp only [go_sem]))
      exact end_nil ⟨rfl, rfl, rfl, f4, b - 1 - (p - a), 1, by omega, by omega, S4, W4, ⟨by simp (maxSteps := 9999999) only [go_sem, r0], by simp (maxSteps := 9999999) only [go_sem, r1], by simp (maxSteps := 9999999) only [go_sem, r2], by simp (maxSteps := 9999999) only [go_sem, r3], by simp (maxSteps := 9999999) only [go_sem, r4], by simp (maxSteps := 9999999) only [go_sem, r10], by simp (maxSteps := 9999999) only [go_sem, r11]⟩, by simp (maxSteps := 9999999) only [go_sem, r12], by simp (maxSteps := 9999999) only [go_sem, w4], by simp (maxSteps := 9999999) only [go_sem]⟩
    · repeat (first | apply run_seq | apply run_block | apply end_seq | apply end_blk_hit | apply end_blk_miss rfl | apply end_blk | apply end_seq_exit | apply end_seq_ret | apply end_blk_ret | apply run_skip | apply run_ret | apply run_exit | (apply run_region (by decide); (simp (maxSteps := 9999999) only [go_sem, r0, r1, r2, r4, ct]; rfl)) | (apply run_regionN (by decide); (simp (maxSteps := 9999999) only [go_sem, r0, r1, r2, r4, ct]; rfl)) | (refine run_cond_t ?_ ?_; · simp only [go_sem]) | (refine run_cond_f ?_ ?_; · simp only [go_sem]))
      exact end_nil ⟨rfl, rfl, rfl, f2, p, t, hp1, hp2, S2, .refl, ⟨by simp (maxSteps := 9999999) only [go_sem, r0], by simp (maxSteps := 9999999) only [go_sem, r1], by simp (maxSteps := 9999999) only [go_sem, r2], by simp (maxSteps := 9999999) only [go_sem, r3], by simp (maxSteps := 9999999) only [go_sem, r4], by simp (maxSteps := 9999999) only [go_sem, r10], by simp (maxSteps := 9999999) only [go_sem, r11]⟩, by simp (maxSteps := 9999999) only [go_sem, r12], by simp (maxSteps := 9999999) only [go_sem], by simp (maxSteps := 9999999) only [go_sem]⟩
  rintro ex ρ ms h4 d ⟨rfl, rfl, rfl, f3, p, t, hp1, hp2, S3, W3, ⟨r0, r1, r2, r3, r4, r10, r11⟩, r12, r13, r14⟩
  have D3 := D2.sw W3 ha hb
  have P3 := P2.sw W3
  have W3' := W2'.trans (W3.mono ha hb)
  clear D2 P2 W2' S2 W3 epiv ht
  -- nearly sorted
  apply end_seq
  refine run_cutP (fun ex ρ' ms' h2 d2 => ms' = [] ∧ d2 = [] ∧ ∃ f' : Nat → E, SA cel n B el h0 old0 h2 f' ∧ Sw a b f3 f' ∧ ((ex = .ret ∧ Ord c a b f') ∨ (ex = .normal ∧ PRP n B cap g a b lim wb wp ρ' ∧ ρ' 12 = .int .i64 ((b - a : Nat) : Int) ∧ ρ' 13 = .int .i64 ((p : Nat) : Int)))) ?_ ?_
  · by_cases ct : wb = true ∧ wp = true ∧ t = 1
    · obtain ⟨rfl, rfl, rfl⟩ := ct
      obtain ⟨h5, f5, q, e, S5, W5, O5⟩ := pinP (cap := cap) C hl hc (by omega) (show a < b by omega) (by omega) S3 P3
      cases q with
      | true =>
        repeat (first | apply run_seq | apply run_block | apply end_seq | apply end_blk_hit | apply end_blk_miss rfl | apply end_blk | apply end_seq_exit | apply end_seq_ret | apply end_blk_ret | apply run_skip | apply run_ret | apply run_exit | (apply run_region (by decide); (simp (maxSteps := 9999999) only [go_sem, r0, r1, r2, r4, r10, r11, r14, e]; rfl)) | (apply run_regionN (by decide); (simp (maxSteps := 9999999) only [go_sem, r0, r1, r2, r4, r10, r11, r14, e]; rfl)) | (refine run_cond_t ?_ ?_; · simp only [go_sem]) | (refine run_cond_f ?_ ?_; · simp only [go_sem]))
        exact end_nil ⟨rfl, rfl, f5, S5, W5, .inl ⟨rfl, O5 rfl⟩⟩
      | false =>
        repeat (first | apply run_seq | apply run_block | apply end_seq | apply end_blk_hit | apply end_blk_miss rfl | apply end_blk | apply end_seq_exit | apply end_seq_ret | apply end_blk_ret | apply run_skip | apply run_ret | apply run_exit | (apply run_region (by decide); (simp (maxSteps := 9999999) only [go_sem, r0, r1, r2, r4, r10, r11, r14, e]; rfl)) | (apply run_regionN (by decide); (simp (maxSteps := 9999999) only [go_sem, r0, r1, r2, r4, r10, r11, r14, e]; rfl)) | (refine run_cond_t ?_ ?_; · simp only [go_sem]) | (refine run_cond_f ?_ ?_; · simp only [go_sem]))
        exact end_nil ⟨rfl, rfl, f5, S5, W5, .inr ⟨rfl, ⟨by simp (maxSteps := 9999999) only [go_sem, r0], by simp (maxSteps := 9999999) only [go_sem, r1], by simp (maxSteps := 9999999) only [go_sem, r2], by simp (maxSteps := 9999999) only [go_sem, r3], by simp (maxSteps := 9999999) only [go_sem, r4], by simp (maxSteps := 9999999) only [go_sem, r10], by simp (maxSteps := 9999999) only [go_sem, r11]⟩, by simp (maxSteps := 9999999) only [go_sem, r12], by simp (maxSteps := 9999999) only [go_sem, r13]⟩⟩
    · have fin : ∀ ρ' : Reg, PRP n B cap g a b lim wb wp ρ' → ρ' 12 = .int .i64 ((b - a : Nat) : Int) → ρ' 13 = .int .i64 ((p : Nat) : Int) → (([] : List Nat) = [] ∧ ([] : List Nat) = [] ∧ ∃ f' : Nat → E, SA cel n B el h0 old0 h4 f' ∧ Sw a b f3 f' ∧ ((Ex.normal = .ret ∧ Ord c a b f') ∨ (Ex.normal = .normal ∧ PRP n B cap g a b lim wb wp ρ' ∧ ρ' 12 = .int .i64 ((b - a : Nat) : Int) ∧ ρ' 13 = .int .i64 ((p : Nat) : Int)))) :=
        fun ρ' a b c => ⟨rfl, rfl, f3, S3, .refl, .inr ⟨rfl, a, b, c⟩⟩
      cases wb with
      | false =>
        repeat (first | apply run_seq | apply run_block | apply end_seq | apply end_blk_hit | apply end_blk_miss rfl | apply end_blk | apply end_seq_exit | apply end_seq_ret | apply end_blk_ret | apply run_skip | apply run_ret | apply run_exit | (apply run_region (by decide); (simp (maxSteps := 9999999) only [go_sem, r10]; rfl)) | (apply run_regionN (by decide); (simp (maxSteps := 9999999) only [go_sem, r10]; rfl)) | (refine run_cond_t ?_ ?_; · simp only [go_sem]) | (refine run_cond_f ?_ ?_; · simp only [go_sem]))
        exact end_nil (fin _ ⟨by simp (maxSteps := 9999999) only [go_sem, r0], by simp (maxSteps := 9999999) only [go_sem, r1], by simp (maxSteps := 9999999) only [go_sem, r2], by simp (maxSteps := 9999999) only [go_sem, r3], by simp (maxSteps := 9999999) only [go_sem, r4], by simp (maxSteps := 9999999) only [go_sem, r10], by simp (maxSteps := 9999999) only [go_sem, r11]⟩ (by simp (maxSteps := 9999999) only [go_sem, r12]) (by simp (maxSteps := 9999999) only [go_sem, r13]))
      | true =>
        cases wp with
        | false =>
          repeat (first | apply run_seq | apply run_block | apply end_seq | apply end_blk_hit | apply end_blk_miss rfl | apply end_blk | apply end_seq_exit | apply end_seq_ret | apply end_blk_ret | apply run_skip | apply run_ret | apply run_exit | (apply run_region (by decide); (simp (maxSteps := 9999999) only [go_sem, r10, r11]; rfl)) | (apply run_regionN (by decide); (simp (maxSteps := 9999999) only [go_sem, r10, r11]; rfl)) | (refine run_cond_t ?_ ?_; · simp only [go_sem]) | (refine run_cond_f ?_ ?_; · simp only [go_sem]))
          exact end_nil (fin _ ⟨by simp (maxSteps := 9999999) only [go_sem, r0], by simp (maxSteps := 9999999) only [go_sem, r1], by simp (maxSteps := 9999999) only [go_sem, r2], by simp (maxSteps := 9999999) only [go_sem, r3], by simp (maxSteps := 9999999) only [go_sem, r4], by simp (maxSteps := 9999999) only [go_sem, r10], by simp (maxSteps := 9999999) only [go_sem, r11]⟩ (by simp (maxSteps := 9999999) only [go_sem, r12]) (by simp (maxSteps := 9999999) only [go_sem, r13]))
        | true =>
          have ct' : ¬ t = 1 := fun e => ct ⟨rfl, rfl, e⟩
          repeat (first | apply run_seq | apply run_block | apply end_seq | apply end_blk_hit | apply end_blk_miss rfl | apply end_blk | apply end_seq_exit | apply end_seq_ret | apply end_blk_ret | apply run_skip | apply run_ret | apply run_exit | (apply run_region (by decide); (simp (maxSteps := 9999999) only [go_sem, r10, r11, r14, ct']; rfl)) | (apply run_regionN (by decide); (simp (maxSteps := 9999999) only [go_sem, r10, r11, r14, ct']; rfl)) | (refine run_cond_t ?_ ?_; · simp only [go_sem]) | (refine run_cond_f ?_ ?_; · simp only [go_sem]))
          exact end_nil (fin _ ⟨by simp (maxSteps := 9999999) only [go_sem, r0], by simp (maxSteps := 9999999) only [go_sem, r1], by simp (maxSteps := 9999999) only [go_sem, r2], by simp (maxSteps := 9999999) only [go_sem, r3], by simp (maxSteps := 9999999) only [go_sem, r4], by simp (maxSteps := 9999999) only [go_sem, r10], by simp (maxSteps := 9999999) only [go_sem, r11]⟩ (by simp (maxSteps := 9999999) only [go_sem, r12]) (by simp (maxSteps := 9999999) only [go_sem, r13]))
  rintro ex ρ ms h5 d ⟨rfl, rfl, f4, S4, W4, ⟨rfl, O4⟩ | ⟨rfl, ⟨r0, r1, r2, r3, r4, r10, r11⟩, r12, r13⟩⟩
  · repeat (first | apply run_seq | apply run_block | apply end_seq | apply end_blk_hit | apply end_blk_miss rfl | apply end_blk | apply end_seq_exit | apply end_seq_ret | apply end_blk_ret | apply run_skip | apply run_ret | apply run_exit | (apply run_region (by decide); (simp (maxSteps := 9999999) only [go_sem]; rfl)) | (apply run_regionN (by decide); (simp (maxSteps := 9999999) only [go_sem]; rfl)) | (refine run_cond_t ?_ ?_; · simp only [go_sem]) | (refine run_cond_f ?_ ?_; · simp only [go_sem]))
    exact end_nil ⟨rfl, rfl, rfl, f4, S4, W3'.trans (W4.mono ha hb), (D3.sw W4 ha hb).fin O4⟩
  have D4 := D3.sw W4 ha hb
  have P4 := P3.sw W4
  have W4' := W3'.trans (W4.mono ha hb)
  clear D3 P3 W3' S3 W4 r14
  have q1 : (0 : Int) ≤ ((a - 1 : Nat) : Int) := by omega
  have q2 : ((a - 1 : Nat) : Int) < n := by omega
  have q3 : (0 : Int) ≤ (p : Int) := by omega
  have q4 : (p : Int) < n := by omega
  have l1 := S4.load hl (show a - 1 < n by omega)
  have l2 := S4.load hl (show p < n by omega)
  have cc := fun h => C.call (f4 (a - 1)) (f4 p) h
  -- equal elements
  apply end_seq
  refine run_cutP (fun ex ρ' ms' h2 d2 => ms' = [] ∧ d2 = [] ∧ ((ex = .normal ∧ h2 = h5 ∧ PRP n B cap g a b lim wb wp ρ' ∧ ρ' 12 = .int .i64 ((b - a : Nat) : Int) ∧ ρ' 13 = .int .i64 ((p : Nat) : Int)) ∨
      (ex = .exit 1 ∧ 0 < a ∧ ¬ c (f4 (a - 1)) (f4 p) < 0 ∧ ∃ (f' : Nat → E) (m : Nat), SA cel n B el h0 old0 h2 f' ∧ Sw a b f4 f' ∧ a < m ∧ m ≤ b ∧ f' a = f4 p ∧ (∀ q, a < q → q < m → ¬ c (f' a) (f' q) < 0) ∧ (∀ q, m ≤ q → q < b → c (f' a) (f' q) < 0) ∧ PRP n B cap g m b lim wb wp ρ'))) ?_ ?_
  · by_cases z : 0 < a
    · have e1 : (0 : Int) < (a : Int) := by omega
      have wa : IntKind.i64.wrap ((a : Int) - 1) = ((a - 1 : Nat) : Int) := by rw [wrap64 (by omega) (by omega)]; omega
      by_cases hlt : c (f4 (a - 1)) (f4 p) < 0
      · repeat (first | apply run_seq | apply run_block | apply end_seq | apply end_blk_hit | apply end_blk_miss rfl | apply end_blk | apply end_seq_exit | apply end_seq_ret | apply end_blk_ret | apply run_skip | apply run_ret | apply run_exit | (apply run_region (by decide); (simp (maxSteps := 9999999) only [go_sem, r0, r1, r4, r13, e1, wa, q1, q2, q3, q4, l1, l2, cc, hlt]; rfl)) | (apply run_regionN (by decide); (simp (maxSteps := 9999999) only [go_sem, r0, r1, r4, r13, e1, wa, q1, q2, q3, q4, l1, l2, cc, hlt]; rfl)) | (refine run_cond_t ?_ ?_; · simp only [go_sem]) | (refine run_cond_f ?_ ?_; · simp only [go_sem]))
        exact end_nil ⟨rfl, rfl, .inl ⟨rfl, rfl, ⟨by simp (maxSteps := 9999999) only [go_sem, r0], by simp (maxSteps := 9999999) only [go_sem, r1], by simp (maxSteps := 9999999) only [go_sem, r2], by simp (maxSteps := 9999999) only [go_sem, r3], by simp (maxSteps := 9999999) only [go_sem, r4], by simp (maxSteps := 9999999) only [go_sem, r10], by simp (maxSteps := 9999999) only [go_sem, r11]⟩, by simp (maxSteps := 9999999) only [go_sem, r12], by simp (maxSteps := 9999999) only [go_sem, r13]⟩⟩
      · obtain ⟨h6, f6, m, e, S6, W6, m1, m2, m3, m4, m5⟩ := peqP (cap := cap) C hl hc (by omega) hp1 hp2 (by omega) S4
        repeat (first | apply run_seq | apply run_block | apply end_seq | apply end_blk_hit | apply end_blk_miss rfl | apply end_blk | apply end_seq_exit | apply end_seq_ret | apply end_blk_ret | apply run_skip | apply run_ret | apply run_exit | (apply run_region (by decide); (simp (maxSteps := 9999999) only [go_sem, r0, r1, r2, r4, r13, e1, wa, q1, q2, q3, q4, l1, l2, cc, hlt, e]; rfl)) | (apply run_regionN (by decide); (simp (maxSteps := 9999999) only [go_sem, r0, r1, r2, r4, r13, e1, wa, q1, q2, q3, q4, l1, l2, cc, hlt, e]; rfl)) | (refine run_cond_t ?_ ?_; · simp only [go_sem]) | (refine run_cond_f ?_ ?_; · simp only [go_sem]))
        exact end_nil ⟨rfl, rfl, .inr ⟨rfl, z, hlt, f6, m, S6, W6, m1, m2, m3, m4, m5, ⟨by simp (maxSteps := 9999999) only [go_sem, r0], by simp (maxSteps := 9999999) only [go_sem], by simp (maxSteps := 9999999) only [go_sem, r2], by simp (maxSteps := 9999999) only [go_sem, r3], by simp (maxSteps := 9999999) only [go_sem, r4], by simp (maxSteps := 9999999) only [go_sem, r10], by simp (maxSteps := 9999999) only [go_sem, r11]⟩⟩⟩
    · have e1 : ¬ (0 : Int) < (a : Int) := by omega
      repeat (first | apply run_seq | apply run_block | apply end_seq | apply end_blk_hit | apply end_blk_miss rfl | apply end_blk | apply end_seq_exit | apply end_seq_ret | apply end_blk_ret | apply run_skip | apply run_ret | apply run_exit | (apply run_region (by decide); (simp (maxSteps := 9999999) only [go_sem, r1, e1]; rfl)) | (apply run_regionN (by decide); (simp (maxSteps := 9999999) only [go_sem, r1, e1]; rfl)) | (refine run_cond_t ?_ ?_; · simp only [go_sem]) | (refine run_cond_f ?_ ?_; · simp only [go_sem]))
      exact end_nil ⟨rfl, rfl, .inl ⟨rfl, rfl, ⟨by simp (maxSteps := 9999999) only [go_sem, r0], by simp (maxSteps := 9999999) only [go_sem, r1], by simp (maxSteps := 9999999) only [go_sem, r2], by simp (maxSteps := 9999999) only [go_sem, r3], by simp (maxSteps := 9999999) only [go_sem, r4], by simp (maxSteps := 9999999) only [go_sem, r10], by simp (maxSteps := 9999999) only [go_sem, r11]⟩, by simp (maxSteps := 9999999) only [go_sem, r12], by simp (maxSteps := 9999999) only [go_sem, r13]⟩⟩
  rintro ex ρ ms h6 d ⟨rfl, rfl, ⟨rfl, rfl, ⟨r0, r1, r2, r3, r4, r10, r11⟩, r12, r13⟩ | ⟨rfl, z, hge, f6, m, S6, W6, m1, m2, m3, m4, m5, PRm⟩⟩
  rotate_left
  · repeat (first | apply run_seq | apply run_block | apply end_seq | apply end_blk_hit | apply end_blk_miss rfl | apply end_blk | apply end_seq_exit | apply end_seq_ret | apply end_blk_ret | apply run_skip | apply run_ret | apply run_exit | (apply run_region (by decide); (simp (maxSteps := 9999999) only [go_sem]; rfl)) | (apply run_regionN (by decide); (simp (maxSteps := 9999999) only [go_sem]; rfl)) | (refine run_cond_t ?_ ?_; · simp only [go_sem]) | (refine run_cond_f ?_ ?_; · simp only [go_sem]))
    -- all up to m are equal to the least
    have D6 := D4.sw W6 ha hb
    have P6 := P4.sw W6 z
    have ha1 : f6 (a - 1) = f4 (a - 1) := W6.out (by omega)
    have low : ∀ q, a ≤ q → q < m → ¬ c (f6 (a - 1)) (f6 q) < 0 := fun q k1 k2 => by
      have h1 : ¬ c (f6 (a - 1)) (f6 a) < 0 := by rw [ha1, m3]; exact hge
      by_cases e : q = a
      · subst e; exact h1
      · exact C.ntr _ _ _ h1 (m4 q (by omega) k2)
    refine end_nil ⟨b - m, by omega, m, b, lim, wb, wp, f6, rfl, by omega, m2, hb, hlim, S6, W4'.trans (W6.mono ha hb), fun i j i1 i2 i3 i4 => ?_, fun _ j j1 j2 => ?_, PRm, rfl, rfl⟩
    · by_cases e : a ≤ i ∧ j < b
      · exact C.ntr _ _ _ (P6 j (by omega) e.2) (low i e.1 (by omega))
      · exact D6 i j i1 i2 i3 e
    · exact C.ntr _ _ _ (P6 j (by omega) j2) (low (m - 1) (by omega) (by omega))
  -- the partition
  clear cc l1 l2 q1 q2 q3 q4
  obtain ⟨h7, f7, m, q, e, S7, W7, m1, m2, m3, m4⟩ := partP (cap := cap) C hl hc (by omega) hp1 hp2 (by omega) S4
  have D7 := D4.sw W7 ha hb
  have P7 := P4.sw W7
  have W7' := W4'.trans (W7.mono ha hb)
  clear D4 P4 W4' W7 S4
  have v1 : IntKind.i64.wrap ((m : Int) - (a : Int)) = ((m - a : Nat) : Int) := by rw [wrap64 (by omega) (by omega)]; omega
  have v2 : IntKind.i64.wrap ((b : Int) - (m : Int)) = ((b - m : Nat) : Int) := by rw [wrap64 (by omega) (by omega)]; omega
  have v3 : IntKind.i64.wrap (((b - a : Nat) : Int).tdiv 8) = (((b - a) / 8 : Nat) : Int) := by rw [Int.tdiv_eq_ediv_of_nonneg (by omega), wrap64 (by omega) (by omega)]; rfl
  have v4 : IntKind.i64.wrap ((m : Int) + 1) = ((m + 1 : Nat) : Int) := by rw [wrap64 (by omega) (by omega)]; rfl
  by_cases lr : m - a < b - m
  · have e1 : ((m - a : Nat) : Int) < ((b - m : Nat) : Int) := by omega
    obtain ⟨h8, f8, e8, S8, W8, O8⟩ := IH a m lim h7 f7 (by omega) m1 (by omega) hlim S7 (fun z j j1 j2 => P7 z j j1 (by omega))
    have D8 := D7.sw (W8.mono (Nat.le_refl _) (by omega)) ha hb
    have f8m : ∀ q, m ≤ q → f8 q = f7 q := fun q hq => W8.out (by omega)
    have left : ∀ q, a ≤ q → q < m → c (f8 q) (f8 m) < 0 := by
      rw [f8m m (Nat.le_refl _)]
      exact W8.all (P := fun x => c x (f7 m) < 0) m3
    have right : ∀ q, m < q → q < b → ¬ c (f8 q) (f8 m) < 0 := fun q k1 k2 => by
      rw [f8m m (Nat.le_refl _), f8m q (by omega)]; exact m4 q k1 k2
    repeat (first | apply run_seq | apply run_block | apply end_seq | apply end_blk_hit | apply end_blk_miss rfl | apply end_blk | apply end_seq_exit | apply end_seq_ret | apply end_blk_ret | apply run_skip | apply run_ret | apply run_exit | (apply run_region (by decide); (simp (maxSteps := 9999999) only [go_sem, r0, r1, r2, r3, r4, r10, r11, r12, r13, e, v1, v2, v3, v4, e1, e8]; rfl)) | (apply run_regionN (by decide); (simp (maxSteps := 9999999) only [go_sem, r0, r1, r2, r3, r4, r10, r11, r12, r13, e, v1, v2, v3, v4, e1, e8]; rfl)) | (refine run_cond_t ?_ ?_; · simp only [go_sem]) | (refine run_cond_f ?_ ?_; · simp only [go_sem]))
    refine end_nil ⟨b - (m + 1), by omega, m + 1, b, lim, decide (((b - a) / 8 : Nat) ≤ ((m - a : Nat))), q, f8, rfl, by omega, by omega, hb, hlim, S8, W7'.trans (W8.mono ha (by omega)), fun i j i1 i2 i3 i4 => ?_, fun _ j j1 j2 => ?_, ⟨by simp (maxSteps := 9999999) only [go_sem, r0], by simp (maxSteps := 9999999) only [go_sem, v4], by simp (maxSteps := 9999999) only [go_sem, r2], by simp (maxSteps := 9999999) only [go_sem, r3], by simp (maxSteps := 9999999) only [go_sem, r4], ?_, by simp (maxSteps := 9999999) only [go_sem]⟩, rfl, rfl⟩
    · by_cases ee : a ≤ i ∧ j < b
      · by_cases k1 : j < m
        · exact O8 i j ee.1 i2 k1
        · by_cases k2 : i < m
          · by_cases k3 : j = m
            · subst k3; exact C.asym _ _ (left i ee.1 k2)
            · exact C.ntr _ _ _ (right j (by omega) ee.2) (C.asym _ _ (left i ee.1 k2))
          · have : i = m := by omega
            subst this
            exact right j i2 ee.2
      · exact D8 i j i1 i2 i3 ee
    · rw [Nat.add_sub_cancel]; exact right j (by omega) j2
    · simp (maxSteps := 9999999) only [go_sem]
      congr 1
      by_cases e9 : (b - a) / 8 ≤ m - a
      · rw [decide_eq_true e9, decide_eq_true (by omega)]
      · rw [decide_eq_false e9, decide_eq_false (by omega)]
  · have e1 : ¬ ((m - a : Nat) : Int) < ((b - m : Nat) : Int) := by omega
    obtain ⟨h8, f8, e8, S8, W8, O8⟩ := IH (m + 1) b lim h7 f7 (by omega) (by omega) (by omega) hlim S7 (fun z j j1 j2 => by rw [Nat.add_sub_cancel]; exact m4 j (by omega) j2)
    have D8 := D7.sw (W8.mono (by omega) (Nat.le_refl _)) ha hb
    have f8m : ∀ q, q ≤ m → f8 q = f7 q := fun q hq => W8.out (by omega)
    have left : ∀ q, a ≤ q → q < m → c (f8 q) (f8 m) < 0 := fun q k1 k2 => by
      rw [f8m m (Nat.le_refl _), f8m q (by omega)]; exact m3 q k1 k2
    have right : ∀ q, m + 1 ≤ q → q < b → ¬ c (f8 q) (f8 m) < 0 := by
      rw [f8m m (Nat.le_refl _)]
      exact W8.all (P := fun x => ¬ c x (f7 m) < 0) (fun q k1 k2 => m4 q (by omega) k2)
    repeat (first | apply run_seq | apply run_block | apply end_seq | apply end_blk_hit | apply end_blk_miss rfl | apply end_blk | apply end_seq_exit | apply end_seq_ret | apply end_blk_ret | apply run_skip | apply run_ret | apply run_exit | (apply run_region (by decide); (simp (maxSteps := 9999999) only [go_sem, r0, r1, r2, r3, r4, r10, r11, r12, r13, e, v1, v2, v3, v4, e1, e8]; rfl)) | (apply run_regionN (by decide); (simp (maxSteps := 9999999) only [go_sem, r0, r1, r2, r3, r4, r10, r11, r12, r13, e, v1, v2, v3, v4, e1, e8]; rfl)) | (refine run_cond_t ?_ ?_; · simp only [go_sem]) | (refine run_cond_f ?_ ?_; · simp only [go_sem]))
    refine end_nil ⟨m - a, by omega, a, m, lim, decide (((b - a) / 8 : Nat) ≤ ((b - m : Nat))), q, f8, rfl, ha, m1, by omega, hlim, S8, W7'.trans (W8.mono (by omega) hb), fun i j i1 i2 i3 i4 => ?_, fun z j j1 j2 => ?_, ⟨by simp (maxSteps := 9999999) only [go_sem, r0], by simp (maxSteps := 9999999) only [go_sem, r1], by simp (maxSteps := 9999999) only [go_sem], by simp (maxSteps := 9999999) only [go_sem, r3], by simp (maxSteps := 9999999) only [go_sem, r4], ?_, by simp (maxSteps := 9999999) only [go_sem]⟩, rfl, rfl⟩
    · by_cases ee : a ≤ i ∧ j < b
      · by_cases k1 : m + 1 ≤ i
        · exact O8 i j k1 i2 ee.2
        · by_cases k2 : i < m
          · by_cases k3 : j = m
            · subst k3; exact C.asym _ _ (left i ee.1 k2)
            · exact C.ntr _ _ _ (right j (by omega) ee.2) (C.asym _ _ (left i ee.1 k2))
          · have : i = m := by omega
            subst this
            exact right j i2 ee.2
      · exact D8 i j i1 i2 i3 ee
    · rw [f8m (a - 1) (by omega), f8m j (by omega)]; exact P7 z j j1 (by omega)
    · simp (maxSteps := 9999999) only [go_sem]
      congr 1
      by_cases e9 : (b - a) / 8 ≤ b - m
      · rw [decide_eq_true e9, decide_eq_true (by omega)]
      · rw [decide_eq_false e9, decide_eq_false (by omega)]
end
end Go.Proofs.YtdmfhdnpakgkpaaDoor.Sh


/- Sorting: SortFunc. -/
namespace Go.Proofs.YtdmfhdnpakgkpaaDoor.Sh
open Go
set_option maxRecDepth 100000
set_option maxHeartbeats 4000000

section
variable {E : Type} {cel : E → List Value} {c : E → E → Int} {g : FuncId} {n B cap : Nat} {el : TypeId} {h0 : SHeap} {old0 : List Nat}
theorem PdqOKP.mono {L L' : Nat} (h : PdqOKP c cel g n B cap el h0 old0 L) (hl : L' ≤ L) : PdqOKP c cel g n B cap el h0 old0 L' :=
  fun a b lim hh f h1 => h a b lim hh f (by omega)
theorem pdqP (C : Cmp M g cel c) (hl : ∀ x, (cel x).length = 2) (hc : ∀ x, (cel x).all sc = true) (hn : n ≤ 60000) (hlow : ∀ c ∈ old0, c < h0.length) : ∀ L, PdqOKP c cel g n B cap el h0 old0 L
  | 0 => fun a b lim hh f h1 => by omega
  | L + 1 => by
    intro a b lim h f hab1 hab hb hlim S P
    have IH := (pdqP C hl hc hn hlow L).mono (show b - a ≤ L by omega)
    have key : ∃ r, (∃ h' f', r = (Value.tuple #[], h', ([] : List Nat)) ∧ SA cel n B el h0 old0 h' f' ∧ Sw a b f f' ∧ Ord c a b f') ∧ M.call 81 [.slice (some ⟨B, 0, none⟩) n cap, .int .i64 a, .int .i64 b, .int .i64 lim, .func (.func g) #[] #[]] h = some r := by
      refine call_ex (f := 81) _ sf81 rfl rfl rfl ?_
      unfold sf81
      repeat (first | apply run_seq | apply run_block | apply end_seq | apply end_blk_hit | apply end_blk_miss rfl | apply end_blk | apply end_seq_exit | apply end_seq_ret | apply end_blk_ret | apply run_skip | apply run_ret | apply run_exit | (apply run_region (by decide); (simp (maxSteps := 9999999) only [go_sem, argR]; rfl)) | (apply run_regionN (by decide); (simp (maxSteps := 9999999) only [go_sem, argR]; rfl)) | (refine run_cond_t ?_ ?_; · simp only [go_sem]) | (refine run_cond_f ?_ ?_; · simp only [go_sem]))
      refine run_loop (pdq_loopP (cap := cap) C hl hc hn hlow (a0 := a) (b0 := b) hb IH _ f (b - a) _ _ _ _ ⟨a, b, lim, true, true, f, rfl, Nat.le_refl _, hab, Nat.le_refl _, hlim, S, .refl, fun i j h1 h2 h3 h4 => by omega, P, ⟨by simp (maxSteps := 9999999) only [go_sem, argR], by simp (maxSteps := 9999999) only [go_sem, argR], by simp (maxSteps := 9999999) only [go_sem, argR], by simp (maxSteps := 9999999) only [go_sem, argR], by simp (maxSteps := 9999999) only [go_sem, argR], by simp (maxSteps := 9999999) only [go_sem], by simp (maxSteps := 9999999) only [go_sem]⟩, rfl, rfl⟩) ?_
      rintro ex ρ' ms' h1 d1 ⟨rfl, rfl, rfl, f2, S2, W2, O2⟩
      repeat (first | apply run_seq | apply run_block | apply end_seq | apply end_blk_hit | apply end_blk_miss rfl | apply end_blk | apply end_seq_exit | apply end_seq_ret | apply end_blk_ret | apply run_skip | apply run_ret | apply run_exit | (apply run_region (by decide); (simp (maxSteps := 9999999) only [go_sem]; rfl)) | (apply run_regionN (by decide); (simp (maxSteps := 9999999) only [go_sem]; rfl)) | (refine run_cond_t ?_ ?_; · simp only [go_sem]) | (refine run_cond_f ?_ ?_; · simp only [go_sem]))
      exact end_nil ⟨_, ⟨h1, f2, rfl, S2, W2, O2⟩, q_free [] rfl rfl rfl rfl (fun _ => rfl) (by rw [List.take_of_length_le]; rw [S2.len, S.len]; exact Nat.le_refl _) rfl⟩
    obtain ⟨r, ⟨h', f', rfl, k⟩, e⟩ := key
    exact ⟨h', f', e, k⟩
/-- SortFunc -/
theorem sortP (C : Cmp M g cel c) (hl : ∀ x, (cel x).length = 2) (hc : ∀ x, (cel x).all sc = true) (hn : n ≤ 60000) (hlow : ∀ c ∈ old0, c < h0.length) {h : SHeap} {f : Nat → E} (S : SA cel n B el h0 old0 h f) :
    ∃ h' f', M.call 61 [.slice (some ⟨B, 0, none⟩) n cap, .func (.func g) #[] #[]] h = some (.tuple #[], h', []) ∧ SA cel n B el h0 old0 h' f' ∧ Sw 0 n f f' ∧ Ord c 0 n f' := by
  have hlen := lenB_p (n := n) (by omega)
  obtain ⟨h1, f1, e, S1, W1, O1⟩ := pdqP (cap := cap) C hl hc hn hlow (n + 1) 0 n (lenB n) h f (by omega) (Nat.zero_le _) (Nat.le_refl _) (by omega) S (fun h => absurd h (Nat.lt_irrefl 0))
  have ez : ((0 : Nat) : Int) = 0 := rfl
  rw [ez] at e
  have wu : IntKind.u64.wrap (n : Int) = n := wrapU' (by omega) (by omega)
  have c82 := fun h => len82 (n := n) (by omega) h
  refine ⟨h1, f1, ?_, S1, W1, O1⟩
  refine call_run sf61 rfl rfl rfl ?_
  unfold sf61
  repeat (first | apply run_seq | apply run_block | apply end_seq | apply end_blk_hit | apply end_blk_miss rfl | apply end_blk | apply end_seq_exit | apply end_seq_ret | apply end_blk_ret | apply run_skip | apply run_ret | apply run_exit | (apply run_region (by decide); (simp (maxSteps := 9999999) only [go_sem, argR, wu, c82, e]; rfl)) | (apply run_regionN (by decide); (simp (maxSteps := 9999999) only [go_sem, argR, wu, c82, e]; rfl)) | (refine run_cond_t ?_ ?_; · simp only [go_sem]) | (refine run_cond_f ?_ ?_; · simp only [go_sem]))
  exact end_nil (q_free [] rfl rfl rfl rfl (fun _ => rfl) (by rw [List.take_of_length_le]; rw [S1.len, S.len]; exact Nat.le_refl _) rfl)
end
end Go.Proofs.YtdmfhdnpakgkpaaDoor.Sh


/- Sorting: nothing to sort. -/
namespace Go.Proofs.YtdmfhdnpakgkpaaDoor.Sh
open Go
set_option maxRecDepth 100000
set_option maxHeartbeats 4000000

end Go.Proofs.YtdmfhdnpakgkpaaDoor.Sh


