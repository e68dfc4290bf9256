/- Sorting: heaps. -/
import Derived.Test.YtdmfhdnpakgkpaaDoorH46
import Derived.Test.YtdmfhdnpakgkpaaDoorH41
set_option linter.all false
namespace Go.Proofs.YtdmfhdnpakgkpaaDoor.Sh
section
open Go
set_option maxRecDepth 100000
set_option maxHeartbeats 4000000
section
variable {E : Type} {cel : E → List Value} {c : E → E → Int} {g : FuncId} {n B cap : Nat} {el : TypeId} {h0 : SHeap} {old0 : List Nat}
def HP (c : E → E → Int) (a lo hi : Nat) (f : Nat → E) : Prop := ∀ i j, lo ≤ i → (j = 2 * i + 1 ∨ j = 2 * i + 2) → j < hi → ¬ c (f (a + i)) (f (a + j)) < 0
structure HX (c : E → E → Int) (a lo hi r : Nat) (f : Nat → E) : Prop where
 all : ∀ i j, lo ≤ i → i ≠ r → (j = 2 * i + 1 ∨ j = 2 * i + 2) → j < hi → ¬ c (f (a + i)) (f (a + j)) < 0
 up : ∀ p j, lo ≤ p → (r = 2 * p + 1 ∨ r = 2 * p + 2) → (j = 2 * r + 1 ∨ j = 2 * r + 2) → j < hi → ¬ c (f (a + p)) (f (a + j)) < 0
theorem HX.start {a lo hi : Nat} {f : Nat → E} (h : HP c a (lo + 1) hi f) : HX c a lo hi lo f :=
 ⟨fun i j h1 h2 h3 h4 => h i j (by omega) h3 h4, fun p j h1 h2 => by omega⟩
theorem HX.stop {a lo hi r : Nat} {f : Nat → E} (h : HX c a lo hi r f) (hr : ∀ j, (j = 2 * r + 1 ∨ j = 2 * r + 2) → j < hi → ¬ c (f (a + r)) (f (a + j)) < 0) : HP c a lo hi f := fun i j h1 h2 h3 => by
 by_cases e : i = r
 ·subst e; exact hr j h2 h3
 ·exact h.all i j h1 e h2 h3
theorem HX.step (C : Cmp M g cel c) {a lo hi r k : Nat} {f : Nat → E} (h : HX c a lo hi r f) (hr : lo ≤ r) (hk : k = 2 * r + 1 ∨ k = 2 * r + 2) (hkh : k < hi) (hlt : c (f (a + r)) (f (a + k)) < 0)
  (hbig : ∀ j, (j = 2 * r + 1 ∨ j = 2 * r + 2) → j < hi → ¬ c (f (a + k)) (f (a + j)) < 0) : HX c a lo hi k (swp f (a + r) (a + k)) := by
 constructor
 ·intro i j h1 h2 h3 h4
  by_cases e1 : i = r
  ·subst e1
   rw [swp_l]
   by_cases e2 : j = k
   ·subst e2; rw [swp_r]; exact C.asym _ _ hlt
   ·rw [swp_o f (by omega) (by omega)]; exact hbig j h3 h4
  ·rw [swp_o f (i := a + r) (j := a + k) (k := a + i) (by omega) (by omega)]
   by_cases e2 : j = r
   ·subst e2
    rw [swp_l]
    exact h.up i k h1 h3 hk hkh
   ·by_cases e3 : j = k
    ·omega
    ·rw [swp_o f (by omega) (by omega)]
     exact h.all i j h1 e1 h3 h4
 ·intro p j h1 h2 h3 h4
  have e : p = r := by omega
  subst e
  rw [swp_l, swp_o f (by omega) (by omega)]
  exact h.all k j (by omega) (by omega) h3 h4
theorem HP.top (C : Cmp M g cel c) {a hi : Nat} {f : Nat → E} (h : HP c a 0 hi f) : ∀ k, k < hi → ¬ c (f a) (f (a + k)) < 0 := by
 intro k
 induction k using Nat.strongRecOn with
 | _ k ih =>
  intro hk
  by_cases e : k = 0
  ·subst e; exact C.irr _
  ·exact C.ntr _ _ _ (ih ((k - 1) / 2) (by omega) (by omega)) (h ((k - 1) / 2) k (by omega) (by omega) hk)
theorem sift_loopF (C : Cmp M g cel c) (hl : ∀ x, (cel x).length = 3) (hc : ∀ x, (cel x).all sc = true) (hn : n ≤ 1000000) {a lo hi : Nat} (hh : a + hi ≤ n) (cx : Cx) (f0 : Nat → E) : ∀ k ρ ms h' d', (∃ (r : Nat) (f : Nat → E), hi - r = k ∧ lo ≤ r ∧ r ≤ hi ∧ SA cel n B el h0 old0 h' f ∧ Sw (a + lo) (a + hi) f0 f ∧ HX c a lo hi r f ∧ ρ 0 = .slice (some ⟨B, 0, none⟩) n cap ∧ ρ 2 = .int .i64 hi ∧ ρ 3 = .int .i64 a ∧ ρ 4 = .func (.func g) #[] #[] ∧ ρ 10 = .int .i64 r ∧ ms = [] ∧ d' = []) →
  LoopW M cx 7 sf115L0 ρ ms h' d' (fun ex ρ' ms' h' d' => (ex = .exit 0 ∨ ex = .ret) ∧ ms' = [] ∧ d' = [] ∧ ∃ f : Nat → E, SA cel n B el h0 old0 h' f ∧ Sw (a + lo) (a + hi) f0 f ∧ HP c a lo hi f) := by
 refine loop_run _ ?_
 rintro k ρ ms h' d' ⟨r, f, hk, hlo, hrh, S, W, I, r0, r2, r3, r4, r10, rfl, rfl⟩
 have w1 : IntKind.i64.wrap (2 * (r : Int)) = ((2 * r : Nat) : Int) := by rw [wrap64 (by omega) (by omega)]; rfl
 have w2 : IntKind.i64.wrap (((2 * r : Nat) : Int) + 1) = ((2 * r + 1 : Nat) : Int) := by rw [wrap64 (by omega) (by omega)]; rfl
 unfold sf115L0
 by_cases c1 : hi ≤ 2 * r + 1
 ·have e1 : (hi : Int) ≤ ((2 * r + 1 : Nat) : Int) := by omega
  repeat (first | apply Z1 | apply Z2 | apply Z3 | apply Z4 | apply Z5 rfl | apply Z6 | apply Z7 | apply Z8 | apply Z9 | apply ZA | apply ZB | apply ZC | ((first | apply ZD (by decide) | apply ZN (by decide)); (simp (maxSteps := 9999999) only [go_sem, r0, r2, r3, r4, r10, w1, w2, e1]; rfl)) | (refine ZE ?_ ?_; · simp only [go_sem]) | (refine ZF ?_ ?_; · simp only [go_sem]))
  exact end_nil ⟨.inl rfl, rfl, rfl, f, S, W, I.stop (fun j h1 h2 => by omega)⟩
 ·have e1 : ¬ (hi : Int) ≤ ((2 * r + 1 : Nat) : Int) := by omega
  have w3 : IntKind.i64.wrap (((2 * r + 1 : Nat) : Int) + 1) = ((2 * r + 1 + 1 : Nat) : Int) := by rw [wrap64 (by omega) (by omega)]; rfl
  have w4 : IntKind.i64.wrap ((a : Int) + ((2 * r + 1 : Nat) : Int)) = ((a + (2 * r + 1) : Nat) : Int) := by rw [wrap64 (by omega) (by omega)]; rfl
  have w5 : IntKind.i64.wrap (((a + (2 * r + 1) : Nat) : Int) + 1) = ((a + (2 * r + 1 + 1) : Nat) : Int) := by rw [wrap64 (by omega) (by omega)]; rfl
  have w6 : IntKind.i64.wrap ((a : Int) + (r : Int)) = ((a + r : Nat) : Int) := by rw [wrap64 (by omega) (by omega)]; rfl
  have w7 : IntKind.i64.wrap ((a : Int) + ((2 * r + 1 + 1 : Nat) : Int)) = ((a + (2 * r + 1 + 1) : Nat) : Int) := by rw [wrap64 (by omega) (by omega)]; rfl
  have p1 : (0 : Int) ≤ ((a + (2 * r + 1) : Nat) : Int) := by omega
  have p2 : ((a + (2 * r + 1) : Nat) : Int) < n := by omega
  have p3 : (0 : Int) ≤ ((a + r : Nat) : Int) := by omega
  have p4 : ((a + r : Nat) : Int) < n := by omega
  have p5 : (0 : Int) ≤ ((a + (2 * r + 1 + 1) : Nat) : Int) := by omega
  have l1 := S.load hl (show a + (2 * r + 1) < n by omega)
  have l2 := S.load hl (show a + r < n by omega)
  have key : ∀ kk : Nat, (kk = 2 * r + 1 ∨ kk = 2 * r + 2) → kk < hi → (∀ j, (j = 2 * r + 1 ∨ j = 2 * r + 2) → j < hi → ¬ c (f (a + kk)) (f (a + j)) < 0) → ¬ c (f (a + r)) (f (a + kk)) < 0 → HP c a lo hi f := fun kk h1 h2 h3 h4 =>
   I.stop (fun j h5 h6 => C.ntr _ _ _ h4 (h3 j h5 h6))
  by_cases c2 : 2 * r + 1 + 1 < hi
  ·have e2 : ((2 * r + 1 + 1 : Nat) : Int) < hi := by omega
   have p6 : ((a + (2 * r + 1 + 1) : Nat) : Int) < n := by omega
   have l3 := S.load hl (show a + (2 * r + 1 + 1) < n by omega)
   have cc := fun h => C.call (f (a + (2 * r + 1))) (f (a + (2 * r + 1 + 1))) h
   by_cases c3 : c (f (a + (2 * r + 1))) (f (a + (2 * r + 1 + 1))) < 0
   ·have cd := fun h => C.call (f (a + r)) (f (a + (2 * r + 1 + 1))) h
    have hb : ∀ j, (j = 2 * r + 1 ∨ j = 2 * r + 2) → j < hi → ¬ c (f (a + (2 * r + 1 + 1))) (f (a + j)) < 0 := fun j h1 h2 => by
     rcases h1 with h1 | h1
     ·subst h1; exact C.asym _ _ c3
     ·subst h1; exact C.irr _
    by_cases c4 : c (f (a + r)) (f (a + (2 * r + 1 + 1))) < 0
    ·obtain ⟨h1, h2, st1, st2, S2⟩ := S.swap hl hc (by decide) (show a + r < n by omega) (show a + (2 * r + 1 + 1) < n by omega)
     repeat (first | apply Z1 | apply Z2 | apply Z3 | apply Z4 | apply Z5 rfl | apply Z6 | apply Z7 | apply Z8 | apply Z9 | apply ZA | apply ZB | apply ZC | ((first | apply ZD (by decide) | apply ZN (by decide)); (simp (maxSteps := 9999999) only [go_sem, r0, r2, r3, r4, r10, w1, w2, e1, w3, w4, w5, w6, w7, p1, p2, p3, p4, p5, p6, l1, l2, l3, e2, cc, c3, cd, c4, hl, ↓st1, ↓st2]; rfl)) | (refine ZE ?_ ?_; · simp only [go_sem]) | (refine ZF ?_ ?_; · simp only [go_sem]))
     refine end_nil ⟨hi - (2 * r + 1 + 1), by omega, 2 * r + 1 + 1, _, rfl, by omega, by omega, S2, W.step (by omega) (by omega) (by omega) (by omega), I.step C hlo (.inr rfl) c2 c4 hb, ?_, ?_, ?_, ?_, ?_, rfl, rfl⟩
     ·simp only [go_sem, r0]
     ·simp only [go_sem, r2]
     ·simp only [go_sem, r3]
     ·simp only [go_sem, r4]
     ·simp only [go_sem, w3]
    ·repeat (first | apply Z1 | apply Z2 | apply Z3 | apply Z4 | apply Z5 rfl | apply Z6 | apply Z7 | apply Z8 | apply Z9 | apply ZA | apply ZB | apply ZC | ((first | apply ZD (by decide) | apply ZN (by decide)); (simp (maxSteps := 9999999) only [go_sem, r0, r2, r3, r4, r10, w1, w2, e1, w3, w4, w5, w6, w7, p1, p2, p3, p4, p5, p6, l1, l2, l3, e2, cc, c3, cd, c4]; rfl)) | (refine ZE ?_ ?_; · simp only [go_sem]) | (refine ZF ?_ ?_; · simp only [go_sem]))
     exact end_nil ⟨.inr rfl, rfl, rfl, f, S, W, key _ (.inr rfl) c2 hb c4⟩
   ·have cd := fun h => C.call (f (a + r)) (f (a + (2 * r + 1))) h
    have hb : ∀ j, (j = 2 * r + 1 ∨ j = 2 * r + 2) → j < hi → ¬ c (f (a + (2 * r + 1))) (f (a + j)) < 0 := fun j h1 h2 => by
     rcases h1 with h1 | h1
     ·subst h1; exact C.irr _
     ·subst h1; exact c3
    by_cases c4 : c (f (a + r)) (f (a + (2 * r + 1))) < 0
    ·obtain ⟨h1, h2, st1, st2, S2⟩ := S.swap hl hc (by decide) (show a + r < n by omega) (show a + (2 * r + 1) < n by omega)
     repeat (first | apply Z1 | apply Z2 | apply Z3 | apply Z4 | apply Z5 rfl | apply Z6 | apply Z7 | apply Z8 | apply Z9 | apply ZA | apply ZB | apply ZC | ((first | apply ZD (by decide) | apply ZN (by decide)); (simp (maxSteps := 9999999) only [go_sem, r0, r2, r3, r4, r10, w1, w2, e1, w3, w4, w5, w6, w7, p1, p2, p3, p4, p5, p6, l1, l2, l3, e2, cc, c3, cd, c4, hl, ↓st1, ↓st2]; rfl)) | (refine ZE ?_ ?_; · simp only [go_sem]) | (refine ZF ?_ ?_; · simp only [go_sem]))
     refine end_nil ⟨hi - (2 * r + 1), by omega, 2 * r + 1, _, rfl, by omega, by omega, S2, W.step (by omega) (by omega) (by omega) (by omega), I.step C hlo (.inl rfl) (by omega) c4 hb, ?_, ?_, ?_, ?_, ?_, rfl, rfl⟩
     ·simp only [go_sem, r0]
     ·simp only [go_sem, r2]
     ·simp only [go_sem, r3]
     ·simp only [go_sem, r4]
     ·simp only [go_sem, w2]
    ·repeat (first | apply Z1 | apply Z2 | apply Z3 | apply Z4 | apply Z5 rfl | apply Z6 | apply Z7 | apply Z8 | apply Z9 | apply ZA | apply ZB | apply ZC | ((first | apply ZD (by decide) | apply ZN (by decide)); (simp (maxSteps := 9999999) only [go_sem, r0, r2, r3, r4, r10, w1, w2, e1, w3, w4, w5, w6, w7, p1, p2, p3, p4, p5, p6, l1, l2, l3, e2, cc, c3, cd, c4]; rfl)) | (refine ZE ?_ ?_; · simp only [go_sem]) | (refine ZF ?_ ?_; · simp only [go_sem]))
     exact end_nil ⟨.inr rfl, rfl, rfl, f, S, W, key _ (.inl rfl) (by omega) hb c4⟩
  ·have e2 : ¬ ((2 * r + 1 + 1 : Nat) : Int) < hi := by omega
   have cd := fun h => C.call (f (a + r)) (f (a + (2 * r + 1))) h
   have hb : ∀ j, (j = 2 * r + 1 ∨ j = 2 * r + 2) → j < hi → ¬ c (f (a + (2 * r + 1))) (f (a + j)) < 0 := fun j h1 h2 => by
    rcases h1 with h1 | h1
    ·subst h1; exact C.irr _
    ·omega
   by_cases c4 : c (f (a + r)) (f (a + (2 * r + 1))) < 0
   ·obtain ⟨h1, h2, st1, st2, S2⟩ := S.swap hl hc (by decide) (show a + r < n by omega) (show a + (2 * r + 1) < n by omega)
    repeat (first | apply Z1 | apply Z2 | apply Z3 | apply Z4 | apply Z5 rfl | apply Z6 | apply Z7 | apply Z8 | apply Z9 | apply ZA | apply ZB | apply ZC | ((first | apply ZD (by decide) | apply ZN (by decide)); (simp (maxSteps := 9999999) only [go_sem, r0, r2, r3, r4, r10, w1, w2, e1, w3, w4, w5, w6, w7, p1, p2, p3, p4, p5, l1, l2, e2, cd, c4, hl, ↓st1, ↓st2]; rfl)) | (refine ZE ?_ ?_; · simp only [go_sem]) | (refine ZF ?_ ?_; · simp only [go_sem]))
    refine end_nil ⟨hi - (2 * r + 1), by omega, 2 * r + 1, _, rfl, by omega, by omega, S2, W.step (by omega) (by omega) (by omega) (by omega), I.step C hlo (.inl rfl) (by omega) c4 hb, ?_, ?_, ?_, ?_, ?_, rfl, rfl⟩
    ·simp only [go_sem, r0]
    ·simp only [go_sem, r2]
    ·simp only [go_sem, r3]
    ·simp only [go_sem, r4]
    ·simp only [go_sem, w2]
   ·repeat (first | apply Z1 | apply Z2 | apply Z3 | apply Z4 | apply Z5 rfl | apply Z6 | apply Z7 | apply Z8 | apply Z9 | apply ZA | apply ZB | apply ZC | ((first | apply ZD (by decide) | apply ZN (by decide)); (simp (maxSteps := 9999999) only [go_sem, r0, r2, r3, r4, r10, w1, w2, e1, w3, w4, w5, w6, w7, p1, p2, p3, p4, p5, l1, l2, e2, cd, c4]; rfl)) | (refine ZE ?_ ?_; · simp only [go_sem]) | (refine ZF ?_ ?_; · simp only [go_sem]))
    exact end_nil ⟨.inr rfl, rfl, rfl, f, S, W, key _ (.inl rfl) (by omega) hb c4⟩
theorem siftF (C : Cmp M g cel c) (hl : ∀ x, (cel x).length = 3) (hc : ∀ x, (cel x).all sc = true) (hn : n ≤ 1000000) {a lo hi : Nat} (hlh : lo ≤ hi) (hh : a + hi ≤ n) {h : SHeap} {f : Nat → E} (S : SA cel n B el h0 old0 h f) (P : HP c a (lo + 1) hi f) :
  ∃ h' f', M.call 115 [.slice (some ⟨B, 0, none⟩) n cap, .int .i64 lo, .int .i64 hi, .int .i64 a, .func (.func g) #[] #[]] h = some (.tuple #[], h', []) ∧ SA cel n B el h0 old0 h' f' ∧ Sw (a + lo) (a + hi) f f' ∧ HP c a lo hi f' := by
 have key : ∃ r, (∃ h' f', r = (Value.tuple #[], h', ([] : List Nat)) ∧ SA cel n B el h0 old0 h' f' ∧ Sw (a + lo) (a + hi) f f' ∧ HP c a lo hi f') ∧ M.call 115 [.slice (some ⟨B, 0, none⟩) n cap, .int .i64 lo, .int .i64 hi, .int .i64 a, .func (.func g) #[] #[]] h = some r := by
  refine call_ex (f := 115) _ sf115 rfl rfl rfl ?_
  unfold sf115
  repeat (first | apply Z1 | apply Z2 | apply Z3 | apply Z4 | apply Z5 rfl | apply Z6 | apply Z7 | apply Z8 | apply Z9 | apply ZA | apply ZB | apply ZC | ((first | apply ZD (by decide) | apply ZN (by decide)); (simp (maxSteps := 9999999) only [go_sem, argR]; rfl)) | (refine ZE ?_ ?_; · simp only [go_sem]) | (refine ZF ?_ ?_; · simp only [go_sem]))
  refine run_loop (sift_loopF (cap := cap) (el := el) (h0 := h0) (old0 := old0) C hl hc hn (lo := lo) hh _ f (hi - lo) _ _ _ _ ⟨lo, f, rfl, Nat.le_refl _, hlh, S, .refl, HX.start P, ?_, ?_, ?_, ?_, ?_, rfl, rfl⟩) ?_
  ·simp only [go_sem, argR]
  ·simp only [go_sem, argR]
  ·simp only [go_sem, argR]
  ·simp only [go_sem, argR]
  ·simp only [go_sem, argR]
  rintro ex ρ' ms' h1 d1 ⟨rfl | rfl, rfl, rfl, f2, S2, W2, O2⟩
  ·repeat (first | apply Z1 | apply Z2 | apply Z3 | apply Z4 | apply Z5 rfl | apply Z6 | apply Z7 | apply Z8 | apply Z9 | apply ZA | apply ZB | apply ZC | ((first | apply ZD (by decide) | apply ZN (by decide)); (simp (maxSteps := 9999999) only [go_sem]; rfl)) | (refine ZE ?_ ?_; · simp only [go_sem]) | (refine ZF ?_ ?_; · simp only [go_sem]))
   exact end_nil ⟨_, ⟨h1, f2, rfl, S2, W2, O2⟩, q_free [] rfl rfl rfl rfl (fun _ => rfl) (by rw [List.take_of_length_le]; rw [S2.len, S.len]; exact Nat.le_refl _) rfl⟩
  ·repeat (first | apply Z1 | apply Z2 | apply Z3 | apply Z4 | apply Z5 rfl | apply Z6 | apply Z7 | apply Z8 | apply Z9 | apply ZA | apply ZB | apply ZC | ((first | apply ZD (by decide) | apply ZN (by decide)); (simp (maxSteps := 9999999) only [go_sem]; rfl)) | (refine ZE ?_ ?_; · simp only [go_sem]) | (refine ZF ?_ ?_; · simp only [go_sem]))
   exact end_nil ⟨_, ⟨h1, f2, rfl, S2, W2, O2⟩, q_free [] rfl rfl rfl rfl (fun _ => rfl) (by rw [List.take_of_length_le]; rw [S2.len, S.len]; exact Nat.le_refl _) rfl⟩
 obtain ⟨r, ⟨h', f', rfl, k⟩, e⟩ := key
 exact ⟨h', f', e, k⟩
end
end
end Go.Proofs.YtdmfhdnpakgkpaaDoor.Sh
namespace Go.Proofs.YtdmfhdnpakgkpaaDoor.Sh
section
open Go
set_option maxRecDepth 100000
set_option maxHeartbeats 4000000
section
variable {E : Type} {cel : E → List Value} {c : E → E → Int} {g : FuncId} {n B cap : Nat} {el : TypeId} {h0 : SHeap} {old0 : List Nat}
theorem heapA_loopF (C : Cmp M g cel c) (hl : ∀ x, (cel x).length = 3) (hc : ∀ x, (cel x).all sc = true) (hn : n ≤ 1000000) {a hi : Nat} (hh : a + hi ≤ n) (cx : Cx) (f0 : Nat → E) : ∀ k ρ ms h' d', (∃ (f : Nat → E), k ≤ hi ∧ SA cel n B el h0 old0 h' f ∧ Sw a (a + hi) f0 f ∧ HP c a k hi f ∧ ρ 0 = .slice (some ⟨B, 0, none⟩) n cap ∧ ρ 3 = .func (.func g) #[] #[] ∧ ρ 8 = .int .i64 a ∧ ρ 9 = .int .i64 0 ∧ ρ 10 = .int .i64 hi ∧ ρ 11 = .int .i64 ((k : Int) - 1) ∧ ms = [] ∧ d' = []) →
  LoopW M cx 6 sf102L1 ρ ms h' d' (fun ex ρ' ms' h' d' => ex = .exit 0 ∧ ms' = [] ∧ d' = [] ∧ ∃ f : Nat → E, SA cel n B el h0 old0 h' f ∧ Sw a (a + hi) f0 f ∧ HP c a 0 hi f ∧ ρ' 0 = .slice (some ⟨B, 0, none⟩) n cap ∧ ρ' 3 = .func (.func g) #[] #[] ∧ ρ' 8 = .int .i64 a ∧ ρ' 9 = .int .i64 0 ∧ ρ' 10 = .int .i64 hi) := by
 refine loop_run _ ?_
 rintro k ρ ms h' d' ⟨f, hk, S, W, P, r0, r3, r8, r9, r10, r11, rfl, rfl⟩
 unfold sf102L1
 by_cases z : k = 0
 ·have e1 : ¬ (0 : Int) ≤ (k : Int) - 1 := by omega
  subst z
  repeat (first | apply Z1 | apply Z2 | apply Z3 | apply Z4 | apply Z5 rfl | apply Z6 | apply Z7 | apply Z8 | apply Z9 | apply ZA | apply ZB | apply ZC | ((first | apply ZD (by decide) | apply ZN (by decide)); (simp (maxSteps := 9999999) only [go_sem, r0, r3, r8, r9, r10, r11, e1]; rfl)) | (refine ZE ?_ ?_; · simp only [go_sem]) | (refine ZF ?_ ?_; · simp only [go_sem]))
  refine end_nil ⟨rfl, rfl, rfl, f, S, W, P, ?_, ?_, ?_, ?_, ?_⟩
  ·simp only [go_sem, r0]
  ·simp only [go_sem, r3]
  ·simp only [go_sem, r8]
  ·simp only [go_sem, r9]
  ·simp only [go_sem, r10]
 ·obtain ⟨m, rfl⟩ : ∃ m, k = m + 1 := ⟨k - 1, by omega⟩
  have em : (((m + 1 : Nat) : Int) - 1) = (m : Int) := by omega
  rw [em] at r11
  have e1 : (0 : Int) ≤ (m : Int) := by omega
  have ew : IntKind.i64.wrap ((m : Int) - 1) = (m : Int) - 1 := wrap64 (by omega) (by omega)
  obtain ⟨h2, f2, e, S2, W2, P2⟩ := siftF (cap := cap) C hl hc hn (lo := m) (by omega) hh S P
  repeat (first | apply Z1 | apply Z2 | apply Z3 | apply Z4 | apply Z5 rfl | apply Z6 | apply Z7 | apply Z8 | apply Z9 | apply ZA | apply ZB | apply ZC | ((first | apply ZD (by decide) | apply ZN (by decide)); (simp (maxSteps := 9999999) only [go_sem, r0, r3, r8, r9, r10, r11, e1, e, ew]; rfl)) | (refine ZE ?_ ?_; · simp only [go_sem]) | (refine ZF ?_ ?_; · simp only [go_sem]))
  refine end_nil ⟨m, by omega, f2, by omega, S2, W.trans (W2.mono (by omega) (by omega)), P2, ?_, ?_, ?_, ?_, ?_, ?_, rfl, rfl⟩
  ·simp only [go_sem, r0]
  ·simp only [go_sem, r3]
  ·simp only [go_sem, r8]
  ·simp only [go_sem, r9]
  ·simp only [go_sem, r10]
  ·simp only [go_sem, ew]
theorem heapB_loopF (C : Cmp M g cel c) (hl : ∀ x, (cel x).length = 3) (hc : ∀ x, (cel x).all sc = true) (hn : n ≤ 1000000) {a hi : Nat} (hh : a + hi ≤ n) (cx : Cx) (f0 : Nat → E) : ∀ k ρ ms h' d', (∃ (f : Nat → E), k ≤ hi ∧ SA cel n B el h0 old0 h' f ∧ Sw a (a + hi) f0 f ∧ HP c a 0 k f ∧ Ord c (a + k) (a + hi) f ∧ (∀ p q, a ≤ p → p < a + k → a + k ≤ q → q < a + hi → ¬ c (f q) (f p) < 0) ∧ ρ 0 = .slice (some ⟨B, 0, none⟩) n cap ∧ ρ 3 = .func (.func g) #[] #[] ∧ ρ 8 = .int .i64 a ∧ ρ 9 = .int .i64 0 ∧ ρ 12 = .int .i64 ((k : Int) - 1) ∧ ms = [] ∧ d' = []) →
  LoopW M cx 6 sf102L0 ρ ms h' d' (fun ex ρ' ms' h' d' => ex = .exit 2 ∧ ms' = [] ∧ d' = [] ∧ ∃ f : Nat → E, SA cel n B el h0 old0 h' f ∧ Sw a (a + hi) f0 f ∧ Ord c a (a + hi) f) := by
 refine loop_run _ ?_
 rintro k ρ ms h' d' ⟨f, hk, S, W, P, O, hle, r0, r3, r8, r9, r12, rfl, rfl⟩
 unfold sf102L0
 by_cases z : k = 0
 ·have e1 : ¬ (0 : Int) ≤ (k : Int) - 1 := by omega
  subst z
  repeat (first | apply Z1 | apply Z2 | apply Z3 | apply Z4 | apply Z5 rfl | apply Z6 | apply Z7 | apply Z8 | apply Z9 | apply ZA | apply ZB | apply ZC | ((first | apply ZD (by decide) | apply ZN (by decide)); (simp (maxSteps := 9999999) only [go_sem, r0, r3, r8, r9, r12, e1]; rfl)) | (refine ZE ?_ ?_; · simp only [go_sem]) | (refine ZF ?_ ?_; · simp only [go_sem]))
  exact end_nil ⟨rfl, rfl, rfl, f, S, W, O⟩
 ·obtain ⟨m, rfl⟩ : ∃ m, k = m + 1 := ⟨k - 1, by omega⟩
  have em : (((m + 1 : Nat) : Int) - 1) = (m : Int) := by omega
  rw [em] at r12
  have e1 : (0 : Int) ≤ (m : Int) := by omega
  have ew : IntKind.i64.wrap ((m : Int) - 1) = (m : Int) - 1 := wrap64 (by omega) (by omega)
  have ea : IntKind.i64.wrap ((a : Int) + (m : Int)) = ((a + m : Nat) : Int) := by rw [wrap64 (by omega) (by omega)]; rfl
  have p1 : (0 : Int) ≤ ((a + m : Nat) : Int) := by omega
  have p2 : ((a + m : Nat) : Int) < n := by omega
  have p3 : (0 : Int) ≤ (a : Int) := by omega
  have p4 : (a : Int) < n := by omega
  have l1 := S.load hl (show a + m < n by omega)
  have l2 := S.load hl (show a < n by omega)
  obtain ⟨h1, h2, st1, st2, S2⟩ := S.swap hl hc (by decide) (show a < n by omega) (show a + m < n by omega)
  have P2 : HP c a (0 + 1) m (swp f a (a + m)) := fun i j h1 h2 h3 => by
   rw [swp_o f (by omega) (by omega), swp_o f (by omega) (by omega)]
   exact P i j (by omega) h2 (by omega)
  have top := P.top C
  obtain ⟨h3, f3, e, S3, W3, P3⟩ := siftF (cap := cap) C hl hc hn (lo := 0) (hi := m) (by omega) (by omega) S2 P2
  have ez : ((0 : Nat) : Int) = 0 := rfl
  rw [ez] at e
  have W3' : Sw a (a + m) (swp f a (a + m)) f3 := W3.mono (by omega) (by omega)
  have f3m : f3 (a + m) = f a := by rw [W3'.out (by omega), swp_r]
  have f3o : ∀ q, a + m < q → f3 q = f q := fun q hq => by rw [W3'.out (by omega), swp_o f (by omega) (by omega)]
  have low : ∀ p, a ≤ p → p < a + m → ¬ c (f a) (f3 p) < 0 := W3'.all (P := fun x => ¬ c (f a) x < 0) (fun p h1 h2 => by
   by_cases e : p = a
   ·subst e; rw [swp_l]; exact top m (by omega)
   ·rw [swp_o f e (by omega)]
    have := top (p - a) (by omega)
    rwa [show a + (p - a) = p by omega] at this)
  have low2 : ∀ q, a + m < q → q < a + hi → ∀ p, a ≤ p → p < a + m → ¬ c (f q) (f3 p) < 0 := fun q q1 q2 p p1 p2 => C.ntr _ _ _ (hle a q (by omega) (by omega) (by omega) q2) (low p p1 p2)
  repeat (first | apply Z1 | apply Z2 | apply Z3 | apply Z4 | apply Z5 rfl | apply Z6 | apply Z7 | apply Z8 | apply Z9 | apply ZA | apply ZB | apply ZC | ((first | apply ZD (by decide) | apply ZN (by decide)); (simp (maxSteps := 9999999) only [go_sem, r0, r3, r8, r9, r12, e1, ea, p1, p2, p3, p4, l1, l2, hl, ↓st1, ↓st2, e, ew]; rfl)) | (refine ZE ?_ ?_; · simp only [go_sem]) | (refine ZF ?_ ?_; · simp only [go_sem]))
  refine end_nil ⟨m, by omega, f3, by omega, S3, (W.step (by omega) (by omega) (by omega) (by omega)).trans (W3'.mono (by omega) (by omega)), P3, ?_, ?_, ?_, ?_, ?_, ?_, ?_, rfl, rfl⟩
  ·intro p q h1 h2 h3
   by_cases ep : p = a + m
   ·subst ep
    rw [f3m, f3o q h2]
    exact hle a q (by omega) (by omega) (by omega) h3
   ·rw [f3o p (by omega), f3o q (by omega)]
    exact O p q (by omega) h2 h3
  ·intro p q h1 h2 h3 h4
   by_cases eq : q = a + m
   ·subst eq; rw [f3m]; exact low p h1 h2
   ·rw [f3o q (by omega)]; exact low2 q (by omega) h4 p h1 h2
  ·simp only [go_sem, r0]
  ·simp only [go_sem, r3]
  ·simp only [go_sem, r8]
  ·simp only [go_sem, r9]
  ·simp only [go_sem, ew]
theorem heapF (C : Cmp M g cel c) (hl : ∀ x, (cel x).length = 3) (hc : ∀ x, (cel x).all sc = true) (hn : n ≤ 1000000) {a b : Nat} (hab : a < b) (hb : b ≤ n) {h : SHeap} {f : Nat → E} (S : SA cel n B el h0 old0 h f) :
  ∃ h' f', M.call 102 [.slice (some ⟨B, 0, none⟩) n cap, .int .i64 a, .int .i64 b, .func (.func g) #[] #[]] h = some (.tuple #[], h', []) ∧ SA cel n B el h0 old0 h' f' ∧ Sw a b f f' ∧ Ord c a b f' := by
 have key : ∃ r, (∃ h' f', r = (Value.tuple #[], h', ([] : List Nat)) ∧ SA cel n B el h0 old0 h' f' ∧ Sw a b f f' ∧ Ord c a b f') ∧ M.call 102 [.slice (some ⟨B, 0, none⟩) n cap, .int .i64 a, .int .i64 b, .func (.func g) #[] #[]] h = some r := by
  refine call_ex (f := 102) _ sf102 rfl rfl rfl ?_
  unfold sf102
  have w1 : IntKind.i64.wrap ((b : Int) - (a : Int)) = ((b - a : Nat) : Int) := by rw [wrap64 (by omega) (by omega)]; omega
  have w2 : IntKind.i64.wrap (((b - a : Nat) : Int) - 1) = ((b - a - 1 : Nat) : Int) := by rw [wrap64 (by omega) (by omega)]; omega
  have w3 : IntKind.i64.wrap (((b - a - 1 : Nat) : Int).tdiv 2) = (((b - a - 1) / 2 : Nat) : Int) := by rw [Int.tdiv_eq_ediv_of_nonneg (by omega), wrap64 (by omega) (by omega)]; rfl
  repeat (first | apply Z1 | apply Z2 | apply Z3 | apply Z4 | apply Z5 rfl | apply Z6 | apply Z7 | apply Z8 | apply Z9 | apply ZA | apply ZB | apply ZC | ((first | apply ZD (by decide) | apply ZN (by decide)); (simp (maxSteps := 9999999) only [go_sem, argR, w1, w2, w3]; rfl)) | (refine ZE ?_ ?_; · simp only [go_sem]) | (refine ZF ?_ ?_; · simp only [go_sem]))
  refine run_loop (heapA_loopF (cap := cap) (el := el) (h0 := h0) (old0 := old0) C hl hc hn (a := a) (hi := b - a) (by omega) _ f ((b - a - 1) / 2 + 1) _ _ _ _ ⟨f, by omega, S, .refl, fun i j h1 h2 h3 => by omega, ?_, ?_, ?_, ?_, ?_, ?_, rfl, rfl⟩) ?_
  ·simp only [go_sem, argR]
  ·simp only [go_sem, argR]
  ·simp only [go_sem, argR]
  ·simp only [go_sem]
  ·simp only [go_sem]
  ·simp only [go_sem]; congr 1; omega
  rintro ex ρ' ms' h1 d1 ⟨rfl, rfl, rfl, f2, S2, W2, P2, k0, k3, k8, k9, k10⟩
  repeat (first | apply Z1 | apply Z2 | apply Z3 | apply Z4 | apply Z5 rfl | apply Z6 | apply Z7 | apply Z8 | apply Z9 | apply ZA | apply ZB | apply ZC | ((first | apply ZD (by decide) | apply ZN (by decide)); (simp (maxSteps := 9999999) only [go_sem, k0, k3, k8, k9, k10, w2]; rfl)) | (refine ZE ?_ ?_; · simp only [go_sem]) | (refine ZF ?_ ?_; · simp only [go_sem]))
  refine run_loop (heapB_loopF (cap := cap) (el := el) (h0 := h0) (old0 := old0) C hl hc hn (a := a) (hi := b - a) (by omega) _ f2 (b - a) _ _ _ _ ⟨f2, Nat.le_refl _, S2, .refl, P2, Ord.nil c (by omega) _, fun p q _ _ h3 h4 => by omega, ?_, ?_, ?_, ?_, ?_, rfl, rfl⟩) ?_
  ·simp only [go_sem, k0]
  ·simp only [go_sem, k3]
  ·simp only [go_sem, k8]
  ·simp only [go_sem, k9]
  ·simp only [go_sem]; congr 1; omega
  rintro ex ρ2 ms2 h3 d2 ⟨rfl, rfl, rfl, f3, S3, W3, O3⟩
  rw [show a + (b - a) = b by omega] at W2 W3 O3
  repeat (first | apply Z1 | apply Z2 | apply Z3 | apply Z4 | apply Z5 rfl | apply Z6 | apply Z7 | apply Z8 | apply Z9 | apply ZA | apply ZB | apply ZC | ((first | apply ZD (by decide) | apply ZN (by decide)); (simp (maxSteps := 9999999) only [go_sem]; rfl)) | (refine ZE ?_ ?_; · simp only [go_sem]) | (refine ZF ?_ ?_; · simp only [go_sem]))
  exact end_nil ⟨_, ⟨h3, f3, rfl, S3, W2.trans W3, O3⟩, q_free [] rfl rfl rfl rfl (fun _ => rfl) (by rw [List.take_of_length_le]; rw [S3.len, S.len]; exact Nat.le_refl _) rfl⟩
 obtain ⟨r, ⟨h', f', rfl, k⟩, e⟩ := key
 exact ⟨h', f', e, k⟩
end
end
end Go.Proofs.YtdmfhdnpakgkpaaDoor.Sh
namespace Go.Proofs.YtdmfhdnpakgkpaaDoor.Sh
section
open Go
set_option maxRecDepth 100000
set_option maxHeartbeats 4000000
theorem b_shl {k k' : IntKind} {a b : Int} (h : 0 ≤ b) : binS .shl (.int k a) (.int k' b) = some (.int k (k.wrap (a * 2 ^ (min b.toNat k.bits)))) := by
 show pureRun (Op.shift .shl k a k' b) = _
 unfold Op.shift
 rw [if_neg (by omega)]
 rfl
theorem b_shr {k k' : IntKind} {a b : Int} (h : 0 ≤ b) : binS .shr (.int k a) (.int k' b) = some (.int k (a.fdiv (2 ^ (min b.toNat k.bits)))) := by
 show pureRun (Op.shift .shr k a k' b) = _
 unfold Op.shift
 rw [if_neg (by omega)]
 rfl
def andU (a b : Int) : Int := IntKind.u64.wrap ((BitVec.ofInt 64 a &&& BitVec.ofInt 64 b).toNat)
def xorU (a b : Int) : Int := IntKind.u64.wrap ((BitVec.ofInt 64 a ^^^ BitVec.ofInt 64 b).toNat)
theorem b_and (a b : Int) : binS .and (.int .u64 a) (.int .u64 b) = some (.int .u64 (andU a b)) := (rfl)
theorem b_xor (a b : Int) : binS .xor (.int .u64 a) (.int .u64 b) = some (.int .u64 (xorU a b)) := (rfl)
theorem andU_le (a : Int) {b : Nat} (hb : b < 18446744073709551616) : 0 ≤ andU a b ∧ andU a b ≤ b := by
 have h1 : (BitVec.ofInt 64 a &&& BitVec.ofInt 64 (b : Int)).toNat ≤ b := by
  rw [BitVec.toNat_and]
  refine Nat.le_trans Nat.and_le_right ?_
  rw [BitVec.toNat_ofInt]
  have : ((b : Int) % ((2 ^ 64 : Nat) : Int)).toNat = b := by
   have e64 : ((2 ^ 64 : Nat) : Int) = 18446744073709551616 := rfl
   rw [e64, Int.emod_eq_of_lt (by omega) (by omega)]; rfl
  exact Nat.le_of_eq this
 have h2 : andU a b = ((BitVec.ofInt 64 a &&& BitVec.ofInt 64 (b : Int)).toNat : Int) := by
  unfold andU
  have e1 : ∀ x, IntKind.u64.wrap x = x % 18446744073709551616 := fun x => by simp [IntKind.wrap, IntKind.signed, IntKind.bits]
  rw [e1]; omega
 rw [h2]; omega
attribute [go_sem ↓] b_and b_xor
theorem E_idxStr (R : Rec) (cx : Cx) (e : Evl) (sl : Option Nat) (x i : Operand) (h : SHeap) (d : List Nat) : opE R cx e sl (.idxStr x i) h d = match e x, e i with
  | some (.string s), some (.int _ n) =>
   if decide (0 ≤ n) then match s.data.toList[n.toNat]? with
    | some b => some (.int .u8 b.toNat, h, d)
    | none => none
   else none
  | _, _ => none := (rfl)
attribute [go_sem ↓] E_idxStr
theorem wrapU' {x : Int} (h1 : 0 ≤ x) (h2 : x ≤ 18446744073709551615) : IntKind.u64.wrap x = x := by
 have e1 : IntKind.u64.wrap x = x % 18446744073709551616 := by simp [IntKind.wrap, IntKind.signed, IntKind.bits]
 rw [e1]; omega
def len8 (n : Nat) : Nat := if n = 0 then 0 else Nat.log2 n + 1
def lenTab : ByteArray := ⟨#[0, 1, 2, 2, 3, 3, 3, 3, 4, 4, 4, 4, 4, 4, 4, 4, 5, 5, 5, 5, 5, 5, 5, 5, 5, 5, 5, 5, 5, 5, 5, 5, 6, 6, 6, 6, 6, 6, 6, 6, 6, 6, 6, 6, 6, 6, 6, 6, 6, 6, 6, 6, 6, 6, 6, 6, 6, 6, 6, 6, 6, 6, 6, 6, 7, 7, 7, 7, 7, 7, 7, 7, 7, 7, 7, 7, 7, 7, 7, 7, 7, 7, 7, 7, 7, 7, 7, 7, 7, 7, 7, 7, 7, 7, 7, 7, 7, 7, 7, 7, 7, 7, 7, 7, 7, 7, 7, 7, 7, 7, 7, 7, 7, 7, 7, 7, 7, 7, 7, 7, 7, 7, 7, 7, 7, 7, 7, 7, 8, 8, 8, 8, 8, 8, 8, 8, 8, 8, 8, 8, 8, 8, 8, 8, 8, 8, 8, 8, 8, 8, 8, 8, 8, 8, 8, 8, 8, 8, 8, 8, 8, 8, 8, 8, 8, 8, 8, 8, 8, 8, 8, 8, 8, 8, 8, 8, 8, 8, 8, 8, 8, 8, 8, 8, 8, 8, 8, 8, 8, 8, 8, 8, 8, 8, 8, 8, 8, 8, 8, 8, 8, 8, 8, 8, 8, 8, 8, 8, 8, 8, 8, 8, 8, 8, 8, 8, 8, 8, 8, 8, 8, 8, 8, 8, 8, 8, 8, 8, 8, 8, 8, 8, 8, 8, 8, 8, 8, 8, 8, 8, 8, 8, 8, 8, 8, 8, 8, 8, 8, 8, 8, 8, 8, 8, 8, 8]⟩
theorem tab_at : ∀ n, n < 256 → lenTab.data.toList[n]? = some (UInt8.ofNat (len8 n)) := by decide +kernel
theorem len8_p : ∀ n, n < 256 → n < 2 ^ len8 n ∧ len8 n ≤ 8 ∧ (1 ≤ n → 2 ^ len8 n ≤ 2 * n) := by decide +kernel
def lenB (n : Nat) : Nat := if n < 256 then len8 n else 8 + len8 (n / 256)
theorem lenB_p {n : Nat} (hn : n < 65536) : n < 2 ^ lenB n ∧ lenB n ≤ 16 ∧ (1 ≤ n → 2 ^ lenB n ≤ 2 * n) := by
 unfold lenB
 by_cases c : n < 256
 ·rw [if_pos c]
  have := len8_p n c
  exact ⟨this.1, by omega, this.2.2⟩
 ·rw [if_neg c]
  obtain ⟨a1, a2, a3⟩ := len8_p (n / 256) (by omega)
  have a4 := a3 (by omega)
  rw [Nat.pow_add]
  have e : 2 ^ 8 = 256 := rfl
  rw [e]
  refine ⟨by omega, by omega, fun _ => by omega⟩
theorem len99 {n : Nat} (hn : n < 65536) (h : SHeap) : M.call 99 [.int .u64 n] h = some (.int .i64 (lenB n), h, []) := by
 have e1 : ¬ (4294967296 : Int) ≤ n := by omega
 have e2 : ¬ (65536 : Int) ≤ n := by omega
 have wu : ∀ z : Int, 0 ≤ z → z < 256 → IntKind.u8.wrap z = z := fun z h1 h2 => by
  have e1 : IntKind.u8.wrap z = z % 256 := by simp [IntKind.wrap, IntKind.signed, IntKind.bits]
  rw [e1]; omega
 refine call_run sf99 rfl rfl rfl ?_
 unfold sf99
 by_cases c : n < 256
 ·have e3 : ¬ (256 : Int) ≤ n := by omega
  have hb : lenB n = len8 n := if_pos c
  rw [hb]
  have w1 := wu n (by omega) (by omega)
  have t1 := tab_at n c
  unfold lenTab at t1
  dsimp only at t1
  have t2 : ((UInt8.ofNat (len8 n)).toNat : Int) = len8 n := by
   have := (len8_p n c).2.1
   rw [UInt8.toNat_ofNat', Nat.mod_eq_of_lt (by omega)]
  have w2 : IntKind.i64.wrap (len8 n : Int) = len8 n := by
   have := (len8_p n c).2.1
   exact wrap64 (by omega) (by omega)
  have p0 : (0 : Int) ≤ n := by omega
  repeat (first | apply Z1 | apply Z2 | apply Z3 | apply Z4 | apply Z5 rfl | apply Z6 | apply Z7 | apply Z8 | apply Z9 | apply ZA | apply ZB | apply ZC | ((first | apply ZD (by decide) | apply ZN (by decide)); (simp (maxSteps := 9999999) only [go_sem, argR, e1, e2, e3, w1, p0, t1, t2, w2]; rfl)) | (refine ZE ?_ ?_; · simp only [go_sem]) | (refine ZF ?_ ?_; · simp only [go_sem]))
  exact end_nil (q_ret1 _ (by simp only [go_sem]) rfl (take_self _))
 ·have e3 : (256 : Int) ≤ n := by omega
  have hb : lenB n = 8 + len8 (n / 256) := if_neg c
  rw [hb]
  have d1 : (n : Int).fdiv 256 = ((n / 256 : Nat) : Int) := by rw [Int.fdiv_eq_ediv_of_nonneg _ (by decide)]; rfl
  have sh : binS .shr (.int .u64 (n : Int)) (.int .u64 8) = some (.int .u64 ((n / 256 : Nat) : Int)) := by
   rw [b_shr (by decide)]
   show some (Value.int .u64 ((n : Int).fdiv 256)) = _
   rw [d1]
  have w1 := wu ((n / 256 : Nat) : Int) (by omega) (by omega)
  have t1 := tab_at (n / 256) (by omega)
  unfold lenTab at t1
  dsimp only at t1
  have hl := (len8_p (n / 256) (by omega)).2.1
  have t2 : ((UInt8.ofNat (len8 (n / 256))).toNat : Int) = len8 (n / 256) := by
   rw [UInt8.toNat_ofNat', Nat.mod_eq_of_lt (by omega)]
  have w2 : IntKind.i64.wrap (len8 (n / 256) : Int) = len8 (n / 256) := wrap64 (by omega) (by omega)
  have w3 : IntKind.i64.wrap (8 + (len8 (n / 256) : Int)) = ((8 + len8 (n / 256) : Nat) : Int) := by rw [wrap64 (by omega) (by omega)]; rfl
  have w8 : IntKind.i64.wrap 8 = 8 := rfl
  have p0 : (0 : Int) ≤ ((n / 256 : Nat) : Int) := by omega
  repeat (first | apply Z1 | apply Z2 | apply Z3 | apply Z4 | apply Z5 rfl | apply Z6 | apply Z7 | apply Z8 | apply Z9 | apply ZA | apply ZB | apply ZC | ((first | apply ZD (by decide) | apply ZN (by decide)); (simp (maxSteps := 9999999) only [go_sem, argR, e1, e2, e3, sh, w1, p0, t1, t2, w2, w3, w8]; rfl)) | (refine ZE ?_ ?_; · simp only [go_sem]) | (refine ZF ?_ ?_; · simp only [go_sem]))
  exact end_nil (q_ret1 _ (by simp only [go_sem]) rfl (take_self _))
theorem len82 {n : Nat} (hn : n < 65536) (h : SHeap) : M.call 82 [.int .u64 n] h = some (.int .i64 (lenB n), h, []) := by
 have c99 := fun h => len99 hn h
 refine call_run sf82 rfl rfl rfl ?_
 unfold sf82
 repeat (first | apply Z1 | apply Z2 | apply Z3 | apply Z4 | apply Z5 rfl | apply Z6 | apply Z7 | apply Z8 | apply Z9 | apply ZA | apply ZB | apply ZC | ((first | apply ZD (by decide) | apply ZN (by decide)); (simp (maxSteps := 9999999) only [go_sem, argR, c99]; rfl)) | (refine ZE ?_ ?_; · simp only [go_sem]) | (refine ZF ?_ ?_; · simp only [go_sem]))
 exact end_nil (q_ret1 _ (by simp only [go_sem]) rfl (take_self _))
theorem np111 {n : Nat} (hn : n < 65536) (h : SHeap) : M.call 111 [.int .i64 n] h = some (.int .u64 ((2 ^ lenB n : Nat) : Int), h, []) := by
 have c82 := fun h => len82 hn h
 have wu : IntKind.u64.wrap (n : Int) = n := wrapU' (by omega) (by omega)
 have hl := (lenB_p hn).2.1
 have hp : 2 ^ lenB n ≤ 2 ^ 16 := Nat.pow_le_pow_right (by decide) hl
 have sh : binS .shl (.int .u64 1) (.int .i64 (lenB n : Int)) = some (.int .u64 ((2 ^ lenB n : Nat) : Int)) := by
  rw [b_shl (by omega)]
  have e : min ((lenB n : Int)).toNat IntKind.u64.bits = lenB n := by
   show min ((lenB n : Int)).toNat 64 = lenB n
   omega
  rw [e, Int.one_mul]
  have : ((2 : Int) ^ lenB n) = ((2 ^ lenB n : Nat) : Int) := by simp
  rw [this]
  generalize 2 ^ lenB n = P at *
  rw [wrapU' (by omega) (by omega)]
 refine call_run sf111 rfl rfl rfl ?_
 unfold sf111
 repeat (first | apply Z1 | apply Z2 | apply Z3 | apply Z4 | apply Z5 rfl | apply Z6 | apply Z7 | apply Z8 | apply Z9 | apply ZA | apply ZB | apply ZC | ((first | apply ZD (by decide) | apply ZN (by decide)); (simp (maxSteps := 9999999) only [go_sem, argR, wu, c82, sh]; rfl)) | (refine ZE ?_ ?_; · simp only [go_sem]) | (refine ZF ?_ ?_; · simp only [go_sem]))
 exact end_nil (q_ret1 _ (by simp only [go_sem]) rfl (take_self _))
def nxt (z : Int) : Int :=
 let a := xorU z (IntKind.u64.wrap (z * 8192))
 let b := xorU a (a.fdiv 128)
 xorU b (IntKind.u64.wrap (b * 131072))
theorem xs112 {R : Nat} {z : Int} {h : SHeap} (hR : h[R]? = some (.cells [.int .u64 z] 117 true 0 [])) : M.call 112 [.pointer (some ⟨R, 0, none⟩)] h = some (.int .u64 (nxt z), h.set R (.cells [.int .u64 (nxt z)] 117 true 0 []), []) := by
 have hlt : R < h.length := (List.getElem?_eq_some_iff.1 hR).1
 have l0 : loadS h none (.pointer (some ⟨R, 0, none⟩)) = some (.int .u64 z) := by rw [load_rdO, hR]; rfl
 have l1 : ∀ X, loadS (h.set R X) none (.pointer (some ⟨R, 0, none⟩)) = rdO (some X) 0 := fun X => by rw [load_rdO, List.getElem?_set_self hlt]
 have g1 : ∀ X, (h.set R X)[R]? = some X := fun X => List.getElem?_set_self hlt
 have s1 : ∀ x : Int, binS .shl (.int .u64 x) (.int .u64 13) = some (.int .u64 (IntKind.u64.wrap (x * 8192))) := fun x => b_shl (by decide)
 have s2 : ∀ x : Int, binS .shr (.int .u64 x) (.int .u64 7) = some (.int .u64 (x.fdiv 128)) := fun x => b_shr (by decide)
 have s3 : ∀ x : Int, binS .shl (.int .u64 x) (.int .u64 17) = some (.int .u64 (IntKind.u64.wrap (x * 131072))) := fun x => b_shl (by decide)
 refine call_run sf112 rfl rfl rfl ?_
 unfold sf112
 repeat (first | apply Z1 | apply Z2 | apply Z3 | apply Z4 | apply Z5 rfl | apply Z6 | apply Z7 | apply Z8 | apply Z9 | apply ZA | apply ZB | apply ZC | ((first | apply ZD (by decide) | apply ZN (by decide)); (simp (maxSteps := 9999999) only [go_sem, argR, l0, hR, l1, g1, s1, s2, s3, List.set_set]; rfl)) | (refine ZE ?_ ?_; · simp only [go_sem]) | (refine ZF ?_ ?_; · simp only [go_sem]))
 refine end_nil (q_ret1 _ (by simp only [go_sem]; rfl) rfl ?_)
 rw [List.take_of_length_le (by simp)]
 rfl
end
end Go.Proofs.YtdmfhdnpakgkpaaDoor.Sh
namespace Go.Proofs.YtdmfhdnpakgkpaaDoor.Sh
section
open Go
set_option maxRecDepth 100000
set_option maxHeartbeats 4000000
section
variable {E : Type} {cel : E → List Value} {c : E → E → Int} {g : FuncId} {n B cap : Nat} {el : TypeId} {h0 : SHeap} {old0 : List Nat}
theorem rev_loopF (hl : ∀ x, (cel x).length = 3) (hc : ∀ x, (cel x).all sc = true) (hn : n ≤ 1000000) {a b : Nat} (hb : b ≤ n) (cx : Cx) (f0 : Nat → E) : ∀ k ρ ms h' d', (∃ (i j : Nat) (f : Nat → E), j - i = k ∧ a ≤ i ∧ i ≤ b ∧ a ≤ j + 1 ∧ j < b ∧ SA cel n B el h0 old0 h' f ∧ Sw a b f0 f ∧ ρ 0 = .slice (some ⟨B, 0, none⟩) n cap ∧ ρ 8 = .int .i64 i ∧ ρ 9 = .int .i64 j ∧ ms = [] ∧ d' = []) →
  LoopW M cx 6 sf105L0 ρ ms h' d' (fun ex ρ' ms' h' d' => ex = .exit 0 ∧ ms' = [] ∧ d' = [] ∧ ∃ f : Nat → E, SA cel n B el h0 old0 h' f ∧ Sw a b f0 f) := by
 refine loop_run _ ?_
 rintro k ρ ms h' d' ⟨i, j, f, hk, hai, hib, haj, hjb, S, W, r0, r8, r9, rfl, rfl⟩
 unfold sf105L0
 by_cases z : i < j
 ·have e1 : (i : Int) < j := by omega
  have p1 : (0 : Int) ≤ (i : Int) := by omega
  have p2 : (i : Int) < n := by omega
  have p3 : (0 : Int) ≤ (j : Int) := by omega
  have p4 : (j : Int) < n := by omega
  have l1 := S.load hl (show i < n by omega)
  have l2 := S.load hl (show j < n by omega)
  obtain ⟨h1, h2, st1, st2, S2⟩ := S.swap hl hc (by decide) (show i < n by omega) (show j < n by omega)
  have w1 : IntKind.i64.wrap ((i : Int) + 1) = ((i + 1 : Nat) : Int) := by rw [wrap64 (by omega) (by omega)]; rfl
  have w2 : IntKind.i64.wrap ((j : Int) - 1) = ((j - 1 : Nat) : Int) := by rw [wrap64 (by omega) (by omega)]; omega
  repeat (first | apply Z1 | apply Z2 | apply Z3 | apply Z4 | apply Z5 rfl | apply Z6 | apply Z7 | apply Z8 | apply Z9 | apply ZA | apply ZB | apply ZC | ((first | apply ZD (by decide) | apply ZN (by decide)); (simp (maxSteps := 9999999) only [go_sem, r0, r8, r9, e1, p1, p2, p3, p4, l1, l2, hl, ↓st1, ↓st2, w1, w2]; rfl)) | (refine ZE ?_ ?_; · simp only [go_sem]) | (refine ZF ?_ ?_; · simp only [go_sem]))
  refine end_nil ⟨j - 1 - (i + 1), by omega, i + 1, j - 1, _, rfl, by omega, by omega, by omega, by omega, S2, W.step (by omega) (by omega) (by omega) (by omega), ?_, ?_, ?_, rfl, rfl⟩
  ·simp only [go_sem, r0]
  ·simp only [go_sem, w1]
  ·simp only [go_sem, w2]
 ·have e1 : ¬ (i : Int) < j := by omega
  repeat (first | apply Z1 | apply Z2 | apply Z3 | apply Z4 | apply Z5 rfl | apply Z6 | apply Z7 | apply Z8 | apply Z9 | apply ZA | apply ZB | apply ZC | ((first | apply ZD (by decide) | apply ZN (by decide)); (simp (maxSteps := 9999999) only [go_sem, r0, r8, r9, e1]; rfl)) | (refine ZE ?_ ?_; · simp only [go_sem]) | (refine ZF ?_ ?_; · simp only [go_sem]))
  exact end_nil ⟨rfl, rfl, rfl, f, S, W⟩
theorem revF (hl : ∀ x, (cel x).length = 3) (hc : ∀ x, (cel x).all sc = true) (hn : n ≤ 1000000) {a b : Nat} (hab : a < b) (hb : b ≤ n) (cf : Value) {h : SHeap} {f : Nat → E} (S : SA cel n B el h0 old0 h f) :
  ∃ h' f', M.call 105 [.slice (some ⟨B, 0, none⟩) n cap, .int .i64 a, .int .i64 b, cf] h = some (.tuple #[], h', []) ∧ SA cel n B el h0 old0 h' f' ∧ Sw a b f f' := by
 have key : ∃ r, (∃ h' f', r = (Value.tuple #[], h', ([] : List Nat)) ∧ SA cel n B el h0 old0 h' f' ∧ Sw a b f f') ∧ M.call 105 [.slice (some ⟨B, 0, none⟩) n cap, .int .i64 a, .int .i64 b, cf] h = some r := by
  refine call_ex (f := 105) _ sf105 rfl rfl rfl ?_
  unfold sf105
  have w1 : IntKind.i64.wrap ((b : Int) - 1) = ((b - 1 : Nat) : Int) := by rw [wrap64 (by omega) (by omega)]; omega
  repeat (first | apply Z1 | apply Z2 | apply Z3 | apply Z4 | apply Z5 rfl | apply Z6 | apply Z7 | apply Z8 | apply Z9 | apply ZA | apply ZB | apply ZC | ((first | apply ZD (by decide) | apply ZN (by decide)); (simp (maxSteps := 9999999) only [go_sem, argR, w1]; rfl)) | (refine ZE ?_ ?_; · simp only [go_sem]) | (refine ZF ?_ ?_; · simp only [go_sem]))
  refine run_loop (rev_loopF (cap := cap) (el := el) (h0 := h0) (old0 := old0) hl hc hn (a := a) hb _ f (b - 1 - a) _ _ _ _ ⟨a, b - 1, f, rfl, Nat.le_refl _, by omega, by omega, by omega, S, .refl, ?_, ?_, ?_, rfl, rfl⟩) ?_
  ·simp only [go_sem, argR]
  ·simp only [go_sem, argR]
  ·simp only [go_sem, w1]
  rintro ex ρ' ms' h1 d1 ⟨rfl, rfl, rfl, f2, S2, W2⟩
  repeat (first | apply Z1 | apply Z2 | apply Z3 | apply Z4 | apply Z5 rfl | apply Z6 | apply Z7 | apply Z8 | apply Z9 | apply ZA | apply ZB | apply ZC | ((first | apply ZD (by decide) | apply ZN (by decide)); (simp (maxSteps := 9999999) only [go_sem]; rfl)) | (refine ZE ?_ ?_; · simp only [go_sem]) | (refine ZF ?_ ?_; · simp only [go_sem]))
  exact end_nil ⟨_, ⟨h1, f2, rfl, S2, W2⟩, q_free [] rfl rfl rfl rfl (fun _ => rfl) (by rw [List.take_of_length_le]; rw [S2.len, S.len]; exact Nat.le_refl _) rfl⟩
 obtain ⟨r, ⟨h', f', rfl, k⟩, e⟩ := key
 exact ⟨h', f', e, k⟩
abbrev xb (z : Int) : SO := .cells [.int .u64 z] 117 true 0 []
theorem SA.rnd (hlow : ∀ c ∈ old0, c < h0.length) {h : SHeap} {f : Nat → E} {z : Int} (hB : B < h0.length) (S : SA cel n B el (h0 ++ [xb z]) old0 h f) : h[h0.length]? = some (xb z) := by
 rw [S.same _ (by omega) (fun e => by have := hlow _ e; omega), app_get0]; rfl
theorem SA.setR {h : SHeap} {f : Nat → E} {z : Int} (hB : B < h0.length) (S : SA cel n B el (h0 ++ [xb z]) old0 h f) (z' : Int) : SA cel n B el (h0 ++ [xb z']) old0 (h.set h0.length (xb z')) f := by
 have hl := S.len
 simp at hl
 refine ⟨by simp [hl], fun j h1 h2 => ?_, ?_⟩
 ·by_cases e : j = h0.length
  ·subst e; rw [List.getElem?_set_self (by omega), app_get0]; rfl
  ·rw [List.getElem?_set_ne (by omega), S.same j h1 h2]
   by_cases e2 : j < h0.length
   ·rw [List.getElem?_append_left e2, List.getElem?_append_left e2]
   ·rw [List.getElem?_eq_none (by simp; omega), List.getElem?_eq_none (by simp; omega)]
 ·obtain ⟨old, ho, e⟩ := S.at_
  exact ⟨old, ho, by rw [List.getElem?_set_ne (by omega)]; exact e⟩
theorem SA.cut {h : SHeap} {f : Nat → E} {x : SO} (hB : B < h0.length) (S : SA cel n B el (h0 ++ [x]) old0 h f) : SA cel n B el h0 old0 (h.take h0.length) f := by
 have hl := S.len
 simp at hl
 refine ⟨by simp; omega, fun j h1 h2 => ?_, ?_⟩
 ·by_cases e2 : j < h0.length
  ·rw [List.getElem?_take, if_pos e2, S.same j h1 h2, List.getElem?_append_left e2]
  ·rw [List.getElem?_eq_none (by simp; omega), List.getElem?_eq_none (by omega)]
 ·obtain ⟨old, ho, e⟩ := S.at_
  exact ⟨old, ho, by rw [List.getElem?_take, if_pos hB]; exact e⟩
theorem SA.grow {h : SHeap} {f : Nat → E} (S : SA cel n B el h0 old0 h f) (x : SO) : SA cel n B el (h0 ++ [x]) old0 (h ++ [x]) f := by
 have hl := S.len
 refine ⟨by simp [hl], fun j h1 h2 => ?_, ?_⟩
 ·by_cases e2 : j < h0.length
  ·rw [List.getElem?_append_left (by omega), List.getElem?_append_left e2, S.same j h1 h2]
  ·by_cases e3 : j = h0.length
   ·subst e3; rw [app_get0, ← hl, app_get0]
   ·rw [List.getElem?_eq_none (by simp; omega), List.getElem?_eq_none (by simp; omega)]
 ·obtain ⟨old, ho, e⟩ := S.at_
  exact ⟨old, ho, by rw [List.getElem?_append_left S.lt]; exact e⟩
theorem brk_loopF (hl : ∀ x, (cel x).length = 3) (hc : ∀ x, (cel x).all sc = true) (hn : n ≤ 60000) {a b : Nat} (hab : a + 8 ≤ b) (hb : b ≤ n) (hlow : ∀ c ∈ old0, c < h0.length) (hB : B < h0.length) (cx : Cx) (f0 : Nat → E) : ∀ k ρ ms h' d', (∃ (i : Nat) (z : Int) (f : Nat → E), a + (b - a) / 4 * 2 + 2 - i = k ∧ a + (b - a) / 4 * 2 ≤ i + 1 ∧ i ≤ a + (b - a) / 4 * 2 + 2 ∧ SA cel n B el (h0 ++ [xb z]) old0 h' f ∧ Sw a b f0 f ∧ ρ 0 = .slice (some ⟨B, 0, none⟩) n cap ∧ ρ 1 = .int .i64 a ∧ ρ 8 = .int .i64 ((b - a : Nat) : Int) ∧ ρ 9 = .pointer (some ⟨h0.length, 0, none⟩) ∧ ρ 10 = .int .u64 ((2 ^ lenB (b - a) : Nat) : Int) ∧ ρ 11 = .int .i64 i ∧ ms = [] ∧ d' = []) →
  LoopW M cx 7 sf103L0 ρ ms h' d' (fun ex ρ' ms' h' d' => ex = .exit 0 ∧ ms' = [] ∧ d' = [] ∧ ∃ (f : Nat → E) (z : Int), SA cel n B el (h0 ++ [xb z]) old0 h' f ∧ Sw a b f0 f) := by
 refine loop_run _ ?_
 rintro k ρ ms h' d' ⟨i, z, f, hk, hi1, hi2, S, W, r0, r1, r8, r9, r10, r11, rfl, rfl⟩
 obtain ⟨b1, b2, b3⟩ := lenB_p (n := b - a) (by omega)
 have b3 := b3 (by omega)
 generalize hP : 2 ^ lenB (b - a) = P at *
 have d4 : IntKind.i64.wrap (((b - a : Nat) : Int).tdiv 4) = (((b - a) / 4 : Nat) : Int) := by rw [Int.tdiv_eq_ediv_of_nonneg (by omega), wrap64 (by omega) (by omega)]; rfl
 have m4 : IntKind.i64.wrap ((((b - a) / 4 : Nat) : Int) * 2) = (((b - a) / 4 * 2 : Nat) : Int) := by rw [wrap64 (by omega) (by omega)]; rfl
 have a4 : IntKind.i64.wrap ((a : Int) + (((b - a) / 4 * 2 : Nat) : Int)) = ((a + (b - a) / 4 * 2 : Nat) : Int) := by rw [wrap64 (by omega) (by omega)]; rfl
 have a5 : IntKind.i64.wrap (((a + (b - a) / 4 * 2 : Nat) : Int) + 1) = ((a + (b - a) / 4 * 2 + 1 : Nat) : Int) := by rw [wrap64 (by omega) (by omega)]; rfl
 unfold sf103L0
 by_cases zi : i ≤ a + (b - a) / 4 * 2 + 1
 ·have e1 : (i : Int) ≤ ((a + (b - a) / 4 * 2 + 1 : Nat) : Int) := by omega
  have cx112 := xs112 (S.rnd hlow hB)
  have S1 := S.setR hB (nxt z)
  have w1 : IntKind.u64.wrap ((P : Int) - 1) = ((P - 1 : Nat) : Int) := by rw [wrapU' (by omega) (by omega)]; omega
  obtain ⟨u1, u2⟩ := andU_le (nxt z) (b := P - 1) (by omega)
  obtain ⟨r, hr⟩ : ∃ r : Nat, andU (nxt z) ((P - 1 : Nat) : Int) = r := ⟨(andU (nxt z) ((P - 1 : Nat) : Int)).toNat, by omega⟩
  rw [hr] at u1 u2
  have w2 : IntKind.i64.wrap (r : Int) = r := wrap64 (by omega) (by omega)
  have ew : IntKind.i64.wrap ((i : Int) + 1) = ((i + 1 : Nat) : Int) := by rw [wrap64 (by omega) (by omega)]; rfl
  have p1 : (0 : Int) ≤ (i : Int) := by omega
  have p2 : (i : Int) < n := by omega
  have l1 := S1.load hl (show i < n by omega)
  by_cases q : b - a ≤ r
  ·have e2 : ((b - a : Nat) : Int) ≤ r := by omega
   have w3 : IntKind.i64.wrap ((r : Int) - ((b - a : Nat) : Int)) = ((r - (b - a) : Nat) : Int) := by rw [wrap64 (by omega) (by omega)]; omega
   have w4 : IntKind.i64.wrap ((a : Int) + ((r - (b - a) : Nat) : Int)) = ((a + (r - (b - a)) : Nat) : Int) := by rw [wrap64 (by omega) (by omega)]; rfl
   have p3 : (0 : Int) ≤ ((a + (r - (b - a)) : Nat) : Int) := by omega
   have p4 : ((a + (r - (b - a)) : Nat) : Int) < n := by omega
   have l2 := S1.load hl (show a + (r - (b - a)) < n by omega)
   obtain ⟨h1, h2, st1, st2, S2⟩ := S1.swap hl hc (by decide) (show i < n by omega) (show a + (r - (b - a)) < n by omega)
   repeat (first | apply Z1 | apply Z2 | apply Z3 | apply Z4 | apply Z5 rfl | apply Z6 | apply Z7 | apply Z8 | apply Z9 | apply ZA | apply ZB | apply ZC | ((first | apply ZD (by decide) | apply ZN (by decide)); (simp (maxSteps := 9999999) only [go_sem, r0, r1, r8, r9, r10, r11, d4, m4, a4, a5, e1, cx112, w1, hr, w2, e2, w3, w4, p1, p2, p3, p4, l1, l2, hl, ↓st1, ↓st2, ew]; rfl)) | (refine ZE ?_ ?_; · simp only [go_sem]) | (refine ZF ?_ ?_; · simp only [go_sem]))
   refine end_nil ⟨a + (b - a) / 4 * 2 + 2 - (i + 1), by omega, i + 1, nxt z, _, rfl, by omega, by omega, S2, W.step (by omega) (by omega) (by omega) (by omega), ?_, ?_, ?_, ?_, ?_, ?_, rfl, rfl⟩
   ·simp only [go_sem, r0]
   ·simp only [go_sem, r1]
   ·simp only [go_sem, r8]
   ·simp only [go_sem, r9]
   ·simp only [go_sem, r10]
   ·simp only [go_sem, ew]
  ·have e2 : ¬ ((b - a : Nat) : Int) ≤ r := by omega
   have w4 : IntKind.i64.wrap ((a : Int) + (r : Int)) = ((a + r : Nat) : Int) := by rw [wrap64 (by omega) (by omega)]; rfl
   have p3 : (0 : Int) ≤ ((a + r : Nat) : Int) := by omega
   have p4 : ((a + r : Nat) : Int) < n := by omega
   have l2 := S1.load hl (show a + r < n by omega)
   obtain ⟨h1, h2, st1, st2, S2⟩ := S1.swap hl hc (by decide) (show i < n by omega) (show a + r < n by omega)
   repeat (first | apply Z1 | apply Z2 | apply Z3 | apply Z4 | apply Z5 rfl | apply Z6 | apply Z7 | apply Z8 | apply Z9 | apply ZA | apply ZB | apply ZC | ((first | apply ZD (by decide) | apply ZN (by decide)); (simp (maxSteps := 9999999) only [go_sem, r0, r1, r8, r9, r10, r11, d4, m4, a4, a5, e1, cx112, w1, hr, w2, e2, w4, p1, p2, p3, p4, l1, l2, hl, ↓st1, ↓st2, ew]; rfl)) | (refine ZE ?_ ?_; · simp only [go_sem]) | (refine ZF ?_ ?_; · simp only [go_sem]))
   refine end_nil ⟨a + (b - a) / 4 * 2 + 2 - (i + 1), by omega, i + 1, nxt z, _, rfl, by omega, by omega, S2, W.step (by omega) (by omega) (by omega) (by omega), ?_, ?_, ?_, ?_, ?_, ?_, rfl, rfl⟩
   ·simp only [go_sem, r0]
   ·simp only [go_sem, r1]
   ·simp only [go_sem, r8]
   ·simp only [go_sem, r9]
   ·simp only [go_sem, r10]
   ·simp only [go_sem, ew]
 ·have e1 : ¬ (i : Int) ≤ ((a + (b - a) / 4 * 2 + 1 : Nat) : Int) := by omega
  repeat (first | apply Z1 | apply Z2 | apply Z3 | apply Z4 | apply Z5 rfl | apply Z6 | apply Z7 | apply Z8 | apply Z9 | apply ZA | apply ZB | apply ZC | ((first | apply ZD (by decide) | apply ZN (by decide)); (simp (maxSteps := 9999999) only [go_sem, r0, r1, r8, r9, r10, r11, d4, m4, a4, a5, e1]; rfl)) | (refine ZE ?_ ?_; · simp only [go_sem]) | (refine ZF ?_ ?_; · simp only [go_sem]))
  exact end_nil ⟨rfl, rfl, rfl, f, z, S, W⟩
theorem brkF (hl : ∀ x, (cel x).length = 3) (hc : ∀ x, (cel x).all sc = true) (hn : n ≤ 60000) {a b : Nat} (hab : a + 8 ≤ b) (hb : b ≤ n) (hlow : ∀ c ∈ old0, c < h0.length) (cf : Value) {h : SHeap} {f : Nat → E} (S : SA cel n B el h0 old0 h f) :
  ∃ h' f', M.call 103 [.slice (some ⟨B, 0, none⟩) n cap, .int .i64 a, .int .i64 b, cf] h = some (.tuple #[], h', []) ∧ SA cel n B el h0 old0 h' f' ∧ Sw a b f f' := by
 have hB := S.lt
 have hln := S.len
 have key : ∃ r, (∃ h' f', r = (Value.tuple #[], h', ([] : List Nat)) ∧ SA cel n B el h0 old0 h' f' ∧ Sw a b f f') ∧ M.call 103 [.slice (some ⟨B, 0, none⟩) n cap, .int .i64 a, .int .i64 b, cf] h = some r := by
  refine call_ex (f := 103) _ sf103 rfl rfl rfl ?_
  unfold sf103
  have w1 : IntKind.i64.wrap ((b : Int) - (a : Int)) = ((b - a : Nat) : Int) := by rw [wrap64 (by omega) (by omega)]; omega
  have e1 : (8 : Int) ≤ ((b - a : Nat) : Int) := by omega
  have wu : IntKind.u64.wrap ((b - a : Nat) : Int) = ((b - a : Nat) : Int) := wrapU' (by omega) (by omega)
  have cnp := fun h => np111 (n := b - a) (by omega) h
  have d4 : IntKind.i64.wrap (((b - a : Nat) : Int).tdiv 4) = (((b - a) / 4 : Nat) : Int) := by rw [Int.tdiv_eq_ediv_of_nonneg (by omega), wrap64 (by omega) (by omega)]; rfl
  have m4 : IntKind.i64.wrap ((((b - a) / 4 : Nat) : Int) * 2) = (((b - a) / 4 * 2 : Nat) : Int) := by rw [wrap64 (by omega) (by omega)]; rfl
  have a4 : IntKind.i64.wrap ((a : Int) + (((b - a) / 4 * 2 : Nat) : Int)) = ((a + (b - a) / 4 * 2 : Nat) : Int) := by rw [wrap64 (by omega) (by omega)]; rfl
  have a5 : IntKind.i64.wrap (((a + (b - a) / 4 * 2 : Nat) : Int) - 1) = ((a + (b - a) / 4 * 2 - 1 : Nat) : Int) := by rw [wrap64 (by omega) (by omega)]; omega
  repeat (first | apply Z1 | apply Z2 | apply Z3 | apply Z4 | apply Z5 rfl | apply Z6 | apply Z7 | apply Z8 | apply Z9 | apply ZA | apply ZB | apply ZC | ((first | apply ZD (by decide) | apply ZN (by decide)); (simp (maxSteps := 9999999) only [go_sem, argR, w1, e1, wu, cnp, d4, m4, a4, a5]; rfl)) | (refine ZE ?_ ?_; · simp only [go_sem]) | (refine ZF ?_ ?_; · simp only [go_sem]))
  refine run_loop (brk_loopF (cap := cap) (el := el) (h0 := h0) (old0 := old0) hl hc hn hab hb hlow (by omega) _ f (a + (b - a) / 4 * 2 + 2 - (a + (b - a) / 4 * 2 - 1)) _ _ _ _ ⟨a + (b - a) / 4 * 2 - 1, ((b - a : Nat) : Int), f, rfl, by omega, by omega, S.grow _, .refl, ?_, ?_, ?_, ?_, ?_, ?_, rfl, rfl⟩) ?_
  ·simp only [go_sem, argR]
  ·simp only [go_sem, argR]
  ·simp only [go_sem]
  ·simp only [go_sem]; rw [hln]
  ·simp only [go_sem]
  ·simp only [go_sem]
  rintro ex ρ' ms' h1 d1 ⟨rfl, rfl, rfl, f2, z, S2, W2⟩
  repeat (first | apply Z1 | apply Z2 | apply Z3 | apply Z4 | apply Z5 rfl | apply Z6 | apply Z7 | apply Z8 | apply Z9 | apply ZA | apply ZB | apply ZC | ((first | apply ZD (by decide) | apply ZN (by decide)); (simp (maxSteps := 9999999) only [go_sem]; rfl)) | (refine ZE ?_ ?_; · simp only [go_sem]) | (refine ZF ?_ ?_; · simp only [go_sem]))
  exact end_nil ⟨_, ⟨h1.take h0.length, f2, rfl, S2.cut (by omega), W2⟩, q_free [] rfl rfl rfl rfl (fun _ => rfl) (by rw [hln]) rfl⟩
 obtain ⟨r, ⟨h', f', rfl, k⟩, e⟩ := key
 exact ⟨h', f', e, k⟩
end
end
end Go.Proofs.YtdmfhdnpakgkpaaDoor.Sh
namespace Go.Proofs.YtdmfhdnpakgkpaaDoor.Sh
section
open Go
set_option maxRecDepth 100000
set_option maxHeartbeats 4000000
section
variable {E : Type} {cel : E → List Value} {c : E → E → Int} {g : FuncId} {n B cap R : Nat} {el : TypeId}
def Rd (cel : E → List Value) (n B : Nat) (el : TypeId) (h : SHeap) (f : Nat → E) : Prop := ∃ old, h[B]? = some (.cells (flF cel f n) el true 0 old)
theorem Rd.load {h : SHeap} {f : Nat → E} {s : Nat} (S : Rd cel n B el h f) (hl : ∀ x, (cel x).length = s) {i : Nat} (hi : i < n) : loadS h (some s) (.pointer (some ⟨B, i * s, none⟩)) = some (.agg (cel (f i)).toArray) := by
 obtain ⟨old, e⟩ := S
 exact SA.load (h0 := h) (old0 := old) ⟨rfl, fun _ _ _ => rfl, old, fun _ h => h, e⟩ hl hi
theorem Rd.set {h : SHeap} {f : Nat → E} (S : Rd cel n B el h f) (hR : R ≠ B) (x : SO) : Rd cel n B el (h.set R x) f := by
 obtain ⟨old, e⟩ := S
 exact ⟨old, by rw [List.getElem?_set_ne hR]; exact e⟩
abbrev wb (w : Nat) : SO := .cells [.int .i64 w] 3 true 0 []
theorem ordF (C : Cmp M g cel c) (hl : ∀ x, (cel x).length = 3) {h : SHeap} {f : Nat → E} (S : Rd cel n B el h f) (hRB : R ≠ B) {w : Nat} (hw : w ≤ 1000) (hR : h[R]? = some (wb w)) {i j : Nat} (hi : i < n) (hj : j < n) :
  ∃ p q w', ((p = i ∧ q = j) ∨ (p = j ∧ q = i)) ∧ w' ≤ w + 1 ∧ M.call 119 [.slice (some ⟨B, 0, none⟩) n cap, .int .i64 ((i : Nat) : Int), .int .i64 ((j : Nat) : Int), .pointer (some ⟨R, 0, none⟩), .func (.func g) #[] #[]] h = some (.tuple #[.int .i64 ((p : Nat) : Int), .int .i64 ((q : Nat) : Int)], h.set R (wb w'), []) := by
 have hlt : R < h.length := (List.getElem?_eq_some_iff.1 hR).1
 have p1 : (0 : Int) ≤ (i : Int) := by omega
 have p2 : (i : Int) < n := by omega
 have p3 : (0 : Int) ≤ (j : Int) := by omega
 have p4 : (j : Int) < n := by omega
 have l1 := S.load hl hi
 have l2 := S.load hl hj
 have cc := fun h => C.call (f j) (f i) h
 by_cases hlt2 : c (f j) (f i) < 0
 ·refine ⟨j, i, w + 1, .inr ⟨rfl, rfl⟩, Nat.le_refl _, ?_⟩
  have l0 : loadS h none (.pointer (some ⟨R, 0, none⟩)) = some (.int .i64 w) := by rw [load_rdO, hR]; rfl
  have ew : IntKind.i64.wrap ((w : Int) + 1) = ((w + 1 : Nat) : Int) := by rw [wrap64 (by omega) (by omega)]; rfl
  refine call_run sf119 rfl rfl rfl ?_
  unfold sf119
  repeat (first | apply Z1 | apply Z2 | apply Z3 | apply Z4 | apply Z5 rfl | apply Z6 | apply Z7 | apply Z8 | apply Z9 | apply ZA | apply ZB | apply ZC | ((first | apply ZD (by decide) | apply ZN (by decide)); (simp (maxSteps := 9999999) only [go_sem, argR, p1, p2, p3, p4, l1, l2, cc, hlt2, l0, ew, hR]; rfl)) | (refine ZE ?_ ?_; · simp only [go_sem]) | (refine ZF ?_ ?_; · simp only [go_sem]))
  refine end_nil (q_free [.int .i64 j, .int .i64 i] (by simp only [go_sem]) rfl rfl rfl (fun _ => rfl) ?_ rfl)
  rw [List.take_of_length_le (by simp)]
 ·refine ⟨i, j, w, .inl ⟨rfl, rfl⟩, by omega, ?_⟩
  have hs : h.set R (wb w) = h := by
   apply List.ext_getElem?
   intro k
   by_cases e : k = R
   ·subst e; rw [List.getElem?_set_self hlt, hR]
   ·rw [List.getElem?_set_ne (fun e2 => e e2.symm)]
  rw [hs]
  refine call_run sf119 rfl rfl rfl ?_
  unfold sf119
  repeat (first | apply Z1 | apply Z2 | apply Z3 | apply Z4 | apply Z5 rfl | apply Z6 | apply Z7 | apply Z8 | apply Z9 | apply ZA | apply ZB | apply ZC | ((first | apply ZD (by decide) | apply ZN (by decide)); (simp (maxSteps := 9999999) only [go_sem, argR, p1, p2, p3, p4, l1, l2, cc, hlt2]; rfl)) | (refine ZE ?_ ?_; · simp only [go_sem]) | (refine ZF ?_ ?_; · simp only [go_sem]))
  exact end_nil (q_free [.int .i64 i, .int .i64 j] (by simp only [go_sem]) rfl rfl rfl (fun _ => rfl) (take_self _) rfl)
theorem medF (C : Cmp M g cel c) (hl : ∀ x, (cel x).length = 3) {h : SHeap} {f : Nat → E} (S : Rd cel n B el h f) (hRB : R ≠ B) {w : Nat} (hw : w ≤ 500) (hR : h[R]? = some (wb w)) {i j k : Nat} (hi : i < n) (hj : j < n) (hk : k < n) :
  ∃ m w', (m = i ∨ m = j ∨ m = k) ∧ w' ≤ w + 3 ∧ M.call 117 [.slice (some ⟨B, 0, none⟩) n cap, .int .i64 ((i : Nat) : Int), .int .i64 ((j : Nat) : Int), .int .i64 ((k : Nat) : Int), .pointer (some ⟨R, 0, none⟩), .func (.func g) #[] #[]] h = some (.int .i64 ((m : Nat) : Int), h.set R (wb w'), []) := by
 have hlt : R < h.length := (List.getElem?_eq_some_iff.1 hR).1
 obtain ⟨i1, j1, w1, a1, b1, e1⟩ := ordF (cap := cap) C hl S hRB (by omega) hR hi hj
 have S1 := S.set hRB (wb w1)
 have g1 : (h.set R (wb w1))[R]? = some (wb w1) := List.getElem?_set_self hlt
 have hi1 : i1 < n := by omega
 have hj1 : j1 < n := by omega
 obtain ⟨j2, k2, w2, a2, b2, e2⟩ := ordF (cap := cap) C hl S1 hRB (by omega) g1 hj1 hk
 rw [List.set_set] at e2
 have S2 := S.set hRB (wb w2)
 have g2 : (h.set R (wb w2))[R]? = some (wb w2) := List.getElem?_set_self hlt
 have hj2 : j2 < n := by omega
 obtain ⟨i3, j3, w3, a3, b3, e3⟩ := ordF (cap := cap) C hl S2 hRB (by omega) g2 hi1 hj2
 rw [List.set_set] at e3
 refine ⟨j3, w3, by omega, by omega, ?_⟩
 refine call_run sf117 rfl rfl rfl ?_
 unfold sf117
 repeat (first | apply Z1 | apply Z2 | apply Z3 | apply Z4 | apply Z5 rfl | apply Z6 | apply Z7 | apply Z8 | apply Z9 | apply ZA | apply ZB | apply ZC | ((first | apply ZD (by decide) | apply ZN (by decide)); (simp (maxSteps := 9999999) only [go_sem, argR, e1, e2, e3]; rfl)) | (refine ZE ?_ ?_; · simp only [go_sem]) | (refine ZF ?_ ?_; · simp only [go_sem]))
 refine end_nil (q_free [.int .i64 j3] (by simp only [go_sem]) rfl rfl rfl (fun _ => rfl) ?_ rfl)
 rw [List.take_of_length_le (by simp)]
theorem madjF (C : Cmp M g cel c) (hl : ∀ x, (cel x).length = 3) {h : SHeap} {f : Nat → E} (S : Rd cel n B el h f) (hRB : R ≠ B) {w : Nat} (hw : w ≤ 500) (hR : h[R]? = some (wb w)) {i : Nat} (h1 : 1 ≤ i) (hi : i + 1 < n) (hn : n ≤ 1000000) :
  ∃ m w', (m + 1 = i ∨ m = i ∨ m = i + 1) ∧ w' ≤ w + 3 ∧ M.call 116 [.slice (some ⟨B, 0, none⟩) n cap, .int .i64 ((i : Nat) : Int), .pointer (some ⟨R, 0, none⟩), .func (.func g) #[] #[]] h = some (.int .i64 ((m : Nat) : Int), h.set R (wb w'), []) := by
 obtain ⟨m, w', a, b, e⟩ := medF (cap := cap) C hl S hRB hw hR (show i - 1 < n by omega) (show i < n by omega) hi
 refine ⟨m, w', by omega, b, ?_⟩
 have w1 : IntKind.i64.wrap ((i : Int) - 1) = ((i - 1 : Nat) : Int) := by rw [wrap64 (by omega) (by omega)]; omega
 have w2 : IntKind.i64.wrap ((i : Int) + 1) = ((i + 1 : Nat) : Int) := by rw [wrap64 (by omega) (by omega)]; rfl
 refine call_run sf116 rfl rfl rfl ?_
 unfold sf116
 repeat (first | apply Z1 | apply Z2 | apply Z3 | apply Z4 | apply Z5 rfl | apply Z6 | apply Z7 | apply Z8 | apply Z9 | apply ZA | apply ZB | apply ZC | ((first | apply ZD (by decide) | apply ZN (by decide)); (simp (maxSteps := 9999999) only [go_sem, argR, w1, w2, e]; rfl)) | (refine ZE ?_ ?_; · simp only [go_sem]) | (refine ZF ?_ ?_; · simp only [go_sem]))
 refine end_nil (q_free [.int .i64 m] (by simp only [go_sem]) rfl rfl rfl (fun _ => rfl) ?_ rfl)
 rw [List.take_of_length_le (by simp)]
theorem pivF (C : Cmp M g cel c) (hl : ∀ x, (cel x).length = 3) (hn : n ≤ 1000000) {h : SHeap} {f : Nat → E} (S : Rd cel n B el h f) {a b : Nat} (hab : a + 13 ≤ b) (hb : b ≤ n) :
  ∃ (p : Nat) (t : Int), a ≤ p ∧ p < b ∧ (t = 0 ∨ t = 1 ∨ t = 2) ∧ M.call 104 [.slice (some ⟨B, 0, none⟩) n cap, .int .i64 a, .int .i64 b, .func (.func g) #[] #[]] h = some (.tuple #[.int .i64 ((p : Nat) : Int), .int .i64 t], h, []) := by
 have hB : B < h.length := by obtain ⟨old, e⟩ := S; exact (List.getElem?_eq_some_iff.1 e).1
 have hRB : h.length ≠ B := by omega
 have q1 : 1 ≤ a + (b - a) / 4 := by omega
 have q2 : a + (b - a) / 4 + 1 < n := by omega
 have q3 : 1 ≤ a + (b - a) / 4 * 2 := by omega
 have q4 : a + (b - a) / 4 * 2 + 1 < n := by omega
 have q5 : 1 ≤ a + (b - a) / 4 * 3 := by omega
 have q6 : 50 ≤ b - a → a + (b - a) / 4 * 3 + 1 < n := by omega
 have q7 : a + (b - a) / 4 * 3 < n := by omega
 have r1 : ∀ i1 : Nat, (i1 + 1 = a + (b - a) / 4 ∨ i1 = a + (b - a) / 4 ∨ i1 = a + (b - a) / 4 + 1) → a ≤ i1 ∧ i1 < b ∧ i1 < n := by intro i1 h1; omega
 have r2 : ∀ i1 : Nat, (i1 + 1 = a + (b - a) / 4 * 2 ∨ i1 = a + (b - a) / 4 * 2 ∨ i1 = a + (b - a) / 4 * 2 + 1) → a ≤ i1 ∧ i1 < b ∧ i1 < n := by intro i1 h1; omega
 have r3 : ∀ i1 : Nat, 50 ≤ b - a → (i1 + 1 = a + (b - a) / 4 * 3 ∨ i1 = a + (b - a) / 4 * 3 ∨ i1 = a + (b - a) / 4 * 3 + 1) → a ≤ i1 ∧ i1 < b ∧ i1 < n := by intro i1 h0 h1; omega
 have r4 : ∀ m : Nat, (m = a + (b - a) / 4 ∨ m = a + (b - a) / 4 * 2 ∨ m = a + (b - a) / 4 * 3) → a ≤ m ∧ m < b := by intro m h1; omega
 have r5 : ∀ i j k m : Nat, (m = i ∨ m = j ∨ m = k) → (a ≤ i ∧ i < b ∧ i < n) → (a ≤ j ∧ j < b ∧ j < n) → (a ≤ k ∧ k < b ∧ k < n) → a ≤ m ∧ m < b := by intro i j k m h1 h2 h3 h4; omega
 have S0 : Rd cel n B el (h ++ [wb 0]) f := by obtain ⟨old, e⟩ := S; exact ⟨old, by rw [List.getElem?_append_left hB]; exact e⟩
 have g0 : (h ++ [wb 0])[h.length]? = some (wb 0) := by rw [app_get0]; rfl
 have hset : ∀ w x, (h ++ [wb w]).set h.length x = h ++ [x] := fun w x => by rw [app_set0]; rfl
 have w1 : IntKind.i64.wrap ((b : Int) - (a : Int)) = ((b - a : Nat) : Int) := by rw [wrap64 (by omega) (by omega)]; omega
 have d4 : IntKind.i64.wrap (((b - a : Nat) : Int).tdiv 4) = (((b - a) / 4 : Nat) : Int) := by rw [Int.tdiv_eq_ediv_of_nonneg (by omega), wrap64 (by omega) (by omega)]; rfl
 have m1 : IntKind.i64.wrap (((b - a) / 4 : Nat) : Int) = (((b - a) / 4 : Nat) : Int) := wrap64 (by omega) (by omega)
 have m2 : IntKind.i64.wrap ((((b - a) / 4 : Nat) : Int) * 2) = (((b - a) / 4 * 2 : Nat) : Int) := by rw [wrap64 (by omega) (by omega)]; rfl
 have m3 : IntKind.i64.wrap ((((b - a) / 4 : Nat) : Int) * 3) = (((b - a) / 4 * 3 : Nat) : Int) := by rw [wrap64 (by omega) (by omega)]; rfl
 have a1 : IntKind.i64.wrap ((a : Int) + (((b - a) / 4 : Nat) : Int)) = ((a + (b - a) / 4 : Nat) : Int) := by rw [wrap64 (by omega) (by omega)]; rfl
 have a2 : IntKind.i64.wrap ((a : Int) + (((b - a) / 4 * 2 : Nat) : Int)) = ((a + (b - a) / 4 * 2 : Nat) : Int) := by rw [wrap64 (by omega) (by omega)]; rfl
 have a3 : IntKind.i64.wrap ((a : Int) + (((b - a) / 4 * 3 : Nat) : Int)) = ((a + (b - a) / 4 * 3 : Nat) : Int) := by rw [wrap64 (by omega) (by omega)]; rfl
 have e8 : (8 : Int) ≤ ((b - a : Nat) : Int) := by omega
 have mul1 : ∀ z : Int, z * 1 = z := Int.mul_one
 have key : ∃ r, (∃ (p : Nat) (t : Int), a ≤ p ∧ p < b ∧ (t = 0 ∨ t = 1 ∨ t = 2) ∧ r = (Value.tuple #[.int .i64 ((p : Nat) : Int), .int .i64 t], h, ([] : List Nat))) ∧ M.call 104 [.slice (some ⟨B, 0, none⟩) n cap, .int .i64 a, .int .i64 b, .func (.func g) #[] #[]] h = some r := by
  refine call_ex (f := 104) _ sf104 rfl rfl rfl ?_
  unfold sf104
  by_cases c50 : 50 ≤ b - a
  ·have e50 : (50 : Int) ≤ ((b - a : Nat) : Int) := by omega
   obtain ⟨i1, v1, x1, y1, z1⟩ := madjF (cap := cap) (w := 0) C hl S0 hRB (by decide) g0 q1 q2 hn
   rw [hset] at z1
   have S1 : Rd cel n B el (h ++ [wb v1]) f := by obtain ⟨old, e⟩ := S; exact ⟨old, by rw [List.getElem?_append_left hB]; exact e⟩
   obtain ⟨i2, v2, x2, y2, z2⟩ := madjF (cap := cap) (w := v1) C hl S1 hRB (Nat.le_trans y1 (by decide)) (by rw [app_get0]; rfl) q3 q4 hn
   rw [hset] at z2
   have S2 : Rd cel n B el (h ++ [wb v2]) f := by obtain ⟨old, e⟩ := S; exact ⟨old, by rw [List.getElem?_append_left hB]; exact e⟩
   obtain ⟨i3, v3, x3, y3, z3⟩ := madjF (cap := cap) (w := v2) C hl S2 hRB (Nat.le_trans y2 (Nat.le_trans (Nat.add_le_add_right y1 3) (by decide))) (by rw [app_get0]; rfl) q5 (q6 c50) hn
   rw [hset] at z3
   have S3 : Rd cel n B el (h ++ [wb v3]) f := by obtain ⟨old, e⟩ := S; exact ⟨old, by rw [List.getElem?_append_left hB]; exact e⟩
   obtain ⟨p, v4, x4, y4, z4⟩ := medF (cap := cap) (w := v3) C hl S3 hRB (Nat.le_trans y3 (Nat.le_trans (Nat.add_le_add_right (Nat.le_trans y2 (Nat.add_le_add_right y1 3)) 3) (by decide))) (by rw [app_get0]; rfl) (r1 _ x1).2.2 (r2 _ x2).2.2 (r3 _ c50 x3).2.2
   rw [hset] at z4
   have hp := r5 _ _ _ _ x4 (r1 _ x1) (r2 _ x2) (r3 _ c50 x3)
   have n0 : ((0 : Nat) : Int) = 0 := rfl
   simp only [wb, n0] at z1
   repeat (first | apply Z1 | apply Z2 | apply Z3 | apply Z4 | apply Z5 rfl | apply Z6 | apply Z7 | apply Z8 | apply Z9 | apply ZA | apply ZB | apply ZC | ((first | apply ZD (by decide) | apply ZN (by decide)); (simp (maxSteps := 9999999) only [go_sem, argR, w1, d4, m1, m2, m3, mul1, a1, a2, a3, e8, e50, z1, z2, z3, z4]; rfl)) | (refine ZE ?_ ?_; · simp only [go_sem]) | (refine ZF ?_ ?_; · simp only [go_sem]))
   by_cases t0 : v4 = 0
   ·have t0' : (((v4 : Nat) : Int) = 0) = True := eq_true (by rw [t0]; rfl)
    refine run_cond_t (by simp only [go_sem, t0']) ?_
    repeat (first | apply Z1 | apply Z2 | apply Z3 | apply Z4 | apply Z5 rfl | apply Z6 | apply Z7 | apply Z8 | apply Z9 | apply ZA | apply ZB | apply ZC | ((first | apply ZD (by decide) | apply ZN (by decide)); (simp (maxSteps := 9999999) only [go_sem]; rfl)) | (refine ZE ?_ ?_; · simp only [go_sem]) | (refine ZF ?_ ?_; · simp only [go_sem]))
    exact end_nil ⟨_, ⟨p, 1, hp.1, hp.2, .inr (.inl rfl), rfl⟩, q_free [.int .i64 p, .int .i64 1] (by simp only [go_sem]) rfl rfl rfl (fun _ => rfl) (take_app _ _) rfl⟩
   ·have t0' : (((v4 : Nat) : Int) = 0) = False := eq_false (fun e => t0 (Int.ofNat.inj e))
    refine run_cond_f (by simp only [go_sem, t0']) ?_
    repeat (first | apply Z1 | apply Z2 | apply Z3 | apply Z4 | apply Z5 rfl | apply Z6 | apply Z7 | apply Z8 | apply Z9 | apply ZA | apply ZB | apply ZC | ((first | apply ZD (by decide) | apply ZN (by decide)); (simp (maxSteps := 9999999) only [go_sem]; rfl)) | (refine ZE ?_ ?_; · simp only [go_sem]) | (refine ZF ?_ ?_; · simp only [go_sem]))
    by_cases t1 : v4 = 12
    ·have t1' : (((v4 : Nat) : Int) = 12) = True := eq_true (by rw [t1]; rfl)
     refine run_cond_t (by simp only [go_sem, t1']) ?_
     repeat (first | apply Z1 | apply Z2 | apply Z3 | apply Z4 | apply Z5 rfl | apply Z6 | apply Z7 | apply Z8 | apply Z9 | apply ZA | apply ZB | apply ZC | ((first | apply ZD (by decide) | apply ZN (by decide)); (simp (maxSteps := 9999999) only [go_sem]; rfl)) | (refine ZE ?_ ?_; · simp only [go_sem]) | (refine ZF ?_ ?_; · simp only [go_sem]))
     exact end_nil ⟨_, ⟨p, 2, hp.1, hp.2, .inr (.inr rfl), rfl⟩, q_free [.int .i64 p, .int .i64 2] (by simp only [go_sem]) rfl rfl rfl (fun _ => rfl) (take_app _ _) rfl⟩
    ·have t1' : (((v4 : Nat) : Int) = 12) = False := eq_false (fun e => t1 (Int.ofNat.inj e))
     refine run_cond_f (by simp only [go_sem, t1']) ?_
     repeat (first | apply Z1 | apply Z2 | apply Z3 | apply Z4 | apply Z5 rfl | apply Z6 | apply Z7 | apply Z8 | apply Z9 | apply ZA | apply ZB | apply ZC | ((first | apply ZD (by decide) | apply ZN (by decide)); (simp (maxSteps := 9999999) only [go_sem]; rfl)) | (refine ZE ?_ ?_; · simp only [go_sem]) | (refine ZF ?_ ?_; · simp only [go_sem]))
     exact end_nil ⟨_, ⟨p, 0, hp.1, hp.2, .inl rfl, rfl⟩, q_free [.int .i64 p, .int .i64 0] (by simp only [go_sem]) rfl rfl rfl (fun _ => rfl) (take_app _ _) rfl⟩
  ·have e50 : ¬ (50 : Int) ≤ ((b - a : Nat) : Int) := by omega
   obtain ⟨p, v4, x4, y4, z4⟩ := medF (cap := cap) (w := 0) C hl S0 hRB (by decide) g0 (i := a + (b - a) / 4) (j := a + (b - a) / 4 * 2) (k := a + (b - a) / 4 * 3) (Nat.lt_of_succ_lt q2) (Nat.lt_of_succ_lt q4) q7
   have hp := r4 _ x4
   rw [hset] at z4
   have n0 : ((0 : Nat) : Int) = 0 := rfl
   simp only [wb, n0] at z4
   repeat (first | apply Z1 | apply Z2 | apply Z3 | apply Z4 | apply Z5 rfl | apply Z6 | apply Z7 | apply Z8 | apply Z9 | apply ZA | apply ZB | apply ZC | ((first | apply ZD (by decide) | apply ZN (by decide)); (simp (maxSteps := 9999999) only [go_sem, argR, w1, d4, m1, m2, m3, mul1, a1, a2, a3, e8, e50, z4]; rfl)) | (refine ZE ?_ ?_; · simp only [go_sem]) | (refine ZF ?_ ?_; · simp only [go_sem]))
   by_cases t0 : v4 = 0
   ·have t0' : (((v4 : Nat) : Int) = 0) = True := eq_true (by rw [t0]; rfl)
    refine run_cond_t (by simp only [go_sem, t0']) ?_
    repeat (first | apply Z1 | apply Z2 | apply Z3 | apply Z4 | apply Z5 rfl | apply Z6 | apply Z7 | apply Z8 | apply Z9 | apply ZA | apply ZB | apply ZC | ((first | apply ZD (by decide) | apply ZN (by decide)); (simp (maxSteps := 9999999) only [go_sem]; rfl)) | (refine ZE ?_ ?_; · simp only [go_sem]) | (refine ZF ?_ ?_; · simp only [go_sem]))
    exact end_nil ⟨_, ⟨p, 1, hp.1, hp.2, .inr (.inl rfl), rfl⟩, q_free [.int .i64 p, .int .i64 1] (by simp only [go_sem]) rfl rfl rfl (fun _ => rfl) (take_app _ _) rfl⟩
   ·have t0' : (((v4 : Nat) : Int) = 0) = False := eq_false (fun e => t0 (Int.ofNat.inj e))
    refine run_cond_f (by simp only [go_sem, t0']) ?_
    repeat (first | apply Z1 | apply Z2 | apply Z3 | apply Z4 | apply Z5 rfl | apply Z6 | apply Z7 | apply Z8 | apply Z9 | apply ZA | apply ZB | apply ZC | ((first | apply ZD (by decide) | apply ZN (by decide)); (simp (maxSteps := 9999999) only [go_sem]; rfl)) | (refine ZE ?_ ?_; · simp only [go_sem]) | (refine ZF ?_ ?_; · simp only [go_sem]))
    by_cases t1 : v4 = 12
    ·have t1' : (((v4 : Nat) : Int) = 12) = True := eq_true (by rw [t1]; rfl)
     refine run_cond_t (by simp only [go_sem, t1']) ?_
     repeat (first | apply Z1 | apply Z2 | apply Z3 | apply Z4 | apply Z5 rfl | apply Z6 | apply Z7 | apply Z8 | apply Z9 | apply ZA | apply ZB | apply ZC | ((first | apply ZD (by decide) | apply ZN (by decide)); (simp (maxSteps := 9999999) only [go_sem]; rfl)) | (refine ZE ?_ ?_; · simp only [go_sem]) | (refine ZF ?_ ?_; · simp only [go_sem]))
     exact end_nil ⟨_, ⟨p, 2, hp.1, hp.2, .inr (.inr rfl), rfl⟩, q_free [.int .i64 p, .int .i64 2] (by simp only [go_sem]) rfl rfl rfl (fun _ => rfl) (take_app _ _) rfl⟩
    ·have t1' : (((v4 : Nat) : Int) = 12) = False := eq_false (fun e => t1 (Int.ofNat.inj e))
     refine run_cond_f (by simp only [go_sem, t1']) ?_
     repeat (first | apply Z1 | apply Z2 | apply Z3 | apply Z4 | apply Z5 rfl | apply Z6 | apply Z7 | apply Z8 | apply Z9 | apply ZA | apply ZB | apply ZC | ((first | apply ZD (by decide) | apply ZN (by decide)); (simp (maxSteps := 9999999) only [go_sem]; rfl)) | (refine ZE ?_ ?_; · simp only [go_sem]) | (refine ZF ?_ ?_; · simp only [go_sem]))
     exact end_nil ⟨_, ⟨p, 0, hp.1, hp.2, .inl rfl, rfl⟩, q_free [.int .i64 p, .int .i64 0] (by simp only [go_sem]) rfl rfl rfl (fun _ => rfl) (take_app _ _) rfl⟩
 obtain ⟨r, ⟨p, t, x1, x2, x3, rfl⟩, e⟩ := key
 exact ⟨p, t, x1, x2, x3, e⟩
end
end
end Go.Proofs.YtdmfhdnpakgkpaaDoor.Sh
namespace Go.Proofs.YtdmfhdnpakgkpaaDoor.Sh
section
open Go
set_option maxRecDepth 100000
set_option maxHeartbeats 4000000
section
variable {E : Type} {cel : E → List Value} {c : E → E → Int} {g : FuncId} {n B cap : Nat} {el : TypeId} {h0 : SHeap} {old0 : List Nat}
def PK (n B cap : Nat) (g : FuncId) (a b : Nat) (ρ : Reg) : Prop := ρ 0 = .slice (some ⟨B, 0, none⟩) n cap ∧ ρ 1 = .int .i64 a ∧ ρ 2 = .int .i64 b ∧ ρ 3 = .func (.func g) #[] #[]
theorem pinA_loopF (C : Cmp M g cel c) (hl : ∀ x, (cel x).length = 3) (hn : n ≤ 1000000) {a b : Nat} (hb : b ≤ n) (cx : Cx) {h : SHeap} {f : Nat → E} (S : SA cel n B el h0 old0 h f) (t : Int) : ∀ k ρ ms h' d', (∃ i : Nat, b - i = k ∧ a < i ∧ i ≤ b ∧ Ord c a i f ∧ PK n B cap g a b ρ ∧ ρ 9 = .int .i64 i ∧ ρ 10 = .int .i64 t ∧ ms = [] ∧ h' = h ∧ d' = []) →
  LoopW M cx 8 sf106L2 ρ ms h' d' (fun ex ρ' ms' h' d' => ex = .exit 2 ∧ ms' = [] ∧ h' = h ∧ d' = [] ∧ ∃ i : Nat, a < i ∧ i ≤ b ∧ Ord c a i f ∧ PK n B cap g a b ρ' ∧ ρ' 9 = .int .i64 i ∧ ρ' 10 = .int .i64 t) := by
 refine loop_run _ ?_
 rintro k ρ ms h' d' ⟨i, hk, hai, hib, O, ⟨r0, r1, r2, r3⟩, r9, r10, rfl, rfl, rfl⟩
 unfold sf106L2
 by_cases z : i < b
 ·have e1 : (i : Int) < b := by omega
  have p1 : (0 : Int) ≤ (i : Int) := by omega
  have p2 : (i : Int) < n := by omega
  have p3 : (0 : Int) ≤ ((i - 1 : Nat) : Int) := by omega
  have p4 : ((i - 1 : Nat) : Int) < n := by omega
  have w1 : IntKind.i64.wrap ((i : Int) - 1) = ((i - 1 : Nat) : Int) := by rw [wrap64 (by omega) (by omega)]; omega
  have w2 : IntKind.i64.wrap ((i : Int) + 1) = ((i + 1 : Nat) : Int) := by rw [wrap64 (by omega) (by omega)]; rfl
  have l1 := S.load hl (show i < n by omega)
  have l2 := S.load hl (show i - 1 < n by omega)
  have cc := fun h => C.call (f i) (f (i - 1)) h
  by_cases hlt : c (f i) (f (i - 1)) < 0
  ·repeat (first | apply Z1 | apply Z2 | apply Z3 | apply Z4 | apply Z5 rfl | apply Z6 | apply Z7 | apply Z8 | apply Z9 | apply ZA | apply ZB | apply ZC | ((first | apply ZD (by decide) | apply ZN (by decide)); (simp (maxSteps := 9999999) only [go_sem, r0, r1, r2, r3, r9, e1, p1, p2, p3, p4, w1, l1, l2, cc, hlt]; rfl)) | (refine ZE ?_ ?_; · simp only [go_sem]) | (refine ZF ?_ ?_; · simp only [go_sem]))
   refine end_nil ⟨rfl, rfl, rfl, rfl, i, hai, hib, O, ⟨?_, ?_, ?_, ?_⟩, ?_, ?_⟩
   ·simp only [go_sem, r0]
   ·simp only [go_sem, r1]
   ·simp only [go_sem, r2]
   ·simp only [go_sem, r3]
   ·simp only [go_sem, r9]
   ·simp only [go_sem, r10]
  ·repeat (first | apply Z1 | apply Z2 | apply Z3 | apply Z4 | apply Z5 rfl | apply Z6 | apply Z7 | apply Z8 | apply Z9 | apply ZA | apply ZB | apply ZC | ((first | apply ZD (by decide) | apply ZN (by decide)); (simp (maxSteps := 9999999) only [go_sem, r0, r1, r2, r3, r9, e1, p1, p2, p3, p4, w1, l1, l2, cc, hlt, w2]; rfl)) | (refine ZE ?_ ?_; · simp only [go_sem]) | (refine ZF ?_ ?_; · simp only [go_sem]))
   refine end_nil ⟨b - (i + 1), by omega, i + 1, rfl, by omega, by omega, O.snoc C (fun _ => hlt), ⟨?_, ?_, ?_, ?_⟩, ?_, ?_, rfl, rfl, rfl⟩
   ·simp only [go_sem, r0]
   ·simp only [go_sem, r1]
   ·simp only [go_sem, r2]
   ·simp only [go_sem, r3]
   ·simp only [go_sem, w2]
   ·simp only [go_sem, r10]
 ·have e1 : ¬ (i : Int) < b := by omega
  repeat (first | apply Z1 | apply Z2 | apply Z3 | apply Z4 | apply Z5 rfl | apply Z6 | apply Z7 | apply Z8 | apply Z9 | apply ZA | apply ZB | apply ZC | ((first | apply ZD (by decide) | apply ZN (by decide)); (simp (maxSteps := 9999999) only [go_sem, r0, r1, r2, r3, r9, e1]; rfl)) | (refine ZE ?_ ?_; · simp only [go_sem]) | (refine ZF ?_ ?_; · simp only [go_sem]))
  refine end_nil ⟨rfl, rfl, rfl, rfl, i, hai, hib, O, ⟨?_, ?_, ?_, ?_⟩, ?_, ?_⟩
  ·simp only [go_sem, r0]
  ·simp only [go_sem, r1]
  ·simp only [go_sem, r2]
  ·simp only [go_sem, r3]
  ·simp only [go_sem, r9]
  ·simp only [go_sem, r10]
theorem pinB_loopF (C : Cmp M g cel c) (hl : ∀ x, (cel x).length = 3) (hc : ∀ x, (cel x).all sc = true) (hn : n ≤ 1000000) {a b i : Nat} (hb : b ≤ n) (hai : a + 1 < i) (hib : i < b) (cx : Cx) (f0 : Nat → E) (hpre : 0 < a → ∀ j, a ≤ j → j < i → ¬ c (f0 j) (f0 (a - 1)) < 0) (t : Int) : ∀ k ρ ms h' d', (∃ (j : Nat) (f : Nat → E), j = k ∧ a ≤ j ∧ j < i ∧ SA cel n B el h0 old0 h' f ∧ Sw a i f0 f ∧ InsI c a (i - 1) j f ∧ PK n B cap g a b ρ ∧ ρ 9 = .int .i64 i ∧ ρ 10 = .int .i64 t ∧ ρ 11 = .int .i64 j ∧ ms = [] ∧ d' = []) →
    LoopW M cx 8 sf106L1 ρ ms h' d' (fun ex ρ' ms' h' d' => ex = .exit 4 ∧ ms' = [] ∧ d' = [] ∧ ∃ f : Nat → E, SA cel n B el h0 old0 h' f ∧ Sw a i f0 f ∧ Ord c a i f ∧ PK n B cap g a b ρ' ∧ ρ' 9 = .int .i64 i ∧ ρ' 10 = .int .i64 t) := by
  refine loop_run _ ?_
  rintro k ρ ms h' d' ⟨j, f, rfl, haj, hji, S, W, I, ⟨r0, r1, r2, r3⟩, r9, r10, r11, rfl, rfl⟩
  have hord : (j ≤ a ∨ ¬ c (f j) (f (j - 1)) < 0) → Ord c a i f := fun h => by
    have := I.stop C h
    rwa [show i - 1 + 1 = i by omega] at this
  unfold sf106L1
  by_cases z : 1 ≤ j
  · have e1 : (1 : Int) ≤ j := by omega
    have p1 : (0 : Int) ≤ (j : Int) := by omega
    have p2 : (j : Int) < n := by omega
    have p3 : (0 : Int) ≤ ((j - 1 : Nat) : Int) := by omega
    have p4 : ((j - 1 : Nat) : Int) < n := by omega
    have w1 : IntKind.i64.wrap ((j : Int) - 1) = ((j - 1 : Nat) : Int) := by rw [wrap64 (by omega) (by omega)]; omega
    have l1 := S.load hl (show j < n by omega)
    have l2 := S.load hl (show j - 1 < n by omega)
    have cc := fun h => C.call (f j) (f (j - 1)) h
    by_cases hlt : c (f j) (f (j - 1)) < 0
    ·
      have hja : a < j := by
        by_cases e : a < j
        · exact e
        · exfalso
          have ej : j = a := by omega
          subst ej
          have := W.all (P := fun x => ¬ c x (f0 (j - 1)) < 0) (hpre (by omega)) j (by omega) hji
          rw [← W.out (i := j - 1) (by omega)] at this
          exact this hlt
      obtain ⟨h1, h2, st1, st2, S2⟩ := S.swap hl hc (by decide) (show j < n by omega) (show j - 1 < n by omega)
      repeat (first | apply Z1 | apply Z2 | apply Z3 | apply Z4 | apply Z5 rfl | apply Z6 | apply Z7 | apply Z8 | apply Z9 | apply ZA | apply ZB | apply ZC | ((first | apply ZD (by decide) | apply ZN (by decide)); (simp (maxSteps := 9999999) only [go_sem, r0, r1, r2, r3, r9, r11, e1, p1, p2, p3, p4, w1, l1, l2, cc, hlt, hl, ↓st1, ↓st2]; rfl)) | (refine ZE ?_ ?_; · simp only [go_sem]) | (refine ZF ?_ ?_; · simp only [go_sem]))
      refine end_nil ⟨j - 1, by omega, j - 1, _, rfl, by omega, by omega, S2, W.step (by omega) (by omega) (by omega) (by omega), I.step hja (by omega) hlt, ⟨?_, ?_, ?_, ?_⟩, ?_, ?_, ?_, rfl, rfl⟩
      · simp only [go_sem, r0]
      · simp only [go_sem, r1]
      · simp only [go_sem, r2]
      · simp only [go_sem, r3]
      · simp only [go_sem, r9]
      · simp only [go_sem, r10]
      · simp only [go_sem, w1]
    · repeat (first | apply Z1 | apply Z2 | apply Z3 | apply Z4 | apply Z5 rfl | apply Z6 | apply Z7 | apply Z8 | apply Z9 | apply ZA | apply ZB | apply ZC | ((first | apply ZD (by decide) | apply ZN (by decide)); (simp (maxSteps := 9999999) only [go_sem, r0, r1, r2, r3, r9, r11, e1, p1, p2, p3, p4, w1, l1, l2, cc, hlt]; rfl)) | (refine ZE ?_ ?_; · simp only [go_sem]) | (refine ZF ?_ ?_; · simp only [go_sem]))
      refine end_nil ⟨rfl, rfl, rfl, f, S, W, hord (.inr hlt), ⟨?_, ?_, ?_, ?_⟩, ?_, ?_⟩
      · simp only [go_sem, r0]
      · simp only [go_sem, r1]
      · simp only [go_sem, r2]
      · simp only [go_sem, r3]
      · simp only [go_sem, r9]
      · simp only [go_sem, r10]
  · have e1 : ¬ (1 : Int) ≤ j := by omega
    repeat (first | apply Z1 | apply Z2 | apply Z3 | apply Z4 | apply Z5 rfl | apply Z6 | apply Z7 | apply Z8 | apply Z9 | apply ZA | apply ZB | apply ZC | ((first | apply ZD (by decide) | apply ZN (by decide)); (simp (maxSteps := 9999999) only [go_sem, r0, r1, r2, r3, r9, r11, e1]; rfl)) | (refine ZE ?_ ?_; · simp only [go_sem]) | (refine ZF ?_ ?_; · simp only [go_sem]))
    refine end_nil ⟨rfl, rfl, rfl, f, S, W, hord (.inl (by omega)), ⟨?_, ?_, ?_, ?_⟩, ?_, ?_⟩
    · simp only [go_sem, r0]
    · simp only [go_sem, r1]
    · simp only [go_sem, r2]
    · simp only [go_sem, r3]
    · simp only [go_sem, r9]
    · simp only [go_sem, r10]
theorem pinC_loopF (C : Cmp M g cel c) (hl : ∀ x, (cel x).length = 3) (hc : ∀ x, (cel x).all sc = true) (hn : n ≤ 1000000) {a b i : Nat} (hb : b ≤ n) (hib : i < b) (cx : Cx) (f0 : Nat → E) (t : Int) : ∀ k ρ ms h' d', (∃ (j : Nat) (f : Nat → E), b - j = k ∧ i < j ∧ j ≤ b ∧ SA cel n B el h0 old0 h' f ∧ Sw i b f0 f ∧ PK n B cap g a b ρ ∧ ρ 9 = .int .i64 i ∧ ρ 10 = .int .i64 t ∧ ρ 12 = .int .i64 j ∧ ms = [] ∧ d' = []) →
  LoopW M cx 8 sf106L0 ρ ms h' d' (fun ex ρ' ms' h' d' => ex = .exit 6 ∧ ms' = [] ∧ d' = [] ∧ ∃ f : Nat → E, SA cel n B el h0 old0 h' f ∧ Sw i b f0 f ∧ PK n B cap g a b ρ' ∧ ρ' 9 = .int .i64 i ∧ ρ' 10 = .int .i64 t) := by
 refine loop_run _ ?_
 rintro k ρ ms h' d' ⟨j, f, hk, hij, hjb, S, W, ⟨r0, r1, r2, r3⟩, r9, r10, r12, rfl, rfl⟩
 unfold sf106L0
 by_cases z : j < b
 ·have e1 : (j : Int) < b := by omega
  have p1 : (0 : Int) ≤ (j : Int) := by omega
  have p2 : (j : Int) < n := by omega
  have p3 : (0 : Int) ≤ ((j - 1 : Nat) : Int) := by omega
  have p4 : ((j - 1 : Nat) : Int) < n := by omega
  have w1 : IntKind.i64.wrap ((j : Int) - 1) = ((j - 1 : Nat) : Int) := by rw [wrap64 (by omega) (by omega)]; omega
  have w2 : IntKind.i64.wrap ((j : Int) + 1) = ((j + 1 : Nat) : Int) := by rw [wrap64 (by omega) (by omega)]; rfl
  have l1 := S.load hl (show j < n by omega)
  have l2 := S.load hl (show j - 1 < n by omega)
  have cc := fun h => C.call (f j) (f (j - 1)) h
  by_cases hlt : c (f j) (f (j - 1)) < 0
  ·obtain ⟨h1, h2, st1, st2, S2⟩ := S.swap hl hc (by decide) (show j < n by omega) (show j - 1 < n by omega)
   repeat (first | apply Z1 | apply Z2 | apply Z3 | apply Z4 | apply Z5 rfl | apply Z6 | apply Z7 | apply Z8 | apply Z9 | apply ZA | apply ZB | apply ZC | ((first | apply ZD (by decide) | apply ZN (by decide)); (simp (maxSteps := 9999999) only [go_sem, r0, r1, r2, r3, r9, r12, e1, p1, p2, p3, p4, w1, w2, l1, l2, cc, hlt, hl, ↓st1, ↓st2]; rfl)) | (refine ZE ?_ ?_; · simp only [go_sem]) | (refine ZF ?_ ?_; · simp only [go_sem]))
   refine end_nil ⟨b - (j + 1), by omega, j + 1, _, rfl, by omega, by omega, S2, W.step (by omega) (by omega) (by omega) (by omega), ⟨?_, ?_, ?_, ?_⟩, ?_, ?_, ?_, rfl, rfl⟩
   ·simp only [go_sem, r0]
   ·simp only [go_sem, r1]
   ·simp only [go_sem, r2]
   ·simp only [go_sem, r3]
   ·simp only [go_sem, r9]
   ·simp only [go_sem, r10]
   ·simp only [go_sem, w2]
  ·repeat (first | apply Z1 | apply Z2 | apply Z3 | apply Z4 | apply Z5 rfl | apply Z6 | apply Z7 | apply Z8 | apply Z9 | apply ZA | apply ZB | apply ZC | ((first | apply ZD (by decide) | apply ZN (by decide)); (simp (maxSteps := 9999999) only [go_sem, r0, r1, r2, r3, r9, r12, e1, p1, p2, p3, p4, w1, l1, l2, cc, hlt]; rfl)) | (refine ZE ?_ ?_; · simp only [go_sem]) | (refine ZF ?_ ?_; · simp only [go_sem]))
   refine end_nil ⟨rfl, rfl, rfl, f, S, W, ⟨?_, ?_, ?_, ?_⟩, ?_, ?_⟩
   ·simp only [go_sem, r0]
   ·simp only [go_sem, r1]
   ·simp only [go_sem, r2]
   ·simp only [go_sem, r3]
   ·simp only [go_sem, r9]
   ·simp only [go_sem, r10]
 ·have e1 : ¬ (j : Int) < b := by omega
  repeat (first | apply Z1 | apply Z2 | apply Z3 | apply Z4 | apply Z5 rfl | apply Z6 | apply Z7 | apply Z8 | apply Z9 | apply ZA | apply ZB | apply ZC | ((first | apply ZD (by decide) | apply ZN (by decide)); (simp (maxSteps := 9999999) only [go_sem, r0, r1, r2, r3, r9, r12, e1]; rfl)) | (refine ZE ?_ ?_; · simp only [go_sem]) | (refine ZF ?_ ?_; · simp only [go_sem]))
  refine end_nil ⟨rfl, rfl, rfl, f, S, W, ⟨?_, ?_, ?_, ?_⟩, ?_, ?_⟩
  ·simp only [go_sem, r0]
  ·simp only [go_sem, r1]
  ·simp only [go_sem, r2]
  ·simp only [go_sem, r3]
  ·simp only [go_sem, r9]
  ·simp only [go_sem, r10]
theorem pinO_loopF (C : Cmp M g cel c) (hl : ∀ x, (cel x).length = 3) (hc : ∀ x, (cel x).all sc = true) (hn : n ≤ 1000000) {a b : Nat} (hb : b ≤ n) (cx : Cx) (f0 : Nat → E) (hpre : 0 < a → ∀ j, a ≤ j → j < b → ¬ c (f0 j) (f0 (a - 1)) < 0) : ∀ k ρ ms h' d', (∃ (t i : Nat) (f : Nat → E), t + k = 5 ∧ a < i ∧ i ≤ b ∧ SA cel n B el h0 old0 h' f ∧ Sw a b f0 f ∧ Ord c a i f ∧ PK n B cap g a b ρ ∧ ρ 9 = .int .i64 i ∧ ρ 10 = .int .i64 t ∧ ms = [] ∧ d' = []) →
  LoopW M cx 8 sf106L3 ρ ms h' d' (fun ex ρ' ms' h' d' => ms' = [] ∧ d' = [] ∧ ∃ f : Nat → E, SA cel n B el h0 old0 h' f ∧ Sw a b f0 f ∧ (ex = .exit 0 ∨ (ex = .ret ∧ ((ρ' 8 = .bool true ∧ Ord c a b f) ∨ ρ' 8 = .bool false)))) := by
 refine loop_run _ ?_
 rintro k ρ ms h' d' ⟨t, i, f, hk, hai, hib, S, W, O, P, r9, r10, rfl, rfl⟩
 unfold sf106L3
 by_cases z : t < 5
 ·have e1 : (t : Int) < 5 := by omega
  have ew : IntKind.i64.wrap ((t : Int) + 1) = ((t + 1 : Nat) : Int) := by rw [wrap64 (by omega) (by omega)]; rfl
  repeat (first | apply Z1 | apply Z2 | apply Z3 | apply Z4 | apply Z5 rfl | apply Z6 | apply Z7 | apply Z8 | apply Z9 | apply ZA | apply ZB | apply ZC | ((first | apply ZD (by decide) | apply ZN (by decide)); (simp (maxSteps := 9999999) only [go_sem, r10, e1]; rfl)) | (refine ZE ?_ ?_; · simp only [go_sem]) | (refine ZF ?_ ?_; · simp only [go_sem]))
  obtain ⟨r0, r1, r2, r3⟩ := P
  refine run_loop (pinA_loopF (cap := cap) C hl hn (a := a) hb cx S t (b - i) _ _ _ _ ⟨i, rfl, hai, hib, O, ⟨by simp only [go_sem, r0], by simp only [go_sem, r1], by simp only [go_sem, r2], by simp only [go_sem, r3]⟩, by simp only [go_sem, r9], by simp only [go_sem, r10], rfl, rfl, rfl⟩) ?_
  rintro ex ρ1 ms1 h1 d1 ⟨rfl, rfl, rfl, rfl, i, hai, hib, O, ⟨r0, r1, r2, r3⟩, r9, r10⟩
  by_cases zi : i = b
  ·have e2 : ((i : Int) = b) := by omega
   repeat (first | apply Z1 | apply Z2 | apply Z3 | apply Z4 | apply Z5 rfl | apply Z6 | apply Z7 | apply Z8 | apply Z9 | apply ZA | apply ZB | apply ZC | ((first | apply ZD (by decide) | apply ZN (by decide)); (simp (maxSteps := 9999999) only [go_sem, r0, r1, r2, r3, r9, r10, e2]; rfl)) | (refine ZE ?_ ?_; · simp only [go_sem]) | (refine ZF ?_ ?_; · simp only [go_sem]))
   exact end_nil ⟨rfl, rfl, f, S, W, .inr ⟨rfl, .inl ⟨by simp only [go_sem], by rw [zi] at O; exact O⟩⟩⟩
  ·have e2 : ¬ ((i : Int) = b) := by omega
   have w1 : IntKind.i64.wrap ((b : Int) - (a : Int)) = ((b - a : Nat) : Int) := by rw [wrap64 (by omega) (by omega)]; omega
   by_cases z50 : b - a < 50
   ·have e3 : ((b - a : Nat) : Int) < 50 := by omega
    repeat (first | apply Z1 | apply Z2 | apply Z3 | apply Z4 | apply Z5 rfl | apply Z6 | apply Z7 | apply Z8 | apply Z9 | apply ZA | apply ZB | apply ZC | ((first | apply ZD (by decide) | apply ZN (by decide)); (simp (maxSteps := 9999999) only [go_sem, r0, r1, r2, r3, r9, r10, e2, w1, e3]; rfl)) | (refine ZE ?_ ?_; · simp only [go_sem]) | (refine ZF ?_ ?_; · simp only [go_sem]))
    exact end_nil ⟨rfl, rfl, f, S, W, .inr ⟨rfl, .inr (by simp only [go_sem])⟩⟩
   ·have e3 : ¬ ((b - a : Nat) : Int) < 50 := by omega
    have p1 : (0 : Int) ≤ (i : Int) := by omega
    have p2 : (i : Int) < n := by omega
    have p3 : (0 : Int) ≤ ((i - 1 : Nat) : Int) := by omega
    have p4 : ((i - 1 : Nat) : Int) < n := by omega
    have w2 : IntKind.i64.wrap ((i : Int) - 1) = ((i - 1 : Nat) : Int) := by rw [wrap64 (by omega) (by omega)]; omega
    have w3 : IntKind.i64.wrap ((i : Int) - (a : Int)) = ((i - a : Nat) : Int) := by rw [wrap64 (by omega) (by omega)]; omega
    have w4 : IntKind.i64.wrap ((b : Int) - (i : Int)) = ((b - i : Nat) : Int) := by rw [wrap64 (by omega) (by omega)]; omega
    have w5 : IntKind.i64.wrap ((i : Int) + 1) = ((i + 1 : Nat) : Int) := by rw [wrap64 (by omega) (by omega)]; rfl
    have l1 := S.load hl (show i < n by omega)
    have l2 := S.load hl (show i - 1 < n by omega)
    obtain ⟨h2, h3, st1, st2, S2⟩ := S.swap hl hc (by decide) (show i < n by omega) (show i - 1 < n by omega)
    have W2 : Sw a b f0 (swp f i (i - 1)) := W.step (by omega) (by omega) (by omega) (by omega)
    have O2 : Ord c a (i - 1) (swp f i (i - 1)) := (O.mono (Nat.le_refl _) (by omega)).congr (fun q q1 q2 => swp_o f (by omega) (by omega))
    have hpre2 : 0 < a → ∀ j, a ≤ j → j < i → ¬ c (swp f i (i - 1) j) (swp f i (i - 1) (a - 1)) < 0 := fun h0 j j1 j2 => by
     have := W2.all (P := fun x => ¬ c x (f0 (a - 1)) < 0) (hpre h0) j j1 (by omega)
     rwa [W2.out (i := a - 1) (by omega)]
    generalize swp f i (i - 1) = f2 at *
    by_cases z2 : 2 ≤ i - a
    ·have e4 : (2 : Int) ≤ ((i - a : Nat) : Int) := by omega
     repeat (first | apply Z1 | apply Z2 | apply Z3 | apply Z4 | apply Z5 rfl | apply Z6 | apply Z7 | apply Z8 | apply Z9 | apply ZA | apply ZB | apply ZC | ((first | apply ZD (by decide) | apply ZN (by decide)); (simp (maxSteps := 9999999) only [go_sem, r0, r1, r2, r3, r9, r10, e2, w1, e3, p1, p2, p3, p4, w2, l1, l2, hl, ↓st1, ↓st2, w3, e4]; rfl)) | (refine ZE ?_ ?_; · simp only [go_sem]) | (refine ZF ?_ ?_; · simp only [go_sem]))
     refine run_loop (pinB_loopF (cap := cap) C hl hc hn (a := a) (i := i) hb (by omega) (by omega) cx f2 hpre2 t (i - 1) _ _ _ _ ⟨i - 1, f2, rfl, by omega, by omega, S2, .refl, InsI.start O2, ⟨by simp only [go_sem, r0], by simp only [go_sem, r1], by simp only [go_sem, r2], by simp only [go_sem, r3]⟩, by simp only [go_sem, r9], by simp only [go_sem, r10], by simp only [go_sem, w2], rfl, rfl⟩) ?_
     rintro ex ρ3 ms3 h4 d3 ⟨rfl, rfl, rfl, f3, S3, W3, O3, ⟨r0, r1, r2, r3⟩, r9, r10⟩
     have W3' : Sw a b f0 f3 := W2.trans (W3.mono (by omega) (by omega))
     by_cases z3 : 2 ≤ b - i
     ·have e5 : (2 : Int) ≤ ((b - i : Nat) : Int) := by omega
      repeat (first | apply Z1 | apply Z2 | apply Z3 | apply Z4 | apply Z5 rfl | apply Z6 | apply Z7 | apply Z8 | apply Z9 | apply ZA | apply ZB | apply ZC | ((first | apply ZD (by decide) | apply ZN (by decide)); (simp (maxSteps := 9999999) only [go_sem, r0, r1, r2, r3, r9, r10, w4, e5, w5]; rfl)) | (refine ZE ?_ ?_; · simp only [go_sem]) | (refine ZF ?_ ?_; · simp only [go_sem]))
      refine run_loop (pinC_loopF (cap := cap) C hl hc hn (a := a) (i := i) hb (by omega) cx f3 t (b - (i + 1)) _ _ _ _ ⟨i + 1, f3, rfl, by omega, by omega, S3, .refl, ⟨by simp only [go_sem, r0], by simp only [go_sem, r1], by simp only [go_sem, r2], by simp only [go_sem, r3]⟩, by simp only [go_sem, r9], by simp only [go_sem, r10], by simp only [go_sem, w5], rfl, rfl⟩) ?_
      rintro ex ρ4 ms4 h5 d4 ⟨rfl, rfl, rfl, f4, S4, W4, ⟨r0, r1, r2, r3⟩, r9, r10⟩
      repeat (first | apply Z1 | apply Z2 | apply Z3 | apply Z4 | apply Z5 rfl | apply Z6 | apply Z7 | apply Z8 | apply Z9 | apply ZA | apply ZB | apply ZC | ((first | apply ZD (by decide) | apply ZN (by decide)); (simp (maxSteps := 9999999) only [go_sem, r0, r1, r2, r3, r9, r10, ew]; rfl)) | (refine ZE ?_ ?_; · simp only [go_sem]) | (refine ZF ?_ ?_; · simp only [go_sem]))
      exact end_nil ⟨k - 1, by omega, t + 1, i, f4, by omega, hai, hib, S4, W3'.trans (W4.mono (by omega) (by omega)), O3.congr (fun q q1 q2 => W4.out (by omega)), ⟨by simp only [go_sem, r0], by simp only [go_sem, r1], by simp only [go_sem, r2], by simp only [go_sem, r3]⟩, by simp only [go_sem, r9], by simp only [go_sem, ew], rfl, rfl⟩
     ·have e5 : ¬ (2 : Int) ≤ ((b - i : Nat) : Int) := by omega
      repeat (first | apply Z1 | apply Z2 | apply Z3 | apply Z4 | apply Z5 rfl | apply Z6 | apply Z7 | apply Z8 | apply Z9 | apply ZA | apply ZB | apply ZC | ((first | apply ZD (by decide) | apply ZN (by decide)); (simp (maxSteps := 9999999) only [go_sem, r0, r1, r2, r3, r9, r10, w4, e5, w5, ew]; rfl)) | (refine ZE ?_ ?_; · simp only [go_sem]) | (refine ZF ?_ ?_; · simp only [go_sem]))
      exact end_nil ⟨k - 1, by omega, t + 1, i, f3, by omega, hai, hib, S3, W3', O3, ⟨by simp only [go_sem, r0], by simp only [go_sem, r1], by simp only [go_sem, r2], by simp only [go_sem, r3]⟩, by simp only [go_sem, r9], by simp only [go_sem, ew], rfl, rfl⟩
    ·have e4 : ¬ (2 : Int) ≤ ((i - a : Nat) : Int) := by omega
     have O3 : Ord c a i f2 := Ord.nil c (by omega) _
     by_cases z3 : 2 ≤ b - i
     ·have e5 : (2 : Int) ≤ ((b - i : Nat) : Int) := by omega
      repeat (first | apply Z1 | apply Z2 | apply Z3 | apply Z4 | apply Z5 rfl | apply Z6 | apply Z7 | apply Z8 | apply Z9 | apply ZA | apply ZB | apply ZC | ((first | apply ZD (by decide) | apply ZN (by decide)); (simp (maxSteps := 9999999) only [go_sem, r0, r1, r2, r3, r9, r10, e2, w1, e3, p1, p2, p3, p4, w2, l1, l2, hl, ↓st1, ↓st2, w3, e4, w4, e5, w5]; rfl)) | (refine ZE ?_ ?_; · simp only [go_sem]) | (refine ZF ?_ ?_; · simp only [go_sem]))
      refine run_loop (pinC_loopF (cap := cap) C hl hc hn (a := a) (i := i) hb (by omega) cx f2 t (b - (i + 1)) _ _ _ _ ⟨i + 1, f2, rfl, by omega, by omega, S2, .refl, ⟨by simp only [go_sem, r0], by simp only [go_sem, r1], by simp only [go_sem, r2], by simp only [go_sem, r3]⟩, by simp only [go_sem, r9], by simp only [go_sem, r10], by simp only [go_sem, w5], rfl, rfl⟩) ?_
      rintro ex ρ4 ms4 h5 d4 ⟨rfl, rfl, rfl, f4, S4, W4, ⟨r0, r1, r2, r3⟩, r9, r10⟩
      repeat (first | apply Z1 | apply Z2 | apply Z3 | apply Z4 | apply Z5 rfl | apply Z6 | apply Z7 | apply Z8 | apply Z9 | apply ZA | apply ZB | apply ZC | ((first | apply ZD (by decide) | apply ZN (by decide)); (simp (maxSteps := 9999999) only [go_sem, r0, r1, r2, r3, r9, r10, ew]; rfl)) | (refine ZE ?_ ?_; · simp only [go_sem]) | (refine ZF ?_ ?_; · simp only [go_sem]))
      exact end_nil ⟨k - 1, by omega, t + 1, i, f4, by omega, hai, hib, S4, W2.trans (W4.mono (by omega) (by omega)), O3.congr (fun q q1 q2 => W4.out (by omega)), ⟨by simp only [go_sem, r0], by simp only [go_sem, r1], by simp only [go_sem, r2], by simp only [go_sem, r3]⟩, by simp only [go_sem, r9], by simp only [go_sem, ew], rfl, rfl⟩
     ·have e5 : ¬ (2 : Int) ≤ ((b - i : Nat) : Int) := by omega
      repeat (first | apply Z1 | apply Z2 | apply Z3 | apply Z4 | apply Z5 rfl | apply Z6 | apply Z7 | apply Z8 | apply Z9 | apply ZA | apply ZB | apply ZC | ((first | apply ZD (by decide) | apply ZN (by decide)); (simp (maxSteps := 9999999) only [go_sem, r0, r1, r2, r3, r9, r10, e2, w1, e3, p1, p2, p3, p4, w2, l1, l2, hl, ↓st1, ↓st2, w3, e4, w4, e5, w5, ew]; rfl)) | (refine ZE ?_ ?_; · simp only [go_sem]) | (refine ZF ?_ ?_; · simp only [go_sem]))
      exact end_nil ⟨k - 1, by omega, t + 1, i, f2, by omega, hai, hib, S2, W2, O3, ⟨by simp only [go_sem, r0], by simp only [go_sem, r1], by simp only [go_sem, r2], by simp only [go_sem, r3]⟩, by simp only [go_sem, r9], by simp only [go_sem, ew], rfl, rfl⟩
 ·have e1 : ¬ (t : Int) < 5 := by omega
  repeat (first | apply Z1 | apply Z2 | apply Z3 | apply Z4 | apply Z5 rfl | apply Z6 | apply Z7 | apply Z8 | apply Z9 | apply ZA | apply ZB | apply ZC | ((first | apply ZD (by decide) | apply ZN (by decide)); (simp (maxSteps := 9999999) only [go_sem, r10, e1]; rfl)) | (refine ZE ?_ ?_; · simp only [go_sem]) | (refine ZF ?_ ?_; · simp only [go_sem]))
  exact end_nil ⟨rfl, rfl, f, S, W, .inl rfl⟩
theorem pinF (C : Cmp M g cel c) (hl : ∀ x, (cel x).length = 3) (hc : ∀ x, (cel x).all sc = true) (hn : n ≤ 1000000) {a b : Nat} (hab : a < b) (hb : b ≤ n) {h : SHeap} {f : Nat → E} (S : SA cel n B el h0 old0 h f) (hpre : 0 < a → ∀ j, a ≤ j → j < b → ¬ c (f j) (f (a - 1)) < 0) :
  ∃ h' f' r, M.call 106 [.slice (some ⟨B, 0, none⟩) n cap, .int .i64 a, .int .i64 b, .func (.func g) #[] #[]] h = some (.bool r, h', []) ∧ SA cel n B el h0 old0 h' f' ∧ Sw a b f f' ∧ (r = true → Ord c a b f') := by
 have key : ∃ r, (∃ h' f' q, r = (Value.bool q, h', ([] : List Nat)) ∧ SA cel n B el h0 old0 h' f' ∧ Sw a b f f' ∧ (q = true → Ord c a b f')) ∧ M.call 106 [.slice (some ⟨B, 0, none⟩) n cap, .int .i64 a, .int .i64 b, .func (.func g) #[] #[]] h = some r := by
  refine call_ex (f := 106) _ sf106 rfl rfl rfl ?_
  unfold sf106
  have ew : IntKind.i64.wrap ((a : Int) + 1) = ((a + 1 : Nat) : Int) := by rw [wrap64 (by omega) (by omega)]; rfl
  repeat (first | apply Z1 | apply Z2 | apply Z3 | apply Z4 | apply Z5 rfl | apply Z6 | apply Z7 | apply Z8 | apply Z9 | apply ZA | apply ZB | apply ZC | ((first | apply ZD (by decide) | apply ZN (by decide)); (simp (maxSteps := 9999999) only [go_sem, argR, ew]; rfl)) | (refine ZE ?_ ?_; · simp only [go_sem]) | (refine ZF ?_ ?_; · simp only [go_sem]))
  refine run_loop (pinO_loopF (cap := cap) (el := el) (h0 := h0) (old0 := old0) C hl hc hn (a := a) (b := b) hb _ f hpre 5 _ _ _ _ ⟨0, a + 1, f, rfl, by omega, by omega, S, .refl, Ord.nil c (by omega) f, ⟨by simp only [go_sem, argR], by simp only [go_sem, argR], by simp only [go_sem, argR], by simp only [go_sem, argR]⟩, by simp only [go_sem, ew], by (simp only [go_sem]) <;> rfl, rfl, rfl⟩) ?_
  rintro ex ρ' ms' h1 d1 ⟨rfl, rfl, f2, S2, W2, rfl | ⟨rfl, ⟨k8, O⟩ | k8⟩⟩
  ·repeat (first | apply Z1 | apply Z2 | apply Z3 | apply Z4 | apply Z5 rfl | apply Z6 | apply Z7 | apply Z8 | apply Z9 | apply ZA | apply ZB | apply ZC | ((first | apply ZD (by decide) | apply ZN (by decide)); (simp (maxSteps := 9999999) only [go_sem]; rfl)) | (refine ZE ?_ ?_; · simp only [go_sem]) | (refine ZF ?_ ?_; · simp only [go_sem]))
   exact end_nil ⟨_, ⟨h1, f2, false, rfl, S2, W2, fun h => by cases h⟩, q_free [.bool false] (by simp only [go_sem]) rfl rfl rfl (fun _ => rfl) (by rw [List.take_of_length_le]; rw [S2.len, S.len]; exact Nat.le_refl _) rfl⟩
  ·repeat (first | apply Z1 | apply Z2 | apply Z3 | apply Z4 | apply Z5 rfl | apply Z6 | apply Z7 | apply Z8 | apply Z9 | apply ZA | apply ZB | apply ZC | ((first | apply ZD (by decide) | apply ZN (by decide)); (simp (maxSteps := 9999999) only [go_sem]; rfl)) | (refine ZE ?_ ?_; · simp only [go_sem]) | (refine ZF ?_ ?_; · simp only [go_sem]))
   exact end_nil ⟨_, ⟨h1, f2, true, rfl, S2, W2, fun _ => O⟩, q_free [.bool true] (by simp only [go_sem, k8]) rfl rfl rfl (fun _ => rfl) (by rw [List.take_of_length_le]; rw [S2.len, S.len]; exact Nat.le_refl _) rfl⟩
  ·repeat (first | apply Z1 | apply Z2 | apply Z3 | apply Z4 | apply Z5 rfl | apply Z6 | apply Z7 | apply Z8 | apply Z9 | apply ZA | apply ZB | apply ZC | ((first | apply ZD (by decide) | apply ZN (by decide)); (simp (maxSteps := 9999999) only [go_sem]; rfl)) | (refine ZE ?_ ?_; · simp only [go_sem]) | (refine ZF ?_ ?_; · simp only [go_sem]))
   exact end_nil ⟨_, ⟨h1, f2, false, rfl, S2, W2, fun h => by cases h⟩, q_free [.bool false] (by simp only [go_sem, k8]) rfl rfl rfl (fun _ => rfl) (by rw [List.take_of_length_le]; rw [S2.len, S.len]; exact Nat.le_refl _) rfl⟩
 obtain ⟨r, ⟨h', f', q, rfl, k⟩, e⟩ := key
 exact ⟨h', f', q, e, k⟩
end
end
end Go.Proofs.YtdmfhdnpakgkpaaDoor.Sh
namespace Go.Proofs.YtdmfhdnpakgkpaaDoor.Sh
section
open Go
set_option maxRecDepth 100000
set_option maxHeartbeats 4000000
section
variable {E : Type} {cel : E → List Value} {c : E → E → Int} {g : FuncId} {n B cap : Nat} {el : TypeId} {h0 : SHeap} {old0 : List Nat}
def KRF (n B cap : Nat) (g : FuncId) (a : Nat) (ρ : Reg) : Prop := ρ 0 = .slice (some ⟨B, 0, none⟩) n cap ∧ ρ 1 = .int .i64 a ∧ ρ 4 = .func (.func g) #[] #[]
theorem peqU_loopF (C : Cmp M g cel c) (hl : ∀ x, (cel x).length = 3) (hn : n ≤ 1000000) {a b j : Nat} (hb : b ≤ n) (hj : j < b) (haj : a ≤ j) (i0 : Nat) (cx : Cx) {h : SHeap} {f : Nat → E} (S : SA cel n B el h0 old0 h f) : ∀ k ρ ms h' d', (∃ i : Nat, j + 1 - i = k ∧ i0 ≤ i ∧ a < i ∧ i ≤ j + 1 ∧ (∀ q, a < q → q < i → ¬ c (f a) (f q) < 0) ∧ KRF n B cap g a ρ ∧ ρ 11 = .int .i64 i ∧ ρ 12 = .int .i64 j ∧ ms = [] ∧ h' = h ∧ d' = []) →
  LoopW M cx 7 sf107L1 ρ ms h' d' (fun ex ρ' ms' h' d' => ex = .exit 2 ∧ ms' = [] ∧ h' = h ∧ d' = [] ∧ ∃ i : Nat, i0 ≤ i ∧ a < i ∧ i ≤ j + 1 ∧ (∀ q, a < q → q < i → ¬ c (f a) (f q) < 0) ∧ (i ≤ j → ¬ ¬ c (f a) (f i) < 0) ∧ KRF n B cap g a ρ' ∧ ρ' 11 = .int .i64 i ∧ ρ' 12 = .int .i64 j) := by
 refine loop_run _ ?_
 rintro k ρ ms h' d' ⟨i, hk, h0i, hai, hij, hP, ⟨r0, r1, r4⟩, ri, rj, rfl, rfl, rfl⟩
 unfold sf107L1
 by_cases z : i ≤ j
 ·have e1 : (i : Int) ≤ j := by omega
  have p1 : (0 : Int) ≤ (i : Int) := by omega
  have p2 : (i : Int) < n := by omega
  have p3 : (0 : Int) ≤ (a : Int) := by omega
  have p4 : (a : Int) < n := by omega
  have w1 : IntKind.i64.wrap ((i : Int) + 1) = ((i + 1 : Nat) : Int) := by rw [wrap64 (by omega) (by omega)]; rfl
  have l1 := S.load hl (show i < n by omega)
  have l2 := S.load hl (show a < n by omega)
  have cc := fun h => C.call (f a) (f i) h
  by_cases hlt : ¬ c (f a) (f i) < 0
  ·repeat (first | apply Z1 | apply Z2 | apply Z3 | apply Z4 | apply Z5 rfl | apply Z6 | apply Z7 | apply Z8 | apply Z9 | apply ZA | apply ZB | apply ZC | ((first | apply ZD (by decide) | apply ZN (by decide)); (simp (maxSteps := 9999999) only [go_sem, r0, r1, r4, ri, rj, e1, p1, p2, p3, p4, w1, l1, l2, cc, hlt]; rfl)) | (refine ZE ?_ ?_; · simp only [go_sem]) | (refine ZF ?_ ?_; · simp only [go_sem]))
   refine end_nil ⟨j + 1 - (i + 1), by omega, i + 1, rfl, by omega, by omega, by omega, fun q q1 q2 => ?_, ⟨by simp only [go_sem, r0], by simp only [go_sem, r1], by simp only [go_sem, r4]⟩, by simp only [go_sem, w1], by simp only [go_sem, rj], rfl, rfl, rfl⟩
   by_cases e : q = i
   ·subst e; exact hlt
   ·exact hP q q1 (by omega)
  ·have hlt2 := Classical.not_not.1 hlt
   repeat (first | apply Z1 | apply Z2 | apply Z3 | apply Z4 | apply Z5 rfl | apply Z6 | apply Z7 | apply Z8 | apply Z9 | apply ZA | apply ZB | apply ZC | ((first | apply ZD (by decide) | apply ZN (by decide)); (simp (maxSteps := 9999999) only [go_sem, r0, r1, r4, ri, rj, e1, p1, p2, p3, p4, l1, l2, cc, hlt2]; rfl)) | (refine ZE ?_ ?_; · simp only [go_sem]) | (refine ZF ?_ ?_; · simp only [go_sem]))
   exact end_nil ⟨rfl, rfl, rfl, rfl, i, h0i, hai, hij, hP, fun _ => hlt, ⟨by simp only [go_sem, r0], by simp only [go_sem, r1], by simp only [go_sem, r4]⟩, by simp only [go_sem, ri], by simp only [go_sem, rj]⟩
 ·have e1 : ¬ (i : Int) ≤ j := by omega
  repeat (first | apply Z1 | apply Z2 | apply Z3 | apply Z4 | apply Z5 rfl | apply Z6 | apply Z7 | apply Z8 | apply Z9 | apply ZA | apply ZB | apply ZC | ((first | apply ZD (by decide) | apply ZN (by decide)); (simp (maxSteps := 9999999) only [go_sem, r0, r1, r4, ri, rj, e1]; rfl)) | (refine ZE ?_ ?_; · simp only [go_sem]) | (refine ZF ?_ ?_; · simp only [go_sem]))
  exact end_nil ⟨rfl, rfl, rfl, rfl, i, h0i, hai, hij, hP, fun h => (z h).elim, ⟨by simp only [go_sem, r0], by simp only [go_sem, r1], by simp only [go_sem, r4]⟩, by simp only [go_sem, ri], by simp only [go_sem, rj]⟩
theorem peqD_loopF (C : Cmp M g cel c) (hl : ∀ x, (cel x).length = 3) (hn : n ≤ 1000000) {a b i : Nat} (hb : b ≤ n) (hai : a < i) (j0 : Nat) (cx : Cx) {h : SHeap} {f : Nat → E} (S : SA cel n B el h0 old0 h f) : ∀ k ρ ms h' d', (∃ j : Nat, j + 1 - i = k ∧ j ≤ j0 ∧ j < b ∧ i ≤ j + 1 ∧ (∀ q, j < q → q < b → c (f a) (f q) < 0) ∧ KRF n B cap g a ρ ∧ ρ 11 = .int .i64 i ∧ ρ 12 = .int .i64 j ∧ ms = [] ∧ h' = h ∧ d' = []) →
  LoopW M cx 7 sf107L0 ρ ms h' d' (fun ex ρ' ms' h' d' => ex = .exit 4 ∧ ms' = [] ∧ h' = h ∧ d' = [] ∧ ∃ j : Nat, j ≤ j0 ∧ j < b ∧ i ≤ j + 1 ∧ (∀ q, j < q → q < b → c (f a) (f q) < 0) ∧ (i ≤ j → ¬ c (f a) (f j) < 0) ∧ KRF n B cap g a ρ' ∧ ρ' 11 = .int .i64 i ∧ ρ' 12 = .int .i64 j) := by
 refine loop_run _ ?_
 rintro k ρ ms h' d' ⟨j, hk, h0j, hjb, hij, hR, ⟨r0, r1, r4⟩, ri, rj, rfl, rfl, rfl⟩
 unfold sf107L0
 by_cases z : i ≤ j
 ·have e1 : (i : Int) ≤ j := by omega
  have p1 : (0 : Int) ≤ (j : Int) := by omega
  have p2 : (j : Int) < n := by omega
  have p3 : (0 : Int) ≤ (a : Int) := by omega
  have p4 : (a : Int) < n := by omega
  have w1 : IntKind.i64.wrap ((j : Int) - 1) = ((j - 1 : Nat) : Int) := by rw [wrap64 (by omega) (by omega)]; omega
  have l1 := S.load hl (show j < n by omega)
  have l2 := S.load hl (show a < n by omega)
  have cc := fun h => C.call (f a) (f j) h
  by_cases hlt : c (f a) (f j) < 0
  ·repeat (first | apply Z1 | apply Z2 | apply Z3 | apply Z4 | apply Z5 rfl | apply Z6 | apply Z7 | apply Z8 | apply Z9 | apply ZA | apply ZB | apply ZC | ((first | apply ZD (by decide) | apply ZN (by decide)); (simp (maxSteps := 9999999) only [go_sem, r0, r1, r4, ri, rj, e1, p1, p2, p3, p4, w1, l1, l2, cc, hlt]; rfl)) | (refine ZE ?_ ?_; · simp only [go_sem]) | (refine ZF ?_ ?_; · simp only [go_sem]))
   refine end_nil ⟨j - 1 + 1 - i, by omega, j - 1, rfl, by omega, by omega, by omega, fun q q1 q2 => ?_, ⟨by simp only [go_sem, r0], by simp only [go_sem, r1], by simp only [go_sem, r4]⟩, by simp only [go_sem, ri], by simp only [go_sem, w1], rfl, rfl, rfl⟩
   by_cases e : q = j
   ·subst e; exact hlt
   ·exact hR q (by omega) q2
  ·have hlt2 := hlt
   repeat (first | apply Z1 | apply Z2 | apply Z3 | apply Z4 | apply Z5 rfl | apply Z6 | apply Z7 | apply Z8 | apply Z9 | apply ZA | apply ZB | apply ZC | ((first | apply ZD (by decide) | apply ZN (by decide)); (simp (maxSteps := 9999999) only [go_sem, r0, r1, r4, ri, rj, e1, p1, p2, p3, p4, l1, l2, cc, hlt2]; rfl)) | (refine ZE ?_ ?_; · simp only [go_sem]) | (refine ZF ?_ ?_; · simp only [go_sem]))
   exact end_nil ⟨rfl, rfl, rfl, rfl, j, h0j, hjb, hij, hR, fun _ => hlt, ⟨by simp only [go_sem, r0], by simp only [go_sem, r1], by simp only [go_sem, r4]⟩, by simp only [go_sem, ri], by simp only [go_sem, rj]⟩
 ·have e1 : ¬ (i : Int) ≤ j := by omega
  repeat (first | apply Z1 | apply Z2 | apply Z3 | apply Z4 | apply Z5 rfl | apply Z6 | apply Z7 | apply Z8 | apply Z9 | apply ZA | apply ZB | apply ZC | ((first | apply ZD (by decide) | apply ZN (by decide)); (simp (maxSteps := 9999999) only [go_sem, r0, r1, r4, ri, rj, e1]; rfl)) | (refine ZE ?_ ?_; · simp only [go_sem]) | (refine ZF ?_ ?_; · simp only [go_sem]))
  exact end_nil ⟨rfl, rfl, rfl, rfl, j, h0j, hjb, hij, hR, fun h => (z h).elim, ⟨by simp only [go_sem, r0], by simp only [go_sem, r1], by simp only [go_sem, r4]⟩, by simp only [go_sem, ri], by simp only [go_sem, rj]⟩
theorem peqO_loopF (C : Cmp M g cel c) (hl : ∀ x, (cel x).length = 3) (hc : ∀ x, (cel x).all sc = true) (hn : n ≤ 1000000) {a b : Nat} (hb : b ≤ n) (cx : Cx) (f0 : Nat → E) : ∀ k ρ ms h' d', (∃ (i j : Nat) (f : Nat → E), j + 1 - i = k ∧ a < i ∧ i ≤ j + 1 ∧ j < b ∧ SA cel n B el h0 old0 h' f ∧ Sw (a + 1) b f0 f ∧ (∀ q, a < q → q < i → ¬ c (f a) (f q) < 0) ∧ (∀ q, j < q → q < b → c (f a) (f q) < 0) ∧ KRF n B cap g a ρ ∧ ρ 11 = .int .i64 i ∧ ρ 12 = .int .i64 j ∧ ms = [] ∧ d' = []) →
  LoopW M cx 7 sf107L2 ρ ms h' d' (fun ex ρ' ms' h' d' => ex = .exit 0 ∧ ms' = [] ∧ d' = [] ∧ ∃ (i : Nat) (f : Nat → E), a < i ∧ i ≤ b ∧ SA cel n B el h0 old0 h' f ∧ Sw (a + 1) b f0 f ∧ (∀ q, a < q → q < i → ¬ c (f a) (f q) < 0) ∧ (∀ q, i ≤ q → q < b → c (f a) (f q) < 0) ∧ ρ' 11 = .int .i64 i) := by
 refine loop_run _ ?_
 rintro k ρ ms h' d' ⟨i, j, f, hk, hai, hij, hjb, S, W, hP, hR, ⟨r0, r1, r4⟩, ri, rj, rfl, rfl⟩
 unfold sf107L2
 repeat (first | apply Z1 | apply Z2 | apply Z3 | apply Z4 | apply Z5 rfl | apply Z6 | apply Z7 | apply Z8 | apply Z9 | apply ZA | apply ZB | apply ZC | ((first | apply ZD (by decide) | apply ZN (by decide)); (simp (maxSteps := 9999999) only [go_sem]; rfl)) | (refine ZE ?_ ?_; · simp only [go_sem]) | (refine ZF ?_ ?_; · simp only [go_sem]))
 refine run_loop (peqU_loopF (cap := cap) C hl hn (a := a) hb hjb (by omega) i cx S (j + 1 - i) _ _ _ _ ⟨i, rfl, Nat.le_refl _, hai, hij, hP, ⟨by simp only [go_sem, r0], by simp only [go_sem, r1], by simp only [go_sem, r4]⟩, by simp only [go_sem, ri], by simp only [go_sem, rj], rfl, rfl, rfl⟩) ?_
 rintro ex ρ1 ms1 h1 d1 ⟨rfl, rfl, rfl, rfl, i2, h0i2, hai2, hij2, hP2, hstop1, ⟨r0, r1, r4⟩, ri, rj⟩
 repeat (first | apply Z1 | apply Z2 | apply Z3 | apply Z4 | apply Z5 rfl | apply Z6 | apply Z7 | apply Z8 | apply Z9 | apply ZA | apply ZB | apply ZC | ((first | apply ZD (by decide) | apply ZN (by decide)); (simp (maxSteps := 9999999) only [go_sem]; rfl)) | (refine ZE ?_ ?_; · simp only [go_sem]) | (refine ZF ?_ ?_; · simp only [go_sem]))
 refine run_loop (peqD_loopF (cap := cap) C hl hn (a := a) hb hai2 j cx S (j + 1 - i2) _ _ _ _ ⟨j, rfl, Nat.le_refl _, hjb, hij2, hR, ⟨by simp only [go_sem, r0], by simp only [go_sem, r1], by simp only [go_sem, r4]⟩, by simp only [go_sem, ri], by simp only [go_sem, rj], rfl, rfl, rfl⟩) ?_
 rintro ex ρ2 ms2 h2 d2 ⟨rfl, rfl, rfl, rfl, j2, h0j2, hjb2, hij3, hR2, hstop2, ⟨r0, r1, r4⟩, ri, rj⟩
 by_cases z : j2 < i2
 ·have e1 : (j2 : Int) < i2 := by omega
  repeat (first | apply Z1 | apply Z2 | apply Z3 | apply Z4 | apply Z5 rfl | apply Z6 | apply Z7 | apply Z8 | apply Z9 | apply ZA | apply ZB | apply ZC | ((first | apply ZD (by decide) | apply ZN (by decide)); (simp (maxSteps := 9999999) only [go_sem, r0, r1, r4, ri, rj, e1]; rfl)) | (refine ZE ?_ ?_; · simp only [go_sem]) | (refine ZF ?_ ?_; · simp only [go_sem]))
  exact end_nil ⟨rfl, rfl, rfl, i2, f, hai2, by omega, S, W, hP2, fun q q1 q2 => hR2 q (by omega) q2, by simp only [go_sem, ri]⟩
 ·have e1 : ¬ (j2 : Int) < i2 := by omega
  have n2 := hstop2 (by omega)
  have hlt : i2 < j2 := by
   by_cases e : i2 < j2
   ·exact e
   ·exfalso
    have e3 : i2 = j2 := by omega
    subst e3
    by_cases e4 : i2 ≤ j
    ·exact n2 (Classical.not_not.1 (hstop1 e4))
    ·exact n2 (hR i2 (by omega) hjb2)
  have m1 : c (f a) (f i2) < 0 := by
   by_cases e4 : i2 ≤ j
   ·exact Classical.not_not.1 (hstop1 e4)
   ·exact hR i2 (by omega) (by omega)
  have p1 : (0 : Int) ≤ (i2 : Int) := by omega
  have p2 : (i2 : Int) < n := by omega
  have p3 : (0 : Int) ≤ (j2 : Int) := by omega
  have p4 : (j2 : Int) < n := by omega
  have w1 : IntKind.i64.wrap ((i2 : Int) + 1) = ((i2 + 1 : Nat) : Int) := by rw [wrap64 (by omega) (by omega)]; rfl
  have w2 : IntKind.i64.wrap ((j2 : Int) - 1) = ((j2 - 1 : Nat) : Int) := by rw [wrap64 (by omega) (by omega)]; omega
  have l1 := S.load hl (show i2 < n by omega)
  have l2 := S.load hl (show j2 < n by omega)
  obtain ⟨h3, h4, st1, st2, S2⟩ := S.swap hl hc (by decide) (show i2 < n by omega) (show j2 < n by omega)
  repeat (first | apply Z1 | apply Z2 | apply Z3 | apply Z4 | apply Z5 rfl | apply Z6 | apply Z7 | apply Z8 | apply Z9 | apply ZA | apply ZB | apply ZC | ((first | apply ZD (by decide) | apply ZN (by decide)); (simp (maxSteps := 9999999) only [go_sem, r0, r1, r4, ri, rj, e1, p1, p2, p3, p4, l1, l2, hl, ↓st1, ↓st2, w1, w2]; rfl)) | (refine ZE ?_ ?_; · simp only [go_sem]) | (refine ZF ?_ ?_; · simp only [go_sem]))
  have ea : swp f i2 j2 a = f a := swp_o f (by omega) (by omega)
  refine end_nil ⟨j2 - 1 + 1 - (i2 + 1), by omega, i2 + 1, j2 - 1, _, rfl, by omega, by omega, by omega, S2, W.step (by omega) (by omega) (by omega) (by omega), fun q q1 q2 => ?_, fun q q1 q2 => ?_, ⟨by simp only [go_sem, r0], by simp only [go_sem, r1], by simp only [go_sem, r4]⟩, by simp only [go_sem, w1], by simp only [go_sem, w2], rfl, rfl⟩
  ·rw [ea]
   by_cases e : q = i2
   ·subst e; rw [swp_l]; exact n2
   ·rw [swp_o f e (by omega)]; exact hP2 q q1 (by omega)
  ·rw [ea]
   by_cases e : q = j2
   ·subst e; rw [swp_r]; exact m1
   ·rw [swp_o f (by omega) e]; exact hR2 q (by omega) q2
theorem peqF (C : Cmp M g cel c) (hl : ∀ x, (cel x).length = 3) (hc : ∀ x, (cel x).all sc = true) (hn : n ≤ 1000000) {a b p : Nat} (hap : a ≤ p) (hpb : p < b) (hb : b ≤ n) {h : SHeap} {f : Nat → E} (S : SA cel n B el h0 old0 h f) :
  ∃ h' f' m, M.call 107 [.slice (some ⟨B, 0, none⟩) n cap, .int .i64 a, .int .i64 b, .int .i64 ((p : Nat) : Int), .func (.func g) #[] #[]] h = some (.int .i64 ((m : Nat) : Int), h', []) ∧ SA cel n B el h0 old0 h' f' ∧ Sw a b f f' ∧ a < m ∧ m ≤ b ∧ f' a = f p ∧ (∀ q, a < q → q < m → ¬ c (f' a) (f' q) < 0) ∧ (∀ q, m ≤ q → q < b → c (f' a) (f' q) < 0) := by
 have key : ∃ r, (∃ h' f' m, r = (Value.int .i64 ((m : Nat) : Int), h', ([] : List Nat)) ∧ SA cel n B el h0 old0 h' f' ∧ Sw a b f f' ∧ a < m ∧ m ≤ b ∧ f' a = f p ∧ (∀ q, a < q → q < m → ¬ c (f' a) (f' q) < 0) ∧ (∀ q, m ≤ q → q < b → c (f' a) (f' q) < 0)) ∧ M.call 107 [.slice (some ⟨B, 0, none⟩) n cap, .int .i64 a, .int .i64 b, .int .i64 ((p : Nat) : Int), .func (.func g) #[] #[]] h = some r := by
  refine call_ex (f := 107) _ sf107 rfl rfl rfl ?_
  unfold sf107
  have p1 : (0 : Int) ≤ (a : Int) := by omega
  have p2 : (a : Int) < n := by omega
  have p3 : (0 : Int) ≤ (p : Int) := by omega
  have p4 : (p : Int) < n := by omega
  have w1 : IntKind.i64.wrap ((a : Int) + 1) = ((a + 1 : Nat) : Int) := by rw [wrap64 (by omega) (by omega)]; rfl
  have w2 : IntKind.i64.wrap ((b : Int) - 1) = ((b - 1 : Nat) : Int) := by rw [wrap64 (by omega) (by omega)]; omega
  have l1 := S.load hl (show a < n by omega)
  have l2 := S.load hl (show p < n by omega)
  obtain ⟨h3, h4, st1, st2, S2⟩ := S.swap hl hc (by decide) (show a < n by omega) (show p < n by omega)
  repeat (first | apply Z1 | apply Z2 | apply Z3 | apply Z4 | apply Z5 rfl | apply Z6 | apply Z7 | apply Z8 | apply Z9 | apply ZA | apply ZB | apply ZC | ((first | apply ZD (by decide) | apply ZN (by decide)); (simp (maxSteps := 9999999) only [go_sem, argR, p1, p2, p3, p4, l1, l2, hl, ↓st1, ↓st2, w1, w2]; rfl)) | (refine ZE ?_ ?_; · simp only [go_sem]) | (refine ZF ?_ ?_; · simp only [go_sem]))
  refine run_loop (peqO_loopF (cap := cap) (el := el) (h0 := h0) (old0 := old0) C hl hc hn (a := a) hb _ (swp f a p) (b - 1 + 1 - (a + 1)) _ _ _ _ ⟨a + 1, b - 1, _, rfl, by omega, by omega, by omega, S2, .refl, fun q q1 q2 => by omega, fun q q1 q2 => by omega, ⟨by simp only [go_sem, argR], by simp only [go_sem, argR], by simp only [go_sem, argR]⟩, by simp only [go_sem, w1], by simp only [go_sem, w2], rfl, rfl⟩) ?_
  rintro ex ρ' ms' h5 d1 ⟨rfl, rfl, rfl, m, f3, m1, m2, S3, W3, hP, hR, k11⟩
  repeat (first | apply Z1 | apply Z2 | apply Z3 | apply Z4 | apply Z5 rfl | apply Z6 | apply Z7 | apply Z8 | apply Z9 | apply ZA | apply ZB | apply ZC | ((first | apply ZD (by decide) | apply ZN (by decide)); (simp (maxSteps := 9999999) only [go_sem, k11]; rfl)) | (refine ZE ?_ ?_; · simp only [go_sem]) | (refine ZF ?_ ?_; · simp only [go_sem]))
  exact end_nil ⟨_, ⟨h5, f3, m, rfl, S3, (Sw.one f (by omega) (by omega) (by omega) (by omega)).trans (W3.mono (by omega) (by omega)), m1, m2, by rw [W3.out (by omega), swp_l], hP, hR⟩, q_free [.int .i64 m] (by simp only [go_sem]) rfl rfl rfl (fun _ => rfl) (by rw [List.take_of_length_le]; rw [S3.len, S.len]; exact Nat.le_refl _) rfl⟩
 obtain ⟨r, ⟨h', f', m, rfl, k⟩, e⟩ := key
 exact ⟨h', f', m, e, k⟩
theorem ptA_loopF (C : Cmp M g cel c) (hl : ∀ x, (cel x).length = 3) (hn : n ≤ 1000000) {a b j : Nat} (hb : b ≤ n) (hj : j < b) (haj : a ≤ j) (i0 : Nat) (cx : Cx) {h : SHeap} {f : Nat → E} (S : SA cel n B el h0 old0 h f) : ∀ k ρ ms h' d', (∃ i : Nat, j + 1 - i = k ∧ i0 ≤ i ∧ a < i ∧ i ≤ j + 1 ∧ (∀ q, a < q → q < i → c (f q) (f a) < 0) ∧ KRF n B cap g a ρ ∧ ρ 12 = .int .i64 i ∧ ρ 13 = .int .i64 j ∧ ms = [] ∧ h' = h ∧ d' = []) →
  LoopW M cx 8 sf108L4 ρ ms h' d' (fun ex ρ' ms' h' d' => ex = .exit 0 ∧ ms' = [] ∧ h' = h ∧ d' = [] ∧ ∃ i : Nat, i0 ≤ i ∧ a < i ∧ i ≤ j + 1 ∧ (∀ q, a < q → q < i → c (f q) (f a) < 0) ∧ (i ≤ j → ¬ c (f i) (f a) < 0) ∧ KRF n B cap g a ρ' ∧ ρ' 12 = .int .i64 i ∧ ρ' 13 = .int .i64 j) := by
 refine loop_run _ ?_
 rintro k ρ ms h' d' ⟨i, hk, h0i, hai, hij, hP, ⟨r0, r1, r4⟩, ri, rj, rfl, rfl, rfl⟩
 unfold sf108L4
 by_cases z : i ≤ j
 ·have e1 : (i : Int) ≤ j := by omega
  have p1 : (0 : Int) ≤ (i : Int) := by omega
  have p2 : (i : Int) < n := by omega
  have p3 : (0 : Int) ≤ (a : Int) := by omega
  have p4 : (a : Int) < n := by omega
  have w1 : IntKind.i64.wrap ((i : Int) + 1) = ((i + 1 : Nat) : Int) := by rw [wrap64 (by omega) (by omega)]; rfl
  have l1 := S.load hl (show i < n by omega)
  have l2 := S.load hl (show a < n by omega)
  have cc := fun h => C.call (f i) (f a) h
  by_cases hlt : c (f i) (f a) < 0
  ·repeat (first | apply Z1 | apply Z2 | apply Z3 | apply Z4 | apply Z5 rfl | apply Z6 | apply Z7 | apply Z8 | apply Z9 | apply ZA | apply ZB | apply ZC | ((first | apply ZD (by decide) | apply ZN (by decide)); (simp (maxSteps := 9999999) only [go_sem, r0, r1, r4, ri, rj, e1, p1, p2, p3, p4, w1, l1, l2, cc, hlt]; rfl)) | (refine ZE ?_ ?_; · simp only [go_sem]) | (refine ZF ?_ ?_; · simp only [go_sem]))
   refine end_nil ⟨j + 1 - (i + 1), by omega, i + 1, rfl, by omega, by omega, by omega, fun q q1 q2 => ?_, ⟨by simp only [go_sem, r0], by simp only [go_sem, r1], by simp only [go_sem, r4]⟩, by simp only [go_sem, w1], by simp only [go_sem, rj], rfl, rfl, rfl⟩
   by_cases e : q = i
   ·subst e; exact hlt
   ·exact hP q q1 (by omega)
  ·have hlt2 := hlt
   repeat (first | apply Z1 | apply Z2 | apply Z3 | apply Z4 | apply Z5 rfl | apply Z6 | apply Z7 | apply Z8 | apply Z9 | apply ZA | apply ZB | apply ZC | ((first | apply ZD (by decide) | apply ZN (by decide)); (simp (maxSteps := 9999999) only [go_sem, r0, r1, r4, ri, rj, e1, p1, p2, p3, p4, l1, l2, cc, hlt2]; rfl)) | (refine ZE ?_ ?_; · simp only [go_sem]) | (refine ZF ?_ ?_; · simp only [go_sem]))
   exact end_nil ⟨rfl, rfl, rfl, rfl, i, h0i, hai, hij, hP, fun _ => hlt, ⟨by simp only [go_sem, r0], by simp only [go_sem, r1], by simp only [go_sem, r4]⟩, by simp only [go_sem, ri], by simp only [go_sem, rj]⟩
 ·have e1 : ¬ (i : Int) ≤ j := by omega
  repeat (first | apply Z1 | apply Z2 | apply Z3 | apply Z4 | apply Z5 rfl | apply Z6 | apply Z7 | apply Z8 | apply Z9 | apply ZA | apply ZB | apply ZC | ((first | apply ZD (by decide) | apply ZN (by decide)); (simp (maxSteps := 9999999) only [go_sem, r0, r1, r4, ri, rj, e1]; rfl)) | (refine ZE ?_ ?_; · simp only [go_sem]) | (refine ZF ?_ ?_; · simp only [go_sem]))
  exact end_nil ⟨rfl, rfl, rfl, rfl, i, h0i, hai, hij, hP, fun h => (z h).elim, ⟨by simp only [go_sem, r0], by simp only [go_sem, r1], by simp only [go_sem, r4]⟩, by simp only [go_sem, ri], by simp only [go_sem, rj]⟩
theorem ptB_loopF (C : Cmp M g cel c) (hl : ∀ x, (cel x).length = 3) (hn : n ≤ 1000000) {a b i : Nat} (hb : b ≤ n) (hai : a < i) (j0 : Nat) (cx : Cx) {h : SHeap} {f : Nat → E} (S : SA cel n B el h0 old0 h f) : ∀ k ρ ms h' d', (∃ j : Nat, j + 1 - i = k ∧ j ≤ j0 ∧ j < b ∧ i ≤ j + 1 ∧ (∀ q, j < q → q < b → ¬ c (f q) (f a) < 0) ∧ KRF n B cap g a ρ ∧ ρ 12 = .int .i64 i ∧ ρ 13 = .int .i64 j ∧ ms = [] ∧ h' = h ∧ d' = []) →
  LoopW M cx 8 sf108L3 ρ ms h' d' (fun ex ρ' ms' h' d' => ex = .exit 2 ∧ ms' = [] ∧ h' = h ∧ d' = [] ∧ ∃ j : Nat, j ≤ j0 ∧ j < b ∧ i ≤ j + 1 ∧ (∀ q, j < q → q < b → ¬ c (f q) (f a) < 0) ∧ (i ≤ j → ¬ ¬ c (f j) (f a) < 0) ∧ KRF n B cap g a ρ' ∧ ρ' 12 = .int .i64 i ∧ ρ' 13 = .int .i64 j) := by
 refine loop_run _ ?_
 rintro k ρ ms h' d' ⟨j, hk, h0j, hjb, hij, hR, ⟨r0, r1, r4⟩, ri, rj, rfl, rfl, rfl⟩
 unfold sf108L3
 by_cases z : i ≤ j
 ·have e1 : (i : Int) ≤ j := by omega
  have p1 : (0 : Int) ≤ (j : Int) := by omega
  have p2 : (j : Int) < n := by omega
  have p3 : (0 : Int) ≤ (a : Int) := by omega
  have p4 : (a : Int) < n := by omega
  have w1 : IntKind.i64.wrap ((j : Int) - 1) = ((j - 1 : Nat) : Int) := by rw [wrap64 (by omega) (by omega)]; omega
  have l1 := S.load hl (show j < n by omega)
  have l2 := S.load hl (show a < n by omega)
  have cc := fun h => C.call (f j) (f a) h
  by_cases hlt : ¬ c (f j) (f a) < 0
  ·repeat (first | apply Z1 | apply Z2 | apply Z3 | apply Z4 | apply Z5 rfl | apply Z6 | apply Z7 | apply Z8 | apply Z9 | apply ZA | apply ZB | apply ZC | ((first | apply ZD (by decide) | apply ZN (by decide)); (simp (maxSteps := 9999999) only [go_sem, r0, r1, r4, ri, rj, e1, p1, p2, p3, p4, w1, l1, l2, cc, hlt]; rfl)) | (refine ZE ?_ ?_; · simp only [go_sem]) | (refine ZF ?_ ?_; · simp only [go_sem]))
   refine end_nil ⟨j - 1 + 1 - i, by omega, j - 1, rfl, by omega, by omega, by omega, fun q q1 q2 => ?_, ⟨by simp only [go_sem, r0], by simp only [go_sem, r1], by simp only [go_sem, r4]⟩, by simp only [go_sem, ri], by simp only [go_sem, w1], rfl, rfl, rfl⟩
   by_cases e : q = j
   ·subst e; exact hlt
   ·exact hR q (by omega) q2
  ·have hlt2 := Classical.not_not.1 hlt
   repeat (first | apply Z1 | apply Z2 | apply Z3 | apply Z4 | apply Z5 rfl | apply Z6 | apply Z7 | apply Z8 | apply Z9 | apply ZA | apply ZB | apply ZC | ((first | apply ZD (by decide) | apply ZN (by decide)); (simp (maxSteps := 9999999) only [go_sem, r0, r1, r4, ri, rj, e1, p1, p2, p3, p4, l1, l2, cc, hlt2]; rfl)) | (refine ZE ?_ ?_; · simp only [go_sem]) | (refine ZF ?_ ?_; · simp only [go_sem]))
   exact end_nil ⟨rfl, rfl, rfl, rfl, j, h0j, hjb, hij, hR, fun _ => hlt, ⟨by simp only [go_sem, r0], by simp only [go_sem, r1], by simp only [go_sem, r4]⟩, by simp only [go_sem, ri], by simp only [go_sem, rj]⟩
 ·have e1 : ¬ (i : Int) ≤ j := by omega
  repeat (first | apply Z1 | apply Z2 | apply Z3 | apply Z4 | apply Z5 rfl | apply Z6 | apply Z7 | apply Z8 | apply Z9 | apply ZA | apply ZB | apply ZC | ((first | apply ZD (by decide) | apply ZN (by decide)); (simp (maxSteps := 9999999) only [go_sem, r0, r1, r4, ri, rj, e1]; rfl)) | (refine ZE ?_ ?_; · simp only [go_sem]) | (refine ZF ?_ ?_; · simp only [go_sem]))
  exact end_nil ⟨rfl, rfl, rfl, rfl, j, h0j, hjb, hij, hR, fun h => (z h).elim, ⟨by simp only [go_sem, r0], by simp only [go_sem, r1], by simp only [go_sem, r4]⟩, by simp only [go_sem, ri], by simp only [go_sem, rj]⟩
theorem ptD_loopF (C : Cmp M g cel c) (hl : ∀ x, (cel x).length = 3) (hn : n ≤ 1000000) {a b j : Nat} (hb : b ≤ n) (hj : j < b) (haj : a ≤ j) (i0 : Nat) (cx : Cx) {h : SHeap} {f : Nat → E} (S : SA cel n B el h0 old0 h f) : ∀ k ρ ms h' d', (∃ i : Nat, j + 1 - i = k ∧ i0 ≤ i ∧ a < i ∧ i ≤ j + 1 ∧ (∀ q, a < q → q < i → c (f q) (f a) < 0) ∧ KRF n B cap g a ρ ∧ ρ 12 = .int .i64 i ∧ ρ 13 = .int .i64 j ∧ ms = [] ∧ h' = h ∧ d' = []) →
  LoopW M cx 8 sf108L1 ρ ms h' d' (fun ex ρ' ms' h' d' => ex = .exit 6 ∧ ms' = [] ∧ h' = h ∧ d' = [] ∧ ∃ i : Nat, i0 ≤ i ∧ a < i ∧ i ≤ j + 1 ∧ (∀ q, a < q → q < i → c (f q) (f a) < 0) ∧ (i ≤ j → ¬ c (f i) (f a) < 0) ∧ KRF n B cap g a ρ' ∧ ρ' 12 = .int .i64 i ∧ ρ' 13 = .int .i64 j) := by
 refine loop_run _ ?_
 rintro k ρ ms h' d' ⟨i, hk, h0i, hai, hij, hP, ⟨r0, r1, r4⟩, ri, rj, rfl, rfl, rfl⟩
 unfold sf108L1
 by_cases z : i ≤ j
 ·have e1 : (i : Int) ≤ j := by omega
  have p1 : (0 : Int) ≤ (i : Int) := by omega
  have p2 : (i : Int) < n := by omega
  have p3 : (0 : Int) ≤ (a : Int) := by omega
  have p4 : (a : Int) < n := by omega
  have w1 : IntKind.i64.wrap ((i : Int) + 1) = ((i + 1 : Nat) : Int) := by rw [wrap64 (by omega) (by omega)]; rfl
  have l1 := S.load hl (show i < n by omega)
  have l2 := S.load hl (show a < n by omega)
  have cc := fun h => C.call (f i) (f a) h
  by_cases hlt : c (f i) (f a) < 0
  ·repeat (first | apply Z1 | apply Z2 | apply Z3 | apply Z4 | apply Z5 rfl | apply Z6 | apply Z7 | apply Z8 | apply Z9 | apply ZA | apply ZB | apply ZC | ((first | apply ZD (by decide) | apply ZN (by decide)); (simp (maxSteps := 9999999) only [go_sem, r0, r1, r4, ri, rj, e1, p1, p2, p3, p4, w1, l1, l2, cc, hlt]; rfl)) | (refine ZE ?_ ?_; · simp only [go_sem]) | (refine ZF ?_ ?_; · simp only [go_sem]))
   refine end_nil ⟨j + 1 - (i + 1), by omega, i + 1, rfl, by omega, by omega, by omega, fun q q1 q2 => ?_, ⟨by simp only [go_sem, r0], by simp only [go_sem, r1], by simp only [go_sem, r4]⟩, by simp only [go_sem, w1], by simp only [go_sem, rj], rfl, rfl, rfl⟩
   by_cases e : q = i
   ·subst e; exact hlt
   ·exact hP q q1 (by omega)
  ·have hlt2 := hlt
   repeat (first | apply Z1 | apply Z2 | apply Z3 | apply Z4 | apply Z5 rfl | apply Z6 | apply Z7 | apply Z8 | apply Z9 | apply ZA | apply ZB | apply ZC | ((first | apply ZD (by decide) | apply ZN (by decide)); (simp (maxSteps := 9999999) only [go_sem, r0, r1, r4, ri, rj, e1, p1, p2, p3, p4, l1, l2, cc, hlt2]; rfl)) | (refine ZE ?_ ?_; · simp only [go_sem]) | (refine ZF ?_ ?_; · simp only [go_sem]))
   exact end_nil ⟨rfl, rfl, rfl, rfl, i, h0i, hai, hij, hP, fun _ => hlt, ⟨by simp only [go_sem, r0], by simp only [go_sem, r1], by simp only [go_sem, r4]⟩, by simp only [go_sem, ri], by simp only [go_sem, rj]⟩
 ·have e1 : ¬ (i : Int) ≤ j := by omega
  repeat (first | apply Z1 | apply Z2 | apply Z3 | apply Z4 | apply Z5 rfl | apply Z6 | apply Z7 | apply Z8 | apply Z9 | apply ZA | apply ZB | apply ZC | ((first | apply ZD (by decide) | apply ZN (by decide)); (simp (maxSteps := 9999999) only [go_sem, r0, r1, r4, ri, rj, e1]; rfl)) | (refine ZE ?_ ?_; · simp only [go_sem]) | (refine ZF ?_ ?_; · simp only [go_sem]))
  exact end_nil ⟨rfl, rfl, rfl, rfl, i, h0i, hai, hij, hP, fun h => (z h).elim, ⟨by simp only [go_sem, r0], by simp only [go_sem, r1], by simp only [go_sem, r4]⟩, by simp only [go_sem, ri], by simp only [go_sem, rj]⟩
theorem ptE_loopF (C : Cmp M g cel c) (hl : ∀ x, (cel x).length = 3) (hn : n ≤ 1000000) {a b i : Nat} (hb : b ≤ n) (hai : a < i) (j0 : Nat) (cx : Cx) {h : SHeap} {f : Nat → E} (S : SA cel n B el h0 old0 h f) : ∀ k ρ ms h' d', (∃ j : Nat, j + 1 - i = k ∧ j ≤ j0 ∧ j < b ∧ i ≤ j + 1 ∧ (∀ q, j < q → q < b → ¬ c (f q) (f a) < 0) ∧ KRF n B cap g a ρ ∧ ρ 12 = .int .i64 i ∧ ρ 13 = .int .i64 j ∧ ms = [] ∧ h' = h ∧ d' = []) →
  LoopW M cx 8 sf108L0 ρ ms h' d' (fun ex ρ' ms' h' d' => ex = .exit 8 ∧ ms' = [] ∧ h' = h ∧ d' = [] ∧ ∃ j : Nat, j ≤ j0 ∧ j < b ∧ i ≤ j + 1 ∧ (∀ q, j < q → q < b → ¬ c (f q) (f a) < 0) ∧ (i ≤ j → ¬ ¬ c (f j) (f a) < 0) ∧ KRF n B cap g a ρ' ∧ ρ' 12 = .int .i64 i ∧ ρ' 13 = .int .i64 j) := by
 refine loop_run _ ?_
 rintro k ρ ms h' d' ⟨j, hk, h0j, hjb, hij, hR, ⟨r0, r1, r4⟩, ri, rj, rfl, rfl, rfl⟩
 unfold sf108L0
 by_cases z : i ≤ j
 ·have e1 : (i : Int) ≤ j := by omega
  have p1 : (0 : Int) ≤ (j : Int) := by omega
  have p2 : (j : Int) < n := by omega
  have p3 : (0 : Int) ≤ (a : Int) := by omega
  have p4 : (a : Int) < n := by omega
  have w1 : IntKind.i64.wrap ((j : Int) - 1) = ((j - 1 : Nat) : Int) := by rw [wrap64 (by omega) (by omega)]; omega
  have l1 := S.load hl (show j < n by omega)
  have l2 := S.load hl (show a < n by omega)
  have cc := fun h => C.call (f j) (f a) h
  by_cases hlt : ¬ c (f j) (f a) < 0
  ·repeat (first | apply Z1 | apply Z2 | apply Z3 | apply Z4 | apply Z5 rfl | apply Z6 | apply Z7 | apply Z8 | apply Z9 | apply ZA | apply ZB | apply ZC | ((first | apply ZD (by decide) | apply ZN (by decide)); (simp (maxSteps := 9999999) only [go_sem, r0, r1, r4, ri, rj, e1, p1, p2, p3, p4, w1, l1, l2, cc, hlt]; rfl)) | (refine ZE ?_ ?_; · simp only [go_sem]) | (refine ZF ?_ ?_; · simp only [go_sem]))
   refine end_nil ⟨j - 1 + 1 - i, by omega, j - 1, rfl, by omega, by omega, by omega, fun q q1 q2 => ?_, ⟨by simp only [go_sem, r0], by simp only [go_sem, r1], by simp only [go_sem, r4]⟩, by simp only [go_sem, ri], by simp only [go_sem, w1], rfl, rfl, rfl⟩
   by_cases e : q = j
   ·subst e; exact hlt
   ·exact hR q (by omega) q2
  ·have hlt2 := Classical.not_not.1 hlt
   repeat (first | apply Z1 | apply Z2 | apply Z3 | apply Z4 | apply Z5 rfl | apply Z6 | apply Z7 | apply Z8 | apply Z9 | apply ZA | apply ZB | apply ZC | ((first | apply ZD (by decide) | apply ZN (by decide)); (simp (maxSteps := 9999999) only [go_sem, r0, r1, r4, ri, rj, e1, p1, p2, p3, p4, l1, l2, cc, hlt2]; rfl)) | (refine ZE ?_ ?_; · simp only [go_sem]) | (refine ZF ?_ ?_; · simp only [go_sem]))
   exact end_nil ⟨rfl, rfl, rfl, rfl, j, h0j, hjb, hij, hR, fun _ => hlt, ⟨by simp only [go_sem, r0], by simp only [go_sem, r1], by simp only [go_sem, r4]⟩, by simp only [go_sem, ri], by simp only [go_sem, rj]⟩
 ·have e1 : ¬ (i : Int) ≤ j := by omega
  repeat (first | apply Z1 | apply Z2 | apply Z3 | apply Z4 | apply Z5 rfl | apply Z6 | apply Z7 | apply Z8 | apply Z9 | apply ZA | apply ZB | apply ZC | ((first | apply ZD (by decide) | apply ZN (by decide)); (simp (maxSteps := 9999999) only [go_sem, r0, r1, r4, ri, rj, e1]; rfl)) | (refine ZE ?_ ?_; · simp only [go_sem]) | (refine ZF ?_ ?_; · simp only [go_sem]))
  exact end_nil ⟨rfl, rfl, rfl, rfl, j, h0j, hjb, hij, hR, fun h => (z h).elim, ⟨by simp only [go_sem, r0], by simp only [go_sem, r1], by simp only [go_sem, r4]⟩, by simp only [go_sem, ri], by simp only [go_sem, rj]⟩
theorem ptO_loopF (C : Cmp M g cel c) (hl : ∀ x, (cel x).length = 3) (hc : ∀ x, (cel x).all sc = true) (hn : n ≤ 1000000) {a b : Nat} (hb : b ≤ n) (cx : Cx) (f0 : Nat → E) : ∀ k ρ ms h' d', (∃ (i j : Nat) (f : Nat → E), j + 1 - i = k ∧ a < i ∧ i ≤ j + 1 ∧ j < b ∧ SA cel n B el h0 old0 h' f ∧ Sw (a + 1) b f0 f ∧ (∀ q, a < q → q < i → c (f q) (f a) < 0) ∧ (∀ q, j < q → q < b → ¬ c (f q) (f a) < 0) ∧ KRF n B cap g a ρ ∧ ρ 12 = .int .i64 i ∧ ρ 13 = .int .i64 j ∧ ms = [] ∧ d' = []) →
  LoopW M cx 8 sf108L2 ρ ms h' d' (fun ex ρ' ms' h' d' => ex = .exit 4 ∧ ms' = [] ∧ d' = [] ∧ ∃ (j : Nat) (f : Nat → E), a ≤ j ∧ j < b ∧ SA cel n B el h0 old0 h' f ∧ Sw (a + 1) b f0 f ∧ (∀ q, a < q → q ≤ j → c (f q) (f a) < 0) ∧ (∀ q, j < q → q < b → ¬ c (f q) (f a) < 0) ∧ KRF n B cap g a ρ' ∧ ρ' 13 = .int .i64 j) := by
 refine loop_run _ ?_
 rintro k ρ ms h' d' ⟨i, j, f, hk, hai, hij, hjb, S, W, hP, hR, ⟨r0, r1, r4⟩, ri, rj, rfl, rfl⟩
 unfold sf108L2
 repeat (first | apply Z1 | apply Z2 | apply Z3 | apply Z4 | apply Z5 rfl | apply Z6 | apply Z7 | apply Z8 | apply Z9 | apply ZA | apply ZB | apply ZC | ((first | apply ZD (by decide) | apply ZN (by decide)); (simp (maxSteps := 9999999) only [go_sem]; rfl)) | (refine ZE ?_ ?_; · simp only [go_sem]) | (refine ZF ?_ ?_; · simp only [go_sem]))
 refine run_loop (ptD_loopF (cap := cap) C hl hn (a := a) hb hjb (by omega) i cx S (j + 1 - i) _ _ _ _ ⟨i, rfl, Nat.le_refl _, hai, hij, hP, ⟨by simp only [go_sem, r0], by simp only [go_sem, r1], by simp only [go_sem, r4]⟩, by simp only [go_sem, ri], by simp only [go_sem, rj], rfl, rfl, rfl⟩) ?_
 rintro ex ρ1 ms1 h1 d1 ⟨rfl, rfl, rfl, rfl, i2, h0i2, hai2, hij2, hP2, hstop1, ⟨r0, r1, r4⟩, ri, rj⟩
 repeat (first | apply Z1 | apply Z2 | apply Z3 | apply Z4 | apply Z5 rfl | apply Z6 | apply Z7 | apply Z8 | apply Z9 | apply ZA | apply ZB | apply ZC | ((first | apply ZD (by decide) | apply ZN (by decide)); (simp (maxSteps := 9999999) only [go_sem]; rfl)) | (refine ZE ?_ ?_; · simp only [go_sem]) | (refine ZF ?_ ?_; · simp only [go_sem]))
 refine run_loop (ptE_loopF (cap := cap) C hl hn (a := a) hb hai2 j cx S (j + 1 - i2) _ _ _ _ ⟨j, rfl, Nat.le_refl _, hjb, hij2, hR, ⟨by simp only [go_sem, r0], by simp only [go_sem, r1], by simp only [go_sem, r4]⟩, by simp only [go_sem, ri], by simp only [go_sem, rj], rfl, rfl, rfl⟩) ?_
 rintro ex ρ2 ms2 h2 d2 ⟨rfl, rfl, rfl, rfl, j2, h0j2, hjb2, hij3, hR2, hstop2, ⟨r0, r1, r4⟩, ri, rj⟩
 by_cases z : j2 < i2
 ·have e1 : (j2 : Int) < i2 := by omega
  repeat (first | apply Z1 | apply Z2 | apply Z3 | apply Z4 | apply Z5 rfl | apply Z6 | apply Z7 | apply Z8 | apply Z9 | apply ZA | apply ZB | apply ZC | ((first | apply ZD (by decide) | apply ZN (by decide)); (simp (maxSteps := 9999999) only [go_sem, r0, r1, r4, ri, rj, e1]; rfl)) | (refine ZE ?_ ?_; · simp only [go_sem]) | (refine ZF ?_ ?_; · simp only [go_sem]))
  exact end_nil ⟨rfl, rfl, rfl, j2, f, by omega, hjb2, S, W, fun q q1 q2 => hP2 q q1 (by omega), hR2, ⟨by simp only [go_sem, r0], by simp only [go_sem, r1], by simp only [go_sem, r4]⟩, by simp only [go_sem, rj]⟩
 ·have e1 : ¬ (j2 : Int) < i2 := by omega
  have n2 := Classical.not_not.1 (hstop2 (by omega))
  have m1 : ¬ c (f i2) (f a) < 0 := by
   by_cases e4 : i2 ≤ j
   ·exact hstop1 e4
   ·exact hR i2 (by omega) (by omega)
  have hlt : i2 < j2 := by
   by_cases e : i2 < j2
   ·exact e
   ·exfalso
    have e3 : i2 = j2 := by omega
    subst e3
    exact m1 n2
  have p1 : (0 : Int) ≤ (i2 : Int) := by omega
  have p2 : (i2 : Int) < n := by omega
  have p3 : (0 : Int) ≤ (j2 : Int) := by omega
  have p4 : (j2 : Int) < n := by omega
  have w1 : IntKind.i64.wrap ((i2 : Int) + 1) = ((i2 + 1 : Nat) : Int) := by rw [wrap64 (by omega) (by omega)]; rfl
  have w2 : IntKind.i64.wrap ((j2 : Int) - 1) = ((j2 - 1 : Nat) : Int) := by rw [wrap64 (by omega) (by omega)]; omega
  have l1 := S.load hl (show i2 < n by omega)
  have l2 := S.load hl (show j2 < n by omega)
  obtain ⟨h3, h4, st1, st2, S2⟩ := S.swap hl hc (by decide) (show i2 < n by omega) (show j2 < n by omega)
  repeat (first | apply Z1 | apply Z2 | apply Z3 | apply Z4 | apply Z5 rfl | apply Z6 | apply Z7 | apply Z8 | apply Z9 | apply ZA | apply ZB | apply ZC | ((first | apply ZD (by decide) | apply ZN (by decide)); (simp (maxSteps := 9999999) only [go_sem, r0, r1, r4, ri, rj, e1, p1, p2, p3, p4, l1, l2, hl, ↓st1, ↓st2, w1, w2]; rfl)) | (refine ZE ?_ ?_; · simp only [go_sem]) | (refine ZF ?_ ?_; · simp only [go_sem]))
  have ea : swp f i2 j2 a = f a := swp_o f (by omega) (by omega)
  refine end_nil ⟨j2 - 1 + 1 - (i2 + 1), by omega, i2 + 1, j2 - 1, _, rfl, by omega, by omega, by omega, S2, W.step (by omega) (by omega) (by omega) (by omega), fun q q1 q2 => ?_, fun q q1 q2 => ?_, ⟨by simp only [go_sem, r0], by simp only [go_sem, r1], by simp only [go_sem, r4]⟩, by simp only [go_sem, w1], by simp only [go_sem, w2], rfl, rfl⟩
  ·rw [ea]
   by_cases e : q = i2
   ·subst e; rw [swp_l]; exact n2
   ·rw [swp_o f e (by omega)]; exact hP2 q q1 (by omega)
  ·rw [ea]
   by_cases e : q = j2
   ·subst e; rw [swp_r]; exact m1
   ·rw [swp_o f (by omega) e]; exact hR2 q (by omega) q2
theorem part_endF {a b j : Nat} {f : Nat → E} (haj : a ≤ j) (hjb : j < b) (hP : ∀ q, a < q → q ≤ j → c (f q) (f a) < 0) (hR : ∀ q, j < q → q < b → ¬ c (f q) (f a) < 0) :
  (∀ q, a ≤ q → q < j → c (swp f j a q) (swp f j a j) < 0) ∧ (∀ q, j < q → q < b → ¬ c (swp f j a q) (swp f j a j) < 0) ∧ swp f j a j = f a := by
 refine ⟨fun q q1 q2 => ?_, fun q q1 q2 => ?_, swp_l f j a⟩
 ·rw [swp_l]
  by_cases e : q = a
  ·subst e; rw [swp_r]; exact hP j (by omega) (Nat.le_refl _)
  ·rw [swp_o f (by omega) e]; exact hP q (by omega) (by omega)
 ·rw [swp_l, swp_o f (by omega) (by omega)]; exact hR q q1 q2
theorem partF (C : Cmp M g cel c) (hl : ∀ x, (cel x).length = 3) (hc : ∀ x, (cel x).all sc = true) (hn : n ≤ 1000000) {a b p : Nat} (hap : a ≤ p) (hpb : p < b) (hb : b ≤ n) {h : SHeap} {f : Nat → E} (S : SA cel n B el h0 old0 h f) :
  ∃ h' f' m q, M.call 108 [.slice (some ⟨B, 0, none⟩) n cap, .int .i64 a, .int .i64 b, .int .i64 ((p : Nat) : Int), .func (.func g) #[] #[]] h = some (.tuple #[.int .i64 ((m : Nat) : Int), .bool q], h', []) ∧ SA cel n B el h0 old0 h' f' ∧ Sw a b f f' ∧ a ≤ m ∧ m < b ∧ (∀ q, a ≤ q → q < m → c (f' q) (f' m) < 0) ∧ (∀ q, m < q → q < b → ¬ c (f' q) (f' m) < 0) := by
 have key : ∃ r, (∃ h' f' m q, r = (Value.tuple #[.int .i64 ((m : Nat) : Int), .bool q], h', ([] : List Nat)) ∧ SA cel n B el h0 old0 h' f' ∧ Sw a b f f' ∧ a ≤ m ∧ m < b ∧ (∀ q, a ≤ q → q < m → c (f' q) (f' m) < 0) ∧ (∀ q, m < q → q < b → ¬ c (f' q) (f' m) < 0)) ∧ M.call 108 [.slice (some ⟨B, 0, none⟩) n cap, .int .i64 a, .int .i64 b, .int .i64 ((p : Nat) : Int), .func (.func g) #[] #[]] h = some r := by
  refine call_ex (f := 108) _ sf108 rfl rfl rfl ?_
  unfold sf108
  have p1 : (0 : Int) ≤ (a : Int) := by omega
  have p2 : (a : Int) < n := by omega
  have p3 : (0 : Int) ≤ (p : Int) := by omega
  have p4 : (p : Int) < n := by omega
  have w1 : IntKind.i64.wrap ((a : Int) + 1) = ((a + 1 : Nat) : Int) := by rw [wrap64 (by omega) (by omega)]; rfl
  have w2 : IntKind.i64.wrap ((b : Int) - 1) = ((b - 1 : Nat) : Int) := by rw [wrap64 (by omega) (by omega)]; omega
  have l1 := S.load hl (show a < n by omega)
  have l2 := S.load hl (show p < n by omega)
  obtain ⟨h3, h4, st1, st2, S2⟩ := S.swap hl hc (by decide) (show a < n by omega) (show p < n by omega)
  have W1 : Sw a b f (swp f a p) := Sw.one f (by omega) (by omega) (by omega) (by omega)
  repeat (first | apply Z1 | apply Z2 | apply Z3 | apply Z4 | apply Z5 rfl | apply Z6 | apply Z7 | apply Z8 | apply Z9 | apply ZA | apply ZB | apply ZC | ((first | apply ZD (by decide) | apply ZN (by decide)); (simp (maxSteps := 9999999) only [go_sem, argR, p1, p2, p3, p4, l1, l2, hl, ↓st1, ↓st2, w1, w2]; rfl)) | (refine ZE ?_ ?_; · simp only [go_sem]) | (refine ZF ?_ ?_; · simp only [go_sem]))
  generalize swp f a p = f1 at *
  refine run_loop (ptA_loopF (cap := cap) C hl hn (a := a) (b := b) (j := b - 1) hb (by omega) (by omega) (a + 1) _ S2 (b - 1 + 1 - (a + 1)) _ _ _ _ ⟨a + 1, rfl, Nat.le_refl _, by omega, by omega, fun q q1 q2 => by omega, ⟨by simp only [go_sem, argR], by simp only [go_sem, argR], by simp only [go_sem, argR]⟩, by simp only [go_sem, w1], by simp only [go_sem, w2], rfl, rfl, rfl⟩) ?_
  rintro ex ρ1 ms1 h5 d1 ⟨rfl, rfl, rfl, rfl, i2, h0i2, hai2, hij2, hP2, hstop1, ⟨r0, r1, r4⟩, ri, rj⟩
  repeat (first | apply Z1 | apply Z2 | apply Z3 | apply Z4 | apply Z5 rfl | apply Z6 | apply Z7 | apply Z8 | apply Z9 | apply ZA | apply ZB | apply ZC | ((first | apply ZD (by decide) | apply ZN (by decide)); (simp (maxSteps := 9999999) only [go_sem]; rfl)) | (refine ZE ?_ ?_; · simp only [go_sem]) | (refine ZF ?_ ?_; · simp only [go_sem]))
  refine run_loop (ptB_loopF (cap := cap) C hl hn (a := a) (b := b) hb hai2 (b - 1) _ S2 (b - 1 + 1 - i2) _ _ _ _ ⟨b - 1, rfl, Nat.le_refl _, by omega, hij2, fun q q1 q2 => by omega, ⟨by simp only [go_sem, r0], by simp only [go_sem, r1], by simp only [go_sem, r4]⟩, by simp only [go_sem, ri], by simp only [go_sem, rj], rfl, rfl, rfl⟩) ?_
  rintro ex ρ2 ms2 h6 d2 ⟨rfl, rfl, rfl, rfl, j2, h0j2, hjb2, hij3, hR2, hstop2, ⟨r0, r1, r4⟩, ri, rj⟩
  have x1 : (0 : Int) ≤ (j2 : Int) := by omega
  have x2 : (j2 : Int) < n := by omega
  by_cases z : j2 < i2
  ·have e1 : (j2 : Int) < i2 := by omega
   have y1 := S2.load hl (show j2 < n by omega)
   have y2 := S2.load hl (show a < n by omega)
   obtain ⟨h7, h8, st3, st4, S3⟩ := S2.swap hl hc (by decide) (show j2 < n by omega) (show a < n by omega)
   obtain ⟨pe1, pe2, pe3⟩ := part_endF (c := c) (show a ≤ j2 by omega) hjb2 (fun q q1 q2 => hP2 q q1 (by omega)) hR2
   repeat (first | apply Z1 | apply Z2 | apply Z3 | apply Z4 | apply Z5 rfl | apply Z6 | apply Z7 | apply Z8 | apply Z9 | apply ZA | apply ZB | apply ZC | ((first | apply ZD (by decide) | apply ZN (by decide)); (simp (maxSteps := 9999999) only [go_sem, r0, r1, r4, ri, rj, e1, p1, p2, x1, x2, y1, y2, hl, ↓st3, ↓st4]; rfl)) | (refine ZE ?_ ?_; · simp only [go_sem]) | (refine ZF ?_ ?_; · simp only [go_sem]))
   exact end_nil ⟨_, ⟨h8, _, j2, true, rfl, S3, W1.step (by omega) (by omega) (by omega) (by omega), by omega, hjb2, pe1, pe2⟩, q_free [.int .i64 j2, .bool true] (by simp only [go_sem]) rfl rfl rfl (fun _ => rfl) (by rw [List.take_of_length_le]; rw [S3.len, S.len]; exact Nat.le_refl _) rfl⟩
  ·have e1 : ¬ (j2 : Int) < i2 := by omega
   have n2 := Classical.not_not.1 (hstop2 (by omega))
   have m1 : ¬ c (f1 i2) (f1 a) < 0 := hstop1 (by omega)
   have hlt : i2 < j2 := by
    by_cases e : i2 < j2
    ·exact e
    ·exfalso
     have e3 : i2 = j2 := by omega
     subst e3
     exact m1 n2
   have x3 : (0 : Int) ≤ (i2 : Int) := by omega
   have x4 : (i2 : Int) < n := by omega
   have w3 : IntKind.i64.wrap ((i2 : Int) + 1) = ((i2 + 1 : Nat) : Int) := by rw [wrap64 (by omega) (by omega)]; rfl
   have w4 : IntKind.i64.wrap ((j2 : Int) - 1) = ((j2 - 1 : Nat) : Int) := by rw [wrap64 (by omega) (by omega)]; omega
   have y1 := S2.load hl (show i2 < n by omega)
   have y2 := S2.load hl (show j2 < n by omega)
   obtain ⟨h7, h8, st3, st4, S3⟩ := S2.swap hl hc (by decide) (show i2 < n by omega) (show j2 < n by omega)
   have W2 : Sw a b f (swp f1 i2 j2) := W1.step (by omega) (by omega) (by omega) (by omega)
   have ea : swp f1 i2 j2 a = f1 a := swp_o f1 (by omega) (by omega)
   have hP3 : ∀ q, a < q → q < i2 + 1 → c (swp f1 i2 j2 q) (swp f1 i2 j2 a) < 0 := fun q q1 q2 => by
    rw [ea]
    by_cases e : q = i2
    ·subst e; rw [swp_l]; exact n2
    ·rw [swp_o f1 e (by omega)]; exact hP2 q q1 (by omega)
   have hR3 : ∀ q, j2 - 1 < q → q < b → ¬ c (swp f1 i2 j2 q) (swp f1 i2 j2 a) < 0 := fun q q1 q2 => by
    rw [ea]
    by_cases e : q = j2
    ·subst e; rw [swp_r]; exact m1
    ·rw [swp_o f1 (by omega) e]; exact hR2 q (by omega) q2
   repeat (first | apply Z1 | apply Z2 | apply Z3 | apply Z4 | apply Z5 rfl | apply Z6 | apply Z7 | apply Z8 | apply Z9 | apply ZA | apply ZB | apply ZC | ((first | apply ZD (by decide) | apply ZN (by decide)); (simp (maxSteps := 9999999) only [go_sem, r0, r1, r4, ri, rj, e1, x1, x2, x3, x4, y1, y2, hl, ↓st3, ↓st4, w3, w4]; rfl)) | (refine ZE ?_ ?_; · simp only [go_sem]) | (refine ZF ?_ ?_; · simp only [go_sem]))
   generalize swp f1 i2 j2 = f2 at *
   refine run_loop (ptO_loopF (cap := cap) C hl hc hn (a := a) (b := b) hb _ f2 (j2 - 1 + 1 - (i2 + 1)) _ _ _ _ ⟨i2 + 1, j2 - 1, f2, rfl, by omega, by omega, by omega, S3, .refl, hP3, hR3, ⟨by simp only [go_sem, r0], by simp only [go_sem, r1], by simp only [go_sem, r4]⟩, by simp only [go_sem, w3], by simp only [go_sem, w4], rfl, rfl⟩) ?_
   rintro ex ρ3 ms3 h9 d3 ⟨rfl, rfl, rfl, j3, f3, haj3, hjb3, S4, W3, hP4, hR4, ⟨r0, r1, r4⟩, rj⟩
   have x5 : (0 : Int) ≤ (j3 : Int) := by omega
   have x6 : (j3 : Int) < n := by omega
   have y3 := S4.load hl (show j3 < n by omega)
   have y4 := S4.load hl (show a < n by omega)
   obtain ⟨h10, h11, st5, st6, S5⟩ := S4.swap hl hc (by decide) (show j3 < n by omega) (show a < n by omega)
   obtain ⟨pe1, pe2, pe3⟩ := part_endF (c := c) haj3 hjb3 hP4 hR4
   repeat (first | apply Z1 | apply Z2 | apply Z3 | apply Z4 | apply Z5 rfl | apply Z6 | apply Z7 | apply Z8 | apply Z9 | apply ZA | apply ZB | apply ZC | ((first | apply ZD (by decide) | apply ZN (by decide)); (simp (maxSteps := 9999999) only [go_sem, r0, r1, r4, rj, p1, p2, x5, x6, y3, y4, hl, ↓st5, ↓st6]; rfl)) | (refine ZE ?_ ?_; · simp only [go_sem]) | (refine ZF ?_ ?_; · simp only [go_sem]))
   exact end_nil ⟨_, ⟨h11, _, j3, false, rfl, S5, (W2.trans (W3.mono (by omega) (by omega))).step (by omega) (by omega) (by omega) (by omega), by omega, hjb3, pe1, pe2⟩, q_free [.int .i64 j3, .bool false] (by simp only [go_sem]) rfl rfl rfl (fun _ => rfl) (by rw [List.take_of_length_le]; rw [S5.len, S.len]; exact Nat.le_refl _) rfl⟩
 obtain ⟨r, ⟨h', f', m, q, rfl, k⟩, e⟩ := key
 exact ⟨h', f', m, q, e, k⟩
end
end
end Go.Proofs.YtdmfhdnpakgkpaaDoor.Sh
namespace Go.Proofs.YtdmfhdnpakgkpaaDoor.Sh
section
open Go
set_option maxRecDepth 100000
set_option maxHeartbeats 4000000
theorem run_cutF {R : Rec} {cx : Cx} {dep : Nat} {a b : SCode} {st : List Fr} {ρ : Reg} {ms : List Nat} {h : SHeap} {d : List Nat} {Q : Post} (I : Post) (w : Run R cx dep a [] ρ ms h d I) (k : ∀ ex ρ' ms' h' d', I ex ρ' ms' h' d' → Ends R cx dep ex (.seq b :: st) ρ' ms' h' d' Q) : Run R cx dep (.seq a b) st ρ ms h d Q := by
 refine run_seq ?_
 unfold Run at *
 intro t hf ht
 obtain ⟨ex, t', ms', h', d', e, f, q⟩ := w t hf ht
 refine ⟨ex, t', ms', h', d', e, f, k _ _ _ _ _ ?_⟩
 unfold Ends at q
 exact q
section
variable {E : Type} {cel : E → List Value} {c : E → E → Int} {g : FuncId} {n B cap : Nat} {el : TypeId} {h0 : SHeap} {old0 : List Nat}
def PreF (c : E → E → Int) (a b : Nat) (f : Nat → E) : Prop := 0 < a → ∀ j, a ≤ j → j < b → ¬ c (f j) (f (a - 1)) < 0
theorem PreF.sw {a b : Nat} {f k : Nat → E} (h : PreF c a b f) (W : Sw a b f k) : PreF c a b k := fun h0 => by
 rw [W.out (i := a - 1) (by omega)]
 exact W.all (P := fun x => ¬ c x (f (a - 1)) < 0) (h h0)
def DnF (c : E → E → Int) (a0 b0 a b : Nat) (f : Nat → E) : Prop := ∀ i j, a0 ≤ i → i < j → j < b0 → ¬ (a ≤ i ∧ j < b) → ¬ c (f j) (f i) < 0
theorem DnF.sw {a0 b0 a b : Nat} {f k : Nat → E} (h : DnF c a0 b0 a b f) (W : Sw a b f k) (ha : a0 ≤ a) (hb : b ≤ b0) : DnF c a0 b0 a b k := by
 intro i j h1 h2 h3 h4
 by_cases c1 : a ≤ i ∧ i < b
 ·by_cases c2 : a ≤ j ∧ j < b
  ·omega
  ·rw [W.out (i := j) (by omega)]
   exact W.all (P := fun x => ¬ c (f j) x < 0) (fun q q1 q2 => h q j (by omega) (by omega) h3 (by omega)) i c1.1 c1.2
 ·by_cases c2 : a ≤ j ∧ j < b
  ·rw [W.out (i := i) (by omega)]
   exact W.all (P := fun x => ¬ c x (f i) < 0) (fun q q1 q2 => h i q (by omega) (by omega) (by omega) (by omega)) j c2.1 c2.2
  ·rw [W.out (i := i) (by omega), W.out (i := j) (by omega)]
   exact h i j h1 h2 h3 h4
theorem DnF.fin {a0 b0 a b : Nat} {f : Nat → E} (h : DnF c a0 b0 a b f) (O : Ord c a b f) : Ord c a0 b0 f := fun i j h1 h2 h3 => by
 by_cases e : a ≤ i ∧ j < b
 ·exact O i j e.1 h2 e.2
 ·exact h i j h1 h2 h3 e
def PdqOKF (c : E → E → Int) (cel : E → List Value) (g : FuncId) (n B cap : Nat) (el : TypeId) (h0 : SHeap) (old0 : List Nat) (L : Nat) : Prop :=
 ∀ (a b lim : Nat) (h : SHeap) (f : Nat → E), b - a < L → a ≤ b → b ≤ n → lim ≤ 1000 → SA cel n B el h0 old0 h f → PreF c a b f →
  ∃ h' f', M.call 84 [.slice (some ⟨B, 0, none⟩) n cap, .int .i64 a, .int .i64 b, .int .i64 lim, .func (.func g) #[] #[]] h = some (.tuple #[], h', []) ∧ SA cel n B el h0 old0 h' f' ∧ Sw a b f f' ∧ Ord c a b f'
structure PRF (n B cap : Nat) (g : FuncId) (a b lim : Nat) (wb wp : Bool) (ρ : Reg) : Prop where
 r0 : ρ 0 = .slice (some ⟨B, 0, none⟩) n cap
 r1 : ρ 1 = .int .i64 a
 r2 : ρ 2 = .int .i64 b
 r3 : ρ 3 = .int .i64 lim
 r4 : ρ 4 = .func (.func g) #[] #[]
 r10 : ρ 10 = .bool wb
 r11 : ρ 11 = .bool wp
theorem pdq_loopF (C : Cmp M g cel c) (hl : ∀ x, (cel x).length = 3) (hc : ∀ x, (cel x).all sc = true) (hn : n ≤ 60000) (hlow : ∀ c ∈ old0, c < h0.length) {a0 b0 : Nat} (hb0 : b0 ≤ n) (IH : PdqOKF c cel g n B cap el h0 old0 (b0 - a0)) (cx : Cx) (f0 : Nat → E) :
  ∀ k ρ ms h' d', (∃ (a b lim : Nat) (wb wp : Bool) (f : Nat → E), b - a = k ∧ a0 ≤ a ∧ a ≤ b ∧ b ≤ b0 ∧ lim ≤ 1000 ∧ SA cel n B el h0 old0 h' f ∧ Sw a0 b0 f0 f ∧ DnF c a0 b0 a b f ∧ PreF c a b f ∧ PRF n B cap g a b lim wb wp ρ ∧ ms = [] ∧ d' = []) →
  LoopW M cx 8 sf84L0 ρ ms h' d' (fun ex ρ' ms' h' d' => ex = .ret ∧ ms' = [] ∧ d' = [] ∧ ∃ f : Nat → E, SA cel n B el h0 old0 h' f ∧ Sw a0 b0 f0 f ∧ Ord c a0 b0 f) := by
 refine loop_run _ ?_
 rintro k ρ ms h' d' ⟨a, b, lim, wb, wp, f, hk, ha, hab, hb, hlim, S, W, D, P, ⟨r0, r1, r2, r3, r4, r10, r11⟩, rfl, rfl⟩
 have w1 : IntKind.i64.wrap ((b : Int) - (a : Int)) = ((b - a : Nat) : Int) := by rw [wrap64 (by omega) (by omega)]; omega
 unfold sf84L0
 by_cases c12 : b - a ≤ 12
 ·have e12 : ((b - a : Nat) : Int) ≤ 12 := by omega
  obtain ⟨h2, f2, e, S2, W2, O2⟩ := insF (cap := cap) C hl hc (by omega) hab (by omega) S
  repeat (first | apply Z1 | apply Z2 | apply Z3 | apply Z4 | apply Z5 rfl | apply Z6 | apply Z7 | apply Z8 | apply Z9 | apply ZA | apply ZB | apply ZC | ((first | apply ZD (by decide) | apply ZN (by decide)); (simp (maxSteps := 9999999) only [go_sem, r0, r1, r2, r3, r4, w1, e12, e]; rfl)) | (refine ZE ?_ ?_; · simp only [go_sem]) | (refine ZF ?_ ?_; · simp only [go_sem]))
  exact end_nil ⟨rfl, rfl, rfl, f2, S2, W.trans (W2.mono ha hb), (D.sw W2 ha hb).fin O2⟩
 have e12 : ¬ ((b - a : Nat) : Int) ≤ 12 := by omega
 by_cases cl : lim = 0
 ·have elim : ((lim : Nat) : Int) = 0 := by omega
  obtain ⟨h2, f2, e, S2, W2, O2⟩ := heapF (cap := cap) C hl hc (by omega) (show a < b by omega) (by omega) S
  repeat (first | apply Z1 | apply Z2 | apply Z3 | apply Z4 | apply Z5 rfl | apply Z6 | apply Z7 | apply Z8 | apply Z9 | apply ZA | apply ZB | apply ZC | ((first | apply ZD (by decide) | apply ZN (by decide)); (simp (maxSteps := 9999999) only [go_sem, r0, r1, r2, r3, r4, w1, e12, elim, e]; rfl)) | (refine ZE ?_ ?_; · simp only [go_sem]) | (refine ZF ?_ ?_; · simp only [go_sem]))
  exact end_nil ⟨rfl, rfl, rfl, f2, S2, W.trans (W2.mono ha hb), (D.sw W2 ha hb).fin O2⟩
 have elim : ¬ ((lim : Nat) : Int) = 0 := by omega
 have wl : IntKind.i64.wrap ((lim : Int) - 1) = ((lim - 1 : Nat) : Int) := by rw [wrap64 (by omega) (by omega)]; omega
 apply run_block
 apply run_seq
 apply run_region (by decide)
 ·simp only [go_sem, r1, r2, w1]
  rfl
 apply end_seq
 refine run_cutF (fun ex ρ' ms' h2 d2 => ex = .normal ∧ ms' = [] ∧ h2 = h' ∧ d2 = [] ∧ PRF n B cap g a b lim wb wp ρ' ∧ ρ' 12 = .int .i64 ((b - a : Nat) : Int)) ?_ ?_
 ·repeat (first | apply Z1 | apply Z2 | apply Z3 | apply Z4 | apply Z5 rfl | apply Z6 | apply Z7 | apply Z8 | apply Z9 | apply ZA | apply ZB | apply ZC | ((first | apply ZD (by decide) | apply ZN (by decide)); (simp (maxSteps := 9999999) only [go_sem, e12]; rfl)) | (refine ZE ?_ ?_; · simp only [go_sem]) | (refine ZF ?_ ?_; · simp only [go_sem]))
  exact end_nil ⟨rfl, rfl, rfl, rfl, ⟨by simp only [go_sem, r0], by simp only [go_sem, r1], by simp only [go_sem, r2], by simp only [go_sem, r3], by simp only [go_sem, r4], by simp only [go_sem, r10], by simp only [go_sem, r11]⟩, by simp only [go_sem]⟩
 rintro ex ρ ms h2 d ⟨rfl, rfl, rfl, rfl, ⟨r0, r1, r2, r3, r4, r10, r11⟩, r12⟩
 apply end_seq
 refine run_cutF (fun ex ρ' ms' h3 d2 => ex = .normal ∧ ms' = [] ∧ h3 = h2 ∧ d2 = [] ∧ PRF n B cap g a b lim wb wp ρ' ∧ ρ' 12 = .int .i64 ((b - a : Nat) : Int)) ?_ ?_
 ·repeat (first | apply Z1 | apply Z2 | apply Z3 | apply Z4 | apply Z5 rfl | apply Z6 | apply Z7 | apply Z8 | apply Z9 | apply ZA | apply ZB | apply ZC | ((first | apply ZD (by decide) | apply ZN (by decide)); (simp (maxSteps := 9999999) only [go_sem, r3, elim]; rfl)) | (refine ZE ?_ ?_; · simp only [go_sem]) | (refine ZF ?_ ?_; · simp only [go_sem]))
  exact end_nil ⟨rfl, rfl, rfl, rfl, ⟨by simp only [go_sem, r0], by simp only [go_sem, r1], by simp only [go_sem, r2], by simp only [go_sem, r3], by simp only [go_sem, r4], by simp only [go_sem, r10], by simp only [go_sem, r11]⟩, by simp only [go_sem, r12]⟩
 rintro ex ρ ms h3 d ⟨rfl, rfl, rfl, rfl, ⟨r0, r1, r2, r3, r4, r10, r11⟩, r12⟩
 apply end_seq
 refine run_cutF (fun ex ρ' ms' h2 d2 => ex = .normal ∧ ms' = [] ∧ d2 = [] ∧ ∃ (lim' : Nat) (f' : Nat → E), lim' ≤ 1000 ∧ SA cel n B el h0 old0 h2 f' ∧ Sw a b f f' ∧ PRF n B cap g a b lim' wb wp ρ' ∧ ρ' 12 = .int .i64 ((b - a : Nat) : Int)) ?_ ?_
 ·cases wb with
  | true =>
   repeat (first | apply Z1 | apply Z2 | apply Z3 | apply Z4 | apply Z5 rfl | apply Z6 | apply Z7 | apply Z8 | apply Z9 | apply ZA | apply ZB | apply ZC | ((first | apply ZD (by decide) | apply ZN (by decide)); (simp (maxSteps := 9999999) only [go_sem, r10]; rfl)) | (refine ZE ?_ ?_; · simp only [go_sem]) | (refine ZF ?_ ?_; · simp only [go_sem]))
   exact end_nil ⟨rfl, rfl, rfl, lim, f, hlim, S, .refl, ⟨by simp only [go_sem, r0], by simp only [go_sem, r1], by simp only [go_sem, r2], by simp only [go_sem, r3], by simp only [go_sem, r4], by simp only [go_sem, r10], by simp only [go_sem, r11]⟩, by simp only [go_sem, r12]⟩
  | false =>
   obtain ⟨h4, f4, e, S4, W4⟩ := brkF (cap := cap) hl hc hn (show a + 8 ≤ b by omega) (by omega) hlow (.func (.func g) #[] #[]) S
   repeat (first | apply Z1 | apply Z2 | apply Z3 | apply Z4 | apply Z5 rfl | apply Z6 | apply Z7 | apply Z8 | apply Z9 | apply ZA | apply ZB | apply ZC | ((first | apply ZD (by decide) | apply ZN (by decide)); (simp (maxSteps := 9999999) only [go_sem, r0, r1, r2, r3, r4, r10, e, wl]; rfl)) | (refine ZE ?_ ?_; · simp only [go_sem]) | (refine ZF ?_ ?_; · simp only [go_sem]))
   exact end_nil ⟨rfl, rfl, rfl, lim - 1, f4, by omega, S4, W4, ⟨by simp only [go_sem, r0], by simp only [go_sem, r1], by simp only [go_sem, r2], by simp only [go_sem, wl], by simp only [go_sem, r4], by simp only [go_sem, r10], by simp only [go_sem, r11]⟩, by simp only [go_sem, r12]⟩
 rintro ex ρ ms h3 d ⟨rfl, rfl, rfl, lim, f2, hlim, S2, W2, ⟨r0, r1, r2, r3, r4, r10, r11⟩, r12⟩
 have D2 := D.sw W2 ha hb
 have P2 := P.sw W2
 have W2' := W.trans (W2.mono ha hb)
 clear W D P S W2 wl elim cl
 obtain ⟨p, t, hp1, hp2, ht, epiv⟩ := pivF (cap := cap) C hl (by omega) (show Rd cel n B el h3 f2 by obtain ⟨old, _, e⟩ := S2.at_; exact ⟨old, e⟩) (show a + 13 ≤ b by omega) (by omega)
 apply end_seq
 apply run_seq
 apply run_region (by decide)
 ·simp only [go_sem, r0, r1, r2, r4, epiv]
  rfl
 apply end_seq
 refine run_cutF (fun ex ρ' ms' h2 d2 => ex = .normal ∧ ms' = [] ∧ d2 = [] ∧ ∃ (f' : Nat → E) (p' : Nat) (t' : Int), a ≤ p' ∧ p' < b ∧ SA cel n B el h0 old0 h2 f' ∧ Sw a b f2 f' ∧ PRF n B cap g a b lim wb wp ρ' ∧ ρ' 12 = .int .i64 ((b - a : Nat) : Int) ∧ ρ' 13 = .int .i64 ((p' : Nat) : Int) ∧ ρ' 14 = .int .i64 t') ?_ ?_
 ·by_cases ct : t = 2
  ·obtain ⟨h4, f4, e, S4, W4⟩ := revF (cap := cap) hl hc (by omega) (show a < b by omega) (by omega) (.func (.func g) #[] #[]) S2
   have w2 : IntKind.i64.wrap ((b : Int) - 1) = ((b - 1 : Nat) : Int) := by rw [wrap64 (by omega) (by omega)]; omega
   have w3 : IntKind.i64.wrap ((p : Int) - (a : Int)) = ((p - a : Nat) : Int) := by rw [wrap64 (by omega) (by omega)]; omega
   have w4 : IntKind.i64.wrap (((b - 1 : Nat) : Int) - ((p - a : Nat) : Int)) = ((b - 1 - (p - a) : Nat) : Int) := by rw [wrap64 (by omega) (by omega)]; omega
   repeat (first | apply Z1 | apply Z2 | apply Z3 | apply Z4 | apply Z5 rfl | apply Z6 | apply Z7 | apply Z8 | apply Z9 | apply ZA | apply ZB | apply ZC | ((first | apply ZD (by decide) | apply ZN (by decide)); (simp (maxSteps := 9999999) only [go_sem, r0, r1, r2, r4, ct, e, w2, w3, w4]; rfl)) | (refine ZE ?_ ?_; · simp only [go_sem]) | (refine ZF ?_ ?_; · simp only [go_sem]))
   exact end_nil ⟨rfl, rfl, rfl, f4, b - 1 - (p - a), 1, by omega, by omega, S4, W4, ⟨by simp only [go_sem, r0], by simp only [go_sem, r1], by simp only [go_sem, r2], by simp only [go_sem, r3], by simp only [go_sem, r4], by simp only [go_sem, r10], by simp only [go_sem, r11]⟩, by simp only [go_sem, r12], by simp only [go_sem, w4], by simp only [go_sem]⟩
  ·repeat (first | apply Z1 | apply Z2 | apply Z3 | apply Z4 | apply Z5 rfl | apply Z6 | apply Z7 | apply Z8 | apply Z9 | apply ZA | apply ZB | apply ZC | ((first | apply ZD (by decide) | apply ZN (by decide)); (simp (maxSteps := 9999999) only [go_sem, r0, r1, r2, r4, ct]; rfl)) | (refine ZE ?_ ?_; · simp only [go_sem]) | (refine ZF ?_ ?_; · simp only [go_sem]))
   exact end_nil ⟨rfl, rfl, rfl, f2, p, t, hp1, hp2, S2, .refl, ⟨by simp only [go_sem, r0], by simp only [go_sem, r1], by simp only [go_sem, r2], by simp only [go_sem, r3], by simp only [go_sem, r4], by simp only [go_sem, r10], by simp only [go_sem, r11]⟩, by simp only [go_sem, r12], by simp only [go_sem], by simp only [go_sem]⟩
 rintro ex ρ ms h4 d ⟨rfl, rfl, rfl, f3, p, t, hp1, hp2, S3, W3, ⟨r0, r1, r2, r3, r4, r10, r11⟩, r12, r13, r14⟩
 have D3 := D2.sw W3 ha hb
 have P3 := P2.sw W3
 have W3' := W2'.trans (W3.mono ha hb)
 clear D2 P2 W2' S2 W3 epiv ht
 apply end_seq
 refine run_cutF (fun ex ρ' ms' h2 d2 => ms' = [] ∧ d2 = [] ∧ ∃ f' : Nat → E, SA cel n B el h0 old0 h2 f' ∧ Sw a b f3 f' ∧ ((ex = .ret ∧ Ord c a b f') ∨ (ex = .normal ∧ PRF n B cap g a b lim wb wp ρ' ∧ ρ' 12 = .int .i64 ((b - a : Nat) : Int) ∧ ρ' 13 = .int .i64 ((p : Nat) : Int)))) ?_ ?_
 ·by_cases ct : wb = true ∧ wp = true ∧ t = 1
  ·obtain ⟨rfl, rfl, rfl⟩ := ct
   obtain ⟨h5, f5, q, e, S5, W5, O5⟩ := pinF (cap := cap) C hl hc (by omega) (show a < b by omega) (by omega) S3 P3
   cases q with
   | true =>
    repeat (first | apply Z1 | apply Z2 | apply Z3 | apply Z4 | apply Z5 rfl | apply Z6 | apply Z7 | apply Z8 | apply Z9 | apply ZA | apply ZB | apply ZC | ((first | apply ZD (by decide) | apply ZN (by decide)); (simp (maxSteps := 9999999) only [go_sem, r0, r1, r2, r4, r10, r11, r14, e]; rfl)) | (refine ZE ?_ ?_; · simp only [go_sem]) | (refine ZF ?_ ?_; · simp only [go_sem]))
    exact end_nil ⟨rfl, rfl, f5, S5, W5, .inl ⟨rfl, O5 rfl⟩⟩
   | false =>
    repeat (first | apply Z1 | apply Z2 | apply Z3 | apply Z4 | apply Z5 rfl | apply Z6 | apply Z7 | apply Z8 | apply Z9 | apply ZA | apply ZB | apply ZC | ((first | apply ZD (by decide) | apply ZN (by decide)); (simp (maxSteps := 9999999) only [go_sem, r0, r1, r2, r4, r10, r11, r14, e]; rfl)) | (refine ZE ?_ ?_; · simp only [go_sem]) | (refine ZF ?_ ?_; · simp only [go_sem]))
    exact end_nil ⟨rfl, rfl, f5, S5, W5, .inr ⟨rfl, ⟨by simp only [go_sem, r0], by simp only [go_sem, r1], by simp only [go_sem, r2], by simp only [go_sem, r3], by simp only [go_sem, r4], by simp only [go_sem, r10], by simp only [go_sem, r11]⟩, by simp only [go_sem, r12], by simp only [go_sem, r13]⟩⟩
  ·have fin : ∀ ρ' : Reg, PRF n B cap g a b lim wb wp ρ' → ρ' 12 = .int .i64 ((b - a : Nat) : Int) → ρ' 13 = .int .i64 ((p : Nat) : Int) → (([] : List Nat) = [] ∧ ([] : List Nat) = [] ∧ ∃ f' : Nat → E, SA cel n B el h0 old0 h4 f' ∧ Sw a b f3 f' ∧ ((Ex.normal = .ret ∧ Ord c a b f') ∨ (Ex.normal = .normal ∧ PRF n B cap g a b lim wb wp ρ' ∧ ρ' 12 = .int .i64 ((b - a : Nat) : Int) ∧ ρ' 13 = .int .i64 ((p : Nat) : Int)))) :=
    fun ρ' a b c => ⟨rfl, rfl, f3, S3, .refl, .inr ⟨rfl, a, b, c⟩⟩
   cases wb with
   | false =>
    repeat (first | apply Z1 | apply Z2 | apply Z3 | apply Z4 | apply Z5 rfl | apply Z6 | apply Z7 | apply Z8 | apply Z9 | apply ZA | apply ZB | apply ZC | ((first | apply ZD (by decide) | apply ZN (by decide)); (simp (maxSteps := 9999999) only [go_sem, r10]; rfl)) | (refine ZE ?_ ?_; · simp only [go_sem]) | (refine ZF ?_ ?_; · simp only [go_sem]))
    exact end_nil (fin _ ⟨by simp only [go_sem, r0], by simp only [go_sem, r1], by simp only [go_sem, r2], by simp only [go_sem, r3], by simp only [go_sem, r4], by simp only [go_sem, r10], by simp only [go_sem, r11]⟩ (by simp only [go_sem, r12]) (by simp only [go_sem, r13]))
   | true =>
    cases wp with
    | false =>
     repeat (first | apply Z1 | apply Z2 | apply Z3 | apply Z4 | apply Z5 rfl | apply Z6 | apply Z7 | apply Z8 | apply Z9 | apply ZA | apply ZB | apply ZC | ((first | apply ZD (by decide) | apply ZN (by decide)); (simp (maxSteps := 9999999) only [go_sem, r10, r11]; rfl)) | (refine ZE ?_ ?_; · simp only [go_sem]) | (refine ZF ?_ ?_; · simp only [go_sem]))
     exact end_nil (fin _ ⟨by simp only [go_sem, r0], by simp only [go_sem, r1], by simp only [go_sem, r2], by simp only [go_sem, r3], by simp only [go_sem, r4], by simp only [go_sem, r10], by simp only [go_sem, r11]⟩ (by simp only [go_sem, r12]) (by simp only [go_sem, r13]))
    | true =>
     have ct' : ¬ t = 1 := fun e => ct ⟨rfl, rfl, e⟩
     repeat (first | apply Z1 | apply Z2 | apply Z3 | apply Z4 | apply Z5 rfl | apply Z6 | apply Z7 | apply Z8 | apply Z9 | apply ZA | apply ZB | apply ZC | ((first | apply ZD (by decide) | apply ZN (by decide)); (simp (maxSteps := 9999999) only [go_sem, r10, r11, r14, ct']; rfl)) | (refine ZE ?_ ?_; · simp only [go_sem]) | (refine ZF ?_ ?_; · simp only [go_sem]))
     exact end_nil (fin _ ⟨by simp only [go_sem, r0], by simp only [go_sem, r1], by simp only [go_sem, r2], by simp only [go_sem, r3], by simp only [go_sem, r4], by simp only [go_sem, r10], by simp only [go_sem, r11]⟩ (by simp only [go_sem, r12]) (by simp only [go_sem, r13]))
 rintro ex ρ ms h5 d ⟨rfl, rfl, f4, S4, W4, ⟨rfl, O4⟩ | ⟨rfl, ⟨r0, r1, r2, r3, r4, r10, r11⟩, r12, r13⟩⟩
 ·repeat (first | apply Z1 | apply Z2 | apply Z3 | apply Z4 | apply Z5 rfl | apply Z6 | apply Z7 | apply Z8 | apply Z9 | apply ZA | apply ZB | apply ZC | ((first | apply ZD (by decide) | apply ZN (by decide)); (simp (maxSteps := 9999999) only [go_sem]; rfl)) | (refine ZE ?_ ?_; · simp only [go_sem]) | (refine ZF ?_ ?_; · simp only [go_sem]))
  exact end_nil ⟨rfl, rfl, rfl, f4, S4, W3'.trans (W4.mono ha hb), (D3.sw W4 ha hb).fin O4⟩
 have D4 := D3.sw W4 ha hb
 have P4 := P3.sw W4
 have W4' := W3'.trans (W4.mono ha hb)
 clear D3 P3 W3' S3 W4 r14
 have q1 : (0 : Int) ≤ ((a - 1 : Nat) : Int) := by omega
 have q2 : ((a - 1 : Nat) : Int) < n := by omega
 have q3 : (0 : Int) ≤ (p : Int) := by omega
 have q4 : (p : Int) < n := by omega
 have l1 := S4.load hl (show a - 1 < n by omega)
 have l2 := S4.load hl (show p < n by omega)
 have cc := fun h => C.call (f4 (a - 1)) (f4 p) h
 apply end_seq
 refine run_cutF (fun ex ρ' ms' h2 d2 => ms' = [] ∧ d2 = [] ∧ ((ex = .normal ∧ h2 = h5 ∧ PRF n B cap g a b lim wb wp ρ' ∧ ρ' 12 = .int .i64 ((b - a : Nat) : Int) ∧ ρ' 13 = .int .i64 ((p : Nat) : Int)) ∨
   (ex = .exit 1 ∧ 0 < a ∧ ¬ c (f4 (a - 1)) (f4 p) < 0 ∧ ∃ (f' : Nat → E) (m : Nat), SA cel n B el h0 old0 h2 f' ∧ Sw a b f4 f' ∧ a < m ∧ m ≤ b ∧ f' a = f4 p ∧ (∀ q, a < q → q < m → ¬ c (f' a) (f' q) < 0) ∧ (∀ q, m ≤ q → q < b → c (f' a) (f' q) < 0) ∧ PRF n B cap g m b lim wb wp ρ'))) ?_ ?_
 ·by_cases z : 0 < a
  ·have e1 : (0 : Int) < (a : Int) := by omega
   have wa : IntKind.i64.wrap ((a : Int) - 1) = ((a - 1 : Nat) : Int) := by rw [wrap64 (by omega) (by omega)]; omega
   by_cases hlt : c (f4 (a - 1)) (f4 p) < 0
   ·repeat (first | apply Z1 | apply Z2 | apply Z3 | apply Z4 | apply Z5 rfl | apply Z6 | apply Z7 | apply Z8 | apply Z9 | apply ZA | apply ZB | apply ZC | ((first | apply ZD (by decide) | apply ZN (by decide)); (simp (maxSteps := 9999999) only [go_sem, r0, r1, r4, r13, e1, wa, q1, q2, q3, q4, l1, l2, cc, hlt]; rfl)) | (refine ZE ?_ ?_; · simp only [go_sem]) | (refine ZF ?_ ?_; · simp only [go_sem]))
    exact end_nil ⟨rfl, rfl, .inl ⟨rfl, rfl, ⟨by simp only [go_sem, r0], by simp only [go_sem, r1], by simp only [go_sem, r2], by simp only [go_sem, r3], by simp only [go_sem, r4], by simp only [go_sem, r10], by simp only [go_sem, r11]⟩, by simp only [go_sem, r12], by simp only [go_sem, r13]⟩⟩
   ·obtain ⟨h6, f6, m, e, S6, W6, m1, m2, m3, m4, m5⟩ := peqF (cap := cap) C hl hc (by omega) hp1 hp2 (by omega) S4
    repeat (first | apply Z1 | apply Z2 | apply Z3 | apply Z4 | apply Z5 rfl | apply Z6 | apply Z7 | apply Z8 | apply Z9 | apply ZA | apply ZB | apply ZC | ((first | apply ZD (by decide) | apply ZN (by decide)); (simp (maxSteps := 9999999) only [go_sem, r0, r1, r2, r4, r13, e1, wa, q1, q2, q3, q4, l1, l2, cc, hlt, e]; rfl)) | (refine ZE ?_ ?_; · simp only [go_sem]) | (refine ZF ?_ ?_; · simp only [go_sem]))
    exact end_nil ⟨rfl, rfl, .inr ⟨rfl, z, hlt, f6, m, S6, W6, m1, m2, m3, m4, m5, ⟨by simp only [go_sem, r0], by simp only [go_sem], by simp only [go_sem, r2], by simp only [go_sem, r3], by simp only [go_sem, r4], by simp only [go_sem, r10], by simp only [go_sem, r11]⟩⟩⟩
  ·have e1 : ¬ (0 : Int) < (a : Int) := by omega
   repeat (first | apply Z1 | apply Z2 | apply Z3 | apply Z4 | apply Z5 rfl | apply Z6 | apply Z7 | apply Z8 | apply Z9 | apply ZA | apply ZB | apply ZC | ((first | apply ZD (by decide) | apply ZN (by decide)); (simp (maxSteps := 9999999) only [go_sem, r1, e1]; rfl)) | (refine ZE ?_ ?_; · simp only [go_sem]) | (refine ZF ?_ ?_; · simp only [go_sem]))
   exact end_nil ⟨rfl, rfl, .inl ⟨rfl, rfl, ⟨by simp only [go_sem, r0], by simp only [go_sem, r1], by simp only [go_sem, r2], by simp only [go_sem, r3], by simp only [go_sem, r4], by simp only [go_sem, r10], by simp only [go_sem, r11]⟩, by simp only [go_sem, r12], by simp only [go_sem, r13]⟩⟩
 rintro ex ρ ms h6 d ⟨rfl, rfl, ⟨rfl, rfl, ⟨r0, r1, r2, r3, r4, r10, r11⟩, r12, r13⟩ | ⟨rfl, z, hge, f6, m, S6, W6, m1, m2, m3, m4, m5, PRm⟩⟩
 rotate_left
 ·repeat (first | apply Z1 | apply Z2 | apply Z3 | apply Z4 | apply Z5 rfl | apply Z6 | apply Z7 | apply Z8 | apply Z9 | apply ZA | apply ZB | apply ZC | ((first | apply ZD (by decide) | apply ZN (by decide)); (simp (maxSteps := 9999999) only [go_sem]; rfl)) | (refine ZE ?_ ?_; · simp only [go_sem]) | (refine ZF ?_ ?_; · simp only [go_sem]))
  have D6 := D4.sw W6 ha hb
  have P6 := P4.sw W6 z
  have ha1 : f6 (a - 1) = f4 (a - 1) := W6.out (by omega)
  have low : ∀ q, a ≤ q → q < m → ¬ c (f6 (a - 1)) (f6 q) < 0 := fun q k1 k2 => by
   have h1 : ¬ c (f6 (a - 1)) (f6 a) < 0 := by rw [ha1, m3]; exact hge
   by_cases e : q = a
   ·subst e; exact h1
   ·exact C.ntr _ _ _ h1 (m4 q (by omega) k2)
  refine end_nil ⟨b - m, by omega, m, b, lim, wb, wp, f6, rfl, by omega, m2, hb, hlim, S6, W4'.trans (W6.mono ha hb), fun i j i1 i2 i3 i4 => ?_, fun _ j j1 j2 => ?_, PRm, rfl, rfl⟩
  ·by_cases e : a ≤ i ∧ j < b
   ·exact C.ntr _ _ _ (P6 j (by omega) e.2) (low i e.1 (by omega))
   ·exact D6 i j i1 i2 i3 e
  ·exact C.ntr _ _ _ (P6 j (by omega) j2) (low (m - 1) (by omega) (by omega))
 clear cc l1 l2 q1 q2 q3 q4
 obtain ⟨h7, f7, m, q, e, S7, W7, m1, m2, m3, m4⟩ := partF (cap := cap) C hl hc (by omega) hp1 hp2 (by omega) S4
 have D7 := D4.sw W7 ha hb
 have P7 := P4.sw W7
 have W7' := W4'.trans (W7.mono ha hb)
 clear D4 P4 W4' W7 S4
 have v1 : IntKind.i64.wrap ((m : Int) - (a : Int)) = ((m - a : Nat) : Int) := by rw [wrap64 (by omega) (by omega)]; omega
 have v2 : IntKind.i64.wrap ((b : Int) - (m : Int)) = ((b - m : Nat) : Int) := by rw [wrap64 (by omega) (by omega)]; omega
 have v3 : IntKind.i64.wrap (((b - a : Nat) : Int).tdiv 8) = (((b - a) / 8 : Nat) : Int) := by rw [Int.tdiv_eq_ediv_of_nonneg (by omega), wrap64 (by omega) (by omega)]; rfl
 have v4 : IntKind.i64.wrap ((m : Int) + 1) = ((m + 1 : Nat) : Int) := by rw [wrap64 (by omega) (by omega)]; rfl
 by_cases lr : m - a < b - m
 ·have e1 : ((m - a : Nat) : Int) < ((b - m : Nat) : Int) := by omega
  obtain ⟨h8, f8, e8, S8, W8, O8⟩ := IH a m lim h7 f7 (by omega) m1 (by omega) hlim S7 (fun z j j1 j2 => P7 z j j1 (by omega))
  have D8 := D7.sw (W8.mono (Nat.le_refl _) (by omega)) ha hb
  have f8m : ∀ q, m ≤ q → f8 q = f7 q := fun q hq => W8.out (by omega)
  have left : ∀ q, a ≤ q → q < m → c (f8 q) (f8 m) < 0 := by
   rw [f8m m (Nat.le_refl _)]
   exact W8.all (P := fun x => c x (f7 m) < 0) m3
  have right : ∀ q, m < q → q < b → ¬ c (f8 q) (f8 m) < 0 := fun q k1 k2 => by
   rw [f8m m (Nat.le_refl _), f8m q (by omega)]; exact m4 q k1 k2
  repeat (first | apply Z1 | apply Z2 | apply Z3 | apply Z4 | apply Z5 rfl | apply Z6 | apply Z7 | apply Z8 | apply Z9 | apply ZA | apply ZB | apply ZC | ((first | apply ZD (by decide) | apply ZN (by decide)); (simp (maxSteps := 9999999) only [go_sem, r0, r1, r2, r3, r4, r10, r11, r12, r13, e, v1, v2, v3, v4, e1, e8]; rfl)) | (refine ZE ?_ ?_; · simp only [go_sem]) | (refine ZF ?_ ?_; · simp only [go_sem]))
  refine end_nil ⟨b - (m + 1), by omega, m + 1, b, lim, decide (((b - a) / 8 : Nat) ≤ ((m - a : Nat))), q, f8, rfl, by omega, by omega, hb, hlim, S8, W7'.trans (W8.mono ha (by omega)), fun i j i1 i2 i3 i4 => ?_, fun _ j j1 j2 => ?_, ⟨by simp only [go_sem, r0], by simp only [go_sem, v4], by simp only [go_sem, r2], by simp only [go_sem, r3], by simp only [go_sem, r4], ?_, by simp only [go_sem]⟩, rfl, rfl⟩
  ·by_cases ee : a ≤ i ∧ j < b
   ·by_cases k1 : j < m
    ·exact O8 i j ee.1 i2 k1
    ·by_cases k2 : i < m
     ·by_cases k3 : j = m
      ·subst k3; exact C.asym _ _ (left i ee.1 k2)
      ·exact C.ntr _ _ _ (right j (by omega) ee.2) (C.asym _ _ (left i ee.1 k2))
     ·have : i = m := by omega
      subst this
      exact right j i2 ee.2
   ·exact D8 i j i1 i2 i3 ee
  ·rw [Nat.add_sub_cancel]; exact right j (by omega) j2
  ·simp only [go_sem]
   congr 1
   by_cases e9 : (b - a) / 8 ≤ m - a
   ·rw [decide_eq_true e9, decide_eq_true (by omega)]
   ·rw [decide_eq_false e9, decide_eq_false (by omega)]
 ·have e1 : ¬ ((m - a : Nat) : Int) < ((b - m : Nat) : Int) := by omega
  obtain ⟨h8, f8, e8, S8, W8, O8⟩ := IH (m + 1) b lim h7 f7 (by omega) (by omega) (by omega) hlim S7 (fun z j j1 j2 => by rw [Nat.add_sub_cancel]; exact m4 j (by omega) j2)
  have D8 := D7.sw (W8.mono (by omega) (Nat.le_refl _)) ha hb
  have f8m : ∀ q, q ≤ m → f8 q = f7 q := fun q hq => W8.out (by omega)
  have left : ∀ q, a ≤ q → q < m → c (f8 q) (f8 m) < 0 := fun q k1 k2 => by
   rw [f8m m (Nat.le_refl _), f8m q (by omega)]; exact m3 q k1 k2
  have right : ∀ q, m + 1 ≤ q → q < b → ¬ c (f8 q) (f8 m) < 0 := by
   rw [f8m m (Nat.le_refl _)]
   exact W8.all (P := fun x => ¬ c x (f7 m) < 0) (fun q k1 k2 => m4 q (by omega) k2)
  repeat (first | apply Z1 | apply Z2 | apply Z3 | apply Z4 | apply Z5 rfl | apply Z6 | apply Z7 | apply Z8 | apply Z9 | apply ZA | apply ZB | apply ZC | ((first | apply ZD (by decide) | apply ZN (by decide)); (simp (maxSteps := 9999999) only [go_sem, r0, r1, r2, r3, r4, r10, r11, r12, r13, e, v1, v2, v3, v4, e1, e8]; rfl)) | (refine ZE ?_ ?_; · simp only [go_sem]) | (refine ZF ?_ ?_; · simp only [go_sem]))
  refine end_nil ⟨m - a, by omega, a, m, lim, decide (((b - a) / 8 : Nat) ≤ ((b - m : Nat))), q, f8, rfl, ha, m1, by omega, hlim, S8, W7'.trans (W8.mono (by omega) hb), fun i j i1 i2 i3 i4 => ?_, fun z j j1 j2 => ?_, ⟨by simp only [go_sem, r0], by simp only [go_sem, r1], by simp only [go_sem], by simp only [go_sem, r3], by simp only [go_sem, r4], ?_, by simp only [go_sem]⟩, rfl, rfl⟩
  ·by_cases ee : a ≤ i ∧ j < b
   ·by_cases k1 : m + 1 ≤ i
    ·exact O8 i j k1 i2 ee.2
    ·by_cases k2 : i < m
     ·by_cases k3 : j = m
      ·subst k3; exact C.asym _ _ (left i ee.1 k2)
      ·exact C.ntr _ _ _ (right j (by omega) ee.2) (C.asym _ _ (left i ee.1 k2))
     ·have : i = m := by omega
      subst this
      exact right j i2 ee.2
   ·exact D8 i j i1 i2 i3 ee
  ·rw [f8m (a - 1) (by omega), f8m j (by omega)]; exact P7 z j j1 (by omega)
  ·simp only [go_sem]
   congr 1
   by_cases e9 : (b - a) / 8 ≤ b - m
   ·rw [decide_eq_true e9, decide_eq_true (by omega)]
   ·rw [decide_eq_false e9, decide_eq_false (by omega)]
end
end
end Go.Proofs.YtdmfhdnpakgkpaaDoor.Sh
namespace Go.Proofs.YtdmfhdnpakgkpaaDoor.Sh
section
open Go
set_option maxRecDepth 100000
set_option maxHeartbeats 4000000
section
variable {E : Type} {cel : E → List Value} {c : E → E → Int} {g : FuncId} {n B cap : Nat} {el : TypeId} {h0 : SHeap} {old0 : List Nat}
theorem PdqOKF.mono {L L' : Nat} (h : PdqOKF c cel g n B cap el h0 old0 L) (hl : L' ≤ L) : PdqOKF c cel g n B cap el h0 old0 L' :=
 fun a b lim hh f h1 => h a b lim hh f (by omega)
theorem pdqF (C : Cmp M g cel c) (hl : ∀ x, (cel x).length = 3) (hc : ∀ x, (cel x).all sc = true) (hn : n ≤ 60000) (hlow : ∀ c ∈ old0, c < h0.length) : ∀ L, PdqOKF c cel g n B cap el h0 old0 L
 | 0 => fun a b lim hh f h1 => by omega
 | L + 1 => by
  intro a b lim h f hab1 hab hb hlim S P
  have IH := (pdqF C hl hc hn hlow L).mono (show b - a ≤ L by omega)
  have key : ∃ r, (∃ h' f', r = (Value.tuple #[], h', ([] : List Nat)) ∧ SA cel n B el h0 old0 h' f' ∧ Sw a b f f' ∧ Ord c a b f') ∧ M.call 84 [.slice (some ⟨B, 0, none⟩) n cap, .int .i64 a, .int .i64 b, .int .i64 lim, .func (.func g) #[] #[]] h = some r := by
   refine call_ex (f := 84) _ sf84 rfl rfl rfl ?_
   unfold sf84
   repeat (first | apply Z1 | apply Z2 | apply Z3 | apply Z4 | apply Z5 rfl | apply Z6 | apply Z7 | apply Z8 | apply Z9 | apply ZA | apply ZB | apply ZC | ((first | apply ZD (by decide) | apply ZN (by decide)); (simp (maxSteps := 9999999) only [go_sem, argR]; rfl)) | (refine ZE ?_ ?_; · simp only [go_sem]) | (refine ZF ?_ ?_; · simp only [go_sem]))
   refine run_loop (pdq_loopF (cap := cap) C hl hc hn hlow (a0 := a) (b0 := b) hb IH _ f (b - a) _ _ _ _ ⟨a, b, lim, true, true, f, rfl, Nat.le_refl _, hab, Nat.le_refl _, hlim, S, .refl, fun i j h1 h2 h3 h4 => by omega, P, ⟨by simp only [go_sem, argR], by simp only [go_sem, argR], by simp only [go_sem, argR], by simp only [go_sem, argR], by simp only [go_sem, argR], by simp only [go_sem], by simp only [go_sem]⟩, rfl, rfl⟩) ?_
   rintro ex ρ' ms' h1 d1 ⟨rfl, rfl, rfl, f2, S2, W2, O2⟩
   repeat (first | apply Z1 | apply Z2 | apply Z3 | apply Z4 | apply Z5 rfl | apply Z6 | apply Z7 | apply Z8 | apply Z9 | apply ZA | apply ZB | apply ZC | ((first | apply ZD (by decide) | apply ZN (by decide)); (simp (maxSteps := 9999999) only [go_sem]; rfl)) | (refine ZE ?_ ?_; · simp only [go_sem]) | (refine ZF ?_ ?_; · simp only [go_sem]))
   exact end_nil ⟨_, ⟨h1, f2, rfl, S2, W2, O2⟩, q_free [] rfl rfl rfl rfl (fun _ => rfl) (by rw [List.take_of_length_le]; rw [S2.len, S.len]; exact Nat.le_refl _) rfl⟩
  obtain ⟨r, ⟨h', f', rfl, k⟩, e⟩ := key
  exact ⟨h', f', e, k⟩
theorem sortF (C : Cmp M g cel c) (hl : ∀ x, (cel x).length = 3) (hc : ∀ x, (cel x).all sc = true) (hn : n ≤ 60000) (hlow : ∀ c ∈ old0, c < h0.length) {h : SHeap} {f : Nat → E} (S : SA cel n B el h0 old0 h f) :
  ∃ h' f', M.call 70 [.slice (some ⟨B, 0, none⟩) n cap, .func (.func g) #[] #[]] h = some (.tuple #[], h', []) ∧ SA cel n B el h0 old0 h' f' ∧ Sw 0 n f f' ∧ Ord c 0 n f' := by
 have hlen := lenB_p (n := n) (by omega)
 obtain ⟨h1, f1, e, S1, W1, O1⟩ := pdqF (cap := cap) C hl hc hn hlow (n + 1) 0 n (lenB n) h f (by omega) (Nat.zero_le _) (Nat.le_refl _) (by omega) S (fun h => absurd h (Nat.lt_irrefl 0))
 have ez : ((0 : Nat) : Int) = 0 := rfl
 rw [ez] at e
 have wu : IntKind.u64.wrap (n : Int) = n := wrapU' (by omega) (by omega)
 have c82 := fun h => len82 (n := n) (by omega) h
 refine ⟨h1, f1, ?_, S1, W1, O1⟩
 refine call_run sf70 rfl rfl rfl ?_
 unfold sf70
 repeat (first | apply Z1 | apply Z2 | apply Z3 | apply Z4 | apply Z5 rfl | apply Z6 | apply Z7 | apply Z8 | apply Z9 | apply ZA | apply ZB | apply ZC | ((first | apply ZD (by decide) | apply ZN (by decide)); (simp (maxSteps := 9999999) only [go_sem, argR, wu, c82, e]; rfl)) | (refine ZE ?_ ?_; · simp only [go_sem]) | (refine ZF ?_ ?_; · simp only [go_sem]))
 exact end_nil (q_free [] rfl rfl rfl rfl (fun _ => rfl) (by rw [List.take_of_length_le]; rw [S1.len, S.len]; exact Nat.le_refl _) rfl)
end
end
end Go.Proofs.YtdmfhdnpakgkpaaDoor.Sh
namespace Go.Proofs.YtdmfhdnpakgkpaaDoor.Sh
section
open Go
set_option maxRecDepth 100000
set_option maxHeartbeats 4000000
theorem ins0_loopF (cx : Cx) (H : SHeap) : ∀ (k : Nat) ρ ms h' d', (ρ 2 = .int .i64 0 ∧ ρ 8 = .int .i64 1 ∧ ms = [] ∧ h' = H ∧ d' = []) →
  LoopW M cx 6 sf101L1 ρ ms h' d' (fun ex ρ' ms' h' d' => ex = .exit 0 ∧ ms' = [] ∧ h' = H ∧ d' = []) := by
 refine loop_run _ ?_
 rintro k ρ ms h' d' ⟨r2, r8, rfl, rfl, rfl⟩
 unfold sf101L1
 repeat (first | apply Z1 | apply Z2 | apply Z3 | apply Z4 | apply Z5 rfl | apply Z6 | apply Z7 | apply Z8 | apply Z9 | apply ZA | apply ZB | apply ZC | ((first | apply ZD (by decide) | apply ZN (by decide)); (simp (maxSteps := 9999999) only [go_sem, r2, r8]; rfl)) | (refine ZE ?_ ?_; · simp only [go_sem]) | (refine ZF ?_ ?_; · simp only [go_sem]))
 exact end_nil ⟨rfl, rfl, rfl, rfl⟩
theorem ins0F (g : FuncId) (h : SHeap) : M.call 101 [.slice none 0 0, .int .i64 0, .int .i64 0, .func (.func g) #[] #[]] h = some (.tuple #[], h, []) := by
 refine call_run sf101 rfl rfl rfl ?_
 unfold sf101
 repeat (first | apply Z1 | apply Z2 | apply Z3 | apply Z4 | apply Z5 rfl | apply Z6 | apply Z7 | apply Z8 | apply Z9 | apply ZA | apply ZB | apply ZC | ((first | apply ZD (by decide) | apply ZN (by decide)); (simp (maxSteps := 9999999) only [go_sem, argR]; rfl)) | (refine ZE ?_ ?_; · simp only [go_sem]) | (refine ZF ?_ ?_; · simp only [go_sem]))
 refine run_loop (ins0_loopF _ h 0 _ _ _ _ ⟨by simp only [go_sem, argR], by simp only [go_sem, argR], rfl, rfl, rfl⟩) ?_
 rintro ex ρ' ms' h1 d1 ⟨rfl, rfl, rfl, rfl⟩
 repeat (first | apply Z1 | apply Z2 | apply Z3 | apply Z4 | apply Z5 rfl | apply Z6 | apply Z7 | apply Z8 | apply Z9 | apply ZA | apply ZB | apply ZC | ((first | apply ZD (by decide) | apply ZN (by decide)); (simp (maxSteps := 9999999) only [go_sem]; rfl)) | (refine ZE ?_ ?_; · simp only [go_sem]) | (refine ZF ?_ ?_; · simp only [go_sem]))
 exact end_nil (q_free [] rfl rfl rfl rfl (fun _ => rfl) (take_self _) rfl)
theorem pdq0_loopF (cx : Cx) (g : FuncId) (H : SHeap) : ∀ (k : Nat) ρ ms h' d', (ρ 0 = .slice none 0 0 ∧ ρ 1 = .int .i64 0 ∧ ρ 2 = .int .i64 0 ∧ ρ 4 = .func (.func g) #[] #[] ∧ ms = [] ∧ h' = H ∧ d' = []) →
  LoopW M cx 8 sf84L0 ρ ms h' d' (fun ex ρ' ms' h' d' => ex = .ret ∧ ms' = [] ∧ h' = H ∧ d' = []) := by
 refine loop_run _ ?_
 rintro k ρ ms h' d' ⟨r0, r1, r2, r4, rfl, rfl, rfl⟩
 unfold sf84L0
 have c := ins0F g
 have e1 : ((0 : Int) ≤ 12) = True := by decide
 have e2 : (0 : Int) - 0 = 0 := rfl
 have e3 : IntKind.i64.wrap 0 = 0 := rfl
 repeat (first | apply Z1 | apply Z2 | apply Z3 | apply Z4 | apply Z5 rfl | apply Z6 | apply Z7 | apply Z8 | apply Z9 | apply ZA | apply ZB | apply ZC | ((first | apply ZD (by decide) | apply ZN (by decide)); (simp (maxSteps := 9999999) only [go_sem, r0, r1, r2, r4, e1, e2, e3, c]; rfl)) | (refine ZE ?_ ?_; · simp only [go_sem]) | (refine ZF ?_ ?_; · simp only [go_sem]))
 exact end_nil ⟨rfl, rfl, rfl, rfl⟩
theorem pdq0F (g : FuncId) (lim : Int) (h : SHeap) : M.call 84 [.slice none 0 0, .int .i64 0, .int .i64 0, .int .i64 lim, .func (.func g) #[] #[]] h = some (.tuple #[], h, []) := by
 refine call_run sf84 rfl rfl rfl ?_
 unfold sf84
 repeat (first | apply Z1 | apply Z2 | apply Z3 | apply Z4 | apply Z5 rfl | apply Z6 | apply Z7 | apply Z8 | apply Z9 | apply ZA | apply ZB | apply ZC | ((first | apply ZD (by decide) | apply ZN (by decide)); (simp (maxSteps := 9999999) only [go_sem, argR]; rfl)) | (refine ZE ?_ ?_; · simp only [go_sem]) | (refine ZF ?_ ?_; · simp only [go_sem]))
 refine run_loop (pdq0_loopF _ g h 0 _ _ _ _ ⟨by simp only [go_sem, argR], by simp only [go_sem, argR], by simp only [go_sem, argR], by simp only [go_sem, argR], rfl, rfl, rfl⟩) ?_
 rintro ex ρ' ms' h1 d1 ⟨rfl, rfl, rfl, rfl⟩
 repeat (first | apply Z1 | apply Z2 | apply Z3 | apply Z4 | apply Z5 rfl | apply Z6 | apply Z7 | apply Z8 | apply Z9 | apply ZA | apply ZB | apply ZC | ((first | apply ZD (by decide) | apply ZN (by decide)); (simp (maxSteps := 9999999) only [go_sem]; rfl)) | (refine ZE ?_ ?_; · simp only [go_sem]) | (refine ZF ?_ ?_; · simp only [go_sem]))
 exact end_nil (q_free [] rfl rfl rfl rfl (fun _ => rfl) (take_self _) rfl)
theorem sort0F (g : FuncId) (h : SHeap) : M.call 70 [.slice none 0 0, .func (.func g) #[] #[]] h = some (.tuple #[], h, []) := by
 have c82 : ∀ h, M.call 82 [.int .u64 0] h = some (.int .i64 (lenB 0), h, []) := fun h => len82 (n := 0) (by omega) h
 have c := pdq0F g
 refine call_run sf70 rfl rfl rfl ?_
 unfold sf70
 have e3 : IntKind.u64.wrap 0 = 0 := rfl
 have e4 : ((0 : Nat) : Int) = 0 := rfl
 repeat (first | apply Z1 | apply Z2 | apply Z3 | apply Z4 | apply Z5 rfl | apply Z6 | apply Z7 | apply Z8 | apply Z9 | apply ZA | apply ZB | apply ZC | ((first | apply ZD (by decide) | apply ZN (by decide)); (simp (maxSteps := 9999999) only [go_sem, argR, e3, e4, c82, c]; rfl)) | (refine ZE ?_ ?_; · simp only [go_sem]) | (refine ZF ?_ ?_; · simp only [go_sem]))
 exact end_nil (q_free [] rfl rfl rfl rfl (fun _ => rfl) (take_self _) rfl)
end
end Go.Proofs.YtdmfhdnpakgkpaaDoor.Sh
namespace Go.Proofs.YtdmfhdnpakgkpaaDoor.Sh
section
open Go
set_option maxRecDepth 100000
set_option maxHeartbeats 4000000
theorem celF_len (x : Fa) : (celF x).length = 3 := rfl
theorem celF_sc (x : Fa) : (celF x).all sc = true := rfl
def uL (n a b : Nat) : List Fa := listU n a ++ rowU n a b
theorem rowU_len (n a b : Nat) : (rowU n a b).length ≤ b := by
 have : (rowU n a b).length ≤ b * 1 := fm_len _ 1 (fun b => by unfold gU; split <;> simp) b
 omega
theorem uL_len (n a b : Nat) : (uL n a b).length ≤ a * 45 + b := by
 unfold uL
 rw [List.length_append]
 have := len_U n a
 have := rowU_len n a b
 omega
theorem uL_succ {n a b : Nat} : uL n a (b + 1) = uL n a b ++ gU n a b := by
 unfold uL rowU
 rw [fm_succ, List.append_assoc]
theorem uL_end {n a b : Nat} (hb : b ≤ 45) (h : n < a * a + b * b) : uL n a b = listU n (a + 1) := by
 have e : rowU n a 45 = rowU n a b := by
  unfold rowU
  refine fm_cut _ hb (fun i h1 _ => ?_)
  unfold gU; rw [if_neg]
  have := Nat.mul_le_mul h1 h1
  omega
 unfold uL listU
 rw [fm_succ, e]
theorem listU_end {n a : Nat} (ha : a ≤ 45) (h : n < a * a) : listU n a = listU n 45 := by
 unfold listU
 refine (fm_cut _ ha (fun i h1 _ => ?_)).symm
 unfold rowU
 rw [fm_cut _ (b := 0) (n := 45) (by omega) (fun j _ _ => ?_)]
 ·simp
 ·unfold gU; rw [if_neg]
  have := Nat.mul_le_mul h1 h1
  omega
theorem listU_1 (n : Nat) : listU n 1 = [] := by
 unfold listU rowU
 rw [fm_cut _ (b := 0) (n := 1) (by omega) (fun a _ _ => ?_)]
 ·simp
 ·rw [fm_cut _ (b := 0) (n := 45) (by omega) (fun j _ _ => ?_)]
  ·simp
  ·unfold gU; rw [if_neg]; omega
theorem colU_loop (cx : Cx) {n a : Nat} (hn : n ≤ 2000) (ha1 : 1 ≤ a) (ha : a < 45) (H : SHeap) : ∀ k ρ ms h' d', (∃ (b : Nat) (v : Value), b + k = 45 ∧ ρ 0 = .int .i64 n ∧ ρ 4 = v ∧ ρ 5 = .int .i64 a ∧ ρ 6 = .int .i64 b ∧ AccS H h' v ((uL n a b).flatMap celF) (uL n a b).length 3 84 ∧ ms = [] ∧ d' = []) →
  LoopW M cx 6 sf51L1 ρ ms h' d' (fun ex ρ' ms' h' d' => ex = .exit 2 ∧ ms' = [] ∧ d' = [] ∧ ∃ v : Value, ρ' 0 = .int .i64 n ∧ ρ' 4 = v ∧ ρ' 5 = .int .i64 a ∧ AccS H h' v ((listU n (a + 1)).flatMap celF) (listU n (a + 1)).length 3 84) := by
 refine loop_run _ ?_
 rintro k ρ ms h' d' ⟨b, v, hk, r0, r4, r5, r6, A, rfl, rfl⟩
 unfold sf51L1
 have w1 := mul_w (a := a) (b := a) (by omega) (by omega)
 have w2 := mul_w (a := b) (b := b) (by omega) (by omega)
 have w3 := add_w (sq_le (show a ≤ 2000000001 by omega)) (sq_le (show b ≤ 2000000001 by omega))
 by_cases hc : n < a * a + b * b
 ·have e1 : ¬ (((a * a + b * b : Nat) : Int) ≤ n) := by omega
  repeat (first | apply Z1 | apply Z2 | apply Z3 | apply Z4 | apply Z5 rfl | apply Z6 | apply Z7 | apply Z8 | apply Z9 | apply ZA | apply ZB | apply ZC | ((first | apply ZD (by decide) | apply ZN (by decide)); (simp (maxSteps := 9999999) only [go_sem, r0, r5, r6, w1, w2, w3, e1]; rfl)) | (refine ZE ?_ ?_; · simp only [go_sem]) | (refine ZF ?_ ?_; · simp only [go_sem]))
  refine end_nil ⟨rfl, rfl, rfl, v, by simp only [go_sem, r0], by simp only [go_sem, r4], by simp only [go_sem, r5], ?_⟩
  rw [← uL_end (by omega) hc]; exact A
 ·have e1 : ((a * a + b * b : Nat) : Int) ≤ n := by omega
  have hb : b < 45 := sq_45 (show b * b ≤ n by omega) hn
  have ew : IntKind.i64.wrap ((b : Int) + 1) = ((b + 1 : Nat) : Int) := by rw [wrap64 (by omega) (by omega)]; rfl
  have bd : Bd 30000 ((a : Int), (b : Int)) := ⟨by dsimp only; omega, by dsimp only; omega, by dsimp only; omega, by dsimp only; omega⟩
  have c75 : ∀ h, M.call 75 [.agg #[.int .i64 a, .int .i64 b]] h = some (.bool (primeP ((a : Int), (b : Int))), h, []) := fun h => prime75 (p := ((a : Int), (b : Int))) bd h
  have c59 : ∀ h, M.call 59 [.agg #[.int .i64 a, .int .i64 b]] h = some (.int .i64 ((a * a + b * b : Nat) : Int), h, []) := fun h => by
   have := norm59 (p := ((a : Int), (b : Int))) bd (by decide) h
   rw [show nrm ((a : Int), (b : Int)) = ((a * a + b * b : Nat) : Int) by unfold nrm; dsimp only; rw [← Int.natCast_mul, ← Int.natCast_mul]; rfl] at this
   exact this
  have hs : uL n a (b + 1) = uL n a b ++ gU n a b := uL_succ
  have hlen := uL_len n a b
  unfold gU at hs
  by_cases hp : primeP ((a : Int), (b : Int)) = true
  ·rw [if_pos ⟨ha1, by omega, hp⟩] at hs
   rw [hp] at c75
   obtain ⟨H2, v2, ap, -, A2, -, -⟩ := ((A.app [.cells [.int .i64 a, .int .i64 b] 68 true 0 []]).app [.cells (celF (fa a b)) 84 true 0 []]).push (bytes := 24) (new := celF (fa a b)) (by rw [app_get0]; rfl) rfl rfl (by decide) rfl (by decide) (by omega)
   have hpp : (uL n a (b + 1)).flatMap celF = (uL n a b).flatMap celF ++ celF (fa a b) := by rw [hs, List.flatMap_append]; simp
   have hl : (uL n a (b + 1)).length = (uL n a b).length + 1 := by rw [hs, List.length_append]; rfl
   rw [← hpp, ← hl] at A2
   obtain ⟨va, vc, rfl⟩ := A.shape
   simp only [celF, fa, List.append_assoc, List.length_append, List.length_cons, List.length_nil, List.cons_append, List.nil_append, Nat.zero_add] at ap
   repeat (first | apply Z1 | apply Z2 | apply Z3 | apply Z4 | apply Z5 rfl | apply Z6 | apply Z7 | apply Z8 | apply Z9 | apply ZA | apply ZB | apply ZC | ((first | apply ZD (by decide) | apply ZN (by decide)); (simp (maxSteps := 9999999) only [go_sem, r0, r4, r5, r6, w1, w2, w3, e1, c75, c59, ap, ew]; rfl)) | (refine ZE ?_ ?_; · simp only [go_sem]) | (refine ZF ?_ ?_; · simp only [go_sem]))
   exact end_nil ⟨k - 1, by omega, b + 1, v2, by omega, by simp only [go_sem, r0], by simp only [go_sem], by simp only [go_sem, r5], by simp only [go_sem, ew], A2, rfl, rfl⟩
  ·rw [if_neg (fun h => hp h.2.2), List.append_nil] at hs
   have hp' : primeP ((a : Int), (b : Int)) = false := by simpa using hp
   rw [hp'] at c75
   repeat (first | apply Z1 | apply Z2 | apply Z3 | apply Z4 | apply Z5 rfl | apply Z6 | apply Z7 | apply Z8 | apply Z9 | apply ZA | apply ZB | apply ZC | ((first | apply ZD (by decide) | apply ZN (by decide)); (simp (maxSteps := 9999999) only [go_sem, r0, r4, r5, r6, w1, w2, w3, e1, c75, ew]; rfl)) | (refine ZE ?_ ?_; · simp only [go_sem]) | (refine ZF ?_ ?_; · simp only [go_sem]))
   exact end_nil ⟨k - 1, by omega, b + 1, v, by omega, by simp only [go_sem, r0], by simp only [go_sem, r4], by simp only [go_sem, r5], by simp only [go_sem, ew], by rw [hs]; exact A.app _, rfl, rfl⟩
theorem tabU_loop (cx : Cx) {n : Nat} (hn : n ≤ 2000) (H : SHeap) : ∀ k ρ ms h' d', (∃ (a : Nat) (v : Value), a + k = 45 ∧ 1 ≤ a ∧ ρ 0 = .int .i64 n ∧ ρ 4 = v ∧ ρ 5 = .int .i64 a ∧ AccS H h' v ((listU n a).flatMap celF) (listU n a).length 3 84 ∧ ms = [] ∧ d' = []) →
  LoopW M cx 6 sf51L2 ρ ms h' d' (fun ex ρ' ms' h' d' => ex = .exit 0 ∧ ms' = [] ∧ d' = [] ∧ ∃ v : Value, ρ' 4 = v ∧ AccS H h' v ((listU n 45).flatMap celF) (listU n 45).length 3 84) := by
 refine loop_run _ ?_
 rintro k ρ ms h' d' ⟨a, v, hk, ha1, r0, r4, r5, A, rfl, rfl⟩
 unfold sf51L2
 have w1 := mul_w (a := a) (b := a) (by omega) (by omega)
 by_cases hc : n < a * a
 ·have e1 : ¬ (((a * a : Nat) : Int) ≤ n) := by omega
  repeat (first | apply Z1 | apply Z2 | apply Z3 | apply Z4 | apply Z5 rfl | apply Z6 | apply Z7 | apply Z8 | apply Z9 | apply ZA | apply ZB | apply ZC | ((first | apply ZD (by decide) | apply ZN (by decide)); (simp (maxSteps := 9999999) only [go_sem, r0, r5, w1, e1]; rfl)) | (refine ZE ?_ ?_; · simp only [go_sem]) | (refine ZF ?_ ?_; · simp only [go_sem]))
  refine end_nil ⟨rfl, rfl, rfl, v, by simp only [go_sem, r4], ?_⟩
  rw [← listU_end (by omega) hc]; exact A
 ·have e1 : ((a * a : Nat) : Int) ≤ n := by omega
  have ha : a < 45 := sq_45 (show a * a ≤ n by omega) hn
  have ew : IntKind.i64.wrap ((a : Int) + 1) = ((a + 1 : Nat) : Int) := by rw [wrap64 (by omega) (by omega)]; rfl
  have e0 : uL n a 0 = listU n a := by unfold uL rowU; simp
  repeat (first | apply Z1 | apply Z2 | apply Z3 | apply Z4 | apply Z5 rfl | apply Z6 | apply Z7 | apply Z8 | apply Z9 | apply ZA | apply ZB | apply ZC | ((first | apply ZD (by decide) | apply ZN (by decide)); (simp (maxSteps := 9999999) only [go_sem, r0, r5, w1, e1]; rfl)) | (refine ZE ?_ ?_; · simp only [go_sem]) | (refine ZF ?_ ?_; · simp only [go_sem]))
  refine run_loop (colU_loop cx (n := n) (a := a) hn ha1 ha H 45 _ _ _ _ ⟨0, v, by omega, by simp only [go_sem, r0], by simp only [go_sem, r4], by simp only [go_sem, r5], by simp only [go_sem], by rw [e0]; exact A, rfl, rfl⟩) ?_
  rintro ex ρ' ms' h1 d1 ⟨rfl, rfl, rfl, v2, k0, k4, k5, A2⟩
  repeat (first | apply Z1 | apply Z2 | apply Z3 | apply Z4 | apply Z5 rfl | apply Z6 | apply Z7 | apply Z8 | apply Z9 | apply ZA | apply ZB | apply ZC | ((first | apply ZD (by decide) | apply ZN (by decide)); (simp (maxSteps := 9999999) only [go_sem, k5, ew]; rfl)) | (refine ZE ?_ ?_; · simp only [go_sem]) | (refine ZF ?_ ?_; · simp only [go_sem]))
  exact end_nil ⟨k - 1, by omega, a + 1, v2, by omega, by omega, by simp only [go_sem, k0], by simp only [go_sem, k4], by simp only [go_sem, ew], A2, rfl, rfl⟩
end
end Go.Proofs.YtdmfhdnpakgkpaaDoor.Sh
namespace Go.Proofs.YtdmfhdnpakgkpaaDoor.Sh
section
open Go
set_option maxRecDepth 100000
set_option maxHeartbeats 4000000
def gP (f : Nat → Fa) (i : Nat) : List (Int × Int) := (List.range i).map (fun j => (f j).2)
theorem gP_succ (f : Nat → Fa) (i : Nat) : gP f (i + 1) = gP f i ++ [(f i).2] := by unfold gP; rw [List.range_succ, List.map_append]; rfl
theorem load_same {h h' : SHeap} {b o : Nat} (e : h'[b]? = h[b]?) (t : Option Nat) : loadS h' t (.pointer (some ⟨b, o, none⟩)) = loadS h t (.pointer (some ⟨b, o, none⟩)) := by
 cases t with
 | none => rw [load_rdO, load_rdO, e]
 | some n => rw [load_rdON, load_rdON, e]
theorem copy_loop (cx : Cx) {N b cap : Nat} {h1 h2 : SHeap} {old : List Nat} {f : Nat → Fa} (hN : N ≤ 60000) (S : SA celF N b 84 h1 old h2 f) : ∀ k ρ ms h' d', (∃ (i : Nat) (v : Value), i + k = N ∧ ρ 8 = v ∧ ρ 49 = .slice (some ⟨b, 0, none⟩) N cap ∧ ρ 50 = .int .i64 N ∧ ρ 51 = .int .i64 i ∧ AccS h2 h' v (prs (gP f i)) i 2 34 ∧ ms = [] ∧ d' = []) →
  LoopW M cx 6 sf51L0 ρ ms h' d' (fun ex ρ' ms' h' d' => ex = .exit 4 ∧ ms' = [] ∧ d' = [] ∧ ∃ v : Value, ρ' 8 = v ∧ AccS h2 h' v (prs (gP f N)) N 2 34) := by
 refine loop_run _ ?_
 rintro k ρ ms h' d' ⟨i, v, hk, r8, r49, r50, r51, A, rfl, rfl⟩
 unfold sf51L0
 by_cases hc : i = N
 ·have e1 : ¬ ((i : Int) < N) := by omega
  repeat (first | apply Z1 | apply Z2 | apply Z3 | apply Z4 | apply Z5 rfl | apply Z6 | apply Z7 | apply Z8 | apply Z9 | apply ZA | apply ZB | apply ZC | ((first | apply ZD (by decide) | apply ZN (by decide)); (simp (maxSteps := 9999999) only [go_sem, r49, r50, r51, e1]; rfl)) | (refine ZE ?_ ?_; · simp only [go_sem]) | (refine ZF ?_ ?_; · simp only [go_sem]))
  refine end_nil ⟨rfl, rfl, rfl, v, by simp only [go_sem, r8], ?_⟩
  rw [← hc]; exact A
 ·have e1 : ((i : Int) < N) := by omega
  have e2 : (0 : Int) ≤ i := by omega
  have l1 := S.load celF_len (show i < N by omega)
  rw [← load_same (A.same b S.lt)] at l1
  have hs := gP_succ f i
  have ew : IntKind.i64.wrap ((i : Int) + 1) = ((i + 1 : Nat) : Int) := by rw [wrap64 (by omega) (by omega)]; rfl
  generalize f i = x at *
  unfold celF at l1
  obtain ⟨H2, v2, ap, -, A2, -, -⟩ := ((A.app [.cells [.int .i64 x.1, .int .i64 x.2.1, .int .i64 x.2.2] 84 true 0 []]).app [.cells [.int .i64 x.2.1, .int .i64 x.2.2] 34 true 0 []]).push (bytes := 16) (new := [.int .i64 x.2.1, .int .i64 x.2.2]) (by rw [app_get0]; rfl) rfl rfl (by decide) rfl (by decide) (by omega)
  have hpp : prs (gP f (i + 1)) = prs (gP f i) ++ [.int .i64 x.2.1, .int .i64 x.2.2] := by rw [hs, prs_app]; rfl
  rw [← hpp] at A2
  obtain ⟨va, vc, rfl⟩ := A.shape
  simp only [List.append_assoc, List.length_append, List.length_cons, List.length_nil, List.cons_append, List.nil_append, Nat.zero_add] at ap
  repeat (first | apply Z1 | apply Z2 | apply Z3 | apply Z4 | apply Z5 rfl | apply Z6 | apply Z7 | apply Z8 | apply Z9 | apply ZA | apply ZB | apply ZC | ((first | apply ZD (by decide) | apply ZN (by decide)); (simp (maxSteps := 9999999) only [go_sem, r8, r49, r50, r51, e1, e2, l1, ap, ew]; rfl)) | (refine ZE ?_ ?_; · simp only [go_sem]) | (refine ZF ?_ ?_; · simp only [go_sem]))
  exact end_nil ⟨k - 1, by omega, i + 1, v2, by omega, by simp only [go_sem], by simp only [go_sem, r49], by simp only [go_sem, r50], by simp only [go_sem, ew], A2, rfl, rfl⟩
theorem copy0_loop (cx : Cx) (H : SHeap) : ∀ (k : Nat) ρ ms h' d', (ρ 8 = .slice none 0 0 ∧ ρ 50 = .int .i64 0 ∧ ρ 51 = .int .i64 0 ∧ ms = [] ∧ h' = H ∧ d' = []) →
  LoopW M cx 6 sf51L0 ρ ms h' d' (fun ex ρ' ms' h' d' => ex = .exit 4 ∧ ms' = [] ∧ d' = [] ∧ h' = H ∧ ρ' 8 = .slice none 0 0) := by
 refine loop_run _ ?_
 rintro k ρ ms h' d' ⟨r8, r50, r51, rfl, rfl, rfl⟩
 unfold sf51L0
 repeat (first | apply Z1 | apply Z2 | apply Z3 | apply Z4 | apply Z5 rfl | apply Z6 | apply Z7 | apply Z8 | apply Z9 | apply ZA | apply ZB | apply ZC | ((first | apply ZD (by decide) | apply ZN (by decide)); (simp (maxSteps := 9999999) only [go_sem, r8, r50, r51]; rfl)) | (refine ZE ?_ ?_; · simp only [go_sem]) | (refine ZF ?_ ?_; · simp only [go_sem]))
 exact end_nil ⟨rfl, rfl, rfl, rfl, by simp only [go_sem, r8]⟩
def prL (n : Nat) : List (Int × Int) := (listD (n + 1)).map (fun x => x.2)
theorem prL_len {n : Nat} : (prL n).length = (listU n 45).length := by
 unfold prL
 rw [List.length_map, (perm_UD n).length_eq]
theorem primes51 {n : Nat} (hn : n ≤ 2000) (h : SHeap) : M.call 51 [.int .i64 n] h = some (.tuple #[resV h (prL n).length 2, .int .i64 0], resH h (prs (prL n)) (prL n).length 34, []) := by
 have e1 : ¬ ((n : Int) < 0) := by omega
 have e2 : ¬ ((2000 : Int) < n) := by omega
 refine call_run sf51 rfl rfl rfl ?_
 unfold sf51
 repeat (first | apply Z1 | apply Z2 | apply Z3 | apply Z4 | apply Z5 rfl | apply Z6 | apply Z7 | apply Z8 | apply Z9 | apply ZA | apply ZB | apply ZC | ((first | apply ZD (by decide) | apply ZN (by decide)); (simp (maxSteps := 9999999) only [go_sem, argR, e1, e2]; rfl)) | (refine ZE ?_ ?_; · simp only [go_sem]) | (refine ZF ?_ ?_; · simp only [go_sem]))
 refine run_loop (tabU_loop _ hn h 44 _ _ _ _ ⟨1, .slice none 0 0, by omega, by omega, by simp only [go_sem, argR], by simp only [go_sem], by simp only [go_sem], by rw [listU_1]; exact AccS.nil0 h 3 84, rfl, rfl⟩) ?_
 rintro ex ρ' ms' h1 d1 ⟨rfl, rfl, rfl, v, k4, A⟩
 have hlU := len_U n 45
 by_cases hz : (listU n 45).length = 0
 ·have hv : v = .slice none 0 0 ∧ True := by
   have := A.acc
   rw [hz] at this
   rcases this with ⟨_, e, _⟩ | ⟨b, old, _, _, _, _, _, _, hh⟩
   ·exact ⟨by first | exact e | assumption, trivial⟩
   ·exact ⟨by first | assumption | omega, trivial⟩
  obtain ⟨rfl, -⟩ := hv
  have c := fun h => sort0F 71 h
  repeat (first | apply Z1 | apply Z2 | apply Z3 | apply Z4 | apply Z5 rfl | apply Z6 | apply Z7 | apply Z8 | apply Z9 | apply ZA | apply ZB | apply ZC | ((first | apply ZD (by decide) | apply ZN (by decide)); (simp (maxSteps := 9999999) only [go_sem, k4, c]; rfl)) | (refine ZE ?_ ?_; · simp only [go_sem]) | (refine ZF ?_ ?_; · simp only [go_sem]))
  refine run_loop (copy0_loop _ h1 0 _ _ _ _ ⟨by simp only [go_sem], by simp only [go_sem], by simp only [go_sem], rfl, rfl, rfl⟩) ?_
  rintro ex ρ2 ms2 h2 d2 ⟨rfl, rfl, rfl, rfl, k8⟩
  repeat (first | apply Z1 | apply Z2 | apply Z3 | apply Z4 | apply Z5 rfl | apply Z6 | apply Z7 | apply Z8 | apply Z9 | apply ZA | apply ZB | apply ZC | ((first | apply ZD (by decide) | apply ZN (by decide)); (simp (maxSteps := 9999999) only [go_sem, k8]; rfl)) | (refine ZE ?_ ?_; · simp only [go_sem]) | (refine ZF ?_ ?_; · simp only [go_sem]))
  have hl : (prL n).length = 0 := by rw [prL_len, hz]
  rw [hl, show resV h 0 2 = .slice none 0 0 from rfl, show resH h (prs (prL n)) 0 34 = h from rfl]
  exact end_nil (q_free [.slice none 0 0, .int .i64 0] (by simp only [go_sem, k8]) rfl rfl rfl (fun _ => rfl) (A.at0.take rfl) rfl)
 ·obtain ⟨b, old, rfl, hb, hb1, hold⟩ := A.at0.cellsAt hz
  have hbl : b < h1.length := (List.getElem?_eq_some_iff.1 hb).1
  generalize hf : (fun i => (listU n 45).getD i (0, 0, 0)) = f at *
  have hfl : flF celF f (listU n 45).length = (listU n 45).flatMap celF := by
   rw [flF_list, ← hf, getD_range]
  have S : SA celF (listU n 45).length b 84 h1 old h1 f := ⟨rfl, fun j _ _ => rfl, old, fun c hc => hc, by rw [hfl]; exact hb⟩
  obtain ⟨h2, f2, cs, S2, W, O⟩ := sortF (cap := UNK + 3) CF celF_len celF_sc (by omega) (fun c hc => by have := (hold c hc).2; omega) S
  have hL : (List.range (listU n 45).length).map f2 = listD (n + 1) := by
   refine sorted_eq (c := cF) (fun x y => cF_anti) W O (l := listU n 45) ?_ (perm_UD n) (le_listD _)
   rw [← hf, getD_range]
  have hg : gP f2 (listU n 45).length = prL n := by
   unfold gP prL
   rw [← hL, List.map_map]; rfl
  have hlen2 : h.length ≤ h2.length := by rw [S2.len]; omega
  have hpre : h2.take h.length = h := take_of_same hlen2 (fun j hj => by
   rw [S2.same j (by omega) (fun hm => by have := (hold j hm).1; omega)]
   exact A.same j hj)
  obtain ⟨g, rfl⟩ : ∃ g, h2 = h ++ g := ⟨h2.drop h.length, by have := List.take_append_drop h.length h2; rw [hpre] at this; exact this.symm⟩
  repeat (first | apply Z1 | apply Z2 | apply Z3 | apply Z4 | apply Z5 rfl | apply Z6 | apply Z7 | apply Z8 | apply Z9 | apply ZA | apply ZB | apply ZC | ((first | apply ZD (by decide) | apply ZN (by decide)); (simp (maxSteps := 9999999) only [go_sem, k4, cs]; rfl)) | (refine ZE ?_ ?_; · simp only [go_sem]) | (refine ZF ?_ ?_; · simp only [go_sem]))
  refine run_loop (copy_loop _ (cap := UNK + 3) (by omega) S2 (listU n 45).length _ _ _ _ ⟨0, .slice none 0 0, by omega, by simp only [go_sem], by simp only [go_sem], by simp only [go_sem], by simp only [go_sem], AccS.nil0 _ 2 34, rfl, rfl⟩) ?_
  rintro ex ρ2 ms2 h3 d3 ⟨rfl, rfl, rfl, v, k8, A3⟩
  repeat (first | apply Z1 | apply Z2 | apply Z3 | apply Z4 | apply Z5 rfl | apply Z6 | apply Z7 | apply Z8 | apply Z9 | apply ZA | apply ZB | apply ZC | ((first | apply ZD (by decide) | apply ZN (by decide)); (simp (maxSteps := 9999999) only [go_sem, k8]; rfl)) | (refine ZE ?_ ?_; · simp only [go_sem]) | (refine ZF ?_ ?_; · simp only [go_sem]))
  rw [hg, ← prL_len] at A3
  exact end_nil (A3.q2 _ rfl rfl (by simp only [go_sem, k8]) (by simp only [go_sem]) rfl)
end
end Go.Proofs.YtdmfhdnpakgkpaaDoor.Sh
namespace Go.Proofs.YtdmfhdnpakgkpaaDoor.Sh
section
open Go
set_option maxRecDepth 100000
set_option maxHeartbeats 4000000
def lookV (q : EqK) (zero : Value) (ok : Bool) (m k : Option Value) (h : SHeap) (d : List Nat) : Option (Value × SHeap × List Nat) :=
 match m, k with
  | some (.map (some r)), some k =>
   if keyS q k then
   match h[r]? with
   | some (.map _ es) => match findS q k es with
    | some (some v) => some (if ok then .tuple #[v, .bool true] else v, h, d)
    | some none => some (if ok then .tuple #[zero, .bool false] else zero, h, d)
    | none => none
   | _ => none
   else none
  | _, _ => none
theorem E_lookup (R : Rec) (cx : Cx) (e : Evl) (sl : Option Nat) (q : EqK) (zero : Value) (ok : Bool) (m k : Operand) (h : SHeap) (d : List Nat) : opE R cx e sl (.lookup q zero ok m k) h d = lookV q zero ok (e m) (e k) h d := (rfl)
attribute [go_sem] E_lookup
abbrev faP (q : Int × Int) : Fa := (nrm q, q)
structure FS (n : Nat) (H h : SHeap) (z : Int × Int) (l : List (Int × Int)) (S : List (Int × Int)) (v : Value) : Prop where
 le : n + 6 ≤ h.length
 fr : ∀ j, j < n + 2 → h[j]? = H[j]?
 hz : h[n + 2]? = some (bn z)
 hl : h[n + 3]? = some (.cells [v] 79 false 0 [])
 hm : h[n + 4]? = some (.map true (S.map ent))
 hk : h[n + 5]? = some (.cells [.map (some (n + 4))] 70 false 0 [])
 acc : Acc (n + 6) h v ((l.map faP).flatMap celF) l.length 3 84
section
variable {n : Nat} {H h : SHeap} {z q : Int × Int} {l S : List (Int × Int)} {v : Value}
theorem FS.app (F : FS n H h z l S v) (g : SHeap) : FS n H (h ++ g) z l S v := by
 have k : ∀ j, j < h.length → (h ++ g)[j]? = h[j]? := fun j hj => List.getElem?_append_left hj
 have := F.le
 refine ⟨by simp; omega, fun j hj => by rw [k j (by omega)]; exact F.fr j hj, ?_, ?_, ?_, ?_, F.acc.keep (fun b e => k b (F.acc.lt e).2)⟩
 ·rw [k _ (by omega)]; exact F.hz
 ·rw [k _ (by omega)]; exact F.hl
 ·rw [k _ (by omega)]; exact F.hm
 ·rw [k _ (by omega)]; exact F.hk
theorem FS.cut (F : FS n H h z l S v) {B : Nat} (hB : n + 6 ≤ B) (hv : ∀ b, v = .slice (some ⟨b, 0, none⟩) l.length (UNK + 3) → b < B) : FS n H (h.take B) z l S v := by
 have := F.le
 have k : ∀ j, j < B → (h.take B)[j]? = h[j]? := fun j hj => by rw [List.getElem?_take, if_pos hj]
 refine ⟨by simp; omega, fun j hj => by rw [k j (by omega)]; exact F.fr j hj, ?_, ?_, ?_, ?_, F.acc.keep (fun b e => k b (hv b e))⟩
 ·rw [k _ (by omega)]; exact F.hz
 ·rw [k _ (by omega)]; exact F.hl
 ·rw [k _ (by omega)]; exact F.hm
 ·rw [k _ (by omega)]; exact F.hk
theorem load_bn {b : Nat} {p : Int × Int} {el : TypeId} {own : Nat} {old : List Nat} (hb : h[b]? = some (.cells [.int .i64 p.1, .int .i64 p.2] el true own old)) (hr : readable own = true) (g : SHeap) : loadS (h ++ g) (some 2) (.pointer (some ⟨b, 0, none⟩)) = some (.agg #[.int .i64 p.1, .int .i64 p.2]) := by
 have hlt := (List.getElem?_eq_some_iff.1 hb).1
 rw [load_rdON, List.getElem?_append_left hlt, hb, rdON_cells, hr]; rfl
theorem store_at {b base : Nat} {cs vs : List Value} {el : TypeId} {pf : Bool} (hb : h[b]? = some (.cells cs el pf 0 [])) (hlen : vs.length = cs.length) (h0 : 0 < vs.length) (h1 : vs.all oneC = true) (hp : pf = true → vs.all sc = true) (d : List Nat) : ∀ (hw : writeAt cs 0 vs = vs), storeS base h d b 0 vs = some (h.set b (.cells vs el pf 0 []), dirty base b pf d) := by
 intro hw
 rw [store_def, hb]
 dsimp only
 have e1 : ((0 : Nat) == 0) = true := rfl
 have e2 : Nat.ble (0 + vs.length) cs.length = true := by rw [ble_dec]; simp; omega
 have e3 : Nat.blt 0 vs.length = true := by rw [blt_dec]; simpa using h0
 have e4 : (!pf || vs.all sc) = true := by
  cases pf with
  | false => rfl
  | true => rw [hp rfl]; rfl
 rw [e1, e2, e3, e4, h1, hw]
 rfl
theorem FS.push (F : FS n H h z l S v) {bs base : Nat} (hs : h[bs]? = some (.cells [.int .i64 (nrm q), .int .i64 q.1, .int .i64 q.2] 84 true 0 [])) (hlen : l.length ≤ 1000) (hbase : n + 6 ≤ base) :
  ∃ H3 h4 b2, (∀ d, appendS base h d 84 true 3 24 v (.slice (some ⟨bs, 0, none⟩) 1 1) = some (.slice (some ⟨b2, 0, none⟩) (l.length + 1) (UNK + 3), H3, d)) ∧
   (∀ d, storeS base H3 d (n + 3) 0 [.slice (some ⟨b2, 0, none⟩) (l.length + 1) (UNK + 3)] = some (h4, (n + 3) :: d)) ∧
   FS n H h4 z (l ++ [q]) S (.slice (some ⟨b2, 0, none⟩) (l.length + 1) (UNK + 3)) ∧ h.length ≤ h4.length ∧
   (∀ j cs el pf own old, n + 6 ≤ j → h[j]? = some (.cells cs el pf own old) → el ≠ 84 → h4[j]? = h[j]?) := by
 have hle := F.le
 obtain ⟨old', ap, acc2, kp⟩ := acc_append (bytes := 24) F.acc hs rfl rfl (by decide) rfl (by decide) (by omega) hle
 have nb : ∀ j, j < n + 6 → ∀ b, v = .slice (some ⟨b, 0, none⟩) l.length (UNK + 3) → j ≠ b := fun j hj b e => by have := F.acc.lt e; omega
 have hcs : ((l.map faP).flatMap celF) ++ [.int .i64 (nrm q), .int .i64 q.1, .int .i64 q.2] = ((l ++ [q]).map faP).flatMap celF := by
  simp [celF]
 rw [hcs] at ap acc2 kp
 have hH3len : (shv h v ++ [SO.cells (((l ++ [q]).map faP).flatMap celF) 84 true 0 old']).length = h.length + 1 := by simp [shv_len]
 generalize shv h v ++ [SO.cells (((l ++ [q]).map faP).flatMap celF) 84 true 0 old'] = H3 at *
 have hl3 : H3[n + 3]? = some (.cells [v] 79 false 0 []) := by rw [kp _ (by omega) (nb _ (by omega))]; exact F.hl
 refine ⟨H3, H3.set (n + 3) (.cells [.slice (some ⟨h.length, 0, none⟩) (l.length + 1) (UNK + 3)] 79 false 0 []), h.length, fun d => ap base d, fun d => ?_, ?_, by simp; omega, ?_⟩
 ·rw [store_at (vs := [.slice (some ⟨h.length, 0, none⟩) (l.length + 1) (UNK + 3)]) hl3 rfl (Nat.zero_lt_succ _) rfl (fun h => by cases h) d rfl]
  have : dirty base (n + 3) false d = (n + 3) :: d := by
   unfold dirty
   have : Nat.ble base (n + 3) = false := by rw [ble_dec]; simp; omega
   rw [this]; rfl
  rw [this]
 ·have k : ∀ j, j ≠ n + 3 → (H3.set (n + 3) (.cells [.slice (some ⟨h.length, 0, none⟩) (l.length + 1) (UNK + 3)] 79 false 0 []))[j]? = H3[j]? := fun j hj => List.getElem?_set_ne (by omega)
  have k2 : ∀ j, j < n + 6 → j ≠ n + 3 → (H3.set (n + 3) (.cells [.slice (some ⟨h.length, 0, none⟩) (l.length + 1) (UNK + 3)] 79 false 0 []))[j]? = h[j]? := fun j hj hne => by rw [k j hne, kp j (by omega) (nb j hj)]
  refine ⟨by simp; omega, fun j hj => by rw [k2 j (by omega) (by omega)]; exact F.fr j hj, ?_, ?_, ?_, ?_, ?_⟩
  ·rw [k2 _ (by omega) (by omega)]; exact F.hz
  ·rw [List.getElem?_set_self (by omega)]
  ·rw [k2 _ (by omega) (by omega)]; exact F.hm
  ·rw [k2 _ (by omega) (by omega)]; exact F.hk
  ·rw [List.length_append]
   exact acc2.keep (fun b e => k b (by have := acc2.lt e; omega))
 ·intro j cs el pf own old hj hc hel
  have hjl := (List.getElem?_eq_some_iff.1 hc).1
  rw [List.getElem?_set_ne (by omega), kp j hjl]
  rintro b rfl e
  subst e
  rcases F.acc with ⟨_, e, _⟩ | ⟨b', old', e, h1, _⟩
  ·cases e
  ·cases e
   rw [hc] at h1
   cases h1
   exact hel rfl
end
end
end Go.Proofs.YtdmfhdnpakgkpaaDoor.Sh
namespace Go.Proofs.YtdmfhdnpakgkpaaDoor.Sh
section
open Go
set_option maxRecDepth 100000
set_option maxHeartbeats 4000000
structure SI0 (n B : Nat) (H h : SHeap) (q z0 z : Int × Int) (l0 l S : List (Int × Int)) (v0 v : Value) (d : List Nat) (pb LB : Nat) (L : List (Int × Int)) : Prop where
 fs : FS n H h z l S v
 new : ∃ N, l = l0 ++ N ∧ z0 = mulP (prodL N) z ∧ ∀ x ∈ N, x = q
 pq : h[pb]? = some (bn q)
 ls : h[LB]? = some (.cells (prs L) 68 true 0 [])
 nz : z ≠ (0, 0)
 wt : ((2 ^ l.length : Nat) : Int) * nrm z ≤ 1800000000
 dv : d = [] → v = v0
 dd : ∀ x ∈ d, x = n + 3
 len : B ≤ h.length
theorem SI0.small {n B : Nat} {H h : SHeap} {q z0 z : Int × Int} {l0 l S : List (Int × Int)} {v0 v : Value} {d : List Nat} {pb LB : Nat} {L : List (Int × Int)} (I : SI0 n B H h q z0 z l0 l S v0 v d pb LB L) : nrm z ≤ 1800000000 ∧ l.length ≤ 1000 := by
 have h1 := nrm_pos I.nz
 have h2 : 1 ≤ 2 ^ l.length := Nat.one_le_two_pow
 have h3 := I.wt
 have h4 := Int.mul_le_mul_of_nonneg_right (show (1 : Int) ≤ ((2 ^ l.length : Nat) : Int) by omega) (show 0 ≤ nrm z by omega)
 have h5 := Int.mul_le_mul_of_nonneg_left h1 (show (0 : Int) ≤ ((2 ^ l.length : Nat) : Int) by omega)
 refine ⟨by omega, ?_⟩
 have h6 : l.length < 2 ^ l.length := Nat.lt_two_pow_self
 by_cases c : l.length ≤ 1000
 ·exact c
 ·exfalso
  have : 2 ^ 31 ≤ 2 ^ l.length := Nat.pow_le_pow_right (by decide) (by omega)
  omega
end
end Go.Proofs.YtdmfhdnpakgkpaaDoor.Sh
namespace Go.Proofs.YtdmfhdnpakgkpaaDoor.Sh
section
open Go
set_option maxRecDepth 100000
set_option maxHeartbeats 4000000
structure TK (p : Nat) (z0 : Int × Int) (l0 S0 : List (Int × Int)) (z : Int × Int) (l S : List (Int × Int)) : Prop where
 new : ∃ N, l = l0 ++ N ∧ z0 = mulP (prodL N) z ∧ ∀ x ∈ N, x ∈ overP p
 nz : z ≠ (0, 0)
 wt : ((2 ^ l.length : Nat) : Int) * nrm z ≤ 1800000000
 kn : ∀ x ∈ S, ¬ dv x z
 old : ∀ x ∈ S0, x ∈ S
structure SI1 (n B : Nat) (H h : SHeap) (p i : Nat) (z0 z : Int × Int) (l0 l S0 S : List (Int × Int)) (v0 v : Value) (d : List Nat) : Prop where
 fs : FS n H h z l S v
 tk : TK p z0 l0 S0 z l S
 ls : h[B]? = some (.cells (prs (overP p)) 68 true 0 [])
 done : ∀ x ∈ (overP p).take i, x ∈ S
 dv : d = [] → v = v0
 dd : ∀ x ∈ d, x = n + 3
theorem TK.small {p : Nat} {z0 z : Int × Int} {l0 l S0 S : List (Int × Int)} (I : TK p z0 l0 S0 z l S) : nrm z ≤ 1800000000 := by
 have h1 := nrm_pos I.nz
 have h2 : 1 ≤ 2 ^ l.length := Nat.one_le_two_pow
 have h3 := I.wt
 have h4 := Int.mul_le_mul_of_nonneg_right (show (1 : Int) ≤ ((2 ^ l.length : Nat) : Int) by omega) (show 0 ≤ nrm z by omega)
 omega
end
end Go.Proofs.YtdmfhdnpakgkpaaDoor.Sh
namespace Go.Proofs.YtdmfhdnpakgkpaaDoor.Sh
section
open Go
set_option maxRecDepth 100000
set_option maxHeartbeats 4000000
abbrev nN (z : Int × Int) : Nat := (nrm z).toNat
theorem nN_mul (a b : Int × Int) : nN (mulP a b) = nN a * nN b := by
 have h1 := nat_nrm a
 have h2 := nat_nrm b
 have h3 := nat_nrm (mulP a b)
 have h4 := nrm_mul a b
 have : ((nN (mulP a b) : Nat) : Int) = ((nN a * nN b : Nat) : Int) := by rw [Int.natCast_mul]; show ((nrm (mulP a b)).toNat : Int) = ((nrm a).toNat : Int) * ((nrm b).toNat : Int); rw [h1, h2, h3, h4]
 exact Int.ofNat.inj this
theorem prod_pow {p : Nat} (hp : primeN p = true) : ∀ {N : List (Int × Int)}, (∀ x ∈ N, x ∈ overP p) → ∃ k, nN (prodL N) = p ^ k
 | [], _ => ⟨0, rfl⟩
 | q :: r, h => by
  obtain ⟨k, hk⟩ := prod_pow hp (N := r) (fun x hx => h x (by simp [hx]))
  obtain ⟨_, _, c⟩ := over_prime hp (h q (by simp))
  rcases c with c | ⟨_, _, c⟩
  ·refine ⟨k + 1, ?_⟩
   show nN (mulP q (prodL r)) = _
   rw [nN_mul, hk, Nat.pow_succ, Nat.mul_comm]
   congr 1
   show (nrm q).toNat = p
   omega
  ·refine ⟨k + 2, ?_⟩
   show nN (mulP q (prodL r)) = _
   rw [nN_mul, hk, Nat.pow_succ, Nat.pow_succ, Nat.mul_comm, Nat.mul_assoc]
   congr 1
   show (nrm q).toNat = p * p
   have : ((p * p : Nat) : Int) = (p : Int) * p := Int.natCast_mul _ _
   omega
structure FI (x z : Int × Int) (l S : List (Int × Int)) : Prop where
 eq : x = mulP (prodL l) z
 isP : ∀ q ∈ l, isF q ∧ primeP q = true
 nz : z ≠ (0, 0)
 wt : ((2 ^ l.length : Nat) : Int) * nrm z ≤ 1800000000
 kn : ∀ q ∈ S, ¬ dv q z
theorem FI.le {x z : Int × Int} {l S : List (Int × Int)} (I : FI x z l S) : nN z ≤ 1800000000 := by
 have h1 := nrm_pos I.nz
 have h2 : 1 ≤ 2 ^ l.length := Nat.one_le_two_pow
 have h3 := I.wt
 have h4 := Int.mul_le_mul_of_nonneg_right (show (1 : Int) ≤ ((2 ^ l.length : Nat) : Int) by omega) (show 0 ≤ nrm z by omega)
 show (nrm z).toNat ≤ 1800000000
 omega
theorem FI.take {x z z2 : Int × Int} {l S l2 S2 : List (Int × Int)} {p : Nat} (I : FI x z l S) (hp : primeN p = true) (T : TK p z l S z2 l2 S2) (hall : ∀ q ∈ overP p, q ∈ S2) : FI x z2 l2 S2 ∧ ¬ p ∣ nN z2 ∧ ∃ k, nN z = p ^ k * nN z2 := by
 obtain ⟨N, n1, n2, n3⟩ := T.new
 refine ⟨⟨by rw [I.eq, n2, n1, prodL_app, mul_assoc'], fun q hq => ?_, T.nz, T.wt, T.kn⟩, fun hd => ?_, ?_⟩
 ·rw [n1] at hq
  rcases List.mem_append.1 hq with hq | hq
  ·exact I.isP q hq
  ·obtain ⟨k1, k2, _⟩ := over_prime hp (n3 q hq); exact ⟨k1, k2⟩
 ·obtain ⟨q, hq, hqd⟩ := over_dv hp (z := z2) (by
   obtain ⟨c, hc⟩ := hd
   refine ⟨(c : Int), ?_⟩
   rw [← nat_nrm z2, ← Int.natCast_mul]
   exact congrArg Int.ofNat hc)
  exact T.kn q (hall q hq) hqd
 ·obtain ⟨k, hk⟩ := prod_pow hp n3
  exact ⟨k, by rw [n2, nN_mul, hk]⟩
theorem call_caps (R : Rec) (base : Nat) (h : SHeap) (d : List Nat) (g : FuncId) (a b c x : Value) : callS R base h d (.func (.func g) #[] #[a, b, c]) [x] = match R.call g [x, a, b, c] h with
  | some (v, h', d') => some (v, h', dirts base d' d)
  | none => none := by simp [callS]; rfl
attribute [go_sem ↓] call_caps
structure FR36 (n : Nat) (ρ : Reg) (m d : Nat) : Prop where
 r2 : ρ 2 = .pointer (some ⟨n + 1, 0, none⟩)
 r3 : ρ 3 = .slice none 0 0
 r6 : ρ 6 = .pointer (some ⟨n + 2, 0, none⟩)
 r7 : ρ 7 = .pointer (some ⟨n + 3, 0, none⟩)
 r9 : ρ 9 = .func (.func 67) #[] #[.pointer (some ⟨n + 5, 0, none⟩), .pointer (some ⟨n + 2, 0, none⟩), .pointer (some ⟨n + 3, 0, none⟩)]
 r10 : ρ 10 = .int .i64 m
 r11 : ρ 11 = .int .i64 d
end
end Go.Proofs.YtdmfhdnpakgkpaaDoor.Sh
namespace Go.Proofs.YtdmfhdnpakgkpaaDoor.Sh
section
open Go
set_option maxRecDepth 100000
set_option maxHeartbeats 4000000
section
variable {H g h : SHeap} {v : Value} {cs : List Value} {n s : Nat} {el : TypeId}
theorem AccS.gc3 (A : AccS (H ++ g) h v cs n s el) (u w : Value) (hu : flat 1 u = true) (hw : flat 1 w = true) : gcS H.length (.tuple #[u, v, w]) h = some (.tuple #[u, resV H n s, w], resH H cs n el) := by
 have hp : ptrs 2 w = [] ∧ ∀ K, renV H.length K 2 w = some w := ⟨ptrs_flat 2 w (flat_up _ _ hw), fun K => renV_flat 2 w (flat_up _ _ hw)⟩
 have hq : ptrs 2 u = [] ∧ ∀ K, renV H.length K 2 u = some u := ⟨ptrs_flat 2 u (flat_up _ _ hu), fun K => renV_flat 2 u (flat_up _ _ hu)⟩
 by_cases hn : n = 0
 ·have ht := A.take rfl
  have e3 := hp.2 []
  have e5 := hq.2 []
  rcases A.acc with ⟨_, rfl, _⟩ | ⟨b, old, rfl, h1, h2, h3, _⟩
  ·have e1 : ptrs 3 (.tuple #[u, .slice none 0 0, w]) = [] := by
    show ptrs 2 u ++ (ptrs 2 (.slice none 0 0) ++ (ptrs 2 w ++ [])) = []
    rw [hp.1, hq.1]; rfl
   unfold gcS
   rw [e1]
   rw [show (1000000 : Nat) = 999999 + 1 from rfl, reach]
   simp [renV, mapO, e3, e5, ht, resV, resH, hn]
  ·exact (h3 hn).elim
 ·obtain ⟨b, old, rfl, h1, h2, h3⟩ := A.cellsAt hn
  have ht := A.take rfl
  have eb : Nat.ble H.length b = true := by rw [ble_dec]; simpa using h2
  have e1 : reach H.length h 1000000 [b] [] = [b] := by
   rw [show (1000000 : Nat) = 999998 + 1 + 1 from rfl, reach]
   simp only [eb, List.contains_nil, Bool.not_true, Bool.or_self, Bool.false_eq_true, if_false, h1, ptrsO, Bool.true_or, if_true, List.nil_append]
   rw [reach]
  have e2 : ren H.length [b] b = some H.length := by simp [ren, eb, posOf]
  have e0 : ((0 : Nat) == 2) = false := rfl
  have e3 := hp.2 [b]
  have e5 := hq.2 [b]
  have e4 : ptrs 3 (.tuple #[u, .slice (some ⟨b, 0, none⟩) n (UNK + s), w]) = [b] := by
   show ptrs 2 u ++ (ptrs 2 (.slice (some ⟨b, 0, none⟩) n (UNK + s)) ++ (ptrs 2 w ++ [])) = [b]
   rw [hp.1, hq.1]; rfl
  unfold gcS
  simp only [e4, e1, renV, e2, e3, e5, mapO, renO, h1, e0, Bool.false_eq_true, if_false, if_true, ht, ren_none' h3]
  simp [resV, resH, hn]
theorem AccS.q3 (A : AccS (H ++ g) h v cs n s el) {i j k : Nat} {ρ : Reg} {b : Nat} {l : List Value} (w : Value) (hi : ρ i = .pointer (some ⟨b, 0, none⟩)) (hl : loadS h (some 2) (.pointer (some ⟨b, 0, none⟩)) = some (.agg l.toArray)) (hu : flat 1 (.agg l.toArray) = true) (hv : ρ j = v) (hw : ρ k = w) (hf : flat 1 w = true) :
  callQ [.cell (some 2) i, .tmp j, .tmp k] H.length (.tuple #[.agg l.toArray, resV H n s, w], resH H cs n el, []) .ret ρ [] h [] := by
 obtain ⟨a, c, rfl⟩ := A.shape
 refine ⟨rfl, ?_⟩
 show opn (ρ i) fun a => ∃ v, loadS h (some 2) a = some v ∧ opn v fun u' => opn (ρ j) fun v' => opn (ρ k) fun w' => endW H.length h [] (_, _, []) [u', v', w']
 rw [hi, hv, hw]
 show ∃ v, loadS h (some 2) (.pointer (some ⟨b, 0, none⟩)) = some v ∧ opn v fun u' => opn w fun w' => endW H.length h [] (_, _, []) [u', .slice a n c, w']
 refine ⟨_, hl, ?_⟩
 show opn w fun w' => endW H.length h [] (_, _, []) [.agg l.toArray, .slice a n c, w']
 exact opn_of hf ⟨_, _, A.gc3 _ w hu hf, rfl⟩
end
theorem Acc.lo {lo lo' : Nat} {h : SHeap} {v : Value} {cs : List Value} {n s : Nat} {el : TypeId} (a : Acc lo h v cs n s el) (hl : lo' ≤ lo) : Acc lo' h v cs n s el := by
 rcases a with a | ⟨b, old, h0, h1, h2, h3, h4, h5, h6⟩
 ·exact .inl a
 ·exact .inr ⟨b, old, h0, h1, h2, h3, by omega, h5, fun c hc => ⟨by have := (h6 c hc).1; omega, (h6 c hc).2⟩⟩
end
end Go.Proofs.YtdmfhdnpakgkpaaDoor.Sh
namespace Go.Proofs.YtdmfhdnpakgkpaaDoor.Sh
section
open Go
set_option maxRecDepth 100000
set_option maxHeartbeats 4000000
end
end Go.Proofs.YtdmfhdnpakgkpaaDoor.Sh
set_option maxRecDepth 100000
set_option maxHeartbeats 4000000
namespace Go.Proofs.YtdmfhdnpakgkpaaDoor.Sh
section
open Go
theorem primeRx46 {x : Int × Int} (hx : Bd 30000 x) (h0 : x ≠ (0, 0)) (h : SHeap) : M.call 46 [agV x] h = some (.bool (primeP x), h, []) := by
 have hpx : primeP x = primeP (firP x).1 := by rw [fir_mul, prime_unit (firU_nrm x)]
 have hn : nrm x = nrm (firP x).1 := (fir_nrm x).symm
 have c43 := fun h => firstR43 (hx.mono (show (30000 : Int) ≤ 1000000000 by decide)) h
 have c27 := fun h => normR27 hx (by decide) h
 have hp := fir_bd hx
 have hf := fir_isF h0
 rw [hpx]
 rw [hn] at c27
 generalize (firP x).1 = p at *
 obtain ⟨_, _, _, n1, n2⟩ := nrm_w hp (by decide)
 obtain ⟨f1, f2⟩ := hf
 obtain ⟨b1, b2, b3, b4⟩ := hp
 have c76 := fun h => prime76 (n := (nrm p).toNat) (by omega) h
 rw [Int.toNat_of_nonneg n1] at c76
 have c76' := fun h => prime76 (n := p.1.toNat) (by omega) h
 rw [Int.toNat_of_nonneg (show (0 : Int) ≤ p.1 by omega)] at c76'
 have m4 : (p.1.tmod 4 = 3) ↔ p.1.toNat % 4 = 3 := by
  rw [Int.tmod_eq_emod_of_nonneg (by omega)]; omega
 have hm : p.2 = 0 → mxP p = p.1.toNat := fun e => by unfold mxP; omega
 refine call_run sf46 rfl rfl rfl ?_
 unfold sf46
 by_cases c : primeN (nrm p).toNat = true
 ·have hpp : primeP p = true := by
   unfold primeP
   by_cases e : p.1 = 0 ∨ p.2 = 0
   ·exfalso
    have e0 : p.2 = 0 := by omega
    have : (nrm p).toNat = p.1.toNat * p.1.toNat := by
     unfold nrm
     rw [e0, Int.mul_zero, Int.add_zero]
     have e1 : p.1 = (p.1.toNat : Int) := by omega
     generalize p.1.toNat = m at *
     rw [e1, ← Int.natCast_mul]; rfl
    rw [this, primeN_sq] at c
    exact Bool.noConfusion c
   ·rw [if_neg e]; exact c
  rw [hpp]
  rw [c] at c76
  repeat (first | apply Z1 | apply Z2 | apply Z3 | apply Z4 | apply Z5 rfl | apply Z6 | apply Z7 | apply Z8 | apply Z9 | apply ZA | apply ZB | apply ZC | ((first | apply ZD (by decide) | apply ZN (by decide)); (simp (maxSteps := 9999999) only [go_sem, argR, c43, c27, c76]; rfl)) | (refine ZE ?_ ?_; · simp only [go_sem]) | (refine ZF ?_ ?_; · simp only [go_sem]))
  exact end_nil (q_ret1 _ (by simp only [go_sem]) rfl (take_app _ _))
 ·have c' : primeN (nrm p).toNat = false := by simpa using c
  rw [c'] at c76
  by_cases e0 : p.2 = 0
  ·have e0' : (p.2 = 0) = True := eq_true e0
   have hpp : primeP p = (decide (p.1.toNat % 4 = 3) && primeN p.1.toNat) := by unfold primeP; rw [if_pos (.inr e0), hm e0]
   rw [hpp]
   by_cases d : p.1.toNat % 4 = 3
   ·have d' : (p.1.tmod 4 = 3) = True := eq_true (m4.2 d)
    rw [decide_eq_true d, Bool.true_and]
    repeat (first | apply Z1 | apply Z2 | apply Z3 | apply Z4 | apply Z5 rfl | apply Z6 | apply Z7 | apply Z8 | apply Z9 | apply ZA | apply ZB | apply ZC | ((first | apply ZD (by decide) | apply ZN (by decide)); (simp (maxSteps := 9999999) only [go_sem, argR, c43, c27, c76, c76', e0', d']; rfl)) | (refine ZE ?_ ?_; · simp only [go_sem]) | (refine ZF ?_ ?_; · simp only [go_sem]))
    exact end_nil (q_ret1 _ (by simp only [go_sem]) rfl (take_app _ _))
   ·have d' : (p.1.tmod 4 = 3) = False := eq_false (fun k => d (m4.1 k))
    rw [decide_eq_false d, Bool.false_and]
    repeat (first | apply Z1 | apply Z2 | apply Z3 | apply Z4 | apply Z5 rfl | apply Z6 | apply Z7 | apply Z8 | apply Z9 | apply ZA | apply ZB | apply ZC | ((first | apply ZD (by decide) | apply ZN (by decide)); (simp (maxSteps := 9999999) only [go_sem, argR, c43, c27, c76, c76', e0', d']; rfl)) | (refine ZE ?_ ?_; · simp only [go_sem]) | (refine ZF ?_ ?_; · simp only [go_sem]))
    exact end_nil (q_ret1 _ (by simp only [go_sem]) rfl (take_app _ _))
  ·have e0' : (p.2 = 0) = False := eq_false e0
   have hpp : primeP p = false := by unfold primeP; rw [if_neg (by omega)]; exact c'
   rw [hpp]
   repeat (first | apply Z1 | apply Z2 | apply Z3 | apply Z4 | apply Z5 rfl | apply Z6 | apply Z7 | apply Z8 | apply Z9 | apply ZA | apply ZB | apply ZC | ((first | apply ZD (by decide) | apply ZN (by decide)); (simp (maxSteps := 9999999) only [go_sem, argR, c43, c27, c76, e0']; rfl)) | (refine ZE ?_ ?_; · simp only [go_sem]) | (refine ZF ?_ ?_; · simp only [go_sem]))
   exact end_nil (q_ret1 _ (by simp only [go_sem]) rfl (take_app _ _))
end
end Go.Proofs.YtdmfhdnpakgkpaaDoor.Sh
set_option maxRecDepth 100000
set_option maxHeartbeats 4000000
namespace Go.Proofs.YtdmfhdnpakgkpaaDoor.Sh
section
open Go
structure LS (H h : SHeap) (x u z : Int × Int) : Prop where
 fr : ∀ j, j < H.length → h[j]? = H[j]?
 x0 : h[H.length]? = some (bx x)
 u0 : h[H.length + 1]? = some (bx u)
 z0 : h[H.length + 2]? = some (bx z)
theorem LS.lt {H h : SHeap} {x u z : Int × Int} (S : LS H h x u z) : H.length + 2 < h.length := (List.getElem?_eq_some_iff.1 S.z0).1
theorem LS.app {H h : SHeap} {x u z : Int × Int} (S : LS H h x u z) (g : SHeap) : LS H (h ++ g) x u z := by
 have := S.lt
 have k : ∀ j, j < h.length → (h ++ g)[j]? = h[j]? := fun j hj => List.getElem?_append_left hj
 exact ⟨fun j hj => by rw [k j (by omega)]; exact S.fr j hj, by rw [k _ (by omega)]; exact S.x0, by rw [k _ (by omega)]; exact S.u0, by rw [k _ (by omega)]; exact S.z0⟩
theorem LS.set {H h : SHeap} {x u z : Int × Int} (S : LS H h x u z) (z' : Int × Int) : LS H (h.set (H.length + 2) (bx z')) x u z' := by
 have := S.lt
 have k : ∀ j, j ≠ H.length + 2 → (h.set (H.length + 2) (bx z'))[j]? = h[j]? := fun j hj => List.getElem?_set_ne (by omega)
 exact ⟨fun j hj => by rw [k j (by omega)]; exact S.fr j hj, by rw [k _ (by omega)]; exact S.x0, by rw [k _ (by omega)]; exact S.u0, by rw [List.getElem?_set_self (by omega)]⟩
theorem PS.fr {H h : SHeap} {v : Value} {L : List (Int × Int)} (k : PS H v L) (fr : ∀ j, j < H.length → h[j]? = H[j]?) : PS h v L := by
 obtain ⟨a, c, e, k⟩ := k
 refine ⟨a, c, e, fun hne => ?_⟩
 obtain ⟨b, o, ha, hp⟩ := k hne
 have e2 := fr b hp.lt
 obtain ⟨pre, post, el2, pf, own, old, h1, h2⟩ := hp
 exact ⟨b, o, ha, pre, post, el2, pf, own, old, by rw [e2]; exact h1, h2⟩
end
end Go.Proofs.YtdmfhdnpakgkpaaDoor.Sh
set_option maxRecDepth 100000
set_option maxHeartbeats 4000000
namespace Go.Proofs.YtdmfhdnpakgkpaaDoor.Sh
section
open Go
theorem eu_dv : ∀ (x y : Int × Int), (dv (eu x y) x ∧ dv (eu x y) y) ∧ ∀ g, dv g x → dv g y → dv g (eu x y) := by
 have key : ∀ (k : Nat) (x y : Int × Int), (nrm y).toNat = k → (dv (eu x y) x ∧ dv (eu x y) y) ∧ ∀ g, dv g x → dv g y → dv g (eu x y) := by
  intro k
  induction k using Nat.strongRecOn with
  | _ k ih =>
   intro x y hk
   by_cases c : y = (0, 0)
   ·subst c
    rw [eu_0]
    exact ⟨⟨dv_refl x, dv_zero x⟩, fun g h1 _ => h1⟩
   ·have hn := nrm_pos c
    have rn := rest_nrm (x := x) hn
    have r0 := nrm_nonneg (restP x y)
    rw [eu_s c]
    obtain ⟨⟨h1, h2⟩, h3⟩ := ih _ (by omega) y (restP x y) rfl
    refine ⟨⟨?_, h1⟩, fun g g1 g2 => h3 g g2 ?_⟩
    ·have := quo_rest x y
     generalize eu y (restP x y) = e at *
     rw [this]
     exact dv_add (dv_mul h1 _) h2
    ·unfold restP
     exact dv_sub g1 (dv_mul g2 _)
 exact fun x y => key _ x y rfl
theorem gcd_dv (x y : Int × Int) : dv (gcdP x y) x ∧ dv (gcdP x y) y := ⟨fir_dv (eu_dv x y).1.1, fir_dv (eu_dv x y).1.2⟩
theorem gcd_gr {x y g : Int × Int} (h1 : dv g x) (h2 : dv g y) : dv g (gcdP x y) := by
 unfold gcdP
 rw [fir_mul, mul_comm']
 exact dv_mul ((eu_dv x y).2 g h1 h2) _
theorem divP_true {x y : Int × Int} (h : dv x y) (hx : x ≠ (0, 0)) : divP x y = true := by
 unfold divP
 rw [if_neg hx, rest_exact hx h]; rfl
end
end Go.Proofs.YtdmfhdnpakgkpaaDoor.Sh
