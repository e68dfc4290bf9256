/- Sorting: reversing a range, breaking patterns, choosing a pivot. -/
import Derived.Test.YtdmfhdnpakgkpaaDoorH46
import Derived.Test.YtdmfhdnpakgkpaaDoorH41
set_option linter.all false
namespace Go.Proofs.YtdmfhdnpakgkpaaDoor.Sh
open Go
set_option maxRecDepth 100000
set_option maxHeartbeats 4000000
section
variable {E : Type} {cel : E → List Value} {c : E → E → Int} {g : FuncId} {n B cap : Nat} {el : TypeId} {h0 : SHeap} {old0 : List Nat}
theorem rev_loopF (hl : ∀ x, (cel x).length = 3) (hc : ∀ x, (cel x).all sc = true) (hn : n ≤ 1000000) {a b : Nat} (hb : b ≤ n) (cx : Cx) (f0 : Nat → E) : ∀ k ρ ms h' d', (∃ (i j : Nat) (f : Nat → E), j - i = k ∧ a ≤ i ∧ i ≤ b ∧ a ≤ j + 1 ∧ j < b ∧ SA cel n B el h0 old0 h' f ∧ Sw a b f0 f ∧ ρ 0 = .slice (some ⟨B, 0, none⟩) n cap ∧ ρ 8 = .int .i64 i ∧ ρ 9 = .int .i64 j ∧ ms = [] ∧ d' = []) →
    LoopW M cx 6 sf105L0 ρ ms h' d' (fun ex ρ' ms' h' d' => ex = .exit 0 ∧ ms' = [] ∧ d' = [] ∧ ∃ f : Nat → E, SA cel n B el h0 old0 h' f ∧ Sw a b f0 f) := by
  refine loop_run _ ?_
  rintro k ρ ms h' d' ⟨i, j, f, hk, hai, hib, haj, hjb, S, W, r0, r8, r9, rfl, rfl⟩
  unfold sf105L0
  by_cases z : i < j
  · have e1 : (i : Int) < j := by omega
    have p1 : (0 : Int) ≤ (i : Int) := by omega
    have p2 : (i : Int) < n := by omega
    have p3 : (0 : Int) ≤ (j : Int) := by omega
    have p4 : (j : Int) < n := by omega
    have l1 := S.load hl (show i < n by omega)
    have l2 := S.load hl (show j < n by omega)
    obtain ⟨h1, h2, st1, st2, S2⟩ := S.swap hl hc (by decide) (show i < n by omega) (show j < n by omega)
    have w1 : IntKind.i64.wrap ((i : Int) + 1) = ((i + 1 : Nat) : Int) := by rw [wrap64 (by omega) (by omega)]; rfl
    have w2 : IntKind.i64.wrap ((j : Int) - 1) = ((j - 1 : Nat) : Int) := by rw [wrap64 (by omega) (by omega)]; omega
    repeat (first | apply Z1 | apply Z2 | apply Z3 | apply Z4 | apply Z5 rfl | apply Z6 | apply Z7 | apply Z8 | apply Z9 | apply ZA | apply ZB | apply ZC | ((first | apply ZD (by decide) | apply ZN (by decide)); (simp (maxSteps := 9999999) only [go_sem, r0, r8, r9, e1, p1, p2, p3, p4, l1, l2, hl, ↓st1, ↓st2, w1, w2]; rfl)) | (refine ZE ?_ ?_; · simp only [go_sem]) | (refine ZF ?_ ?_; · simp only [go_sem]))
    refine end_nil ⟨j - 1 - (i + 1), by omega, i + 1, j - 1, _, rfl, by omega, by omega, by omega, by omega, S2, W.step (by omega) (by omega) (by omega) (by omega), ?_, ?_, ?_, rfl, rfl⟩
    · simp only [go_sem, r0]
    · simp only [go_sem, w1]
    · simp only [go_sem, w2]
  · have e1 : ¬ (i : Int) < j := by omega
    repeat (first | apply Z1 | apply Z2 | apply Z3 | apply Z4 | apply Z5 rfl | apply Z6 | apply Z7 | apply Z8 | apply Z9 | apply ZA | apply ZB | apply ZC | ((first | apply ZD (by decide) | apply ZN (by decide)); (simp (maxSteps := 9999999) only [go_sem, r0, r8, r9, e1]; rfl)) | (refine ZE ?_ ?_; · simp only [go_sem]) | (refine ZF ?_ ?_; · simp only [go_sem]))
    exact end_nil ⟨rfl, rfl, rfl, f, S, W⟩
theorem revF (hl : ∀ x, (cel x).length = 3) (hc : ∀ x, (cel x).all sc = true) (hn : n ≤ 1000000) {a b : Nat} (hab : a < b) (hb : b ≤ n) (cf : Value) {h : SHeap} {f : Nat → E} (S : SA cel n B el h0 old0 h f) :
    ∃ h' f', M.call 105 [.slice (some ⟨B, 0, none⟩) n cap, .int .i64 a, .int .i64 b, cf] h = some (.tuple #[], h', []) ∧ SA cel n B el h0 old0 h' f' ∧ Sw a b f f' := by
  have key : ∃ r, (∃ h' f', r = (Value.tuple #[], h', ([] : List Nat)) ∧ SA cel n B el h0 old0 h' f' ∧ Sw a b f f') ∧ M.call 105 [.slice (some ⟨B, 0, none⟩) n cap, .int .i64 a, .int .i64 b, cf] h = some r := by
    refine call_ex (f := 105) _ sf105 rfl rfl rfl ?_
    unfold sf105
    have w1 : IntKind.i64.wrap ((b : Int) - 1) = ((b - 1 : Nat) : Int) := by rw [wrap64 (by omega) (by omega)]; omega
    repeat (first | apply Z1 | apply Z2 | apply Z3 | apply Z4 | apply Z5 rfl | apply Z6 | apply Z7 | apply Z8 | apply Z9 | apply ZA | apply ZB | apply ZC | ((first | apply ZD (by decide) | apply ZN (by decide)); (simp (maxSteps := 9999999) only [go_sem, argR, w1]; rfl)) | (refine ZE ?_ ?_; · simp only [go_sem]) | (refine ZF ?_ ?_; · simp only [go_sem]))
    refine run_loop (rev_loopF (cap := cap) (el := el) (h0 := h0) (old0 := old0) hl hc hn (a := a) hb _ f (b - 1 - a) _ _ _ _ ⟨a, b - 1, f, rfl, Nat.le_refl _, by omega, by omega, by omega, S, .refl, ?_, ?_, ?_, rfl, rfl⟩) ?_
    · simp only [go_sem, argR]
    · simp only [go_sem, argR]
    · simp only [go_sem, w1]
    rintro ex ρ' ms' h1 d1 ⟨rfl, rfl, rfl, f2, S2, W2⟩
    repeat (first | apply Z1 | apply Z2 | apply Z3 | apply Z4 | apply Z5 rfl | apply Z6 | apply Z7 | apply Z8 | apply Z9 | apply ZA | apply ZB | apply ZC | ((first | apply ZD (by decide) | apply ZN (by decide)); (simp (maxSteps := 9999999) only [go_sem]; rfl)) | (refine ZE ?_ ?_; · simp only [go_sem]) | (refine ZF ?_ ?_; · simp only [go_sem]))
    exact end_nil ⟨_, ⟨h1, f2, rfl, S2, W2⟩, q_free [] rfl rfl rfl rfl (fun _ => rfl) (by rw [List.take_of_length_le]; rw [S2.len, S.len]; exact Nat.le_refl _) rfl⟩
  obtain ⟨r, ⟨h', f', rfl, k⟩, e⟩ := key
  exact ⟨h', f', e, k⟩
abbrev xb (z : Int) : SO := .cells [.int .u64 z] 117 true 0 []
theorem SA.rnd (hlow : ∀ c ∈ old0, c < h0.length) {h : SHeap} {f : Nat → E} {z : Int} (hB : B < h0.length) (S : SA cel n B el (h0 ++ [xb z]) old0 h f) : h[h0.length]? = some (xb z) := by
  rw [S.same _ (by omega) (fun e => by have := hlow _ e; omega), app_get0]; rfl
theorem SA.setR {h : SHeap} {f : Nat → E} {z : Int} (hB : B < h0.length) (S : SA cel n B el (h0 ++ [xb z]) old0 h f) (z' : Int) : SA cel n B el (h0 ++ [xb z']) old0 (h.set h0.length (xb z')) f := by
  have hl := S.len
  simp at hl
  refine ⟨by simp [hl], fun j h1 h2 => ?_, ?_⟩
  · by_cases e : j = h0.length
    · subst e; rw [List.getElem?_set_self (by omega), app_get0]; rfl
    · rw [List.getElem?_set_ne (by omega), S.same j h1 h2]
      by_cases e2 : j < h0.length
      · rw [List.getElem?_append_left e2, List.getElem?_append_left e2]
      · rw [List.getElem?_eq_none (by simp; omega), List.getElem?_eq_none (by simp; omega)]
  · obtain ⟨old, ho, e⟩ := S.at_
    exact ⟨old, ho, by rw [List.getElem?_set_ne (by omega)]; exact e⟩
theorem SA.cut {h : SHeap} {f : Nat → E} {x : SO} (hB : B < h0.length) (S : SA cel n B el (h0 ++ [x]) old0 h f) : SA cel n B el h0 old0 (h.take h0.length) f := by
  have hl := S.len
  simp at hl
  refine ⟨by simp; omega, fun j h1 h2 => ?_, ?_⟩
  · by_cases e2 : j < h0.length
    · rw [List.getElem?_take, if_pos e2, S.same j h1 h2, List.getElem?_append_left e2]
    · rw [List.getElem?_eq_none (by simp; omega), List.getElem?_eq_none (by omega)]
  · obtain ⟨old, ho, e⟩ := S.at_
    exact ⟨old, ho, by rw [List.getElem?_take, if_pos hB]; exact e⟩
theorem SA.grow {h : SHeap} {f : Nat → E} (S : SA cel n B el h0 old0 h f) (x : SO) : SA cel n B el (h0 ++ [x]) old0 (h ++ [x]) f := by
  have hl := S.len
  refine ⟨by simp [hl], fun j h1 h2 => ?_, ?_⟩
  · by_cases e2 : j < h0.length
    · rw [List.getElem?_append_left (by omega), List.getElem?_append_left e2, S.same j h1 h2]
    · by_cases e3 : j = h0.length
      · subst e3; rw [app_get0, ← hl, app_get0]
      · rw [List.getElem?_eq_none (by simp; omega), List.getElem?_eq_none (by simp; omega)]
  · obtain ⟨old, ho, e⟩ := S.at_
    exact ⟨old, ho, by rw [List.getElem?_append_left S.lt]; exact e⟩
theorem brk_loopF (hl : ∀ x, (cel x).length = 3) (hc : ∀ x, (cel x).all sc = true) (hn : n ≤ 60000) {a b : Nat} (hab : a + 8 ≤ b) (hb : b ≤ n) (hlow : ∀ c ∈ old0, c < h0.length) (hB : B < h0.length) (cx : Cx) (f0 : Nat → E) : ∀ k ρ ms h' d', (∃ (i : Nat) (z : Int) (f : Nat → E), a + (b - a) / 4 * 2 + 2 - i = k ∧ a + (b - a) / 4 * 2 ≤ i + 1 ∧ i ≤ a + (b - a) / 4 * 2 + 2 ∧ SA cel n B el (h0 ++ [xb z]) old0 h' f ∧ Sw a b f0 f ∧ ρ 0 = .slice (some ⟨B, 0, none⟩) n cap ∧ ρ 1 = .int .i64 a ∧ ρ 8 = .int .i64 ((b - a : Nat) : Int) ∧ ρ 9 = .pointer (some ⟨h0.length, 0, none⟩) ∧ ρ 10 = .int .u64 ((2 ^ lenB (b - a) : Nat) : Int) ∧ ρ 11 = .int .i64 i ∧ ms = [] ∧ d' = []) →
    LoopW M cx 7 sf103L0 ρ ms h' d' (fun ex ρ' ms' h' d' => ex = .exit 0 ∧ ms' = [] ∧ d' = [] ∧ ∃ (f : Nat → E) (z : Int), SA cel n B el (h0 ++ [xb z]) old0 h' f ∧ Sw a b f0 f) := by
  refine loop_run _ ?_
  rintro k ρ ms h' d' ⟨i, z, f, hk, hi1, hi2, S, W, r0, r1, r8, r9, r10, r11, rfl, rfl⟩
  obtain ⟨b1, b2, b3⟩ := lenB_p (n := b - a) (by omega)
  have b3 := b3 (by omega)
  generalize hP : 2 ^ lenB (b - a) = P at *
  have d4 : IntKind.i64.wrap (((b - a : Nat) : Int).tdiv 4) = (((b - a) / 4 : Nat) : Int) := by rw [Int.tdiv_eq_ediv_of_nonneg (by omega), wrap64 (by omega) (by omega)]; rfl
  have m4 : IntKind.i64.wrap ((((b - a) / 4 : Nat) : Int) * 2) = (((b - a) / 4 * 2 : Nat) : Int) := by rw [wrap64 (by omega) (by omega)]; rfl
  have a4 : IntKind.i64.wrap ((a : Int) + (((b - a) / 4 * 2 : Nat) : Int)) = ((a + (b - a) / 4 * 2 : Nat) : Int) := by rw [wrap64 (by omega) (by omega)]; rfl
  have a5 : IntKind.i64.wrap (((a + (b - a) / 4 * 2 : Nat) : Int) + 1) = ((a + (b - a) / 4 * 2 + 1 : Nat) : Int) := by rw [wrap64 (by omega) (by omega)]; rfl
  unfold sf103L0
  by_cases zi : i ≤ a + (b - a) / 4 * 2 + 1
  · have e1 : (i : Int) ≤ ((a + (b - a) / 4 * 2 + 1 : Nat) : Int) := by omega
    have cx112 := xs112 (S.rnd hlow hB)
    have S1 := S.setR hB (nxt z)
    have w1 : IntKind.u64.wrap ((P : Int) - 1) = ((P - 1 : Nat) : Int) := by rw [wrapU' (by omega) (by omega)]; omega
    obtain ⟨u1, u2⟩ := andU_le (nxt z) (b := P - 1) (by omega)
    obtain ⟨r, hr⟩ : ∃ r : Nat, andU (nxt z) ((P - 1 : Nat) : Int) = r := ⟨(andU (nxt z) ((P - 1 : Nat) : Int)).toNat, by omega⟩
    rw [hr] at u1 u2
    have w2 : IntKind.i64.wrap (r : Int) = r := wrap64 (by omega) (by omega)
    have ew : IntKind.i64.wrap ((i : Int) + 1) = ((i + 1 : Nat) : Int) := by rw [wrap64 (by omega) (by omega)]; rfl
    have p1 : (0 : Int) ≤ (i : Int) := by omega
    have p2 : (i : Int) < n := by omega
    have l1 := S1.load hl (show i < n by omega)
    by_cases q : b - a ≤ r
    · have e2 : ((b - a : Nat) : Int) ≤ r := by omega
      have w3 : IntKind.i64.wrap ((r : Int) - ((b - a : Nat) : Int)) = ((r - (b - a) : Nat) : Int) := by rw [wrap64 (by omega) (by omega)]; omega
      have w4 : IntKind.i64.wrap ((a : Int) + ((r - (b - a) : Nat) : Int)) = ((a + (r - (b - a)) : Nat) : Int) := by rw [wrap64 (by omega) (by omega)]; rfl
      have p3 : (0 : Int) ≤ ((a + (r - (b - a)) : Nat) : Int) := by omega
      have p4 : ((a + (r - (b - a)) : Nat) : Int) < n := by omega
      have l2 := S1.load hl (show a + (r - (b - a)) < n by omega)
      obtain ⟨h1, h2, st1, st2, S2⟩ := S1.swap hl hc (by decide) (show i < n by omega) (show a + (r - (b - a)) < n by omega)
      repeat (first | apply Z1 | apply Z2 | apply Z3 | apply Z4 | apply Z5 rfl | apply Z6 | apply Z7 | apply Z8 | apply Z9 | apply ZA | apply ZB | apply ZC | ((first | apply ZD (by decide) | apply ZN (by decide)); (simp (maxSteps := 9999999) only [go_sem, r0, r1, r8, r9, r10, r11, d4, m4, a4, a5, e1, cx112, w1, hr, w2, e2, w3, w4, p1, p2, p3, p4, l1, l2, hl, ↓st1, ↓st2, ew]; rfl)) | (refine ZE ?_ ?_; · simp only [go_sem]) | (refine ZF ?_ ?_; · simp only [go_sem]))
      refine end_nil ⟨a + (b - a) / 4 * 2 + 2 - (i + 1), by omega, i + 1, nxt z, _, rfl, by omega, by omega, S2, W.step (by omega) (by omega) (by omega) (by omega), ?_, ?_, ?_, ?_, ?_, ?_, rfl, rfl⟩
      · simp only [go_sem, r0]
      · simp only [go_sem, r1]
      · simp only [go_sem, r8]
      · simp only [go_sem, r9]
      · simp only [go_sem, r10]
      · simp only [go_sem, ew]
    · have e2 : ¬ ((b - a : Nat) : Int) ≤ r := by omega
      have w4 : IntKind.i64.wrap ((a : Int) + (r : Int)) = ((a + r : Nat) : Int) := by rw [wrap64 (by omega) (by omega)]; rfl
      have p3 : (0 : Int) ≤ ((a + r : Nat) : Int) := by omega
      have p4 : ((a + r : Nat) : Int) < n := by omega
      have l2 := S1.load hl (show a + r < n by omega)
      obtain ⟨h1, h2, st1, st2, S2⟩ := S1.swap hl hc (by decide) (show i < n by omega) (show a + r < n by omega)
      repeat (first | apply Z1 | apply Z2 | apply Z3 | apply Z4 | apply Z5 rfl | apply Z6 | apply Z7 | apply Z8 | apply Z9 | apply ZA | apply ZB | apply ZC | ((first | apply ZD (by decide) | apply ZN (by decide)); (simp (maxSteps := 9999999) only [go_sem, r0, r1, r8, r9, r10, r11, d4, m4, a4, a5, e1, cx112, w1, hr, w2, e2, w4, p1, p2, p3, p4, l1, l2, hl, ↓st1, ↓st2, ew]; rfl)) | (refine ZE ?_ ?_; · simp only [go_sem]) | (refine ZF ?_ ?_; · simp only [go_sem]))
      refine end_nil ⟨a + (b - a) / 4 * 2 + 2 - (i + 1), by omega, i + 1, nxt z, _, rfl, by omega, by omega, S2, W.step (by omega) (by omega) (by omega) (by omega), ?_, ?_, ?_, ?_, ?_, ?_, rfl, rfl⟩
      · simp only [go_sem, r0]
      · simp only [go_sem, r1]
      · simp only [go_sem, r8]
      · simp only [go_sem, r9]
      · simp only [go_sem, r10]
      · simp only [go_sem, ew]
  · have e1 : ¬ (i : Int) ≤ ((a + (b - a) / 4 * 2 + 1 : Nat) : Int) := by omega
    repeat (first | apply Z1 | apply Z2 | apply Z3 | apply Z4 | apply Z5 rfl | apply Z6 | apply Z7 | apply Z8 | apply Z9 | apply ZA | apply ZB | apply ZC | ((first | apply ZD (by decide) | apply ZN (by decide)); (simp (maxSteps := 9999999) only [go_sem, r0, r1, r8, r9, r10, r11, d4, m4, a4, a5, e1]; rfl)) | (refine ZE ?_ ?_; · simp only [go_sem]) | (refine ZF ?_ ?_; · simp only [go_sem]))
    exact end_nil ⟨rfl, rfl, rfl, f, z, S, W⟩
theorem brkF (hl : ∀ x, (cel x).length = 3) (hc : ∀ x, (cel x).all sc = true) (hn : n ≤ 60000) {a b : Nat} (hab : a + 8 ≤ b) (hb : b ≤ n) (hlow : ∀ c ∈ old0, c < h0.length) (cf : Value) {h : SHeap} {f : Nat → E} (S : SA cel n B el h0 old0 h f) :
    ∃ h' f', M.call 103 [.slice (some ⟨B, 0, none⟩) n cap, .int .i64 a, .int .i64 b, cf] h = some (.tuple #[], h', []) ∧ SA cel n B el h0 old0 h' f' ∧ Sw a b f f' := by
  have hB := S.lt
  have hln := S.len
  have key : ∃ r, (∃ h' f', r = (Value.tuple #[], h', ([] : List Nat)) ∧ SA cel n B el h0 old0 h' f' ∧ Sw a b f f') ∧ M.call 103 [.slice (some ⟨B, 0, none⟩) n cap, .int .i64 a, .int .i64 b, cf] h = some r := by
    refine call_ex (f := 103) _ sf103 rfl rfl rfl ?_
    unfold sf103
    have w1 : IntKind.i64.wrap ((b : Int) - (a : Int)) = ((b - a : Nat) : Int) := by rw [wrap64 (by omega) (by omega)]; omega
    have e1 : (8 : Int) ≤ ((b - a : Nat) : Int) := by omega
    have wu : IntKind.u64.wrap ((b - a : Nat) : Int) = ((b - a : Nat) : Int) := wrapU' (by omega) (by omega)
    have cnp := fun h => np111 (n := b - a) (by omega) h
    have d4 : IntKind.i64.wrap (((b - a : Nat) : Int).tdiv 4) = (((b - a) / 4 : Nat) : Int) := by rw [Int.tdiv_eq_ediv_of_nonneg (by omega), wrap64 (by omega) (by omega)]; rfl
    have m4 : IntKind.i64.wrap ((((b - a) / 4 : Nat) : Int) * 2) = (((b - a) / 4 * 2 : Nat) : Int) := by rw [wrap64 (by omega) (by omega)]; rfl
    have a4 : IntKind.i64.wrap ((a : Int) + (((b - a) / 4 * 2 : Nat) : Int)) = ((a + (b - a) / 4 * 2 : Nat) : Int) := by rw [wrap64 (by omega) (by omega)]; rfl
    have a5 : IntKind.i64.wrap (((a + (b - a) / 4 * 2 : Nat) : Int) - 1) = ((a + (b - a) / 4 * 2 - 1 : Nat) : Int) := by rw [wrap64 (by omega) (by omega)]; omega
    repeat (first | apply Z1 | apply Z2 | apply Z3 | apply Z4 | apply Z5 rfl | apply Z6 | apply Z7 | apply Z8 | apply Z9 | apply ZA | apply ZB | apply ZC | ((first | apply ZD (by decide) | apply ZN (by decide)); (simp (maxSteps := 9999999) only [go_sem, argR, w1, e1, wu, cnp, d4, m4, a4, a5]; rfl)) | (refine ZE ?_ ?_; · simp only [go_sem]) | (refine ZF ?_ ?_; · simp only [go_sem]))
    refine run_loop (brk_loopF (cap := cap) (el := el) (h0 := h0) (old0 := old0) hl hc hn hab hb hlow (by omega) _ f (a + (b - a) / 4 * 2 + 2 - (a + (b - a) / 4 * 2 - 1)) _ _ _ _ ⟨a + (b - a) / 4 * 2 - 1, ((b - a : Nat) : Int), f, rfl, by omega, by omega, S.grow _, .refl, ?_, ?_, ?_, ?_, ?_, ?_, rfl, rfl⟩) ?_
    · simp only [go_sem, argR]
    · simp only [go_sem, argR]
    · simp only [go_sem]
    · simp only [go_sem]; rw [hln]
    · simp only [go_sem]
    · simp only [go_sem]
    rintro ex ρ' ms' h1 d1 ⟨rfl, rfl, rfl, f2, z, S2, W2⟩
    repeat (first | apply Z1 | apply Z2 | apply Z3 | apply Z4 | apply Z5 rfl | apply Z6 | apply Z7 | apply Z8 | apply Z9 | apply ZA | apply ZB | apply ZC | ((first | apply ZD (by decide) | apply ZN (by decide)); (simp (maxSteps := 9999999) only [go_sem]; rfl)) | (refine ZE ?_ ?_; · simp only [go_sem]) | (refine ZF ?_ ?_; · simp only [go_sem]))
    exact end_nil ⟨_, ⟨h1.take h0.length, f2, rfl, S2.cut (by omega), W2⟩, q_free [] rfl rfl rfl rfl (fun _ => rfl) (by rw [hln]) rfl⟩
  obtain ⟨r, ⟨h', f', rfl, k⟩, e⟩ := key
  exact ⟨h', f', e, k⟩
end
end Go.Proofs.YtdmfhdnpakgkpaaDoor.Sh

namespace Go.Proofs.YtdmfhdnpakgkpaaDoor.Sh
open Go
set_option maxRecDepth 100000
set_option maxHeartbeats 4000000
section
variable {E : Type} {cel : E → List Value} {c : E → E → Int} {g : FuncId} {n B cap R : Nat} {el : TypeId}
def Rd (cel : E → List Value) (n B : Nat) (el : TypeId) (h : SHeap) (f : Nat → E) : Prop := ∃ old, h[B]? = some (.cells (flF cel f n) el true 0 old)
theorem Rd.load {h : SHeap} {f : Nat → E} {s : Nat} (S : Rd cel n B el h f) (hl : ∀ x, (cel x).length = s) {i : Nat} (hi : i < n) : loadS h (some s) (.pointer (some ⟨B, i * s, none⟩)) = some (.agg (cel (f i)).toArray) := by
  obtain ⟨old, e⟩ := S
  exact SA.load (h0 := h) (old0 := old) ⟨rfl, fun _ _ _ => rfl, old, fun _ h => h, e⟩ hl hi
theorem Rd.set {h : SHeap} {f : Nat → E} (S : Rd cel n B el h f) (hR : R ≠ B) (x : SO) : Rd cel n B el (h.set R x) f := by
  obtain ⟨old, e⟩ := S
  exact ⟨old, by rw [List.getElem?_set_ne hR]; exact e⟩
abbrev wb (w : Nat) : SO := .cells [.int .i64 w] 3 true 0 []
theorem ordF (C : Cmp M g cel c) (hl : ∀ x, (cel x).length = 3) {h : SHeap} {f : Nat → E} (S : Rd cel n B el h f) (hRB : R ≠ B) {w : Nat} (hw : w ≤ 1000) (hR : h[R]? = some (wb w)) {i j : Nat} (hi : i < n) (hj : j < n) :
    ∃ p q w', ((p = i ∧ q = j) ∨ (p = j ∧ q = i)) ∧ w' ≤ w + 1 ∧ M.call 119 [.slice (some ⟨B, 0, none⟩) n cap, .int .i64 ((i : Nat) : Int), .int .i64 ((j : Nat) : Int), .pointer (some ⟨R, 0, none⟩), .func (.func g) #[] #[]] h = some (.tuple #[.int .i64 ((p : Nat) : Int), .int .i64 ((q : Nat) : Int)], h.set R (wb w'), []) := by
  have hlt : R < h.length := (List.getElem?_eq_some_iff.1 hR).1
  have p1 : (0 : Int) ≤ (i : Int) := by omega
  have p2 : (i : Int) < n := by omega
  have p3 : (0 : Int) ≤ (j : Int) := by omega
  have p4 : (j : Int) < n := by omega
  have l1 := S.load hl hi
  have l2 := S.load hl hj
  have cc := fun h => C.call (f j) (f i) h
  by_cases hlt2 : c (f j) (f i) < 0
  · refine ⟨j, i, w + 1, .inr ⟨rfl, rfl⟩, Nat.le_refl _, ?_⟩
    have l0 : loadS h none (.pointer (some ⟨R, 0, none⟩)) = some (.int .i64 w) := by rw [load_rdO, hR]; rfl
    have ew : IntKind.i64.wrap ((w : Int) + 1) = ((w + 1 : Nat) : Int) := by rw [wrap64 (by omega) (by omega)]; rfl
    refine call_run sf119 rfl rfl rfl ?_
    unfold sf119
    repeat (first | apply Z1 | apply Z2 | apply Z3 | apply Z4 | apply Z5 rfl | apply Z6 | apply Z7 | apply Z8 | apply Z9 | apply ZA | apply ZB | apply ZC | ((first | apply ZD (by decide) | apply ZN (by decide)); (simp (maxSteps := 9999999) only [go_sem, argR, p1, p2, p3, p4, l1, l2, cc, hlt2, l0, ew, hR]; rfl)) | (refine ZE ?_ ?_; · simp only [go_sem]) | (refine ZF ?_ ?_; · simp only [go_sem]))
    refine end_nil (q_free [.int .i64 j, .int .i64 i] (by simp only [go_sem]) rfl rfl rfl (fun _ => rfl) ?_ rfl)
    rw [List.take_of_length_le (by simp)]
  · refine ⟨i, j, w, .inl ⟨rfl, rfl⟩, by omega, ?_⟩
    have hs : h.set R (wb w) = h := by
      apply List.ext_getElem?
      intro k
      by_cases e : k = R
      · subst e; rw [List.getElem?_set_self hlt, hR]
      · rw [List.getElem?_set_ne (fun e2 => e e2.symm)]
    rw [hs]
    refine call_run sf119 rfl rfl rfl ?_
    unfold sf119
    repeat (first | apply Z1 | apply Z2 | apply Z3 | apply Z4 | apply Z5 rfl | apply Z6 | apply Z7 | apply Z8 | apply Z9 | apply ZA | apply ZB | apply ZC | ((first | apply ZD (by decide) | apply ZN (by decide)); (simp (maxSteps := 9999999) only [go_sem, argR, p1, p2, p3, p4, l1, l2, cc, hlt2]; rfl)) | (refine ZE ?_ ?_; · simp only [go_sem]) | (refine ZF ?_ ?_; · simp only [go_sem]))
    exact end_nil (q_free [.int .i64 i, .int .i64 j] (by simp only [go_sem]) rfl rfl rfl (fun _ => rfl) (take_self _) rfl)
theorem medF (C : Cmp M g cel c) (hl : ∀ x, (cel x).length = 3) {h : SHeap} {f : Nat → E} (S : Rd cel n B el h f) (hRB : R ≠ B) {w : Nat} (hw : w ≤ 500) (hR : h[R]? = some (wb w)) {i j k : Nat} (hi : i < n) (hj : j < n) (hk : k < n) :
    ∃ m w', (m = i ∨ m = j ∨ m = k) ∧ w' ≤ w + 3 ∧ M.call 117 [.slice (some ⟨B, 0, none⟩) n cap, .int .i64 ((i : Nat) : Int), .int .i64 ((j : Nat) : Int), .int .i64 ((k : Nat) : Int), .pointer (some ⟨R, 0, none⟩), .func (.func g) #[] #[]] h = some (.int .i64 ((m : Nat) : Int), h.set R (wb w'), []) := by
  have hlt : R < h.length := (List.getElem?_eq_some_iff.1 hR).1
  obtain ⟨i1, j1, w1, a1, b1, e1⟩ := ordF (cap := cap) C hl S hRB (by omega) hR hi hj
  have S1 := S.set hRB (wb w1)
  have g1 : (h.set R (wb w1))[R]? = some (wb w1) := List.getElem?_set_self hlt
  have hi1 : i1 < n := by omega
  have hj1 : j1 < n := by omega
  obtain ⟨j2, k2, w2, a2, b2, e2⟩ := ordF (cap := cap) C hl S1 hRB (by omega) g1 hj1 hk
  rw [List.set_set] at e2
  have S2 := S.set hRB (wb w2)
  have g2 : (h.set R (wb w2))[R]? = some (wb w2) := List.getElem?_set_self hlt
  have hj2 : j2 < n := by omega
  obtain ⟨i3, j3, w3, a3, b3, e3⟩ := ordF (cap := cap) C hl S2 hRB (by omega) g2 hi1 hj2
  rw [List.set_set] at e3
  refine ⟨j3, w3, by omega, by omega, ?_⟩
  refine call_run sf117 rfl rfl rfl ?_
  unfold sf117
  repeat (first | apply Z1 | apply Z2 | apply Z3 | apply Z4 | apply Z5 rfl | apply Z6 | apply Z7 | apply Z8 | apply Z9 | apply ZA | apply ZB | apply ZC | ((first | apply ZD (by decide) | apply ZN (by decide)); (simp (maxSteps := 9999999) only [go_sem, argR, e1, e2, e3]; rfl)) | (refine ZE ?_ ?_; · simp only [go_sem]) | (refine ZF ?_ ?_; · simp only [go_sem]))
  refine end_nil (q_free [.int .i64 j3] (by simp only [go_sem]) rfl rfl rfl (fun _ => rfl) ?_ rfl)
  rw [List.take_of_length_le (by simp)]
theorem madjF (C : Cmp M g cel c) (hl : ∀ x, (cel x).length = 3) {h : SHeap} {f : Nat → E} (S : Rd cel n B el h f) (hRB : R ≠ B) {w : Nat} (hw : w ≤ 500) (hR : h[R]? = some (wb w)) {i : Nat} (h1 : 1 ≤ i) (hi : i + 1 < n) (hn : n ≤ 1000000) :
    ∃ m w', (m + 1 = i ∨ m = i ∨ m = i + 1) ∧ w' ≤ w + 3 ∧ M.call 116 [.slice (some ⟨B, 0, none⟩) n cap, .int .i64 ((i : Nat) : Int), .pointer (some ⟨R, 0, none⟩), .func (.func g) #[] #[]] h = some (.int .i64 ((m : Nat) : Int), h.set R (wb w'), []) := by
  obtain ⟨m, w', a, b, e⟩ := medF (cap := cap) C hl S hRB hw hR (show i - 1 < n by omega) (show i < n by omega) hi
  refine ⟨m, w', by omega, b, ?_⟩
  have w1 : IntKind.i64.wrap ((i : Int) - 1) = ((i - 1 : Nat) : Int) := by rw [wrap64 (by omega) (by omega)]; omega
  have w2 : IntKind.i64.wrap ((i : Int) + 1) = ((i + 1 : Nat) : Int) := by rw [wrap64 (by omega) (by omega)]; rfl
  refine call_run sf116 rfl rfl rfl ?_
  unfold sf116
  repeat (first | apply Z1 | apply Z2 | apply Z3 | apply Z4 | apply Z5 rfl | apply Z6 | apply Z7 | apply Z8 | apply Z9 | apply ZA | apply ZB | apply ZC | ((first | apply ZD (by decide) | apply ZN (by decide)); (simp (maxSteps := 9999999) only [go_sem, argR, w1, w2, e]; rfl)) | (refine ZE ?_ ?_; · simp only [go_sem]) | (refine ZF ?_ ?_; · simp only [go_sem]))
  refine end_nil (q_free [.int .i64 m] (by simp only [go_sem]) rfl rfl rfl (fun _ => rfl) ?_ rfl)
  rw [List.take_of_length_le (by simp)]
theorem pivF (C : Cmp M g cel c) (hl : ∀ x, (cel x).length = 3) (hn : n ≤ 1000000) {h : SHeap} {f : Nat → E} (S : Rd cel n B el h f) {a b : Nat} (hab : a + 13 ≤ b) (hb : b ≤ n) :
    ∃ (p : Nat) (t : Int), a ≤ p ∧ p < b ∧ (t = 0 ∨ t = 1 ∨ t = 2) ∧ M.call 104 [.slice (some ⟨B, 0, none⟩) n cap, .int .i64 a, .int .i64 b, .func (.func g) #[] #[]] h = some (.tuple #[.int .i64 ((p : Nat) : Int), .int .i64 t], h, []) := by
  have hB : B < h.length := by obtain ⟨old, e⟩ := S; exact (List.getElem?_eq_some_iff.1 e).1
  have hRB : h.length ≠ B := by omega
  have q1 : 1 ≤ a + (b - a) / 4 := by omega
  have q2 : a + (b - a) / 4 + 1 < n := by omega
  have q3 : 1 ≤ a + (b - a) / 4 * 2 := by omega
  have q4 : a + (b - a) / 4 * 2 + 1 < n := by omega
  have q5 : 1 ≤ a + (b - a) / 4 * 3 := by omega
  have q6 : 50 ≤ b - a → a + (b - a) / 4 * 3 + 1 < n := by omega
  have q7 : a + (b - a) / 4 * 3 < n := by omega
  have r1 : ∀ i1 : Nat, (i1 + 1 = a + (b - a) / 4 ∨ i1 = a + (b - a) / 4 ∨ i1 = a + (b - a) / 4 + 1) → a ≤ i1 ∧ i1 < b ∧ i1 < n := by intro i1 h1; omega
  have r2 : ∀ i1 : Nat, (i1 + 1 = a + (b - a) / 4 * 2 ∨ i1 = a + (b - a) / 4 * 2 ∨ i1 = a + (b - a) / 4 * 2 + 1) → a ≤ i1 ∧ i1 < b ∧ i1 < n := by intro i1 h1; omega
  have r3 : ∀ i1 : Nat, 50 ≤ b - a → (i1 + 1 = a + (b - a) / 4 * 3 ∨ i1 = a + (b - a) / 4 * 3 ∨ i1 = a + (b - a) / 4 * 3 + 1) → a ≤ i1 ∧ i1 < b ∧ i1 < n := by intro i1 h0 h1; omega
  have r4 : ∀ m : Nat, (m = a + (b - a) / 4 ∨ m = a + (b - a) / 4 * 2 ∨ m = a + (b - a) / 4 * 3) → a ≤ m ∧ m < b := by intro m h1; omega
  have r5 : ∀ i j k m : Nat, (m = i ∨ m = j ∨ m = k) → (a ≤ i ∧ i < b ∧ i < n) → (a ≤ j ∧ j < b ∧ j < n) → (a ≤ k ∧ k < b ∧ k < n) → a ≤ m ∧ m < b := by intro i j k m h1 h2 h3 h4; omega
  have S0 : Rd cel n B el (h ++ [wb 0]) f := by obtain ⟨old, e⟩ := S; exact ⟨old, by rw [List.getElem?_append_left hB]; exact e⟩
  have g0 : (h ++ [wb 0])[h.length]? = some (wb 0) := by rw [app_get0]; rfl
  have hset : ∀ w x, (h ++ [wb w]).set h.length x = h ++ [x] := fun w x => by rw [app_set0]; rfl
  have w1 : IntKind.i64.wrap ((b : Int) - (a : Int)) = ((b - a : Nat) : Int) := by rw [wrap64 (by omega) (by omega)]; omega
  have d4 : IntKind.i64.wrap (((b - a : Nat) : Int).tdiv 4) = (((b - a) / 4 : Nat) : Int) := by rw [Int.tdiv_eq_ediv_of_nonneg (by omega), wrap64 (by omega) (by omega)]; rfl
  have m1 : IntKind.i64.wrap (((b - a) / 4 : Nat) : Int) = (((b - a) / 4 : Nat) : Int) := wrap64 (by omega) (by omega)
  have m2 : IntKind.i64.wrap ((((b - a) / 4 : Nat) : Int) * 2) = (((b - a) / 4 * 2 : Nat) : Int) := by rw [wrap64 (by omega) (by omega)]; rfl
  have m3 : IntKind.i64.wrap ((((b - a) / 4 : Nat) : Int) * 3) = (((b - a) / 4 * 3 : Nat) : Int) := by rw [wrap64 (by omega) (by omega)]; rfl
  have a1 : IntKind.i64.wrap ((a : Int) + (((b - a) / 4 : Nat) : Int)) = ((a + (b - a) / 4 : Nat) : Int) := by rw [wrap64 (by omega) (by omega)]; rfl
  have a2 : IntKind.i64.wrap ((a : Int) + (((b - a) / 4 * 2 : Nat) : Int)) = ((a + (b - a) / 4 * 2 : Nat) : Int) := by rw [wrap64 (by omega) (by omega)]; rfl
  have a3 : IntKind.i64.wrap ((a : Int) + (((b - a) / 4 * 3 : Nat) : Int)) = ((a + (b - a) / 4 * 3 : Nat) : Int) := by rw [wrap64 (by omega) (by omega)]; rfl
  have e8 : (8 : Int) ≤ ((b - a : Nat) : Int) := by omega
  have mul1 : ∀ z : Int, z * 1 = z := Int.mul_one
  have key : ∃ r, (∃ (p : Nat) (t : Int), a ≤ p ∧ p < b ∧ (t = 0 ∨ t = 1 ∨ t = 2) ∧ r = (Value.tuple #[.int .i64 ((p : Nat) : Int), .int .i64 t], h, ([] : List Nat))) ∧ M.call 104 [.slice (some ⟨B, 0, none⟩) n cap, .int .i64 a, .int .i64 b, .func (.func g) #[] #[]] h = some r := by
    refine call_ex (f := 104) _ sf104 rfl rfl rfl ?_
    unfold sf104
    by_cases c50 : 50 ≤ b - a
    · have e50 : (50 : Int) ≤ ((b - a : Nat) : Int) := by omega
      obtain ⟨i1, v1, x1, y1, z1⟩ := madjF (cap := cap) (w := 0) C hl S0 hRB (by decide) g0 q1 q2 hn
      rw [hset] at z1
      have S1 : Rd cel n B el (h ++ [wb v1]) f := by obtain ⟨old, e⟩ := S; exact ⟨old, by rw [List.getElem?_append_left hB]; exact e⟩
      obtain ⟨i2, v2, x2, y2, z2⟩ := madjF (cap := cap) (w := v1) C hl S1 hRB (Nat.le_trans y1 (by decide)) (by rw [app_get0]; rfl) q3 q4 hn
      rw [hset] at z2
      have S2 : Rd cel n B el (h ++ [wb v2]) f := by obtain ⟨old, e⟩ := S; exact ⟨old, by rw [List.getElem?_append_left hB]; exact e⟩
      obtain ⟨i3, v3, x3, y3, z3⟩ := madjF (cap := cap) (w := v2) C hl S2 hRB (Nat.le_trans y2 (Nat.le_trans (Nat.add_le_add_right y1 3) (by decide))) (by rw [app_get0]; rfl) q5 (q6 c50) hn
      rw [hset] at z3
      have S3 : Rd cel n B el (h ++ [wb v3]) f := by obtain ⟨old, e⟩ := S; exact ⟨old, by rw [List.getElem?_append_left hB]; exact e⟩
      obtain ⟨p, v4, x4, y4, z4⟩ := medF (cap := cap) (w := v3) C hl S3 hRB (Nat.le_trans y3 (Nat.le_trans (Nat.add_le_add_right (Nat.le_trans y2 (Nat.add_le_add_right y1 3)) 3) (by decide))) (by rw [app_get0]; rfl) (r1 _ x1).2.2 (r2 _ x2).2.2 (r3 _ c50 x3).2.2
      rw [hset] at z4
      have hp := r5 _ _ _ _ x4 (r1 _ x1) (r2 _ x2) (r3 _ c50 x3)
      have n0 : ((0 : Nat) : Int) = 0 := rfl
      simp only [wb, n0] at z1
      repeat (first | apply Z1 | apply Z2 | apply Z3 | apply Z4 | apply Z5 rfl | apply Z6 | apply Z7 | apply Z8 | apply Z9 | apply ZA | apply ZB | apply ZC | ((first | apply ZD (by decide) | apply ZN (by decide)); (simp (maxSteps := 9999999) only [go_sem, argR, w1, d4, m1, m2, m3, mul1, a1, a2, a3, e8, e50, z1, z2, z3, z4]; rfl)) | (refine ZE ?_ ?_; · simp only [go_sem]) | (refine ZF ?_ ?_; · simp only [go_sem]))
      by_cases t0 : v4 = 0
      · have t0' : (((v4 : Nat) : Int) = 0) = True := eq_true (by rw [t0]; rfl)
        refine run_cond_t (by simp only [go_sem, t0']) ?_
        repeat (first | apply Z1 | apply Z2 | apply Z3 | apply Z4 | apply Z5 rfl | apply Z6 | apply Z7 | apply Z8 | apply Z9 | apply ZA | apply ZB | apply ZC | ((first | apply ZD (by decide) | apply ZN (by decide)); (simp (maxSteps := 9999999) only [go_sem]; rfl)) | (refine ZE ?_ ?_; · simp only [go_sem]) | (refine ZF ?_ ?_; · simp only [go_sem]))
        exact end_nil ⟨_, ⟨p, 1, hp.1, hp.2, .inr (.inl rfl), rfl⟩, q_free [.int .i64 p, .int .i64 1] (by simp only [go_sem]) rfl rfl rfl (fun _ => rfl) (take_app _ _) rfl⟩
      · have t0' : (((v4 : Nat) : Int) = 0) = False := eq_false (fun e => t0 (Int.ofNat.inj e))
        refine run_cond_f (by simp only [go_sem, t0']) ?_
        repeat (first | apply Z1 | apply Z2 | apply Z3 | apply Z4 | apply Z5 rfl | apply Z6 | apply Z7 | apply Z8 | apply Z9 | apply ZA | apply ZB | apply ZC | ((first | apply ZD (by decide) | apply ZN (by decide)); (simp (maxSteps := 9999999) only [go_sem]; rfl)) | (refine ZE ?_ ?_; · simp only [go_sem]) | (refine ZF ?_ ?_; · simp only [go_sem]))
        by_cases t1 : v4 = 12
        · have t1' : (((v4 : Nat) : Int) = 12) = True := eq_true (by rw [t1]; rfl)
          refine run_cond_t (by simp only [go_sem, t1']) ?_
          repeat (first | apply Z1 | apply Z2 | apply Z3 | apply Z4 | apply Z5 rfl | apply Z6 | apply Z7 | apply Z8 | apply Z9 | apply ZA | apply ZB | apply ZC | ((first | apply ZD (by decide) | apply ZN (by decide)); (simp (maxSteps := 9999999) only [go_sem]; rfl)) | (refine ZE ?_ ?_; · simp only [go_sem]) | (refine ZF ?_ ?_; · simp only [go_sem]))
          exact end_nil ⟨_, ⟨p, 2, hp.1, hp.2, .inr (.inr rfl), rfl⟩, q_free [.int .i64 p, .int .i64 2] (by simp only [go_sem]) rfl rfl rfl (fun _ => rfl) (take_app _ _) rfl⟩
        · have t1' : (((v4 : Nat) : Int) = 12) = False := eq_false (fun e => t1 (Int.ofNat.inj e))
          refine run_cond_f (by simp only [go_sem, t1']) ?_
          repeat (first | apply Z1 | apply Z2 | apply Z3 | apply Z4 | apply Z5 rfl | apply Z6 | apply Z7 | apply Z8 | apply Z9 | apply ZA | apply ZB | apply ZC | ((first | apply ZD (by decide) | apply ZN (by decide)); (simp (maxSteps := 9999999) only [go_sem]; rfl)) | (refine ZE ?_ ?_; · simp only [go_sem]) | (refine ZF ?_ ?_; · simp only [go_sem]))
          exact end_nil ⟨_, ⟨p, 0, hp.1, hp.2, .inl rfl, rfl⟩, q_free [.int .i64 p, .int .i64 0] (by simp only [go_sem]) rfl rfl rfl (fun _ => rfl) (take_app _ _) rfl⟩
    · have e50 : ¬ (50 : Int) ≤ ((b - a : Nat) : Int) := by omega
      obtain ⟨p, v4, x4, y4, z4⟩ := medF (cap := cap) (w := 0) C hl S0 hRB (by decide) g0 (i := a + (b - a) / 4) (j := a + (b - a) / 4 * 2) (k := a + (b - a) / 4 * 3) (Nat.lt_of_succ_lt q2) (Nat.lt_of_succ_lt q4) q7
      have hp := r4 _ x4
      rw [hset] at z4
      have n0 : ((0 : Nat) : Int) = 0 := rfl
      simp only [wb, n0] at z4
      repeat (first | apply Z1 | apply Z2 | apply Z3 | apply Z4 | apply Z5 rfl | apply Z6 | apply Z7 | apply Z8 | apply Z9 | apply ZA | apply ZB | apply ZC | ((first | apply ZD (by decide) | apply ZN (by decide)); (simp (maxSteps := 9999999) only [go_sem, argR, w1, d4, m1, m2, m3, mul1, a1, a2, a3, e8, e50, z4]; rfl)) | (refine ZE ?_ ?_; · simp only [go_sem]) | (refine ZF ?_ ?_; · simp only [go_sem]))
      by_cases t0 : v4 = 0
      · have t0' : (((v4 : Nat) : Int) = 0) = True := eq_true (by rw [t0]; rfl)
        refine run_cond_t (by simp only [go_sem, t0']) ?_
        repeat (first | apply Z1 | apply Z2 | apply Z3 | apply Z4 | apply Z5 rfl | apply Z6 | apply Z7 | apply Z8 | apply Z9 | apply ZA | apply ZB | apply ZC | ((first | apply ZD (by decide) | apply ZN (by decide)); (simp (maxSteps := 9999999) only [go_sem]; rfl)) | (refine ZE ?_ ?_; · simp only [go_sem]) | (refine ZF ?_ ?_; · simp only [go_sem]))
        exact end_nil ⟨_, ⟨p, 1, hp.1, hp.2, .inr (.inl rfl), rfl⟩, q_free [.int .i64 p, .int .i64 1] (by simp only [go_sem]) rfl rfl rfl (fun _ => rfl) (take_app _ _) rfl⟩
      · have t0' : (((v4 : Nat) : Int) = 0) = False := eq_false (fun e => t0 (Int.ofNat.inj e))
        refine run_cond_f (by simp only [go_sem, t0']) ?_
        repeat (first | apply Z1 | apply Z2 | apply Z3 | apply Z4 | apply Z5 rfl | apply Z6 | apply Z7 | apply Z8 | apply Z9 | apply ZA | apply ZB | apply ZC | ((first | apply ZD (by decide) | apply ZN (by decide)); (simp (maxSteps := 9999999) only [go_sem]; rfl)) | (refine ZE ?_ ?_; · simp only [go_sem]) | (refine ZF ?_ ?_; · simp only [go_sem]))
        by_cases t1 : v4 = 12
        · have t1' : (((v4 : Nat) : Int) = 12) = True := eq_true (by rw [t1]; rfl)
          refine run_cond_t (by simp only [go_sem, t1']) ?_
          repeat (first | apply Z1 | apply Z2 | apply Z3 | apply Z4 | apply Z5 rfl | apply Z6 | apply Z7 | apply Z8 | apply Z9 | apply ZA | apply ZB | apply ZC | ((first | apply ZD (by decide) | apply ZN (by decide)); (simp (maxSteps := 9999999) only [go_sem]; rfl)) | (refine ZE ?_ ?_; · simp only [go_sem]) | (refine ZF ?_ ?_; · simp only [go_sem]))
          exact end_nil ⟨_, ⟨p, 2, hp.1, hp.2, .inr (.inr rfl), rfl⟩, q_free [.int .i64 p, .int .i64 2] (by simp only [go_sem]) rfl rfl rfl (fun _ => rfl) (take_app _ _) rfl⟩
        · have t1' : (((v4 : Nat) : Int) = 12) = False := eq_false (fun e => t1 (Int.ofNat.inj e))
          refine run_cond_f (by simp only [go_sem, t1']) ?_
          repeat (first | apply Z1 | apply Z2 | apply Z3 | apply Z4 | apply Z5 rfl | apply Z6 | apply Z7 | apply Z8 | apply Z9 | apply ZA | apply ZB | apply ZC | ((first | apply ZD (by decide) | apply ZN (by decide)); (simp (maxSteps := 9999999) only [go_sem]; rfl)) | (refine ZE ?_ ?_; · simp only [go_sem]) | (refine ZF ?_ ?_; · simp only [go_sem]))
          exact end_nil ⟨_, ⟨p, 0, hp.1, hp.2, .inl rfl, rfl⟩, q_free [.int .i64 p, .int .i64 0] (by simp only [go_sem]) rfl rfl rfl (fun _ => rfl) (take_app _ _) rfl⟩
  obtain ⟨r, ⟨p, t, x1, x2, x3, rfl⟩, e⟩ := key
  exact ⟨p, t, x1, x2, x3, e⟩
end
end Go.Proofs.YtdmfhdnpakgkpaaDoor.Sh

namespace Go.Proofs.YtdmfhdnpakgkpaaDoor.Sh
open Go
set_option maxRecDepth 100000
set_option maxHeartbeats 4000000
section
variable {E : Type} {cel : E → List Value} {c : E → E → Int} {g : FuncId} {n B cap : Nat} {el : TypeId} {h0 : SHeap} {old0 : List Nat}
def PK (n B cap : Nat) (g : FuncId) (a b : Nat) (ρ : Reg) : Prop := ρ 0 = .slice (some ⟨B, 0, none⟩) n cap ∧ ρ 1 = .int .i64 a ∧ ρ 2 = .int .i64 b ∧ ρ 3 = .func (.func g) #[] #[]
theorem pinA_loopF (C : Cmp M g cel c) (hl : ∀ x, (cel x).length = 3) (hn : n ≤ 1000000) {a b : Nat} (hb : b ≤ n) (cx : Cx) {h : SHeap} {f : Nat → E} (S : SA cel n B el h0 old0 h f) (t : Int) : ∀ k ρ ms h' d', (∃ i : Nat, b - i = k ∧ a < i ∧ i ≤ b ∧ Ord c a i f ∧ PK n B cap g a b ρ ∧ ρ 9 = .int .i64 i ∧ ρ 10 = .int .i64 t ∧ ms = [] ∧ h' = h ∧ d' = []) →
    LoopW M cx 8 sf106L2 ρ ms h' d' (fun ex ρ' ms' h' d' => ex = .exit 2 ∧ ms' = [] ∧ h' = h ∧ d' = [] ∧ ∃ i : Nat, a < i ∧ i ≤ b ∧ Ord c a i f ∧ PK n B cap g a b ρ' ∧ ρ' 9 = .int .i64 i ∧ ρ' 10 = .int .i64 t) := by
  refine loop_run _ ?_
  rintro k ρ ms h' d' ⟨i, hk, hai, hib, O, ⟨r0, r1, r2, r3⟩, r9, r10, rfl, rfl, rfl⟩
  unfold sf106L2
  by_cases z : i < b
  · have e1 : (i : Int) < b := by omega
    have p1 : (0 : Int) ≤ (i : Int) := by omega
    have p2 : (i : Int) < n := by omega
    have p3 : (0 : Int) ≤ ((i - 1 : Nat) : Int) := by omega
    have p4 : ((i - 1 : Nat) : Int) < n := by omega
    have w1 : IntKind.i64.wrap ((i : Int) - 1) = ((i - 1 : Nat) : Int) := by rw [wrap64 (by omega) (by omega)]; omega
    have w2 : IntKind.i64.wrap ((i : Int) + 1) = ((i + 1 : Nat) : Int) := by rw [wrap64 (by omega) (by omega)]; rfl
    have l1 := S.load hl (show i < n by omega)
    have l2 := S.load hl (show i - 1 < n by omega)
    have cc := fun h => C.call (f i) (f (i - 1)) h
    by_cases hlt : c (f i) (f (i - 1)) < 0
    · repeat (first | apply Z1 | apply Z2 | apply Z3 | apply Z4 | apply Z5 rfl | apply Z6 | apply Z7 | apply Z8 | apply Z9 | apply ZA | apply ZB | apply ZC | ((first | apply ZD (by decide) | apply ZN (by decide)); (simp (maxSteps := 9999999) only [go_sem, r0, r1, r2, r3, r9, e1, p1, p2, p3, p4, w1, l1, l2, cc, hlt]; rfl)) | (refine ZE ?_ ?_; · simp only [go_sem]) | (refine ZF ?_ ?_; · simp only [go_sem]))
      refine end_nil ⟨rfl, rfl, rfl, rfl, i, hai, hib, O, ⟨?_, ?_, ?_, ?_⟩, ?_, ?_⟩
      · simp only [go_sem, r0]
      · simp only [go_sem, r1]
      · simp only [go_sem, r2]
      · simp only [go_sem, r3]
      · simp only [go_sem, r9]
      · simp only [go_sem, r10]
    · repeat (first | apply Z1 | apply Z2 | apply Z3 | apply Z4 | apply Z5 rfl | apply Z6 | apply Z7 | apply Z8 | apply Z9 | apply ZA | apply ZB | apply ZC | ((first | apply ZD (by decide) | apply ZN (by decide)); (simp (maxSteps := 9999999) only [go_sem, r0, r1, r2, r3, r9, e1, p1, p2, p3, p4, w1, l1, l2, cc, hlt, w2]; rfl)) | (refine ZE ?_ ?_; · simp only [go_sem]) | (refine ZF ?_ ?_; · simp only [go_sem]))
      refine end_nil ⟨b - (i + 1), by omega, i + 1, rfl, by omega, by omega, O.snoc C (fun _ => hlt), ⟨?_, ?_, ?_, ?_⟩, ?_, ?_, rfl, rfl, rfl⟩
      · simp only [go_sem, r0]
      · simp only [go_sem, r1]
      · simp only [go_sem, r2]
      · simp only [go_sem, r3]
      · simp only [go_sem, w2]
      · simp only [go_sem, r10]
  · have e1 : ¬ (i : Int) < b := by omega
    repeat (first | apply Z1 | apply Z2 | apply Z3 | apply Z4 | apply Z5 rfl | apply Z6 | apply Z7 | apply Z8 | apply Z9 | apply ZA | apply ZB | apply ZC | ((first | apply ZD (by decide) | apply ZN (by decide)); (simp (maxSteps := 9999999) only [go_sem, r0, r1, r2, r3, r9, e1]; rfl)) | (refine ZE ?_ ?_; · simp only [go_sem]) | (refine ZF ?_ ?_; · simp only [go_sem]))
    refine end_nil ⟨rfl, rfl, rfl, rfl, i, hai, hib, O, ⟨?_, ?_, ?_, ?_⟩, ?_, ?_⟩
    · simp only [go_sem, r0]
    · simp only [go_sem, r1]
    · simp only [go_sem, r2]
    · simp only [go_sem, r3]
    · simp only [go_sem, r9]
    · simp only [go_sem, r10]
theorem pinB_loopF (C : Cmp M g cel c) (hl : ∀ x, (cel x).length = 3) (hc : ∀ x, (cel x).all sc = true) (hn : n ≤ 1000000) {a b i : Nat} (hb : b ≤ n) (hai : a + 1 < i) (hib : i < b) (cx : Cx) (f0 : Nat → E) (hpre : 0 < a → ∀ j, a ≤ j → j < i → ¬ c (f0 j) (f0 (a - 1)) < 0) (t : Int) : ∀ k ρ ms h' d', (∃ (j : Nat) (f : Nat → E), j = k ∧ a ≤ j ∧ j < i ∧ SA cel n B el h0 old0 h' f ∧ Sw a i f0 f ∧ InsI c a (i - 1) j f ∧ PK n B cap g a b ρ ∧ ρ 9 = .int .i64 i ∧ ρ 10 = .int .i64 t ∧ ρ 11 = .int .i64 j ∧ ms = [] ∧ d' = []) →
    LoopW M cx 8 sf106L1 ρ ms h' d' (fun ex ρ' ms' h' d' => ex = .exit 4 ∧ ms' = [] ∧ d' = [] ∧ ∃ f : Nat → E, SA cel n B el h0 old0 h' f ∧ Sw a i f0 f ∧ Ord c a i f ∧ PK n B cap g a b ρ' ∧ ρ' 9 = .int .i64 i ∧ ρ' 10 = .int .i64 t) := by
  refine loop_run _ ?_
  rintro k ρ ms h' d' ⟨j, f, rfl, haj, hji, S, W, I, ⟨r0, r1, r2, r3⟩, r9, r10, r11, rfl, rfl⟩
  have hord : (j ≤ a ∨ ¬ c (f j) (f (j - 1)) < 0) → Ord c a i f := fun h => by
    have := I.stop C h
    rwa [show i - 1 + 1 = i by omega] at this
  unfold sf106L1
  by_cases z : 1 ≤ j
  · have e1 : (1 : Int) ≤ j := by omega
    have p1 : (0 : Int) ≤ (j : Int) := by omega
    have p2 : (j : Int) < n := by omega
    have p3 : (0 : Int) ≤ ((j - 1 : Nat) : Int) := by omega
    have p4 : ((j - 1 : Nat) : Int) < n := by omega
    have w1 : IntKind.i64.wrap ((j : Int) - 1) = ((j - 1 : Nat) : Int) := by rw [wrap64 (by omega) (by omega)]; omega
    have l1 := S.load hl (show j < n by omega)
    have l2 := S.load hl (show j - 1 < n by omega)
    have cc := fun h => C.call (f j) (f (j - 1)) h
    by_cases hlt : c (f j) (f (j - 1)) < 0
    · -- so j is behind a
      have hja : a < j := by
        by_cases e : a < j
        · exact e
        · exfalso
          have ej : j = a := by omega
          subst ej
          have := W.all (P := fun x => ¬ c x (f0 (j - 1)) < 0) (hpre (by omega)) j (by omega) hji
          rw [← W.out (i := j - 1) (by omega)] at this
          exact this hlt
      obtain ⟨h1, h2, st1, st2, S2⟩ := S.swap hl hc (by decide) (show j < n by omega) (show j - 1 < n by omega)
      repeat (first | apply Z1 | apply Z2 | apply Z3 | apply Z4 | apply Z5 rfl | apply Z6 | apply Z7 | apply Z8 | apply Z9 | apply ZA | apply ZB | apply ZC | ((first | apply ZD (by decide) | apply ZN (by decide)); (simp (maxSteps := 9999999) only [go_sem, r0, r1, r2, r3, r9, r11, e1, p1, p2, p3, p4, w1, l1, l2, cc, hlt, hl, ↓st1, ↓st2]; rfl)) | (refine ZE ?_ ?_; · simp only [go_sem]) | (refine ZF ?_ ?_; · simp only [go_sem]))
      refine end_nil ⟨j - 1, by omega, j - 1, _, rfl, by omega, by omega, S2, W.step (by omega) (by omega) (by omega) (by omega), I.step hja (by omega) hlt, ⟨?_, ?_, ?_, ?_⟩, ?_, ?_, ?_, rfl, rfl⟩
      · simp only [go_sem, r0]
      · simp only [go_sem, r1]
      · simp only [go_sem, r2]
      · simp only [go_sem, r3]
      · simp only [go_sem, r9]
      · simp only [go_sem, r10]
      · simp only [go_sem, w1]
    · repeat (first | apply Z1 | apply Z2 | apply Z3 | apply Z4 | apply Z5 rfl | apply Z6 | apply Z7 | apply Z8 | apply Z9 | apply ZA | apply ZB | apply ZC | ((first | apply ZD (by decide) | apply ZN (by decide)); (simp (maxSteps := 9999999) only [go_sem, r0, r1, r2, r3, r9, r11, e1, p1, p2, p3, p4, w1, l1, l2, cc, hlt]; rfl)) | (refine ZE ?_ ?_; · simp only [go_sem]) | (refine ZF ?_ ?_; · simp only [go_sem]))
      refine end_nil ⟨rfl, rfl, rfl, f, S, W, hord (.inr hlt), ⟨?_, ?_, ?_, ?_⟩, ?_, ?_⟩
      · simp only [go_sem, r0]
      · simp only [go_sem, r1]
      · simp only [go_sem, r2]
      · simp only [go_sem, r3]
      · simp only [go_sem, r9]
      · simp only [go_sem, r10]
  · have e1 : ¬ (1 : Int) ≤ j := by omega
    repeat (first | apply Z1 | apply Z2 | apply Z3 | apply Z4 | apply Z5 rfl | apply Z6 | apply Z7 | apply Z8 | apply Z9 | apply ZA | apply ZB | apply ZC | ((first | apply ZD (by decide) | apply ZN (by decide)); (simp (maxSteps := 9999999) only [go_sem, r0, r1, r2, r3, r9, r11, e1]; rfl)) | (refine ZE ?_ ?_; · simp only [go_sem]) | (refine ZF ?_ ?_; · simp only [go_sem]))
    refine end_nil ⟨rfl, rfl, rfl, f, S, W, hord (.inl (by omega)), ⟨?_, ?_, ?_, ?_⟩, ?_, ?_⟩
    · simp only [go_sem, r0]
    · simp only [go_sem, r1]
    · simp only [go_sem, r2]
    · simp only [go_sem, r3]
    · simp only [go_sem, r9]
    · simp only [go_sem, r10]
theorem pinC_loopF (C : Cmp M g cel c) (hl : ∀ x, (cel x).length = 3) (hc : ∀ x, (cel x).all sc = true) (hn : n ≤ 1000000) {a b i : Nat} (hb : b ≤ n) (hib : i < b) (cx : Cx) (f0 : Nat → E) (t : Int) : ∀ k ρ ms h' d', (∃ (j : Nat) (f : Nat → E), b - j = k ∧ i < j ∧ j ≤ b ∧ SA cel n B el h0 old0 h' f ∧ Sw i b f0 f ∧ PK n B cap g a b ρ ∧ ρ 9 = .int .i64 i ∧ ρ 10 = .int .i64 t ∧ ρ 12 = .int .i64 j ∧ ms = [] ∧ d' = []) →
    LoopW M cx 8 sf106L0 ρ ms h' d' (fun ex ρ' ms' h' d' => ex = .exit 6 ∧ ms' = [] ∧ d' = [] ∧ ∃ f : Nat → E, SA cel n B el h0 old0 h' f ∧ Sw i b f0 f ∧ PK n B cap g a b ρ' ∧ ρ' 9 = .int .i64 i ∧ ρ' 10 = .int .i64 t) := by
  refine loop_run _ ?_
  rintro k ρ ms h' d' ⟨j, f, hk, hij, hjb, S, W, ⟨r0, r1, r2, r3⟩, r9, r10, r12, rfl, rfl⟩
  unfold sf106L0
  by_cases z : j < b
  · have e1 : (j : Int) < b := by omega
    have p1 : (0 : Int) ≤ (j : Int) := by omega
    have p2 : (j : Int) < n := by omega
    have p3 : (0 : Int) ≤ ((j - 1 : Nat) : Int) := by omega
    have p4 : ((j - 1 : Nat) : Int) < n := by omega
    have w1 : IntKind.i64.wrap ((j : Int) - 1) = ((j - 1 : Nat) : Int) := by rw [wrap64 (by omega) (by omega)]; omega
    have w2 : IntKind.i64.wrap ((j : Int) + 1) = ((j + 1 : Nat) : Int) := by rw [wrap64 (by omega) (by omega)]; rfl
    have l1 := S.load hl (show j < n by omega)
    have l2 := S.load hl (show j - 1 < n by omega)
    have cc := fun h => C.call (f j) (f (j - 1)) h
    by_cases hlt : c (f j) (f (j - 1)) < 0
    · obtain ⟨h1, h2, st1, st2, S2⟩ := S.swap hl hc (by decide) (show j < n by omega) (show j - 1 < n by omega)
      repeat (first | apply Z1 | apply Z2 | apply Z3 | apply Z4 | apply Z5 rfl | apply Z6 | apply Z7 | apply Z8 | apply Z9 | apply ZA | apply ZB | apply ZC | ((first | apply ZD (by decide) | apply ZN (by decide)); (simp (maxSteps := 9999999) only [go_sem, r0, r1, r2, r3, r9, r12, e1, p1, p2, p3, p4, w1, w2, l1, l2, cc, hlt, hl, ↓st1, ↓st2]; rfl)) | (refine ZE ?_ ?_; · simp only [go_sem]) | (refine ZF ?_ ?_; · simp only [go_sem]))
      refine end_nil ⟨b - (j + 1), by omega, j + 1, _, rfl, by omega, by omega, S2, W.step (by omega) (by omega) (by omega) (by omega), ⟨?_, ?_, ?_, ?_⟩, ?_, ?_, ?_, rfl, rfl⟩
      · simp only [go_sem, r0]
      · simp only [go_sem, r1]
      · simp only [go_sem, r2]
      · simp only [go_sem, r3]
      · simp only [go_sem, r9]
      · simp only [go_sem, r10]
      · simp only [go_sem, w2]
    · repeat (first | apply Z1 | apply Z2 | apply Z3 | apply Z4 | apply Z5 rfl | apply Z6 | apply Z7 | apply Z8 | apply Z9 | apply ZA | apply ZB | apply ZC | ((first | apply ZD (by decide) | apply ZN (by decide)); (simp (maxSteps := 9999999) only [go_sem, r0, r1, r2, r3, r9, r12, e1, p1, p2, p3, p4, w1, l1, l2, cc, hlt]; rfl)) | (refine ZE ?_ ?_; · simp only [go_sem]) | (refine ZF ?_ ?_; · simp only [go_sem]))
      refine end_nil ⟨rfl, rfl, rfl, f, S, W, ⟨?_, ?_, ?_, ?_⟩, ?_, ?_⟩
      · simp only [go_sem, r0]
      · simp only [go_sem, r1]
      · simp only [go_sem, r2]
      · simp only [go_sem, r3]
      · simp only [go_sem, r9]
      · simp only [go_sem, r10]
  · have e1 : ¬ (j : Int) < b := by omega
    repeat (first | apply Z1 | apply Z2 | apply Z3 | apply Z4 | apply Z5 rfl | apply Z6 | apply Z7 | apply Z8 | apply Z9 | apply ZA | apply ZB | apply ZC | ((first | apply ZD (by decide) | apply ZN (by decide)); (simp (maxSteps := 9999999) only [go_sem, r0, r1, r2, r3, r9, r12, e1]; rfl)) | (refine ZE ?_ ?_; · simp only [go_sem]) | (refine ZF ?_ ?_; · simp only [go_sem]))
    refine end_nil ⟨rfl, rfl, rfl, f, S, W, ⟨?_, ?_, ?_, ?_⟩, ?_, ?_⟩
    · simp only [go_sem, r0]
    · simp only [go_sem, r1]
    · simp only [go_sem, r2]
    · simp only [go_sem, r3]
    · simp only [go_sem, r9]
    · simp only [go_sem, r10]
theorem pinO_loopF (C : Cmp M g cel c) (hl : ∀ x, (cel x).length = 3) (hc : ∀ x, (cel x).all sc = true) (hn : n ≤ 1000000) {a b : Nat} (hb : b ≤ n) (cx : Cx) (f0 : Nat → E) (hpre : 0 < a → ∀ j, a ≤ j → j < b → ¬ c (f0 j) (f0 (a - 1)) < 0) : ∀ k ρ ms h' d', (∃ (t i : Nat) (f : Nat → E), t + k = 5 ∧ a < i ∧ i ≤ b ∧ SA cel n B el h0 old0 h' f ∧ Sw a b f0 f ∧ Ord c a i f ∧ PK n B cap g a b ρ ∧ ρ 9 = .int .i64 i ∧ ρ 10 = .int .i64 t ∧ ms = [] ∧ d' = []) →
    LoopW M cx 8 sf106L3 ρ ms h' d' (fun ex ρ' ms' h' d' => ms' = [] ∧ d' = [] ∧ ∃ f : Nat → E, SA cel n B el h0 old0 h' f ∧ Sw a b f0 f ∧ (ex = .exit 0 ∨ (ex = .ret ∧ ((ρ' 8 = .bool true ∧ Ord c a b f) ∨ ρ' 8 = .bool false)))) := by
  refine loop_run _ ?_
  rintro k ρ ms h' d' ⟨t, i, f, hk, hai, hib, S, W, O, P, r9, r10, rfl, rfl⟩
  unfold sf106L3
  by_cases z : t < 5
  · have e1 : (t : Int) < 5 := by omega
    have ew : IntKind.i64.wrap ((t : Int) + 1) = ((t + 1 : Nat) : Int) := by rw [wrap64 (by omega) (by omega)]; rfl
    repeat (first | apply Z1 | apply Z2 | apply Z3 | apply Z4 | apply Z5 rfl | apply Z6 | apply Z7 | apply Z8 | apply Z9 | apply ZA | apply ZB | apply ZC | ((first | apply ZD (by decide) | apply ZN (by decide)); (simp (maxSteps := 9999999) only [go_sem, r10, e1]; rfl)) | (refine ZE ?_ ?_; · simp only [go_sem]) | (refine ZF ?_ ?_; · simp only [go_sem]))
    obtain ⟨r0, r1, r2, r3⟩ := P
    refine run_loop (pinA_loopF (cap := cap) C hl hn (a := a) hb cx S t (b - i) _ _ _ _ ⟨i, rfl, hai, hib, O, ⟨by simp only [go_sem, r0], by simp only [go_sem, r1], by simp only [go_sem, r2], by simp only [go_sem, r3]⟩, by simp only [go_sem, r9], by simp only [go_sem, r10], rfl, rfl, rfl⟩) ?_
    rintro ex ρ1 ms1 h1 d1 ⟨rfl, rfl, rfl, rfl, i, hai, hib, O, ⟨r0, r1, r2, r3⟩, r9, r10⟩
    by_cases zi : i = b
    · have e2 : ((i : Int) = b) := by omega
      repeat (first | apply Z1 | apply Z2 | apply Z3 | apply Z4 | apply Z5 rfl | apply Z6 | apply Z7 | apply Z8 | apply Z9 | apply ZA | apply ZB | apply ZC | ((first | apply ZD (by decide) | apply ZN (by decide)); (simp (maxSteps := 9999999) only [go_sem, r0, r1, r2, r3, r9, r10, e2]; rfl)) | (refine ZE ?_ ?_; · simp only [go_sem]) | (refine ZF ?_ ?_; · simp only [go_sem]))
      exact end_nil ⟨rfl, rfl, f, S, W, .inr ⟨rfl, .inl ⟨by simp only [go_sem], by rw [zi] at O; exact O⟩⟩⟩
    · have e2 : ¬ ((i : Int) = b) := by omega
      have w1 : IntKind.i64.wrap ((b : Int) - (a : Int)) = ((b - a : Nat) : Int) := by rw [wrap64 (by omega) (by omega)]; omega
      by_cases z50 : b - a < 50
      · have e3 : ((b - a : Nat) : Int) < 50 := by omega
        repeat (first | apply Z1 | apply Z2 | apply Z3 | apply Z4 | apply Z5 rfl | apply Z6 | apply Z7 | apply Z8 | apply Z9 | apply ZA | apply ZB | apply ZC | ((first | apply ZD (by decide) | apply ZN (by decide)); (simp (maxSteps := 9999999) only [go_sem, r0, r1, r2, r3, r9, r10, e2, w1, e3]; rfl)) | (refine ZE ?_ ?_; · simp only [go_sem]) | (refine ZF ?_ ?_; · simp only [go_sem]))
        exact end_nil ⟨rfl, rfl, f, S, W, .inr ⟨rfl, .inr (by simp only [go_sem])⟩⟩
      · have e3 : ¬ ((b - a : Nat) : Int) < 50 := by omega
        have p1 : (0 : Int) ≤ (i : Int) := by omega
        have p2 : (i : Int) < n := by omega
        have p3 : (0 : Int) ≤ ((i - 1 : Nat) : Int) := by omega
        have p4 : ((i - 1 : Nat) : Int) < n := by omega
        have w2 : IntKind.i64.wrap ((i : Int) - 1) = ((i - 1 : Nat) : Int) := by rw [wrap64 (by omega) (by omega)]; omega
        have w3 : IntKind.i64.wrap ((i : Int) - (a : Int)) = ((i - a : Nat) : Int) := by rw [wrap64 (by omega) (by omega)]; omega
        have w4 : IntKind.i64.wrap ((b : Int) - (i : Int)) = ((b - i : Nat) : Int) := by rw [wrap64 (by omega) (by omega)]; omega
        have w5 : IntKind.i64.wrap ((i : Int) + 1) = ((i + 1 : Nat) : Int) := by rw [wrap64 (by omega) (by omega)]; rfl
        have l1 := S.load hl (show i < n by omega)
        have l2 := S.load hl (show i - 1 < n by omega)
        obtain ⟨h2, h3, st1, st2, S2⟩ := S.swap hl hc (by decide) (show i < n by omega) (show i - 1 < n by omega)
        have W2 : Sw a b f0 (swp f i (i - 1)) := W.step (by omega) (by omega) (by omega) (by omega)
        have O2 : Ord c a (i - 1) (swp f i (i - 1)) := (O.mono (Nat.le_refl _) (by omega)).congr (fun q q1 q2 => swp_o f (by omega) (by omega))
        have hpre2 : 0 < a → ∀ j, a ≤ j → j < i → ¬ c (swp f i (i - 1) j) (swp f i (i - 1) (a - 1)) < 0 := fun h0 j j1 j2 => by
          have := W2.all (P := fun x => ¬ c x (f0 (a - 1)) < 0) (hpre h0) j j1 (by omega)
          rwa [W2.out (i := a - 1) (by omega)]
        generalize swp f i (i - 1) = f2 at *
        by_cases z2 : 2 ≤ i - a
        · have e4 : (2 : Int) ≤ ((i - a : Nat) : Int) := by omega
          repeat (first | apply Z1 | apply Z2 | apply Z3 | apply Z4 | apply Z5 rfl | apply Z6 | apply Z7 | apply Z8 | apply Z9 | apply ZA | apply ZB | apply ZC | ((first | apply ZD (by decide) | apply ZN (by decide)); (simp (maxSteps := 9999999) only [go_sem, r0, r1, r2, r3, r9, r10, e2, w1, e3, p1, p2, p3, p4, w2, l1, l2, hl, ↓st1, ↓st2, w3, e4]; rfl)) | (refine ZE ?_ ?_; · simp only [go_sem]) | (refine ZF ?_ ?_; · simp only [go_sem]))
          refine run_loop (pinB_loopF (cap := cap) C hl hc hn (a := a) (i := i) hb (by omega) (by omega) cx f2 hpre2 t (i - 1) _ _ _ _ ⟨i - 1, f2, rfl, by omega, by omega, S2, .refl, InsI.start O2, ⟨by simp only [go_sem, r0], by simp only [go_sem, r1], by simp only [go_sem, r2], by simp only [go_sem, r3]⟩, by simp only [go_sem, r9], by simp only [go_sem, r10], by simp only [go_sem, w2], rfl, rfl⟩) ?_
          rintro ex ρ3 ms3 h4 d3 ⟨rfl, rfl, rfl, f3, S3, W3, O3, ⟨r0, r1, r2, r3⟩, r9, r10⟩
          have W3' : Sw a b f0 f3 := W2.trans (W3.mono (by omega) (by omega))
          by_cases z3 : 2 ≤ b - i
          · have e5 : (2 : Int) ≤ ((b - i : Nat) : Int) := by omega
            repeat (first | apply Z1 | apply Z2 | apply Z3 | apply Z4 | apply Z5 rfl | apply Z6 | apply Z7 | apply Z8 | apply Z9 | apply ZA | apply ZB | apply ZC | ((first | apply ZD (by decide) | apply ZN (by decide)); (simp (maxSteps := 9999999) only [go_sem, r0, r1, r2, r3, r9, r10, w4, e5, w5]; rfl)) | (refine ZE ?_ ?_; · simp only [go_sem]) | (refine ZF ?_ ?_; · simp only [go_sem]))
            refine run_loop (pinC_loopF (cap := cap) C hl hc hn (a := a) (i := i) hb (by omega) cx f3 t (b - (i + 1)) _ _ _ _ ⟨i + 1, f3, rfl, by omega, by omega, S3, .refl, ⟨by simp only [go_sem, r0], by simp only [go_sem, r1], by simp only [go_sem, r2], by simp only [go_sem, r3]⟩, by simp only [go_sem, r9], by simp only [go_sem, r10], by simp only [go_sem, w5], rfl, rfl⟩) ?_
            rintro ex ρ4 ms4 h5 d4 ⟨rfl, rfl, rfl, f4, S4, W4, ⟨r0, r1, r2, r3⟩, r9, r10⟩
            repeat (first | apply Z1 | apply Z2 | apply Z3 | apply Z4 | apply Z5 rfl | apply Z6 | apply Z7 | apply Z8 | apply Z9 | apply ZA | apply ZB | apply ZC | ((first | apply ZD (by decide) | apply ZN (by decide)); (simp (maxSteps := 9999999) only [go_sem, r0, r1, r2, r3, r9, r10, ew]; rfl)) | (refine ZE ?_ ?_; · simp only [go_sem]) | (refine ZF ?_ ?_; · simp only [go_sem]))
            exact end_nil ⟨k - 1, by omega, t + 1, i, f4, by omega, hai, hib, S4, W3'.trans (W4.mono (by omega) (by omega)), O3.congr (fun q q1 q2 => W4.out (by omega)), ⟨by simp only [go_sem, r0], by simp only [go_sem, r1], by simp only [go_sem, r2], by simp only [go_sem, r3]⟩, by simp only [go_sem, r9], by simp only [go_sem, ew], rfl, rfl⟩
          · have e5 : ¬ (2 : Int) ≤ ((b - i : Nat) : Int) := by omega
            repeat (first | apply Z1 | apply Z2 | apply Z3 | apply Z4 | apply Z5 rfl | apply Z6 | apply Z7 | apply Z8 | apply Z9 | apply ZA | apply ZB | apply ZC | ((first | apply ZD (by decide) | apply ZN (by decide)); (simp (maxSteps := 9999999) only [go_sem, r0, r1, r2, r3, r9, r10, w4, e5, w5, ew]; rfl)) | (refine ZE ?_ ?_; · simp only [go_sem]) | (refine ZF ?_ ?_; · simp only [go_sem]))
            exact end_nil ⟨k - 1, by omega, t + 1, i, f3, by omega, hai, hib, S3, W3', O3, ⟨by simp only [go_sem, r0], by simp only [go_sem, r1], by simp only [go_sem, r2], by simp only [go_sem, r3]⟩, by simp only [go_sem, r9], by simp only [go_sem, ew], rfl, rfl⟩
        · have e4 : ¬ (2 : Int) ≤ ((i - a : Nat) : Int) := by omega
          have O3 : Ord c a i f2 := Ord.nil c (by omega) _
          by_cases z3 : 2 ≤ b - i
          · have e5 : (2 : Int) ≤ ((b - i : Nat) : Int) := by omega
            repeat (first | apply Z1 | apply Z2 | apply Z3 | apply Z4 | apply Z5 rfl | apply Z6 | apply Z7 | apply Z8 | apply Z9 | apply ZA | apply ZB | apply ZC | ((first | apply ZD (by decide) | apply ZN (by decide)); (simp (maxSteps := 9999999) only [go_sem, r0, r1, r2, r3, r9, r10, e2, w1, e3, p1, p2, p3, p4, w2, l1, l2, hl, ↓st1, ↓st2, w3, e4, w4, e5, w5]; rfl)) | (refine ZE ?_ ?_; · simp only [go_sem]) | (refine ZF ?_ ?_; · simp only [go_sem]))
            refine run_loop (pinC_loopF (cap := cap) C hl hc hn (a := a) (i := i) hb (by omega) cx f2 t (b - (i + 1)) _ _ _ _ ⟨i + 1, f2, rfl, by omega, by omega, S2, .refl, ⟨by simp only [go_sem, r0], by simp only [go_sem, r1], by simp only [go_sem, r2], by simp only [go_sem, r3]⟩, by simp only [go_sem, r9], by simp only [go_sem, r10], by simp only [go_sem, w5], rfl, rfl⟩) ?_
            rintro ex ρ4 ms4 h5 d4 ⟨rfl, rfl, rfl, f4, S4, W4, ⟨r0, r1, r2, r3⟩, r9, r10⟩
            repeat (first | apply Z1 | apply Z2 | apply Z3 | apply Z4 | apply Z5 rfl | apply Z6 | apply Z7 | apply Z8 | apply Z9 | apply ZA | apply ZB | apply ZC | ((first | apply ZD (by decide) | apply ZN (by decide)); (simp (maxSteps := 9999999) only [go_sem, r0, r1, r2, r3, r9, r10, ew]; rfl)) | (refine ZE ?_ ?_; · simp only [go_sem]) | (refine ZF ?_ ?_; · simp only [go_sem]))
            exact end_nil ⟨k - 1, by omega, t + 1, i, f4, by omega, hai, hib, S4, W2.trans (W4.mono (by omega) (by omega)), O3.congr (fun q q1 q2 => W4.out (by omega)), ⟨by simp only [go_sem, r0], by simp only [go_sem, r1], by simp only [go_sem, r2], by simp only [go_sem, r3]⟩, by simp only [go_sem, r9], by simp only [go_sem, ew], rfl, rfl⟩
          · have e5 : ¬ (2 : Int) ≤ ((b - i : Nat) : Int) := by omega
            repeat (first | apply Z1 | apply Z2 | apply Z3 | apply Z4 | apply Z5 rfl | apply Z6 | apply Z7 | apply Z8 | apply Z9 | apply ZA | apply ZB | apply ZC | ((first | apply ZD (by decide) | apply ZN (by decide)); (simp (maxSteps := 9999999) only [go_sem, r0, r1, r2, r3, r9, r10, e2, w1, e3, p1, p2, p3, p4, w2, l1, l2, hl, ↓st1, ↓st2, w3, e4, w4, e5, w5, ew]; rfl)) | (refine ZE ?_ ?_; · simp only [go_sem]) | (refine ZF ?_ ?_; · simp only [go_sem]))
            exact end_nil ⟨k - 1, by omega, t + 1, i, f2, by omega, hai, hib, S2, W2, O3, ⟨by simp only [go_sem, r0], by simp only [go_sem, r1], by simp only [go_sem, r2], by simp only [go_sem, r3]⟩, by simp only [go_sem, r9], by simp only [go_sem, ew], rfl, rfl⟩
  · have e1 : ¬ (t : Int) < 5 := by omega
    repeat (first | apply Z1 | apply Z2 | apply Z3 | apply Z4 | apply Z5 rfl | apply Z6 | apply Z7 | apply Z8 | apply Z9 | apply ZA | apply ZB | apply ZC | ((first | apply ZD (by decide) | apply ZN (by decide)); (simp (maxSteps := 9999999) only [go_sem, r10, e1]; rfl)) | (refine ZE ?_ ?_; · simp only [go_sem]) | (refine ZF ?_ ?_; · simp only [go_sem]))
    exact end_nil ⟨rfl, rfl, f, S, W, .inl rfl⟩
theorem pinF (C : Cmp M g cel c) (hl : ∀ x, (cel x).length = 3) (hc : ∀ x, (cel x).all sc = true) (hn : n ≤ 1000000) {a b : Nat} (hab : a < b) (hb : b ≤ n) {h : SHeap} {f : Nat → E} (S : SA cel n B el h0 old0 h f) (hpre : 0 < a → ∀ j, a ≤ j → j < b → ¬ c (f j) (f (a - 1)) < 0) :
    ∃ h' f' r, M.call 106 [.slice (some ⟨B, 0, none⟩) n cap, .int .i64 a, .int .i64 b, .func (.func g) #[] #[]] h = some (.bool r, h', []) ∧ SA cel n B el h0 old0 h' f' ∧ Sw a b f f' ∧ (r = true → Ord c a b f') := by
  have key : ∃ r, (∃ h' f' q, r = (Value.bool q, h', ([] : List Nat)) ∧ SA cel n B el h0 old0 h' f' ∧ Sw a b f f' ∧ (q = true → Ord c a b f')) ∧ M.call 106 [.slice (some ⟨B, 0, none⟩) n cap, .int .i64 a, .int .i64 b, .func (.func g) #[] #[]] h = some r := by
    refine call_ex (f := 106) _ sf106 rfl rfl rfl ?_
    unfold sf106
    have ew : IntKind.i64.wrap ((a : Int) + 1) = ((a + 1 : Nat) : Int) := by rw [wrap64 (by omega) (by omega)]; rfl
    repeat (first | apply Z1 | apply Z2 | apply Z3 | apply Z4 | apply Z5 rfl | apply Z6 | apply Z7 | apply Z8 | apply Z9 | apply ZA | apply ZB | apply ZC | ((first | apply ZD (by decide) | apply ZN (by decide)); (simp (maxSteps := 9999999) only [go_sem, argR, ew]; rfl)) | (refine ZE ?_ ?_; · simp only [go_sem]) | (refine ZF ?_ ?_; · simp only [go_sem]))
    refine run_loop (pinO_loopF (cap := cap) (el := el) (h0 := h0) (old0 := old0) C hl hc hn (a := a) (b := b) hb _ f hpre 5 _ _ _ _ ⟨0, a + 1, f, rfl, by omega, by omega, S, .refl, Ord.nil c (by omega) f, ⟨by simp only [go_sem, argR], by simp only [go_sem, argR], by simp only [go_sem, argR], by simp only [go_sem, argR]⟩, by simp only [go_sem, ew], by (simp only [go_sem]) <;> rfl, rfl, rfl⟩) ?_
    rintro ex ρ' ms' h1 d1 ⟨rfl, rfl, f2, S2, W2, rfl | ⟨rfl, ⟨k8, O⟩ | k8⟩⟩
    · repeat (first | apply Z1 | apply Z2 | apply Z3 | apply Z4 | apply Z5 rfl | apply Z6 | apply Z7 | apply Z8 | apply Z9 | apply ZA | apply ZB | apply ZC | ((first | apply ZD (by decide) | apply ZN (by decide)); (simp (maxSteps := 9999999) only [go_sem]; rfl)) | (refine ZE ?_ ?_; · simp only [go_sem]) | (refine ZF ?_ ?_; · simp only [go_sem]))
      exact end_nil ⟨_, ⟨h1, f2, false, rfl, S2, W2, fun h => by cases h⟩, q_free [.bool false] (by simp only [go_sem]) rfl rfl rfl (fun _ => rfl) (by rw [List.take_of_length_le]; rw [S2.len, S.len]; exact Nat.le_refl _) rfl⟩
    · repeat (first | apply Z1 | apply Z2 | apply Z3 | apply Z4 | apply Z5 rfl | apply Z6 | apply Z7 | apply Z8 | apply Z9 | apply ZA | apply ZB | apply ZC | ((first | apply ZD (by decide) | apply ZN (by decide)); (simp (maxSteps := 9999999) only [go_sem]; rfl)) | (refine ZE ?_ ?_; · simp only [go_sem]) | (refine ZF ?_ ?_; · simp only [go_sem]))
      exact end_nil ⟨_, ⟨h1, f2, true, rfl, S2, W2, fun _ => O⟩, q_free [.bool true] (by simp only [go_sem, k8]) rfl rfl rfl (fun _ => rfl) (by rw [List.take_of_length_le]; rw [S2.len, S.len]; exact Nat.le_refl _) rfl⟩
    · repeat (first | apply Z1 | apply Z2 | apply Z3 | apply Z4 | apply Z5 rfl | apply Z6 | apply Z7 | apply Z8 | apply Z9 | apply ZA | apply ZB | apply ZC | ((first | apply ZD (by decide) | apply ZN (by decide)); (simp (maxSteps := 9999999) only [go_sem]; rfl)) | (refine ZE ?_ ?_; · simp only [go_sem]) | (refine ZF ?_ ?_; · simp only [go_sem]))
      exact end_nil ⟨_, ⟨h1, f2, false, rfl, S2, W2, fun h => by cases h⟩, q_free [.bool false] (by simp only [go_sem, k8]) rfl rfl rfl (fun _ => rfl) (by rw [List.take_of_length_le]; rw [S2.len, S.len]; exact Nat.le_refl _) rfl⟩
  obtain ⟨r, ⟨h', f', q, rfl, k⟩, e⟩ := key
  exact ⟨h', f', q, e, k⟩
end
end Go.Proofs.YtdmfhdnpakgkpaaDoor.Sh

namespace Go.Proofs.YtdmfhdnpakgkpaaDoor.Sh
open Go
set_option maxRecDepth 100000
set_option maxHeartbeats 4000000
section
variable {E : Type} {cel : E → List Value} {c : E → E → Int} {g : FuncId} {n B cap : Nat} {el : TypeId} {h0 : SHeap} {old0 : List Nat}
def KRF (n B cap : Nat) (g : FuncId) (a : Nat) (ρ : Reg) : Prop := ρ 0 = .slice (some ⟨B, 0, none⟩) n cap ∧ ρ 1 = .int .i64 a ∧ ρ 4 = .func (.func g) #[] #[]
theorem peqU_loopF (C : Cmp M g cel c) (hl : ∀ x, (cel x).length = 3) (hn : n ≤ 1000000) {a b j : Nat} (hb : b ≤ n) (hj : j < b) (haj : a ≤ j) (i0 : Nat) (cx : Cx) {h : SHeap} {f : Nat → E} (S : SA cel n B el h0 old0 h f) : ∀ k ρ ms h' d', (∃ i : Nat, j + 1 - i = k ∧ i0 ≤ i ∧ a < i ∧ i ≤ j + 1 ∧ (∀ q, a < q → q < i → ¬ c (f a) (f q) < 0) ∧ KRF n B cap g a ρ ∧ ρ 11 = .int .i64 i ∧ ρ 12 = .int .i64 j ∧ ms = [] ∧ h' = h ∧ d' = []) →
    LoopW M cx 7 sf107L1 ρ ms h' d' (fun ex ρ' ms' h' d' => ex = .exit 2 ∧ ms' = [] ∧ h' = h ∧ d' = [] ∧ ∃ i : Nat, i0 ≤ i ∧ a < i ∧ i ≤ j + 1 ∧ (∀ q, a < q → q < i → ¬ c (f a) (f q) < 0) ∧ (i ≤ j → ¬ ¬ c (f a) (f i) < 0) ∧ KRF n B cap g a ρ' ∧ ρ' 11 = .int .i64 i ∧ ρ' 12 = .int .i64 j) := by
  refine loop_run _ ?_
  rintro k ρ ms h' d' ⟨i, hk, h0i, hai, hij, hP, ⟨r0, r1, r4⟩, ri, rj, rfl, rfl, rfl⟩
  unfold sf107L1
  by_cases z : i ≤ j
  · have e1 : (i : Int) ≤ j := by omega
    have p1 : (0 : Int) ≤ (i : Int) := by omega
    have p2 : (i : Int) < n := by omega
    have p3 : (0 : Int) ≤ (a : Int) := by omega
    have p4 : (a : Int) < n := by omega
    have w1 : IntKind.i64.wrap ((i : Int) + 1) = ((i + 1 : Nat) : Int) := by rw [wrap64 (by omega) (by omega)]; rfl
    have l1 := S.load hl (show i < n by omega)
    have l2 := S.load hl (show a < n by omega)
    have cc := fun h => C.call (f a) (f i) h
    by_cases hlt : ¬ c (f a) (f i) < 0
    · repeat (first | apply Z1 | apply Z2 | apply Z3 | apply Z4 | apply Z5 rfl | apply Z6 | apply Z7 | apply Z8 | apply Z9 | apply ZA | apply ZB | apply ZC | ((first | apply ZD (by decide) | apply ZN (by decide)); (simp (maxSteps := 9999999) only [go_sem, r0, r1, r4, ri, rj, e1, p1, p2, p3, p4, w1, l1, l2, cc, hlt]; rfl)) | (refine ZE ?_ ?_; · simp only [go_sem]) | (refine ZF ?_ ?_; · simp only [go_sem]))
      refine end_nil ⟨j + 1 - (i + 1), by omega, i + 1, rfl, by omega, by omega, by omega, fun q q1 q2 => ?_, ⟨by simp only [go_sem, r0], by simp only [go_sem, r1], by simp only [go_sem, r4]⟩, by simp only [go_sem, w1], by simp only [go_sem, rj], rfl, rfl, rfl⟩
      by_cases e : q = i
      · subst e; exact hlt
      · exact hP q q1 (by omega)
    · have hlt2 := Classical.not_not.1 hlt
      repeat (first | apply Z1 | apply Z2 | apply Z3 | apply Z4 | apply Z5 rfl | apply Z6 | apply Z7 | apply Z8 | apply Z9 | apply ZA | apply ZB | apply ZC | ((first | apply ZD (by decide) | apply ZN (by decide)); (simp (maxSteps := 9999999) only [go_sem, r0, r1, r4, ri, rj, e1, p1, p2, p3, p4, l1, l2, cc, hlt2]; rfl)) | (refine ZE ?_ ?_; · simp only [go_sem]) | (refine ZF ?_ ?_; · simp only [go_sem]))
      exact end_nil ⟨rfl, rfl, rfl, rfl, i, h0i, hai, hij, hP, fun _ => hlt, ⟨by simp only [go_sem, r0], by simp only [go_sem, r1], by simp only [go_sem, r4]⟩, by simp only [go_sem, ri], by simp only [go_sem, rj]⟩
  · have e1 : ¬ (i : Int) ≤ j := by omega
    repeat (first | apply Z1 | apply Z2 | apply Z3 | apply Z4 | apply Z5 rfl | apply Z6 | apply Z7 | apply Z8 | apply Z9 | apply ZA | apply ZB | apply ZC | ((first | apply ZD (by decide) | apply ZN (by decide)); (simp (maxSteps := 9999999) only [go_sem, r0, r1, r4, ri, rj, e1]; rfl)) | (refine ZE ?_ ?_; · simp only [go_sem]) | (refine ZF ?_ ?_; · simp only [go_sem]))
    exact end_nil ⟨rfl, rfl, rfl, rfl, i, h0i, hai, hij, hP, fun h => (z h).elim, ⟨by simp only [go_sem, r0], by simp only [go_sem, r1], by simp only [go_sem, r4]⟩, by simp only [go_sem, ri], by simp only [go_sem, rj]⟩
theorem peqD_loopF (C : Cmp M g cel c) (hl : ∀ x, (cel x).length = 3) (hn : n ≤ 1000000) {a b i : Nat} (hb : b ≤ n) (hai : a < i) (j0 : Nat) (cx : Cx) {h : SHeap} {f : Nat → E} (S : SA cel n B el h0 old0 h f) : ∀ k ρ ms h' d', (∃ j : Nat, j + 1 - i = k ∧ j ≤ j0 ∧ j < b ∧ i ≤ j + 1 ∧ (∀ q, j < q → q < b → c (f a) (f q) < 0) ∧ KRF n B cap g a ρ ∧ ρ 11 = .int .i64 i ∧ ρ 12 = .int .i64 j ∧ ms = [] ∧ h' = h ∧ d' = []) →
    LoopW M cx 7 sf107L0 ρ ms h' d' (fun ex ρ' ms' h' d' => ex = .exit 4 ∧ ms' = [] ∧ h' = h ∧ d' = [] ∧ ∃ j : Nat, j ≤ j0 ∧ j < b ∧ i ≤ j + 1 ∧ (∀ q, j < q → q < b → c (f a) (f q) < 0) ∧ (i ≤ j → ¬ c (f a) (f j) < 0) ∧ KRF n B cap g a ρ' ∧ ρ' 11 = .int .i64 i ∧ ρ' 12 = .int .i64 j) := by
  refine loop_run _ ?_
  rintro k ρ ms h' d' ⟨j, hk, h0j, hjb, hij, hR, ⟨r0, r1, r4⟩, ri, rj, rfl, rfl, rfl⟩
  unfold sf107L0
  by_cases z : i ≤ j
  · have e1 : (i : Int) ≤ j := by omega
    have p1 : (0 : Int) ≤ (j : Int) := by omega
    have p2 : (j : Int) < n := by omega
    have p3 : (0 : Int) ≤ (a : Int) := by omega
    have p4 : (a : Int) < n := by omega
    have w1 : IntKind.i64.wrap ((j : Int) - 1) = ((j - 1 : Nat) : Int) := by rw [wrap64 (by omega) (by omega)]; omega
    have l1 := S.load hl (show j < n by omega)
    have l2 := S.load hl (show a < n by omega)
    have cc := fun h => C.call (f a) (f j) h
    by_cases hlt : c (f a) (f j) < 0
    · repeat (first | apply Z1 | apply Z2 | apply Z3 | apply Z4 | apply Z5 rfl | apply Z6 | apply Z7 | apply Z8 | apply Z9 | apply ZA | apply ZB | apply ZC | ((first | apply ZD (by decide) | apply ZN (by decide)); (simp (maxSteps := 9999999) only [go_sem, r0, r1, r4, ri, rj, e1, p1, p2, p3, p4, w1, l1, l2, cc, hlt]; rfl)) | (refine ZE ?_ ?_; · simp only [go_sem]) | (refine ZF ?_ ?_; · simp only [go_sem]))
      refine end_nil ⟨j - 1 + 1 - i, by omega, j - 1, rfl, by omega, by omega, by omega, fun q q1 q2 => ?_, ⟨by simp only [go_sem, r0], by simp only [go_sem, r1], by simp only [go_sem, r4]⟩, by simp only [go_sem, ri], by simp only [go_sem, w1], rfl, rfl, rfl⟩
      by_cases e : q = j
      · subst e; exact hlt
      · exact hR q (by omega) q2
    · have hlt2 := hlt
      repeat (first | apply Z1 | apply Z2 | apply Z3 | apply Z4 | apply Z5 rfl | apply Z6 | apply Z7 | apply Z8 | apply Z9 | apply ZA | apply ZB | apply ZC | ((first | apply ZD (by decide) | apply ZN (by decide)); (simp (maxSteps := 9999999) only [go_sem, r0, r1, r4, ri, rj, e1, p1, p2, p3, p4, l1, l2, cc, hlt2]; rfl)) | (refine ZE ?_ ?_; · simp only [go_sem]) | (refine ZF ?_ ?_; · simp only [go_sem]))
      exact end_nil ⟨rfl, rfl, rfl, rfl, j, h0j, hjb, hij, hR, fun _ => hlt, ⟨by simp only [go_sem, r0], by simp only [go_sem, r1], by simp only [go_sem, r4]⟩, by simp only [go_sem, ri], by simp only [go_sem, rj]⟩
  · have e1 : ¬ (i : Int) ≤ j := by omega
    repeat (first | apply Z1 | apply Z2 | apply Z3 | apply Z4 | apply Z5 rfl | apply Z6 | apply Z7 | apply Z8 | apply Z9 | apply ZA | apply ZB | apply ZC | ((first | apply ZD (by decide) | apply ZN (by decide)); (simp (maxSteps := 9999999) only [go_sem, r0, r1, r4, ri, rj, e1]; rfl)) | (refine ZE ?_ ?_; · simp only [go_sem]) | (refine ZF ?_ ?_; · simp only [go_sem]))
    exact end_nil ⟨rfl, rfl, rfl, rfl, j, h0j, hjb, hij, hR, fun h => (z h).elim, ⟨by simp only [go_sem, r0], by simp only [go_sem, r1], by simp only [go_sem, r4]⟩, by simp only [go_sem, ri], by simp only [go_sem, rj]⟩
theorem peqO_loopF (C : Cmp M g cel c) (hl : ∀ x, (cel x).length = 3) (hc : ∀ x, (cel x).all sc = true) (hn : n ≤ 1000000) {a b : Nat} (hb : b ≤ n) (cx : Cx) (f0 : Nat → E) : ∀ k ρ ms h' d', (∃ (i j : Nat) (f : Nat → E), j + 1 - i = k ∧ a < i ∧ i ≤ j + 1 ∧ j < b ∧ SA cel n B el h0 old0 h' f ∧ Sw (a + 1) b f0 f ∧ (∀ q, a < q → q < i → ¬ c (f a) (f q) < 0) ∧ (∀ q, j < q → q < b → c (f a) (f q) < 0) ∧ KRF n B cap g a ρ ∧ ρ 11 = .int .i64 i ∧ ρ 12 = .int .i64 j ∧ ms = [] ∧ d' = []) →
    LoopW M cx 7 sf107L2 ρ ms h' d' (fun ex ρ' ms' h' d' => ex = .exit 0 ∧ ms' = [] ∧ d' = [] ∧ ∃ (i : Nat) (f : Nat → E), a < i ∧ i ≤ b ∧ SA cel n B el h0 old0 h' f ∧ Sw (a + 1) b f0 f ∧ (∀ q, a < q → q < i → ¬ c (f a) (f q) < 0) ∧ (∀ q, i ≤ q → q < b → c (f a) (f q) < 0) ∧ ρ' 11 = .int .i64 i) := by
  refine loop_run _ ?_
  rintro k ρ ms h' d' ⟨i, j, f, hk, hai, hij, hjb, S, W, hP, hR, ⟨r0, r1, r4⟩, ri, rj, rfl, rfl⟩
  unfold sf107L2
  repeat (first | apply Z1 | apply Z2 | apply Z3 | apply Z4 | apply Z5 rfl | apply Z6 | apply Z7 | apply Z8 | apply Z9 | apply ZA | apply ZB | apply ZC | ((first | apply ZD (by decide) | apply ZN (by decide)); (simp (maxSteps := 9999999) only [go_sem]; rfl)) | (refine ZE ?_ ?_; · simp only [go_sem]) | (refine ZF ?_ ?_; · simp only [go_sem]))
  refine run_loop (peqU_loopF (cap := cap) C hl hn (a := a) hb hjb (by omega) i cx S (j + 1 - i) _ _ _ _ ⟨i, rfl, Nat.le_refl _, hai, hij, hP, ⟨by simp only [go_sem, r0], by simp only [go_sem, r1], by simp only [go_sem, r4]⟩, by simp only [go_sem, ri], by simp only [go_sem, rj], rfl, rfl, rfl⟩) ?_
  rintro ex ρ1 ms1 h1 d1 ⟨rfl, rfl, rfl, rfl, i2, h0i2, hai2, hij2, hP2, hstop1, ⟨r0, r1, r4⟩, ri, rj⟩
  repeat (first | apply Z1 | apply Z2 | apply Z3 | apply Z4 | apply Z5 rfl | apply Z6 | apply Z7 | apply Z8 | apply Z9 | apply ZA | apply ZB | apply ZC | ((first | apply ZD (by decide) | apply ZN (by decide)); (simp (maxSteps := 9999999) only [go_sem]; rfl)) | (refine ZE ?_ ?_; · simp only [go_sem]) | (refine ZF ?_ ?_; · simp only [go_sem]))
  refine run_loop (peqD_loopF (cap := cap) C hl hn (a := a) hb hai2 j cx S (j + 1 - i2) _ _ _ _ ⟨j, rfl, Nat.le_refl _, hjb, hij2, hR, ⟨by simp only [go_sem, r0], by simp only [go_sem, r1], by simp only [go_sem, r4]⟩, by simp only [go_sem, ri], by simp only [go_sem, rj], rfl, rfl, rfl⟩) ?_
  rintro ex ρ2 ms2 h2 d2 ⟨rfl, rfl, rfl, rfl, j2, h0j2, hjb2, hij3, hR2, hstop2, ⟨r0, r1, r4⟩, ri, rj⟩
  by_cases z : j2 < i2
  · have e1 : (j2 : Int) < i2 := by omega
    repeat (first | apply Z1 | apply Z2 | apply Z3 | apply Z4 | apply Z5 rfl | apply Z6 | apply Z7 | apply Z8 | apply Z9 | apply ZA | apply ZB | apply ZC | ((first | apply ZD (by decide) | apply ZN (by decide)); (simp (maxSteps := 9999999) only [go_sem, r0, r1, r4, ri, rj, e1]; rfl)) | (refine ZE ?_ ?_; · simp only [go_sem]) | (refine ZF ?_ ?_; · simp only [go_sem]))
    exact end_nil ⟨rfl, rfl, rfl, i2, f, hai2, by omega, S, W, hP2, fun q q1 q2 => hR2 q (by omega) q2, by simp only [go_sem, ri]⟩
  · have e1 : ¬ (j2 : Int) < i2 := by omega
    have n2 := hstop2 (by omega)
    have hlt : i2 < j2 := by
      by_cases e : i2 < j2
      · exact e
      · exfalso
        have e3 : i2 = j2 := by omega
        subst e3
        by_cases e4 : i2 ≤ j
        · exact n2 (Classical.not_not.1 (hstop1 e4))
        · exact n2 (hR i2 (by omega) hjb2)
    have m1 : c (f a) (f i2) < 0 := by
      by_cases e4 : i2 ≤ j
      · exact Classical.not_not.1 (hstop1 e4)
      · exact hR i2 (by omega) (by omega)
    have p1 : (0 : Int) ≤ (i2 : Int) := by omega
    have p2 : (i2 : Int) < n := by omega
    have p3 : (0 : Int) ≤ (j2 : Int) := by omega
    have p4 : (j2 : Int) < n := by omega
    have w1 : IntKind.i64.wrap ((i2 : Int) + 1) = ((i2 + 1 : Nat) : Int) := by rw [wrap64 (by omega) (by omega)]; rfl
    have w2 : IntKind.i64.wrap ((j2 : Int) - 1) = ((j2 - 1 : Nat) : Int) := by rw [wrap64 (by omega) (by omega)]; omega
    have l1 := S.load hl (show i2 < n by omega)
    have l2 := S.load hl (show j2 < n by omega)
    obtain ⟨h3, h4, st1, st2, S2⟩ := S.swap hl hc (by decide) (show i2 < n by omega) (show j2 < n by omega)
    repeat (first | apply Z1 | apply Z2 | apply Z3 | apply Z4 | apply Z5 rfl | apply Z6 | apply Z7 | apply Z8 | apply Z9 | apply ZA | apply ZB | apply ZC | ((first | apply ZD (by decide) | apply ZN (by decide)); (simp (maxSteps := 9999999) only [go_sem, r0, r1, r4, ri, rj, e1, p1, p2, p3, p4, l1, l2, hl, ↓st1, ↓st2, w1, w2]; rfl)) | (refine ZE ?_ ?_; · simp only [go_sem]) | (refine ZF ?_ ?_; · simp only [go_sem]))
    have ea : swp f i2 j2 a = f a := swp_o f (by omega) (by omega)
    refine end_nil ⟨j2 - 1 + 1 - (i2 + 1), by omega, i2 + 1, j2 - 1, _, rfl, by omega, by omega, by omega, S2, W.step (by omega) (by omega) (by omega) (by omega), fun q q1 q2 => ?_, fun q q1 q2 => ?_, ⟨by simp only [go_sem, r0], by simp only [go_sem, r1], by simp only [go_sem, r4]⟩, by simp only [go_sem, w1], by simp only [go_sem, w2], rfl, rfl⟩
    · rw [ea]
      by_cases e : q = i2
      · subst e; rw [swp_l]; exact n2
      · rw [swp_o f e (by omega)]; exact hP2 q q1 (by omega)
    · rw [ea]
      by_cases e : q = j2
      · subst e; rw [swp_r]; exact m1
      · rw [swp_o f (by omega) e]; exact hR2 q (by omega) q2
theorem peqF (C : Cmp M g cel c) (hl : ∀ x, (cel x).length = 3) (hc : ∀ x, (cel x).all sc = true) (hn : n ≤ 1000000) {a b p : Nat} (hap : a ≤ p) (hpb : p < b) (hb : b ≤ n) {h : SHeap} {f : Nat → E} (S : SA cel n B el h0 old0 h f) :
    ∃ h' f' m, M.call 107 [.slice (some ⟨B, 0, none⟩) n cap, .int .i64 a, .int .i64 b, .int .i64 ((p : Nat) : Int), .func (.func g) #[] #[]] h = some (.int .i64 ((m : Nat) : Int), h', []) ∧ SA cel n B el h0 old0 h' f' ∧ Sw a b f f' ∧ a < m ∧ m ≤ b ∧ f' a = f p ∧ (∀ q, a < q → q < m → ¬ c (f' a) (f' q) < 0) ∧ (∀ q, m ≤ q → q < b → c (f' a) (f' q) < 0) := by
  have key : ∃ r, (∃ h' f' m, r = (Value.int .i64 ((m : Nat) : Int), h', ([] : List Nat)) ∧ SA cel n B el h0 old0 h' f' ∧ Sw a b f f' ∧ a < m ∧ m ≤ b ∧ f' a = f p ∧ (∀ q, a < q → q < m → ¬ c (f' a) (f' q) < 0) ∧ (∀ q, m ≤ q → q < b → c (f' a) (f' q) < 0)) ∧ M.call 107 [.slice (some ⟨B, 0, none⟩) n cap, .int .i64 a, .int .i64 b, .int .i64 ((p : Nat) : Int), .func (.func g) #[] #[]] h = some r := by
    refine call_ex (f := 107) _ sf107 rfl rfl rfl ?_
    unfold sf107
    have p1 : (0 : Int) ≤ (a : Int) := by omega
    have p2 : (a : Int) < n := by omega
    have p3 : (0 : Int) ≤ (p : Int) := by omega
    have p4 : (p : Int) < n := by omega
    have w1 : IntKind.i64.wrap ((a : Int) + 1) = ((a + 1 : Nat) : Int) := by rw [wrap64 (by omega) (by omega)]; rfl
    have w2 : IntKind.i64.wrap ((b : Int) - 1) = ((b - 1 : Nat) : Int) := by rw [wrap64 (by omega) (by omega)]; omega
    have l1 := S.load hl (show a < n by omega)
    have l2 := S.load hl (show p < n by omega)
    obtain ⟨h3, h4, st1, st2, S2⟩ := S.swap hl hc (by decide) (show a < n by omega) (show p < n by omega)
    repeat (first | apply Z1 | apply Z2 | apply Z3 | apply Z4 | apply Z5 rfl | apply Z6 | apply Z7 | apply Z8 | apply Z9 | apply ZA | apply ZB | apply ZC | ((first | apply ZD (by decide) | apply ZN (by decide)); (simp (maxSteps := 9999999) only [go_sem, argR, p1, p2, p3, p4, l1, l2, hl, ↓st1, ↓st2, w1, w2]; rfl)) | (refine ZE ?_ ?_; · simp only [go_sem]) | (refine ZF ?_ ?_; · simp only [go_sem]))
    refine run_loop (peqO_loopF (cap := cap) (el := el) (h0 := h0) (old0 := old0) C hl hc hn (a := a) hb _ (swp f a p) (b - 1 + 1 - (a + 1)) _ _ _ _ ⟨a + 1, b - 1, _, rfl, by omega, by omega, by omega, S2, .refl, fun q q1 q2 => by omega, fun q q1 q2 => by omega, ⟨by simp only [go_sem, argR], by simp only [go_sem, argR], by simp only [go_sem, argR]⟩, by simp only [go_sem, w1], by simp only [go_sem, w2], rfl, rfl⟩) ?_
    rintro ex ρ' ms' h5 d1 ⟨rfl, rfl, rfl, m, f3, m1, m2, S3, W3, hP, hR, k11⟩
    repeat (first | apply Z1 | apply Z2 | apply Z3 | apply Z4 | apply Z5 rfl | apply Z6 | apply Z7 | apply Z8 | apply Z9 | apply ZA | apply ZB | apply ZC | ((first | apply ZD (by decide) | apply ZN (by decide)); (simp (maxSteps := 9999999) only [go_sem, k11]; rfl)) | (refine ZE ?_ ?_; · simp only [go_sem]) | (refine ZF ?_ ?_; · simp only [go_sem]))
    exact end_nil ⟨_, ⟨h5, f3, m, rfl, S3, (Sw.one f (by omega) (by omega) (by omega) (by omega)).trans (W3.mono (by omega) (by omega)), m1, m2, by rw [W3.out (by omega), swp_l], hP, hR⟩, q_free [.int .i64 m] (by simp only [go_sem]) rfl rfl rfl (fun _ => rfl) (by rw [List.take_of_length_le]; rw [S3.len, S.len]; exact Nat.le_refl _) rfl⟩
  obtain ⟨r, ⟨h', f', m, rfl, k⟩, e⟩ := key
  exact ⟨h', f', m, e, k⟩
theorem ptA_loopF (C : Cmp M g cel c) (hl : ∀ x, (cel x).length = 3) (hn : n ≤ 1000000) {a b j : Nat} (hb : b ≤ n) (hj : j < b) (haj : a ≤ j) (i0 : Nat) (cx : Cx) {h : SHeap} {f : Nat → E} (S : SA cel n B el h0 old0 h f) : ∀ k ρ ms h' d', (∃ i : Nat, j + 1 - i = k ∧ i0 ≤ i ∧ a < i ∧ i ≤ j + 1 ∧ (∀ q, a < q → q < i → c (f q) (f a) < 0) ∧ KRF n B cap g a ρ ∧ ρ 12 = .int .i64 i ∧ ρ 13 = .int .i64 j ∧ ms = [] ∧ h' = h ∧ d' = []) →
    LoopW M cx 8 sf108L4 ρ ms h' d' (fun ex ρ' ms' h' d' => ex = .exit 0 ∧ ms' = [] ∧ h' = h ∧ d' = [] ∧ ∃ i : Nat, i0 ≤ i ∧ a < i ∧ i ≤ j + 1 ∧ (∀ q, a < q → q < i → c (f q) (f a) < 0) ∧ (i ≤ j → ¬ c (f i) (f a) < 0) ∧ KRF n B cap g a ρ' ∧ ρ' 12 = .int .i64 i ∧ ρ' 13 = .int .i64 j) := by
  refine loop_run _ ?_
  rintro k ρ ms h' d' ⟨i, hk, h0i, hai, hij, hP, ⟨r0, r1, r4⟩, ri, rj, rfl, rfl, rfl⟩
  unfold sf108L4
  by_cases z : i ≤ j
  · have e1 : (i : Int) ≤ j := by omega
    have p1 : (0 : Int) ≤ (i : Int) := by omega
    have p2 : (i : Int) < n := by omega
    have p3 : (0 : Int) ≤ (a : Int) := by omega
    have p4 : (a : Int) < n := by omega
    have w1 : IntKind.i64.wrap ((i : Int) + 1) = ((i + 1 : Nat) : Int) := by rw [wrap64 (by omega) (by omega)]; rfl
    have l1 := S.load hl (show i < n by omega)
    have l2 := S.load hl (show a < n by omega)
    have cc := fun h => C.call (f i) (f a) h
    by_cases hlt : c (f i) (f a) < 0
    · repeat (first | apply Z1 | apply Z2 | apply Z3 | apply Z4 | apply Z5 rfl | apply Z6 | apply Z7 | apply Z8 | apply Z9 | apply ZA | apply ZB | apply ZC | ((first | apply ZD (by decide) | apply ZN (by decide)); (simp (maxSteps := 9999999) only [go_sem, r0, r1, r4, ri, rj, e1, p1, p2, p3, p4, w1, l1, l2, cc, hlt]; rfl)) | (refine ZE ?_ ?_; · simp only [go_sem]) | (refine ZF ?_ ?_; · simp only [go_sem]))
      refine end_nil ⟨j + 1 - (i + 1), by omega, i + 1, rfl, by omega, by omega, by omega, fun q q1 q2 => ?_, ⟨by simp only [go_sem, r0], by simp only [go_sem, r1], by simp only [go_sem, r4]⟩, by simp only [go_sem, w1], by simp only [go_sem, rj], rfl, rfl, rfl⟩
      by_cases e : q = i
      · subst e; exact hlt
      · exact hP q q1 (by omega)
    · have hlt2 := hlt
      repeat (first | apply Z1 | apply Z2 | apply Z3 | apply Z4 | apply Z5 rfl | apply Z6 | apply Z7 | apply Z8 | apply Z9 | apply ZA | apply ZB | apply ZC | ((first | apply ZD (by decide) | apply ZN (by decide)); (simp (maxSteps := 9999999) only [go_sem, r0, r1, r4, ri, rj, e1, p1, p2, p3, p4, l1, l2, cc, hlt2]; rfl)) | (refine ZE ?_ ?_; · simp only [go_sem]) | (refine ZF ?_ ?_; · simp only [go_sem]))
      exact end_nil ⟨rfl, rfl, rfl, rfl, i, h0i, hai, hij, hP, fun _ => hlt, ⟨by simp only [go_sem, r0], by simp only [go_sem, r1], by simp only [go_sem, r4]⟩, by simp only [go_sem, ri], by simp only [go_sem, rj]⟩
  · have e1 : ¬ (i : Int) ≤ j := by omega
    repeat (first | apply Z1 | apply Z2 | apply Z3 | apply Z4 | apply Z5 rfl | apply Z6 | apply Z7 | apply Z8 | apply Z9 | apply ZA | apply ZB | apply ZC | ((first | apply ZD (by decide) | apply ZN (by decide)); (simp (maxSteps := 9999999) only [go_sem, r0, r1, r4, ri, rj, e1]; rfl)) | (refine ZE ?_ ?_; · simp only [go_sem]) | (refine ZF ?_ ?_; · simp only [go_sem]))
    exact end_nil ⟨rfl, rfl, rfl, rfl, i, h0i, hai, hij, hP, fun h => (z h).elim, ⟨by simp only [go_sem, r0], by simp only [go_sem, r1], by simp only [go_sem, r4]⟩, by simp only [go_sem, ri], by simp only [go_sem, rj]⟩
theorem ptB_loopF (C : Cmp M g cel c) (hl : ∀ x, (cel x).length = 3) (hn : n ≤ 1000000) {a b i : Nat} (hb : b ≤ n) (hai : a < i) (j0 : Nat) (cx : Cx) {h : SHeap} {f : Nat → E} (S : SA cel n B el h0 old0 h f) : ∀ k ρ ms h' d', (∃ j : Nat, j + 1 - i = k ∧ j ≤ j0 ∧ j < b ∧ i ≤ j + 1 ∧ (∀ q, j < q → q < b → ¬ c (f q) (f a) < 0) ∧ KRF n B cap g a ρ ∧ ρ 12 = .int .i64 i ∧ ρ 13 = .int .i64 j ∧ ms = [] ∧ h' = h ∧ d' = []) →
    LoopW M cx 8 sf108L3 ρ ms h' d' (fun ex ρ' ms' h' d' => ex = .exit 2 ∧ ms' = [] ∧ h' = h ∧ d' = [] ∧ ∃ j : Nat, j ≤ j0 ∧ j < b ∧ i ≤ j + 1 ∧ (∀ q, j < q → q < b → ¬ c (f q) (f a) < 0) ∧ (i ≤ j → ¬ ¬ c (f j) (f a) < 0) ∧ KRF n B cap g a ρ' ∧ ρ' 12 = .int .i64 i ∧ ρ' 13 = .int .i64 j) := by
  refine loop_run _ ?_
  rintro k ρ ms h' d' ⟨j, hk, h0j, hjb, hij, hR, ⟨r0, r1, r4⟩, ri, rj, rfl, rfl, rfl⟩
  unfold sf108L3
  by_cases z : i ≤ j
  · have e1 : (i : Int) ≤ j := by omega
    have p1 : (0 : Int) ≤ (j : Int) := by omega
    have p2 : (j : Int) < n := by omega
    have p3 : (0 : Int) ≤ (a : Int) := by omega
    have p4 : (a : Int) < n := by omega
    have w1 : IntKind.i64.wrap ((j : Int) - 1) = ((j - 1 : Nat) : Int) := by rw [wrap64 (by omega) (by omega)]; omega
    have l1 := S.load hl (show j < n by omega)
    have l2 := S.load hl (show a < n by omega)
    have cc := fun h => C.call (f j) (f a) h
    by_cases hlt : ¬ c (f j) (f a) < 0
    · repeat (first | apply Z1 | apply Z2 | apply Z3 | apply Z4 | apply Z5 rfl | apply Z6 | apply Z7 | apply Z8 | apply Z9 | apply ZA | apply ZB | apply ZC | ((first | apply ZD (by decide) | apply ZN (by decide)); (simp (maxSteps := 9999999) only [go_sem, r0, r1, r4, ri, rj, e1, p1, p2, p3, p4, w1, l1, l2, cc, hlt]; rfl)) | (refine ZE ?_ ?_; · simp only [go_sem]) | (refine ZF ?_ ?_; · simp only [go_sem]))
      refine end_nil ⟨j - 1 + 1 - i, by omega, j - 1, rfl, by omega, by omega, by omega, fun q q1 q2 => ?_, ⟨by simp only [go_sem, r0], by simp only [go_sem, r1], by simp only [go_sem, r4]⟩, by simp only [go_sem, ri], by simp only [go_sem, w1], rfl, rfl, rfl⟩
      by_cases e : q = j
      · subst e; exact hlt
      · exact hR q (by omega) q2
    · have hlt2 := Classical.not_not.1 hlt
      repeat (first | apply Z1 | apply Z2 | apply Z3 | apply Z4 | apply Z5 rfl | apply Z6 | apply Z7 | apply Z8 | apply Z9 | apply ZA | apply ZB | apply ZC | ((first | apply ZD (by decide) | apply ZN (by decide)); (simp (maxSteps := 9999999) only [go_sem, r0, r1, r4, ri, rj, e1, p1, p2, p3, p4, l1, l2, cc, hlt2]; rfl)) | (refine ZE ?_ ?_; · simp only [go_sem]) | (refine ZF ?_ ?_; · simp only [go_sem]))
      exact end_nil ⟨rfl, rfl, rfl, rfl, j, h0j, hjb, hij, hR, fun _ => hlt, ⟨by simp only [go_sem, r0], by simp only [go_sem, r1], by simp only [go_sem, r4]⟩, by simp only [go_sem, ri], by simp only [go_sem, rj]⟩
  · have e1 : ¬ (i : Int) ≤ j := by omega
    repeat (first | apply Z1 | apply Z2 | apply Z3 | apply Z4 | apply Z5 rfl | apply Z6 | apply Z7 | apply Z8 | apply Z9 | apply ZA | apply ZB | apply ZC | ((first | apply ZD (by decide) | apply ZN (by decide)); (simp (maxSteps := 9999999) only [go_sem, r0, r1, r4, ri, rj, e1]; rfl)) | (refine ZE ?_ ?_; · simp only [go_sem]) | (refine ZF ?_ ?_; · simp only [go_sem]))
    exact end_nil ⟨rfl, rfl, rfl, rfl, j, h0j, hjb, hij, hR, fun h => (z h).elim, ⟨by simp only [go_sem, r0], by simp only [go_sem, r1], by simp only [go_sem, r4]⟩, by simp only [go_sem, ri], by simp only [go_sem, rj]⟩
theorem ptD_loopF (C : Cmp M g cel c) (hl : ∀ x, (cel x).length = 3) (hn : n ≤ 1000000) {a b j : Nat} (hb : b ≤ n) (hj : j < b) (haj : a ≤ j) (i0 : Nat) (cx : Cx) {h : SHeap} {f : Nat → E} (S : SA cel n B el h0 old0 h f) : ∀ k ρ ms h' d', (∃ i : Nat, j + 1 - i = k ∧ i0 ≤ i ∧ a < i ∧ i ≤ j + 1 ∧ (∀ q, a < q → q < i → c (f q) (f a) < 0) ∧ KRF n B cap g a ρ ∧ ρ 12 = .int .i64 i ∧ ρ 13 = .int .i64 j ∧ ms = [] ∧ h' = h ∧ d' = []) →
    LoopW M cx 8 sf108L1 ρ ms h' d' (fun ex ρ' ms' h' d' => ex = .exit 6 ∧ ms' = [] ∧ h' = h ∧ d' = [] ∧ ∃ i : Nat, i0 ≤ i ∧ a < i ∧ i ≤ j + 1 ∧ (∀ q, a < q → q < i → c (f q) (f a) < 0) ∧ (i ≤ j → ¬ c (f i) (f a) < 0) ∧ KRF n B cap g a ρ' ∧ ρ' 12 = .int .i64 i ∧ ρ' 13 = .int .i64 j) := by
  refine loop_run _ ?_
  rintro k ρ ms h' d' ⟨i, hk, h0i, hai, hij, hP, ⟨r0, r1, r4⟩, ri, rj, rfl, rfl, rfl⟩
  unfold sf108L1
  by_cases z : i ≤ j
  · have e1 : (i : Int) ≤ j := by omega
    have p1 : (0 : Int) ≤ (i : Int) := by omega
    have p2 : (i : Int) < n := by omega
    have p3 : (0 : Int) ≤ (a : Int) := by omega
    have p4 : (a : Int) < n := by omega
    have w1 : IntKind.i64.wrap ((i : Int) + 1) = ((i + 1 : Nat) : Int) := by rw [wrap64 (by omega) (by omega)]; rfl
    have l1 := S.load hl (show i < n by omega)
    have l2 := S.load hl (show a < n by omega)
    have cc := fun h => C.call (f i) (f a) h
    by_cases hlt : c (f i) (f a) < 0
    · repeat (first | apply Z1 | apply Z2 | apply Z3 | apply Z4 | apply Z5 rfl | apply Z6 | apply Z7 | apply Z8 | apply Z9 | apply ZA | apply ZB | apply ZC | ((first | apply ZD (by decide) | apply ZN (by decide)); (simp (maxSteps := 9999999) only [go_sem, r0, r1, r4, ri, rj, e1, p1, p2, p3, p4, w1, l1, l2, cc, hlt]; rfl)) | (refine ZE ?_ ?_; · simp only [go_sem]) | (refine ZF ?_ ?_; · simp only [go_sem]))
      refine end_nil ⟨j + 1 - (i + 1), by omega, i + 1, rfl, by omega, by omega, by omega, fun q q1 q2 => ?_, ⟨by simp only [go_sem, r0], by simp only [go_sem, r1], by simp only [go_sem, r4]⟩, by simp only [go_sem, w1], by simp only [go_sem, rj], rfl, rfl, rfl⟩
      by_cases e : q = i
      · subst e; exact hlt
      · exact hP q q1 (by omega)
    · have hlt2 := hlt
      repeat (first | apply Z1 | apply Z2 | apply Z3 | apply Z4 | apply Z5 rfl | apply Z6 | apply Z7 | apply Z8 | apply Z9 | apply ZA | apply ZB | apply ZC | ((first | apply ZD (by decide) | apply ZN (by decide)); (simp (maxSteps := 9999999) only [go_sem, r0, r1, r4, ri, rj, e1, p1, p2, p3, p4, l1, l2, cc, hlt2]; rfl)) | (refine ZE ?_ ?_; · simp only [go_sem]) | (refine ZF ?_ ?_; · simp only [go_sem]))
      exact end_nil ⟨rfl, rfl, rfl, rfl, i, h0i, hai, hij, hP, fun _ => hlt, ⟨by simp only [go_sem, r0], by simp only [go_sem, r1], by simp only [go_sem, r4]⟩, by simp only [go_sem, ri], by simp only [go_sem, rj]⟩
  · have e1 : ¬ (i : Int) ≤ j := by omega
    repeat (first | apply Z1 | apply Z2 | apply Z3 | apply Z4 | apply Z5 rfl | apply Z6 | apply Z7 | apply Z8 | apply Z9 | apply ZA | apply ZB | apply ZC | ((first | apply ZD (by decide) | apply ZN (by decide)); (simp (maxSteps := 9999999) only [go_sem, r0, r1, r4, ri, rj, e1]; rfl)) | (refine ZE ?_ ?_; · simp only [go_sem]) | (refine ZF ?_ ?_; · simp only [go_sem]))
    exact end_nil ⟨rfl, rfl, rfl, rfl, i, h0i, hai, hij, hP, fun h => (z h).elim, ⟨by simp only [go_sem, r0], by simp only [go_sem, r1], by simp only [go_sem, r4]⟩, by simp only [go_sem, ri], by simp only [go_sem, rj]⟩
theorem ptE_loopF (C : Cmp M g cel c) (hl : ∀ x, (cel x).length = 3) (hn : n ≤ 1000000) {a b i : Nat} (hb : b ≤ n) (hai : a < i) (j0 : Nat) (cx : Cx) {h : SHeap} {f : Nat → E} (S : SA cel n B el h0 old0 h f) : ∀ k ρ ms h' d', (∃ j : Nat, j + 1 - i = k ∧ j ≤ j0 ∧ j < b ∧ i ≤ j + 1 ∧ (∀ q, j < q → q < b → ¬ c (f q) (f a) < 0) ∧ KRF n B cap g a ρ ∧ ρ 12 = .int .i64 i ∧ ρ 13 = .int .i64 j ∧ ms = [] ∧ h' = h ∧ d' = []) →
    LoopW M cx 8 sf108L0 ρ ms h' d' (fun ex ρ' ms' h' d' => ex = .exit 8 ∧ ms' = [] ∧ h' = h ∧ d' = [] ∧ ∃ j : Nat, j ≤ j0 ∧ j < b ∧ i ≤ j + 1 ∧ (∀ q, j < q → q < b → ¬ c (f q) (f a) < 0) ∧ (i ≤ j → ¬ ¬ c (f j) (f a) < 0) ∧ KRF n B cap g a ρ' ∧ ρ' 12 = .int .i64 i ∧ ρ' 13 = .int .i64 j) := by
  refine loop_run _ ?_
  rintro k ρ ms h' d' ⟨j, hk, h0j, hjb, hij, hR, ⟨r0, r1, r4⟩, ri, rj, rfl, rfl, rfl⟩
  unfold sf108L0
  by_cases z : i ≤ j
  · have e1 : (i : Int) ≤ j := by omega
    have p1 : (0 : Int) ≤ (j : Int) := by omega
    have p2 : (j : Int) < n := by omega
    have p3 : (0 : Int) ≤ (a : Int) := by omega
    have p4 : (a : Int) < n := by omega
    have w1 : IntKind.i64.wrap ((j : Int) - 1) = ((j - 1 : Nat) : Int) := by rw [wrap64 (by omega) (by omega)]; omega
    have l1 := S.load hl (show j < n by omega)
    have l2 := S.load hl (show a < n by omega)
    have cc := fun h => C.call (f j) (f a) h
    by_cases hlt : ¬ c (f j) (f a) < 0
    · repeat (first | apply Z1 | apply Z2 | apply Z3 | apply Z4 | apply Z5 rfl | apply Z6 | apply Z7 | apply Z8 | apply Z9 | apply ZA | apply ZB | apply ZC | ((first | apply ZD (by decide) | apply ZN (by decide)); (simp (maxSteps := 9999999) only [go_sem, r0, r1, r4, ri, rj, e1, p1, p2, p3, p4, w1, l1, l2, cc, hlt]; rfl)) | (refine ZE ?_ ?_; · simp only [go_sem]) | (refine ZF ?_ ?_; · simp only [go_sem]))
      refine end_nil ⟨j - 1 + 1 - i, by omega, j - 1, rfl, by omega, by omega, by omega, fun q q1 q2 => ?_, ⟨by simp only [go_sem, r0], by simp only [go_sem, r1], by simp only [go_sem, r4]⟩, by simp only [go_sem, ri], by simp only [go_sem, w1], rfl, rfl, rfl⟩
      by_cases e : q = j
      · subst e; exact hlt
      · exact hR q (by omega) q2
    · have hlt2 := Classical.not_not.1 hlt
      repeat (first | apply Z1 | apply Z2 | apply Z3 | apply Z4 | apply Z5 rfl | apply Z6 | apply Z7 | apply Z8 | apply Z9 | apply ZA | apply ZB | apply ZC | ((first | apply ZD (by decide) | apply ZN (by decide)); (simp (maxSteps := 9999999) only [go_sem, r0, r1, r4, ri, rj, e1, p1, p2, p3, p4, l1, l2, cc, hlt2]; rfl)) | (refine ZE ?_ ?_; · simp only [go_sem]) | (refine ZF ?_ ?_; · simp only [go_sem]))
      exact end_nil ⟨rfl, rfl, rfl, rfl, j, h0j, hjb, hij, hR, fun _ => hlt, ⟨by simp only [go_sem, r0], by simp only [go_sem, r1], by simp only [go_sem, r4]⟩, by simp only [go_sem, ri], by simp only [go_sem, rj]⟩
  · have e1 : ¬ (i : Int) ≤ j := by omega
    repeat (first | apply Z1 | apply Z2 | apply Z3 | apply Z4 | apply Z5 rfl | apply Z6 | apply Z7 | apply Z8 | apply Z9 | apply ZA | apply ZB | apply ZC | ((first | apply ZD (by decide) | apply ZN (by decide)); (simp (maxSteps := 9999999) only [go_sem, r0, r1, r4, ri, rj, e1]; rfl)) | (refine ZE ?_ ?_; · simp only [go_sem]) | (refine ZF ?_ ?_; · simp only [go_sem]))
    exact end_nil ⟨rfl, rfl, rfl, rfl, j, h0j, hjb, hij, hR, fun h => (z h).elim, ⟨by simp only [go_sem, r0], by simp only [go_sem, r1], by simp only [go_sem, r4]⟩, by simp only [go_sem, ri], by simp only [go_sem, rj]⟩
theorem ptO_loopF (C : Cmp M g cel c) (hl : ∀ x, (cel x).length = 3) (hc : ∀ x, (cel x).all sc = true) (hn : n ≤ 1000000) {a b : Nat} (hb : b ≤ n) (cx : Cx) (f0 : Nat → E) : ∀ k ρ ms h' d', (∃ (i j : Nat) (f : Nat → E), j + 1 - i = k ∧ a < i ∧ i ≤ j + 1 ∧ j < b ∧ SA cel n B el h0 old0 h' f ∧ Sw (a + 1) b f0 f ∧ (∀ q, a < q → q < i → c (f q) (f a) < 0) ∧ (∀ q, j < q → q < b → ¬ c (f q) (f a) < 0) ∧ KRF n B cap g a ρ ∧ ρ 12 = .int .i64 i ∧ ρ 13 = .int .i64 j ∧ ms = [] ∧ d' = []) →
    LoopW M cx 8 sf108L2 ρ ms h' d' (fun ex ρ' ms' h' d' => ex = .exit 4 ∧ ms' = [] ∧ d' = [] ∧ ∃ (j : Nat) (f : Nat → E), a ≤ j ∧ j < b ∧ SA cel n B el h0 old0 h' f ∧ Sw (a + 1) b f0 f ∧ (∀ q, a < q → q ≤ j → c (f q) (f a) < 0) ∧ (∀ q, j < q → q < b → ¬ c (f q) (f a) < 0) ∧ KRF n B cap g a ρ' ∧ ρ' 13 = .int .i64 j) := by
  refine loop_run _ ?_
  rintro k ρ ms h' d' ⟨i, j, f, hk, hai, hij, hjb, S, W, hP, hR, ⟨r0, r1, r4⟩, ri, rj, rfl, rfl⟩
  unfold sf108L2
  repeat (first | apply Z1 | apply Z2 | apply Z3 | apply Z4 | apply Z5 rfl | apply Z6 | apply Z7 | apply Z8 | apply Z9 | apply ZA | apply ZB | apply ZC | ((first | apply ZD (by decide) | apply ZN (by decide)); (simp (maxSteps := 9999999) only [go_sem]; rfl)) | (refine ZE ?_ ?_; · simp only [go_sem]) | (refine ZF ?_ ?_; · simp only [go_sem]))
  refine run_loop (ptD_loopF (cap := cap) C hl hn (a := a) hb hjb (by omega) i cx S (j + 1 - i) _ _ _ _ ⟨i, rfl, Nat.le_refl _, hai, hij, hP, ⟨by simp only [go_sem, r0], by simp only [go_sem, r1], by simp only [go_sem, r4]⟩, by simp only [go_sem, ri], by simp only [go_sem, rj], rfl, rfl, rfl⟩) ?_
  rintro ex ρ1 ms1 h1 d1 ⟨rfl, rfl, rfl, rfl, i2, h0i2, hai2, hij2, hP2, hstop1, ⟨r0, r1, r4⟩, ri, rj⟩
  repeat (first | apply Z1 | apply Z2 | apply Z3 | apply Z4 | apply Z5 rfl | apply Z6 | apply Z7 | apply Z8 | apply Z9 | apply ZA | apply ZB | apply ZC | ((first | apply ZD (by decide) | apply ZN (by decide)); (simp (maxSteps := 9999999) only [go_sem]; rfl)) | (refine ZE ?_ ?_; · simp only [go_sem]) | (refine ZF ?_ ?_; · simp only [go_sem]))
  refine run_loop (ptE_loopF (cap := cap) C hl hn (a := a) hb hai2 j cx S (j + 1 - i2) _ _ _ _ ⟨j, rfl, Nat.le_refl _, hjb, hij2, hR, ⟨by simp only [go_sem, r0], by simp only [go_sem, r1], by simp only [go_sem, r4]⟩, by simp only [go_sem, ri], by simp only [go_sem, rj], rfl, rfl, rfl⟩) ?_
  rintro ex ρ2 ms2 h2 d2 ⟨rfl, rfl, rfl, rfl, j2, h0j2, hjb2, hij3, hR2, hstop2, ⟨r0, r1, r4⟩, ri, rj⟩
  by_cases z : j2 < i2
  · have e1 : (j2 : Int) < i2 := by omega
    repeat (first | apply Z1 | apply Z2 | apply Z3 | apply Z4 | apply Z5 rfl | apply Z6 | apply Z7 | apply Z8 | apply Z9 | apply ZA | apply ZB | apply ZC | ((first | apply ZD (by decide) | apply ZN (by decide)); (simp (maxSteps := 9999999) only [go_sem, r0, r1, r4, ri, rj, e1]; rfl)) | (refine ZE ?_ ?_; · simp only [go_sem]) | (refine ZF ?_ ?_; · simp only [go_sem]))
    exact end_nil ⟨rfl, rfl, rfl, j2, f, by omega, hjb2, S, W, fun q q1 q2 => hP2 q q1 (by omega), hR2, ⟨by simp only [go_sem, r0], by simp only [go_sem, r1], by simp only [go_sem, r4]⟩, by simp only [go_sem, rj]⟩
  · have e1 : ¬ (j2 : Int) < i2 := by omega
    have n2 := Classical.not_not.1 (hstop2 (by omega))
    have m1 : ¬ c (f i2) (f a) < 0 := by
      by_cases e4 : i2 ≤ j
      · exact hstop1 e4
      · exact hR i2 (by omega) (by omega)
    have hlt : i2 < j2 := by
      by_cases e : i2 < j2
      · exact e
      · exfalso
        have e3 : i2 = j2 := by omega
        subst e3
        exact m1 n2
    have p1 : (0 : Int) ≤ (i2 : Int) := by omega
    have p2 : (i2 : Int) < n := by omega
    have p3 : (0 : Int) ≤ (j2 : Int) := by omega
    have p4 : (j2 : Int) < n := by omega
    have w1 : IntKind.i64.wrap ((i2 : Int) + 1) = ((i2 + 1 : Nat) : Int) := by rw [wrap64 (by omega) (by omega)]; rfl
    have w2 : IntKind.i64.wrap ((j2 : Int) - 1) = ((j2 - 1 : Nat) : Int) := by rw [wrap64 (by omega) (by omega)]; omega
    have l1 := S.load hl (show i2 < n by omega)
    have l2 := S.load hl (show j2 < n by omega)
    obtain ⟨h3, h4, st1, st2, S2⟩ := S.swap hl hc (by decide) (show i2 < n by omega) (show j2 < n by omega)
    repeat (first | apply Z1 | apply Z2 | apply Z3 | apply Z4 | apply Z5 rfl | apply Z6 | apply Z7 | apply Z8 | apply Z9 | apply ZA | apply ZB | apply ZC | ((first | apply ZD (by decide) | apply ZN (by decide)); (simp (maxSteps := 9999999) only [go_sem, r0, r1, r4, ri, rj, e1, p1, p2, p3, p4, l1, l2, hl, ↓st1, ↓st2, w1, w2]; rfl)) | (refine ZE ?_ ?_; · simp only [go_sem]) | (refine ZF ?_ ?_; · simp only [go_sem]))
    have ea : swp f i2 j2 a = f a := swp_o f (by omega) (by omega)
    refine end_nil ⟨j2 - 1 + 1 - (i2 + 1), by omega, i2 + 1, j2 - 1, _, rfl, by omega, by omega, by omega, S2, W.step (by omega) (by omega) (by omega) (by omega), fun q q1 q2 => ?_, fun q q1 q2 => ?_, ⟨by simp only [go_sem, r0], by simp only [go_sem, r1], by simp only [go_sem, r4]⟩, by simp only [go_sem, w1], by simp only [go_sem, w2], rfl, rfl⟩
    · rw [ea]
      by_cases e : q = i2
      · subst e; rw [swp_l]; exact n2
      · rw [swp_o f e (by omega)]; exact hP2 q q1 (by omega)
    · rw [ea]
      by_cases e : q = j2
      · subst e; rw [swp_r]; exact m1
      · rw [swp_o f (by omega) e]; exact hR2 q (by omega) q2
theorem part_endF {a b j : Nat} {f : Nat → E} (haj : a ≤ j) (hjb : j < b) (hP : ∀ q, a < q → q ≤ j → c (f q) (f a) < 0) (hR : ∀ q, j < q → q < b → ¬ c (f q) (f a) < 0) :
    (∀ q, a ≤ q → q < j → c (swp f j a q) (swp f j a j) < 0) ∧ (∀ q, j < q → q < b → ¬ c (swp f j a q) (swp f j a j) < 0) ∧ swp f j a j = f a := by
  refine ⟨fun q q1 q2 => ?_, fun q q1 q2 => ?_, swp_l f j a⟩
  · rw [swp_l]
    by_cases e : q = a
    · subst e; rw [swp_r]; exact hP j (by omega) (Nat.le_refl _)
    · rw [swp_o f (by omega) e]; exact hP q (by omega) (by omega)
  · rw [swp_l, swp_o f (by omega) (by omega)]; exact hR q q1 q2
theorem partF (C : Cmp M g cel c) (hl : ∀ x, (cel x).length = 3) (hc : ∀ x, (cel x).all sc = true) (hn : n ≤ 1000000) {a b p : Nat} (hap : a ≤ p) (hpb : p < b) (hb : b ≤ n) {h : SHeap} {f : Nat → E} (S : SA cel n B el h0 old0 h f) :
    ∃ h' f' m q, M.call 108 [.slice (some ⟨B, 0, none⟩) n cap, .int .i64 a, .int .i64 b, .int .i64 ((p : Nat) : Int), .func (.func g) #[] #[]] h = some (.tuple #[.int .i64 ((m : Nat) : Int), .bool q], h', []) ∧ SA cel n B el h0 old0 h' f' ∧ Sw a b f f' ∧ a ≤ m ∧ m < b ∧ (∀ q, a ≤ q → q < m → c (f' q) (f' m) < 0) ∧ (∀ q, m < q → q < b → ¬ c (f' q) (f' m) < 0) := by
  have key : ∃ r, (∃ h' f' m q, r = (Value.tuple #[.int .i64 ((m : Nat) : Int), .bool q], h', ([] : List Nat)) ∧ SA cel n B el h0 old0 h' f' ∧ Sw a b f f' ∧ a ≤ m ∧ m < b ∧ (∀ q, a ≤ q → q < m → c (f' q) (f' m) < 0) ∧ (∀ q, m < q → q < b → ¬ c (f' q) (f' m) < 0)) ∧ M.call 108 [.slice (some ⟨B, 0, none⟩) n cap, .int .i64 a, .int .i64 b, .int .i64 ((p : Nat) : Int), .func (.func g) #[] #[]] h = some r := by
    refine call_ex (f := 108) _ sf108 rfl rfl rfl ?_
    unfold sf108
    have p1 : (0 : Int) ≤ (a : Int) := by omega
    have p2 : (a : Int) < n := by omega
    have p3 : (0 : Int) ≤ (p : Int) := by omega
    have p4 : (p : Int) < n := by omega
    have w1 : IntKind.i64.wrap ((a : Int) + 1) = ((a + 1 : Nat) : Int) := by rw [wrap64 (by omega) (by omega)]; rfl
    have w2 : IntKind.i64.wrap ((b : Int) - 1) = ((b - 1 : Nat) : Int) := by rw [wrap64 (by omega) (by omega)]; omega
    have l1 := S.load hl (show a < n by omega)
    have l2 := S.load hl (show p < n by omega)
    obtain ⟨h3, h4, st1, st2, S2⟩ := S.swap hl hc (by decide) (show a < n by omega) (show p < n by omega)
    have W1 : Sw a b f (swp f a p) := Sw.one f (by omega) (by omega) (by omega) (by omega)
    repeat (first | apply Z1 | apply Z2 | apply Z3 | apply Z4 | apply Z5 rfl | apply Z6 | apply Z7 | apply Z8 | apply Z9 | apply ZA | apply ZB | apply ZC | ((first | apply ZD (by decide) | apply ZN (by decide)); (simp (maxSteps := 9999999) only [go_sem, argR, p1, p2, p3, p4, l1, l2, hl, ↓st1, ↓st2, w1, w2]; rfl)) | (refine ZE ?_ ?_; · simp only [go_sem]) | (refine ZF ?_ ?_; · simp only [go_sem]))
    generalize swp f a p = f1 at *
    refine run_loop (ptA_loopF (cap := cap) C hl hn (a := a) (b := b) (j := b - 1) hb (by omega) (by omega) (a + 1) _ S2 (b - 1 + 1 - (a + 1)) _ _ _ _ ⟨a + 1, rfl, Nat.le_refl _, by omega, by omega, fun q q1 q2 => by omega, ⟨by simp only [go_sem, argR], by simp only [go_sem, argR], by simp only [go_sem, argR]⟩, by simp only [go_sem, w1], by simp only [go_sem, w2], rfl, rfl, rfl⟩) ?_
    rintro ex ρ1 ms1 h5 d1 ⟨rfl, rfl, rfl, rfl, i2, h0i2, hai2, hij2, hP2, hstop1, ⟨r0, r1, r4⟩, ri, rj⟩
    repeat (first | apply Z1 | apply Z2 | apply Z3 | apply Z4 | apply Z5 rfl | apply Z6 | apply Z7 | apply Z8 | apply Z9 | apply ZA | apply ZB | apply ZC | ((first | apply ZD (by decide) | apply ZN (by decide)); (simp (maxSteps := 9999999) only [go_sem]; rfl)) | (refine ZE ?_ ?_; · simp only [go_sem]) | (refine ZF ?_ ?_; · simp only [go_sem]))
    refine run_loop (ptB_loopF (cap := cap) C hl hn (a := a) (b := b) hb hai2 (b - 1) _ S2 (b - 1 + 1 - i2) _ _ _ _ ⟨b - 1, rfl, Nat.le_refl _, by omega, hij2, fun q q1 q2 => by omega, ⟨by simp only [go_sem, r0], by simp only [go_sem, r1], by simp only [go_sem, r4]⟩, by simp only [go_sem, ri], by simp only [go_sem, rj], rfl, rfl, rfl⟩) ?_
    rintro ex ρ2 ms2 h6 d2 ⟨rfl, rfl, rfl, rfl, j2, h0j2, hjb2, hij3, hR2, hstop2, ⟨r0, r1, r4⟩, ri, rj⟩
    have x1 : (0 : Int) ≤ (j2 : Int) := by omega
    have x2 : (j2 : Int) < n := by omega
    by_cases z : j2 < i2
    · have e1 : (j2 : Int) < i2 := by omega
      have y1 := S2.load hl (show j2 < n by omega)
      have y2 := S2.load hl (show a < n by omega)
      obtain ⟨h7, h8, st3, st4, S3⟩ := S2.swap hl hc (by decide) (show j2 < n by omega) (show a < n by omega)
      obtain ⟨pe1, pe2, pe3⟩ := part_endF (c := c) (show a ≤ j2 by omega) hjb2 (fun q q1 q2 => hP2 q q1 (by omega)) hR2
      repeat (first | apply Z1 | apply Z2 | apply Z3 | apply Z4 | apply Z5 rfl | apply Z6 | apply Z7 | apply Z8 | apply Z9 | apply ZA | apply ZB | apply ZC | ((first | apply ZD (by decide) | apply ZN (by decide)); (simp (maxSteps := 9999999) only [go_sem, r0, r1, r4, ri, rj, e1, p1, p2, x1, x2, y1, y2, hl, ↓st3, ↓st4]; rfl)) | (refine ZE ?_ ?_; · simp only [go_sem]) | (refine ZF ?_ ?_; · simp only [go_sem]))
      exact end_nil ⟨_, ⟨h8, _, j2, true, rfl, S3, W1.step (by omega) (by omega) (by omega) (by omega), by omega, hjb2, pe1, pe2⟩, q_free [.int .i64 j2, .bool true] (by simp only [go_sem]) rfl rfl rfl (fun _ => rfl) (by rw [List.take_of_length_le]; rw [S3.len, S.len]; exact Nat.le_refl _) rfl⟩
    · have e1 : ¬ (j2 : Int) < i2 := by omega
      have n2 := Classical.not_not.1 (hstop2 (by omega))
      have m1 : ¬ c (f1 i2) (f1 a) < 0 := hstop1 (by omega)
      have hlt : i2 < j2 := by
        by_cases e : i2 < j2
        · exact e
        · exfalso
          have e3 : i2 = j2 := by omega
          subst e3
          exact m1 n2
      have x3 : (0 : Int) ≤ (i2 : Int) := by omega
      have x4 : (i2 : Int) < n := by omega
      have w3 : IntKind.i64.wrap ((i2 : Int) + 1) = ((i2 + 1 : Nat) : Int) := by rw [wrap64 (by omega) (by omega)]; rfl
      have w4 : IntKind.i64.wrap ((j2 : Int) - 1) = ((j2 - 1 : Nat) : Int) := by rw [wrap64 (by omega) (by omega)]; omega
      have y1 := S2.load hl (show i2 < n by omega)
      have y2 := S2.load hl (show j2 < n by omega)
      obtain ⟨h7, h8, st3, st4, S3⟩ := S2.swap hl hc (by decide) (show i2 < n by omega) (show j2 < n by omega)
      have W2 : Sw a b f (swp f1 i2 j2) := W1.step (by omega) (by omega) (by omega) (by omega)
      have ea : swp f1 i2 j2 a = f1 a := swp_o f1 (by omega) (by omega)
      have hP3 : ∀ q, a < q → q < i2 + 1 → c (swp f1 i2 j2 q) (swp f1 i2 j2 a) < 0 := fun q q1 q2 => by
        rw [ea]
        by_cases e : q = i2
        · subst e; rw [swp_l]; exact n2
        · rw [swp_o f1 e (by omega)]; exact hP2 q q1 (by omega)
      have hR3 : ∀ q, j2 - 1 < q → q < b → ¬ c (swp f1 i2 j2 q) (swp f1 i2 j2 a) < 0 := fun q q1 q2 => by
        rw [ea]
        by_cases e : q = j2
        · subst e; rw [swp_r]; exact m1
        · rw [swp_o f1 (by omega) e]; exact hR2 q (by omega) q2
      repeat (first | apply Z1 | apply Z2 | apply Z3 | apply Z4 | apply Z5 rfl | apply Z6 | apply Z7 | apply Z8 | apply Z9 | apply ZA | apply ZB | apply ZC | ((first | apply ZD (by decide) | apply ZN (by decide)); (simp (maxSteps := 9999999) only [go_sem, r0, r1, r4, ri, rj, e1, x1, x2, x3, x4, y1, y2, hl, ↓st3, ↓st4, w3, w4]; rfl)) | (refine ZE ?_ ?_; · simp only [go_sem]) | (refine ZF ?_ ?_; · simp only [go_sem]))
      generalize swp f1 i2 j2 = f2 at *
      refine run_loop (ptO_loopF (cap := cap) C hl hc hn (a := a) (b := b) hb _ f2 (j2 - 1 + 1 - (i2 + 1)) _ _ _ _ ⟨i2 + 1, j2 - 1, f2, rfl, by omega, by omega, by omega, S3, .refl, hP3, hR3, ⟨by simp only [go_sem, r0], by simp only [go_sem, r1], by simp only [go_sem, r4]⟩, by simp only [go_sem, w3], by simp only [go_sem, w4], rfl, rfl⟩) ?_
      rintro ex ρ3 ms3 h9 d3 ⟨rfl, rfl, rfl, j3, f3, haj3, hjb3, S4, W3, hP4, hR4, ⟨r0, r1, r4⟩, rj⟩
      have x5 : (0 : Int) ≤ (j3 : Int) := by omega
      have x6 : (j3 : Int) < n := by omega
      have y3 := S4.load hl (show j3 < n by omega)
      have y4 := S4.load hl (show a < n by omega)
      obtain ⟨h10, h11, st5, st6, S5⟩ := S4.swap hl hc (by decide) (show j3 < n by omega) (show a < n by omega)
      obtain ⟨pe1, pe2, pe3⟩ := part_endF (c := c) haj3 hjb3 hP4 hR4
      repeat (first | apply Z1 | apply Z2 | apply Z3 | apply Z4 | apply Z5 rfl | apply Z6 | apply Z7 | apply Z8 | apply Z9 | apply ZA | apply ZB | apply ZC | ((first | apply ZD (by decide) | apply ZN (by decide)); (simp (maxSteps := 9999999) only [go_sem, r0, r1, r4, rj, p1, p2, x5, x6, y3, y4, hl, ↓st5, ↓st6]; rfl)) | (refine ZE ?_ ?_; · simp only [go_sem]) | (refine ZF ?_ ?_; · simp only [go_sem]))
      exact end_nil ⟨_, ⟨h11, _, j3, false, rfl, S5, (W2.trans (W3.mono (by omega) (by omega))).step (by omega) (by omega) (by omega) (by omega), by omega, hjb3, pe1, pe2⟩, q_free [.int .i64 j3, .bool false] (by simp only [go_sem]) rfl rfl rfl (fun _ => rfl) (by rw [List.take_of_length_le]; rw [S5.len, S.len]; exact Nat.le_refl _) rfl⟩
  obtain ⟨r, ⟨h', f', m, q, rfl, k⟩, e⟩ := key
  exact ⟨h', f', m, q, e, k⟩
end
end Go.Proofs.YtdmfhdnpakgkpaaDoor.Sh

namespace Go.Proofs.YtdmfhdnpakgkpaaDoor.Sh
open Go
set_option maxRecDepth 100000
set_option maxHeartbeats 4000000
theorem run_cutF {R : Rec} {cx : Cx} {dep : Nat} {a b : SCode} {st : List Fr} {ρ : Reg} {ms : List Nat} {h : SHeap} {d : List Nat} {Q : Post} (I : Post) (w : Run R cx dep a [] ρ ms h d I) (k : ∀ ex ρ' ms' h' d', I ex ρ' ms' h' d' → Ends R cx dep ex (.seq b :: st) ρ' ms' h' d' Q) : Run R cx dep (.seq a b) st ρ ms h d Q := by
  refine run_seq ?_
  unfold Run at *
  intro t hf ht
  obtain ⟨ex, t', ms', h', d', e, f, q⟩ := w t hf ht
  refine ⟨ex, t', ms', h', d', e, f, k _ _ _ _ _ ?_⟩
  unfold Ends at q
  exact q
section
variable {E : Type} {cel : E → List Value} {c : E → E → Int} {g : FuncId} {n B cap : Nat} {el : TypeId} {h0 : SHeap} {old0 : List Nat}
def PreF (c : E → E → Int) (a b : Nat) (f : Nat → E) : Prop := 0 < a → ∀ j, a ≤ j → j < b → ¬ c (f j) (f (a - 1)) < 0
theorem PreF.sw {a b : Nat} {f k : Nat → E} (h : PreF c a b f) (W : Sw a b f k) : PreF c a b k := fun h0 => by
  rw [W.out (i := a - 1) (by omega)]
  exact W.all (P := fun x => ¬ c x (f (a - 1)) < 0) (h h0)
def DnF (c : E → E → Int) (a0 b0 a b : Nat) (f : Nat → E) : Prop := ∀ i j, a0 ≤ i → i < j → j < b0 → ¬ (a ≤ i ∧ j < b) → ¬ c (f j) (f i) < 0
theorem DnF.sw {a0 b0 a b : Nat} {f k : Nat → E} (h : DnF c a0 b0 a b f) (W : Sw a b f k) (ha : a0 ≤ a) (hb : b ≤ b0) : DnF c a0 b0 a b k := by
  intro i j h1 h2 h3 h4
  by_cases c1 : a ≤ i ∧ i < b
  · by_cases c2 : a ≤ j ∧ j < b
    · omega
    · rw [W.out (i := j) (by omega)]
      exact W.all (P := fun x => ¬ c (f j) x < 0) (fun q q1 q2 => h q j (by omega) (by omega) h3 (by omega)) i c1.1 c1.2
  · by_cases c2 : a ≤ j ∧ j < b
    · rw [W.out (i := i) (by omega)]
      exact W.all (P := fun x => ¬ c x (f i) < 0) (fun q q1 q2 => h i q (by omega) (by omega) (by omega) (by omega)) j c2.1 c2.2
    · rw [W.out (i := i) (by omega), W.out (i := j) (by omega)]
      exact h i j h1 h2 h3 h4
theorem DnF.fin {a0 b0 a b : Nat} {f : Nat → E} (h : DnF c a0 b0 a b f) (O : Ord c a b f) : Ord c a0 b0 f := fun i j h1 h2 h3 => by
  by_cases e : a ≤ i ∧ j < b
  · exact O i j e.1 h2 e.2
  · exact h i j h1 h2 h3 e
def PdqOKF (c : E → E → Int) (cel : E → List Value) (g : FuncId) (n B cap : Nat) (el : TypeId) (h0 : SHeap) (old0 : List Nat) (L : Nat) : Prop :=
  ∀ (a b lim : Nat) (h : SHeap) (f : Nat → E), b - a < L → a ≤ b → b ≤ n → lim ≤ 1000 → SA cel n B el h0 old0 h f → PreF c a b f →
    ∃ h' f', M.call 84 [.slice (some ⟨B, 0, none⟩) n cap, .int .i64 a, .int .i64 b, .int .i64 lim, .func (.func g) #[] #[]] h = some (.tuple #[], h', []) ∧ SA cel n B el h0 old0 h' f' ∧ Sw a b f f' ∧ Ord c a b f'
structure PRF (n B cap : Nat) (g : FuncId) (a b lim : Nat) (wb wp : Bool) (ρ : Reg) : Prop where
  r0 : ρ 0 = .slice (some ⟨B, 0, none⟩) n cap
  r1 : ρ 1 = .int .i64 a
  r2 : ρ 2 = .int .i64 b
  r3 : ρ 3 = .int .i64 lim
  r4 : ρ 4 = .func (.func g) #[] #[]
  r10 : ρ 10 = .bool wb
  r11 : ρ 11 = .bool wp
theorem pdq_loopF (C : Cmp M g cel c) (hl : ∀ x, (cel x).length = 3) (hc : ∀ x, (cel x).all sc = true) (hn : n ≤ 60000) (hlow : ∀ c ∈ old0, c < h0.length) {a0 b0 : Nat} (hb0 : b0 ≤ n) (IH : PdqOKF c cel g n B cap el h0 old0 (b0 - a0)) (cx : Cx) (f0 : Nat → E) :
    ∀ k ρ ms h' d', (∃ (a b lim : Nat) (wb wp : Bool) (f : Nat → E), b - a = k ∧ a0 ≤ a ∧ a ≤ b ∧ b ≤ b0 ∧ lim ≤ 1000 ∧ SA cel n B el h0 old0 h' f ∧ Sw a0 b0 f0 f ∧ DnF c a0 b0 a b f ∧ PreF c a b f ∧ PRF n B cap g a b lim wb wp ρ ∧ ms = [] ∧ d' = []) →
    LoopW M cx 8 sf84L0 ρ ms h' d' (fun ex ρ' ms' h' d' => ex = .ret ∧ ms' = [] ∧ d' = [] ∧ ∃ f : Nat → E, SA cel n B el h0 old0 h' f ∧ Sw a0 b0 f0 f ∧ Ord c a0 b0 f) := by
  refine loop_run _ ?_
  rintro k ρ ms h' d' ⟨a, b, lim, wb, wp, f, hk, ha, hab, hb, hlim, S, W, D, P, ⟨r0, r1, r2, r3, r4, r10, r11⟩, rfl, rfl⟩
  have w1 : IntKind.i64.wrap ((b : Int) - (a : Int)) = ((b - a : Nat) : Int) := by rw [wrap64 (by omega) (by omega)]; omega
  unfold sf84L0
  by_cases c12 : b - a ≤ 12
  · have e12 : ((b - a : Nat) : Int) ≤ 12 := by omega
    obtain ⟨h2, f2, e, S2, W2, O2⟩ := insF (cap := cap) C hl hc (by omega) hab (by omega) S
    repeat (first | apply Z1 | apply Z2 | apply Z3 | apply Z4 | apply Z5 rfl | apply Z6 | apply Z7 | apply Z8 | apply Z9 | apply ZA | apply ZB | apply ZC | ((first | apply ZD (by decide) | apply ZN (by decide)); (simp (maxSteps := 9999999) only [go_sem, r0, r1, r2, r3, r4, w1, e12, e]; rfl)) | (refine ZE ?_ ?_; · simp only [go_sem]) | (refine ZF ?_ ?_; · simp only [go_sem]))
    exact end_nil ⟨rfl, rfl, rfl, f2, S2, W.trans (W2.mono ha hb), (D.sw W2 ha hb).fin O2⟩
  have e12 : ¬ ((b - a : Nat) : Int) ≤ 12 := by omega
  by_cases cl : lim = 0
  · have elim : ((lim : Nat) : Int) = 0 := by omega
    obtain ⟨h2, f2, e, S2, W2, O2⟩ := heapF (cap := cap) C hl hc (by omega) (show a < b by omega) (by omega) S
    repeat (first | apply Z1 | apply Z2 | apply Z3 | apply Z4 | apply Z5 rfl | apply Z6 | apply Z7 | apply Z8 | apply Z9 | apply ZA | apply ZB | apply ZC | ((first | apply ZD (by decide) | apply ZN (by decide)); (simp (maxSteps := 9999999) only [go_sem, r0, r1, r2, r3, r4, w1, e12, elim, e]; rfl)) | (refine ZE ?_ ?_; · simp only [go_sem]) | (refine ZF ?_ ?_; · simp only [go_sem]))
    exact end_nil ⟨rfl, rfl, rfl, f2, S2, W.trans (W2.mono ha hb), (D.sw W2 ha hb).fin O2⟩
  have elim : ¬ ((lim : Nat) : Int) = 0 := by omega
  -- breaking patterns
  have wl : IntKind.i64.wrap ((lim : Int) - 1) = ((lim - 1 : Nat) : Int) := by rw [wrap64 (by omega) (by omega)]; omega
  apply run_block
  apply run_seq
  apply run_region (by decide)
  · simp only [go_sem, r1, r2, w1]
    rfl
  apply end_seq
  refine run_cutF (fun ex ρ' ms' h2 d2 => ex = .normal ∧ ms' = [] ∧ h2 = h' ∧ d2 = [] ∧ PRF n B cap g a b lim wb wp ρ' ∧ ρ' 12 = .int .i64 ((b - a : Nat) : Int)) ?_ ?_
  · repeat (first | apply Z1 | apply Z2 | apply Z3 | apply Z4 | apply Z5 rfl | apply Z6 | apply Z7 | apply Z8 | apply Z9 | apply ZA | apply ZB | apply ZC | ((first | apply ZD (by decide) | apply ZN (by decide)); (simp (maxSteps := 9999999) only [go_sem, e12]; rfl)) | (refine ZE ?_ ?_; · simp only [go_sem]) | (refine ZF ?_ ?_; · simp only [go_sem]))
    exact end_nil ⟨rfl, rfl, rfl, rfl, ⟨by simp only [go_sem, r0], by simp only [go_sem, r1], by simp only [go_sem, r2], by simp only [go_sem, r3], by simp only [go_sem, r4], by simp only [go_sem, r10], by simp only [go_sem, r11]⟩, by simp only [go_sem]⟩
  rintro ex ρ ms h2 d ⟨rfl, rfl, rfl, rfl, ⟨r0, r1, r2, r3, r4, r10, r11⟩, r12⟩
  apply end_seq
  refine run_cutF (fun ex ρ' ms' h3 d2 => ex = .normal ∧ ms' = [] ∧ h3 = h2 ∧ d2 = [] ∧ PRF n B cap g a b lim wb wp ρ' ∧ ρ' 12 = .int .i64 ((b - a : Nat) : Int)) ?_ ?_
  · repeat (first | apply Z1 | apply Z2 | apply Z3 | apply Z4 | apply Z5 rfl | apply Z6 | apply Z7 | apply Z8 | apply Z9 | apply ZA | apply ZB | apply ZC | ((first | apply ZD (by decide) | apply ZN (by decide)); (simp (maxSteps := 9999999) only [go_sem, r3, elim]; rfl)) | (refine ZE ?_ ?_; · simp only [go_sem]) | (refine ZF ?_ ?_; · simp only [go_sem]))
    exact end_nil ⟨rfl, rfl, rfl, rfl, ⟨by simp only [go_sem, r0], by simp only [go_sem, r1], by simp only [go_sem, r2], by simp only [go_sem, r3], by simp only [go_sem, r4], by simp only [go_sem, r10], by simp only [go_sem, r11]⟩, by simp only [go_sem, r12]⟩
  rintro ex ρ ms h3 d ⟨rfl, rfl, rfl, rfl, ⟨r0, r1, r2, r3, r4, r10, r11⟩, r12⟩
  apply end_seq
  refine run_cutF (fun ex ρ' ms' h2 d2 => ex = .normal ∧ ms' = [] ∧ d2 = [] ∧ ∃ (lim' : Nat) (f' : Nat → E), lim' ≤ 1000 ∧ SA cel n B el h0 old0 h2 f' ∧ Sw a b f f' ∧ PRF n B cap g a b lim' wb wp ρ' ∧ ρ' 12 = .int .i64 ((b - a : Nat) : Int)) ?_ ?_
  · cases wb with
    | true =>
      repeat (first | apply Z1 | apply Z2 | apply Z3 | apply Z4 | apply Z5 rfl | apply Z6 | apply Z7 | apply Z8 | apply Z9 | apply ZA | apply ZB | apply ZC | ((first | apply ZD (by decide) | apply ZN (by decide)); (simp (maxSteps := 9999999) only [go_sem, r10]; rfl)) | (refine ZE ?_ ?_; · simp only [go_sem]) | (refine ZF ?_ ?_; · simp only [go_sem]))
      exact end_nil ⟨rfl, rfl, rfl, lim, f, hlim, S, .refl, ⟨by simp only [go_sem, r0], by simp only [go_sem, r1], by simp only [go_sem, r2], by simp only [go_sem, r3], by simp only [go_sem, r4], by simp only [go_sem, r10], by simp only [go_sem, r11]⟩, by simp only [go_sem, r12]⟩
    | false =>
      obtain ⟨h4, f4, e, S4, W4⟩ := brkF (cap := cap) hl hc hn (show a + 8 ≤ b by omega) (by omega) hlow (.func (.func g) #[] #[]) S
      repeat (first | apply Z1 | apply Z2 | apply Z3 | apply Z4 | apply Z5 rfl | apply Z6 | apply Z7 | apply Z8 | apply Z9 | apply ZA | apply ZB | apply ZC | ((first | apply ZD (by decide) | apply ZN (by decide)); (simp (maxSteps := 9999999) only [go_sem, r0, r1, r2, r3, r4, r10, e, wl]; rfl)) | (refine ZE ?_ ?_; · simp only [go_sem]) | (refine ZF ?_ ?_; · simp only [go_sem]))
      exact end_nil ⟨rfl, rfl, rfl, lim - 1, f4, by omega, S4, W4, ⟨by simp only [go_sem, r0], by simp only [go_sem, r1], by simp only [go_sem, r2], by simp only [go_sem, wl], by simp only [go_sem, r4], by simp only [go_sem, r10], by simp only [go_sem, r11]⟩, by simp only [go_sem, r12]⟩
  rintro ex ρ ms h3 d ⟨rfl, rfl, rfl, lim, f2, hlim, S2, W2, ⟨r0, r1, r2, r3, r4, r10, r11⟩, r12⟩
  have D2 := D.sw W2 ha hb
  have P2 := P.sw W2
  have W2' := W.trans (W2.mono ha hb)
  clear W D P S W2 wl elim cl
  -- the pivot
  obtain ⟨p, t, hp1, hp2, ht, epiv⟩ := pivF (cap := cap) C hl (by omega) (show Rd cel n B el h3 f2 by obtain ⟨old, _, e⟩ := S2.at_; exact ⟨old, e⟩) (show a + 13 ≤ b by omega) (by omega)
  apply end_seq
  apply run_seq
  apply run_region (by decide)
  · simp only [go_sem, r0, r1, r2, r4, epiv]
    rfl
  apply end_seq
  refine run_cutF (fun ex ρ' ms' h2 d2 => ex = .normal ∧ ms' = [] ∧ d2 = [] ∧ ∃ (f' : Nat → E) (p' : Nat) (t' : Int), a ≤ p' ∧ p' < b ∧ SA cel n B el h0 old0 h2 f' ∧ Sw a b f2 f' ∧ PRF n B cap g a b lim wb wp ρ' ∧ ρ' 12 = .int .i64 ((b - a : Nat) : Int) ∧ ρ' 13 = .int .i64 ((p' : Nat) : Int) ∧ ρ' 14 = .int .i64 t') ?_ ?_
  · by_cases ct : t = 2
    · obtain ⟨h4, f4, e, S4, W4⟩ := revF (cap := cap) hl hc (by omega) (show a < b by omega) (by omega) (.func (.func g) #[] #[]) S2
      have w2 : IntKind.i64.wrap ((b : Int) - 1) = ((b - 1 : Nat) : Int) := by rw [wrap64 (by omega) (by omega)]; omega
      have w3 : IntKind.i64.wrap ((p : Int) - (a : Int)) = ((p - a : Nat) : Int) := by rw [wrap64 (by omega) (by omega)]; omega
      have w4 : IntKind.i64.wrap (((b - 1 : Nat) : Int) - ((p - a : Nat) : Int)) = ((b - 1 - (p - a) : Nat) : Int) := by rw [wrap64 (by omega) (by omega)]; omega
      repeat (first | apply Z1 | apply Z2 | apply Z3 | apply Z4 | apply Z5 rfl | apply Z6 | apply Z7 | apply Z8 | apply Z9 | apply ZA | apply ZB | apply ZC | ((first | apply ZD (by decide) | apply ZN (by decide)); (simp (maxSteps := 9999999) only [go_sem, r0, r1, r2, r4, ct, e, w2, w3, w4]; rfl)) | (refine ZE ?_ ?_; · simp only [go_sem]) | (refine ZF ?_ ?_; · simp only [go_sem]))
      exact end_nil ⟨rfl, rfl, rfl, f4, b - 1 - (p - a), 1, by omega, by omega, S4, W4, ⟨by simp only [go_sem, r0], by simp only [go_sem, r1], by simp only [go_sem, r2], by simp only [go_sem, r3], by simp only [go_sem, r4], by simp only [go_sem, r10], by simp only [go_sem, r11]⟩, by simp only [go_sem, r12], by simp only [go_sem, w4], by simp only [go_sem]⟩
    · repeat (first | apply Z1 | apply Z2 | apply Z3 | apply Z4 | apply Z5 rfl | apply Z6 | apply Z7 | apply Z8 | apply Z9 | apply ZA | apply ZB | apply ZC | ((first | apply ZD (by decide) | apply ZN (by decide)); (simp (maxSteps := 9999999) only [go_sem, r0, r1, r2, r4, ct]; rfl)) | (refine ZE ?_ ?_; · simp only [go_sem]) | (refine ZF ?_ ?_; · simp only [go_sem]))
      exact end_nil ⟨rfl, rfl, rfl, f2, p, t, hp1, hp2, S2, .refl, ⟨by simp only [go_sem, r0], by simp only [go_sem, r1], by simp only [go_sem, r2], by simp only [go_sem, r3], by simp only [go_sem, r4], by simp only [go_sem, r10], by simp only [go_sem, r11]⟩, by simp only [go_sem, r12], by simp only [go_sem], by simp only [go_sem]⟩
  rintro ex ρ ms h4 d ⟨rfl, rfl, rfl, f3, p, t, hp1, hp2, S3, W3, ⟨r0, r1, r2, r3, r4, r10, r11⟩, r12, r13, r14⟩
  have D3 := D2.sw W3 ha hb
  have P3 := P2.sw W3
  have W3' := W2'.trans (W3.mono ha hb)
  clear D2 P2 W2' S2 W3 epiv ht
  -- nearly sorted
  apply end_seq
  refine run_cutF (fun ex ρ' ms' h2 d2 => ms' = [] ∧ d2 = [] ∧ ∃ f' : Nat → E, SA cel n B el h0 old0 h2 f' ∧ Sw a b f3 f' ∧ ((ex = .ret ∧ Ord c a b f') ∨ (ex = .normal ∧ PRF n B cap g a b lim wb wp ρ' ∧ ρ' 12 = .int .i64 ((b - a : Nat) : Int) ∧ ρ' 13 = .int .i64 ((p : Nat) : Int)))) ?_ ?_
  · by_cases ct : wb = true ∧ wp = true ∧ t = 1
    · obtain ⟨rfl, rfl, rfl⟩ := ct
      obtain ⟨h5, f5, q, e, S5, W5, O5⟩ := pinF (cap := cap) C hl hc (by omega) (show a < b by omega) (by omega) S3 P3
      cases q with
      | true =>
        repeat (first | apply Z1 | apply Z2 | apply Z3 | apply Z4 | apply Z5 rfl | apply Z6 | apply Z7 | apply Z8 | apply Z9 | apply ZA | apply ZB | apply ZC | ((first | apply ZD (by decide) | apply ZN (by decide)); (simp (maxSteps := 9999999) only [go_sem, r0, r1, r2, r4, r10, r11, r14, e]; rfl)) | (refine ZE ?_ ?_; · simp only [go_sem]) | (refine ZF ?_ ?_; · simp only [go_sem]))
        exact end_nil ⟨rfl, rfl, f5, S5, W5, .inl ⟨rfl, O5 rfl⟩⟩
      | false =>
        repeat (first | apply Z1 | apply Z2 | apply Z3 | apply Z4 | apply Z5 rfl | apply Z6 | apply Z7 | apply Z8 | apply Z9 | apply ZA | apply ZB | apply ZC | ((first | apply ZD (by decide) | apply ZN (by decide)); (simp (maxSteps := 9999999) only [go_sem, r0, r1, r2, r4, r10, r11, r14, e]; rfl)) | (refine ZE ?_ ?_; · simp only [go_sem]) | (refine ZF ?_ ?_; · simp only [go_sem]))
        exact end_nil ⟨rfl, rfl, f5, S5, W5, .inr ⟨rfl, ⟨by simp only [go_sem, r0], by simp only [go_sem, r1], by simp only [go_sem, r2], by simp only [go_sem, r3], by simp only [go_sem, r4], by simp only [go_sem, r10], by simp only [go_sem, r11]⟩, by simp only [go_sem, r12], by simp only [go_sem, r13]⟩⟩
    · have fin : ∀ ρ' : Reg, PRF n B cap g a b lim wb wp ρ' → ρ' 12 = .int .i64 ((b - a : Nat) : Int) → ρ' 13 = .int .i64 ((p : Nat) : Int) → (([] : List Nat) = [] ∧ ([] : List Nat) = [] ∧ ∃ f' : Nat → E, SA cel n B el h0 old0 h4 f' ∧ Sw a b f3 f' ∧ ((Ex.normal = .ret ∧ Ord c a b f') ∨ (Ex.normal = .normal ∧ PRF n B cap g a b lim wb wp ρ' ∧ ρ' 12 = .int .i64 ((b - a : Nat) : Int) ∧ ρ' 13 = .int .i64 ((p : Nat) : Int)))) :=
        fun ρ' a b c => ⟨rfl, rfl, f3, S3, .refl, .inr ⟨rfl, a, b, c⟩⟩
      cases wb with
      | false =>
        repeat (first | apply Z1 | apply Z2 | apply Z3 | apply Z4 | apply Z5 rfl | apply Z6 | apply Z7 | apply Z8 | apply Z9 | apply ZA | apply ZB | apply ZC | ((first | apply ZD (by decide) | apply ZN (by decide)); (simp (maxSteps := 9999999) only [go_sem, r10]; rfl)) | (refine ZE ?_ ?_; · simp only [go_sem]) | (refine ZF ?_ ?_; · simp only [go_sem]))
        exact end_nil (fin _ ⟨by simp only [go_sem, r0], by simp only [go_sem, r1], by simp only [go_sem, r2], by simp only [go_sem, r3], by simp only [go_sem, r4], by simp only [go_sem, r10], by simp only [go_sem, r11]⟩ (by simp only [go_sem, r12]) (by simp only [go_sem, r13]))
      | true =>
        cases wp with
        | false =>
          repeat (first | apply Z1 | apply Z2 | apply Z3 | apply Z4 | apply Z5 rfl | apply Z6 | apply Z7 | apply Z8 | apply Z9 | apply ZA | apply ZB | apply ZC | ((first | apply ZD (by decide) | apply ZN (by decide)); (simp (maxSteps := 9999999) only [go_sem, r10, r11]; rfl)) | (refine ZE ?_ ?_; · simp only [go_sem]) | (refine ZF ?_ ?_; · simp only [go_sem]))
          exact end_nil (fin _ ⟨by simp only [go_sem, r0], by simp only [go_sem, r1], by simp only [go_sem, r2], by simp only [go_sem, r3], by simp only [go_sem, r4], by simp only [go_sem, r10], by simp only [go_sem, r11]⟩ (by simp only [go_sem, r12]) (by simp only [go_sem, r13]))
        | true =>
          have ct' : ¬ t = 1 := fun e => ct ⟨rfl, rfl, e⟩
          repeat (first | apply Z1 | apply Z2 | apply Z3 | apply Z4 | apply Z5 rfl | apply Z6 | apply Z7 | apply Z8 | apply Z9 | apply ZA | apply ZB | apply ZC | ((first | apply ZD (by decide) | apply ZN (by decide)); (simp (maxSteps := 9999999) only [go_sem, r10, r11, r14, ct']; rfl)) | (refine ZE ?_ ?_; · simp only [go_sem]) | (refine ZF ?_ ?_; · simp only [go_sem]))
          exact end_nil (fin _ ⟨by simp only [go_sem, r0], by simp only [go_sem, r1], by simp only [go_sem, r2], by simp only [go_sem, r3], by simp only [go_sem, r4], by simp only [go_sem, r10], by simp only [go_sem, r11]⟩ (by simp only [go_sem, r12]) (by simp only [go_sem, r13]))
  rintro ex ρ ms h5 d ⟨rfl, rfl, f4, S4, W4, ⟨rfl, O4⟩ | ⟨rfl, ⟨r0, r1, r2, r3, r4, r10, r11⟩, r12, r13⟩⟩
  · repeat (first | apply Z1 | apply Z2 | apply Z3 | apply Z4 | apply Z5 rfl | apply Z6 | apply Z7 | apply Z8 | apply Z9 | apply ZA | apply ZB | apply ZC | ((first | apply ZD (by decide) | apply ZN (by decide)); (simp (maxSteps := 9999999) only [go_sem]; rfl)) | (refine ZE ?_ ?_; · simp only [go_sem]) | (refine ZF ?_ ?_; · simp only [go_sem]))
    exact end_nil ⟨rfl, rfl, rfl, f4, S4, W3'.trans (W4.mono ha hb), (D3.sw W4 ha hb).fin O4⟩
  have D4 := D3.sw W4 ha hb
  have P4 := P3.sw W4
  have W4' := W3'.trans (W4.mono ha hb)
  clear D3 P3 W3' S3 W4 r14
  have q1 : (0 : Int) ≤ ((a - 1 : Nat) : Int) := by omega
  have q2 : ((a - 1 : Nat) : Int) < n := by omega
  have q3 : (0 : Int) ≤ (p : Int) := by omega
  have q4 : (p : Int) < n := by omega
  have l1 := S4.load hl (show a - 1 < n by omega)
  have l2 := S4.load hl (show p < n by omega)
  have cc := fun h => C.call (f4 (a - 1)) (f4 p) h
  -- equal elements
  apply end_seq
  refine run_cutF (fun ex ρ' ms' h2 d2 => ms' = [] ∧ d2 = [] ∧ ((ex = .normal ∧ h2 = h5 ∧ PRF n B cap g a b lim wb wp ρ' ∧ ρ' 12 = .int .i64 ((b - a : Nat) : Int) ∧ ρ' 13 = .int .i64 ((p : Nat) : Int)) ∨
      (ex = .exit 1 ∧ 0 < a ∧ ¬ c (f4 (a - 1)) (f4 p) < 0 ∧ ∃ (f' : Nat → E) (m : Nat), SA cel n B el h0 old0 h2 f' ∧ Sw a b f4 f' ∧ a < m ∧ m ≤ b ∧ f' a = f4 p ∧ (∀ q, a < q → q < m → ¬ c (f' a) (f' q) < 0) ∧ (∀ q, m ≤ q → q < b → c (f' a) (f' q) < 0) ∧ PRF n B cap g m b lim wb wp ρ'))) ?_ ?_
  · by_cases z : 0 < a
    · have e1 : (0 : Int) < (a : Int) := by omega
      have wa : IntKind.i64.wrap ((a : Int) - 1) = ((a - 1 : Nat) : Int) := by rw [wrap64 (by omega) (by omega)]; omega
      by_cases hlt : c (f4 (a - 1)) (f4 p) < 0
      · repeat (first | apply Z1 | apply Z2 | apply Z3 | apply Z4 | apply Z5 rfl | apply Z6 | apply Z7 | apply Z8 | apply Z9 | apply ZA | apply ZB | apply ZC | ((first | apply ZD (by decide) | apply ZN (by decide)); (simp (maxSteps := 9999999) only [go_sem, r0, r1, r4, r13, e1, wa, q1, q2, q3, q4, l1, l2, cc, hlt]; rfl)) | (refine ZE ?_ ?_; · simp only [go_sem]) | (refine ZF ?_ ?_; · simp only [go_sem]))
        exact end_nil ⟨rfl, rfl, .inl ⟨rfl, rfl, ⟨by simp only [go_sem, r0], by simp only [go_sem, r1], by simp only [go_sem, r2], by simp only [go_sem, r3], by simp only [go_sem, r4], by simp only [go_sem, r10], by simp only [go_sem, r11]⟩, by simp only [go_sem, r12], by simp only [go_sem, r13]⟩⟩
      · obtain ⟨h6, f6, m, e, S6, W6, m1, m2, m3, m4, m5⟩ := peqF (cap := cap) C hl hc (by omega) hp1 hp2 (by omega) S4
        repeat (first | apply Z1 | apply Z2 | apply Z3 | apply Z4 | apply Z5 rfl | apply Z6 | apply Z7 | apply Z8 | apply Z9 | apply ZA | apply ZB | apply ZC | ((first | apply ZD (by decide) | apply ZN (by decide)); (simp (maxSteps := 9999999) only [go_sem, r0, r1, r2, r4, r13, e1, wa, q1, q2, q3, q4, l1, l2, cc, hlt, e]; rfl)) | (refine ZE ?_ ?_; · simp only [go_sem]) | (refine ZF ?_ ?_; · simp only [go_sem]))
        exact end_nil ⟨rfl, rfl, .inr ⟨rfl, z, hlt, f6, m, S6, W6, m1, m2, m3, m4, m5, ⟨by simp only [go_sem, r0], by simp only [go_sem], by simp only [go_sem, r2], by simp only [go_sem, r3], by simp only [go_sem, r4], by simp only [go_sem, r10], by simp only [go_sem, r11]⟩⟩⟩
    · have e1 : ¬ (0 : Int) < (a : Int) := by omega
      repeat (first | apply Z1 | apply Z2 | apply Z3 | apply Z4 | apply Z5 rfl | apply Z6 | apply Z7 | apply Z8 | apply Z9 | apply ZA | apply ZB | apply ZC | ((first | apply ZD (by decide) | apply ZN (by decide)); (simp (maxSteps := 9999999) only [go_sem, r1, e1]; rfl)) | (refine ZE ?_ ?_; · simp only [go_sem]) | (refine ZF ?_ ?_; · simp only [go_sem]))
      exact end_nil ⟨rfl, rfl, .inl ⟨rfl, rfl, ⟨by simp only [go_sem, r0], by simp only [go_sem, r1], by simp only [go_sem, r2], by simp only [go_sem, r3], by simp only [go_sem, r4], by simp only [go_sem, r10], by simp only [go_sem, r11]⟩, by simp only [go_sem, r12], by simp only [go_sem, r13]⟩⟩
  rintro ex ρ ms h6 d ⟨rfl, rfl, ⟨rfl, rfl, ⟨r0, r1, r2, r3, r4, r10, r11⟩, r12, r13⟩ | ⟨rfl, z, hge, f6, m, S6, W6, m1, m2, m3, m4, m5, PRm⟩⟩
  rotate_left
  · repeat (first | apply Z1 | apply Z2 | apply Z3 | apply Z4 | apply Z5 rfl | apply Z6 | apply Z7 | apply Z8 | apply Z9 | apply ZA | apply ZB | apply ZC | ((first | apply ZD (by decide) | apply ZN (by decide)); (simp (maxSteps := 9999999) only [go_sem]; rfl)) | (refine ZE ?_ ?_; · simp only [go_sem]) | (refine ZF ?_ ?_; · simp only [go_sem]))
    -- all up to m are equal to the least
    have D6 := D4.sw W6 ha hb
    have P6 := P4.sw W6 z
    have ha1 : f6 (a - 1) = f4 (a - 1) := W6.out (by omega)
    have low : ∀ q, a ≤ q → q < m → ¬ c (f6 (a - 1)) (f6 q) < 0 := fun q k1 k2 => by
      have h1 : ¬ c (f6 (a - 1)) (f6 a) < 0 := by rw [ha1, m3]; exact hge
      by_cases e : q = a
      · subst e; exact h1
      · exact C.ntr _ _ _ h1 (m4 q (by omega) k2)
    refine end_nil ⟨b - m, by omega, m, b, lim, wb, wp, f6, rfl, by omega, m2, hb, hlim, S6, W4'.trans (W6.mono ha hb), fun i j i1 i2 i3 i4 => ?_, fun _ j j1 j2 => ?_, PRm, rfl, rfl⟩
    · by_cases e : a ≤ i ∧ j < b
      · exact C.ntr _ _ _ (P6 j (by omega) e.2) (low i e.1 (by omega))
      · exact D6 i j i1 i2 i3 e
    · exact C.ntr _ _ _ (P6 j (by omega) j2) (low (m - 1) (by omega) (by omega))
  -- the partition
  clear cc l1 l2 q1 q2 q3 q4
  obtain ⟨h7, f7, m, q, e, S7, W7, m1, m2, m3, m4⟩ := partF (cap := cap) C hl hc (by omega) hp1 hp2 (by omega) S4
  have D7 := D4.sw W7 ha hb
  have P7 := P4.sw W7
  have W7' := W4'.trans (W7.mono ha hb)
  clear D4 P4 W4' W7 S4
  have v1 : IntKind.i64.wrap ((m : Int) - (a : Int)) = ((m - a : Nat) : Int) := by rw [wrap64 (by omega) (by omega)]; omega
  have v2 : IntKind.i64.wrap ((b : Int) - (m : Int)) = ((b - m : Nat) : Int) := by rw [wrap64 (by omega) (by omega)]; omega
  have v3 : IntKind.i64.wrap (((b - a : Nat) : Int).tdiv 8) = (((b - a) / 8 : Nat) : Int) := by rw [Int.tdiv_eq_ediv_of_nonneg (by omega), wrap64 (by omega) (by omega)]; rfl
  have v4 : IntKind.i64.wrap ((m : Int) + 1) = ((m + 1 : Nat) : Int) := by rw [wrap64 (by omega) (by omega)]; rfl
  by_cases lr : m - a < b - m
  · have e1 : ((m - a : Nat) : Int) < ((b - m : Nat) : Int) := by omega
    obtain ⟨h8, f8, e8, S8, W8, O8⟩ := IH a m lim h7 f7 (by omega) m1 (by omega) hlim S7 (fun z j j1 j2 => P7 z j j1 (by omega))
    have D8 := D7.sw (W8.mono (Nat.le_refl _) (by omega)) ha hb
    have f8m : ∀ q, m ≤ q → f8 q = f7 q := fun q hq => W8.out (by omega)
    have left : ∀ q, a ≤ q → q < m → c (f8 q) (f8 m) < 0 := by
      rw [f8m m (Nat.le_refl _)]
      exact W8.all (P := fun x => c x (f7 m) < 0) m3
    have right : ∀ q, m < q → q < b → ¬ c (f8 q) (f8 m) < 0 := fun q k1 k2 => by
      rw [f8m m (Nat.le_refl _), f8m q (by omega)]; exact m4 q k1 k2
    repeat (first | apply Z1 | apply Z2 | apply Z3 | apply Z4 | apply Z5 rfl | apply Z6 | apply Z7 | apply Z8 | apply Z9 | apply ZA | apply ZB | apply ZC | ((first | apply ZD (by decide) | apply ZN (by decide)); (simp (maxSteps := 9999999) only [go_sem, r0, r1, r2, r3, r4, r10, r11, r12, r13, e, v1, v2, v3, v4, e1, e8]; rfl)) | (refine ZE ?_ ?_; · simp only [go_sem]) | (refine ZF ?_ ?_; · simp only [go_sem]))
    refine end_nil ⟨b - (m + 1), by omega, m + 1, b, lim, decide (((b - a) / 8 : Nat) ≤ ((m - a : Nat))), q, f8, rfl, by omega, by omega, hb, hlim, S8, W7'.trans (W8.mono ha (by omega)), fun i j i1 i2 i3 i4 => ?_, fun _ j j1 j2 => ?_, ⟨by simp only [go_sem, r0], by simp only [go_sem, v4], by simp only [go_sem, r2], by simp only [go_sem, r3], by simp only [go_sem, r4], ?_, by simp only [go_sem]⟩, rfl, rfl⟩
    · by_cases ee : a ≤ i ∧ j < b
      · by_cases k1 : j < m
        · exact O8 i j ee.1 i2 k1
        · by_cases k2 : i < m
          · by_cases k3 : j = m
            · subst k3; exact C.asym _ _ (left i ee.1 k2)
            · exact C.ntr _ _ _ (right j (by omega) ee.2) (C.asym _ _ (left i ee.1 k2))
          · have : i = m := by omega
            subst this
            exact right j i2 ee.2
      · exact D8 i j i1 i2 i3 ee
    · rw [Nat.add_sub_cancel]; exact right j (by omega) j2
    · simp only [go_sem]
      congr 1
      by_cases e9 : (b - a) / 8 ≤ m - a
      · rw [decide_eq_true e9, decide_eq_true (by omega)]
      · rw [decide_eq_false e9, decide_eq_false (by omega)]
  · have e1 : ¬ ((m - a : Nat) : Int) < ((b - m : Nat) : Int) := by omega
    obtain ⟨h8, f8, e8, S8, W8, O8⟩ := IH (m + 1) b lim h7 f7 (by omega) (by omega) (by omega) hlim S7 (fun z j j1 j2 => by rw [Nat.add_sub_cancel]; exact m4 j (by omega) j2)
    have D8 := D7.sw (W8.mono (by omega) (Nat.le_refl _)) ha hb
    have f8m : ∀ q, q ≤ m → f8 q = f7 q := fun q hq => W8.out (by omega)
    have left : ∀ q, a ≤ q → q < m → c (f8 q) (f8 m) < 0 := fun q k1 k2 => by
      rw [f8m m (Nat.le_refl _), f8m q (by omega)]; exact m3 q k1 k2
    have right : ∀ q, m + 1 ≤ q → q < b → ¬ c (f8 q) (f8 m) < 0 := by
      rw [f8m m (Nat.le_refl _)]
      exact W8.all (P := fun x => ¬ c x (f7 m) < 0) (fun q k1 k2 => m4 q (by omega) k2)
    repeat (first | apply Z1 | apply Z2 | apply Z3 | apply Z4 | apply Z5 rfl | apply Z6 | apply Z7 | apply Z8 | apply Z9 | apply ZA | apply ZB | apply ZC | ((first | apply ZD (by decide) | apply ZN (by decide)); (simp (maxSteps := 9999999) only [go_sem, r0, r1, r2, r3, r4, r10, r11, r12, r13, e, v1, v2, v3, v4, e1, e8]; rfl)) | (refine ZE ?_ ?_; · simp only [go_sem]) | (refine ZF ?_ ?_; · simp only [go_sem]))
    refine end_nil ⟨m - a, by omega, a, m, lim, decide (((b - a) / 8 : Nat) ≤ ((b - m : Nat))), q, f8, rfl, ha, m1, by omega, hlim, S8, W7'.trans (W8.mono (by omega) hb), fun i j i1 i2 i3 i4 => ?_, fun z j j1 j2 => ?_, ⟨by simp only [go_sem, r0], by simp only [go_sem, r1], by simp only [go_sem], by simp only [go_sem, r3], by simp only [go_sem, r4], ?_, by simp only [go_sem]⟩, rfl, rfl⟩
    · by_cases ee : a ≤ i ∧ j < b
      · by_cases k1 : m + 1 ≤ i
        · exact O8 i j k1 i2 ee.2
        · by_cases k2 : i < m
          · by_cases k3 : j = m
            · subst k3; exact C.asym _ _ (left i ee.1 k2)
            · exact C.ntr _ _ _ (right j (by omega) ee.2) (C.asym _ _ (left i ee.1 k2))
          · have : i = m := by omega
            subst this
            exact right j i2 ee.2
      · exact D8 i j i1 i2 i3 ee
    · rw [f8m (a - 1) (by omega), f8m j (by omega)]; exact P7 z j j1 (by omega)
    · simp only [go_sem]
      congr 1
      by_cases e9 : (b - a) / 8 ≤ b - m
      · rw [decide_eq_true e9, decide_eq_true (by omega)]
      · rw [decide_eq_false e9, decide_eq_false (by omega)]
end
end Go.Proofs.YtdmfhdnpakgkpaaDoor.Sh

namespace Go.Proofs.YtdmfhdnpakgkpaaDoor.Sh
open Go
set_option maxRecDepth 100000
set_option maxHeartbeats 4000000
section
variable {E : Type} {cel : E → List Value} {c : E → E → Int} {g : FuncId} {n B cap : Nat} {el : TypeId} {h0 : SHeap} {old0 : List Nat}
theorem PdqOKF.mono {L L' : Nat} (h : PdqOKF c cel g n B cap el h0 old0 L) (hl : L' ≤ L) : PdqOKF c cel g n B cap el h0 old0 L' :=
  fun a b lim hh f h1 => h a b lim hh f (by omega)
theorem pdqF (C : Cmp M g cel c) (hl : ∀ x, (cel x).length = 3) (hc : ∀ x, (cel x).all sc = true) (hn : n ≤ 60000) (hlow : ∀ c ∈ old0, c < h0.length) : ∀ L, PdqOKF c cel g n B cap el h0 old0 L
  | 0 => fun a b lim hh f h1 => by omega
  | L + 1 => by
    intro a b lim h f hab1 hab hb hlim S P
    have IH := (pdqF C hl hc hn hlow L).mono (show b - a ≤ L by omega)
    have key : ∃ r, (∃ h' f', r = (Value.tuple #[], h', ([] : List Nat)) ∧ SA cel n B el h0 old0 h' f' ∧ Sw a b f f' ∧ Ord c a b f') ∧ M.call 84 [.slice (some ⟨B, 0, none⟩) n cap, .int .i64 a, .int .i64 b, .int .i64 lim, .func (.func g) #[] #[]] h = some r := by
      refine call_ex (f := 84) _ sf84 rfl rfl rfl ?_
      unfold sf84
      repeat (first | apply Z1 | apply Z2 | apply Z3 | apply Z4 | apply Z5 rfl | apply Z6 | apply Z7 | apply Z8 | apply Z9 | apply ZA | apply ZB | apply ZC | ((first | apply ZD (by decide) | apply ZN (by decide)); (simp (maxSteps := 9999999) only [go_sem, argR]; rfl)) | (refine ZE ?_ ?_; · simp only [go_sem]) | (refine ZF ?_ ?_; · simp only [go_sem]))
      refine run_loop (pdq_loopF (cap := cap) C hl hc hn hlow (a0 := a) (b0 := b) hb IH _ f (b - a) _ _ _ _ ⟨a, b, lim, true, true, f, rfl, Nat.le_refl _, hab, Nat.le_refl _, hlim, S, .refl, fun i j h1 h2 h3 h4 => by omega, P, ⟨by simp only [go_sem, argR], by simp only [go_sem, argR], by simp only [go_sem, argR], by simp only [go_sem, argR], by simp only [go_sem, argR], by simp only [go_sem], by simp only [go_sem]⟩, rfl, rfl⟩) ?_
      rintro ex ρ' ms' h1 d1 ⟨rfl, rfl, rfl, f2, S2, W2, O2⟩
      repeat (first | apply Z1 | apply Z2 | apply Z3 | apply Z4 | apply Z5 rfl | apply Z6 | apply Z7 | apply Z8 | apply Z9 | apply ZA | apply ZB | apply ZC | ((first | apply ZD (by decide) | apply ZN (by decide)); (simp (maxSteps := 9999999) only [go_sem]; rfl)) | (refine ZE ?_ ?_; · simp only [go_sem]) | (refine ZF ?_ ?_; · simp only [go_sem]))
      exact end_nil ⟨_, ⟨h1, f2, rfl, S2, W2, O2⟩, q_free [] rfl rfl rfl rfl (fun _ => rfl) (by rw [List.take_of_length_le]; rw [S2.len, S.len]; exact Nat.le_refl _) rfl⟩
    obtain ⟨r, ⟨h', f', rfl, k⟩, e⟩ := key
    exact ⟨h', f', e, k⟩
theorem sortF (C : Cmp M g cel c) (hl : ∀ x, (cel x).length = 3) (hc : ∀ x, (cel x).all sc = true) (hn : n ≤ 60000) (hlow : ∀ c ∈ old0, c < h0.length) {h : SHeap} {f : Nat → E} (S : SA cel n B el h0 old0 h f) :
    ∃ h' f', M.call 70 [.slice (some ⟨B, 0, none⟩) n cap, .func (.func g) #[] #[]] h = some (.tuple #[], h', []) ∧ SA cel n B el h0 old0 h' f' ∧ Sw 0 n f f' ∧ Ord c 0 n f' := by
  have hlen := lenB_p (n := n) (by omega)
  obtain ⟨h1, f1, e, S1, W1, O1⟩ := pdqF (cap := cap) C hl hc hn hlow (n + 1) 0 n (lenB n) h f (by omega) (Nat.zero_le _) (Nat.le_refl _) (by omega) S (fun h => absurd h (Nat.lt_irrefl 0))
  have ez : ((0 : Nat) : Int) = 0 := rfl
  rw [ez] at e
  have wu : IntKind.u64.wrap (n : Int) = n := wrapU' (by omega) (by omega)
  have c82 := fun h => len82 (n := n) (by omega) h
  refine ⟨h1, f1, ?_, S1, W1, O1⟩
  refine call_run sf70 rfl rfl rfl ?_
  unfold sf70
  repeat (first | apply Z1 | apply Z2 | apply Z3 | apply Z4 | apply Z5 rfl | apply Z6 | apply Z7 | apply Z8 | apply Z9 | apply ZA | apply ZB | apply ZC | ((first | apply ZD (by decide) | apply ZN (by decide)); (simp (maxSteps := 9999999) only [go_sem, argR, wu, c82, e]; rfl)) | (refine ZE ?_ ?_; · simp only [go_sem]) | (refine ZF ?_ ?_; · simp only [go_sem]))
  exact end_nil (q_free [] rfl rfl rfl rfl (fun _ => rfl) (by rw [List.take_of_length_le]; rw [S1.len, S.len]; exact Nat.le_refl _) rfl)
end
end Go.Proofs.YtdmfhdnpakgkpaaDoor.Sh

namespace Go.Proofs.YtdmfhdnpakgkpaaDoor.Sh
open Go
set_option maxRecDepth 100000
set_option maxHeartbeats 4000000
theorem ins0_loopF (cx : Cx) (H : SHeap) : ∀ (k : Nat) ρ ms h' d', (ρ 2 = .int .i64 0 ∧ ρ 8 = .int .i64 1 ∧ ms = [] ∧ h' = H ∧ d' = []) →
    LoopW M cx 6 sf101L1 ρ ms h' d' (fun ex ρ' ms' h' d' => ex = .exit 0 ∧ ms' = [] ∧ h' = H ∧ d' = []) := by
  refine loop_run _ ?_
  rintro k ρ ms h' d' ⟨r2, r8, rfl, rfl, rfl⟩
  unfold sf101L1
  repeat (first | apply Z1 | apply Z2 | apply Z3 | apply Z4 | apply Z5 rfl | apply Z6 | apply Z7 | apply Z8 | apply Z9 | apply ZA | apply ZB | apply ZC | ((first | apply ZD (by decide) | apply ZN (by decide)); (simp (maxSteps := 9999999) only [go_sem, r2, r8]; rfl)) | (refine ZE ?_ ?_; · simp only [go_sem]) | (refine ZF ?_ ?_; · simp only [go_sem]))
  exact end_nil ⟨rfl, rfl, rfl, rfl⟩
theorem ins0F (g : FuncId) (h : SHeap) : M.call 101 [.slice none 0 0, .int .i64 0, .int .i64 0, .func (.func g) #[] #[]] h = some (.tuple #[], h, []) := by
  refine call_run sf101 rfl rfl rfl ?_
  unfold sf101
  repeat (first | apply Z1 | apply Z2 | apply Z3 | apply Z4 | apply Z5 rfl | apply Z6 | apply Z7 | apply Z8 | apply Z9 | apply ZA | apply ZB | apply ZC | ((first | apply ZD (by decide) | apply ZN (by decide)); (simp (maxSteps := 9999999) only [go_sem, argR]; rfl)) | (refine ZE ?_ ?_; · simp only [go_sem]) | (refine ZF ?_ ?_; · simp only [go_sem]))
  refine run_loop (ins0_loopF _ h 0 _ _ _ _ ⟨by simp only [go_sem, argR], by simp only [go_sem, argR], rfl, rfl, rfl⟩) ?_
  rintro ex ρ' ms' h1 d1 ⟨rfl, rfl, rfl, rfl⟩
  repeat (first | apply Z1 | apply Z2 | apply Z3 | apply Z4 | apply Z5 rfl | apply Z6 | apply Z7 | apply Z8 | apply Z9 | apply ZA | apply ZB | apply ZC | ((first | apply ZD (by decide) | apply ZN (by decide)); (simp (maxSteps := 9999999) only [go_sem]; rfl)) | (refine ZE ?_ ?_; · simp only [go_sem]) | (refine ZF ?_ ?_; · simp only [go_sem]))
  exact end_nil (q_free [] rfl rfl rfl rfl (fun _ => rfl) (take_self _) rfl)
theorem pdq0_loopF (cx : Cx) (g : FuncId) (H : SHeap) : ∀ (k : Nat) ρ ms h' d', (ρ 0 = .slice none 0 0 ∧ ρ 1 = .int .i64 0 ∧ ρ 2 = .int .i64 0 ∧ ρ 4 = .func (.func g) #[] #[] ∧ ms = [] ∧ h' = H ∧ d' = []) →
    LoopW M cx 8 sf84L0 ρ ms h' d' (fun ex ρ' ms' h' d' => ex = .ret ∧ ms' = [] ∧ h' = H ∧ d' = []) := by
  refine loop_run _ ?_
  rintro k ρ ms h' d' ⟨r0, r1, r2, r4, rfl, rfl, rfl⟩
  unfold sf84L0
  have c := ins0F g
  have e1 : ((0 : Int) ≤ 12) = True := by decide
  have e2 : (0 : Int) - 0 = 0 := rfl
  have e3 : IntKind.i64.wrap 0 = 0 := rfl
  repeat (first | apply Z1 | apply Z2 | apply Z3 | apply Z4 | apply Z5 rfl | apply Z6 | apply Z7 | apply Z8 | apply Z9 | apply ZA | apply ZB | apply ZC | ((first | apply ZD (by decide) | apply ZN (by decide)); (simp (maxSteps := 9999999) only [go_sem, r0, r1, r2, r4, e1, e2, e3, c]; rfl)) | (refine ZE ?_ ?_; · simp only [go_sem]) | (refine ZF ?_ ?_; · simp only [go_sem]))
  exact end_nil ⟨rfl, rfl, rfl, rfl⟩
theorem pdq0F (g : FuncId) (lim : Int) (h : SHeap) : M.call 84 [.slice none 0 0, .int .i64 0, .int .i64 0, .int .i64 lim, .func (.func g) #[] #[]] h = some (.tuple #[], h, []) := by
  refine call_run sf84 rfl rfl rfl ?_
  unfold sf84
  repeat (first | apply Z1 | apply Z2 | apply Z3 | apply Z4 | apply Z5 rfl | apply Z6 | apply Z7 | apply Z8 | apply Z9 | apply ZA | apply ZB | apply ZC | ((first | apply ZD (by decide) | apply ZN (by decide)); (simp (maxSteps := 9999999) only [go_sem, argR]; rfl)) | (refine ZE ?_ ?_; · simp only [go_sem]) | (refine ZF ?_ ?_; · simp only [go_sem]))
  refine run_loop (pdq0_loopF _ g h 0 _ _ _ _ ⟨by simp only [go_sem, argR], by simp only [go_sem, argR], by simp only [go_sem, argR], by simp only [go_sem, argR], rfl, rfl, rfl⟩) ?_
  rintro ex ρ' ms' h1 d1 ⟨rfl, rfl, rfl, rfl⟩
  repeat (first | apply Z1 | apply Z2 | apply Z3 | apply Z4 | apply Z5 rfl | apply Z6 | apply Z7 | apply Z8 | apply Z9 | apply ZA | apply ZB | apply ZC | ((first | apply ZD (by decide) | apply ZN (by decide)); (simp (maxSteps := 9999999) only [go_sem]; rfl)) | (refine ZE ?_ ?_; · simp only [go_sem]) | (refine ZF ?_ ?_; · simp only [go_sem]))
  exact end_nil (q_free [] rfl rfl rfl rfl (fun _ => rfl) (take_self _) rfl)
theorem sort0F (g : FuncId) (h : SHeap) : M.call 70 [.slice none 0 0, .func (.func g) #[] #[]] h = some (.tuple #[], h, []) := by
  have c82 : ∀ h, M.call 82 [.int .u64 0] h = some (.int .i64 (lenB 0), h, []) := fun h => len82 (n := 0) (by omega) h
  have c := pdq0F g
  refine call_run sf70 rfl rfl rfl ?_
  unfold sf70
  have e3 : IntKind.u64.wrap 0 = 0 := rfl
  have e4 : ((0 : Nat) : Int) = 0 := rfl
  repeat (first | apply Z1 | apply Z2 | apply Z3 | apply Z4 | apply Z5 rfl | apply Z6 | apply Z7 | apply Z8 | apply Z9 | apply ZA | apply ZB | apply ZC | ((first | apply ZD (by decide) | apply ZN (by decide)); (simp (maxSteps := 9999999) only [go_sem, argR, e3, e4, c82, c]; rfl)) | (refine ZE ?_ ?_; · simp only [go_sem]) | (refine ZF ?_ ?_; · simp only [go_sem]))
  exact end_nil (q_free [] rfl rfl rfl rfl (fun _ => rfl) (take_self _) rfl)
end Go.Proofs.YtdmfhdnpakgkpaaDoor.Sh

namespace Go.Proofs.YtdmfhdnpakgkpaaDoor.Sh
open Go
set_option maxRecDepth 100000
set_option maxHeartbeats 4000000
def lookV (q : EqK) (zero : Value) (ok : Bool) (m k : Option Value) (h : SHeap) (d : List Nat) : Option (Value × SHeap × List Nat) :=
  match m, k with
    | some (.map (some r)), some k =>
      if keyS q k then
      match h[r]? with
      | some (.map _ es) => match findS q k es with
        | some (some v) => some (if ok then .tuple #[v, .bool true] else v, h, d)
        | some none => some (if ok then .tuple #[zero, .bool false] else zero, h, d)
        | none => none
      | _ => none
      else none
    | _, _ => none
theorem E_lookup (R : Rec) (cx : Cx) (e : Evl) (sl : Option Nat) (q : EqK) (zero : Value) (ok : Bool) (m k : Operand) (h : SHeap) (d : List Nat) : opE R cx e sl (.lookup q zero ok m k) h d = lookV q zero ok (e m) (e k) h d := (rfl)
attribute [go_sem] E_lookup
theorem find_ent (p : Int × Int) : ∀ S : List (Int × Int), findS (.agg [.int, .int]) (.agg #[.int .i64 p.1, .int .i64 p.2]) (S.map ent) = some (if p ∈ S then some (.bool true) else none)
  | [] => rfl
  | q :: S => by
    show findS _ _ (ent q :: S.map ent) = _
    unfold ent findS
    rw [eqP p q]
    by_cases c : p = q
    · subst c
      rw [decide_eq_true rfl, if_pos (by simp)]
    · rw [decide_eq_false c]
      dsimp only
      have ih := find_ent p S
      unfold ent at ih
      rw [ih]
      by_cases d : p ∈ S
      · rw [if_pos d, if_pos (by simp [d])]
      · rw [if_neg d, if_neg (by simp [c, d])]
theorem look_ent {r : Nat} {p : Int × Int} {S : List (Int × Int)} {h : SHeap} (d : List Nat) (hm : h[r]? = some (.map true (S.map ent))) : lookV (.agg [.int, .int]) (.bool false) false (some (.map (some r))) (some (.agg #[.int .i64 p.1, .int .i64 p.2])) h d = some (.bool (decide (p ∈ S)), h, d) := by
  unfold lookV
  dsimp only
  rw [show keyS (.agg [.int, .int]) (.agg #[.int .i64 p.1, .int .i64 p.2]) = true from rfl, if_pos rfl, hm]
  dsimp only
  rw [find_ent]
  by_cases c : p ∈ S
  · rw [if_pos c, decide_eq_true c]; rfl
  · rw [if_neg c, decide_eq_false c]; rfl
abbrev faP (q : Int × Int) : Fa := (nrm q, q)
structure FS (n : Nat) (H h : SHeap) (z : Int × Int) (l : List (Int × Int)) (S : List (Int × Int)) (v : Value) : Prop where
  le : n + 6 ≤ h.length
  fr : ∀ j, j < n + 2 → h[j]? = H[j]?
  hz : h[n + 2]? = some (bn z)
  hl : h[n + 3]? = some (.cells [v] 79 false 0 [])
  hm : h[n + 4]? = some (.map true (S.map ent))
  hk : h[n + 5]? = some (.cells [.map (some (n + 4))] 70 false 0 [])
  acc : Acc (n + 6) h v ((l.map faP).flatMap celF) l.length 3 84
section
variable {n : Nat} {H h : SHeap} {z q : Int × Int} {l S : List (Int × Int)} {v : Value}
theorem FS.app (F : FS n H h z l S v) (g : SHeap) : FS n H (h ++ g) z l S v := by
  have k : ∀ j, j < h.length → (h ++ g)[j]? = h[j]? := fun j hj => List.getElem?_append_left hj
  have := F.le
  refine ⟨by simp; omega, fun j hj => by rw [k j (by omega)]; exact F.fr j hj, ?_, ?_, ?_, ?_, F.acc.keep (fun b e => k b (F.acc.lt e).2)⟩
  · rw [k _ (by omega)]; exact F.hz
  · rw [k _ (by omega)]; exact F.hl
  · rw [k _ (by omega)]; exact F.hm
  · rw [k _ (by omega)]; exact F.hk
theorem FS.setZ (F : FS n H h z l S v) (z' : Int × Int) : FS n H (h.set (n + 2) (bn z')) z' l S v := by
  have := F.le
  have k : ∀ j, j ≠ n + 2 → (h.set (n + 2) (bn z'))[j]? = h[j]? := fun j hj => List.getElem?_set_ne (by omega)
  refine ⟨by simp; omega, fun j hj => by rw [k j (by omega)]; exact F.fr j hj, ?_, ?_, ?_, ?_, F.acc.keep (fun b e => k b (by have := F.acc.lt e; omega))⟩
  · rw [List.getElem?_set_self (by omega)]
  · rw [k _ (by omega)]; exact F.hl
  · rw [k _ (by omega)]; exact F.hm
  · rw [k _ (by omega)]; exact F.hk
theorem FS.setM (F : FS n H h z l S v) (S' : List (Int × Int)) : FS n H (h.set (n + 4) (.map true (S'.map ent))) z l S' v := by
  have := F.le
  have k : ∀ j, j ≠ n + 4 → (h.set (n + 4) (.map true (S'.map ent)))[j]? = h[j]? := fun j hj => List.getElem?_set_ne (by omega)
  refine ⟨by simp; omega, fun j hj => by rw [k j (by omega)]; exact F.fr j hj, ?_, ?_, ?_, ?_, F.acc.keep (fun b e => k b (by have := F.acc.lt e; omega))⟩
  · rw [k _ (by omega)]; exact F.hz
  · rw [k _ (by omega)]; exact F.hl
  · rw [List.getElem?_set_self (by omega)]
  · rw [k _ (by omega)]; exact F.hk
theorem FS.cut (F : FS n H h z l S v) {B : Nat} (hB : n + 6 ≤ B) (hv : ∀ b, v = .slice (some ⟨b, 0, none⟩) l.length (UNK + 3) → b < B) : FS n H (h.take B) z l S v := by
  have := F.le
  have k : ∀ j, j < B → (h.take B)[j]? = h[j]? := fun j hj => by rw [List.getElem?_take, if_pos hj]
  refine ⟨by simp; omega, fun j hj => by rw [k j (by omega)]; exact F.fr j hj, ?_, ?_, ?_, ?_, F.acc.keep (fun b e => k b (hv b e))⟩
  · rw [k _ (by omega)]; exact F.hz
  · rw [k _ (by omega)]; exact F.hl
  · rw [k _ (by omega)]; exact F.hm
  · rw [k _ (by omega)]; exact F.hk
theorem load_at {b : Nat} {cs : List Value} {el : TypeId} {pf : Bool} {own : Nat} {old : List Nat} {c : Value} (hb : h[b]? = some (.cells (c :: cs) el pf own old)) (hr : readable own = true) (g : SHeap) : loadS (h ++ g) none (.pointer (some ⟨b, 0, none⟩)) = some c := by
  have hlt := (List.getElem?_eq_some_iff.1 hb).1
  rw [load_rdO, List.getElem?_append_left hlt, hb, rdO_cells, if_pos hr]; rfl
theorem load_bn {b : Nat} {p : Int × Int} {el : TypeId} {own : Nat} {old : List Nat} (hb : h[b]? = some (.cells [.int .i64 p.1, .int .i64 p.2] el true own old)) (hr : readable own = true) (g : SHeap) : loadS (h ++ g) (some 2) (.pointer (some ⟨b, 0, none⟩)) = some (.agg #[.int .i64 p.1, .int .i64 p.2]) := by
  have hlt := (List.getElem?_eq_some_iff.1 hb).1
  rw [load_rdON, List.getElem?_append_left hlt, hb, rdON_cells, hr]; rfl
theorem store_at {b base : Nat} {cs vs : List Value} {el : TypeId} {pf : Bool} (hb : h[b]? = some (.cells cs el pf 0 [])) (hlen : vs.length = cs.length) (h0 : 0 < vs.length) (h1 : vs.all oneC = true) (hp : pf = true → vs.all sc = true) (d : List Nat) : ∀ (hw : writeAt cs 0 vs = vs), storeS base h d b 0 vs = some (h.set b (.cells vs el pf 0 []), dirty base b pf d) := by
  intro hw
  rw [store_def, hb]
  dsimp only
  have e1 : ((0 : Nat) == 0) = true := rfl
  have e2 : Nat.ble (0 + vs.length) cs.length = true := by rw [ble_dec]; simp; omega
  have e3 : Nat.blt 0 vs.length = true := by rw [blt_dec]; simpa using h0
  have e4 : (!pf || vs.all sc) = true := by
    cases pf with
    | false => rfl
    | true => rw [hp rfl]; rfl
  rw [e1, e2, e3, e4, h1, hw]
  rfl
theorem FS.push (F : FS n H h z l S v) {bs base : Nat} (hs : h[bs]? = some (.cells [.int .i64 (nrm q), .int .i64 q.1, .int .i64 q.2] 84 true 0 [])) (hlen : l.length ≤ 1000) (hbase : n + 6 ≤ base) :
    ∃ H3 h4 b2, (∀ d, appendS base h d 84 true 3 24 v (.slice (some ⟨bs, 0, none⟩) 1 1) = some (.slice (some ⟨b2, 0, none⟩) (l.length + 1) (UNK + 3), H3, d)) ∧
      (∀ d, storeS base H3 d (n + 3) 0 [.slice (some ⟨b2, 0, none⟩) (l.length + 1) (UNK + 3)] = some (h4, (n + 3) :: d)) ∧
      FS n H h4 z (l ++ [q]) S (.slice (some ⟨b2, 0, none⟩) (l.length + 1) (UNK + 3)) ∧ h.length ≤ h4.length ∧
      (∀ j cs el pf own old, n + 6 ≤ j → h[j]? = some (.cells cs el pf own old) → el ≠ 84 → h4[j]? = h[j]?) := by
  have hle := F.le
  obtain ⟨old', ap, acc2, kp⟩ := acc_append (bytes := 24) F.acc hs rfl rfl (by decide) rfl (by decide) (by omega) hle
  have nb : ∀ j, j < n + 6 → ∀ b, v = .slice (some ⟨b, 0, none⟩) l.length (UNK + 3) → j ≠ b := fun j hj b e => by have := F.acc.lt e; omega
  have hcs : ((l.map faP).flatMap celF) ++ [.int .i64 (nrm q), .int .i64 q.1, .int .i64 q.2] = ((l ++ [q]).map faP).flatMap celF := by
    simp [celF]
  rw [hcs] at ap acc2 kp
  have hH3len : (shv h v ++ [SO.cells (((l ++ [q]).map faP).flatMap celF) 84 true 0 old']).length = h.length + 1 := by simp [shv_len]
  generalize shv h v ++ [SO.cells (((l ++ [q]).map faP).flatMap celF) 84 true 0 old'] = H3 at *
  have hl3 : H3[n + 3]? = some (.cells [v] 79 false 0 []) := by rw [kp _ (by omega) (nb _ (by omega))]; exact F.hl
  refine ⟨H3, H3.set (n + 3) (.cells [.slice (some ⟨h.length, 0, none⟩) (l.length + 1) (UNK + 3)] 79 false 0 []), h.length, fun d => ap base d, fun d => ?_, ?_, by simp; omega, ?_⟩
  · rw [store_at (vs := [.slice (some ⟨h.length, 0, none⟩) (l.length + 1) (UNK + 3)]) hl3 rfl (Nat.zero_lt_succ _) rfl (fun h => by cases h) d rfl]
    have : dirty base (n + 3) false d = (n + 3) :: d := by
      unfold dirty
      have : Nat.ble base (n + 3) = false := by rw [ble_dec]; simp; omega
      rw [this]; rfl
    rw [this]
  · have k : ∀ j, j ≠ n + 3 → (H3.set (n + 3) (.cells [.slice (some ⟨h.length, 0, none⟩) (l.length + 1) (UNK + 3)] 79 false 0 []))[j]? = H3[j]? := fun j hj => List.getElem?_set_ne (by omega)
    have k2 : ∀ j, j < n + 6 → j ≠ n + 3 → (H3.set (n + 3) (.cells [.slice (some ⟨h.length, 0, none⟩) (l.length + 1) (UNK + 3)] 79 false 0 []))[j]? = h[j]? := fun j hj hne => by rw [k j hne, kp j (by omega) (nb j hj)]
    refine ⟨by simp; omega, fun j hj => by rw [k2 j (by omega) (by omega)]; exact F.fr j hj, ?_, ?_, ?_, ?_, ?_⟩
    · rw [k2 _ (by omega) (by omega)]; exact F.hz
    · rw [List.getElem?_set_self (by omega)]
    · rw [k2 _ (by omega) (by omega)]; exact F.hm
    · rw [k2 _ (by omega) (by omega)]; exact F.hk
    · rw [List.length_append]
      exact acc2.keep (fun b e => k b (by have := acc2.lt e; omega))
  · intro j cs el pf own old hj hc hel
    have hjl := (List.getElem?_eq_some_iff.1 hc).1
    rw [List.getElem?_set_ne (by omega), kp j hjl]
    rintro b rfl e
    subst e
    rcases F.acc with ⟨_, e, _⟩ | ⟨b', old', e, h1, _⟩
    · cases e
    · cases e
      rw [hc] at h1
      cases h1
      exact hel rfl
end
end Go.Proofs.YtdmfhdnpakgkpaaDoor.Sh

namespace Go.Proofs.YtdmfhdnpakgkpaaDoor.Sh
open Go
set_option maxRecDepth 100000
set_option maxHeartbeats 4000000
theorem prodL_snoc (N : List (Int × Int)) (q : Int × Int) : prodL (N ++ [q]) = mulP (prodL N) q := by rw [prodL_app, prodL_one]
theorem bd_of_nrm {z : Int × Int} (h : nrm z ≤ 1800000000) : Bd 45000 z := part_bd (by decide) (by omega)
theorem strip_step {q z : Int × Int} (hq : 2 ≤ nrm q) (h0 : z ≠ (0, 0)) (hd : restP z q = (0, 0)) : z = mulP q (quoP z q) ∧ quoP z q ≠ (0, 0) ∧ 2 * nrm (quoP z q) ≤ nrm z := by
  have e := quo_rest z q
  rw [hd] at e
  have e1 : z = mulP q (quoP z q) := by
    rw [mul_comm']
    have : ∀ a : Int × Int, addP a (0, 0) = a := fun a => by unfold addP; refine Prod.ext ?_ ?_ <;> dsimp only <;> omega
    rw [this] at e; exact e
  have e2 : quoP z q ≠ (0, 0) := fun c => h0 (by rw [e1, c, mul_zero'])
  refine ⟨e1, e2, ?_⟩
  have e3 : nrm z = nrm q * nrm (quoP z q) := by rw [← nrm_mul, ← e1]
  have e4 := Int.mul_le_mul_of_nonneg_right hq (nrm_nonneg (quoP z q))
  omega
structure SI0 (n B : Nat) (H h : SHeap) (q z0 z : Int × Int) (l0 l S : List (Int × Int)) (v0 v : Value) (d : List Nat) (pb LB : Nat) (L : List (Int × Int)) : Prop where
  fs : FS n H h z l S v
  new : ∃ N, l = l0 ++ N ∧ z0 = mulP (prodL N) z ∧ ∀ x ∈ N, x = q
  pq : h[pb]? = some (bn q)
  ls : h[LB]? = some (.cells (prs L) 68 true 0 [])
  nz : z ≠ (0, 0)
  wt : ((2 ^ l.length : Nat) : Int) * nrm z ≤ 1800000000
  dv : d = [] → v = v0
  dd : ∀ x ∈ d, x = n + 3
  len : B ≤ h.length
theorem SI0.small {n B : Nat} {H h : SHeap} {q z0 z : Int × Int} {l0 l S : List (Int × Int)} {v0 v : Value} {d : List Nat} {pb LB : Nat} {L : List (Int × Int)} (I : SI0 n B H h q z0 z l0 l S v0 v d pb LB L) : nrm z ≤ 1800000000 ∧ l.length ≤ 1000 := by
  have h1 := nrm_pos I.nz
  have h2 : 1 ≤ 2 ^ l.length := Nat.one_le_two_pow
  have h3 := I.wt
  have h4 := Int.mul_le_mul_of_nonneg_right (show (1 : Int) ≤ ((2 ^ l.length : Nat) : Int) by omega) (show 0 ≤ nrm z by omega)
  have h5 := Int.mul_le_mul_of_nonneg_left h1 (show (0 : Int) ≤ ((2 ^ l.length : Nat) : Int) by omega)
  refine ⟨by omega, ?_⟩
  have h6 : l.length < 2 ^ l.length := Nat.lt_two_pow_self
  by_cases c : l.length ≤ 1000
  · exact c
  · exfalso
    have : 2 ^ 31 ≤ 2 ^ l.length := Nat.pow_le_pow_right (by decide) (by omega)
    omega
theorem strip_loop (cx : Cx) {n B : Nat} {H : SHeap} {q z0 : Int × Int} {l0 S : List (Int × Int)} {v0 : Value} {pb LB : Nat} {L : List (Int × Int)} (hq : 2 ≤ nrm q) (hqb : Bd 45000 q) (hB : n + 6 ≤ B) (hcx : cx.base = B) (hpb : n + 6 ≤ pb) (hLB : n + 6 ≤ LB) (a1 a8 a9 a10 : Value) :
    ∀ k ρ ms h' d', (∃ (z : Int × Int) (l : List (Int × Int)) (v : Value), (nrm z).toNat = k ∧ SI0 n B H h' q z0 z l0 l S v0 v d' pb LB L ∧ ρ 1 = a1 ∧ ρ 2 = .pointer (some ⟨n + 2, 0, none⟩) ∧ ρ 3 = .pointer (some ⟨n + 3, 0, none⟩) ∧ ρ 6 = .pointer (some ⟨pb, 0, none⟩) ∧ ρ 8 = a8 ∧ ρ 9 = a9 ∧ ρ 10 = a10 ∧ ms = []) →
    LoopW M cx 6 sf67L0 ρ ms h' d' (fun ex ρ' ms' h' d' => ex = .exit 2 ∧ ms' = [] ∧ ∃ (z : Int × Int) (l : List (Int × Int)) (v : Value), SI0 n B H h' q z0 z l0 l S v0 v d' pb LB L ∧ ¬ dv q z ∧ ρ' 1 = a1 ∧ ρ' 2 = .pointer (some ⟨n + 2, 0, none⟩) ∧ ρ' 3 = .pointer (some ⟨n + 3, 0, none⟩) ∧ ρ' 8 = a8 ∧ ρ' 9 = a9 ∧ ρ' 10 = a10) := by
  refine loop_run _ ?_
  rintro k ρ ms h' d' ⟨z, l, v, hk, I, r1, r2, r3, r6, r8, r9, r10, rfl⟩
  unfold sf67L0
  have hq0 : q ≠ (0, 0) := fun e => by rw [e, nrm_0] at hq; omega
  obtain ⟨hzn, hll⟩ := I.small
  have hzb := bd_of_nrm hzn
  have F := I.fs
  have lz : loadS h' (some 2) (.pointer (some ⟨n + 2, 0, none⟩)) = some (.agg #[.int .i64 z.1, .int .i64 z.2]) := by have := load_bn F.hz rfl []; rwa [List.append_nil] at this
  have lq : loadS h' (some 2) (.pointer (some ⟨pb, 0, none⟩)) = some (.agg #[.int .i64 q.1, .int .i64 q.2]) := by have := load_bn I.pq rfl []; rwa [List.append_nil] at this
  have c69 := fun h => divides69 hqb hzb (by decide) (by decide) (by decide) h
  have hdP : divP q z = decide (restP z q = (0, 0)) := by unfold divP; rw [if_neg hq0]
  by_cases c : restP z q = (0, 0)
  · rw [hdP, decide_eq_true c] at c69
    obtain ⟨e1, e2, e3⟩ := strip_step hq I.nz c
    have c60 := fun h => quo60 hzb hqb (by decide) (by decide) (by decide) hq0 h
    have c59 := fun h => norm59 hqb (by decide) h
    have st : storeS cx.base h' d' (n + 2) 0 (cellsL (.agg #[.int .i64 (quoP z q).1, .int .i64 (quoP z q).2])) = some (h'.set (n + 2) (bn (quoP z q)), d') := store_at (base := cx.base) (vs := [.int .i64 (quoP z q).1, .int .i64 (quoP z q).2]) F.hz rfl (Nat.zero_lt_succ _) rfl (fun _ => rfl) d' rfl
    have F2 := F.setZ (quoP z q)
    have hlen2 : (h'.set (n + 2) (bn (quoP z q))).length = h'.length := by simp
    have hpq2 : (h'.set (n + 2) (bn (quoP z q)))[pb]? = some (bn q) := by rw [List.getElem?_set_ne (by omega)]; exact I.pq
    have hls2 : (h'.set (n + 2) (bn (quoP z q)))[LB]? = some (.cells (prs L) 68 true 0 []) := by rw [List.getElem?_set_ne (by omega)]; exact I.ls
    generalize quoP z q = z' at *
    generalize h'.set (n + 2) (bn z') = h2 at *
    have lq2 := fun g => load_bn hpq2 rfl g
    have ll2 : ∀ g, loadS (h2 ++ g) none (.pointer (some ⟨n + 3, 0, none⟩)) = some v := fun g => load_at F2.hl rfl g
    have F3 := F2.app [.cells [.int .i64 (nrm q), .int .i64 q.1, .int .i64 q.2] 84 true 0 []]
    obtain ⟨H3, h4, b2, ap, st2, F4, hlen4, kp⟩ := F3.push (q := q) (bs := h2.length) (base := cx.base) (by rw [app_get0]; rfl) hll (by omega)
    obtain ⟨va, vc, hv⟩ : ∃ a c, v = .slice a l.length c := by
      rcases F.acc with ⟨e, e', _⟩ | ⟨b, old, e', _⟩
      · rw [List.length_eq_zero_iff.1 e]; exact ⟨_, _, e'⟩
      · exact ⟨_, _, e'⟩
    have st2' : ∀ d, storeS cx.base H3 d (n + 3) 0 (cellsL (.slice (some ⟨b2, 0, none⟩) (l.length + 1) (UNK + 3))) = some (h4, (n + 3) :: d) := st2
    subst hv
    repeat (first | apply Z1 | apply Z2 | apply Z3 | apply Z4 | apply Z5 rfl | apply Z6 | apply Z7 | apply Z8 | apply Z9 | apply ZA | apply ZB | apply ZC | ((first | apply ZD (by decide) | apply ZN (by decide)); (simp (maxSteps := 9999999) only [go_sem, r2, r3, r6, lz, lq, c69, c60, ↓st, lq2, ll2, c59, ap, ↓st2']; rfl)) | (refine ZE ?_ ?_; · simp only [go_sem]) | (refine ZF ?_ ?_; · simp only [go_sem]))
    obtain ⟨N, hN1, hN2, hN3⟩ := I.new
    have hpz : (nrm z').toNat < k := by
      have := nrm_nonneg z'
      have := nrm_pos e2
      omega
    have hpre3 : ∀ j cs el pf own old, n + 6 ≤ j → h2[j]? = some (.cells cs el pf own old) → el ≠ 84 → h4[j]? = h2[j]? := fun j cs el pf own old hj hc hel => by
      have hjl := (List.getElem?_eq_some_iff.1 hc).1
      have e1 : (h2 ++ [SO.cells [.int .i64 (nrm q), .int .i64 q.1, .int .i64 q.2] 84 true 0 []])[j]? = h2[j]? := List.getElem?_append_left hjl
      rw [kp j cs el pf own old hj (by rw [e1]; exact hc) hel, e1]
    have I2 : SI0 n B H h4 q z0 z' l0 (l ++ [q]) S v0 (.slice (some ⟨b2, 0, none⟩) (l.length + 1) (UNK + 3)) ((n + 3) :: d') pb LB L := by
      refine ⟨F4, ⟨N ++ [q], by rw [hN1, List.append_assoc], by rw [hN2, e1, prodL_snoc, mul_assoc'], fun x hx => ?_⟩, ?_, ?_, e2, ?_, fun h => (by cases h), fun x hx => ?_, ?_⟩
      · rcases List.mem_append.1 hx with hx | hx
        · exact hN3 x hx
        · exact List.mem_singleton.1 hx
      · rw [hpre3 pb _ _ _ _ _ hpb hpq2 (by decide)]; exact hpq2
      · rw [hpre3 LB _ _ _ _ _ hLB hls2 (by decide)]; exact hls2
      · have hw := I.wt
        rw [List.length_append, List.length_singleton, Nat.pow_succ]
        have h1 : (0 : Int) ≤ ((2 ^ l.length : Nat) : Int) := Int.natCast_nonneg _
        have h2 := Int.mul_le_mul_of_nonneg_left e3 h1
        have h3 : ((2 ^ l.length * 2 : Nat) : Int) * nrm z' = ((2 ^ l.length : Nat) : Int) * (2 * nrm z') := by
          rw [Int.natCast_mul]; grind
        rw [h3]; omega
      · rcases List.mem_cons.1 hx with rfl | hx
        · rfl
        · exact I.dd x hx
      · have := I.len
        rw [List.length_append] at hlen4
        omega
    exact end_nil ⟨_, hpz, z', _, _, rfl, I2, by simp only [go_sem, r1], by simp only [go_sem, r2], by simp only [go_sem, r3], by simp only [go_sem, r6], by simp only [go_sem, r8], by simp only [go_sem, r9], by simp only [go_sem, r10], rfl⟩
  · rw [hdP, decide_eq_false c] at c69
    repeat (first | apply Z1 | apply Z2 | apply Z3 | apply Z4 | apply Z5 rfl | apply Z6 | apply Z7 | apply Z8 | apply Z9 | apply ZA | apply ZB | apply ZC | ((first | apply ZD (by decide) | apply ZN (by decide)); (simp (maxSteps := 9999999) only [go_sem, r2, r3, r6, lz, lq, c69]; rfl)) | (refine ZE ?_ ?_; · simp only [go_sem]) | (refine ZF ?_ ?_; · simp only [go_sem]))
    have hnd : ¬ dv q z := fun hd => c (rest_exact hq0 hd)
    exact end_nil ⟨rfl, rfl, z, l, v, I, hnd, by simp only [go_sem, r1], by simp only [go_sem, r2], by simp only [go_sem, r3], by simp only [go_sem, r8], by simp only [go_sem, r9], by simp only [go_sem, r10]⟩
end Go.Proofs.YtdmfhdnpakgkpaaDoor.Sh

namespace Go.Proofs.YtdmfhdnpakgkpaaDoor.Sh
open Go
set_option maxRecDepth 100000
set_option maxHeartbeats 4000000
structure TK (p : Nat) (z0 : Int × Int) (l0 S0 : List (Int × Int)) (z : Int × Int) (l S : List (Int × Int)) : Prop where
  new : ∃ N, l = l0 ++ N ∧ z0 = mulP (prodL N) z ∧ ∀ x ∈ N, x ∈ overP p
  nz : z ≠ (0, 0)
  wt : ((2 ^ l.length : Nat) : Int) * nrm z ≤ 1800000000
  kn : ∀ x ∈ S, ¬ dv x z
  old : ∀ x ∈ S0, x ∈ S
structure SI1 (n B : Nat) (H h : SHeap) (p i : Nat) (z0 z : Int × Int) (l0 l S0 S : List (Int × Int)) (v0 v : Value) (d : List Nat) : Prop where
  fs : FS n H h z l S v
  tk : TK p z0 l0 S0 z l S
  ls : h[B]? = some (.cells (prs (overP p)) 68 true 0 [])
  done : ∀ x ∈ (overP p).take i, x ∈ S
  dv : d = [] → v = v0
  dd : ∀ x ∈ d, x = n + 3
theorem TK.small {p : Nat} {z0 z : Int × Int} {l0 l S0 S : List (Int × Int)} (I : TK p z0 l0 S0 z l S) : nrm z ≤ 1800000000 := by
  have h1 := nrm_pos I.nz
  have h2 : 1 ≤ 2 ^ l.length := Nat.one_le_two_pow
  have h3 := I.wt
  have h4 := Int.mul_le_mul_of_nonneg_right (show (1 : Int) ≤ ((2 ^ l.length : Nat) : Int) by omega) (show 0 ≤ nrm z by omega)
  omega
theorem take_loop (cx : Cx) {n B : Nat} {H : SHeap} {p : Nat} {z0 : Int × Int} {l0 S0 : List (Int × Int)} {v0 : Value} {c : Nat} (hp : primeN p = true) (hbd : ∀ x ∈ overP p, Bd 45000 x) (hlen : (overP p).length ≤ 10000000000) (hB : n + 6 ≤ B) (hcx : cx.base = B) :
    ∀ k ρ ms h' d', (∃ (i : Nat) (z : Int × Int) (l S : List (Int × Int)) (v : Value), i + k = (overP p).length ∧ SI1 n B H h' p i z0 z l0 l S0 S v0 v d' ∧ ρ 1 = .pointer (some ⟨n + 5, 0, none⟩) ∧ ρ 2 = .pointer (some ⟨n + 2, 0, none⟩) ∧ ρ 3 = .pointer (some ⟨n + 3, 0, none⟩) ∧ ρ 8 = .slice (some ⟨B, 0, none⟩) (overP p).length c ∧ ρ 9 = .int .i64 (overP p).length ∧ ρ 10 = .int .i64 i ∧ ms = []) →
    LoopW M cx 6 sf67L1 ρ ms h' d' (fun ex ρ' ms' h' d' => ex = .exit 0 ∧ ms' = [] ∧ ∃ (z : Int × Int) (l S : List (Int × Int)) (v : Value), SI1 n B H h' p (overP p).length z0 z l0 l S0 S v0 v d') := by
  refine loop_run _ ?_
  rintro k ρ ms h' d' ⟨i, z, l, S, v, hk, I, r1, r2, r3, r8, r9, r10, rfl⟩
  unfold sf67L1
  by_cases c0 : k = 0
  · have e1 : ¬ ((i : Int) < (overP p).length) := by omega
    repeat (first | apply Z1 | apply Z2 | apply Z3 | apply Z4 | apply Z5 rfl | apply Z6 | apply Z7 | apply Z8 | apply Z9 | apply ZA | apply ZB | apply ZC | ((first | apply ZD (by decide) | apply ZN (by decide)); (simp (maxSteps := 9999999) only [go_sem, r9, r10, e1]; rfl)) | (refine ZE ?_ ?_; · simp only [go_sem]) | (refine ZF ?_ ?_; · simp only [go_sem]))
    have : i = (overP p).length := by omega
    rw [this] at I
    exact end_nil ⟨rfl, rfl, z, l, S, v, I⟩
  · have e1 : ((i : Int) < (overP p).length) := by omega
    have hil : i < (overP p).length := by omega
    have ew : IntKind.i64.wrap ((i : Int) + 1) = ((i + 1 : Nat) : Int) := by rw [wrap64 (by omega) (by omega)]; rfl
    have e2 : (0 : Int) ≤ i := by omega
    have F := I.fs
    have hP : Prs h' B 0 (overP p) := Prs.mk0 (el := 68) I.ls rfl
    have lp : loadS h' (some 2) (.pointer (some ⟨B, i * 2, none⟩)) = some (.agg #[.int .i64 (overP p)[i].1, .int .i64 (overP p)[i].2]) := by have := hP.loadN hil; rw [Nat.zero_add] at this; exact this
    have hmem : (overP p)[i] ∈ overP p := List.getElem_mem hil
    have htk : (overP p).take (i + 1) = (overP p).take i ++ [(overP p)[i]] := by rw [List.take_add_one, List.getElem?_eq_getElem hil]; rfl
    have hqb := hbd _ hmem
    obtain ⟨qF, qP, _⟩ := over_prime hp hmem
    have hq2 := (prime_ne qP).1
    generalize (overP p)[i] = q at *
    have F1 := F.app [bn q]
    have lm : ∀ g, loadS (h' ++ g) none (.pointer (some ⟨n + 5, 0, none⟩)) = some (.map (some (n + 4))) := fun g => load_at F.hk rfl g
    have look := look_ent (p := q) d' F1.hm
    by_cases cq : q ∈ S
    · rw [decide_eq_true cq] at look
      repeat (first | apply Z1 | apply Z2 | apply Z3 | apply Z4 | apply Z5 rfl | apply Z6 | apply Z7 | apply Z8 | apply Z9 | apply ZA | apply ZB | apply ZC | ((first | apply ZD (by decide) | apply ZN (by decide)); (simp (maxSteps := 9999999) only [go_sem, r1, r8, r9, r10, e1, e2, lp, lm, look, ew, Int.toNat_natCast]; rfl)) | (refine ZE ?_ ?_; · simp only [go_sem]) | (refine ZF ?_ ?_; · simp only [go_sem]))
      refine end_nil ⟨k - 1, by omega, i + 1, z, l, S, v, by omega, ⟨F1, I.tk, ?_, ?_, I.dv, I.dd⟩, by simp only [go_sem, r1], by simp only [go_sem, r2], by simp only [go_sem, r3], by simp only [go_sem, r8], by simp only [go_sem, r9], by simp only [go_sem, ew], rfl⟩
      · rw [List.getElem?_append_left (List.getElem?_eq_some_iff.1 I.ls).1]; exact I.ls
      · intro x hx
        rw [htk] at hx
        rcases List.mem_append.1 hx with hx | hx
        · exact I.done x hx
        · rw [List.mem_singleton.1 hx]; exact cq
    · rw [decide_eq_false cq] at look
      have up := updV_ok cx (q := .agg [.int, .int]) (r := n + 4) (k := .agg #[.int .i64 q.1, .int .i64 q.2]) (v := .bool true) (es := S.map ent) (h := h' ++ [bn q]) d' rfl F1.hm rfl (upd_ins q S)
      have F2 := F1.setM (addE S q)
      have hBl := (List.getElem?_eq_some_iff.1 I.ls).1
      have hle := F.le
      have hls : ((h' ++ [bn q]).set (n + 4) (.map true ((addE S q).map ent)))[B]? = some (.cells (prs (overP p)) 68 true 0 []) := by
        rw [List.getElem?_set_ne (by omega), List.getElem?_append_left hBl]; exact I.ls
      have hpq : ((h' ++ [bn q]).set (n + 4) (.map true ((addE S q).map ent)))[h'.length]? = some (bn q) := by
        rw [List.getElem?_set_ne (by omega), app_get0]; rfl
      have hl2 : ((h' ++ [bn q]).set (n + 4) (.map true ((addE S q).map ent))).length = h'.length + 1 := by simp
      repeat (first | apply Z1 | apply Z2 | apply Z3 | apply Z4 | apply Z5 rfl | apply Z6 | apply Z7 | apply Z8 | apply Z9 | apply ZA | apply ZB | apply ZC | ((first | apply ZD (by decide) | apply ZN (by decide)); (simp (maxSteps := 9999999) only [go_sem, r1, r8, r9, r10, e1, e2, lp, lm, look, up, Int.toNat_natCast]; rfl)) | (refine ZE ?_ ?_; · simp only [go_sem]) | (refine ZF ?_ ?_; · simp only [go_sem]))
      generalize (h' ++ [bn q]).set (n + 4) (.map true ((addE S q).map ent)) = h2 at *
      have I0 : SI0 n B H h2 q z z l l (addE S q) v0 v d' h'.length B (overP p) :=
        ⟨F2, ⟨[], by simp, (one_mul z).symm, fun x hx => by cases hx⟩, hpq, hls, I.tk.nz, I.tk.wt, I.dv, I.dd, by omega⟩
      refine run_loop (strip_loop cx (z0 := z) (l0 := l) (S := addE S q) (v0 := v0) (L := overP p) hq2 hqb hB hcx (pb := h'.length) (LB := B) (by omega) hB (.pointer (some ⟨n + 5, 0, none⟩)) (.slice (some ⟨B, 0, none⟩) (overP p).length c) (.int .i64 (overP p).length) (.int .i64 i) _ _ _ _ _ ⟨z, l, v, rfl, I0, by simp only [go_sem, r1], by simp only [go_sem, r2], by simp only [go_sem, r3], by simp only [go_sem], by simp only [go_sem, r8], by simp only [go_sem, r9], by simp only [go_sem, r10], rfl⟩) ?_
      rintro ex ρ' ms' h3 d3 ⟨rfl, rfl, z3, l3, v3, I3, hnd, k1, k2, k3, k8, k9, k10⟩
      repeat (first | apply Z1 | apply Z2 | apply Z3 | apply Z4 | apply Z5 rfl | apply Z6 | apply Z7 | apply Z8 | apply Z9 | apply ZA | apply ZB | apply ZC | ((first | apply ZD (by decide) | apply ZN (by decide)); (simp (maxSteps := 9999999) only [go_sem, k10, ew]; rfl)) | (refine ZE ?_ ?_; · simp only [go_sem]) | (refine ZF ?_ ?_; · simp only [go_sem]))
      refine end_nil ⟨k - 1, by omega, i + 1, z3, l3, addE S q, v3, by omega, ⟨I3.fs, ?_, I3.ls, ?_, I3.dv, I3.dd⟩, by simp only [go_sem, k1], by simp only [go_sem, k2], by simp only [go_sem, k3], by simp only [go_sem, k8], by simp only [go_sem, k9], by simp only [go_sem, ew], rfl⟩
      · obtain ⟨N, n1, n2, n3⟩ := I.tk.new
        obtain ⟨N', m1, m2, m3⟩ := I3.new
        refine ⟨⟨N ++ N', by rw [m1, n1, List.append_assoc], by rw [n2, m2, prodL_app, mul_assoc'], fun x hx => ?_⟩, I3.nz, I3.wt, fun x hx hd => ?_, fun x hx => addE_mem.2 (.inl (I.tk.old x hx))⟩
        · rcases List.mem_append.1 hx with hx | hx
          · exact n3 x hx
          · rw [m3 x hx]; exact hmem
        · rcases addE_mem.1 hx with hx | rfl
          · exact I.tk.kn x hx (by rw [m2]; exact dv_mul hd _)
          · exact hnd hd
      · intro x hx
        rw [htk] at hx
        rcases List.mem_append.1 hx with hx | hx
        · exact addE_mem.2 (.inl (I.done x hx))
        · rw [List.mem_singleton.1 hx]; exact addE_mem.2 (.inr rfl)
theorem take67 {n : Nat} {H h : SHeap} {p : Nat} {z : Int × Int} {l S : List (Int × Int)} {v : Value} (hp : primeN p = true) (hpn : p ≤ 2000000000) (hbd : ∀ x ∈ overP p, Bd 45000 x) (F : FS n H h z l S v) (hz : z ≠ (0, 0)) (hw : ((2 ^ l.length : Nat) : Int) * nrm z ≤ 1800000000) (hk : ∀ x ∈ S, ¬ dv x z) :
    ∃ h2 d2 z2 l2 S2 v2, M.call 67 [.int .i64 p, .pointer (some ⟨n + 5, 0, none⟩), .pointer (some ⟨n + 2, 0, none⟩), .pointer (some ⟨n + 3, 0, none⟩)] h = some (.tuple #[], h2, d2) ∧ FS n H h2 z2 l2 S2 v2 ∧ (∀ x ∈ d2, x = n + 3) ∧ TK p z l S z2 l2 S2 ∧ ∀ x ∈ overP p, x ∈ S2 := by
  have key : ∃ r, (∃ h2 d2 z2 l2 S2 v2, r = (Value.tuple #[], h2, d2) ∧ FS n H h2 z2 l2 S2 v2 ∧ (∀ x ∈ d2, x = n + 3) ∧ TK p z l S z2 l2 S2 ∧ ∀ x ∈ overP p, x ∈ S2) ∧ M.call 67 [.int .i64 p, .pointer (some ⟨n + 5, 0, none⟩), .pointer (some ⟨n + 2, 0, none⟩), .pointer (some ⟨n + 3, 0, none⟩)] h = some r := by
    obtain ⟨c, c68⟩ := over68 hp hpn h
    have hle := F.le
    have hlen : (overP p).length ≤ 10000000000 := by
      have h1 : (overP p).length ≤ 2 * (sqs p).length + 1 := by
        unfold overP
        split
        · simp
        · split
          · simp
          · have := bothO_len (sqs p)
            unfold bothO at this
            omega
      have h2 := sqL_len p (topA p)
      have h3 : topA p ≤ p + 2 := by
        unfold topA
        cases hf : (List.range (p + 2)).find? (fun a => decide (p < 2 * a * a)) with
        | none => simp
        | some x =>
          rw [List.find?_range_eq_some] at hf
          have := hf.2.1
          simp at this ⊢; omega
      unfold sqs at h1; omega
    refine call_ex (f := 67) _ sf67 rfl rfl rfl ?_
    unfold sf67
    repeat (first | apply Z1 | apply Z2 | apply Z3 | apply Z4 | apply Z5 rfl | apply Z6 | apply Z7 | apply Z8 | apply Z9 | apply ZA | apply ZB | apply ZC | ((first | apply ZD (by decide) | apply ZN (by decide)); (simp (maxSteps := 9999999) only [go_sem, argR, c68]; rfl)) | (refine ZE ?_ ?_; · simp only [go_sem]) | (refine ZF ?_ ?_; · simp only [go_sem]))
    have I1 : SI1 n h.length H (h ++ [.cells (prs (overP p)) 68 true 0 []]) p 0 z z l l S S v v [] :=
      ⟨F.app _, ⟨⟨[], by simp, (one_mul z).symm, fun x hx => by cases hx⟩, hz, hw, hk, fun x hx => hx⟩, by rw [app_get0]; rfl, fun x hx => by simp at hx, fun _ => rfl, fun x hx => by cases hx⟩
    refine run_loop (take_loop _ (c := c) hp hbd hlen hle rfl (overP p).length _ _ _ _ ⟨0, z, l, S, v, by omega, I1, by simp only [go_sem, argR], by simp only [go_sem, argR], by simp only [go_sem, argR], by simp only [go_sem], by simp only [go_sem], by simp only [go_sem], rfl⟩) ?_
    rintro ex ρ' ms' h1 d1 ⟨rfl, rfl, z2, l2, S2, v2, I2⟩
    repeat (first | apply Z1 | apply Z2 | apply Z3 | apply Z4 | apply Z5 rfl | apply Z6 | apply Z7 | apply Z8 | apply Z9 | apply ZA | apply ZB | apply ZC | ((first | apply ZD (by decide) | apply ZN (by decide)); (simp (maxSteps := 9999999) only [go_sem]; rfl)) | (refine ZE ?_ ?_; · simp only [go_sem]) | (refine ZF ?_ ?_; · simp only [go_sem]))
    refine end_nil ?_
    have hall : ∀ x ∈ overP p, x ∈ S2 := fun x hx => I2.done x (by rw [List.take_of_length_le (Nat.le_refl _)]; exact hx)
    by_cases cd : d1 = []
    · subst cd
      have ev := I2.dv rfl
      refine ⟨(.tuple #[], h1.take h.length, []), ⟨_, _, z2, l2, S2, v2, rfl, I2.fs.cut hle (fun b e => ?_), (fun x hx => nomatch hx), I2.tk, hall⟩, q_free [] rfl rfl rfl rfl (fun _ => rfl) rfl rfl⟩
      rw [ev] at e
      rcases F.acc with ⟨e1, e2, _⟩ | ⟨b', old, e2, h3, _⟩
      · rw [e2] at e; cases e
      · rw [e2] at e
        have e3 : b' = b := by simp at e; exact e.1
        rw [← e3]
        exact (List.getElem?_eq_some_iff.1 h3).1
    · refine ⟨(.tuple #[], h1, d1), ⟨_, _, z2, l2, S2, v2, rfl, I2.fs, I2.dd, I2.tk, hall⟩, rfl, ?_⟩
      cases d1 with
      | nil => exact (cd rfl).elim
      | cons a t => exact rfl
  obtain ⟨r, ⟨h2, d2, z2, l2, S2, v2, rfl, k⟩, e⟩ := key
  exact ⟨h2, d2, z2, l2, S2, v2, e, k⟩
end Go.Proofs.YtdmfhdnpakgkpaaDoor.Sh

namespace Go.Proofs.YtdmfhdnpakgkpaaDoor.Sh
open Go
set_option maxRecDepth 100000
set_option maxHeartbeats 4000000
abbrev nN (z : Int × Int) : Nat := (nrm z).toNat
theorem nN_mul (a b : Int × Int) : nN (mulP a b) = nN a * nN b := by
  have h1 := nat_nrm a
  have h2 := nat_nrm b
  have h3 := nat_nrm (mulP a b)
  have h4 := nrm_mul a b
  have : ((nN (mulP a b) : Nat) : Int) = ((nN a * nN b : Nat) : Int) := by rw [Int.natCast_mul]; show ((nrm (mulP a b)).toNat : Int) = ((nrm a).toNat : Int) * ((nrm b).toNat : Int); rw [h1, h2, h3, h4]
  exact Int.ofNat.inj this
theorem nN_pos {z : Int × Int} (h : z ≠ (0, 0)) : 1 ≤ nN z := by have := nrm_pos h; show 1 ≤ (nrm z).toNat; omega
theorem prod_pow {p : Nat} (hp : primeN p = true) : ∀ {N : List (Int × Int)}, (∀ x ∈ N, x ∈ overP p) → ∃ k, nN (prodL N) = p ^ k
  | [], _ => ⟨0, rfl⟩
  | q :: r, h => by
    obtain ⟨k, hk⟩ := prod_pow hp (N := r) (fun x hx => h x (by simp [hx]))
    obtain ⟨_, _, c⟩ := over_prime hp (h q (by simp))
    rcases c with c | ⟨_, _, c⟩
    · refine ⟨k + 1, ?_⟩
      show nN (mulP q (prodL r)) = _
      rw [nN_mul, hk, Nat.pow_succ, Nat.mul_comm]
      congr 1
      show (nrm q).toNat = p
      omega
    · refine ⟨k + 2, ?_⟩
      show nN (mulP q (prodL r)) = _
      rw [nN_mul, hk, Nat.pow_succ, Nat.pow_succ, Nat.mul_comm, Nat.mul_assoc]
      congr 1
      show (nrm q).toNat = p * p
      have : ((p * p : Nat) : Int) = (p : Int) * p := Int.natCast_mul _ _
      omega
structure FI (x z : Int × Int) (l S : List (Int × Int)) : Prop where
  eq : x = mulP (prodL l) z
  isP : ∀ q ∈ l, isF q ∧ primeP q = true
  nz : z ≠ (0, 0)
  wt : ((2 ^ l.length : Nat) : Int) * nrm z ≤ 1800000000
  kn : ∀ q ∈ S, ¬ dv q z
theorem FI.le {x z : Int × Int} {l S : List (Int × Int)} (I : FI x z l S) : nN z ≤ 1800000000 := by
  have h1 := nrm_pos I.nz
  have h2 : 1 ≤ 2 ^ l.length := Nat.one_le_two_pow
  have h3 := I.wt
  have h4 := Int.mul_le_mul_of_nonneg_right (show (1 : Int) ≤ ((2 ^ l.length : Nat) : Int) by omega) (show 0 ≤ nrm z by omega)
  show (nrm z).toNat ≤ 1800000000
  omega
theorem FI.take {x z z2 : Int × Int} {l S l2 S2 : List (Int × Int)} {p : Nat} (I : FI x z l S) (hp : primeN p = true) (T : TK p z l S z2 l2 S2) (hall : ∀ q ∈ overP p, q ∈ S2) : FI x z2 l2 S2 ∧ ¬ p ∣ nN z2 ∧ ∃ k, nN z = p ^ k * nN z2 := by
  obtain ⟨N, n1, n2, n3⟩ := T.new
  refine ⟨⟨by rw [I.eq, n2, n1, prodL_app, mul_assoc'], fun q hq => ?_, T.nz, T.wt, T.kn⟩, fun hd => ?_, ?_⟩
  · rw [n1] at hq
    rcases List.mem_append.1 hq with hq | hq
    · exact I.isP q hq
    · obtain ⟨k1, k2, _⟩ := over_prime hp (n3 q hq); exact ⟨k1, k2⟩
  · obtain ⟨q, hq, hqd⟩ := over_dv hp (z := z2) (by
      obtain ⟨c, hc⟩ := hd
      refine ⟨(c : Int), ?_⟩
      rw [← nat_nrm z2, ← Int.natCast_mul]
      exact congrArg Int.ofNat hc)
    exact T.kn q (hall q hq) hqd
  · obtain ⟨k, hk⟩ := prod_pow hp n3
    exact ⟨k, by rw [n2, nN_mul, hk]⟩
theorem prime_least {d m : Nat} (h2 : 2 ≤ d) (hd : d ∣ m) (hno : ∀ e, 2 ≤ e → e < d → ¬ e ∣ m) : primeN d = true := by
  refine prime_iff.2 ⟨h2, fun e he hee hz => ?_⟩
  have : e < d := by
    have : e * 2 ≤ e * e := Nat.mul_le_mul_left e he
    omega
  exact hno e he this (Nat.dvd_trans (Nat.dvd_of_mod_eq_zero hz) hd)
theorem prime_rest {d m : Nat} (h2 : 2 ≤ m) (hdd : m < d * d) (hno : ∀ e, 2 ≤ e → e < d → ¬ e ∣ m) : primeN m = true :=
  prime_yes h2 hdd (fun e h1 h3 hz => hno e h1 h3 (Nat.dvd_of_mod_eq_zero hz))
theorem over_bd {p : Nat} (hp : primeN p = true) (h : p ≤ 45000 ∨ (p ≤ 1800000000 ∧ p % 4 ≠ 3)) : ∀ q ∈ overP p, Bd 45000 q := by
  intro q hq
  obtain ⟨_, _, c⟩ := over_prime hp hq
  rcases c with c | ⟨c4, c, _⟩
  · exact bd_of_nrm (by omega)
  · rcases h with h | ⟨_, h⟩
    · rw [c]; exact ⟨by dsimp only; omega, by dsimp only; omega, by dsimp only; omega, by dsimp only; omega⟩
    · exact (h c4).elim
theorem call_caps (R : Rec) (base : Nat) (h : SHeap) (d : List Nat) (g : FuncId) (a b c x : Value) : callS R base h d (.func (.func g) #[] #[a, b, c]) [x] = match R.call g [x, a, b, c] h with
    | some (v, h', d') => some (v, h', dirts base d' d)
    | none => none := by simp [callS]; rfl
attribute [go_sem ↓] call_caps
structure FR36 (n : Nat) (ρ : Reg) (m d : Nat) : Prop where
  r2 : ρ 2 = .pointer (some ⟨n + 1, 0, none⟩)
  r3 : ρ 3 = .slice none 0 0
  r6 : ρ 6 = .pointer (some ⟨n + 2, 0, none⟩)
  r7 : ρ 7 = .pointer (some ⟨n + 3, 0, none⟩)
  r9 : ρ 9 = .func (.func 67) #[] #[.pointer (some ⟨n + 5, 0, none⟩), .pointer (some ⟨n + 2, 0, none⟩), .pointer (some ⟨n + 3, 0, none⟩)]
  r10 : ρ 10 = .int .i64 m
  r11 : ρ 11 = .int .i64 d
theorem fac_inner (cx : Cx) {n : Nat} {H : SHeap} {x : Int × Int} {d : Nat} (h2 : 2 ≤ d) (hd : d ≤ 45000) (hcx : cx.base = n) :
    ∀ k ρ ms h' d', (∃ (m j : Nat) (z : Int × Int) (l S : List (Int × Int)) (v : Value), m = k ∧ 1 ≤ m ∧ m ≤ 1800000000 ∧ FS n H h' z l S v ∧ FI x z l S ∧ m = d ^ j * nN z ∧ (∀ e, 2 ≤ e → e < d → ¬ e ∣ m) ∧ FR36 n ρ m d ∧ ms = [] ∧ d' = []) →
    LoopW M cx 7 sf36L1 ρ ms h' d' (fun ex ρ' ms' h' d' => ex = .exit 2 ∧ ms' = [] ∧ d' = [] ∧ ∃ (z : Int × Int) (l S : List (Int × Int)) (v : Value), FS n H h' z l S v ∧ FI x z l S ∧ (∀ e, 2 ≤ e → e < d + 1 → ¬ e ∣ nN z) ∧ FR36 n ρ' (nN z) d) := by
  refine loop_run _ ?_
  rintro k ρ ms h' d' ⟨m, j, z, l, S, v, rfl, hm1, hm, F, I, hj, hno, ⟨r2, r3, r6, r7, r9, r10, r11⟩, rfl, rfl⟩
  unfold sf36L1
  have e0 : ¬ ((d : Int) = 0) := by omega
  have tm := tmod_nat m d
  by_cases c : m % d = 0
  · have hdm := Nat.dvd_of_mod_eq_zero c
    have hp := prime_least h2 hdm hno
    obtain ⟨h2', d2, z2, l2, S2, v2, cl, F2, hd2, T, hall⟩ := take67 hp (by omega) (over_bd hp (.inl hd)) F I.nz I.wt I.kn
    obtain ⟨I2, hnd, kk, hk⟩ := I.take hp T hall
    have hdo : dirts cx.base d2 [] = [] := dirts_own (fun x hx => by rw [hd2 x hx, hcx]; omega) []
    have e1 : (((m % d : Nat) : Int) = 0) = True := eq_true (by omega)
    have td : (m : Int).tdiv (d : Int) = ((m / d : Nat) : Int) := by rw [Int.tdiv_eq_ediv_of_nonneg (by omega)]; rfl
    have wd : IntKind.i64.wrap ((m / d : Nat) : Int) = ((m / d : Nat) : Int) := by
      have hle := Nat.div_le_self m d
      clear td tm
      generalize m / d = t at *
      exact wrap64 (by omega) (by omega)
    repeat (first | apply Z1 | apply Z2 | apply Z3 | apply Z4 | apply Z5 rfl | apply Z6 | apply Z7 | apply Z8 | apply Z9 | apply ZA | apply ZB | apply ZC | ((first | apply ZD (by decide) | apply ZN (by decide)); (simp (maxSteps := 9999999) only [go_sem, r9, r10, r11, e0, tm, e1, cl, hdo, td, wd]; rfl)) | (refine ZE ?_ ?_; · simp only [go_sem]) | (refine ZF ?_ ?_; · simp only [go_sem]))
    have hp0 : 0 < d := by omega
    have hmm : m = d ^ (j + kk) * nN z2 := by rw [hj, hk, Nat.pow_add, Nat.mul_assoc]
    have hjk : j + kk ≠ 0 := fun e => by
      rw [e, Nat.pow_zero, Nat.one_mul] at hmm
      exact hnd (hmm ▸ hdm)
    obtain ⟨t, ht⟩ : ∃ t, j + kk = t + 1 := ⟨j + kk - 1, by omega⟩
    have hmd : m / d = d ^ t * nN z2 := by
      rw [hmm, ht, Nat.pow_succ, Nat.mul_comm (d ^ t) d, Nat.mul_assoc, Nat.mul_div_cancel_left _ hp0]
    have hlt : m / d < m := Nat.div_lt_self (by omega) (by omega)
    have hmp : 1 ≤ m / d := by
      have := Nat.le_of_dvd (by omega) hdm
      exact Nat.div_pos this hp0
    refine end_nil ⟨m / d, hlt, m / d, t, z2, l2, S2, v2, rfl, hmp, by omega, F2, I2, hmd, fun e he1 he2 hed => hno e he1 he2 (Nat.dvd_trans hed (Nat.div_dvd_of_dvd hdm)), ⟨by simp only [go_sem, r2], by simp only [go_sem, r3], by simp only [go_sem, r6], by simp only [go_sem, r7], by simp only [go_sem, r9], by simp only [go_sem, td, wd], by simp only [go_sem, r11]⟩, rfl, rfl⟩
  · have e1 : (((m % d : Nat) : Int) = 0) = False := eq_false (by omega)
    repeat (first | apply Z1 | apply Z2 | apply Z3 | apply Z4 | apply Z5 rfl | apply Z6 | apply Z7 | apply Z8 | apply Z9 | apply ZA | apply ZB | apply ZC | ((first | apply ZD (by decide) | apply ZN (by decide)); (simp (maxSteps := 9999999) only [go_sem, r10, r11, e0, tm, e1]; rfl)) | (refine ZE ?_ ?_; · simp only [go_sem]) | (refine ZF ?_ ?_; · simp only [go_sem]))
    have hj0 : j = 0 := by
      by_cases c0 : j = 0
      · exact c0
      · exfalso
        obtain ⟨t, rfl⟩ : ∃ t, j = t + 1 := ⟨j - 1, by omega⟩
        apply c
        rw [hj, Nat.pow_succ, Nat.mul_comm (d ^ t) d, Nat.mul_assoc]
        exact Nat.mul_mod_right _ _
    subst hj0
    have hm' : m = nN z := by rw [hj, Nat.pow_zero, Nat.one_mul]
    refine end_nil ⟨rfl, rfl, rfl, z, l, S, v, F, I, fun e he1 he2 => ?_, ⟨by simp only [go_sem, r2], by simp only [go_sem, r3], by simp only [go_sem, r6], by simp only [go_sem, r7], by simp only [go_sem, r9], by rw [← hm']; simp only [go_sem, r10], by simp only [go_sem, r11]⟩⟩
    rw [← hm']
    by_cases ce : e = d
    · subst ce; exact fun hd => c (Nat.mod_eq_zero_of_dvd hd)
    · exact hno e he1 (by omega)
theorem fac_outer (cx : Cx) {n : Nat} {H : SHeap} {x : Int × Int} (hcx : cx.base = n) :
    ∀ k ρ ms h' d', (∃ (d : Nat) (z : Int × Int) (l S : List (Int × Int)) (v : Value), d + k = 50000 ∧ 2 ≤ d ∧ FS n H h' z l S v ∧ FI x z l S ∧ (∀ e, 2 ≤ e → e < d → ¬ e ∣ nN z) ∧ FR36 n ρ (nN z) d ∧ ms = [] ∧ d' = []) →
    LoopW M cx 7 sf36L2 ρ ms h' d' (fun ex ρ' ms' h' d' => ex = .exit 0 ∧ ms' = [] ∧ d' = [] ∧ ∃ (z : Int × Int) (l S : List (Int × Int)) (v : Value), FS n H h' z l S v ∧ FI x z l S ∧ nrm z = 1 ∧ ρ' 2 = .pointer (some ⟨n + 1, 0, none⟩) ∧ ρ' 3 = .slice none 0 0 ∧ ρ' 6 = .pointer (some ⟨n + 2, 0, none⟩) ∧ ρ' 7 = .pointer (some ⟨n + 3, 0, none⟩)) := by
  refine loop_run _ ?_
  rintro k ρ ms h' d' ⟨d, z, l, S, v, hk, hd2, F, I, hno, ⟨r2, r3, r6, r7, r9, r10, r11⟩, rfl, rfl⟩
  unfold sf36L2
  have hz1 := nN_pos I.nz
  have hzm := I.le
  have hnz := nrm_pos I.nz
  have hnn := nat_nrm z
  by_cases c1 : 1 < nN z
  · have e1 : (1 : Int) < (nN z : Int) := by omega
    have w1 := mul_wn (a := d) (b := d) (by omega) (by omega)
    by_cases cd : nN z < d * d
    · have e2 : ((nN z : Nat) : Int) < ((d * d : Nat) : Int) := by omega
      have hp := prime_rest (by omega) cd hno
      have h4 : nN z % 4 ≠ 3 := by have := nrm_4 z; show (nrm z).toNat % 4 ≠ 3; omega
      obtain ⟨h2', d2, z2, l2, S2, v2, cl, F2, hd2', T, hall⟩ := take67 hp (by omega) (over_bd hp (.inr ⟨hzm, h4⟩)) F I.nz I.wt I.kn
      obtain ⟨I2, hnd, kk, hk2⟩ := I.take hp T hall
      have hdo : dirts cx.base d2 [] = [] := dirts_own (fun x hx => by rw [hd2' x hx, hcx]; omega) []
      have hone : nrm z2 = 1 := by
        have hz2 := nN_pos I2.nz
        have h5 := nat_nrm z2
        have : nN z2 = 1 := by
          generalize nN z = m at *
          generalize nN z2 = w at *
          cases kk with
          | zero => rw [Nat.pow_zero, Nat.one_mul] at hk2; exact (hnd (hk2 ▸ Nat.dvd_refl m)).elim
          | succ t =>
            have h6 : 1 ≤ m ^ t := Nat.one_le_pow _ _ (by omega)
            have h7 : m = m * (m ^ t * w) := by
              have : m ^ (t + 1) * w = m * (m ^ t * w) := by rw [Nat.pow_succ, Nat.mul_comm (m ^ t) m, Nat.mul_assoc]
              rw [← this]; exact hk2
            have h8 : m ^ t * w = 1 := by
              have h9 : m * (m ^ t * w) = m * 1 := by rw [← h7, Nat.mul_one]
              exact Nat.eq_of_mul_eq_mul_left (by omega) h9
            exact Nat.dvd_one.1 ⟨m ^ t, by rw [Nat.mul_comm]; exact h8.symm⟩
        have h6 : ((nrm z2).toNat : Int) = 1 := by
          have : (nrm z2).toNat = 1 := this
          omega
        omega
      repeat (first | apply Z1 | apply Z2 | apply Z3 | apply Z4 | apply Z5 rfl | apply Z6 | apply Z7 | apply Z8 | apply Z9 | apply ZA | apply ZB | apply ZC | ((first | apply ZD (by decide) | apply ZN (by decide)); (simp (maxSteps := 9999999) only [go_sem, r9, r10, r11, e1, w1, e2, cl, hdo]; rfl)) | (refine ZE ?_ ?_; · simp only [go_sem]) | (refine ZF ?_ ?_; · simp only [go_sem]))
      exact end_nil ⟨rfl, rfl, rfl, z2, l2, S2, v2, F2, I2, hone, by simp only [go_sem, r2], by simp only [go_sem, r3], by simp only [go_sem, r6], by simp only [go_sem, r7]⟩
    · have e2 : ¬ (((nN z : Nat) : Int) < ((d * d : Nat) : Int)) := by omega
      have hd45 : d ≤ 45000 := by
        by_cases c : d ≤ 45000
        · exact c
        · have := Nat.mul_le_mul (show 45001 ≤ d by omega) (show 45001 ≤ d by omega); omega
      have ew : IntKind.i64.wrap ((d : Int) + 1) = ((d + 1 : Nat) : Int) := by rw [wrap64 (by omega) (by omega)]; rfl
      repeat (first | apply Z1 | apply Z2 | apply Z3 | apply Z4 | apply Z5 rfl | apply Z6 | apply Z7 | apply Z8 | apply Z9 | apply ZA | apply ZB | apply ZC | ((first | apply ZD (by decide) | apply ZN (by decide)); (simp (maxSteps := 9999999) only [go_sem, r10, r11, e1, w1, e2]; rfl)) | (refine ZE ?_ ?_; · simp only [go_sem]) | (refine ZF ?_ ?_; · simp only [go_sem]))
      refine run_loop (fac_inner cx (x := x) hd2 hd45 hcx (nN z) _ _ _ _ ⟨nN z, 0, z, l, S, v, rfl, hz1, hzm, F, I, by rw [Nat.pow_zero, Nat.one_mul], hno, ⟨by simp only [go_sem, r2], by simp only [go_sem, r3], by simp only [go_sem, r6], by simp only [go_sem, r7], by simp only [go_sem, r9], by simp only [go_sem, r10], by simp only [go_sem, r11]⟩, rfl, rfl⟩) ?_
      rintro ex ρ' ms' h1 d1 ⟨rfl, rfl, rfl, z2, l2, S2, v2, F2, I2, hno2, ⟨k2, k3, k6, k7, k9, k10, k11⟩⟩
      repeat (first | apply Z1 | apply Z2 | apply Z3 | apply Z4 | apply Z5 rfl | apply Z6 | apply Z7 | apply Z8 | apply Z9 | apply ZA | apply ZB | apply ZC | ((first | apply ZD (by decide) | apply ZN (by decide)); (simp (maxSteps := 9999999) only [go_sem, k11, ew]; rfl)) | (refine ZE ?_ ?_; · simp only [go_sem]) | (refine ZF ?_ ?_; · simp only [go_sem]))
      exact end_nil ⟨k - 1, by omega, d + 1, z2, l2, S2, v2, by omega, by omega, F2, I2, hno2, ⟨by simp only [go_sem, k2], by simp only [go_sem, k3], by simp only [go_sem, k6], by simp only [go_sem, k7], by simp only [go_sem, k9], by simp only [go_sem, k10], by simp only [go_sem, ew]⟩, rfl, rfl⟩
  · have e1 : ¬ ((1 : Int) < (nN z : Int)) := by omega
    repeat (first | apply Z1 | apply Z2 | apply Z3 | apply Z4 | apply Z5 rfl | apply Z6 | apply Z7 | apply Z8 | apply Z9 | apply ZA | apply ZB | apply ZC | ((first | apply ZD (by decide) | apply ZN (by decide)); (simp (maxSteps := 9999999) only [go_sem, r10, r11, e1]; rfl)) | (refine ZE ?_ ?_; · simp only [go_sem]) | (refine ZF ?_ ?_; · simp only [go_sem]))
    have : (nrm z).toNat = 1 := by
      have h1 : nN z = 1 := by omega
      exact h1
    exact end_nil ⟨rfl, rfl, rfl, z, l, S, v, F, I, by omega, by simp only [go_sem, r2], by simp only [go_sem, r3], by simp only [go_sem, r6], by simp only [go_sem, r7]⟩
end Go.Proofs.YtdmfhdnpakgkpaaDoor.Sh

namespace Go.Proofs.YtdmfhdnpakgkpaaDoor.Sh
open Go
set_option maxRecDepth 100000
set_option maxHeartbeats 4000000
section
variable {H g h : SHeap} {v : Value} {cs : List Value} {n s : Nat} {el : TypeId}
theorem AccS.gc3 (A : AccS (H ++ g) h v cs n s el) (u w : Value) (hu : flat 1 u = true) (hw : flat 1 w = true) : gcS H.length (.tuple #[u, v, w]) h = some (.tuple #[u, resV H n s, w], resH H cs n el) := by
  have hp : ptrs 2 w = [] ∧ ∀ K, renV H.length K 2 w = some w := ⟨ptrs_flat 2 w (flat_up _ _ hw), fun K => renV_flat 2 w (flat_up _ _ hw)⟩
  have hq : ptrs 2 u = [] ∧ ∀ K, renV H.length K 2 u = some u := ⟨ptrs_flat 2 u (flat_up _ _ hu), fun K => renV_flat 2 u (flat_up _ _ hu)⟩
  by_cases hn : n = 0
  · have ht := A.take rfl
    have e3 := hp.2 []
    have e5 := hq.2 []
    rcases A.acc with ⟨_, rfl, _⟩ | ⟨b, old, rfl, h1, h2, h3, _⟩
    · have e1 : ptrs 3 (.tuple #[u, .slice none 0 0, w]) = [] := by
        show ptrs 2 u ++ (ptrs 2 (.slice none 0 0) ++ (ptrs 2 w ++ [])) = []
        rw [hp.1, hq.1]; rfl
      unfold gcS
      rw [e1]
      rw [show (1000000 : Nat) = 999999 + 1 from rfl, reach]
      simp [renV, mapO, e3, e5, ht, resV, resH, hn]
    · exact (h3 hn).elim
  · obtain ⟨b, old, rfl, h1, h2, h3⟩ := A.cellsAt hn
    have ht := A.take rfl
    have eb : Nat.ble H.length b = true := by rw [ble_dec]; simpa using h2
    have e1 : reach H.length h 1000000 [b] [] = [b] := by
      rw [show (1000000 : Nat) = 999998 + 1 + 1 from rfl, reach]
      simp only [eb, List.contains_nil, Bool.not_true, Bool.or_self, Bool.false_eq_true, if_false, h1, ptrsO, Bool.true_or, if_true, List.nil_append]
      rw [reach]
    have e2 : ren H.length [b] b = some H.length := by simp [ren, eb, posOf]
    have e0 : ((0 : Nat) == 2) = false := rfl
    have e3 := hp.2 [b]
    have e5 := hq.2 [b]
    have e4 : ptrs 3 (.tuple #[u, .slice (some ⟨b, 0, none⟩) n (UNK + s), w]) = [b] := by
      show ptrs 2 u ++ (ptrs 2 (.slice (some ⟨b, 0, none⟩) n (UNK + s)) ++ (ptrs 2 w ++ [])) = [b]
      rw [hp.1, hq.1]; rfl
    unfold gcS
    simp only [e4, e1, renV, e2, e3, e5, mapO, renO, h1, e0, Bool.false_eq_true, if_false, if_true, ht, ren_none' h3]
    simp [resV, resH, hn]
theorem AccS.q3 (A : AccS (H ++ g) h v cs n s el) {i j k : Nat} {ρ : Reg} {b : Nat} {l : List Value} (w : Value) (hi : ρ i = .pointer (some ⟨b, 0, none⟩)) (hl : loadS h (some 2) (.pointer (some ⟨b, 0, none⟩)) = some (.agg l.toArray)) (hu : flat 1 (.agg l.toArray) = true) (hv : ρ j = v) (hw : ρ k = w) (hf : flat 1 w = true) :
    callQ [.cell (some 2) i, .tmp j, .tmp k] H.length (.tuple #[.agg l.toArray, resV H n s, w], resH H cs n el, []) .ret ρ [] h [] := by
  obtain ⟨a, c, rfl⟩ := A.shape
  refine ⟨rfl, ?_⟩
  show opn (ρ i) fun a => ∃ v, loadS h (some 2) a = some v ∧ opn v fun u' => opn (ρ j) fun v' => opn (ρ k) fun w' => endW H.length h [] (_, _, []) [u', v', w']
  rw [hi, hv, hw]
  show ∃ v, loadS h (some 2) (.pointer (some ⟨b, 0, none⟩)) = some v ∧ opn v fun u' => opn w fun w' => endW H.length h [] (_, _, []) [u', .slice a n c, w']
  refine ⟨_, hl, ?_⟩
  show opn w fun w' => endW H.length h [] (_, _, []) [.agg l.toArray, .slice a n c, w']
  exact opn_of hf ⟨_, _, A.gc3 _ w hu hf, rfl⟩
end
theorem Acc.lo {lo lo' : Nat} {h : SHeap} {v : Value} {cs : List Value} {n s : Nat} {el : TypeId} (a : Acc lo h v cs n s el) (hl : lo' ≤ lo) : Acc lo' h v cs n s el := by
  rcases a with a | ⟨b, old, h0, h1, h2, h3, h4, h5, h6⟩
  · exact .inl a
  · exact .inr ⟨b, old, h0, h1, h2, h3, by omega, h5, fun c hc => ⟨by have := (h6 c hc).1; omega, (h6 c hc).2⟩⟩
def gF (f : Nat → Fa) (i : Nat) : List (Int × Int) := (List.range i).map (fun j => (f j).2)
theorem gF_len (f : Nat → Fa) (i : Nat) : (gF f i).length = i := by simp [gF]
theorem gF_succ (f : Nat → Fa) (i : Nat) : gF f (i + 1) = gF f i ++ [(f i).2] := by unfold gF; rw [List.range_succ, List.map_append]; rfl
theorem load_same' {h h' : SHeap} {b o : Nat} (e : h'[b]? = h[b]?) (t : Option Nat) : loadS h' t (.pointer (some ⟨b, o, none⟩)) = loadS h t (.pointer (some ⟨b, o, none⟩)) := by
  cases t with
  | none => rw [load_rdO, load_rdO, e]
  | some n => rw [load_rdON, load_rdON, e]
theorem celF_len' (x : Fa) : (celF x).length = 3 := rfl
theorem celF_sc' (x : Fa) : (celF x).all sc = true := rfl
theorem fcopy_loop (cx : Cx) {n N b cap : Nat} {h1 h2 : SHeap} {old : List Nat} {f : Nat → Fa} (hN : N ≤ 60000) (S : SA celF N b 84 h1 old h2 f) : ∀ k ρ ms h' d', (∃ (i : Nat) (v : Value), i + k = N ∧ ρ 2 = .pointer (some ⟨n + 1, 0, none⟩) ∧ ρ 6 = .pointer (some ⟨n + 2, 0, none⟩) ∧ ρ 3 = v ∧ ρ 53 = .slice (some ⟨b, 0, none⟩) N cap ∧ ρ 54 = .int .i64 N ∧ ρ 55 = .int .i64 i ∧ AccS h2 h' v (prs (gF f i)) i 2 34 ∧ ms = [] ∧ d' = []) →
    LoopW M cx 7 sf36L0 ρ ms h' d' (fun ex ρ' ms' h' d' => ex = .exit 4 ∧ ms' = [] ∧ d' = [] ∧ ∃ v : Value, ρ' 2 = .pointer (some ⟨n + 1, 0, none⟩) ∧ ρ' 6 = .pointer (some ⟨n + 2, 0, none⟩) ∧ ρ' 3 = v ∧ AccS h2 h' v (prs (gF f N)) N 2 34) := by
  refine loop_run _ ?_
  rintro k ρ ms h' d' ⟨i, v, hk, r2, r6, r8, r49, r50, r51, A, rfl, rfl⟩
  unfold sf36L0
  by_cases hc : i = N
  · have e1 : ¬ ((i : Int) < N) := by omega
    repeat (first | apply Z1 | apply Z2 | apply Z3 | apply Z4 | apply Z5 rfl | apply Z6 | apply Z7 | apply Z8 | apply Z9 | apply ZA | apply ZB | apply ZC | ((first | apply ZD (by decide) | apply ZN (by decide)); (simp (maxSteps := 9999999) only [go_sem, r49, r50, r51, e1]; rfl)) | (refine ZE ?_ ?_; · simp only [go_sem]) | (refine ZF ?_ ?_; · simp only [go_sem]))
    refine end_nil ⟨rfl, rfl, rfl, v, by simp only [go_sem, r2], by simp only [go_sem, r6], by simp only [go_sem, r8], ?_⟩
    rw [← hc]; exact A
  · have e1 : ((i : Int) < N) := by omega
    have e2 : (0 : Int) ≤ i := by omega
    have l1 := S.load celF_len' (show i < N by omega)
    rw [← load_same' (A.same b S.lt)] at l1
    have hs := gF_succ f i
    have ew : IntKind.i64.wrap ((i : Int) + 1) = ((i + 1 : Nat) : Int) := by rw [wrap64 (by omega) (by omega)]; rfl
    generalize f i = x at *
    unfold celF at l1
    obtain ⟨H2, v2, ap, -, A2, -, -⟩ := ((A.app [.cells [.int .i64 x.1, .int .i64 x.2.1, .int .i64 x.2.2] 84 true 0 []]).app [.cells [.int .i64 x.2.1, .int .i64 x.2.2] 34 true 0 []]).push (bytes := 16) (new := [.int .i64 x.2.1, .int .i64 x.2.2]) (by rw [app_get0]; rfl) rfl rfl (by decide) rfl (by decide) (by omega)
    have hpp : prs (gF f (i + 1)) = prs (gF f i) ++ [.int .i64 x.2.1, .int .i64 x.2.2] := by rw [hs, prs_app]; rfl
    rw [← hpp] at A2
    obtain ⟨va, vc, rfl⟩ := A.shape
    simp only [List.append_assoc, List.length_append, List.length_cons, List.length_nil, List.cons_append, List.nil_append, Nat.zero_add] at ap
    repeat (first | apply Z1 | apply Z2 | apply Z3 | apply Z4 | apply Z5 rfl | apply Z6 | apply Z7 | apply Z8 | apply Z9 | apply ZA | apply ZB | apply ZC | ((first | apply ZD (by decide) | apply ZN (by decide)); (simp (maxSteps := 9999999) only [go_sem, r8, r49, r50, r51, e1, e2, l1, ap, ew]; rfl)) | (refine ZE ?_ ?_; · simp only [go_sem]) | (refine ZF ?_ ?_; · simp only [go_sem]))
    exact end_nil ⟨k - 1, by omega, i + 1, v2, by omega, by simp only [go_sem, r2], by simp only [go_sem, r6], by simp only [go_sem], by simp only [go_sem, r49], by simp only [go_sem, r50], by simp only [go_sem, ew], A2, rfl, rfl⟩
theorem fcopy0_loop (cx : Cx) (n : Nat) (H : SHeap) : ∀ (k : Nat) ρ ms h' d', (ρ 2 = .pointer (some ⟨n + 1, 0, none⟩) ∧ ρ 6 = .pointer (some ⟨n + 2, 0, none⟩) ∧ ρ 3 = .slice none 0 0 ∧ ρ 54 = .int .i64 0 ∧ ρ 55 = .int .i64 0 ∧ ms = [] ∧ h' = H ∧ d' = []) →
    LoopW M cx 7 sf36L0 ρ ms h' d' (fun ex ρ' ms' h' d' => ex = .exit 4 ∧ ms' = [] ∧ d' = [] ∧ h' = H ∧ ρ' 2 = .pointer (some ⟨n + 1, 0, none⟩) ∧ ρ' 6 = .pointer (some ⟨n + 2, 0, none⟩) ∧ ρ' 3 = .slice none 0 0) := by
  refine loop_run _ ?_
  rintro k ρ ms h' d' ⟨r2, r6, r8, r50, r51, rfl, rfl, rfl⟩
  unfold sf36L0
  repeat (first | apply Z1 | apply Z2 | apply Z3 | apply Z4 | apply Z5 rfl | apply Z6 | apply Z7 | apply Z8 | apply Z9 | apply ZA | apply ZB | apply ZC | ((first | apply ZD (by decide) | apply ZN (by decide)); (simp (maxSteps := 9999999) only [go_sem, r8, r50, r51]; rfl)) | (refine ZE ?_ ?_; · simp only [go_sem]) | (refine ZF ?_ ?_; · simp only [go_sem]))
  exact end_nil ⟨rfl, rfl, rfl, rfl, by simp only [go_sem, r2], by simp only [go_sem, r6], by simp only [go_sem, r8]⟩
end Go.Proofs.YtdmfhdnpakgkpaaDoor.Sh

namespace Go.Proofs.YtdmfhdnpakgkpaaDoor.Sh
open Go
set_option maxRecDepth 100000
set_option maxHeartbeats 4000000
theorem cells_map (r : Option Nat) : cellsL (.map r) = [.map r] := (rfl)
theorem one_map (r : Option Nat) : oneC (.map r) = true := (rfl)
theorem dirty_own {base b : Nat} {pf : Bool} {d : List Nat} (h : base ≤ b) : dirty base b pf d = d := by
  unfold dirty
  have : Nat.ble base b = true := by rw [ble_dec]; simpa using h
  rw [this]; simp
def sortedF (L : List (Int × Int)) : Prop := L.Pairwise fun a b => ¬ cF (faP b) (faP a) < 0
theorem factor36 {x : Int × Int} (hx : Bd 30000 x) (h0 : x ≠ (0, 0)) (h : SHeap) : ∃ u L, Fac x u L ∧ sortedF L ∧ M.call 36 [agV x] h = some (.tuple #[agV u, resV h L.length 2, .int .i64 0], resH h (prs L) L.length 34, []) := by
  have key : ∃ r, (∃ u L, Fac x u L ∧ sortedF L ∧ r = (.tuple #[agV u, resV h L.length 2, .int .i64 0], resH h (prs L) L.length 34, ([] : List Nat))) ∧ M.call 36 [agV x] h = some r := by
    have c57 := fun h => check57 x h
    simp only [hx, if_true] at c57
    have e0 : (x = (0, 0)) = False := eq_false h0
    have hxn := nrm_le hx
    have hnn := nat_nrm x
    have c59 := fun h => norm59 hx (by decide) h
    have do1 : ∀ d, dirty h.length (h.length + 5) false d = d := fun d => dirty_own (by omega)
    refine call_ex (f := 36) _ sf36 rfl rfl rfl ?_
    unfold sf36
    repeat (first | apply Z1 | apply Z2 | apply Z3 | apply Z4 | apply Z5 rfl | apply Z6 | apply Z7 | apply Z8 | apply Z9 | apply ZA | apply ZB | apply ZC | ((first | apply ZD (by decide) | apply ZN (by decide)); (simp (maxSteps := 9999999) only [go_sem, argR, c57, e0, c59, cells_map, one_map, do1, Nat.add_assoc]; rfl)) | (refine ZE ?_ ?_; · simp only [go_sem]) | (refine ZF ?_ ?_; · simp only [go_sem]))
    have F0 : FS h.length (h ++ [.cells [.int .i64 x.1, .int .i64 x.2] 34 true 0 [], .cells [.int .i64 0, .int .i64 0] 34 true 0 []]) (h ++ [.cells [.int .i64 x.1, .int .i64 x.2] 34 true 0 [], .cells [.int .i64 0, .int .i64 0] 34 true 0 [], bn x, .cells [.slice none 0 0] 79 false 0 [], .map true [], .cells [.map (some (h.length + 4))] 70 false 0 []]) x [] [] (.slice none 0 0) := by
      refine ⟨by simp, fun j hj => ?_, by rw [app_get]; rfl, by rw [app_get]; rfl, by rw [app_get]; rfl, by rw [app_get]; rfl, .inl ⟨rfl, rfl, rfl⟩⟩
      by_cases c : j < h.length
      · rw [List.getElem?_append_left c, List.getElem?_append_left c]
      · obtain ⟨t, rfl⟩ : ∃ t, j = h.length + t := ⟨j - h.length, by omega⟩
        rw [app_get, app_get]
        have : t = 0 ∨ t = 1 := by omega
        rcases this with rfl | rfl <;> rfl
    have I0 : FI x x [] [] := ⟨(one_mul x).symm, fun q hq => (by cases hq), h0, by simp; omega, fun q hq => (by cases hq)⟩
    refine run_loop (fac_outer _ (n := h.length) (x := x) rfl 49998 _ _ _ _ ⟨2, x, [], [], .slice none 0 0, by omega, by omega, F0, I0, by omega, ⟨by simp only [go_sem], by simp only [go_sem], by simp only [go_sem], by simp only [go_sem], by simp only [go_sem], by simp only [go_sem, hnn], by simp only [go_sem]⟩, rfl, rfl⟩) ?_
    rintro ex ρ' ms' h1 d1 ⟨rfl, rfl, rfl, u, l, S, v, F, I, hu, k2, k3, k6, k7⟩
    have lv : loadS h1 none (.pointer (some ⟨h.length + 3, 0, none⟩)) = some v := by have := load_at F.hl rfl []; rwa [List.append_nil] at this
    have hle := F.le
    have hlen : l.length ≤ 60000 := by
      have h6 : l.length < 2 ^ l.length := Nat.lt_two_pow_self
      have h7 := I.wt
      rw [hu, Int.mul_one] at h7
      by_cases c : l.length ≤ 60000
      · exact c
      · exfalso
        have : 2 ^ 31 ≤ 2 ^ l.length := Nat.pow_le_pow_right (by decide) (by omega)
        omega
    have hfr : ∀ j, j < h.length → h1[j]? = h[j]? := fun j hj => by rw [F.fr j (by omega), List.getElem?_append_left hj]
    have hun : h1[h.length + 1]? = some (.cells [.int .i64 0, .int .i64 0] 34 true 0 []) := by rw [F.fr _ (by omega), app_get]; rfl
    by_cases hz : l = []
    · subst hz
      have hv : v = .slice none 0 0 := by
        rcases F.acc with ⟨_, e, _⟩ | ⟨b, old, _, _, _, hh, _⟩
        · exact e
        · exact (hh rfl).elim
      subst hv
      have c := fun h => sort0F 71 h
      repeat (first | apply Z1 | apply Z2 | apply Z3 | apply Z4 | apply Z5 rfl | apply Z6 | apply Z7 | apply Z8 | apply Z9 | apply ZA | apply ZB | apply ZC | ((first | apply ZD (by decide) | apply ZN (by decide)); (simp (maxSteps := 9999999) only [go_sem, k7, lv, c]; rfl)) | (refine ZE ?_ ?_; · simp only [go_sem]) | (refine ZF ?_ ?_; · simp only [go_sem]))
      refine run_loop (fcopy0_loop _ h.length h1 0 _ _ _ _ ⟨by simp only [go_sem, k2], by simp only [go_sem, k6], by simp only [go_sem, k3], by simp only [go_sem], by simp only [go_sem], rfl, rfl, rfl⟩) ?_
      rintro ex ρ2 ms2 h2 d2 ⟨rfl, rfl, rfl, rfl, q2, q6, q3⟩
      have lu : loadS h2 (some 2) (.pointer (some ⟨h.length + 2, 0, none⟩)) = some (.agg #[.int .i64 u.1, .int .i64 u.2]) := by have := load_bn F.hz rfl []; rwa [List.append_nil] at this
      have st : ∀ base, storeS base h2 [] (h.length + 1) 0 (cellsL (.agg #[.int .i64 u.1, .int .i64 u.2])) = some (h2.set (h.length + 1) (.cells [.int .i64 u.1, .int .i64 u.2] 34 true 0 []), []) := fun base => store_at (base := base) (vs := [.int .i64 u.1, .int .i64 u.2]) hun rfl (Nat.zero_lt_succ _) rfl (fun _ => rfl) [] rfl
      have lu2 : loadS (h2.set (h.length + 1) (.cells [.int .i64 u.1, .int .i64 u.2] 34 true 0 [])) (some 2) (.pointer (some ⟨h.length + 1, 0, none⟩)) = some (.agg #[.int .i64 u.1, .int .i64 u.2]) := by
        have := load_bn (p := u) (h := h2.set (h.length + 1) (.cells [.int .i64 u.1, .int .i64 u.2] 34 true 0 [])) (b := h.length + 1) (el := 34) (own := 0) (old := []) (by rw [List.getElem?_set_self (by omega)]) rfl []
        rwa [List.append_nil] at this
      have htake : (h2.set (h.length + 1) (.cells [.int .i64 u.1, .int .i64 u.2] 34 true 0 [])).take h.length = h := by
        rw [take_set (by omega)]
        exact take_of_same (by omega) hfr
      generalize h2.set (h.length + 1) (.cells [.int .i64 u.1, .int .i64 u.2] 34 true 0 []) = h3 at *
      repeat (first | apply Z1 | apply Z2 | apply Z3 | apply Z4 | apply Z5 rfl | apply Z6 | apply Z7 | apply Z8 | apply Z9 | apply ZA | apply ZB | apply ZC | ((first | apply ZD (by decide) | apply ZN (by decide)); (simp (maxSteps := 9999999) only [go_sem, q2, q6, q3, lu, ↓st]; rfl)) | (refine ZE ?_ ?_; · simp only [go_sem]) | (refine ZF ?_ ?_; · simp only [go_sem]))
      refine end_nil ⟨_, ⟨u, [], ⟨I.eq, hu, fun q hq => (by cases hq)⟩, List.Pairwise.nil, rfl⟩, ?_⟩
      exact q_free [.agg #[.int .i64 u.1, .int .i64 u.2], .slice none 0 0, .int .i64 0] (by simp only [go_sem, q2, lu2]) rfl rfl rfl (fun _ => rfl) htake rfl
    · obtain ⟨b, old, rfl, hb, hb2, hb3, hb4, hb5, hold⟩ : ∃ b old, v = .slice (some ⟨b, 0, none⟩) l.length (UNK + 3) ∧ h1[b]? = some (.cells ((l.map faP).flatMap celF) 84 true 0 old) ∧ ((l.map faP).flatMap celF).length = l.length * 3 ∧ l.length ≠ 0 ∧ h.length + 6 ≤ b ∧ ((l.map faP).flatMap celF).all sc = true ∧ ∀ c ∈ old, h.length + 6 ≤ c ∧ c < b := by
        rcases F.acc with ⟨e, _⟩ | k
        · exact (hz (List.length_eq_zero_iff.1 e)).elim
        · exact k
      have hbl : b < h1.length := (List.getElem?_eq_some_iff.1 hb).1
      have hml : (l.map faP).length = l.length := by simp
      obtain ⟨f, hf⟩ : ∃ f, f = (fun i => (l.map faP).getD i (0, 0, 0)) := ⟨_, rfl⟩
      have hrange : (List.range l.length).map f = l.map faP := by rw [hf, ← hml, getD_range]
      have hfl : flF celF f l.length = (l.map faP).flatMap celF := by rw [flF_list, hrange]
      have S0 : SA celF l.length b 84 h1 old h1 f := ⟨rfl, fun j _ _ => rfl, old, fun c hc => hc, by rw [hfl]; exact hb⟩
      obtain ⟨h2, f2, cs, S2, W, O⟩ := sortF (cap := UNK + 3) CF celF_len' celF_sc' hlen (fun c hc => by have := (hold c hc).2; omega) S0
      have hperm : ((List.range l.length).map f2).Perm (l.map faP) := by rw [← hrange]; exact W.perm (Nat.le_refl _)
      have hL : (gF f2 l.length).map faP = (List.range l.length).map f2 := by
        unfold gF
        rw [List.map_map]
        refine List.map_congr_left (fun i hi => ?_)
        have hm : f2 i ∈ l.map faP := hperm.mem_iff.1 (List.mem_map.2 ⟨i, hi, rfl⟩)
        obtain ⟨q, _, e⟩ := List.mem_map.1 hm
        show faP (f2 i).2 = f2 i
        rw [← e]
      have hpL : l.Perm (gF f2 l.length) := by
        have h1 : ((gF f2 l.length).map faP).Perm (l.map faP) := by rw [hL]; exact hperm
        have h2 := (h1.map (fun a : Fa => a.2))
        rw [List.map_map, List.map_map] at h2
        have e1 : (fun a : Fa => a.2) ∘ faP = id := rfl
        rw [e1, List.map_id, List.map_id] at h2
        exact h2.symm
      have hso : sortedF (gF f2 l.length) := by
        have : ((gF f2 l.length).map faP).Pairwise (fun a b => ¬ cF b a < 0) := by
          rw [hL, List.pairwise_map]
          refine List.Pairwise.imp_of_mem ?_ (@List.pairwise_lt_range l.length)
          intro i j hi hj hij
          exact O i j (Nat.zero_le _) hij (List.mem_range.1 hj)
        exact List.pairwise_map.1 this
      have sm : ∀ j, j < h.length + 6 → h2[j]? = h1[j]? := fun j hj => S2.same j (by omega) (fun hm => by have := (hold j hm).1; omega)
      have hl2 := S2.len
      have lv2 : loadS h2 none (.pointer (some ⟨h.length + 3, 0, none⟩)) = some (.slice (some ⟨b, 0, none⟩) l.length (UNK + 3)) := by rw [load_same' (sm _ (by omega))]; exact lv
      repeat (first | apply Z1 | apply Z2 | apply Z3 | apply Z4 | apply Z5 rfl | apply Z6 | apply Z7 | apply Z8 | apply Z9 | apply ZA | apply ZB | apply ZC | ((first | apply ZD (by decide) | apply ZN (by decide)); (simp (maxSteps := 9999999) only [go_sem, k7, lv, cs, lv2]; rfl)) | (refine ZE ?_ ?_; · simp only [go_sem]) | (refine ZF ?_ ?_; · simp only [go_sem]))
      refine run_loop (fcopy_loop _ (n := h.length) (cap := UNK + 3) hlen S2 l.length _ _ _ _ ⟨0, .slice none 0 0, by omega, by simp only [go_sem, k2], by simp only [go_sem, k6], by simp only [go_sem, k3], by simp only [go_sem], by simp only [go_sem], by simp only [go_sem], AccS.nil0 _ 2 34, rfl, rfl⟩) ?_
      rintro ex ρ2 ms2 h3 d3 ⟨rfl, rfl, rfl, v, q2, q6, q3, A⟩
      have hle3 := A.le
      have s3 : ∀ j, j < h.length + 6 → h3[j]? = h1[j]? := fun j hj => by rw [A.same j (by omega), sm j hj]
      have lu : loadS h3 (some 2) (.pointer (some ⟨h.length + 2, 0, none⟩)) = some (.agg #[.int .i64 u.1, .int .i64 u.2]) := by
        have := load_bn (b := h.length + 2) (h := h3) (p := u) (el := 68) (own := 0) (old := []) (by rw [s3 _ (by omega)]; exact F.hz) rfl []
        rwa [List.append_nil] at this
      have hun3 : h3[h.length + 1]? = some (.cells [.int .i64 0, .int .i64 0] 34 true 0 []) := by rw [s3 _ (by omega)]; exact hun
      have st : ∀ base, storeS base h3 [] (h.length + 1) 0 (cellsL (.agg #[.int .i64 u.1, .int .i64 u.2])) = some (h3.set (h.length + 1) (.cells [.int .i64 u.1, .int .i64 u.2] 34 true 0 []), []) := fun base => store_at (base := base) (vs := [.int .i64 u.1, .int .i64 u.2]) hun3 rfl (Nat.zero_lt_succ _) rfl (fun _ => rfl) [] rfl
      have lu2 : loadS (h3.set (h.length + 1) (.cells [.int .i64 u.1, .int .i64 u.2] 34 true 0 [])) (some 2) (.pointer (some ⟨h.length + 1, 0, none⟩)) = some (.agg #[.int .i64 u.1, .int .i64 u.2]) := by
        have := load_bn (p := u) (h := h3.set (h.length + 1) (.cells [.int .i64 u.1, .int .i64 u.2] 34 true 0 [])) (b := h.length + 1) (el := 34) (own := 0) (old := []) (by rw [List.getElem?_set_self (by omega)]) rfl []
        rwa [List.append_nil] at this
      have A4 : AccS (h ++ []) (h3.set (h.length + 1) (.cells [.int .i64 u.1, .int .i64 u.2] 34 true 0 [])) v (prs (gF f2 l.length)) l.length 2 34 := by
        rw [List.append_nil]
        refine ⟨(A.acc.lo (show h.length ≤ h2.length by omega)).keep (fun b e => ?_), by simp; omega, fun j hj => ?_⟩
        · have := A.acc.lt e
          rw [List.getElem?_set_ne (by omega)]
        · rw [List.getElem?_set_ne (by omega), s3 j (by omega), hfr j hj]
      generalize h3.set (h.length + 1) (.cells [.int .i64 u.1, .int .i64 u.2] 34 true 0 []) = h4 at *
      obtain ⟨va, vc, rfl⟩ := A.shape
      repeat (first | apply Z1 | apply Z2 | apply Z3 | apply Z4 | apply Z5 rfl | apply Z6 | apply Z7 | apply Z8 | apply Z9 | apply ZA | apply ZB | apply ZC | ((first | apply ZD (by decide) | apply ZN (by decide)); (simp (maxSteps := 9999999) only [go_sem, q2, q6, q3, lu, ↓st]; rfl)) | (refine ZE ?_ ?_; · simp only [go_sem]) | (refine ZF ?_ ?_; · simp only [go_sem]))
      refine end_nil ⟨_, ⟨u, gF f2 l.length, Fac.perm ⟨I.eq, hu, I.isP⟩ hpL, hso, by rw [gF_len]⟩, ?_⟩
      exact A4.q3 (l := [.int .i64 u.1, .int .i64 u.2]) (.int .i64 0) (by simp only [go_sem, q2]) lu2 rfl (by simp only [go_sem]) (by simp only [go_sem]) rfl
  obtain ⟨r, ⟨u, L, a, b, rfl⟩, e⟩ := key
  exact ⟨u, L, a, b, e⟩
end Go.Proofs.YtdmfhdnpakgkpaaDoor.Sh

set_option maxRecDepth 100000
set_option maxHeartbeats 4000000
namespace Go.Proofs.YtdmfhdnpakgkpaaDoor.Sh
open Go
end Go.Proofs.YtdmfhdnpakgkpaaDoor.Sh

set_option maxRecDepth 100000
set_option maxHeartbeats 4000000
namespace Go.Proofs.YtdmfhdnpakgkpaaDoor.Sh
open Go
structure LS (H h : SHeap) (x u z : Int × Int) : Prop where
  fr : ∀ j, j < H.length → h[j]? = H[j]?
  x0 : h[H.length]? = some (bx x)
  u0 : h[H.length + 1]? = some (bx u)
  z0 : h[H.length + 2]? = some (bx z)
theorem LS.lt {H h : SHeap} {x u z : Int × Int} (S : LS H h x u z) : H.length + 2 < h.length := (List.getElem?_eq_some_iff.1 S.z0).1
theorem LS.app {H h : SHeap} {x u z : Int × Int} (S : LS H h x u z) (g : SHeap) : LS H (h ++ g) x u z := by
  have := S.lt
  have k : ∀ j, j < h.length → (h ++ g)[j]? = h[j]? := fun j hj => List.getElem?_append_left hj
  exact ⟨fun j hj => by rw [k j (by omega)]; exact S.fr j hj, by rw [k _ (by omega)]; exact S.x0, by rw [k _ (by omega)]; exact S.u0, by rw [k _ (by omega)]; exact S.z0⟩
theorem LS.set {H h : SHeap} {x u z : Int × Int} (S : LS H h x u z) (z' : Int × Int) : LS H (h.set (H.length + 2) (bx z')) x u z' := by
  have := S.lt
  have k : ∀ j, j ≠ H.length + 2 → (h.set (H.length + 2) (bx z'))[j]? = h[j]? := fun j hj => List.getElem?_set_ne (by omega)
  exact ⟨fun j hj => by rw [k j (by omega)]; exact S.fr j hj, by rw [k _ (by omega)]; exact S.x0, by rw [k _ (by omega)]; exact S.u0, by rw [List.getElem?_set_self (by omega)]⟩
theorem PS.fr {H h : SHeap} {v : Value} {L : List (Int × Int)} (k : PS H v L) (fr : ∀ j, j < H.length → h[j]? = H[j]?) : PS h v L := by
  obtain ⟨a, c, e, k⟩ := k
  refine ⟨a, c, e, fun hne => ?_⟩
  obtain ⟨b, o, ha, hp⟩ := k hne
  have e2 := fr b hp.lt
  obtain ⟨pre, post, el2, pf, own, old, h1, h2⟩ := hp
  exact ⟨b, o, ha, pre, post, el2, pf, own, old, by rw [e2]; exact h1, h2⟩
end Go.Proofs.YtdmfhdnpakgkpaaDoor.Sh

set_option maxRecDepth 100000
set_option maxHeartbeats 4000000
namespace Go.Proofs.YtdmfhdnpakgkpaaDoor.Sh
open Go
theorem eu_dv : ∀ (x y : Int × Int), (dv (eu x y) x ∧ dv (eu x y) y) ∧ ∀ g, dv g x → dv g y → dv g (eu x y) := by
  have key : ∀ (k : Nat) (x y : Int × Int), (nrm y).toNat = k → (dv (eu x y) x ∧ dv (eu x y) y) ∧ ∀ g, dv g x → dv g y → dv g (eu x y) := by
    intro k
    induction k using Nat.strongRecOn with
    | _ k ih =>
      intro x y hk
      by_cases c : y = (0, 0)
      · subst c
        rw [eu_0]
        exact ⟨⟨dv_refl x, dv_zero x⟩, fun g h1 _ => h1⟩
      · have hn := nrm_pos c
        have rn := rest_nrm (x := x) hn
        have r0 := nrm_nonneg (restP x y)
        rw [eu_s c]
        obtain ⟨⟨h1, h2⟩, h3⟩ := ih _ (by omega) y (restP x y) rfl
        refine ⟨⟨?_, h1⟩, fun g g1 g2 => h3 g g2 ?_⟩
        · have := quo_rest x y
          generalize eu y (restP x y) = e at *
          rw [this]
          exact dv_add (dv_mul h1 _) h2
        · unfold restP
          exact dv_sub g1 (dv_mul g2 _)
  exact fun x y => key _ x y rfl
theorem gcd_dv (x y : Int × Int) : dv (gcdP x y) x ∧ dv (gcdP x y) y := ⟨fir_dv (eu_dv x y).1.1, fir_dv (eu_dv x y).1.2⟩
theorem gcd_gr {x y g : Int × Int} (h1 : dv g x) (h2 : dv g y) : dv g (gcdP x y) := by
  unfold gcdP
  rw [fir_mul, mul_comm']
  exact dv_mul ((eu_dv x y).2 g h1 h2) _
theorem dv_ne {p q : Int × Int} (h : dv p q) (hq : q ≠ (0, 0)) : p ≠ (0, 0) := by
  rintro rfl
  obtain ⟨k, rfl⟩ := h
  exact hq (mul_zero' k)
theorem dv_cancel {a b z : Int × Int} (hz : z ≠ (0, 0)) (h : dv (mulP a z) (mulP b z)) : dv a b := by
  obtain ⟨k, hk⟩ := h
  exact ⟨k, mul_cancel hz (by rw [mul_comm' z b, hk, mul_comm' z, mul_assoc'])⟩
theorem dv_scale {a b : Int × Int} (h : dv a b) (z : Int × Int) : dv (mulP a z) (mulP b z) := by
  obtain ⟨k, rfl⟩ := h
  exact ⟨k, mul_assoc' _ _ _⟩
theorem gcd_scale {x y z : Int × Int} (hx : x ≠ (0, 0)) (hz : z ≠ (0, 0)) : nrm (gcdP (mulP x z) (mulP y z)) = nrm (gcdP x y) * nrm z ∧ dv z (gcdP (mulP x z) (mulP y z)) := by
  obtain ⟨c1, c2⟩ := gcd_dv x y
  obtain ⟨d1, d2⟩ := gcd_dv (mulP x z) (mulP y z)
  have hzd : dv z (gcdP (mulP x z) (mulP y z)) := gcd_gr ⟨x, rfl⟩ ⟨y, rfl⟩
  have hcz : dv (mulP (gcdP x y) z) (gcdP (mulP x z) (mulP y z)) := gcd_gr (dv_scale c1 z) (dv_scale c2 z)
  have hdc : dv (gcdP (mulP x z) (mulP y z)) (mulP (gcdP x y) z) := by
    obtain ⟨e, he⟩ := hzd
    rw [he] at d1 d2 ⊢
    exact dv_scale (gcd_gr (dv_cancel hz d1) (dv_cancel hz d2)) z
  have n1 := dv_nrm hdc (mul_ne (dv_ne c1 hx) hz)
  have n2 := dv_nrm hcz (dv_ne d1 (mul_ne hx hz))
  rw [nrm_mul] at n1 n2
  exact ⟨by omega, hzd⟩
theorem divP_true {x y : Int × Int} (h : dv x y) (hx : x ≠ (0, 0)) : divP x y = true := by
  unfold divP
  rw [if_neg hx, rest_exact hx h]; rfl
theorem count_loop37 (cx : Cx) {H : SHeap} {v : Value} {L : List (Int × Int)} {x : Int × Int} (hv : PS H v L) (hL : L.length ≤ 1000) : ∀ k ρ ms h' d', (∃ i : Nat, i + k = L.length ∧ ρ 0 = v ∧ ρ 3 = .pointer (some ⟨H.length, 0, none⟩) ∧ ρ 5 = .int .i64 ((L.take i).count x) ∧ ρ 6 = .int .i64 i ∧ ms = [] ∧ h' = H ++ [bx x] ∧ d' = []) →
    LoopW M cx 5 sf37L0 ρ ms h' d' (fun ex ρ' ms' h' d' => ex = .exit 0 ∧ ms' = [] ∧ d' = [] ∧ h' = H ++ [bx x] ∧ ρ' 5 = .int .i64 (L.count x)) := by
  refine loop_run _ ?_
  rintro k ρ ms h' d' ⟨i, hk, r0, r3, r5, r6, rfl, rfl, rfl⟩
  unfold sf37L0
  obtain ⟨a, c, rfl, kp⟩ := hv
  by_cases cz : k = 0
  · have e1 : ¬ ((i : Int) < L.length) := by omega
    repeat (first | apply Z1 | apply Z2 | apply Z3 | apply Z4 | apply Z5 rfl | apply Z6 | apply Z7 | apply Z8 | apply Z9 | apply ZA | apply ZB | apply ZC | ((first | apply ZD (by decide) | apply ZN (by decide)); (simp (maxSteps := 9999999) only [go_sem, r0, r6, e1]; rfl)) | (refine ZE ?_ ?_; · simp only [go_sem]) | (refine ZF ?_ ?_; · simp only [go_sem]))
    rw [List.take_of_length_le (by omega)] at r5
    exact end_nil ⟨rfl, rfl, rfl, rfl, by simp only [go_sem, r5]⟩
  · have e1 : ((i : Int) < L.length) := by omega
    have e2 : (0 : Int) ≤ i := by omega
    have hil : i < L.length := by omega
    obtain ⟨b, o, rfl, hp⟩ := kp (by intro e; rw [e] at hil; simp at hil)
    have lp := (hp.app [bx x]).loadN hil
    have ew : IntKind.i64.wrap ((i : Int) + 1) = ((i + 1 : Nat) : Int) := by rw [wrap64 (by omega) (by omega)]; rfl
    have ht : L.take (i + 1) = L.take i ++ [L[i]] := by rw [List.take_add_one, List.getElem?_eq_getElem hil]; rfl
    have hct : (L.take (i + 1)).count x = (L.take i).count x + if L[i] = x then 1 else 0 := by
      rw [ht, List.count_append, List.count_singleton]
      by_cases e : L[i] = x
      · rw [if_pos e, if_pos (by simpa using e)]
      · rw [if_neg e, if_neg (by simpa using e)]
    have hcl : (L.take i).count x ≤ 1000 := by
      have h1 := List.count_le_length (a := x) (l := L.take i)
      have h2 : (L.take i).length ≤ L.length := by simp; omega
      omega
    generalize (L.take i).count x = C at *
    generalize L[i] = p at *
    have ec : IntKind.i64.wrap ((C : Int) + 1) = ((C + 1 : Nat) : Int) := by rw [wrap64 (by omega) (by omega)]; rfl
    by_cases c1 : p = x
    · subst c1
      rw [if_pos rfl] at hct
      repeat (first | apply Z1 | apply Z2 | apply Z3 | apply Z4 | apply Z5 rfl | apply Z6 | apply Z7 | apply Z8 | apply Z9 | apply ZA | apply ZB | apply ZC | ((first | apply ZD (by decide) | apply ZN (by decide)); (simp (maxSteps := 9999999) only [go_sem, r0, r3, r5, r6, e1, e2, lp, ew, ec, Int.toNat_natCast]; rfl)) | (refine ZE ?_ ?_; · simp only [go_sem]) | (refine ZF ?_ ?_; · simp only [go_sem]))
      exact end_nil ⟨k - 1, by omega, i + 1, by omega, by simp only [go_sem, r0], by simp only [go_sem, r3], by rw [hct]; simp only [go_sem, ec], by simp only [go_sem, ew], rfl, rfl, rfl⟩
    · rw [if_neg c1, Nat.add_zero] at hct
      have c1' : (p = x) = False := eq_false c1
      repeat (first | apply Z1 | apply Z2 | apply Z3 | apply Z4 | apply Z5 rfl | apply Z6 | apply Z7 | apply Z8 | apply Z9 | apply ZA | apply ZB | apply ZC | ((first | apply ZD (by decide) | apply ZN (by decide)); (simp (maxSteps := 9999999) only [go_sem, r0, r3, r5, r6, e1, e2, lp, ew, ec, c1', Int.toNat_natCast]; rfl)) | (refine ZE ?_ ?_; · simp only [go_sem]) | (refine ZF ?_ ?_; · simp only [go_sem]))
      exact end_nil ⟨k - 1, by omega, i + 1, by omega, by simp only [go_sem, r0], by simp only [go_sem, r3], by rw [hct]; simp only [go_sem, r5], by simp only [go_sem, ew], rfl, rfl, rfl⟩
theorem count37 {h : SHeap} {v : Value} {L : List (Int × Int)} (x : Int × Int) (hv : PS h v L) (hL : L.length ≤ 1000) : M.call 37 [v, agV x] h = some (.int .i64 (L.count x), h, []) := by
  refine call_run sf37 rfl rfl rfl ?_
  unfold sf37
  repeat (first | apply Z1 | apply Z2 | apply Z3 | apply Z4 | apply Z5 rfl | apply Z6 | apply Z7 | apply Z8 | apply Z9 | apply ZA | apply ZB | apply ZC | ((first | apply ZD (by decide) | apply ZN (by decide)); (simp (maxSteps := 9999999) only [go_sem, argR]; rfl)) | (refine ZE ?_ ?_; · simp only [go_sem]) | (refine ZF ?_ ?_; · simp only [go_sem]))
  refine run_loop (count_loop37 _ (x := x) hv hL L.length _ _ _ _ ⟨0, by omega, by simp only [go_sem, argR], by simp only [go_sem], by simp only [go_sem]; rfl, by simp only [go_sem], rfl, rfl, rfl⟩) ?_
  rintro ex ρ' ms' h1 d1 ⟨rfl, rfl, rfl, rfl, k5⟩
  repeat (first | apply Z1 | apply Z2 | apply Z3 | apply Z4 | apply Z5 rfl | apply Z6 | apply Z7 | apply Z8 | apply Z9 | apply ZA | apply ZB | apply ZC | ((first | apply ZD (by decide) | apply ZN (by decide)); (simp (maxSteps := 9999999) only [go_sem, k5]; rfl)) | (refine ZE ?_ ?_; · simp only [go_sem]) | (refine ZF ?_ ?_; · simp only [go_sem]))
  exact end_nil (q_ret1 _ (by simp only [go_sem]) rfl (take_app _ _))
end Go.Proofs.YtdmfhdnpakgkpaaDoor.Sh

