/- Groups: first and join. The walk. -/
import Derived.Test.YtioijehbmgmgkaaH42
import Derived.Test.YtioijehbmgmgkaaH46
set_option linter.all false
namespace Go.Proofs.Ytioijehbmgmgkaa.Sh
open Go
set_option maxRecDepth 100000
set_option maxHeartbeats 4000000
def rtF (P : Nat → Nat) : Nat → Nat → Nat
  | 0, i => i
  | n + 1, i => if P i = i then i else rtF P n (P i)
def rt (P : Nat → Nat) (i : Nat) : Nat := rtF P i i
theorem rtF_ok {P : Nat → Nat} (h : ∀ k, P k ≤ k) : ∀ (n i : Nat), i ≤ n → rtF P n i = rt P i := by
  have key : ∀ (i n m : Nat), i ≤ n → i ≤ m → rtF P n i = rtF P m i := by
    intro i
    induction i using Nat.strongRecOn with
    | ind i ih =>
      intro n m hn hm
      cases n with
      | zero =>
        have : i = 0 := by omega
        subst this
        have h0 : P 0 = 0 := by have := h 0; omega
        cases m with
        | zero => rfl
        | succ m => simp [rtF, h0]
      | succ n =>
        cases m with
        | zero =>
          have : i = 0 := by omega
          subst this
          have h0 : P 0 = 0 := by have := h 0; omega
          simp [rtF, h0]
        | succ m =>
          unfold rtF
          by_cases c : P i = i
          · rw [if_pos c, if_pos c]
          · rw [if_neg c, if_neg c]
            have := h i
            exact ih (P i) (by omega) n m (by omega) (by omega)
  intro n i hi
  exact key i n i hi (Nat.le_refl _)
theorem rt_eq {P : Nat → Nat} (h : ∀ k, P k ≤ k) (i : Nat) : rt P i = if P i = i then i else rt P (P i) := by
  have e : rt P i = rtF P (i + 1) i := (rtF_ok h (i + 1) i (by omega)).symm
  rw [e]
  unfold rtF
  by_cases c : P i = i
  · rw [if_pos c, if_pos c]
  · rw [if_neg c, if_neg c, rtF_ok h i (P i) (h i)]
theorem rt_root {P : Nat → Nat} (h : ∀ k, P k ≤ k) (i : Nat) : P (rt P i) = rt P i ∧ rt P i ≤ i := by
  induction i using Nat.strongRecOn with
  | ind i ih =>
    rw [rt_eq h]
    by_cases c : P i = i
    · rw [if_pos c]; exact ⟨c, Nat.le_refl _⟩
    · rw [if_neg c]
      have := h i
      have := ih (P i) (by omega)
      exact ⟨this.1, by omega⟩
theorem rt_self {P : Nat → Nat} (h : ∀ k, P k ≤ k) {i : Nat} (hi : P i = i) : rt P i = i := by rw [rt_eq h, if_pos hi]
def upP (P : Nat → Nat) (q p : Nat) : Nat → Nat := fun k => if k = q then p else P k
theorem rt_join {P : Nat → Nat} (h : ∀ k, P k ≤ k) {p q : Nat} (hpq : p < q) (hp : P p = p) (hq : P q = q) : (∀ k, upP P q p k ≤ k) ∧ ∀ i, rt (upP P q p) i = jr (rt P) p q i := by
  have h' : ∀ k, upP P q p k ≤ k := fun k => by
    have := h k
    unfold upP; split <;> omega
  refine ⟨h', fun i => ?_⟩
  unfold jr
  induction i using Nat.strongRecOn with
  | ind i ih =>
    have rp : rt (upP P q p) p = p := rt_self h' (by unfold upP; rw [if_neg (by omega)]; exact hp)
    by_cases c : i = q
    · subst c
      rw [rt_self h hq, if_pos rfl, rt_eq h']
      have e : upP P i p i = p := by unfold upP; rw [if_pos rfl]
      rw [e, if_neg (by omega)]
      exact rp
    · have e : upP P q p i = P i := by unfold upP; rw [if_neg c]
      rw [rt_eq h', e, rt_eq h]
      by_cases c2 : P i = i
      · rw [if_pos c2, if_pos c2, if_neg c]
      · rw [if_neg c2, if_neg c2]
        have := h i
        exact ih (P i) (by omega)
theorem jr_same {ro : Nat → Nat} (a : Nat) (i : Nat) : jr ro a a i = ro i := by
  unfold jr; split <;> omega
theorem first_loop (cx : Cx) {h : SHeap} {g o : Nat} {P : Nat → Nat} (hP : ∀ k, P k ≤ k) (hl : ∀ i, i < 9 → loadS h none (.pointer (some ⟨g, o + i, none⟩)) = some (.int .i64 (P i))) {i0 : Nat} :
    ∀ k ρ ms h' d', (∃ i : Nat, i = k ∧ i < 9 ∧ rt P i = rt P i0 ∧ ρ 0 = .pointer (some ⟨g, o, none⟩) ∧ ρ 1 = .int .i64 i ∧ ms = [] ∧ h' = h ∧ d' = []) →
    LoopW M cx 5 sf57L0 ρ ms h' d' (fun ex ρ' ms' h' d' => ms' = [] ∧ h = h' ∧ d' = [] ∧ ex = .exit 0 ∧ ρ' 1 = .int .i64 (rt P i0)) := by
  refine loop_run _ ?_
  rintro k ρ ms h' d' ⟨i, hk, hi, he, r0, r1, rfl, rfl, rfl⟩
  unfold sf57L0
  have e2 : (0 : Int) ≤ i := by omega
  have e3 : (i : Int) < 9 := by omega
  have l1 := hl i hi
  by_cases c : P i = i
  · have c1 : ((P i : Nat) : Int) = i := by omega
    repeat (first | apply Z1 | apply Z2 | apply Z3 | apply Z4 | apply Z5 rfl | apply Z6 | apply Z7 | apply Z8 | apply Z9 | apply ZA | apply ZB | apply ZC | ((first | apply ZD (by decide) | apply ZN (by decide)); (simp (maxSteps := 9999999) only [go_sem, r0, r1, e2, e3, l1, c1, Int.toNat_natCast]; rfl)) | (refine ZE ?_ ?_; · simp only [go_sem]) | (refine ZF ?_ ?_; · simp only [go_sem]))
    refine end_nil ⟨rfl, rfl, rfl, rfl, ?_⟩
    rw [← he, rt_self hP c]
    simp only [go_sem, r1]
  · have c1 : ¬ ((P i : Nat) : Int) = i := by omega
    have := hP i
    repeat (first | apply Z1 | apply Z2 | apply Z3 | apply Z4 | apply Z5 rfl | apply Z6 | apply Z7 | apply Z8 | apply Z9 | apply ZA | apply ZB | apply ZC | ((first | apply ZD (by decide) | apply ZN (by decide)); (simp (maxSteps := 9999999) only [go_sem, r0, r1, e2, e3, l1, c1, ne_eq, not_false_eq_true, Int.toNat_natCast]; rfl)) | (refine ZE ?_ ?_; · simp only [go_sem]) | (refine ZF ?_ ?_; · simp only [go_sem]))
    exact end_nil ⟨P i, by omega, P i, rfl, by omega, by rw [← he, rt_eq hP i, if_neg c], by simp only [go_sem, r0], by simp only [go_sem], rfl, rfl, rfl⟩
theorem first57 {h : SHeap} {g o : Nat} {P : Nat → Nat} (hP : ∀ k, P k ≤ k) (hl : ∀ i, i < 9 → loadS h none (.pointer (some ⟨g, o + i, none⟩)) = some (.int .i64 (P i))) {i : Nat} (hi : i < 9) : M.call 57 [.pointer (some ⟨g, o, none⟩), .int .i64 i] h = some (.int .i64 (rt P i), h, []) := by
  refine call_run sf57 rfl rfl rfl ?_
  unfold sf57
  repeat (first | apply Z1 | apply Z2 | apply Z3 | apply Z4 | apply Z5 rfl | apply Z6 | apply Z7 | apply Z8 | apply Z9 | apply ZA | apply ZB | apply ZC | ((first | apply ZD (by decide) | apply ZN (by decide)); (simp (maxSteps := 9999999) only [go_sem, argR]; rfl)) | (refine ZE ?_ ?_; · simp only [go_sem]) | (refine ZF ?_ ?_; · simp only [go_sem]))
  refine run_loop (first_loop _ hP hl (i0 := i) i _ _ _ _ ⟨i, rfl, hi, rfl, by simp only [go_sem, argR], by simp only [go_sem, argR], rfl, rfl, rfl⟩) ?_
  rintro ex ρ2 ms2 h2 d2 ⟨rfl, rfl, rfl, rfl, r1⟩
  repeat (first | apply Z1 | apply Z2 | apply Z3 | apply Z4 | apply Z5 rfl | apply Z6 | apply Z7 | apply Z8 | apply Z9 | apply ZA | apply ZB | apply ZC | ((first | apply ZD (by decide) | apply ZN (by decide)); (simp (maxSteps := 9999999) only [go_sem, r1]; rfl)) | (refine ZE ?_ ?_; · simp only [go_sem]) | (refine ZF ?_ ?_; · simp only [go_sem]))
  exact end_nil (q_ret1 _ (by simp only [go_sem, r1]) rfl (take_self _))
theorem join56 {h : SHeap} {g o : Nat} {P : Nat → Nat} {cs : List Value} {el : TypeId} {pf : Bool} (hP : ∀ k, P k ≤ k) (hb : h[g]? = some (.cells cs el pf 0 [])) (hc : ∀ i, i < 9 → cs[o + i]? = some (.int .i64 (P i))) {i k : Nat} (hi : i < 9) (hk : k < 9) :
    M.call 56 [.pointer (some ⟨g, o, none⟩), .int .i64 i, .int .i64 k] h = some (.bool (decide (rt P i ≠ rt P k)), h.set g (.cells (cs.set (o + max (rt P i) (rt P k)) (.int .i64 ((min (rt P i) (rt P k) : Nat) : Int))) el pf 0 []), if pf = true then [] else [g]) := by
  have hl : ∀ i, i < 9 → loadS h none (.pointer (some ⟨g, o + i, none⟩)) = some (.int .i64 (P i)) := fun i hi => by rw [load_rdO, hb, rdO_cells, readable_0, if_pos rfl]; exact hc i hi
  have c1 := first57 hP hl hi
  have c2 := first57 hP hl hk
  have ri := (rt_root hP i).2
  have rk := (rt_root hP k).2
  generalize rt P i = a at *
  generalize rt P k = b at *
  have hlt : g < h.length := (List.getElem?_eq_some_iff.1 hb).1
  have m1 : (if (b : Int) > a then (b : Int) else a) = ((max a b : Nat) : Int) := by split <;> omega
  have m2 : (if (b : Int) < a then (b : Int) else a) = ((min a b : Nat) : Int) := by split <;> omega
  have hm : max a b < 9 := by omega
  have hcs : o + max a b < cs.length := by
    have := hc (max a b) hm
    exact (List.getElem?_eq_some_iff.1 this).1
  have z1 : (0 : Int) ≤ ((max a b : Nat) : Int) := by omega
  have z2 : ((max a b : Nat) : Int) < 9 := by omega
  have st := fun (x : Int) (d : List Nat) => store_cell (h := h) (base := h.length) (b := g) (o := o + max a b) (c := .int .i64 x) hb hcs rfl (fun _ => rfl) d
  have st2 : ∀ (x : Int) (d : List Nat), storeS h.length h d g (o + max a b) (cellsL (.int .i64 x)) = some (h.set g (.cells (cs.set (o + max a b) (.int .i64 x)) el pf 0 []), dirty h.length g pf d) := st
  have bne : (decide ((a : Int) = b)) = decide (a = b) := decide_eq_decide.2 (by omega)
  have dd : dirty h.length g pf [] = if pf = true then [] else [g] := by
    unfold dirty
    have : Nat.ble h.length g = false := by rw [ble_dec]; exact decide_eq_false (by omega)
    rw [this]
    cases pf <;> rfl
  have key : ∃ r, r = (Value.bool (decide (a ≠ b)), h.set g (.cells (cs.set (o + max a b) (.int .i64 ((min a b : Nat) : Int))) el pf 0 []), if pf = true then [] else [g]) ∧ M.call 56 [.pointer (some ⟨g, o, none⟩), .int .i64 i, .int .i64 k] h = some r := by
    refine call_ex (f := 56) _ sf56 rfl rfl rfl ?_
    unfold sf56
    have fin : ∀ (ρ : Reg) (v : Bool) (h' : SHeap), ρ 6 = .bool v → h'.length = h.length → callQ sf56.res h.length (.bool v, h', if pf = true then [] else [g]) .ret ρ [] h' (if pf = true then [] else [g]) := fun ρ v h' h6 hl' => by
      cases pf with
      | true => exact q_ret1 _ h6 rfl (by rw [← hl']; exact take_self _)
      | false =>
        refine ⟨rfl, ?_⟩
        show opn (ρ 6) fun v' => endW h.length h' [g] (.bool v, h', [g]) [v']
        rw [h6]
        rfl
    by_cases c : a = b
    · subst c
      rw [Nat.max_self, Nat.min_self] at *
      rw [decide_eq_false (by simp)]
      have m3 : (if (a : Int) > a then (a : Int) else a) = a := by split <;> rfl
      repeat (first | apply Z1 | apply Z2 | apply Z3 | apply Z4 | apply Z5 rfl | apply Z6 | apply Z7 | apply Z8 | apply Z9 | apply ZA | apply ZB | apply ZC | ((first | apply ZD (by decide) | apply ZN (by decide)); (simp (maxSteps := 9999999) only [go_sem, argR, c1, c2, m3, z1, z2, ↓st2, dd, Int.toNat_natCast]; rfl)) | (refine ZE ?_ ?_; · simp only [go_sem]) | (refine ZF ?_ ?_; · simp only [go_sem]))
      exact end_nil ⟨_, rfl, fin _ _ _ (by simp only [go_sem]) List.length_set⟩
    · have ci : ¬ (a : Int) = b := by omega
      generalize hmx : max a b = mx at *
      generalize hmn : min a b = mn at *
      rw [decide_eq_true c]
      repeat (first | apply Z1 | apply Z2 | apply Z3 | apply Z4 | apply Z5 rfl | apply Z6 | apply Z7 | apply Z8 | apply Z9 | apply ZA | apply ZB | apply ZC | ((first | apply ZD (by decide) | apply ZN (by decide)); (simp (maxSteps := 9999999) only [go_sem, argR, c1, c2, m1, m2, z1, z2, ↓st2, ci, dd, ne_eq, not_false_eq_true, Int.toNat_natCast]; rfl)) | (refine ZE ?_ ?_; · simp only [go_sem]) | (refine ZF ?_ ?_; · simp only [go_sem]))
      exact end_nil ⟨_, rfl, fin _ _ _ (by simp only [go_sem]) List.length_set⟩
  obtain ⟨r, rfl, e⟩ := key
  exact e
end Go.Proofs.Ytioijehbmgmgkaa.Sh

namespace Go.Proofs.Ytioijehbmgmgkaa.Sh
open Go
set_option maxRecDepth 100000
set_option maxHeartbeats 4000000
def pV (P : Nat → Nat) : List Value := (List.range 9).map fun i => Value.int .i64 (P i)
theorem pV_len (P : Nat → Nat) : (pV P).length = 9 := by simp [pV]
theorem pV_get (P : Nat → Nat) {i : Nat} (h : i < 9) : (pV P)[i]? = some (.int .i64 (P i)) := by simp [pV, h]
theorem pV_set (P : Nat → Nat) {i : Nat} (h : i < 9) (v : Nat) : (pV P).set i (.int .i64 v) = pV (upP P i v) := by
  apply List.ext_getElem?
  intro j
  by_cases e : j = i
  · subst e
    rw [List.getElem?_set_self (by rw [pV_len]; exact h), pV_get _ h]; simp [upP]
  · rw [List.getElem?_set_ne (fun k => e k.symm)]
    by_cases c : j < 9
    · rw [pV_get _ c, pV_get _ c]; simp [upP, e]
    · rw [List.getElem?_eq_none (by rw [pV_len]; omega), List.getElem?_eq_none (by rw [pV_len]; omega)]
theorem pV_id : pV (fun k => k) = [.int .i64 0, .int .i64 1, .int .i64 2, .int .i64 3, .int .i64 4, .int .i64 5, .int .i64 6, .int .i64 7, .int .i64 8] := rfl
theorem pV_zero : pV (fun _ => 0) = [.int .i64 0, .int .i64 0, .int .i64 0, .int .i64 0, .int .i64 0, .int .i64 0, .int .i64 0, .int .i64 0, .int .i64 0] := rfl
theorem pV_congr {P P' : Nat → Nat} (h : ∀ i, i < 9 → P i = P' i) : pV P = pV P' := by
  apply List.ext_getElem?
  intro j
  by_cases c : j < 9
  · rw [pV_get _ c, pV_get _ c, h j c]
  · rw [List.getElem?_eq_none (by rw [pV_len]; omega), List.getElem?_eq_none (by rw [pV_len]; omega)]
theorem alone_loop (cx : Cx) {H : SHeap} (hb : cx.base = H.length) :
    ∀ k ρ ms h' d', (∃ (i : Nat), i + k = 9 ∧ h' = H ++ [.cells (pV fun _ => 0) 96 true 0 [], .cells (pV fun j => if j < i then j else 0) 96 true 0 []] ∧ ρ 0 = .pointer (some ⟨H.length, 0, none⟩) ∧ ρ 1 = .pointer (some ⟨H.length + 1, 0, none⟩) ∧ ρ 3 = .int .i64 i ∧ ms = [] ∧ d' = []) →
    LoopW M cx 4 sf54L0 ρ ms h' d' (fun ex ρ' ms' h' d' => ms' = [] ∧ d' = [] ∧ ex = .exit 0 ∧ h' = H ++ [.cells (pV fun _ => 0) 96 true 0 [], .cells (pV fun j => j) 96 true 0 []] ∧ ρ' 0 = .pointer (some ⟨H.length, 0, none⟩) ∧ ρ' 1 = .pointer (some ⟨H.length + 1, 0, none⟩)) := by
  refine loop_run _ ?_
  rintro k ρ ms h' d' ⟨i, hk, rfl, r0, r1, r3, rfl, rfl⟩
  unfold sf54L0
  by_cases c : k = 0
  · have e1 : ¬ ((i : Int) < 9) := by omega
    repeat (first | apply Z1 | apply Z2 | apply Z3 | apply Z4 | apply Z5 rfl | apply Z6 | apply Z7 | apply Z8 | apply Z9 | apply ZA | apply ZB | apply ZC | ((first | apply ZD (by decide) | apply ZN (by decide)); (simp (maxSteps := 9999999) only [go_sem, r3, e1]; rfl)) | (refine ZE ?_ ?_; · simp only [go_sem]) | (refine ZF ?_ ?_; · simp only [go_sem]))
    refine end_nil ⟨rfl, rfl, rfl, ?_, by simp only [go_sem, r0], by simp only [go_sem, r1]⟩
    rw [pV_congr (P := fun j => if j < i then j else 0) (P' := fun j => j) (fun j hj => by show (if j < i then j else 0) = j; rw [if_pos (by omega)])]
  · have e1 : ((i : Int) < 9) := by omega
    have e2 : (0 : Int) ≤ i := by omega
    have ew : IntKind.i64.wrap ((i : Int) + 1) = ((i + 1 : Nat) : Int) := by rw [wrap64 (by omega) (by omega)]; rfl
    have st : ∀ d, storeS cx.base (H ++ [.cells (pV fun _ => 0) 96 true 0 [], .cells (pV fun j => if j < i then j else 0) 96 true 0 []]) d (H.length + 1) i (cellsL (.int .i64 (i : Int))) = some (H ++ [.cells (pV fun _ => 0) 96 true 0 [], .cells (pV fun j => if j < i + 1 then j else 0) 96 true 0 []], d) := fun d => by
      have := store_cell (h := H ++ [.cells (pV fun _ => 0) 96 true 0 [], .cells (pV fun j => if j < i then j else 0) 96 true 0 []]) (base := cx.base) (b := H.length + 1) (o := i) (c := .int .i64 (i : Int)) (cs := pV fun j => if j < i then j else 0) (el := 96) (pf := true) (by rw [app_get]; rfl) (by rw [pV_len]; omega) rfl (fun _ => rfl) d
      have e : pV (upP (fun j => if j < i then j else 0) i i) = pV (fun j => if j < i + 1 then j else 0) := pV_congr (fun j hj => by
        show upP (fun j => if j < i then j else 0) i i j = if j < i + 1 then j else 0
        unfold upP
        by_cases e : j = i
        · subst e; rw [if_pos rfl, if_pos (by omega)]
        · rw [if_neg e]
          dsimp only
          by_cases e2 : j < i
          · rw [if_pos e2, if_pos (by omega)]
          · rw [if_neg e2, if_neg (by omega)])
      rw [pV_set _ (by omega), app_set, e] at this
      exact this
    repeat (first | apply Z1 | apply Z2 | apply Z3 | apply Z4 | apply Z5 rfl | apply Z6 | apply Z7 | apply Z8 | apply Z9 | apply ZA | apply ZB | apply ZC | ((first | apply ZD (by decide) | apply ZN (by decide)); (simp (maxSteps := 9999999) only [go_sem, r0, r1, r3, e1, e2, ↓st, ew, Int.toNat_natCast]; rfl)) | (refine ZE ?_ ?_; · simp only [go_sem]) | (refine ZF ?_ ?_; · simp only [go_sem]))
    exact end_nil ⟨k - 1, by omega, i + 1, by omega, rfl, by simp only [go_sem, r0], by simp only [go_sem, r1], by simp only [go_sem, ew], rfl, rfl⟩
theorem alone54 (H : SHeap) : M.call 54 [] H = some (.agg (pV fun j => j).toArray, H, []) := by
  refine call_run sf54 rfl rfl rfl ?_
  unfold sf54
  repeat (first | apply Z1 | apply Z2 | apply Z3 | apply Z4 | apply Z5 rfl | apply Z6 | apply Z7 | apply Z8 | apply Z9 | apply ZA | apply ZB | apply ZC | ((first | apply ZD (by decide) | apply ZN (by decide)); (simp (maxSteps := 9999999) only [go_sem, argR]; rfl)) | (refine ZE ?_ ?_; · simp only [go_sem]) | (refine ZF ?_ ?_; · simp only [go_sem]))
  refine run_loop (alone_loop _ (H := H) rfl 9 _ _ _ _ ⟨0, rfl, rfl, by simp only [go_sem, argR], by simp only [go_sem], by simp only [go_sem], rfl, rfl⟩) ?_
  rintro ex ρ2 ms2 h2 d2 ⟨rfl, rfl, rfl, rfl, r0, r1⟩
  rw [pV_zero, pV_id]
  repeat (first | apply Z1 | apply Z2 | apply Z3 | apply Z4 | apply Z5 rfl | apply Z6 | apply Z7 | apply Z8 | apply Z9 | apply ZA | apply ZB | apply ZC | ((first | apply ZD (by decide) | apply ZN (by decide)); (simp (maxSteps := 9999999) only [go_sem, r0, r1]; rfl)) | (refine ZE ?_ ?_; · simp only [go_sem]) | (refine ZF ?_ ?_; · simp only [go_sem]))
  exact end_nil (q_free [.agg #[.int .i64 0, .int .i64 1, .int .i64 2, .int .i64 3, .int .i64 4, .int .i64 5, .int .i64 6, .int .i64 7, .int .i64 8]] (by simp only [go_sem, r0]) rfl rfl rfl (fun _ => rfl) (take_app _ _) rfl)
def nd (x : Int) : Nat := x.toNat
def stepP (P : Nat → Nat) (s : T3) : Nat → Nat := upP P (max (rt P (nd s.1)) (rt P (nd s.2.1))) (min (rt P (nd s.1)) (rt P (nd s.2.1)))
def stepT (a : (Nat → Nat) × List T3) (s : T3) : (Nat → Nat) × List T3 := (stepP a.1 s, if rt a.1 (nd s.1) ≠ rt a.1 (nd s.2.1) then a.2 ++ [s] else a.2)
def treeF (L : List T3) : (Nat → Nat) × List T3 := L.foldl stepT (fun k => k, [])
theorem stepP_le {P : Nat → Nat} (h : ∀ k, P k ≤ k) (s : T3) : ∀ k, stepP P s k ≤ k := fun k => by
  have := h k
  unfold stepP upP
  split
  · rename_i e; omega
  · exact this
theorem treeF_le (L : List T3) : ∀ k, (treeF L).1 k ≤ k := by
  have : ∀ (L : List T3) (a : (Nat → Nat) × List T3), (∀ k, a.1 k ≤ k) → ∀ k, (L.foldl stepT a).1 k ≤ k := by
    intro L
    induction L with
    | nil => intro a h; exact h
    | cons s L ih => intro a h; exact ih _ (stepP_le h s)
  exact this L _ (fun k => Nat.le_refl k)
theorem treeF_snoc (L : List T3) (s : T3) : treeF (L ++ [s]) = stepT (treeF L) s := by
  unfold treeF; rw [List.foldl_append]; rfl
theorem take_snoc {L : List T3} {i : Nat} (hi : i < L.length) : L.take (i + 1) = L.take i ++ [gT L i] := by
  rw [List.take_add_one, List.getElem?_eq_getElem hi, gT_at hi]; rfl
def rfA71_0 : SCode := (.region 0 [ ⟨(some 6), none, .alloc 78 true [(.int .i64 0), (.int .i64 0), (.int .i64 0)], none, 0, false, []⟩, ⟨none, none, .store 3 (.tmp 6) (.tmp 11), none, 1, false, []⟩])
def rfB71_0 : SCode := (.block 1 (.seq (.region 0 [ ⟨(some 12), none, .load none (.tmp 4), none, 0, false, []⟩, ⟨(some 13), none, .idxArr 3 1 (.tmp 6) (.const (.int .i64 0)), none, 1, false, []⟩, ⟨(some 14), none, .load none (.tmp 13), none, 2, false, []⟩, ⟨(some 15), none, .idxArr 3 1 (.tmp 6) (.const (.int .i64 1)), none, 3, false, []⟩, ⟨(some 16), none, .load none (.tmp 15), none, 4, false, []⟩, ⟨(some 17), none, .call (.tmp 12) [(.tmp 14), (.tmp 16)], none, 5, false, []⟩]) (.cond (.tmp 17) (.region 0 [ ⟨(some 18), none, .load none (.tmp 5), none, 0, false, []⟩, ⟨(some 19), none, .load (some 3) (.tmp 6), none, 1, false, []⟩, ⟨(some 20), none, .buildSlice 78 true [(.int .i64 0), (.int .i64 0), (.int .i64 0)] 1 [(0, 3, (.tmp 19))], none, 2, false, []⟩, ⟨(some 21), none, .append 78 true 3 24 (.tmp 18) (.tmp 20), none, 3, false, []⟩, ⟨none, none, .store 1 (.tmp 5) (.tmp 21), none, 4, false, []⟩]) (.skip))))
structure JT (N q : Nat) (t : T) (H : SHeap) (L : List T3) (h : SHeap) (d : List Nat) : Prop where
  len : q ≤ h.length
  nq : N + 7 ≤ q
  low : ∀ j, j < N → h[j]? = H[j]?
  gr : h[N + 1]? = some (.cells (pV (treeF L).1) 96 true 0 [])
  jn : h[N + 2]? = some (.cells [.func (.func 56) #[.pointer (some ⟨N + 1, 0, none⟩)] #[]] 101 false 0 [])
  out : ∃ qv, h[N + 3]? = some (.cells [qv] 23 false 0 []) ∧ Acc q h qv (trs (treeF L).2) (treeF L).2.length 3 78
  df : h[N + 5]? = some .deferred
  lp : h[N + 6]? = some (.loop 0 71 t [11] rfA71_0 rfB71_0 none (N + 5))
  d1 : d = [] ↔ (treeF L).2 = []
  d2 : ∀ x ∈ d, x = N + 3
theorem JT.app {N q : Nat} {t : T} {H : SHeap} {L : List T3} {h : SHeap} {d : List Nat} (J : JT N q t H L h d) (x : SHeap) : JT N q t H L (h ++ x) d := by
  have hl := J.len
  have nq := J.nq
  have k : ∀ j, j < h.length → (h ++ x)[j]? = h[j]? := fun j hj => List.getElem?_append_left hj
  obtain ⟨qv, o1, o2⟩ := J.out
  exact ⟨by simp; omega, nq, fun j hj => by rw [k j (by omega)]; exact J.low j hj, by rw [k _ (by omega)]; exact J.gr, by rw [k _ (by omega)]; exact J.jn, ⟨qv, by rw [k _ (by omega)]; exact o1, o2.keep (fun b e => k b (o2.lt e).2)⟩, by rw [k _ (by omega)]; exact J.df, by rw [k _ (by omega)]; exact J.lp, J.d1, J.d2⟩
theorem JT.fr {N q : Nat} {t : T} {H : SHeap} {L : List T3} {h h' : SHeap} {d d' : List Nat} {s : T3} (J : JT N q t H L h d) (hl : q ≤ h'.length) (k : ∀ j, j < N + 7 → j ≠ N + 1 → j ≠ N + 3 → h'[j]? = h[j]?)
    (gr : h'[N + 1]? = some (.cells (pV (stepP (treeF L).1 s)) 96 true 0 [])) (out : ∃ qv, h'[N + 3]? = some (.cells [qv] 23 false 0 []) ∧ Acc q h' qv (trs (stepT (treeF L) s).2) (stepT (treeF L) s).2.length 3 78)
    (d1 : d' = [] ↔ (stepT (treeF L) s).2 = []) (d2 : ∀ x ∈ d', x = N + 3) : JT N q t H (L ++ [s]) h' d' := by
  have nq := J.nq
  refine ⟨hl, nq, fun j hj => by rw [k j (by omega) (by omega) (by omega)]; exact J.low j hj, ?_, by rw [k _ (by omega) (by omega) (by omega)]; exact J.jn, ?_, by rw [k _ (by omega) (by omega) (by omega)]; exact J.df, by rw [k _ (by omega) (by omega) (by omega)]; exact J.lp, ?_, d2⟩
  · rw [treeF_snoc]; exact gr
  · rw [treeF_snoc]; exact out
  · rw [treeF_snoc]; exact d1
end Go.Proofs.Ytioijehbmgmgkaa.Sh

namespace Go.Proofs.Ytioijehbmgmgkaa.Sh
open Go
set_option maxRecDepth 100000
set_option maxHeartbeats 4000000
end Go.Proofs.Ytioijehbmgmgkaa.Sh

namespace Go.Proofs.Ytioijehbmgmgkaa.Sh
open Go
set_option maxRecDepth 100000
set_option maxHeartbeats 4000000
theorem JT.fin {N q : Nat} {t : T} {H : SHeap} {L : List T3} {h : SHeap} {d : List Nat} (J : JT N q t H L h d) : ∃ q', JT N q' t H L (finD (N + 7) h d) d := by
  cases d with
  | cons a d => exact ⟨q, J⟩
  | nil =>
    have hl := J.d1.1 rfl
    have jl := J.len
    have nq := J.nq
    have k : ∀ j, j < N + 7 → (h.take (N + 7))[j]? = h[j]? := fun j hj => by rw [List.getElem?_take, if_pos hj]
    obtain ⟨qv, o1, o2⟩ := J.out
    exact ⟨N + 7, ⟨by show N + 7 ≤ (h.take (N + 7)).length; rw [List.length_take]; omega, Nat.le_refl _, fun j hj => by show (h.take (N + 7))[j]? = _; rw [k j (by omega)]; exact J.low j hj, by show (h.take (N + 7))[N + 1]? = _; rw [k _ (by omega)]; exact J.gr, by show (h.take (N + 7))[N + 2]? = _; rw [k _ (by omega)]; exact J.jn, ⟨qv, by show (h.take (N + 7))[N + 3]? = _; rw [k _ (by omega)]; exact o1, by
      rcases o2 with o2 | ⟨_, _, _, _, _, h0, _⟩
      · exact .inl o2
      · rw [hl] at h0; exact (h0 rfl).elim⟩, by show (h.take (N + 7))[N + 5]? = _; rw [k _ (by omega)]; exact J.df, by show (h.take (N + 7))[N + 6]? = _; rw [k _ (by omega)]; exact J.lp, J.d1, J.d2⟩⟩
def SB (S : List T3) : Prop := ∀ s ∈ S, (0 ≤ s.1 ∧ s.1 ≤ 8) ∧ (0 ≤ s.2.1 ∧ s.2.1 ≤ 8) ∧ 0 ≤ s.2.2 ∧ s.2.2 ≤ 1000
theorem SB.nat {S : List T3} (h : SB S) {s : T3} (hs : s ∈ S) : ∃ x y : Nat, x < 9 ∧ y < 9 ∧ s = ((x : Int), (y : Int), s.2.2) := by
  obtain ⟨⟨a, b⟩, ⟨c, d⟩, _⟩ := h s hs
  obtain ⟨u, v, w⟩ := s
  obtain ⟨x, hx⟩ := Int.eq_ofNat_of_zero_le a
  obtain ⟨y, hy⟩ := Int.eq_ofNat_of_zero_le c
  dsimp only at *
  subst hx hy
  exact ⟨x, y, by omega, by omega, rfl⟩
theorem gT_mem {L : List T3} {i : Nat} (hi : i < L.length) : gT L i ∈ L := by rw [← gT_at hi]; exact List.getElem_mem hi
end Go.Proofs.Ytioijehbmgmgkaa.Sh

namespace Go.Proofs.Ytioijehbmgmgkaa.Sh
open Go
set_option maxRecDepth 100000
set_option maxHeartbeats 4000000
def gV (G : Nat → Nat) (m : Nat) : List Value := (List.range m).map fun i => Value.int .i64 (G i)
theorem gV_len (G : Nat → Nat) (m : Nat) : (gV G m).length = m := by simp [gV]
theorem gV_get (G : Nat → Nat) {m i : Nat} (h : i < m) : (gV G m)[i]? = some (.int .i64 (G i)) := by simp [gV, h]
theorem gV_set (G : Nat → Nat) {m i : Nat} (h : i < m) (v : Nat) : (gV G m).set i (.int .i64 v) = gV (upP G i v) m := by
  apply List.ext_getElem?
  intro j
  by_cases e : j = i
  · subst e
    rw [List.getElem?_set_self (by rw [gV_len]; exact h), gV_get _ h]; simp [upP]
  · rw [List.getElem?_set_ne (fun k => e k.symm)]
    by_cases c : j < m
    · rw [gV_get _ c, gV_get _ c]; simp [upP, e]
    · rw [List.getElem?_eq_none (by rw [gV_len]; omega), List.getElem?_eq_none (by rw [gV_len]; omega)]
def GB (lo B m : Nat) (G : Nat → Nat) (h : SHeap) : Prop := ∃ old, h[B]? = some (.cells (gV G m) 3 true 0 old) ∧ (∀ c ∈ old, lo ≤ c ∧ c < B) ∧ lo ≤ B
theorem GB.store {lo B m : Nat} {G : Nat → Nat} {h : SHeap} (g : GB lo B m G h) {i : Nat} (hi : i < m) (v : Nat) :
    ∃ h', (∀ base d, storeS base h d B i (cellsL (.int .i64 (v : Int))) = some (h', d)) ∧ GB lo B m (upP G i v) h' ∧ h'.length = h.length ∧ ∀ j, (j < lo ∨ B < j) → h'[j]? = h[j]? := by
  obtain ⟨old, e, ho, hlo⟩ := g
  have hB : B < h.length := (List.getElem?_eq_some_iff.1 e).1
  refine ⟨(killAll h old).set B (.cells (gV (upP G i v) m) 3 true 0 []), fun base d => ?_, ⟨[], ?_, (fun c hc => by cases hc), hlo⟩, by simp [killAll_len], fun j hj => ?_⟩
  · rw [cells_int, store_def, e]
    dsimp only
    have e2 : Nat.ble (i + 1) (gV G m).length = true := by rw [ble_dec, gV_len]; simp; omega
    show (if ((0 : Nat) == 0 && Nat.ble (i + 1) (gV G m).length && Nat.blt 0 1 && [Value.int .i64 (v : Int)].all oneC && (!true || [Value.int .i64 (v : Int)].all sc)) = true then _ else _) = _
    rw [e2]
    show some ((killAll h old).set B (.cells (writeAt (gV G m) i [.int .i64 v]) 3 true 0 []), dirty base B true d) = _
    rw [← gV_set G hi v]
    rfl
  · rw [List.getElem?_set_self (by rw [killAll_len]; exact hB)]
  · rw [List.getElem?_set_ne (by omega), killAll_same old h (fun hm => by have := ho j hm; omega)]
theorem GB.load {lo B m : Nat} {G : Nat → Nat} {h : SHeap} (g : GB lo B m G h) {i : Nat} (hi : i < m) : loadS h none (.pointer (some ⟨B, i, none⟩)) = some (.int .i64 (G i)) := by
  obtain ⟨old, e, _⟩ := g
  rw [load_rdO, e, rdO_cells, readable_0, if_pos rfl, gV_get _ hi]
theorem GB.fr {lo B m : Nat} {G : Nat → Nat} {h h' : SHeap} (g : GB lo B m G h) (e : h'[B]? = h[B]?) : GB lo B m G h' := by
  obtain ⟨old, e1, h2⟩ := g
  exact ⟨old, by rw [e]; exact e1, h2⟩
def relab (G : Nat → Nat) (u v : Nat) : Nat → Nat := fun k => if G k = v then u else G k
def stepG (a : (Nat → Nat) × List T3) (s : T3) : (Nat → Nat) × List T3 :=
  if a.1 (nd s.1) = a.1 (nd s.2.1) then a else (relab a.1 (a.1 (nd s.1)) (a.1 (nd s.2.1)), a.2 ++ [s])
theorem gV_congr {G G' : Nat → Nat} {m : Nat} (h : ∀ i, i < m → G i = G' i) : gV G m = gV G' m := by
  apply List.ext_getElem?
  intro j
  by_cases c : j < m
  · rw [gV_get _ c, gV_get _ c, h j c]
  · rw [List.getElem?_eq_none (by rw [gV_len]; omega), List.getElem?_eq_none (by rw [gV_len]; omega)]
theorem GB.congr {lo B m : Nat} {G G' : Nat → Nat} {h : SHeap} (g : GB lo B m G h) (e : ∀ i, i < m → G i = G' i) : GB lo B m G' h := by
  obtain ⟨old, e1, h2⟩ := g
  exact ⟨old, by rw [← gV_congr e]; exact e1, h2⟩
structure GT (H : SHeap) (lo B m : Nat) (G : Nat → Nat) (T : List T3) (qv : Value) (h : SHeap) : Prop where
  g : GB lo B m G h
  o : Acc (B + 1) h qv (trs T) T.length 3 78
  le : B + 1 ≤ h.length
  fr : ∀ j, j < lo → h[j]? = H[j]?
end Go.Proofs.Ytioijehbmgmgkaa.Sh

namespace Go.Proofs.Ytioijehbmgmgkaa.Sh
open Go
set_option maxRecDepth 100000
set_option maxHeartbeats 4000000
end Go.Proofs.Ytioijehbmgmgkaa.Sh

namespace Go.Proofs.Ytioijehbmgmgkaa.Sh
open Go
set_option maxRecDepth 100000
set_option maxHeartbeats 1000000
theorem upP_root {P : Nat → Nat} {a : Nat} (h : P a = a) : upP P a a = P := by
  funext k
  unfold upP
  split
  · rename_i e; rw [e, h]
  · rfl
theorem SB.nd {S : List T3} (h : SB S) {s : T3} (hs : s ∈ S) : nd s.1 < 9 ∧ nd s.2.1 < 9 := by
  obtain ⟨a, b, _⟩ := h s hs
  unfold Sh.nd
  omega
structure HD (S : List T3) : Prop where
  rng : ∀ s ∈ S, 1 ≤ s.2.2 ∧ s.2.2 ≤ 1000
  ne : S.Pairwise fun a b => a.2.2 ≠ b.2.2
theorem HD.one {S : List T3} (h : HD S) (z : Int) : (S.filter fun s => decide (s.2.2 = z)).length ≤ 1 := by
  have := h.ne.filter (fun s => decide (s.2.2 = z))
  match e : S.filter fun s => decide (s.2.2 = z) with
  | [] => rw [e]; simp
  | [_] => rw [e]; simp
  | a :: b :: l =>
    rw [e, List.pairwise_cons] at this
    have h1 : a ∈ S.filter fun s => decide (s.2.2 = z) := by rw [e]; simp
    have h2 : b ∈ S.filter fun s => decide (s.2.2 = z) := by rw [e]; simp
    simp at h1 h2
    exact (this.1 b (by simp) (h1.2.trans h2.2.symm)).elim
theorem ChkP.hd {A F : List Int} {S : List T3} (c : ChkP A F S) : HD S := by
  refine ⟨fun s hs => ?_, ?_⟩
  · obtain ⟨i, hi, e⟩ := List.mem_iff_getElem.1 hs
    have := c.ss i hi
    unfold okS at this
    rw [gT_at hi] at e
    subst e
    omega
  · rw [List.pairwise_iff_getElem]
    intro i j hi hj hij
    have := c.ss j hj
    unfold okS at this
    rw [gT_at hi, gT_at hj]
    exact this.2.2.2.2.2.2.2.2 i hij
theorem ChkP.nodes {A F : List Int} {S : List T3} (c : ChkP A F S) : ∀ s ∈ S, 0 ≤ s.1 ∧ s.1 < s.2.1 ∧ s.2.1 ≤ A.length := fun s hs => by
  obtain ⟨i, hi, e⟩ := List.mem_iff_getElem.1 hs
  have := c.ss i hi
  unfold okS at this
  rw [gT_at hi] at e
  subst e
  omega
theorem ChkP.sb {A F : List Int} {S : List T3} (c : ChkP A F S) : SB S := fun s hs => by
  have h1 := c.nodes s hs
  have h2 := c.hd.rng s hs
  have := c.n8
  omega
end Go.Proofs.Ytioijehbmgmgkaa.Sh

namespace Go.Proofs.Ytioijehbmgmgkaa.Sh
open Go
set_option maxRecDepth 100000
set_option maxHeartbeats 4000000
theorem run_rangeX {R : Rec} {cx : Cx} {dep : Nat} {f : Operand} {ps : List Nat} {as_ body : SCode} {st : List Fr} {ρ : Reg} {ms : List Nat} {h : SHeap} {d : List Nat} {Q : Post} {g : FuncId} {caps : Array Value}
    (hrnd : cx.rnd = none) (hv : evR ρ f = some (.func (.func g) #[] caps))
    (hw : ∀ t : T, Full dep t → t.get = ρ → ∃ v2 h2 d2, R.call g (.func (.yield (h.length + 1)) #[] #[] :: caps.toList) (h ++ [.deferred, .loop 0 cx.fn t ps as_ body none h.length]) = some (v2, h2, d2) ∧
      ∃ lst fn' t' ps' as' body' pend df, h2[h.length + 1]? = some (.loop lst fn' t' ps' as' body' pend df) ∧ (lst == 1) = false ∧
        ((pend = none ∧ Ends R cx dep .normal st ρ (h.length :: ms) (setLoop h2 (h.length + 1) 3 none) (dirts cx.base d2 d) Q) ∨
         (pend = some .ret ∧ Ends R cx dep .ret st ρ (h.length :: ms) (setLoop h2 (h.length + 1) 3 (some .ret)) (dirts cx.base d2 d) Q) ∨
         (∃ id, pend = some (.exit id) ∧ Ends R cx dep (.exit id) st ρ (h.length :: ms) (setLoop h2 (h.length + 1) 3 (some (.exit id))) (dirts cx.base d2 d) Q))) :
    Run R cx dep (.rangeFunc f ps as_ body) st ρ ms h d Q := by
  unfold Run
  intro t hf ht
  obtain ⟨v2, h2, d2, e1, lst, fn', t', ps', as', body', pend, df, e2, e3, e4⟩ := hw t hf ht
  have hv' : ev t f = some (.func (.func g) #[] caps) := by rw [ev_evR, ht]; exact hv
  have a1 : (h ++ [SO.deferred]).length = h.length + 1 := by simp
  have a2 : h ++ [SO.deferred] ++ [.loop 0 cx.fn t ps as_ body none h.length] = h ++ [.deferred, .loop 0 cx.fn t ps as_ body none h.length] := by simp
  have e1' : R.call g ((#[] : Array Value).toList ++ [.func (.yield (h.length + 1)) #[] #[]] ++ caps.toList) (h ++ [.deferred, .loop 0 cx.fn t ps as_ body none h.length]) = some (v2, h2, d2) := by
    simpa using e1
  rcases e4 with ⟨rfl, k⟩ | ⟨rfl, k⟩ | ⟨id, rfl, k⟩
  · refine ⟨.normal, t, h.length :: ms, setLoop h2 (h.length + 1) 3 none, dirts cx.base d2 d, ?_, hf, by rw [ht]; exact k⟩
    unfold exec
    simp only [hv', hrnd]
    simp only [a1, a2]
    rw [e1']
    simp only [e2, e3, if_false, Bool.false_eq_true]
  · refine ⟨.ret, t, h.length :: ms, setLoop h2 (h.length + 1) 3 (some .ret), dirts cx.base d2 d, ?_, hf, by rw [ht]; exact k⟩
    unfold exec
    simp only [hv', hrnd]
    simp only [a1, a2]
    rw [e1']
    simp only [e2, e3, if_false, Bool.false_eq_true]
  · refine ⟨.exit id, t, h.length :: ms, setLoop h2 (h.length + 1) 3 (some (.exit id)), dirts cx.base d2 d, ?_, hf, by rw [ht]; exact k⟩
    unfold exec
    simp only [hv', hrnd]
    simp only [a1, a2]
    rw [e1']
    simp only [e2, e3, if_false, Bool.false_eq_true]
def rfA18_0 : SCode := (.region 0 [ ⟨(some 12), none, .alloc 78 true [(.int .i64 0), (.int .i64 0), (.int .i64 0)], none, 0, false, []⟩, ⟨none, none, .store 3 (.tmp 12) (.tmp 45), none, 1, false, []⟩])
def rfB18_0 : SCode := (.block 1 (.seq (.region 0 [ ⟨(some 46), none, .idxArr 3 1 (.tmp 12) (.const (.int .i64 0)), none, 0, false, []⟩, ⟨(some 47), none, .load none (.tmp 46), none, 1, false, []⟩, ⟨(some 48), none, .idxArr 3 1 (.tmp 12) (.const (.int .i64 1)), none, 2, false, []⟩, ⟨(some 49), none, .load none (.tmp 48), none, 3, false, []⟩, ⟨(some 50), none, .call (.func 56) [(.tmp 10), (.tmp 47), (.tmp 49)], none, 4, false, []⟩]) (.seq (.region 0 [ ⟨(some 51), none, .load none (.tmp 4), none, 0, true, []⟩, ⟨(some 53), none, .load none (.tmp 5), none, 2, true, []⟩, ⟨(some 52), none, .call (.func 57) [(.tmp 10), (.tmp 51)], none, 1, false, [2]⟩, ⟨(some 54), none, .call (.func 57) [(.tmp 10), (.tmp 53)], none, 3, false, []⟩, ⟨(some 55), none, .eq .int false (.tmp 52) (.tmp 54), none, 4, false, []⟩]) (.cond (.tmp 55) (.seq (.region 0 [ ⟨(some 56), none, .idxArr 3 1 (.tmp 12) (.const (.int .i64 2)), none, 0, false, []⟩, ⟨(some 57), none, .load none (.tmp 56), none, 1, false, []⟩, ⟨none, none, .store 1 (.tmp 11) (.tmp 57), none, 2, false, []⟩]) (.exit 0)) (.skip)))))
def grp (L : List T3) : Nat → Nat := (treeF L).1
theorem grp_le (L : List T3) : ∀ k, grp L k ≤ k := treeF_le L
theorem grp_snoc (L : List T3) (s : T3) : grp (L ++ [s]) = stepP (grp L) s := by unfold grp; rw [treeF_snoc]; rfl
structure JL (N q : Nat) (t : T) (H : SHeap) (x y : Nat) (z : Int) (lst : Nat) (pend : Option SCode) (L : List T3) (h : SHeap) (d : List Nat) : Prop where
  len : q ≤ h.length
  nq : N + 8 ≤ q
  low : ∀ j, j < N → h[j]? = H[j]?
  b1 : h[N + 1]? = some (.cells [.int .i64 (x : Int)] 3 true 0 [])
  b2 : h[N + 2]? = some (.cells [.int .i64 (y : Int)] 3 true 0 [])
  gr : h[N + 3]? = some (.cells (pV (grp L)) 96 true 0 [])
  lc : h[N + 4]? = some (.cells [.int .i64 z] 3 true 0 [])
  df : h[N + 6]? = some .deferred
  lp : h[N + 7]? = some (.loop lst 18 t [45] rfA18_0 rfB18_0 pend (N + 6))
  d0 : d = []
theorem JL.app {N q : Nat} {t : T} {H : SHeap} {x y : Nat} {z : Int} {lst : Nat} {pend : Option SCode} {L : List T3} {h : SHeap} {d : List Nat} (J : JL N q t H x y z lst pend L h d) (g : SHeap) : JL N q t H x y z lst pend L (h ++ g) d := by
  have hl := J.len
  have nq := J.nq
  have k : ∀ j, j < h.length → (h ++ g)[j]? = h[j]? := fun j hj => List.getElem?_append_left hj
  exact ⟨by simp; omega, nq, fun j hj => by rw [k j (by omega)]; exact J.low j hj, by rw [k _ (by omega)]; exact J.b1, by rw [k _ (by omega)]; exact J.b2, by rw [k _ (by omega)]; exact J.gr, by rw [k _ (by omega)]; exact J.lc, by rw [k _ (by omega)]; exact J.df, by rw [k _ (by omega)]; exact J.lp, J.d0⟩
theorem lip_round {N q : Nat} {t : T} {H : SHeap} {L : List T3} {hh : SHeap} {d : List Nat} {x y : Nat} (hx9 : x < 9) (hy9 : y < 9) (hf : Full 6 t) (t4 : t.get 4 = .pointer (some ⟨N + 1, 0, none⟩)) (t5 : t.get 5 = .pointer (some ⟨N + 2, 0, none⟩)) (t10 : t.get 10 = .pointer (some ⟨N + 3, 0, none⟩)) (t11 : t.get 11 = .pointer (some ⟨N + 4, 0, none⟩)) (J : JL N q t H x y 0 0 none L hh d) (u v : Nat) (z : Int) (hu : u < 9) (hv : v < 9) :
    ∃ r h2 d2, M.round (N + 8) (N + 7) [.agg #[.int .i64 u, .int .i64 v, .int .i64 z]] hh = some (.bool r, h2, d2) ∧ (∀ j, N + 8 ≤ j → j < q → h2[j]? = hh[j]?) ∧
      (r = true → rt (grp (L ++ [((u : Int), (v : Int), z)])) x ≠ rt (grp (L ++ [((u : Int), (v : Int), z)])) y ∧ JL N q t H x y 0 0 none (L ++ [((u : Int), (v : Int), z)]) h2 (d2 ++ d)) ∧
      (r = false → rt (grp (L ++ [((u : Int), (v : Int), z)])) x = rt (grp (L ++ [((u : Int), (v : Int), z)])) y ∧ JL N q t H x y z 2 (some (.exit 0)) (L ++ [((u : Int), (v : Int), z)]) h2 (d2 ++ d)) ∧ q ≤ h2.length := by
  have jl := J.len
  have nq := J.nq
  have hP := grp_le L
  obtain ⟨r, ⟨b, h2, d2, rfl, hP⟩, e⟩ := round_rule (FT := FT) (C := flatK CA) (base := N + 8) (args := [.agg #[.int .i64 u, .int .i64 v, .int .i64 z]]) (fun r => ∃ b h2 d2, r = (.bool b, h2, d2) ∧ (∀ j, N + 8 ≤ j → j < q → h2[j]? = hh[j]?) ∧
      (b = true → rt (grp (L ++ [((u : Int), (v : Int), z)])) x ≠ rt (grp (L ++ [((u : Int), (v : Int), z)])) y ∧ JL N q t H x y 0 0 none (L ++ [((u : Int), (v : Int), z)]) h2 (d2 ++ d)) ∧
      (b = false → rt (grp (L ++ [((u : Int), (v : Int), z)])) x = rt (grp (L ++ [((u : Int), (v : Int), z)])) y ∧ JL N q t H x y z 2 (some (.exit 0)) (L ++ [((u : Int), (v : Int), z)]) h2 (d2 ++ d)) ∧ q ≤ h2.length) J.lp hf rfl (by decide) rfl (by
    unfold rfA18_0
    repeat (first | apply Z1 | apply Z2 | apply Z3 | apply Z4 | apply Z5 rfl | apply Z6 | apply Z7 | apply Z8 | apply Z9 | apply ZA | apply ZB | apply ZC | ((first | apply ZD (by decide) | apply ZN (by decide)); (simp (maxSteps := 9999999) only [go_sem]; rfl)) | (refine ZE ?_ ?_; · simp only [go_sem]) | (refine ZF ?_ ?_; · simp only [go_sem]))
    have hl1 : (hh ++ [SO.cells [.int .i64 u, .int .i64 v, .int .i64 z] 78 true 0 []])[N + 7]? = some (.loop 0 18 t [45] rfA18_0 rfB18_0 none (N + 6)) := by rw [List.getElem?_append_left (by omega)]; exact J.lp
    refine end_nil ⟨rfl, ⟨18, t, [45], _, _, N + 6, hl1⟩, ?_⟩
    rw [setLoop_eq hl1]
    have g0 : ∀ j, j ≠ N + 7 → j < hh.length → ((hh ++ [SO.cells [.int .i64 u, .int .i64 v, .int .i64 z] 78 true 0 []]).set (N + 7) (.loop 1 18 t [45] rfA18_0 rfB18_0 none (N + 6)))[j]? = hh[j]? := fun j hj hj2 => by rw [List.getElem?_set_ne (by omega), List.getElem?_append_left hj2]
    have g1 : ((hh ++ [SO.cells [.int .i64 u, .int .i64 v, .int .i64 z] 78 true 0 []]).set (N + 7) (.loop 1 18 t [45] rfA18_0 rfB18_0 none (N + 6)))[N + 7]? = some (.loop 1 18 t [45] rfA18_0 rfB18_0 none (N + 6)) := by rw [List.getElem?_set_self (by simp; omega)]
    have gs : ((hh ++ [SO.cells [.int .i64 u, .int .i64 v, .int .i64 z] 78 true 0 []]).set (N + 7) (.loop 1 18 t [45] rfA18_0 rfB18_0 none (N + 6)))[hh.length]? = some (.cells [.int .i64 u, .int .i64 v, .int .i64 z] 78 true 0 []) := by rw [List.getElem?_set_ne (by omega), app_get0]; rfl
    have gl : ((hh ++ [SO.cells [.int .i64 u, .int .i64 v, .int .i64 z] 78 true 0 []]).set (N + 7) (.loop 1 18 t [45] rfA18_0 rfB18_0 none (N + 6))).length = hh.length + 1 := by simp
    generalize (hh ++ [SO.cells [.int .i64 u, .int .i64 v, .int .i64 z] 78 true 0 []]).set (N + 7) (.loop 1 18 t [45] rfA18_0 rfB18_0 none (N + 6)) = G at *
    have ls : ∀ o, loadS G none (.pointer (some ⟨hh.length, o, none⟩)) = [Value.int .i64 u, .int .i64 v, .int .i64 z][o]? := fun o => by rw [load_rdO, gs]; rfl
    have cj := join56 (h := G) (g := N + 3) (o := 0) (P := grp L) (cs := pV (grp L)) (el := 96) (pf := true) hP (by rw [g0 _ (by omega) (by omega)]; exact J.gr) (fun i hi => by rw [Nat.zero_add]; exact pV_get _ hi) hu hv
    have hmax : max (rt (grp L) u) (rt (grp L) v) < 9 := by
      have := (rt_root hP u).2
      have := (rt_root hP v).2
      omega
    rw [Nat.zero_add, pV_set _ hmax] at cj
    simp only [if_true] at cj
    have hst : upP (grp L) (max (rt (grp L) u) (rt (grp L) v)) (min (rt (grp L) u) (rt (grp L) v)) = grp (L ++ [((u : Int), (v : Int), z)]) := by rw [grp_snoc]; unfold stepP nd; simp only [Int.toNat_natCast]
    rw [hst] at cj
    have hP' := grp_le (L ++ [((u : Int), (v : Int), z)])
    generalize hPe : grp (L ++ [((u : Int), (v : Int), z)]) = P at *
    have k1 : ∀ j, j ≠ N + 3 → (G.set (N + 3) (.cells (pV P) 96 true 0 []))[j]? = G[j]? := fun j hj => List.getElem?_set_ne (fun e => hj e.symm)
    have k2 : (G.set (N + 3) (.cells (pV P) 96 true 0 []))[N + 3]? = some (.cells (pV P) 96 true 0 []) := List.getElem?_set_self (by omega)
    have kl : (G.set (N + 3) (.cells (pV P) 96 true 0 [])).length = G.length := List.length_set
    generalize (G.set (N + 3) (.cells (pV P) 96 true 0 [])) = G1 at *
    have lP : ∀ i, i < 9 → loadS G1 none (.pointer (some ⟨N + 3, 0 + i, none⟩)) = some (.int .i64 (P i)) := fun i hi => by rw [Nat.zero_add, load_rdO, k2, rdO_cells, readable_0, if_pos rfl, pV_get _ hi]
    have cx := first57 hP' lP hx9
    have cy := first57 hP' lP hy9
    have lx : loadS G1 none (.pointer (some ⟨N + 1, 0, none⟩)) = some (.int .i64 (x : Int)) := by rw [load_rdO, k1 _ (by omega), g0 _ (by omega) (by omega), J.b1]; rfl
    have ly : loadS G1 none (.pointer (some ⟨N + 2, 0, none⟩)) = some (.int .i64 (y : Int)) := by rw [load_rdO, k1 _ (by omega), g0 _ (by omega) (by omega), J.b2]; rfl
    have ls1 : ∀ o, loadS G1 none (.pointer (some ⟨hh.length, o, none⟩)) = [Value.int .i64 u, .int .i64 v, .int .i64 z][o]? := fun o => by rw [load_rdO, k1 _ (by omega), gs]; rfl
    have hL1 : G1[N + 7]? = some (.loop 1 18 t [45] rfA18_0 rfB18_0 none (N + 6)) := by rw [k1 _ (by omega)]; exact g1
    generalize (decide (rt (grp L) u ≠ rt (grp L) v)) = bb at *
    by_cases cc : rt P x = rt P y
    · have ci : ((rt P x : Nat) : Int) = (rt P y : Nat) := by omega
      have st : ∀ d, storeS (N + 8) G1 d (N + 4) 0 (cellsL (.int .i64 z)) = some (G1.set (N + 4) (.cells [.int .i64 z] 3 true 0 []), d) := fun d => store_cell (h := G1) (base := N + 8) (b := N + 4) (o := 0) (c := .int .i64 z) (cs := [.int .i64 0]) (el := 3) (pf := true) (by rw [k1 _ (by omega), g0 _ (by omega) (by omega)]; exact J.lc) (Nat.zero_lt_succ _) rfl (fun _ => rfl) d
      unfold rfB18_0
      repeat (first | apply Z1 | apply Z2 | apply Z3 | apply Z4 | apply Z5 rfl | apply Z6 | apply Z7 | apply Z8 | apply Z9 | apply ZA | apply ZB | apply ZC | ((first | apply ZD (by decide) | apply ZN (by decide)); (simp (maxSteps := 9999999) only [go_sem, t4, t5, t10, t11, ls, cj, lx, ly, cx, cy, ci, ls1, ↓st]; rfl)) | (refine ZE ?_ ?_; · simp only [go_sem]) | (refine ZF ?_ ?_; · simp only [go_sem]))
      have hL : (G1.set (N + 4) (.cells [.int .i64 z] 3 true 0 []))[N + 7]? = some (.loop 1 18 t [45] rfA18_0 rfB18_0 none (N + 6)) := by rw [List.getElem?_set_ne (by omega)]; exact hL1
      refine end_nil ⟨⟨_, _, _, _, _, _, _, _, hL⟩, false, _, _, rfl, ?_, (fun h => by cases h), fun _ => ⟨cc, ?_⟩, ?_⟩
      · intro j h1 h2
        show (setLoop _ (N + 7) 2 (some (.exit 0)))[j]? = _
        rw [setLoop_eq hL, List.getElem?_set_ne (by omega), List.getElem?_set_ne (by omega), k1 _ (by omega), g0 _ (by omega) (by omega)]
      · show JL N q t H x y z 2 (some (.exit 0)) _ (setLoop _ (N + 7) 2 (some (.exit 0))) _
        rw [setLoop_eq hL]
        have gk : ∀ j, j ≠ N + 3 → j ≠ N + 4 → j ≠ N + 7 → j < hh.length → ((G1.set (N + 4) (.cells [.int .i64 z] 3 true 0 [])).set (N + 7) (.loop 2 18 t [45] rfA18_0 rfB18_0 (some (.exit 0)) (N + 6)))[j]? = hh[j]? := fun j h1 h2 h3 h4 => by
          rw [List.getElem?_set_ne (by omega), List.getElem?_set_ne (by omega), k1 _ h1, g0 _ h3 h4]
        exact ⟨by simp; omega, nq, fun j hj => by rw [gk j (by omega) (by omega) (by omega) (by omega)]; exact J.low j hj, by rw [gk _ (by omega) (by omega) (by omega) (by omega)]; exact J.b1, by rw [gk _ (by omega) (by omega) (by omega) (by omega)]; exact J.b2, by rw [List.getElem?_set_ne (by omega), List.getElem?_set_ne (by omega), hPe]; exact k2, by rw [List.getElem?_set_ne (by omega), List.getElem?_set_self (by omega)], by rw [gk _ (by omega) (by omega) (by omega) (by omega)]; exact J.df, by rw [List.getElem?_set_self (by simp; omega)], by rw [J.d0]; rfl⟩
      · show q ≤ (setLoop _ (N + 7) 2 (some (.exit 0))).length
        rw [setLoop_eq hL]
        simp; omega
    · have ci : ¬ ((rt P x : Nat) : Int) = (rt P y : Nat) := by omega
      unfold rfB18_0
      repeat (first | apply Z1 | apply Z2 | apply Z3 | apply Z4 | apply Z5 rfl | apply Z6 | apply Z7 | apply Z8 | apply Z9 | apply ZA | apply ZB | apply ZC | ((first | apply ZD (by decide) | apply ZN (by decide)); (simp (maxSteps := 9999999) only [go_sem, t4, t5, t10, t11, ls, cj, lx, ly, cx, cy, ci]; rfl)) | (refine ZE ?_ ?_; · simp only [go_sem]) | (refine ZF ?_ ?_; · simp only [go_sem]))
      refine end_nil ⟨⟨_, _, _, _, _, _, _, _, hL1⟩, true, _, _, rfl, ?_, (fun _ => ⟨cc, ?_⟩), (fun h => by cases h), ?_⟩
      · intro j h1 h2
        show (setLoop _ (N + 7) 0 none)[j]? = _
        rw [setLoop_eq hL1, List.getElem?_set_ne (by omega), k1 _ (by omega), g0 _ (by omega) (by omega)]
      · show JL N q t H x y 0 0 none _ (setLoop _ (N + 7) 0 none) _
        rw [setLoop_eq hL1]
        have gk : ∀ j, j ≠ N + 3 → j ≠ N + 7 → j < hh.length → (G1.set (N + 7) (.loop 0 18 t [45] rfA18_0 rfB18_0 none (N + 6)))[j]? = hh[j]? := fun j h1 h3 h4 => by
          rw [List.getElem?_set_ne (by omega), k1 _ h1, g0 _ h3 h4]
        exact ⟨by simp; omega, nq, fun j hj => by rw [gk j (by omega) (by omega) (by omega)]; exact J.low j hj, by rw [gk _ (by omega) (by omega) (by omega)]; exact J.b1, by rw [gk _ (by omega) (by omega) (by omega)]; exact J.b2, by rw [List.getElem?_set_ne (by omega), hPe]; exact k2, by rw [gk _ (by omega) (by omega) (by omega)]; exact J.lc, by rw [gk _ (by omega) (by omega) (by omega)]; exact J.df, by rw [List.getElem?_set_self (by omega)], by rw [J.d0]; rfl⟩
      · show q ≤ (setLoop _ (N + 7) 0 none).length
        rw [setLoop_eq hL1]
        simp; omega)
  exact ⟨b, h2, d2, e, hP⟩
end Go.Proofs.Ytioijehbmgmgkaa.Sh

namespace Go.Proofs.Ytioijehbmgmgkaa.Sh
open Go
set_option maxRecDepth 100000
set_option maxHeartbeats 4000000
theorem JL.fin {N q : Nat} {t : T} {H : SHeap} {x y : Nat} {z : Int} {lst : Nat} {pend : Option SCode} {L : List T3} {h : SHeap} {d : List Nat} (J : JL N q t H x y z lst pend L h d) : JL N (N + 8) t H x y z lst pend L (finD (N + 8) h d) d := by
  have jl := J.len
  have nq := J.nq
  have e := J.d0
  subst e
  have k : ∀ j, j < N + 8 → (h.take (N + 8))[j]? = h[j]? := fun j hj => by rw [List.getElem?_take, if_pos hj]
  exact ⟨by show N + 8 ≤ (h.take (N + 8)).length; rw [List.length_take]; omega, Nat.le_refl _, fun j hj => by show (h.take (N + 8))[j]? = _; rw [k j (by omega)]; exact J.low j hj, by show (h.take (N + 8))[N + 1]? = _; rw [k _ (by omega)]; exact J.b1, by show (h.take (N + 8))[N + 2]? = _; rw [k _ (by omega)]; exact J.b2, by show (h.take (N + 8))[N + 3]? = _; rw [k _ (by omega)]; exact J.gr, by show (h.take (N + 8))[N + 4]? = _; rw [k _ (by omega)]; exact J.lc, by show (h.take (N + 8))[N + 6]? = _; rw [k _ (by omega)]; exact J.df, by show (h.take (N + 8))[N + 7]? = _; rw [k _ (by omega)]; exact J.lp, rfl⟩
def LipAt (L : List T3) (x y i : Nat) : Prop := i < L.length ∧ (∀ k, k ≤ i → rt (grp (L.take k)) x ≠ rt (grp (L.take k)) y) ∧ rt (grp (L.take (i + 1))) x = rt (grp (L.take (i + 1))) y
def LipNo (L : List T3) (x y : Nat) : Prop := ∀ k, k ≤ L.length → rt (grp (L.take k)) x ≠ rt (grp (L.take k)) y
def argOK (n : Nat) (x y : Int) : Prop := 0 ≤ x ∧ x < n ∧ 0 ≤ y ∧ y ≤ n ∧ x ≠ y
theorem pLip18_bad {H : SHeap} {v : Value} {A F : List Int} {S : List T3} (hv : BN H v A F S) (hc : ChkP A F S) {x y : Int} (hb : ¬ argOK A.length x y) : M.call 18 [v, .int .i64 x, .int .i64 y] H = some (.tuple #[.int .i64 0, .int .i64 1], H, []) := by
  have hv0 := hv
  obtain ⟨va, vf, vs, rfl, h1, h2, h3, hnil⟩ := hv0
  refine call_run sf18 rfl rfl rfl ?_
  generalize hX : H ++ [SO.cells [va, vf, vs] 25 false 0 [], .cells [.int .i64 x] 3 true 0 [], .cells [.int .i64 y] 3 true 0 []] = X
  have eX : Ext H X := by rw [← hX]; exact Ext.app H _
  have b0 : X[H.length]? = some (.cells [va, vf, vs] 25 false 0 []) := by rw [← hX, app_get0]; rfl
  have lb : loadS X (some 3) (.pointer (some ⟨H.length, 0, none⟩)) = some (.agg #[va, vf, vs]) := by rw [load_rdON, b0]; rfl
  have la : loadS X none (.pointer (some ⟨H.length, 0, none⟩)) = some va := by rw [load_rdO, b0]; rfl
  have lx : loadS X none (.pointer (some ⟨H.length + 1, 0, none⟩)) = some (.int .i64 x) := by rw [← hX, load_app]; rfl
  have ly : loadS X none (.pointer (some ⟨H.length + 2, 0, none⟩)) = some (.int .i64 y) := by rw [← hX, load_app]; rfl
  have n1 := hc.n1
  have n8 := hc.n8
  have nf := hc.fl
  obtain ⟨r, hr, ck⟩ := check51 (hv.fr eX).bv (by omega) (by omega)
  have hr0 : r = 0 := by rcases hr with ⟨h, _⟩ | ⟨_, h⟩; exact h; exact (h hc).elim
  subst hr0
  have tX := eX.take
  obtain ⟨a1, a2, rfl⟩ := h1.shape
  obtain ⟨f1, f2, rfl⟩ := h2.shape
  obtain ⟨s1, s2, rfl⟩ := h3.shape
  unfold argOK at hb
  unfold sf18
  by_cases c1 : x < 0
  · repeat (first | apply Z1 | apply Z2 | apply Z3 | apply Z4 | apply Z5 rfl | apply Z6 | apply Z7 | apply Z8 | apply Z9 | apply ZA | apply ZB | apply ZC | ((first | apply ZD (by decide) | apply ZN (by decide)); (simp (maxSteps := 9999999) only [go_sem, argR, hX, lb, ck, la, lx, ly, c1]; rfl)) | (refine ZE ?_ ?_; · simp only [go_sem]) | (refine ZF ?_ ?_; · simp only [go_sem]))
    exact end_nil (q_free [.int .i64 0, .int .i64 1] (by simp only [go_sem]) rfl rfl rfl (fun _ => rfl) tX rfl)
  by_cases c2 : x ≥ A.length
  · repeat (first | apply Z1 | apply Z2 | apply Z3 | apply Z4 | apply Z5 rfl | apply Z6 | apply Z7 | apply Z8 | apply Z9 | apply ZA | apply ZB | apply ZC | ((first | apply ZD (by decide) | apply ZN (by decide)); (simp (maxSteps := 9999999) only [go_sem, argR, hX, lb, ck, la, lx, ly, c1, c2]; rfl)) | (refine ZE ?_ ?_; · simp only [go_sem]) | (refine ZF ?_ ?_; · simp only [go_sem]))
    exact end_nil (q_free [.int .i64 0, .int .i64 1] (by simp only [go_sem]) rfl rfl rfl (fun _ => rfl) tX rfl)
  by_cases c3 : y < 0
  · repeat (first | apply Z1 | apply Z2 | apply Z3 | apply Z4 | apply Z5 rfl | apply Z6 | apply Z7 | apply Z8 | apply Z9 | apply ZA | apply ZB | apply ZC | ((first | apply ZD (by decide) | apply ZN (by decide)); (simp (maxSteps := 9999999) only [go_sem, argR, hX, lb, ck, la, lx, ly, c1, c2, c3]; rfl)) | (refine ZE ?_ ?_; · simp only [go_sem]) | (refine ZF ?_ ?_; · simp only [go_sem]))
    exact end_nil (q_free [.int .i64 0, .int .i64 1] (by simp only [go_sem]) rfl rfl rfl (fun _ => rfl) tX rfl)
  by_cases c4 : y > A.length
  · repeat (first | apply Z1 | apply Z2 | apply Z3 | apply Z4 | apply Z5 rfl | apply Z6 | apply Z7 | apply Z8 | apply Z9 | apply ZA | apply ZB | apply ZC | ((first | apply ZD (by decide) | apply ZN (by decide)); (simp (maxSteps := 9999999) only [go_sem, argR, hX, lb, ck, la, lx, ly, c1, c2, c3, c4]; rfl)) | (refine ZE ?_ ?_; · simp only [go_sem]) | (refine ZF ?_ ?_; · simp only [go_sem]))
    exact end_nil (q_free [.int .i64 0, .int .i64 1] (by simp only [go_sem]) rfl rfl rfl (fun _ => rfl) tX rfl)
  have c5 := eq_true (show x = y by omega)
  repeat (first | apply Z1 | apply Z2 | apply Z3 | apply Z4 | apply Z5 rfl | apply Z6 | apply Z7 | apply Z8 | apply Z9 | apply ZA | apply ZB | apply ZC | ((first | apply ZD (by decide) | apply ZN (by decide)); (simp (maxSteps := 9999999) only [go_sem, argR, hX, lb, ck, la, lx, ly, c1, c2, c3, c4, c5]; rfl)) | (refine ZE ?_ ?_; · simp only [go_sem]) | (refine ZF ?_ ?_; · simp only [go_sem]))
  exact end_nil (q_free [.int .i64 0, .int .i64 1] (by simp only [go_sem]) rfl rfl rfl (fun _ => rfl) tX rfl)
theorem pLip18 {H : SHeap} {v : Value} {A F : List Int} {S : List T3} (hv : BN H v A F S) (hc : ChkP A F S) {x y : Nat} (hx : x < A.length) (hy : y ≤ A.length) (hxy : x ≠ y) :
    ∃ L, Rise L S ∧ ∃ l e : Int, ((∃ i, LipAt L x y i ∧ l = (gT L i).2.2 ∧ e = 0) ∨ (LipNo L x y ∧ l = 0 ∧ e = 4)) ∧ M.call 18 [v, .int .i64 (x : Int), .int .i64 (y : Int)] H = some (.tuple #[.int .i64 l, .int .i64 e], H, []) := by
  have key : ∃ r, (∃ L, Rise L S ∧ ∃ l e : Int, ((∃ i, LipAt L x y i ∧ l = (gT L i).2.2 ∧ e = 0) ∨ (LipNo L x y ∧ l = 0 ∧ e = 4)) ∧ r = (Value.tuple #[.int .i64 l, .int .i64 e], H, ([] : List Nat))) ∧ M.call 18 [v, .int .i64 (x : Int), .int .i64 (y : Int)] H = some r := by
    have hv0 := hv
    obtain ⟨va, vf, vs, rfl, h1, h2, h3, hnil⟩ := hv0
    refine call_ex (f := 18) _ sf18 rfl rfl rfl ?_
    have n1 := hc.n1
    have n8 := hc.n8
    have nf := hc.fl
    have s20 := hc.s20
    have oa := SL.old h1 (fun h => by omega)
    have of := SL.old h2 (fun h => by omega)
    have os := SL.old h3 hnil
    generalize hX0 : H ++ [SO.cells [va, vf, vs] 25 false 0 [], .cells [.int .i64 (x : Int)] 3 true 0 [], .cells [.int .i64 (y : Int)] 3 true 0 []] = X0
    have eX0 : Ext H X0 := by rw [← hX0]; exact Ext.app H _
    have b0 : X0[H.length]? = some (.cells [va, vf, vs] 25 false 0 []) := by rw [← hX0, app_get0]; rfl
    have b1 : X0[H.length + 1]? = some (.cells [.int .i64 (x : Int)] 3 true 0 []) := by rw [← hX0, app_get]; rfl
    have b2 : X0[H.length + 2]? = some (.cells [.int .i64 (y : Int)] 3 true 0 []) := by rw [← hX0, app_get]; rfl
    have lX0 : X0.length = H.length + 3 := by rw [← hX0]; simp
    have lb : loadS X0 (some 3) (.pointer (some ⟨H.length, 0, none⟩)) = some (.agg #[va, vf, vs]) := by rw [load_rdON, b0]; rfl
    have la : loadS X0 none (.pointer (some ⟨H.length, 0, none⟩)) = some va := by rw [load_rdO, b0]; rfl
    have lx : loadS X0 none (.pointer (some ⟨H.length + 1, 0, none⟩)) = some (.int .i64 (x : Int)) := by rw [load_rdO, b1]; rfl
    have ly : loadS X0 none (.pointer (some ⟨H.length + 2, 0, none⟩)) = some (.int .i64 (y : Int)) := by rw [load_rdO, b2]; rfl
    obtain ⟨r, hr, ck⟩ := check51 (hv.fr eX0).bv (by omega) (by omega)
    have hr0 : r = 0 := by rcases hr with ⟨h, _⟩ | ⟨_, h⟩; exact h; exact (h hc).elim
    subst hr0
    have al := alone54 X0
    rw [pV_id] at al
    generalize hX1 : X0 ++ [SO.cells [.int .i64 0, .int .i64 1, .int .i64 2, .int .i64 3, .int .i64 4, .int .i64 5, .int .i64 6, .int .i64 7, .int .i64 8] 96 true 0 []] = X1
    have eX1 : Ext X0 X1 := by rw [← hX1]; exact Ext.app X0 _
    have lX1 : X1.length = H.length + 4 := by rw [← hX1]; simp [lX0]
    have bX3 : X1[H.length + 3]? = some (.cells (pV fun k => k) 96 true 0 []) := by rw [← hX1, ← lX0, app_get0, pV_id]; rfl
    generalize hX2 : X1 ++ [SO.cells [.int .i64 0] 3 true 0 []] = X2
    have eX2 : Ext X1 X2 := by rw [← hX2]; exact Ext.app X1 _
    have lX2 : X2.length = H.length + 5 := by rw [← hX2]; simp [lX1]
    have bX4 : X2[H.length + 4]? = some (.cells [.int .i64 0] 3 true 0 []) := by rw [← hX2, ← lX1, app_get0]; rfl
    have e02 := eX1.trans eX2
    have eH2 := eX0.trans e02
    have mono : ∀ {v}, OldV H.length v → OldV X2.length v := fun {v} k => by
      rcases k with k | ⟨b, o, kk, c, e, hb⟩
      · exact .inl k
      · exact .inr ⟨b, o, kk, c, e, by omega⟩
    have ri := rise55 (mono oa) (mono of) (mono os)
    rw [lX2] at ri
    have lb2 : loadS X2 (some 3) (.pointer (some ⟨H.length, 0, none⟩)) = some (.agg #[va, vf, vs]) := by rw [e02.load (by omega), lb]
    obtain ⟨a1, a2, rfl⟩ := h1.shape
    obtain ⟨f1, f2, rfl⟩ := h2.shape
    obtain ⟨s1, s2, rfl⟩ := h3.shape
    generalize hX5 : X2 ++ [SO.cells [.slice a1 A.length a2, .slice f1 F.length f2, .slice s1 S.length s2] 25 false 0 []] = X5 at *
    have lX5 : X5.length = H.length + 6 := by rw [← hX5]; simp [lX2]
    have eX5 : Ext X2 X5 := by rw [← hX5]; exact Ext.app X2 _
    have bX5 : X5[H.length + 5]? = some (.cells [.slice a1 A.length a2, .slice f1 F.length f2, .slice s1 S.length s2] 25 false 0 []) := by rw [← hX5, ← lX2, app_get0]; rfl
    have z1 : ¬ ((x : Int) < 0) := by omega
    have z2 : ¬ ((x : Int) ≥ A.length) := by omega
    have z3 : ¬ ((y : Int) < 0) := by omega
    have z4 : ¬ ((y : Int) > A.length) := by omega
    have z5 : ¬ ((x : Int) = y) := by omega
    have st0 : ∀ d, storeS H.length X2 d X1.length 0 (cellsL (.int .i64 0)) = some (X2, d) := fun d => by
      have := store_cell (h := X2) (base := H.length) (b := X1.length) (o := 0) (c := .int .i64 0) (cs := [.int .i64 0]) (el := 3) (pf := true) (by rw [lX1]; exact bX4) (Nat.zero_lt_succ _) rfl (fun _ => rfl) d
      have e : X2.set X1.length (.cells [.int .i64 0] 3 true 0 []) = X2 := by rw [← hX2, app_set0]; rfl
      rw [dirty_pf] at this
      simp only [List.set_cons_zero] at this
      rw [e] at this
      exact this
    rw [← lX1] at bX4
    have lX0' : X0.length = H.length + 3 := lX0
    unfold sf18
    repeat (first | apply Z1 | apply Z2 | apply Z3 | apply Z4 | apply Z5 rfl | apply Z6 | apply Z7 | apply Z8 | apply Z9 | apply ZA | apply ZB | apply ZC | ((first | apply ZD (by decide) | apply ZN (by decide)); (simp (maxSteps := 9999999) only [go_sem, argR, hX0, lb, ck, la, lx, ly, z1, z2, z3, z4, z5, al, hX1, hX2, ↓st0, lb2, ri]; rfl)) | (refine ZE ?_ ?_; · simp only [go_sem]) | (refine ZF ?_ ?_; · simp only [go_sem]))
    show Run M _ 6 (.rangeFunc (.tmp 44) [45] rfA18_0 rfB18_0) _ _ _ _ _ _
    refine run_rangeX (g := 81) (caps := #[.pointer (some ⟨H.length + 5, 0, none⟩)]) rfl (by simp only [go_sem]) ?_
    intro t hf ht
    have t4 : t.get 4 = .pointer (some ⟨H.length + 1, 0, none⟩) := by rw [ht]; simp only [go_sem]
    have t5 : t.get 5 = .pointer (some ⟨H.length + 2, 0, none⟩) := by rw [ht]; simp only [go_sem]
    have t10 : t.get 10 = .pointer (some ⟨H.length + 3, 0, none⟩) := by rw [ht, ← lX0']; simp only [go_sem]
    have t11 : t.get 11 = .pointer (some ⟨H.length + 4, 0, none⟩) := by rw [ht, ← lX1]; simp only [go_sem]
    rw [lX1] at bX4
    rw [← ht, lX5]
    generalize hX7 : X5 ++ [.deferred, .loop 0 18 t [45] rfA18_0 rfB18_0 none (H.length + 6)] = X7
    have lX7 : X7.length = H.length + 8 := by rw [← hX7]; simp [lX5]
    have eX7 : Ext X5 X7 := by rw [← hX7]; exact Ext.app X5 _
    have e27 := eX5.trans eX7
    have e7 := eH2.trans e27
    have bX6 : X7[H.length + 6]? = some .deferred := by rw [← hX7, ← lX5, app_get0]; rfl
    have bX7 : X7[H.length + 7]? = some (.loop 0 18 t [45] rfA18_0 rfB18_0 none (H.length + 6)) := by
      rw [← hX7, show H.length + 7 = X5.length + 1 from by omega, app_get]; rfl
    obtain ⟨L, q, hR, hq, it⟩ := iter81 (H := X7) (L0 := H.length + 7) (c1 := H.length + 5) (by rw [eX7.fr _ (by omega)]; exact bX5) (h3.fr e7.fr) hnil (by omega) (fun s hs => (hc.sb s hs).2.2)
    have hSL : SB L := fun s hs => hc.sb s (hR.perm.mem_iff.1 hs)
    rw [lX7] at hq it
    obtain ⟨hF, dF, eF, k⟩ := it (fun i h d => JL H.length q t H x y 0 0 none (L.take i) h d ∧ ∀ k, k ≤ i → rt (grp (L.take k)) x ≠ rt (grp (L.take k)) y) (fun i h d => ∃ j, i = j + 1 ∧ LipAt L x y j ∧ JL H.length q t H x y (gT L j).2.2 2 (some (.exit 0)) (L.take (j + 1)) h d) (fun i h d g J => ⟨J.1.app g, J.2⟩)
      (fun h hl eh => by
        refine ⟨⟨by omega, hq, fun j hj => by rw [eh.fr j (by omega), e7.fr j hj], ?_, ?_, ?_, ?_, ?_, ?_, rfl⟩, fun k hk => ?_⟩
        · rw [eh.fr _ (by omega), e27.fr _ (by omega), e02.fr _ (by omega)]; exact b1
        · rw [eh.fr _ (by omega), e27.fr _ (by omega), e02.fr _ (by omega)]; exact b2
        · rw [eh.fr _ (by omega), e27.fr _ (by omega), eX2.fr _ (by omega), bX3]; rfl
        · rw [eh.fr _ (by omega), e27.fr _ (by omega), bX4]
        · rw [eh.fr _ (by omega), bX6]
        · rw [eh.fr _ (by omega), bX7]
        · have : k = 0 := by omega
          subst this
          rw [List.take_zero]
          have e0 : ∀ i, rt (grp []) i = i := fun i => rt_self (grp_le []) rfl
          rw [e0, e0]; exact hxy)
      (fun i h d hi J hqh => by
        obtain ⟨u, v, hu, hv, es⟩ := hSL.nat (gT_mem hi)
        have htk := take_snoc hi
        obtain ⟨r, h2, d2, e, k2, y1, y2, hq2⟩ := lip_round (by omega) (by omega) hf t4 t5 t10 t11 J.1 u v (gT L i).2.2 hu hv
        rw [← es, ← htk] at y1 y2
        refine ⟨r, h2, d2, by rw [es]; exact e, hq2, k2, fun hr => ⟨(y1 hr).2, fun k hk => ?_⟩, fun hr => ⟨i, rfl, ⟨hi, J.2, (y2 hr).1⟩, (y2 hr).2⟩⟩
        by_cases ck : k = i + 1
        · subst ck; exact (y1 hr).1
        · exact J.2 k (by omega))
    have jend : ∃ (l : Int) (lst : Nat) (pend : Option SCode) (L' : List T3), JL H.length q t H x y l lst pend L' hF dF ∧ ((pend = none ∧ lst = 0 ∧ LipNo L x y ∧ l = 0) ∨ (pend = some (.exit 0) ∧ lst = 2 ∧ ∃ i, LipAt L x y i ∧ l = (gT L i).2.2)) := by
      rcases k with k | ⟨i, _, j, hj, k1, k2⟩
      · exact ⟨0, 0, none, _, k.1, .inl ⟨rfl, rfl, k.2, rfl⟩⟩
      · exact ⟨_, 2, _, _, k2, .inr ⟨rfl, rfl, j, k1, rfl⟩⟩
    obtain ⟨l, lst, pend, L', J0, hend⟩ := jend
    have JF := J0.fin
    refine ⟨_, _, _, eF, _, _, _, _, _, _, _, _, JF.lp, ?_, ?_⟩
    · rcases hend with ⟨_, h, _⟩ | ⟨_, h, _⟩ <;> rw [h] <;> rfl
    have jl := JF.len
    have g0 : ∀ (Z : SO) (j : Nat), j ≠ H.length + 7 → ((finD (H.length + 8) hF dF).set (H.length + 7) Z)[j]? = (finD (H.length + 8) hF dF)[j]? := fun Z j hj => by rw [List.getElem?_set_ne (by omega)]
    have tail : ∀ (G : SHeap) (l2 : Int), G[H.length + 4]? = some (.cells [.int .i64 l2] 3 true 0 []) → loadS G none (.pointer (some ⟨H.length + 4, 0, none⟩)) = some (.int .i64 l2) := fun G l2 h => by rw [load_rdO, h]; rfl
    have sh : ∀ (Z : SO), shut ((finD (H.length + 8) hF dF).set (H.length + 7) Z) [H.length + 6] = some (((finD (H.length + 8) hF dF).set (H.length + 7) Z).set (H.length + 6) .gone) := fun Z => by
      simp only [shut]
      rw [g0 Z _ (by omega), JF.df]
    have tk : ∀ (Z : SO), (((finD (H.length + 8) hF dF).set (H.length + 7) Z).set (H.length + 6) .gone).take H.length = H := fun Z => by
      refine take_of_same (by simp; omega) (fun j hj => ?_)
      rw [List.getElem?_set_ne (by omega), g0 Z _ (by omega)]; exact JF.low j hj
    have hd : dirts H.length dF [] = [] := by rw [J0.d0]; rfl
    have lip1 : ∀ i, i < L.length → 1 ≤ (gT L i).2.2 := fun i hi => (hc.hd.rng _ (hR.perm.mem_iff.1 (gT_mem hi))).1
    rcases hend with ⟨rfl, rfl, hno, rfl⟩ | ⟨rfl, rfl, i, hat, rfl⟩
    · refine .inl ⟨rfl, ?_⟩
      rw [setLoop_eq JF.lp]
      have lq := tail ((finD (H.length + 8) hF dF).set (H.length + 7) (.loop 3 18 t [45] rfA18_0 rfB18_0 none (H.length + 6))) 0 (by rw [g0 _ _ (by omega)]; exact JF.lc)
      have shz := sh (.loop 3 18 t [45] rfA18_0 rfB18_0 none (H.length + 6))
      have tkz := tk (.loop 3 18 t [45] rfA18_0 rfB18_0 none (H.length + 6))
      generalize (finD (H.length + 8) hF dF).set (H.length + 7) (.loop 3 18 t [45] rfA18_0 rfB18_0 none (H.length + 6)) = G at *
      show Ends M ⟨H.length, none, 18⟩ 6 .normal _ _ _ _ (dirts H.length dF []) _
      rw [hd]
      repeat (first | apply Z1 | apply Z2 | apply Z3 | apply Z4 | apply Z5 rfl | apply Z6 | apply Z7 | apply Z8 | apply Z9 | apply ZA | apply ZB | apply ZC | ((first | apply ZD (by decide) | apply ZN (by decide)); (simp (maxSteps := 9999999) only [go_sem, t11, lq]; rfl)) | (refine ZE ?_ ?_; · simp only [go_sem]) | (refine ZF ?_ ?_; · simp only [go_sem]))
      exact end_nil ⟨_, ⟨L, hR, 0, 4, .inr ⟨hno, rfl, rfl⟩, rfl⟩, q_any [.int .i64 0, .int .i64 4] shz (by simp only [go_sem]) rfl rfl rfl (fun _ => rfl) tkz rfl⟩
    · refine .inr (.inr ⟨0, rfl, ?_⟩)
      rw [setLoop_eq JF.lp]
      have lq := tail ((finD (H.length + 8) hF dF).set (H.length + 7) (.loop 3 18 t [45] rfA18_0 rfB18_0 (some (.exit 0)) (H.length + 6))) (gT L i).2.2 (by rw [g0 _ _ (by omega)]; exact JF.lc)
      have shz := sh (.loop 3 18 t [45] rfA18_0 rfB18_0 (some (.exit 0)) (H.length + 6))
      have tkz := tk (.loop 3 18 t [45] rfA18_0 rfB18_0 (some (.exit 0)) (H.length + 6))
      generalize (finD (H.length + 8) hF dF).set (H.length + 7) (.loop 3 18 t [45] rfA18_0 rfB18_0 (some (.exit 0)) (H.length + 6)) = G at *
      have nz : ¬ (gT L i).2.2 = 0 := by have := lip1 i hat.1; omega
      show Ends M ⟨H.length, none, 18⟩ 6 (.exit 0) _ _ _ _ (dirts H.length dF []) _
      rw [hd]
      repeat (first | apply Z1 | apply Z2 | apply Z3 | apply Z4 | apply Z5 rfl | apply Z6 | apply Z7 | apply Z8 | apply Z9 | apply ZA | apply ZB | apply ZC | ((first | apply ZD (by decide) | apply ZN (by decide)); (simp (maxSteps := 9999999) only [go_sem, t11, lq, nz]; rfl)) | (refine ZE ?_ ?_; · simp only [go_sem]) | (refine ZF ?_ ?_; · simp only [go_sem]))
      exact end_nil ⟨_, ⟨L, hR, _, 0, .inl ⟨i, hat, rfl, rfl⟩, rfl⟩, q_any [.int .i64 (gT L i).2.2, .int .i64 0] shz (by simp only [go_sem]) rfl rfl rfl (fun _ => rfl) tkz rfl⟩
  obtain ⟨r, ⟨L, hR, l, e, k, rfl⟩, ec⟩ := key
  exact ⟨L, hR, l, e, k, ec⟩
end Go.Proofs.Ytioijehbmgmgkaa.Sh

namespace Go.Proofs.Ytioijehbmgmgkaa.Sh
open Go
set_option maxRecDepth 100000
set_option maxHeartbeats 1000000
inductive CnL (L : List T3) (x : Nat) : Nat → Prop
  | refl : CnL L x x
  | fwd {s} : s ∈ L → CnL L x (nd s.1) → CnL L x (nd s.2.1)
  | bwd {s} : s ∈ L → CnL L x (nd s.2.1) → CnL L x (nd s.1)
theorem CnL.mono {L L' : List T3} (h : ∀ s ∈ L, s ∈ L') {x y : Nat} (k : CnL L x y) : CnL L' x y := by
  induction k with
  | refl => exact .refl
  | fwd hs _ ih => exact .fwd (h _ hs) ih
  | bwd hs _ ih => exact .bwd (h _ hs) ih
theorem CnL.trans {L : List T3} {x y z : Nat} (h : CnL L x y) (k : CnL L y z) : CnL L x z := by
  induction k with
  | refl => exact h
  | fwd hs _ ih => exact .fwd hs ih
  | bwd hs _ ih => exact .bwd hs ih
theorem CnL.symm {L : List T3} {x y : Nat} (h : CnL L x y) : CnL L y x := by
  induction h with
  | refl => exact .refl
  | fwd hs _ ih => exact (CnL.bwd hs .refl).trans ih
  | bwd hs _ ih => exact (CnL.fwd hs .refl).trans ih
theorem stepP_rt {P : Nat → Nat} (hP : ∀ k, P k ≤ k) (s : T3) (i : Nat) : rt (stepP P s) i = jr (rt P) (min (rt P (nd s.1)) (rt P (nd s.2.1))) (max (rt P (nd s.1)) (rt P (nd s.2.1))) i := by
  unfold stepP
  have r1 := (rt_root hP (nd s.1)).1
  have r2 := (rt_root hP (nd s.2.1)).1
  generalize rt P (nd s.1) = a at *
  generalize rt P (nd s.2.1) = b at *
  by_cases c : a = b
  · subst c
    rw [Nat.max_self, Nat.min_self, upP_root r1, jr_same]
  · refine (rt_join hP (by omega) ?_ ?_).2 i
    · rcases Nat.le_total a b with h | h
      · rw [Nat.min_eq_left h]; exact r1
      · rw [Nat.min_eq_right h]; exact r2
    · rcases Nat.le_total a b with h | h
      · rw [Nat.max_eq_right h]; exact r2
      · rw [Nat.max_eq_left h]; exact r1
theorem snocRec {α : Type} {C : List α → Prop} (h0 : C []) (h1 : ∀ l a, C l → C (l ++ [a])) : ∀ l, C l := by
  have : ∀ l : List α, C l.reverse := by
    intro l
    induction l with
    | nil => exact h0
    | cons a l ih => rw [List.reverse_cons]; exact h1 _ _ ih
  intro l
  have := this l.reverse
  rwa [List.reverse_reverse] at this
theorem grp_nil (i : Nat) : rt (grp []) i = i := rt_self (grp_le []) rfl
theorem grp_mem : ∀ (L : List T3) {s : T3}, s ∈ L → rt (grp L) (nd s.1) = rt (grp L) (nd s.2.1) := by
  refine snocRec (fun h => by cases h) (fun L a ih {s} h => ?_)
  rw [grp_snoc, stepP_rt (grp_le L), stepP_rt (grp_le L)]
  rcases List.mem_append.1 h with h | h
  · have := ih h
    unfold jr
    rw [this]
  · rw [List.mem_singleton] at h
    subst h
    unfold jr
    generalize rt (grp L) (nd s.1) = a
    generalize rt (grp L) (nd s.2.1) = b
    split <;> split <;> omega
theorem grp_of {L : List T3} {x y : Nat} (h : CnL L x y) : rt (grp L) x = rt (grp L) y := by
  induction h with
  | refl => rfl
  | fwd hs _ ih => rw [ih, grp_mem L hs]
  | bwd hs _ ih => rw [ih, grp_mem L hs]
theorem grp_conn : ∀ (L : List T3) {x y : Nat}, rt (grp L) x = rt (grp L) y → CnL L x y := by
  refine snocRec (fun {x y} h => ?_) (fun L a ih {x y} h => ?_)
  · rw [grp_nil, grp_nil] at h
    subst h
    exact .refl
  · rw [grp_snoc, stepP_rt (grp_le L), stepP_rt (grp_le L)] at h
    have up : ∀ {u v}, rt (grp L) u = rt (grp L) v → CnL (L ++ [a]) u v := fun {u v} k => (ih k).mono (fun s hs => List.mem_append_left _ hs)
    have ab : CnL (L ++ [a]) (nd a.1) (nd a.2.1) := .fwd (by simp) .refl
    have ua := fun u => @up u (nd a.1)
    have ub := fun u => @up u (nd a.2.1)
    have au := fun u => @up (nd a.1) u
    have bu := fun u => @up (nd a.2.1) u
    have hxy := @up x y
    unfold jr at h
    have k1 := ua x
    have k2 := ub x
    have k3 := au y
    have k4 := bu y
    generalize rt (grp L) (nd a.1) = p at *
    generalize rt (grp L) (nd a.2.1) = q at *
    generalize rt (grp L) x = u at *
    generalize rt (grp L) y = v at *
    have hx : u = v ∨ ((u = p ∨ u = q) ∧ (v = p ∨ v = q)) := by
      by_cases c1 : u = max p q <;> by_cases c2 : v = max p q
      · left; omega
      · rw [if_pos c1, if_neg c2] at h; right; omega
      · rw [if_neg c1, if_pos c2] at h; right; omega
      · rw [if_neg c1, if_neg c2] at h; left; exact h
    rcases hx with e | ⟨e1 | e1, e2 | e2⟩
    · exact hxy e
    · exact (k1 e1).trans (k3 e2.symm)
    · exact ((k1 e1).trans ab).trans (k4 e2.symm)
    · exact ((k2 e1).trans ab.symm).trans (k3 e2.symm)
    · exact (k2 e1).trans (k4 e2.symm)
def upTo (S : List T3) (h : Int) : List T3 := S.filter fun s => decide (s.2.2 ≤ h)
theorem mem_upTo {S : List T3} {h : Int} {s : T3} : s ∈ upTo S h ↔ s ∈ S ∧ s.2.2 ≤ h := by
  unfold upTo
  rw [List.mem_filter]; simp
def LipZ (S : List T3) (x y : Nat) (z : Int) : Prop := (z = 0 ∧ ∀ h : Int, 1 ≤ h → h ≤ 1000 → ¬ CnL (upTo S h) x y) ∨ (1 ≤ z ∧ z ≤ 1000 ∧ CnL (upTo S z) x y ∧ ∀ h : Int, 1 ≤ h → h < z → ¬ CnL (upTo S h) x y)
theorem LipZ.uniq {S : List T3} {x y : Nat} {z z' : Int} (h : LipZ S x y z) (h' : LipZ S x y z') : z = z' := by
  rcases h with ⟨e, h⟩ | ⟨a, b, c, d⟩
  · rcases h' with ⟨e', _⟩ | ⟨a', b', c', d'⟩
    · omega
    · exact (h z' a' b' c').elim
  · rcases h' with ⟨e', h'⟩ | ⟨a', b', c', d'⟩
    · exact (h' z a b c).elim
    · rcases Int.lt_trichotomy z z' with k | k | k
      · exact (d' z a k c).elim
      · exact k
      · exact (d z' a' k c').elim
theorem mem_take {L : List T3} {i : Nat} {s : T3} : s ∈ L.take i ↔ ∃ j, j < i ∧ j < L.length ∧ gT L j = s := by
  constructor
  · intro h
    obtain ⟨j, hj, e⟩ := List.mem_iff_getElem.1 h
    rw [List.length_take] at hj
    rw [List.getElem_take, gT_at] at e
    exact ⟨j, by omega, by omega, e⟩
  · rintro ⟨j, h1, h2, e⟩
    rw [← e, ← gT_at h2]
    exact List.mem_iff_getElem.2 ⟨j, by rw [List.length_take]; omega, by rw [List.getElem_take]⟩
theorem lip_z {L S : List T3} (R : Rise L S) (hd : HD S) {x y : Nat} {l : Int} (h : (∃ i, LipAt L x y i ∧ l = (gT L i).2.2) ∨ (LipNo L x y ∧ l = 0)) : LipZ S x y l := by
  rcases h with ⟨i, ⟨h1, h2, h3⟩, rfl⟩ | ⟨h, rfl⟩
  · have hm := R.perm.mem_iff.1 (gT_mem h1)
    have hr := hd.rng _ hm
    refine .inr ⟨hr.1, hr.2, ?_, fun h k1 k2 kc => ?_⟩
    · refine (grp_conn _ h3).mono (fun s hs => ?_)
      obtain ⟨j, hj, hj2, e⟩ := mem_take.1 hs
      rw [mem_upTo, ← e]
      refine ⟨R.perm.mem_iff.1 (gT_mem hj2), ?_⟩
      by_cases c : j = i
      · subst c; exact Int.le_refl _
      · exact R.ord j i (by omega) h1
    · refine h2 i (Nat.le_refl _) (grp_of (kc.mono (fun s hs => ?_)))
      rw [mem_upTo] at hs
      obtain ⟨j, hj, e⟩ := List.mem_iff_getElem.1 (R.perm.mem_iff.2 hs.1)
      rw [gT_at hj] at e
      refine mem_take.2 ⟨j, ?_, hj, e⟩
      by_cases c : j < i
      · exact c
      · have : (gT L i).2.2 ≤ (gT L j).2.2 := by
          by_cases c2 : i = j
          · subst c2; exact Int.le_refl _
          · exact R.ord i j (by omega) hj
        rw [e] at this
        omega
  · refine .inl ⟨rfl, fun z k1 k2 kc => h L.length (Nat.le_refl _) (grp_of (kc.mono (fun s hs => ?_)))⟩
    rw [mem_upTo] at hs
    rw [List.take_length]
    exact R.perm.mem_iff.2 hs.1
def Clo (L : List T3) (R : Nat → Bool) : Prop := ∀ s ∈ L, (R (nd s.1) = true ∨ R (nd s.2.1) = true) → R (nd s.1) = true ∧ R (nd s.2.1) = true
theorem Clo.all {L : List T3} {R : Nat → Bool} (c : Clo L R) {x y : Nat} (hx : R x = true) (h : CnL L x y) : R y = true := by
  induction h with
  | refl => exact hx
  | fwd hs _ ih => exact (c _ hs (.inl ih)).2
  | bwd hs _ ih => exact (c _ hs (.inr ih)).1
def cnt (R : Nat → Bool) : Nat → Nat
  | 0 => 0
  | n + 1 => cnt R n + if R n = true then 1 else 0
theorem cnt_le (R : Nat → Bool) : ∀ n, cnt R n ≤ n
  | 0 => Nat.le_refl _
  | n + 1 => by have := cnt_le R n; unfold cnt; split <;> omega
theorem cnt_mono {R R' : Nat → Bool} (h : ∀ i, R i = true → R' i = true) : ∀ n, cnt R n ≤ cnt R' n
  | 0 => Nat.le_refl _
  | n + 1 => by
    have := cnt_mono h n
    have := h n
    unfold cnt
    split
    · rw [if_pos (by simp_all)]; omega
    · split <;> omega
theorem cnt_lt {R R' : Nat → Bool} (h : ∀ i, R i = true → R' i = true) {k : Nat} (h1 : R k = false) (h2 : R' k = true) : ∀ n, k < n → cnt R n < cnt R' n
  | 0, hk => by omega
  | n + 1, hk => by
    by_cases c : k = n
    · subst c
      have := cnt_mono h k
      unfold cnt
      rw [h1, h2]; simp; omega
    · have ih := cnt_lt h h1 h2 n (by omega)
      have := h n
      unfold cnt
      split
      · rw [if_pos (by simp_all)]; omega
      · split <;> omega
end Go.Proofs.Ytioijehbmgmgkaa.Sh

namespace Go.Proofs.Ytioijehbmgmgkaa.Sh
open Go
set_option maxRecDepth 100000
set_option maxHeartbeats 4000000
def mV (R : Nat → Bool) (m : Nat) : List Value := (List.range m).map fun i => Value.bool (R i)
theorem mV_len (R : Nat → Bool) (m : Nat) : (mV R m).length = m := by simp [mV]
theorem mV_get (R : Nat → Bool) {m i : Nat} (h : i < m) : (mV R m)[i]? = some (.bool (R i)) := by simp [mV, h]
def upB (R : Nat → Bool) (k : Nat) : Nat → Bool := fun j => if j = k then true else R j
theorem mV_set (R : Nat → Bool) {m i : Nat} (h : i < m) : (mV R m).set i (.bool true) = mV (upB R i) m := by
  apply List.ext_getElem?
  intro j
  by_cases e : j = i
  · subst e
    rw [List.getElem?_set_self (by rw [mV_len]; exact h), mV_get _ h]; simp [upB]
  · rw [List.getElem?_set_ne (fun k => e k.symm)]
    by_cases c : j < m
    · rw [mV_get _ c, mV_get _ c]; simp [upB, e]
    · rw [List.getElem?_eq_none (by rw [mV_len]; omega), List.getElem?_eq_none (by rw [mV_len]; omega)]
theorem mV_rep (m : Nat) : repeatL [Value.bool false] m = mV (fun _ => false) m := by
  induction m with
  | zero => rfl
  | succ m ih =>
    rw [rep_succ, ih]
    show [Value.bool false] ++ mV (fun _ => false) m = mV (fun _ => false) (m + 1)
    apply List.ext_getElem?
    intro j
    cases j with
    | zero => rw [mV_get _ (by omega)]; rfl
    | succ j =>
      by_cases c : j < m
      · rw [mV_get _ (by omega)]; simpa using mV_get (fun _ => false) c
      · rw [List.getElem?_eq_none (by simp [mV_len]; omega), List.getElem?_eq_none (by rw [mV_len]; omega)]
structure MB (X : SHeap) (B m : Nat) (R : Nat → Bool) (h : SHeap) : Prop where
  c : h[B]? = some (.cells (mV R m) 4 true 0 [])
  fr : ∀ j, j < X.length → h[j]? = X[j]?
  le : X.length ≤ B
theorem MB.load {X : SHeap} {B m : Nat} {R : Nat → Bool} {h : SHeap} (J : MB X B m R h) {i : Nat} (hi : i < m) : loadS h none (.pointer (some ⟨B, i, none⟩)) = some (.bool (R i)) := by
  rw [load_rdO, J.c, rdO_cells, readable_0, if_pos rfl, mV_get _ hi]
theorem MB.store {X : SHeap} {B m : Nat} {R : Nat → Bool} {h : SHeap} (J : MB X B m R h) {i : Nat} (hi : i < m) : ∃ h', (∀ base d, storeS base h d B i (cellsL (.bool true)) = some (h', d)) ∧ MB X B m (upB R i) h' := by
  have hB := (List.getElem?_eq_some_iff.1 J.c).1
  refine ⟨h.set B (.cells (mV (upB R i) m) 4 true 0 []), fun base d => ?_, ⟨List.getElem?_set_self hB, fun j hj => by rw [List.getElem?_set_ne (by have := J.le; omega)]; exact J.fr j hj, J.le⟩⟩
  have := store_cell (h := h) (base := base) (b := B) (o := i) (c := .bool true) J.c (by rw [mV_len]; exact hi) rfl (fun _ => rfl) d
  rw [mV_set R hi, dirty_pf] at this
  exact this
structure RI (U : List T3) (x : Nat) (R0 R : Nat → Bool) (done : T3 → Prop) : Prop where
  sub : ∀ i, R0 i = true → R i = true
  conn : ∀ i, R i = true → CnL U x i
  got : ∀ s, done s → s ∈ U → (R0 (nd s.1) = true ∨ R0 (nd s.2.1) = true) → R (nd s.1) = true ∧ R (nd s.2.1) = true
  same : Clo U R0 → ∀ i, R i = R0 i
theorem RI.skip {U : List T3} {x : Nat} {R0 R : Nat → Bool} {done : T3 → Prop} (I : RI U x R0 R done) {s : T3} (h : s ∈ U → R (nd s.1) = false ∧ R (nd s.2.1) = false) : RI U x R0 R (fun t => done t ∨ t = s) := by
  refine ⟨I.sub, I.conn, fun t ht hu h0 => ?_, I.same⟩
  rcases ht with ht | rfl
  · exact I.got t ht hu h0
  · obtain ⟨h1, h2⟩ := h hu
    rcases h0 with h0 | h0
    · have := I.sub _ h0; rw [h1] at this; cases this
    · have := I.sub _ h0; rw [h2] at this; cases this
theorem RI.both {U : List T3} {x : Nat} {R0 R : Nat → Bool} {done : T3 → Prop} (I : RI U x R0 R done) {s : T3} (hs : s ∈ U) (h : R (nd s.1) = true ∨ R (nd s.2.1) = true) : RI U x R0 (upB (upB R (nd s.1)) (nd s.2.1)) (fun t => done t ∨ t = s) := by
  have hu : ∀ i, R i = true → upB (upB R (nd s.1)) (nd s.2.1) i = true := fun i hi => by unfold upB; split; rfl; split; rfl; exact hi
  have e1 : upB (upB R (nd s.1)) (nd s.2.1) (nd s.1) = true := by unfold upB; split; rfl; rw [if_pos rfl]
  have e2 : upB (upB R (nd s.1)) (nd s.2.1) (nd s.2.1) = true := by unfold upB; rw [if_pos rfl]
  refine ⟨fun i hi => hu i (I.sub i hi), fun i hi => ?_, fun t ht hU h0 => ?_, fun c i => ?_⟩
  · have cc : CnL U x (nd s.1) ∧ CnL U x (nd s.2.1) := by
      rcases h with h | h
      · have := I.conn _ h; exact ⟨this, .fwd hs this⟩
      · have := I.conn _ h; exact ⟨.bwd hs this, this⟩
    unfold upB at hi
    by_cases c1 : i = nd s.2.1
    · rw [c1]; exact cc.2
    · rw [if_neg c1] at hi
      by_cases c2 : i = nd s.1
      · rw [c2]; exact cc.1
      · rw [if_neg c2] at hi; exact I.conn i hi
  · rcases ht with ht | rfl
    · have := I.got t ht hU h0
      exact ⟨hu _ this.1, hu _ this.2⟩
    · exact ⟨e1, e2⟩
  · have hR : ∀ i, R i = R0 i := I.same c
    have := c s hs (by rw [← hR, ← hR]; exact h)
    unfold upB
    by_cases c1 : i = nd s.2.1
    · rw [if_pos c1, c1]; exact this.2.symm
    · rw [if_neg c1]
      by_cases c2 : i = nd s.1
      · rw [if_pos c2, c2]; exact this.1.symm
      · rw [if_neg c2]; exact hR i
theorem RI.weak {U : List T3} {x : Nat} {R0 R : Nat → Bool} {done done' : T3 → Prop} (I : RI U x R0 R done) (h : ∀ t, done' t → done t) : RI U x R0 R done' := ⟨I.sub, I.conn, fun s hs => I.got s (h s hs), I.same⟩
theorem reach_in (cx : Cx) {X : SHeap} {B m p c : Nat} {va vf vs : Value} {S : List T3} (hp : p < X.length) (hB : X[p]? = some (.cells [va, vf, vs] 27 false 0 [])) (hs : ES X vs S) (hS : SB S) (hy : ∀ s ∈ S, s.1 < m ∧ s.2.1 < m) (hm : m ≤ 9) (hn : S.length ≤ 20) {z : Int} {x : Nat} {R0 : Nat → Bool} (ρ0 : Reg) :
    ∀ k ρ ms h' d', (∃ (i : Nat) (R : Nat → Bool), i + k = S.length ∧ MB X B m R h' ∧ RI (upTo S z) x R0 R (fun t => t ∈ S.take i) ∧ ρ 3 = .pointer (some ⟨p, 0, none⟩) ∧ ρ 8 = .int .i64 z ∧ ρ 9 = .slice (some ⟨B, 0, none⟩) m c ∧ ρ 11 = .int .i64 i ∧ ρ 1 = ρ0 1 ∧ ρ 2 = ρ0 2 ∧ ρ 7 = ρ0 7 ∧ ρ 10 = ρ0 10 ∧ ms = [] ∧ d' = []) →
    LoopW M cx 7 sf19L0 ρ ms h' d' (fun ex ρ' ms' h' d' => ms' = [] ∧ d' = [] ∧ ex = .exit 4 ∧ ∃ R, MB X B m R h' ∧ RI (upTo S z) x R0 R (fun t => t ∈ S) ∧ ρ' 3 = .pointer (some ⟨p, 0, none⟩) ∧ ρ' 8 = .int .i64 z ∧ ρ' 9 = .slice (some ⟨B, 0, none⟩) m c ∧ ρ' 1 = ρ0 1 ∧ ρ' 2 = ρ0 2 ∧ ρ' 7 = ρ0 7 ∧ ρ' 10 = ρ0 10) := by
  refine loop_run _ ?_
  rintro k ρ ms h' d' ⟨i, R, hk, J, I, r3, r8, r9, r11, r1, r2, r7, r10, rfl, rfl⟩
  unfold sf19L0
  have lB : loadS h' none (.pointer (some ⟨p, 2, none⟩)) = some vs := by rw [load_rdO, J.fr p hp, hB]; rfl
  have is : ES h' vs S := hs.fr J.fr
  by_cases c0 : k = 0
  · have e1 : ¬ ((i : Int) < S.length) := by omega
    have hi : i = S.length := by omega
    subst hi
    obtain ⟨s1, s2, rfl⟩ := is.shape
    repeat (first | apply Z1 | apply Z2 | apply Z3 | apply Z4 | apply Z5 rfl | apply Z6 | apply Z7 | apply Z8 | apply Z9 | apply ZA | apply ZB | apply ZC | ((first | apply ZD (by decide) | apply ZN (by decide)); (simp (maxSteps := 9999999) only [go_sem, r3, r11, lB, e1]; rfl)) | (refine ZE ?_ ?_; · simp only [go_sem]) | (refine ZF ?_ ?_; · simp only [go_sem]))
    exact end_nil ⟨rfl, rfl, rfl, R, J, I.weak (fun t ht => by rw [List.take_length]; exact ht), by simp only [go_sem, r3], by simp only [go_sem, r8], by simp only [go_sem, r9], by simp only [go_sem, r1], by simp only [go_sem, r2], by simp only [go_sem, r7], by simp only [go_sem, r10]⟩
  · have e1 : ((i : Int) < S.length) := by omega
    have e2 : (0 : Int) ≤ i := by omega
    have hi : i < S.length := by omega
    have ew : IntKind.i64.wrap ((i : Int) + 1) = ((i + 1 : Nat) : Int) := by rw [wrap64 (by omega) (by omega)]; rfl
    obtain ⟨b, o, cp, rfl, ld⟩ := is.ld (by omega)
    obtain ⟨_, la, lb, lc⟩ := ld i hi
    rw [gT_at hi] at la lb lc
    have hmem := gT_mem hi
    obtain ⟨u, v, hu, hv, es⟩ := hS.nat hmem
    obtain ⟨hu2, hv2⟩ := hy _ hmem
    have hU := @mem_upTo S z (gT S i)
    have htk : ∀ t, t ∈ S.take (i + 1) → t ∈ S.take i ∨ t = gT S i := fun t ht => by
      rw [take_snoc hi, List.mem_append, List.mem_singleton] at ht; exact ht
    have hn1 : nd (gT S i).1 = u := by rw [es]; rfl
    have hn2 : nd (gT S i).2.1 = v := by rw [es]; rfl
    have skip := I.skip (s := gT S i)
    have both := I.both (s := gT S i)
    rw [hn1, hn2] at skip both
    generalize gT S i = s at *
    obtain ⟨sx, sy, sz⟩ := s
    simp only [Prod.mk.injEq] at es
    obtain ⟨rfl, rfl, _⟩ := es
    dsimp only at *
    have gx := J.load (i := u) (by omega)
    have gy := J.load (i := v) (by omega)
    have z1 : (0 : Int) ≤ (u : Int) := by omega
    have z2 : (0 : Int) ≤ (v : Int) := by omega
    have z3 : (u : Int) < m := hu2
    have z4 : (v : Int) < m := hv2
    obtain ⟨h2, st1, J2⟩ := J.store (i := u) (by omega)
    obtain ⟨h3, st2, J3⟩ := J2.store (i := v) (by omega)
    by_cases c1 : sz ≤ z
    · cases cu : R u with
      | true =>
        rw [cu] at gx
        repeat (first | apply Z1 | apply Z2 | apply Z3 | apply Z4 | apply Z5 rfl | apply Z6 | apply Z7 | apply Z8 | apply Z9 | apply ZA | apply ZB | apply ZC | ((first | apply ZD (by decide) | apply ZN (by decide)); (simp (maxSteps := 9999999) only [go_sem, r1, r2, r3, r7, r8, r9, r10, r11, e1, e2, lB, la, lb, lc, gx, z1, z2, z3, z4, c1, ↓st1, ↓st2, ew, Int.toNat_natCast, Nat.zero_add, Nat.mul_one]; rfl)) | (refine ZE ?_ ?_; · simp only [go_sem]) | (refine ZF ?_ ?_; · simp only [go_sem]))
        exact end_nil ⟨k - 1, by omega, i + 1, _, by omega, J3, (both (hU.2 ⟨hmem, c1⟩) (.inl cu)).weak htk, by simp only [go_sem, r3], by simp only [go_sem, r8], by simp only [go_sem, r9], by simp only [go_sem, ew], by simp only [go_sem, r1], by simp only [go_sem, r2], by simp only [go_sem, r7], by simp only [go_sem, r10], rfl, rfl⟩
      | false =>
        rw [cu] at gx
        cases cv : R v with
        | true =>
          rw [cv] at gy
          repeat (first | apply Z1 | apply Z2 | apply Z3 | apply Z4 | apply Z5 rfl | apply Z6 | apply Z7 | apply Z8 | apply Z9 | apply ZA | apply ZB | apply ZC | ((first | apply ZD (by decide) | apply ZN (by decide)); (simp (maxSteps := 9999999) only [go_sem, r1, r2, r3, r7, r8, r9, r10, r11, e1, e2, lB, la, lb, lc, gx, gy, z1, z2, z3, z4, c1, ↓st1, ↓st2, ew, Int.toNat_natCast, Nat.zero_add, Nat.mul_one]; rfl)) | (refine ZE ?_ ?_; · simp only [go_sem]) | (refine ZF ?_ ?_; · simp only [go_sem]))
          exact end_nil ⟨k - 1, by omega, i + 1, _, by omega, J3, (both (hU.2 ⟨hmem, c1⟩) (.inr cv)).weak htk, by simp only [go_sem, r3], by simp only [go_sem, r8], by simp only [go_sem, r9], by simp only [go_sem, ew], by simp only [go_sem, r1], by simp only [go_sem, r2], by simp only [go_sem, r7], by simp only [go_sem, r10], rfl, rfl⟩
        | false =>
          rw [cv] at gy
          repeat (first | apply Z1 | apply Z2 | apply Z3 | apply Z4 | apply Z5 rfl | apply Z6 | apply Z7 | apply Z8 | apply Z9 | apply ZA | apply ZB | apply ZC | ((first | apply ZD (by decide) | apply ZN (by decide)); (simp (maxSteps := 9999999) only [go_sem, r1, r2, r3, r7, r8, r9, r10, r11, e1, e2, lB, la, lb, lc, gx, gy, z1, z2, z3, z4, c1, ew, Int.toNat_natCast, Nat.zero_add, Nat.mul_one]; rfl)) | (refine ZE ?_ ?_; · simp only [go_sem]) | (refine ZF ?_ ?_; · simp only [go_sem]))
          exact end_nil ⟨k - 1, by omega, i + 1, R, by omega, J, (skip (fun _ => ⟨cu, cv⟩)).weak htk, by simp only [go_sem, r3], by simp only [go_sem, r8], by simp only [go_sem, r9], by simp only [go_sem, ew], by simp only [go_sem, r1], by simp only [go_sem, r2], by simp only [go_sem, r7], by simp only [go_sem, r10], rfl, rfl⟩
    · repeat (first | apply Z1 | apply Z2 | apply Z3 | apply Z4 | apply Z5 rfl | apply Z6 | apply Z7 | apply Z8 | apply Z9 | apply ZA | apply ZB | apply ZC | ((first | apply ZD (by decide) | apply ZN (by decide)); (simp (maxSteps := 9999999) only [go_sem, r1, r2, r3, r7, r8, r9, r10, r11, e1, e2, lB, la, lb, lc, z1, z2, z3, z4, c1, ew, Int.toNat_natCast, Nat.zero_add, Nat.mul_one]; rfl)) | (refine ZE ?_ ?_; · simp only [go_sem]) | (refine ZF ?_ ?_; · simp only [go_sem]))
      exact end_nil ⟨k - 1, by omega, i + 1, R, by omega, J, (skip (fun h => (c1 (hU.1 h).2).elim)).weak htk, by simp only [go_sem, r3], by simp only [go_sem, r8], by simp only [go_sem, r9], by simp only [go_sem, ew], by simp only [go_sem, r1], by simp only [go_sem, r2], by simp only [go_sem, r7], by simp only [go_sem, r10], rfl, rfl⟩
structure RO (U : List T3) (x m r : Nat) (R : Nat → Bool) : Prop where
  src : R x = true
  conn : ∀ i, R i = true → CnL U x i
  grow : Clo U R ∨ r + 1 ≤ cnt R m
theorem RO.next {U : List T3} {x m r : Nat} {R0 R : Nat → Bool} (O : RO U x m r R0) {done : T3 → Prop} (hd : ∀ s ∈ U, done s) (I : RI U x R0 R done) (hU : ∀ s ∈ U, nd s.1 < m ∧ nd s.2.1 < m) : RO U x m (r + 1) R := by
  refine ⟨I.sub _ O.src, I.conn, ?_⟩
  rcases O.grow with h | h
  · have : R = R0 := funext (I.same h)
    rw [this]; exact .inl h
  · by_cases c : Clo U R0
    · have : R = R0 := funext (I.same c)
      rw [this]; exact .inl c
    · right
      have : ∃ s ∈ U, (R0 (nd s.1) = true ∨ R0 (nd s.2.1) = true) ∧ ¬ (R0 (nd s.1) = true ∧ R0 (nd s.2.1) = true) := by
        by_cases e : ∃ s ∈ U, (R0 (nd s.1) = true ∨ R0 (nd s.2.1) = true) ∧ ¬ (R0 (nd s.1) = true ∧ R0 (nd s.2.1) = true)
        · exact e
        · exact (c (fun s hs h1 => by
            by_cases e2 : R0 (nd s.1) = true ∧ R0 (nd s.2.1) = true
            · exact e2
            · exact (e ⟨s, hs, h1, e2⟩).elim)).elim
      obtain ⟨s, hs, h1, h2⟩ := this
      have g := I.got s (hd s hs) hs h1
      have lt := hU s hs
      have key : cnt R0 m < cnt R m := by
        by_cases c1 : R0 (nd s.1) = true
        · have c2 : R0 (nd s.2.1) = false := by cases e : R0 (nd s.2.1) with
            | false => rfl
            | true => exact (h2 ⟨c1, e⟩).elim
          exact cnt_lt I.sub c2 g.2 m lt.2
        · have c1 : R0 (nd s.1) = false := by simpa using c1
          exact cnt_lt I.sub c1 g.1 m lt.1
      omega
theorem RO.end {U : List T3} {x m : Nat} {R : Nat → Bool} (O : RO U x m m R) (y : Nat) : R y = true ↔ CnL U x y := by
  refine ⟨O.conn y, fun h => ?_⟩
  rcases O.grow with c | c
  · exact c.all O.src h
  · have := cnt_le R m; omega
theorem reach_out (cx : Cx) {X : SHeap} {B n p c : Nat} {va vf vs : Value} {S : List T3} (hp : p < X.length) (hB : X[p]? = some (.cells [va, vf, vs] 27 false 0 [])) (hs : ES X vs S) (hS : SB S) (hy : ∀ s ∈ S, s.1 < ((n + 1 : Nat) : Int) ∧ s.2.1 < ((n + 1 : Nat) : Int)) (hm : n ≤ 8) (hl : S.length ≤ 20) {z : Int} {x y : Nat} :
    ∀ k ρ ms h' d', (∃ (r : Nat) (R : Nat → Bool), r + k = n + 1 ∧ MB X B (n + 1) R h' ∧ RO (upTo S z) x (n + 1) r R ∧ ρ 3 = .pointer (some ⟨p, 0, none⟩) ∧ ρ 8 = .int .i64 z ∧ ρ 9 = .slice (some ⟨B, 0, none⟩) (n + 1) c ∧ ρ 1 = .int .i64 (x : Int) ∧ ρ 2 = .int .i64 (y : Int) ∧ ρ 7 = .int .i64 n ∧ ρ 10 = .int .i64 r ∧ ms = [] ∧ d' = []) →
    LoopW M cx 7 sf19L1 ρ ms h' d' (fun ex ρ' ms' h' d' => ms' = [] ∧ d' = [] ∧ ex = .exit 2 ∧ ∃ R, MB X B (n + 1) R h' ∧ RO (upTo S z) x (n + 1) (n + 1) R ∧ ρ' 3 = .pointer (some ⟨p, 0, none⟩) ∧ ρ' 8 = .int .i64 z ∧ ρ' 9 = .slice (some ⟨B, 0, none⟩) (n + 1) c ∧ ρ' 1 = .int .i64 (x : Int) ∧ ρ' 2 = .int .i64 (y : Int) ∧ ρ' 7 = .int .i64 n) := by
  refine loop_run _ ?_
  rintro k ρ ms h' d' ⟨r, R, hk, J, O, r3, r8, r9, r1, r2, r7, r10, rfl, rfl⟩
  unfold sf19L1
  by_cases c0 : k = 0
  · have e1 : ¬ ((r : Int) ≤ n) := by omega
    have hr : r = n + 1 := by omega
    subst hr
    repeat (first | apply Z1 | apply Z2 | apply Z3 | apply Z4 | apply Z5 rfl | apply Z6 | apply Z7 | apply Z8 | apply Z9 | apply ZA | apply ZB | apply ZC | ((first | apply ZD (by decide) | apply ZN (by decide)); (simp (maxSteps := 9999999) only [go_sem, r7, r10, e1]; rfl)) | (refine ZE ?_ ?_; · simp only [go_sem]) | (refine ZF ?_ ?_; · simp only [go_sem]))
    exact end_nil ⟨rfl, rfl, rfl, R, J, O, by simp only [go_sem, r3], by simp only [go_sem, r8], by simp only [go_sem, r9], by simp only [go_sem, r1], by simp only [go_sem, r2], by simp only [go_sem, r7]⟩
  · have e1 : ((r : Int) ≤ n) := by omega
    have ew : IntKind.i64.wrap ((r : Int) + 1) = ((r + 1 : Nat) : Int) := by rw [wrap64 (by omega) (by omega)]; rfl
    have I0 : RI (upTo S z) x R R (fun t => t ∈ S.take 0) := ⟨fun _ h => h, O.conn, (fun s hs => by simp at hs), fun _ _ => rfl⟩
    repeat (first | apply Z1 | apply Z2 | apply Z3 | apply Z4 | apply Z5 rfl | apply Z6 | apply Z7 | apply Z8 | apply Z9 | apply ZA | apply ZB | apply ZC | ((first | apply ZD (by decide) | apply ZN (by decide)); (simp (maxSteps := 9999999) only [go_sem, r7, r10, e1]; rfl)) | (refine ZE ?_ ?_; · simp only [go_sem]) | (refine ZF ?_ ?_; · simp only [go_sem]))
    refine run_loop (reach_in _ (X := X) (B := B) (m := n + 1) (p := p) (c := c) (S := S) (z := z) (x := x) (R0 := R) hp hB hs hS hy (by omega) hl (fun q => if q = 1 then .int .i64 (x : Int) else if q = 2 then .int .i64 (y : Int) else if q = 7 then .int .i64 n else .int .i64 r) S.length _ _ _ _ ⟨0, R, by omega, J, I0, by simp only [go_sem, r3], by simp only [go_sem, r8], by simp only [go_sem, r9], by simp only [go_sem], by simp only [go_sem, r1], by simp only [go_sem, r2], by simp only [go_sem, r7], by simp only [go_sem, r10], rfl, rfl⟩) ?_
    rintro ex ρ2 ms2 h2 d2 ⟨rfl, rfl, rfl, R2, J2, I2, t3, t8, t9, t1, t2, t7, t10⟩
    have t1 : ρ2 1 = .int .i64 (x : Int) := t1
    have t2 : ρ2 2 = .int .i64 (y : Int) := t2
    have t7 : ρ2 7 = .int .i64 n := t7
    have t10 : ρ2 10 = .int .i64 r := t10
    have O2 := O.next (fun s hs => (mem_upTo.1 hs).1) I2 (fun s hs => by
      have hm := (mem_upTo.1 hs).1
      have := hy s hm
      obtain ⟨u, v, _, _, e⟩ := hS.nat hm
      rw [e] at this ⊢
      exact ⟨Int.ofNat_lt.1 this.1, Int.ofNat_lt.1 this.2⟩)
    repeat (first | apply Z1 | apply Z2 | apply Z3 | apply Z4 | apply Z5 rfl | apply Z6 | apply Z7 | apply Z8 | apply Z9 | apply ZA | apply ZB | apply ZC | ((first | apply ZD (by decide) | apply ZN (by decide)); (simp (maxSteps := 9999999) only [go_sem, t3, t8, t9, t1, t2, t7, t10, ew]; rfl)) | (refine ZE ?_ ?_; · simp only [go_sem]) | (refine ZF ?_ ?_; · simp only [go_sem]))
    exact end_nil ⟨k - 1, by omega, r + 1, R2, by omega, J2, O2, by simp only [go_sem, t3], by simp only [go_sem, t8], by simp only [go_sem, t9], by simp only [go_sem, t1], by simp only [go_sem, t2], by simp only [go_sem, t7], by simp only [go_sem, ew], rfl, rfl⟩
end Go.Proofs.Ytioijehbmgmgkaa.Sh

namespace Go.Proofs.Ytioijehbmgmgkaa.Sh
open Go
set_option maxRecDepth 100000
set_option maxHeartbeats 4000000
theorem lip_heights (cx : Cx) {X : SHeap} {n p : Nat} {va vf vs : Value} {S : List T3} (hp : p < X.length) (hB : X[p]? = some (.cells [va, vf, vs] 27 false 0 [])) (hs : ES X vs S) (hS : SB S) (hy : ∀ s ∈ S, s.1 < ((n + 1 : Nat) : Int) ∧ s.2.1 < ((n + 1 : Nat) : Int)) (hm : n ≤ 8) (hl : S.length ≤ 20) {x y : Nat} (hx : x < n) (hyn : y ≤ n) :
    ∀ k ρ ms h' d', (∃ (z : Nat), z + k = 1000 ∧ Ext X h' ∧ (∀ h : Int, 1 ≤ h → h ≤ z → ¬ CnL (upTo S h) x y) ∧ ρ 3 = .pointer (some ⟨p, 0, none⟩) ∧ ρ 1 = .int .i64 (x : Int) ∧ ρ 2 = .int .i64 (y : Int) ∧ ρ 7 = .int .i64 n ∧ ρ 8 = .int .i64 ((z : Int) + 1) ∧ ms = [] ∧ d' = []) →
    LoopW M cx 7 sf19L2 ρ ms h' d' (fun ex ρ' ms' h' d' => ms' = [] ∧ d' = [] ∧ Ext X h' ∧ ((ex = .exit 0 ∧ LipZ S x y 0) ∨ (ex = .ret ∧ ∃ z, LipZ S x y z ∧ ρ' 6 = .int .i64 z))) := by
  refine loop_run _ ?_
  rintro k ρ ms h' d' ⟨z, hk, E, hno, r3, r1, r2, r7, r8, rfl, rfl⟩
  unfold sf19L2
  by_cases c0 : k = 0
  · have e1 : ¬ ((z : Int) + 1 ≤ 1000) := by omega
    repeat (first | apply Z1 | apply Z2 | apply Z3 | apply Z4 | apply Z5 rfl | apply Z6 | apply Z7 | apply Z8 | apply Z9 | apply ZA | apply ZB | apply ZC | ((first | apply ZD (by decide) | apply ZN (by decide)); (simp (maxSteps := 9999999) only [go_sem, r8, e1]; rfl)) | (refine ZE ?_ ?_; · simp only [go_sem]) | (refine ZF ?_ ?_; · simp only [go_sem]))
    exact end_nil ⟨rfl, rfl, E, .inl ⟨rfl, .inl ⟨rfl, fun h h1 h2 => hno h h1 (by omega)⟩⟩⟩
  · have e1 : ((z : Int) + 1 ≤ 1000) := by omega
    have ew : IntKind.i64.wrap ((z : Int) + 1 + 1) = ((z + 1 : Nat) : Int) + 1 := by rw [wrap64 (by omega) (by omega)]; omega
    have wn : IntKind.i64.wrap ((n : Int) + 1) = ((n + 1 : Nat) : Int) := by rw [wrap64 (by omega) (by omega)]; rfl
    have mk : ∀ (R : Rec) (cx : Cx) (e : Evl) (sl : Option Nat) (l : Operand) (h : SHeap) (d : List Nat), e l = some (.int .i64 ((n + 1 : Nat) : Int)) → opE R cx e sl (.makeSlice 4 true 1 [.bool false] l l) h d = some (.slice (some ⟨h.length, 0, none⟩) (n + 1) (n + 1), h ++ [.cells (mV (fun _ => false) (n + 1)) 4 true 0 []], d) := fun R cx e sl l h d he => by
      rw [E_makeSlice, he]
      have q1 : decide ((0 : Int) ≤ ((n + 1 : Nat) : Int)) = true := decide_eq_true (by omega)
      have q2 : decide (((n + 1 : Nat) : Int) ≤ ((n + 1 : Nat) : Int)) = true := decide_eq_true (by omega)
      have q3 : decide (((n + 1 : Nat) : Int) ≤ 1073741824) = true := decide_eq_true (by omega)
      have q4 : Nat.ble ((((n + 1 : Nat) : Int)).toNat * 1) 140737488355328 = true := by rw [ble_dec, Int.toNat_natCast]; exact decide_eq_true (by omega)
      have q5 : (mV (fun _ => false) (n + 1)).all sc = true := by
        rw [List.all_eq_true]
        intro x hx
        obtain ⟨i, _, rfl⟩ := List.mem_map.1 hx
        rfl
      dsimp only
      rw [q1, q2, q3, q4, Int.toNat_natCast, mV_rep]
      show (match newS h none (mV (fun _ => false) (n + 1)) 4 true with
        | some (b, h') => some (Value.slice (some ⟨b, 0, none⟩) (n + 1) (n + 1), h', d)
        | none => none) = _
      rw [new_none, q5]
      rfl
    have hxl := E.le
    have J0 : MB X h'.length (n + 1) (fun _ => false) (h' ++ [.cells (mV (fun _ => false) (n + 1)) 4 true 0 []]) := ⟨by rw [app_get0]; rfl, fun j hj => by rw [List.getElem?_append_left (by omega)]; exact E.fr j hj, hxl⟩
    obtain ⟨h1, st1, J1⟩ := J0.store (i := x) (by omega)
    have O0 : RO (upTo S ((z : Int) + 1)) x (n + 1) 0 (upB (fun _ => false) x) := by
      have e0 : upB (fun _ => false) x x = true := by unfold upB; rw [if_pos rfl]
      refine ⟨e0, fun i hi => ?_, .inr ?_⟩
      · unfold upB at hi
        split at hi
        · rename_i e; rw [e]; exact .refl
        · cases hi
      · have := cnt_lt (R := fun _ => false) (R' := upB (fun _ => false) x) (fun i hi => by cases hi) (k := x) rfl e0 (n + 1) (by omega)
        omega
    have z1 : (0 : Int) ≤ (x : Int) := by omega
    have z3 : (x : Int) < ((n + 1 : Nat) : Int) := by omega
    have z2 : (0 : Int) ≤ (y : Int) := by omega
    have z4 : (y : Int) < ((n + 1 : Nat) : Int) := by omega
    generalize hm1 : n + 1 = m at *
    repeat (first | apply Z1 | apply Z2 | apply Z3 | apply Z4 | apply Z5 rfl | apply Z6 | apply Z7 | apply Z8 | apply Z9 | apply ZA | apply ZB | apply ZC | ((first | apply ZD (by decide) | apply ZN (by decide)); (simp (maxSteps := 9999999) only [go_sem, r1, r2, r3, r7, r8, e1, wn, mk, z1, z3, ↓st1, Int.toNat_natCast, Nat.zero_add, Nat.mul_one]; rfl)) | (refine ZE ?_ ?_; · simp only [go_sem]) | (refine ZF ?_ ?_; · simp only [go_sem]))
    subst hm1
    refine run_loop (reach_out _ (X := X) (B := h'.length) (n := n) (p := p) (c := n + 1) (S := S) (z := (z : Int) + 1) (x := x) (y := y) hp hB hs hS hy hm hl (n + 1) _ _ _ _ ⟨0, _, by omega, J1, O0, by simp only [go_sem, r3], by simp only [go_sem, r8], by simp only [go_sem], by simp only [go_sem, r1], by simp only [go_sem, r2], by simp only [go_sem, r7], by simp only [go_sem], rfl, rfl⟩) ?_
    rintro ex ρ2 ms2 h2 d2 ⟨rfl, rfl, rfl, R2, J2, O2, t3, t8, t9, t1, t2, t7⟩
    have hc := O2.end y
    have ly := J2.load (i := y) (by omega)
    have E2 : Ext X h2 := ⟨by have := (List.getElem?_eq_some_iff.1 J2.c).1; have := J2.le; omega, J2.fr⟩
    cases cy : R2 y with
    | true =>
      rw [cy] at ly
      repeat (first | apply Z1 | apply Z2 | apply Z3 | apply Z4 | apply Z5 rfl | apply Z6 | apply Z7 | apply Z8 | apply Z9 | apply ZA | apply ZB | apply ZC | ((first | apply ZD (by decide) | apply ZN (by decide)); (simp (maxSteps := 9999999) only [go_sem, t1, t2, t3, t7, t8, t9, z2, z4, ly, Int.toNat_natCast, Nat.zero_add, Nat.mul_one]; rfl)) | (refine ZE ?_ ?_; · simp only [go_sem]) | (refine ZF ?_ ?_; · simp only [go_sem]))
      exact end_nil ⟨rfl, rfl, E2, .inr ⟨rfl, _, .inr ⟨by omega, by omega, hc.1 cy, fun h k1 k2 => hno h k1 (by omega)⟩, by simp only [go_sem]⟩⟩
    | false =>
      rw [cy] at ly
      repeat (first | apply Z1 | apply Z2 | apply Z3 | apply Z4 | apply Z5 rfl | apply Z6 | apply Z7 | apply Z8 | apply Z9 | apply ZA | apply ZB | apply ZC | ((first | apply ZD (by decide) | apply ZN (by decide)); (simp (maxSteps := 9999999) only [go_sem, t1, t2, t3, t7, t8, t9, z2, z4, ly, ew, Int.toNat_natCast, Nat.zero_add, Nat.mul_one]; rfl)) | (refine ZE ?_ ?_; · simp only [go_sem]) | (refine ZF ?_ ?_; · simp only [go_sem]))
      refine end_nil ⟨k - 1, by omega, z + 1, by omega, E2, fun h k1 k2 => ?_, by simp only [go_sem, t3], by simp only [go_sem, t1], by simp only [go_sem, t2], by simp only [go_sem, t7], by simp only [go_sem, ew], rfl, rfl⟩
      by_cases c : h = (z : Int) + 1
      · subst c
        intro hcn
        have := hc.2 hcn
        rw [cy] at this; cases this
      · exact hno h k1 (by omega)
theorem refLip19 {H : SHeap} {v : Value} {A F : List Int} {S : List T3} (hv : BV H v A F S) (hc : ChkP A F S) {x y : Nat} (hx : x < A.length) (hy : y ≤ A.length) :
    ∃ z : Int, LipZ S x y z ∧ M.call 19 [v, .int .i64 (x : Int), .int .i64 (y : Int)] H = some (.int .i64 z, H, []) := by
  have key : ∃ r, (∃ z : Int, LipZ S x y z ∧ r = (Value.int .i64 z, H, ([] : List Nat))) ∧ M.call 19 [v, .int .i64 (x : Int), .int .i64 (y : Int)] H = some r := by
    obtain ⟨va, vf, vs, rfl, h1, h2, h3⟩ := hv
    refine call_ex (f := 19) _ sf19 rfl rfl rfl ?_
    generalize hX : H ++ [SO.cells [va, vf, vs] 27 false 0 []] = X
    have eX : Ext H X := by rw [← hX]; exact Ext.app H _
    have lX : X.length = H.length + 1 := by rw [← hX]; simp
    have bX : X[H.length]? = some (.cells [va, vf, vs] 27 false 0 []) := by rw [← hX, app_get0]; rfl
    have la : loadS X none (.pointer (some ⟨H.length, 0, none⟩)) = some va := by rw [load_rdO, bX]; rfl
    have n8 := hc.n8
    obtain ⟨a1, a2, rfl⟩ := h1.shape
    obtain ⟨f1, f2, rfl⟩ := h2.shape
    obtain ⟨s1, s2, rfl⟩ := h3.shape
    unfold sf19
    repeat (first | apply Z1 | apply Z2 | apply Z3 | apply Z4 | apply Z5 rfl | apply Z6 | apply Z7 | apply Z8 | apply Z9 | apply ZA | apply ZB | apply ZC | ((first | apply ZD (by decide) | apply ZN (by decide)); (simp (maxSteps := 9999999) only [go_sem, argR, hX, la]; rfl)) | (refine ZE ?_ ?_; · simp only [go_sem]) | (refine ZF ?_ ?_; · simp only [go_sem]))
    refine run_loop (lip_heights _ (X := X) (n := A.length) (p := H.length) (S := S) (x := x) (y := y) (by omega) bX (h3.fr eX.fr) hc.sb (fun s hs => by have := hc.nodes s hs; omega) n8 hc.s20 hx hy 1000 _ _ _ _ ⟨0, by omega, Ext.rfl' X, fun h k1 k2 => by omega, by simp only [go_sem], by simp only [go_sem, argR], by simp only [go_sem, argR], by simp only [go_sem], by simp only [go_sem], rfl, rfl⟩) ?_
    rintro ex ρ2 ms2 h4 d2 ⟨rfl, rfl, E, h⟩
    have tk := (eX.trans E).take
    rcases h with ⟨rfl, hz⟩ | ⟨rfl, z, hz, t6⟩
    · repeat (first | apply Z1 | apply Z2 | apply Z3 | apply Z4 | apply Z5 rfl | apply Z6 | apply Z7 | apply Z8 | apply Z9 | apply ZA | apply ZB | apply ZC | ((first | apply ZD (by decide) | apply ZN (by decide)); (simp (maxSteps := 9999999) only [go_sem]; rfl)) | (refine ZE ?_ ?_; · simp only [go_sem]) | (refine ZF ?_ ?_; · simp only [go_sem]))
      exact end_nil ⟨_, ⟨0, hz, rfl⟩, q_ret1 _ (by simp only [go_sem]) rfl tk⟩
    · repeat (first | apply Z1 | apply Z2 | apply Z3 | apply Z4 | apply Z5 rfl | apply Z6 | apply Z7 | apply Z8 | apply Z9 | apply ZA | apply ZB | apply ZC | ((first | apply ZD (by decide) | apply ZN (by decide)); (simp (maxSteps := 9999999) only [go_sem, t6]; rfl)) | (refine ZE ?_ ?_; · simp only [go_sem]) | (refine ZF ?_ ?_; · simp only [go_sem]))
      exact end_nil ⟨_, ⟨z, hz, rfl⟩, q_ret1 _ (by simp only [go_sem, t6]) rfl tk⟩
  obtain ⟨r, ⟨z, hz, rfl⟩, e⟩ := key
  exact ⟨z, hz, e⟩
theorem lips_loop (cx : Cx) {X : SHeap} {p5 p6 : Nat} {xa xf xs ya yf ys : Value} {A F : List Int} {S : List T3} (b5 : X[p5]? = some (.cells [xa, xf, xs] 27 false 0 [])) (b6 : X[p6]? = some (.cells [ya, yf, ys] 25 false 0 [])) (h5 : BV X (.agg #[xa, xf, xs]) A F S) (h6 : BN X (.agg #[ya, yf, ys]) A F S) (hc : ChkP A F S) :
    ∀ k ρ ms h' d', (∃ (r : Nat) (x y : Int), r + k = 2 ∧ ρ 5 = .pointer (some ⟨p5, 0, none⟩) ∧ ρ 6 = .pointer (some ⟨p6, 0, none⟩) ∧ ρ 7 = .int .i64 A.length ∧ ρ 8 = .int .i64 x ∧ ρ 9 = .int .i64 y ∧ ρ 10 = .int .i64 r ∧ ms = [] ∧ h' = X ∧ d' = []) →
    LoopW M cx 7 sf3L0 ρ ms h' d' (fun ex ρ' ms' h' d' => ms' = [] ∧ X = h' ∧ d' = [] ∧ ex = .exit 0) := by
  refine loop_run _ ?_
  rintro k ρ ms h' d' ⟨r, x, y, hk, r5, r6, r7, r8, r9, r10, rfl, rfl, rfl⟩
  unfold sf3L0
  have n1 := hc.n1
  have n8 := hc.n8
  have l5 : loadS h' (some 3) (.pointer (some ⟨p5, 0, none⟩)) = some (.agg #[xa, xf, xs]) := by rw [load_rdON, b5]; rfl
  have l6 : loadS h' (some 3) (.pointer (some ⟨p6, 0, none⟩)) = some (.agg #[ya, yf, ys]) := by rw [load_rdON, b6]; rfl
  by_cases c0 : k = 0
  · have e1 : ¬ ((r : Int) < 2) := by omega
    repeat (first | apply Z1 | apply Z2 | apply Z3 | apply Z4 | apply Z5 rfl | apply Z6 | apply Z7 | apply Z8 | apply Z9 | apply ZA | apply ZB | apply ZC | ((first | apply ZD (by decide) | apply ZN (by decide)); (simp (maxSteps := 9999999) only [go_sem, r10, e1]; rfl)) | (refine ZE ?_ ?_; · simp only [go_sem]) | (refine ZF ?_ ?_; · simp only [go_sem]))
    exact end_nil ⟨rfl, rfl, rfl, rfl⟩
  · have e1 : ((r : Int) < 2) := by omega
    have ew : IntKind.i64.wrap ((r : Int) + 1) = ((r + 1 : Nat) : Int) := by rw [wrap64 (by omega) (by omega)]; rfl
    have wn : IntKind.i64.wrap ((A.length : Int) + 1) = ((A.length + 1 : Nat) : Int) := by rw [wrap64 (by omega) (by omega)]; rfl
    have wu1 : IntKind.u64.wrap (A.length : Int) = A.length := wrapU (by omega) (by omega)
    have wu2 : IntKind.u64.wrap ((A.length + 1 : Nat) : Int) = ((A.length + 1 : Nat) : Int) := wrapU (by omega) (by omega)
    have nz1 : ¬ (A.length : Int) = 0 := by omega
    have nz2 : ¬ ((A.length + 1 : Nat) : Int) = 0 := by omega
    have ux := uR_eq x (m := A.length) (by omega)
    have uy := uR_eq y (m := A.length + 1) (by omega)
    have hx := uR_lt x (m := A.length) (by omega)
    have hy := uR_lt y (m := A.length + 1) (by omega)
    generalize uR x A.length = x2 at *
    generalize uR y (A.length + 1) = y2 at *
    have wx : IntKind.i64.wrap ((x2 : Nat) : Int) = x2 := wrap64 (by omega) (by omega)
    have wy : IntKind.i64.wrap ((y2 : Nat) : Int) = y2 := wrap64 (by omega) (by omega)
    generalize hn' : A.length + 1 = n' at *
    by_cases hb : argOK A.length x y
    · obtain ⟨q1, q2, q3, q4, q5⟩ := hb
      obtain ⟨xn, rfl⟩ := Int.eq_ofNat_of_zero_le q1
      obtain ⟨yn, rfl⟩ := Int.eq_ofNat_of_zero_le q3
      obtain ⟨L, R, l, e, hle, cp⟩ := pLip18 h6 hc (x := xn) (y := yn) (by omega) (by omega) (by omega)
      obtain ⟨z, hz, cr⟩ := refLip19 h5 hc (x := xn) (y := yn) (by omega) (by omega)
      have z1 : ¬ ((xn : Int) < 0) := by omega
      have z2 : ¬ ((xn : Int) ≥ A.length) := by omega
      have z3 : ¬ ((yn : Int) < 0) := by omega
      have z4 : ¬ ((yn : Int) > A.length) := by omega
      have z5 : ¬ ((xn : Int) = yn) := q5
      rcases hle with ⟨i, hat, rfl, rfl⟩ | ⟨hno, rfl, rfl⟩
      · have e3 := LipZ.uniq hz (lip_z R hc.hd (.inl ⟨i, hat, rfl⟩))
        have hpos := (hc.hd.rng _ (R.perm.mem_iff.1 (gT_mem hat.1))).1
        rw [e3] at cr
        have p1 : ¬ (gT L i).2.2 = 0 := by omega
        have p2 : (gT L i).2.2 > 0 := by omega
        generalize (gT L i).2.2 = w at *
        repeat (first | apply Z1 | apply Z2 | apply Z3 | apply Z4 | apply Z5 rfl | apply Z6 | apply Z7 | apply Z8 | apply Z9 | apply ZA | apply ZB | apply ZC | ((first | apply ZD (by decide) | apply ZN (by decide)); (simp (maxSteps := 9999999) only [go_sem, r5, r6, r7, r8, r9, r10, e1, l5, l6, cp, cr, z1, z2, z3, z4, z5, p1, p2, ux, uy, wn, wu1, wu2, nz1, nz2, wx, wy, hn', ew]; rfl)) | (refine ZE ?_ ?_; · simp only [go_sem]) | (refine ZF ?_ ?_; · simp only [go_sem]))
        exact end_nil ⟨k - 1, by omega, r + 1, (x2 : Int), (y2 : Int), by omega, by simp only [go_sem, r5], by simp only [go_sem, r6], by simp only [go_sem, r7], by simp only [go_sem], by simp only [go_sem], by simp only [go_sem, ew], rfl, rfl, rfl⟩
      · have e3 := LipZ.uniq hz (lip_z R hc.hd (.inr ⟨hno, rfl⟩))
        rw [e3] at cr
        repeat (first | apply Z1 | apply Z2 | apply Z3 | apply Z4 | apply Z5 rfl | apply Z6 | apply Z7 | apply Z8 | apply Z9 | apply ZA | apply ZB | apply ZC | ((first | apply ZD (by decide) | apply ZN (by decide)); (simp (maxSteps := 9999999) only [go_sem, r5, r6, r7, r8, r9, r10, e1, l5, l6, cp, cr, z1, z2, z3, z4, z5, ux, uy, wn, wu1, wu2, nz1, nz2, wx, wy, hn', ew]; rfl)) | (refine ZE ?_ ?_; · simp only [go_sem]) | (refine ZF ?_ ?_; · simp only [go_sem]))
        exact end_nil ⟨k - 1, by omega, r + 1, (x2 : Int), (y2 : Int), by omega, by simp only [go_sem, r5], by simp only [go_sem, r6], by simp only [go_sem, r7], by simp only [go_sem], by simp only [go_sem], by simp only [go_sem, ew], rfl, rfl, rfl⟩
    · have cp := pLip18_bad h6 hc hb
      unfold argOK at hb
      by_cases c1 : x < 0
      · repeat (first | apply Z1 | apply Z2 | apply Z3 | apply Z4 | apply Z5 rfl | apply Z6 | apply Z7 | apply Z8 | apply Z9 | apply ZA | apply ZB | apply ZC | ((first | apply ZD (by decide) | apply ZN (by decide)); (simp (maxSteps := 9999999) only [go_sem, r5, r6, r7, r8, r9, r10, e1, l5, l6, cp, c1, ux, uy, wn, wu1, wu2, nz1, nz2, wx, wy, hn', ew]; rfl)) | (refine ZE ?_ ?_; · simp only [go_sem]) | (refine ZF ?_ ?_; · simp only [go_sem]))
        exact end_nil ⟨k - 1, by omega, r + 1, (x2 : Int), (y2 : Int), by omega, by simp only [go_sem, r5], by simp only [go_sem, r6], by simp only [go_sem, r7], by simp only [go_sem], by simp only [go_sem], by simp only [go_sem, ew], rfl, rfl, rfl⟩
      by_cases c2 : x ≥ A.length
      · repeat (first | apply Z1 | apply Z2 | apply Z3 | apply Z4 | apply Z5 rfl | apply Z6 | apply Z7 | apply Z8 | apply Z9 | apply ZA | apply ZB | apply ZC | ((first | apply ZD (by decide) | apply ZN (by decide)); (simp (maxSteps := 9999999) only [go_sem, r5, r6, r7, r8, r9, r10, e1, l5, l6, cp, c1, c2, ux, uy, wn, wu1, wu2, nz1, nz2, wx, wy, hn', ew]; rfl)) | (refine ZE ?_ ?_; · simp only [go_sem]) | (refine ZF ?_ ?_; · simp only [go_sem]))
        exact end_nil ⟨k - 1, by omega, r + 1, (x2 : Int), (y2 : Int), by omega, by simp only [go_sem, r5], by simp only [go_sem, r6], by simp only [go_sem, r7], by simp only [go_sem], by simp only [go_sem], by simp only [go_sem, ew], rfl, rfl, rfl⟩
      by_cases c3 : y < 0
      · repeat (first | apply Z1 | apply Z2 | apply Z3 | apply Z4 | apply Z5 rfl | apply Z6 | apply Z7 | apply Z8 | apply Z9 | apply ZA | apply ZB | apply ZC | ((first | apply ZD (by decide) | apply ZN (by decide)); (simp (maxSteps := 9999999) only [go_sem, r5, r6, r7, r8, r9, r10, e1, l5, l6, cp, c1, c2, c3, ux, uy, wn, wu1, wu2, nz1, nz2, wx, wy, hn', ew]; rfl)) | (refine ZE ?_ ?_; · simp only [go_sem]) | (refine ZF ?_ ?_; · simp only [go_sem]))
        exact end_nil ⟨k - 1, by omega, r + 1, (x2 : Int), (y2 : Int), by omega, by simp only [go_sem, r5], by simp only [go_sem, r6], by simp only [go_sem, r7], by simp only [go_sem], by simp only [go_sem], by simp only [go_sem, ew], rfl, rfl, rfl⟩
      by_cases c4 : y > A.length
      · repeat (first | apply Z1 | apply Z2 | apply Z3 | apply Z4 | apply Z5 rfl | apply Z6 | apply Z7 | apply Z8 | apply Z9 | apply ZA | apply ZB | apply ZC | ((first | apply ZD (by decide) | apply ZN (by decide)); (simp (maxSteps := 9999999) only [go_sem, r5, r6, r7, r8, r9, r10, e1, l5, l6, cp, c1, c2, c3, c4, ux, uy, wn, wu1, wu2, nz1, nz2, wx, wy, hn', ew]; rfl)) | (refine ZE ?_ ?_; · simp only [go_sem]) | (refine ZF ?_ ?_; · simp only [go_sem]))
        exact end_nil ⟨k - 1, by omega, r + 1, (x2 : Int), (y2 : Int), by omega, by simp only [go_sem, r5], by simp only [go_sem, r6], by simp only [go_sem, r7], by simp only [go_sem], by simp only [go_sem], by simp only [go_sem, ew], rfl, rfl, rfl⟩
      have c5 := eq_true (show x = y by omega)
      repeat (first | apply Z1 | apply Z2 | apply Z3 | apply Z4 | apply Z5 rfl | apply Z6 | apply Z7 | apply Z8 | apply Z9 | apply ZA | apply ZB | apply ZC | ((first | apply ZD (by decide) | apply ZN (by decide)); (simp (maxSteps := 9999999) only [go_sem, r5, r6, r7, r8, r9, r10, e1, l5, l6, cp, c1, c2, c3, c4, c5, ux, uy, wn, wu1, wu2, nz1, nz2, wx, wy, hn', ew]; rfl)) | (refine ZE ?_ ?_; · simp only [go_sem]) | (refine ZF ?_ ?_; · simp only [go_sem]))
      exact end_nil ⟨k - 1, by omega, r + 1, (x2 : Int), (y2 : Int), by omega, by simp only [go_sem, r5], by simp only [go_sem, r6], by simp only [go_sem, r7], by simp only [go_sem], by simp only [go_sem], by simp only [go_sem, ew], rfl, rfl, rfl⟩
theorem law3M {H : SHeap} {v : Value} {A0 F0 : List Int} {S0 : List T3} (hv : BV H v A0 F0 S0) (hl1 : A0.length ≤ 9223372036854775807) (hl2 : F0.length ≤ 9223372036854775807) (hl3 : S0.length ≤ 9223372036854775807) (x y : Int) :
    M.call 3 [v, .agg #[.int .i64 x, .int .i64 y]] H = some (.bool true, H, []) := by
  have hv0 := hv
  obtain ⟨a0, f0, s0, rfl, h1, h2, h3⟩ := hv0
  refine call_run sf3 rfl rfl rfl ?_
  generalize hX0 : H ++ [SO.cells [a0, f0, s0] 25 false 0 [], .cells [.int .i64 x, .int .i64 y] 26 true 0 []] = X0
  have eX0 : Ext H X0 := by rw [← hX0]; exact Ext.app H _
  have lb0 : loadS X0 (some 3) (.pointer (some ⟨H.length, 0, none⟩)) = some (.agg #[a0, f0, s0]) := by rw [← hX0, load_appN0]; rfl
  have lp0 : ∀ o, loadS X0 none (.pointer (some ⟨H.length + 1, o, none⟩)) = [Value.int .i64 x, .int .i64 y][o]? := fun o => by rw [← hX0, load_app]; rfl
  have lX0 : X0.length = H.length + 2 := by rw [← hX0]; simp
  obtain ⟨A, F, S, v1, H1, c16, hc, e1, hb1⟩ := tame16 (hv.fr eX0) hl1 hl2 hl3
  have n1 := hc.n1
  have n8 := hc.n8
  have nf := hc.fl
  have s20 := hc.s20
  obtain ⟨va, vf, vs, rfl, i1, i2, i3, i4⟩ := id hb1
  generalize hX1 : H1 ++ [SO.cells [va, vf, vs] 27 false 0 []] = X1
  have eX1 : Ext H1 X1 := by rw [← hX1]; exact Ext.app H1 _
  have lX1 : X1.length = H1.length + 1 := by rw [← hX1]; simp
  have b3 : X1[H1.length]? = some (.cells [va, vf, vs] 27 false 0 []) := by rw [← hX1, app_get0]; rfl
  have lb1 : loadS X1 (some 3) (.pointer (some ⟨H1.length, 0, none⟩)) = some (.agg #[va, vf, vs]) := by rw [load_rdON, b3]; rfl
  obtain ⟨v2, H2, c17, e2, hb2⟩ := given17 (hb1.fr eX1).bv (by omega) (by omega) (by omega)
  obtain ⟨wa, wf, ws, rfl, w1, w2, w3, w4⟩ := id hb2
  generalize hX3 : H2 ++ [SO.cells [wa, wf, ws] 25 false 0 []] = X3
  have eX3 : Ext H2 X3 := by rw [← hX3]; exact Ext.app H2 _
  have b6 : X3[H2.length]? = some (.cells [wa, wf, ws] 25 false 0 []) := by rw [← hX3, app_get0]; rfl
  have e13 := e2.trans eX3
  have e03 := e1.trans (eX1.trans e13)
  have l3 : loadS X3 none (.pointer (some ⟨H1.length, 0, none⟩)) = some va := by rw [e13.load (by omega), load_rdO, b3]; rfl
  have lp3 : ∀ o, loadS X3 none (.pointer (some ⟨H.length + 1, o, none⟩)) = [Value.int .i64 x, .int .i64 y][o]? := fun o => by rw [e03.load (by omega), lp0]
  have aw := awake_call X3
  have tX := (eX0.trans e03).take
  have dO : ∀ d, dirty H.length H1.length false d = d := fun d => dirty_own (by have := eX0.le; have := e1.le; omega)
  have dO2 : ∀ d, dirty H.length H2.length false d = d := fun d => dirty_own (by have := eX0.le; have := e1.le; have := eX1.le; have := e2.le; omega)
  have hlp := fun (cx : Cx) => lips_loop cx (X := X3) (p5 := H1.length) (p6 := H2.length) (by rw [e13.fr _ (by omega)]; exact b3) b6 (hb1.fr (eX1.trans e13)).bv (hb2.fr eX3) hc
  obtain ⟨q1, q2, rfl⟩ := h1.shape
  obtain ⟨q3, q4, rfl⟩ := h2.shape
  obtain ⟨q5, q6, rfl⟩ := h3.shape
  obtain ⟨q1, q2, rfl⟩ := i1.shape
  obtain ⟨q3, q4, rfl⟩ := i2.shape
  obtain ⟨q5, q6, rfl⟩ := i3.shape
  obtain ⟨q1, q2, rfl⟩ := w1.shape
  obtain ⟨q3, q4, rfl⟩ := w2.shape
  obtain ⟨q5, q6, rfl⟩ := w3.shape
  unfold sf3
  repeat (first | apply Z1 | apply Z2 | apply Z3 | apply Z4 | apply Z5 rfl | apply Z6 | apply Z7 | apply Z8 | apply Z9 | apply ZA | apply ZB | apply ZC | ((first | apply ZD (by decide) | apply ZN (by decide)); (simp (maxSteps := 9999999) only [go_sem, argR, hX0, lb0, c16, dO, hX1, lb1, c17, dO2, hX3, l3, lp3]; rfl)) | (refine ZE ?_ ?_; · simp only [go_sem]) | (refine ZF ?_ ?_; · simp only [go_sem]))
  refine run_loop (hlp _ 2 _ _ _ _ ⟨0, x, y, by omega, by simp only [go_sem], by simp only [go_sem], by simp only [go_sem], by simp only [go_sem], by simp only [go_sem], by simp only [go_sem], rfl, rfl, rfl⟩) ?_
  rintro ex ρ2 ms2 h5 d2 ⟨rfl, rfl, rfl, rfl⟩
  repeat (first | apply Z1 | apply Z2 | apply Z3 | apply Z4 | apply Z5 rfl | apply Z6 | apply Z7 | apply Z8 | apply Z9 | apply ZA | apply ZB | apply ZC | ((first | apply ZD (by decide) | apply ZN (by decide)); (simp (maxSteps := 9999999) only [go_sem, aw]; rfl)) | (refine ZE ?_ ?_; · simp only [go_sem]) | (refine ZF ?_ ?_; · simp only [go_sem]))
  exact end_nil (q_ret1 _ (by simp only [go_sem]) rfl tX)
end Go.Proofs.Ytioijehbmgmgkaa.Sh

