/- Groups: first and join. The walk. -/
import Derived.Test.YtioijehbmgmgkaaH42
import Derived.Test.YtioijehbmgmgkaaH46
set_option linter.all false
namespace Go.Proofs.Ytioijehbmgmgkaa.Sh
section
open Go
set_option maxRecDepth 100000
set_option maxHeartbeats 4000000
def rtF (P : Nat → Nat) : Nat → Nat → Nat
 | 0, i => i
 | n + 1, i => if P i = i then i else rtF P n (P i)
def rt (P : Nat → Nat) (i : Nat) : Nat := rtF P i i
theorem rtF_ok {P : Nat → Nat} (h : ∀ k, P k ≤ k) : ∀ (n i : Nat), i ≤ n → rtF P n i = rt P i := by
 have key : ∀ (i n m : Nat), i ≤ n → i ≤ m → rtF P n i = rtF P m i := by
  intro i
  induction i using Nat.strongRecOn with
  | ind i ih =>
   intro n m hn hm
   cases n with
   | zero =>
    have : i = 0 := by omega
    subst this
    have h0 : P 0 = 0 := by have := h 0; omega
    cases m with
    | zero => rfl
    | succ m => simp [rtF, h0]
   | succ n =>
    cases m with
    | zero =>
     have : i = 0 := by omega
     subst this
     have h0 : P 0 = 0 := by have := h 0; omega
     simp [rtF, h0]
    | succ m =>
     unfold rtF
     by_cases c : P i = i
     ·rw [if_pos c, if_pos c]
     ·rw [if_neg c, if_neg c]
      have := h i
      exact ih (P i) (by omega) n m (by omega) (by omega)
 intro n i hi
 exact key i n i hi (Nat.le_refl _)
theorem rt_eq {P : Nat → Nat} (h : ∀ k, P k ≤ k) (i : Nat) : rt P i = if P i = i then i else rt P (P i) := by
 have e : rt P i = rtF P (i + 1) i := (rtF_ok h (i + 1) i (by omega)).symm
 rw [e]
 unfold rtF
 by_cases c : P i = i
 ·rw [if_pos c, if_pos c]
 ·rw [if_neg c, if_neg c, rtF_ok h i (P i) (h i)]
theorem rt_root {P : Nat → Nat} (h : ∀ k, P k ≤ k) (i : Nat) : P (rt P i) = rt P i ∧ rt P i ≤ i := by
 induction i using Nat.strongRecOn with
 | ind i ih =>
  rw [rt_eq h]
  by_cases c : P i = i
  ·rw [if_pos c]; exact ⟨c, Nat.le_refl _⟩
  ·rw [if_neg c]
   have := h i
   have := ih (P i) (by omega)
   exact ⟨this.1, by omega⟩
theorem rt_self {P : Nat → Nat} (h : ∀ k, P k ≤ k) {i : Nat} (hi : P i = i) : rt P i = i := by rw [rt_eq h, if_pos hi]
def upP (P : Nat → Nat) (q p : Nat) : Nat → Nat := fun k => if k = q then p else P k
theorem rt_join {P : Nat → Nat} (h : ∀ k, P k ≤ k) {p q : Nat} (hpq : p < q) (hp : P p = p) (hq : P q = q) : (∀ k, upP P q p k ≤ k) ∧ ∀ i, rt (upP P q p) i = jr (rt P) p q i := by
 have h' : ∀ k, upP P q p k ≤ k := fun k => by
  have := h k
  unfold upP; split <;> omega
 refine ⟨h', fun i => ?_⟩
 unfold jr
 induction i using Nat.strongRecOn with
 | ind i ih =>
  have rp : rt (upP P q p) p = p := rt_self h' (by unfold upP; rw [if_neg (by omega)]; exact hp)
  by_cases c : i = q
  ·subst c
   rw [rt_self h hq, if_pos rfl, rt_eq h']
   have e : upP P i p i = p := by unfold upP; rw [if_pos rfl]
   rw [e, if_neg (by omega)]
   exact rp
  ·have e : upP P q p i = P i := by unfold upP; rw [if_neg c]
   rw [rt_eq h', e, rt_eq h]
   by_cases c2 : P i = i
   ·rw [if_pos c2, if_pos c2, if_neg c]
   ·rw [if_neg c2, if_neg c2]
    have := h i
    exact ih (P i) (by omega)
theorem first_loop (cx : Cx) {h : SHeap} {g o : Nat} {P : Nat → Nat} (hP : ∀ k, P k ≤ k) (hl : ∀ i, i < 9 → loadS h none (.pointer (some ⟨g, o + i, none⟩)) = some (.int .i64 (P i))) {i0 : Nat} :
  ∀ k ρ ms h' d', (∃ i : Nat, i = k ∧ i < 9 ∧ rt P i = rt P i0 ∧ ρ 0 = .pointer (some ⟨g, o, none⟩) ∧ ρ 1 = .int .i64 i ∧ ms = [] ∧ h' = h ∧ d' = []) →
  LoopW M cx 5 sf57L0 ρ ms h' d' (fun ex ρ' ms' h' d' => ms' = [] ∧ h = h' ∧ d' = [] ∧ ex = .exit 0 ∧ ρ' 1 = .int .i64 (rt P i0)) := by
 refine loop_run _ ?_
 rintro k ρ ms h' d' ⟨i, hk, hi, he, r0, r1, rfl, rfl, rfl⟩
 unfold sf57L0
 have e2 : (0 : Int) ≤ i := by omega
 have e3 : (i : Int) < 9 := by omega
 have l1 := hl i hi
 by_cases c : P i = i
 ·have c1 : ((P i : Nat) : Int) = i := by omega
  repeat (first | apply Z1 | apply Z2 | apply Z3 | apply Z4 | apply Z5 rfl | apply Z6 | apply Z7 | apply Z8 | apply Z9 | apply ZA | apply ZB | apply ZC | ((first | apply ZD (by decide) | apply ZN (by decide)); (simp (maxSteps := 9999999) only [go_sem, r0, r1, e2, e3, l1, c1, Int.toNat_natCast]; rfl)) | (refine ZE ?_ ?_; · simp only [go_sem]) | (refine ZF ?_ ?_; · simp only [go_sem]))
  refine end_nil ⟨rfl, rfl, rfl, rfl, ?_⟩
  rw [← he, rt_self hP c]
  simp only [go_sem, r1]
 ·have c1 : ¬ ((P i : Nat) : Int) = i := by omega
  have := hP i
  repeat (first | apply Z1 | apply Z2 | apply Z3 | apply Z4 | apply Z5 rfl | apply Z6 | apply Z7 | apply Z8 | apply Z9 | apply ZA | apply ZB | apply ZC | ((first | apply ZD (by decide) | apply ZN (by decide)); (simp (maxSteps := 9999999) only [go_sem, r0, r1, e2, e3, l1, c1, ne_eq, not_false_eq_true, Int.toNat_natCast]; rfl)) | (refine ZE ?_ ?_; · simp only [go_sem]) | (refine ZF ?_ ?_; · simp only [go_sem]))
  exact end_nil ⟨P i, by omega, P i, rfl, by omega, by rw [← he, rt_eq hP i, if_neg c], by simp only [go_sem, r0], by simp only [go_sem], rfl, rfl, rfl⟩
theorem first57 {h : SHeap} {g o : Nat} {P : Nat → Nat} (hP : ∀ k, P k ≤ k) (hl : ∀ i, i < 9 → loadS h none (.pointer (some ⟨g, o + i, none⟩)) = some (.int .i64 (P i))) {i : Nat} (hi : i < 9) : M.call 57 [.pointer (some ⟨g, o, none⟩), .int .i64 i] h = some (.int .i64 (rt P i), h, []) := by
 refine call_run sf57 rfl rfl rfl ?_
 unfold sf57
 repeat (first | apply Z1 | apply Z2 | apply Z3 | apply Z4 | apply Z5 rfl | apply Z6 | apply Z7 | apply Z8 | apply Z9 | apply ZA | apply ZB | apply ZC | ((first | apply ZD (by decide) | apply ZN (by decide)); (simp (maxSteps := 9999999) only [go_sem, argR]; rfl)) | (refine ZE ?_ ?_; · simp only [go_sem]) | (refine ZF ?_ ?_; · simp only [go_sem]))
 refine run_loop (first_loop _ hP hl (i0 := i) i _ _ _ _ ⟨i, rfl, hi, rfl, by simp only [go_sem, argR], by simp only [go_sem, argR], rfl, rfl, rfl⟩) ?_
 rintro ex ρ2 ms2 h2 d2 ⟨rfl, rfl, rfl, rfl, r1⟩
 repeat (first | apply Z1 | apply Z2 | apply Z3 | apply Z4 | apply Z5 rfl | apply Z6 | apply Z7 | apply Z8 | apply Z9 | apply ZA | apply ZB | apply ZC | ((first | apply ZD (by decide) | apply ZN (by decide)); (simp (maxSteps := 9999999) only [go_sem, r1]; rfl)) | (refine ZE ?_ ?_; · simp only [go_sem]) | (refine ZF ?_ ?_; · simp only [go_sem]))
 exact end_nil (q_ret1 _ (by simp only [go_sem, r1]) rfl (take_self _))
theorem join56 {h : SHeap} {g o : Nat} {P : Nat → Nat} {cs : List Value} {el : TypeId} {pf : Bool} (hP : ∀ k, P k ≤ k) (hb : h[g]? = some (.cells cs el pf 0 [])) (hc : ∀ i, i < 9 → cs[o + i]? = some (.int .i64 (P i))) {i k : Nat} (hi : i < 9) (hk : k < 9) :
  M.call 56 [.pointer (some ⟨g, o, none⟩), .int .i64 i, .int .i64 k] h = some (.bool (decide (rt P i ≠ rt P k)), h.set g (.cells (cs.set (o + max (rt P i) (rt P k)) (.int .i64 ((min (rt P i) (rt P k) : Nat) : Int))) el pf 0 []), if pf = true then [] else [g]) := by
 have hl : ∀ i, i < 9 → loadS h none (.pointer (some ⟨g, o + i, none⟩)) = some (.int .i64 (P i)) := fun i hi => by rw [load_rdO, hb, rdO_cells, readable_0, if_pos rfl]; exact hc i hi
 have c1 := first57 hP hl hi
 have c2 := first57 hP hl hk
 have ri := (rt_root hP i).2
 have rk := (rt_root hP k).2
 generalize rt P i = a at *
 generalize rt P k = b at *
 have hlt : g < h.length := (List.getElem?_eq_some_iff.1 hb).1
 have m1 : (if (b : Int) > a then (b : Int) else a) = ((max a b : Nat) : Int) := by split <;> omega
 have m2 : (if (b : Int) < a then (b : Int) else a) = ((min a b : Nat) : Int) := by split <;> omega
 have hm : max a b < 9 := by omega
 have hcs : o + max a b < cs.length := by
  have := hc (max a b) hm
  exact (List.getElem?_eq_some_iff.1 this).1
 have z1 : (0 : Int) ≤ ((max a b : Nat) : Int) := by omega
 have z2 : ((max a b : Nat) : Int) < 9 := by omega
 have st := fun (x : Int) (d : List Nat) => store_cell (h := h) (base := h.length) (b := g) (o := o + max a b) (c := .int .i64 x) hb hcs rfl (fun _ => rfl) d
 have st2 : ∀ (x : Int) (d : List Nat), storeS h.length h d g (o + max a b) (cellsL (.int .i64 x)) = some (h.set g (.cells (cs.set (o + max a b) (.int .i64 x)) el pf 0 []), dirty h.length g pf d) := st
 have bne : (decide ((a : Int) = b)) = decide (a = b) := decide_eq_decide.2 (by omega)
 have dd : dirty h.length g pf [] = if pf = true then [] else [g] := by
  unfold dirty
  have : Nat.ble h.length g = false := by rw [ble_dec]; exact decide_eq_false (by omega)
  rw [this]
  cases pf <;> rfl
 have key : ∃ r, r = (Value.bool (decide (a ≠ b)), h.set g (.cells (cs.set (o + max a b) (.int .i64 ((min a b : Nat) : Int))) el pf 0 []), if pf = true then [] else [g]) ∧ M.call 56 [.pointer (some ⟨g, o, none⟩), .int .i64 i, .int .i64 k] h = some r := by
  refine call_ex (f := 56) _ sf56 rfl rfl rfl ?_
  unfold sf56
  have fin : ∀ (ρ : Reg) (v : Bool) (h' : SHeap), ρ 6 = .bool v → h'.length = h.length → callQ sf56.res h.length (.bool v, h', if pf = true then [] else [g]) .ret ρ [] h' (if pf = true then [] else [g]) := fun ρ v h' h6 hl' => by
   cases pf with
   | true => exact q_ret1 _ h6 rfl (by rw [← hl']; exact take_self _)
   | false =>
    refine ⟨rfl, ?_⟩
    show opn (ρ 6) fun v' => endW h.length h' [g] (.bool v, h', [g]) [v']
    rw [h6]
    rfl
  by_cases c : a = b
  ·subst c
   rw [Nat.max_self, Nat.min_self] at *
   rw [decide_eq_false (by simp)]
   have m3 : (if (a : Int) > a then (a : Int) else a) = a := by split <;> rfl
   repeat (first | apply Z1 | apply Z2 | apply Z3 | apply Z4 | apply Z5 rfl | apply Z6 | apply Z7 | apply Z8 | apply Z9 | apply ZA | apply ZB | apply ZC | ((first | apply ZD (by decide) | apply ZN (by decide)); (simp (maxSteps := 9999999) only [go_sem, argR, c1, c2, m3, z1, z2, ↓st2, dd, Int.toNat_natCast]; rfl)) | (refine ZE ?_ ?_; · simp only [go_sem]) | (refine ZF ?_ ?_; · simp only [go_sem]))
   exact end_nil ⟨_, rfl, fin _ _ _ (by simp only [go_sem]) List.length_set⟩
  ·have ci : ¬ (a : Int) = b := by omega
   generalize hmx : max a b = mx at *
   generalize hmn : min a b = mn at *
   rw [decide_eq_true c]
   repeat (first | apply Z1 | apply Z2 | apply Z3 | apply Z4 | apply Z5 rfl | apply Z6 | apply Z7 | apply Z8 | apply Z9 | apply ZA | apply ZB | apply ZC | ((first | apply ZD (by decide) | apply ZN (by decide)); (simp (maxSteps := 9999999) only [go_sem, argR, c1, c2, m1, m2, z1, z2, ↓st2, ci, dd, ne_eq, not_false_eq_true, Int.toNat_natCast]; rfl)) | (refine ZE ?_ ?_; · simp only [go_sem]) | (refine ZF ?_ ?_; · simp only [go_sem]))
   exact end_nil ⟨_, rfl, fin _ _ _ (by simp only [go_sem]) List.length_set⟩
 obtain ⟨r, rfl, e⟩ := key
 exact e
end
end Go.Proofs.Ytioijehbmgmgkaa.Sh
namespace Go.Proofs.Ytioijehbmgmgkaa.Sh
section
open Go
set_option maxRecDepth 100000
set_option maxHeartbeats 4000000
def pV (P : Nat → Nat) : List Value := (List.range 9).map fun i => Value.int .i64 (P i)
theorem pV_len (P : Nat → Nat) : (pV P).length = 9 := by simp [pV]
theorem pV_get (P : Nat → Nat) {i : Nat} (h : i < 9) : (pV P)[i]? = some (.int .i64 (P i)) := by simp [pV, h]
theorem pV_set (P : Nat → Nat) {i : Nat} (h : i < 9) (v : Nat) : (pV P).set i (.int .i64 v) = pV (upP P i v) := by
 apply List.ext_getElem?
 intro j
 by_cases e : j = i
 ·subst e
  rw [List.getElem?_set_self (by rw [pV_len]; exact h), pV_get _ h]; simp [upP]
 ·rw [List.getElem?_set_ne (fun k => e k.symm)]
  by_cases c : j < 9
  ·rw [pV_get _ c, pV_get _ c]; simp [upP, e]
  ·rw [List.getElem?_eq_none (by rw [pV_len]; omega), List.getElem?_eq_none (by rw [pV_len]; omega)]
theorem pV_id : pV (fun k => k) = [.int .i64 0, .int .i64 1, .int .i64 2, .int .i64 3, .int .i64 4, .int .i64 5, .int .i64 6, .int .i64 7, .int .i64 8] := rfl
theorem pV_zero : pV (fun _ => 0) = [.int .i64 0, .int .i64 0, .int .i64 0, .int .i64 0, .int .i64 0, .int .i64 0, .int .i64 0, .int .i64 0, .int .i64 0] := rfl
theorem pV_congr {P P' : Nat → Nat} (h : ∀ i, i < 9 → P i = P' i) : pV P = pV P' := by
 apply List.ext_getElem?
 intro j
 by_cases c : j < 9
 ·rw [pV_get _ c, pV_get _ c, h j c]
 ·rw [List.getElem?_eq_none (by rw [pV_len]; omega), List.getElem?_eq_none (by rw [pV_len]; omega)]
theorem alone_loop (cx : Cx) {H : SHeap} (hb : cx.base = H.length) :
  ∀ k ρ ms h' d', (∃ (i : Nat), i + k = 9 ∧ h' = H ++ [.cells (pV fun _ => 0) 96 true 0 [], .cells (pV fun j => if j < i then j else 0) 96 true 0 []] ∧ ρ 0 = .pointer (some ⟨H.length, 0, none⟩) ∧ ρ 1 = .pointer (some ⟨H.length + 1, 0, none⟩) ∧ ρ 3 = .int .i64 i ∧ ms = [] ∧ d' = []) →
  LoopW M cx 4 sf54L0 ρ ms h' d' (fun ex ρ' ms' h' d' => ms' = [] ∧ d' = [] ∧ ex = .exit 0 ∧ h' = H ++ [.cells (pV fun _ => 0) 96 true 0 [], .cells (pV fun j => j) 96 true 0 []] ∧ ρ' 0 = .pointer (some ⟨H.length, 0, none⟩) ∧ ρ' 1 = .pointer (some ⟨H.length + 1, 0, none⟩)) := by
 refine loop_run _ ?_
 rintro k ρ ms h' d' ⟨i, hk, rfl, r0, r1, r3, rfl, rfl⟩
 unfold sf54L0
 by_cases c : k = 0
 ·have e1 : ¬ ((i : Int) < 9) := by omega
  repeat (first | apply Z1 | apply Z2 | apply Z3 | apply Z4 | apply Z5 rfl | apply Z6 | apply Z7 | apply Z8 | apply Z9 | apply ZA | apply ZB | apply ZC | ((first | apply ZD (by decide) | apply ZN (by decide)); (simp (maxSteps := 9999999) only [go_sem, r3, e1]; rfl)) | (refine ZE ?_ ?_; · simp only [go_sem]) | (refine ZF ?_ ?_; · simp only [go_sem]))
  refine end_nil ⟨rfl, rfl, rfl, ?_, by simp only [go_sem, r0], by simp only [go_sem, r1]⟩
  rw [pV_congr (P := fun j => if j < i then j else 0) (P' := fun j => j) (fun j hj => by show (if j < i then j else 0) = j; rw [if_pos (by omega)])]
 ·have e1 : ((i : Int) < 9) := by omega
  have e2 : (0 : Int) ≤ i := by omega
  have ew : IntKind.i64.wrap ((i : Int) + 1) = ((i + 1 : Nat) : Int) := by rw [wrap64 (by omega) (by omega)]; rfl
  have st : ∀ d, storeS cx.base (H ++ [.cells (pV fun _ => 0) 96 true 0 [], .cells (pV fun j => if j < i then j else 0) 96 true 0 []]) d (H.length + 1) i (cellsL (.int .i64 (i : Int))) = some (H ++ [.cells (pV fun _ => 0) 96 true 0 [], .cells (pV fun j => if j < i + 1 then j else 0) 96 true 0 []], d) := fun d => by
   have := store_cell (h := H ++ [.cells (pV fun _ => 0) 96 true 0 [], .cells (pV fun j => if j < i then j else 0) 96 true 0 []]) (base := cx.base) (b := H.length + 1) (o := i) (c := .int .i64 (i : Int)) (cs := pV fun j => if j < i then j else 0) (el := 96) (pf := true) (by rw [app_get]; rfl) (by rw [pV_len]; omega) rfl (fun _ => rfl) d
   have e : pV (upP (fun j => if j < i then j else 0) i i) = pV (fun j => if j < i + 1 then j else 0) := pV_congr (fun j hj => by
    show upP (fun j => if j < i then j else 0) i i j = if j < i + 1 then j else 0
    unfold upP
    by_cases e : j = i
    ·subst e; rw [if_pos rfl, if_pos (by omega)]
    ·rw [if_neg e]
     dsimp only
     by_cases e2 : j < i
     ·rw [if_pos e2, if_pos (by omega)]
     ·rw [if_neg e2, if_neg (by omega)])
   rw [pV_set _ (by omega), app_set, e] at this
   exact this
  repeat (first | apply Z1 | apply Z2 | apply Z3 | apply Z4 | apply Z5 rfl | apply Z6 | apply Z7 | apply Z8 | apply Z9 | apply ZA | apply ZB | apply ZC | ((first | apply ZD (by decide) | apply ZN (by decide)); (simp (maxSteps := 9999999) only [go_sem, r0, r1, r3, e1, e2, ↓st, ew, Int.toNat_natCast]; rfl)) | (refine ZE ?_ ?_; · simp only [go_sem]) | (refine ZF ?_ ?_; · simp only [go_sem]))
  exact end_nil ⟨k - 1, by omega, i + 1, by omega, rfl, by simp only [go_sem, r0], by simp only [go_sem, r1], by simp only [go_sem, ew], rfl, rfl⟩
theorem alone54 (H : SHeap) : M.call 54 [] H = some (.agg (pV fun j => j).toArray, H, []) := by
 refine call_run sf54 rfl rfl rfl ?_
 unfold sf54
 repeat (first | apply Z1 | apply Z2 | apply Z3 | apply Z4 | apply Z5 rfl | apply Z6 | apply Z7 | apply Z8 | apply Z9 | apply ZA | apply ZB | apply ZC | ((first | apply ZD (by decide) | apply ZN (by decide)); (simp (maxSteps := 9999999) only [go_sem, argR]; rfl)) | (refine ZE ?_ ?_; · simp only [go_sem]) | (refine ZF ?_ ?_; · simp only [go_sem]))
 refine run_loop (alone_loop _ (H := H) rfl 9 _ _ _ _ ⟨0, rfl, rfl, by simp only [go_sem, argR], by simp only [go_sem], by simp only [go_sem], rfl, rfl⟩) ?_
 rintro ex ρ2 ms2 h2 d2 ⟨rfl, rfl, rfl, rfl, r0, r1⟩
 rw [pV_zero, pV_id]
 repeat (first | apply Z1 | apply Z2 | apply Z3 | apply Z4 | apply Z5 rfl | apply Z6 | apply Z7 | apply Z8 | apply Z9 | apply ZA | apply ZB | apply ZC | ((first | apply ZD (by decide) | apply ZN (by decide)); (simp (maxSteps := 9999999) only [go_sem, r0, r1]; rfl)) | (refine ZE ?_ ?_; · simp only [go_sem]) | (refine ZF ?_ ?_; · simp only [go_sem]))
 exact end_nil (q_free [.agg #[.int .i64 0, .int .i64 1, .int .i64 2, .int .i64 3, .int .i64 4, .int .i64 5, .int .i64 6, .int .i64 7, .int .i64 8]] (by simp only [go_sem, r0]) rfl rfl rfl (fun _ => rfl) (take_app _ _) rfl)
def nd (x : Int) : Nat := x.toNat
def stepP (P : Nat → Nat) (s : T3) : Nat → Nat := upP P (max (rt P (nd s.1)) (rt P (nd s.2.1))) (min (rt P (nd s.1)) (rt P (nd s.2.1)))
def stepT (a : (Nat → Nat) × List T3) (s : T3) : (Nat → Nat) × List T3 := (stepP a.1 s, if rt a.1 (nd s.1) ≠ rt a.1 (nd s.2.1) then a.2 ++ [s] else a.2)
def treeF (L : List T3) : (Nat → Nat) × List T3 := L.foldl stepT (fun k => k, [])
theorem stepP_le {P : Nat → Nat} (h : ∀ k, P k ≤ k) (s : T3) : ∀ k, stepP P s k ≤ k := fun k => by
 have := h k
 unfold stepP upP
 split
 ·rename_i e; omega
 ·exact this
theorem treeF_le (L : List T3) : ∀ k, (treeF L).1 k ≤ k := by
 have : ∀ (L : List T3) (a : (Nat → Nat) × List T3), (∀ k, a.1 k ≤ k) → ∀ k, (L.foldl stepT a).1 k ≤ k := by
  intro L
  induction L with
  | nil => intro a h; exact h
  | cons s L ih => intro a h; exact ih _ (stepP_le h s)
 exact this L _ (fun k => Nat.le_refl k)
theorem treeF_snoc (L : List T3) (s : T3) : treeF (L ++ [s]) = stepT (treeF L) s := by
 unfold treeF; rw [List.foldl_append]; rfl
theorem treeF_len (L : List T3) : (treeF L).2.length ≤ L.length := by
 have : ∀ (L : List T3) (a : (Nat → Nat) × List T3), (L.foldl stepT a).2.length ≤ a.2.length + L.length := by
  intro L
  induction L with
  | nil => intro a; simp
  | cons s L ih =>
   intro a
   have := ih (stepT a s)
   have e : (stepT a s).2.length ≤ a.2.length + 1 := by unfold stepT; dsimp only; split <;> simp
   simp only [List.foldl_cons, List.length_cons]
   omega
 simpa [treeF] using this L (fun k => k, [])
theorem take_snoc {L : List T3} {i : Nat} (hi : i < L.length) : L.take (i + 1) = L.take i ++ [gT L i] := by
 rw [List.take_add_one, List.getElem?_eq_getElem hi, gT_at hi]; rfl
def rfA71_0 : SCode := (.region 0 [ ⟨(some 6), none, .alloc 78 true [(.int .i64 0), (.int .i64 0), (.int .i64 0)], none, 0, false, []⟩, ⟨none, none, .store 3 (.tmp 6) (.tmp 11), none, 1, false, []⟩])
def rfB71_0 : SCode := (.block 1 (.seq (.region 0 [ ⟨(some 12), none, .load none (.tmp 4), none, 0, false, []⟩, ⟨(some 13), none, .idxArr 3 1 (.tmp 6) (.const (.int .i64 0)), none, 1, false, []⟩, ⟨(some 14), none, .load none (.tmp 13), none, 2, false, []⟩, ⟨(some 15), none, .idxArr 3 1 (.tmp 6) (.const (.int .i64 1)), none, 3, false, []⟩, ⟨(some 16), none, .load none (.tmp 15), none, 4, false, []⟩, ⟨(some 17), none, .call (.tmp 12) [(.tmp 14), (.tmp 16)], none, 5, false, []⟩]) (.cond (.tmp 17) (.region 0 [ ⟨(some 18), none, .load none (.tmp 5), none, 0, false, []⟩, ⟨(some 19), none, .load (some 3) (.tmp 6), none, 1, false, []⟩, ⟨(some 20), none, .buildSlice 78 true [(.int .i64 0), (.int .i64 0), (.int .i64 0)] 1 [(0, 3, (.tmp 19))], none, 2, false, []⟩, ⟨(some 21), none, .append 78 true 3 24 (.tmp 18) (.tmp 20), none, 3, false, []⟩, ⟨none, none, .store 1 (.tmp 5) (.tmp 21), none, 4, false, []⟩]) (.skip))))
structure JT (N q : Nat) (t : T) (H : SHeap) (L : List T3) (h : SHeap) (d : List Nat) : Prop where
 len : q ≤ h.length
 nq : N + 7 ≤ q
 low : ∀ j, j < N → h[j]? = H[j]?
 gr : h[N + 1]? = some (.cells (pV (treeF L).1) 96 true 0 [])
 jn : h[N + 2]? = some (.cells [.func (.func 56) #[.pointer (some ⟨N + 1, 0, none⟩)] #[]] 101 false 0 [])
 out : ∃ qv, h[N + 3]? = some (.cells [qv] 23 false 0 []) ∧ Acc q h qv (trs (treeF L).2) (treeF L).2.length 3 78
 df : h[N + 5]? = some .deferred
 lp : h[N + 6]? = some (.loop 0 71 t [11] rfA71_0 rfB71_0 none (N + 5))
 d1 : d = [] ↔ (treeF L).2 = []
 d2 : ∀ x ∈ d, x = N + 3
theorem JT.app {N q : Nat} {t : T} {H : SHeap} {L : List T3} {h : SHeap} {d : List Nat} (J : JT N q t H L h d) (x : SHeap) : JT N q t H L (h ++ x) d := by
 have hl := J.len
 have nq := J.nq
 have k : ∀ j, j < h.length → (h ++ x)[j]? = h[j]? := fun j hj => List.getElem?_append_left hj
 obtain ⟨qv, o1, o2⟩ := J.out
 exact ⟨by simp; omega, nq, fun j hj => by rw [k j (by omega)]; exact J.low j hj, by rw [k _ (by omega)]; exact J.gr, by rw [k _ (by omega)]; exact J.jn, ⟨qv, by rw [k _ (by omega)]; exact o1, o2.keep (fun b e => k b (o2.lt e).2)⟩, by rw [k _ (by omega)]; exact J.df, by rw [k _ (by omega)]; exact J.lp, J.d1, J.d2⟩
theorem JT.fr {N q : Nat} {t : T} {H : SHeap} {L : List T3} {h h' : SHeap} {d d' : List Nat} {s : T3} (J : JT N q t H L h d) (hl : q ≤ h'.length) (k : ∀ j, j < N + 7 → j ≠ N + 1 → j ≠ N + 3 → h'[j]? = h[j]?)
  (gr : h'[N + 1]? = some (.cells (pV (stepP (treeF L).1 s)) 96 true 0 [])) (out : ∃ qv, h'[N + 3]? = some (.cells [qv] 23 false 0 []) ∧ Acc q h' qv (trs (stepT (treeF L) s).2) (stepT (treeF L) s).2.length 3 78)
  (d1 : d' = [] ↔ (stepT (treeF L) s).2 = []) (d2 : ∀ x ∈ d', x = N + 3) : JT N q t H (L ++ [s]) h' d' := by
 have nq := J.nq
 refine ⟨hl, nq, fun j hj => by rw [k j (by omega) (by omega) (by omega)]; exact J.low j hj, ?_, by rw [k _ (by omega) (by omega) (by omega)]; exact J.jn, ?_, by rw [k _ (by omega) (by omega) (by omega)]; exact J.df, by rw [k _ (by omega) (by omega) (by omega)]; exact J.lp, ?_, d2⟩
 ·rw [treeF_snoc]; exact gr
 ·rw [treeF_snoc]; exact out
 ·rw [treeF_snoc]; exact d1
end
end Go.Proofs.Ytioijehbmgmgkaa.Sh
namespace Go.Proofs.Ytioijehbmgmgkaa.Sh
section
open Go
set_option maxRecDepth 100000
set_option maxHeartbeats 4000000
theorem tree_round {N q : Nat} {t : T} {H : SHeap} {L : List T3} {hh : SHeap} {d : List Nat} (hf : Full 5 t) (t4 : t.get 4 = .pointer (some ⟨N + 2, 0, none⟩)) (t5 : t.get 5 = .pointer (some ⟨N + 3, 0, none⟩)) (hl : L.length ≤ 1000) (J : JT N q t H L hh d) (x y : Nat) (z : Int) (hx : x < 9) (hy : y < 9) :
  ∃ h2 d2, M.round (N + 7) (N + 6) [.agg #[.int .i64 x, .int .i64 y, .int .i64 z]] hh = some (.bool true, h2, d2) ∧ JT N q t H (L ++ [((x : Int), (y : Int), z)]) h2 (d2 ++ d) ∧ (∀ j, N + 7 ≤ j → j < q → h2[j]? = hh[j]?) := by
 have jl := J.len
 have nq := J.nq
 obtain ⟨qv, o1, o2⟩ := J.out
 have hP := treeF_le L
 have hTl := treeF_len L
 obtain ⟨r, ⟨h2, d2, rfl, hP⟩, e⟩ := round_rule (FT := FT) (C := flatK CA) (base := N + 7) (args := [.agg #[.int .i64 x, .int .i64 y, .int .i64 z]]) (fun r => ∃ h2 d2, r = (.bool true, h2, d2) ∧ JT N q t H (L ++ [((x : Int), (y : Int), z)]) h2 (d2 ++ d) ∧ (∀ j, N + 7 ≤ j → j < q → h2[j]? = hh[j]?)) J.lp hf rfl (by decide) rfl (by
  unfold rfA71_0
  repeat (first | apply Z1 | apply Z2 | apply Z3 | apply Z4 | apply Z5 rfl | apply Z6 | apply Z7 | apply Z8 | apply Z9 | apply ZA | apply ZB | apply ZC | ((first | apply ZD (by decide) | apply ZN (by decide)); (simp (maxSteps := 9999999) only [go_sem]; rfl)) | (refine ZE ?_ ?_; · simp only [go_sem]) | (refine ZF ?_ ?_; · simp only [go_sem]))
  have hl1 : (hh ++ [SO.cells [.int .i64 x, .int .i64 y, .int .i64 z] 78 true 0 []])[N + 6]? = some (.loop 0 71 t [11] rfA71_0 rfB71_0 none (N + 5)) := by rw [List.getElem?_append_left (by omega)]; exact J.lp
  refine end_nil ⟨rfl, ⟨71, t, [11], _, _, N + 5, hl1⟩, ?_⟩
  rw [setLoop_eq hl1]
  have g0 : ∀ j, j ≠ N + 6 → j < hh.length → ((hh ++ [SO.cells [.int .i64 x, .int .i64 y, .int .i64 z] 78 true 0 []]).set (N + 6) (.loop 1 71 t [11] rfA71_0 rfB71_0 none (N + 5)))[j]? = hh[j]? := fun j hj hj2 => by rw [List.getElem?_set_ne (by omega), List.getElem?_append_left hj2]
  have g1 : ((hh ++ [SO.cells [.int .i64 x, .int .i64 y, .int .i64 z] 78 true 0 []]).set (N + 6) (.loop 1 71 t [11] rfA71_0 rfB71_0 none (N + 5)))[N + 6]? = some (.loop 1 71 t [11] rfA71_0 rfB71_0 none (N + 5)) := by rw [List.getElem?_set_self (by simp; omega)]
  have gs : ((hh ++ [SO.cells [.int .i64 x, .int .i64 y, .int .i64 z] 78 true 0 []]).set (N + 6) (.loop 1 71 t [11] rfA71_0 rfB71_0 none (N + 5)))[hh.length]? = some (.cells [.int .i64 x, .int .i64 y, .int .i64 z] 78 true 0 []) := by rw [List.getElem?_set_ne (by omega), app_get0]; rfl
  have gl : ((hh ++ [SO.cells [.int .i64 x, .int .i64 y, .int .i64 z] 78 true 0 []]).set (N + 6) (.loop 1 71 t [11] rfA71_0 rfB71_0 none (N + 5))).length = hh.length + 1 := by simp
  generalize (hh ++ [SO.cells [.int .i64 x, .int .i64 y, .int .i64 z] 78 true 0 []]).set (N + 6) (.loop 1 71 t [11] rfA71_0 rfB71_0 none (N + 5)) = G at *
  have lj : loadS G none (.pointer (some ⟨N + 2, 0, none⟩)) = some (.func (.func 56) #[.pointer (some ⟨N + 1, 0, none⟩)] #[]) := by rw [load_rdO, g0 _ (by omega) (by omega), J.jn]; rfl
  have ls : ∀ o, loadS G none (.pointer (some ⟨hh.length, o, none⟩)) = [Value.int .i64 x, .int .i64 y, .int .i64 z][o]? := fun o => by rw [load_rdO, gs]; rfl
  have cj := join56 (h := G) (g := N + 1) (o := 0) (P := (treeF L).1) (cs := pV (treeF L).1) (el := 96) (pf := true) hP (by rw [g0 _ (by omega) (by omega)]; exact J.gr) (fun i hi => by rw [Nat.zero_add]; exact pV_get _ hi) hx hy
  have hmax : max (rt (treeF L).1 x) (rt (treeF L).1 y) < 9 := by
   have := (rt_root hP x).2
   have := (rt_root hP y).2
   omega
  rw [Nat.zero_add, pV_set _ hmax] at cj
  simp only [if_true] at cj
  have hst : upP (treeF L).1 (max (rt (treeF L).1 x) (rt (treeF L).1 y)) (min (rt (treeF L).1 x) (rt (treeF L).1 y)) = stepP (treeF L).1 ((x : Int), (y : Int), z) := by unfold stepP nd; simp only [Int.toNat_natCast]
  rw [hst] at cj
  have k1 : ∀ j, j ≠ N + 1 → (G.set (N + 1) (.cells (pV (stepP (treeF L).1 ((x : Int), (y : Int), z))) 96 true 0 []))[j]? = G[j]? := fun j hj => List.getElem?_set_ne (fun e => hj e.symm)
  have k2 : (G.set (N + 1) (.cells (pV (stepP (treeF L).1 ((x : Int), (y : Int), z))) 96 true 0 []))[N + 1]? = some (.cells (pV (stepP (treeF L).1 ((x : Int), (y : Int), z))) 96 true 0 []) := List.getElem?_set_self (by omega)
  have kl : (G.set (N + 1) (.cells (pV (stepP (treeF L).1 ((x : Int), (y : Int), z))) 96 true 0 [])).length = G.length := List.length_set
  generalize (G.set (N + 1) (.cells (pV (stepP (treeF L).1 ((x : Int), (y : Int), z))) 96 true 0 [])) = G1 at *
  by_cases cc : rt (treeF L).1 x = rt (treeF L).1 y
  ·rw [decide_eq_false (by simpa using cc)] at cj
   have hT : (stepT (treeF L) ((x : Int), (y : Int), z)).2 = (treeF L).2 := by
    unfold stepT nd; simp only [Int.toNat_natCast]; rw [if_neg (by simpa using cc)]
   unfold rfB71_0
   repeat (first | apply Z1 | apply Z2 | apply Z3 | apply Z4 | apply Z5 rfl | apply Z6 | apply Z7 | apply Z8 | apply Z9 | apply ZA | apply ZB | apply ZC | ((first | apply ZD (by decide) | apply ZN (by decide)); (simp (maxSteps := 9999999) only [go_sem, t4, lj, ls, cj]; rfl)) | (refine ZE ?_ ?_; · simp only [go_sem]) | (refine ZF ?_ ?_; · simp only [go_sem]))
   have hL : G1[N + 6]? = some (.loop 1 71 t [11] rfA71_0 rfB71_0 none (N + 5)) := by rw [k1 _ (by omega)]; exact g1
   refine end_nil ⟨⟨_, _, _, _, _, _, _, _, hL⟩, _, _, rfl, ?_, ?_⟩
   ·show JT N q t H _ (setLoop _ (N + 6) 0 none) _
    rw [setLoop_eq hL]
    have gk : ∀ j, j ≠ N + 6 → (G1.set (N + 6) (.loop 0 71 t [11] rfA71_0 rfB71_0 none (N + 5)))[j]? = G1[j]? := fun j h1 => List.getElem?_set_ne (fun e => h1 e.symm)
    refine J.fr (by rw [List.length_set]; omega) (fun j hj h1 h3 => ?_) (by rw [gk _ (by omega)]; exact k2) ⟨qv, by rw [gk _ (by omega), k1 _ (by omega), g0 _ (by omega) (by omega)]; exact o1, ?_⟩ (by rw [hT]; exact J.d1) J.d2
    ·by_cases c6 : j = N + 6
     ·subst c6; rw [List.getElem?_set_self (by omega)]; exact J.lp.symm
     ·rw [gk j c6, k1 j h1, g0 j c6 (by omega)]
    ·rw [hT]
     exact o2.keep (fun b e => by have := o2.lt e; rw [gk _ (by omega), k1 _ (by omega), g0 _ (by omega) (by omega)])
   ·intro j h1 h2
    show (setLoop _ (N + 6) 0 none)[j]? = _
    rw [setLoop_eq hL, List.getElem?_set_ne (by omega), k1 _ (by omega), g0 _ (by omega) (by omega)]
  ·rw [decide_eq_true (by simpa using cc)] at cj
   have hT : (stepT (treeF L) ((x : Int), (y : Int), z)).2 = (treeF L).2 ++ [((x : Int), (y : Int), z)] := by
    unfold stepT nd; simp only [Int.toNat_natCast]; rw [if_pos (by simpa using cc)]
   have oG : Acc q G1 qv (trs (treeF L).2) (treeF L).2.length 3 78 := o2.keep (fun b e => by have := o2.lt e; rw [k1 _ (by omega), g0 _ (by omega) (by omega)])
   have l5 : loadS G1 none (.pointer (some ⟨N + 3, 0, none⟩)) = some qv := by rw [load_rdO, k1 _ (by omega), g0 _ (by omega) (by omega), o1]; rfl
   have l6 : loadS G1 (some 3) (.pointer (some ⟨hh.length, 0, none⟩)) = some (.agg #[.int .i64 x, .int .i64 y, .int .i64 z]) := by rw [load_rdON, k1 _ (by omega), gs]; rfl
   have oG2 : Acc q (G1 ++ [.cells [.int .i64 x, .int .i64 y, .int .i64 z] 78 true 0 []]) qv (trs (treeF L).2) (treeF L).2.length 3 78 := oG.keep (fun b e => List.getElem?_append_left (oG.lt e).2)
   obtain ⟨old, ap, acc2, kp⟩ := acc_append (bytes := 24) (new := [.int .i64 x, .int .i64 y, .int .i64 z]) (bs := G1.length) (el2 := 78) (pf2 := true) (own2 := 0) (old2 := []) oG2 (by rw [app_get0]; rfl) rfl rfl (by decide) rfl (by decide) (by omega) (by simp; omega)
   have key : ∀ j, j < q → (shv (G1 ++ [.cells [.int .i64 x, .int .i64 y, .int .i64 z] 78 true 0 []]) qv ++ [SO.cells (trs (treeF L).2 ++ [.int .i64 x, .int .i64 y, .int .i64 z]) 78 true 0 old])[j]? = G1[j]? := fun j hj => by
    rw [kp j (by simp; omega) (fun b e => by have := (oG.lt e).1; omega), List.getElem?_append_left (by omega)]
   have hlen2 : q ≤ (shv (G1 ++ [.cells [.int .i64 x, .int .i64 y, .int .i64 z] 78 true 0 []]) qv ++ [SO.cells (trs (treeF L).2 ++ [.int .i64 x, .int .i64 y, .int .i64 z]) 78 true 0 old]).length := by simp [shv_len]; omega
   generalize (shv (G1 ++ [.cells [.int .i64 x, .int .i64 y, .int .i64 z] 78 true 0 []]) qv ++ [SO.cells (trs (treeF L).2 ++ [.int .i64 x, .int .i64 y, .int .i64 z]) 78 true 0 old]) = G3 at *
   have hlG : (G1 ++ [SO.cells [.int .i64 x, .int .i64 y, .int .i64 z] 78 true 0 []]).length = G1.length + 1 := by simp
   rw [hlG] at ap acc2
   have s2 : storeS (N + 7) G3 [] (N + 3) 0 (cellsL (.slice (some ⟨G1.length + 1, 0, none⟩) ((treeF L).2.length + 1) (UNK + 3))) = some (G3.set (N + 3) (.cells [.slice (some ⟨G1.length + 1, 0, none⟩) ((treeF L).2.length + 1) (UNK + 3)] 23 false 0 []), [N + 3]) := by
    have := store_cell (h := G3) (base := N + 7) (b := N + 3) (o := 0) (c := .slice (some ⟨G1.length + 1, 0, none⟩) ((treeF L).2.length + 1) (UNK + 3)) (cs := [qv]) (el := 23) (pf := false) (by rw [key _ (by omega), k1 _ (by omega), g0 _ (by omega) (by omega)]; exact o1) (Nat.zero_lt_succ _) rfl (fun h => by cases h) []
    refine this.trans ?_
    have e : Nat.ble (N + 7) (N + 3) = false := by rw [ble_dec]; exact decide_eq_false (by omega)
    unfold dirty
    rw [e]; rfl
   obtain ⟨qa, qc, rfl⟩ := oG.shp
   unfold rfB71_0
   repeat (first | apply Z1 | apply Z2 | apply Z3 | apply Z4 | apply Z5 rfl | apply Z6 | apply Z7 | apply Z8 | apply Z9 | apply ZA | apply ZB | apply ZC | ((first | apply ZD (by decide) | apply ZN (by decide)); (simp (maxSteps := 9999999) only [go_sem, t4, t5, lj, ls, cj, l5, l6, ap, ↓s2]; rfl)) | (refine ZE ?_ ?_; · simp only [go_sem]) | (refine ZF ?_ ?_; · simp only [go_sem]))
   have hL : (G3.set (N + 3) (.cells [.slice (some ⟨G1.length + 1, 0, none⟩) ((treeF L).2.length + 1) (UNK + 3)] 23 false 0 []))[N + 6]? = some (.loop 1 71 t [11] rfA71_0 rfB71_0 none (N + 5)) := by rw [List.getElem?_set_ne (by omega), key _ (by omega), k1 _ (by omega), g1]
   refine end_nil ⟨⟨_, _, _, _, _, _, _, _, hL⟩, _, _, rfl, ?_, ?_⟩
   ·show JT N q t H _ (setLoop _ (N + 6) 0 none) _
    rw [setLoop_eq hL]
    have gk : ∀ j, j ≠ N + 3 → j ≠ N + 6 → ((G3.set (N + 3) (.cells [.slice (some ⟨G1.length + 1, 0, none⟩) ((treeF L).2.length + 1) (UNK + 3)] 23 false 0 [])).set (N + 6) (.loop 0 71 t [11] rfA71_0 rfB71_0 none (N + 5)))[j]? = G3[j]? := fun j h1 h2 => by
     rw [List.getElem?_set_ne (by omega), List.getElem?_set_ne (by omega)]
    refine J.fr (by simp; omega) (fun j hj h1 h3 => ?_) (by rw [gk _ (by omega) (by omega), key _ (by omega)]; exact k2) ⟨_, by rw [List.getElem?_set_ne (by omega), List.getElem?_set_self (by omega)], ?_⟩ (by rw [hT]; simp) (fun x hx => ?_)
    ·by_cases c6 : j = N + 6
     ·subst c6; rw [List.getElem?_set_self (by simp; omega)]; exact J.lp.symm
     ·rw [gk j h3 c6, key j (by omega), k1 j h1, g0 j c6 (by omega)]
    ·rw [hT, trs_app, List.length_append, List.length_singleton]
     exact acc2.keep (fun b e => by have := (acc2.lt e).1; exact gk b (by omega) (by omega))
    ·rw [List.singleton_append, List.mem_cons] at hx
     rcases hx with hx | hx
     ·exact hx
     ·exact J.d2 x hx
   ·intro j h1 h2
    show (setLoop _ (N + 6) 0 none)[j]? = _
    rw [setLoop_eq hL, List.getElem?_set_ne (by omega), List.getElem?_set_ne (by omega), key _ (by omega), k1 _ (by omega), g0 _ (by omega) (by omega)])
 exact ⟨h2, d2, e, hP⟩
end
end Go.Proofs.Ytioijehbmgmgkaa.Sh
namespace Go.Proofs.Ytioijehbmgmgkaa.Sh
section
open Go
set_option maxRecDepth 100000
set_option maxHeartbeats 4000000
theorem q_gcM {rs : List SRes} {base : Nat} {ρ : Reg} {ms : List Nat} {h h2 h' : SHeap} {v : Value} {ex : Ex} (l : List Value) (hs : shut h ms = some h2) (he : resE ρ h2 rs = some l) (ho : l.all opnB = true) (hg : gcS base (oneV l) h2 = some (v, h')) (hx : isEnd ex = true) : callQ rs base (v, h', []) ex ρ ms h [] := by
 refine ⟨hx, ?_⟩
 have key : resW ρ h2 rs fun l' => endW base h2 [] (v, h', []) l' := resE_ok (K := fun l' => endW base h2 [] (v, h', []) l') he ho ⟨_, _, hg, rfl⟩
 cases ms with
 | nil =>
  have : h = h2 := by simpa [shut] using hs
  subst this
  exact key
 | cons m ms => exact ⟨h2, hs, key⟩
theorem JT.fin {N q : Nat} {t : T} {H : SHeap} {L : List T3} {h : SHeap} {d : List Nat} (J : JT N q t H L h d) : ∃ q', JT N q' t H L (finD (N + 7) h d) d := by
 cases d with
 | cons a d => exact ⟨q, J⟩
 | nil =>
  have hl := J.d1.1 rfl
  have jl := J.len
  have nq := J.nq
  have k : ∀ j, j < N + 7 → (h.take (N + 7))[j]? = h[j]? := fun j hj => by rw [List.getElem?_take, if_pos hj]
  obtain ⟨qv, o1, o2⟩ := J.out
  exact ⟨N + 7, ⟨by show N + 7 ≤ (h.take (N + 7)).length; rw [List.length_take]; omega, Nat.le_refl _, fun j hj => by show (h.take (N + 7))[j]? = _; rw [k j (by omega)]; exact J.low j hj, by show (h.take (N + 7))[N + 1]? = _; rw [k _ (by omega)]; exact J.gr, by show (h.take (N + 7))[N + 2]? = _; rw [k _ (by omega)]; exact J.jn, ⟨qv, by show (h.take (N + 7))[N + 3]? = _; rw [k _ (by omega)]; exact o1, by
   rcases o2 with o2 | ⟨_, _, _, _, _, h0, _⟩
   ·exact .inl o2
   ·rw [hl] at h0; exact (h0 rfl).elim⟩, by show (h.take (N + 7))[N + 5]? = _; rw [k _ (by omega)]; exact J.df, by show (h.take (N + 7))[N + 6]? = _; rw [k _ (by omega)]; exact J.lp, J.d1, J.d2⟩⟩
def SB (S : List T3) : Prop := ∀ s ∈ S, (0 ≤ s.1 ∧ s.1 ≤ 8) ∧ (0 ≤ s.2.1 ∧ s.2.1 ≤ 8) ∧ 0 ≤ s.2.2 ∧ s.2.2 ≤ 1000
theorem SB.nat {S : List T3} (h : SB S) {s : T3} (hs : s ∈ S) : ∃ x y : Nat, x < 9 ∧ y < 9 ∧ s = ((x : Int), (y : Int), s.2.2) := by
 obtain ⟨⟨a, b⟩, ⟨c, d⟩, _⟩ := h s hs
 obtain ⟨u, v, w⟩ := s
 obtain ⟨x, hx⟩ := Int.eq_ofNat_of_zero_le a
 obtain ⟨y, hy⟩ := Int.eq_ofNat_of_zero_le c
 dsimp only at *
 subst hx hy
 exact ⟨x, y, by omega, by omega, rfl⟩
theorem gT_mem {L : List T3} {i : Nat} (hi : i < L.length) : gT L i ∈ L := by rw [← gT_at hi]; exact List.getElem_mem hi
theorem tree71 {H : SHeap} {v : Value} {A F : List Int} {S : List T3} (hv : BN H v A F S) (ha0 : A.length ≠ 0) (hf0 : F.length ≠ 0) (hn : S.length ≤ 1000) (hS : SB S) :
  ∃ L, Rise L S ∧ M.call 71 [v] H = some (resV H (treeF L).2.length 3, resH H (trs (treeF L).2) (treeF L).2.length 78, []) := by
 obtain ⟨va, vf, vs, rfl, h1, h2, h3, hnil⟩ := hv
 have key : ∃ r, (∃ L, Rise L S ∧ r = (resV H (treeF L).2.length 3, resH H (trs (treeF L).2) (treeF L).2.length 78, ([] : List Nat))) ∧ M.call 71 [.agg #[va, vf, vs]] H = some r := by
  refine call_ex (f := 71) _ sf71 rfl rfl rfl ?_
  have oa := SL.old h1 (fun h => (ha0 h).elim)
  have of := SL.old h2 (fun h => (hf0 h).elim)
  have os := SL.old h3 hnil
  have al := alone54 (H ++ [.cells [va, vf, vs] 25 false 0 []])
  rw [pV_id] at al
  generalize hX : H ++ [SO.cells [va, vf, vs] 25 false 0 [], .cells [.int .i64 0, .int .i64 1, .int .i64 2, .int .i64 3, .int .i64 4, .int .i64 5, .int .i64 6, .int .i64 7, .int .i64 8] 96 true 0 [], .cells [.func (.func 56) #[.pointer (some ⟨H.length + 1, 0, none⟩)] #[]] 101 false 0 [], .cells [.slice none 0 0] 23 false 0 []] = X
  have lX : X.length = H.length + 4 := by rw [← hX]; simp
  have eX : Ext H X := by rw [← hX]; exact Ext.app H _
  have mono : ∀ {v}, OldV H.length v → OldV X.length v := fun {v} k => by
   rcases k with k | ⟨b, o, kk, c, e, hb⟩
   ·exact .inl k
   ·exact .inr ⟨b, o, kk, c, e, by omega⟩
  have ri := rise55 (mono oa) (mono of) (mono os)
  have lb : loadS X (some 3) (.pointer (some ⟨H.length, 0, none⟩)) = some (.agg #[va, vf, vs]) := by rw [← hX, load_appN0]; rfl
  obtain ⟨a1, a2, rfl⟩ := h1.shape
  obtain ⟨f1, f2, rfl⟩ := h2.shape
  obtain ⟨s1, s2, rfl⟩ := h3.shape
  have bX0 : X[H.length]? = some (.cells [.slice a1 A.length a2, .slice f1 F.length f2, .slice s1 S.length s2] 25 false 0 []) := by rw [← hX, app_get0]; rfl
  have bX1 : X[H.length + 1]? = some (.cells (pV fun k => k) 96 true 0 []) := by rw [← hX, app_get, pV_id]; rfl
  have bX2 : X[H.length + 2]? = some (.cells [.func (.func 56) #[.pointer (some ⟨H.length + 1, 0, none⟩)] #[]] 101 false 0 []) := by rw [← hX, app_get]; rfl
  have bX3 : X[H.length + 3]? = some (.cells [.slice none 0 0] 23 false 0 []) := by rw [← hX, app_get]; rfl
  rw [lX] at ri
  generalize hX5 : X ++ [SO.cells [.slice a1 A.length a2, .slice f1 F.length f2, .slice s1 S.length s2] 25 false 0 []] = X5 at *
  have lX5 : X5.length = H.length + 5 := by rw [← hX5]; simp [lX]
  have eX5 : Ext X X5 := by rw [← hX5]; exact Ext.app X _
  have bX4 : X5[H.length + 4]? = some (.cells [.slice a1 A.length a2, .slice f1 F.length f2, .slice s1 S.length s2] 25 false 0 []) := by rw [← hX5, ← lX, app_get0]; rfl
  have dO : ∀ d, dirty H.length (H.length + 2) false d = d := fun d => dirty_own (by omega)
  unfold sf71
  repeat (first | apply Z1 | apply Z2 | apply Z3 | apply Z4 | apply Z5 rfl | apply Z6 | apply Z7 | apply Z8 | apply Z9 | apply ZA | apply ZB | apply ZC | ((first | apply ZD (by decide) | apply ZN (by decide)); (simp (maxSteps := 9999999) only [go_sem, argR, al, dO, hX, lb, ri]; rfl)) | (refine ZE ?_ ?_; · simp only [go_sem]) | (refine ZF ?_ ?_; · simp only [go_sem]))
  show Run M _ 5 (.rangeFunc (.tmp 10) [11] rfA71_0 rfB71_0) _ _ _ _ _ _
  refine run_range (g := 81) (caps := #[.pointer (some ⟨H.length + 4, 0, none⟩)]) rfl (by simp only [go_sem]) ?_
  intro t hf ht
  have t4 : t.get 4 = .pointer (some ⟨H.length + 2, 0, none⟩) := by rw [ht]; simp only [go_sem]
  have t5 : t.get 5 = .pointer (some ⟨H.length + 3, 0, none⟩) := by rw [ht]; simp only [go_sem]
  rw [← ht, lX5]
  generalize hX7 : X5 ++ [.deferred, .loop 0 71 t [11] rfA71_0 rfB71_0 none (H.length + 5)] = X7
  have lX7 : X7.length = H.length + 7 := by rw [← hX7]; simp [lX5]
  have eX7 : Ext X5 X7 := by rw [← hX7]; exact Ext.app X5 _
  have e7 := (eX.trans eX5).trans eX7
  have bX5 : X7[H.length + 5]? = some .deferred := by rw [← hX7, ← lX5, app_get0]; rfl
  have bX6 : X7[H.length + 6]? = some (.loop 0 71 t [11] rfA71_0 rfB71_0 none (H.length + 5)) := by
   rw [← hX7, show H.length + 6 = X5.length + 1 from by omega, app_get]; rfl
  obtain ⟨L, q, hR, hq, it⟩ := iter81 (H := X7) (L0 := H.length + 6) (c1 := H.length + 4) (by rw [eX7.fr _ (by omega)]; exact bX4) (h3.fr e7.fr) hnil hn (fun x hx => (hS x hx).2.2)
  have hSL : SB L := fun s hs => hS s (hR.perm.mem_iff.1 hs)
  have hLl : L.length ≤ 1000 := by rw [hR.perm.length_eq]; exact hn
  rw [lX7] at hq it
  obtain ⟨hF, dF, eF, k⟩ := it (fun i h d => JT H.length q t H (L.take i) h d) (fun _ _ _ => False) (fun i h d x J => J.app x)
   (fun h hl eh => by
    refine ⟨by omega, hq, fun j hj => by rw [eh.fr j (by omega), e7.fr j hj], ?_, ?_, ⟨.slice none 0 0, ?_, .inl ⟨rfl, rfl, rfl⟩⟩, ?_, ?_, by simp [treeF], by simp⟩
    ·rw [eh.fr _ (by omega), eX7.fr _ (by omega), eX5.fr _ (by omega), bX1]; rfl
    ·rw [eh.fr _ (by omega), eX7.fr _ (by omega), eX5.fr _ (by omega), bX2]
    ·rw [eh.fr _ (by omega), eX7.fr _ (by omega), eX5.fr _ (by omega), bX3]
    ·rw [eh.fr _ (by omega), bX5]
    ·rw [eh.fr _ (by omega), bX6])
   (fun i h d hi J hqh => by
    obtain ⟨x, y, hx, hy, es⟩ := hSL.nat (gT_mem hi)
    have htk := take_snoc hi
    generalize gT L i = s at *
    rw [es]
    obtain ⟨h2, d2, e, J2, k2⟩ := tree_round hf t4 t5 (L := L.take i) (by rw [List.length_take]; omega) J x y s.2.2 hx hy
    refine ⟨true, h2, d2, e, J2.len, k2, fun _ => ?_, fun h => by cases h⟩
    rw [htk, es]
    exact J2)
  have hJ : JT H.length q t H L hF dF := by
   rcases k with k | ⟨i, _, k⟩
   ·rw [List.take_of_length_le (Nat.le_refl _)] at k; exact k
   ·exact k.elim
  obtain ⟨q', JF⟩ := hJ.fin
  refine ⟨_, _, _, eF, _, _, _, _, _, _, _, _, JF.lp, rfl, .inl ⟨rfl, ?_⟩⟩
  rw [setLoop_eq JF.lp, dirts_own (fun x hx => by have := JF.d2 x hx; show H.length ≤ x; omega)]
  have jl := JF.len
  have jn := JF.nq
  obtain ⟨qv, o1, o2⟩ := JF.out
  have g0 : ∀ j, j ≠ H.length + 6 → ((finD (H.length + 7) hF dF).set (H.length + 6) (.loop 3 71 t [11] rfA71_0 rfB71_0 none (H.length + 5)))[j]? = (finD (H.length + 7) hF dF)[j]? := fun j hj => by rw [List.getElem?_set_ne (by omega)]
  have gl : ((finD (H.length + 7) hF dF).set (H.length + 6) (.loop 3 71 t [11] rfA71_0 rfB71_0 none (H.length + 5))).length = (finD (H.length + 7) hF dF).length := by simp
  generalize (finD (H.length + 7) hF dF).set (H.length + 6) (.loop 3 71 t [11] rfA71_0 rfB71_0 none (H.length + 5)) = G at *
  have lq : loadS G none (.pointer (some ⟨H.length + 3, 0, none⟩)) = some qv := by rw [load_rdO, g0 _ (by omega), o1]; rfl
  have sh : shut G [H.length + 5] = some (G.set (H.length + 5) .gone) := by
   simp only [shut]
   rw [g0 _ (by omega), JF.df]
  have A : AccS (H ++ []) (G.set (H.length + 5) .gone) qv (trs (treeF L).2) (treeF L).2.length 3 78 := by
   rw [List.append_nil]
   refine ⟨(o2.keep (fun b e => ?_)).lo (by omega), by simp; omega, fun j hj => ?_⟩
   ·have := (o2.lt e).1
    rw [List.getElem?_set_ne (by omega), g0 b (by omega)]
   ·rw [List.getElem?_set_ne (by omega), g0 j (by omega)]; exact JF.low j hj
  obtain ⟨qa, qc, rfl⟩ := A.shape
  repeat (first | apply Z1 | apply Z2 | apply Z3 | apply Z4 | apply Z5 rfl | apply Z6 | apply Z7 | apply Z8 | apply Z9 | apply ZA | apply ZB | apply ZC | ((first | apply ZD (by decide) | apply ZN (by decide)); (simp (maxSteps := 9999999) only [go_sem, t5, lq]; rfl)) | (refine ZE ?_ ?_; · simp only [go_sem]) | (refine ZF ?_ ?_; · simp only [go_sem]))
  exact end_nil ⟨_, ⟨L, hR, rfl⟩, q_gcM [.slice qa (treeF L).2.length qc] sh (by simp only [go_sem]) rfl A.gc rfl⟩
 obtain ⟨r, ⟨L, hR, rfl⟩, e⟩ := key
 exact ⟨L, hR, e⟩
end
end Go.Proofs.Ytioijehbmgmgkaa.Sh
namespace Go.Proofs.Ytioijehbmgmgkaa.Sh
section
open Go
set_option maxRecDepth 100000
set_option maxHeartbeats 4000000
def gV (G : Nat → Nat) (m : Nat) : List Value := (List.range m).map fun i => Value.int .i64 (G i)
theorem gV_len (G : Nat → Nat) (m : Nat) : (gV G m).length = m := by simp [gV]
theorem gV_get (G : Nat → Nat) {m i : Nat} (h : i < m) : (gV G m)[i]? = some (.int .i64 (G i)) := by simp [gV, h]
theorem gV_set (G : Nat → Nat) {m i : Nat} (h : i < m) (v : Nat) : (gV G m).set i (.int .i64 v) = gV (upP G i v) m := by
 apply List.ext_getElem?
 intro j
 by_cases e : j = i
 ·subst e
  rw [List.getElem?_set_self (by rw [gV_len]; exact h), gV_get _ h]; simp [upP]
 ·rw [List.getElem?_set_ne (fun k => e k.symm)]
  by_cases c : j < m
  ·rw [gV_get _ c, gV_get _ c]; simp [upP, e]
  ·rw [List.getElem?_eq_none (by rw [gV_len]; omega), List.getElem?_eq_none (by rw [gV_len]; omega)]
theorem gV_succ (G : Nat → Nat) (m : Nat) : gV G (m + 1) = gV G m ++ [.int .i64 (G m)] := by simp [gV, List.range_succ]
def GB (lo B m : Nat) (G : Nat → Nat) (h : SHeap) : Prop := ∃ old, h[B]? = some (.cells (gV G m) 3 true 0 old) ∧ (∀ c ∈ old, lo ≤ c ∧ c < B) ∧ lo ≤ B
theorem GB.store {lo B m : Nat} {G : Nat → Nat} {h : SHeap} (g : GB lo B m G h) {i : Nat} (hi : i < m) (v : Nat) :
  ∃ h', (∀ base d, storeS base h d B i (cellsL (.int .i64 (v : Int))) = some (h', d)) ∧ GB lo B m (upP G i v) h' ∧ h'.length = h.length ∧ ∀ j, (j < lo ∨ B < j) → h'[j]? = h[j]? := by
 obtain ⟨old, e, ho, hlo⟩ := g
 have hB : B < h.length := (List.getElem?_eq_some_iff.1 e).1
 refine ⟨(killAll h old).set B (.cells (gV (upP G i v) m) 3 true 0 []), fun base d => ?_, ⟨[], ?_, (fun c hc => by cases hc), hlo⟩, by simp [killAll_len], fun j hj => ?_⟩
 ·rw [cells_int, store_def, e]
  dsimp only
  have e2 : Nat.ble (i + 1) (gV G m).length = true := by rw [ble_dec, gV_len]; simp; omega
  show (if ((0 : Nat) == 0 && Nat.ble (i + 1) (gV G m).length && Nat.blt 0 1 && [Value.int .i64 (v : Int)].all oneC && (!true || [Value.int .i64 (v : Int)].all sc)) = true then _ else _) = _
  rw [e2]
  show some ((killAll h old).set B (.cells (writeAt (gV G m) i [.int .i64 v]) 3 true 0 []), dirty base B true d) = _
  rw [← gV_set G hi v]
  rfl
 ·rw [List.getElem?_set_self (by rw [killAll_len]; exact hB)]
 ·rw [List.getElem?_set_ne (by omega), killAll_same old h (fun hm => by have := ho j hm; omega)]
theorem GB.load {lo B m : Nat} {G : Nat → Nat} {h : SHeap} (g : GB lo B m G h) {i : Nat} (hi : i < m) : loadS h none (.pointer (some ⟨B, i, none⟩)) = some (.int .i64 (G i)) := by
 obtain ⟨old, e, _⟩ := g
 rw [load_rdO, e, rdO_cells, readable_0, if_pos rfl, gV_get _ hi]
theorem GB.fr {lo B m : Nat} {G : Nat → Nat} {h h' : SHeap} (g : GB lo B m G h) (e : h'[B]? = h[B]?) : GB lo B m G h' := by
 obtain ⟨old, e1, h2⟩ := g
 exact ⟨old, by rw [e]; exact e1, h2⟩
def relab (G : Nat → Nat) (u v : Nat) : Nat → Nat := fun k => if G k = v then u else G k
def relabK (G : Nat → Nat) (u v k : Nat) : Nat → Nat := fun j => if j < k then relab G u v j else G j
def stepG (a : (Nat → Nat) × List T3) (s : T3) : (Nat → Nat) × List T3 :=
 if a.1 (nd s.1) = a.1 (nd s.2.1) then a else (relab a.1 (a.1 (nd s.1)) (a.1 (nd s.2.1)), a.2 ++ [s])
def rowG (z : Int) (a : (Nat → Nat) × List T3) (S : List T3) : (Nat → Nat) × List T3 := S.foldl (fun a s => if s.2.2 = z then stepG a s else a) a
def refT (S : List T3) : Nat → (Nat → Nat) × List T3
 | 0 => (fun k => k, [])
 | z + 1 => rowG ((z : Int) + 1) (refT S z) S
theorem gV_congr {G G' : Nat → Nat} {m : Nat} (h : ∀ i, i < m → G i = G' i) : gV G m = gV G' m := by
 apply List.ext_getElem?
 intro j
 by_cases c : j < m
 ·rw [gV_get _ c, gV_get _ c, h j c]
 ·rw [List.getElem?_eq_none (by rw [gV_len]; omega), List.getElem?_eq_none (by rw [gV_len]; omega)]
theorem GB.congr {lo B m : Nat} {G G' : Nat → Nat} {h : SHeap} (g : GB lo B m G h) (e : ∀ i, i < m → G i = G' i) : GB lo B m G' h := by
 obtain ⟨old, e1, h2⟩ := g
 exact ⟨old, by rw [← gV_congr e]; exact e1, h2⟩
structure GT (H : SHeap) (lo B m : Nat) (G : Nat → Nat) (T : List T3) (qv : Value) (h : SHeap) : Prop where
 g : GB lo B m G h
 o : Acc (B + 1) h qv (trs T) T.length 3 78
 le : B + 1 ≤ h.length
 fr : ∀ j, j < lo → h[j]? = H[j]?
theorem relab_loop (cx : Cx) {H : SHeap} {lo B m c : Nat} {G : Nat → Nat} {T : List T3} {qv : Value} {u v : Nat} (hm : m ≤ 9) (ρ0 : Reg) :
  ∀ k ρ ms h' d', (∃ i : Nat, i + k = m ∧ GT H lo B m (relabK G u v i) T qv h' ∧ ρ 3 = .slice (some ⟨B, 0, none⟩) m c ∧ ρ 5 = qv ∧ ρ 8 = .int .i64 u ∧ ρ 9 = .int .i64 v ∧ ρ 10 = .int .i64 i ∧ ρ 1 = ρ0 1 ∧ ρ 6 = ρ0 6 ∧ ρ 7 = ρ0 7 ∧ ms = [] ∧ d' = []) →
  LoopW M cx 7 sf39L0 ρ ms h' d' (fun ex ρ' ms' h' d' => ms' = [] ∧ d' = [] ∧ ex = .exit 6 ∧ GT H lo B m (relab G u v) T qv h' ∧ ρ' 3 = .slice (some ⟨B, 0, none⟩) m c ∧ ρ' 5 = qv ∧ ρ' 1 = ρ0 1 ∧ ρ' 6 = ρ0 6 ∧ ρ' 7 = ρ0 7) := by
 refine loop_run _ ?_
 rintro k ρ ms h' d' ⟨i, hk, J, r3, r5, r8, r9, r10, r1, r6, r7, rfl, rfl⟩
 unfold sf39L0
 by_cases c0 : k = 0
 ·have e1 : ¬ ((i : Int) < m) := by omega
  have hi : i = m := by omega
  subst hi
  repeat (first | apply Z1 | apply Z2 | apply Z3 | apply Z4 | apply Z5 rfl | apply Z6 | apply Z7 | apply Z8 | apply Z9 | apply ZA | apply ZB | apply ZC | ((first | apply ZD (by decide) | apply ZN (by decide)); (simp (maxSteps := 9999999) only [go_sem, r3, r10, e1]; rfl)) | (refine ZE ?_ ?_; · simp only [go_sem]) | (refine ZF ?_ ?_; · simp only [go_sem]))
  exact end_nil ⟨rfl, rfl, rfl, ⟨J.g.congr (fun j hj => if_pos hj), J.o, J.le, J.fr⟩, by simp only [go_sem, r3], by simp only [go_sem, r5], by simp only [go_sem, r1], by simp only [go_sem, r6], by simp only [go_sem, r7]⟩
 ·have e1 : ((i : Int) < m) := by omega
  have e2 : (0 : Int) ≤ i := by omega
  have hi : i < m := by omega
  have ew : IntKind.i64.wrap ((i : Int) + 1) = ((i + 1 : Nat) : Int) := by rw [wrap64 (by omega) (by omega)]; rfl
  have l1 := J.g.load hi
  have hv : relabK G u v i i = G i := if_neg (by omega)
  rw [hv] at l1
  by_cases cc : G i = v
  ·have c1 : ((G i : Nat) : Int) = v := by omega
   obtain ⟨h2, st, g2, l2, f2⟩ := J.g.store hi u
   repeat (first | apply Z1 | apply Z2 | apply Z3 | apply Z4 | apply Z5 rfl | apply Z6 | apply Z7 | apply Z8 | apply Z9 | apply ZA | apply ZB | apply ZC | ((first | apply ZD (by decide) | apply ZN (by decide)); (simp (maxSteps := 9999999) only [go_sem, r3, r8, r9, r10, e1, e2, l1, c1, ↓st, ew, Int.toNat_natCast, Nat.zero_add, Nat.mul_one]; rfl)) | (refine ZE ?_ ?_; · simp only [go_sem]) | (refine ZF ?_ ?_; · simp only [go_sem]))
   refine end_nil ⟨k - 1, by omega, i + 1, by omega, ⟨g2.congr (fun j hj => ?_), J.o.keep (fun b e => f2 b (.inr (by have := (J.o.lt e).1; omega))), by have := J.le; omega, fun j hj => by rw [f2 j (.inl hj)]; exact J.fr j hj⟩, by simp only [go_sem, r3], by simp only [go_sem, r5], by simp only [go_sem, r8], by simp only [go_sem, r9], by simp only [go_sem, ew], by simp only [go_sem, r1], by simp only [go_sem, r6], by simp only [go_sem, r7], rfl, rfl⟩
   unfold upP relabK relab
   by_cases ej : j = i
   ·subst ej; rw [if_pos rfl, if_pos (show j < j + 1 by omega), if_pos cc]
   ·rw [if_neg ej]
    by_cases ej2 : j < i
    ·rw [if_pos ej2, if_pos (show j < i + 1 by omega)]
    ·rw [if_neg ej2, if_neg (show ¬ j < i + 1 by omega)]
  ·have c1 : ¬ ((G i : Nat) : Int) = v := by omega
   repeat (first | apply Z1 | apply Z2 | apply Z3 | apply Z4 | apply Z5 rfl | apply Z6 | apply Z7 | apply Z8 | apply Z9 | apply ZA | apply ZB | apply ZC | ((first | apply ZD (by decide) | apply ZN (by decide)); (simp (maxSteps := 9999999) only [go_sem, r3, r8, r9, r10, e1, e2, l1, c1, ew, Int.toNat_natCast, Nat.zero_add, Nat.mul_one]; rfl)) | (refine ZE ?_ ?_; · simp only [go_sem]) | (refine ZF ?_ ?_; · simp only [go_sem]))
   refine end_nil ⟨k - 1, by omega, i + 1, by omega, ⟨J.g.congr (fun j hj => ?_), J.o, J.le, J.fr⟩, by simp only [go_sem, r3], by simp only [go_sem, r5], by simp only [go_sem, r8], by simp only [go_sem, r9], by simp only [go_sem, ew], by simp only [go_sem, r1], by simp only [go_sem, r6], by simp only [go_sem, r7], rfl, rfl⟩
   unfold relabK relab
   by_cases ej : j = i
   ·subst ej; rw [if_neg (show ¬ j < j by omega), if_pos (show j < j + 1 by omega), if_neg cc]
   ·by_cases ej2 : j < i
    ·rw [if_pos ej2, if_pos (show j < i + 1 by omega)]
    ·rw [if_neg ej2, if_neg (show ¬ j < i + 1 by omega)]
theorem rowG_len (z : Int) : ∀ (l : List T3) (a : (Nat → Nat) × List T3), (rowG z a l).2.length ≤ a.2.length + l.length
 | [], a => by simp [rowG]
 | s :: l, a => by
  have e : (if s.2.2 = z then stepG a s else a).2.length ≤ a.2.length + 1 := by
   split
   ·unfold stepG; split <;> simp
   ·omega
  have ih := rowG_len z l (if s.2.2 = z then stepG a s else a)
  have : rowG z a (s :: l) = rowG z (if s.2.2 = z then stepG a s else a) l := rfl
  rw [this, List.length_cons]
  omega
theorem sills_loop (cx : Cx) {H : SHeap} {lo B m c p : Nat} {va vf vs : Value} {A F : List Int} {S : List T3} (hp : p < lo) (hB : H[p]? = some (.cells [va, vf, vs] 27 false 0 [])) (hlo : lo ≤ H.length)
  (hs : ∀ h', (∀ j, j < lo → h'[j]? = H[j]?) → ES h' vs S) (hS : SB S) (hm : m ≤ 9) (hy : ∀ s ∈ S, s.1 < m ∧ s.2.1 < m) (hn : S.length ≤ 20) {z : Int} {a0 : (Nat → Nat) × List T3} (hT0 : a0.2.length ≤ 100000) :
  ∀ k ρ ms h' d', (∃ (i : Nat) (qv : Value), i + k = S.length ∧ GT H lo B m (rowG z a0 (S.take i)).1 (rowG z a0 (S.take i)).2 qv h' ∧ ρ 1 = .pointer (some ⟨p, 0, none⟩) ∧ ρ 3 = .slice (some ⟨B, 0, none⟩) m c ∧ ρ 5 = qv ∧ ρ 6 = .int .i64 z ∧ ρ 7 = .int .i64 i ∧ ms = [] ∧ d' = []) →
  LoopW M cx 7 sf39L1 ρ ms h' d' (fun ex ρ' ms' h' d' => ms' = [] ∧ d' = [] ∧ ex = .exit 4 ∧ ∃ qv, GT H lo B m (rowG z a0 S).1 (rowG z a0 S).2 qv h' ∧ ρ' 1 = .pointer (some ⟨p, 0, none⟩) ∧ ρ' 3 = .slice (some ⟨B, 0, none⟩) m c ∧ ρ' 5 = qv ∧ ρ' 6 = .int .i64 z) := by
 refine loop_run _ ?_
 rintro k ρ ms h' d' ⟨i, qv, hk, J, r1, r3, r5, r6, r7, rfl, rfl⟩
 unfold sf39L1
 have lB : loadS h' none (.pointer (some ⟨p, 2, none⟩)) = some vs := by rw [load_rdO, J.fr p hp, hB]; rfl
 have is := hs h' J.fr
 by_cases c0 : k = 0
 ·have e1 : ¬ ((i : Int) < S.length) := by omega
  have hi : i = S.length := by omega
  subst hi
  obtain ⟨s1, s2, rfl⟩ := is.shape
  rw [List.take_of_length_le (Nat.le_refl _)] at J
  repeat (first | apply Z1 | apply Z2 | apply Z3 | apply Z4 | apply Z5 rfl | apply Z6 | apply Z7 | apply Z8 | apply Z9 | apply ZA | apply ZB | apply ZC | ((first | apply ZD (by decide) | apply ZN (by decide)); (simp (maxSteps := 9999999) only [go_sem, r1, r7, lB, e1]; rfl)) | (refine ZE ?_ ?_; · simp only [go_sem]) | (refine ZF ?_ ?_; · simp only [go_sem]))
  exact end_nil ⟨rfl, rfl, rfl, qv, J, by simp only [go_sem, r1], by simp only [go_sem, r3], by simp only [go_sem, r5], by simp only [go_sem, r6]⟩
 ·have e1 : ((i : Int) < S.length) := by omega
  have e2 : (0 : Int) ≤ i := by omega
  have hi : i < S.length := by omega
  have ew : IntKind.i64.wrap ((i : Int) + 1) = ((i + 1 : Nat) : Int) := by rw [wrap64 (by omega) (by omega)]; rfl
  obtain ⟨b, o, cp, rfl, ld⟩ := is.ld (by omega)
  obtain ⟨l0, la, lb, lc⟩ := ld i hi
  rw [gT_at hi] at l0 la lb lc
  have hmem := gT_mem hi
  obtain ⟨x, y, hx, hy', es⟩ := hS.nat hmem
  obtain ⟨hx2, hy2⟩ := hy _ hmem
  have hrow : rowG z a0 (S.take (i + 1)) = (fun a s => if s.2.2 = z then stepG a s else a) (rowG z a0 (S.take i)) (gT S i) := by
   unfold rowG; rw [take_snoc hi, List.foldl_append]; rfl
  generalize hge : gT S i = s at *
  obtain ⟨sx, sy, sz⟩ := s
  simp only [Prod.mk.injEq] at es
  obtain ⟨rfl, rfl, _⟩ := es
  dsimp only at *
  have hTl : (rowG z a0 (S.take i)).2.length ≤ 100000 + i := by
   have := rowG_len z (S.take i) a0
   rw [List.length_take] at this
   omega
  have gx := J.g.load (i := x) (by omega)
  have gy := J.g.load (i := y) (by omega)
  have z1 : (0 : Int) ≤ (x : Int) := by omega
  have z2 : (0 : Int) ≤ (y : Int) := by omega
  have z3 : (x : Int) < m := hx2
  have z4 : (y : Int) < m := hy2
  have hst : stepG (rowG z a0 (S.take i)) ((x : Int), (y : Int), sz) = if (rowG z a0 (S.take i)).1 x = (rowG z a0 (S.take i)).1 y then rowG z a0 (S.take i) else (relab (rowG z a0 (S.take i)).1 ((rowG z a0 (S.take i)).1 x) ((rowG z a0 (S.take i)).1 y), (rowG z a0 (S.take i)).2 ++ [((x : Int), (y : Int), sz)]) := by
   unfold stepG nd; simp only [Int.toNat_natCast]
  generalize rowG z a0 (S.take i) = a2 at *
  obtain ⟨G, T⟩ := a2
  dsimp only at *
  by_cases c1 : sz = z
  ·rw [if_pos c1] at hrow
   subst c1
   by_cases c2 : G x = G y
   ·have c2' : ((G x : Nat) : Int) = G y := by omega
    rw [hst, if_pos c2] at hrow
    repeat (first | apply Z1 | apply Z2 | apply Z3 | apply Z4 | apply Z5 rfl | apply Z6 | apply Z7 | apply Z8 | apply Z9 | apply ZA | apply ZB | apply ZC | ((first | apply ZD (by decide) | apply ZN (by decide)); (simp (maxSteps := 9999999) only [go_sem, r1, r3, r5, r6, r7, e1, e2, lB, la, lb, lc, gx, gy, z1, z2, z3, z4, c2', ew, Int.toNat_natCast, Nat.zero_add, Nat.mul_one]; rfl)) | (refine ZE ?_ ?_; · simp only [go_sem]) | (refine ZF ?_ ?_; · simp only [go_sem]))
    exact end_nil ⟨k - 1, by omega, i + 1, qv, by omega, by rw [hrow]; exact J, by simp only [go_sem, r1], by simp only [go_sem, r3], by simp only [go_sem, r5], by simp only [go_sem, r6], by simp only [go_sem, ew], rfl, rfl⟩
   ·have c2' : ¬ ((G x : Nat) : Int) = G y := by omega
    rw [hst, if_neg c2] at hrow
    have A2 : Acc (B + 1) (h' ++ [.cells [.int .i64 (x : Int), .int .i64 (y : Int), .int .i64 sz] 78 true 0 []]) qv (trs T) T.length 3 78 := J.o.keep (fun b e => List.getElem?_append_left (J.o.lt e).2)
    obtain ⟨old, ap, acc2, kp⟩ := acc_append (bytes := 24) (new := [.int .i64 (x : Int), .int .i64 (y : Int), .int .i64 sz]) (bs := h'.length) (el2 := 78) (pf2 := true) (own2 := 0) (old2 := []) A2 (by rw [app_get0]; rfl) rfl rfl (by decide) rfl (by decide) (by omega) (by have := J.le; simp; omega)
    have hle := J.le
    have hloB := J.g
    obtain ⟨_, _, _, hloB⟩ := hloB
    have key : ∀ j, j < B + 1 → (shv (h' ++ [.cells [.int .i64 (x : Int), .int .i64 (y : Int), .int .i64 sz] 78 true 0 []]) qv ++ [SO.cells (trs T ++ [.int .i64 (x : Int), .int .i64 (y : Int), .int .i64 sz]) 78 true 0 old])[j]? = h'[j]? := fun j hj => by
     rw [kp j (by simp; omega) (fun b e => by have := (J.o.lt e).1; omega), List.getElem?_append_left (by omega)]
    have hlen2 : B + 1 ≤ (shv (h' ++ [.cells [.int .i64 (x : Int), .int .i64 (y : Int), .int .i64 sz] 78 true 0 []]) qv ++ [SO.cells (trs T ++ [.int .i64 (x : Int), .int .i64 (y : Int), .int .i64 sz]) 78 true 0 old]).length := by simp [shv_len]; omega
    generalize (shv (h' ++ [.cells [.int .i64 (x : Int), .int .i64 (y : Int), .int .i64 sz] 78 true 0 []]) qv ++ [SO.cells (trs T ++ [.int .i64 (x : Int), .int .i64 (y : Int), .int .i64 sz]) 78 true 0 old]) = G3 at *
    have hlG : (h' ++ [SO.cells [.int .i64 (x : Int), .int .i64 (y : Int), .int .i64 sz] 78 true 0 []]).length = h'.length + 1 := by simp
    rw [hlG] at ap acc2
    obtain ⟨qa, qc, rfl⟩ := J.o.shp
    repeat (first | apply Z1 | apply Z2 | apply Z3 | apply Z4 | apply Z5 rfl | apply Z6 | apply Z7 | apply Z8 | apply Z9 | apply ZA | apply ZB | apply ZC | ((first | apply ZD (by decide) | apply ZN (by decide)); (simp (maxSteps := 9999999) only [go_sem, r1, r3, r5, r6, r7, e1, e2, lB, l0, la, lb, lc, gx, gy, z1, z2, z3, z4, c2', ap, Int.toNat_natCast, Nat.zero_add, Nat.mul_one]; rfl)) | (refine ZE ?_ ?_; · simp only [go_sem]) | (refine ZF ?_ ?_; · simp only [go_sem]))
    have GT0 : GT H lo B m (relabK G (G x) (G y) 0) (T ++ [((x : Int), (y : Int), sz)]) (.slice (some ⟨h'.length + 1, 0, none⟩) (T.length + 1) (UNK + 3)) G3 := ⟨(J.g.congr (fun j _ => (if_neg (by omega)).symm)).fr (key B (by omega)), by rw [trs_app, List.length_append, List.length_singleton]; exact acc2, hlen2, fun j hj => by rw [key j (by omega)]; exact J.fr j hj⟩
    refine run_loop (relab_loop _ (H := H) (lo := lo) (B := B) (m := m) (c := c) (G := G) (T := T ++ [((x : Int), (y : Int), sz)]) (u := G x) (v := G y) hm (fun r => if r = 1 then .pointer (some ⟨p, 0, none⟩) else if r = 6 then .int .i64 sz else .int .i64 (i : Int)) m _ _ _ _ ⟨0, by omega, GT0, by simp only [go_sem, r3], by simp only [go_sem], by simp only [go_sem], by simp only [go_sem], by simp only [go_sem], by simp only [go_sem, r1], by simp only [go_sem, r6], by simp only [go_sem, r7], rfl, rfl⟩) ?_
    rintro ex ρ2 ms2 h2 d2 ⟨rfl, rfl, rfl, J2, t3, t5, t1, t6, t7⟩
    have t1 : ρ2 1 = .pointer (some ⟨p, 0, none⟩) := t1
    have t6 : ρ2 6 = .int .i64 sz := t6
    have t7 : ρ2 7 = .int .i64 (i : Int) := t7
    repeat (first | apply Z1 | apply Z2 | apply Z3 | apply Z4 | apply Z5 rfl | apply Z6 | apply Z7 | apply Z8 | apply Z9 | apply ZA | apply ZB | apply ZC | ((first | apply ZD (by decide) | apply ZN (by decide)); (simp (maxSteps := 9999999) only [go_sem, t3, t5, t1, t6, t7, ew]; rfl)) | (refine ZE ?_ ?_; · simp only [go_sem]) | (refine ZF ?_ ?_; · simp only [go_sem]))
    exact end_nil ⟨k - 1, by omega, i + 1, _, by omega, by rw [hrow]; exact J2, by simp only [go_sem, t1], by simp only [go_sem, t3], by simp only [go_sem, t5], by simp only [go_sem, t6], by simp only [go_sem, ew], rfl, rfl⟩
  ·rw [if_neg c1] at hrow
   repeat (first | apply Z1 | apply Z2 | apply Z3 | apply Z4 | apply Z5 rfl | apply Z6 | apply Z7 | apply Z8 | apply Z9 | apply ZA | apply ZB | apply ZC | ((first | apply ZD (by decide) | apply ZN (by decide)); (simp (maxSteps := 9999999) only [go_sem, r1, r3, r5, r6, r7, e1, e2, lB, la, lb, lc, gx, gy, z1, z2, z3, z4, c1, ew, Int.toNat_natCast, Nat.zero_add, Nat.mul_one]; rfl)) | (refine ZE ?_ ?_; · simp only [go_sem]) | (refine ZF ?_ ?_; · simp only [go_sem]))
   exact end_nil ⟨k - 1, by omega, i + 1, qv, by omega, by rw [hrow]; exact J, by simp only [go_sem, r1], by simp only [go_sem, r3], by simp only [go_sem, r5], by simp only [go_sem, r6], by simp only [go_sem, ew], rfl, rfl⟩
end
end Go.Proofs.Ytioijehbmgmgkaa.Sh
namespace Go.Proofs.Ytioijehbmgmgkaa.Sh
section
open Go
set_option maxRecDepth 100000
set_option maxHeartbeats 4000000
theorem refT_len (S : List T3) : ∀ z, (refT S z).2.length ≤ z * S.length
 | 0 => by simp [refT]
 | z + 1 => by
  have ih := refT_len S z
  have := rowG_len ((z : Int) + 1) S (refT S z)
  show (rowG _ (refT S z) S).2.length ≤ _
  rw [Nat.add_mul]; omega
theorem groups_loop (cx : Cx) {H X : SHeap} {va vf vs : Value} {n : Nat} (hX : X[H.length]? = some (.cells [va, vf, vs] 27 false 0 [])) (hn : n ≤ 8) (hva : ∃ a c, va = .slice a n c) :
  ∀ k ρ ms h' d', (∃ (i : Nat) (gv : Value), i + k = n + 1 ∧ AccS X h' gv (gV (fun j => j) i) i 1 3 ∧ ρ 1 = .pointer (some ⟨H.length, 0, none⟩) ∧ ρ 3 = gv ∧ ρ 4 = .int .i64 i ∧ ms = [] ∧ d' = []) →
  LoopW M cx 7 sf39L3 ρ ms h' d' (fun ex ρ' ms' h' d' => ms' = [] ∧ d' = [] ∧ ex = .exit 0 ∧ ∃ gv, AccS X h' gv (gV (fun j => j) (n + 1)) (n + 1) 1 3 ∧ ρ' 1 = .pointer (some ⟨H.length, 0, none⟩) ∧ ρ' 3 = gv) := by
 refine loop_run _ ?_
 rintro k ρ ms h' d' ⟨i, gv, hk, A, r1, r3, r4, rfl, rfl⟩
 unfold sf39L3
 obtain ⟨a1, a2, rfl⟩ := hva
 have lB : loadS h' none (.pointer (some ⟨H.length, 0, none⟩)) = some (.slice a1 n a2) := by rw [load_rdO, A.same _ (List.getElem?_eq_some_iff.1 hX).1, hX]; rfl
 by_cases c0 : k = 0
 ·have e1 : ¬ ((i : Int) ≤ n) := by omega
  have hi : i = n + 1 := by omega
  subst hi
  repeat (first | apply Z1 | apply Z2 | apply Z3 | apply Z4 | apply Z5 rfl | apply Z6 | apply Z7 | apply Z8 | apply Z9 | apply ZA | apply ZB | apply ZC | ((first | apply ZD (by decide) | apply ZN (by decide)); (simp (maxSteps := 9999999) only [go_sem, r1, r4, lB, e1]; rfl)) | (refine ZE ?_ ?_; · simp only [go_sem]) | (refine ZF ?_ ?_; · simp only [go_sem]))
  exact end_nil ⟨rfl, rfl, rfl, gv, A, by simp only [go_sem, r1], by simp only [go_sem, r3]⟩
 ·have e1 : ((i : Int) ≤ n) := by omega
  have ew : IntKind.i64.wrap ((i : Int) + 1) = ((i + 1 : Nat) : Int) := by rw [wrap64 (by omega) (by omega)]; rfl
  obtain ⟨H2, v2, ap, ⟨b2, hv2⟩, A2, _, _⟩ := (A.app [.cells [.int .i64 (i : Int)] 3 true 0 []]).push (bs := h'.length) (bytes := 8) (new := [.int .i64 (i : Int)]) (el2 := 3) (pf2 := true) (own2 := 0) (old2 := []) (by rw [app_get0]; rfl) rfl rfl (by decide) rfl (by decide) (by omega)
  have l0 : loadS h' none (.pointer (some ⟨H.length, 0, none⟩)) = some (.slice a1 n a2) := lB
  obtain ⟨x1, y1, rfl⟩ := A.shape
  subst hv2
  repeat (first | apply Z1 | apply Z2 | apply Z3 | apply Z4 | apply Z5 rfl | apply Z6 | apply Z7 | apply Z8 | apply Z9 | apply ZA | apply ZB | apply ZC | ((first | apply ZD (by decide) | apply ZN (by decide)); (simp (maxSteps := 9999999) only [go_sem, r1, r3, r4, lB, e1, ↓ap, ew]; rfl)) | (refine ZE ?_ ?_; · simp only [go_sem]) | (refine ZF ?_ ?_; · simp only [go_sem]))
  exact end_nil ⟨k - 1, by omega, i + 1, _, by omega, by rw [gV_succ]; exact A2, by simp only [go_sem, r1], by simp only [go_sem], by simp only [go_sem, ew], rfl, rfl⟩
theorem heights_loop (cx : Cx) {H : SHeap} {lo B m c p : Nat} {va vf vs : Value} {S : List T3} (hp : p < lo) (hB : H[p]? = some (.cells [va, vf, vs] 27 false 0 [])) (hlo : lo ≤ H.length)
  (hs : ∀ h', (∀ j, j < lo → h'[j]? = H[j]?) → ES h' vs S) (hS : SB S) (hm : m ≤ 9) (hy : ∀ s ∈ S, s.1 < m ∧ s.2.1 < m) (hn : S.length ≤ 20) :
  ∀ k ρ ms h' d', (∃ (z : Nat) (qv : Value), z + k = 1000 ∧ GT H lo B m (refT S z).1 (refT S z).2 qv h' ∧ ρ 1 = .pointer (some ⟨p, 0, none⟩) ∧ ρ 3 = .slice (some ⟨B, 0, none⟩) m c ∧ ρ 5 = qv ∧ ρ 6 = .int .i64 ((z : Int) + 1) ∧ ms = [] ∧ d' = []) →
  LoopW M cx 7 sf39L2 ρ ms h' d' (fun ex ρ' ms' h' d' => ms' = [] ∧ d' = [] ∧ ex = .exit 2 ∧ ∃ qv, GT H lo B m (refT S 1000).1 (refT S 1000).2 qv h' ∧ ρ' 5 = qv) := by
 refine loop_run _ ?_
 rintro k ρ ms h' d' ⟨z, qv, hk, J, r1, r3, r5, r6, rfl, rfl⟩
 unfold sf39L2
 by_cases c0 : k = 0
 ·have e1 : ¬ ((z : Int) + 1 ≤ 1000) := by omega
  have hz : z = 1000 := by omega
  subst hz
  repeat (first | apply Z1 | apply Z2 | apply Z3 | apply Z4 | apply Z5 rfl | apply Z6 | apply Z7 | apply Z8 | apply Z9 | apply ZA | apply ZB | apply ZC | ((first | apply ZD (by decide) | apply ZN (by decide)); (simp (maxSteps := 9999999) only [go_sem, r6, e1]; rfl)) | (refine ZE ?_ ?_; · simp only [go_sem]) | (refine ZF ?_ ?_; · simp only [go_sem]))
  exact end_nil ⟨rfl, rfl, rfl, qv, J, by simp only [go_sem, r5]⟩
 ·have e1 : ((z : Int) + 1 ≤ 1000) := by omega
  have ew : IntKind.i64.wrap ((z : Int) + 1 + 1) = ((z + 1 : Nat) : Int) + 1 := by rw [wrap64 (by omega) (by omega)]; omega
  have hl := refT_len S z
  have hl2 : z * S.length ≤ 1000 * 20 := Nat.mul_le_mul (by omega) hn
  repeat (first | apply Z1 | apply Z2 | apply Z3 | apply Z4 | apply Z5 rfl | apply Z6 | apply Z7 | apply Z8 | apply Z9 | apply ZA | apply ZB | apply ZC | ((first | apply ZD (by decide) | apply ZN (by decide)); (simp (maxSteps := 9999999) only [go_sem, r6, e1]; rfl)) | (refine ZE ?_ ?_; · simp only [go_sem]) | (refine ZF ?_ ?_; · simp only [go_sem]))
  refine run_loop (sills_loop (A := []) (F := []) _ (H := H) (lo := lo) (B := B) (m := m) (c := c) (S := S) (z := (z : Int) + 1) (a0 := refT S z) hp hB hlo hs hS hm hy hn (by omega) S.length _ _ _ _ ⟨0, qv, by omega, J, by simp only [go_sem, r1], by simp only [go_sem, r3], by simp only [go_sem, r5], by simp only [go_sem, r6], by simp only [go_sem], rfl, rfl⟩) ?_
  rintro ex ρ2 ms2 h2 d2 ⟨rfl, rfl, rfl, qv2, J2, t1, t3, t5, t6⟩
  repeat (first | apply Z1 | apply Z2 | apply Z3 | apply Z4 | apply Z5 rfl | apply Z6 | apply Z7 | apply Z8 | apply Z9 | apply ZA | apply ZB | apply ZC | ((first | apply ZD (by decide) | apply ZN (by decide)); (simp (maxSteps := 9999999) only [go_sem, t1, t3, t5, t6, ew]; rfl)) | (refine ZE ?_ ?_; · simp only [go_sem]) | (refine ZF ?_ ?_; · simp only [go_sem]))
  exact end_nil ⟨k - 1, by omega, z + 1, qv2, by omega, J2, by simp only [go_sem, t1], by simp only [go_sem, t3], by simp only [go_sem, t5], by simp only [go_sem, ew], rfl, rfl⟩
theorem refTree39 {H : SHeap} {v : Value} {A F : List Int} {S : List T3} (hv : BV H v A F S) (hn : A.length ≤ 8) (hS : SB S) (hy : ∀ s ∈ S, s.1 < A.length + 1 ∧ s.2.1 < A.length + 1) (hl : S.length ≤ 20) :
  M.call 39 [v] H = some (resV H (refT S 1000).2.length 3, resH H (trs (refT S 1000).2) (refT S 1000).2.length 78, []) := by
 obtain ⟨va, vf, vs, rfl, h1, h2, h3⟩ := hv
 refine call_run sf39 rfl rfl rfl ?_
 generalize hX : H ++ [SO.cells [va, vf, vs] 27 false 0 []] = X
 have eX : Ext H X := by rw [← hX]; exact Ext.app H _
 have lX : X.length = H.length + 1 := by rw [← hX]; simp
 have bX : X[H.length]? = some (.cells [va, vf, vs] 27 false 0 []) := by rw [← hX, app_get0]; rfl
 have hva := h1.shape
 obtain ⟨a1, a2, rfl⟩ := h1.shape
 obtain ⟨f1, f2, rfl⟩ := h2.shape
 obtain ⟨s1, s2, rfl⟩ := h3.shape
 unfold sf39
 repeat (first | apply Z1 | apply Z2 | apply Z3 | apply Z4 | apply Z5 rfl | apply Z6 | apply Z7 | apply Z8 | apply Z9 | apply ZA | apply ZB | apply ZC | ((first | apply ZD (by decide) | apply ZN (by decide)); (simp (maxSteps := 9999999) only [go_sem, argR, hX]; rfl)) | (refine ZE ?_ ?_; · simp only [go_sem]) | (refine ZF ?_ ?_; · simp only [go_sem]))
 refine run_loop (groups_loop _ (H := H) (X := X) (n := A.length) bX hn ⟨_, _, rfl⟩ (A.length + 1) _ _ _ _ ⟨0, .slice none 0 0, by omega, AccS.nil0 X 1 3, by simp only [go_sem], by simp only [go_sem], by simp only [go_sem], rfl, rfl⟩) ?_
 rintro ex ρ2 ms2 h4 d2 ⟨rfl, rfl, rfl, gv, A1, r1, r3⟩
 rcases A1.acc with ⟨h0, _⟩ | ⟨B, old, rfl, g1, _, _, g4, _, g6⟩
 ·omega
 have hBl : B < h4.length := (List.getElem?_eq_some_iff.1 g1).1
 have J0 : GT X X.length B (A.length + 1) (refT S 0).1 (refT S 0).2 (.slice none 0 0) h4 := ⟨⟨old, g1, g6, g4⟩, .inl ⟨rfl, rfl, rfl⟩, by omega, A1.same⟩
 repeat (first | apply Z1 | apply Z2 | apply Z3 | apply Z4 | apply Z5 rfl | apply Z6 | apply Z7 | apply Z8 | apply Z9 | apply ZA | apply ZB | apply ZC | ((first | apply ZD (by decide) | apply ZN (by decide)); (simp (maxSteps := 9999999) only [go_sem, r1, r3]; rfl)) | (refine ZE ?_ ?_; · simp only [go_sem]) | (refine ZF ?_ ?_; · simp only [go_sem]))
 refine run_loop (heights_loop _ (H := X) (lo := X.length) (B := B) (m := A.length + 1) (c := UNK + 1) (p := H.length) (S := S) (by omega) bX (Nat.le_refl _) (fun h' k => (h3.fr eX.fr).fr k) hS (by omega) (fun s hs => by have := hy s hs; omega) hl 1000 _ _ _ _ ⟨0, _, by omega, J0, by simp only [go_sem, r1], by simp only [go_sem, r3], by simp only [go_sem], by simp only [go_sem], rfl, rfl⟩) ?_
 rintro ex ρ3 ms3 h5 d3 ⟨rfl, rfl, rfl, qv, J, r5⟩
 have AF : AccS (H ++ [SO.cells [.slice a1 A.length a2, .slice f1 F.length f2, .slice s1 S.length s2] 27 false 0 []]) h5 qv (trs (refT S 1000).2) (refT S 1000).2.length 3 78 := by
  rw [hX]
  exact ⟨J.o.lo (by omega), by have := J.le; omega, J.fr⟩
 repeat (first | apply Z1 | apply Z2 | apply Z3 | apply Z4 | apply Z5 rfl | apply Z6 | apply Z7 | apply Z8 | apply Z9 | apply ZA | apply ZB | apply ZC | ((first | apply ZD (by decide) | apply ZN (by decide)); (simp (maxSteps := 9999999) only [go_sem, r5]; rfl)) | (refine ZE ?_ ?_; · simp only [go_sem]) | (refine ZF ?_ ?_; · simp only [go_sem]))
 exact end_nil (AF.q1 rfl rfl (by simp only [go_sem, r5]))
end
end Go.Proofs.Ytioijehbmgmgkaa.Sh
namespace Go.Proofs.Ytioijehbmgmgkaa.Sh
section
open Go
set_option maxRecDepth 100000
set_option maxHeartbeats 1000000
def Par (G P : Nat → Nat) : Prop := ∀ i j, i < 9 → j < 9 → (G i = G j ↔ rt P i = rt P j)
theorem upP_root {P : Nat → Nat} {a : Nat} (h : P a = a) : upP P a a = P := by
 funext k
 unfold upP
 split
 ·rename_i e; rw [e, h]
 ·rfl
theorem par_step {G P : Nat → Nat} {T : List T3} (hP : ∀ k, P k ≤ k) (p : Par G P) {s : T3} (hx : nd s.1 < 9) (hy : nd s.2.1 < 9) : Par (stepG (G, T) s).1 (stepT (P, T) s).1 ∧ (stepG (G, T) s).2 = (stepT (P, T) s).2 := by
 unfold stepG stepT stepP
 dsimp only
 generalize nd s.1 = x at *
 generalize nd s.2.1 = y at *
 have pxy := p x y hx hy
 by_cases c : G x = G y
 ·have c2 := pxy.1 c
  rw [if_pos c, if_neg (by simpa using c2), c2, Nat.max_self, Nat.min_self, upP_root (rt_root hP y).1]
  exact ⟨p, rfl⟩
 ·have c2 : ¬ rt P x = rt P y := fun e => c (pxy.2 e)
  rw [if_neg c, if_pos c2]
  refine ⟨fun i j hi hj => ?_, rfl⟩
  have r1 := (rt_root hP x).1
  have r2 := (rt_root hP y).1
  have k := (rt_join hP (p := min (rt P x) (rt P y)) (q := max (rt P x) (rt P y)) (by omega) (by rcases Nat.le_total (rt P x) (rt P y) with h | h; rw [Nat.min_eq_left h]; exact r1; rw [Nat.min_eq_right h]; exact r2) (by rcases Nat.le_total (rt P x) (rt P y) with h | h; rw [Nat.max_eq_right h]; exact r2; rw [Nat.max_eq_left h]; exact r1)).2
  rw [k i, k j]
  have q1 := p i x hi hx
  have q2 := p i y hi hy
  have q3 := p j x hj hx
  have q4 := p j y hj hy
  have q5 := p i j hi hj
  unfold relab jr
  dsimp only
  generalize rt P x = a at *
  generalize rt P y = b at *
  generalize rt P i = u at *
  generalize rt P j = v at *
  have key : ∀ (w : Nat), (if w = max a b then min a b else w) = if w = a ∨ w = b then min a b else w := by
   intro w
   by_cases h : w = max a b
   ·rw [if_pos h, if_pos (by omega)]
   ·rw [if_neg h]
    by_cases h2 : w = a ∨ w = b
    ·rw [if_pos h2]; omega
    ·rw [if_neg h2]
  rw [key u, key v]
  have hm : ∀ w, ¬ (w = a ∨ w = b) → w ≠ min a b := fun w h => by omega
  by_cases ci : G i = G y
  ·rw [if_pos ci, if_pos (show u = a ∨ u = b from .inr (q2.1 ci))]
   by_cases cj : G j = G y
   ·rw [if_pos cj, if_pos (show v = a ∨ v = b from .inr (q4.1 cj))]; simp
   ·rw [if_neg cj]
    by_cases cjx : G j = G x
    ·rw [if_pos (show v = a ∨ v = b from .inl (q3.1 cjx))]; exact ⟨fun _ => rfl, fun _ => cjx.symm⟩
    ·have h : ¬ (v = a ∨ v = b) := fun h => by rcases h with h | h; exact cjx (q3.2 h); exact cj (q4.2 h)
     rw [if_neg h]
     exact ⟨fun e => (cjx e.symm).elim, fun e => (hm v h e.symm).elim⟩
  ·rw [if_neg ci]
   by_cases cix : G i = G x
   ·rw [if_pos (show u = a ∨ u = b from .inl (q1.1 cix))]
    by_cases cj : G j = G y
    ·rw [if_pos cj, if_pos (show v = a ∨ v = b from .inr (q4.1 cj))]; exact ⟨fun _ => rfl, fun _ => cix⟩
    ·rw [if_neg cj]
     by_cases cjx : G j = G x
     ·rw [if_pos (show v = a ∨ v = b from .inl (q3.1 cjx))]; exact ⟨fun _ => rfl, fun _ => cix.trans cjx.symm⟩
     ·have h : ¬ (v = a ∨ v = b) := fun h => by rcases h with h | h; exact cjx (q3.2 h); exact cj (q4.2 h)
      rw [if_neg h]
      exact ⟨fun e => (cjx (e.symm.trans cix)).elim, fun e => (hm v h e.symm).elim⟩
   ·have hi' : ¬ (u = a ∨ u = b) := fun h => by rcases h with h | h; exact cix (q1.2 h); exact ci (q2.2 h)
    rw [if_neg hi']
    by_cases cj : G j = G y
    ·rw [if_pos cj, if_pos (show v = a ∨ v = b from .inr (q4.1 cj))]; exact ⟨fun e => (cix e).elim, fun e => (hm u hi' e).elim⟩
    ·rw [if_neg cj]
     by_cases cjx : G j = G x
     ·rw [if_pos (show v = a ∨ v = b from .inl (q3.1 cjx))]; exact ⟨fun e => (cix (e.trans cjx)).elim, fun e => (hm u hi' e).elim⟩
     ·have h : ¬ (v = a ∨ v = b) := fun h => by rcases h with h | h; exact cjx (q3.2 h); exact cj (q4.2 h)
      rw [if_neg h]
      exact q5
def foldG (L : List T3) : (Nat → Nat) × List T3 := L.foldl stepG (fun k => k, [])
theorem SB.nd {S : List T3} (h : SB S) {s : T3} (hs : s ∈ S) : nd s.1 < 9 ∧ nd s.2.1 < 9 := by
 obtain ⟨a, b, _⟩ := h s hs
 unfold Sh.nd
 omega
theorem fold_eq {L : List T3} (h : SB L) : (foldG L).2 = (treeF L).2 := by
 have : ∀ (L : List T3), SB L → ∀ (G P : Nat → Nat) (T : List T3), (∀ k, P k ≤ k) → Par G P → (L.foldl stepG (G, T)).2 = (L.foldl stepT (P, T)).2 := by
  intro L
  induction L with
  | nil => intro _ G P T _ _; rfl
  | cons s L ih =>
   intro hL G P T hP p
   obtain ⟨hx, hy⟩ := hL.nd (List.mem_cons_self ..)
   obtain ⟨k1, k2⟩ := par_step (T := T) hP p hx hy
   rw [List.foldl_cons, List.foldl_cons]
   have e1 : stepG (G, T) s = ((stepG (G, T) s).1, (stepG (G, T) s).2) := rfl
   have e2 : stepT (P, T) s = ((stepT (P, T) s).1, (stepT (P, T) s).2) := rfl
   rw [e1, e2, k2]
   exact ih (fun x hx => hL x (List.mem_cons_of_mem _ hx)) _ _ _ (stepP_le hP s) k1
 refine this L h _ _ [] (fun k => Nat.le_refl k) (fun i j _ _ => ?_)
 rw [rt_self (fun k => Nat.le_refl k) rfl, rt_self (fun k => Nat.le_refl k) rfl]
theorem rowG_filter (z : Int) : ∀ (S : List T3) (a : (Nat → Nat) × List T3), rowG z a S = (S.filter fun s => decide (s.2.2 = z)).foldl stepG a
 | [], a => rfl
 | s :: S, a => by
  have ih := fun a => rowG_filter z S a
  show rowG z (if s.2.2 = z then stepG a s else a) S = _
  rw [List.filter_cons]
  by_cases c : s.2.2 = z
  ·rw [if_pos c, if_pos (by simpa using c), List.foldl_cons]; exact ih _
  ·rw [if_neg c, if_neg (by simpa using c)]; exact ih _
theorem filt_le {L : List T3} (h : L.Pairwise fun a b => a.2.2 ≤ b.2.2) (z : Int) : (L.filter fun s => decide (s.2.2 ≤ z + 1)) = (L.filter fun s => decide (s.2.2 ≤ z)) ++ L.filter fun s => decide (s.2.2 = z + 1) := by
 induction L with
 | nil => rfl
 | cons s L ih =>
  rw [List.pairwise_cons] at h
  have ih := ih h.2
  by_cases c1 : s.2.2 ≤ z
  ·rw [List.filter_cons_of_pos (p := fun s : T3 => decide (s.2.2 ≤ z + 1)) (show decide (s.2.2 ≤ z + 1) = true from decide_eq_true (by omega)), List.filter_cons_of_pos (p := fun s : T3 => decide (s.2.2 ≤ z)) (show decide (s.2.2 ≤ z) = true from decide_eq_true c1), List.filter_cons_of_neg (p := fun s : T3 => decide (s.2.2 = z + 1)) (show ¬ decide (s.2.2 = z + 1) = true by simp; omega), List.cons_append, ih]
  ·have e0 : (L.filter fun s => decide (s.2.2 ≤ z)) = [] := by
    rw [List.filter_eq_nil_iff]
    intro x hx
    have := h.1 x hx
    simp; omega
   rw [e0, List.nil_append] at ih
   rw [List.filter_cons_of_neg (p := fun s : T3 => decide (s.2.2 ≤ z)) (show ¬ decide (s.2.2 ≤ z) = true by simpa using c1), e0, List.nil_append]
   by_cases c2 : s.2.2 = z + 1
   ·rw [List.filter_cons_of_pos (p := fun s : T3 => decide (s.2.2 ≤ z + 1)) (show decide (s.2.2 ≤ z + 1) = true from decide_eq_true (by omega)), List.filter_cons_of_pos (p := fun s : T3 => decide (s.2.2 = z + 1)) (show decide (s.2.2 = z + 1) = true from decide_eq_true c2), ih]
   ·rw [List.filter_cons_of_neg (p := fun s : T3 => decide (s.2.2 ≤ z + 1)) (show ¬ decide (s.2.2 ≤ z + 1) = true by simp; omega), List.filter_cons_of_neg (p := fun s : T3 => decide (s.2.2 = z + 1)) (show ¬ decide (s.2.2 = z + 1) = true by simpa using c2), ih]
theorem perm_one {l l' : List T3} (p : l.Perm l') (h : l.length ≤ 1) : l = l' := by
 cases l with
 | nil => exact p.nil_eq
 | cons a l =>
  cases l with
  | nil => exact (List.singleton_perm.1 p)
  | cons b l => simp at h
theorem Rise.pw {L S : List T3} (R : Rise L S) : L.Pairwise fun a b => a.2.2 ≤ b.2.2 := by
 rw [List.pairwise_iff_getElem]
 intro i j hi hj hij
 have := R.ord i j hij hj
 rw [← gT_at hi, ← gT_at hj] at this
 exact this
structure HD (S : List T3) : Prop where
 rng : ∀ s ∈ S, 1 ≤ s.2.2 ∧ s.2.2 ≤ 1000
 ne : S.Pairwise fun a b => a.2.2 ≠ b.2.2
theorem HD.one {S : List T3} (h : HD S) (z : Int) : (S.filter fun s => decide (s.2.2 = z)).length ≤ 1 := by
 have := h.ne.filter (fun s => decide (s.2.2 = z))
 match e : S.filter fun s => decide (s.2.2 = z) with
 | [] => rw [e]; simp
 | [_] => rw [e]; simp
 | a :: b :: l =>
  rw [e, List.pairwise_cons] at this
  have h1 : a ∈ S.filter fun s => decide (s.2.2 = z) := by rw [e]; simp
  have h2 : b ∈ S.filter fun s => decide (s.2.2 = z) := by rw [e]; simp
  simp at h1 h2
  exact (this.1 b (by simp) (h1.2.trans h2.2.symm)).elim
theorem ref_tree {L S : List T3} (R : Rise L S) (h : HD S) (hb : SB S) : (refT S 1000).2 = (treeF L).2 := by
 have key : ∀ z : Nat, refT S z = foldG (L.filter fun s => decide (s.2.2 ≤ (z : Int))) := by
  intro z
  induction z with
  | zero =>
   have : (L.filter fun s => decide (s.2.2 ≤ ((0 : Nat) : Int))) = [] := by
    rw [List.filter_eq_nil_iff]
    intro x hx
    have := (h.rng x (R.perm.mem_iff.1 hx)).1
    simp; omega
   rw [this]; rfl
  | succ z ih =>
   show rowG ((z : Int) + 1) (refT S z) S = _
   have e := filt_le R.pw (z : Int)
   have e2 : ((z : Int) + 1) = ((z + 1 : Nat) : Int) := by omega
   rw [rowG_filter, ih, ← e2, e]
   have e3 : (S.filter fun s => decide (s.2.2 = (z : Int) + 1)) = L.filter fun s => decide (s.2.2 = (z : Int) + 1) := perm_one (R.perm.symm.filter _) (h.one _)
   rw [e3]
   unfold foldG
   rw [List.foldl_append]
 rw [key 1000]
 have : (L.filter fun s => decide (s.2.2 ≤ ((1000 : Nat) : Int))) = L := by
  rw [List.filter_eq_self]
  intro x hx
  have := (h.rng x (R.perm.mem_iff.1 hx)).2
  simp; omega
 rw [this]
 exact fold_eq (fun s hs => hb s (R.perm.mem_iff.1 hs))
theorem ChkP.hd {A F : List Int} {S : List T3} (c : ChkP A F S) : HD S := by
 refine ⟨fun s hs => ?_, ?_⟩
 ·obtain ⟨i, hi, e⟩ := List.mem_iff_getElem.1 hs
  have := c.ss i hi
  unfold okS at this
  rw [gT_at hi] at e
  subst e
  omega
 ·rw [List.pairwise_iff_getElem]
  intro i j hi hj hij
  have := c.ss j hj
  unfold okS at this
  rw [gT_at hi, gT_at hj]
  exact this.2.2.2.2.2.2.2.2 i hij
theorem ChkP.nodes {A F : List Int} {S : List T3} (c : ChkP A F S) : ∀ s ∈ S, 0 ≤ s.1 ∧ s.1 < s.2.1 ∧ s.2.1 ≤ A.length := fun s hs => by
 obtain ⟨i, hi, e⟩ := List.mem_iff_getElem.1 hs
 have := c.ss i hi
 unfold okS at this
 rw [gT_at hi] at e
 subst e
 omega
theorem ChkP.sb {A F : List Int} {S : List T3} (c : ChkP A F S) : SB S := fun s hs => by
 have h1 := c.nodes s hs
 have h2 := c.hd.rng s hs
 have := c.n8
 omega
theorem ChkP.lex {A F : List Int} {S : List T3} (c : ChkP A F S) : S.Pairwise lessT := by
 have key : ∀ (k i : Nat), i + k + 1 < S.length → lessT (gT S i) (gT S (i + k + 1)) := by
  intro k
  induction k with
  | zero =>
   intro i hi
   have := c.ss (i + 1) hi
   unfold okS at this
   exact this.2.2.2.2.2.2.2.1 (by omega)
  | succ k ih =>
   intro i hi
   have h1 := ih i (by omega)
   have := c.ss (i + (k + 1) + 1) hi
   unfold okS at this
   exact h1.trans (this.2.2.2.2.2.2.2.1 (by omega))
 rw [List.pairwise_iff_getElem]
 intro i j hi hj hij
 have := key (j - i - 1) i (by omega)
 rw [show i + (j - i - 1) + 1 = j from by omega] at this
 rw [gT_at hi, gT_at hj]
 exact this
end
end Go.Proofs.Ytioijehbmgmgkaa.Sh
namespace Go.Proofs.Ytioijehbmgmgkaa.Sh
section
open Go
set_option maxRecDepth 100000
set_option maxHeartbeats 4000000
def KV (base : Nat) (h : SHeap) (v : Value) (cs : List Value) (n s : Nat) : Prop := NewV base h v cs n s ∨ (OldV base v ∧ SL h v cs n s)
theorem OldV.fr {base : Nat} {H h h' : SHeap} {v : Value} {cs : List Value} {n s : Nat} (o : OldV base v) (k : SL h v cs n s) (fr : ∀ j, j < base → h'[j]? = h[j]?) : SL h' v cs n s := by
 obtain ⟨a, c, e, h1, h2, h3⟩ := k
 refine ⟨a, c, e, h1, h2, ?_⟩
 rcases h3 with h3 | ⟨b, oo, h3, h4⟩
 ·exact .inl h3
 ·refine .inr ⟨b, oo, h3, fun hn => (h4 hn).fr (fr b ?_)⟩
  subst h3
  rcases o with ⟨_, _, o⟩ | ⟨b', o', k', c', o, hb⟩
  ·rw [o] at e; cases e
  ·rw [o] at e; cases e; exact hb
theorem OldV.rn {base : Nat} {v : Value} (o : OldV base v) {g : Nat → Nat} (hg : ∀ b, b < base → g b = b) (m : Nat) : rnV g m v = v := by
 rcases o with ⟨k, c, rfl⟩ | ⟨b, o, k, c, rfl, h⟩
 ·cases m <;> rfl
 ·have := hg b h
  cases m <;> simp [rnV, this]
theorem OldV.okv {base : Nat} {v : Value} (o : OldV base v) (m : Nat) : okV m v = true ∧ (Sh.ptrs m v).length ≤ 1 := by
 rcases o with ⟨k, c, rfl⟩ | ⟨b, o, k, c, rfl, h⟩ <;> cases m <;> exact ⟨rfl, by simp [Sh.ptrs, ptr1]⟩
theorem KV.leaf {base : Nat} {h : SHeap} {v : Value} {cs : List Value} {n s : Nat} (k : KV base h v cs n s) (m : Nat) : okV m v = true ∧ (ptrs m v).length ≤ 1 ∧ ∀ b ∈ ptrs m v, base ≤ b → ∃ cs el own old, h[b]? = some (.cells cs el true own old) ∧ (own == 2) = false := by
 rcases k with k | ⟨o, _⟩
 ·obtain ⟨a1, a2, a3⟩ := k.leaf m
  exact ⟨a1, a2, fun b hb _ => a3 b hb⟩
 ·exact ⟨(o.okv m).1, (o.okv m).2, fun b hb hle => by have := o.ptrs m b hb; omega⟩
theorem KV.ren {base m : Nat} {H h h' : SHeap} {v : Value} {cs : List Value} {n s : Nat} {g : Nat → Nat} (k : KV base h v cs n s) (ho : ∀ b, b < base → g b = b) (fr : ∀ j, j < base → h'[j]? = h[j]?)
  (hg : ∀ b ∈ ptrs m v, base ≤ b → ∀ cs el own old, h[b]? = some (.cells cs el true own old) → base ≤ g b ∧ ∃ old', h'[g b]? = some (.cells cs el true own old')) : SL h' (rnV g m v) cs n s ∧ (v = .slice none 0 0 → rnV g m v = .slice none 0 0) := by
 refine ⟨?_, fun e => by subst e; cases m <;> rfl⟩
 rcases k with k | ⟨o, k⟩
 ·exact (k.ren hg).sl
 ·rw [o.rn ho]
  exact o.fr (H := H) k fr
theorem gc_k3 {H h : SHeap} (e : Ext H h) {va vf vs : Value} {c1 c2 c3' : List Value} {n1 n2 n3 s1 s2 s3 : Nat} (k1 : KV H.length h va c1 n1 s1) (k2 : KV H.length h vf c2 n2 s2) (k3 : KV H.length h vs c3' n3 s3) :
  ∃ va' vf' vs' h', gcS H.length (.agg #[va, vf, vs]) h = some (.agg #[va', vf', vs'], h') ∧ Ext H h' ∧ SL h' va' c1 n1 s1 ∧ SL h' vf' c2 n2 s2 ∧ SL h' vs' c3' n3 s3 ∧ (vs = .slice none 0 0 → vs' = .slice none 0 0) := by
 have hp : ptrs 3 (.agg #[va, vf, vs]) = ptrs 2 va ++ (ptrs 2 vf ++ (ptrs 2 vs ++ [])) := rfl
 obtain ⟨a1, a2, a3⟩ := k1.leaf 2
 obtain ⟨b1, b2, b3⟩ := k2.leaf 2
 obtain ⟨d1, d2, d3⟩ := k3.leaf 2
 obtain ⟨g, kept, g1, g2, g3⟩ := gc_new (base := H.length) (h := h) (v := .agg #[va, vf, vs]) (by show ([va, vf, vs].all (okV 2)) = true; simp [a1, b1, d1]) (by rw [hp]; simp; omega) (fun b hb hle => by
  rw [hp] at hb
  simp only [List.mem_append, List.append_nil] at hb
  rcases hb with hb | hb | hb
  ·exact a3 b hb hle
  ·exact b3 b hb hle
  ·exact d3 b hb hle) e.le
 rw [e.take] at g1 g3
 have fr : ∀ j, j < H.length → (H ++ kept)[j]? = h[j]? := fun j hj => by rw [e.fr j hj, List.getElem?_append_left hj]
 refine ⟨rnV g 2 va, rnV g 2 vf, rnV g 2 vs, H ++ kept, g1, Ext.app H kept, (k1.ren (H := H) (m := 2) g2 fr fun b hb => g3 b (by rw [hp]; simp [hb])).1, (k2.ren (H := H) (m := 2) g2 fr fun b hb => g3 b (by rw [hp]; simp [hb])).1, (k3.ren (H := H) (m := 2) g2 fr fun b hb => g3 b (by rw [hp]; simp [hb])).1, (k3.ren (H := H) (m := 2) g2 fr fun b hb => g3 b (by rw [hp]; simp [hb])).2⟩
theorem gc_k3t {H h : SHeap} (e : Ext H h) {va vf vs : Value} {c1 c2 c3' : List Value} {n1 n2 n3 s1 s2 s3 : Nat} (z : Int) (k1 : KV H.length h va c1 n1 s1) (k2 : KV H.length h vf c2 n2 s2) (k3 : KV H.length h vs c3' n3 s3) :
  ∃ va' vf' vs' h', gcS H.length (.tuple #[.agg #[va, vf, vs], .int .i64 z]) h = some (.tuple #[.agg #[va', vf', vs'], .int .i64 z], h') ∧ Ext H h' ∧ SL h' va' c1 n1 s1 ∧ SL h' vf' c2 n2 s2 ∧ SL h' vs' c3' n3 s3 ∧ (vs = .slice none 0 0 → vs' = .slice none 0 0) := by
 have hp : ptrs 3 (.tuple #[.agg #[va, vf, vs], .int .i64 z]) = (ptrs 1 va ++ (ptrs 1 vf ++ (ptrs 1 vs ++ []))) ++ [] := rfl
 rw [List.append_nil] at hp
 obtain ⟨a1, a2, a3⟩ := k1.leaf 1
 obtain ⟨b1, b2, b3⟩ := k2.leaf 1
 obtain ⟨d1, d2, d3⟩ := k3.leaf 1
 obtain ⟨g, kept, g1, g2, g3⟩ := gc_new (base := H.length) (h := h) (v := .tuple #[.agg #[va, vf, vs], .int .i64 z]) (by show (([va, vf, vs].all (okV 1)) && true) = true; simp [a1, b1, d1]) (by rw [hp]; simp; omega) (fun b hb hle => by
  rw [hp] at hb
  simp only [List.mem_append, List.append_nil] at hb
  rcases hb with hb | hb | hb
  ·exact a3 b hb hle
  ·exact b3 b hb hle
  ·exact d3 b hb hle) e.le
 rw [e.take] at g1 g3
 have fr : ∀ j, j < H.length → (H ++ kept)[j]? = h[j]? := fun j hj => by rw [e.fr j hj, List.getElem?_append_left hj]
 refine ⟨rnV g 1 va, rnV g 1 vf, rnV g 1 vs, H ++ kept, g1, Ext.app H kept, (k1.ren (H := H) (m := 1) g2 fr fun b hb => g3 b (by rw [hp]; simp [hb])).1, (k2.ren (H := H) (m := 1) g2 fr fun b hb => g3 b (by rw [hp]; simp [hb])).1, (k3.ren (H := H) (m := 1) g2 fr fun b hb => g3 b (by rw [hp]; simp [hb])).1, (k3.ren (H := H) (m := 1) g2 fr fun b hb => g3 b (by rw [hp]; simp [hb])).2⟩
theorem clone75 {H : SHeap} {v : Value} {l : List Int} (hv : IS H v l) (c0 : l.length ≠ 0) (hn : l.length ≤ 1000) :
  M.call 75 [v] H = some (resV H l.length 1, resH H (l.map mkI) l.length 3, []) := by
 refine call_run sf75 rfl rfl rfl ?_
 unfold sf75
 obtain ⟨b, o, c, rfl, sg⟩ := SL.ld hv c0
 have hse := sg.seen (n := l.length * 1) (by simp)
 rw [List.take_of_length_le (by simp)] at hse
 generalize hX : H ++ [SO.cells [] 3 true 0 []] = X
 have eX : Ext H X := by rw [← hX]; exact Ext.app H _
 have hsX : rdN X b o (l.length * 1) = some (l.map mkI) := by
  rw [rdN_def, eX.fr b sg.lt, ← rdN_def]; exact hse
 have hsc := mkI_sc l
 have A : AccS X (X ++ [.cells (l.map mkI) 3 true 0 []]) (.slice (some ⟨X.length, 0, none⟩) l.length (UNK + 1)) (l.map mkI) l.length 1 3 := by
  have := AccS.ofRes X 3 (cs := l.map mkI) (n := l.length) (s := 1) (by simp) hsc
  rw [← resH_pos X _ 3 c0, ← resV_pos X 1 c0] at this
  exact this
 generalize l.map mkI = cs at *
 generalize l.length = n at *
 have ap : ∀ (base : Nat) (d : List Nat), appendS base X d 3 true 1 8 (.slice (some ⟨H.length, 0, none⟩) 0 0) (.slice (some ⟨b, o, none⟩) n c) = some (.slice (some ⟨X.length, 0, none⟩) n (UNK + 1), X ++ [.cells cs 3 true 0 []], d) := fun base d => by
  have hn0 : (n == 0) = false := beq_eq_false_iff_ne.2 c0
  have e4 : Nat.ble ((0 + n) * 8) 140737488355328 = true := by rw [ble_dec]; exact decide_eq_true (by omega)
  have e5 : Nat.blt 0 8 = true := rfl
  have hone := all_sc_one _ hsc
  have e6 : rdN X H.length 0 (0 * 1) = some [] := by rw [← hX, rdN_def, app_get0]; rfl
  have e7 : Nat.ble UNK 0 = false := rfl
  have e8 : Nat.ble (0 + n) 0 = false := by rw [ble_dec]; exact decide_eq_false (by omega)
  unfold appendS
  simp only [lenS, seenS, hsX, hn0, e4, e5, hone, hsc]
  simp [-List.all_eq_true, hone, hsc, e6, e7, e8]
  intro e
  exact (c0 e).elim
 rw [← hX] at A
 repeat (first | apply Z1 | apply Z2 | apply Z3 | apply Z4 | apply Z5 rfl | apply Z6 | apply Z7 | apply Z8 | apply Z9 | apply ZA | apply ZB | apply ZC | ((first | apply ZD (by decide) | apply ZN (by decide)); (simp (maxSteps := 9999999) only [go_sem, argR, ↓eq_sl_some, hX, ↓ap]; rfl)) | (refine ZE ?_ ?_; · simp only [go_sem]) | (refine ZF ?_ ?_; · simp only [go_sem]))
 subst hX
 exact end_nil (A.q1 rfl rfl (by simp only [go_sem]))
theorem sort_res {X : SHeap} {T : List T3} (hS : ∀ x ∈ T, 0 ≤ x.2.2 ∧ x.2.2 ≤ 1000) (hn : T.length ≤ 1000) :
  ∃ X2 L, M.call 72 [resV X T.length 3, .func (.func 73) #[] #[]] (resH X (trs T) T.length 78) = some (.tuple #[], X2, []) ∧ Ext X X2 ∧ L.length = T.length ∧ NewV X.length X2 (resV X T.length 3) (trs L) T.length 3 ∧ L.Perm T ∧ ∀ i j, i < j → j < L.length → ¬ lessT (gT L j) (gT L i) := by
 by_cases c0 : T.length = 0
 ·have hT : T = [] := List.length_eq_zero_iff.1 c0
  subst hT
  exact ⟨X, [], sort0T 73 X, Ext.rfl' X, rfl, .inl ⟨rfl, rfl, rfl⟩, List.Perm.refl _, fun i j _ h => by simp at h⟩
 ·rw [← resV_pos X 3 c0, ← resH_pos X (trs T) 78 c0]
  obtain ⟨X2, f, st, l1, fr1, ⟨old', _, hb⟩, hp, ho⟩ := sortE (cap := UNK + 3) cmpL (H := X ++ [SO.cells (trs T) 78 true 0 []]) (b := X.length) (S := T) (el := 78) (old := []) hS hn (by rw [app_get0]; rfl) (fun c h => by cases h)
  have hl : (lsE f T.length).length = T.length := lsE_len f _
  refine ⟨X2, lsE f T.length, st, ⟨by rw [l1]; simp, fun j hj => by rw [fr1 j (by omega) (by simp), List.getElem?_append_left hj]⟩, hl, .inr ⟨X.length, 78, old', rfl, hb, by rw [trs_len, hl], Nat.le_refl _, c0⟩, hp, fun i j hij hj => ?_⟩
  rw [hl] at hj
  rw [lsE_at f hj, lsE_at f (show i < T.length by omega)]
  have := ho i j hij hj
  unfold cL at this
  rw [lex3] at this
  exact this
end
end Go.Proofs.Ytioijehbmgmgkaa.Sh
namespace Go.Proofs.Ytioijehbmgmgkaa.Sh
section
open Go
set_option maxRecDepth 100000
set_option maxHeartbeats 4000000
theorem pTree35 {H : SHeap} {v : Value} {A F : List Int} {S : List T3} (hv : BN H v A F S) (hc : ChkP A F S) :
  ∃ L, Rise L S ∧ M.call 35 [v] H = some (.tuple #[resV H (treeF L).2.length 3, .int .i64 0], resH H (trs (treeF L).2) (treeF L).2.length 78, []) := by
 have key : ∃ r, (∃ L, Rise L S ∧ r = (Value.tuple #[resV H (treeF L).2.length 3, .int .i64 0], resH H (trs (treeF L).2) (treeF L).2.length 78, ([] : List Nat))) ∧ M.call 35 [v] H = some r := by
  have hv0 := hv
  obtain ⟨va, vf, vs, rfl, h1, h2, h3, hnil⟩ := hv0
  refine call_ex (f := 35) _ sf35 rfl rfl rfl ?_
  generalize hX : H ++ [SO.cells [va, vf, vs] 25 false 0 []] = X
  have eX : Ext H X := by rw [← hX]; exact Ext.app H _
  have lb : loadS X (some 3) (.pointer (some ⟨H.length, 0, none⟩)) = some (.agg #[va, vf, vs]) := by rw [← hX, load_appN0]; rfl
  have n1 := hc.n1
  have n8 := hc.n8
  have nf := hc.fl
  obtain ⟨r, hr, ck⟩ := check51 (hv.fr eX).bv (by omega) (by omega)
  have hr0 : r = 0 := by rcases hr with ⟨h, _⟩ | ⟨_, h⟩; exact h; exact (h hc).elim
  subst hr0
  obtain ⟨L, R, tr⟩ := tree71 (hv.fr eX) (by omega) (by omega) (by have := hc.s20; omega) hc.sb
  have A := AccS.ofRes X 78 (trs_len (treeF L).2) (trs_sc _)
  generalize hT : (treeF L).2 = T at *
  generalize resV X T.length 3 = w at *
  generalize resH X (trs T) T.length 78 = X2 at *
  rw [← hX] at A
  obtain ⟨a1, a2, rfl⟩ := h1.shape
  obtain ⟨f1, f2, rfl⟩ := h2.shape
  obtain ⟨s1, s2, rfl⟩ := h3.shape
  obtain ⟨w1, w2, rfl⟩ := A.shape
  unfold sf35
  repeat (first | apply Z1 | apply Z2 | apply Z3 | apply Z4 | apply Z5 rfl | apply Z6 | apply Z7 | apply Z8 | apply Z9 | apply ZA | apply ZB | apply ZC | ((first | apply ZD (by decide) | apply ZN (by decide)); (simp (maxSteps := 9999999) only [go_sem, argR, hX, lb, ck, tr]; rfl)) | (refine ZE ?_ ?_; · simp only [go_sem]) | (refine ZF ?_ ?_; · simp only [go_sem]))
  exact end_nil ⟨(.tuple #[resV H T.length 3, .int .i64 0], resH H (trs T) T.length 78, []), ⟨L, R, by rw [hT]⟩, A.q2 (.int .i64 0) rfl rfl (by simp only [go_sem]) (by simp only [go_sem]) rfl⟩
 obtain ⟨r, ⟨L, R, rfl⟩, e⟩ := key
 exact ⟨L, R, e⟩
theorem pPruned36 {H : SHeap} {v : Value} {A F : List Int} {S : List T3} (hv : BN H v A F S) (hc : ChkP A F S) :
  ∃ L Q v' H', Rise L S ∧ M.call 36 [v] H = some (.tuple #[v', .int .i64 0], H', []) ∧ Q.Perm (treeF L).2 ∧ (∀ i j, i < j → j < Q.length → ¬ lessT (gT Q j) (gT Q i)) ∧ Ext H H' ∧ BN H' v' A F Q := by
 have key : ∃ r, (∃ L Q v' H', Rise L S ∧ r = (Value.tuple #[v', .int .i64 0], H', ([] : List Nat)) ∧ Q.Perm (treeF L).2 ∧ (∀ i j, i < j → j < Q.length → ¬ lessT (gT Q j) (gT Q i)) ∧ Ext H H' ∧ BN H' v' A F Q) ∧ M.call 36 [v] H = some r := by
  have hv0 := hv
  obtain ⟨va, vf, vs, rfl, h1, h2, h3, hnil⟩ := hv0
  refine call_ex (f := 36) _ sf36 rfl rfl rfl ?_
  generalize hX : H ++ [SO.cells [va, vf, vs] 25 false 0 [], .cells [.slice none 0 0, .slice none 0 0, .slice none 0 0] 25 false 0 []] = X
  have eX : Ext H X := by rw [← hX]; exact Ext.app H _
  have lX : X.length = H.length + 2 := by rw [← hX]; simp
  have b0 : X[H.length]? = some (.cells [va, vf, vs] 25 false 0 []) := by rw [← hX, app_get0]; rfl
  have b1 : X[H.length + 1]? = some (.cells [.slice none 0 0, .slice none 0 0, .slice none 0 0] 25 false 0 []) := by rw [← hX, app_get]; rfl
  have lb : loadS X (some 3) (.pointer (some ⟨H.length, 0, none⟩)) = some (.agg #[va, vf, vs]) := by rw [load_rdON, b0]; rfl
  have n1 := hc.n1
  have n8 := hc.n8
  have nf := hc.fl
  have s20 := hc.s20
  obtain ⟨r, hr, ck⟩ := check51 (hv.fr eX).bv (by omega) (by omega)
  have hr0 : r = 0 := by rcases hr with ⟨h, _⟩ | ⟨_, h⟩; exact h; exact (h hc).elim
  subst hr0
  obtain ⟨L, R, tr⟩ := tree71 (hv.fr eX) (by omega) (by omega) (by omega) hc.sb
  have hTm : ∀ x ∈ (treeF L).2, x ∈ L := by
   have : ∀ (l : List T3) (a : (Nat → Nat) × List T3), ∀ x ∈ (l.foldl stepT a).2, x ∈ a.2 ∨ x ∈ l := by
    intro l
    induction l with
    | nil => intro a x hx; exact .inl hx
    | cons s l ih =>
     intro a x hx
     rcases ih _ x hx with h | h
     ·unfold stepT at h
      dsimp only at h
      split at h
      ·rcases List.mem_append.1 h with h | h
       ·exact .inl h
       ·exact .inr (by rw [List.mem_singleton.1 h]; exact List.mem_cons_self ..)
      ·exact .inl h
     ·exact .inr (List.mem_cons_of_mem _ h)
   intro x hx
   rcases this L _ x hx with h | h
   ·cases h
   ·exact h
  have hTl := treeF_len L
  have hLl := R.perm.length_eq
  obtain ⟨X2, Q, so, e2, hQl, nQ, hQp, hQo⟩ := sort_res (X := X) (T := (treeF L).2) (fun x hx => by have := hc.hd.rng x (R.perm.mem_iff.1 (hTm x hx)); omega) (by omega)
  have e1 := Ext.res X (trs (treeF L).2) (treeF L).2.length 78
  generalize hT : (treeF L).2 = T at *
  have hw := nQ.shape
  generalize resV X T.length 3 = w at *
  generalize resH X (trs T) T.length 78 = X1 at *
  have k2 := (eX.trans e2)
  have cA := clone75 (h1.fr k2.fr) (by omega) (by omega)
  have nA := NewV.ofRes X2 3 (cs := A.map mkI) (n := A.length) (s := 1) (by simp) (mkI_sc _)
  have eA := Ext.res X2 (A.map mkI) A.length 3
  generalize resH X2 (A.map mkI) A.length 3 = X3 at *
  generalize resV X2 A.length 1 = v1 at *
  have cF := clone75 (h2.fr (k2.trans eA).fr) (by omega) (by omega)
  have nF := NewV.ofRes X3 3 (cs := F.map mkI) (n := F.length) (s := 1) (by simp) (mkI_sc _)
  have eF := Ext.res X3 (F.map mkI) F.length 3
  generalize resH X3 (F.map mkI) F.length 3 = X4 at *
  generalize resV X3 F.length 1 = v2 at *
  have le2 := e2.le
  have le3 := eA.le
  have le4 := eF.le
  obtain ⟨a1, a2, rfl⟩ := h1.shape
  obtain ⟨f1, f2, rfl⟩ := h2.shape
  obtain ⟨s1, s2, rfl⟩ := h3.shape
  obtain ⟨w1, w2, rfl⟩ := hw
  obtain ⟨x1, y1, rfl⟩ := nA.shape
  obtain ⟨x2, y2, rfl⟩ := nF.shape
  have l2 : ∀ o, loadS X2 none (.pointer (some ⟨H.length, o, none⟩)) = [Value.slice a1 A.length a2, .slice f1 F.length f2, .slice s1 S.length s2][o]? := fun o => by rw [e2.load (by omega), load_rdO, b0]; rfl
  have l3 : ∀ o, loadS X3 none (.pointer (some ⟨H.length, o, none⟩)) = [Value.slice a1 A.length a2, .slice f1 F.length f2, .slice s1 S.length s2][o]? := fun o => by rw [eA.load (by omega), l2]
  have e24 := e2.trans (eA.trans eF)
  have b4 : X4[H.length + 1]? = some (.cells [.slice none 0 0, .slice none 0 0, .slice none 0 0] 25 false 0 []) := by rw [e24.fr _ (by omega)]; exact b1
  have st : ∀ d, storeS H.length X4 d (H.length + 1) 0 (cellsL (.agg #[.slice x1 A.length y1, .slice x2 F.length y2, .slice w1 T.length w2])) = _ := fun d => store_at (base := H.length) (vs := [.slice x1 A.length y1, .slice x2 F.length y2, .slice w1 T.length w2]) b4 rfl (by simp) rfl (fun h => by cases h) d
  have dO : ∀ d, dirty H.length (H.length + 1) false d = d := fun d => dirty_own (by omega)
  simp only [dO] at st
  have fr5 : ∀ (Z : SO) (j : Nat), j ≠ H.length + 1 → (X4.set (H.length + 1) Z)[j]? = X4[j]? := fun Z j hj => List.getElem?_set_ne (fun e => hj e.symm)
  have ld : loadS (X4.set (H.length + 1) (.cells [.slice x1 A.length y1, .slice x2 F.length y2, .slice w1 T.length w2] 25 false 0 [])) (some 3) (.pointer (some ⟨H.length + 1, 0, none⟩)) = some (.agg #[.slice x1 A.length y1, .slice x2 F.length y2, .slice w1 T.length w2]) := by
   rw [load_rdON, List.getElem?_set_self (by omega)]; rfl
  have e5 : ∀ Z, Ext H (X4.set (H.length + 1) Z) := fun Z => ⟨by rw [List.length_set]; omega, fun j hj => by rw [fr5 _ j (by omega), e24.fr j (by omega), eX.fr j hj]⟩
  obtain ⟨va', vf', vs', h', g1, g2, g3, g4, g5, g6⟩ := gc_k3t (e5 (.cells [.slice x1 A.length y1, .slice x2 F.length y2, .slice w1 T.length w2] 25 false 0 [])) 0
   (.inl (((nA.ext eF).fr (fun b hb _ => fr5 _ b (by omega))).mono (base' := H.length) (by omega)))
   (.inl ((nF.fr (fun b hb _ => fr5 _ b (by omega))).mono (base' := H.length) (by omega)))
   (.inl (((nQ.ext (eA.trans eF)).fr (fun b hb _ => fr5 _ b (by omega))).mono (base' := H.length) (by omega)))
  have nil5 : Q.length = 0 → vs' = .slice none 0 0 := fun h => g6 (nQ.nil (by omega))
  rw [← hQl] at g5
  unfold sf36
  repeat (first | apply Z1 | apply Z2 | apply Z3 | apply Z4 | apply Z5 rfl | apply Z6 | apply Z7 | apply Z8 | apply Z9 | apply ZA | apply ZB | apply ZC | ((first | apply ZD (by decide) | apply ZN (by decide)); (simp (maxSteps := 9999999) only [go_sem, argR, hX, lb, ck, tr, so, l2, cA, l3, vsame_slice, cF, ↓st]; rfl)) | (refine ZE ?_ ?_; · simp only [go_sem]) | (refine ZF ?_ ?_; · simp only [go_sem]))
  exact end_nil ⟨_, ⟨L, Q, _, _, R, rfl, by rw [hT]; exact hQp, hQo, g2, va', vf', vs', rfl, g3, g4, g5, nil5⟩, q_gc [.agg #[.slice x1 A.length y1, .slice x2 F.length y2, .slice w1 T.length w2], .int .i64 0] (by simp only [go_sem, ↓ld]) rfl g1 rfl⟩
 obtain ⟨r, ⟨L, Q, v', H', R, rfl, k⟩, e⟩ := key
 exact ⟨L, Q, v', H', R, e, k⟩
end
end Go.Proofs.Ytioijehbmgmgkaa.Sh
namespace Go.Proofs.Ytioijehbmgmgkaa.Sh
section
open Go
set_option maxRecDepth 100000
set_option maxHeartbeats 4000000
def rowQ (T : List T3) (s : T3) : List T3 := T.filter fun t => decide (t = s)
def outQ (T S : List T3) : List T3 := S.flatMap (rowQ T)
structure JQ (X : SHeap) (q : Nat) (va vf : Value) (R : List T3) (h : SHeap) : Prop where
 fr : ∀ j, j < q → h[j]? = X[j]?
 le : q + 1 ≤ h.length
 c : ∃ qv, h[q]? = some (.cells [va, vf, qv] 27 false 0 []) ∧ Acc (q + 1) h qv (trs R) R.length 3 78
theorem JQ.push {X : SHeap} {q : Nat} {va vf : Value} {R : List T3} {h : SHeap} (J : JQ X q va vf R h) (hl : R.length ≤ 100000) (s : T3) (base : Nat) (hb : base ≤ q) {qv : Value} (hq : h[q]? = some (.cells [va, vf, qv] 27 false 0 [])) :
  ∃ v2 H2 H3, (∀ d, appendS base (h ++ [.cells [.int .i64 s.1, .int .i64 s.2.1, .int .i64 s.2.2] 78 true 0 []]) d 78 true 3 24 qv (.slice (some ⟨h.length, 0, none⟩) 1 1) = some (v2, H2, d)) ∧ (∀ d, storeS base H2 d q 2 (cellsL v2) = some (H3, d)) ∧ (∃ a n c, v2 = .slice a n c) ∧ JQ X q va vf (R ++ [s]) H3 := by
 obtain ⟨qv', hq', A⟩ := J.c
 rw [hq] at hq'
 cases hq'
 have hle := J.le
 have A2 : Acc (q + 1) (h ++ [.cells [.int .i64 s.1, .int .i64 s.2.1, .int .i64 s.2.2] 78 true 0 []]) qv (trs R) R.length 3 78 := A.keep (fun b e => List.getElem?_append_left (A.lt e).2)
 obtain ⟨old, ap, acc2, kp⟩ := acc_append (bytes := 24) (new := [.int .i64 s.1, .int .i64 s.2.1, .int .i64 s.2.2]) (bs := h.length) (el2 := 78) (pf2 := true) (own2 := 0) (old2 := []) A2 (by rw [app_get0]; rfl) rfl rfl (by decide) rfl (by decide) (by omega) (by simp; omega)
 have key : ∀ j, j < q + 1 → (shv (h ++ [.cells [.int .i64 s.1, .int .i64 s.2.1, .int .i64 s.2.2] 78 true 0 []]) qv ++ [SO.cells (trs R ++ [.int .i64 s.1, .int .i64 s.2.1, .int .i64 s.2.2]) 78 true 0 old])[j]? = h[j]? := fun j hj => by
  rw [kp j (by simp; omega) (fun b e => by have := (A.lt e).1; omega), List.getElem?_append_left (by omega)]
 have hlen2 : q + 1 ≤ (shv (h ++ [.cells [.int .i64 s.1, .int .i64 s.2.1, .int .i64 s.2.2] 78 true 0 []]) qv ++ [SO.cells (trs R ++ [.int .i64 s.1, .int .i64 s.2.1, .int .i64 s.2.2]) 78 true 0 old]).length := by simp [shv_len]; omega
 generalize (shv (h ++ [.cells [.int .i64 s.1, .int .i64 s.2.1, .int .i64 s.2.2] 78 true 0 []]) qv ++ [SO.cells (trs R ++ [.int .i64 s.1, .int .i64 s.2.1, .int .i64 s.2.2]) 78 true 0 old]) = G at *
 have hlG : (h ++ [SO.cells [.int .i64 s.1, .int .i64 s.2.1, .int .i64 s.2.2] 78 true 0 []]).length = h.length + 1 := by simp
 rw [hlG] at ap acc2
 have st := fun d => store_cell (h := G) (base := base) (b := q) (o := 2) (c := .slice (some ⟨h.length + 1, 0, none⟩) (R.length + 1) (UNK + 3)) (cs := [va, vf, qv]) (el := 27) (pf := false) (by rw [key _ (by omega)]; exact hq) (by simp) rfl (fun h => by cases h) d
 have dO : ∀ d, dirty base q false d = d := fun d => dirty_own hb
 simp only [dO, List.set_cons_succ, List.set_cons_zero] at st
 refine ⟨_, G, _, fun d => ap base d, st, ⟨_, _, _, rfl⟩, ⟨fun j hj => by rw [List.getElem?_set_ne (by omega), key j (by omega)]; exact J.fr j hj, by rw [List.length_set]; omega, ⟨_, List.getElem?_set_self (by omega), ?_⟩⟩⟩
 rw [trs_app, List.length_append, List.length_singleton]
 exact acc2.keep (fun b e => by rw [List.getElem?_set_ne (by have := (acc2.lt e).1; omega)])
theorem q_in (cx : Cx) {z2 : Value} {X : SHeap} {q p : Nat} {va vf vs tv : Value} {T S : List T3} (hb : cx.base ≤ q) (hp : p < q) (hB : X[p]? = some (.cells [va, vf, vs] 27 false 0 [])) (hs : ∀ h', (∀ j, j < q → h'[j]? = X[j]?) → ES h' vs S ∧ ES h' tv T) (hT : T.length ≤ 1000) {R0 : List T3} (hR : R0.length ≤ 30000) {i : Nat} (hi : i < S.length) :
  ∀ k ρ ms h' d', (∃ (m : Nat), m + k = T.length ∧ JQ X q va vf (R0 ++ rowQ (T.take m) (gT S i)) h' ∧ ρ 1 = .pointer (some ⟨p, 0, none⟩) ∧ ρ 2 = z2 ∧ ρ 3 = tv ∧ ρ 4 = .pointer (some ⟨q, 0, none⟩) ∧ ρ 5 = .int .i64 i ∧ ρ 6 = .int .i64 m ∧ ms = [] ∧ d' = []) →
  LoopW M cx 6 sf37L0 ρ ms h' d' (fun ex ρ' ms' h' d' => ms' = [] ∧ d' = [] ∧ ex = .exit 2 ∧ JQ X q va vf (R0 ++ rowQ T (gT S i)) h' ∧ ρ' 1 = .pointer (some ⟨p, 0, none⟩) ∧ ρ' 2 = z2 ∧ ρ' 3 = tv ∧ ρ' 4 = .pointer (some ⟨q, 0, none⟩) ∧ ρ' 5 = .int .i64 i) := by
 refine loop_run _ ?_
 rintro k ρ ms h' d' ⟨m, hk, J, r1, r2, r3, r4, r5, r6, rfl, rfl⟩
 unfold sf37L0
 obtain ⟨is, it⟩ := hs h' J.fr
 have lB : loadS h' none (.pointer (some ⟨p, 2, none⟩)) = some vs := by rw [load_rdO, J.fr p hp, hB]; rfl
 by_cases c0 : k = 0
 ·have e1 : ¬ ((m : Int) < T.length) := by omega
  have hm : m = T.length := by omega
  subst hm
  obtain ⟨t1, t2, rfl⟩ := it.shape
  rw [List.take_of_length_le (Nat.le_refl _)] at J
  repeat (first | apply Z1 | apply Z2 | apply Z3 | apply Z4 | apply Z5 rfl | apply Z6 | apply Z7 | apply Z8 | apply Z9 | apply ZA | apply ZB | apply ZC | ((first | apply ZD (by decide) | apply ZN (by decide)); (simp (maxSteps := 9999999) only [go_sem, r3, r6, e1]; rfl)) | (refine ZE ?_ ?_; · simp only [go_sem]) | (refine ZF ?_ ?_; · simp only [go_sem]))
  exact end_nil ⟨rfl, rfl, rfl, J, by simp only [go_sem, r1], by simp only [go_sem, r2], by simp only [go_sem, r3], by simp only [go_sem, r4], by simp only [go_sem, r5]⟩
 ·have e1 : ((m : Int) < T.length) := by omega
  have e2 : (0 : Int) ≤ m := by omega
  have e3 : ((i : Int) < S.length) := by omega
  have e4 : (0 : Int) ≤ i := by omega
  have hm : m < T.length := by omega
  have ew : IntKind.i64.wrap ((m : Int) + 1) = ((m + 1 : Nat) : Int) := by rw [wrap64 (by omega) (by omega)]; rfl
  obtain ⟨b, o, cp, rfl, ld⟩ := is.ld (by omega)
  obtain ⟨b2, o2, cp2, rfl, ld2⟩ := it.ld (by omega)
  have l1 := (ld i hi).1
  have l2 := (ld2 m hm).1
  rw [gT_at hi] at l1
  rw [gT_at hm] at l2
  have qe := eq3 (gT T m) (gT S i)
  have hrow : rowQ (T.take (m + 1)) (gT S i) = rowQ (T.take m) (gT S i) ++ if gT T m = gT S i then [gT T m] else [] := by
   unfold rowQ
   rw [take_snoc hm, List.filter_append]
   congr 1
   by_cases c : gT T m = gT S i
   ·rw [if_pos c, List.filter_cons_of_pos (by simpa using c)]; rfl
   ·rw [if_neg c, List.filter_cons_of_neg (by simpa using c)]; rfl
  have hlen : (rowQ (T.take m) (gT S i)).length ≤ 1000 := by
   have := List.length_filter_le (fun t => decide (t = gT S i)) (T.take m)
   unfold rowQ
   rw [List.length_take] at this
   omega
  obtain ⟨qv, hq, A⟩ := J.c
  have lq : loadS h' none (.pointer (some ⟨q, 2, none⟩)) = some qv := by rw [load_rdO, hq]; rfl
  by_cases cc : gT T m = gT S i
  ·rw [decide_eq_true cc] at qe
   rw [if_pos cc] at hrow
   obtain ⟨v2, H2, H3, ap, st, ⟨z1, z2, z3, rfl⟩, J2⟩ := J.push (by rw [List.length_append]; omega) (gT T m) cx.base hb hq
   obtain ⟨y1, y2, rfl⟩ := A.shp
   generalize (R0 ++ rowQ (T.take m) (gT S i)).length = nn at *
   generalize gT T m = t at *
   generalize gT S i = s at *
   repeat (first | apply Z1 | apply Z2 | apply Z3 | apply Z4 | apply Z5 rfl | apply Z6 | apply Z7 | apply Z8 | apply Z9 | apply ZA | apply ZB | apply ZC | ((first | apply ZD (by decide) | apply ZN (by decide)); (simp (maxSteps := 9999999) only [go_sem, r1, r3, r4, r5, r6, e1, e2, e3, e4, lB, l1, l2, ↓qe, lq, ↓ap, ↓st, ew, Int.toNat_natCast]; rfl)) | (refine ZE ?_ ?_; · simp only [go_sem]) | (refine ZF ?_ ?_; · simp only [go_sem]))
   exact end_nil ⟨k - 1, by omega, m + 1, by omega, by rw [hrow, ← List.append_assoc]; exact J2, by simp only [go_sem, r1], by simp only [go_sem, r2], by simp only [go_sem, r3], by simp only [go_sem, r4], by simp only [go_sem, r5], by simp only [go_sem, ew], rfl, rfl⟩
  ·rw [decide_eq_false cc] at qe
   rw [if_neg cc, List.append_nil] at hrow
   generalize gT T m = t at *
   generalize gT S i = s at *
   repeat (first | apply Z1 | apply Z2 | apply Z3 | apply Z4 | apply Z5 rfl | apply Z6 | apply Z7 | apply Z8 | apply Z9 | apply ZA | apply ZB | apply ZC | ((first | apply ZD (by decide) | apply ZN (by decide)); (simp (maxSteps := 9999999) only [go_sem, r1, r3, r4, r5, r6, e1, e2, e3, e4, lB, l1, l2, ↓qe, ew, Int.toNat_natCast]; rfl)) | (refine ZE ?_ ?_; · simp only [go_sem]) | (refine ZF ?_ ?_; · simp only [go_sem]))
   exact end_nil ⟨k - 1, by omega, m + 1, by omega, by rw [hrow]; exact J, by simp only [go_sem, r1], by simp only [go_sem, r2], by simp only [go_sem, r3], by simp only [go_sem, r4], by simp only [go_sem, r5], by simp only [go_sem, ew], rfl, rfl⟩
theorem q_out (cx : Cx) {z2 : Value} {X : SHeap} {q p : Nat} {va vf vs tv : Value} {T S : List T3} (hb : cx.base ≤ q) (hp : p < q) (hB : X[p]? = some (.cells [va, vf, vs] 27 false 0 [])) (hs : ∀ h', (∀ j, j < q → h'[j]? = X[j]?) → ES h' vs S ∧ ES h' tv T) (hT : T.length ≤ 1000) (hS : S.length ≤ 20) (hR : ∀ i, (outQ T (S.take i)).length ≤ 30000) :
  ∀ k ρ ms h' d', (∃ (i : Nat), i + k = S.length ∧ JQ X q va vf (outQ T (S.take i)) h' ∧ ρ 1 = .pointer (some ⟨p, 0, none⟩) ∧ ρ 2 = z2 ∧ ρ 3 = tv ∧ ρ 4 = .pointer (some ⟨q, 0, none⟩) ∧ ρ 5 = .int .i64 i ∧ ms = [] ∧ d' = []) →
  LoopW M cx 6 sf37L1 ρ ms h' d' (fun ex ρ' ms' h' d' => ms' = [] ∧ d' = [] ∧ ex = .exit 0 ∧ JQ X q va vf (outQ T S) h' ∧ ρ' 2 = z2 ∧ ρ' 4 = .pointer (some ⟨q, 0, none⟩)) := by
 refine loop_run _ ?_
 rintro k ρ ms h' d' ⟨i, hk, J, r1, r2, r3, r4, r5, rfl, rfl⟩
 unfold sf37L1
 obtain ⟨is, it⟩ := hs h' J.fr
 have lB : loadS h' none (.pointer (some ⟨p, 2, none⟩)) = some vs := by rw [load_rdO, J.fr p hp, hB]; rfl
 obtain ⟨s1, s2, hsv⟩ := is.shape
 by_cases c0 : k = 0
 ·have e1 : ¬ ((i : Int) < S.length) := by omega
  have hi : i = S.length := by omega
  subst hi hsv
  rw [List.take_of_length_le (Nat.le_refl _)] at J
  repeat (first | apply Z1 | apply Z2 | apply Z3 | apply Z4 | apply Z5 rfl | apply Z6 | apply Z7 | apply Z8 | apply Z9 | apply ZA | apply ZB | apply ZC | ((first | apply ZD (by decide) | apply ZN (by decide)); (simp (maxSteps := 9999999) only [go_sem, r1, r5, lB, e1]; rfl)) | (refine ZE ?_ ?_; · simp only [go_sem]) | (refine ZF ?_ ?_; · simp only [go_sem]))
  exact end_nil ⟨rfl, rfl, rfl, J, by simp only [go_sem, r2], by simp only [go_sem, r4]⟩
 ·have e1 : ((i : Int) < S.length) := by omega
  have hi : i < S.length := by omega
  have ew : IntKind.i64.wrap ((i : Int) + 1) = ((i + 1 : Nat) : Int) := by rw [wrap64 (by omega) (by omega)]; rfl
  have hrow : outQ T (S.take (i + 1)) = outQ T (S.take i) ++ rowQ T (gT S i) := by
   unfold outQ
   rw [take_snoc hi, List.flatMap_append]; simp
  have J0 : JQ X q va vf (outQ T (S.take i) ++ rowQ (T.take 0) (gT S i)) h' := by
   have : rowQ (T.take 0) (gT S i) = [] := rfl
   rw [this, List.append_nil]; exact J
  subst hsv
  repeat (first | apply Z1 | apply Z2 | apply Z3 | apply Z4 | apply Z5 rfl | apply Z6 | apply Z7 | apply Z8 | apply Z9 | apply ZA | apply ZB | apply ZC | ((first | apply ZD (by decide) | apply ZN (by decide)); (simp (maxSteps := 9999999) only [go_sem, r1, r5, lB, e1]; rfl)) | (refine ZE ?_ ?_; · simp only [go_sem]) | (refine ZF ?_ ?_; · simp only [go_sem]))
  refine run_loop (q_in (z2 := z2) _ hb hp hB hs hT (hR i) hi T.length _ _ _ _ ⟨0, by omega, J0, by simp only [go_sem, r1], by simp only [go_sem, r2], by simp only [go_sem, r3], by simp only [go_sem, r4], by simp only [go_sem, r5], by simp only [go_sem], rfl, rfl⟩) ?_
  rintro ex ρ2 ms2 h2 d2 ⟨rfl, rfl, rfl, J2, t1, t2, t3, t4, t5⟩
  repeat (first | apply Z1 | apply Z2 | apply Z3 | apply Z4 | apply Z5 rfl | apply Z6 | apply Z7 | apply Z8 | apply Z9 | apply ZA | apply ZB | apply ZC | ((first | apply ZD (by decide) | apply ZN (by decide)); (simp (maxSteps := 9999999) only [go_sem, t1, t3, t4, t5, ew]; rfl)) | (refine ZE ?_ ?_; · simp only [go_sem]) | (refine ZF ?_ ?_; · simp only [go_sem]))
  exact end_nil ⟨k - 1, by omega, i + 1, by omega, by rw [hrow]; exact J2, by simp only [go_sem, t1], by simp only [go_sem, t2], by simp only [go_sem, t3], by simp only [go_sem, t4], by simp only [go_sem, ew], rfl, rfl⟩
theorem outQ_len (T S : List T3) : (outQ T S).length ≤ S.length * T.length := by
 unfold outQ
 induction S with
 | nil => simp
 | cons s S ih =>
  rw [List.flatMap_cons, List.length_append, List.length_cons, Nat.add_mul]
  have := List.length_filter_le (fun t => decide (t = s)) T
  unfold rowQ at *
  omega
theorem refPruned37 {H : SHeap} {v : Value} {A F : List Int} {S : List T3} (hv : BN H v A F S) (ha : A.length ≠ 0) (hf : F.length ≠ 0) (hn : A.length ≤ 8) (hS : SB S) (hy : ∀ s ∈ S, s.1 < A.length + 1 ∧ s.2.1 < A.length + 1) (hl : S.length ≤ 20) (hT : (refT S 1000).2.length ≤ 100) :
  ∃ v' H', M.call 37 [v] H = some (v', H', []) ∧ Ext H H' ∧ BV H' v' A F (outQ (refT S 1000).2 S) := by
 have key : ∃ r, (∃ v' H', r = (v', H', ([] : List Nat)) ∧ Ext H H' ∧ BV H' v' A F (outQ (refT S 1000).2 S)) ∧ M.call 37 [v] H = some r := by
  have hv0 := hv
  obtain ⟨va, vf, vs, rfl, h1, h2, h3, hnil⟩ := hv0
  refine call_ex (f := 37) _ sf37 rfl rfl rfl ?_
  generalize hX : H ++ [SO.cells [va, vf, vs] 27 false 0 [], .cells [.slice none 0 0, .slice none 0 0, .slice none 0 0] 27 false 0 []] = X
  have eX : Ext H X := by rw [← hX]; exact Ext.app H _
  have lX : X.length = H.length + 2 := by rw [← hX]; simp
  have b0 : X[H.length]? = some (.cells [va, vf, vs] 27 false 0 []) := by rw [← hX, app_get0]; rfl
  have b1 : X[H.length + 1]? = some (.cells [.slice none 0 0, .slice none 0 0, .slice none 0 0] 27 false 0 []) := by rw [← hX, app_get]; rfl
  have lb : loadS X (some 3) (.pointer (some ⟨H.length, 0, none⟩)) = some (.agg #[va, vf, vs]) := by rw [load_rdON, b0]; rfl
  have rt := refTree39 (hv.fr eX).bv hn hS hy hl
  generalize (refT S 1000).2 = T at *
  have nT := NewV.ofRes X 78 (trs_len T) (trs_sc T)
  have e1 := Ext.res X (trs T) T.length 78
  generalize resH X (trs T) T.length 78 = X1 at *
  generalize resV X T.length 3 = tv at *
  have le1 := e1.le
  have l1 : ∀ o, loadS X1 none (.pointer (some ⟨H.length, o, none⟩)) = [va, vf, vs][o]? := fun o => by rw [e1.load (by omega), load_rdO, b0]; rfl
  have oa := SL.old h1 (fun h => (ha h).elim)
  have of := SL.old h2 (fun h => (hf h).elim)
  obtain ⟨a1, a2, rfl⟩ := h1.shape
  obtain ⟨f1, f2, rfl⟩ := h2.shape
  obtain ⟨s1, s2, rfl⟩ := h3.shape
  obtain ⟨w1, w2, rfl⟩ := nT.shape
  have dO : ∀ d, dirty H.length X1.length false d = d := fun d => dirty_own (by omega)
  have J0 : JQ X1 X1.length (.slice a1 A.length a2) (.slice f1 F.length f2) (outQ T (S.take 0)) (X1 ++ [.cells [.slice a1 A.length a2, .slice f1 F.length f2, .slice none 0 0] 27 false 0 []]) := ⟨fun j hj => List.getElem?_append_left hj, by simp, ⟨.slice none 0 0, by rw [app_get0]; rfl, .inl ⟨rfl, rfl, rfl⟩⟩⟩
  have e01 := eX.trans e1
  unfold sf37
  repeat (first | apply Z1 | apply Z2 | apply Z3 | apply Z4 | apply Z5 rfl | apply Z6 | apply Z7 | apply Z8 | apply Z9 | apply ZA | apply ZB | apply ZC | ((first | apply ZD (by decide) | apply ZN (by decide)); (simp (maxSteps := 9999999) only [go_sem, argR, hX, lb, rt, l1, dO]; rfl)) | (refine ZE ?_ ?_; · simp only [go_sem]) | (refine ZF ?_ ?_; · simp only [go_sem]))
  refine run_loop (q_out _ (X := X1) (q := X1.length) (p := H.length) (vs := .slice s1 S.length s2) (tv := .slice w1 T.length w2) (T := T) (S := S) (z2 := .pointer (some ⟨H.length + 1, 0, none⟩)) (by show H.length ≤ X1.length; omega) (by omega) (by rw [e1.fr _ (by omega)]; exact b0) (fun h' k => ⟨(h3.fr e01.fr).fr k, SL.fr nT.sl k⟩) (by omega) hl (fun i => by
   have := outQ_len T (S.take i)
   have h2 : (S.take i).length ≤ 20 := by rw [List.length_take]; omega
   have := Nat.mul_le_mul h2 hT
   omega) S.length _ _ _ _ ⟨0, by omega, J0, by simp only [go_sem], by simp only [go_sem], by simp only [go_sem], by simp only [go_sem], by simp only [go_sem], rfl, rfl⟩) ?_
  rintro ex ρ2 ms2 h4 d2 ⟨rfl, rfl, rfl, J, r2, r4⟩
  obtain ⟨qv, hq, Aq⟩ := J.c
  have le4 := J.le
  obtain ⟨y1, y2, rfl⟩ := Aq.shp
  have b4 : h4[H.length + 1]? = some (.cells [.slice none 0 0, .slice none 0 0, .slice none 0 0] 27 false 0 []) := by rw [J.fr _ (by omega), e1.fr _ (by omega)]; exact b1
  have l4 : loadS h4 (some 3) (.pointer (some ⟨X1.length, 0, none⟩)) = some (.agg #[.slice a1 A.length a2, .slice f1 F.length f2, .slice y1 (outQ T S).length y2]) := by rw [load_rdON, hq]; rfl
  have st : ∀ d, storeS H.length h4 d (H.length + 1) 0 (cellsL (.agg #[.slice a1 A.length a2, .slice f1 F.length f2, .slice y1 (outQ T S).length y2])) = _ := fun d => store_at (base := H.length) (vs := [.slice a1 A.length a2, .slice f1 F.length f2, .slice y1 (outQ T S).length y2]) b4 rfl (by simp) rfl (fun h => by cases h) d
  have dO2 : ∀ d, dirty H.length (H.length + 1) false d = d := fun d => dirty_own (by omega)
  simp only [dO2] at st
  have fr5 : ∀ (Z : SO) (j : Nat), j ≠ H.length + 1 → (h4.set (H.length + 1) Z)[j]? = h4[j]? := fun Z j hj => List.getElem?_set_ne (fun e => hj e.symm)
  have ld : loadS (h4.set (H.length + 1) (.cells [.slice a1 A.length a2, .slice f1 F.length f2, .slice y1 (outQ T S).length y2] 27 false 0 [])) (some 3) (.pointer (some ⟨H.length + 1, 0, none⟩)) = some (.agg #[.slice a1 A.length a2, .slice f1 F.length f2, .slice y1 (outQ T S).length y2]) := by
   rw [load_rdON, List.getElem?_set_self (by omega)]; rfl
  have e5 : ∀ Z, Ext H (h4.set (H.length + 1) Z) := fun Z => ⟨by rw [List.length_set]; omega, fun j hj => by rw [fr5 _ j (by omega), J.fr j (by omega), e01.fr j hj]⟩
  have nq : NewV (X1.length + 1) h4 (.slice y1 (outQ T S).length y2) (trs (outQ T S)) (outQ T S).length 3 := by
   rcases Aq with ⟨q1, q2, q3⟩ | ⟨b, old, q1, q2, q3, q4, q5, _⟩
   ·exact .inl ⟨q1, q2, q3⟩
   ·exact .inr ⟨b, 78, old, q1, q2, q3, q5, q4⟩
  have ex5 := fun Z => e5 Z
  obtain ⟨va', vf', vs', h', g1, g2, g3, g4, g5, g6⟩ := gc_k3 (e5 (.cells [.slice a1 A.length a2, .slice f1 F.length f2, .slice y1 (outQ T S).length y2] 27 false 0 []))
   (.inr ⟨oa, h1.fr (e5 _).fr⟩) (.inr ⟨of, h2.fr (e5 _).fr⟩) (.inl ((nq.fr (fun b hb _ => fr5 _ b (by omega))).mono (base' := H.length) (by omega)))
  repeat (first | apply Z1 | apply Z2 | apply Z3 | apply Z4 | apply Z5 rfl | apply Z6 | apply Z7 | apply Z8 | apply Z9 | apply ZA | apply ZB | apply ZC | ((first | apply ZD (by decide) | apply ZN (by decide)); (simp (maxSteps := 9999999) only [go_sem, r2, r4, ↓l4, ↓st]; rfl)) | (refine ZE ?_ ?_; · simp only [go_sem]) | (refine ZF ?_ ?_; · simp only [go_sem]))
  exact end_nil ⟨_, ⟨_, _, rfl, g2, va', vf', vs', rfl, g3, g4, g5⟩, q_gc [.agg #[.slice a1 A.length a2, .slice f1 F.length f2, .slice y1 (outQ T S).length y2]] (by simp only [go_sem, r2, ↓ld]) rfl g1 rfl⟩
 obtain ⟨r, ⟨v', H', rfl, k⟩, e⟩ := key
 exact ⟨v', H', e, k⟩
end
end Go.Proofs.Ytioijehbmgmgkaa.Sh
namespace Go.Proofs.Ytioijehbmgmgkaa.Sh
section
open Go
set_option maxRecDepth 100000
set_option maxHeartbeats 4000000
theorem lessT_irr (x : T3) : ¬ lessT x x := by unfold lessT; omega
theorem lessT_tot {x y : T3} (h : ¬ lessT y x) (hne : x ≠ y) : lessT x y := by
 have : ¬ (x.1 = y.1 ∧ x.2.1 = y.2.1 ∧ x.2.2 = y.2.2) := fun e => hne (t3_eq.2 e)
 unfold lessT at *
 omega
theorem sorted_ext : ∀ {l l' : List T3}, l.Pairwise lessT → l'.Pairwise lessT → (∀ x, x ∈ l ↔ x ∈ l') → l = l'
 | [], [], _, _, _ => rfl
 | [], b :: l', _, _, h => by have := (h b).2 (by simp); cases this
 | a :: l, [], _, _, h => by have := (h a).1 (by simp); cases this
 | a :: l, b :: l', h1, h2, h => by
  rw [List.pairwise_cons] at h1 h2
  have hab : a = b := by
   have k1 := (h a).1 (by simp)
   have k2 := (h b).2 (by simp)
   rcases List.mem_cons.1 k1 with k1 | k1
   ·exact k1
   ·rcases List.mem_cons.1 k2 with k2 | k2
    ·exact k2.symm
    ·exact (lessT_irr a ((h1.1 b k2).trans (h2.1 a k1))).elim
  subst hab
  congr 1
  refine sorted_ext h1.2 h2.2 (fun x => ?_)
  constructor
  ·intro hx
   rcases List.mem_cons.1 ((h x).1 (List.mem_cons_of_mem _ hx)) with e | e
   ·subst e; exact (lessT_irr x (h1.1 x hx)).elim
   ·exact e
  ·intro hx
   rcases List.mem_cons.1 ((h x).2 (List.mem_cons_of_mem _ hx)) with e | e
   ·subst e; exact (lessT_irr x (h2.1 x hx)).elim
   ·exact e
theorem treeF_sub (L : List T3) : (treeF L).2.Sublist L := by
 have : ∀ (l : List T3) (a : (Nat → Nat) × List T3) (p : List T3), a.2.Sublist p → (l.foldl stepT a).2.Sublist (p ++ l) := by
  intro l
  induction l with
  | nil => intro a p h; simpa using h
  | cons s l ih =>
   intro a p h
   have := ih (stepT a s) (p ++ [s]) (by
    unfold stepT
    dsimp only
    split
    ·exact h.append (List.Sublist.refl _)
    ·exact h.trans (List.sublist_append_left p [s]))
   rw [List.append_assoc] at this
   exact this
 exact this L _ [] (List.Sublist.refl _)
theorem lex_nodup {S : List T3} (h : S.Pairwise lessT) : S.Nodup := h.imp (fun {a b} h e => by subst e; exact lessT_irr a h)
theorem rowQ_one {T : List T3} (h : T.Nodup) (s : T3) : rowQ T s = if s ∈ T then [s] else [] := by
 induction T with
 | nil => rfl
 | cons t T ih =>
  rw [List.nodup_cons] at h
  have ih := ih h.2
  unfold rowQ at *
  by_cases c : t = s
  ·subst c
   rw [List.filter_cons_of_pos (by simp), ih, if_neg h.1, if_pos (by simp)]
  ·rw [List.filter_cons_of_neg (by simpa using c), ih]
   by_cases c2 : s ∈ T
   ·rw [if_pos c2, if_pos (List.mem_cons_of_mem _ c2)]
   ·rw [if_neg c2, if_neg (fun h => by rcases List.mem_cons.1 h with e | e; exact c e.symm; exact c2 e)]
theorem outQ_eq {S T Q : List T3} (hS : S.Pairwise lessT) (hT : T.Nodup) (hTS : ∀ x ∈ T, x ∈ S) (hQ : Q.Perm T) (hQo : ∀ i j, i < j → j < Q.length → ¬ lessT (gT Q j) (gT Q i)) : outQ T S = Q := by
 have hf : outQ T S = S.filter fun s => decide (s ∈ T) := by
  unfold outQ
  clear hS hTS
  induction S with
  | nil => rfl
  | cons s S ih =>
   rw [List.flatMap_cons, ih, rowQ_one hT]
   by_cases c : s ∈ T
   ·rw [if_pos c, List.filter_cons_of_pos (by simpa using c)]; rfl
   ·rw [if_neg c, List.filter_cons_of_neg (by simpa using c)]; rfl
 rw [hf]
 refine sorted_ext (hS.filter _) ?_ (fun x => ?_)
 ·have hn : Q.Nodup := hQ.nodup_iff.2 hT
  rw [List.pairwise_iff_getElem]
  intro i j hi hj hij
  have := hQo i j hij hj
  rw [← gT_at hi, ← gT_at hj] at this
  exact lessT_tot this (fun e => (List.pairwise_iff_getElem.1 hn) i j hi hj hij e)
 ·rw [List.mem_filter]
  constructor
  ·rintro ⟨_, h⟩
   exact hQ.mem_iff.2 (by simpa using h)
  ·intro h
   have := hQ.mem_iff.1 h
   exact ⟨hTS x this, by simpa using this⟩
theorem law9M {H : SHeap} {v : Value} {A0 F0 : List Int} {S0 : List T3} (hv : BV H v A0 F0 S0) (hl1 : A0.length ≤ 9223372036854775807) (hl2 : F0.length ≤ 9223372036854775807) (hl3 : S0.length ≤ 9223372036854775807) :
  M.call 9 [v] H = some (.bool true, H, []) := by
 have hv0 := hv
 obtain ⟨a0, f0, s0, rfl, h1, h2, h3⟩ := hv0
 refine call_run sf9 rfl rfl rfl ?_
 generalize hX0 : H ++ [SO.cells [a0, f0, s0] 25 false 0 []] = X0
 have eX0 : Ext H X0 := by rw [← hX0]; exact Ext.app H _
 have lb0 : loadS X0 (some 3) (.pointer (some ⟨H.length, 0, none⟩)) = some (.agg #[a0, f0, s0]) := by rw [← hX0, load_appN0]; rfl
 obtain ⟨A, F, S, v1, H1, c16, hc, e1, hb1⟩ := tame16 (hv.fr eX0) hl1 hl2 hl3
 have n1 := hc.n1
 have n8 := hc.n8
 have nf := hc.fl
 have s20 := hc.s20
 obtain ⟨va, vf, vs, rfl, i1, i2, i3, i4⟩ := id hb1
 generalize hX1 : H1 ++ [SO.cells [va, vf, vs] 27 false 0 []] = X1
 have eX1 : Ext H1 X1 := by rw [← hX1]; exact Ext.app H1 _
 have lX1 : X1.length = H1.length + 1 := by rw [← hX1]; simp
 have b3 : X1[H1.length]? = some (.cells [va, vf, vs] 27 false 0 []) := by rw [← hX1, app_get0]; rfl
 obtain ⟨v2, H2, c17, e2, hb2⟩ := given17 (hb1.fr eX1).bv (by omega) (by omega) (by omega)
 obtain ⟨L, R, c35⟩ := pTree35 hb2 hc
 have hlen : (treeF L).2.length ≤ 20 := by have := treeF_len L; have := R.perm.length_eq; omega
 have rtree := ref_tree R hc.hd hc.sb
 have nT := NewV.ofRes H2 78 (trs_len (treeF L).2) (trs_sc _)
 have e3 := Ext.res H2 (trs (treeF L).2) (treeF L).2.length 78
 generalize hT : (treeF L).2 = T at *
 generalize resH H2 (trs T) T.length 78 = X3 at *
 generalize resV H2 T.length 3 = tv at *
 have e13 := e2.trans e3
 have lb3 : ∀ {h : SHeap}, Ext X1 h → loadS h (some 3) (.pointer (some ⟨H1.length, 0, none⟩)) = some (.agg #[va, vf, vs]) := fun {h} e => by rw [e.load (by omega), load_rdON, b3]; rfl
 have lb3a := lb3 (Ext.rfl' X1)
 have lb3b := lb3 e13
 obtain ⟨v4, H4, c17b, e4, hb4⟩ := given17 (hb1.fr (eX1.trans e13)).bv (by omega) (by omega) (by omega)
 obtain ⟨L', Q, v5, H5, R', c36, hQp, hQo, e5, hb5⟩ := pPruned36 hb4 hc
 have rtree' := ref_tree R' hc.hd hc.sb
 rw [← rtree', rtree] at hQp
 obtain ⟨pa, pf, ps, rfl, p1, p2, p3, p4⟩ := id hb5
 generalize hX6 : H5 ++ [SO.cells [pa, pf, ps] 25 false 0 []] = X6
 have eX6 : Ext H5 X6 := by rw [← hX6]; exact Ext.app H5 _
 have lX6 : X6.length = H5.length + 1 := by rw [← hX6]; simp
 have b6 : X6[H5.length]? = some (.cells [pa, pf, ps] 25 false 0 []) := by rw [← hX6, app_get0]; rfl
 have e16 := ((e13.trans e4).trans e5).trans eX6
 have lb3c := lb3 e16
 have hy : ∀ s ∈ S, s.1 < A.length + 1 ∧ s.2.1 < A.length + 1 := fun s hs => by have := hc.nodes s hs; omega
 obtain ⟨v7, H7, c37, e7, hb7⟩ := refPruned37 (hb1.fr (eX1.trans e16)) (by omega) (by omega) n8 hc.sb hy s20 (by rw [rtree]; omega)
 have hTS : ∀ x ∈ T, x ∈ S := fun x hx => R.perm.mem_iff.1 ((hT ▸ treeF_sub L).subset hx)
 have hTn : T.Nodup := (hT ▸ treeF_sub L : T.Sublist L).nodup (R.perm.nodup_iff.2 (lex_nodup hc.lex))
 rw [rtree, outQ_eq hc.lex hTn hTS hQp hQo] at hb7
 obtain ⟨wa, wf, ws, rfl, w1, w2, w3⟩ := id hb7
 generalize hX8 : H7 ++ [SO.cells [wa, wf, ws] 27 false 0 []] = X8
 have eX8 : Ext H7 X8 := by rw [← hX8]; exact Ext.app H7 _
 have lX8 : X8.length = H7.length + 1 := by rw [← hX8]; simp
 have b8 : X8[H7.length]? = some (.cells [wa, wf, ws] 27 false 0 []) := by rw [← hX8, app_get0]; rfl
 have e18 := (e16.trans e7).trans eX8
 have lb3d := lb3 e18
 have c39 := refTree39 (hb1.fr (eX1.trans e18)).bv n8 hc.sb hy s20
 rw [rtree] at c39
 have nR := NewV.ofRes X8 78 (trs_len T) (trs_sc T)
 have e9 := Ext.res X8 (trs T) T.length 78
 generalize resH X8 (trs T) T.length 78 = X9 at *
 generalize resV X8 T.length 3 = rv at *
 have e39 : Ext X3 X9 := (((((e4.trans e5).trans eX6).trans e7).trans eX8).trans e9)
 have c38 := threes38 (SL.fr nT.sl e39.fr : ES X9 tv T) (nR.sl : ES X9 rv T) (by omega)
 rw [decide_eq_true rfl] at c38
 have e69 : Ext X6 X9 := (e7.trans eX8).trans e9
 have lb6 : ∀ o, loadS X9 none (.pointer (some ⟨H5.length, o, none⟩)) = [pa, pf, ps][o]? := fun o => by rw [e69.load (by omega), load_rdO, b6]; rfl
 have lb8 : ∀ o, loadS X9 none (.pointer (some ⟨H7.length, o, none⟩)) = [wa, wf, ws][o]? := fun o => by rw [e9.load (by omega), load_rdO, b8]; rfl
 have e59 := eX6.trans e69
 have e79 := eX8.trans e9
 have c30a := ints30 (p1.fr e59.fr) (w1.fr e79.fr) (by omega)
 have c30b := ints30 (p2.fr e59.fr) (w2.fr e79.fr) (by omega)
 have hQl := hQp.length_eq
 have c38b := threes38 (p3.fr e59.fr) (w3.fr e79.fr) (by omega)
 rw [decide_eq_true rfl] at c30a c30b c38b
 have tX : X9.take H.length = H := ((eX0.trans e1).trans (eX1.trans (e18.trans e9))).take
 have aw := awake_call X9
 have dO : ∀ d, dirty H.length H1.length false d = d := fun d => dirty_own (by have := eX0.le; have := e1.le; omega)
 have dO5 : ∀ d, dirty H.length H5.length false d = d := fun d => dirty_own (by have := eX0.le; have := e1.le; have := eX1.le; have := e13.le; have := e4.le; have := e5.le; omega)
 have dO7 : ∀ d, dirty H.length H7.length false d = d := fun d => dirty_own (by have := eX0.le; have := e1.le; have := eX1.le; have := e16.le; have := e7.le; omega)
 obtain ⟨q1, q2, rfl⟩ := h1.shape
 obtain ⟨q3, q4, rfl⟩ := h2.shape
 obtain ⟨q5, q6, rfl⟩ := h3.shape
 obtain ⟨q1, q2, rfl⟩ := i1.shape
 obtain ⟨q3, q4, rfl⟩ := i2.shape
 obtain ⟨q5, q6, rfl⟩ := i3.shape
 obtain ⟨q1, q2, rfl⟩ := p1.shape
 obtain ⟨q3, q4, rfl⟩ := p2.shape
 obtain ⟨q5, q6, rfl⟩ := p3.shape
 obtain ⟨q1, q2, rfl⟩ := w1.shape
 obtain ⟨q3, q4, rfl⟩ := w2.shape
 obtain ⟨q5, q6, rfl⟩ := w3.shape
 obtain ⟨q1, q2, rfl⟩ := nT.shape
 obtain ⟨q1, q2, rfl⟩ := nR.shape
 unfold sf9
 repeat (first | apply Z1 | apply Z2 | apply Z3 | apply Z4 | apply Z5 rfl | apply Z6 | apply Z7 | apply Z8 | apply Z9 | apply ZA | apply ZB | apply ZC | ((first | apply ZD (by decide) | apply ZN (by decide)); (simp (maxSteps := 9999999) only [go_sem, argR, hX0, lb0, c16, dO, hX1, lb3a, c17, c35, lb3b, c17b, c36, dO5, hX6, lb3c, c37, dO7, hX8, lb3d, c39, c38, lb6, lb8, c30a, c30b, c38b, aw]; rfl)) | (refine ZE ?_ ?_; · simp only [go_sem]) | (refine ZF ?_ ?_; · simp only [go_sem]))
 exact end_nil (q_ret1 _ (by simp only [go_sem]) rfl tX)
end
end Go.Proofs.Ytioijehbmgmgkaa.Sh
