/- The way back of the document (57). The walk. -/
import Derived.Test.YtpkhkghiidilcaaDoorH48
import Derived.Test.YtpkhkghiidilcaaDoorH46
set_option linter.all false
namespace Go.Proofs.YtpkhkghiidilcaaDoor.Sh
open Go
set_option maxRecDepth 100000
set_option maxHeartbeats 4000000
def nextU (adj : Nat → Nat → Bool) (far : Nat → Nat) (v : Nat) : Nat → Nat → Nat
  | 0, _ => v
  | m + 1, u => if adj u v = true ∧ far u + 1 = far v then u else nextU adj far v m (u + 1)
def backO (adj : Nat → Nat → Bool) (far : Nat → Nat) (n : Nat) (rd : Nat → Bool) : Nat → Nat → Option (List Nat)
  | 0, _ => none
  | k + 1, v => if rd v = true then some [] else match backO adj far n rd k (nextU adj far v n 0) with
    | none => none
    | some l => some (v :: l)
theorem nextU_lt {adj : Nat → Nat → Bool} {far : Nat → Nat} {v n : Nat} (hv : v < n) : ∀ m u, u + m ≤ n → nextU adj far v m u < n
  | 0, _, _ => hv
  | m + 1, u, h => by
    unfold nextU
    by_cases c : adj u v = true ∧ far u + 1 = far v
    · rw [if_pos c]; omega
    · rw [if_neg c]; exact nextU_lt hv m (u + 1) (by omega)
section
variable {H h : SHeap} {n goal : Nat} {E : List (Int × Int)} {ev : Value} {rd : Nat → Bool} {rb rc fb : Nat}
theorem back_in (cx : Cx) (hn : n ≤ 6) (hE : PS h ev E) (hlen : E.length ≤ 1000000) {v : Nat} (hv : v < n)
    (hf : ∀ u, u < n → farE n E goal u ≤ 6 ∧ loadS h none (.pointer (some ⟨fb, u, none⟩)) = some (.int .i64 (farE n E goal u : Nat))) {ρ0 : Reg} :
    ∀ k ρ ms h' d', (∃ u : Nat, u + k = n ∧ (∀ r, r < 13 → ρ r = ρ0 r) ∧ ρ 0 = .int .i64 n ∧ ρ 1 = ev ∧ ρ 3 = .int .i64 v ∧ ρ 11 = .slice (some ⟨fb, 0, none⟩) n n ∧ ρ 13 = .int .i64 u ∧ nextU (adjE E) (farE n E goal) v k u = nextU (adjE E) (farE n E goal) v n 0 ∧ ms = [] ∧ h' = h ∧ d' = []) →
    LoopW M cx 6 sf57L0 ρ ms h' d' (fun ex ρ' ms' h' d' => ex = .exit 2 ∧ ms' = [] ∧ h' = h ∧ d' = [] ∧ (∀ r, r < 13 → r ≠ 3 → ρ' r = ρ0 r) ∧ ρ' 3 = .int .i64 (nextU (adjE E) (farE n E goal) v n 0 : Nat)) := by
  refine loop_run _ ?_
  rintro k ρ ms h' d' ⟨u, hk, hreg, r0, r1, r3, r11, r13, hnx, rfl, rfl, rfl⟩
  obtain ⟨va, vc, eev, _⟩ := id hE
  unfold sf57L0
  by_cases c0 : k = 0
  · subst c0
    have e1 : ¬ ((u : Int) < n) := by omega
    rw [nextU] at hnx
    repeat (first | apply Z1 | apply Z2 | apply Z3 | apply Z4 | apply Z5 rfl | apply Z6 | apply Z7 | apply Z8 | apply Z9 | apply ZA | apply ZB | apply ZC | ((first | apply ZD (by decide) | apply ZN (by decide)); (simp (maxSteps := 9999999) only [go_sem, r0, r13, e1]; rfl)) | (refine ZE ?_ ?_; · simp only [go_sem]) | (refine ZF ?_ ?_; · simp only [go_sem]))
    exact end_nil ⟨rfl, rfl, rfl, rfl, fun r hr hr3 => by simp only [upd_get]; (repeat rw [if_neg (by omega)]); exact hreg r hr, by simp only [go_sem, r3]; rw [← hnx]⟩
  · obtain ⟨m, rfl⟩ : ∃ m, k = m + 1 := ⟨k - 1, by omega⟩
    have e1 : ((u : Int) < n) := by omega
    have hu : u < n := by omega
    have ew : IntKind.i64.wrap ((u : Int) + 1) = ((u + 1 : Nat) : Int) := by rw [wrap64 (by omega) (by omega)]; rfl
    have c66 := joined66 hE hlen u v
    have z1 : (0 : Int) ≤ u := by omega
    have z3 : (0 : Int) ≤ v := by omega
    have z4 : (v : Int) < n := by omega
    obtain ⟨f1, l1⟩ := hf u hu
    obtain ⟨f2, l2⟩ := hf v hv
    have ws : IntKind.i64.wrap ((farE n E goal v : Int) - 1) = (farE n E goal v : Int) - 1 := wrap64 (by omega) (by omega)
    generalize nextU (adjE E) (farE n E goal) v n 0 = N at *
    unfold nextU at hnx
    subst eev
    by_cases ca : adjE E u v = true
    · rw [ca] at c66
      by_cases cf : farE n E goal u + 1 = farE n E goal v
      · rw [if_pos ⟨ca, cf⟩] at hnx
        have eqf : ((farE n E goal u : Int) = (farE n E goal v : Int) - 1) = True := eq_true (by omega)
        repeat (first | apply Z1 | apply Z2 | apply Z3 | apply Z4 | apply Z5 rfl | apply Z6 | apply Z7 | apply Z8 | apply Z9 | apply ZA | apply ZB | apply ZC | ((first | apply ZD (by decide) | apply ZN (by decide)); (simp (maxSteps := 9999999) only [go_sem, r0, r1, r3, r11, r13, e1, c66, z1, z3, z4, l1, l2, ws, eqf, Int.toNat_natCast]; rfl)) | (refine ZE ?_ ?_; · simp only [go_sem]) | (refine ZF ?_ ?_; · simp only [go_sem]))
        exact end_nil ⟨rfl, rfl, rfl, rfl, fun r hr hr3 => by simp only [upd_get]; (repeat rw [if_neg (by omega)]); exact hreg r hr, by simp only [go_sem]; rw [← hnx]⟩
      · rw [if_neg (fun h => cf h.2)] at hnx
        have eqf : ((farE n E goal u : Int) = (farE n E goal v : Int) - 1) = False := eq_false (by omega)
        repeat (first | apply Z1 | apply Z2 | apply Z3 | apply Z4 | apply Z5 rfl | apply Z6 | apply Z7 | apply Z8 | apply Z9 | apply ZA | apply ZB | apply ZC | ((first | apply ZD (by decide) | apply ZN (by decide)); (simp (maxSteps := 9999999) only [go_sem, r0, r1, r3, r11, r13, e1, c66, z1, z3, z4, l1, l2, ws, eqf, ew, Int.toNat_natCast]; rfl)) | (refine ZE ?_ ?_; · simp only [go_sem]) | (refine ZF ?_ ?_; · simp only [go_sem]))
        exact end_nil ⟨m, by omega, u + 1, by omega, fun r hr => by simp only [upd_get]; (repeat rw [if_neg (by omega)]); exact hreg r hr, by simp only [go_sem, r0], by simp only [go_sem, r1], by simp only [go_sem, r3], by simp only [go_sem, r11], by simp only [go_sem, ew], hnx, rfl, rfl, rfl⟩
    · rw [Bool.not_eq_true _ ▸ ca |> fun h => (by simpa using ca : adjE E u v = false)] at c66
      rw [if_neg (fun h => ca h.1)] at hnx
      repeat (first | apply Z1 | apply Z2 | apply Z3 | apply Z4 | apply Z5 rfl | apply Z6 | apply Z7 | apply Z8 | apply Z9 | apply ZA | apply ZB | apply ZC | ((first | apply ZD (by decide) | apply ZN (by decide)); (simp (maxSteps := 9999999) only [go_sem, r0, r1, r3, r11, r13, e1, c66, ew]; rfl)) | (refine ZE ?_ ?_; · simp only [go_sem]) | (refine ZF ?_ ?_; · simp only [go_sem]))
      exact end_nil ⟨m, by omega, u + 1, by omega, fun r hr => by simp only [upd_get]; (repeat rw [if_neg (by omega)]); exact hreg r hr, by simp only [go_sem, r0], by simp only [go_sem, r1], by simp only [go_sem, r3], by simp only [go_sem, r11], by simp only [go_sem, ew], hnx, rfl, rfl, rfl⟩
theorem back_loop (cx : Cx) (hn : n ≤ 6) (hE : PS H ev E) (hlen : E.length ≤ 1000000) {H1 : SHeap} (hle : H.length < H1.length) (hfr : ∀ j, j < H.length → H1[j]? = H[j]?)
    (hf : ∀ u, u < n → farE n E goal u ≤ 6 ∧ loadS H1 none (.pointer (some ⟨H.length, u, none⟩)) = some (.int .i64 (farE n E goal u : Nat))) (hrb : rb < H.length) (hr : ∀ u, u < n → loadS H none (.pointer (some ⟨rb, u, none⟩)) = some (.bool (rd u))) {full : List Nat} (hful : full.length ≤ 1000) :
    ∀ k ρ ms h' d', (∃ (v : Nat) (l rest : List Nat) (ov : Value), v < n ∧ backO (adjE E) (farE n E goal) n rd k v = some rest ∧ full = l ++ rest ∧ AccS H1 h' ov (l.map nI) l.length 1 3 ∧ ρ 0 = .int .i64 n ∧ ρ 1 = ev ∧ ρ 3 = .int .i64 v ∧ ρ 4 = .slice (some ⟨rb, 0, none⟩) n rc ∧ ρ 11 = .slice (some ⟨H.length, 0, none⟩) n n ∧ ρ 12 = ov ∧ ms = [] ∧ d' = []) →
    LoopW M cx 6 sf57L1 ρ ms h' d' (fun ex ρ' ms' h' d' => ex = .exit 0 ∧ ms' = [] ∧ d' = [] ∧ ∃ ov, AccS H1 h' ov (full.map nI) full.length 1 3 ∧ ρ' 12 = ov) := by
  refine loop_run _ ?_
  rintro k ρ ms h d' ⟨v, l, rest, ov, hv, hb, hfl, A, r0, r1, r3, r4, r11, r12, rfl, rfl⟩
  unfold sf57L1
  cases k with
  | zero => rw [backO] at hb; cases hb
  | succ m =>
    have z1 : (0 : Int) ≤ v := by omega
    have z2 : (v : Int) < n := by omega
    have hAl := A.le
    have lr : loadS h none (.pointer (some ⟨rb, v, none⟩)) = some (.bool (rd v)) := by rw [load_same' (A.same rb (by omega)), load_same' (hfr rb hrb)]; exact hr v hv
    rw [backO] at hb
    by_cases cr : rd v = true
    · rw [if_pos cr] at hb
      injection hb with hb
      subst hb
      rw [List.append_nil] at hfl
      subst hfl
      rw [cr] at lr
      repeat (first | apply Z1 | apply Z2 | apply Z3 | apply Z4 | apply Z5 rfl | apply Z6 | apply Z7 | apply Z8 | apply Z9 | apply ZA | apply ZB | apply ZC | ((first | apply ZD (by decide) | apply ZN (by decide)); (simp (maxSteps := 9999999) only [go_sem, r3, r4, z1, z2, lr, Int.toNat_natCast]; rfl)) | (refine ZE ?_ ?_; · simp only [go_sem]) | (refine ZF ?_ ?_; · simp only [go_sem]))
      exact end_nil ⟨rfl, rfl, rfl, ov, A, by simp only [go_sem, r12]⟩
    · rw [if_neg cr] at hb
      cases hb2 : backO (adjE E) (farE n E goal) n rd m (nextU (adjE E) (farE n E goal) v n 0) with
      | none => rw [hb2] at hb; cases hb
      | some rest2 =>
        rw [hb2] at hb
        dsimp only at hb
        injection hb with hb
        subst hb
        rw [show rd v = false by simpa using cr] at lr
        have hll : l.length ≤ 1000 := by rw [hfl, List.length_append] at hful; omega
        obtain ⟨G, v2, ap, ⟨b, ev2⟩, A2, _⟩ := (A.app [SO.cells [.int .i64 (v : Nat)] 3 true 0 []]).push (bytes := 8) (new := [.int .i64 (v : Nat)]) (bs := h.length) (el2 := 3) (pf2 := true) (own2 := 0) (old2 := []) (by rw [app_get0]; rfl) rfl rfl (by decide) rfl (by decide) (by omega)
        have A3 : AccS H1 G v2 ((l ++ [v]).map nI) (l ++ [v]).length 1 3 := by
          have e : (l ++ [v]).length = l.length + 1 := by simp
          rw [List.map_append, e]; exact A2
        obtain ⟨oa, oc, eov⟩ := A.shape
        have hG := A3.same
        have hGl := A3.le
        have PG : PS G ev E := hE.fr (fun j hj => by rw [hG j (by omega)]; exact hfr j hj)
        repeat (first | apply Z1 | apply Z2 | apply Z3 | apply Z4 | apply Z5 rfl | apply Z6 | apply Z7 | apply Z8 | apply Z9 | apply ZA | apply ZB | apply ZC | ((first | apply ZD (by decide) | apply ZN (by decide)); (simp (maxSteps := 9999999) only [go_sem, r0, r1, r3, r4, r11, r12, z1, z2, lr, ↓ap, Int.toNat_natCast]; rfl)) | (refine ZE ?_ ?_; · simp only [go_sem]) | (refine ZF ?_ ?_; · simp only [go_sem]))
        refine run_loop (back_in (h := G) (fb := H.length) (v := v) (goal := goal) _ hn PG hlen hv (fun u hu => ⟨(hf u hu).1, by rw [load_same' (hG _ (by omega))]; exact (hf u hu).2⟩) n _ _ _ _ ⟨0, by omega, fun r _ => rfl, by simp only [go_sem, r0], by simp only [go_sem, r1], by simp only [go_sem, r3], by simp only [go_sem, r11], by simp only [go_sem] <;> rfl, rfl, rfl, rfl, rfl⟩) ?_
        rintro ex ρ2 ms2 h2 d2 ⟨rfl, rfl, rfl, rfl, K, t3⟩
        have a0 : ρ2 0 = .int .i64 n := (K 0 (by decide) (by decide)).trans (by simp only [go_sem, r0])
        have a1 : ρ2 1 = ev := (K 1 (by decide) (by decide)).trans (by simp only [go_sem, r1])
        have a4 : ρ2 4 = .slice (some ⟨rb, 0, none⟩) n rc := (K 4 (by decide) (by decide)).trans (by simp only [go_sem, r4])
        have a11 : ρ2 11 = .slice (some ⟨H.length, 0, none⟩) n n := (K 11 (by decide) (by decide)).trans (by simp only [go_sem, r11])
        have a12 : ρ2 12 = v2 := (K 12 (by decide) (by decide)).trans (by simp only [go_sem])
        repeat (first | apply Z1 | apply Z2 | apply Z3 | apply Z4 | apply Z5 rfl | apply Z6 | apply Z7 | apply Z8 | apply Z9 | apply ZA | apply ZB | apply ZC | ((first | apply ZD (by decide) | apply ZN (by decide)); (simp (maxSteps := 9999999) only [go_sem]; rfl)) | (refine ZE ?_ ?_; · simp only [go_sem]) | (refine ZF ?_ ?_; · simp only [go_sem]))
        exact end_nil ⟨m, by omega, nextU (adjE E) (farE n E goal) v n 0, l ++ [v], rest2, v2, nextU_lt hv n 0 (by omega), hb2, by rw [hfl]; simp, A3, by simp only [go_sem, a0], by simp only [go_sem, a1], by simp only [go_sem, t3], by simp only [go_sem, a4], by simp only [go_sem, a11], by simp only [go_sem, a12], rfl, rfl⟩
theorem back57 (hn : n ≤ 6) (hC : Conn n E) (hE : PS H ev E) (hlen : E.length ≤ 1000000) (hg : goal < n) {v : Nat} (hv : v < n) (hrb : rb < H.length) (hr : ∀ u, u < n → loadS H none (.pointer (some ⟨rb, u, none⟩)) = some (.bool (rd u))) {l : List Nat} (hl : l.length ≤ 1000) {K : Nat} (hb : backO (adjE E) (farE n E goal) n rd K v = some l) :
    M.call 57 [.int .i64 n, ev, .int .i64 goal, .int .i64 v, .slice (some ⟨rb, 0, none⟩) n rc] H = some (resV H l.length 1, resH H (l.map nI) l.length 3, []) := by
  refine call_run sf57 rfl rfl rfl ?_
  obtain ⟨va, vc, rfl, _⟩ := id hE
  have c40 := far40 hn hE hlen hg
  have hf : ∀ u, u < n → farE n E goal u ≤ 6 ∧ loadS (H ++ [.cells (iV n (farI n E goal)) 3 true 0 []]) none (.pointer (some ⟨H.length, u, none⟩)) = some (.int .i64 (farE n E goal u : Nat)) := fun u hu => by
    refine ⟨by have := far_lt hC hg hu; omega, ?_⟩
    rw [load_app0]
    show rdO (some (.cells (iV n (farI n E goal)) 3 true 0 [])) u = _
    rw [rdO_cells, iV_get _ hu, farI_conn hC hg hu]; rfl
  have hle : H.length < (H ++ [SO.cells (iV n (farI n E goal)) 3 true 0 []] : SHeap).length := by simp
  have hfr : ∀ j, j < H.length → (H ++ [SO.cells (iV n (farI n E goal)) 3 true 0 []] : SHeap)[j]? = H[j]? := fun j hj => List.getElem?_append_left hj
  have A0 := AccS.nil (H ++ [SO.cells (iV n (farI n E goal)) 3 true 0 []]) [] 1 3
  rw [List.append_nil] at A0
  unfold sf57
  repeat (first | apply Z1 | apply Z2 | apply Z3 | apply Z4 | apply Z5 rfl | apply Z6 | apply Z7 | apply Z8 | apply Z9 | apply ZA | apply ZB | apply ZC | ((first | apply ZD (by decide) | apply ZN (by decide)); (simp (maxSteps := 9999999) only [go_sem, argR, c40]; rfl)) | (refine ZE ?_ ?_; · simp only [go_sem]) | (refine ZF ?_ ?_; · simp only [go_sem]))
  generalize hH1 : (H ++ [SO.cells (iV n (farI n E goal)) 3 true 0 []] : SHeap) = H1 at *
  refine run_loop (back_loop (rc := rc) (full := l) _ hn hE hlen hle hfr hf hrb hr hl K _ _ _ _ ⟨v, [], l, _, hv, hb, rfl, A0, by simp only [go_sem, argR], by simp only [go_sem, argR], by simp only [go_sem, argR], by simp only [go_sem, argR], by simp only [go_sem], by simp only [go_sem], rfl, rfl⟩) ?_
  rintro ex ρ2 ms2 h2 d2 ⟨rfl, rfl, rfl, ov, A, t12⟩
  obtain ⟨oa, oc, eov⟩ := A.shape
  rw [← hH1] at A
  have gc := A.gc
  rw [eov] at t12 gc
  repeat (first | apply Z1 | apply Z2 | apply Z3 | apply Z4 | apply Z5 rfl | apply Z6 | apply Z7 | apply Z8 | apply Z9 | apply ZA | apply ZB | apply ZC | ((first | apply ZD (by decide) | apply ZN (by decide)); (simp (maxSteps := 9999999) only [go_sem, t12]; rfl)) | (refine ZE ?_ ?_; · simp only [go_sem]) | (refine ZF ?_ ?_; · simp only [go_sem]))
  exact end_nil (q_gc [.slice oa l.length oc] (by simp only [go_sem]) rfl gc rfl)
end
end Go.Proofs.YtpkhkghiidilcaaDoor.Sh

