/- The document's check of factors holds; GaussFactors: the law. -/
import Derived.Test.YtdmfhdnpakgkpaaDoorH47
set_option linter.all false
set_option maxRecDepth 100000
set_option maxHeartbeats 4000000
namespace Go.Proofs.YtdmfhdnpakgkpaaDoor.Sh
open Go
structure LS (H h : SHeap) (x u z : Int × Int) : Prop where
  fr : ∀ j, j < H.length → h[j]? = H[j]?
  x0 : h[H.length]? = some (bx x)
  u0 : h[H.length + 1]? = some (bx u)
  z0 : h[H.length + 2]? = some (bx z)
theorem LS.lt {H h : SHeap} {x u z : Int × Int} (S : LS H h x u z) : H.length + 2 < h.length := (List.getElem?_eq_some_iff.1 S.z0).1
theorem LS.app {H h : SHeap} {x u z : Int × Int} (S : LS H h x u z) (g : SHeap) : LS H (h ++ g) x u z := by
  have := S.lt
  have k : ∀ j, j < h.length → (h ++ g)[j]? = h[j]? := fun j hj => List.getElem?_append_left hj
  exact ⟨fun j hj => by rw [k j (by omega)]; exact S.fr j hj, by rw [k _ (by omega)]; exact S.x0, by rw [k _ (by omega)]; exact S.u0, by rw [k _ (by omega)]; exact S.z0⟩
theorem LS.set {H h : SHeap} {x u z : Int × Int} (S : LS H h x u z) (z' : Int × Int) : LS H (h.set (H.length + 2) (bx z')) x u z' := by
  have := S.lt
  have k : ∀ j, j ≠ H.length + 2 → (h.set (H.length + 2) (bx z'))[j]? = h[j]? := fun j hj => List.getElem?_set_ne (by omega)
  exact ⟨fun j hj => by rw [k j (by omega)]; exact S.fr j hj, by rw [k _ (by omega)]; exact S.x0, by rw [k _ (by omega)]; exact S.u0, by rw [List.getElem?_set_self (by omega)]⟩
theorem PS.fr {H h : SHeap} {v : Value} {L : List (Int × Int)} (k : PS H v L) (fr : ∀ j, j < H.length → h[j]? = H[j]?) : PS h v L := by
  obtain ⟨a, c, e, k⟩ := k
  refine ⟨a, c, e, fun hne => ?_⟩
  obtain ⟨b, o, ha, hp⟩ := k hne
  have e2 := fr b hp.lt
  obtain ⟨pre, post, el2, pf, own, old, h1, h2⟩ := hp
  exact ⟨b, o, ha, pre, post, el2, pf, own, old, by rw [e2]; exact h1, h2⟩
theorem factored_loop (cx : Cx) {H : SHeap} {va : Option Addr} {vc : Nat} {x u : Int × Int} {L : List (Int × Int)} (hv : PS H (.slice va L.length vc) L) (hF : Fac x u L) (hs : sortedF L) (hx : Bd 30000 x) (h0 : x ≠ (0, 0)) (hlen : L.length ≤ 1000) :
    ∀ k ρ ms h' d', (∃ (i : Nat), i + k = L.length ∧ ρ 2 = .slice va L.length vc ∧ ρ 4 = .pointer (some ⟨H.length + 1, 0, none⟩) ∧ ρ 7 = .pointer (some ⟨H.length + 2, 0, none⟩) ∧ ρ 8 = .int .i64 i ∧ LS H h' x u (mulP (prodL (L.drop i)) u) ∧ ms = [] ∧ d' = []) →
    LoopW M cx 7 sf47L0 ρ ms h' d' (fun ex ρ' ms' h' d' => ex = .exit 0 ∧ ms' = [] ∧ d' = [] ∧ ρ' 4 = .pointer (some ⟨H.length + 1, 0, none⟩) ∧ ρ' 7 = .pointer (some ⟨H.length + 2, 0, none⟩) ∧ LS H h' x u u) := by
  refine loop_run _ ?_
  rintro k ρ ms h' d' ⟨i, hk, r2, r4, r7, r8, S, rfl, rfl⟩
  unfold sf47L0
  by_cases c : k = 0
  · have e1 : ¬ ((i : Int) < L.length) := by omega
    repeat (first | apply Z1 | apply Z2 | apply Z3 | apply Z4 | apply Z5 rfl | apply Z6 | apply Z7 | apply Z8 | apply Z9 | apply ZA | apply ZB | apply ZC | ((first | apply ZD (by decide) | apply ZN (by decide)); (simp (maxSteps := 9999999) only [go_sem, r2, r8, e1]; rfl)) | (refine ZE ?_ ?_; · simp only [go_sem]) | (refine ZF ?_ ?_; · simp only [go_sem]))
    rw [List.drop_eq_nil_of_le (by omega)] at S
    rw [show mulP (prodL []) u = u from one_mul u] at S
    exact end_nil ⟨rfl, rfl, rfl, by simp only [go_sem, r4], by simp only [go_sem, r7], S⟩
  · have e1 : ((i : Int) < L.length) := by omega
    have e2 : (0 : Int) ≤ i := by omega
    have hil : i < L.length := by omega
    have ew : IntKind.i64.wrap ((i : Int) + 1) = ((i + 1 : Nat) : Int) := by rw [wrap64 (by omega) (by omega)]; rfl
    have hmem : L[i] ∈ L := List.getElem_mem hil
    have hpb := fac_bd hF hx h0 hmem
    obtain ⟨hpF, hpP⟩ := hF.isP _ hmem
    have hd : L.drop i = L[i] :: L.drop (i + 1) := drop_cons L i hil
    have hz : mulP (prodL (L.drop i)) u = mulP (mulP (prodL (L.drop (i + 1))) u) L[i] := by
      rw [hd]
      show mulP (mulP L[i] (prodL (L.drop (i + 1)))) u = _
      rw [mul_assoc', mul_comm']
    have hzn : nrm (mulP (prodL (L.drop i)) u) ≤ 1800000000 := by
      have h1 : nrm x = nrm (prodL (L.take i)) * nrm (mulP (prodL (L.drop i)) u) := by
        have : prodL L = mulP (prodL (L.take i)) (prodL (L.drop i)) := by rw [← prodL_app, List.take_append_drop]
        rw [hF.eq, this, mul_assoc', nrm_mul]
      have h2 := nrm_le hx
      have h3 : 1 ≤ nrm (prodL (L.take i)) := by
        have := nrm_prodL (l := L.take i) (fun q hq => hF.two q (List.mem_of_mem_take hq))
        have : 1 ≤ 2 ^ (L.take i).length := Nat.one_le_two_pow
        omega
      have h4 := Int.mul_le_mul_of_nonneg_right h3 (nrm_nonneg (mulP (prodL (L.drop i)) u))
      omega
    have hzb := bd_of_nrm hzn
    have hP := hv.fr S.fr
    obtain ⟨a, cu, e, kp⟩ := hP
    cases e
    obtain ⟨b, o, rfl, hp⟩ := kp (by intro e; rw [e] at hil; simp at hil)
    have lp : ∀ g, loadS (h' ++ g) (some 2) (.pointer (some ⟨b, o + i * 2, none⟩)) = some (.agg #[.int .i64 L[i].1, .int .i64 L[i].2]) := fun g => (hp.app g).loadN hil
    have lp0 := lp []
    rw [List.append_nil] at lp0
    have hprev : 0 < i → ∀ g, loadS (h' ++ g) (some 2) (.pointer (some ⟨b, o + (i - 1) * 2, none⟩)) = some (.agg #[.int .i64 (L[i - 1]'(by omega)).1, .int .i64 (L[i - 1]'(by omega)).2]) := fun hi g => (hp.app g).loadN (show i - 1 < L.length by omega)
    have hord : ∀ (hi : 0 < i), ¬ cF (faP L[i]) (faP (L[i - 1]'(by omega))) < 0 := fun hi => List.pairwise_iff_getElem.1 hs (i - 1) i (by omega) hil (by omega)
    have hprevb : ∀ (hi : 0 < i), Bd 30000 (L[i - 1]'(by omega)) := fun hi => fac_bd hF hx h0 (List.getElem_mem _)
    have lz := fun g => load_bn S.z0 rfl g
    have S1 := S.set (mulP (prodL (L.drop (i + 1))) u)
    have hp0 := isF_ne hpF
    have q1 := quo_exact (k := mulP (prodL (L.drop (i + 1))) u) hp0
    have q2 := rest_exact (x := mulP (mulP (prodL (L.drop (i + 1))) u) L[i]) hp0 ⟨_, rfl⟩
    rw [hz] at hzb lz
    have c44 := fun h => quoR44 hzb hpb (by decide) (by decide) (by decide) hp0 h
    rw [q1, q2] at c44
    have c43 := fun h => firstR43 (hpb.mono (show (30000 : Int) ≤ 1000000000 by decide)) h
    rw [firP_yes hpF] at c43
    have c26 := fun h => validR26 L[i] h
    rw [decide_eq_true hpb] at c26
    have c46 := fun h => primeRx46 hpb hp0 h
    rw [hpP] at c46
    have hlt := S.lt
    generalize mulP (mulP (prodL (L.drop (i + 1))) u) L[i] = z at *
    generalize hz' : mulP (prodL (L.drop (i + 1))) u = z' at *
    have c77 := fun (hi : 0 < i) h => before77 hpb (hprevb hi) (by decide) h
    have st : ∀ base g, storeS base (h' ++ g) [] (H.length + 2) 0 (cellsL (.agg #[.int .i64 z'.1, .int .i64 z'.2])) = some (h'.set (H.length + 2) (bx z') ++ g, []) := fun base g => by
      have := store_at (h := h' ++ g) (base := base) (cs := [.int .i64 (mulP (prodL (L.drop i)) u).1, .int .i64 (mulP (prodL (L.drop i)) u).2]) (vs := [.int .i64 z'.1, .int .i64 z'.2]) (by rw [List.getElem?_append_left (by omega)]; exact S.z0) rfl (Nat.zero_lt_succ _) rfl (fun _ => rfl) [] rfl
      rw [List.set_append_left _ _ (by omega)] at this
      exact this
    generalize hpg : L[i] = p at *
    by_cases hi : 0 < i
    · have e3 : (0 : Int) < (i : Int) := by omega
      have e4 : (0 : Int) ≤ ((i - 1 : Nat) : Int) := by omega
      have e5 : ((i - 1 : Nat) : Int) < L.length := by omega
      have ez : IntKind.i64.wrap ((i : Int) - 1) = ((i - 1 : Nat) : Int) := by rw [wrap64 (by omega) (by omega)]; omega
      have lq := hprev hi
      have c77 := c77 hi
      rw [decide_eq_false (hord hi)] at c77
      clear hprev hord hprevb
      generalize L[i - 1]'(by omega) = q at *
      repeat (first | apply Z1 | apply Z2 | apply Z3 | apply Z4 | apply Z5 rfl | apply Z6 | apply Z7 | apply Z8 | apply Z9 | apply ZA | apply ZB | apply ZC | ((first | apply ZD (by decide) | apply ZN (by decide)); (simp (maxSteps := 9999999) only [go_sem, r2, r7, r8, e1, e2, e3, e4, e5, ez, lp0, lp, lq, lz, c43, c26, c46, c77, c44, ↓st, ew, Int.toNat_natCast, Nat.add_assoc]; rfl)) | (refine ZE ?_ ?_; · simp only [go_sem]) | (refine ZF ?_ ?_; · simp only [go_sem]))
      exact end_nil ⟨k - 1, by omega, i + 1, by omega, by simp only [go_sem, r2], by simp only [go_sem, r4], by simp only [go_sem, r7], by simp only [go_sem, ew], by rw [hz']; exact S1.app _, rfl, rfl⟩
    · have e3 : ¬ ((0 : Int) < (i : Int)) := by omega
      clear hprev hord hprevb c77
      repeat (first | apply Z1 | apply Z2 | apply Z3 | apply Z4 | apply Z5 rfl | apply Z6 | apply Z7 | apply Z8 | apply Z9 | apply ZA | apply ZB | apply ZC | ((first | apply ZD (by decide) | apply ZN (by decide)); (simp (maxSteps := 9999999) only [go_sem, r2, r7, r8, e1, e2, e3, lp0, lp, lz, c43, c26, c46, c44, ↓st, ew, Int.toNat_natCast, Nat.add_assoc]; rfl)) | (refine ZE ?_ ?_; · simp only [go_sem]) | (refine ZF ?_ ?_; · simp only [go_sem]))
      exact end_nil ⟨k - 1, by omega, i + 1, by omega, by simp only [go_sem, r2], by simp only [go_sem, r4], by simp only [go_sem, r7], by simp only [go_sem, ew], by rw [hz']; exact S1.app _, rfl, rfl⟩
theorem factored47 {h : SHeap} {v : Value} {x u : Int × Int} {L : List (Int × Int)} (hv : PS h v L) (hF : Fac x u L) (hs : sortedF L) (hx : Bd 30000 x) (h0 : x ≠ (0, 0)) : M.call 47 [agV x, agV u, v] h = some (.bool true, h, []) := by
  have hlen : L.length ≤ 40 := by
    have h1 := hF.le
    have h2 := nrm_le hx
    by_cases c : L.length ≤ 40
    · exact c
    · exfalso
      have : 2 ^ 31 ≤ 2 ^ L.length := Nat.pow_le_pow_right (by decide) (by omega)
      omega
  have hub : Bd 1 u := part_bd (by decide) (by rw [hF.unit]; decide)
  have c27 := fun h => normR27 hub (by decide) h
  rw [hF.unit] at c27
  have hv' := hv
  obtain ⟨va, vc, rfl, kp⟩ := hv
  have e1 : ¬ ((40 : Int) < L.length) := by omega
  refine call_run sf47 rfl rfl rfl ?_
  unfold sf47
  repeat (first | apply Z1 | apply Z2 | apply Z3 | apply Z4 | apply Z5 rfl | apply Z6 | apply Z7 | apply Z8 | apply Z9 | apply ZA | apply ZB | apply ZC | ((first | apply ZD (by decide) | apply ZN (by decide)); (simp (maxSteps := 9999999) only [go_sem, argR, c27, e1]; rfl)) | (refine ZE ?_ ?_; · simp only [go_sem]) | (refine ZF ?_ ?_; · simp only [go_sem]))
  have S0 : LS h (h ++ [bx x, bx u, bx x]) x u (mulP (prodL (L.drop 0)) u) := by
    rw [List.drop_zero, ← hF.eq]
    exact ⟨fun j hj => List.getElem?_append_left hj, by rw [app_get0]; rfl, by rw [app_get]; rfl, by rw [app_get]; rfl⟩
  refine run_loop (factored_loop _ hv' hF hs hx h0 (by omega) L.length _ _ _ _ ⟨0, by omega, by simp only [go_sem, argR], by simp only [go_sem], by simp only [go_sem], by simp only [go_sem], by exact S0, rfl, rfl⟩) ?_
  rintro ex ρ' ms' h1 d1 ⟨rfl, rfl, rfl, k4, k7, S⟩
  have l1 := load_bn S.u0 rfl []
  have l2 := load_bn S.z0 rfl []
  rw [List.append_nil] at l1 l2
  repeat (first | apply Z1 | apply Z2 | apply Z3 | apply Z4 | apply Z5 rfl | apply Z6 | apply Z7 | apply Z8 | apply Z9 | apply ZA | apply ZB | apply ZC | ((first | apply ZD (by decide) | apply ZN (by decide)); (simp (maxSteps := 9999999) only [go_sem, k4, k7, l1, l2]; rfl)) | (refine ZE ?_ ?_; · simp only [go_sem]) | (refine ZF ?_ ?_; · simp only [go_sem]))
  exact end_nil (q_ret1 _ (by simp only [go_sem]) rfl (take_of_same (by have := S.lt; omega) S.fr))
end Go.Proofs.YtdmfhdnpakgkpaaDoor.Sh

set_option maxRecDepth 100000
set_option maxHeartbeats 4000000
namespace Go.Proofs.YtdmfhdnpakgkpaaDoor.Sh
open Go
theorem law10 (x0 : Int × Int) (z : Int) (h : SHeap) : M.call 10 [agV x0, .int .i64 z] h = some (.bool true, h, []) := by
  obtain ⟨q1, q2⟩ := u64_mod' z 30000 (by decide)
  generalize hq : (IntKind.u64.wrap z).tmod 30000 = q at *
  have w1 : IntKind.i64.wrap q = q := wrap64 (by omega) (by omega)
  have w2 : IntKind.i64.wrap (1 + q) = 1 + q := wrap64 (by omega) (by omega)
  have tx := fun h => tame29 x0 (m := 1 + q) (by omega) (by omega) h
  have hx := (tame_bd x0 (m := 1 + q) (by omega)).mono (show 1 + q ≤ 30000 by omega)
  generalize tameP x0 (1 + q) = x at *
  have c45 := fun h => prime45 hx h
  refine call_run sf10 rfl rfl rfl ?_
  unfold sf10
  by_cases h0 : x = (0, 0)
  · subst h0
    have c36 := fun h => factor36_0 h
    have c46 := fun h => primeRx46_0 h
    generalize primeP (0, 0) = b at *
    have hb : (b == b) = true := by cases b <;> rfl
    repeat (first | apply Z1 | apply Z2 | apply Z3 | apply Z4 | apply Z5 rfl | apply Z6 | apply Z7 | apply Z8 | apply Z9 | apply ZA | apply ZB | apply ZC | ((first | apply ZD (by decide) | apply ZN (by decide)); (simp (maxSteps := 9999999) only [go_sem, argR, hq, w1, w2, tx, c45, c36, c46, hb, awake_call]; rfl)) | (refine ZE ?_ ?_; · simp only [go_sem]) | (refine ZF ?_ ?_; · simp only [go_sem]))
    exact end_nil (q_ret1 _ (by simp only [go_sem]) rfl (take_app _ _))
  · have e0 : (x = (0, 0)) = False := eq_false h0
    obtain ⟨u, L, hF, hs, c36⟩ := factor36 hx h0 (h ++ [bx x])
    have c46 := fun h => primeRx46 hx h0 h
    have hpl := fac_prime hF
    have hP : PS (resH (h ++ [bx x]) (prs L) L.length 34) (resV (h ++ [bx x]) L.length 2) L := by
      have := PS.ofRes (h ++ [bx x]) [] L 34
      rwa [List.append_nil] at this
    obtain ⟨g, hg⟩ := resH_pre (h ++ [bx x]) (prs L) L.length 34
    rw [hg] at c36 hP
    have c47 := factored47 (hP.app [bx u]) hF hs hx h0
    have lx : ∀ g2, loadS (h ++ bx x :: (g ++ g2)) (some 2) (.pointer (some ⟨h.length, 0, none⟩)) = some (.agg #[.int .i64 x.1, .int .i64 x.2]) := fun g2 => by rw [load_appN0]; rfl
    simp only [List.append_assoc, List.cons_append, List.nil_append] at c36 c47 hP
    obtain ⟨va, vc, hv, _⟩ := hP
    rw [hv] at c36 c47
    generalize primeP x = b at *
    have hb : (b == b) = true := by cases b <;> rfl
    have hlen : L.length ≤ 1000 := by
      have h1 := hF.le
      have h2 := nrm_le hx
      by_cases c : L.length ≤ 1000
      · exact c
      · exfalso
        have : 2 ^ 31 ≤ 2 ^ L.length := Nat.pow_le_pow_right (by decide) (by omega)
        omega
    by_cases hl : L.length = 1
    · rw [hl] at hpl
      have hl' : (((L.length : Nat) : Int) = 1) = True := eq_true (by omega)
      have hbt : b = true := by rw [hpl]; rfl
      subst hbt
      repeat (first | apply Z1 | apply Z2 | apply Z3 | apply Z4 | apply Z5 rfl | apply Z6 | apply Z7 | apply Z8 | apply Z9 | apply ZA | apply ZB | apply ZC | ((first | apply ZD (by decide) | apply ZN (by decide)); (simp (maxSteps := 9999999) only [go_sem, argR, hq, w1, w2, tx, c45, e0, c36, c46, c47, lx, hl', awake_call, List.append_assoc, List.singleton_append]; rfl)) | (refine ZE ?_ ?_; · simp only [go_sem]) | (refine ZF ?_ ?_; · simp only [go_sem]))
      exact end_nil (q_ret1 _ (by simp only [go_sem]) rfl (take_app _ _))
    · rw [decide_eq_false hl] at hpl
      have hl' : (((L.length : Nat) : Int) = 1) = False := eq_false (by omega)
      subst hpl
      repeat (first | apply Z1 | apply Z2 | apply Z3 | apply Z4 | apply Z5 rfl | apply Z6 | apply Z7 | apply Z8 | apply Z9 | apply ZA | apply ZB | apply ZC | ((first | apply ZD (by decide) | apply ZN (by decide)); (simp (maxSteps := 9999999) only [go_sem, argR, hq, w1, w2, tx, c45, e0, c36, c46, c47, lx, hl', awake_call, List.append_assoc, List.singleton_append]; rfl)) | (refine ZE ?_ ?_; · simp only [go_sem]) | (refine ZF ?_ ?_; · simp only [go_sem]))
      exact end_nil (q_ret1 _ (by simp only [go_sem]) rfl (take_app _ _))
end Go.Proofs.YtdmfhdnpakgkpaaDoor.Sh

namespace Go.Proofs.YtdmfhdnpakgkpaaDoor.gaussFactors
open Go Go.RowKit
theorem walk (a0 b0 : Int) (a1 : Int) (W : World) (hg : Sh.GlobW Tryd.prog W) :
    Calls Tryd.prog 10 #[.agg #[.int .i64 a0, .int .i64 b0], .int .i64 a1] W (fun e W' => e = .returned (.bool true) ∧ Below W.heap.size W W') :=
  Sh.walk_of (Sh.law10 (a0, b0) a1 []) rfl rfl W hg
end Go.Proofs.YtdmfhdnpakgkpaaDoor.gaussFactors

