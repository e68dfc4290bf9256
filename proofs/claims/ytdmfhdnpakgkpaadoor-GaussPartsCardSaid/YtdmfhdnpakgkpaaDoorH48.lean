/- GaussParts: the law. -/
import Derived.Test.YtdmfhdnpakgkpaaDoorH47
set_option linter.all false
set_option maxRecDepth 100000
set_option maxHeartbeats 8000000
namespace Go.Proofs.YtdmfhdnpakgkpaaDoor.Sh
open Go
theorem parts_loop (cx : Cx) {H : SHeap} {v1 v2 v3 : Value} {L P Q : List (Int × Int)} (h1 : PS H v1 L) (h2 : PS H v2 P) (h3 : PS H v3 Q) (l1 : L.length ≤ 1000) (l2 : P.length ≤ 1000) (l3 : Q.length ≤ 1000) (hp : L.Perm (P ++ Q)) (b0 : Nat → Value) :
    ∀ k ρ ms h' d', (∃ i : Nat, i + k = L.length ∧ ρ 10 = v1 ∧ ρ 13 = v2 ∧ ρ 16 = v3 ∧ ρ 18 = .int .i64 i ∧ (ρ 3 = b0 3 ∧ ρ 4 = b0 4 ∧ ρ 5 = b0 5) ∧ ms = [] ∧ h' = H ∧ d' = []) →
    LoopW M cx 8 sf7L0 ρ ms h' d' (fun ex ρ' ms' h' d' => ex = .exit 0 ∧ ms' = [] ∧ d' = [] ∧ h' = H ∧ ρ' 3 = b0 3 ∧ ρ' 4 = b0 4 ∧ ρ' 5 = b0 5) := by
  refine loop_run _ ?_
  rintro k ρ ms h' d' ⟨i, hk, r10, r13, r16, r18, ⟨r3, r4, r5⟩, rfl, rfl, rfl⟩
  unfold sf7L0
  have h1' := h1
  obtain ⟨a, c, rfl, kp⟩ := h1
  by_cases cz : k = 0
  · have e1 : ¬ ((i : Int) < L.length) := by omega
    repeat (first | apply Z1 | apply Z2 | apply Z3 | apply Z4 | apply Z5 rfl | apply Z6 | apply Z7 | apply Z8 | apply Z9 | apply ZA | apply ZB | apply ZC | ((first | apply ZD (by decide) | apply ZN (by decide)); (simp (maxSteps := 9999999) only [go_sem, r10, r18, e1]; rfl)) | (refine ZE ?_ ?_; · simp only [go_sem]) | (refine ZF ?_ ?_; · simp only [go_sem]))
    exact end_nil ⟨rfl, rfl, rfl, rfl, by simp only [go_sem, r3], by simp only [go_sem, r4], by simp only [go_sem, r5]⟩
  · have e1 : ((i : Int) < L.length) := by omega
    have e2 : (0 : Int) ≤ i := by omega
    have hil : i < L.length := by omega
    obtain ⟨b, o, rfl, hpp⟩ := kp (by intro e; rw [e] at hil; simp at hil)
    have lp := hpp.loadN hil
    have ew : IntKind.i64.wrap ((i : Int) + 1) = ((i + 1 : Nat) : Int) := by rw [wrap64 (by omega) (by omega)]; rfl
    have hc : L.count L[i] = P.count L[i] + Q.count L[i] := by rw [hp.count_eq, List.count_append]
    have k1 := List.count_le_length (a := L[i]) (l := P)
    have k2 := List.count_le_length (a := L[i]) (l := Q)
    have c1 := count37 L[i] h1' l1
    have c2 := count37 L[i] h2 l2
    have c3 := count37 L[i] h3 l3
    have es : IntKind.i64.wrap (((P.count L[i] : Nat) : Int) + ((Q.count L[i] : Nat) : Int)) = ((P.count L[i] + Q.count L[i] : Nat) : Int) := by rw [wrap64 (by omega) (by omega)]; rfl
    rw [hc] at c1
    generalize L[i] = p at *
    repeat (first | apply Z1 | apply Z2 | apply Z3 | apply Z4 | apply Z5 rfl | apply Z6 | apply Z7 | apply Z8 | apply Z9 | apply ZA | apply ZB | apply ZC | ((first | apply ZD (by decide) | apply ZN (by decide)); (simp (maxSteps := 9999999) only [go_sem, r10, r13, r16, r18, e1, e2, lp, c1, c2, c3, es, ew, Int.toNat_natCast]; rfl)) | (refine ZE ?_ ?_; · simp only [go_sem]) | (refine ZF ?_ ?_; · simp only [go_sem]))
    exact end_nil ⟨k - 1, by omega, i + 1, by omega, by simp only [go_sem, r10], by simp only [go_sem, r13], by simp only [go_sem, r16], by simp only [go_sem, ew], ⟨by simp only [go_sem, r3], by simp only [go_sem, r4], by simp only [go_sem, r5]⟩, rfl, rfl, rfl⟩
theorem fac_len {x u : Int × Int} {L : List (Int × Int)} (hF : Fac x u L) (hx : Bd 30000 x) : L.length ≤ 1000 := by
  have h1 := hF.le
  have h2 := nrm_le hx
  by_cases c : L.length ≤ 1000
  · exact c
  · exfalso
    have : 2 ^ 31 ≤ 2 ^ L.length := Nat.pow_le_pow_right (by decide) (by omega)
    omega
theorem mulP_bd' {p q : Int × Int} {A C B : Int} (hp : Bd A p) (hq : Bd C q) (h : 2 * (A * C) ≤ B) : Bd B (mulP p q) := (mulP_bd hp hq).mono h
theorem law7 (x0 y0 z0 : Int × Int) (h : SHeap) : M.call 7 [agV x0, agV y0, agV z0] h = some (.bool true, h, []) := by
  have c30x := fun h => some30 x0 (m := 120) (by omega) (by omega) h
  have c30y := fun h => some30 y0 (m := 120) (by omega) (by omega) h
  have c30z := fun h => some30 z0 (m := 9) (by omega) (by omega) h
  have bx0 := some_bd x0 (m := 120) (by omega)
  have by0 := some_bd y0 (m := 120) (by omega)
  have bz0 := some_bd z0 (m := 9) (by omega)
  have nx := some_ne x0 120
  have ny := some_ne y0 120
  have nz := some_ne z0 9
  generalize someP x0 120 = x at *
  generalize someP y0 120 = y at *
  generalize someP z0 9 = z at *
  have bx3 := bx0.mono (show (120 : Int) ≤ 30000 by decide)
  have by3 := by0.mono (show (120 : Int) ≤ 30000 by decide)
  have bz3 := bz0.mono (show (9 : Int) ≤ 30000 by decide)
  have bm : Bd 30000 (mulP x y) := mulP_bd' bx0 by0 (by decide)
  have ba : Bd 30000 (mulP x z) := mulP_bd' bx0 bz0 (by decide)
  have bb : Bd 30000 (mulP y z) := mulP_bd' by0 bz0 (by decide)
  have nm := mul_ne nx ny
  have na := mul_ne nx nz
  have c31m := fun h => mul31 bx3 by3 bm h
  have c31a := fun h => mul31 bx3 bz3 ba h
  have c31b := fun h => mul31 by3 bz3 bb h
  have c38d := fun h => gcd38 ba bb h
  have c38c := fun h => gcd38 bx3 by3 h
  obtain ⟨d1, d2⟩ := gcd_dv (mulP x z) (mulP y z)
  obtain ⟨g1, g2⟩ := gcd_dv x y
  obtain ⟨hn, hzd⟩ := gcd_scale (y := y) nx nz
  have nd := dv_ne d1 na
  have bd : Bd 30000 (gcdP (mulP x z) (mulP y z)) := fir_bd (eu_bd ba bb)
  have bc : Bd 30000 (gcdP x y) := fir_bd (eu_bd bx3 by3)
  have c39a := fun h => divides39 bd ba h
  have c39b := fun h => divides39 bd bb h
  have c39z := fun h => divides39 bz3 bd h
  rw [divP_true d1 nd] at c39a
  rw [divP_true d2 nd] at c39b
  rw [divP_true hzd nz] at c39z
  have c26 := fun h => validR26 (gcdP x y) h
  rw [decide_eq_true bc] at c26
  have c27d := fun h => normR27 bd (by decide) h
  have c27c := fun h => normR27 bc (by decide) h
  have c27z := fun h => normR27 bz3 (by decide) h
  have hdl := nrm_le bd
  have hdn := nrm_nonneg (gcdP (mulP x z) (mulP y z))
  have ww : IntKind.i64.wrap (nrm (gcdP x y) * nrm z) = nrm (gcdP x y) * nrm z := by rw [← hn]; exact wrap64 (by omega) (by omega)
  rw [hn] at c27d
  generalize hm : mulP x y = m at *
  generalize gcdP (mulP x z) (mulP y z) = d at *
  generalize gcdP x y = c at *
  generalize mulP x z = a at *
  generalize mulP y z = b at *
  -- the factors
  obtain ⟨u1, L, F1, s1, k1⟩ := factor36 bm nm (h ++ [bx x, bx y, bx z, bx m])
  obtain ⟨e1, E1⟩ := resH_pre (h ++ [bx x, bx y, bx z, bx m]) (prs L) L.length 34
  have P1 : PS (resH (h ++ [bx x, bx y, bx z, bx m]) (prs L) L.length 34) (resV (h ++ [bx x, bx y, bx z, bx m]) L.length 2) L := by
    have := PS.ofRes (h ++ [bx x, bx y, bx z, bx m]) [] L 34
    rwa [List.append_nil] at this
  have box1 : ∀ g : SHeap, (h ++ [bx x, bx y, bx z, bx m] ++ g)[h.length]? = some (bx x) ∧ (h ++ [bx x, bx y, bx z, bx m] ++ g)[h.length + 1]? = some (bx y) ∧ (h ++ [bx x, bx y, bx z, bx m] ++ g)[h.length + 2]? = some (bx z) ∧ ∀ j, j < h.length → (h ++ [bx x, bx y, bx z, bx m] ++ g)[j]? = h[j]? := fun g => by
    rw [List.append_assoc]
    exact ⟨by rw [app_get0]; rfl, by rw [app_get]; rfl, by rw [app_get]; rfl, fun j hj => List.getElem?_append_left hj⟩
  generalize resH (h ++ [bx x, bx y, bx z, bx m]) (prs L) L.length 34 = H2 at *
  generalize resV (h ++ [bx x, bx y, bx z, bx m]) L.length 2 = v1 at *
  obtain ⟨u2, P, F2, s2, k2⟩ := factor36 bx3 nx (H2 ++ [bx u1])
  obtain ⟨e2, E2⟩ := resH_pre (H2 ++ [bx u1]) (prs P) P.length 34
  have P2 : PS (resH (H2 ++ [bx u1]) (prs P) P.length 34) (resV (H2 ++ [bx u1]) P.length 2) P := by
    have := PS.ofRes (H2 ++ [bx u1]) [] P 34
    rwa [List.append_nil] at this
  generalize resH (H2 ++ [bx u1]) (prs P) P.length 34 = H3 at *
  generalize resV (H2 ++ [bx u1]) P.length 2 = v2 at *
  obtain ⟨u3, Q, F3, s3, k3⟩ := factor36 by3 ny (H3 ++ [bx u2])
  obtain ⟨e3, E3⟩ := resH_pre (H3 ++ [bx u2]) (prs Q) Q.length 34
  have P3 : PS (resH (H3 ++ [bx u2]) (prs Q) Q.length 34) (resV (H3 ++ [bx u2]) Q.length 2) Q := by
    have := PS.ofRes (H3 ++ [bx u2]) [] Q 34
    rwa [List.append_nil] at this
  generalize resH (H3 ++ [bx u2]) (prs Q) Q.length 34 = H4 at *
  generalize resV (H3 ++ [bx u2]) Q.length 2 = v3 at *
  have hperm : L.Perm (P ++ Q) := fac_perm F1 (hm ▸ F2.mul F3)
  have hll : (L.length : Int) = ((P.length + Q.length : Nat) : Int) := by rw [hperm.length_eq, List.length_append]
  have l1 := fac_len F1 bm
  have l2 := fac_len F2 bx3
  have l3 := fac_len F3 by3
  have ws : IntKind.i64.wrap ((P.length : Int) + (Q.length : Int)) = ((P.length + Q.length : Nat) : Int) := by rw [wrap64 (by omega) (by omega)]; rfl
  have hub : Bd 1 u1 := part_bd (by decide) (by rw [F1.unit]; decide)
  have c27u := fun h => normR27 hub (by decide) h
  rw [F1.unit] at c27u
  -- the boxes
  subst E1
  have b2 := box1 e1
  generalize h ++ [bx x, bx y, bx z, bx m] ++ e1 = H2 at *
  obtain ⟨bx2, by2, bz2, fr2⟩ := b2
  have lx2 := fun g => load_bn bx2 rfl g
  have hl2 := (List.getElem?_eq_some_iff.1 bz2).1
  have up : ∀ (A g : SHeap), H2.length ≤ A.length → (∀ j, j < H2.length → A[j]? = H2[j]?) → ∀ j, j < H2.length → (A ++ g)[j]? = H2[j]? := fun A g hA hk j hj => by rw [List.getElem?_append_left (by omega)]; exact hk j hj
  have fr3 : ∀ j, j < H2.length → H3[j]? = H2[j]? := fun j hj => by
    rw [E2, List.append_assoc, List.getElem?_append_left hj]
  have len3 : H2.length ≤ H3.length := by rw [E2, List.length_append, List.length_append]; omega
  have ly3 := fun g => load_bn (h := H3) (b := h.length + 1) (p := y) (el := 34) (own := 0) (old := []) (by rw [fr3 _ (by omega)]; exact by2) rfl g
  have fr4 : ∀ j, j < H2.length → H4[j]? = H2[j]? := fun j hj => by
    rw [E3, List.append_assoc, List.getElem?_append_left (by omega)]
    exact fr3 j hj
  have len4 : H2.length ≤ H4.length := by rw [E3, List.length_append, List.length_append]; omega
  have u1at : H4[H2.length]? = some (bx u1) := by
    rw [E3, List.append_assoc, List.getElem?_append_left (by rw [E2, List.length_append, List.length_append, List.length_singleton]; omega), E2, List.append_assoc, app_get0]; rfl
  have lx4 := fun g => load_bn (h := H4) (b := h.length) (p := x) (el := 34) (own := 0) (old := []) (by rw [fr4 _ (by omega)]; exact bx2) rfl g
  have ly4 := fun g => load_bn (h := H4) (b := h.length + 1) (p := y) (el := 34) (own := 0) (old := []) (by rw [fr4 _ (by omega)]; exact by2) rfl g
  have lz4 := fun g => load_bn (h := H4) (b := h.length + 2) (p := z) (el := 34) (own := 0) (old := []) (by rw [fr4 _ (by omega)]; exact bz2) rfl g
  have lu4 := fun g => load_bn u1at rfl g
  have fin : ∀ g, (H4 ++ g).take h.length = h := fun g => take_of_same (by simp; omega) (fun j hj => by rw [List.getElem?_append_left (by omega), fr4 j (by omega), fr2 j hj])
  have Q1 : PS (H4 ++ [bx u3]) v1 L := by
    rw [E3, E2]
    exact ((((P1.app [bx u1]).app e2).app [bx u2]).app e3).app [bx u3]
  have Q2 : PS (H4 ++ [bx u3]) v2 P := by
    rw [E3]
    exact ((P2.app [bx u2]).app e3).app [bx u3]
  have Q3 : PS (H4 ++ [bx u3]) v3 Q := P3.app [bx u3]
  clear E2 E3 P1 P2 P3 up fr3 fr4 box1
  have S1 := Q1
  have S2 := Q2
  have S3 := Q3
  obtain ⟨va1, vc1, rfl, -⟩ := Q1
  obtain ⟨va2, vc2, rfl, -⟩ := Q2
  obtain ⟨va3, vc3, rfl, -⟩ := Q3
  refine call_run sf7 rfl rfl rfl ?_
  unfold sf7
  repeat (first | apply Z1 | apply Z2 | apply Z3 | apply Z4 | apply Z5 rfl | apply Z6 | apply Z7 | apply Z8 | apply Z9 | apply ZA | apply ZB | apply ZC | ((first | apply ZD (by decide) | apply ZN (by decide)); (simp (maxSteps := 9999999) only [go_sem, argR, c30x, c30y, c30z, c31m, k1, lx2, k2, ly3, k3, hll, ws, lu4, c27u]; rfl)) | (refine ZE ?_ ?_; · simp only [go_sem]) | (refine ZF ?_ ?_; · simp only [go_sem]))
  refine run_loop (parts_loop _ (H := H4 ++ [bx u3]) S1 S2 S3 l1 l2 l3 hperm (fun i => if i = 3 then .pointer (some ⟨h.length, 0, none⟩) else if i = 4 then .pointer (some ⟨h.length + 1, 0, none⟩) else .pointer (some ⟨h.length + 2, 0, none⟩)) L.length _ _ _ _ ⟨0, by omega, by simp only [go_sem], by simp only [go_sem], by simp only [go_sem], by simp only [go_sem], ⟨by simp only [go_sem], by simp only [go_sem], by simp only [go_sem]⟩, rfl, rfl, rfl⟩) ?_
  rintro ex ρ' ms' h1 d1 ⟨rfl, rfl, rfl, rfl, q3, q4, q5⟩
  have q3 : ρ' 3 = .pointer (some ⟨h.length, 0, none⟩) := q3
  have q4 : ρ' 4 = .pointer (some ⟨h.length + 1, 0, none⟩) := q4
  have q5 : ρ' 5 = .pointer (some ⟨h.length + 2, 0, none⟩) := q5
  repeat (first | apply Z1 | apply Z2 | apply Z3 | apply Z4 | apply Z5 rfl | apply Z6 | apply Z7 | apply Z8 | apply Z9 | apply ZA | apply ZB | apply ZC | ((first | apply ZD (by decide) | apply ZN (by decide)); (simp (maxSteps := 9999999) only [go_sem, q3, q4, q5, lx4, ly4, lz4, c31a, c31b, c38d, c38c, c39a, c39b, c39z, c26, c27d, c27c, c27z, ww, awake_call, List.append_assoc, Nat.add_assoc]; rfl)) | (refine ZE ?_ ?_; · simp only [go_sem]) | (refine ZF ?_ ?_; · simp only [go_sem]))
  exact end_nil (q_ret1 _ (by simp only [go_sem]) rfl (fin _))
end Go.Proofs.YtdmfhdnpakgkpaaDoor.Sh

namespace Go.Proofs.YtdmfhdnpakgkpaaDoor.gaussParts
open Go Go.RowKit
theorem walk (a0 b0 : Int) (a1 b1 : Int) (a2 b2 : Int) (W : World) (hg : Sh.GlobW Tryd.prog W) :
    Calls Tryd.prog 7 #[.agg #[.int .i64 a0, .int .i64 b0], .agg #[.int .i64 a1, .int .i64 b1], .agg #[.int .i64 a2, .int .i64 b2]] W (fun e W' => e = .returned (.bool true) ∧ Below W.heap.size W W') :=
  Sh.walk_of (Sh.law7 (a0, b0) (a1, b1) (a2, b2) []) rfl rfl W hg
end Go.Proofs.YtdmfhdnpakgkpaaDoor.gaussParts

