/- Arguments of the laws: graphs. -/
import Derived.Test.YtpkhkghiidilcaaDoorH46
import Derived.Test.YtpkhkghiidilcaaDoorH47
import Derived.WideShapes
set_option linter.all false
namespace Go.Proofs.YtpkhkghiidilcaaDoor.Sh
open Go Go.RowKit Go.WideShapes Go.ChangeShapes
set_option maxRecDepth 100000
theorem u24 : ∃ f0 f1 : Field, Tryd.prog.underlying 24 = some (.struct #[f0, f1]) ∧ f0.type = 3 ∧ f0.offset = 0 ∧ f1.type = 22 ∧ f1.offset = 1 := st2_ok (by kernel_rfl)
theorem ct24 : Tryd.prog.cellTypes Tryd.prog.depth 24 = some [3, 22] := by kernel_rfl
theorem cells24 : Tryd.prog.cellsOf 24 = 2 := by kernel_rfl
theorem cells22 : Tryd.prog.cellsOf 22 = 1 := by kernel_rfl
theorem cells45 : Tryd.prog.cellsOf 45 = 2 := by kernel_rfl
theorem u22 : Tryd.prog.underlying 22 = some (.slice 45) := by kernel_rfl
theorem u45 : Tryd.prog.underlying 45 = some (.array 2 3) := by kernel_rfl
theorem u25 : Tryd.prog.underlying 25 = some (.slice 3) := by kernel_rfl
theorem open_graph {H : Type} {enc : TypeId × Value → H} {W : World} {base b0 : Nat} {spare : Nat → Bool} {held : Bool} {v : Value} {d : DataW H} {ps : List MemPlace}
    (hval : Value.okWide Tryd.prog W .any b0 24 v) (h : DataW.Trod enc Tryd.prog W base spare held 24 v d ps) : ∃ N a len cap X, v = .agg #[.int .i64 N, .slice a len cap] ∧ IsPrs W a len cap X := by
  obtain ⟨f0, f1, hu, t0, o0, t1, o1⟩ := u24
  simp only [Value.okWide, hu] at hval
  obtain ⟨cs, rfl, hsz, ts, hts, _, hrow⟩ := hval
  rw [ct24] at hts
  cases hts
  obtain ⟨fuel, hf⟩ := h
  have hf' : DataW.trod enc Tryd.prog W base spare held fuel 24 cs.toList = some (d, ps) := hf
  obtain ⟨y0, y1, n, hx, hl, h0, h1⟩ := trod_struct2 hu hf'
  rw [cells24] at hl
  rw [t0, o0, cells3] at h0
  rw [t1, o1, cells22] at h1
  match hcs : cs.toList, hl with
  | [c0, c1], _ =>
    rw [hcs] at h0 h1
    simp only [List.drop_zero, List.drop_succ_cons, List.take_succ_cons, List.take_zero] at h0 h1
    obtain ⟨n0, e0, _, _⟩ := DataW.trod_int u3 h0
    simp only [List.cons.injEq, and_true] at e0
    have e2 : cs = #[c0, c1] := Array.ext' hcs
    obtain ⟨u, hu1, hok⟩ := hrow 1 c1 (by rw [e2]; rfl)
    cases hu1
    have hv1 : Value.okWide Tryd.prog W .any b0 22 c1 := by simp only [Value.okWide, u22]; exact hok
    obtain ⟨a, len, cap, rfl⟩ := okWide_slice u22 hv1
    obtain ⟨X, hX⟩ := isPrs_of u22 u45 u3 cells45 cells3 hv1 (⟨n, h1⟩ : DataW.Trod enc Tryd.prog W base spare held 22 (.slice a len cap) y1.1 y1.2)
    exact ⟨n0, a, len, cap, X, by rw [e2, e0], hX⟩
end Go.Proofs.YtpkhkghiidilcaaDoor.Sh

namespace Go.Proofs.YtpkhkghiidilcaaDoor.Sh
open Go
set_option maxRecDepth 100000
set_option maxHeartbeats 4000000
theorem few31 {H : SHeap} {v : Value} {X : List Int} (hv : ISc H v X) (hlen : X.length ≤ 9223372036854775807) {most : Nat} (hm : most ≤ 1000) :
    M.call 31 [v, .int .i64 most] H = some (resV H (X.take most).length 1, resH H ((X.take most).map mkI) (X.take most).length 3, []) := by
  refine call_run sf31 rfl rfl rfl ?_
  obtain ⟨a, c, rfl, hc, ha⟩ := hv
  have hmin : (if (most : Int) < X.length then (most : Int) else X.length) = (((X.take most).length : Nat) : Int) := by
    rw [List.length_take]; split <;> omega
  have hk : (X.take most).length ≤ X.length := by rw [List.length_take]; omega
  have hk2 : (X.take most).length ≤ 1000 := by rw [List.length_take]; omega
  have sl := slice_to' (a := a) hk hc (by rcases ha with ⟨h1, h2, _⟩ | ⟨b, o, h1, _⟩; exact .inl ⟨h1, h2⟩; exact .inr ⟨b, o, h1⟩)
  unfold sf31
  by_cases c0 : (X.take most).length = 0
  · have ap := fun base d => append_nil0 (h := H) (a := a) (c := c) (s := 1) (bytes := 8) (el := 3) c0 base d
    have e : X.take most = [] := List.length_eq_zero_iff.1 c0
    generalize (X.take most).length = k at *
    repeat (first | apply Z1 | apply Z2 | apply Z3 | apply Z4 | apply Z5 rfl | apply Z6 | apply Z7 | apply Z8 | apply Z9 | apply ZA | apply ZB | apply ZC | ((first | apply ZD (by decide) | apply ZN (by decide)); (simp (maxSteps := 9999999) only [go_sem, argR, hmin, ↓sl, ↓ap]; rfl)) | (refine ZE ?_ ?_; · simp only [go_sem]) | (refine ZF ?_ ?_; · simp only [go_sem]))
    rw [e, c0]
    exact end_nil (q_free [.slice none 0 0] (by simp only [go_sem]) rfl rfl rfl (fun _ => rfl) (take_self _) rfl)
  · rcases ha with ⟨_, _, rfl⟩ | ⟨b, o, rfl, hp⟩
    · simp at c0
    · have hne : X ≠ [] := fun e => by rw [e] at c0; simp at c0
      have hil : IL H b o (X.take most) := fun i hi => by
        have hi2 : i < X.length := by rw [List.length_take] at hi; omega
        rw [(hp hne).2 i hi2]; simp
      have hr := hil.rdN (fun e => c0 (by rw [e]; rfl))
      have ap := fun base d => append_nilS (bytes := 8) (el := 3) (c := c) c0 hr (mkI_sc _) (by decide) (by omega) base d
      rw [← resV_pos H 1 c0, ← resH_pos H ((X.take most).map mkI) 3 c0]
      generalize (X.take most).length = k at *
      generalize (X.take most).map mkI = cs at *
      repeat (first | apply Z1 | apply Z2 | apply Z3 | apply Z4 | apply Z5 rfl | apply Z6 | apply Z7 | apply Z8 | apply Z9 | apply ZA | apply ZB | apply ZC | ((first | apply ZD (by decide) | apply ZN (by decide)); (simp (maxSteps := 9999999) only [go_sem, argR, hmin, ↓sl, ↓ap]; rfl)) | (refine ZE ?_ ?_; · simp only [go_sem]) | (refine ZF ?_ ?_; · simp only [go_sem]))
      exact end_nil (q_own1 (b := H.length) (old := []) (own := 0) (by simp only [go_sem]) (by simp) (by rw [app_get0]; rfl) rfl (Nat.le_refl _))
end Go.Proofs.YtpkhkghiidilcaaDoor.Sh

namespace Go.Proofs.YtpkhkghiidilcaaDoor.Sh
open Go
set_option maxRecDepth 100000
set_option maxHeartbeats 4000000
section
variable {H : SHeap} {v sv wv : Value} {E : List (Int × Int)} {l : List Int} {n : Int}
theorem number_err (hv : PS H v E) (hlen : E.length ≤ 1000000) (he : errG n E ≠ 0) (goal : Int) : M.call 26 [.int .i64 n, v, .int .i64 goal] H = some (.tuple #[.int .i64 0, .int .i64 (errG n E)], H, []) := by
  refine call_run sf26 rfl rfl rfl ?_
  have o := openGoal_err hv hlen he goal
  obtain ⟨va, vc, rfl, _⟩ := id hv
  unfold sf26
  repeat (first | apply Z1 | apply Z2 | apply Z3 | apply Z4 | apply Z5 rfl | apply Z6 | apply Z7 | apply Z8 | apply Z9 | apply ZA | apply ZB | apply ZC | ((first | apply ZD (by decide) | apply ZN (by decide)); (simp (maxSteps := 9999999) only [go_sem, argR, o, he]; rfl)) | (refine ZE ?_ ?_; · simp only [go_sem]) | (refine ZF ?_ ?_; · simp only [go_sem]))
  exact end_nil (q_free [.int .i64 0, .int .i64 (errG n E)] (by simp only [go_sem]) rfl rfl rfl (fun _ => rfl) (by simp) rfl)
theorem poor_err (hv : PS H v E) (hlen : E.length ≤ 1000000) (he : errG n E ≠ 0) (goal : Int) : M.call 37 [.int .i64 n, v, .int .i64 goal] H = some (.tuple #[.slice none 0 0, .int .i64 (errG n E)], H, []) := by
  refine call_run sf37 rfl rfl rfl ?_
  have o := openGoal_err hv hlen he goal
  obtain ⟨va, vc, rfl, _⟩ := id hv
  unfold sf37
  repeat (first | apply Z1 | apply Z2 | apply Z3 | apply Z4 | apply Z5 rfl | apply Z6 | apply Z7 | apply Z8 | apply Z9 | apply ZA | apply ZB | apply ZC | ((first | apply ZD (by decide) | apply ZN (by decide)); (simp (maxSteps := 9999999) only [go_sem, argR, o, he]; rfl)) | (refine ZE ?_ ?_; · simp only [go_sem]) | (refine ZF ?_ ?_; · simp only [go_sem]))
  exact end_nil (q_free [.slice none 0 0, .int .i64 (errG n E)] (by simp only [go_sem]) rfl rfl rfl (fun _ => rfl) (by simp) rfl)
theorem far_err (hv : PS H v E) (hlen : E.length ≤ 1000000) (he : errG n E ≠ 0) (goal : Int) : M.call 27 [.int .i64 n, v, .int .i64 goal] H = some (.tuple #[.slice none 0 0, .int .i64 (errG n E)], H, []) := by
  refine call_run sf27 rfl rfl rfl ?_
  have o := openGoal_err hv hlen he goal
  obtain ⟨va, vc, rfl, _⟩ := id hv
  unfold sf27
  repeat (first | apply Z1 | apply Z2 | apply Z3 | apply Z4 | apply Z5 rfl | apply Z6 | apply Z7 | apply Z8 | apply Z9 | apply ZA | apply ZB | apply ZC | ((first | apply ZD (by decide) | apply ZN (by decide)); (simp (maxSteps := 9999999) only [go_sem, argR, o, he]; rfl)) | (refine ZE ?_ ?_; · simp only [go_sem]) | (refine ZF ?_ ?_; · simp only [go_sem]))
  exact end_nil (q_free [.slice none 0 0, .int .i64 (errG n E)] (by simp only [go_sem]) rfl rfl rfl (fun _ => rfl) (by simp) rfl)
theorem tree_err (hv : PS H v E) (hlen : E.length ≤ 1000000) (he : errG n E ≠ 0) (goal : Int) : M.call 56 [.int .i64 n, v, .int .i64 goal] H = some (.tuple #[.slice none 0 0, .int .i64 (errG n E)], H, []) := by
  refine call_run sf56 rfl rfl rfl ?_
  have o := openGoal_err hv hlen he goal
  obtain ⟨va, vc, rfl, _⟩ := id hv
  unfold sf56
  repeat (first | apply Z1 | apply Z2 | apply Z3 | apply Z4 | apply Z5 rfl | apply Z6 | apply Z7 | apply Z8 | apply Z9 | apply ZA | apply ZB | apply ZC | ((first | apply ZD (by decide) | apply ZN (by decide)); (simp (maxSteps := 9999999) only [go_sem, argR, o, he]; rfl)) | (refine ZE ?_ ?_; · simp only [go_sem]) | (refine ZF ?_ ?_; · simp only [go_sem]))
  exact end_nil (q_free [.slice none 0 0, .int .i64 (errG n E)] (by simp only [go_sem]) rfl rfl rfl (fun _ => rfl) (by simp) rfl)
theorem parts_err (hv : PS H v E) (hlen : E.length ≤ 1000000) (he : errG n E ≠ 0) (goal : Int) : M.call 20 [.int .i64 n, v, .int .i64 goal] H = some (.tuple #[.slice none 0 0, .int .i64 (errG n E)], H, []) := by
  refine call_run sf20 rfl rfl rfl ?_
  have o := tree_err hv hlen he goal
  obtain ⟨va, vc, rfl, _⟩ := id hv
  unfold sf20
  repeat (first | apply Z1 | apply Z2 | apply Z3 | apply Z4 | apply Z5 rfl | apply Z6 | apply Z7 | apply Z8 | apply Z9 | apply ZA | apply ZB | apply ZC | ((first | apply ZD (by decide) | apply ZN (by decide)); (simp (maxSteps := 9999999) only [go_sem, argR, o, he]; rfl)) | (refine ZE ?_ ?_; · simp only [go_sem]) | (refine ZF ?_ ?_; · simp only [go_sem]))
  exact end_nil (q_free [.slice none 0 0, .int .i64 (errG n E)] (by simp only [go_sem]) rfl rfl rfl (fun _ => rfl) (by simp) rfl)
theorem treeNumber_err (hv : PS H v E) (hlen : E.length ≤ 1000000) (he : errG n E ≠ 0) (goal : Int) : M.call 21 [.int .i64 n, v, .int .i64 goal] H = some (.tuple #[.int .i64 0, .int .i64 (errG n E)], H, []) := by
  refine call_run sf21 rfl rfl rfl ?_
  have o := tree_err hv hlen he goal
  obtain ⟨va, vc, rfl, _⟩ := id hv
  unfold sf21
  repeat (first | apply Z1 | apply Z2 | apply Z3 | apply Z4 | apply Z5 rfl | apply Z6 | apply Z7 | apply Z8 | apply Z9 | apply ZA | apply ZB | apply ZC | ((first | apply ZD (by decide) | apply ZN (by decide)); (simp (maxSteps := 9999999) only [go_sem, argR, o, he]; rfl)) | (refine ZE ?_ ?_; · simp only [go_sem]) | (refine ZF ?_ ?_; · simp only [go_sem]))
  exact end_nil (q_free [.int .i64 0, .int .i64 (errG n E)] (by simp only [go_sem]) rfl rfl rfl (fun _ => rfl) (by simp) rfl)
theorem cover_err (hv : PS H v E) (hlen : E.length ≤ 1000000) (he : errG n E ≠ 0) : M.call 48 [.int .i64 n, v] H = some (.tuple #[.int .i64 0, .int .i64 (errG n E)], H, []) := by
  refine call_run sf48 rfl rfl rfl ?_
  have o := open68_err hv hlen he
  obtain ⟨va, vc, rfl, _⟩ := id hv
  unfold sf48
  repeat (first | apply Z1 | apply Z2 | apply Z3 | apply Z4 | apply Z5 rfl | apply Z6 | apply Z7 | apply Z8 | apply Z9 | apply ZA | apply ZB | apply ZC | ((first | apply ZD (by decide) | apply ZN (by decide)); (simp (maxSteps := 9999999) only [go_sem, argR, o, he]; rfl)) | (refine ZE ?_ ?_; · simp only [go_sem]) | (refine ZF ?_ ?_; · simp only [go_sem]))
  exact end_nil (q_free [.int .i64 0, .int .i64 (errG n E)] (by simp only [go_sem]) rfl rfl rfl (fun _ => rfl) (by simp) rfl)
theorem covers_bad {a1 a2 a3 : Value} {e : Int} (ho : M.call 53 [a1, a2, a3, .int .i64 0] H = some (.tuple #[.pointer none, stV (fun _ => 0), .int .i64 e], H, [])) (he : e ≠ 0) : M.call 42 [a1, a2, a3] H = some (.tuple #[.bool false, .int .i64 e], H, []) := by
  refine call_run sf42 rfl rfl rfl ?_
  unfold sf42
  repeat (first | apply Z1 | apply Z2 | apply Z3 | apply Z4 | apply Z5 rfl | apply Z6 | apply Z7 | apply Z8 | apply Z9 | apply ZA | apply ZB | apply ZC | ((first | apply ZD (by decide) | apply ZN (by decide)); (simp (maxSteps := 9999999) only [go_sem, argR, ho, wst, he]; rfl)) | (refine ZE ?_ ?_; · simp only [go_sem]) | (refine ZF ?_ ?_; · simp only [go_sem]))
  exact end_nil (q_free [.bool false, .int .i64 e] (by simp only [go_sem]) rfl rfl rfl (fun _ => rfl) (by simp) rfl)
theorem most_bad {a1 a2 a3 a4 : Value} {e : Int} (ho : M.call 53 [a1, a2, a3, a4] H = some (.tuple #[.pointer none, stV (fun _ => 0), .int .i64 e], H, [])) (he : e ≠ 0) : M.call 18 [a1, a2, a3, a4] H = some (.tuple #[.int .i64 0, .int .i64 e], H, []) := by
  refine call_run sf18 rfl rfl rfl ?_
  unfold sf18
  repeat (first | apply Z1 | apply Z2 | apply Z3 | apply Z4 | apply Z5 rfl | apply Z6 | apply Z7 | apply Z8 | apply Z9 | apply ZA | apply ZB | apply ZC | ((first | apply ZD (by decide) | apply ZN (by decide)); (simp (maxSteps := 9999999) only [go_sem, argR, ho, wst, he]; rfl)) | (refine ZE ?_ ?_; · simp only [go_sem]) | (refine ZF ?_ ?_; · simp only [go_sem]))
  exact end_nil (q_free [.int .i64 0, .int .i64 e] (by simp only [go_sem]) rfl rfl rfl (fun _ => rfl) (by simp) rfl)
theorem isPlan_bad {a1 a2 a3 a4 a5 : Value} {e : Int} (ho : M.call 53 [a1, a2, a3, a4] H = some (.tuple #[.pointer none, stV (fun _ => 0), .int .i64 e], H, [])) (he : e ≠ 0) : M.call 36 [a1, a2, a3, a4, a5] H = some (.tuple #[.bool false, .int .i64 e], H, []) := by
  refine call_run sf36 rfl rfl rfl ?_
  unfold sf36
  repeat (first | apply Z1 | apply Z2 | apply Z3 | apply Z4 | apply Z5 rfl | apply Z6 | apply Z7 | apply Z8 | apply Z9 | apply ZA | apply ZB | apply ZC | ((first | apply ZD (by decide) | apply ZN (by decide)); (simp (maxSteps := 9999999) only [go_sem, argR, ho, wst, he]; rfl)) | (refine ZE ?_ ?_; · simp only [go_sem]) | (refine ZF ?_ ?_; · simp only [go_sem]))
  exact end_nil (q_free [.bool false, .int .i64 e] (by simp only [go_sem]) rfl rfl rfl (fun _ => rfl) (by simp) rfl)
theorem plan_bad {a1 a2 a3 a4 : Value} {e : Int} (ho : M.call 53 [a1, a2, a3, a4] H = some (.tuple #[.pointer none, stV (fun _ => 0), .int .i64 e], H, [])) (he : e ≠ 0) : M.call 28 [a1, a2, a3, a4] H = some (.tuple #[.slice none 0 0, .bool false, .int .i64 e], H, []) := by
  refine call_run sf28 rfl rfl rfl ?_
  unfold sf28
  repeat (first | apply Z1 | apply Z2 | apply Z3 | apply Z4 | apply Z5 rfl | apply Z6 | apply Z7 | apply Z8 | apply Z9 | apply ZA | apply ZB | apply ZC | ((first | apply ZD (by decide) | apply ZN (by decide)); (simp (maxSteps := 9999999) only [go_sem, argR, ho, wst, he]; rfl)) | (refine ZE ?_ ?_; · simp only [go_sem]) | (refine ZF ?_ ?_; · simp only [go_sem]))
  exact end_nil (q_free [.slice none 0 0, .bool false, .int .i64 e] (by simp only [go_sem]) rfl rfl rfl (fun _ => rfl) (by simp) rfl)
end
end Go.Proofs.YtpkhkghiidilcaaDoor.Sh

namespace Go.Proofs.YtpkhkghiidilcaaDoor.Sh
open Go
set_option maxRecDepth 100000
set_option maxHeartbeats 4000000
theorem IS_resI (H : SHeap) (l : List Int) (el : TypeId) : IS (resH H (l.map mkI) l.length el) (resV H l.length 1) l := by
  by_cases c : l.length = 0
  · have : l = [] := List.length_eq_zero_iff.1 c
    subst this
    exact ⟨none, 0, rfl, fun h => (h rfl).elim⟩
  · unfold resH resV
    rw [if_neg c, if_neg c, map_stk rfl]
    have := IS.lstAt (h := H ++ [.cells (iV l.length (stk l)) el true 0 []]) (b := H.length) (n := l.length) (c := UNK + 1) (s := stk l) (el := el) (pf := true) (own := 0) (old := []) (by rw [app_get0]; rfl) rfl
    rw [lst_stk rfl] at this
    exact this
theorem law14M {H : SHeap} {N goal : Int} {ev lv : Value} {X : List (Int × Int)} {l : List Int} (hv : PSc H ev X) (hX : X.length ≤ 9223372036854775807) (hl : ISc H lv l) (hll : l.length ≤ 9223372036854775807) :
    M.call 14 [.agg #[.int .i64 N, ev], lv, .int .i64 goal] H = some (.bool true, H, []) := by
  refine call_run sf14 rfl rfl rfl ?_
  have c35 := pairs35 (H := H ++ [.cells [.int .i64 N, ev] 24 false 0 []]) (hv.fr (fun j hj => List.getElem?_append_left hj)) hX (most := 20) (by decide)
  have P1 := PS_resI (H ++ [.cells [.int .i64 N, ev] 24 false 0 []]) (X.take 20) 45
  obtain ⟨k1, k2⟩ := resH_fr (H ++ [.cells [.int .i64 N, ev] 24 false 0 []]) (prs (X.take 20)) (X.take 20).length 45
  have F1 : H.length ≤ (resH (H ++ [.cells [.int .i64 N, ev] 24 false 0 []]) (prs (X.take 20)) (X.take 20).length 45).length := by rw [List.length_append, List.length_singleton] at k1; omega
  have G1 : ∀ j, j < H.length → (resH (H ++ [.cells [.int .i64 N, ev] 24 false 0 []]) (prs (X.take 20)) (X.take 20).length 45)[j]? = H[j]? := fun j hj => by rw [k2 j (by simp; omega), List.getElem?_append_left hj]
  have B1 : (resH (H ++ [.cells [.int .i64 N, ev] 24 false 0 []]) (prs (X.take 20)) (X.take 20).length 45)[H.length]? = some (.cells [.int .i64 N, ev] 24 false 0 []) := by rw [k2 _ (by simp)]; simp
  clear k1 k2
  have hEl : (X.take 20).length ≤ 1000000 := by rw [List.length_take]; omega
  generalize resH (H ++ [.cells [.int .i64 N, ev] 24 false 0 []]) (prs (X.take 20)) (X.take 20).length 45 = H1 at *
  generalize resV (H ++ [.cells [.int .i64 N, ev] 24 false 0 []]) (X.take 20).length 2 = xv at *
  generalize X.take 20 = E at *
  have c31 := few31 (H := H1) (v := lv) (X := l) (by
    obtain ⟨a, c, e, hc, k⟩ := hl
    refine ⟨a, c, e, hc, k.imp id ?_⟩
    rintro ⟨b, o, e, k⟩
    exact ⟨b, o, e, fun hn => ⟨by have := (k hn).1; omega, (k hn).2.fr (G1 b (k hn).1)⟩⟩) hll (most := 7) (by decide)
  have I2 := IS_resI H1 (l.take 7) 3
  obtain ⟨k1, k2⟩ := resH_fr H1 ((l.take 7).map mkI) (l.take 7).length 3
  have hsl : (l.take 7).length ≤ 1000000 := by rw [List.length_take]; omega
  generalize resH H1 ((l.take 7).map mkI) (l.take 7).length 3 = H2 at *
  generalize resV H1 (l.take 7).length 1 = sv at *
  generalize l.take 7 = s at *
  have P2 := P1.fr k2
  have F2 : H.length ≤ H2.length := by omega
  have G2 : ∀ j, j < H.length → H2[j]? = H[j]? := fun j hj => by rw [k2 j (by omega)]; exact G1 j hj
  have lb := load_cell (h := H1) (o := 0) B1 rfl rfl []
  rw [List.append_nil] at lb
  have c49 := check49 (n := N) P2 hEl
  have c50 := check50 (n := N) P2 hEl
  have c51 := check51 (n := N) I2 hsl
  have c39 := sup39 (n := N) I2 hsl
  have aw := awake_call H2
  have fin : ∀ (ρ : Reg), ρ 6 = .bool true → callQ [.tmp 6] H.length (.bool true, H, []) .ret ρ [] H2 [] := fun ρ e => q_ret1 _ e rfl (take_of_same F2 G2)
  rw [show ((20 : Nat) : Int) = 20 from rfl] at c35
  rw [show ((7 : Nat) : Int) = 7 from rfl] at c31
  obtain ⟨va, vc, evv, hvv⟩ := id hv
  subst evv
  unfold sf14
  by_cases he : errG N E = 0
  · obtain ⟨n, rfl, h1, h2, h3, h4⟩ := errG_ok he
    have c1 : ¬ (n : Int) < 1 := by omega
    have c2 : ¬ 6 < (n : Int) := by omega
    have c2' : ¬ (n : Int) > 6 := c2
    rw [he] at c49 c50
    rw [if_neg (by omega)] at c51
    by_cases c3 : SupOK n s
    · rw [if_pos c3] at c51
      rw [decide_eq_true c3] at c39
      by_cases g1 : goal < 0
      · have oo := openAt_out P2 hEl he I2 hsl c3 (place := goal) (.inl g1)
        have m28 := plan_bad oo (by decide)
        have m36 := isPlan_bad (a5 := .slice none 0 0) oo (by decide)
        have m18 := most_bad oo (by decide)
        repeat (first | apply Z1 | apply Z2 | apply Z3 | apply Z4 | apply Z5 rfl | apply Z6 | apply Z7 | apply Z8 | apply Z9 | apply ZA | apply ZB | apply ZC | ((first | apply ZD (by decide) | apply ZN (by decide)); (simp (maxSteps := 9999999) only [go_sem, argR, lb, c35, c31, c49, c50, c1, c2, c2', c39, c51, g1, m28, m36, m18, aw]; rfl)) | (refine ZE ?_ ?_; · simp only [go_sem]) | (refine ZF ?_ ?_; · simp only [go_sem]))
        exact end_nil (fin _ (by simp only [go_sem]))
      · by_cases g2 : (n : Int) ≤ goal
        · have oo := openAt_out P2 hEl he I2 hsl c3 (place := goal) (.inr g2)
          have m28 := plan_bad oo (by decide)
          have m36 := isPlan_bad (a5 := .slice none 0 0) oo (by decide)
          have m18 := most_bad oo (by decide)
          repeat (first | apply Z1 | apply Z2 | apply Z3 | apply Z4 | apply Z5 rfl | apply Z6 | apply Z7 | apply Z8 | apply Z9 | apply ZA | apply ZB | apply ZC | ((first | apply ZD (by decide) | apply ZN (by decide)); (simp (maxSteps := 9999999) only [go_sem, argR, lb, c35, c31, c49, c50, c1, c2, c2', c39, c51, g1, g2, m28, m36, m18, aw]; rfl)) | (refine ZE ?_ ?_; · simp only [go_sem]) | (refine ZF ?_ ?_; · simp only [go_sem]))
          exact end_nil (fin _ (by simp only [go_sem]))
        · repeat (first | apply Z1 | apply Z2 | apply Z3 | apply Z4 | apply Z5 rfl | apply Z6 | apply Z7 | apply Z8 | apply Z9 | apply ZA | apply ZB | apply ZC | ((first | apply ZD (by decide) | apply ZN (by decide)); (simp (maxSteps := 9999999) only [go_sem, argR, lb, c35, c31, c49, c50, c1, c2, c2', c39, c51, g1, g2, aw]; rfl)) | (refine ZE ?_ ?_; · simp only [go_sem]) | (refine ZF ?_ ?_; · simp only [go_sem]))
          exact end_nil (fin _ (by simp only [go_sem]))
    · rw [if_neg c3] at c51
      rw [decide_eq_false c3] at c39
      have m43 := moves43_sup P2 hEl he I2 hsl c3
      have m45 := do45_sup (wv := .slice none 0 0) P2 hEl he I2 hsl c3
      have m42 := covers_bad (openAt_sup P2 hEl he I2 hsl c3 0) (by decide)
      have oo := openAt_sup P2 hEl he I2 hsl c3 goal
      have m28 := plan_bad oo (by decide)
      have m36 := isPlan_bad (a5 := .slice none 0 0) oo (by decide)
      have m18 := most_bad oo (by decide)
      have w0 : IntKind.i64.wrap 0 = 0 := rfl
      repeat (first | apply Z1 | apply Z2 | apply Z3 | apply Z4 | apply Z5 rfl | apply Z6 | apply Z7 | apply Z8 | apply Z9 | apply ZA | apply ZB | apply ZC | ((first | apply ZD (by decide) | apply ZN (by decide)); (simp (maxSteps := 9999999) only [go_sem, argR, lb, c35, c31, c49, c50, c1, c2, c2', c39, c51, m43, m45, m42, m28, m36, m18, w0, aw]; rfl)) | (refine ZE ?_ ?_; · simp only [go_sem]) | (refine ZF ?_ ?_; · simp only [go_sem]))
      exact end_nil (fin _ (by simp only [go_sem]))
  · have m26 := number_err P2 hEl he goal
    have m37 := poor_err P2 hEl he goal
    have m27 := far_err P2 hEl he goal
    have m20 := parts_err P2 hEl he goal
    have m21 := treeNumber_err P2 hEl he goal
    have m48 := cover_err P2 hEl he
    have w0 : IntKind.i64.wrap 0 = 0 := rfl
    have m43 := moves43_err P2 hEl he I2
    have m45 := do45_err (wv := .slice none 0 0) P2 hEl he I2
    have m42 := covers_bad (openAt_err P2 hEl he I2 0) he
    have m28 := plan_bad (openAt_err P2 hEl he I2 goal) he
    have m36 := isPlan_bad (a5 := .slice none 0 0) (openAt_err P2 hEl he I2 goal) he
    have m18 := most_bad (openAt_err P2 hEl he I2 goal) he
    generalize errG N E = er at *
    by_cases c1 : N < 1
    · rw [if_pos (.inl c1)] at c51
      repeat (first | apply Z1 | apply Z2 | apply Z3 | apply Z4 | apply Z5 rfl | apply Z6 | apply Z7 | apply Z8 | apply Z9 | apply ZA | apply ZB | apply ZC | ((first | apply ZD (by decide) | apply ZN (by decide)); (simp (maxSteps := 9999999) only [go_sem, argR, lb, c35, c31, c49, c50, he, m26, m37, m27, m20, m21, m48, w0, c1, c51, m43, m45, m42, m28, m36, m18, aw]; rfl)) | (refine ZE ?_ ?_; · simp only [go_sem]) | (refine ZF ?_ ?_; · simp only [go_sem]))
      exact end_nil (fin _ (by simp only [go_sem]))
    · by_cases c2 : 6 < N
      · have c2' : N > 6 := c2
        rw [if_pos (.inr c2)] at c51
        repeat (first | apply Z1 | apply Z2 | apply Z3 | apply Z4 | apply Z5 rfl | apply Z6 | apply Z7 | apply Z8 | apply Z9 | apply ZA | apply ZB | apply ZC | ((first | apply ZD (by decide) | apply ZN (by decide)); (simp (maxSteps := 9999999) only [go_sem, argR, lb, c35, c31, c49, c50, he, m26, m37, m27, m20, m21, m48, w0, c1, c2, c2', c51, m43, m45, m42, m28, m36, m18, aw]; rfl)) | (refine ZE ?_ ?_; · simp only [go_sem]) | (refine ZF ?_ ?_; · simp only [go_sem]))
        exact end_nil (fin _ (by simp only [go_sem]))
      · have c2' : ¬ N > 6 := c2
        rw [if_neg (by omega)] at c51
        by_cases c3 : SupOK N s
        · rw [if_pos c3] at c51
          rw [decide_eq_true c3] at c39
          repeat (first | apply Z1 | apply Z2 | apply Z3 | apply Z4 | apply Z5 rfl | apply Z6 | apply Z7 | apply Z8 | apply Z9 | apply ZA | apply ZB | apply ZC | ((first | apply ZD (by decide) | apply ZN (by decide)); (simp (maxSteps := 9999999) only [go_sem, argR, lb, c35, c31, c49, c50, he, m26, m37, m27, m20, m21, m48, w0, c1, c2, c2', c39, c51, m43, m45, m42, m28, m36, m18, aw]; rfl)) | (refine ZE ?_ ?_; · simp only [go_sem]) | (refine ZF ?_ ?_; · simp only [go_sem]))
          exact end_nil (fin _ (by simp only [go_sem]))
        · rw [if_neg c3] at c51
          rw [decide_eq_false c3] at c39
          repeat (first | apply Z1 | apply Z2 | apply Z3 | apply Z4 | apply Z5 rfl | apply Z6 | apply Z7 | apply Z8 | apply Z9 | apply ZA | apply ZB | apply ZC | ((first | apply ZD (by decide) | apply ZN (by decide)); (simp (maxSteps := 9999999) only [go_sem, argR, lb, c35, c31, c49, c50, he, m26, m37, m27, m20, m21, m48, w0, c1, c2, c2', c39, c51, m43, m45, m42, m28, m36, m18, aw]; rfl)) | (refine ZE ?_ ?_; · simp only [go_sem]) | (refine ZF ?_ ?_; · simp only [go_sem]))
          exact end_nil (fin _ (by simp only [go_sem]))
end Go.Proofs.YtpkhkghiidilcaaDoor.Sh

namespace Go.Proofs.YtpkhkghiidilcaaDoor
open Go Go.RowKit Sh
set_option maxRecDepth 100000
theorem supplyChecks.walk {N : Int} {a1 a2 : Option Addr} {n1 n2 c1 c2 : Nat} {X : List (Int × Int)} {l : List Int} (W : World) (hg : GlobW Tryd.prog W) (h1 : IsPrs W a1 n1 c1 X) (h2 : IsIntsW W a2 n2 c2 l) (goal : Int) :
    Calls Tryd.prog 14 #[.agg #[.int .i64 N, .slice a1 n1 c1], .slice a2 n2 c2, .int .i64 goal] W (fun e W' => e = .returned (.bool true) ∧ Below W.heap.size W W') := by
  obtain ⟨x1, b1, r1, k1⟩ := prs_arg h1
  obtain ⟨x2, b2, r2, k2⟩ := ints_arg h2
  obtain ⟨u1, v1, p1⟩ := k1 [] b2
  obtain ⟨u2, v2, p2⟩ := k2 b1 []
  simp only [List.nil_append, List.append_nil, List.append_assoc] at v1 p1 v2 p2
  exact walk_rel mixed tab (flatK_ok CA_ok) (Rel.ro hg (r1.app r2)) (LR.cons (VR.agg2 (.int _ _) v1) (LR.cons v2 (LR.cons (.int _ _) (LR.nil _)))) (law14M p1 x1 p2 x2) rfl
end Go.Proofs.YtpkhkghiidilcaaDoor

