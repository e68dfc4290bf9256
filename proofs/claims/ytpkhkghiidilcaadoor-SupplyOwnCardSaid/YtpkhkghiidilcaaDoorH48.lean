/- Arguments of the laws: graphs. -/
import Derived.Test.YtpkhkghiidilcaaDoorH45
import Derived.Test.YtpkhkghiidilcaaDoorH47
import Derived.WideShapes
import Derived.Test.YtpkhkghiidilcaaDoorH46
import Derived.ChangeArms
set_option linter.all false
namespace Go.Proofs.YtpkhkghiidilcaaDoor.Sh
open Go Go.RowKit Go.WideShapes Go.ChangeShapes
set_option maxRecDepth 100000
theorem u24 : ∃ f0 f1 : Field, Tryd.prog.underlying 24 = some (.struct #[f0, f1]) ∧ f0.type = 3 ∧ f0.offset = 0 ∧ f1.type = 22 ∧ f1.offset = 1 := st2_ok (by kernel_rfl)
theorem ct24 : Tryd.prog.cellTypes Tryd.prog.depth 24 = some [3, 22] := by kernel_rfl
theorem cells24 : Tryd.prog.cellsOf 24 = 2 := by kernel_rfl
theorem cells22 : Tryd.prog.cellsOf 22 = 1 := by kernel_rfl
theorem cells45 : Tryd.prog.cellsOf 45 = 2 := by kernel_rfl
theorem u22 : Tryd.prog.underlying 22 = some (.slice 45) := by kernel_rfl
theorem u45 : Tryd.prog.underlying 45 = some (.array 2 3) := by kernel_rfl
theorem u25 : Tryd.prog.underlying 25 = some (.slice 3) := by kernel_rfl
theorem open_graph {H : Type} {enc : TypeId × Value → H} {W : World} {base b0 : Nat} {spare : Nat → Bool} {held : Bool} {v : Value} {d : DataW H} {ps : List MemPlace}
    (hval : Value.okWide Tryd.prog W .any b0 24 v) (h : DataW.Trod enc Tryd.prog W base spare held 24 v d ps) : ∃ N a len cap X, v = .agg #[.int .i64 N, .slice a len cap] ∧ IsPrs W a len cap X := by
  obtain ⟨f0, f1, hu, t0, o0, t1, o1⟩ := u24
  simp only [Value.okWide, hu] at hval
  obtain ⟨cs, rfl, hsz, ts, hts, _, hrow⟩ := hval
  rw [ct24] at hts
  cases hts
  obtain ⟨fuel, hf⟩ := h
  have hf' : DataW.trod enc Tryd.prog W base spare held fuel 24 cs.toList = some (d, ps) := hf
  obtain ⟨y0, y1, n, hx, hl, h0, h1⟩ := trod_struct2 hu hf'
  rw [cells24] at hl
  rw [t0, o0, cells3] at h0
  rw [t1, o1, cells22] at h1
  match hcs : cs.toList, hl with
  | [c0, c1], _ =>
    rw [hcs] at h0 h1
    simp only [List.drop_zero, List.drop_succ_cons, List.take_succ_cons, List.take_zero] at h0 h1
    obtain ⟨n0, e0, _, _⟩ := DataW.trod_int u3 h0
    simp only [List.cons.injEq, and_true] at e0
    have e2 : cs = #[c0, c1] := Array.ext' hcs
    obtain ⟨u, hu1, hok⟩ := hrow 1 c1 (by rw [e2]; rfl)
    cases hu1
    have hv1 : Value.okWide Tryd.prog W .any b0 22 c1 := by simp only [Value.okWide, u22]; exact hok
    obtain ⟨a, len, cap, rfl⟩ := okWide_slice u22 hv1
    obtain ⟨X, hX⟩ := isPrs_of u22 u45 u3 cells45 cells3 hv1 (⟨n, h1⟩ : DataW.Trod enc Tryd.prog W base spare held 22 (.slice a len cap) y1.1 y1.2)
    exact ⟨n0, a, len, cap, X, by rw [e2, e0], hX⟩
end Go.Proofs.YtpkhkghiidilcaaDoor.Sh

namespace Go.Proofs.YtpkhkghiidilcaaDoor.Sh
open Go
set_option maxRecDepth 100000
set_option maxHeartbeats 4000000
theorem few31 {H : SHeap} {v : Value} {X : List Int} (hv : ISc H v X) (hlen : X.length ≤ 9223372036854775807) {most : Nat} (hm : most ≤ 1000) :
    M.call 31 [v, .int .i64 most] H = some (resV H (X.take most).length 1, resH H ((X.take most).map mkI) (X.take most).length 3, []) := by
  refine call_run sf31 rfl rfl rfl ?_
  obtain ⟨a, c, rfl, hc, ha⟩ := hv
  have hmin : (if (most : Int) < X.length then (most : Int) else X.length) = (((X.take most).length : Nat) : Int) := by
    rw [List.length_take]; split <;> omega
  have hk : (X.take most).length ≤ X.length := by rw [List.length_take]; omega
  have hk2 : (X.take most).length ≤ 1000 := by rw [List.length_take]; omega
  have sl := slice_to' (a := a) hk hc (by rcases ha with ⟨h1, h2, _⟩ | ⟨b, o, h1, _⟩; exact .inl ⟨h1, h2⟩; exact .inr ⟨b, o, h1⟩)
  unfold sf31
  by_cases c0 : (X.take most).length = 0
  · have ap := fun base d => append_nil0 (h := H) (a := a) (c := c) (s := 1) (bytes := 8) (el := 3) c0 base d
    have e : X.take most = [] := List.length_eq_zero_iff.1 c0
    generalize (X.take most).length = k at *
    repeat (first | apply Z1 | apply Z2 | apply Z3 | apply Z4 | apply Z5 rfl | apply Z6 | apply Z7 | apply Z8 | apply Z9 | apply ZA | apply ZB | apply ZC | ((first | apply ZD (by decide) | apply ZN (by decide)); (simp (maxSteps := 9999999) only [go_sem, argR, hmin, ↓sl, ↓ap]; rfl)) | (refine ZE ?_ ?_; · simp only [go_sem]) | (refine ZF ?_ ?_; · simp only [go_sem]))
    rw [e, c0]
    exact end_nil (q_free [.slice none 0 0] (by simp only [go_sem]) rfl rfl rfl (fun _ => rfl) (take_self _) rfl)
  · rcases ha with ⟨_, _, rfl⟩ | ⟨b, o, rfl, hp⟩
    · simp at c0
    · have hne : X ≠ [] := fun e => by rw [e] at c0; simp at c0
      have hil : IL H b o (X.take most) := fun i hi => by
        have hi2 : i < X.length := by rw [List.length_take] at hi; omega
        rw [(hp hne).2 i hi2]; simp
      have hr := hil.rdN (fun e => c0 (by rw [e]; rfl))
      have ap := fun base d => append_nilS (bytes := 8) (el := 3) (c := c) c0 hr (mkI_sc _) (by decide) (by omega) base d
      rw [← resV_pos H 1 c0, ← resH_pos H ((X.take most).map mkI) 3 c0]
      generalize (X.take most).length = k at *
      generalize (X.take most).map mkI = cs at *
      repeat (first | apply Z1 | apply Z2 | apply Z3 | apply Z4 | apply Z5 rfl | apply Z6 | apply Z7 | apply Z8 | apply Z9 | apply ZA | apply ZB | apply ZC | ((first | apply ZD (by decide) | apply ZN (by decide)); (simp (maxSteps := 9999999) only [go_sem, argR, hmin, ↓sl, ↓ap]; rfl)) | (refine ZE ?_ ?_; · simp only [go_sem]) | (refine ZF ?_ ?_; · simp only [go_sem]))
      exact end_nil (q_own1 (b := H.length) (old := []) (own := 0) (by simp only [go_sem]) (by simp) (by rw [app_get0]; rfl) rfl (Nat.le_refl _))
end Go.Proofs.YtpkhkghiidilcaaDoor.Sh

namespace Go.Proofs.YtpkhkghiidilcaaDoor.Sh
open Go
set_option maxRecDepth 100000
set_option maxHeartbeats 4000000
section
variable {H : SHeap} {v sv wv : Value} {E : List (Int × Int)} {l : List Int} {n : Int}
end
end Go.Proofs.YtpkhkghiidilcaaDoor.Sh

namespace Go.Proofs.YtpkhkghiidilcaaDoor.Sh
open Go
set_option maxRecDepth 100000
set_option maxHeartbeats 4000000
end Go.Proofs.YtpkhkghiidilcaaDoor.Sh

namespace Go.Proofs.YtpkhkghiidilcaaDoor.Sh
open Go Go.RowKit Go.WideShapes Go.ChangeShapes
set_option maxRecDepth 100000
def st3 (d : Option TypeDesc) (t0 o0 t1 o1 t2 o2 : Nat) : Bool := match d with
  | some (.struct fs) => match fs.toList with
    | [f0, f1, f2] => Nat.beq f0.type t0 && Nat.beq f0.offset o0 && Nat.beq f1.type t1 && Nat.beq f1.offset o1 && Nat.beq f2.type t2 && Nat.beq f2.offset o2
    | _ => false
  | _ => false
end Go.Proofs.YtpkhkghiidilcaaDoor.Sh

namespace Go.Proofs.YtpkhkghiidilcaaDoor.Sh
open Go
set_option maxRecDepth 100000
set_option maxHeartbeats 4000000
section
variable {H : SHeap} {N : Int} {ev lv : Value} {X : List (Int × Int)} {l : List Int}
theorem broughtS {H1 : SHeap} {n : Nat} (hn1 : 1 ≤ n) (hn : n ≤ 6) (hv : IS H1 lv l) (hlen : l.length ≤ 9223372036854775807) {most : Nat} (hm : most ≤ 1000) :
    ∃ s : Nat → Int, ST n s most ∧ M.call 16 [lv, .int .i64 n, .int .i64 most] H1 = some (.slice (some ⟨H1.length, 0, none⟩) n (UNK + 1), H1 ++ [.cells (iV n s) 3 true 0 []], []) ∧
      IS (H1 ++ [.cells (iV n s) 3 true 0 []]) (.slice (some ⟨H1.length, 0, none⟩) n (UNK + 1)) (lst n s) := by
  obtain ⟨s, S, c16⟩ := brought16 hn hv hlen (most := most) hm
  rw [← resV_pos H1 1 (show n ≠ 0 by omega), ← resH_pos H1 _ 3 (show n ≠ 0 by omega)] at c16
  exact ⟨s, S, c16, IS.lstAt (by rw [List.getElem?_append_right (Nat.le_refl _), Nat.sub_self]; rfl) rfl⟩
theorem fewS {n b : Nat} (hn1 : 1 ≤ n) (hn : n ≤ 6) {s : Nat → Int} (hb : H[b]? = some (.cells (iV n s) 3 true 0 [])) : M.call 31 [.slice (some ⟨b, 0, none⟩) n (UNK + 1), .int .i64 n] H = some (.slice (some ⟨H.length, 0, none⟩) n (UNK + 1), H ++ [.cells (iV n s) 3 true 0 []], []) := by
  have is : IS H (.slice (some ⟨b, 0, none⟩) n (UNK + 1)) (lst n s) := IS.lstAt hb rfl
  have ll := lst_len n s
  obtain ⟨a, c, e1, k⟩ := is
  have hne : lst n s ≠ [] := fun e => by rw [e] at ll; simp at ll; omega
  obtain ⟨b', o, e2, k1, k2⟩ := k hne
  have c31 := few31 (H := H) (v := .slice (some ⟨b, 0, none⟩) n (UNK + 1)) (X := lst n s) ⟨a, c, e1, by
    rw [ll] at e1 ⊢
    simp at e1
    exact .inr e1.2.symm, .inr ⟨b', o, e2, fun _ => ⟨k1, k2⟩⟩⟩ (by rw [ll]; omega) (most := n) (by omega)
  have ht : (lst n s).take n = lst n s := List.take_of_length_le (by rw [ll]; exact Nat.le_refl _)
  rw [ht, ll, ← resV_pos H 1 (show n ≠ 0 by omega), ← resH_pos H _ 3 (show n ≠ 0 by omega), map_stk ll] at c31
  have e : iV n (stk (lst n s)) = iV n s := iV_congr (fun v hv => lst_at s hv)
  rw [e] at c31
  exact c31
theorem planS {n : Nat} {E : List (Int × Int)} {g : Nat} {v sv : Value} {s : Nat → Int} (hv : PS H v E) (hlen : E.length ≤ 1000000) (he : errG n E = 0) (hs : IS H sv (lst n s)) (S : ST n s 40) (hn : n ≤ 6) (hg : g < n) :
    ∃ (ok : Bool) (P : List (Nat × Nat)) (a : Option Addr) (c : Nat) (H4 : SHeap), M.call 28 [.int .i64 n, v, sv, .int .i64 g] H = some (.tuple #[.slice a P.length c, .bool ok, .int .i64 0], H4, []) ∧ (ok = true ↔ 0 < mx n E g s) ∧ (ok = true → ∃ t, doM n E s (castE P) = (t, P.length) ∧ 0 < t g) ∧ (ok = false → P = []) ∧ P.length ≤ 40 ∧
      H.length ≤ H4.length ∧ (∀ j, j < H.length → H4[j]? = H[j]?) ∧ PS H4 (.slice a P.length c) (castE P) := by
  have h := plan28 hv hlen he hs (by rw [lst_len]; omega) (S.sup hn) hg
  rw [stk_lst S] at h
  rcases h with ⟨h1, h2⟩ | ⟨h1, P, t, h2, h3, h4, h5⟩
  · exact ⟨false, [], none, 0, H, h2, ⟨(fun h => by cases h), fun h => by omega⟩, (fun h => by cases h), fun _ => rfl, by simp, Nat.le_refl _, fun j _ => rfl, none, 0, rfl, fun h => (h rfl).elim⟩
  · obtain ⟨k1, k2⟩ := resH_fr H (prN P) P.length 45
    have ps := PS_res H P 45
    obtain ⟨a, c, e, k⟩ := id ps
    rw [castE_len] at e
    rw [e] at h5 ps
    exact ⟨true, P, a, c, _, h5, ⟨fun _ => h1, fun _ => rfl⟩, fun _ => ⟨t, h2, h3⟩, (fun h => by cases h), h4, k1, k2, ps⟩
end
end Go.Proofs.YtpkhkghiidilcaaDoor.Sh

namespace Go.Proofs.YtpkhkghiidilcaaDoor.Sh
open Go
set_option maxRecDepth 100000
set_option maxHeartbeats 4000000
theorem edg_15 {n : Nat} {f : Nat → Bool} (T : T1 n f) : (edg f 36).length ≤ 15 := by
  have key : ∀ k, (edg f k).length ≤ ((List.range k).filter fun i => decide (i / 6 < i % 6)).length := by
    intro k
    induction k with
    | zero => exact Nat.le_refl _
    | succ k ih =>
      rw [List.range_succ, List.filter_append, List.length_append]
      show (edg f k ++ if f k = true then [(k / 6, k % 6)] else []).length ≤ _
      rw [List.length_append]
      by_cases c : f k = true
      · have := T.lt _ c
        rw [if_pos c, List.filter_cons, if_pos (by simpa using this.2.1)]
        simp; omega
      · rw [if_neg c]
        simp; omega
  have := key 36
  have e : ((List.range 36).filter fun i => decide (i / 6 < i % 6)).length = 15 := by decide
  omega
structure OW (H5 : SHeap) (bm bd bp m n : Nat) (h : SHeap) : Prop where
  low : ∀ j, j < H5.length → h[j]? = H5[j]?
  le : H5.length ≤ h.length
  m1 : m ≠ 0 → ∃ cs, h[bm]? = some (.cells cs 45 true 0 []) ∧ cs.length = m * 2
  d1 : ∃ cs, h[bd]? = some (.cells cs 3 true 0 []) ∧ cs.length = n
  p1 : ∃ cs, h[bp]? = some (.cells cs 3 true 0 []) ∧ cs.length = n
section
variable {H5 : SHeap} {bm bd bp m n : Nat}
theorem own_pairs (cx : Cx) (h1 : m ≠ 0 → H5.length ≤ bm ∧ bm < bd) (h2 : H5.length ≤ bd) (h3 : bd < bp) (hm : m ≤ 1000) {ρ0 : Reg} (r12 : ρ0 12 = if m = 0 then .slice none 0 0 else .slice (some ⟨bm, 0, none⟩) m (UNK + 2)) :
    ∀ k ρ ms h' d', (∃ i : Nat, i + k = m ∧ (∀ r, r < 22 → ρ r = ρ0 r) ∧ ρ 22 = .int .i64 i ∧ ms = [] ∧ OW H5 bm bd bp m n h' ∧ d' = []) →
    LoopW M cx 8 sf12L3 ρ ms h' d' (fun ex ρ' ms' h' d' => ms' = [] ∧ d' = [] ∧ ex = .exit 0 ∧ (∀ r, r < 22 → ρ' r = ρ0 r) ∧ OW H5 bm bd bp m n h') := by
  refine loop_run _ ?_
  rintro k ρ ms h' d' ⟨i, hk, hreg, r22, rfl, W, rfl⟩
  have r12' := (hreg 12 (by decide)).trans r12
  unfold sf12L3
  by_cases c : k = 0
  · by_cases c0 : m = 0
    · rw [if_pos c0] at r12'
      have e1 : ¬ ((i : Int) < (0 : Nat)) := by omega
      have e1' : ¬ ((i : Int) < 0) := by omega
      repeat (first | apply Z1 | apply Z2 | apply Z3 | apply Z4 | apply Z5 rfl | apply Z6 | apply Z7 | apply Z8 | apply Z9 | apply ZA | apply ZB | apply ZC | ((first | apply ZD (by decide) | apply ZN (by decide)); (simp (maxSteps := 9999999) only [go_sem, r12', r22, e1, e1']; rfl)) | (refine ZE ?_ ?_; · simp only [go_sem]) | (refine ZF ?_ ?_; · simp only [go_sem]))
      exact end_nil ⟨rfl, rfl, rfl, fun r hr => by simp only [upd_get]; (repeat rw [if_neg (by omega)]); exact hreg r hr, W⟩
    · rw [if_neg c0] at r12'
      have e1 : ¬ ((i : Int) < m) := by omega
      repeat (first | apply Z1 | apply Z2 | apply Z3 | apply Z4 | apply Z5 rfl | apply Z6 | apply Z7 | apply Z8 | apply Z9 | apply ZA | apply ZB | apply ZC | ((first | apply ZD (by decide) | apply ZN (by decide)); (simp (maxSteps := 9999999) only [go_sem, r12', r22, e1]; rfl)) | (refine ZE ?_ ?_; · simp only [go_sem]) | (refine ZF ?_ ?_; · simp only [go_sem]))
      exact end_nil ⟨rfl, rfl, rfl, fun r hr => by simp only [upd_get]; (repeat rw [if_neg (by omega)]); exact hreg r hr, W⟩
  · rw [if_neg (by omega)] at r12'
    have h1' := h1 (by omega)
    have e1 : ((i : Int) < m) := by omega
    have e2 : (0 : Int) ≤ i := by omega
    have ew : IntKind.i64.wrap ((i : Int) + 1) = ((i + 1 : Nat) : Int) := by rw [wrap64 (by omega) (by omega)]; rfl
    obtain ⟨cs, w1, w2⟩ := W.m1 (by omega)
    have hl := (List.getElem?_eq_some_iff.1 w1).1
    have st : ∀ base, storeS base h' [] bm (i * 2) (cellsL (.agg #[.int .i64 (-7), .int .i64 (-7)])) = some (h'.set bm (.cells (writeAt cs (i * 2) [.int .i64 (-7), .int .i64 (-7)]) 45 true 0 []), []) := fun base => by
      show storeS base h' [] bm (i * 2) [.int .i64 (-7), .int .i64 (-7)] = _
      rw [store_def, w1]
      dsimp only
      have q1 : Nat.ble (i * 2 + 2) cs.length = true := by rw [ble_dec]; exact decide_eq_true (by omega)
      have q2 : Nat.ble (i * 2 + [Value.int .i64 (-7), Value.int .i64 (-7)].length) cs.length = true := q1
      rw [q2]
      rfl
    have hlen : (writeAt cs (i * 2) [.int .i64 (-7), .int .i64 (-7)]).length = m * 2 := by
      show ((cs.set (i * 2) _).set (i * 2 + 1) _).length = _
      simp [w2]
    have W2 : OW H5 bm bd bp m n (h'.set bm (.cells (writeAt cs (i * 2) [.int .i64 (-7), .int .i64 (-7)]) 45 true 0 [])) :=
      ⟨fun j hj => by rw [List.getElem?_set_ne (by omega)]; exact W.low j hj, by simp; exact W.le, fun _ => ⟨_, by rw [List.getElem?_set_self hl], hlen⟩, by rw [List.getElem?_set_ne (by omega)]; exact W.d1, by rw [List.getElem?_set_ne (by omega)]; exact W.p1⟩
    generalize writeAt cs (i * 2) [.int .i64 (-7), .int .i64 (-7)] = cs2 at *
    repeat (first | apply Z1 | apply Z2 | apply Z3 | apply Z4 | apply Z5 rfl | apply Z6 | apply Z7 | apply Z8 | apply Z9 | apply ZA | apply ZB | apply ZC | ((first | apply ZD (by decide) | apply ZN (by decide)); (simp (maxSteps := 9999999) only [go_sem, r12', r22, e1, e2, ↓st, ew, Int.toNat_natCast]; rfl)) | (refine ZE ?_ ?_; · simp only [go_sem]) | (refine ZF ?_ ?_; · simp only [go_sem]))
    exact end_nil ⟨k - 1, by omega, i + 1, by omega, fun r hr => by simp only [upd_get]; (repeat rw [if_neg (by omega)]); exact hreg r hr, by simp only [go_sem, ew], rfl, W2, rfl⟩
theorem own_d (cx : Cx) (h1 : m ≠ 0 → H5.length ≤ bm ∧ bm < bd) (h2 : H5.length ≤ bd) (h3 : bd < bp) (hn : n ≤ 6) {ρ0 : Reg} (r14 : ρ0 14 = .slice (some ⟨bd, 0, none⟩) n (UNK + 1)) :
    ∀ k ρ ms h' d', (∃ i : Nat, i + k = n ∧ (∀ r, r < 22 → ρ r = ρ0 r) ∧ ρ 23 = .int .i64 i ∧ ms = [] ∧ OW H5 bm bd bp m n h' ∧ d' = []) →
    LoopW M cx 8 sf12L2 ρ ms h' d' (fun ex ρ' ms' h' d' => ms' = [] ∧ d' = [] ∧ ex = .exit 2 ∧ (∀ r, r < 22 → ρ' r = ρ0 r) ∧ OW H5 bm bd bp m n h') := by
  refine loop_run _ ?_
  rintro k ρ ms h' d' ⟨i, hk, hreg, r23, rfl, W, rfl⟩
  have r14' := (hreg 14 (by decide)).trans r14
  unfold sf12L2
  by_cases c : k = 0
  · have e1 : ¬ ((i : Int) < n) := by omega
    repeat (first | apply Z1 | apply Z2 | apply Z3 | apply Z4 | apply Z5 rfl | apply Z6 | apply Z7 | apply Z8 | apply Z9 | apply ZA | apply ZB | apply ZC | ((first | apply ZD (by decide) | apply ZN (by decide)); (simp (maxSteps := 9999999) only [go_sem, r14', r23, e1]; rfl)) | (refine ZE ?_ ?_; · simp only [go_sem]) | (refine ZF ?_ ?_; · simp only [go_sem]))
    exact end_nil ⟨rfl, rfl, rfl, fun r hr => by simp only [upd_get]; (repeat rw [if_neg (by omega)]); exact hreg r hr, W⟩
  · have e1 : ((i : Int) < n) := by omega
    have e2 : (0 : Int) ≤ i := by omega
    have ew : IntKind.i64.wrap ((i : Int) + 1) = ((i + 1 : Nat) : Int) := by rw [wrap64 (by omega) (by omega)]; rfl
    obtain ⟨cs, w1, w2⟩ := W.d1
    have hl := (List.getElem?_eq_some_iff.1 w1).1
    have st : ∀ base, storeS base h' [] bd i (cellsL (.int .i64 (-7))) = some (h'.set bd (.cells (cs.set i (.int .i64 (-7))) 3 true 0 []), []) := fun base => by
      have := store_cell (h := h') (base := base) (b := bd) (o := i) (c := .int .i64 (-7)) w1 (by omega) rfl (fun _ => rfl) []
      rw [cells_int, this]; rfl
    have W2 : OW H5 bm bd bp m n (h'.set bd (.cells (cs.set i (.int .i64 (-7))) 3 true 0 [])) :=
      ⟨fun j hj => by rw [List.getElem?_set_ne (by omega)]; exact W.low j hj, by simp; exact W.le, fun hm => by have := h1 hm; rw [List.getElem?_set_ne (by omega)]; exact W.m1 hm, ⟨_, by rw [List.getElem?_set_self hl], by simp [w2]⟩, by rw [List.getElem?_set_ne (by omega)]; exact W.p1⟩
    repeat (first | apply Z1 | apply Z2 | apply Z3 | apply Z4 | apply Z5 rfl | apply Z6 | apply Z7 | apply Z8 | apply Z9 | apply ZA | apply ZB | apply ZC | ((first | apply ZD (by decide) | apply ZN (by decide)); (simp (maxSteps := 9999999) only [go_sem, r14', r23, e1, e2, ↓st, ew, Int.toNat_natCast]; rfl)) | (refine ZE ?_ ?_; · simp only [go_sem]) | (refine ZF ?_ ?_; · simp only [go_sem]))
    exact end_nil ⟨k - 1, by omega, i + 1, by omega, fun r hr => by simp only [upd_get]; (repeat rw [if_neg (by omega)]); exact hreg r hr, by simp only [go_sem, ew], rfl, W2, rfl⟩
theorem own_p (cx : Cx) (h1 : m ≠ 0 → H5.length ≤ bm ∧ bm < bd) (h2 : H5.length ≤ bd) (h3 : bd < bp) (hn : n ≤ 6) {ρ0 : Reg} (r17 : ρ0 17 = .slice (some ⟨bp, 0, none⟩) n (UNK + 1)) :
    ∀ k ρ ms h' d', (∃ i : Nat, i + k = n ∧ (∀ r, r < 22 → ρ r = ρ0 r) ∧ ρ 24 = .int .i64 i ∧ ms = [] ∧ OW H5 bm bd bp m n h' ∧ d' = []) →
    LoopW M cx 8 sf12L1 ρ ms h' d' (fun ex ρ' ms' h' d' => ms' = [] ∧ d' = [] ∧ ex = .exit 4 ∧ (∀ r, r < 22 → ρ' r = ρ0 r) ∧ OW H5 bm bd bp m n h') := by
  refine loop_run _ ?_
  rintro k ρ ms h' d' ⟨i, hk, hreg, r24, rfl, W, rfl⟩
  have r17' := (hreg 17 (by decide)).trans r17
  unfold sf12L1
  by_cases c : k = 0
  · have e1 : ¬ ((i : Int) < n) := by omega
    repeat (first | apply Z1 | apply Z2 | apply Z3 | apply Z4 | apply Z5 rfl | apply Z6 | apply Z7 | apply Z8 | apply Z9 | apply ZA | apply ZB | apply ZC | ((first | apply ZD (by decide) | apply ZN (by decide)); (simp (maxSteps := 9999999) only [go_sem, r17', r24, e1]; rfl)) | (refine ZE ?_ ?_; · simp only [go_sem]) | (refine ZF ?_ ?_; · simp only [go_sem]))
    exact end_nil ⟨rfl, rfl, rfl, fun r hr => by simp only [upd_get]; (repeat rw [if_neg (by omega)]); exact hreg r hr, W⟩
  · have e1 : ((i : Int) < n) := by omega
    have e2 : (0 : Int) ≤ i := by omega
    have ew : IntKind.i64.wrap ((i : Int) + 1) = ((i + 1 : Nat) : Int) := by rw [wrap64 (by omega) (by omega)]; rfl
    obtain ⟨cs, w1, w2⟩ := W.p1
    have hl := (List.getElem?_eq_some_iff.1 w1).1
    have st : ∀ base, storeS base h' [] bp i (cellsL (.int .i64 (-7))) = some (h'.set bp (.cells (cs.set i (.int .i64 (-7))) 3 true 0 []), []) := fun base => by
      have := store_cell (h := h') (base := base) (b := bp) (o := i) (c := .int .i64 (-7)) w1 (by omega) rfl (fun _ => rfl) []
      rw [cells_int, this]; rfl
    have W2 : OW H5 bm bd bp m n (h'.set bp (.cells (cs.set i (.int .i64 (-7))) 3 true 0 [])) :=
      ⟨fun j hj => by rw [List.getElem?_set_ne (by omega)]; exact W.low j hj, by simp; exact W.le, fun hm => by have := h1 hm; rw [List.getElem?_set_ne (by omega)]; exact W.m1 hm, by rw [List.getElem?_set_ne (by omega)]; exact W.d1, ⟨_, by rw [List.getElem?_set_self hl], by simp [w2]⟩⟩
    repeat (first | apply Z1 | apply Z2 | apply Z3 | apply Z4 | apply Z5 rfl | apply Z6 | apply Z7 | apply Z8 | apply Z9 | apply ZA | apply ZB | apply ZC | ((first | apply ZD (by decide) | apply ZN (by decide)); (simp (maxSteps := 9999999) only [go_sem, r17', r24, e1, e2, ↓st, ew, Int.toNat_natCast]; rfl)) | (refine ZE ?_ ?_; · simp only [go_sem]) | (refine ZF ?_ ?_; · simp only [go_sem]))
    exact end_nil ⟨k - 1, by omega, i + 1, by omega, fun r hr => by simp only [upd_get]; (repeat rw [if_neg (by omega)]); exact hreg r hr, by simp only [go_sem, ew], rfl, W2, rfl⟩
theorem own_same (cx : Cx) {H : SHeap} {av bv : Value} {X : List (Int × Int)} (ha : PS H av X) (hb : PS H bv X) (hlen : X.length ≤ 1000000) :
    ∀ k ρ ms h' d', (∃ i : Nat, i + k = X.length ∧ ρ 8 = av ∧ ρ 10 = bv ∧ ρ 27 = .int .i64 i ∧ ms = [] ∧ h' = H ∧ d' = []) →
    LoopW M cx 8 sf12L0 ρ ms h' d' (fun ex ρ' ms' h' d' => ex = .exit 6 ∧ ms' = [] ∧ h' = H ∧ d' = []) := by
  refine loop_run _ ?_
  rintro k ρ ms h' d' ⟨i, hk, r8, r10, r27, rfl, rfl, rfl⟩
  unfold sf12L0
  by_cases c : k = 0
  · have e1 : ¬ ((i : Int) < X.length) := by omega
    obtain ⟨va, vc, rfl, _⟩ := id ha
    repeat (first | apply Z1 | apply Z2 | apply Z3 | apply Z4 | apply Z5 rfl | apply Z6 | apply Z7 | apply Z8 | apply Z9 | apply ZA | apply ZB | apply ZC | ((first | apply ZD (by decide) | apply ZN (by decide)); (simp (maxSteps := 9999999) only [go_sem, r8, r27, e1]; rfl)) | (refine ZE ?_ ?_; · simp only [go_sem]) | (refine ZF ?_ ?_; · simp only [go_sem]))
    exact end_nil ⟨rfl, rfl, rfl, rfl⟩
  · have e1 : ((i : Int) < X.length) := by omega
    have e2 : (0 : Int) ≤ i := by omega
    have hi : i < X.length := by omega
    have hne : X ≠ [] := by intro e; rw [e] at hi; simp at hi
    have ew : IntKind.i64.wrap ((i : Int) + 1) = ((i + 1 : Nat) : Int) := by rw [wrap64 (by omega) (by omega)]; rfl
    obtain ⟨b1, o1, cp1, rfl, p1⟩ := ha.ld hne
    obtain ⟨b2, o2, cp2, rfl, p2⟩ := hb.ld hne
    have l1 := p1.loadN hi
    have l2 := p2.loadN hi
    have q := eqP X[i]
    generalize X[i] = y at *
    repeat (first | apply Z1 | apply Z2 | apply Z3 | apply Z4 | apply Z5 rfl | apply Z6 | apply Z7 | apply Z8 | apply Z9 | apply ZA | apply ZB | apply ZC | ((first | apply ZD (by decide) | apply ZN (by decide)); (simp (maxSteps := 9999999) only [go_sem, r8, r10, r27, e1, e2, l1, l2, ↓q, ew, Int.toNat_natCast]; rfl)) | (refine ZE ?_ ?_; · simp only [go_sem]) | (refine ZF ?_ ?_; · simp only [go_sem]))
    exact end_nil ⟨k - 1, by omega, i + 1, by omega, by simp only [go_sem, r8], by simp only [go_sem, r10], by simp only [go_sem, ew], rfl, rfl, rfl⟩
end
theorem PS_resC (H : SHeap) (L : List (Nat × Nat)) (el : TypeId) : PSc (resH H (prN L) L.length el) (resV H L.length 2) (castE L) := by
  rw [← castE_len L, prN_prs]
  by_cases c : (castE L).length = 0
  · have : castE L = [] := List.length_eq_zero_iff.1 c
    rw [this]
    exact ⟨none, 0, rfl, .inl ⟨Nat.le_refl _, by decide⟩, .inl ⟨rfl, by decide, rfl⟩⟩
  · unfold resH resV
    rw [if_neg c, if_neg c]
    exact ⟨some ⟨H.length, 0, none⟩, UNK + 2, rfl, .inr rfl, .inr ⟨H.length, 0, rfl, fun _ => Prs.mk0 (by rw [app_get0]; rfl) rfl⟩⟩
theorem law12M {H : SHeap} {N goal : Int} {ev lv : Value} {X : List (Int × Int)} {l : List Int} (hv : PS H ev X) (hX : X.length ≤ 9223372036854775807) (hl : IS H lv l) (hll : l.length ≤ 9223372036854775807) :
    M.call 12 [.agg #[.int .i64 N, ev], lv, .int .i64 goal] H = some (.bool true, H, []) := by
  refine call_run sf12 rfl rfl rfl ?_
  obtain ⟨n, f, T, c15⟩ := tame15 (H := H ++ [.cells [.int .i64 N, ev] 24 false 0 []]) (N := N) (hv.app _) hX (most := 6) (by decide) (by decide) false
  have he := T.err (by decide)
  obtain ⟨m0, em, hn1, hn, hE, hC⟩ := errG_ok he
  obtain rfl : n = m0 := by omega
  have h15 := edg_15 T.t1
  have PC := PS_resC (H ++ [.cells [.int .i64 N, ev] 24 false 0 []]) (edg f 36) 45
  have P1 := PC.ps
  obtain ⟨k1, k2⟩ := resH_fr (H ++ [.cells [.int .i64 N, ev] 24 false 0 []]) (prN (edg f 36)) (edg f 36).length 45
  generalize resH (H ++ [.cells [.int .i64 N, ev] 24 false 0 []]) (prN (edg f 36)) (edg f 36).length 45 = H1 at *
  generalize resV (H ++ [.cells [.int .i64 N, ev] 24 false 0 []]) (edg f 36).length 2 = xv at *
  have hEl : (castE (edg f 36)).length ≤ 15 := by rw [castE_len]; exact h15
  generalize castE (edg f 36) = E at *
  have F1 : H.length + 1 ≤ H1.length := by simpa using k1
  have G1 : ∀ j, j < H.length → H1[j]? = H[j]? := fun j hj => by rw [k2 j (by simp; omega), List.getElem?_append_left hj]
  have hEl' : E.length ≤ 1000000 := by omega
  obtain ⟨s, S, c16, I2⟩ := broughtS (H1 := H1) hn1 hn (hl.fr (by omega) G1) hll (most := 12) (by decide)
  have S40 := S.mono (B' := 40) (by decide)
  have PC2 := PC.fr (h := H1 ++ [.cells (iV n s) 3 true 0 []]) (fun j hj => List.getElem?_append_left hj)
  have F2 : H.length + 1 ≤ (H1 ++ [.cells (iV n s) 3 true 0 []] : SHeap).length := by simp; omega
  have G2 : ∀ j, j < H.length → (H1 ++ [.cells (iV n s) 3 true 0 []] : SHeap)[j]? = H[j]? := fun j hj => by rw [List.getElem?_append_left (by omega)]; exact G1 j hj
  have B2 : (H1 ++ [.cells (iV n s) 3 true 0 []] : SHeap)[H1.length]? = some (.cells (iV n s) 3 true 0 []) := by rw [app_get0]; rfl
  generalize hH2 : H1 ++ [.cells (iV n s) 3 true 0 []] = H2 at *
  generalize hb2 : H1.length = b2 at *
  have c35 := pairs35 PC2 (by omega) (most := 20) (by decide)
  rw [List.take_of_length_le (by omega : E.length ≤ 20)] at c35
  have PY := PS_resI H2 E 45
  obtain ⟨k3, k4⟩ := resH_fr H2 (prs E) E.length 45
  generalize resH H2 (prs E) E.length 45 = H3 at *
  generalize resV H2 E.length 2 = yv at *
  have hB2 := (List.getElem?_eq_some_iff.1 B2).1
  have B3 : H3[b2]? = some (.cells (iV n s) 3 true 0 []) := by rw [k4 _ hB2]; exact B2
  have c31 := fewS hn1 hn B3
  have P4 := (PC2.ps.fr k4).app [.cells (iV n s) 3 true 0 []]
  have PY4 := PY.app [.cells (iV n s) 3 true 0 []]
  have I4 := (I2.fr k3 k4).app [.cells (iV n s) 3 true 0 []]
  have T4 : IS (H3 ++ [.cells (iV n s) 3 true 0 []]) (.slice (some ⟨H3.length, 0, none⟩) n (UNK + 1)) (lst n s) := IS.lstAt (by rw [app_get0]; rfl) rfl
  have F4 : H.length + 1 ≤ (H3 ++ [.cells (iV n s) 3 true 0 []] : SHeap).length := by simp; omega
  have G4 : ∀ j, j < H.length → (H3 ++ [.cells (iV n s) 3 true 0 []] : SHeap)[j]? = H[j]? := fun j hj => by rw [List.getElem?_append_left (by omega), k4 j (by omega)]; exact G2 j hj
  generalize hH4 : H3 ++ [.cells (iV n s) 3 true 0 []] = H4 at *
  generalize hb3 : H3.length = b3 at *
  have hg := uR_lt goal (m := n) (by omega)
  have um := uR_eq goal (m := n) (by omega)
  have hwu : IntKind.u64.wrap (n : Int) = n := wrapU (by omega) (by omega)
  have hne : ¬ (n : Int) = 0 := by omega
  have w6 : IntKind.i64.wrap ((uR goal n : Nat) : Int) = ((uR goal n : Nat) : Int) := wrap64 (by omega) (by omega)
  generalize uR goal n = g at *
  have c43 := moves43 P4 hEl' he I4 (by rw [lst_len]; omega) (S40.sup hn)
  rw [stk_lst S] at c43
  have hML := MVL_len hn E s
  obtain ⟨k5, k6⟩ := resH_fr H4 (prN (MVL n E s)) (MVL n E s).length 45
  have hbk : (MVL n E s).length ≠ 0 → (resH H4 (prN (MVL n E s)) (MVL n E s).length 45)[H4.length]? = some (.cells (prN (MVL n E s)) 45 true 0 []) := fun h => by
    unfold resH
    rw [if_neg h, app_get0]; rfl
  have hmv : resV H4 (MVL n E s).length 2 = (if (MVL n E s).length = 0 then .slice none 0 0 else .slice (some ⟨H4.length, 0, none⟩) (MVL n E s).length (UNK + 2)) := rfl
  have hpl : (prN (MVL n E s)).length = (MVL n E s).length * 2 := by rw [prN_prs, prs_len, castE_len]; omega
  have hb5 : (MVL n E s).length ≠ 0 → H4.length < (resH H4 (prN (MVL n E s)) (MVL n E s).length 45).length := fun h => by
    unfold resH; rw [if_neg h]; simp
  generalize resH H4 (prN (MVL n E s)) (MVL n E s).length 45 = H5 at *
  generalize resV H4 (MVL n E s).length 2 = mv at *
  generalize prN (MVL n E s) = mcs at *
  generalize (MVL n E s).length = ml at *
  have P5 := P4.fr k6
  have I5 := I4.fr k5 k6
  have c45 := do45 (wv := .slice none 0 0) (w := []) P5 hEl' he I5 (by rw [lst_len]; omega) (S40.sup hn) ⟨none, 0, rfl, fun h => (h rfl).elim⟩ (by decide)
  rw [stk_lst S] at c45
  have ed : (doM n E s []) = (s, 0) := rfl
  rw [ed] at c45
  have P6 := P5.app [.cells (iV n s) 3 true 0 []]
  have I6 := I5.app [.cells (iV n s) 3 true 0 []]
  obtain ⟨p, U, pm, c37⟩ := poor37 P6 hEl' he hg
  have P7 := P6.app [.cells (iV n p) 3 true 0 []]
  have I7 := I6.app [.cells (iV n p) 3 true 0 []]
  obtain ⟨ok, P, pa, pc, H8, c28, _, _, _, hP, F8, G8, _⟩ := planS P7 hEl' he I7 S40 hn hg
  have hl6 : (H5 ++ [.cells (iV n s) 3 true 0 []] : SHeap).length = H5.length + 1 := by simp
  have hl7 : (H5 ++ [.cells (iV n s) 3 true 0 []] ++ [.cells (iV n p) 3 true 0 []] : SHeap).length = H5.length + 2 := by simp
  rw [hl7] at F8 G8
  rw [hl6] at c37
  simp only [List.append_assoc, List.cons_append, List.nil_append] at c28 c37
  have G8' : ∀ j, j < H5.length → H8[j]? = H5[j]? := fun j hj => by rw [G8 j (by omega), List.append_assoc, List.getElem?_append_left hj]
  have W0 : OW H4 H4.length H5.length (H5.length + 1) ml n H8 := by
    refine ⟨fun j hj => by rw [G8' j (by omega), k6 j hj], by omega, fun hm => ⟨mcs, by rw [G8' _ (hb5 hm)]; exact hbk hm, hpl⟩, ⟨_, by rw [G8 _ (by omega), List.append_assoc, app_get0]; rfl, iV_len _ _⟩, ⟨_, by rw [G8 _ (by omega), List.append_assoc, app_get]; rfl, iV_len _ _⟩⟩
  have lx : loadS (H ++ [.cells [.int .i64 N, ev] 24 false 0 []]) (some 2) (.pointer (some ⟨H.length, 0, none⟩)) = some (.agg #[.int .i64 N, ev]) := by rw [load_appN0]; rfl
  rw [show ((6 : Nat) : Int) = 6 from rfl] at c15
  rw [show ((12 : Nat) : Int) = 12 from rfl] at c16
  rw [show ((20 : Nat) : Int) = 20 from rfl] at c35
  obtain ⟨va, vc, rfl, _⟩ := id hv
  obtain ⟨xa, xc, rfl, _⟩ := id P4
  obtain ⟨ya, yc, rfl, _⟩ := id PY4
  unfold sf12
  repeat (first | apply Z1 | apply Z2 | apply Z3 | apply Z4 | apply Z5 rfl | apply Z6 | apply Z7 | apply Z8 | apply Z9 | apply ZA | apply ZB | apply ZC | ((first | apply ZD (by decide) | apply ZN (by decide)); (simp (maxSteps := 9999999) only [go_sem, argR, lx, c15, c16, c35, c31, hwu, um, w6, hne, c43, c45, c37, c28]; rfl)) | (refine ZE ?_ ?_; · simp only [go_sem]) | (refine ZF ?_ ?_; · simp only [go_sem]))
  refine run_loop (own_pairs _ (fun hm => ⟨Nat.le_refl _, hb5 hm⟩) k5 (Nat.lt_succ_self _) (by omega) (by simp only [go_sem, hmv]) ml _ _ _ _ ⟨0, by omega, fun r _ => rfl, by simp only [go_sem], rfl, W0, rfl⟩) ?_
  rintro ex1 ρ1 ms1 h1 d1 ⟨rfl, rfl, rfl, K1, W1⟩
  have a14 : ρ1 14 = .slice (some ⟨H5.length, 0, none⟩) n (UNK + 1) := (K1 14 (by decide)).trans (by simp only [go_sem])
  repeat (first | apply Z1 | apply Z2 | apply Z3 | apply Z4 | apply Z5 rfl | apply Z6 | apply Z7 | apply Z8 | apply Z9 | apply ZA | apply ZB | apply ZC | ((first | apply ZD (by decide) | apply ZN (by decide)); (simp (maxSteps := 9999999) only [go_sem]; rfl)) | (refine ZE ?_ ?_; · simp only [go_sem]) | (refine ZF ?_ ?_; · simp only [go_sem]))
  refine run_loop (own_d _ (fun hm => ⟨Nat.le_refl _, hb5 hm⟩) k5 (Nat.lt_succ_self _) hn (ρ0 := ρ1) a14 n _ _ _ _ ⟨0, by omega, fun r hr => by simp only [upd_get]; (repeat rw [if_neg (by omega)]), by simp only [go_sem], rfl, W1, rfl⟩) ?_
  rintro ex2 ρ2 ms2 h2 d2 ⟨rfl, rfl, rfl, K2, W2⟩
  have a17 : ρ2 17 = .slice (some ⟨H5.length + 1, 0, none⟩) n (UNK + 1) := (K2 17 (by decide)).trans ((K1 17 (by decide)).trans (by simp only [go_sem]))
  repeat (first | apply Z1 | apply Z2 | apply Z3 | apply Z4 | apply Z5 rfl | apply Z6 | apply Z7 | apply Z8 | apply Z9 | apply ZA | apply ZB | apply ZC | ((first | apply ZD (by decide) | apply ZN (by decide)); (simp (maxSteps := 9999999) only [go_sem]; rfl)) | (refine ZE ?_ ?_; · simp only [go_sem]) | (refine ZF ?_ ?_; · simp only [go_sem]))
  refine run_loop (own_p _ (fun hm => ⟨Nat.le_refl _, hb5 hm⟩) k5 (Nat.lt_succ_self _) hn (ρ0 := ρ2) a17 n _ _ _ _ ⟨0, by omega, fun r hr => by simp only [upd_get]; (repeat rw [if_neg (by omega)]), by simp only [go_sem], rfl, W2, rfl⟩) ?_
  rintro ex3 ρ3 ms3 h3 d3 ⟨rfl, rfl, rfl, K3, W3⟩
  have K : ∀ r, r < 22 → ρ3 r = ρ1 r := fun r hr => (K3 r hr).trans (K2 r hr)
  have a2 : ρ3 2 = .int .i64 g := (K 2 (by decide)).trans ((K1 2 (by decide)).trans (by simp only [go_sem]))
  have a7 : ρ3 7 = .int .i64 n := (K 7 (by decide)).trans ((K1 7 (by decide)).trans (by simp only [go_sem]))
  have a8 : ρ3 8 = .slice xa E.length xc := (K 8 (by decide)).trans ((K1 8 (by decide)).trans (by simp only [go_sem]))
  have a9 : ρ3 9 = .slice (some ⟨b2, 0, none⟩) n (UNK + 1) := (K 9 (by decide)).trans ((K1 9 (by decide)).trans (by simp only [go_sem]))
  have a10 : ρ3 10 = .slice ya E.length yc := (K 10 (by decide)).trans ((K1 10 (by decide)).trans (by simp only [go_sem]))
  have a11 : ρ3 11 = .slice (some ⟨b3, 0, none⟩) n (UNK + 1) := (K 11 (by decide)).trans ((K1 11 (by decide)).trans (by simp only [go_sem]))
  have a13 : ρ3 13 = .int .i64 0 := (K 13 (by decide)).trans ((K1 13 (by decide)).trans (by simp only [go_sem]))
  have a16 : ρ3 16 = .int .i64 0 := (K 16 (by decide)).trans ((K1 16 (by decide)).trans (by simp only [go_sem]))
  have a18 : ρ3 18 = .int .i64 0 := (K 18 (by decide)).trans ((K1 18 (by decide)).trans (by simp only [go_sem]))
  have a21 : ρ3 21 = .int .i64 0 := (K 21 (by decide)).trans ((K1 21 (by decide)).trans (by simp only [go_sem]))
  have P9 := P4.fr W3.low
  have Y9 := PY4.fr W3.low
  have I9 := I4.fr W3.le W3.low
  have T9 := T4.fr W3.le W3.low
  obtain ⟨q, Uq, _, c37'⟩ := poor37 P9 hEl' he hg
  have Sq := Uq.le40 hE hn hC hg
  have I10 := I9.app [.cells (iV n q) 3 true 0 []]
  have T10 := T9.app [.cells (iV n q) 3 true 0 []]
  have Q10 : IS (h3 ++ [.cells (iV n q) 3 true 0 []]) (.slice (some ⟨h3.length, 0, none⟩) n (UNK + 1)) (lst n q) := IS.lstAt (by rw [app_get0]; rfl) rfl
  have c24 := ints24 I10 T10 (by rw [lst_len]; omega)
  rw [decide_eq_true rfl] at c24
  have c39 := sup39 (n := n) Q10 (by rw [lst_len]; omega)
  rw [decide_eq_true (Sq.sup hn)] at c39
  repeat (first | apply Z1 | apply Z2 | apply Z3 | apply Z4 | apply Z5 rfl | apply Z6 | apply Z7 | apply Z8 | apply Z9 | apply ZA | apply ZB | apply ZC | ((first | apply ZD (by decide) | apply ZN (by decide)); (simp (maxSteps := 9999999) only [go_sem, a2, a7, a8, a9, a10, a11, a13, a16, a18, a21, c37', c24, c39]; rfl)) | (refine ZE ?_ ?_; · simp only [go_sem]) | (refine ZF ?_ ?_; · simp only [go_sem]))
  refine run_loop (own_same _ (P9.app [.cells (iV n q) 3 true 0 []]) (Y9.app _) hEl' E.length _ _ _ _ ⟨0, by omega, by simp only [go_sem, a8], by simp only [go_sem, a10], by simp only [go_sem], rfl, rfl, rfl⟩) ?_
  rintro ex4 ρ4 ms4 h4 d4 ⟨rfl, rfl, rfl, rfl⟩
  have aw := awake_call (h3 ++ [.cells (iV n q) 3 true 0 []])
  have w3l := W3.le
  repeat (first | apply Z1 | apply Z2 | apply Z3 | apply Z4 | apply Z5 rfl | apply Z6 | apply Z7 | apply Z8 | apply Z9 | apply ZA | apply ZB | apply ZC | ((first | apply ZD (by decide) | apply ZN (by decide)); (simp (maxSteps := 9999999) only [go_sem, aw]; rfl)) | (refine ZE ?_ ?_; · simp only [go_sem]) | (refine ZF ?_ ?_; · simp only [go_sem]))
  exact end_nil (q_ret1 _ (by simp only [go_sem]) rfl (take_of_same (by simp; omega) (fun j hj => by rw [List.getElem?_append_left (by omega), W3.low j (by omega)]; exact G4 j hj)))
end Go.Proofs.YtpkhkghiidilcaaDoor.Sh

namespace Go.Proofs.YtpkhkghiidilcaaDoor
open Go Go.RowKit Sh
set_option maxRecDepth 100000
theorem supplyOwn.walk {a1 : Option Addr} {n1 c1 : Nat} {X1 : List (Int × Int)} {N0 : Int} {a2 : Option Addr} {n2 c2 : Nat} {X2 : List Int} (W : World) (hg : GlobW Tryd.prog W) (h1 : IsPrs W a1 n1 c1 X1) (h2 : IsIntsW W a2 n2 c2 X2) (z2 : Int) :
    Calls Tryd.prog 12 #[.agg #[.int .i64 N0, .slice a1 n1 c1], .slice a2 n2 c2, .int .i64 z2] W (fun e W' => e = .returned (.bool true) ∧ Below W.heap.size W W') := by
  obtain ⟨x1, b1, r1, k1⟩ := prs_arg h1
  obtain ⟨x2, b2, r2, k2⟩ := ints_arg h2
  obtain ⟨u1, v1, p1⟩ := k1 [] b2
  obtain ⟨u2, v2, p2⟩ := k2 b1 []
  simp only [List.nil_append, List.append_nil, List.append_assoc] at v1 p1 v2 p2
  exact walk_rel mixed tab (flatK_ok CA_ok) (Rel.ro hg (r1.app r2)) (LR.cons (VR.agg2 (.int _ _) v1) (LR.cons v2 (LR.cons (.int _ _) (LR.nil _)))) (law12M p1.ps x1 p2.is x2) rfl
end Go.Proofs.YtpkhkghiidilcaaDoor

