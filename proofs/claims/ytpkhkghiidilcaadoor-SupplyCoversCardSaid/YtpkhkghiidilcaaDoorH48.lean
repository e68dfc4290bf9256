/- Arguments of the laws: graphs. -/
import Derived.Test.YtpkhkghiidilcaaDoorH45
import Derived.Test.YtpkhkghiidilcaaDoorH47
import Derived.WideShapes
import Derived.Test.YtpkhkghiidilcaaDoorH46
import Derived.ChangeArms
set_option linter.all false
namespace Go.Proofs.YtpkhkghiidilcaaDoor.Sh
open Go Go.RowKit Go.WideShapes Go.ChangeShapes
set_option maxRecDepth 100000
theorem u24 : ∃ f0 f1 : Field, Tryd.prog.underlying 24 = some (.struct #[f0, f1]) ∧ f0.type = 3 ∧ f0.offset = 0 ∧ f1.type = 22 ∧ f1.offset = 1 := st2_ok (by kernel_rfl)
theorem ct24 : Tryd.prog.cellTypes Tryd.prog.depth 24 = some [3, 22] := by kernel_rfl
theorem cells24 : Tryd.prog.cellsOf 24 = 2 := by kernel_rfl
theorem cells22 : Tryd.prog.cellsOf 22 = 1 := by kernel_rfl
theorem cells45 : Tryd.prog.cellsOf 45 = 2 := by kernel_rfl
theorem u22 : Tryd.prog.underlying 22 = some (.slice 45) := by kernel_rfl
theorem u45 : Tryd.prog.underlying 45 = some (.array 2 3) := by kernel_rfl
theorem u25 : Tryd.prog.underlying 25 = some (.slice 3) := by kernel_rfl
theorem open_graph {H : Type} {enc : TypeId × Value → H} {W : World} {base b0 : Nat} {spare : Nat → Bool} {held : Bool} {v : Value} {d : DataW H} {ps : List MemPlace}
    (hval : Value.okWide Tryd.prog W .any b0 24 v) (h : DataW.Trod enc Tryd.prog W base spare held 24 v d ps) : ∃ N a len cap X, v = .agg #[.int .i64 N, .slice a len cap] ∧ IsPrs W a len cap X := by
  obtain ⟨f0, f1, hu, t0, o0, t1, o1⟩ := u24
  simp only [Value.okWide, hu] at hval
  obtain ⟨cs, rfl, hsz, ts, hts, _, hrow⟩ := hval
  rw [ct24] at hts
  cases hts
  obtain ⟨fuel, hf⟩ := h
  have hf' : DataW.trod enc Tryd.prog W base spare held fuel 24 cs.toList = some (d, ps) := hf
  obtain ⟨y0, y1, n, hx, hl, h0, h1⟩ := trod_struct2 hu hf'
  rw [cells24] at hl
  rw [t0, o0, cells3] at h0
  rw [t1, o1, cells22] at h1
  match hcs : cs.toList, hl with
  | [c0, c1], _ =>
    rw [hcs] at h0 h1
    simp only [List.drop_zero, List.drop_succ_cons, List.take_succ_cons, List.take_zero] at h0 h1
    obtain ⟨n0, e0, _, _⟩ := DataW.trod_int u3 h0
    simp only [List.cons.injEq, and_true] at e0
    have e2 : cs = #[c0, c1] := Array.ext' hcs
    obtain ⟨u, hu1, hok⟩ := hrow 1 c1 (by rw [e2]; rfl)
    cases hu1
    have hv1 : Value.okWide Tryd.prog W .any b0 22 c1 := by simp only [Value.okWide, u22]; exact hok
    obtain ⟨a, len, cap, rfl⟩ := okWide_slice u22 hv1
    obtain ⟨X, hX⟩ := isPrs_of u22 u45 u3 cells45 cells3 hv1 (⟨n, h1⟩ : DataW.Trod enc Tryd.prog W base spare held 22 (.slice a len cap) y1.1 y1.2)
    exact ⟨n0, a, len, cap, X, by rw [e2, e0], hX⟩
end Go.Proofs.YtpkhkghiidilcaaDoor.Sh

namespace Go.Proofs.YtpkhkghiidilcaaDoor.Sh
open Go
set_option maxRecDepth 100000
set_option maxHeartbeats 4000000
end Go.Proofs.YtpkhkghiidilcaaDoor.Sh

namespace Go.Proofs.YtpkhkghiidilcaaDoor.Sh
open Go
set_option maxRecDepth 100000
set_option maxHeartbeats 4000000
section
variable {H : SHeap} {v sv wv : Value} {E : List (Int × Int)} {l : List Int} {n : Int}
end
end Go.Proofs.YtpkhkghiidilcaaDoor.Sh

namespace Go.Proofs.YtpkhkghiidilcaaDoor.Sh
open Go
set_option maxRecDepth 100000
set_option maxHeartbeats 4000000
end Go.Proofs.YtpkhkghiidilcaaDoor.Sh

namespace Go.Proofs.YtpkhkghiidilcaaDoor.Sh
open Go Go.RowKit Go.WideShapes Go.ChangeShapes
set_option maxRecDepth 100000
def st3 (d : Option TypeDesc) (t0 o0 t1 o1 t2 o2 : Nat) : Bool := match d with
  | some (.struct fs) => match fs.toList with
    | [f0, f1, f2] => Nat.beq f0.type t0 && Nat.beq f0.offset o0 && Nat.beq f1.type t1 && Nat.beq f1.offset o1 && Nat.beq f2.type t2 && Nat.beq f2.offset o2
    | _ => false
  | _ => false
end Go.Proofs.YtpkhkghiidilcaaDoor.Sh

namespace Go.Proofs.YtpkhkghiidilcaaDoor.Sh
open Go
set_option maxRecDepth 100000
set_option maxHeartbeats 4000000
section
variable {H : SHeap} {N : Int} {ev lv : Value} {X : List (Int × Int)} {l : List Int}
theorem tameS (hv : PS H ev X) (hX : X.length ≤ 9223372036854775807) {most : Nat} (hm1 : 1 ≤ most) (hm : most ≤ 6) (tr : Bool) (x : SHeap) :
    ∃ (n : Nat) (f : Nat → Bool) (E : List (Int × Int)) (xv : Value) (H1 : SHeap), TM most tr n f ∧ E = castE (edg f 36) ∧ 1 ≤ n ∧ n ≤ most ∧ EOK n E ∧ Conn n E ∧ errG n E = 0 ∧ E.length ≤ 36 ∧ PS H1 xv E ∧ (∃ a c, xv = .slice a E.length c) ∧ (∀ j, j < (H ++ x).length → H1[j]? = (H ++ x)[j]?) ∧ (H ++ x).length ≤ H1.length ∧
      M.call 15 [.agg #[.int .i64 N, ev], .int .i64 most, .bool tr] (H ++ x) = some (.tuple #[.int .i64 n, xv], H1, []) := by
  obtain ⟨n, f, T, c15⟩ := tame15 (H := H ++ x) (N := N) (hv.app _) hX (most := most) hm1 hm tr
  have he := T.err hm
  obtain ⟨m, em, hn1, hn, hE, hC⟩ := errG_ok he
  obtain rfl : n = m := by omega
  have P1 := PS_res (H ++ x) (edg f 36) 45
  obtain ⟨k1, k2⟩ := resH_fr (H ++ x) (prN (edg f 36)) (edg f 36).length 45
  refine ⟨n, f, _, _, _, T, rfl, hn1, T.n2, hE, hC, he, ?_, P1, ?_, k2, k1, c15⟩
  · rw [castE_len]; exact edg_len f 36
  · obtain ⟨a, c, e, _⟩ := P1
    exact ⟨a, c, e⟩
theorem broughtS {H1 : SHeap} {n : Nat} (hn1 : 1 ≤ n) (hn : n ≤ 6) (hv : IS H1 lv l) (hlen : l.length ≤ 9223372036854775807) {most : Nat} (hm : most ≤ 1000) :
    ∃ s : Nat → Int, ST n s most ∧ M.call 16 [lv, .int .i64 n, .int .i64 most] H1 = some (.slice (some ⟨H1.length, 0, none⟩) n (UNK + 1), H1 ++ [.cells (iV n s) 3 true 0 []], []) ∧
      IS (H1 ++ [.cells (iV n s) 3 true 0 []]) (.slice (some ⟨H1.length, 0, none⟩) n (UNK + 1)) (lst n s) := by
  obtain ⟨s, S, c16⟩ := brought16 hn hv hlen (most := most) hm
  rw [← resV_pos H1 1 (show n ≠ 0 by omega), ← resH_pos H1 _ 3 (show n ≠ 0 by omega)] at c16
  exact ⟨s, S, c16, IS.lstAt (by rw [List.getElem?_append_right (Nat.le_refl _), Nat.sub_self]; rfl) rfl⟩
end
end Go.Proofs.YtpkhkghiidilcaaDoor.Sh

namespace Go.Proofs.YtpkhkghiidilcaaDoor.Sh
open Go
set_option maxRecDepth 100000
set_option maxHeartbeats 4000000
section
variable {n : Nat} {L : List (Nat → Int)} {b c : Nat} {H : SHeap}
theorem covered_loop (cx : Cx) {v : Value} {l : List Int} (hv : IS H v l) (hlen : l.length ≤ 1000000) :
    ∀ k ρ ms h' d', (∃ i : Nat, i + k = l.length ∧ (∀ (j : Nat) (hj : j < l.length), j < i → l[j] ≠ 0) ∧ ρ 0 = v ∧ ρ 3 = .int .i64 i ∧ ms = [] ∧ h' = H ∧ d' = []) →
    LoopW M cx 4 sf41L0 ρ ms h' d' (fun ex ρ' ms' h' d' => ms' = [] ∧ h' = H ∧ d' = [] ∧ ((ex = .exit 0 ∧ (0 : Int) ∉ l) ∨ (ex = .ret ∧ (0 : Int) ∈ l ∧ ρ' 2 = .bool false))) := by
  refine loop_run _ ?_
  rintro k ρ ms h' d' ⟨i, hk, hno, r0, r3, rfl, rfl, rfl⟩
  unfold sf41L0
  by_cases c : k = 0
  · have e1 : ¬ ((i : Int) < l.length) := by omega
    obtain ⟨va, vc, rfl, _⟩ := id hv
    repeat (first | apply Z1 | apply Z2 | apply Z3 | apply Z4 | apply Z5 rfl | apply Z6 | apply Z7 | apply Z8 | apply Z9 | apply ZA | apply ZB | apply ZC | ((first | apply ZD (by decide) | apply ZN (by decide)); (simp (maxSteps := 9999999) only [go_sem, r0, r3, e1]; rfl)) | (refine ZE ?_ ?_; · simp only [go_sem]) | (refine ZF ?_ ?_; · simp only [go_sem]))
    refine end_nil ⟨rfl, rfl, rfl, .inl ⟨rfl, fun hm => ?_⟩⟩
    obtain ⟨j, hj, e⟩ := List.getElem_of_mem hm
    exact hno j hj (by omega) e
  · have e1 : ((i : Int) < l.length) := by omega
    have e2 : (0 : Int) ≤ i := by omega
    have hi : i < l.length := by omega
    have ew : IntKind.i64.wrap ((i : Int) + 1) = ((i + 1 : Nat) : Int) := by rw [wrap64 (by omega) (by omega)]; rfl
    obtain ⟨b1, o1, cp1, rfl, ld1⟩ := hv.ld (by intro e; rw [e] at hi; simp at hi)
    have l1 := ld1 i hi
    by_cases c2 : l[i] = 0
    · rw [c2] at l1
      repeat (first | apply Z1 | apply Z2 | apply Z3 | apply Z4 | apply Z5 rfl | apply Z6 | apply Z7 | apply Z8 | apply Z9 | apply ZA | apply ZB | apply ZC | ((first | apply ZD (by decide) | apply ZN (by decide)); (simp (maxSteps := 9999999) only [go_sem, r0, r3, e1, e2, l1, Int.toNat_natCast]; rfl)) | (refine ZE ?_ ?_; · simp only [go_sem]) | (refine ZF ?_ ?_; · simp only [go_sem]))
      exact end_nil ⟨rfl, rfl, rfl, .inr ⟨rfl, by rw [← c2]; exact List.getElem_mem hi, by simp only [go_sem]⟩⟩
    · have c2' : (l[i] = 0) = False := eq_false c2
      repeat (first | apply Z1 | apply Z2 | apply Z3 | apply Z4 | apply Z5 rfl | apply Z6 | apply Z7 | apply Z8 | apply Z9 | apply ZA | apply ZB | apply ZC | ((first | apply ZD (by decide) | apply ZN (by decide)); (simp (maxSteps := 9999999) only [go_sem, r0, r3, e1, e2, l1, c2', ew, Int.toNat_natCast]; rfl)) | (refine ZE ?_ ?_; · simp only [go_sem]) | (refine ZF ?_ ?_; · simp only [go_sem]))
      refine end_nil ⟨k - 1, by omega, i + 1, by omega, fun j hj hji => ?_, by simp only [go_sem, r0], by simp only [go_sem, ew], rfl, rfl, rfl⟩
      by_cases e : j = i
      · subst e; exact c2
      · exact hno j hj (by omega)
theorem covered41 {v : Value} {l : List Int} (hv : IS H v l) (hlen : l.length ≤ 1000000) : M.call 41 [v] H = some (.bool (decide ((0 : Int) ∉ l)), H, []) := by
  refine call_run sf41 rfl rfl rfl ?_
  unfold sf41
  repeat (first | apply Z1 | apply Z2 | apply Z3 | apply Z4 | apply Z5 rfl | apply Z6 | apply Z7 | apply Z8 | apply Z9 | apply ZA | apply ZB | apply ZC | ((first | apply ZD (by decide) | apply ZN (by decide)); (simp (maxSteps := 9999999) only [go_sem, argR]; rfl)) | (refine ZE ?_ ?_; · simp only [go_sem]) | (refine ZF ?_ ?_; · simp only [go_sem]))
  refine run_loop (covered_loop _ hv hlen l.length _ _ _ _ ⟨0, by omega, fun j _ hj => by omega, by simp only [go_sem, argR], by simp only [go_sem] <;> rfl, rfl, rfl, rfl⟩) ?_
  rintro ex ρ2 ms2 h2 d2 ⟨rfl, rfl, rfl, h⟩
  rcases h with ⟨rfl, h⟩ | ⟨rfl, h, t2⟩
  · repeat (first | apply Z1 | apply Z2 | apply Z3 | apply Z4 | apply Z5 rfl | apply Z6 | apply Z7 | apply Z8 | apply Z9 | apply ZA | apply ZB | apply ZC | ((first | apply ZD (by decide) | apply ZN (by decide)); (simp (maxSteps := 9999999) only [go_sem]; rfl)) | (refine ZE ?_ ?_; · simp only [go_sem]) | (refine ZF ?_ ?_; · simp only [go_sem]))
    rw [decide_eq_true h]
    exact end_nil (q_ret1 _ (by simp only [go_sem]) rfl (take_self _))
  · repeat (first | apply Z1 | apply Z2 | apply Z3 | apply Z4 | apply Z5 rfl | apply Z6 | apply Z7 | apply Z8 | apply Z9 | apply ZA | apply ZB | apply ZC | ((first | apply ZD (by decide) | apply ZN (by decide)); (simp (maxSteps := 9999999) only [go_sem]; rfl)) | (refine ZE ?_ ?_; · simp only [go_sem]) | (refine ZF ?_ ?_; · simp only [go_sem]))
    rw [decide_eq_false (fun k => k h)]
    exact end_nil (q_ret1 _ (by simp only [go_sem, t2]) rfl (take_self _))
theorem covers_law_loop (cx : Cx) (hn : n ≤ 6) (hL : L.length ≤ 753571) (hb : ∀ t ∈ L, ∀ v, 0 ≤ t v) (els : ∀ (i : Nat) (hi : i < L.length), ∃ x, loadS H none (.pointer (some ⟨b, i, none⟩)) = some x ∧ IS H x (lst n L[i])) {ρ0 : Reg} :
    ∀ k ρ ms h' d', (∃ (i : Nat) (w : Bool), i + k = L.length ∧ (w = true ↔ ∃ (j : Nat) (hj : j < L.length), j < i ∧ full n L[j]) ∧ (∀ r, r < 9 → ρ r = ρ0 r) ∧ ρ 8 = .slice (some ⟨b, 0, none⟩) L.length c ∧ ρ 9 = .bool w ∧ ρ 10 = .int .i64 i ∧ ms = [] ∧ h' = H ∧ d' = []) →
    LoopW M cx 6 sf9L0 ρ ms h' d' (fun ex ρ' ms' h' d' => ms' = [] ∧ h' = H ∧ d' = [] ∧ ex = .exit 0 ∧ (∀ r, r < 9 → ρ' r = ρ0 r) ∧ ∃ w : Bool, (w = true ↔ ∃ t ∈ L, full n t) ∧ ρ' 9 = .bool w) := by
  refine loop_run _ ?_
  rintro k ρ ms h' d' ⟨i, w, hk, hw, hreg, r8, r9, r10, rfl, rfl, rfl⟩
  unfold sf9L0
  by_cases c0 : k = 0
  · have e1 : ¬ ((i : Int) < L.length) := by omega
    repeat (first | apply Z1 | apply Z2 | apply Z3 | apply Z4 | apply Z5 rfl | apply Z6 | apply Z7 | apply Z8 | apply Z9 | apply ZA | apply ZB | apply ZC | ((first | apply ZD (by decide) | apply ZN (by decide)); (simp (maxSteps := 9999999) only [go_sem, r8, r10, e1]; rfl)) | (refine ZE ?_ ?_; · simp only [go_sem]) | (refine ZF ?_ ?_; · simp only [go_sem]))
    refine end_nil ⟨rfl, rfl, rfl, rfl, fun r hr => by simp only [upd_get]; (repeat rw [if_neg (by omega)]); exact hreg r hr, w, ?_, by simp only [go_sem, r9]⟩
    rw [hw]
    constructor
    · rintro ⟨j, hj, _, h⟩; exact ⟨L[j], List.getElem_mem hj, h⟩
    · rintro ⟨t, ht, h⟩
      obtain ⟨j, hj, rfl⟩ := List.getElem_of_mem ht
      exact ⟨j, hj, by omega, h⟩
  · have e1 : ((i : Int) < L.length) := by omega
    have hi : i < L.length := by omega
    have e2 : (0 : Int) ≤ i := by omega
    have ew : IntKind.i64.wrap ((i : Int) + 1) = ((i + 1 : Nat) : Int) := by rw [wrap64 (by omega) (by omega)]; rfl
    cases w with
    | true =>
      repeat (first | apply Z1 | apply Z2 | apply Z3 | apply Z4 | apply Z5 rfl | apply Z6 | apply Z7 | apply Z8 | apply Z9 | apply ZA | apply ZB | apply ZC | ((first | apply ZD (by decide) | apply ZN (by decide)); (simp (maxSteps := 9999999) only [go_sem, r8, r9, r10, e1, ew]; rfl)) | (refine ZE ?_ ?_; · simp only [go_sem]) | (refine ZF ?_ ?_; · simp only [go_sem]))
      refine end_nil ⟨k - 1, by omega, i + 1, true, by omega, ⟨fun _ => ?_, fun _ => rfl⟩, fun r hr => by simp only [upd_get]; (repeat rw [if_neg (by omega)]); exact hreg r hr, by simp only [go_sem, r8], by simp only [go_sem], by simp only [go_sem, ew], rfl, rfl, rfl⟩
      obtain ⟨j, hj, h1, h2⟩ := hw.1 rfl
      exact ⟨j, hj, by omega, h2⟩
    | false =>
      obtain ⟨x, x1, x2⟩ := els i hi
      have c41 := covered41 x2 (by rw [lst_len]; omega)
      have hf := full_iff (n := n) (hb _ (List.getElem_mem hi))
      by_cases c2 : full n L[i]
      · rw [decide_eq_true (hf.1 c2)] at c41
        repeat (first | apply Z1 | apply Z2 | apply Z3 | apply Z4 | apply Z5 rfl | apply Z6 | apply Z7 | apply Z8 | apply Z9 | apply ZA | apply ZB | apply ZC | ((first | apply ZD (by decide) | apply ZN (by decide)); (simp (maxSteps := 9999999) only [go_sem, r8, r9, r10, e1, e2, x1, c41, ew, Int.toNat_natCast]; rfl)) | (refine ZE ?_ ?_; · simp only [go_sem]) | (refine ZF ?_ ?_; · simp only [go_sem]))
        exact end_nil ⟨k - 1, by omega, i + 1, true, by omega, ⟨fun _ => ⟨i, hi, by omega, c2⟩, fun _ => rfl⟩, fun r hr => by simp only [upd_get]; (repeat rw [if_neg (by omega)]); exact hreg r hr, by simp only [go_sem, r8], by simp only [go_sem], by simp only [go_sem, ew], rfl, rfl, rfl⟩
      · rw [decide_eq_false (fun h => c2 (hf.2 h))] at c41
        repeat (first | apply Z1 | apply Z2 | apply Z3 | apply Z4 | apply Z5 rfl | apply Z6 | apply Z7 | apply Z8 | apply Z9 | apply ZA | apply ZB | apply ZC | ((first | apply ZD (by decide) | apply ZN (by decide)); (simp (maxSteps := 9999999) only [go_sem, r8, r9, r10, e1, e2, x1, c41, ew, Int.toNat_natCast]; rfl)) | (refine ZE ?_ ?_; · simp only [go_sem]) | (refine ZF ?_ ?_; · simp only [go_sem]))
        refine end_nil ⟨k - 1, by omega, i + 1, false, by omega, ⟨(fun h => by cases h), ?_⟩, fun r hr => by simp only [upd_get]; (repeat rw [if_neg (by omega)]); exact hreg r hr, by simp only [go_sem, r8], by simp only [go_sem], by simp only [go_sem, ew], rfl, rfl, rfl⟩
        rintro ⟨j, hj, h1, h2⟩
        by_cases e : j = i
        · subst e; exact (c2 h2).elim
        · exact hw.2 ⟨j, hj, by omega, h2⟩
end
theorem law9M {H : SHeap} {N : Int} {ev lv : Value} {X : List (Int × Int)} {l : List Int} (hv : PS H ev X) (hX : X.length ≤ 9223372036854775807) (hl : IS H lv l) (hll : l.length ≤ 9223372036854775807) :
    M.call 9 [.agg #[.int .i64 N, ev], lv] H = some (.bool true, H, []) := by
  refine call_run sf9 rfl rfl rfl ?_
  obtain ⟨n, f, E, xv, H1, T, _, hn1, hn5, hE, hC, he, hEl, P1, ⟨xa, xc, exv⟩, G1, F1, c15⟩ := tameS (N := N) hv hX (most := 5) (by decide) (by decide) false [.cells [.int .i64 N, ev] 24 false 0 []]
  have hn : n ≤ 6 := by omega
  have hEl' : E.length ≤ 1000000 := by omega
  rw [List.length_append, List.length_singleton] at F1 G1
  have G1' : ∀ j, j < H.length → H1[j]? = H[j]? := fun j hj => by rw [G1 j (by omega), List.getElem?_append_left hj]
  obtain ⟨s, S, c16, I2⟩ := broughtS (H1 := H1) hn1 hn (hl.fr (by omega) G1') hll (most := 12) (by decide)
  have S12 : ST n s 12 := S
  have S40 := S.mono (B' := 40) (by decide)
  have P2 := P1.app [.cells (iV n s) 3 true 0 []]
  have F2 : H.length ≤ (H1 ++ [.cells (iV n s) 3 true 0 []] : SHeap).length := by simp; omega
  have G2 : ∀ j, j < H.length → (H1 ++ [.cells (iV n s) 3 true 0 []] : SHeap)[j]? = H[j]? := fun j hj => by rw [List.getElem?_append_left (by omega)]; exact G1' j hj
  have hlt : H1.length < (H1 ++ [.cells (iV n s) 3 true 0 []] : SHeap).length := by simp
  generalize hH2 : H1 ++ [.cells (iV n s) 3 true 0 []] = H2 at *
  generalize hb2 : H1.length = b2 at *
  obtain ⟨L, c, H3, c17, hmem, hLl, F3, G3, els⟩ := reached17 hn1 hn hE P2 hEl' hlt I2 S12
  have P3 := P2.fr G3
  have I3 := I2.fr (by omega) G3
  obtain ⟨bb, q1, c42⟩ := covers42 P3 hEl' he I3 (by rw [lst_len]; omega) (S40.sup hn)
  rw [stk_lst S] at q1
  have aw := awake_call H3
  have lx : loadS (H ++ [.cells [.int .i64 N, ev] 24 false 0 []]) (some 2) (.pointer (some ⟨H.length, 0, none⟩)) = some (.agg #[.int .i64 N, ev]) := by rw [load_appN0]; rfl
  rw [show ((5 : Nat) : Int) = 5 from rfl] at c15
  rw [show ((12 : Nat) : Int) = 12 from rfl] at c16
  obtain ⟨va, vc, rfl, _⟩ := id hv
  subst exv
  unfold sf9
  repeat (first | apply Z1 | apply Z2 | apply Z3 | apply Z4 | apply Z5 rfl | apply Z6 | apply Z7 | apply Z8 | apply Z9 | apply ZA | apply ZB | apply ZC | ((first | apply ZD (by decide) | apply ZN (by decide)); (simp (maxSteps := 9999999) only [go_sem, argR, lx, c15, c16, c17]; rfl)) | (refine ZE ?_ ?_; · simp only [go_sem]) | (refine ZF ?_ ?_; · simp only [go_sem]))
  refine run_loop (covers_law_loop (c := c) _ hn hLl (fun t ht => ((hmem t).1 ht).nn hE S.nn) els L.length _ _ _ _ ⟨0, false, by omega, ⟨(fun h => by cases h), fun ⟨j, _, h, _⟩ => by omega⟩, fun r _ => rfl, by simp only [go_sem], by simp only [go_sem], by simp only [go_sem] <;> rfl, rfl, rfl, rfl⟩) ?_
  rintro ex ρ2 ms2 h2 d2 ⟨rfl, rfl, rfl, rfl, K, w, hw, t9⟩
  have hwb : bb = w := by
    have : bb = true ↔ w = true := by
      rw [q1, hw]
      constructor
      · rintro ⟨t, h1, h2⟩; exact ⟨t, (hmem t).2 h1, h2⟩
      · rintro ⟨t, h1, h2⟩; exact ⟨t, (hmem t).1 h1, h2⟩
    cases bb <;> cases w <;> simp at this <;> rfl
  subst hwb
  have a5 : ρ2 5 = .int .i64 n := (K 5 (by decide)).trans (by simp only [go_sem])
  have a6 : ρ2 6 = .slice xa E.length xc := (K 6 (by decide)).trans (by simp only [go_sem])
  have a7 : ρ2 7 = .slice (some ⟨b2, 0, none⟩) n (UNK + 1) := (K 7 (by decide)).trans (by simp only [go_sem])
  cases bb with
  | true =>
    repeat (first | apply Z1 | apply Z2 | apply Z3 | apply Z4 | apply Z5 rfl | apply Z6 | apply Z7 | apply Z8 | apply Z9 | apply ZA | apply ZB | apply ZC | ((first | apply ZD (by decide) | apply ZN (by decide)); (simp (maxSteps := 9999999) only [go_sem, a5, a6, a7, t9, c42, aw]; rfl)) | (refine ZE ?_ ?_; · simp only [go_sem]) | (refine ZF ?_ ?_; · simp only [go_sem]))
    exact end_nil (q_ret1 _ (by simp only [go_sem]) rfl (take_of_same (by omega) (fun j hj => by rw [G3 j (by omega)]; exact G2 j hj)))
  | false =>
    repeat (first | apply Z1 | apply Z2 | apply Z3 | apply Z4 | apply Z5 rfl | apply Z6 | apply Z7 | apply Z8 | apply Z9 | apply ZA | apply ZB | apply ZC | ((first | apply ZD (by decide) | apply ZN (by decide)); (simp (maxSteps := 9999999) only [go_sem, a5, a6, a7, t9, c42, aw]; rfl)) | (refine ZE ?_ ?_; · simp only [go_sem]) | (refine ZF ?_ ?_; · simp only [go_sem]))
    exact end_nil (q_ret1 _ (by simp only [go_sem]) rfl (take_of_same (by omega) (fun j hj => by rw [G3 j (by omega)]; exact G2 j hj)))
end Go.Proofs.YtpkhkghiidilcaaDoor.Sh

namespace Go.Proofs.YtpkhkghiidilcaaDoor
open Go Go.RowKit Sh
set_option maxRecDepth 100000
theorem supplyCovers.walk {a1 : Option Addr} {n1 c1 : Nat} {X1 : List (Int × Int)} {N0 : Int} {a2 : Option Addr} {n2 c2 : Nat} {X2 : List Int} (W : World) (hg : GlobW Tryd.prog W) (h1 : IsPrs W a1 n1 c1 X1) (h2 : IsIntsW W a2 n2 c2 X2) :
    Calls Tryd.prog 9 #[.agg #[.int .i64 N0, .slice a1 n1 c1], .slice a2 n2 c2] W (fun e W' => e = .returned (.bool true) ∧ Below W.heap.size W W') := by
  obtain ⟨x1, b1, r1, k1⟩ := prs_arg h1
  obtain ⟨x2, b2, r2, k2⟩ := ints_arg h2
  obtain ⟨u1, v1, p1⟩ := k1 [] b2
  obtain ⟨u2, v2, p2⟩ := k2 b1 []
  simp only [List.nil_append, List.append_nil, List.append_assoc] at v1 p1 v2 p2
  exact walk_rel mixed tab (flatK_ok CA_ok) (Rel.ro hg (r1.app r2)) (LR.cons (VR.agg2 (.int _ _) v1) (LR.cons v2 (LR.nil _))) (law9M p1.ps x1 p2.is x2) rfl
end Go.Proofs.YtpkhkghiidilcaaDoor

