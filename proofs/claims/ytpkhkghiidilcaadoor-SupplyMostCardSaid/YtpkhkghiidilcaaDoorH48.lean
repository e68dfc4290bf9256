/- Arguments of the laws: graphs. -/
import Derived.Test.YtpkhkghiidilcaaDoorH45
import Derived.Test.YtpkhkghiidilcaaDoorH47
import Derived.WideShapes
import Derived.Test.YtpkhkghiidilcaaDoorH46
import Derived.ChangeArms
set_option linter.all false
namespace Go.Proofs.YtpkhkghiidilcaaDoor.Sh
open Go Go.RowKit Go.WideShapes Go.ChangeShapes
set_option maxRecDepth 100000
theorem u24 : ∃ f0 f1 : Field, Tryd.prog.underlying 24 = some (.struct #[f0, f1]) ∧ f0.type = 3 ∧ f0.offset = 0 ∧ f1.type = 22 ∧ f1.offset = 1 := st2_ok (by kernel_rfl)
theorem ct24 : Tryd.prog.cellTypes Tryd.prog.depth 24 = some [3, 22] := by kernel_rfl
theorem cells24 : Tryd.prog.cellsOf 24 = 2 := by kernel_rfl
theorem cells22 : Tryd.prog.cellsOf 22 = 1 := by kernel_rfl
theorem cells45 : Tryd.prog.cellsOf 45 = 2 := by kernel_rfl
theorem u22 : Tryd.prog.underlying 22 = some (.slice 45) := by kernel_rfl
theorem u45 : Tryd.prog.underlying 45 = some (.array 2 3) := by kernel_rfl
theorem u25 : Tryd.prog.underlying 25 = some (.slice 3) := by kernel_rfl
theorem open_graph {H : Type} {enc : TypeId × Value → H} {W : World} {base b0 : Nat} {spare : Nat → Bool} {held : Bool} {v : Value} {d : DataW H} {ps : List MemPlace}
    (hval : Value.okWide Tryd.prog W .any b0 24 v) (h : DataW.Trod enc Tryd.prog W base spare held 24 v d ps) : ∃ N a len cap X, v = .agg #[.int .i64 N, .slice a len cap] ∧ IsPrs W a len cap X := by
  obtain ⟨f0, f1, hu, t0, o0, t1, o1⟩ := u24
  simp only [Value.okWide, hu] at hval
  obtain ⟨cs, rfl, hsz, ts, hts, _, hrow⟩ := hval
  rw [ct24] at hts
  cases hts
  obtain ⟨fuel, hf⟩ := h
  have hf' : DataW.trod enc Tryd.prog W base spare held fuel 24 cs.toList = some (d, ps) := hf
  obtain ⟨y0, y1, n, hx, hl, h0, h1⟩ := trod_struct2 hu hf'
  rw [cells24] at hl
  rw [t0, o0, cells3] at h0
  rw [t1, o1, cells22] at h1
  match hcs : cs.toList, hl with
  | [c0, c1], _ =>
    rw [hcs] at h0 h1
    simp only [List.drop_zero, List.drop_succ_cons, List.take_succ_cons, List.take_zero] at h0 h1
    obtain ⟨n0, e0, _, _⟩ := DataW.trod_int u3 h0
    simp only [List.cons.injEq, and_true] at e0
    have e2 : cs = #[c0, c1] := Array.ext' hcs
    obtain ⟨u, hu1, hok⟩ := hrow 1 c1 (by rw [e2]; rfl)
    cases hu1
    have hv1 : Value.okWide Tryd.prog W .any b0 22 c1 := by simp only [Value.okWide, u22]; exact hok
    obtain ⟨a, len, cap, rfl⟩ := okWide_slice u22 hv1
    obtain ⟨X, hX⟩ := isPrs_of u22 u45 u3 cells45 cells3 hv1 (⟨n, h1⟩ : DataW.Trod enc Tryd.prog W base spare held 22 (.slice a len cap) y1.1 y1.2)
    exact ⟨n0, a, len, cap, X, by rw [e2, e0], hX⟩
end Go.Proofs.YtpkhkghiidilcaaDoor.Sh

namespace Go.Proofs.YtpkhkghiidilcaaDoor.Sh
open Go
set_option maxRecDepth 100000
set_option maxHeartbeats 4000000
end Go.Proofs.YtpkhkghiidilcaaDoor.Sh

namespace Go.Proofs.YtpkhkghiidilcaaDoor.Sh
open Go
set_option maxRecDepth 100000
set_option maxHeartbeats 4000000
section
variable {H : SHeap} {v sv wv : Value} {E : List (Int × Int)} {l : List Int} {n : Int}
end
end Go.Proofs.YtpkhkghiidilcaaDoor.Sh

namespace Go.Proofs.YtpkhkghiidilcaaDoor.Sh
open Go
set_option maxRecDepth 100000
set_option maxHeartbeats 4000000
end Go.Proofs.YtpkhkghiidilcaaDoor.Sh

namespace Go.Proofs.YtpkhkghiidilcaaDoor.Sh
open Go Go.RowKit Go.WideShapes Go.ChangeShapes
set_option maxRecDepth 100000
def st3 (d : Option TypeDesc) (t0 o0 t1 o1 t2 o2 : Nat) : Bool := match d with
  | some (.struct fs) => match fs.toList with
    | [f0, f1, f2] => Nat.beq f0.type t0 && Nat.beq f0.offset o0 && Nat.beq f1.type t1 && Nat.beq f1.offset o1 && Nat.beq f2.type t2 && Nat.beq f2.offset o2
    | _ => false
  | _ => false
end Go.Proofs.YtpkhkghiidilcaaDoor.Sh

namespace Go.Proofs.YtpkhkghiidilcaaDoor.Sh
open Go
set_option maxRecDepth 100000
set_option maxHeartbeats 4000000
section
variable {H : SHeap} {N : Int} {ev lv : Value} {X : List (Int × Int)} {l : List Int}
theorem tameS (hv : PS H ev X) (hX : X.length ≤ 9223372036854775807) {most : Nat} (hm1 : 1 ≤ most) (hm : most ≤ 6) (tr : Bool) (x : SHeap) :
    ∃ (n : Nat) (f : Nat → Bool) (E : List (Int × Int)) (xv : Value) (H1 : SHeap), TM most tr n f ∧ E = castE (edg f 36) ∧ 1 ≤ n ∧ n ≤ most ∧ EOK n E ∧ Conn n E ∧ errG n E = 0 ∧ E.length ≤ 36 ∧ PS H1 xv E ∧ (∃ a c, xv = .slice a E.length c) ∧ (∀ j, j < (H ++ x).length → H1[j]? = (H ++ x)[j]?) ∧ (H ++ x).length ≤ H1.length ∧
      M.call 15 [.agg #[.int .i64 N, ev], .int .i64 most, .bool tr] (H ++ x) = some (.tuple #[.int .i64 n, xv], H1, []) := by
  obtain ⟨n, f, T, c15⟩ := tame15 (H := H ++ x) (N := N) (hv.app _) hX (most := most) hm1 hm tr
  have he := T.err hm
  obtain ⟨m, em, hn1, hn, hE, hC⟩ := errG_ok he
  obtain rfl : n = m := by omega
  have P1 := PS_res (H ++ x) (edg f 36) 45
  obtain ⟨k1, k2⟩ := resH_fr (H ++ x) (prN (edg f 36)) (edg f 36).length 45
  refine ⟨n, f, _, _, _, T, rfl, hn1, T.n2, hE, hC, he, ?_, P1, ?_, k2, k1, c15⟩
  · rw [castE_len]; exact edg_len f 36
  · obtain ⟨a, c, e, _⟩ := P1
    exact ⟨a, c, e⟩
theorem broughtS {H1 : SHeap} {n : Nat} (hn1 : 1 ≤ n) (hn : n ≤ 6) (hv : IS H1 lv l) (hlen : l.length ≤ 9223372036854775807) {most : Nat} (hm : most ≤ 1000) :
    ∃ s : Nat → Int, ST n s most ∧ M.call 16 [lv, .int .i64 n, .int .i64 most] H1 = some (.slice (some ⟨H1.length, 0, none⟩) n (UNK + 1), H1 ++ [.cells (iV n s) 3 true 0 []], []) ∧
      IS (H1 ++ [.cells (iV n s) 3 true 0 []]) (.slice (some ⟨H1.length, 0, none⟩) n (UNK + 1)) (lst n s) := by
  obtain ⟨s, S, c16⟩ := brought16 hn hv hlen (most := most) hm
  rw [← resV_pos H1 1 (show n ≠ 0 by omega), ← resH_pos H1 _ 3 (show n ≠ 0 by omega)] at c16
  exact ⟨s, S, c16, IS.lstAt (by rw [List.getElem?_append_right (Nat.le_refl _), Nat.sub_self]; rfl) rfl⟩
end
end Go.Proofs.YtpkhkghiidilcaaDoor.Sh

namespace Go.Proofs.YtpkhkghiidilcaaDoor.Sh
open Go
set_option maxRecDepth 100000
set_option maxHeartbeats 4000000
section
variable {n : Nat} {L : List (Nat → Int)} {b c : Nat} {H : SHeap}
theorem most_law_loop (cx : Cx) (hn : n ≤ 6) {g : Nat} (hg : g < n) (hL : L.length ≤ 753571) (hb : ∀ t ∈ L, ∀ v, 0 ≤ t v) (els : ∀ (i : Nat) (hi : i < L.length), ∃ x, loadS H none (.pointer (some ⟨b, i, none⟩)) = some x ∧ IS H x (lst n L[i])) {ρ0 : Reg} :
    ∀ k ρ ms h' d', (∃ (i : Nat) (m : Int), i + k = L.length ∧ (m = 0 ∨ ∃ t ∈ L, t g = m) ∧ 0 ≤ m ∧ (∀ (j : Nat) (hj : j < L.length), j < i → L[j] g ≤ m) ∧ (∀ r, r < 11 → ρ r = ρ0 r) ∧ ρ 2 = .int .i64 g ∧ ρ 10 = .slice (some ⟨b, 0, none⟩) L.length c ∧ ρ 11 = .int .i64 m ∧ ρ 12 = .int .i64 i ∧ ms = [] ∧ h' = H ∧ d' = []) →
    LoopW M cx 7 sf3L0 ρ ms h' d' (fun ex ρ' ms' h' d' => ms' = [] ∧ h' = H ∧ d' = [] ∧ ex = .exit 0 ∧ (∀ r, r < 11 → ρ' r = ρ0 r) ∧ ∃ m : Int, (m = 0 ∨ ∃ t ∈ L, t g = m) ∧ 0 ≤ m ∧ (∀ t ∈ L, t g ≤ m) ∧ ρ' 11 = .int .i64 m) := by
  refine loop_run _ ?_
  rintro k ρ ms h' d' ⟨i, m, hk, hm, hm0, hall, hreg, r2, r10, r11, r12, rfl, rfl, rfl⟩
  unfold sf3L0
  by_cases c0 : k = 0
  · have e1 : ¬ ((i : Int) < L.length) := by omega
    repeat (first | apply Z1 | apply Z2 | apply Z3 | apply Z4 | apply Z5 rfl | apply Z6 | apply Z7 | apply Z8 | apply Z9 | apply ZA | apply ZB | apply ZC | ((first | apply ZD (by decide) | apply ZN (by decide)); (simp (maxSteps := 9999999) only [go_sem, r10, r12, e1]; rfl)) | (refine ZE ?_ ?_; · simp only [go_sem]) | (refine ZF ?_ ?_; · simp only [go_sem]))
    refine end_nil ⟨rfl, rfl, rfl, rfl, fun r hr => by simp only [upd_get]; (repeat rw [if_neg (by omega)]); exact hreg r hr, m, hm, hm0, fun t ht => ?_, by simp only [go_sem, r11]⟩
    obtain ⟨j, hj, rfl⟩ := List.getElem_of_mem ht
    exact hall j hj (by omega)
  · have e1 : ((i : Int) < L.length) := by omega
    have hi : i < L.length := by omega
    have e2 : (0 : Int) ≤ i := by omega
    have e3 : (0 : Int) ≤ g := by omega
    have e4 : (g : Int) < n := by omega
    have ew : IntKind.i64.wrap ((i : Int) + 1) = ((i + 1 : Nat) : Int) := by rw [wrap64 (by omega) (by omega)]; rfl
    obtain ⟨x, x1, x2⟩ := els i hi
    have ll := lst_len n L[i]
    obtain ⟨b1, o1, cp1, rfl, ld1⟩ := x2.ld (by intro e; rw [e] at ll; simp at ll; omega)
    have l1 := ld1 g (by omega)
    rw [← stk_at (by omega), lst_at _ hg] at l1
    rw [ll] at x1
    have hmem := List.getElem_mem hi
    have hbi := hb _ hmem g
    have hall' : ∀ m', m ≤ m' → L[i] g ≤ m' → ∀ (j : Nat) (hj : j < L.length), j < i + 1 → L[j] g ≤ m' := fun m' h1 h2 j hj hji => by
      by_cases e : j = i
      · subst e; exact h2
      · have := hall j hj (by omega); omega
    have mxv : (if m < L[i] g then L[i] g else m) = max m (L[i] g) := by rw [Int.max_def]; split <;> split <;> omega
    have hm2 : max m (L[i] g) = 0 ∨ ∃ t ∈ L, t g = max m (L[i] g) := by
      by_cases c3 : m ≤ L[i] g
      · exact .inr ⟨L[i], hmem, by omega⟩
      · rcases hm with h | ⟨t, h1, h2⟩
        · omega
        · exact .inr ⟨t, h1, by omega⟩
    generalize L[i] = u at *
    repeat (first | apply Z1 | apply Z2 | apply Z3 | apply Z4 | apply Z5 rfl | apply Z6 | apply Z7 | apply Z8 | apply Z9 | apply ZA | apply ZB | apply ZC | ((first | apply ZD (by decide) | apply ZN (by decide)); (simp (maxSteps := 9999999) only [go_sem, r2, r10, r11, r12, e1, e2, e3, e4, x1, l1, mxv, ew, Int.toNat_natCast]; rfl)) | (refine ZE ?_ ?_; · simp only [go_sem]) | (refine ZF ?_ ?_; · simp only [go_sem]))
    exact end_nil ⟨k - 1, by omega, i + 1, max m (u g), by omega, hm2, by omega, hall' _ (by omega) (by omega), fun r hr => by simp only [upd_get]; (repeat rw [if_neg (by omega)]); exact hreg r hr, by simp only [go_sem, r2], by simp only [go_sem, r10], by simp only [go_sem], by simp only [go_sem, ew], rfl, rfl, rfl⟩
end
theorem law3M {H : SHeap} {N goal : Int} {ev lv : Value} {X : List (Int × Int)} {l : List Int} (hv : PS H ev X) (hX : X.length ≤ 9223372036854775807) (hl : IS H lv l) (hll : l.length ≤ 9223372036854775807) :
    M.call 3 [.agg #[.int .i64 N, ev], lv, .int .i64 goal] H = some (.bool true, H, []) := by
  refine call_run sf3 rfl rfl rfl ?_
  obtain ⟨n, f, E, xv, H1, T, _, hn1, hn, hE, hC, he, hEl, P1, ⟨xa, xc, exv⟩, G1, F1, c15⟩ := tameS (N := N) hv hX (most := 6) (by decide) (by decide) false [.cells [.int .i64 N, ev] 24 false 0 []]
  have hEl' : E.length ≤ 1000000 := by omega
  rw [List.length_append, List.length_singleton] at F1 G1
  have G1' : ∀ j, j < H.length → H1[j]? = H[j]? := fun j hj => by rw [G1 j (by omega), List.getElem?_append_left hj]
  obtain ⟨s, S, c16, I2⟩ := broughtS (H1 := H1) hn1 hn (hl.fr (by omega) G1') hll (most := 12) (by decide)
  have S12 : ST n s 12 := S
  have S40 := S.mono (B' := 40) (by decide)
  have P2 := P1.app [.cells (iV n s) 3 true 0 []]
  have F2 : H.length ≤ (H1 ++ [.cells (iV n s) 3 true 0 []] : SHeap).length := by simp; omega
  have G2 : ∀ j, j < H.length → (H1 ++ [.cells (iV n s) 3 true 0 []] : SHeap)[j]? = H[j]? := fun j hj => by rw [List.getElem?_append_left (by omega)]; exact G1' j hj
  have hlt : H1.length < (H1 ++ [.cells (iV n s) 3 true 0 []] : SHeap).length := by simp
  generalize hH2 : H1 ++ [.cells (iV n s) 3 true 0 []] = H2 at *
  generalize hb2 : H1.length = b2 at *
  have hg := uR_lt goal (m := n) (by omega)
  have um := uR_eq goal (m := n) (by omega)
  have hwu : IntKind.u64.wrap (n : Int) = n := wrapU (by omega) (by omega)
  have hne : ¬ (n : Int) = 0 := by omega
  have w6 : IntKind.i64.wrap ((uR goal n : Nat) : Int) = ((uR goal n : Nat) : Int) := wrap64 (by omega) (by omega)
  generalize uR goal n = g at *
  obtain ⟨L, c, H3, c17, hmem, hLl, F3, G3, els⟩ := reached17 hn1 hn hE P2 hEl' hlt I2 S12
  have P3 := P2.fr G3
  have I3 := I2.fr (by omega) G3
  have c18 := most18 P3 hEl' he I3 (by rw [lst_len]; omega) (S40.sup hn) hg
  rw [stk_lst S] at c18
  have aw := awake_call H3
  have lx : loadS (H ++ [.cells [.int .i64 N, ev] 24 false 0 []]) (some 2) (.pointer (some ⟨H.length, 0, none⟩)) = some (.agg #[.int .i64 N, ev]) := by rw [load_appN0]; rfl
  rw [show ((6 : Nat) : Int) = 6 from rfl] at c15
  rw [show ((12 : Nat) : Int) = 12 from rfl] at c16
  obtain ⟨va, vc, rfl, _⟩ := id hv
  subst exv
  unfold sf3
  repeat (first | apply Z1 | apply Z2 | apply Z3 | apply Z4 | apply Z5 rfl | apply Z6 | apply Z7 | apply Z8 | apply Z9 | apply ZA | apply ZB | apply ZC | ((first | apply ZD (by decide) | apply ZN (by decide)); (simp (maxSteps := 9999999) only [go_sem, argR, lx, c15, c16, hwu, um, w6, hne, c17]; rfl)) | (refine ZE ?_ ?_; · simp only [go_sem]) | (refine ZF ?_ ?_; · simp only [go_sem]))
  refine run_loop (most_law_loop (c := c) _ hn hg hLl (fun t ht => ((hmem t).1 ht).nn hE S.nn) els L.length _ _ _ _ ⟨0, 0, by omega, .inl rfl, Int.le_refl 0, fun j _ hj => by omega, fun r _ => rfl, by simp only [go_sem], by simp only [go_sem], by simp only [go_sem], by simp only [go_sem] <;> rfl, rfl, rfl, rfl⟩) ?_
  rintro ex ρ2 ms2 h2 d2 ⟨rfl, rfl, rfl, rfl, K, m, m1, m0, m2, t11⟩
  have hmx : mx n E g s = m := by
    have h1 := (mx_is (g := g) hE hn S).1
    obtain ⟨t, q1, q2⟩ := h1
    have h2 := m2 t ((hmem t).2 q1.any)
    have h3 := (mx_bnd (g := g) hE hn S).1
    rcases m1 with h | ⟨u, h4, h5⟩
    · omega
    · have := mx_any (g := g) hE hn S ((hmem u).1 h4)
      omega
  rw [hmx] at c18
  have a2 : ρ2 2 = .int .i64 g := (K 2 (by decide)).trans (by simp only [go_sem])
  have a7 : ρ2 7 = .int .i64 n := (K 7 (by decide)).trans (by simp only [go_sem])
  have a8 : ρ2 8 = .slice xa E.length xc := (K 8 (by decide)).trans (by simp only [go_sem])
  have a9 : ρ2 9 = .slice (some ⟨b2, 0, none⟩) n (UNK + 1) := (K 9 (by decide)).trans (by simp only [go_sem])
  repeat (first | apply Z1 | apply Z2 | apply Z3 | apply Z4 | apply Z5 rfl | apply Z6 | apply Z7 | apply Z8 | apply Z9 | apply ZA | apply ZB | apply ZC | ((first | apply ZD (by decide) | apply ZN (by decide)); (simp (maxSteps := 9999999) only [go_sem, a2, a7, a8, a9, t11, c18, aw]; rfl)) | (refine ZE ?_ ?_; · simp only [go_sem]) | (refine ZF ?_ ?_; · simp only [go_sem]))
  exact end_nil (q_ret1 _ (by simp only [go_sem]) rfl (take_of_same (by omega) (fun j hj => by rw [G3 j (by omega)]; exact G2 j hj)))
end Go.Proofs.YtpkhkghiidilcaaDoor.Sh

namespace Go.Proofs.YtpkhkghiidilcaaDoor
open Go Go.RowKit Sh
set_option maxRecDepth 100000
theorem supplyMost.walk {a1 : Option Addr} {n1 c1 : Nat} {X1 : List (Int × Int)} {N0 : Int} {a2 : Option Addr} {n2 c2 : Nat} {X2 : List Int} (W : World) (hg : GlobW Tryd.prog W) (h1 : IsPrs W a1 n1 c1 X1) (h2 : IsIntsW W a2 n2 c2 X2) (z2 : Int) :
    Calls Tryd.prog 3 #[.agg #[.int .i64 N0, .slice a1 n1 c1], .slice a2 n2 c2, .int .i64 z2] W (fun e W' => e = .returned (.bool true) ∧ Below W.heap.size W W') := by
  obtain ⟨x1, b1, r1, k1⟩ := prs_arg h1
  obtain ⟨x2, b2, r2, k2⟩ := ints_arg h2
  obtain ⟨u1, v1, p1⟩ := k1 [] b2
  obtain ⟨u2, v2, p2⟩ := k2 b1 []
  simp only [List.nil_append, List.append_nil, List.append_assoc] at v1 p1 v2 p2
  exact walk_rel mixed tab (flatK_ok CA_ok) (Rel.ro hg (r1.app r2)) (LR.cons (VR.agg2 (.int _ _) v1) (LR.cons v2 (LR.cons (.int _ _) (LR.nil _)))) (law3M p1.ps x1 p2.is x2) rfl
end Go.Proofs.YtpkhkghiidilcaaDoor

