/- Arguments of the laws: graphs. -/
import Derived.Test.YtpkhkghiidilcaaDoorH45
import Derived.Test.YtpkhkghiidilcaaDoorH47
import Derived.WideShapes
import Derived.Test.YtpkhkghiidilcaaDoorH46
set_option linter.all false
namespace Go.Proofs.YtpkhkghiidilcaaDoor.Sh
open Go Go.RowKit Go.WideShapes Go.ChangeShapes
set_option maxRecDepth 100000
theorem u24 : ∃ f0 f1 : Field, Tryd.prog.underlying 24 = some (.struct #[f0, f1]) ∧ f0.type = 3 ∧ f0.offset = 0 ∧ f1.type = 22 ∧ f1.offset = 1 := st2_ok (by kernel_rfl)
theorem ct24 : Tryd.prog.cellTypes Tryd.prog.depth 24 = some [3, 22] := by kernel_rfl
theorem cells24 : Tryd.prog.cellsOf 24 = 2 := by kernel_rfl
theorem cells22 : Tryd.prog.cellsOf 22 = 1 := by kernel_rfl
theorem cells45 : Tryd.prog.cellsOf 45 = 2 := by kernel_rfl
theorem u22 : Tryd.prog.underlying 22 = some (.slice 45) := by kernel_rfl
theorem u45 : Tryd.prog.underlying 45 = some (.array 2 3) := by kernel_rfl
theorem u25 : Tryd.prog.underlying 25 = some (.slice 3) := by kernel_rfl
theorem open_graph {H : Type} {enc : TypeId × Value → H} {W : World} {base b0 : Nat} {spare : Nat → Bool} {held : Bool} {v : Value} {d : DataW H} {ps : List MemPlace}
    (hval : Value.okWide Tryd.prog W .any b0 24 v) (h : DataW.Trod enc Tryd.prog W base spare held 24 v d ps) : ∃ N a len cap X, v = .agg #[.int .i64 N, .slice a len cap] ∧ IsPrs W a len cap X := by
  obtain ⟨f0, f1, hu, t0, o0, t1, o1⟩ := u24
  simp only [Value.okWide, hu] at hval
  obtain ⟨cs, rfl, hsz, ts, hts, _, hrow⟩ := hval
  rw [ct24] at hts
  cases hts
  obtain ⟨fuel, hf⟩ := h
  have hf' : DataW.trod enc Tryd.prog W base spare held fuel 24 cs.toList = some (d, ps) := hf
  obtain ⟨y0, y1, n, hx, hl, h0, h1⟩ := trod_struct2 hu hf'
  rw [cells24] at hl
  rw [t0, o0, cells3] at h0
  rw [t1, o1, cells22] at h1
  match hcs : cs.toList, hl with
  | [c0, c1], _ =>
    rw [hcs] at h0 h1
    simp only [List.drop_zero, List.drop_succ_cons, List.take_succ_cons, List.take_zero] at h0 h1
    obtain ⟨n0, e0, _, _⟩ := DataW.trod_int u3 h0
    simp only [List.cons.injEq, and_true] at e0
    have e2 : cs = #[c0, c1] := Array.ext' hcs
    obtain ⟨u, hu1, hok⟩ := hrow 1 c1 (by rw [e2]; rfl)
    cases hu1
    have hv1 : Value.okWide Tryd.prog W .any b0 22 c1 := by simp only [Value.okWide, u22]; exact hok
    obtain ⟨a, len, cap, rfl⟩ := okWide_slice u22 hv1
    obtain ⟨X, hX⟩ := isPrs_of u22 u45 u3 cells45 cells3 hv1 (⟨n, h1⟩ : DataW.Trod enc Tryd.prog W base spare held 22 (.slice a len cap) y1.1 y1.2)
    exact ⟨n0, a, len, cap, X, by rw [e2, e0], hX⟩
end Go.Proofs.YtpkhkghiidilcaaDoor.Sh

namespace Go.Proofs.YtpkhkghiidilcaaDoor.Sh
open Go
set_option maxRecDepth 100000
set_option maxHeartbeats 4000000
theorem few31 {H : SHeap} {v : Value} {X : List Int} (hv : ISc H v X) (hlen : X.length ≤ 9223372036854775807) {most : Nat} (hm : most ≤ 1000) :
    M.call 31 [v, .int .i64 most] H = some (resV H (X.take most).length 1, resH H ((X.take most).map mkI) (X.take most).length 3, []) := by
  refine call_run sf31 rfl rfl rfl ?_
  obtain ⟨a, c, rfl, hc, ha⟩ := hv
  have hmin : (if (most : Int) < X.length then (most : Int) else X.length) = (((X.take most).length : Nat) : Int) := by
    rw [List.length_take]; split <;> omega
  have hk : (X.take most).length ≤ X.length := by rw [List.length_take]; omega
  have hk2 : (X.take most).length ≤ 1000 := by rw [List.length_take]; omega
  have sl := slice_to' (a := a) hk hc (by rcases ha with ⟨h1, h2, _⟩ | ⟨b, o, h1, _⟩; exact .inl ⟨h1, h2⟩; exact .inr ⟨b, o, h1⟩)
  unfold sf31
  by_cases c0 : (X.take most).length = 0
  · have ap := fun base d => append_nil0 (h := H) (a := a) (c := c) (s := 1) (bytes := 8) (el := 3) c0 base d
    have e : X.take most = [] := List.length_eq_zero_iff.1 c0
    generalize (X.take most).length = k at *
    repeat (first | apply Z1 | apply Z2 | apply Z3 | apply Z4 | apply Z5 rfl | apply Z6 | apply Z7 | apply Z8 | apply Z9 | apply ZA | apply ZB | apply ZC | ((first | apply ZD (by decide) | apply ZN (by decide)); (simp (maxSteps := 9999999) only [go_sem, argR, hmin, ↓sl, ↓ap]; rfl)) | (refine ZE ?_ ?_; · simp only [go_sem]) | (refine ZF ?_ ?_; · simp only [go_sem]))
    rw [e, c0]
    exact end_nil (q_free [.slice none 0 0] (by simp only [go_sem]) rfl rfl rfl (fun _ => rfl) (take_self _) rfl)
  · rcases ha with ⟨_, _, rfl⟩ | ⟨b, o, rfl, hp⟩
    · simp at c0
    · have hne : X ≠ [] := fun e => by rw [e] at c0; simp at c0
      have hil : IL H b o (X.take most) := fun i hi => by
        have hi2 : i < X.length := by rw [List.length_take] at hi; omega
        rw [(hp hne).2 i hi2]; simp
      have hr := hil.rdN (fun e => c0 (by rw [e]; rfl))
      have ap := fun base d => append_nilS (bytes := 8) (el := 3) (c := c) c0 hr (mkI_sc _) (by decide) (by omega) base d
      rw [← resV_pos H 1 c0, ← resH_pos H ((X.take most).map mkI) 3 c0]
      generalize (X.take most).length = k at *
      generalize (X.take most).map mkI = cs at *
      repeat (first | apply Z1 | apply Z2 | apply Z3 | apply Z4 | apply Z5 rfl | apply Z6 | apply Z7 | apply Z8 | apply Z9 | apply ZA | apply ZB | apply ZC | ((first | apply ZD (by decide) | apply ZN (by decide)); (simp (maxSteps := 9999999) only [go_sem, argR, hmin, ↓sl, ↓ap]; rfl)) | (refine ZE ?_ ?_; · simp only [go_sem]) | (refine ZF ?_ ?_; · simp only [go_sem]))
      exact end_nil (q_own1 (b := H.length) (old := []) (own := 0) (by simp only [go_sem]) (by simp) (by rw [app_get0]; rfl) rfl (Nat.le_refl _))
end Go.Proofs.YtpkhkghiidilcaaDoor.Sh

namespace Go.Proofs.YtpkhkghiidilcaaDoor.Sh
open Go
set_option maxRecDepth 100000
set_option maxHeartbeats 4000000
section
variable {H : SHeap} {v sv wv : Value} {E : List (Int × Int)} {l : List Int} {n : Int}
end
end Go.Proofs.YtpkhkghiidilcaaDoor.Sh

namespace Go.Proofs.YtpkhkghiidilcaaDoor.Sh
open Go
set_option maxRecDepth 100000
set_option maxHeartbeats 4000000
end Go.Proofs.YtpkhkghiidilcaaDoor.Sh

namespace Go.Proofs.YtpkhkghiidilcaaDoor.Sh
open Go
set_option maxRecDepth 100000
set_option maxHeartbeats 4000000
section
variable {H : SHeap} {N : Int} {ev lv : Value} {X : List (Int × Int)} {l : List Int}
theorem tameS (hv : PS H ev X) (hX : X.length ≤ 9223372036854775807) {most : Nat} (hm1 : 1 ≤ most) (hm : most ≤ 6) (tr : Bool) (x : SHeap) :
    ∃ (n : Nat) (f : Nat → Bool) (E : List (Int × Int)) (xv : Value) (H1 : SHeap), TM most tr n f ∧ E = castE (edg f 36) ∧ 1 ≤ n ∧ n ≤ most ∧ EOK n E ∧ Conn n E ∧ errG n E = 0 ∧ E.length ≤ 36 ∧ PS H1 xv E ∧ (∃ a c, xv = .slice a E.length c) ∧ (∀ j, j < (H ++ x).length → H1[j]? = (H ++ x)[j]?) ∧ (H ++ x).length ≤ H1.length ∧
      M.call 15 [.agg #[.int .i64 N, ev], .int .i64 most, .bool tr] (H ++ x) = some (.tuple #[.int .i64 n, xv], H1, []) := by
  obtain ⟨n, f, T, c15⟩ := tame15 (H := H ++ x) (N := N) (hv.app _) hX (most := most) hm1 hm tr
  have he := T.err hm
  obtain ⟨m, em, hn1, hn, hE, hC⟩ := errG_ok he
  obtain rfl : n = m := by omega
  have P1 := PS_res (H ++ x) (edg f 36) 45
  obtain ⟨k1, k2⟩ := resH_fr (H ++ x) (prN (edg f 36)) (edg f 36).length 45
  refine ⟨n, f, _, _, _, T, rfl, hn1, T.n2, hE, hC, he, ?_, P1, ?_, k2, k1, c15⟩
  · rw [castE_len]; exact edg_len f 36
  · obtain ⟨a, c, e, _⟩ := P1
    exact ⟨a, c, e⟩
theorem broughtS {H1 : SHeap} {n : Nat} (hn1 : 1 ≤ n) (hn : n ≤ 6) (hv : IS H1 lv l) (hlen : l.length ≤ 9223372036854775807) {most : Nat} (hm : most ≤ 1000) :
    ∃ s : Nat → Int, ST n s most ∧ M.call 16 [lv, .int .i64 n, .int .i64 most] H1 = some (.slice (some ⟨H1.length, 0, none⟩) n (UNK + 1), H1 ++ [.cells (iV n s) 3 true 0 []], []) ∧
      IS (H1 ++ [.cells (iV n s) 3 true 0 []]) (.slice (some ⟨H1.length, 0, none⟩) n (UNK + 1)) (lst n s) := by
  obtain ⟨s, S, c16⟩ := brought16 hn hv hlen (most := most) hm
  rw [← resV_pos H1 1 (show n ≠ 0 by omega), ← resH_pos H1 _ 3 (show n ≠ 0 by omega)] at c16
  exact ⟨s, S, c16, IS.lstAt (by rw [List.getElem?_append_right (Nat.le_refl _), Nat.sub_self]; rfl) rfl⟩
theorem fewS {n b : Nat} (hn1 : 1 ≤ n) (hn : n ≤ 6) {s : Nat → Int} (hb : H[b]? = some (.cells (iV n s) 3 true 0 [])) : M.call 31 [.slice (some ⟨b, 0, none⟩) n (UNK + 1), .int .i64 n] H = some (.slice (some ⟨H.length, 0, none⟩) n (UNK + 1), H ++ [.cells (iV n s) 3 true 0 []], []) := by
  have is : IS H (.slice (some ⟨b, 0, none⟩) n (UNK + 1)) (lst n s) := IS.lstAt hb rfl
  have ll := lst_len n s
  obtain ⟨a, c, e1, k⟩ := is
  have hne : lst n s ≠ [] := fun e => by rw [e] at ll; simp at ll; omega
  obtain ⟨b', o, e2, k1, k2⟩ := k hne
  have c31 := few31 (H := H) (v := .slice (some ⟨b, 0, none⟩) n (UNK + 1)) (X := lst n s) ⟨a, c, e1, by
    rw [ll] at e1 ⊢
    simp at e1
    exact .inr e1.2.symm, .inr ⟨b', o, e2, fun _ => ⟨k1, k2⟩⟩⟩ (by rw [ll]; omega) (most := n) (by omega)
  have ht : (lst n s).take n = lst n s := List.take_of_length_le (by rw [ll]; exact Nat.le_refl _)
  rw [ht, ll, ← resV_pos H 1 (show n ≠ 0 by omega), ← resH_pos H _ 3 (show n ≠ 0 by omega), map_stk ll] at c31
  have e : iV n (stk (lst n s)) = iV n s := iV_congr (fun v hv => lst_at s hv)
  rw [e] at c31
  exact c31
theorem lst_sum {n : Nat} {s : Nat → Int} {B : Int} (hn : n ≤ 6) (S : ST n s B) : (lst n s).sum = tot s := by
  rw [← tot_lin hn S]
  have : ∀ k, (lst k s).sum = lin k (fun _ => 1) s := by
    intro k
    induction k with
    | zero => rfl
    | succ k ih =>
      show _ = lin k _ s + 1 * s k
      rw [← ih]
      unfold lst
      rw [List.range_succ]
      simp
  exact this n
theorem memL {n : Nat} {s : Nat → Int} {B : Int} (hn : n ≤ 6) (S : ST n s B) (hB : B ≤ 1000) : ∀ x ∈ lst n s, 0 ≤ x ∧ x ≤ 1000 := fun x hx => by
  unfold lst at hx
  obtain ⟨v, _, rfl⟩ := List.mem_map.1 hx
  have := S.bnd hn v
  omega
theorem sum29S {n : Nat} {s : Nat → Int} {B : Int} {v : Value} (hn : n ≤ 6) (S : ST n s B) (hB : B ≤ 1000) (hv : IS H v (lst n s)) : M.call 29 [v] H = some (.int .i64 (tot s), H, []) := by
  rw [← lst_sum hn S]
  exact sum29 hv (memL hn S hB) (by rw [lst_len]; omega)
theorem pl_up (s : Nat → Int) (u : Nat) (k : Int) : up s u (s u + k) = pl s u k := rfl
theorem planS {n : Nat} {E : List (Int × Int)} {g : Nat} {v sv : Value} {s : Nat → Int} (hv : PS H v E) (hlen : E.length ≤ 1000000) (he : errG n E = 0) (hs : IS H sv (lst n s)) (S : ST n s 40) (hn : n ≤ 6) (hg : g < n) :
    ∃ (ok : Bool) (P : List (Nat × Nat)) (a : Option Addr) (c : Nat) (H4 : SHeap), M.call 28 [.int .i64 n, v, sv, .int .i64 g] H = some (.tuple #[.slice a P.length c, .bool ok, .int .i64 0], H4, []) ∧ (ok = true ↔ 0 < mx n E g s) ∧ (ok = true → ∃ t, doM n E s (castE P) = (t, P.length) ∧ 0 < t g) ∧ (ok = false → P = []) ∧ P.length ≤ 40 ∧
      H.length ≤ H4.length ∧ (∀ j, j < H.length → H4[j]? = H[j]?) ∧ PS H4 (.slice a P.length c) (castE P) := by
  have h := plan28 hv hlen he hs (by rw [lst_len]; omega) (S.sup hn) hg
  rw [stk_lst S] at h
  rcases h with ⟨h1, h2⟩ | ⟨h1, P, t, h2, h3, h4, h5⟩
  · exact ⟨false, [], none, 0, H, h2, ⟨(fun h => by cases h), fun h => by omega⟩, (fun h => by cases h), fun _ => rfl, by simp, Nat.le_refl _, fun j _ => rfl, none, 0, rfl, fun h => (h rfl).elim⟩
  · obtain ⟨k1, k2⟩ := resH_fr H (prN P) P.length 45
    have ps := PS_res H P 45
    obtain ⟨a, c, e, k⟩ := id ps
    rw [castE_len] at e
    rw [e] at h5 ps
    exact ⟨true, P, a, c, _, h5, ⟨fun _ => h1, fun _ => rfl⟩, fun _ => ⟨t, h2, h3⟩, (fun h => by cases h), h4, k1, k2, ps⟩
end
end Go.Proofs.YtpkhkghiidilcaaDoor.Sh

namespace Go.Proofs.YtpkhkghiidilcaaDoor.Sh
open Go
set_option maxRecDepth 100000
set_option maxHeartbeats 4000000
section
variable {n : Nat} {E : List (Int × Int)} {at_ : Nat} {k : Int}
theorem weigh_loop (cx : Cx) {H : SHeap} {b : Nat} (hb : H[b]? = some (.cells (iV n (farI n E at_)) 3 true 0 [])) (hn : n ≤ 6) (hE : EOK n E) (hc : Conn n E) (ha : at_ < n) (hk : IsNum n E at_ k) {R2 R8 R9 R10 R15 R18 : Value} :
    ∀ m ρ ms h' d', (∃ v : Nat, v + m = n ∧ ρ 7 = .int .i64 n ∧ ρ 11 = .int .i64 k ∧ ρ 13 = .slice (some ⟨b, 0, none⟩) n (UNK + 1) ∧ ρ 20 = .int .i64 v ∧ ρ 2 = R2 ∧ ρ 8 = R8 ∧ ρ 9 = R9 ∧ ρ 10 = R10 ∧ ρ 15 = R15 ∧ ρ 18 = R18 ∧ ms = [] ∧ h' = H ∧ d' = []) →
    LoopW M cx 8 sf6L0 ρ ms h' d' (fun ex ρ' ms' h' d' => ms' = [] ∧ h' = H ∧ d' = [] ∧ ex = .exit 0 ∧ ρ' 7 = .int .i64 n ∧ ρ' 13 = .slice (some ⟨b, 0, none⟩) n (UNK + 1) ∧ ρ' 2 = R2 ∧ ρ' 8 = R8 ∧ ρ' 9 = R9 ∧ ρ' 10 = R10 ∧ ρ' 15 = R15 ∧ ρ' 18 = R18) := by
  refine loop_run _ ?_
  rintro m ρ ms h' d' ⟨v, hm, r7, r11, r13, r20, r2, r8, r9, r10, r15, r18, rfl, rfl, rfl⟩
  unfold sf6L0
  by_cases c : m = 0
  · have e1 : ¬ ((v : Int) < n) := by omega
    repeat (first | apply Z1 | apply Z2 | apply Z3 | apply Z4 | apply Z5 rfl | apply Z6 | apply Z7 | apply Z8 | apply Z9 | apply ZA | apply ZB | apply ZC | ((first | apply ZD (by decide) | apply ZN (by decide)); (simp (maxSteps := 9999999) only [go_sem, r7, r20, e1]; rfl)) | (refine ZE ?_ ?_; · simp only [go_sem]) | (refine ZF ?_ ?_; · simp only [go_sem]))
    exact end_nil ⟨rfl, rfl, rfl, rfl, by simp only [go_sem, r7], by simp only [go_sem, r13], by simp only [go_sem, r2], by simp only [go_sem, r8], by simp only [go_sem, r9], by simp only [go_sem, r10], by simp only [go_sem, r15], by simp only [go_sem, r18]⟩
  · have e1 : ((v : Int) < n) := by omega
    have hv : v < n := by omega
    have e2 : (0 : Int) ≤ v := by omega
    have ew : IntKind.i64.wrap ((v : Int) + 1) = ((v + 1 : Nat) : Int) := by rw [wrap64 (by omega) (by omega)]; rfl
    have ld : loadS h' none (.pointer (some ⟨b, v, none⟩)) = some (.int .i64 (farE n E at_ v : Int)) := by
      have := load_cell (o := v) hb rfl (iV_get _ hv) []
      rw [List.append_nil, farI_conn hc ha hv] at this; exact this
    have fl := far_lt hc ha hv
    have c1 : ¬ ((farE n E at_ v : Int) < 0) := by omega
    have c2 : ¬ ((farE n E at_ v : Int) ≥ n) := by omega
    have sh := shl_1 (k := .i64) (v := farE n E at_ v) (by omega)
    have hp : 0 < 2 ^ farE n E at_ v := Nat.pow_pos (by decide)
    have U : Un n E at_ (farS v (((2 ^ farE n E at_ v : Nat) : Int) - 1)) := ⟨(farS_st (by omega) hv (by omega)).mono (by
      have : 2 ^ farE n E at_ v ≤ 2 ^ 6 := Nat.pow_le_pow_right (by decide) (by omega)
      omega), far_no hE hn hc ha hv⟩
    have hu := hk.2 _ U
    rw [farS_tot (by omega)] at hu
    have c3 : ¬ (k < ((2 ^ farE n E at_ v : Nat) : Int)) := by omega
    repeat (first | apply Z1 | apply Z2 | apply Z3 | apply Z4 | apply Z5 rfl | apply Z6 | apply Z7 | apply Z8 | apply Z9 | apply ZA | apply ZB | apply ZC | ((first | apply ZD (by decide) | apply ZN (by decide)); (simp (maxSteps := 9999999) only [go_sem, r7, r11, r13, r20, e1, e2, ld, c1, c2, sh, c3, ew, Int.toNat_natCast]; rfl)) | (refine ZE ?_ ?_; · simp only [go_sem]) | (refine ZF ?_ ?_; · simp only [go_sem]))
    exact end_nil ⟨m - 1, by omega, v + 1, by omega, by simp only [go_sem, r7], by simp only [go_sem, r11], by simp only [go_sem, r13], by simp only [go_sem, ew], by simp only [go_sem, r2], by simp only [go_sem, r8], by simp only [go_sem, r9], by simp only [go_sem, r10], by simp only [go_sem, r15], by simp only [go_sem, r18], rfl, rfl, rfl⟩
end
theorem law6M {H : SHeap} {N goal : Int} {ev lv : Value} {X : List (Int × Int)} {l : List Int} (hv : PS H ev X) (hX : X.length ≤ 9223372036854775807) (hl : IS H lv l) (hll : l.length ≤ 9223372036854775807) :
    M.call 6 [.agg #[.int .i64 N, ev], lv, .int .i64 goal] H = some (.bool true, H, []) := by
  refine call_run sf6 rfl rfl rfl ?_
  obtain ⟨n, f, E, xv, H1, T, _, hn1, hn, hE, hC, he, hEl, P1, ⟨xa, xc, exv⟩, G1, F1, c15⟩ := tameS (N := N) hv hX (most := 6) (by decide) (by decide) false [.cells [.int .i64 N, ev] 24 false 0 []]
  have hEl' : E.length ≤ 1000000 := by omega
  rw [List.length_append, List.length_singleton] at F1 G1
  have G1' : ∀ j, j < H.length → H1[j]? = H[j]? := fun j hj => by rw [G1 j (by omega), List.getElem?_append_left hj]
  obtain ⟨s, S, c16, I2⟩ := broughtS (H1 := H1) hn1 hn (hl.fr (by omega) G1') hll (most := 14) (by decide)
  have S40 := S.mono (B' := 40) (by decide)
  have P2 := P1.app [.cells (iV n s) 3 true 0 []]
  have F2 : H.length ≤ (H1 ++ [.cells (iV n s) 3 true 0 []] : SHeap).length := by simp; omega
  have G2 : ∀ j, j < H.length → (H1 ++ [.cells (iV n s) 3 true 0 []] : SHeap)[j]? = H[j]? := fun j hj => by rw [List.getElem?_append_left (by omega)]; exact G1' j hj
  have B2 : (H1 ++ [.cells (iV n s) 3 true 0 []] : SHeap)[H1.length]? = some (.cells (iV n s) 3 true 0 []) := by rw [app_get0]; rfl
  generalize hH2 : H1 ++ [.cells (iV n s) 3 true 0 []] = H2 at *
  generalize hb2 : H1.length = b2 at *
  have hg := uR_lt goal (m := n) (by omega)
  have um := uR_eq goal (m := n) (by omega)
  have hwu : IntKind.u64.wrap (n : Int) = n := wrapU (by omega) (by omega)
  have hne : ¬ (n : Int) = 0 := by omega
  have w6 : IntKind.i64.wrap ((uR goal n : Nat) : Int) = ((uR goal n : Nat) : Int) := wrap64 (by omega) (by omega)
  have hu := uR_lt ((IntKind.u64.wrap goal).tdiv 7) (m := n) (by omega)
  have um2 := uR_eq ((IntKind.u64.wrap goal).tdiv 7) (m := n) (by omega)
  have w7 : IntKind.i64.wrap ((uR ((IntKind.u64.wrap goal).tdiv 7) n : Nat) : Int) = ((uR ((IntKind.u64.wrap goal).tdiv 7) n : Nat) : Int) := wrap64 (by omega) (by omega)
  have z7 : ¬ ((7 : Int) = 0) := by decide
  generalize uR goal n = g at *
  generalize uR ((IntKind.u64.wrap goal).tdiv 7) n = u at *
  obtain ⟨k, hk, c26⟩ := number26 P2 hEl' he hg
  have c27 := far27 P2 hEl' he hg
  have I3 : IS (H2 ++ [.cells (iV n (farI n E g)) 3 true 0 []]) (.slice (some ⟨b2, 0, none⟩) n (UNK + 1)) (lst n s) := I2.app _
  have P3 := P2.app [.cells (iV n (farI n E g)) 3 true 0 []]
  have F3 : H.length ≤ (H2 ++ [.cells (iV n (farI n E g)) 3 true 0 []] : SHeap).length := by simp; omega
  have hlt2 : b2 < H2.length := (List.getElem?_eq_some_iff.1 B2).1
  have G3 : ∀ j, j < H.length → (H2 ++ [.cells (iV n (farI n E g)) 3 true 0 []] : SHeap)[j]? = H[j]? := fun j hj => by rw [List.getElem?_append_left (by omega)]; exact G2 j hj
  have B3 : (H2 ++ [.cells (iV n (farI n E g)) 3 true 0 []] : SHeap)[b2]? = some (.cells (iV n s) 3 true 0 []) := by rw [List.getElem?_append_left hlt2]; exact B2
  have D3 : (H2 ++ [.cells (iV n (farI n E g)) 3 true 0 []] : SHeap)[H2.length]? = some (.cells (iV n (farI n E g)) 3 true 0 []) := by rw [app_get0]; rfl
  have FI : IS (H2 ++ [.cells (iV n (farI n E g)) 3 true 0 []]) (.slice (some ⟨H2.length, 0, none⟩) n (UNK + 1)) (lst n (farI n E g)) := IS.lstAt D3 rfl
  generalize H2 ++ [.cells (iV n (farI n E g)) 3 true 0 []] = H3 at *
  have c18 := most18 P3 hEl' he I3 (by rw [lst_len]; omega) (S40.sup hn) hg
  rw [stk_lst S] at c18
  have hmb := mx_bnd (g := g) hE hn S
  have hsum := sum29S hn S (by decide) I3
  have hUn : tot s + 1 ≤ k ∨ 0 < mx n E g s := by
    by_cases c : 0 < mx n E g s
    · exact .inr c
    · exact .inl (hk.2 s ⟨S.mono (by decide), by omega⟩)
  have hkn : (n : Int) ≤ k := by
    have := hk.2 _ ⟨oneS_st.mono (by decide), by rw [ones_no hE hn hg]; exact Int.le_refl 0⟩
    rw [oneS_tot hn hg] at this; omega
  have hk64 : k ≤ 64 := by
    obtain ⟨p, h1, h2⟩ := hk.1
    have := (h1.le40 hE hn hC hg).le
    omega
  have hk0 : 0 ≤ k := by omega
  have hwt : 64 * mx n E g s ≤ lin n (wg n E g) s := by
    obtain ⟨⟨t, h1, h2⟩, _⟩ := mx_is (g := g) hE hn S
    rw [← h2]
    exact h1.weight hE hn hC hg S.nn
  have hs := fun v => S.bnd hn v
  have S1 : ST n (pl s u 1) 15 := (pl_st hn S hu (by decide)).mono (by omega)
  have S140 := S1.mono (B' := 40) (by decide)
  have hmore := mx_more (g := g) (k := 1) hE hn S hu (by decide)
  obtain ⟨ok, P, pa, pc, H4, c28, ok1, _, _, hP, F4, G4, _⟩ := planS P3 hEl' he I3 S40 hn hg
  have P4 := P3.fr G4
  have I4 := I3.fr F4 G4
  have FI4 := FI.fr F4 G4
  have hD3 := (List.getElem?_eq_some_iff.1 D3).1
  have D4 : H4[H2.length]? = some (.cells (iV n (farI n E g)) 3 true 0 []) := by rw [G4 _ hD3]; exact D3
  have hB3 := (List.getElem?_eq_some_iff.1 B3).1
  have B4 : H4[b2]? = some (.cells (iV n s) 3 true 0 []) := by rw [G4 _ hB3]; exact B3
  have c31 := fewS hn1 hn B4
  have sum4 := sum29S hn S (by decide) I4
  have w30 := weighs30 hn hg hC (fun v => by have := hs v; omega) FI4 I4 ⟨hmb.1, by omega⟩ hwt
  have lst_pl : ∀ base, storeS base (H4 ++ [.cells (iV n s) 3 true 0 []]) [] H4.length u (cellsL (.int .i64 (s u + 1))) = some (H4 ++ [.cells (iV n (pl s u 1)) 3 true 0 []], []) := fun base => by
    have := store_cell (h := H4 ++ [.cells (iV n s) 3 true 0 []]) (base := base) (b := H4.length) (o := u) (c := .int .i64 (s u + 1)) (cs := iV n s) (el := 3) (pf := true) (by rw [app_get0]; rfl) (by rw [iV_len]; exact hu) rfl (fun _ => rfl) []
    rw [iV_set _ hu, pl_up] at this
    rw [cells_int, this, List.set_append_right _ _ (Nat.le_refl _), Nat.sub_self]; rfl
  have lu : loadS (H4 ++ [.cells (iV n s) 3 true 0 []]) none (.pointer (some ⟨H4.length, u, none⟩)) = some (.int .i64 (s u)) := by
    have := load_cell (h := H4 ++ [.cells (iV n s) 3 true 0 []]) (b := H4.length) (o := u) (cs := iV n s) (el := 3) (pf := true) (own := 0) (old := []) (by rw [app_get0]; rfl) rfl (iV_get _ hu) []
    rw [List.append_nil] at this; exact this
  have wu1 : IntKind.i64.wrap (s u + 1) = s u + 1 := by have := hs u; exact wrap64 (by omega) (by omega)
  have zu1 : (0 : Int) ≤ u := by omega
  have zu2 : (u : Int) < n := by omega
  have I5 : IS (H4 ++ [.cells (iV n (pl s u 1)) 3 true 0 []]) (.slice (some ⟨H4.length, 0, none⟩) n (UNK + 1)) (lst n (pl s u 1)) := IS.lstAt (by rw [app_get0]; rfl) rfl
  have P5 := P4.app [.cells (iV n (pl s u 1)) 3 true 0 []]
  obtain ⟨ok5, Q, qa, qc, H6, c28', ok2, _, _, _, F6, G6, _⟩ := planS P5 hEl' he I5 S140 hn hg
  have P6 := P5.fr G6
  have I6 := I5.fr F6 G6
  have c18' := most18 P6 hEl' he I6 (by rw [lst_len]; omega) (S140.sup hn) hg
  rw [stk_lst S140] at c18'
  rw [List.length_append, List.length_singleton] at F6 G6
  have G7 : ∀ j, j < H.length → H6[j]? = H[j]? := fun j hj => by rw [G6 j (by omega), List.getElem?_append_left (by omega), G4 j (by omega)]; exact G3 j hj
  have aw := awake_call H6
  have c1 : ¬ (k < n) := by omega
  have c2 : ¬ (k > 64) := by omega
  have c3 : ¬ (mx n E g s < 0) := by omega
  have c4 : ¬ (mx n E g s > 40) := by omega
  have c5 : mx n E g (pl s u 1) ≥ mx n E g s := hmore
  have lx : loadS (H ++ [.cells [.int .i64 N, ev] 24 false 0 []]) (some 2) (.pointer (some ⟨H.length, 0, none⟩)) = some (.agg #[.int .i64 N, ev]) := by rw [load_appN0]; rfl
  rw [show ((6 : Nat) : Int) = 6 from rfl] at c15
  rw [show ((14 : Nat) : Int) = 14 from rfl] at c16
  generalize mx n E g s = m at *
  generalize mx n E g (pl s u 1) = m2 at *
  obtain ⟨va, vc, rfl, _⟩ := id hv
  subst exv
  have fin : ∀ (ρ : Reg), ρ 6 = .bool true → callQ [.tmp 6] H.length (.bool true, H, []) .ret ρ [] H6 [] := fun ρ e => q_ret1 _ e rfl (take_of_same (by omega) G7)
  unfold sf6
  by_cases hm : m ≥ 1
  · have o1 : ok = true := ok1.2 (by omega)
    have o2 : ok5 = true := ok2.2 (by omega)
    subst o1 o2
    by_cases hk2 : tot s ≥ k
    · repeat (first | apply Z1 | apply Z2 | apply Z3 | apply Z4 | apply Z5 rfl | apply Z6 | apply Z7 | apply Z8 | apply Z9 | apply ZA | apply ZB | apply ZC | ((first | apply ZD (by decide) | apply ZN (by decide)); (simp (maxSteps := 9999999) only [go_sem, argR, lx, c15, c16, hwu, um, w6, hne, c26, c27, c18, c28, c1, c2, c3, c4, hm, sum4, hk2]; rfl)) | (refine ZE ?_ ?_; · simp only [go_sem]) | (refine ZF ?_ ?_; · simp only [go_sem]))
      refine run_loop (weigh_loop _ D4 hn hE hC hg hk (R2 := .int .i64 goal) (R8 := .slice xa E.length xc) (R9 := .slice (some ⟨b2, 0, none⟩) n (UNK + 1)) (R10 := .int .i64 g) (R15 := .int .i64 m) (R18 := .bool true) n _ _ _ _ ⟨0, by omega, by simp only [go_sem], by simp only [go_sem], by simp only [go_sem], by simp only [go_sem], by simp only [go_sem, argR], by simp only [go_sem], by simp only [go_sem], by simp only [go_sem], by simp only [go_sem], by simp only [go_sem], rfl, rfl, rfl⟩) ?_
      rintro ex ρ2 ms2 h2 d2 ⟨rfl, rfl, rfl, rfl, r7, r13, r2, r8, r9, r10, r15, r18⟩
      repeat (first | apply Z1 | apply Z2 | apply Z3 | apply Z4 | apply Z5 rfl | apply Z6 | apply Z7 | apply Z8 | apply Z9 | apply ZA | apply ZB | apply ZC | ((first | apply ZD (by decide) | apply ZN (by decide)); (simp (maxSteps := 9999999) only [go_sem, r7, r13, r2, r8, r9, r10, r15, r18, w30, c31, hwu, hne, z7, um2, w7, zu1, zu2, lu, wu1, ↓lst_pl, c28', c18', c5, aw, Int.toNat_natCast]; rfl)) | (refine ZE ?_ ?_; · simp only [go_sem]) | (refine ZF ?_ ?_; · simp only [go_sem]))
      exact end_nil (fin _ (by simp only [go_sem]))
    · repeat (first | apply Z1 | apply Z2 | apply Z3 | apply Z4 | apply Z5 rfl | apply Z6 | apply Z7 | apply Z8 | apply Z9 | apply ZA | apply ZB | apply ZC | ((first | apply ZD (by decide) | apply ZN (by decide)); (simp (maxSteps := 9999999) only [go_sem, argR, lx, c15, c16, hwu, um, w6, hne, c26, c27, c18, c28, c1, c2, c3, c4, hm, sum4, hk2]; rfl)) | (refine ZE ?_ ?_; · simp only [go_sem]) | (refine ZF ?_ ?_; · simp only [go_sem]))
      refine run_loop (weigh_loop _ D4 hn hE hC hg hk (R2 := .int .i64 goal) (R8 := .slice xa E.length xc) (R9 := .slice (some ⟨b2, 0, none⟩) n (UNK + 1)) (R10 := .int .i64 g) (R15 := .int .i64 m) (R18 := .bool true) n _ _ _ _ ⟨0, by omega, by simp only [go_sem], by simp only [go_sem], by simp only [go_sem], by simp only [go_sem], by simp only [go_sem, argR], by simp only [go_sem], by simp only [go_sem], by simp only [go_sem], by simp only [go_sem], by simp only [go_sem], rfl, rfl, rfl⟩) ?_
      rintro ex ρ2 ms2 h2 d2 ⟨rfl, rfl, rfl, rfl, r7, r13, r2, r8, r9, r10, r15, r18⟩
      repeat (first | apply Z1 | apply Z2 | apply Z3 | apply Z4 | apply Z5 rfl | apply Z6 | apply Z7 | apply Z8 | apply Z9 | apply ZA | apply ZB | apply ZC | ((first | apply ZD (by decide) | apply ZN (by decide)); (simp (maxSteps := 9999999) only [go_sem, r7, r13, r2, r8, r9, r10, r15, r18, w30, c31, hwu, hne, z7, um2, w7, zu1, zu2, lu, wu1, ↓lst_pl, c28', c18', c5, aw, Int.toNat_natCast]; rfl)) | (refine ZE ?_ ?_; · simp only [go_sem]) | (refine ZF ?_ ?_; · simp only [go_sem]))
      exact end_nil (fin _ (by simp only [go_sem]))
  · have o1 : ok = false := by
      cases ok with
      | false => rfl
      | true => have := ok1.1 rfl; omega
    subst o1
    have hk2 : ¬ (tot s ≥ k) := by omega
    repeat (first | apply Z1 | apply Z2 | apply Z3 | apply Z4 | apply Z5 rfl | apply Z6 | apply Z7 | apply Z8 | apply Z9 | apply ZA | apply ZB | apply ZC | ((first | apply ZD (by decide) | apply ZN (by decide)); (simp (maxSteps := 9999999) only [go_sem, argR, lx, c15, c16, hwu, um, w6, hne, c26, c27, c18, c28, c1, c2, c3, c4, hm, sum4, hk2]; rfl)) | (refine ZE ?_ ?_; · simp only [go_sem]) | (refine ZF ?_ ?_; · simp only [go_sem]))
    refine run_loop (weigh_loop _ D4 hn hE hC hg hk (R2 := .int .i64 goal) (R8 := .slice xa E.length xc) (R9 := .slice (some ⟨b2, 0, none⟩) n (UNK + 1)) (R10 := .int .i64 g) (R15 := .int .i64 m) (R18 := .bool false) n _ _ _ _ ⟨0, by omega, by simp only [go_sem], by simp only [go_sem], by simp only [go_sem], by simp only [go_sem], by simp only [go_sem, argR], by simp only [go_sem], by simp only [go_sem], by simp only [go_sem], by simp only [go_sem], by simp only [go_sem], rfl, rfl, rfl⟩) ?_
    rintro ex ρ2 ms2 h2 d2 ⟨rfl, rfl, rfl, rfl, r7, r13, r2, r8, r9, r10, r15, r18⟩
    repeat (first | apply Z1 | apply Z2 | apply Z3 | apply Z4 | apply Z5 rfl | apply Z6 | apply Z7 | apply Z8 | apply Z9 | apply ZA | apply ZB | apply ZC | ((first | apply ZD (by decide) | apply ZN (by decide)); (simp (maxSteps := 9999999) only [go_sem, r7, r13, r2, r8, r9, r10, r15, r18, w30, c31, hwu, hne, z7, um2, w7, zu1, zu2, lu, wu1, ↓lst_pl, c28', c18', c5, aw, Int.toNat_natCast]; rfl)) | (refine ZE ?_ ?_; · simp only [go_sem]) | (refine ZF ?_ ?_; · simp only [go_sem]))
    exact end_nil (fin _ (by simp only [go_sem]))
end Go.Proofs.YtpkhkghiidilcaaDoor.Sh

namespace Go.Proofs.YtpkhkghiidilcaaDoor
open Go Go.RowKit Sh
set_option maxRecDepth 100000
theorem supplyWeighs.walk {N : Int} {a1 a2 : Option Addr} {n1 n2 c1 c2 : Nat} {X : List (Int × Int)} {l : List Int} (W : World) (hg : GlobW Tryd.prog W) (h1 : IsPrs W a1 n1 c1 X) (h2 : IsIntsW W a2 n2 c2 l) (goal : Int) :
    Calls Tryd.prog 6 #[.agg #[.int .i64 N, .slice a1 n1 c1], .slice a2 n2 c2, .int .i64 goal] W (fun e W' => e = .returned (.bool true) ∧ Below W.heap.size W W') := by
  obtain ⟨x1, b1, r1, k1⟩ := prs_arg h1
  obtain ⟨x2, b2, r2, k2⟩ := ints_arg h2
  obtain ⟨u1, v1, p1⟩ := k1 [] b2
  obtain ⟨u2, v2, p2⟩ := k2 b1 []
  simp only [List.nil_append, List.append_nil, List.append_assoc] at v1 p1 v2 p2
  exact walk_rel mixed tab (flatK_ok CA_ok) (Rel.ro hg (r1.app r2)) (LR.cons (VR.agg2 (.int _ _) v1) (LR.cons v2 (LR.cons (.int _ _) (LR.nil _)))) (law6M p1.ps x1 p2.is x2) rfl
end Go.Proofs.YtpkhkghiidilcaaDoor

