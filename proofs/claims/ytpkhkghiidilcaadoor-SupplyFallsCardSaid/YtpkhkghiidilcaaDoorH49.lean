/- Arguments of the laws: graphs. -/
import Derived.Test.YtpkhkghiidilcaaDoorH46
import Derived.Test.YtpkhkghiidilcaaDoorH48
import Derived.WideShapes
import Derived.Test.YtpkhkghiidilcaaDoorH47
import Derived.ChangeArms
set_option linter.all false
namespace Go.Proofs.YtpkhkghiidilcaaDoor.Sh
open Go Go.RowKit Go.WideShapes Go.ChangeShapes
set_option maxRecDepth 100000
theorem u24 : ∃ f0 f1 : Field, Tryd.prog.underlying 24 = some (.struct #[f0, f1]) ∧ f0.type = 3 ∧ f0.offset = 0 ∧ f1.type = 22 ∧ f1.offset = 1 := st2_ok (by kernel_rfl)
theorem ct24 : Tryd.prog.cellTypes Tryd.prog.depth 24 = some [3, 22] := by kernel_rfl
theorem cells24 : Tryd.prog.cellsOf 24 = 2 := by kernel_rfl
theorem cells22 : Tryd.prog.cellsOf 22 = 1 := by kernel_rfl
theorem cells45 : Tryd.prog.cellsOf 45 = 2 := by kernel_rfl
theorem u22 : Tryd.prog.underlying 22 = some (.slice 45) := by kernel_rfl
theorem u45 : Tryd.prog.underlying 45 = some (.array 2 3) := by kernel_rfl
theorem u25 : Tryd.prog.underlying 25 = some (.slice 3) := by kernel_rfl
theorem open_graph {H : Type} {enc : TypeId × Value → H} {W : World} {base b0 : Nat} {spare : Nat → Bool} {held : Bool} {v : Value} {d : DataW H} {ps : List MemPlace}
    (hval : Value.okWide Tryd.prog W .any b0 24 v) (h : DataW.Trod enc Tryd.prog W base spare held 24 v d ps) : ∃ N a len cap X, v = .agg #[.int .i64 N, .slice a len cap] ∧ IsPrs W a len cap X := by
  obtain ⟨f0, f1, hu, t0, o0, t1, o1⟩ := u24
  simp only [Value.okWide, hu] at hval
  obtain ⟨cs, rfl, hsz, ts, hts, _, hrow⟩ := hval
  rw [ct24] at hts
  cases hts
  obtain ⟨fuel, hf⟩ := h
  have hf' : DataW.trod enc Tryd.prog W base spare held fuel 24 cs.toList = some (d, ps) := hf
  obtain ⟨y0, y1, n, hx, hl, h0, h1⟩ := trod_struct2 hu hf'
  rw [cells24] at hl
  rw [t0, o0, cells3] at h0
  rw [t1, o1, cells22] at h1
  match hcs : cs.toList, hl with
  | [c0, c1], _ =>
    rw [hcs] at h0 h1
    simp only [List.drop_zero, List.drop_succ_cons, List.take_succ_cons, List.take_zero] at h0 h1
    obtain ⟨n0, e0, _, _⟩ := DataW.trod_int u3 h0
    simp only [List.cons.injEq, and_true] at e0
    have e2 : cs = #[c0, c1] := Array.ext' hcs
    obtain ⟨u, hu1, hok⟩ := hrow 1 c1 (by rw [e2]; rfl)
    cases hu1
    have hv1 : Value.okWide Tryd.prog W .any b0 22 c1 := by simp only [Value.okWide, u22]; exact hok
    obtain ⟨a, len, cap, rfl⟩ := okWide_slice u22 hv1
    obtain ⟨X, hX⟩ := isPrs_of u22 u45 u3 cells45 cells3 hv1 (⟨n, h1⟩ : DataW.Trod enc Tryd.prog W base spare held 22 (.slice a len cap) y1.1 y1.2)
    exact ⟨n0, a, len, cap, X, by rw [e2, e0], hX⟩
end Go.Proofs.YtpkhkghiidilcaaDoor.Sh

namespace Go.Proofs.YtpkhkghiidilcaaDoor.Sh
open Go
set_option maxRecDepth 100000
set_option maxHeartbeats 4000000
theorem few31 {H : SHeap} {v : Value} {X : List Int} (hv : ISc H v X) (hlen : X.length ≤ 9223372036854775807) {most : Nat} (hm : most ≤ 1000) :
    M.call 31 [v, .int .i64 most] H = some (resV H (X.take most).length 1, resH H ((X.take most).map mkI) (X.take most).length 3, []) := by
  refine call_run sf31 rfl rfl rfl ?_
  obtain ⟨a, c, rfl, hc, ha⟩ := hv
  have hmin : (if (most : Int) < X.length then (most : Int) else X.length) = (((X.take most).length : Nat) : Int) := by
    rw [List.length_take]; split <;> omega
  have hk : (X.take most).length ≤ X.length := by rw [List.length_take]; omega
  have hk2 : (X.take most).length ≤ 1000 := by rw [List.length_take]; omega
  have sl := slice_to' (a := a) hk hc (by rcases ha with ⟨h1, h2, _⟩ | ⟨b, o, h1, _⟩; exact .inl ⟨h1, h2⟩; exact .inr ⟨b, o, h1⟩)
  unfold sf31
  by_cases c0 : (X.take most).length = 0
  · have ap := fun base d => append_nil0 (h := H) (a := a) (c := c) (s := 1) (bytes := 8) (el := 3) c0 base d
    have e : X.take most = [] := List.length_eq_zero_iff.1 c0
    generalize (X.take most).length = k at *
    repeat (first | apply Z1 | apply Z2 | apply Z3 | apply Z4 | apply Z5 rfl | apply Z6 | apply Z7 | apply Z8 | apply Z9 | apply ZA | apply ZB | apply ZC | ((first | apply ZD (by decide) | apply ZN (by decide)); (simp (maxSteps := 9999999) only [go_sem, argR, hmin, ↓sl, ↓ap]; rfl)) | (refine ZE ?_ ?_; · simp only [go_sem]) | (refine ZF ?_ ?_; · simp only [go_sem]))
    rw [e, c0]
    exact end_nil (q_free [.slice none 0 0] (by simp only [go_sem]) rfl rfl rfl (fun _ => rfl) (take_self _) rfl)
  · rcases ha with ⟨_, _, rfl⟩ | ⟨b, o, rfl, hp⟩
    · simp at c0
    · have hne : X ≠ [] := fun e => by rw [e] at c0; simp at c0
      have hil : IL H b o (X.take most) := fun i hi => by
        have hi2 : i < X.length := by rw [List.length_take] at hi; omega
        rw [(hp hne).2 i hi2]; simp
      have hr := hil.rdN (fun e => c0 (by rw [e]; rfl))
      have ap := fun base d => append_nilS (bytes := 8) (el := 3) (c := c) c0 hr (mkI_sc _) (by decide) (by omega) base d
      rw [← resV_pos H 1 c0, ← resH_pos H ((X.take most).map mkI) 3 c0]
      generalize (X.take most).length = k at *
      generalize (X.take most).map mkI = cs at *
      repeat (first | apply Z1 | apply Z2 | apply Z3 | apply Z4 | apply Z5 rfl | apply Z6 | apply Z7 | apply Z8 | apply Z9 | apply ZA | apply ZB | apply ZC | ((first | apply ZD (by decide) | apply ZN (by decide)); (simp (maxSteps := 9999999) only [go_sem, argR, hmin, ↓sl, ↓ap]; rfl)) | (refine ZE ?_ ?_; · simp only [go_sem]) | (refine ZF ?_ ?_; · simp only [go_sem]))
      exact end_nil (q_own1 (b := H.length) (old := []) (own := 0) (by simp only [go_sem]) (by simp) (by rw [app_get0]; rfl) rfl (Nat.le_refl _))
end Go.Proofs.YtpkhkghiidilcaaDoor.Sh

namespace Go.Proofs.YtpkhkghiidilcaaDoor.Sh
open Go
set_option maxRecDepth 100000
set_option maxHeartbeats 4000000
section
variable {H : SHeap} {v sv wv : Value} {E : List (Int × Int)} {l : List Int} {n : Int}
end
end Go.Proofs.YtpkhkghiidilcaaDoor.Sh

namespace Go.Proofs.YtpkhkghiidilcaaDoor.Sh
open Go
set_option maxRecDepth 100000
set_option maxHeartbeats 4000000
end Go.Proofs.YtpkhkghiidilcaaDoor.Sh

namespace Go.Proofs.YtpkhkghiidilcaaDoor.Sh
open Go Go.RowKit Go.WideShapes Go.ChangeShapes
set_option maxRecDepth 100000
def st3 (d : Option TypeDesc) (t0 o0 t1 o1 t2 o2 : Nat) : Bool := match d with
  | some (.struct fs) => match fs.toList with
    | [f0, f1, f2] => Nat.beq f0.type t0 && Nat.beq f0.offset o0 && Nat.beq f1.type t1 && Nat.beq f1.offset o1 && Nat.beq f2.type t2 && Nat.beq f2.offset o2
    | _ => false
  | _ => false
theorem st3_ok {d : Option TypeDesc} {t0 o0 t1 o1 t2 o2 : Nat} (h : st3 d t0 o0 t1 o1 t2 o2 = true) : ∃ f0 f1 f2 : Field, d = some (.struct #[f0, f1, f2]) ∧ f0.type = t0 ∧ f0.offset = o0 ∧ f1.type = t1 ∧ f1.offset = o1 ∧ f2.type = t2 ∧ f2.offset = o2 := by
  unfold st3 at h
  split at h
  · rename_i fs
    split at h
    · rename_i f0 f1 f2 e
      have e2 : fs = #[f0, f1, f2] := Array.ext' e
      simp only [Bool.and_eq_true] at h
      have q := @Nat.eq_of_beq_eq_true
      exact ⟨f0, f1, f2, by rw [e2], q h.1.1.1.1.1, q h.1.1.1.1.2, q h.1.1.1.2, q h.1.1.2, q h.1.2, q h.2⟩
    · cases h
  · cases h
theorem u52 : ∃ f0 f1 f2 : Field, Tryd.prog.underlying 52 = some (.struct #[f0, f1, f2]) ∧ f0.type = 25 ∧ f0.offset = 0 ∧ f1.type = 3 ∧ f1.offset = 1 ∧ f2.type = 22 ∧ f2.offset = 2 := st3_ok (by kernel_rfl)
theorem ct52 : Tryd.prog.cellTypes Tryd.prog.depth 52 = some [25, 3, 22] := by kernel_rfl
theorem cells52 : Tryd.prog.cellsOf 52 = 3 := by kernel_rfl
theorem cells25 : Tryd.prog.cellsOf 25 = 1 := by kernel_rfl
theorem trod_st3 {H : Type} {enc : TypeId × Value → H} {P : Program} {w : World} {base : Nat} {spare : Nat → Bool} {held : Bool} {t : TypeId} {f0 f1 f2 : Field} {fuel : Nat} {cs : List Value} {x : DataW H × List MemPlace} (ht : P.underlying t = some (.struct #[f0, f1, f2])) (h : DataW.trod enc P w base spare held fuel t cs = some x) :
    ∃ y0 y1 y2 n, cs.length = P.cellsOf t ∧ DataW.trod enc P w base spare held n f0.type ((cs.drop f0.offset).take (P.cellsOf f0.type)) = some y0 ∧
      DataW.trod enc P w base spare held n f1.type ((cs.drop f1.offset).take (P.cellsOf f1.type)) = some y1 ∧ DataW.trod enc P w base spare held n f2.type ((cs.drop f2.offset).take (P.cellsOf f2.type)) = some y2 := by
  obtain ⟨xs, n, _, rfl, hl, hlen, hf⟩ := DataW.trod_struct ht h
  match xs, hlen with
  | [y0, y1, y2], _ => exact ⟨y0, y1, y2, n, hl, by simpa using hf 0 f0 rfl, by simpa using hf 1 f1 rfl, by simpa using hf 2 f2 rfl⟩
theorem open_load {H : Type} {enc : TypeId × Value → H} {W : World} {base b0 : Nat} {spare : Nat → Bool} {held : Bool} {v : Value} {d : DataW H} {ps : List MemPlace}
    (hval : Value.okWide Tryd.prog W .any b0 52 v) (h : DataW.Trod enc Tryd.prog W base spare held 52 v d ps) : ∃ a1 len1 cap1 l G a2 len2 cap2 X, v = .agg #[.slice a1 len1 cap1, .int .i64 G, .slice a2 len2 cap2] ∧ IsIntsW W a1 len1 cap1 l ∧ IsPrs W a2 len2 cap2 X := by
  obtain ⟨f0, f1, f2, hu, t0, o0, t1, o1, t2, o2⟩ := u52
  simp only [Value.okWide, hu] at hval
  obtain ⟨cs, rfl, hsz, ts, hts, _, hrow⟩ := hval
  rw [ct52] at hts
  cases hts
  obtain ⟨fuel, hf⟩ := h
  have hf' : DataW.trod enc Tryd.prog W base spare held fuel 52 cs.toList = some (d, ps) := hf
  obtain ⟨y0, y1, y2, n, hl, h0, h1, h2⟩ := trod_st3 hu hf'
  rw [cells52] at hl
  rw [t0, o0, cells25] at h0
  rw [t1, o1, cells3] at h1
  rw [t2, o2, cells22] at h2
  match hcs : cs.toList, hl with
  | [c0, c1, c2], _ =>
    rw [hcs] at h0 h1 h2
    simp only [List.drop_zero, List.drop_succ_cons, List.take_succ_cons, List.take_zero] at h0 h1 h2
    obtain ⟨n1, e1, _, _⟩ := DataW.trod_int u3 h1
    simp only [List.cons.injEq, and_true] at e1
    have e2 : cs = #[c0, c1, c2] := Array.ext' hcs
    obtain ⟨u, hu0, hok0⟩ := hrow 0 c0 (by rw [e2]; rfl)
    cases hu0
    obtain ⟨u, hu2, hok2⟩ := hrow 2 c2 (by rw [e2]; rfl)
    cases hu2
    have hv0 : Value.okWide Tryd.prog W .any b0 25 c0 := by simp only [Value.okWide, u25]; exact hok0
    have hv2 : Value.okWide Tryd.prog W .any b0 22 c2 := by simp only [Value.okWide, u22]; exact hok2
    obtain ⟨a1, len1, cap1, rfl⟩ := okWide_slice u25 hv0
    obtain ⟨a2, len2, cap2, rfl⟩ := okWide_slice u22 hv2
    obtain ⟨l, hl1⟩ := isInts_of u25 u3 cells3 hv0 (⟨n, h0⟩ : DataW.Trod enc Tryd.prog W base spare held 25 (.slice a1 len1 cap1) y0.1 y0.2)
    obtain ⟨X, hX⟩ := isPrs_of u22 u45 u3 cells45 cells3 hv2 (⟨n, h2⟩ : DataW.Trod enc Tryd.prog W base spare held 22 (.slice a2 len2 cap2) y2.1 y2.2)
    exact ⟨a1, len1, cap1, l, n1, a2, len2, cap2, X, by rw [e2, e1], hl1, hX⟩
end Go.Proofs.YtpkhkghiidilcaaDoor.Sh

namespace Go.Proofs.YtpkhkghiidilcaaDoor.Sh
open Go
set_option maxRecDepth 100000
set_option maxHeartbeats 4000000
section
variable {H : SHeap} {N : Int} {ev lv : Value} {X : List (Int × Int)} {l : List Int}
theorem tameS (hv : PS H ev X) (hX : X.length ≤ 9223372036854775807) {most : Nat} (hm1 : 1 ≤ most) (hm : most ≤ 6) (tr : Bool) (x : SHeap) :
    ∃ (n : Nat) (f : Nat → Bool) (E : List (Int × Int)) (xv : Value) (H1 : SHeap), TM most tr n f ∧ E = castE (edg f 36) ∧ 1 ≤ n ∧ n ≤ most ∧ EOK n E ∧ Conn n E ∧ errG n E = 0 ∧ E.length ≤ 36 ∧ PS H1 xv E ∧ (∃ a c, xv = .slice a E.length c) ∧ (∀ j, j < (H ++ x).length → H1[j]? = (H ++ x)[j]?) ∧ (H ++ x).length ≤ H1.length ∧
      M.call 15 [.agg #[.int .i64 N, ev], .int .i64 most, .bool tr] (H ++ x) = some (.tuple #[.int .i64 n, xv], H1, []) := by
  obtain ⟨n, f, T, c15⟩ := tame15 (H := H ++ x) (N := N) (hv.app _) hX (most := most) hm1 hm tr
  have he := T.err hm
  obtain ⟨m, em, hn1, hn, hE, hC⟩ := errG_ok he
  obtain rfl : n = m := by omega
  have P1 := PS_res (H ++ x) (edg f 36) 45
  obtain ⟨k1, k2⟩ := resH_fr (H ++ x) (prN (edg f 36)) (edg f 36).length 45
  refine ⟨n, f, _, _, _, T, rfl, hn1, T.n2, hE, hC, he, ?_, P1, ?_, k2, k1, c15⟩
  · rw [castE_len]; exact edg_len f 36
  · obtain ⟨a, c, e, _⟩ := P1
    exact ⟨a, c, e⟩
theorem broughtS {H1 : SHeap} {n : Nat} (hn1 : 1 ≤ n) (hn : n ≤ 6) (hv : IS H1 lv l) (hlen : l.length ≤ 9223372036854775807) {most : Nat} (hm : most ≤ 1000) :
    ∃ s : Nat → Int, ST n s most ∧ M.call 16 [lv, .int .i64 n, .int .i64 most] H1 = some (.slice (some ⟨H1.length, 0, none⟩) n (UNK + 1), H1 ++ [.cells (iV n s) 3 true 0 []], []) ∧
      IS (H1 ++ [.cells (iV n s) 3 true 0 []]) (.slice (some ⟨H1.length, 0, none⟩) n (UNK + 1)) (lst n s) := by
  obtain ⟨s, S, c16⟩ := brought16 hn hv hlen (most := most) hm
  rw [← resV_pos H1 1 (show n ≠ 0 by omega), ← resH_pos H1 _ 3 (show n ≠ 0 by omega)] at c16
  exact ⟨s, S, c16, IS.lstAt (by rw [List.getElem?_append_right (Nat.le_refl _), Nat.sub_self]; rfl) rfl⟩
theorem fewS {n b : Nat} (hn1 : 1 ≤ n) (hn : n ≤ 6) {s : Nat → Int} (hb : H[b]? = some (.cells (iV n s) 3 true 0 [])) : M.call 31 [.slice (some ⟨b, 0, none⟩) n (UNK + 1), .int .i64 n] H = some (.slice (some ⟨H.length, 0, none⟩) n (UNK + 1), H ++ [.cells (iV n s) 3 true 0 []], []) := by
  have is : IS H (.slice (some ⟨b, 0, none⟩) n (UNK + 1)) (lst n s) := IS.lstAt hb rfl
  have ll := lst_len n s
  obtain ⟨a, c, e1, k⟩ := is
  have hne : lst n s ≠ [] := fun e => by rw [e] at ll; simp at ll; omega
  obtain ⟨b', o, e2, k1, k2⟩ := k hne
  have c31 := few31 (H := H) (v := .slice (some ⟨b, 0, none⟩) n (UNK + 1)) (X := lst n s) ⟨a, c, e1, by
    rw [ll] at e1 ⊢
    simp at e1
    exact .inr e1.2.symm, .inr ⟨b', o, e2, fun _ => ⟨k1, k2⟩⟩⟩ (by rw [ll]; omega) (most := n) (by omega)
  have ht : (lst n s).take n = lst n s := List.take_of_length_le (by rw [ll]; exact Nat.le_refl _)
  rw [ht, ll, ← resV_pos H 1 (show n ≠ 0 by omega), ← resH_pos H _ 3 (show n ≠ 0 by omega), map_stk ll] at c31
  have e : iV n (stk (lst n s)) = iV n s := iV_congr (fun v hv => lst_at s hv)
  rw [e] at c31
  exact c31
theorem lst_sum {n : Nat} {s : Nat → Int} {B : Int} (hn : n ≤ 6) (S : ST n s B) : (lst n s).sum = tot s := by
  rw [← tot_lin hn S]
  have : ∀ k, (lst k s).sum = lin k (fun _ => 1) s := by
    intro k
    induction k with
    | zero => rfl
    | succ k ih =>
      show _ = lin k _ s + 1 * s k
      rw [← ih]
      unfold lst
      rw [List.range_succ]
      simp
  exact this n
theorem memL {n : Nat} {s : Nat → Int} {B : Int} (hn : n ≤ 6) (S : ST n s B) (hB : B ≤ 1000) : ∀ x ∈ lst n s, 0 ≤ x ∧ x ≤ 1000 := fun x hx => by
  unfold lst at hx
  obtain ⟨v, _, rfl⟩ := List.mem_map.1 hx
  have := S.bnd hn v
  omega
theorem sum29S {n : Nat} {s : Nat → Int} {B : Int} {v : Value} (hn : n ≤ 6) (S : ST n s B) (hB : B ≤ 1000) (hv : IS H v (lst n s)) : M.call 29 [v] H = some (.int .i64 (tot s), H, []) := by
  rw [← lst_sum hn S]
  exact sum29 hv (memL hn S hB) (by rw [lst_len]; omega)
theorem tot_nn {n : Nat} {s : Nat → Int} {B : Int} (hn : n ≤ 6) (S : ST n s B) : 0 ≤ tot s := by
  have := tot_lin hn S
  have := lin_nn (c := fun _ => 1) (fun _ => by decide) S.nn n
  omega
theorem pl_up (s : Nat → Int) (u : Nat) (k : Int) : up s u (s u + k) = pl s u k := rfl
theorem planS {n : Nat} {E : List (Int × Int)} {g : Nat} {v sv : Value} {s : Nat → Int} (hv : PS H v E) (hlen : E.length ≤ 1000000) (he : errG n E = 0) (hs : IS H sv (lst n s)) (S : ST n s 40) (hn : n ≤ 6) (hg : g < n) :
    ∃ (ok : Bool) (P : List (Nat × Nat)) (a : Option Addr) (c : Nat) (H4 : SHeap), M.call 28 [.int .i64 n, v, sv, .int .i64 g] H = some (.tuple #[.slice a P.length c, .bool ok, .int .i64 0], H4, []) ∧ (ok = true ↔ 0 < mx n E g s) ∧ (ok = true → ∃ t, doM n E s (castE P) = (t, P.length) ∧ 0 < t g) ∧ (ok = false → P = []) ∧ P.length ≤ 40 ∧
      H.length ≤ H4.length ∧ (∀ j, j < H.length → H4[j]? = H[j]?) ∧ PS H4 (.slice a P.length c) (castE P) := by
  have h := plan28 hv hlen he hs (by rw [lst_len]; omega) (S.sup hn) hg
  rw [stk_lst S] at h
  rcases h with ⟨h1, h2⟩ | ⟨h1, P, t, h2, h3, h4, h5⟩
  · exact ⟨false, [], none, 0, H, h2, ⟨(fun h => by cases h), fun h => by omega⟩, (fun h => by cases h), fun _ => rfl, by simp, Nat.le_refl _, fun j _ => rfl, none, 0, rfl, fun h => (h rfl).elim⟩
  · obtain ⟨k1, k2⟩ := resH_fr H (prN P) P.length 45
    have ps := PS_res H P 45
    obtain ⟨a, c, e, k⟩ := id ps
    rw [castE_len] at e
    rw [e] at h5 ps
    exact ⟨true, P, a, c, _, h5, ⟨fun _ => h1, fun _ => rfl⟩, fun _ => ⟨t, h2, h3⟩, (fun h => by cases h), h4, k1, k2, ps⟩
end
end Go.Proofs.YtpkhkghiidilcaaDoor.Sh

namespace Go.Proofs.YtpkhkghiidilcaaDoor.Sh
open Go
set_option maxRecDepth 100000
set_option maxHeartbeats 4000000
theorem doM_more {n : Nat} {E : List (Int × Int)} (hE : EOK n E) {u : Nat} {k : Int} (hk : 0 ≤ k) : ∀ (w : List (Int × Int)) (s : Nat → Int), (doM n E s w).2 = w.length → doM n E (pl s u k) w = (pl (doM n E s w).1 u k, w.length)
  | [], s, _ => rfl
  | m :: w, s, h => by
    have un : ∀ s, doM n E s (m :: w) = if canM n E s m.1 m.2 then ((doM n E (aft s m.1.toNat m.2.toNat) w).1, (doM n E (aft s m.1.toNat m.2.toNat) w).2 + 1) else (s, 0) := fun s => rfl
    rw [un] at h ⊢
    rw [un]
    by_cases c : canM n E s m.1 m.2
    · rw [if_pos c] at h ⊢
      simp at h
      obtain ⟨p, q, e1, e2, h1, h2, h3, h4⟩ := canM_nat c
      have hne := (hE.adj h3).2.2
      have c2 : canM n E (pl s u k) m.1 m.2 := by
        rw [e1, e2]
        refine canM_iff.2 ⟨h1, h2, h3, ?_⟩
        rw [pl_at]; split <;> omega
      rw [if_pos c2, e1, e2, Int.toNat_natCast, Int.toNat_natCast, aft_pl hne]
      rw [e1, e2, Int.toNat_natCast, Int.toNat_natCast] at h
      rw [doM_more hE hk w _ h]
      simp
    · rw [if_neg c] at h
      simp at h
theorem slice3 {b i n c : Nat} (hi : i < n) (hc : UNK ≤ c) (hn : n < 1000000) : sliceS 2 (.slice (some ⟨b, 0, none⟩) n c) (some (.int .i64 (i : Int))) (some (.int .i64 ((i + 1 : Nat) : Int))) (some (.int .i64 ((i + 1 : Nat) : Int))) = some (.slice (some ⟨b, i * 2, none⟩) 1 1) := by
  have e1 : Nat.ble UNK c = true := by rw [ble_dec]; simpa using hc
  have e2 : Nat.blt (i + 1) UNK = true := by rw [blt_dec]; exact decide_eq_true (by have : UNK = 9223372036854775808 := rfl; omega)
  have e3 : (decide (0 ≤ ((i + 1 : Nat) : Int)) && decide (((i + 1 : Nat) : Int) ≤ (n : Nat))) = true := by
    rw [decide_eq_true (by omega), decide_eq_true (by omega)]; rfl
  have e4 : (decide (0 ≤ ((i + 1 : Nat) : Int)) && decide (((i + 1 : Nat) : Int) ≤ ((i + 1 : Nat) : Nat))) = true := by
    rw [decide_eq_true (by omega), decide_eq_true (by omega)]; rfl
  have e5 : (decide (0 ≤ (i : Int)) && decide ((i : Int) ≤ ((i + 1 : Nat) : Nat))) = true := by
    rw [decide_eq_true (by omega), decide_eq_true (by omega)]; rfl
  unfold sliceS
  simp only [bMx, bHi, bLo, bnd, e1, if_true, e3, e4, e5, Int.toNat_natCast, e2, Option.isNone_some, Bool.and_false, Bool.false_eq_true, if_false]
  have e6 : (i + 1 == i) = false := by simp
  rw [e6]
  simp
theorem PS_at {h : SHeap} {b : Nat} {L : List (Nat × Nat)} {el : TypeId} {pf : Bool} {own : Nat} {old : List Nat} (hb : h[b]? = some (.cells (prN L) el pf own old)) (hr : readable own = true) {i c : Nat} (hi : i < L.length) : PS h (.slice (some ⟨b, i * 2, none⟩) 1 c) [((L[i].1 : Int), (L[i].2 : Int))] := by
  have e1 : prN L = prN (L.take i) ++ (prs [((L[i].1 : Int), (L[i].2 : Int))] ++ prN (L.drop (i + 1))) := by
    have : L = L.take i ++ (L[i] :: L.drop (i + 1)) := by rw [← List.drop_eq_getElem_cons hi, List.take_append_drop]
    conv => lhs; rw [this]
    unfold prN prs
    rw [List.flatMap_append, List.flatMap_cons]
    simp
    rfl
  have e2 : (prN (L.take i)).length = i * 2 := by
    have : ∀ M : List (Nat × Nat), (prN M).length = M.length * 2 := fun M => by
      rw [prN_prs, prs_len, castE_len]; omega
    rw [this, List.length_take]; omega
  refine ⟨_, c, rfl, fun _ => ⟨b, i * 2, rfl, prN (L.take i), prN (L.drop (i + 1)), el, pf, own, old, by rw [← e1]; exact hb, hr, e2⟩⟩
section
variable {n : Nat} {E : List (Int × Int)} {g : Nat} {s : Nat → Int}
theorem falls_loop (cx : Cx) {H : SHeap} {xv : Value} {sa : Nat} (hE : EOK n E) (hn : n ≤ 6) (hn1 : 1 ≤ n) (he : errG n E = 0) (hEl : E.length ≤ 1000000) (P1 : PS H xv E) (I1 : IS H (.slice (some ⟨sa, 0, none⟩) n (UNK + 1)) (lst n s)) (S : ST n s 12) (hg : g < n) {b : Nat} (hb : MVL n E s ≠ [] → H[b]? = some (.cells (prN (MVL n E s)) 45 true 0 [])) {R3 : Value} :
    ∀ m ρ ms h' d', (∃ i : Nat, i + m = (MVL n E s).length ∧ ρ 5 = .int .i64 n ∧ ρ 6 = xv ∧ ρ 7 = .slice (some ⟨sa, 0, none⟩) n (UNK + 1) ∧ ρ 8 = .int .i64 g ∧ ρ 9 = (if (MVL n E s).length = 0 then .slice none 0 0 else .slice (some ⟨b, 0, none⟩) (MVL n E s).length (UNK + 2)) ∧ ρ 11 = .int .i64 (mx n E g s) ∧ ρ 13 = .int .i64 i ∧ ρ 3 = R3 ∧ ms = [] ∧ H.length ≤ h'.length ∧ (∀ j, j < H.length → h'[j]? = H[j]?) ∧ d' = []) →
    LoopW M cx 8 sf11L0 ρ ms h' d' (fun ex ρ' ms' h' d' => ms' = [] ∧ H.length ≤ h'.length ∧ (∀ j, j < H.length → h'[j]? = H[j]?) ∧ d' = [] ∧ ex = .exit 0 ∧ ρ' 5 = .int .i64 n ∧ ρ' 6 = xv ∧ ρ' 7 = .slice (some ⟨sa, 0, none⟩) n (UNK + 1) ∧ ρ' 8 = .int .i64 g ∧ ρ' 3 = R3) := by
  have hML := MVL_len hn E s
  refine loop_run _ ?_
  rintro m ρ ms h' d' ⟨i, hm, r5, r6, r7, r8, r9, r11, r13, r3, rfl, hle, fr, rfl⟩
  unfold sf11L0
  by_cases c : m = 0
  · have e1 : ¬ ((i : Int) < (MVL n E s).length) := by omega
    by_cases c0 : (MVL n E s).length = 0
    · rw [if_pos c0] at r9
      have e1' : ¬ ((i : Int) < (0 : Nat)) := by omega
      have e1'' : ¬ ((i : Int) < 0) := by omega
      repeat (first | apply Z1 | apply Z2 | apply Z3 | apply Z4 | apply Z5 rfl | apply Z6 | apply Z7 | apply Z8 | apply Z9 | apply ZA | apply ZB | apply ZC | ((first | apply ZD (by decide) | apply ZN (by decide)); (simp (maxSteps := 9999999) only [go_sem, r9, r13, e1', e1'']; rfl)) | (refine ZE ?_ ?_; · simp only [go_sem]) | (refine ZF ?_ ?_; · simp only [go_sem]))
      exact end_nil ⟨rfl, hle, fr, rfl, rfl, by simp only [go_sem, r5], by simp only [go_sem, r6], by simp only [go_sem, r7], by simp only [go_sem, r8], by simp only [go_sem, r3]⟩
    · rw [if_neg c0] at r9
      repeat (first | apply Z1 | apply Z2 | apply Z3 | apply Z4 | apply Z5 rfl | apply Z6 | apply Z7 | apply Z8 | apply Z9 | apply ZA | apply ZB | apply ZC | ((first | apply ZD (by decide) | apply ZN (by decide)); (simp (maxSteps := 9999999) only [go_sem, r9, r13, e1]; rfl)) | (refine ZE ?_ ?_; · simp only [go_sem]) | (refine ZF ?_ ?_; · simp only [go_sem]))
      exact end_nil ⟨rfl, hle, fr, rfl, rfl, by simp only [go_sem, r5], by simp only [go_sem, r6], by simp only [go_sem, r7], by simp only [go_sem, r8], by simp only [go_sem, r3]⟩
  · have hi : i < (MVL n E s).length := by omega
    rw [if_neg (by omega)] at r9
    have e1 : ((i : Int) < (MVL n E s).length) := by omega
    have ew : IntKind.i64.wrap ((i : Int) + 1) = ((i + 1 : Nat) : Int) := by rw [wrap64 (by omega) (by omega)]; rfl
    have hb' := hb (fun e => by rw [e] at hi; simp at hi)
    have hblt := (List.getElem?_eq_some_iff.1 hb').1
    have P' := P1.fr fr
    have I' := I1.fr hle fr
    have W' := PS_at (h := h') (by rw [fr _ hblt]; exact hb') rfl (c := 1) hi
    have sl := slice3 (b := b) (c := UNK + 2) hi (by omega) (by omega)
    have hcm : canM n E s ((MVL n E s)[i].1 : Int) ((MVL n E s)[i].2 : Int) := MVb_mem (List.getElem_mem hi)
    generalize (MVL n E s)[i] = p at *
    obtain ⟨p1, p2⟩ := p
    obtain ⟨u1, u2, u3, u4⟩ := canM_iff.1 hcm
    have S40 := S.mono (B' := 40) (by decide)
    have c45 := do45 P' hEl he I' (by rw [lst_len]; omega) (S40.sup hn) W' (by simp)
    rw [stk_lst S] at c45
    have hd : doM n E s [((p1 : Int), (p2 : Int))] = (aft s p1 p2, 1) := by
      simp only [doM, Int.toNat_natCast]
      rw [if_pos hcm]
    rw [hd] at c45
    have Sa := S.aft hE hn u1 u2 u3 u4
    have Sa40 := Sa.mono (B' := 40) (by decide)
    have I5 : IS (h' ++ [.cells (iV n (aft s p1 p2)) 3 true 0 []]) (.slice (some ⟨h'.length, 0, none⟩) n (UNK + 1)) (lst n (aft s p1 p2)) := IS.lstAt (by rw [app_get0]; rfl) rfl
    have P5 := P'.app [.cells (iV n (aft s p1 p2)) 3 true 0 []]
    have I1' := I'.app [.cells (iV n (aft s p1 p2)) 3 true 0 []]
    have c39 := sup39 (n := n) I5 (by rw [lst_len]; omega)
    rw [decide_eq_true (Sa40.sup hn)] at c39
    have s5 := sum29S hn Sa (by decide) I5
    have s1 := sum29S hn S (by decide) I1'
    rw [aft_tot (by omega) (by omega)] at s5
    have t0 := tot_nn hn S
    have tl := S.le
    have wt : IntKind.i64.wrap (tot s - 1) = tot s - 1 := wrap64 (by omega) (by omega)
    have c18 := most18 P5 hEl he I5 (by rw [lst_len]; omega) (Sa40.sup hn) hg
    rw [stk_lst Sa] at c18
    have hma := mx_aft (g := g) (a := p1) (b := p2) hE hn S hcm
    have hgt : ¬ (mx n E g (aft s p1 p2) > mx n E g s) := by omega
    have one : ((1 : Nat) : Int) = 1 := rfl
    rw [one] at c45
    repeat (first | apply Z1 | apply Z2 | apply Z3 | apply Z4 | apply Z5 rfl | apply Z6 | apply Z7 | apply Z8 | apply Z9 | apply ZA | apply ZB | apply ZC | ((first | apply ZD (by decide) | apply ZN (by decide)); (simp (maxSteps := 9999999) only [go_sem, r5, r6, r7, r8, r9, r11, r13, e1, ew, ↓sl, c45, c39, s5, s1, wt, c18, hgt]; rfl)) | (refine ZE ?_ ?_; · simp only [go_sem]) | (refine ZF ?_ ?_; · simp only [go_sem]))
    exact end_nil ⟨m - 1, by omega, i + 1, by omega, by simp only [go_sem, r5], by simp only [go_sem, r6], by simp only [go_sem, r7], by simp only [go_sem, r8], by simp only [go_sem, r9]; rw [if_neg (by omega)], by simp only [go_sem, r11], by simp only [go_sem, ew], by simp only [go_sem, r3], rfl, by simp; omega, fun j hj => by rw [List.getElem?_append_left (by omega)]; exact fr j hj, rfl⟩
end
theorem law11M {H : SHeap} {N goal : Int} {ev lv wv : Value} {X : List (Int × Int)} {l : List Int} (hv : PS H ev X) (hX : X.length ≤ 9223372036854775807) (hl : IS H lv l) (hll : l.length ≤ 9223372036854775807) :
    M.call 11 [.agg #[.int .i64 N, ev], .agg #[lv, .int .i64 goal, wv]] H = some (.bool true, H, []) := by
  refine call_run sf11 rfl rfl rfl ?_
  obtain ⟨n, f, E, xv, H1, T, _, hn1, hn, hE, hC, he, hEl, P1, ⟨xa, xc, exv⟩, G1, F1, c15⟩ := tameS (N := N) hv hX (most := 6) (by decide) (by decide) false [.cells [.int .i64 N, ev] 24 false 0 [], .cells [lv, .int .i64 goal, wv] 52 false 0 []]
  have hEl' : E.length ≤ 1000000 := by omega
  rw [show (H ++ [.cells [.int .i64 N, ev] 24 false 0 [], .cells [lv, .int .i64 goal, wv] 52 false 0 []] : SHeap).length = H.length + 2 by simp] at F1 G1
  have G1' : ∀ j, j < H.length → H1[j]? = H[j]? := fun j hj => by rw [G1 j (by omega), List.getElem?_append_left hj]
  have B1 : H1[H.length + 1]? = some (.cells [lv, .int .i64 goal, wv] 52 false 0 []) := by rw [G1 _ (by omega), app_get]; rfl
  have lx : loadS (H ++ [.cells [.int .i64 N, ev] 24 false 0 [], .cells [lv, .int .i64 goal, wv] 52 false 0 []]) (some 2) (.pointer (some ⟨H.length, 0, none⟩)) = some (.agg #[.int .i64 N, ev]) := by rw [load_appN0]; rfl
  have l0 : loadS H1 none (.pointer (some ⟨H.length + 1, 0, none⟩)) = some lv := by
    have := load_cell (o := 0) B1 rfl rfl []; rw [List.append_nil] at this; exact this
  obtain ⟨s, S, c16, I2⟩ := broughtS (H1 := H1) hn1 hn (hl.fr (by omega) G1') hll (most := 12) (by decide)
  have S40 := S.mono (B' := 40) (by decide)
  have P2 := P1.app [.cells (iV n s) 3 true 0 []]
  have F2 : H.length + 2 ≤ (H1 ++ [.cells (iV n s) 3 true 0 []] : SHeap).length := by simp; omega
  have G2 : ∀ j, j < H.length → (H1 ++ [.cells (iV n s) 3 true 0 []] : SHeap)[j]? = H[j]? := fun j hj => by rw [List.getElem?_append_left (by omega)]; exact G1' j hj
  have B2 : (H1 ++ [.cells (iV n s) 3 true 0 []] : SHeap)[H1.length]? = some (.cells (iV n s) 3 true 0 []) := by rw [app_get0]; rfl
  have C2 : (H1 ++ [.cells (iV n s) 3 true 0 []] : SHeap)[H.length + 1]? = some (.cells [lv, .int .i64 goal, wv] 52 false 0 []) := by rw [List.getElem?_append_left (by omega)]; exact B1
  generalize hH2 : H1 ++ [.cells (iV n s) 3 true 0 []] = H2 at *
  generalize hb2 : H1.length = b2 at *
  have l1 : loadS H2 none (.pointer (some ⟨H.length + 1, 1, none⟩)) = some (.int .i64 goal) := by
    have := load_cell (o := 1) C2 rfl rfl []; rw [List.append_nil] at this; exact this
  have hg := uR_lt goal (m := n) (by omega)
  have um := uR_eq goal (m := n) (by omega)
  have hwu : IntKind.u64.wrap (n : Int) = n := wrapU (by omega) (by omega)
  have hne : ¬ (n : Int) = 0 := by omega
  have w6 : IntKind.i64.wrap ((uR goal n : Nat) : Int) = ((uR goal n : Nat) : Int) := wrap64 (by omega) (by omega)
  have hu := uR_lt ((IntKind.u64.wrap goal).tdiv 9) (m := n) (by omega)
  have um2 := uR_eq ((IntKind.u64.wrap goal).tdiv 9) (m := n) (by omega)
  have w7 : IntKind.i64.wrap ((uR ((IntKind.u64.wrap goal).tdiv 9) n : Nat) : Int) = ((uR ((IntKind.u64.wrap goal).tdiv 9) n : Nat) : Int) := wrap64 (by omega) (by omega)
  have z7 : ¬ ((9 : Int) = 0) := by decide
  generalize uR goal n = g at *
  generalize uR ((IntKind.u64.wrap goal).tdiv 9) n = u at *
  have c43 := moves43 P2 hEl' he I2 (by rw [lst_len]; omega) (S40.sup hn)
  rw [stk_lst S] at c43
  obtain ⟨k1, k2⟩ := resH_fr H2 (prN (MVL n E s)) (MVL n E s).length 45
  have hbk : MVL n E s ≠ [] → (resH H2 (prN (MVL n E s)) (MVL n E s).length 45)[H2.length]? = some (.cells (prN (MVL n E s)) 45 true 0 []) := fun h => by
    have : (MVL n E s).length ≠ 0 := fun e => h (List.length_eq_zero_iff.1 e)
    unfold resH
    rw [if_neg this, app_get0]; rfl
  have hmv : resV H2 (MVL n E s).length 2 = (if (MVL n E s).length = 0 then .slice none 0 0 else .slice (some ⟨H2.length, 0, none⟩) (MVL n E s).length (UNK + 2)) := rfl
  have P3 := P2.fr k2
  have I3 := I2.fr k1 k2
  generalize resH H2 (prN (MVL n E s)) (MVL n E s).length 45 = H3 at *
  generalize hmvv : resV H2 (MVL n E s).length 2 = mv at *
  have c18 := most18 P3 hEl' he I3 (by rw [lst_len]; omega) (S40.sup hn) hg
  rw [stk_lst S] at c18
  have hs := fun v => S.bnd hn v
  have S1 : ST n (pl s u 1) 13 := (pl_st hn S hu (by decide)).mono (by omega)
  have S140 := S1.mono (B' := 40) (by decide)
  rw [show ((6 : Nat) : Int) = 6 from rfl] at c15
  rw [show ((12 : Nat) : Int) = 12 from rfl] at c16
  obtain ⟨va, vc, rfl, _⟩ := id hv
  subst exv
  unfold sf11
  repeat (first | apply Z1 | apply Z2 | apply Z3 | apply Z4 | apply Z5 rfl | apply Z6 | apply Z7 | apply Z8 | apply Z9 | apply ZA | apply ZB | apply ZC | ((first | apply ZD (by decide) | apply ZN (by decide)); (simp (maxSteps := 9999999) only [go_sem, argR, lx, c15, l0, c16, l1, hwu, um, w6, hne, c43, c18]; rfl)) | (refine ZE ?_ ?_; · simp only [go_sem]) | (refine ZF ?_ ?_; · simp only [go_sem]))
  refine run_loop (falls_loop _ hE hn hn1 he hEl' P3 I3 S hg hbk (R3 := .pointer (some ⟨H.length + 1, 0, none⟩)) (MVL n E s).length _ _ _ _ ⟨0, by omega, by simp only [go_sem], by simp only [go_sem], by simp only [go_sem], by simp only [go_sem], by simp only [go_sem, hmv], by simp only [go_sem], by simp only [go_sem], by simp only [go_sem], rfl, Nat.le_refl _, fun j _ => rfl, rfl⟩) ?_
  rintro ex ρ2 ms2 h2 d2 ⟨rfl, hle, fr, rfl, rfl, r5, r6, r7, r8, r3⟩
  have P4 := P3.fr fr
  have I4 := I3.fr hle fr
  have hB2 := (List.getElem?_eq_some_iff.1 B2).1
  have hC2 := (List.getElem?_eq_some_iff.1 C2).1
  obtain ⟨ok, P, pa, pc, H5, c28, ok1, okP, okN, hP, F5, G5, PP⟩ := planS P4 hEl' he I4 S40 hn hg
  have G6 : ∀ j, j < H2.length → H5[j]? = H2[j]? := fun j hj => by rw [G5 j (by omega), fr j (by omega), k2 j hj]
  have F6 : H2.length ≤ H5.length := by omega
  have G7 : ∀ j, j < H.length → H5[j]? = H[j]? := fun j hj => by rw [G6 j (by omega)]; exact G2 j hj
  cases ok with
  | false =>
    have aw := awake_call H5
    repeat (first | apply Z1 | apply Z2 | apply Z3 | apply Z4 | apply Z5 rfl | apply Z6 | apply Z7 | apply Z8 | apply Z9 | apply ZA | apply ZB | apply ZC | ((first | apply ZD (by decide) | apply ZN (by decide)); (simp (maxSteps := 9999999) only [go_sem, r5, r6, r7, r8, r3, c28, aw]; rfl)) | (refine ZE ?_ ?_; · simp only [go_sem]) | (refine ZF ?_ ?_; · simp only [go_sem]))
    exact end_nil (q_ret1 _ (by simp only [go_sem]) rfl (take_of_same (by omega) G7))
  | true =>
    obtain ⟨t, q1, q2⟩ := okP rfl
    have B5 : H5[b2]? = some (.cells (iV n s) 3 true 0 []) := by rw [G6 _ hB2]; exact B2
    have c31 := fewS hn1 hn B5
    have l2 : loadS (H5 ++ [.cells (iV n s) 3 true 0 []]) none (.pointer (some ⟨H.length + 1, 1, none⟩)) = some (.int .i64 goal) := load_cell (o := 1) (by rw [G6 _ hC2]; exact C2) rfl rfl _
    have lst_pl : ∀ base, storeS base (H5 ++ [.cells (iV n s) 3 true 0 []]) [] H5.length u (cellsL (.int .i64 (s u + 1))) = some (H5 ++ [.cells (iV n (pl s u 1)) 3 true 0 []], []) := fun base => by
      have := store_cell (h := H5 ++ [.cells (iV n s) 3 true 0 []]) (base := base) (b := H5.length) (o := u) (c := .int .i64 (s u + 1)) (cs := iV n s) (el := 3) (pf := true) (by rw [app_get0]; rfl) (by rw [iV_len]; exact hu) rfl (fun _ => rfl) []
      rw [iV_set _ hu, pl_up] at this
      rw [cells_int, this, List.set_append_right _ _ (Nat.le_refl _), Nat.sub_self]; rfl
    have lu : loadS (H5 ++ [.cells (iV n s) 3 true 0 []]) none (.pointer (some ⟨H5.length, u, none⟩)) = some (.int .i64 (s u)) := by
      have := load_cell (h := H5 ++ [.cells (iV n s) 3 true 0 []]) (b := H5.length) (o := u) (cs := iV n s) (el := 3) (pf := true) (own := 0) (old := []) (by rw [app_get0]; rfl) rfl (iV_get _ hu) []
      rw [List.append_nil] at this; exact this
    have wu1 : IntKind.i64.wrap (s u + 1) = s u + 1 := by have := hs u; exact wrap64 (by omega) (by omega)
    have zu1 : (0 : Int) ≤ u := by omega
    have zu2 : (u : Int) < n := by omega
    have I6 : IS (H5 ++ [.cells (iV n (pl s u 1)) 3 true 0 []]) (.slice (some ⟨H5.length, 0, none⟩) n (UNK + 1)) (lst n (pl s u 1)) := IS.lstAt (by rw [app_get0]; rfl) rfl
    have P6 := (P4.fr G5).app [.cells (iV n (pl s u 1)) 3 true 0 []]
    have PP6 := PP.app [.cells (iV n (pl s u 1)) 3 true 0 []]
    have c36 := isPlan36 P6 hEl' he I6 (by rw [lst_len]; omega) (S140.sup hn) hg PP6 (by rw [castE_len]; omega)
    rw [stk_lst S1] at c36
    have hpl : plB n E (pl s u 1) g (castE P) = true := by
      unfold plB
      have h1 : (doM n E s (castE P)).2 = (castE P).length := by rw [q1, castE_len]
      rw [doM_more hE (by decide) _ _ h1, q1]
      refine decide_eq_true ⟨rfl, ?_⟩
      dsimp only
      rw [pl_at]; split <;> omega
    rw [hpl] at c36
    have aw := awake_call (H5 ++ [.cells (iV n (pl s u 1)) 3 true 0 []])
    repeat (first | apply Z1 | apply Z2 | apply Z3 | apply Z4 | apply Z5 rfl | apply Z6 | apply Z7 | apply Z8 | apply Z9 | apply ZA | apply ZB | apply ZC | ((first | apply ZD (by decide) | apply ZN (by decide)); (simp (maxSteps := 9999999) only [go_sem, r5, r6, r7, r8, r3, c28, c31, l2, hwu, hne, z7, um2, w7, zu1, zu2, lu, wu1, ↓lst_pl, c36, aw, Int.toNat_natCast]; rfl)) | (refine ZE ?_ ?_; · simp only [go_sem]) | (refine ZF ?_ ?_; · simp only [go_sem]))
    exact end_nil (q_ret1 _ (by simp only [go_sem]) rfl (take_of_same (by simp; omega) (fun j hj => by rw [List.getElem?_append_left (by omega)]; exact G7 j hj)))
end Go.Proofs.YtpkhkghiidilcaaDoor.Sh

namespace Go.Proofs.YtpkhkghiidilcaaDoor
open Go Go.RowKit Sh
set_option maxRecDepth 100000
theorem supplyFalls.walk {N G : Int} {a1 a2 a3 : Option Addr} {n1 n2 n3 c1 c2 c3 : Nat} {X Y : List (Int × Int)} {l : List Int} (W : World) (hg : GlobW Tryd.prog W) (h1 : IsPrs W a1 n1 c1 X) (h2 : IsIntsW W a2 n2 c2 l) (h3 : IsPrs W a3 n3 c3 Y) :
    Calls Tryd.prog 11 #[.agg #[.int .i64 N, .slice a1 n1 c1], .agg #[.slice a2 n2 c2, .int .i64 G, .slice a3 n3 c3]] W (fun e W' => e = .returned (.bool true) ∧ Below W.heap.size W W') := by
  obtain ⟨x1, b1, r1, k1⟩ := prs_arg h1
  obtain ⟨x2, b2, r2, k2⟩ := ints_arg h2
  obtain ⟨x3, b3, r3, k3⟩ := prs_arg h3
  obtain ⟨u1, v1, p1⟩ := k1 [] (b2 ++ b3)
  obtain ⟨u2, v2, p2⟩ := k2 b1 b3
  obtain ⟨u3, v3, p3⟩ := k3 (b1 ++ b2) []
  simp only [List.nil_append, List.append_nil, List.append_assoc] at v1 p1 v2 p2 v3 p3
  exact walk_rel mixed tab (flatK_ok CA_ok) (Rel.ro hg (r1.app (r2.app r3))) (LR.cons (VR.agg2 (.int _ _) v1) (LR.cons (VR.agg3 v2 (.int _ _) v3) (LR.nil _))) (law11M p1.ps x1 p2.is x2) rfl
end Go.Proofs.YtpkhkghiidilcaaDoor

