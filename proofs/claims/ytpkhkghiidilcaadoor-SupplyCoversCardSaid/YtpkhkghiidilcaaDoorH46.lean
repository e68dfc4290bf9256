/- tame: its contract. The walk. -/
import Derived.Test.YtpkhkghiidilcaaDoorH45
set_option linter.all false
namespace Go.Proofs.YtpkhkghiidilcaaDoor.Sh
open Go
set_option maxRecDepth 100000
set_option maxHeartbeats 4000000
def edg (f : Nat → Bool) : Nat → List (Nat × Nat)
  | 0 => []
  | i + 1 => edg f i ++ if f i = true then [(i / 6, i % 6)] else []
theorem edg_len (f : Nat → Bool) : ∀ i, (edg f i).length ≤ i
  | 0 => Nat.le_refl _
  | i + 1 => by
    have := edg_len f i
    show (_ ++ _ : List _).length ≤ i + 1
    rw [List.length_append]
    split <;> simp <;> omega
theorem tame_list (cx : Cx) {H0 : SHeap} {H : SHeap} {x : SO} {f : Nat → Bool} {n : Nat} (hH : H0 = tH H x f) :
    ∀ k ρ ms h' d', (∃ (i : Nat) (qv : Value), i + k = 36 ∧ AccS H0 h' qv (prN (edg f i)) (edg f i).length 2 45 ∧ ρ 8 = .int .i64 n ∧ ρ 9 = .pointer (some ⟨H.length + 1, 0, none⟩) ∧ ρ 15 = qv ∧ ρ 16 = .int .i64 i ∧ ms = [] ∧ d' = []) →
    LoopW M cx 7 sf15L0 ρ ms h' d' (fun ex ρ' ms' h' d' => ex = .exit 4 ∧ ms' = [] ∧ d' = [] ∧ ∃ qv : Value, AccS H0 h' qv (prN (edg f 36)) (edg f 36).length 2 45 ∧ ρ' 8 = .int .i64 n ∧ ρ' 15 = qv) := by
  refine loop_run _ ?_
  rintro k ρ ms h' d' ⟨i, qv, hk, A, r8, r9, r15, r16, rfl, rfl⟩
  unfold sf15L0
  by_cases c : k = 0
  · have e1 : ¬ ((i : Int) < 36) := by omega
    obtain rfl : i = 36 := by omega
    repeat (first | apply Z1 | apply Z2 | apply Z3 | apply Z4 | apply Z5 rfl | apply Z6 | apply Z7 | apply Z8 | apply Z9 | apply ZA | apply ZB | apply ZC | ((first | apply ZD (by decide) | apply ZN (by decide)); (simp (maxSteps := 9999999) only [go_sem, r16, e1]; rfl)) | (refine ZE ?_ ?_; · simp only [go_sem]) | (refine ZF ?_ ?_; · simp only [go_sem]))
    exact end_nil ⟨rfl, rfl, rfl, qv, A, by simp only [go_sem, r8], by simp only [go_sem, r15]⟩
  · have e1 : ((i : Int) < 36) := by omega
    have hi : i < 36 := by omega
    have z1 : (0 : Int) ≤ i := by omega
    have ew : IntKind.i64.wrap ((i : Int) + 1) = ((i + 1 : Nat) : Int) := by rw [wrap64 (by omega) (by omega)]; rfl
    have hb : h'[H.length + 1]? = some (.cells (bV f) 83 true 0 []) := by
      rw [A.same _ (by rw [hH]; simp), hH, app_get]; rfl
    have l1 : loadS h' none (.pointer (some ⟨H.length + 1, i, none⟩)) = some (.bool (f i)) := by
      have := load_cell (h := h') (o := i) hb rfl (bV_get f hi) []
      rw [List.append_nil] at this; exact this
    have hll := edg_len f i
    by_cases cf : f i = true
    · rw [cf] at l1
      have q1 : (i : Int).tdiv 6 = ((i / 6 : Nat) : Int) := by rw [Int.tdiv_eq_ediv_of_nonneg (by omega)]; rfl
      have q2 : (i : Int).tmod 6 = ((i % 6 : Nat) : Int) := by rw [Int.tmod_eq_emod_of_nonneg (by omega)]; rfl
      have w1 : IntKind.i64.wrap ((i / 6 : Nat) : Int) = ((i / 6 : Nat) : Int) := wrap64 (by omega) (by omega)
      have A1 := A.app [.cells [.int .i64 ((i / 6 : Nat) : Int), .int .i64 ((i % 6 : Nat) : Int)] 45 true 0 []]
      obtain ⟨H2, v2, ap, ⟨b2, hv2⟩, A3, _, _⟩ := A1.push (bs := h'.length) (bytes := 16) (new := [.int .i64 ((i / 6 : Nat) : Int), .int .i64 ((i % 6 : Nat) : Int)]) (el2 := 45) (pf2 := true) (own2 := 0) (old2 := []) (by rw [app_get0]; rfl) rfl rfl (by decide) rfl (by decide) (by omega)
      have hsn : edg f (i + 1) = edg f i ++ [(i / 6, i % 6)] := by show _ ++ _ = _; rw [if_pos cf]
      generalize i / 6 = a at *
      generalize i % 6 = b at *
      repeat (first | apply Z1 | apply Z2 | apply Z3 | apply Z4 | apply Z5 rfl | apply Z6 | apply Z7 | apply Z8 | apply Z9 | apply ZA | apply ZB | apply ZC | ((first | apply ZD (by decide) | apply ZN (by decide)); (simp (maxSteps := 9999999) only [go_sem, r8, r9, r15, r16, e1, z1, l1, q1, q2, w1, ap, ew, Int.toNat_natCast]; rfl)) | (refine ZE ?_ ?_; · simp only [go_sem]) | (refine ZF ?_ ?_; · simp only [go_sem]))
      refine end_nil ⟨k - 1, by omega, i + 1, v2, by omega, ?_, by simp only [go_sem, r8], by simp only [go_sem, r9], by simp only [go_sem], by simp only [go_sem, ew], rfl, rfl⟩
      rw [hsn, prN_snoc, List.length_append]
      exact A3
    · have hsn : edg f (i + 1) = edg f i := by show _ ++ _ = _; rw [if_neg cf, List.append_nil]
      rw [Bool.not_eq_true] at cf
      rw [cf] at l1
      repeat (first | apply Z1 | apply Z2 | apply Z3 | apply Z4 | apply Z5 rfl | apply Z6 | apply Z7 | apply Z8 | apply Z9 | apply ZA | apply ZB | apply ZC | ((first | apply ZD (by decide) | apply ZN (by decide)); (simp (maxSteps := 9999999) only [go_sem, r8, r9, r15, r16, e1, z1, l1, ew, Int.toNat_natCast]; rfl)) | (refine ZE ?_ ?_; · simp only [go_sem]) | (refine ZF ?_ ?_; · simp only [go_sem]))
      refine end_nil ⟨k - 1, by omega, i + 1, qv, by omega, ?_, by simp only [go_sem, r8], by simp only [go_sem, r9], by simp only [go_sem, r15], by simp only [go_sem, ew], rfl, rfl⟩
      rw [hsn]; exact A
theorem AccS.gcR {H g h : SHeap} {v : Value} {cs : List Value} {n s : Nat} {el : TypeId} (A : AccS (H ++ g) h v cs n s el) (w : Value) (hw : flat 1 w = true) : gcS H.length (.tuple #[w, v]) h = some (.tuple #[w, resV H n s], resH H cs n el) := by
  have hp : ptrs 2 w = [] ∧ ∀ K, renV H.length K 2 w = some w := ⟨ptrs_flat 2 w (flat_up _ _ hw), fun K => renV_flat 2 w (flat_up _ _ hw)⟩
  by_cases hn : n = 0
  · have ht := A.take rfl
    have e3 := hp.2 []
    rcases A.acc with ⟨_, rfl, _⟩ | ⟨b, old, rfl, h1, h2, h3, _⟩
    · have e1 : ptrs 3 (.tuple #[w, .slice none 0 0]) = [] := by
        show ptrs 2 w ++ (ptrs 2 (.slice none 0 0) ++ []) = []
        rw [hp.1]; rfl
      unfold gcS
      rw [e1]
      rw [show (1000000 : Nat) = 999999 + 1 from rfl, reach]
      simp [renV, mapO, e3, ht, resV, resH, hn]
    · exact (h3 hn).elim
  · obtain ⟨b, old, rfl, h1, h2, h3⟩ := A.cellsAt hn
    have ht := A.take rfl
    have eb : Nat.ble H.length b = true := by rw [ble_dec]; simpa using h2
    have e1 : reach H.length h 1000000 [b] [] = [b] := by
      rw [show (1000000 : Nat) = 999998 + 1 + 1 from rfl, reach]
      simp only [eb, List.contains_nil, Bool.not_true, Bool.or_self, Bool.false_eq_true, if_false, h1, ptrsO, Bool.true_or, if_true, List.nil_append]
      rw [reach]
    have e2 : ren H.length [b] b = some H.length := by simp [ren, eb, posOf]
    have e0 : ((0 : Nat) == 2) = false := rfl
    have e3 := hp.2 [b]
    have e4 : ptrs 3 (.tuple #[w, .slice (some ⟨b, 0, none⟩) n (UNK + s)]) = [b] := by
      show ptrs 2 w ++ (ptrs 2 (.slice (some ⟨b, 0, none⟩) n (UNK + s)) ++ []) = [b]
      rw [hp.1]; rfl
    unfold gcS
    simp only [e4, e1, renV, e2, e3, mapO, renO, h1, e0, Bool.false_eq_true, if_false, if_true, ht, ren_none' h3]
    simp [resV, resH, hn]
structure TM (most : Nat) (tr : Bool) (n : Nat) (f : Nat → Bool) : Prop where
  n1 : 1 ≤ n
  n2 : n ≤ most
  t1 : T1 n f
  par : ∃ par : Nat → Nat, (∀ w, 1 ≤ w → w < n → par w < w ∧ f (par w * 6 + w) = true) ∧ (tr = true → ∀ i, f i = true ↔ i < 36 ∧ 1 ≤ i % 6 ∧ i % 6 < n ∧ par (i % 6) = i / 6)
theorem tame15 {H : SHeap} {N : Int} {ev : Value} {X : List (Int × Int)} (hv : PS H ev X) (hlen : X.length ≤ 9223372036854775807) {most : Nat} (hm1 : 1 ≤ most) (hm : most ≤ 6) (tr : Bool) :
    ∃ (n : Nat) (f : Nat → Bool), TM most tr n f ∧ M.call 15 [.agg #[.int .i64 N, ev], .int .i64 most, .bool tr] H = some (.tuple #[.int .i64 n, resV H (edg f 36).length 2], resH H (prN (edg f 36)) (edg f 36).length 45, []) := by
  have key : ∃ r, (∃ (n : Nat) (f : Nat → Bool), r = (Value.tuple #[.int .i64 n, resV H (edg f 36).length 2], resH H (prN (edg f 36)) (edg f 36).length 45, ([] : List Nat)) ∧ TM most tr n f) ∧ M.call 15 [.agg #[.int .i64 N, ev], .int .i64 most, .bool tr] H = some r := by
    refine call_ex (f := 15) _ sf15 rfl rfl rfl ?_
    have wm : IntKind.u64.wrap (most : Int) = most := wrapU (by omega) (by omega)
    have hne : ¬ (most : Int) = 0 := by omega
    have un := uR_eq N (m := most) (by omega)
    have ul := uR_lt N (m := most) (by omega)
    have w6 : IntKind.i64.wrap ((uR N most : Nat) : Int) = ((uR N most : Nat) : Int) := wrap64 (by omega) (by omega)
    generalize uR N most = r at *
    have w7 : IntKind.i64.wrap (1 + (r : Int)) = ((r + 1 : Nat) : Int) := by rw [wrap64 (by omega) (by omega)]; omega
    have w8 : IntKind.i64.wrap (((r + 1 : Nat) : Int) - 1) = ((r : Nat) : Int) := by rw [wrap64 (by omega) (by omega)]; omega
    obtain ⟨va, vc, rfl, _⟩ := id hv
    unfold sf15
    repeat (first | apply Z1 | apply Z2 | apply Z3 | apply Z4 | apply Z5 rfl | apply Z6 | apply Z7 | apply Z8 | apply Z9 | apply ZA | apply ZB | apply ZC | ((first | apply ZD (by decide) | apply ZN (by decide)); (simp (maxSteps := 9999999) only [go_sem, argR, wm, hne, un, w6, w7]; rfl)) | (refine ZE ?_ ?_; · simp only [go_sem]) | (refine ZF ?_ ?_; · simp only [go_sem]))
    refine run_loop (tame_par _ hv hlen (n := r + 1) (by omega) (N := N) (most := .int .i64 most) (tree := .bool tr) (g := .bool tr) r _ _ _ _ ⟨1, fun _ => false, fun _ => 0, by rw [if_neg (by omega)]; omega, Nat.le_refl _, fun w h1 h2 => by omega, fun i => ⟨(fun h => by cases h), (fun h => by omega)⟩, rfl, by simp only [go_sem, argR], by simp only [go_sem, argR], by simp only [go_sem], by simp only [go_sem], by simp only [go_sem], by simp only [go_sem], rfl, rfl⟩) ?_
    rintro ex ρ2 ms2 h2 d2 ⟨rfl, rfl, rfl, f, par, hpar, hf, rfl, r2, r3, r8, r9⟩
    repeat (first | apply Z1 | apply Z2 | apply Z3 | apply Z4 | apply Z5 rfl | apply Z6 | apply Z7 | apply Z8 | apply Z9 | apply ZA | apply ZB | apply ZC | ((first | apply ZD (by decide) | apply ZN (by decide)); (simp (maxSteps := 9999999) only [go_sem, r2, r3, r8, r9, w8]; rfl)) | (refine ZE ?_ ?_; · simp only [go_sem]) | (refine ZF ?_ ?_; · simp only [go_sem]))
    refine run_loop (tame_more _ hv hlen (n := r + 1) (by omega) (by omega) (N := N) (tr := tr) (f0 := f) (20 - r) _ _ _ _ ⟨r, f, by omega, ⟨fun i hi => ?_⟩, fun i h => h, fun _ => rfl, rfl, by simp only [go_sem, r2], by simp only [go_sem, r3], by simp only [go_sem, r8], by simp only [go_sem, r9], by simp only [go_sem, w8], rfl, rfl⟩) ?_
    · have := (hf i).1 hi
      have := hpar (i % 6) this.2.1 this.2.2.1
      omega
    rintro ex ρ3 ms3 h3 d3 ⟨rfl, rfl, rfl, f3, hT, hsub, htr, rfl, s8, s9⟩
    repeat (first | apply Z1 | apply Z2 | apply Z3 | apply Z4 | apply Z5 rfl | apply Z6 | apply Z7 | apply Z8 | apply Z9 | apply ZA | apply ZB | apply ZC | ((first | apply ZD (by decide) | apply ZN (by decide)); (simp (maxSteps := 9999999) only [go_sem, s8, s9]; rfl)) | (refine ZE ?_ ?_; · simp only [go_sem]) | (refine ZF ?_ ?_; · simp only [go_sem]))
    refine run_loop (tame_list _ (H := H) (f := f3) (n := r + 1) rfl 36 _ _ _ _ ⟨0, .slice none 0 0, by omega, AccS.nil0 _ 2 45, by simp only [go_sem, s8], by simp only [go_sem, s9], by simp only [go_sem], by simp only [go_sem], rfl, rfl⟩) ?_
    rintro ex ρ4 ms4 h4 d4 ⟨rfl, rfl, rfl, qv, A, t8, t15⟩
    obtain ⟨qa, qc, rfl⟩ := A.shape
    repeat (first | apply Z1 | apply Z2 | apply Z3 | apply Z4 | apply Z5 rfl | apply Z6 | apply Z7 | apply Z8 | apply Z9 | apply ZA | apply ZB | apply ZC | ((first | apply ZD (by decide) | apply ZN (by decide)); (simp (maxSteps := 9999999) only [go_sem, t8, t15]; rfl)) | (refine ZE ?_ ?_; · simp only [go_sem]) | (refine ZF ?_ ?_; · simp only [go_sem]))
    refine end_nil ⟨_, ⟨r + 1, f3, rfl, by omega, by omega, hT, par, fun w h1 h2 => ⟨hpar w h1 h2, hsub _ ((hf _).2 ?_)⟩, fun h => by rw [htr h]; exact hf⟩, ?_⟩
    · have := hpar w h1 h2
      have e1 : (par w * 6 + w) % 6 = w := by omega
      have e2 : (par w * 6 + w) / 6 = par w := by omega
      rw [e1, e2]; exact ⟨by omega, h1, h2, rfl⟩
    · exact q_gc [.int .i64 ((r + 1 : Nat) : Int), .slice qa (edg f3 36).length qc] (by simp only [go_sem]) rfl (A.gcR _ rfl) rfl
  obtain ⟨r, ⟨n, f, rfl, k⟩, e⟩ := key
  exact ⟨n, f, k, e⟩
end Go.Proofs.YtpkhkghiidilcaaDoor.Sh

namespace Go.Proofs.YtpkhkghiidilcaaDoor.Sh
open Go
set_option maxRecDepth 100000
set_option maxHeartbeats 1000000
def castE (l : List (Nat × Nat)) : List (Int × Int) := l.map fun p => ((p.1 : Int), (p.2 : Int))
theorem castE_len (l : List (Nat × Nat)) : (castE l).length = l.length := by simp [castE]
theorem prN_prs (l : List (Nat × Nat)) : prN l = prs (castE l) := by
  induction l with
  | nil => rfl
  | cons p l ih =>
    show [_, _] ++ prN l = _
    rw [ih]; rfl
theorem PS_res (H : SHeap) (l : List (Nat × Nat)) (el : TypeId) : PS (resH H (prN l) l.length el) (resV H l.length 2) (castE l) := by
  by_cases c : l.length = 0
  · have : l = [] := List.length_eq_zero_iff.1 c
    subst this
    exact ⟨none, 0, rfl, fun h => (h rfl).elim⟩
  · unfold resH resV
    rw [if_neg c, if_neg c]
    refine ⟨_, _, by rw [castE_len], fun _ => ⟨_, _, rfl, Prs.mk0 (el := el) (pf := true) (own := 0) (old := []) ?_ rfl⟩⟩
    rw [List.getElem?_append_right (Nat.le_refl _), Nat.sub_self, prN_prs]; rfl
def keyP (p : Nat × Nat) : Nat := 6 * p.1 + p.2
theorem edg_mem {f : Nat → Bool} : ∀ {k : Nat} {p : Nat × Nat}, p ∈ edg f k ↔ ∃ i, i < k ∧ f i = true ∧ p = (i / 6, i % 6)
  | 0, p => by simp [edg]
  | k + 1, p => by
    show p ∈ _ ++ _ ↔ _
    rw [List.mem_append, edg_mem]
    constructor
    · rintro (⟨i, h1, h2, h3⟩ | h)
      · exact ⟨i, by omega, h2, h3⟩
      · split at h
        · rename_i hf
          exact ⟨k, by omega, hf, List.mem_singleton.1 h⟩
        · cases h
    · rintro ⟨i, h1, h2, h3⟩
      by_cases c : i = k
      · subst c; right; rw [if_pos h2]; exact List.mem_singleton.2 h3
      · exact .inl ⟨i, by omega, h2, h3⟩
theorem edg_sorted (f : Nat → Bool) : ∀ k, (edg f k).Pairwise (fun p q => keyP p < keyP q)
  | 0 => List.Pairwise.nil
  | k + 1 => by
    show (_ ++ _ : List _).Pairwise _
    rw [List.pairwise_append]
    refine ⟨edg_sorted f k, ?_, fun p hp q hq => ?_⟩
    · split
      · exact List.pairwise_singleton _ _
      · exact List.Pairwise.nil
    · split at hq
      · obtain ⟨i, h1, _, rfl⟩ := edg_mem.1 hp
        rw [List.mem_singleton] at hq
        subst hq
        unfold keyP
        dsimp only
        omega
      · cases hq
theorem TM.eok {most : Nat} {tr : Bool} {n : Nat} {f : Nat → Bool} (T : TM most tr n f) : EOK n (castE (edg f 36)) := by
  intro i hi
  rw [castE_len] at hi
  have at' : ∀ j (hj : j < (edg f 36).length), eAt (castE (edg f 36)) j = (((edg f 36)[j].1 : Int), ((edg f 36)[j].2 : Int)) := fun j hj => by
    rw [eAt_get (by rw [castE_len]; exact hj)]; simp [castE]
  have pr : ∀ j (hj : j < (edg f 36).length), (edg f 36)[j].1 < (edg f 36)[j].2 ∧ (edg f 36)[j].2 < n ∧ (edg f 36)[j].2 < 6 := fun j hj => by
    obtain ⟨k, h1, h2, h3⟩ := edg_mem.1 (List.getElem_mem hj)
    have := T.t1.lt k h2
    rw [h3]
    dsimp only
    omega
  have hp := pr i hi
  unfold okAt
  rw [at' i hi]
  dsimp only
  refine ⟨by omega, by omega, by omega, fun h0 => ?_⟩
  have hq := pr (i - 1) (by omega)
  rw [at' (i - 1) (by omega)]
  dsimp only
  have hs := List.pairwise_iff_getElem.1 (edg_sorted f 36) (i - 1) i (by omega) hi (by omega)
  unfold keyP at hs
  omega
theorem TM.conn {most : Nat} {tr : Bool} {n : Nat} {f : Nat → Bool} (T : TM most tr n f) (hm : most ≤ 6) : Conn n (castE (edg f 36)) := by
  have n1 := T.n1
  have n2 := T.n2
  obtain ⟨par, hpar, _⟩ := T.par
  rw [conn_iff n1]
  obtain ⟨F, hF, hk⟩ := farI_spec (n := n) (E := castE (edg f 36)) (s := 0) (by omega)
  have key : ∀ v, v < n → 0 ≤ F v := by
    intro v
    induction v using Nat.strongRecOn with
    | _ v ih =>
      intro hv
      by_cases c : v = 0
      · subst c; rw [hF.src]; exact Int.le_refl _
      · obtain ⟨h1, h2⟩ := hpar v (by omega) hv
        have h3 := ih (par v) h1 (by omega)
        refine (hF.nxt (par v) v (by omega) hv h3 ?_).1
        rw [adjE_mem]
        left
        unfold castE
        refine List.mem_map.2 ⟨(par v, v), edg_mem.2 ⟨par v * 6 + v, by omega, h2, ?_⟩, rfl⟩
        refine Prod.ext ?_ ?_ <;> dsimp only <;> omega
  intro v hv
  rw [(hk v hv).1 (key v hv)]; exact key v hv
theorem TM.err {most : Nat} {tr : Bool} {n : Nat} {f : Nat → Bool} (T : TM most tr n f) (hm : most ≤ 6) : errG n (castE (edg f 36)) = 0 := errG_of T.n1 (by have := T.n2; omega) T.eok (T.conn hm)
end Go.Proofs.YtpkhkghiidilcaaDoor.Sh

namespace Go.Proofs.YtpkhkghiidilcaaDoor.Sh
open Go
set_option maxRecDepth 100000
set_option maxHeartbeats 4000000
theorem iV_snoc (v : Nat) (s : Nat → Int) (x : Int) : iV (v + 1) (up s v x) = iV v s ++ [.int .i64 x] := by
  unfold iV
  rw [List.range_succ, List.map_append]
  congr 1
  · exact List.map_congr_left (fun w hw => by have := List.mem_range.1 hw; unfold up; rw [if_neg (by omega)])
  · simp [up]
theorem brought_loop (cx : Cx) {H : SHeap} {n : Nat} (hn : n ≤ 6) {lv : Value} {l : List Int} (hv : IS H lv l) (hlen : l.length ≤ 9223372036854775807) {most : Nat} (hm : most ≤ 1000) :
    ∀ k ρ ms h' d', (∃ (v left : Nat) (s : Nat → Int) (qv : Value), v + k = n ∧ (∀ w, 0 ≤ s w) ∧ (∀ w, v ≤ w → s w = 0) ∧ tot s + left = most ∧ AccS H h' qv (iV v s) v 1 3 ∧ ρ 0 = lv ∧ ρ 1 = .int .i64 n ∧ ρ 7 = qv ∧ ρ 8 = .int .i64 left ∧ ρ 9 = .int .i64 v ∧ ms = [] ∧ d' = []) →
    LoopW M cx 6 sf16L0 ρ ms h' d' (fun ex ρ' ms' h' d' => ex = .exit 0 ∧ ms' = [] ∧ d' = [] ∧ ∃ (s : Nat → Int) (qv : Value), ST n s most ∧ AccS H h' qv (iV n s) n 1 3 ∧ ρ' 7 = qv) := by
  refine loop_run _ ?_
  rintro k ρ ms h' d' ⟨v, left, s, qv, hk, hs0, hz, ht, A, r0, r1, r7, r8, r9, rfl, rfl⟩
  unfold sf16L0
  by_cases c : k = 0
  · have e1 : ¬ ((v : Int) < n) := by omega
    obtain rfl : v = n := by omega
    repeat (first | apply Z1 | apply Z2 | apply Z3 | apply Z4 | apply Z5 rfl | apply Z6 | apply Z7 | apply Z8 | apply Z9 | apply ZA | apply ZB | apply ZC | ((first | apply ZD (by decide) | apply ZN (by decide)); (simp (maxSteps := 9999999) only [go_sem, r1, r9, e1]; rfl)) | (refine ZE ?_ ?_; · simp only [go_sem]) | (refine ZF ?_ ?_; · simp only [go_sem]))
    exact end_nil ⟨rfl, rfl, rfl, s, qv, ⟨hs0, hz, by omega⟩, A, by simp only [go_sem, r7]⟩
  · have e1 : ((v : Int) < n) := by omega
    have z1 : (0 : Int) ≤ v := by omega
    have ew : IntKind.i64.wrap ((v : Int) + 1) = ((v + 1 : Nat) : Int) := by rw [wrap64 (by omega) (by omega)]; rfl
    have tn : 0 ≤ tot s := by
      have n0 := hs0 0
      have n1 := hs0 1
      have n2 := hs0 2
      have n3 := hs0 3
      have n4 := hs0 4
      have n5 := hs0 5
      unfold tot; omega
    have fin : ∀ (x : Nat), x ≤ left → ∃ (left' : Nat), (left' : Int) = (left : Int) - x ∧ (∀ w, 0 ≤ up s v x w) ∧ (∀ w, v + 1 ≤ w → up s v (x : Int) w = 0) ∧ tot (up s v x) + left' = most := fun x hx => by
      refine ⟨left - x, by omega, fun w => ?_, fun w hw => ?_, ?_⟩
      · unfold up; split
        · omega
        · exact hs0 w
      · unfold up; rw [if_neg (by omega)]; exact hz w (by omega)
      · rw [tot_up s (by omega), hz v (Nat.le_refl _)]; omega
    obtain ⟨va, vc, rfl, hva⟩ := id hv
    by_cases c2 : v < l.length
    · have e2 : ((v : Int) < l.length) := by omega
      obtain ⟨b, o, rfl, hbl, il⟩ := hva (by intro e; rw [e] at c2; simp at c2)
      have l1 := (il.fr (A.same b hbl)) v c2
      have w1 : IntKind.i64.wrap ((left : Int) + 1) = ((left + 1 : Nat) : Int) := by rw [wrap64 (by omega) (by omega)]; rfl
      have w2 : IntKind.u64.wrap ((left + 1 : Nat) : Int) = ((left + 1 : Nat) : Int) := wrapU (by omega) (by omega)
      have hne : ¬ ((left + 1 : Nat) : Int) = 0 := by omega
      have um := uR_eq l[v] (m := left + 1) (by omega)
      have ul := uR_lt l[v] (m := left + 1) (by omega)
      generalize l[v] = y at *
      have w6 : IntKind.i64.wrap ((uR y (left + 1) : Nat) : Int) = ((uR y (left + 1) : Nat) : Int) := wrap64 (by omega) (by omega)
      generalize uR y (left + 1) = x at *
      generalize hlp : left + 1 = lp at *
      obtain ⟨left', f1, f2, f3, f4⟩ := fin x (by omega)
      have w3 : IntKind.i64.wrap ((left : Int) - x) = left' := by rw [wrap64 (by omega) (by omega)]; omega
      have A1 := A.app [.cells [.int .i64 (x : Int)] 3 true 0 []]
      obtain ⟨H2, v2, ap, ⟨b2, hv2⟩, A3, _, _⟩ := A1.push (bs := h'.length) (bytes := 8) (new := [.int .i64 (x : Int)]) (el2 := 3) (pf2 := true) (own2 := 0) (old2 := []) (by rw [app_get0]; rfl) rfl rfl (by decide) rfl (by decide) (by omega)
      repeat (first | apply Z1 | apply Z2 | apply Z3 | apply Z4 | apply Z5 rfl | apply Z6 | apply Z7 | apply Z8 | apply Z9 | apply ZA | apply ZB | apply ZC | ((first | apply ZD (by decide) | apply ZN (by decide)); (simp (maxSteps := 9999999) only [go_sem, r0, r1, r7, r8, r9, e1, e2, z1, l1, w1, w2, hne, um, w6, w3, ap, ew, Int.toNat_natCast]; rfl)) | (refine ZE ?_ ?_; · simp only [go_sem]) | (refine ZF ?_ ?_; · simp only [go_sem]))
      exact end_nil ⟨k - 1, by omega, v + 1, left', up s v x, v2, by omega, f2, f3, f4, by rw [iV_snoc]; exact A3, by simp only [go_sem, r0], by simp only [go_sem, r1], by simp only [go_sem], by simp only [go_sem, w3], by simp only [go_sem, ew], rfl, rfl⟩
    · have e2 : ¬ ((v : Int) < l.length) := by omega
      obtain ⟨left', f1, f2, f3, f4⟩ := fin 0 (by omega)
      have w3 : IntKind.i64.wrap ((left : Int) - 0) = left' := by rw [wrap64 (by omega) (by omega)]; omega
      have w3' : IntKind.i64.wrap (left : Int) = left' := by rw [wrap64 (by omega) (by omega)]; omega
      have A1 := A.app [.cells [.int .i64 0] 3 true 0 []]
      obtain ⟨H2, v2, ap, ⟨b2, hv2⟩, A3, _, _⟩ := A1.push (bs := h'.length) (bytes := 8) (new := [.int .i64 0]) (el2 := 3) (pf2 := true) (own2 := 0) (old2 := []) (by rw [app_get0]; rfl) rfl rfl (by decide) rfl (by decide) (by omega)
      repeat (first | apply Z1 | apply Z2 | apply Z3 | apply Z4 | apply Z5 rfl | apply Z6 | apply Z7 | apply Z8 | apply Z9 | apply ZA | apply ZB | apply ZC | ((first | apply ZD (by decide) | apply ZN (by decide)); (simp (maxSteps := 9999999) only [go_sem, r0, r1, r7, r8, r9, e1, e2, w3, w3', Int.sub_zero, ap, ew, Int.toNat_natCast]; rfl)) | (refine ZE ?_ ?_; · simp only [go_sem]) | (refine ZF ?_ ?_; · simp only [go_sem]))
      exact end_nil ⟨k - 1, by omega, v + 1, left', up s v 0, v2, by omega, f2, f3, f4, by rw [iV_snoc]; exact A3, by simp only [go_sem, r0], by simp only [go_sem, r1], by simp only [go_sem], by simp only [go_sem, w3], by simp only [go_sem, ew], rfl, rfl⟩
theorem brought16 {H : SHeap} {n : Nat} (hn : n ≤ 6) {lv : Value} {l : List Int} (hv : IS H lv l) (hlen : l.length ≤ 9223372036854775807) {most : Nat} (hm : most ≤ 1000) :
    ∃ s : Nat → Int, ST n s most ∧ M.call 16 [lv, .int .i64 n, .int .i64 most] H = some (resV H n 1, resH H (iV n s) n 3, []) := by
  have key : ∃ r, (∃ s : Nat → Int, r = (resV H n 1, resH H (iV n s) n 3, ([] : List Nat)) ∧ ST n s most) ∧ M.call 16 [lv, .int .i64 n, .int .i64 most] H = some r := by
    refine call_ex (f := 16) _ sf16 rfl rfl rfl ?_
    obtain ⟨va, vc, rfl, _⟩ := id hv
    unfold sf16
    repeat (first | apply Z1 | apply Z2 | apply Z3 | apply Z4 | apply Z5 rfl | apply Z6 | apply Z7 | apply Z8 | apply Z9 | apply ZA | apply ZB | apply ZC | ((first | apply ZD (by decide) | apply ZN (by decide)); (simp (maxSteps := 9999999) only [go_sem, argR]; rfl)) | (refine ZE ?_ ?_; · simp only [go_sem]) | (refine ZF ?_ ?_; · simp only [go_sem]))
    refine run_loop (brought_loop _ hn hv hlen hm n _ _ _ _ ⟨0, most, fun _ => 0, .slice none 0 0, by omega, fun _ => Int.le_refl _, fun _ _ => rfl, by show (0 : Int) + most = most; omega, AccS.nil0 _ 1 3, by simp only [go_sem, argR], by simp only [go_sem, argR], by simp only [go_sem], by simp only [go_sem, argR], by simp only [go_sem], rfl, rfl⟩) ?_
    rintro ex ρ2 ms2 h2 d2 ⟨rfl, rfl, rfl, s, qv, S, A, r7⟩
    have A0 := A.at0
    obtain ⟨qa, qc, rfl⟩ := A.shape
    repeat (first | apply Z1 | apply Z2 | apply Z3 | apply Z4 | apply Z5 rfl | apply Z6 | apply Z7 | apply Z8 | apply Z9 | apply ZA | apply ZB | apply ZC | ((first | apply ZD (by decide) | apply ZN (by decide)); (simp (maxSteps := 9999999) only [go_sem, r7]; rfl)) | (refine ZE ?_ ?_; · simp only [go_sem]) | (refine ZF ?_ ?_; · simp only [go_sem]))
    exact end_nil ⟨_, ⟨s, rfl, S⟩, A0.ret1 (by simp only [go_sem, r7])⟩
  obtain ⟨r, ⟨s, rfl, k⟩, e⟩ := key
  exact ⟨s, k, e⟩
end Go.Proofs.YtpkhkghiidilcaaDoor.Sh

namespace Go.Proofs.YtpkhkghiidilcaaDoor.Sh
open Go
set_option maxRecDepth 100000
set_option maxHeartbeats 4000000
def capOK (n c s : Nat) : Prop := (n ≤ c ∧ c < UNK) ∨ c = UNK + s
def PSc (h : SHeap) (v : Value) (X : List (Int × Int)) : Prop := ∃ a c, v = .slice a X.length c ∧ capOK X.length c 2 ∧ (a = none ∧ c < UNK ∧ X = [] ∨ ∃ b o, a = some ⟨b, o, none⟩ ∧ (X ≠ [] → Prs h b o X))
theorem PSc.ps {h : SHeap} {v : Value} {X : List (Int × Int)} (k : PSc h v X) : PS h v X := by
  obtain ⟨a, c, e, _, k⟩ := k
  refine ⟨a, c, e, fun hn => ?_⟩
  rcases k with ⟨_, _, rfl⟩ | ⟨b, o, rfl, k⟩
  · exact (hn rfl).elim
  · exact ⟨b, o, rfl, k hn⟩
end Go.Proofs.YtpkhkghiidilcaaDoor.Sh

namespace Go.Proofs.YtpkhkghiidilcaaDoor.Sh
open Go
set_option maxRecDepth 100000
set_option maxHeartbeats 4000000
theorem stk_lst {n : Nat} {s : Nat → Int} {B : Int} (S : ST n s B) : stk (lst n s) = s := by
  funext v
  by_cases c : v < n
  · exact lst_at s c
  · rw [stk_out (by rw [lst_len]; omega), S.out v (by omega)]
theorem ST.sup {n : Nat} {s : Nat → Int} (S : ST n s 40) (hn : n ≤ 6) : SupOK n (lst n s) := by
  refine ⟨by rw [lst_len], fun x hx => ?_, ?_⟩
  · unfold lst at hx
    obtain ⟨v, _, rfl⟩ := List.mem_map.1 hx
    exact S.bnd hn v
  · have h := S.le
    have o := S.out
    have : (lst n s).sum = tot s := by
      unfold tot
      have : n = 0 ∨ n = 1 ∨ n = 2 ∨ n = 3 ∨ n = 4 ∨ n = 5 ∨ n = 6 := by omega
      rcases this with rfl | rfl | rfl | rfl | rfl | rfl | rfl
      · rw [o 0 (by omega), o 1 (by omega), o 2 (by omega), o 3 (by omega), o 4 (by omega), o 5 (by omega)]; rfl
      · rw [o 1 (by omega), o 2 (by omega), o 3 (by omega), o 4 (by omega), o 5 (by omega)]; simp [lst, List.range_succ]
      · rw [o 2 (by omega), o 3 (by omega), o 4 (by omega), o 5 (by omega)]; simp [lst, List.range_succ]
      · rw [o 3 (by omega), o 4 (by omega), o 5 (by omega)]; simp [lst, List.range_succ]; omega
      · rw [o 4 (by omega), o 5 (by omega)]; simp [lst, List.range_succ]; omega
      · rw [o 5 (by omega)]; simp [lst, List.range_succ]; omega
      · simp [lst, List.range_succ]; omega
    rw [this]; exact h
end Go.Proofs.YtpkhkghiidilcaaDoor.Sh

namespace Go.Proofs.YtpkhkghiidilcaaDoor.Sh
open Go
set_option maxRecDepth 100000
set_option maxHeartbeats 4000000
theorem rowM_mem {n : Nat} {E : List (Int × Int)} {s : Nat → Int} {a : Nat} {p : Nat × Nat} : ∀ {b : Nat}, p ∈ rowM n E s a b → p.1 = a ∧ canM n E s p.1 p.2
  | 0, h => by cases h
  | b + 1, h => by
    have h : p ∈ _ ++ _ := h
    rw [List.mem_append] at h
    rcases h with h | h
    · exact rowM_mem h
    · split at h
      · rename_i hc; rw [List.mem_singleton] at h; subst h; exact ⟨rfl, hc⟩
      · cases h
theorem MVb_mem {n : Nat} {E : List (Int × Int)} {s : Nat → Int} {p : Nat × Nat} : ∀ {a : Nat}, p ∈ MVb n E s a → canM n E s p.1 p.2
  | 0, h => by cases h
  | a + 1, h => by
    have h : p ∈ _ ++ _ := h
    rw [List.mem_append] at h
    rcases h with h | h
    · exact MVb_mem h
    · exact (rowM_mem h).2
theorem DV.is {H h : SHeap} {lv v : Value} {n i : Nat} {s s0 : Nat → Int} (D : DV H h lv v n i s) (hl : IS H lv (lst n s0)) (h0 : i = 0 → s = s0) (hle : H.length ≤ h.length) (fr : ∀ j, j < H.length → h[j]? = H[j]?) : IS h v (lst n s) := by
  rcases D with ⟨e, rfl⟩ | ⟨_, b, rfl, _, hb⟩
  · rw [h0 e]; exact hl.fr hle fr
  · exact IS.lstAt hb rfl
theorem DV.keep {H h h' : SHeap} {lv v : Value} {n i : Nat} {s : Nat → Int} (D : DV H h lv v n i s) (k : ∀ b cs own old, H.length ≤ b → h[b]? = some (.cells cs 3 true own old) → h'[b]? = h[b]?) : DV H h' lv v n i s := by
  rcases D with ⟨e, rfl⟩ | ⟨e, b, rfl, hb, hc⟩
  · exact .inl ⟨e, rfl⟩
  · exact .inr ⟨e, b, rfl, hb, by rw [k b _ _ _ hb hc]; exact hc⟩
end Go.Proofs.YtpkhkghiidilcaaDoor.Sh

namespace Go.Proofs.YtpkhkghiidilcaaDoor.Sh
open Go
set_option maxRecDepth 100000
set_option maxHeartbeats 4000000
theorem AccS.pairs {H h : SHeap} {v : Value} {l : List (Nat × Nat)} (A : AccS H h v (prN l) l.length 2 45) : PS h v (castE l) := by
  rcases A.acc with ⟨h0, rfl, _⟩ | ⟨b, old, rfl, hb, _⟩
  · have : l = [] := List.length_eq_zero_iff.1 h0
    subst this
    exact ⟨none, 0, rfl, fun h => (h rfl).elim⟩
  · exact ⟨_, _, by rw [castE_len], fun _ => ⟨b, 0, rfl, Prs.mk0 (by rw [← prN_prs]; exact hb) rfl⟩⟩
end Go.Proofs.YtpkhkghiidilcaaDoor.Sh

namespace Go.Proofs.YtpkhkghiidilcaaDoor.Sh
open Go
set_option maxRecDepth 100000
set_option maxHeartbeats 4000000
theorem resH_fr (h : SHeap) (cs : List Value) (n : Nat) (el : TypeId) : h.length ≤ (resH h cs n el).length ∧ ∀ j, j < h.length → (resH h cs n el)[j]? = h[j]? := by
  unfold resH
  split
  · exact ⟨Nat.le_refl _, fun _ _ => rfl⟩
  · exact ⟨by simp, fun j hj => List.getElem?_append_left hj⟩
theorem Prs.fr {H h : SHeap} {b o : Nat} {X : List (Int × Int)} (k : Prs H b o X) (fr : ∀ j, j < H.length → h[j]? = H[j]?) : Prs h b o X := by
  have e := fr b k.lt
  obtain ⟨pre, post, el2, pf, own, old, h1, h2⟩ := k
  exact ⟨pre, post, el2, pf, own, old, by rw [e]; exact h1, h2⟩
theorem PSc.fr {H h : SHeap} {v : Value} {X : List (Int × Int)} (k : PSc H v X) (fr : ∀ j, j < H.length → h[j]? = H[j]?) : PSc h v X := by
  obtain ⟨a, c, e, hc, k⟩ := k
  refine ⟨a, c, e, hc, k.imp id ?_⟩
  rintro ⟨b, o, e, k⟩
  exact ⟨b, o, e, fun hn => (k hn).fr fr⟩
end Go.Proofs.YtpkhkghiidilcaaDoor.Sh

namespace Go.Proofs.YtpkhkghiidilcaaDoor.Sh
open Go
set_option maxRecDepth 100000
set_option maxHeartbeats 1000000
def pl (s : Nat → Int) (u : Nat) (k : Int) : Nat → Int := fun v => if v = u then s u + k else s v
theorem pl_same (s : Nat → Int) (u : Nat) (k : Int) : pl s u k u = s u + k := by unfold pl; rw [if_pos rfl]
theorem pl_ne (s : Nat → Int) {u v : Nat} (k : Int) (h : v ≠ u) : pl s u k v = s v := by unfold pl; rw [if_neg h]
theorem pl_back (s : Nat → Int) (u : Nat) (k : Int) : pl (pl s u (-k)) u k = s := by
  funext v
  unfold pl
  by_cases c : v = u
  · subst c; simp; omega
  · simp [c]
theorem pl_at (s : Nat → Int) (u : Nat) (k : Int) (v : Nat) : pl s u k v = s v + if v = u then k else 0 := by
  unfold pl; split
  · rename_i e; subst e; rfl
  · omega
theorem aft_v {s : Nat → Int} {a b : Nat} (h : a ≠ b) (v : Nat) : aft s a b v = s v + (if v = a then -2 else 0) + (if v = b then 1 else 0) := by
  rw [aft_at h]
  by_cases c1 : v = b
  · subst c1; rw [if_pos rfl, if_pos rfl, if_neg (fun e => h e.symm)]; omega
  · rw [if_neg c1, if_neg c1]
    by_cases c2 : v = a
    · subst c2; rw [if_pos rfl, if_pos rfl]; omega
    · rw [if_neg c2, if_neg c2]; omega
theorem aft_pl {s : Nat → Int} {a b u : Nat} {k : Int} (h : a ≠ b) : aft (pl s u k) a b = pl (aft s a b) u k := by
  funext v
  rw [aft_v h, pl_at, pl_at, aft_v h]; omega
inductive Rg (n : Nat) (E : List (Int × Int)) (g : Nat) : (Nat → Int) → (Nat → Int) → Prop
  | refl (s : Nat → Int) : Rg n E g s s
  | step {s t : Nat → Int} (a b : Nat) (ha : a < n) (hb : b < n) (hadj : adjE E a b = true) (h2 : 2 ≤ s a) (hg : a ≠ g) : Rg n E g (aft s a b) t → Rg n E g s t
theorem canM_iff {n : Nat} {E : List (Int × Int)} {s : Nat → Int} {a b : Nat} : canM n E s (a : Int) (b : Int) ↔ a < n ∧ b < n ∧ adjE E a b = true ∧ 2 ≤ s a := by
  unfold canM
  rw [Int.toNat_natCast, Int.toNat_natCast]
  constructor
  · rintro ⟨h1, h2, h3, h4⟩; exact ⟨by omega, by omega, h3, h4⟩
  · rintro ⟨h1, h2, h3, h4⟩; exact ⟨by omega, by omega, h3, h4⟩
section
variable {n : Nat} {E : List (Int × Int)} {g : Nat} {s t : Nat → Int}
theorem Rg.trans {w : Nat → Int} (h1 : Rg n E g s t) (h2 : Rg n E g t w) : Rg n E g s w := by
  induction h1 with
  | refl s => exact h2
  | step a b ha hb hadj h2' hg _ ih => exact .step a b ha hb hadj h2' hg (ih h2)
theorem aft_nn {a b : Nat} (h : a ≠ b) (hs : ∀ v, 0 ≤ s v) (h2 : 2 ≤ s a) : ∀ v, 0 ≤ aft s a b v := fun v => by
  rw [aft_at h]
  have := hs v
  have := hs b
  split
  · omega
  · split <;> omega
theorem Rg.nn (hE : EOK n E) (h : Rg n E g s t) (hs : ∀ v, 0 ≤ s v) : ∀ v, 0 ≤ t v := by
  induction h with
  | refl s => exact hs
  | step a b ha hb hadj h2 hg _ ih => exact ih (aft_nn (hE.adj hadj).2.2 hs h2)
theorem Rg.st (hE : EOK n E) (hn : n ≤ 6) {B : Int} (h : Rg n E g s t) (S : ST n s B) : ST n t B := by
  induction h with
  | refl s => exact S
  | step a b ha hb hadj h2 hg _ ih => exact ih ((S.aft hE hn ha hb hadj h2).mono (by omega))
theorem Rg.more (hE : EOK n E) (h : Rg n E g s t) {u : Nat} {k : Int} (hk : 0 ≤ k ∨ u = g) : Rg n E g (pl s u k) (pl t u k) := by
  induction h with
  | refl s => exact .refl _
  | @step s t a b ha hb hadj h2 hg _ ih =>
    have hne := (hE.adj hadj).2.2
    refine .step a b ha hb hadj ?_ hg (by rw [aft_pl hne]; exact ih)
    unfold pl
    split
    · rename_i e; subst e; rcases hk with hk | hk
      · omega
      · exact (hg hk).elim
    · exact h2
theorem Rg.less (hE : EOK n E) {s0 : Nat → Int} (h : Rg n E g s0 t) : ∀ (s : Nat → Int) (u : Nat), s0 = pl s u 1 → (∀ v, 0 ≤ s v) → ∃ t', Rg n E g s t' ∧ t g - 1 ≤ t' g := by
  induction h with
  | refl s0 =>
    rintro s u rfl hs
    refine ⟨s, .refl s, ?_⟩
    unfold pl; split
    · rename_i e; subst e; omega
    · omega
  | @step s0 t a b ha hb hadj h2 hg _ ih =>
    rintro s u rfl hs
    have hne := (hE.adj hadj).2.2
    by_cases c : 2 ≤ s a
    · obtain ⟨t', h1, h3⟩ := ih (aft s a b) u (aft_pl hne) (aft_nn hne hs c)
      exact ⟨t', .step a b ha hb hadj c hg h1, h3⟩
    · have hau : a = u := by
        apply Decidable.byContradiction
        intro e; rw [pl_ne _ _ e] at h2; exact c h2
      subst hau
      rw [pl_same] at h2
      have h1 : s a = 1 := by omega
      have e1 : aft (pl s a 1) a b = pl (pl s a (-1)) b 1 := by
        funext v
        rw [pl_at, pl_at, aft_v hne, pl_at]
        by_cases c2 : v = a
        · rw [if_pos c2, if_pos c2, if_pos c2]; omega
        · rw [if_neg c2, if_neg c2, if_neg c2]; omega
      obtain ⟨t', k1, k2⟩ := ih (pl s a (-1)) b e1 (fun v => by
        have := hs v
        unfold pl; split <;> omega)
      have k3 := k1.more hE (u := a) (k := 1) (.inl (by omega))
      rw [pl_back] at k3
      refine ⟨_, k3, ?_⟩
      unfold pl; split
      · rename_i e; subst e; omega
      · exact k2
theorem Rg.any (h : Rg n E g s t) : Rg n E n s t := by
  induction h with
  | refl s => exact .refl s
  | step a b ha hb hadj h2 hg _ ih => exact .step a b ha hb hadj h2 (by omega) ih
def IsM (n : Nat) (E : List (Int × Int)) (g : Nat) (s : Nat → Int) (m : Int) : Prop := (∃ t, Rg n E g s t ∧ t g = m) ∧ ∀ t, Rg n E g s t → t g ≤ m
theorem IsM.uniq {m m' : Int} (h : IsM n E g s m) (h' : IsM n E g s m') : m = m' := by
  obtain ⟨⟨t, h1, rfl⟩, h2⟩ := h
  obtain ⟨⟨t', h3, rfl⟩, h4⟩ := h'
  have := h2 _ h3
  have := h4 _ h1
  omega
theorem IsM.ex (hE : EOK n E) (hn : n ≤ 6) {B : Int} (S : ST n s B) : ∃ m, IsM n E g s m := by
  have hb : ∀ t, Rg n E g s t → t g ≤ B := fun t h => ((h.st hE hn S).bnd hn g).2
  obtain ⟨j, ⟨t, h1, h2⟩, h3⟩ := least (P := fun j => ∃ t, Rg n E g s t ∧ (B - t g).toNat = j) _ ⟨s, .refl s, rfl⟩
  refine ⟨t g, ⟨t, h1, rfl⟩, fun t' h' => ?_⟩
  have k1 := hb t h1
  have k2 := hb t' h'
  apply Decidable.byContradiction
  intro hlt
  exact h3 (B - t' g).toNat (by omega) ⟨t', h', rfl⟩
open Classical in
noncomputable def mx (n : Nat) (E : List (Int × Int)) (g : Nat) (s : Nat → Int) : Int := if h : ∃ m, IsM n E g s m then Classical.choose h else 0
theorem mx_is (hE : EOK n E) (hn : n ≤ 6) {B : Int} (S : ST n s B) : IsM n E g s (mx n E g s) := by
  unfold mx
  rw [dif_pos (IsM.ex hE hn S)]
  exact Classical.choose_spec (IsM.ex (g := g) hE hn S)
theorem mx_eq (hE : EOK n E) (hn : n ≤ 6) {B : Int} (S : ST n s B) {m : Int} (h : IsM n E g s m) : mx n E g s = m := (mx_is hE hn S).uniq h
theorem mx_ge (hE : EOK n E) (hn : n ≤ 6) {B : Int} (S : ST n s B) (h : Rg n E g s t) : t g ≤ mx n E g s := (mx_is hE hn S).2 t h
def lin : Nat → (Nat → Int) → (Nat → Int) → Int
  | 0, _, _ => 0
  | n + 1, c, s => lin n c s + c n * s n
theorem lin_nn {c : Nat → Int} (hc : ∀ v, 0 ≤ c v) (hs : ∀ v, 0 ≤ s v) : ∀ n, 0 ≤ lin n c s
  | 0 => Int.le_refl 0
  | n + 1 => by
    have := lin_nn hc hs n
    have := Int.mul_nonneg (hc n) (hs n)
    show 0 ≤ lin n c s + c n * s n
    omega
end
end Go.Proofs.YtpkhkghiidilcaaDoor.Sh

namespace Go.Proofs.YtpkhkghiidilcaaDoor.Sh
open Go
set_option maxRecDepth 100000
set_option maxHeartbeats 1000000
section
variable {n : Nat} {E : List (Int × Int)} {g : Nat}
theorem Rg.many (hE : EOK n E) {a b : Nat} (ha : a < n) (hb : b < n) (hadj : adjE E a b = true) (hag : a ≠ g) : ∀ (k : Nat) (s : Nat → Int), 2 * (k : Int) ≤ s a → Rg n E g s (pl (pl s a (-(2 * (k : Int)))) b k)
  | 0, s, _ => by
    have : pl (pl s a (-(2 * ((0 : Nat) : Int)))) b ((0 : Nat) : Int) = s := by
      funext v
      rw [pl_at, pl_at]
      split <;> split <;> omega
    rw [this]; exact .refl s
  | k + 1, s, h => by
    have hne := (hE.adj hadj).2.2
    refine .step a b ha hb hadj (by omega) hag ?_
    have ih := Rg.many hE ha hb hadj hag k (aft s a b) (by rw [aft_at hne, if_neg hne, if_pos rfl]; omega)
    have : pl (pl (aft s a b) a (-(2 * (k : Int)))) b k = pl (pl s a (-(2 * ((k + 1 : Nat) : Int)))) b ((k + 1 : Nat) : Int) := by
      funext v
      by_cases c : v = b
      · subst c
        rw [pl_same, pl_ne _ _ (fun e => hne e.symm), pl_same, pl_ne _ _ (fun e => hne e.symm), aft_at hne, if_pos rfl]; omega
      · rw [pl_ne _ _ c, pl_ne _ _ c]
        by_cases c2 : v = a
        · subst c2; rw [pl_same, pl_same, aft_at hne, if_neg hne, if_pos rfl]; omega
        · rw [pl_ne _ _ c2, pl_ne _ _ c2, aft_at hne, if_neg c, if_neg c2]
    rw [this] at ih
    exact ih
end
end Go.Proofs.YtpkhkghiidilcaaDoor.Sh

namespace Go.Proofs.YtpkhkghiidilcaaDoor.Sh
open Go
set_option maxRecDepth 100000
set_option maxHeartbeats 1000000
section
variable {n : Nat} {E : List (Int × Int)} {g : Nat} {s : Nat → Int} {B : Int}
theorem p1 {x k : Nat} (h : x = k) : 2 ^ x = 2 ^ k := by rw [h]
end
end Go.Proofs.YtpkhkghiidilcaaDoor.Sh

namespace Go.Proofs.YtpkhkghiidilcaaDoor.Sh
open Go
set_option maxRecDepth 100000
set_option maxHeartbeats 1000000
section
variable {n : Nat} {E : List (Int × Int)} {s : Nat → Int}
def full (n : Nat) (s : Nat → Int) : Prop := ∀ v, v < n → 1 ≤ s v
def Cov (n : Nat) (E : List (Int × Int)) (s : Nat → Int) : Prop := ∃ t, Rg n E n s t ∧ full n t
theorem Cov.iff : Cov n E s ↔ full n s ∨ ∃ a b : Nat, canM n E s a b ∧ Cov n E (aft s a b) := by
  constructor
  · rintro ⟨t, h, hf⟩
    cases h with
    | refl => exact .inl hf
    | step a b ha hb hadj h2 hg h => exact .inr ⟨a, b, canM_iff.2 ⟨ha, hb, hadj, h2⟩, t, h, hf⟩
  · rintro (h | ⟨a, b, hc, t, h, hf⟩)
    · exact ⟨s, .refl s, h⟩
    · obtain ⟨h1, h2, h3, h4⟩ := canM_iff.1 hc
      exact ⟨t, .step a b h1 h2 h3 h4 (by omega) h, hf⟩
theorem lin_one_le {c : Nat → Int} (hc : ∀ v, 0 ≤ c v) : ∀ {n : Nat} {s s' : Nat → Int}, (∀ v, v < n → s v ≤ s' v) → lin n c s ≤ lin n c s'
  | 0, _, _, _ => Int.le_refl 0
  | n + 1, s, s', h => by
    have := lin_one_le hc (n := n) (s := s) (s' := s') (fun v hv => h v (by omega))
    have := Int.mul_le_mul_of_nonneg_left (h n (by omega)) (hc n)
    show lin n c s + c n * s n ≤ lin n c s' + c n * s' n
    omega
theorem lin_ones : ∀ n, lin n (fun _ => 1) (fun _ => 1) = n
  | 0 => rfl
  | n + 1 => by
    show lin n _ _ + 1 * 1 = _
    rw [lin_ones n]; omega
theorem tot_lin {B : Int} (hn : n ≤ 6) (S : ST n s B) : lin n (fun _ => 1) s = tot s := by
  have key : ∀ k, k ≤ 6 → n ≤ k → lin k (fun _ => 1) s = lin n (fun _ => 1) s := by
    intro k
    induction k with
    | zero => intro _ h; rw [show n = 0 by omega]
    | succ k ih =>
      intro h1 h2
      by_cases e : n = k + 1
      · rw [e]
      · show lin k _ s + 1 * s k = _
        rw [ih (by omega) (by omega), S.out k (by omega)]; omega
  rw [← key 6 (by omega) hn]
  show ((((((0 + 1 * s 0) + 1 * s 1) + 1 * s 2) + 1 * s 3) + 1 * s 4) + 1 * s 5) = s 0 + s 1 + s 2 + s 3 + s 4 + s 5
  omega
theorem Rg.tot_le {g : Nat} (hE : EOK n E) (hn : n ≤ 6) {t : Nat → Int} (h : Rg n E g s t) : tot t ≤ tot s := by
  induction h with
  | refl s => exact Int.le_refl _
  | step a b ha hb hadj h2 hg _ ih => rw [aft_tot (by omega) (by omega)] at ih; omega
theorem Cov.tot {B : Int} (hE : EOK n E) (hn : n ≤ 6) (S : ST n s B) (h : Cov n E s) : (n : Int) ≤ tot s := by
  obtain ⟨t, h1, h2⟩ := h
  have k1 := h1.tot_le hE hn
  have k2 := tot_lin hn (h1.st hE hn S)
  have k3 := lin_one_le (c := fun _ => 1) (fun _ => by decide) (n := n) (s := fun _ => 1) (s' := t) h2
  rw [lin_ones] at k3
  omega
end
end Go.Proofs.YtpkhkghiidilcaaDoor.Sh

namespace Go.Proofs.YtpkhkghiidilcaaDoor.Sh
open Go
set_option maxRecDepth 100000
set_option maxHeartbeats 1000000
def q6 : EqK := .agg [.int, .int, .int, .int, .int, .int]
def zout (s : Nat → Int) : Prop := ∀ v, 6 ≤ v → s v = 0
theorem eqL_ints : ∀ (l l' : List Int), l.length = l'.length → eqList (l.map fun _ => CK.int) (l.map mkI) (l'.map mkI) = some (decide (l = l'))
  | [], [], _ => rfl
  | a :: l, b :: l', h => by
    have ih := eqL_ints l l' (by simpa using h)
    show (match eqCell .int (.int .i64 a) (.int .i64 b) with
      | some true => eqList _ (l.map mkI) (l'.map mkI)
      | some false => some false
      | none => none) = _
    have e : eqCell .int (.int .i64 a) (.int .i64 b) = some (a == b) := by simp [eqCell]
    rw [e, ih]
    by_cases c : a = b
    · subst c; simp
    · have : (a == b) = false := beq_eq_false_iff_ne.2 c
      rw [this]; simp [c]
theorem st_lst (s : Nat → Int) : iV 6 s = (lst 6 s).map mkI := by simp [iV, lst, mkI]
theorem eq6 {s t : Nat → Int} (hs : zout s) (ht : zout t) : eqS q6 (stV s) (stV t) = some true ∧ s = t ∨ eqS q6 (stV s) (stV t) = some false ∧ s ≠ t := by
  have e : eqS q6 (stV s) (stV t) = some (decide (lst 6 s = lst 6 t)) := by
    show eqList _ (iV 6 s) (iV 6 t) = _
    rw [st_lst, st_lst]
    exact eqL_ints (lst 6 s) (lst 6 t) rfl
  rw [e]
  by_cases c : lst 6 s = lst 6 t
  · refine .inl ⟨by rw [decide_eq_true c], funext fun v => ?_⟩
    by_cases cv : v < 6
    · rw [← lst_at s cv, ← lst_at t cv, c]
    · rw [hs v (by omega), ht v (by omega)]
  · exact .inr ⟨by rw [decide_eq_false c], fun h => c (by rw [h])⟩
def ents (S : List ((Nat → Int) × Value)) : List (Value × Value) := S.map fun e => (stV e.1, e.2)
theorem find6 {t : Nat → Int} (ht : zout t) : ∀ S : List ((Nat → Int) × Value), (∀ e ∈ S, zout e.1) → (findS q6 (stV t) (ents S) = some none ∧ ∀ e ∈ S, e.1 ≠ t) ∨ ∃ v, findS q6 (stV t) (ents S) = some (some v) ∧ (t, v) ∈ S
  | [], _ => .inl ⟨rfl, fun e he => by cases he⟩
  | (s, w) :: S, h => by
    have hs : zout s := h (s, w) (by simp)
    show (match eqS q6 (stV t) (stV s) with | some true => some (some w) | some false => findS q6 (stV t) (ents S) | none => none) = _ ∧ _ ∨ ∃ v, (match eqS q6 (stV t) (stV s) with | some true => some (some w) | some false => findS q6 (stV t) (ents S) | none => none) = _ ∧ _
    rcases eq6 ht hs with ⟨e, rfl⟩ | ⟨e, hne⟩
    · rw [e]; exact .inr ⟨w, rfl, by simp⟩
    · rw [e]
      rcases find6 ht S (fun e he => h e (by simp [he])) with ⟨h1, h2⟩ | ⟨v, h1, h2⟩
      · refine .inl ⟨h1, fun e he => ?_⟩
        rcases List.mem_cons.1 he with rfl | he
        · exact fun k => hne k.symm
        · exact h2 e he
      · exact .inr ⟨v, h1, by simp [h2]⟩
theorem upd6 {t : Nat → Int} (ht : zout t) (w : Value) : ∀ S : List ((Nat → Int) × Value), (∀ e ∈ S, zout e.1) → ∃ S', updS q6 (stV t) w (ents S) = some (ents S') ∧ ∀ e ∈ S', e ∈ S ∨ e = (t, w)
  | [], _ => ⟨[(t, w)], rfl, fun e he => .inr (by simpa using he)⟩
  | (s, x) :: S, h => by
    have hs : zout s := h (s, x) (by simp)
    have un : updS q6 (stV t) w (ents ((s, x) :: S)) = (match eqS q6 (stV t) (stV s) with | some true => some ((stV t, w) :: ents S) | some false => (match updS q6 (stV t) w (ents S) with | some r => some ((stV s, x) :: r) | none => none) | none => none) := rfl
    rcases eq6 ht hs with ⟨e, rfl⟩ | ⟨e, hne⟩
    · exact ⟨(t, w) :: S, by rw [un, e]; rfl, fun e he => by
        rcases List.mem_cons.1 he with rfl | he
        · exact .inr rfl
        · exact .inl (by simp [he])⟩
    · obtain ⟨S', h1, h2⟩ := upd6 ht w S (fun e he => h e (by simp [he]))
      exact ⟨(s, x) :: S', by rw [un, e, h1]; rfl, fun e he => by
        rcases List.mem_cons.1 he with rfl | he
        · exact .inl (by simp)
        · rcases h2 e he with h3 | h3
          · exact .inl (by simp [h3])
          · exact .inr h3⟩
theorem ST.zout {n : Nat} {s : Nat → Int} {B : Int} (S : ST n s B) (hn : n ≤ 6) : Sh.zout s := fun v hv => S.out v (by omega)
theorem key6 (s : Nat → Int) : keyS q6 (stV s) = true := rfl
theorem sc6 (s : Nat → Int) (w : Value) (h : (cellsL w).all sc = true) : ((cellsL (stV s)).all sc && (cellsL w).all sc) = true := by
  rw [h, Bool.and_true]
  exact iV_sc 6 s
theorem run_rangeX {R : Rec} {cx : Cx} {dep : Nat} {f : Operand} {ps : List Nat} {as_ body : SCode} {st : List Fr} {ρ : Reg} {ms : List Nat} {h : SHeap} {d : List Nat} {Q : Post} {g : FuncId} {caps : Array Value}
    (hrnd : cx.rnd = none) (hv : evR ρ f = some (.func (.func g) #[] caps))
    (hw : ∀ t : T, Full dep t → t.get = ρ → ∃ v2 h2 d2, R.call g (.func (.yield (h.length + 1)) #[] #[] :: caps.toList) (h ++ [.deferred, .loop 0 cx.fn t ps as_ body none h.length]) = some (v2, h2, d2) ∧
      ∃ lst fn' t' ps' as' body' pend df, h2[h.length + 1]? = some (.loop lst fn' t' ps' as' body' pend df) ∧ (lst == 1) = false ∧
        ((pend = none ∧ Ends R cx dep .normal st ρ (h.length :: ms) (setLoop h2 (h.length + 1) 3 none) (dirts cx.base d2 d) Q) ∨
         (pend = some .ret ∧ Ends R cx dep .ret st ρ (h.length :: ms) (setLoop h2 (h.length + 1) 3 (some .ret)) (dirts cx.base d2 d) Q) ∨
         (∃ id, pend = some (.exit id) ∧ Ends R cx dep (.exit id) st ρ (h.length :: ms) (setLoop h2 (h.length + 1) 3 (some (.exit id))) (dirts cx.base d2 d) Q))) :
    Run R cx dep (.rangeFunc f ps as_ body) st ρ ms h d Q := by
  unfold Run
  intro t hf ht
  obtain ⟨v2, h2, d2, e1, lst, fn', t', ps', as', body', pend, df, e2, e3, e4⟩ := hw t hf ht
  have hv' : ev t f = some (.func (.func g) #[] caps) := by rw [ev_evR, ht]; exact hv
  have a1 : (h ++ [SO.deferred]).length = h.length + 1 := by simp
  have a2 : h ++ [SO.deferred] ++ [.loop 0 cx.fn t ps as_ body none h.length] = h ++ [.deferred, .loop 0 cx.fn t ps as_ body none h.length] := by simp
  have e1' : R.call g ((#[] : Array Value).toList ++ [.func (.yield (h.length + 1)) #[] #[]] ++ caps.toList) (h ++ [.deferred, .loop 0 cx.fn t ps as_ body none h.length]) = some (v2, h2, d2) := by
    simpa using e1
  rcases e4 with ⟨rfl, k⟩ | ⟨rfl, k⟩ | ⟨id, rfl, k⟩
  · refine ⟨.normal, t, h.length :: ms, setLoop h2 (h.length + 1) 3 none, dirts cx.base d2 d, ?_, hf, by rw [ht]; exact k⟩
    unfold exec
    simp only [hv', hrnd]
    simp only [a1, a2]
    rw [e1']
    simp only [e2, e3, if_false, Bool.false_eq_true]
  · refine ⟨.ret, t, h.length :: ms, setLoop h2 (h.length + 1) 3 (some .ret), dirts cx.base d2 d, ?_, hf, by rw [ht]; exact k⟩
    unfold exec
    simp only [hv', hrnd]
    simp only [a1, a2]
    rw [e1']
    simp only [e2, e3, if_false, Bool.false_eq_true]
  · refine ⟨.exit id, t, h.length :: ms, setLoop h2 (h.length + 1) 3 (some (.exit id)), dirts cx.base d2 d, ?_, hf, by rw [ht]; exact k⟩
    unfold exec
    simp only [hv', hrnd]
    simp only [a1, a2]
    rw [e1']
    simp only [e2, e3, if_false, Bool.false_eq_true]
end Go.Proofs.YtpkhkghiidilcaaDoor.Sh

namespace Go.Proofs.YtpkhkghiidilcaaDoor.Sh
open Go
set_option maxRecDepth 100000
set_option maxHeartbeats 4000000
structure Srch (h : SHeap) (xs gr n : Nat) (E : List (Int × Int)) (goal : Nat) : Prop where
  l0 : loadS h none (.pointer (some ⟨xs, 0, none⟩)) = some (.pointer (some ⟨gr, 0, none⟩))
  l1 : loadS h none (.pointer (some ⟨xs, 1, none⟩)) = some (.int .i64 goal)
  gr : GAt h gr n E
section
variable {H : SHeap} {xs gr n goal : Nat} {E : List (Int × Int)} {s : Nat → Int}
theorem Srch.app (X : Srch H xs gr n E goal) (hx : xs < H.length) (g : SHeap) : Srch (H ++ g) xs gr n E goal := by
  have e : (H ++ g)[xs]? = H[xs]? := List.getElem?_append_left hx
  exact ⟨by rw [load_same' e]; exact X.l0, by rw [load_same' e]; exact X.l1, X.gr.app g⟩
end
end Go.Proofs.YtpkhkghiidilcaaDoor.Sh

namespace Go.Proofs.YtpkhkghiidilcaaDoor.Sh
open Go
set_option maxRecDepth 100000
set_option maxHeartbeats 4000000
def KnM (n : Nat) (E : List (Int × Int)) (goal : Nat) (S : List ((Nat → Int) × Value)) : Prop := ∀ e ∈ S, (∃ B, ST n e.1 B) ∧ e.2 = .int .i64 (mx n E goal e.1)
theorem KnM.z {n : Nat} {E : List (Int × Int)} {goal : Nat} {S : List ((Nat → Int) × Value)} (hn : n ≤ 6) (k : KnM n E goal S) : ∀ e ∈ S, zout e.1 := fun e he => by
  obtain ⟨⟨B, h⟩, _⟩ := k e he
  exact h.zout hn
def Bst (n : Nat) (E : List (Int × Int)) (goal : Nat) (s : Nat → Int) (l : List (Nat × Nat)) (m : Int) : Prop := (∃ w, Rg n E goal s w ∧ w goal = m) ∧ s goal ≤ m ∧ ∀ p ∈ l, p.1 ≠ goal → mx n E goal (aft s p.1 p.2) ≤ m
structure JT (N mb xs gr n : Nat) (E : List (Int × Int)) (goal : Nat) (s : Nat → Int) (bd : Int) (H : SHeap) (Q : Int → Prop) (lo : SO) (h : SHeap) : Prop where
  len : N + 8 ≤ h.length
  low : ∀ j, j < N → j ≠ mb → h[j]? = H[j]?
  mem : ∃ S, h[mb]? = some (.map true (ents S)) ∧ KnM n E goal S
  bx : h[N]? = some (.cells [.pointer (some ⟨xs, 0, none⟩)] 90 false 0 [])
  bs : h[N + 1]? = some (.cells (iV 6 s) 87 true 0 [])
  best : ∃ m, h[N + 2]? = some (.cells [.int .i64 m] 3 true 0 []) ∧ Q m
  bnd : h[N + 3]? = some (.cells [.int .i64 bd] 3 true 0 [])
  cap : Caps h (N + 4) (N + 5) gr n E s
  df : h[N + 6]? = some .deferred
  lp : h[N + 7]? = some lo
section
variable {N mb xs gr n : Nat} {E : List (Int × Int)} {goal : Nat} {s : Nat → Int} {bd : Int} {H : SHeap} {Q Q' : Int → Prop} {lo lo' : SO} {h h' : SHeap}
theorem JT.chg (J : JT N mb xs gr n E goal s bd H Q lo h) (hm : mb < N) (hg : gr < N) (hgm : gr ≠ mb) (hl : N + 8 ≤ h'.length) (k : ∀ j, j < N + 8 → j ≠ mb → j ≠ N + 2 → j ≠ N + 7 → h'[j]? = h[j]?)
    (mem : ∃ S, h'[mb]? = some (.map true (ents S)) ∧ KnM n E goal S) (best : ∃ m, h'[N + 2]? = some (.cells [.int .i64 m] 3 true 0 []) ∧ Q' m) (lp : h'[N + 7]? = some lo') : JT N mb xs gr n E goal s bd H Q' lo' h' :=
  ⟨hl, fun j hj hne => by rw [k j (by omega) hne (by omega) (by omega)]; exact J.low j hj hne, mem, by rw [k _ (by omega) (by omega) (by omega) (by omega)]; exact J.bx, by rw [k _ (by omega) (by omega) (by omega) (by omega)]; exact J.bs, best, by rw [k _ (by omega) (by omega) (by omega) (by omega)]; exact J.bnd,
    J.cap.same (fun j hj => k j (by omega) (by omega) (by omega) (by omega)), by rw [k _ (by omega) (by omega) (by omega) (by omega)]; exact J.df, lp⟩
theorem JT.same (J : JT N mb xs gr n E goal s bd H Q lo h) (hm : mb < N) (hg : gr < N) (hl : N + 8 ≤ h'.length) (k : ∀ j, j < N + 8 → h'[j]? = h[j]?) : JT N mb xs gr n E goal s bd H Q lo h' := by
  obtain ⟨S, m1, m2⟩ := J.mem
  obtain ⟨m, b1, b2⟩ := J.best
  exact ⟨hl, fun j hj hne => by rw [k j (by omega)]; exact J.low j hj hne, ⟨S, by rw [k _ (by omega)]; exact m1, m2⟩, by rw [k _ (by omega)]; exact J.bx, by rw [k _ (by omega)]; exact J.bs, ⟨m, by rw [k _ (by omega)]; exact b1, b2⟩, by rw [k _ (by omega)]; exact J.bnd,
    J.cap.same (fun j hj => k j (by omega)), by rw [k _ (by omega)]; exact J.df, by rw [k _ (by omega)]; exact J.lp⟩
theorem JT.app (J : JT N mb xs gr n E goal s bd H Q lo h) (hm : mb < N) (hg : gr < N) (x : SHeap) : JT N mb xs gr n E goal s bd H Q lo (h ++ x) :=
  J.same hm hg (by have := J.len; simp; omega) (fun j hj => List.getElem?_append_left (by have := J.len; omega))
theorem JT.setLp (J : JT N mb xs gr n E goal s bd H Q lo h) (hm : mb < N) (hg : gr < N) (hgm : gr ≠ mb) (lo' : SO) : JT N mb xs gr n E goal s bd H Q lo' (h.set (N + 7) lo') := by
  obtain ⟨S, m1, m2⟩ := J.mem
  obtain ⟨m, b1, b2⟩ := J.best
  have hl := J.len
  exact J.chg hm hg hgm (by simp; omega) (fun j hj h1 h2 h3 => by rw [List.getElem?_set_ne (by omega)]) ⟨S, by rw [List.getElem?_set_ne (by omega)]; exact m1, m2⟩ ⟨m, by rw [List.getElem?_set_ne (by omega)]; exact b1, b2⟩ (by rw [List.getElem?_set_self (by omega)])
def But (mb : Nat) (H h : SHeap) : Prop := h.length = H.length ∧ ∀ j, j ≠ mb → h[j]? = H[j]?
end
end Go.Proofs.YtpkhkghiidilcaaDoor.Sh

namespace Go.Proofs.YtpkhkghiidilcaaDoor.Sh
open Go
set_option maxRecDepth 100000
set_option maxHeartbeats 4000000
theorem MVb_all {n : Nat} {E : List (Int × Int)} {s : Nat → Int} {a b : Nat} (ha : a < n) (hb : b < n) (h : canM n E s a b) : (a, b) ∈ MVb n E s n := by
  have row : ∀ k, b < k → (a, b) ∈ rowM n E s a k := by
    intro k
    induction k with
    | zero => intro h; omega
    | succ k ih =>
      intro hk
      show (a, b) ∈ _ ++ _
      rw [List.mem_append]
      by_cases e : b = k
      · subst e; rw [if_pos h]; exact .inr (by simp)
      · exact .inl (ih (by omega))
  have all : ∀ k, a < k → (a, b) ∈ MVb n E s k := by
    intro k
    induction k with
    | zero => intro h; omega
    | succ k ih =>
      intro hk
      show (a, b) ∈ _ ++ _
      rw [List.mem_append]
      by_cases e : a = k
      · subst e; exact .inr (row n hb)
      · exact .inl (ih (by omega))
  exact all n ha
section
variable {n : Nat} {E : List (Int × Int)} {goal : Nat} {s : Nat → Int}
theorem Bst.all (hE : EOK n E) (hn : n ≤ 6) {B : Int} (S : ST n s B) {m : Int} (h : Bst n E goal s (MVb n E s n) m) : mx n E goal s = m := by
  refine mx_eq hE hn S ⟨h.1, fun t ht => ?_⟩
  cases ht with
  | refl => exact h.2.1
  | step a b ha hb hadj h2 hg k =>
    have k1 := h.2.2 (a, b) (MVb_all ha hb (canM_iff.2 ⟨ha, hb, hadj, h2⟩)) hg
    have k2 := mx_ge hE hn (S.aft hE hn ha hb hadj h2) k
    dsimp only at k1
    omega
end
section
variable {xs gr mb n : Nat} {E : List (Int × Int)} {goal : Nat}
theorem cells_st (s : Nat → Int) : cellsL (stV s) = iV 6 s := rfl
theorem take_but {H G : SHeap} {N : Nat} (hN : H.length = N) (hl : N ≤ G.length) (k : ∀ j, j < N → j ≠ mb → G[j]? = H[j]?) : But mb H (G.take N) := by
  refine ⟨by rw [List.length_take]; omega, fun j hj => ?_⟩
  by_cases c : j < N
  · rw [List.getElem?_take, if_pos c]; exact k j c hj
  · rw [List.getElem?_eq_none (by rw [List.length_take]; omega), List.getElem?_eq_none (by omega)]
theorem JT.take {N : Nat} {s : Nat → Int} {bd : Int} {H : SHeap} {Q : Int → Prop} {lo : SO} {h : SHeap} (J : JT N mb xs gr n E goal s bd H Q lo h) (hm : mb < N) (hg : gr < N) : JT N mb xs gr n E goal s bd H Q lo (h.take (N + 8)) :=
  J.same hm hg (by have := J.len; rw [List.length_take]; omega) (fun j hj => by rw [List.getElem?_take, if_pos hj])
end
end Go.Proofs.YtpkhkghiidilcaaDoor.Sh

namespace Go.Proofs.YtpkhkghiidilcaaDoor.Sh
open Go
set_option maxRecDepth 100000
set_option maxHeartbeats 4000000
abbrev sB (gr goal mb : Nat) : SO := .cells [.pointer (some ⟨gr, 0, none⟩), .int .i64 goal, .map (some mb)] 117 false 0 []
abbrev mB (S : List ((Nat → Int) × Value)) : SO := .map true (ents S)
theorem vsame_st (s : Nat → Int) : vsame (stV s) (stV s) = true := by
  show vsL (iV 6 s) (iV 6 s) = true
  rw [iV6]
  simp [vsL, vs1, vs0]
section
variable {n : Nat} {E : List (Int × Int)} {goal : Nat}
theorem Srch.mk' {h : SHeap} {xs gr mb : Nat} {c : TypeId} (hx : h[xs]? = some (.cells [.pointer (some ⟨gr, 0, none⟩), .int .i64 goal, .map (some mb)] c false 0 [])) (hg : GAt h gr n E) : Srch h xs gr n E goal := by
  have k0 := load_cell (o := 0) hx rfl rfl []
  have k1 := load_cell (o := 1) hx rfl rfl []
  rw [List.append_nil] at k0 k1
  exact ⟨k0, k1, hg⟩
theorem KnM.nil : KnM n E goal [] := fun e he => by cases he
theorem But.app {mb : Nat} {H h x : SHeap} (hb : But mb (H ++ x) h) (hm : H.length ≤ mb) : h.take H.length = H := by
  have e := hb.1
  rw [List.length_append] at e
  refine take_of_same (by omega) (fun j hj => ?_)
  rw [hb.2 j (by omega), List.getElem?_append_left hj]
end
end Go.Proofs.YtpkhkghiidilcaaDoor.Sh

namespace Go.Proofs.YtpkhkghiidilcaaDoor.Sh
open Go
set_option maxRecDepth 100000
set_option maxHeartbeats 4000000
abbrev fB (xs : Nat) : SO := .cells [.func (.func 55) #[.pointer (some ⟨xs, 0, none⟩)] #[]] 92 false 0 []
structure PL (N n : Nat) (E : List (Int × Int)) (goal : Nat) (H : SHeap) (st : Nat → Int) (P : List (Nat × Nat)) (h : SHeap) : Prop where
  len : N + 6 ≤ h.length
  low : ∀ j, j < N → h[j]? = H[j]?
  gr : GAt h N n E
  bs : h[N + 1]? = some (.cells (iV 6 st) 87 true 0 [])
  sr : h[N + 2]? = some (sB N goal (N + 3))
  mem : ∃ S, h[N + 3]? = some (mB S) ∧ KnM n E goal S
  fn : h[N + 4]? = some (fB (N + 2))
  out : ∃ qv, h[N + 5]? = some (.cells [qv] 22 false 0 []) ∧ Acc (N + 6) h qv (prN P) P.length 2 45
structure JP (N n : Nat) (E : List (Int × Int)) (goal : Nat) (H : SHeap) (L0 : Nat) (ms : List Nat) (st0 st : Nat → Int) (P : List (Nat × Nat)) (lo : SO) (h : SHeap) : Prop where
  pl : PL N n E goal H st P h
  len : L0 + 4 ≤ h.length
  cap : Caps h L0 (L0 + 1) N n E st0
  df : h[L0 + 2]? = some .deferred
  dk : ∀ x ∈ ms, h[x]? = some .deferred
  lp : h[L0 + 3]? = some lo
section
variable {N n : Nat} {E : List (Int × Int)} {goal : Nat} {H : SHeap} {L0 : Nat} {ms : List Nat} {st0 st : Nat → Int} {P : List (Nat × Nat)} {lo : SO} {h h' : SHeap}
theorem PL.chg (J : PL N n E goal H st P h) (hl : h.length ≤ h'.length) (k : ∀ j, j < h.length → j ≠ N + 3 → h'[j]? = h[j]?) (mem : ∃ S, h'[N + 3]? = some (mB S) ∧ KnM n E goal S) : PL N n E goal H st P h' := by
  have jl := J.len
  obtain ⟨qv, o1, o2⟩ := J.out
  exact ⟨by omega, fun j hj => by rw [k j (by omega) (by omega)]; exact J.low j hj, by have := J.gr; unfold GAt at *; rw [k _ (by omega) (by omega)]; exact this, by rw [k _ (by omega) (by omega)]; exact J.bs, by rw [k _ (by omega) (by omega)]; exact J.sr, mem, by rw [k _ (by omega) (by omega)]; exact J.fn, qv, by rw [k _ (by omega) (by omega)]; exact o1,
    o2.keep (fun b e => k b (o2.lt e).2 (by have := (o2.lt e).1; omega))⟩
theorem PL.app (J : PL N n E goal H st P h) (x : SHeap) : PL N n E goal H st P (h ++ x) := by
  have jl := J.len
  obtain ⟨S, m1, m2⟩ := J.mem
  exact J.chg (by simp) (fun j hj _ => List.getElem?_append_left hj) ⟨S, by rw [List.getElem?_append_left (by omega)]; exact m1, m2⟩
theorem PL.setO (J : PL N n E goal H st P h) {j : Nat} (hj : N + 6 ≤ j) (hc : ∀ cs el pf own old, h[j]? ≠ some (.cells cs el pf own old)) (o : SO) : PL N n E goal H st P (h.set j o) := by
  have jl := J.len
  obtain ⟨S, m1, m2⟩ := J.mem
  obtain ⟨qv, o1, o2⟩ := J.out
  have k : ∀ i, i ≠ j → (h.set j o)[i]? = h[i]? := fun i hi => List.getElem?_set_ne (by omega)
  exact ⟨by simp; omega, fun i hi => by rw [k i (by omega)]; exact J.low i hi, by have := J.gr; unfold GAt at *; rw [k _ (by omega)]; exact this, by rw [k _ (by omega)]; exact J.bs, by rw [k _ (by omega)]; exact J.sr, ⟨S, by rw [k _ (by omega)]; exact m1, m2⟩, by rw [k _ (by omega)]; exact J.fn, qv, by rw [k _ (by omega)]; exact o1,
    o2.keep (fun b e => k b (fun e2 => by
      subst e2
      rcases o2 with ⟨_, e3, _⟩ | ⟨b', old, e3, h1, _⟩
      · rw [e3] at e; simp at e
      · rw [e3] at e
        simp at e
        rw [e] at h1
        exact hc _ _ _ _ _ h1))⟩
theorem JP.app (J : JP N n E goal H L0 ms st0 st P lo h) (x : SHeap) : JP N n E goal H L0 ms st0 st P lo (h ++ x) := by
  have jl := J.len
  have k : ∀ j, j < h.length → (h ++ x)[j]? = h[j]? := fun j hj => List.getElem?_append_left hj
  have lt := J.cap.lt
  exact ⟨J.pl.app x, by simp; omega, J.cap.same (fun j hj => k j (by omega)), by rw [k _ (by omega)]; exact J.df, fun y hy => by rw [k y (List.getElem?_eq_some_iff.1 (J.dk y hy)).1]; exact J.dk y hy, by rw [k _ (by omega)]; exact J.lp⟩
theorem JP.setLp {a1 : Nat} {a2 : FuncId} {a3 : T} {a4 : List Nat} {a5 a6 : SCode} {a7 : Option SCode} {a8 : Nat} (J : JP N n E goal H L0 ms st0 st P (.loop a1 a2 a3 a4 a5 a6 a7 a8) h) (hL : N + 6 ≤ L0) (o : SO) : JP N n E goal H L0 ms st0 st P o (h.set (L0 + 3) o) := by
  have jl := J.len
  have k : ∀ i, i ≠ L0 + 3 → (h.set (L0 + 3) o)[i]? = h[i]? := fun i hi => List.getElem?_set_ne (by omega)
  have lp := J.lp
  exact ⟨J.pl.setO (by omega) (fun cs el pf own old e => by rw [lp] at e; cases e) o, by simp; omega, J.cap.same (fun j hj => k j (by omega)), by rw [k _ (by omega)]; exact J.df, fun y hy => by
    rw [k y (fun e => by have := J.dk y hy; rw [e, lp] at this; cases this)]; exact J.dk y hy, by rw [List.getElem?_set_self (by omega)]⟩
theorem JP.fin (J : JP N n E goal H L0 ms st st P lo h) (hL : N + 6 ≤ L0) (hms : ∀ x ∈ ms, x < L0) (hq : ∀ qv, h[N + 5]? = some (.cells [qv] 22 false 0 []) → ∀ b, qv = .slice (some ⟨b, 0, none⟩) P.length (UNK + 2) → b < L0 + 4) : JP N n E goal H L0 ms st st P lo (h.take (L0 + 4)) := by
  have jl := J.len
  have k : ∀ j, j < L0 + 4 → (h.take (L0 + 4))[j]? = h[j]? := fun j hj => by rw [List.getElem?_take, if_pos hj]
  obtain ⟨S, m1, m2⟩ := J.pl.mem
  obtain ⟨qv, o1, o2⟩ := J.pl.out
  have lt := J.cap.lt
  refine ⟨⟨by rw [List.length_take]; omega, fun i hi => by rw [k i (by omega)]; exact J.pl.low i hi, by have := J.pl.gr; unfold GAt at *; rw [k _ (by omega)]; exact this, by rw [k _ (by omega)]; exact J.pl.bs, by rw [k _ (by omega)]; exact J.pl.sr, ⟨S, by rw [k _ (by omega)]; exact m1, m2⟩, by rw [k _ (by omega)]; exact J.pl.fn, qv, by rw [k _ (by omega)]; exact o1,
    o2.keep (fun b e => k b (hq qv o1 b e))⟩, by rw [List.length_take]; omega, J.cap.same (fun j hj => k j (by omega)), by rw [k _ (by omega)]; exact J.df, fun y hy => by rw [k y (by have := hms y hy; omega)]; exact J.dk y hy, by rw [k _ (by omega)]; exact J.lp⟩
end
end Go.Proofs.YtpkhkghiidilcaaDoor.Sh

namespace Go.Proofs.YtpkhkghiidilcaaDoor.Sh
open Go
set_option maxRecDepth 100000
set_option maxHeartbeats 4000000
section
variable {n : Nat} {E : List (Int × Int)} {goal : Nat} {st : Nat → Int}
end
structure PI (N n : Nat) (E : List (Int × Int)) (goal : Nat) (H : SHeap) (s0 st : Nat → Int) (P : List (Nat × Nat)) (ms : List Nat) (h : SHeap) : Prop where
  pl : PL N n E goal H st P h
  mk1 : ∀ x ∈ ms, h[x]? = some SO.deferred
  mk2 : ms.Nodup
  mk3 : ∀ x ∈ ms, N + 6 ≤ x
  run : doM n E s0 (castE P) = (st, P.length)
  pos : 0 < mx n E goal st
  st0 : ST n st 40
  sum : tot st + P.length ≤ 40
section
variable {N n : Nat} {E : List (Int × Int)} {goal : Nat} {H : SHeap} {s0 : Nat → Int}
section
variable {v sv : Value} {l : List Int}
end
end
end Go.Proofs.YtpkhkghiidilcaaDoor.Sh

namespace Go.Proofs.YtpkhkghiidilcaaDoor.Sh
open Go
set_option maxRecDepth 100000
set_option maxHeartbeats 4000000
section
variable {n : Nat} {E : List (Int × Int)} {g : Nat} {s t x : Nat → Int}
theorem Rg.shift (hE : EOK n E) (h : Rg n E g s t) {δ : Nat → Int} (hδ : ∀ v, 0 ≤ δ v) : Rg n E g (fun v => s v + δ v) (fun v => t v + δ v) := by
  induction h with
  | refl s => exact .refl _
  | @step s t a b ha hb hadj h2 hg _ ih =>
    have hne := (hE.adj hadj).2.2
    refine .step a b ha hb hadj (by have := hδ a; show 2 ≤ s a + δ a; omega) hg ?_
    have e : aft (fun v => s v + δ v) a b = fun v => aft s a b v + δ v := by
      funext v
      rw [aft_v hne, aft_v hne]; omega
    rw [e]; exact ih
structure Un (n : Nat) (E : List (Int × Int)) (g : Nat) (s : Nat → Int) : Prop where
  st : ST n s 1000
  mx0 : mx n E g s ≤ 0
theorem lst6_sum (s : Nat → Int) : (lst 6 s).sum = tot s := by
  show List.sum [s 0, s 1, s 2, s 3, s 4, s 5] = _
  simp [tot]; omega
theorem mem6 {B : Int} (hn : n ≤ 6) (S : ST n s B) (hB : B ≤ 1000) : ∀ x ∈ lst 6 s, 0 ≤ x ∧ x ≤ 1000 := fun x hx => by
  unfold lst at hx
  obtain ⟨v, _, rfl⟩ := List.mem_map.1 hx
  have := S.bnd hn v
  omega
end
abbrev wB (N : Nat) : SO := .cells [.func (.func 76) #[] #[.pointer (some ⟨N, 0, none⟩), .pointer (some ⟨N + 8, 0, none⟩), .pointer (some ⟨N + 7, 0, none⟩), .pointer (some ⟨N + 6, 0, none⟩), .pointer (some ⟨N + 1, 0, none⟩), .pointer (some ⟨N + 9, 0, none⟩), .pointer (some ⟨N + 5, 0, none⟩)]] 122 false 0 []
structure GW (N gr n : Nat) (E : List (Int × Int)) (goal : Nat) (w b : Nat → Int) (h : SHeap) : Prop where
  c0 : h[N]? = some (.cells [.pointer (some ⟨gr, 0, none⟩)] 85 false 0 [])
  c1 : h[N + 1]? = some (.cells [.int .i64 goal] 3 true 0 [])
  sr : h[N + 3]? = some (sB gr goal (N + 4))
  mem : ∃ S, h[N + 4]? = some (mB S) ∧ KnM n E goal S
  fn : h[N + 5]? = some (fB (N + 3))
  bst : h[N + 6]? = some (.cells (iV 6 b) 87 true 0 [])
  now : h[N + 7]? = some (.cells (iV 6 w) 87 true 0 [])
  mn : h[N + 8]? = some (.cells [.func (.func 75) #[] #[]] 92 false 0 [])
  gw : h[N + 9]? = some (wB N)
  ga : GAt h gr n E
section
variable {N gr n : Nat} {E : List (Int × Int)} {goal : Nat} {w w' b b' : Nat → Int} {h h' : SHeap}
theorem GW.chg (J : GW N gr n E goal w b h) (hg : gr < N) (k : ∀ j, j ≠ N + 4 → j ≠ N + 6 → j ≠ N + 7 → h'[j]? = h[j]?) (mem : ∃ S, h'[N + 4]? = some (mB S) ∧ KnM n E goal S) (bst : h'[N + 6]? = some (.cells (iV 6 b') 87 true 0 [])) (now : h'[N + 7]? = some (.cells (iV 6 w') 87 true 0 [])) : GW N gr n E goal w' b' h' :=
  ⟨by rw [k _ (by omega) (by omega) (by omega)]; exact J.c0, by rw [k _ (by omega) (by omega) (by omega)]; exact J.c1, by rw [k _ (by omega) (by omega) (by omega)]; exact J.sr, mem, by rw [k _ (by omega) (by omega) (by omega)]; exact J.fn, bst, now, by rw [k _ (by omega) (by omega) (by omega)]; exact J.mn, by rw [k _ (by omega) (by omega) (by omega)]; exact J.gw, by have := J.ga; unfold GAt at *; rw [k _ (by omega) (by omega) (by omega)]; exact this⟩
theorem GW.len (J : GW N gr n E goal w b h) : N + 9 < h.length := (List.getElem?_eq_some_iff.1 J.gw).1
theorem ld1 {b : Nat} {c : Value} {el : TypeId} {pf : Bool} (k : h[b]? = some (.cells [c] el pf 0 [])) : loadS h none (.pointer (some ⟨b, 0, none⟩)) = some c := by
  have := load_cell (o := 0) k rfl rfl []; rw [List.append_nil] at this; exact this
end
end Go.Proofs.YtpkhkghiidilcaaDoor.Sh

namespace Go.Proofs.YtpkhkghiidilcaaDoor.Sh
open Go
set_option maxRecDepth 100000
set_option maxHeartbeats 4000000
def IsNum (n : Nat) (E : List (Int × Int)) (goal : Nat) (k : Int) : Prop := (∃ p, Un n E goal p ∧ tot p + 1 = k) ∧ ∀ x, Un n E goal x → tot x + 1 ≤ k
section
variable {n : Nat} {E : List (Int × Int)} {goal : Nat} {H : SHeap} {v sv wv : Value} {l : List Int} {w : List (Int × Int)}
theorem IsNum.uniq {k k' : Int} (h : IsNum n E goal k) (h' : IsNum n E goal k') : k = k' := by
  obtain ⟨⟨p, h1, h2⟩, h3⟩ := h
  obtain ⟨⟨q, h4, h5⟩, h6⟩ := h'
  have := h3 q h4
  have := h6 p h1
  omega
end
end Go.Proofs.YtpkhkghiidilcaaDoor.Sh

namespace Go.Proofs.YtpkhkghiidilcaaDoor.Sh
open Go
set_option maxRecDepth 100000
set_option maxHeartbeats 4000000
theorem IS.lst6 {h : SHeap} {b n c : Nat} {s : Nat → Int} {el : TypeId} {pf : Bool} {own : Nat} {old : List Nat} (hn : n ≤ 6) (hb : h[b]? = some (.cells (iV 6 s) el pf own old)) (hr : readable own = true) : IS h (.slice (some ⟨b, 0, none⟩) n c) (lst n s) := by
  have ll := lst_len n s
  refine ⟨some ⟨b, 0, none⟩, c, by rw [ll], fun _ => ⟨b, 0, rfl, (List.getElem?_eq_some_iff.1 hb).1, fun i hi => ?_⟩⟩
  have hi' : i < n := by omega
  have := load_cell (h := h) (b := b) (o := 0 + i) (c := .int .i64 (s i)) hb hr (by rw [Nat.zero_add]; exact iV_get _ (by omega)) []
  rw [List.append_nil] at this
  rw [this]
  congr 2
  rw [← stk_at hi, lst_at _ hi']
theorem index_loop (cx : Cx) {h : SHeap} {v : Value} {x : Int} {l : List Int} (hv : IS h v l) (hlen : l.length ≤ 1000000) :
    ∀ k ρ ms h' d', (∃ i : Nat, i + k = l.length ∧ (∀ j (hj : j < l.length), j < i → l[j] ≠ x) ∧ ρ 0 = v ∧ ρ 1 = .int .i64 x ∧ ρ 7 = .int .i64 l.length ∧ ρ 8 = .int .i64 i ∧ ms = [] ∧ h' = h ∧ d' = []) →
    LoopW M cx 5 sf85L0 ρ ms h' d' (fun ex ρ' ms' h' d' => ms' = [] ∧ h' = h ∧ d' = [] ∧ ((ex = .exit 0 ∧ x ∉ l) ∨ (ex = .ret ∧ x ∈ l ∧ ∃ i : Nat, ρ' 4 = .int .i64 i))) := by
  refine loop_run _ ?_
  rintro k ρ ms h' d' ⟨i, hk, hno, r0, r1, r7, r8, rfl, rfl, rfl⟩
  unfold sf85L0
  by_cases c : k = 0
  · have e1 : ¬ ((i : Int) < l.length) := by omega
    repeat (first | apply Z1 | apply Z2 | apply Z3 | apply Z4 | apply Z5 rfl | apply Z6 | apply Z7 | apply Z8 | apply Z9 | apply ZA | apply ZB | apply ZC | ((first | apply ZD (by decide) | apply ZN (by decide)); (simp (maxSteps := 9999999) only [go_sem, r7, r8, e1]; rfl)) | (refine ZE ?_ ?_; · simp only [go_sem]) | (refine ZF ?_ ?_; · simp only [go_sem]))
    refine end_nil ⟨rfl, rfl, rfl, .inl ⟨rfl, fun hm => ?_⟩⟩
    obtain ⟨j, hj, e⟩ := List.getElem_of_mem hm
    exact hno j hj (by omega) e
  · have e1 : ((i : Int) < l.length) := by omega
    have e2 : (0 : Int) ≤ i := by omega
    have hi : i < l.length := by omega
    have ew : IntKind.i64.wrap ((i : Int) + 1) = ((i + 1 : Nat) : Int) := by rw [wrap64 (by omega) (by omega)]; rfl
    obtain ⟨b1, o1, cp1, rfl, ld1⟩ := hv.ld (by intro e; rw [e] at hi; simp at hi)
    have l1 := ld1 i hi
    by_cases c2 : x = l[i]
    · have c2' : (x = l[i]) = True := eq_true c2
      repeat (first | apply Z1 | apply Z2 | apply Z3 | apply Z4 | apply Z5 rfl | apply Z6 | apply Z7 | apply Z8 | apply Z9 | apply ZA | apply ZB | apply ZC | ((first | apply ZD (by decide) | apply ZN (by decide)); (simp (maxSteps := 9999999) only [go_sem, r0, r1, r7, r8, e1, e2, l1, c2', Int.toNat_natCast]; rfl)) | (refine ZE ?_ ?_; · simp only [go_sem]) | (refine ZF ?_ ?_; · simp only [go_sem]))
      exact end_nil ⟨rfl, rfl, rfl, .inr ⟨rfl, by rw [c2]; exact List.getElem_mem hi, i, by simp only [go_sem]⟩⟩
    · have c2' : (x = l[i]) = False := eq_false c2
      repeat (first | apply Z1 | apply Z2 | apply Z3 | apply Z4 | apply Z5 rfl | apply Z6 | apply Z7 | apply Z8 | apply Z9 | apply ZA | apply ZB | apply ZC | ((first | apply ZD (by decide) | apply ZN (by decide)); (simp (maxSteps := 9999999) only [go_sem, r0, r1, r7, r8, e1, e2, l1, c2', ew, Int.toNat_natCast]; rfl)) | (refine ZE ?_ ?_; · simp only [go_sem]) | (refine ZF ?_ ?_; · simp only [go_sem]))
      refine end_nil ⟨k - 1, by omega, i + 1, by omega, fun j hj hji => ?_, by simp only [go_sem, r0], by simp only [go_sem, r1], by simp only [go_sem, r7], by simp only [go_sem, ew], rfl, rfl, rfl⟩
      by_cases e : j = i
      · subst e; exact fun h => c2 h.symm
      · exact hno j hj (by omega)
theorem contains80 {h : SHeap} {v : Value} {x : Int} {l : List Int} (hv : IS h v l) (hlen : l.length ≤ 1000000) : M.call 80 [v, .int .i64 x] h = some (.bool (decide (x ∈ l)), h, []) := by
  have idx : ∃ r : Int, (0 ≤ r ↔ x ∈ l) ∧ M.call 85 [v, .int .i64 x] h = some (.int .i64 r, h, []) := by
    suffices key : ∃ r, (∃ z : Int, r = (Value.int .i64 z, h, ([] : List Nat)) ∧ (0 ≤ z ↔ x ∈ l)) ∧ M.call 85 [v, .int .i64 x] h = some r by
      obtain ⟨r, ⟨z, rfl, h1⟩, h2⟩ := key
      exact ⟨z, h1, h2⟩
    refine call_ex (f := 85) _ sf85 rfl rfl rfl ?_
    obtain ⟨va, vc, rfl, _⟩ := id hv
    unfold sf85
    repeat (first | apply Z1 | apply Z2 | apply Z3 | apply Z4 | apply Z5 rfl | apply Z6 | apply Z7 | apply Z8 | apply Z9 | apply ZA | apply ZB | apply ZC | ((first | apply ZD (by decide) | apply ZN (by decide)); (simp (maxSteps := 9999999) only [go_sem, argR]; rfl)) | (refine ZE ?_ ?_; · simp only [go_sem]) | (refine ZF ?_ ?_; · simp only [go_sem]))
    refine run_loop (index_loop (x := x) _ hv hlen l.length _ _ _ _ ⟨0, by omega, fun j _ hj => by omega, by simp only [go_sem, argR], by simp only [go_sem, argR], by simp only [go_sem], by simp only [go_sem], rfl, rfl, rfl⟩) ?_
    rintro ex ρ2 ms2 h2 d2 ⟨rfl, rfl, rfl, hx⟩
    rcases hx with ⟨rfl, hx⟩ | ⟨rfl, hx, i, r4⟩
    · repeat (first | apply Z1 | apply Z2 | apply Z3 | apply Z4 | apply Z5 rfl | apply Z6 | apply Z7 | apply Z8 | apply Z9 | apply ZA | apply ZB | apply ZC | ((first | apply ZD (by decide) | apply ZN (by decide)); (simp (maxSteps := 9999999) only [go_sem]; rfl)) | (refine ZE ?_ ?_; · simp only [go_sem]) | (refine ZF ?_ ?_; · simp only [go_sem]))
      exact end_nil ⟨_, ⟨-1, rfl, ⟨fun h => by omega, fun h => (hx h).elim⟩⟩, q_ret1 _ (by simp only [go_sem]) rfl (take_self _)⟩
    · repeat (first | apply Z1 | apply Z2 | apply Z3 | apply Z4 | apply Z5 rfl | apply Z6 | apply Z7 | apply Z8 | apply Z9 | apply ZA | apply ZB | apply ZC | ((first | apply ZD (by decide) | apply ZN (by decide)); (simp (maxSteps := 9999999) only [go_sem]; rfl)) | (refine ZE ?_ ?_; · simp only [go_sem]) | (refine ZF ?_ ?_; · simp only [go_sem]))
      exact end_nil ⟨_, ⟨i, rfl, ⟨fun _ => hx, fun _ => by omega⟩⟩, q_ret1 _ (by simp only [go_sem, r4]) rfl (take_self _)⟩
  obtain ⟨r, h1, h2⟩ := idx
  refine call_run sf80 rfl rfl rfl ?_
  unfold sf80
  by_cases c : 0 ≤ r
  · have c' : r ≥ 0 := c
    repeat (first | apply Z1 | apply Z2 | apply Z3 | apply Z4 | apply Z5 rfl | apply Z6 | apply Z7 | apply Z8 | apply Z9 | apply ZA | apply ZB | apply ZC | ((first | apply ZD (by decide) | apply ZN (by decide)); (simp (maxSteps := 9999999) only [go_sem, argR, h2, c']; rfl)) | (refine ZE ?_ ?_; · simp only [go_sem]) | (refine ZF ?_ ?_; · simp only [go_sem]))
    rw [decide_eq_true (h1.1 c)]
    exact end_nil (q_ret1 _ (by simp only [go_sem]) rfl (take_self _))
  · have c' : ¬ r ≥ 0 := c
    repeat (first | apply Z1 | apply Z2 | apply Z3 | apply Z4 | apply Z5 rfl | apply Z6 | apply Z7 | apply Z8 | apply Z9 | apply ZA | apply ZB | apply ZC | ((first | apply ZD (by decide) | apply ZN (by decide)); (simp (maxSteps := 9999999) only [go_sem, argR, h2, c']; rfl)) | (refine ZE ?_ ?_; · simp only [go_sem]) | (refine ZF ?_ ?_; · simp only [go_sem]))
    rw [decide_eq_false (fun h => c (h1.2 h))]
    exact end_nil (q_ret1 _ (by simp only [go_sem]) rfl (take_self _))
theorem full_iff {n : Nat} {s : Nat → Int} (hs : ∀ v, 0 ≤ s v) : full n s ↔ (0 : Int) ∉ lst n s := by
  unfold lst
  constructor
  · intro h hm
    obtain ⟨v, hv, e⟩ := List.mem_map.1 hm
    have := h v (List.mem_range.1 hv)
    omega
  · intro h v hv
    have := hs v
    have : s v ≠ 0 := fun e => h (List.mem_map.2 ⟨v, List.mem_range.2 hv, e⟩)
    omega
def rfA67_0 : SCode := (.region 0 [ ⟨(some 8), none, .alloc 87 true [(.int .i64 0), (.int .i64 0), (.int .i64 0), (.int .i64 0), (.int .i64 0), (.int .i64 0)], none, 0, false, []⟩, ⟨none, none, .store 6 (.tmp 8) (.tmp 34), none, 1, false, []⟩])
def rfB67_0 : SCode := (.block 1 (.seq (.region 0 [ ⟨(some 35), none, .load none (.tmp 3), none, 0, false, []⟩, ⟨(some 36), none, .load (some 6) (.tmp 8), none, 1, false, []⟩, ⟨(some 37), none, .load none (.tmp 5), none, 2, false, []⟩, ⟨(some 38), none, .call (.func 67) [(.tmp 35), (.tmp 36), (.tmp 37)], none, 3, false, []⟩]) (.cond (.tmp 38) (.seq (.region 0 [ ⟨none, none, .store 1 (.tmp 6) (.const (.bool true)), none, 0, false, []⟩]) (.ret)) (.skip))))
def KC (n : Nat) (E : List (Int × Int)) (A : List (Nat → Int)) (S : List ((Nat → Int) × Value)) : Prop := ∀ e ∈ S, (∃ B, ST n e.1 B) ∧ e.2 = .bool true ∧ (¬ Cov n E e.1 ∨ e.1 ∈ A)
theorem KC.z {n : Nat} {E : List (Int × Int)} {A : List (Nat → Int)} {S : List ((Nat → Int) × Value)} (hn : n ≤ 6) (k : KC n E A S) : ∀ e ∈ S, zout e.1 := fun e he => by
  obtain ⟨⟨B, h⟩, _⟩ := k e he
  exact h.zout hn
structure JV (N mb gr n : Nat) (E : List (Int × Int)) (s : Nat → Int) (H : SHeap) (QS : List ((Nat → Int) × Value) → Prop) (r : Bool) (lo : SO) (h : SHeap) : Prop where
  len : N + 8 ≤ h.length
  low : ∀ j, j < N → j ≠ mb → h[j]? = H[j]?
  mem : ∃ S, h[mb]? = some (.map true (ents S)) ∧ QS S
  bx : h[N]? = some (.cells [.pointer (some ⟨gr, 0, none⟩)] 85 false 0 [])
  bs : h[N + 1]? = some (.cells (iV 6 s) 87 true 0 [])
  bm : h[N + 2]? = some (.cells [.map (some mb)] 113 false 0 [])
  res : h[N + 3]? = some (.cells [.bool r] 4 true 0 [])
  cap : Caps h (N + 4) (N + 5) gr n E s
  df : h[N + 6]? = some .deferred
  lp : h[N + 7]? = some lo
section
variable {N mb gr n : Nat} {E : List (Int × Int)} {s : Nat → Int} {H : SHeap} {QS QS' : List ((Nat → Int) × Value) → Prop} {r r' : Bool} {lo lo' : SO} {h h' : SHeap}
theorem JV.chg (J : JV N mb gr n E s H QS r lo h) (hm : mb < N) (hg : gr < N) (hgm : gr ≠ mb) (hl : N + 8 ≤ h'.length) (k : ∀ j, j < N + 8 → j ≠ mb → j ≠ N + 3 → j ≠ N + 7 → h'[j]? = h[j]?)
    (mem : ∃ S, h'[mb]? = some (.map true (ents S)) ∧ QS' S) (res : h'[N + 3]? = some (.cells [.bool r'] 4 true 0 [])) (lp : h'[N + 7]? = some lo') : JV N mb gr n E s H QS' r' lo' h' :=
  ⟨hl, fun j hj hne => by rw [k j (by omega) hne (by omega) (by omega)]; exact J.low j hj hne, mem, by rw [k _ (by omega) (by omega) (by omega) (by omega)]; exact J.bx, by rw [k _ (by omega) (by omega) (by omega) (by omega)]; exact J.bs, by rw [k _ (by omega) (by omega) (by omega) (by omega)]; exact J.bm, res,
    J.cap.same (fun j hj => k j (by omega) (by omega) (by omega) (by omega)), by rw [k _ (by omega) (by omega) (by omega) (by omega)]; exact J.df, lp⟩
theorem JV.same (J : JV N mb gr n E s H QS r lo h) (hm : mb < N) (hg : gr < N) (hl : N + 8 ≤ h'.length) (k : ∀ j, j < N + 8 → h'[j]? = h[j]?) : JV N mb gr n E s H QS r lo h' := by
  obtain ⟨S, m1, m2⟩ := J.mem
  exact ⟨hl, fun j hj hne => by rw [k j (by omega)]; exact J.low j hj hne, ⟨S, by rw [k _ (by omega)]; exact m1, m2⟩, by rw [k _ (by omega)]; exact J.bx, by rw [k _ (by omega)]; exact J.bs, by rw [k _ (by omega)]; exact J.bm, by rw [k _ (by omega)]; exact J.res, J.cap.same (fun j hj => k j (by omega)), by rw [k _ (by omega)]; exact J.df, by rw [k _ (by omega)]; exact J.lp⟩
theorem JV.app (J : JV N mb gr n E s H QS r lo h) (hm : mb < N) (hg : gr < N) (x : SHeap) : JV N mb gr n E s H QS r lo (h ++ x) :=
  J.same hm hg (by have := J.len; simp; omega) (fun j hj => List.getElem?_append_left (by have := J.len; omega))
theorem JV.setLp (J : JV N mb gr n E s H QS r lo h) (hm : mb < N) (hg : gr < N) (hgm : gr ≠ mb) (lo' : SO) : JV N mb gr n E s H QS r lo' (h.set (N + 7) lo') := by
  obtain ⟨S, m1, m2⟩ := J.mem
  have hl := J.len
  exact J.chg hm hg hgm (by simp; omega) (fun j hj h1 h2 h3 => by rw [List.getElem?_set_ne (by omega)]) ⟨S, by rw [List.getElem?_set_ne (by omega)]; exact m1, m2⟩ (by rw [List.getElem?_set_ne (by omega)]; exact J.res) (by rw [List.getElem?_set_self (by omega)])
def CovR (gr mb n : Nat) (E : List (Int × Int)) (A : List (Nat → Int)) (s : Nat → Int) (H : SHeap) : Prop :=
  ∃ (b : Bool) (H' : SHeap), M.call 67 [.pointer (some ⟨gr, 0, none⟩), stV s, .map (some mb)] H = some (.bool b, H', []) ∧ (b = true ↔ Cov n E s) ∧ But mb H H' ∧ ∃ S, H'[mb]? = some (.map true (ents S)) ∧ (b = false → KC n E A S)
theorem cover_round {t : T} {A : List (Nat → Int)} (hn : n ≤ 6) (hE : EOK n E) (hm : mb < N) (hg : gr < N) (hgm : gr ≠ mb) {B : Int} (S0 : ST n s B) (hf : Full 6 t) (t3 : t.get 3 = .pointer (some ⟨N, 0, none⟩)) (t5 : t.get 5 = .pointer (some ⟨N + 2, 0, none⟩)) (t6 : t.get 6 = .pointer (some ⟨N + 3, 0, none⟩))
    {hh : SHeap} {a b : Nat} (hc : canM n E s a b)
    (ih : ∀ G : SHeap, gr < G.length → mb < G.length → GAt G gr n E → (∃ S, G[mb]? = some (.map true (ents S)) ∧ KC n E A S) → CovR gr mb n E A (aft s a b) G)
    (J : JV N mb gr n E s H (KC n E A) false (.loop 0 67 t [33, 34] rfA67_0 rfB67_0 none (N + 6)) hh) :
    ∃ r h2, M.round (N + 8) (N + 7) [.agg #[.int .i64 a, .int .i64 b], stV (aft s a b)] hh = some (.bool r, h2, []) ∧
      (r = true → ¬ Cov n E (aft s a b) ∧ JV N mb gr n E s H (KC n E A) false (.loop 0 67 t [33, 34] rfA67_0 rfB67_0 none (N + 6)) h2) ∧
      (r = false → Cov n E (aft s a b) ∧ JV N mb gr n E s H (fun _ => True) true (.loop 2 67 t [33, 34] rfA67_0 rfB67_0 (some .ret) (N + 6)) h2) := by
  have jl := J.len
  obtain ⟨r, ⟨r1, h2, rfl, hP⟩, e⟩ := round_rule (FT := FT) (C := flatK CA) (base := N + 8) (args := [.agg #[.int .i64 a, .int .i64 b], stV (aft s a b)]) (fun r => ∃ r1 h2, r = (.bool r1, h2, []) ∧ (r1 = true → ¬ Cov n E (aft s a b) ∧ JV N mb gr n E s H (KC n E A) false (.loop 0 67 t [33, 34] rfA67_0 rfB67_0 none (N + 6)) h2) ∧
      (r1 = false → Cov n E (aft s a b) ∧ JV N mb gr n E s H (fun _ => True) true (.loop 2 67 t [33, 34] rfA67_0 rfB67_0 (some .ret) (N + 6)) h2)) J.lp hf rfl (by decide) rfl (by
    unfold rfA67_0
    generalize hw : aft s a b = w at *
    have ws := wst w
    repeat (first | apply Z1 | apply Z2 | apply Z3 | apply Z4 | apply Z5 rfl | apply Z6 | apply Z7 | apply Z8 | apply Z9 | apply ZA | apply ZB | apply ZC | ((first | apply ZD (by decide) | apply ZN (by decide)); (simp (maxSteps := 9999999) only [go_sem, ws]; rfl)) | (refine ZE ?_ ?_; · simp only [go_sem]) | (refine ZF ?_ ?_; · simp only [go_sem]))
    have J1 := J.app hm hg [.cells (iV 6 w) 87 true 0 []]
    refine end_nil ⟨rfl, ⟨67, t, [33, 34], _, _, N + 6, J1.lp⟩, ?_⟩
    rw [setLoop_eq J1.lp]
    have J2 := J1.setLp hm hg hgm (.loop 1 67 t [33, 34] rfA67_0 rfB67_0 none (N + 6))
    have g9 : ((hh ++ [.cells (iV 6 w) 87 true 0 []] : SHeap).set (N + 7) (.loop 1 67 t [33, 34] rfA67_0 rfB67_0 none (N + 6)))[hh.length]? = some (.cells (iV 6 w) 87 true 0 []) := by
      rw [List.getElem?_set_ne (by omega), app_get0]; rfl
    generalize (hh ++ [.cells (iV 6 w) 87 true 0 []] : SHeap).set (N + 7) (.loop 1 67 t [33, 34] rfA67_0 rfB67_0 none (N + 6)) = G at *
    have jl2 := J2.len
    have lx : loadS G none (.pointer (some ⟨N, 0, none⟩)) = some (.pointer (some ⟨gr, 0, none⟩)) := by
      have := load_cell (o := 0) J2.bx rfl rfl []; rw [List.append_nil] at this; exact this
    have lm : loadS G none (.pointer (some ⟨N + 2, 0, none⟩)) = some (.map (some mb)) := by
      have := load_cell (o := 0) J2.bm rfl rfl []; rw [List.append_nil] at this; exact this
    have lw : loadS G (some 6) (.pointer (some ⟨hh.length, 0, none⟩)) = some (stV w) := by
      have := load_all (n := 6) g9 rfl (iV_len _ _) []; rw [List.append_nil] at this; exact this
    obtain ⟨bb, H', k1, k0, ⟨k2, k3⟩, S, k4, k5⟩ := ih G (by omega) (by omega) J2.cap.gr J2.mem
    have J3 : JV N mb gr n E s H (fun S => bb = false → KC n E A S) false (.loop 1 67 t [33, 34] rfA67_0 rfB67_0 none (N + 6)) H' := J2.chg hm hg hgm (by omega) (fun j hj h1 h2 h3 => k3 j h1) ⟨S, k4, k5⟩ (by rw [k3 _ (by omega)]; exact J2.res) (by rw [k3 _ (by omega)]; exact J2.lp)
    unfold rfB67_0
    cases bb with
    | true =>
      have st : storeS (N + 8) H' [] (N + 3) 0 (cellsL (.bool true)) = some (H'.set (N + 3) (.cells [.bool true] 4 true 0 []), []) := by
        have := store_cell (h := H') (base := N + 8) (b := N + 3) (o := 0) (c := .bool true) J3.res (by simp) rfl (fun _ => rfl) []
        rw [cells_bool, this]; rfl
      repeat (first | apply Z1 | apply Z2 | apply Z3 | apply Z4 | apply Z5 rfl | apply Z6 | apply Z7 | apply Z8 | apply Z9 | apply ZA | apply ZB | apply ZC | ((first | apply ZD (by decide) | apply ZN (by decide)); (simp (maxSteps := 9999999) only [go_sem, t3, t5, t6, lx, lm, lw, k1, ↓st]; rfl)) | (refine ZE ?_ ?_; · simp only [go_sem]) | (refine ZF ?_ ?_; · simp only [go_sem]))
      have J4 : JV N mb gr n E s H (fun _ => True) true (.loop 1 67 t [33, 34] rfA67_0 rfB67_0 none (N + 6)) (H'.set (N + 3) (.cells [.bool true] 4 true 0 [])) := J3.chg hm hg hgm (by simp; omega) (fun j hj h1 h2 h3 => List.getElem?_set_ne (by omega)) ⟨S, by rw [List.getElem?_set_ne (by omega)]; exact k4, trivial⟩ (by rw [List.getElem?_set_self (by omega)]) (by rw [List.getElem?_set_ne (by omega)]; exact J3.lp)
      refine end_nil ⟨⟨_, _, _, _, _, _, _, _, J4.lp⟩, _, _, rfl, fun h => (by cases h), fun _ => ⟨k0.1 rfl, ?_⟩⟩
      show JV _ _ _ _ _ _ _ _ _ _ (setLoop _ (N + 7) 2 (some .ret))
      rw [setLoop_eq J4.lp]
      exact J4.setLp hm hg hgm _
    | false =>
      repeat (first | apply Z1 | apply Z2 | apply Z3 | apply Z4 | apply Z5 rfl | apply Z6 | apply Z7 | apply Z8 | apply Z9 | apply ZA | apply ZB | apply ZC | ((first | apply ZD (by decide) | apply ZN (by decide)); (simp (maxSteps := 9999999) only [go_sem, t3, t5, t6, lx, lm, lw, k1]; rfl)) | (refine ZE ?_ ?_; · simp only [go_sem]) | (refine ZF ?_ ?_; · simp only [go_sem]))
      refine end_nil ⟨⟨_, _, _, _, _, _, _, _, J3.lp⟩, _, _, rfl, fun _ => ⟨(fun h => by have := k0.2 h; cases this), ?_⟩, fun h => (by cases h)⟩
      show JV _ _ _ _ _ _ _ _ _ _ (setLoop _ (N + 7) 0 none)
      rw [setLoop_eq J3.lp]
      have J4 := J3.setLp hm hg hgm (.loop 0 67 t [33, 34] rfA67_0 rfB67_0 none (N + 6))
      exact J4.chg hm hg hgm J4.len (fun _ _ _ _ _ => rfl) (by obtain ⟨S', q1, q2⟩ := J4.mem; exact ⟨S', q1, q2 rfl⟩) J4.res J4.lp)
  exact ⟨r1, h2, e, hP⟩
end
end Go.Proofs.YtpkhkghiidilcaaDoor.Sh

namespace Go.Proofs.YtpkhkghiidilcaaDoor.Sh
open Go
set_option maxRecDepth 100000
set_option maxHeartbeats 4000000
section
variable {gr mb n : Nat} {E : List (Int × Int)}
theorem JV.take {N : Nat} {s : Nat → Int} {H : SHeap} {QS : List ((Nat → Int) × Value) → Prop} {r : Bool} {lo : SO} {h : SHeap} (J : JV N mb gr n E s H QS r lo h) (hm : mb < N) (hg : gr < N) : JV N mb gr n E s H QS r lo (h.take (N + 8)) :=
  J.same hm hg (by have := J.len; rw [List.length_take]; omega) (fun j hj => by rw [List.getElem?_take, if_pos hj])
theorem cover67 (hn1 : 1 ≤ n) (hn : n ≤ 6) (hE : EOK n E) (hgm : gr ≠ mb) :
    ∀ (k : Nat) (A : List (Nat → Int)) (s : Nat → Int) (H : SHeap), tot s < k → ST n s 1000 → (∀ a ∈ A, tot s < tot a) → gr < H.length → mb < H.length → GAt H gr n E → (∃ S, H[mb]? = some (.map true (ents S)) ∧ KC n E A S) → CovR gr mb n E A s H := by
  intro k
  induction k with
  | zero =>
    intro A s H hk S0
    have := tot_lin hn S0
    have := lin_nn (c := fun _ => 1) (fun _ => by decide) S0.nn n
    omega
  | succ k ih =>
    intro A s H hk S0 hA hg hm X hmem
    obtain ⟨S, m1, m2⟩ := hmem
    have hz := S0.zout hn
    have hs := fun v => S0.bnd hn v
    suffices key : ∃ r, (∃ (b : Bool) (H' : SHeap), r = (Value.bool b, H', ([] : List Nat)) ∧ (b = true ↔ Cov n E s) ∧ But mb H H' ∧ ∃ S, H'[mb]? = some (.map true (ents S)) ∧ (b = false → KC n E A S)) ∧ M.call 67 [.pointer (some ⟨gr, 0, none⟩), stV s, .map (some mb)] H = some r by
      obtain ⟨r, ⟨b, H', rfl, k2⟩, k1⟩ := key
      exact ⟨b, H', k1, k2⟩
    refine call_ex (f := 67) _ sf67 rfl rfl rfl ?_
    have cs := cells_st s
    have isc := iV_sc 6 s
    have vs := vsame_st s
    have ln := fun x => (X.app x).n
    have l6 : ∀ x y, loadS (H ++ (x :: .cells (iV 6 s) 87 true 0 [] :: y)) (some 6) (.pointer (some ⟨H.length + 1, 0, none⟩)) = some (stV s) := fun x y => by
      have := load_all (h := H ++ (x :: .cells (iV 6 s) 87 true 0 [] :: y)) (b := H.length + 1) (n := 6) (cs := iV 6 s) (el := 87) (pf := true) (own := 0) (old := []) (by rw [app_get]; rfl) rfl (iV_len _ _) []
      rw [List.append_nil] at this; exact this
    have sl := sliceArr_hi (b := H.length + 1) (o := 0) (n := n) (m := 6) (size := 1) hn (by decide) (by decide)
    have ct := fun y => contains80 (x := 0) (IS.lst6 (h := H ++ (.cells [.pointer (some ⟨gr, 0, none⟩)] 85 false 0 [] :: .cells (iV 6 s) 87 true 0 [] :: y)) (b := H.length + 1) (c := 6) (s := s) (el := 87) (pf := true) (own := 0) (old := []) hn (by rw [app_get]; rfl) rfl) (by rw [lst_len]; omega)
    have sm := fun y => sum60 (IS.lst6 (h := H ++ (.cells [.pointer (some ⟨gr, 0, none⟩)] 85 false 0 [] :: .cells (iV 6 s) 87 true 0 [] :: y)) (b := H.length + 1) (n := 6) (c := 6) (s := s) (el := 87) (pf := true) (own := 0) (old := []) (Nat.le_refl 6) (by rw [app_get]; rfl) rfl) (mem6 hn S0 (by decide)) (by rw [lst_len]; decide)
    rw [lst6_sum] at sm
    unfold sf67
    by_cases c1 : full n s
    · rw [decide_eq_false ((full_iff S0.nn).1 c1)] at ct
      repeat (first | apply Z1 | apply Z2 | apply Z3 | apply Z4 | apply Z5 rfl | apply Z6 | apply Z7 | apply Z8 | apply Z9 | apply ZA | apply ZB | apply ZC | ((first | apply ZD (by decide) | apply ZN (by decide)); (simp (maxSteps := 9999999) only [go_sem, argR, cells_map, one_map, ↓cs, isc, ln, ↓sl, ct]; rfl)) | (refine ZE ?_ ?_; · simp only [go_sem]) | (refine ZF ?_ ?_; · simp only [go_sem]))
      refine end_nil ⟨_, ⟨true, H, rfl, ⟨fun _ => Cov.iff.2 (.inl c1), fun _ => rfl⟩, ⟨rfl, fun j _ => rfl⟩, S, m1, (fun h => by cases h)⟩, q_free [.bool true] (by simp only [go_sem]) rfl rfl rfl (fun _ => rfl) (by simp) rfl⟩
    · have c1' : (0 : Int) ∈ lst n s := Decidable.byContradiction fun h => c1 ((full_iff S0.nn).2 h)
      rw [decide_eq_true c1'] at ct
      rcases find6 hz S (m2.z hn) with ⟨f1, f2⟩ | ⟨v, f1, f2⟩
      · have lk : ∀ x d, lookV (.agg [.int, .int, .int, .int, .int, .int]) (.bool false) false (some (.map (some mb))) (some (stV s)) (H ++ x) d = some (.bool false, H ++ x, d) := fun x d => lookV_ok (q := q6) d (key6 s) (by rw [List.getElem?_append_left (by omega)]; exact m1) f1
        by_cases c2 : tot s < n
        · repeat (first | apply Z1 | apply Z2 | apply Z3 | apply Z4 | apply Z5 rfl | apply Z6 | apply Z7 | apply Z8 | apply Z9 | apply ZA | apply ZB | apply ZC | ((first | apply ZD (by decide) | apply ZN (by decide)); (simp (maxSteps := 9999999) only [go_sem, argR, cells_map, one_map, ↓cs, isc, ln, ↓sl, ct, ↓l6, lk, ↓sliceArr_6, sm, c2, vs]; rfl)) | (refine ZE ?_ ?_; · simp only [go_sem]) | (refine ZF ?_ ?_; · simp only [go_sem]))
          refine end_nil ⟨_, ⟨false, H, rfl, ⟨(fun h => by cases h), fun h => by have := h.tot hE hn S0; omega⟩, ⟨rfl, fun j _ => rfl⟩, S, m1, fun _ => m2⟩, q_free [.bool false] (by simp only [go_sem]) rfl rfl rfl (fun _ => rfl) (by simp) rfl⟩
        · obtain ⟨S3, u1, u2⟩ := upd6 hz (.bool true) S (m2.z hn)
          have up : ∀ cx x d, updV cx (.agg [.int, .int, .int, .int, .int, .int]) (some (.map (some mb))) (some (stV s)) (some (.bool true)) (H ++ x) d = some (udf, H.set mb (.map true (ents S3)) ++ x, d) := fun cx x d => by
            have := updV_ok cx (q := q6) (r := mb) (k := stV s) (v := .bool true) (es := ents S) (es' := ents S3) (h := H ++ x) d (key6 s) (by rw [List.getElem?_append_left hm]; exact m1) (sc6 s _ rfl) u1
            rw [List.set_append_left _ _ hm] at this
            exact this
          repeat (first | apply Z1 | apply Z2 | apply Z3 | apply Z4 | apply Z5 rfl | apply Z6 | apply Z7 | apply Z8 | apply Z9 | apply ZA | apply ZB | apply ZC | ((first | apply ZD (by decide) | apply ZN (by decide)); (simp (maxSteps := 9999999) only [go_sem, argR, cells_map, one_map, ↓cs, isc, ln, ↓sl, ct, ↓l6, lk, ↓sliceArr_6, sm, c2, vs, up]; rfl)) | (refine ZE ?_ ?_; · simp only [go_sem]) | (refine ZF ?_ ?_; · simp only [go_sem]))
          have hl : H.length = (H.set mb (.map true (ents S3))).length := by simp
          have hsame : ∀ j, j ≠ mb → (H.set mb (.map true (ents S3)))[j]? = H[j]? := fun j hj => List.getElem?_set_ne (by omega)
          have hat : (H.set mb (.map true (ents S3)))[mb]? = some (.map true (ents S3)) := by rw [List.getElem?_set_self hm]
          have X2 : GAt (H.set mb (.map true (ents S3))) gr n E := by unfold GAt at *; rw [hsame _ hgm]; exact X
          have hK : KC n E (s :: A) S3 := fun e he => by
            rcases u2 e he with h | rfl
            · obtain ⟨h1, h2, h3⟩ := m2 e h
              exact ⟨h1, h2, h3.imp id (fun h => by simp [h])⟩
            · exact ⟨⟨_, S0⟩, rfl, .inr (by simp)⟩
          have bk : ∀ G : SHeap, But mb (H.set mb (.map true (ents S3))) G → But mb H G := fun G h => ⟨by rw [h.1, ← hl], fun j hj => by rw [h.2 j hj, hsame j hj]⟩
          rw [hl] at hg hm
          rw [hl]
          clear ln l6 sl ct sm lk up
          generalize H.set mb (.map true (ents S3)) = K at *
          have mk := mk62 (h := K ++ [.cells [.pointer (some ⟨gr, 0, none⟩)] 85 false 0 [], .cells (iV 6 s) 87 true 0 [], .cells [.map (some mb)] 113 false 0 [], .cells [.bool false] 4 true 0 []]) (g := gr) (by simp; omega) s
          rw [List.append_assoc, List.length_append] at mk
          have mk' : M.call 62 [.pointer (some ⟨gr, 0, none⟩), stV s] (K ++ [.cells [.pointer (some ⟨gr, 0, none⟩)] 85 false 0 [], .cells (iV 6 s) 87 true 0 [], .cells [.map (some mb)] 113 false 0 [], .cells [.bool false] 4 true 0 []]) = some (.func (.func 77) #[] #[.pointer (some ⟨K.length + 4, 0, none⟩), .pointer (some ⟨K.length + 5, 0, none⟩)], K ++ [.cells [.pointer (some ⟨gr, 0, none⟩)] 85 false 0 [], .cells (iV 6 s) 87 true 0 [], .cells [.map (some mb)] 113 false 0 [], .cells [.bool false] 4 true 0 [], .cells [.pointer (some ⟨gr, 0, none⟩)] 85 false 0 [], .cells (iV 6 s) 87 true 0 []], []) := mk
          have l6 : ∀ x y, loadS (K ++ (x :: .cells (iV 6 s) 87 true 0 [] :: y)) (some 6) (.pointer (some ⟨K.length + 1, 0, none⟩)) = some (stV s) := fun x y => by
            have := load_all (h := K ++ (x :: .cells (iV 6 s) 87 true 0 [] :: y)) (b := K.length + 1) (n := 6) (cs := iV 6 s) (el := 87) (pf := true) (own := 0) (old := []) (by rw [app_get]; rfl) rfl (iV_len _ _) []
            rw [List.append_nil] at this; exact this
          repeat (first | apply Z1 | apply Z2 | apply Z3 | apply Z4 | apply Z5 rfl | apply Z6 | apply Z7 | apply Z8 | apply Z9 | apply ZA | apply ZB | apply ZC | ((first | apply ZD (by decide) | apply ZN (by decide)); (simp (maxSteps := 9999999) only [go_sem, ↓l6, mk']; rfl)) | (refine ZE ?_ ?_; · simp only [go_sem]) | (refine ZF ?_ ?_; · simp only [go_sem]))
          show Run M _ 6 (.rangeFunc (.tmp 32) [33, 34] rfA67_0 rfB67_0) _ _ _ _ _ _
          refine run_rangeX (g := 77) (caps := #[.pointer (some ⟨K.length + 4, 0, none⟩), .pointer (some ⟨K.length + 5, 0, none⟩)]) rfl (by simp only [go_sem]) ?_
          intro t hf ht
          have t3 : t.get 3 = .pointer (some ⟨K.length, 0, none⟩) := by rw [ht]; simp only [go_sem]
          have t5 : t.get 5 = .pointer (some ⟨K.length + 2, 0, none⟩) := by rw [ht]; simp only [go_sem]
          have t6 : t.get 6 = .pointer (some ⟨K.length + 3, 0, none⟩) := by rw [ht]; simp only [go_sem]
          rw [← ht]
          have hlen5 : (K ++ [.cells [.pointer (some ⟨gr, 0, none⟩)] 85 false 0 [], .cells (iV 6 s) 87 true 0 [], .cells [.map (some mb)] 113 false 0 [], .cells [.bool false] 4 true 0 [], .cells [.pointer (some ⟨gr, 0, none⟩)] 85 false 0 [], .cells (iV 6 s) 87 true 0 []] : SHeap).length = K.length + 6 := by simp
          have J0 : JV K.length mb gr n E s K (KC n E (s :: A)) false (.loop 0 67 t [33, 34] rfA67_0 rfB67_0 none (K.length + 6)) (K ++ [.cells [.pointer (some ⟨gr, 0, none⟩)] 85 false 0 [], .cells (iV 6 s) 87 true 0 [], .cells [.map (some mb)] 113 false 0 [], .cells [.bool false] 4 true 0 [], .cells [.pointer (some ⟨gr, 0, none⟩)] 85 false 0 [], .cells (iV 6 s) 87 true 0 []] ++ [.deferred, .loop 0 67 t [33, 34] rfA67_0 rfB67_0 none (K.length + 6)]) := by
            rw [List.append_assoc]
            exact ⟨by simp, fun j hj _ => List.getElem?_append_left hj, ⟨S3, by rw [List.getElem?_append_left (by omega)]; exact hat, hK⟩, by rw [app_get0]; rfl, by rw [app_get]; rfl, by rw [app_get]; rfl, by rw [app_get]; rfl, ⟨by rw [app_get]; rfl, by rw [app_get]; rfl, X2.app _⟩, by rw [app_get]; rfl, by rw [app_get]; rfl⟩
          obtain ⟨hF, dF, eF, q⟩ := iter77 (J := fun l h d => d = [] ∧ JV K.length mb gr n E s K (KC n E (s :: A)) false (.loop 0 67 t [33, 34] rfA67_0 rfB67_0 none (K.length + 6)) h ∧ ∀ p ∈ l, ¬ Cov n E (aft s p.1 p.2))
            (X := fun _ h d => d = [] ∧ Cov n E s ∧ JV K.length mb gr n E s K (fun _ => True) true (.loop 2 67 t [33, 34] rfA67_0 rfB67_0 (some .ret) (K.length + 6)) h) (B := K.length + 8) (L := K.length + 7) (c1 := K.length + 4) (c2 := K.length + 5) (g := gr) (H := K ++ [.cells [.pointer (some ⟨gr, 0, none⟩)] 85 false 0 [], .cells (iV 6 s) 87 true 0 [], .cells [.map (some mb)] 113 false 0 [], .cells [.bool false] 4 true 0 [], .cells [.pointer (some ⟨gr, 0, none⟩)] 85 false 0 [], .cells (iV 6 s) 87 true 0 []] ++ [.deferred, .loop 0 67 t [33, 34] rfA67_0 rfB67_0 none (K.length + 6)]) (by simp) hE hn (fun v _ => by have := hs v; omega) (fun l h d J => J.2.1.cap) (fun l h d x J => ⟨J.1, J.2.1.app hm hg x, J.2.2⟩)
            (fun a b h d ha hb hcm J => by
              obtain ⟨v1, v2, v3, v4⟩ := canM_iff.1 hcm
              have at1 := aft_tot (s := s) (a := a) (b := b) (by omega) (by omega)
              obtain ⟨r, h2, e, q1, q2⟩ := cover_round hn hE hm hg hgm S0 hf t3 t5 t6 hcm (fun G g1 g2 g3 g4 => ih (s :: A) (aft s a b) G (by omega) ((S0.aft hE hn v1 v2 v3 v4).mono (by omega)) (fun x hx => by
                rcases List.mem_cons.1 hx with rfl | hx
                · omega
                · have := hA x hx; omega) g1 g2 g3 g4) J.2.1
              refine ⟨r, h2, [], e, fun hr => ?_, fun hr => ?_⟩
              · obtain ⟨w1, w2⟩ := q1 hr
                refine ⟨J.1, w2, fun p hp => ?_⟩
                rw [MVrow_if, if_pos hcm] at hp
                rcases List.mem_append.1 hp with hp | hp
                · exact J.2.2 p hp
                · rw [List.mem_singleton] at hp; subst hp; exact w1
              · obtain ⟨w1, w2⟩ := q2 hr
                exact ⟨J.1, Cov.iff.2 (.inr ⟨a, b, hcm, w1⟩), w2⟩) ⟨rfl, J0, fun p hp => by cases hp⟩
          rw [hlen5]
          rcases q with ⟨rfl, q, qall⟩ | ⟨_, _, _, _, rfl, hcov, q⟩
          · have JF : JV K.length mb gr n E s K (KC n E (s :: A)) false (.loop 0 67 t [33, 34] rfA67_0 rfB67_0 none (K.length + 6)) (finD (K.length + 8) hF []) := q.take hm hg
            refine ⟨_, _, _, eF, _, _, _, _, _, _, _, _, JF.lp, rfl, .inl ⟨rfl, ?_⟩⟩
            rw [setLoop_eq JF.lp, dirts_own (fun x hx => by cases hx)]
            have JG := JF.setLp hm hg hgm (.loop 3 67 t [33, 34] rfA67_0 rfB67_0 none (K.length + 6))
            generalize (finD (K.length + 8) hF []).set (K.length + 7) (.loop 3 67 t [33, 34] rfA67_0 rfB67_0 none (K.length + 6)) = G at *
            have jl := JG.len
            have hncov : ¬ Cov n E s := fun h => by
              rcases Cov.iff.1 h with h | ⟨a, b, hcm, h⟩
              · exact c1 h
              · obtain ⟨v1, v2, _⟩ := canM_iff.1 hcm
                exact qall (a, b) (MVb_all v1 v2 hcm) h
            obtain ⟨S4, k4, k5⟩ := JG.mem
            have st : storeS K.length G [] (K.length + 3) 0 (cellsL (.bool false)) = some (G.set (K.length + 3) (.cells [.bool false] 4 true 0 []), []) := by
              have := store_cell (h := G) (base := K.length) (b := K.length + 3) (o := 0) (c := .bool false) JG.res (by simp) rfl (fun _ => rfl) []
              rw [cells_bool, this]; rfl
            have lr : loadS ((G.set (K.length + 3) (.cells [.bool false] 4 true 0 [])).set (K.length + 6) .gone) none (.pointer (some ⟨K.length + 3, 0, none⟩)) = some (.bool false) := by
              have := load_cell (h := (G.set (K.length + 3) (.cells [.bool false] 4 true 0 [])).set (K.length + 6) .gone) (b := K.length + 3) (o := 0) (c := .bool false) (cs := [.bool false]) (el := 4) (pf := true) (own := 0) (old := []) (by rw [List.getElem?_set_ne (by omega), List.getElem?_set_self (by omega)]) rfl rfl []
              rw [List.append_nil] at this; exact this
            have sh : shut (G.set (K.length + 3) (.cells [.bool false] 4 true 0 [])) [K.length + 6] = some ((G.set (K.length + 3) (.cells [.bool false] 4 true 0 [])).set (K.length + 6) .gone) := by
              simp only [shut]
              rw [List.getElem?_set_ne (by omega), JG.df]
            repeat (first | apply Z1 | apply Z2 | apply Z3 | apply Z4 | apply Z5 rfl | apply Z6 | apply Z7 | apply Z8 | apply Z9 | apply ZA | apply ZB | apply ZC | ((first | apply ZD (by decide) | apply ZN (by decide)); (simp (maxSteps := 9999999) only [go_sem, t6, ↓st]; rfl)) | (refine ZE ?_ ?_; · simp only [go_sem]) | (refine ZF ?_ ?_; · simp only [go_sem]))
            refine end_nil ⟨_, ⟨false, _, rfl, ⟨(fun h => by cases h), fun h => (hncov h).elim⟩, bk _ (take_but (G := (G.set (K.length + 3) (.cells [.bool false] 4 true 0 [])).set (K.length + 6) .gone) rfl (by simp; omega) (fun j hj hne => ?_)), S4, ?_, fun _ e he => ?_⟩, q_any [.bool false] sh (by simp only [go_sem, t6, lr]) rfl rfl rfl (fun _ => rfl) rfl rfl⟩
            · rw [List.getElem?_set_ne (by omega), List.getElem?_set_ne (by omega)]; exact JG.low j hj hne
            · rw [List.getElem?_take, if_pos hm, List.getElem?_set_ne (by omega), List.getElem?_set_ne (by omega)]; exact k4
            · obtain ⟨h1, h2, h3⟩ := k5 e he
              refine ⟨h1, h2, ?_⟩
              rcases h3 with h3 | h3
              · exact .inl h3
              · rcases List.mem_cons.1 h3 with h3 | h3
                · exact .inl (by rw [h3]; exact hncov)
                · exact .inr h3
          · have JF : JV K.length mb gr n E s K (fun _ => True) true (.loop 2 67 t [33, 34] rfA67_0 rfB67_0 (some .ret) (K.length + 6)) (finD (K.length + 8) hF []) := q.take hm hg
            refine ⟨_, _, _, eF, _, _, _, _, _, _, _, _, JF.lp, rfl, .inr (.inl ⟨rfl, ?_⟩)⟩
            rw [setLoop_eq JF.lp, dirts_own (fun x hx => by cases hx)]
            have JG := JF.setLp hm hg hgm (.loop 3 67 t [33, 34] rfA67_0 rfB67_0 (some .ret) (K.length + 6))
            generalize (finD (K.length + 8) hF []).set (K.length + 7) (.loop 3 67 t [33, 34] rfA67_0 rfB67_0 (some .ret) (K.length + 6)) = G at *
            have jl := JG.len
            obtain ⟨S4, k4, _⟩ := JG.mem
            have lr : loadS (G.set (K.length + 6) .gone) none (.pointer (some ⟨K.length + 3, 0, none⟩)) = some (.bool true) := by
              have := load_cell (h := G.set (K.length + 6) .gone) (b := K.length + 3) (o := 0) (c := .bool true) (cs := [.bool true]) (el := 4) (pf := true) (own := 0) (old := []) (by rw [List.getElem?_set_ne (by omega)]; exact JG.res) rfl rfl []
              rw [List.append_nil] at this; exact this
            have sh : shut G [K.length + 6] = some (G.set (K.length + 6) .gone) := by
              simp only [shut]
              rw [JG.df]
            repeat (first | apply Z1 | apply Z2 | apply Z3 | apply Z4 | apply Z5 rfl | apply Z6 | apply Z7 | apply Z8 | apply Z9 | apply ZA | apply ZB | apply ZC | ((first | apply ZD (by decide) | apply ZN (by decide)); (simp (maxSteps := 9999999) only [go_sem, t6]; rfl)) | (refine ZE ?_ ?_; · simp only [go_sem]) | (refine ZF ?_ ?_; · simp only [go_sem]))
            refine end_nil ⟨_, ⟨true, _, rfl, ⟨fun _ => hcov, fun _ => rfl⟩, bk _ (take_but (G := G.set (K.length + 6) .gone) rfl (by simp; omega) (fun j hj hne => ?_)), S4, ?_, (fun h => by cases h)⟩, q_any [.bool true] sh (by simp only [go_sem, t6, lr]) rfl rfl rfl (fun _ => rfl) rfl rfl⟩
            · rw [List.getElem?_set_ne (by omega)]; exact JG.low j hj hne
            · rw [List.getElem?_take, if_pos hm, List.getElem?_set_ne (by omega)]; exact k4
      · have hv := (m2 _ f2).2
        dsimp only at hv
        obtain ⟨hv1, hv2⟩ := hv
        subst hv1
        have hncov : ¬ Cov n E s := by
          rcases hv2 with h | h
          · exact h
          · have := hA s h; omega
        have lk : ∀ x d, lookV (.agg [.int, .int, .int, .int, .int, .int]) (.bool false) false (some (.map (some mb))) (some (stV s)) (H ++ x) d = some (.bool true, H ++ x, d) := fun x d => lookV_ok (q := q6) d (key6 s) (by rw [List.getElem?_append_left (by omega)]; exact m1) f1
        repeat (first | apply Z1 | apply Z2 | apply Z3 | apply Z4 | apply Z5 rfl | apply Z6 | apply Z7 | apply Z8 | apply Z9 | apply ZA | apply ZB | apply ZC | ((first | apply ZD (by decide) | apply ZN (by decide)); (simp (maxSteps := 9999999) only [go_sem, argR, cells_map, one_map, ↓cs, isc, ln, ↓sl, ct, ↓l6, lk, vs]; rfl)) | (refine ZE ?_ ?_; · simp only [go_sem]) | (refine ZF ?_ ?_; · simp only [go_sem]))
        refine end_nil ⟨_, ⟨false, H, rfl, ⟨(fun h => by cases h), fun h => (hncov h).elim⟩, ⟨rfl, fun j _ => rfl⟩, S, m1, fun _ => m2⟩, q_free [.bool false] (by simp only [go_sem]) rfl rfl rfl (fun _ => rfl) (by simp) rfl⟩
theorem covers42 {H : SHeap} {v sv : Value} {l : List Int} (hv : PS H v E) (hlen : E.length ≤ 1000000) (he : errG n E = 0) (hs : IS H sv l) (hsl : l.length ≤ 1000000) (hl : SupOK n l) :
    ∃ b : Bool, (b = true ↔ Cov n E (stk l)) ∧ M.call 42 [.int .i64 n, v, sv] H = some (.tuple #[.bool b, .int .i64 0], H, []) := by
  obtain ⟨m, e, h1, h2, h3, h4⟩ := errG_ok he
  obtain rfl : n = m := by omega
  have S0 := (hl.st h2).mono (B' := 1000) (by omega)
  have o := openAt_ok hv hlen he hs hsl hl (place := 0) (by omega)
  have o' : M.call 53 [.int .i64 n, v, sv, .int .i64 0] H = some (.tuple #[.pointer (some ⟨H.length, 0, none⟩), stV (stk l), .int .i64 0], H ++ [gE n E], []) := o
  generalize stk l = s at *
  have l6 : ∀ y, loadS (H ++ (gE n E :: .cells (iV 6 s) 87 true 0 [] :: y)) (some 6) (.pointer (some ⟨H.length + 1, 0, none⟩)) = some (stV s) := fun y => by
    have := load_all (h := H ++ (gE n E :: .cells (iV 6 s) 87 true 0 [] :: y)) (b := H.length + 1) (n := 6) (cs := iV 6 s) (el := 87) (pf := true) (own := 0) (old := []) (by rw [app_get]; rfl) rfl (iV_len _ _) []
    rw [List.append_nil] at this; exact this
  obtain ⟨b, H', k1, k2, k3, _⟩ := cover67 (gr := H.length) (mb := H.length + 2) h1 h2 h3 (by omega) (tot s + 1).toNat [] s (H ++ [gE n E, .cells (iV 6 s) 87 true 0 [], .map true []]) (by have := S0.le; omega) S0 (fun a ha => by cases ha) (by simp) (by simp) (by unfold GAt; rw [app_get0]; rfl) ⟨[], by rw [app_get]; rfl, fun e he => by cases he⟩
  have ht := k3.app (by omega)
  refine ⟨b, k2, ?_⟩
  refine call_run sf42 rfl rfl rfl ?_
  obtain ⟨va, vc, rfl, _⟩ := id hv
  obtain ⟨sa, sc, rfl, _⟩ := id hs
  unfold sf42
  repeat (first | apply Z1 | apply Z2 | apply Z3 | apply Z4 | apply Z5 rfl | apply Z6 | apply Z7 | apply Z8 | apply Z9 | apply ZA | apply ZB | apply ZC | ((first | apply ZD (by decide) | apply ZN (by decide)); (simp (maxSteps := 9999999) only [go_sem, argR, o', wst, ↓l6, k1]; rfl)) | (refine ZE ?_ ?_; · simp only [go_sem]) | (refine ZF ?_ ?_; · simp only [go_sem]))
  exact end_nil (q_free [.bool b, .int .i64 0] (by simp only [go_sem]) rfl rfl rfl (fun _ => rfl) ht rfl)
end
end Go.Proofs.YtpkhkghiidilcaaDoor.Sh

namespace Go.Proofs.YtpkhkghiidilcaaDoor.Sh
open Go
set_option maxRecDepth 100000
set_option maxHeartbeats 1000000
structure AccF (lo : Nat) (h : SHeap) (v : Value) (cs : List Value) (el : TypeId) (b : Nat) : Prop where
  ne : cs ≠ []
  one : cs.all oneC = true
  low : lo ≤ b
  shp : ∃ c old, v = .slice (some ⟨b, 0, none⟩) cs.length c ∧ h[b]? = some (.cells cs el false 0 old) ∧ ((c = UNK + 1 ∧ ∀ x ∈ old, lo ≤ x) ∨ (c = cs.length ∧ c < UNK ∧ old = []))
theorem AccF.lt {lo : Nat} {h : SHeap} {v : Value} {cs : List Value} {el : TypeId} {b : Nat} (A : AccF lo h v cs el b) : b < h.length := by
  obtain ⟨c, old, _, h1, _⟩ := A.shp
  exact (List.getElem?_eq_some_iff.1 h1).1
theorem AccF.keep {lo : Nat} {h h' : SHeap} {v : Value} {cs : List Value} {el : TypeId} {b : Nat} (A : AccF lo h v cs el b) (k : h'[b]? = h[b]?) : AccF lo h' v cs el b := by
  obtain ⟨c, old, e, h1, h2⟩ := A.shp
  exact ⟨A.ne, A.one, A.low, c, old, e, by rw [k]; exact h1, h2⟩
theorem AccF.push {lo : Nat} {h : SHeap} {v x : Value} {cs : List Value} {el : TypeId} {b bs bytes : Nat} (A : AccF lo h v cs el b) {el2 : TypeId} {pf2 : Bool} {own2 : Nat} {old2 : List Nat}
    (hs : h[bs]? = some (.cells [x] el2 pf2 own2 old2)) (hr : readable own2 = true) (hx : oneC x = true) (hb0 : 0 < bytes) (hb : (cs.length + 1) * bytes ≤ 140737488355328) :
    ∃ H2, (∀ (base : Nat) (d : List Nat), appendS base h d el false 1 bytes v (.slice (some ⟨bs, 0, none⟩) 1 1) = some (.slice (some ⟨h.length, 0, none⟩) (cs.length + 1) (UNK + 1), H2, d)) ∧
      AccF lo H2 (.slice (some ⟨h.length, 0, none⟩) (cs.length + 1) (UNK + 1)) (cs ++ [x]) el h.length ∧ H2.length = h.length + 1 ∧ ∀ j, j < h.length → j ≠ b → H2[j]? = h[j]? := by
  have hlt := A.lt
  obtain ⟨c, old, rfl, h1, h2⟩ := A.shp
  have hn0 : cs.length ≠ 0 := fun e => A.ne (List.length_eq_zero_iff.1 e)
  have hseen : rdN h bs 0 (1 * 1) = some [x] := by
    rw [rdN_def, hs]
    dsimp only
    rw [hr]; rfl
  have hsx : rdN h b 0 (cs.length * 1) = some cs := by
    rw [rdN_def, h1]
    dsimp only
    rw [readable_0, ble_dec, decide_eq_true (by omega), if_pos (by rfl), List.drop_zero, Nat.mul_one, List.take_length]
  have hn : (cs.length == 0) = false := beq_eq_false_iff_ne.2 hn0
  have e4 : Nat.ble ((cs.length + 1) * bytes) 140737488355328 = true := by rw [ble_dec]; simpa using hb
  have e5 : Nat.blt 0 bytes = true := by rw [blt_dec]; simpa using hb0
  have hone : [x].all oneC = true := by simp [hx]
  have hall : (cs ++ [x]).all oneC = true := by rw [List.all_append, A.one, hone]; rfl
  rcases h2 with ⟨rfl, hold⟩ | ⟨rfl, hu, rfl⟩
  · refine ⟨share h b ++ [.cells (cs ++ [x]) el false 0 (b :: old)], fun base d => ?_, ⟨by simp, hall, by have := A.low; omega, UNK + 1, b :: old, by rw [List.length_append, List.length_singleton], by rw [List.getElem?_append_right (by rw [share_ln]; omega), share_ln, Nat.sub_self]; rfl, .inl ⟨rfl, fun y hy => ?_⟩⟩, by simp [share_ln], fun j hj hne => by rw [List.getElem?_append_left (by rw [share_ln]; exact hj)]; exact share_gt h b j hne⟩
    · have e1 : Nat.ble UNK (UNK + 1) = true := by rw [ble_dec]; simp
      have e2 : Nat.beq (UNK + 1) (UNK + 1) = true := Nat.beq_refl _
      have e3 : Nat.beq (0 + cs.length * 1) cs.length = true := by rw [Nat.zero_add, Nat.mul_one]; exact Nat.beq_refl _
      unfold appendS
      simp only [lenS, seenS, hseen, hsx, hn, h1, e1, e2, e3, e4, e5, hone]
      simp [-List.all_eq_true, hone]
    · rcases List.mem_cons.1 hy with rfl | hy
      · exact A.low
      · exact hold y hy
  · refine ⟨h ++ [.cells (cs ++ [x]) el false 0 []], fun base d => ?_, ⟨by simp, hall, by have := A.low; omega, UNK + 1, [], by rw [List.length_append, List.length_singleton], by simp, .inl ⟨rfl, fun y hy => by cases hy⟩⟩, by simp, fun j hj _ => List.getElem?_append_left hj⟩
    have e1 : Nat.ble UNK cs.length = false := by rw [ble_dec]; exact decide_eq_false (by omega)
    have e2 : Nat.ble (cs.length + 1) cs.length = false := by rw [ble_dec]; exact decide_eq_false (by omega)
    unfold appendS
    simp only [lenS, seenS, hseen, hsx, hn, e1, e2, e4, e5, hone]
    simp [-List.all_eq_true, hone]
theorem reach_leaf {base : Nat} {h : SHeap} : ∀ (todo : List Nat) (n : Nat) (seen : List Nat), todo.length < n → (∀ x ∈ todo, base ≤ x → ptrsO h[x]? = []) →
    ∃ K, reach base h n todo seen = seen ++ K ∧ (∀ x ∈ todo, base ≤ x → x ∈ seen ++ K) ∧ ∀ x ∈ K, x ∈ todo ∧ base ≤ x
  | [], n, seen, hn, _ => ⟨[], by cases n with | zero => omega | succ n => simp [reach], (fun x hx => by cases hx), (fun x hx => by cases hx)⟩
  | b :: todo, 0, seen, hn, _ => by omega
  | b :: todo, n + 1, seen, hn, hl => by
    have hl' : ∀ x ∈ todo, base ≤ x → ptrsO h[x]? = [] := fun x hx => hl x (by simp [hx])
    have hn' : todo.length < n := by simp at hn; omega
    by_cases c : base ≤ b
    · by_cases c2 : b ∈ seen
      · obtain ⟨K, h1, h2, h3⟩ := reach_leaf todo n seen hn' hl'
        refine ⟨K, ?_, fun x hx hb => ?_, fun x hx => ⟨by simp [(h3 x hx).1], (h3 x hx).2⟩⟩
        · have e2 : seen.contains b = true := List.contains_iff_mem.2 c2
          rw [reach, e2, Bool.or_true, if_pos rfl]; exact h1
        · rcases List.mem_cons.1 hx with rfl | hx
          · simp [c2]
          · exact h2 x hx hb
      · obtain ⟨K, h1, h2, h3⟩ := reach_leaf todo n (seen ++ [b]) hn' hl'
        refine ⟨b :: K, ?_, fun x hx hb => ?_, fun x hx => ?_⟩
        · rw [reach_new c c2, hl b (by simp) c, List.nil_append, h1]; simp
        · rcases List.mem_cons.1 hx with rfl | hx
          · simp
          · have := h2 x hx hb
            simpa using this
        · rcases List.mem_cons.1 hx with rfl | hx
          · exact ⟨by simp, c⟩
          · exact ⟨by simp [(h3 x hx).1], (h3 x hx).2⟩
    · obtain ⟨K, h1, h2, h3⟩ := reach_leaf todo n seen hn' hl'
      refine ⟨K, by rw [reach_old (by omega)]; exact h1, fun x hx hb => ?_, fun x hx => ⟨by simp [(h3 x hx).1], (h3 x hx).2⟩⟩
      rcases List.mem_cons.1 hx with rfl | hx
      · omega
      · exact h2 x hx hb
theorem pos_mem : ∀ (K : List Nat) (x : Nat), x ∈ K → ∃ i, posOf x K = some i ∧ K[i]? = some x
  | a :: r, x, h => by
    by_cases c : x = a
    · subst c; exact ⟨0, by simp [posOf], rfl⟩
    · have hx : x ∈ r := by rcases List.mem_cons.1 h with e | e; exact (c e).elim; exact e
      obtain ⟨i, h1, h2⟩ := pos_mem r x hx
      have e : Nat.beq a x = false := by rw [nbeq_dec]; exact decide_eq_false (fun e => c e.symm)
      exact ⟨i + 1, by simp [posOf, e, h1], by simpa using h2⟩
theorem mapO_all {α β : Type} {f : α → Option β} : ∀ (l : List α), (∀ a ∈ l, ∃ b, f a = some b) → ∃ bs, mapO f l = some bs ∧ bs.length = l.length ∧ ∀ (i : Nat) (a : α), l[i]? = some a → ∃ b, f a = some b ∧ bs[i]? = some b
  | [], _ => ⟨[], rfl, rfl, fun i a h => by simp at h⟩
  | a :: l, h => by
    obtain ⟨b, hb⟩ := h a (by simp)
    obtain ⟨bs, h1, h2, h3⟩ := mapO_all l (fun x hx => h x (by simp [hx]))
    refine ⟨b :: bs, by simp [mapO, hb, h1], by simp [h2], fun i x hx => ?_⟩
    cases i with
    | zero => simp at hx; subst hx; exact ⟨b, hb, rfl⟩
    | succ i => simpa using h3 i x (by simpa using hx)
def LeafC (base : Nat) (h : SHeap) (x : Value) : Prop := ∃ b o n c, x = .slice (some ⟨b, o, none⟩) n c ∧ (b < base ∨ base ≤ b ∧ ∃ ds el own old, h[b]? = some (.cells ds el true own old) ∧ (own == 2) = false)
def SameC (h h' : SHeap) (x x' : Value) : Prop := ∃ b b' o n c, x = .slice (some ⟨b, o, none⟩) n c ∧ x' = .slice (some ⟨b', o, none⟩) n c ∧ ((b = b' ∧ h'[b']? = h[b]?) ∨ ∃ ds el own old old', h[b]? = some (.cells ds el true own old) ∧ h'[b']? = some (.cells ds el true own old'))
theorem ptrs_leaf {base : Nat} {h : SHeap} : ∀ (cs : List Value), (∀ x ∈ cs, LeafC base h x) → (cs.flatMap (ptrs 3)).length = cs.length ∧ (∀ y ∈ cs.flatMap (ptrs 3), base ≤ y → ptrsO h[y]? = []) ∧ ∀ b o n c, Value.slice (some ⟨b, o, none⟩) n c ∈ cs → b ∈ cs.flatMap (ptrs 3)
  | [], _ => ⟨rfl, (fun y hy => by cases hy), (fun b o n c h => by cases h)⟩
  | x :: cs, hx => by
    obtain ⟨h1, h2, h3⟩ := ptrs_leaf cs (fun y hy => hx y (by simp [hy]))
    obtain ⟨b, o, n, c, rfl, hb⟩ := hx x (by simp)
    have e : ptrs 3 (.slice (some ⟨b, o, none⟩) n c) = [b] := rfl
    rw [List.flatMap_cons, e]
    refine ⟨by simp [h1], fun y hy hy2 => ?_, fun b' o' n' c' hm => ?_⟩
    · rcases List.mem_cons.1 hy with rfl | hy
      · rcases hb with hb | ⟨_, ds, el, own, old, hb, _⟩
        · omega
        · rw [hb]; simp [ptrsO]
      · exact h2 y hy hy2
    · rcases List.mem_cons.1 hm with hm | hm
      · simp at hm
        simp [hm.1.1]
      · have := h3 b' o' n' c' hm
        simp [this]
theorem gc_LL {H h : SHeap} {b n c : Nat} {cs : List Value} {el : TypeId} {old : List Nat} (hb : h[b]? = some (.cells cs el false 0 old)) (hle : H.length ≤ b) (hlen : cs.length < 900000) (hleaf : ∀ x ∈ cs, LeafC H.length h x)
    (hHl : H.length ≤ h.length) (fr : ∀ j, j < H.length → h[j]? = H[j]?) :
    ∃ h' cs' old', gcS H.length (.slice (some ⟨b, 0, none⟩) n c) h = some (.slice (some ⟨H.length, 0, none⟩) n c, h') ∧ H.length < h'.length ∧ (∀ j, j < H.length → h'[j]? = H[j]?) ∧ h'[H.length]? = some (.cells cs' el false 0 old') ∧ cs'.length = cs.length ∧
      ∀ (i : Nat) (x : Value), cs[i]? = some x → ∃ x', cs'[i]? = some x' ∧ SameC h h' x x' := by
  have hbl := (List.getElem?_eq_some_iff.1 hb).1
  obtain ⟨p1, p2, p3⟩ := ptrs_leaf cs hleaf
  obtain ⟨K, k1, k2, k3⟩ := reach_leaf (base := H.length) (h := h) (cs.flatMap (ptrs 3)) 999999 [b] (by omega) p2
  have hreach : reach H.length h 1000000 [b] [] = b :: K := by
    rw [show (1000000 : Nat) = 999999 + 1 from rfl, reach_new hle (by simp), hb]
    show reach H.length h 999999 (cs.flatMap (ptrs 3) ++ []) [b] = _
    rw [List.append_nil, k1]; rfl
  have ht : h.take H.length = H := take_of_same hHl fr
  have hren : ∀ x : Nat, x ∈ b :: K → ∃ i, ren H.length (b :: K) x = some (H.length + i) ∧ (b :: K)[i]? = some x := fun x hx => by
    have hx2 : H.length ≤ x := by
      rcases List.mem_cons.1 hx with rfl | hx
      · exact hle
      · exact (k3 x hx).2
    obtain ⟨i, q1, q2⟩ := pos_mem _ _ hx
    exact ⟨i, ren_at hx2 q1, q2⟩
  have hcell : ∀ x ∈ cs, ∃ x', renV H.length (b :: K) 3 x = some x' := fun x hx => by
    obtain ⟨b1, o, m, c1, rfl, h1⟩ := hleaf x hx
    rcases h1 with h1 | ⟨h1, _⟩
    · exact ⟨.slice (some ⟨b1, o, none⟩) m c1, by simp [renV, ren_old h1]⟩
    · have : b1 ∈ b :: K := by
        have := k2 b1 (p3 b1 o m c1 hx) h1
        simpa using this
      obtain ⟨i, q1, _⟩ := hren b1 this
      exact ⟨.slice (some ⟨H.length + i, o, none⟩) m c1, by simp [renV, q1]⟩
  obtain ⟨cs', c1, c2, c3⟩ := mapO_all cs hcell
  have hkeep : ∀ x ∈ b :: K, ∃ o, renO H.length (b :: K) h[x]? = some o := fun x hx => by
    by_cases e : x = b
    · subst e
      exact ⟨_, by rw [hb]; simp [renO, c1]; rfl⟩
    · have hxK : x ∈ K := by rcases List.mem_cons.1 hx with q | q; exact (e q).elim; exact q
      obtain ⟨q1, q2⟩ := k3 x hxK
      obtain ⟨y, hy, hxy⟩ := List.mem_flatMap.1 q1
      obtain ⟨b1, o, m, cc, rfl, h1⟩ := hleaf y hy
      have : x = b1 := by simpa [ptrs, ptr1] using hxy
      subst this
      rcases h1 with h1 | ⟨_, ds, el2, own, old2, h1, h3⟩
      · omega
      · exact ⟨_, by rw [h1]; simp [renO, h3]; rfl⟩
  obtain ⟨kept, m1, m2, m3⟩ := mapO_all (f := fun k => renO H.length (b :: K) h[k]?) (b :: K) hkeep
  have hr0 : ren H.length (b :: K) b = some H.length := by
    have := ren_at (base := H.length) (b := b) (k := 0) (K := b :: K) hle (by simp [posOf])
    simpa using this
  refine ⟨H ++ kept, cs', old.filterMap (ren H.length (b :: K)), ?_, by rw [List.length_append, m2]; simp, fun j hj => List.getElem?_append_left hj, ?_, c2, fun i x hx => ?_⟩
  · have e1 : ptrs 3 (.slice (some ⟨b, 0, none⟩) n c) = [b] := rfl
    unfold gcS
    simp only [e1, hreach, renV, hr0, m1, ht]
  · obtain ⟨o, q1, q2⟩ := m3 0 b rfl
    rw [List.getElem?_append_right (Nat.le_refl _), Nat.sub_self, q2, ← q1, hb]
    simp [renO, c1]
  · obtain ⟨x', q1, q2⟩ := c3 i x hx
    refine ⟨x', q2, ?_⟩
    have hxm : x ∈ cs := List.mem_of_getElem? hx
    obtain ⟨b1, o, m, cc, rfl, h1⟩ := hleaf x hxm
    rcases h1 with h1 | ⟨h1, ds, el2, own, old2, h2, h3⟩
    · have : renV H.length (b :: K) 3 (.slice (some ⟨b1, o, none⟩) m cc) = some (.slice (some ⟨b1, o, none⟩) m cc) := by simp [renV, ren_old h1]
      rw [this] at q1
      injection q1 with q1
      exact ⟨b1, b1, o, m, cc, rfl, q1.symm, .inl ⟨rfl, by rw [List.getElem?_append_left h1]; exact (fr b1 h1).symm⟩⟩
    · have hm : b1 ∈ b :: K := by
        have := k2 b1 (p3 b1 o m cc hxm) h1
        simpa using this
      obtain ⟨k, r1, r2⟩ := hren b1 hm
      have : renV H.length (b :: K) 3 (.slice (some ⟨b1, o, none⟩) m cc) = some (.slice (some ⟨H.length + k, o, none⟩) m cc) := by simp [renV, r1]
      rw [this] at q1
      injection q1 with q1
      obtain ⟨so, s1, s2⟩ := m3 k b1 r2
      refine ⟨b1, H.length + k, o, m, cc, rfl, q1.symm, .inr ⟨ds, el2, own, old2, old2.filterMap (ren H.length (b :: K)), h2, ?_⟩⟩
      rw [List.getElem?_append_right (by omega), Nat.add_sub_cancel_left, s2, ← s1, h2]
      simp [renO, h3]
theorem SameC.is {h h' : SHeap} {x x' : Value} {l : List Int} (k : SameC h h' x x') (i : IS h x l) : IS h' x' l := by
  obtain ⟨b, b', o, n, c, rfl, rfl, hk⟩ := k
  obtain ⟨a, c', e, hi⟩ := i
  simp at e
  obtain ⟨e1, e2, e3⟩ := e
  subst e1 e2 e3
  refine ⟨some ⟨b', o, none⟩, c, rfl, fun hne => ?_⟩
  obtain ⟨b0, o0, e, h1, h2⟩ := hi hne
  simp at e
  obtain ⟨e1, e2⟩ := e
  subst e1 e2
  rcases hk with ⟨rfl, hk⟩ | ⟨ds, el, own, old, old', k1, k2⟩
  · refine ⟨b, o, rfl, ?_, h2.fr hk⟩
    rw [List.getElem?_eq_getElem h1] at hk
    exact (List.getElem?_eq_some_iff.1 hk).1
  · refine ⟨b', o, rfl, (List.getElem?_eq_some_iff.1 k2).1, fun j hj => ?_⟩
    have := h2 j hj
    rw [load_rdO, k1, rdO_cells] at this
    rw [load_rdO, k2, rdO_cells]; exact this
end Go.Proofs.YtpkhkghiidilcaaDoor.Sh

namespace Go.Proofs.YtpkhkghiidilcaaDoor.Sh
open Go
set_option maxRecDepth 100000
set_option maxHeartbeats 1000000
def kyN : Nat → (Nat → Int) → Int
  | 0, _ => 0
  | n + 1, s => kyN n s * 41 + s n
theorem kyN_inj : ∀ (n : Nat) (s t : Nat → Int), (∀ v, v < n → 0 ≤ s v ∧ s v ≤ 40) → (∀ v, v < n → 0 ≤ t v ∧ t v ≤ 40) → kyN n s = kyN n t → ∀ v, v < n → s v = t v
  | 0, _, _, _, _, _, v, hv => by omega
  | n + 1, s, t, hs, ht, h, v, hv => by
    have h' : kyN n s * 41 + s n = kyN n t * 41 + t n := h
    have h1 := hs n (by omega)
    have h2 := ht n (by omega)
    by_cases e : v = n
    · subst e; omega
    · exact kyN_inj n s t (fun v hv => hs v (by omega)) (fun v hv => ht v (by omega)) (by omega) v (by omega)
theorem kyN_bnd : ∀ (n : Nat) (s : Nat → Int), (∀ v, v < n → 0 ≤ s v ∧ s v ≤ 40) → 0 ≤ kyN n s ∧ kyN n s < ((41 ^ n : Nat) : Int)
  | 0, _, _ => ⟨Int.le_refl 0, by show (0 : Int) < 1; decide⟩
  | n + 1, s, hs => by
    have h1 := hs n (by omega)
    have h2 := kyN_bnd n s (fun v hv => hs v (by omega))
    have h3 : 41 ^ (n + 1) = 41 ^ n * 41 := Nat.pow_succ ..
    show 0 ≤ kyN n s * 41 + s n ∧ kyN n s * 41 + s n < _
    omega
theorem nodup_lt : ∀ (M : Nat) (l : List Nat), l.Nodup → (∀ x ∈ l, x < M) → l.length ≤ M
  | 0, l, _, h => by
    cases l with
    | nil => exact Nat.le_refl _
    | cons a l => have := h a (by simp); omega
  | M + 1, l, hn, h => by
    by_cases c : M ∈ l
    · have h1 := nodup_lt M (l.erase M) (hn.erase M) (fun x hx => by
        have := (hn.mem_erase_iff).1 hx
        have := h x this.2
        omega)
      have := List.length_erase_of_mem c
      omega
    · have := nodup_lt M l hn (fun x hx => by
        have := h x hx
        have : x ≠ M := fun e => c (by rw [← e]; exact hx)
        omega)
      omega
def tri (a b : Nat) : Nat := (a + b) * (a + b + 1) / 2 + a
theorem tri_ok : ∀ a, a < 13 → ∀ b, b < 13 → a + b ≤ 12 → tri a b < 91 := by decide +kernel
def trL : List (Nat × Nat) := (List.range 13).flatMap fun u => (List.range (u + 1)).map fun a => (a, u - a)
theorem tri_un : ∀ a, a < 13 → ∀ b, b < 13 → a + b ≤ 12 → trL.getD (tri a b) (0, 0) = (a, b) := by decide +kernel
theorem tri_inj (a : Nat) (ha : a < 13) (b : Nat) (hb : b < 13) (h : a + b ≤ 12) (c : Nat) (hc : c < 13) (d : Nat) (hd : d < 13) (h2 : c + d ≤ 12) (e : tri a b = tri c d) : a = c ∧ b = d := by
  have h3 := tri_un a ha b hb h
  rw [e, tri_un c hc d hd h2] at h3
  injection h3 with h4 h5
  exact ⟨h4.symm, h5.symm⟩
def cdS (s : Nat → Int) : Nat := (tri (s 0).toNat (s 1).toNat * 91 + tri (s 2).toNat (s 3).toNat) * 91 + tri (s 4).toNat (s 5).toNat
theorem toN_inj (x y : Int) (h1 : 0 ≤ x) (h2 : 0 ≤ y) (h3 : x.toNat = y.toNat) : x = y := by omega
theorem cd_bnd {p1 p2 p3 : Nat} (h1 : p1 < 91) (h2 : p2 < 91) (h3 : p3 < 91) : (p1 * 91 + p2) * 91 + p3 < 753571 := by omega
theorem cd_inj {p1 p2 p3 q1 q2 q3 : Nat} (h1 : p1 < 91) (h2 : p2 < 91) (h3 : p3 < 91) (k1 : q1 < 91) (k2 : q2 < 91) (k3 : q3 < 91) (h : (p1 * 91 + p2) * 91 + p3 = (q1 * 91 + q2) * 91 + q3) : p1 = q1 ∧ p2 = q2 ∧ p3 = q3 := by omega
theorem three12 {n : Nat} {s : Nat → Int} (S : ST n s 12) : (s 0).toNat + (s 1).toNat ≤ 12 ∧ (s 2).toNat + (s 3).toNat ≤ 12 ∧ (s 4).toNat + (s 5).toNat ≤ 12 := by
  have h := S.le
  have n0 := S.nn 0
  have n1 := S.nn 1
  have n2 := S.nn 2
  have n3 := S.nn 3
  have n4 := S.nn 4
  have n5 := S.nn 5
  unfold tot at h
  omega
theorem l13 {a b : Nat} (h : a + b ≤ 12) : a < 13 ∧ b < 13 := by omega
theorem cdS_ok {n : Nat} (hn : n ≤ 6) {s t : Nat → Int} (S : ST n s 12) (T : ST n t 12) : cdS s < 753571 ∧ (cdS s = cdS t → s = t) := by
  obtain ⟨b1, b2, b3⟩ := three12 S
  obtain ⟨c1, c2, c3⟩ := three12 T
  have a1 := tri_ok _ (l13 b1).1 _ (l13 b1).2 b1
  have a2 := tri_ok _ (l13 b2).1 _ (l13 b2).2 b2
  have a3 := tri_ok _ (l13 b3).1 _ (l13 b3).2 b3
  have d1 := tri_ok _ (l13 c1).1 _ (l13 c1).2 c1
  have d2 := tri_ok _ (l13 c2).1 _ (l13 c2).2 c2
  have d3 := tri_ok _ (l13 c3).1 _ (l13 c3).2 c3
  have i1 := tri_inj _ (l13 b1).1 _ (l13 b1).2 b1 _ (l13 c1).1 _ (l13 c1).2 c1
  have i2 := tri_inj _ (l13 b2).1 _ (l13 b2).2 b2 _ (l13 c2).1 _ (l13 c2).2 c2
  have i3 := tri_inj _ (l13 b3).1 _ (l13 b3).2 b3 _ (l13 c3).1 _ (l13 c3).2 c3
  unfold cdS
  generalize tri (s 0).toNat (s 1).toNat = p1 at *
  generalize tri (s 2).toNat (s 3).toNat = p2 at *
  generalize tri (s 4).toNat (s 5).toNat = p3 at *
  generalize tri (t 0).toNat (t 1).toNat = q1 at *
  generalize tri (t 2).toNat (t 3).toNat = q2 at *
  generalize tri (t 4).toNat (t 5).toNat = q3 at *
  refine ⟨cd_bnd a1 a2 a3, fun h => funext fun v => ?_⟩
  obtain ⟨e1, e2, e3⟩ := cd_inj a1 a2 a3 d1 d2 d3 h
  obtain ⟨j1, j2⟩ := i1 e1
  obtain ⟨j3, j4⟩ := i2 e2
  obtain ⟨j5, j6⟩ := i3 e3
  have s0 := S.nn 0
  have s1 := S.nn 1
  have s2 := S.nn 2
  have s3 := S.nn 3
  have s4 := S.nn 4
  have s5 := S.nn 5
  have t0 := T.nn 0
  have t1 := T.nn 1
  have t2 := T.nn 2
  have t3 := T.nn 3
  have t4 := T.nn 4
  have t5 := T.nn 5
  by_cases c : v < 6
  · have : v = 0 ∨ v = 1 ∨ v = 2 ∨ v = 3 ∨ v = 4 ∨ v = 5 := by omega
    have q := toN_inj
    rcases this with rfl | rfl | rfl | rfl | rfl | rfl
    · exact q _ _ s0 t0 j1
    · exact q _ _ s1 t1 j2
    · exact q _ _ s2 t2 j3
    · exact q _ _ s3 t3 j4
    · exact q _ _ s4 t4 j5
    · exact q _ _ s5 t5 j6
  · rw [S.out v (by omega), T.out v (by omega)]
theorem few_stocks {n : Nat} (hn : n ≤ 6) (L : List (Nat → Int)) (hL : L.Nodup) (h : ∀ t ∈ L, ST n t 12) : L.length ≤ 753571 := by
  have h1 : (L.map cdS).Nodup := by
    show List.Pairwise _ _
    rw [List.pairwise_map]
    refine List.Pairwise.imp_of_mem ?_ hL
    intro a b ha hb hne e
    exact hne ((cdS_ok hn (h a ha) (h b hb)).2 e)
  have := nodup_lt 753571 (L.map cdS) h1 (fun x hx => by
    obtain ⟨t, ht, rfl⟩ := List.mem_map.1 hx
    exact (cdS_ok hn (h t ht) (h t ht)).1)
  rwa [List.length_map] at this
theorem ky_inj {n : Nat} (hn : n ≤ 6) {s t : Nat → Int} (S : ST n s 12) (T : ST n t 12) (h : kyN n s = kyN n t) : s = t := by
  funext v
  by_cases c : v < n
  · exact kyN_inj n s t (fun v _ => by have := S.bnd hn v; omega) (fun v _ => by have := T.bnd hn v; omega) h v c
  · rw [S.out v (by omega), T.out v (by omega)]
def entK (n : Nat) (L : List (Nat → Int)) : List (Value × Value) := L.map fun t => (.int .i64 (kyN n t), .bool true)
theorem findK {n : Nat} {t : Nat → Int} : ∀ L : List (Nat → Int), findS .int (.int .i64 (kyN n t)) (entK n L) = some (if ∃ u ∈ L, kyN n u = kyN n t then some (.bool true) else none)
  | [] => by
    rw [if_neg (by rintro ⟨u, hu, _⟩; cases hu)]; rfl
  | u :: L => by
    have un : findS .int (.int .i64 (kyN n t)) (entK n (u :: L)) = (match eqS .int (.int .i64 (kyN n t)) (.int .i64 (kyN n u)) with | some true => some (some (.bool true)) | some false => findS .int (.int .i64 (kyN n t)) (entK n L) | none => none) := rfl
    have e : eqS .int (.int .i64 (kyN n t)) (.int .i64 (kyN n u)) = some (kyN n t == kyN n u) := by simp [eqS]
    rw [un, e]
    by_cases c : kyN n t = kyN n u
    · have : (kyN n t == kyN n u) = true := by simp [c]
      rw [this, if_pos ⟨u, by simp, c.symm⟩]
    · have : (kyN n t == kyN n u) = false := by simp [c]
      rw [this]
      dsimp only
      rw [findK L]
      congr 1
      by_cases c2 : ∃ w ∈ L, kyN n w = kyN n t
      · obtain ⟨w, h1, h2⟩ := c2
        rw [if_pos ⟨w, h1, h2⟩, if_pos ⟨w, by simp [h1], h2⟩]
      · rw [if_neg c2, if_neg]
        rintro ⟨w, h1, h2⟩
        rcases List.mem_cons.1 h1 with rfl | h1
        · exact c h2.symm
        · exact c2 ⟨w, h1, h2⟩
theorem updK {n : Nat} {t : Nat → Int} : ∀ L : List (Nat → Int), (¬ ∃ u ∈ L, kyN n u = kyN n t) → updS .int (.int .i64 (kyN n t)) (.bool true) (entK n L) = some (entK n (L ++ [t]))
  | [], _ => rfl
  | u :: L, h => by
    have un : updS .int (.int .i64 (kyN n t)) (.bool true) (entK n (u :: L)) = (match eqS .int (.int .i64 (kyN n t)) (.int .i64 (kyN n u)) with | some true => some ((.int .i64 (kyN n t), .bool true) :: entK n L) | some false => (match updS .int (.int .i64 (kyN n t)) (.bool true) (entK n L) with | some r => some ((.int .i64 (kyN n u), .bool true) :: r) | none => none) | none => none) := rfl
    have e : eqS .int (.int .i64 (kyN n t)) (.int .i64 (kyN n u)) = some (kyN n t == kyN n u) := by simp [eqS]
    have c : ¬ kyN n t = kyN n u := fun e => h ⟨u, by simp, e.symm⟩
    have : (kyN n t == kyN n u) = false := by simp [c]
    rw [un, e, this]
    dsimp only
    rw [updK L (fun ⟨w, h1, h2⟩ => h ⟨w, by simp [h1], h2⟩)]
    rfl
structure RQ (n : Nat) (E : List (Int × Int)) (s : Nat → Int) (L : List (Nat → Int)) (i k : Nat) : Prop where
  rg : ∀ t ∈ L, Rg n E n s t
  me : s ∈ L
  nd : L.Nodup
  st : ∀ t ∈ L, ST n t 12
  cl : ∀ (j : Nat) (hj : j < L.length), j < i → ∀ p ∈ MVL n E L[j], aft L[j] p.1 p.2 ∈ L
  cl2 : ∀ (hi : i < L.length) (j : Nat) (hj : j < (MVL n E L[i]).length), j < k → aft L[i] (MVL n E L[i])[j].1 (MVL n E L[i])[j].2 ∈ L
section
variable {n : Nat} {E : List (Int × Int)} {s : Nat → Int} {L : List (Nat → Int)} {i k : Nat}
theorem RQ.start (S : ST n s 12) : RQ n E s [s] 0 0 :=
  ⟨fun t ht => by rw [List.mem_singleton] at ht; subst ht; exact .refl _, by simp, by simp, fun t ht => by rw [List.mem_singleton] at ht; subst ht; exact S, fun j hj h => by omega, fun hi j hj h => by omega⟩
theorem RQ.next (Q : RQ n E s L i k) (hi : i < L.length) (hk : k = (MVL n E L[i]).length) : RQ n E s L (i + 1) 0 :=
  ⟨Q.rg, Q.me, Q.nd, Q.st, fun j hj h p hp => by
    by_cases e : j = i
    · subst e
      obtain ⟨q, hq, rfl⟩ := List.getElem_of_mem hp
      exact Q.cl2 hj q hq (by omega)
    · exact Q.cl j hj (by omega) p hp, fun hi j hj h => by omega⟩
theorem RQ.skip (Q : RQ n E s L i k) (hi : i < L.length) (hk : k < (MVL n E L[i]).length) (hm : aft L[i] (MVL n E L[i])[k].1 (MVL n E L[i])[k].2 ∈ L) : RQ n E s L i (k + 1) :=
  ⟨Q.rg, Q.me, Q.nd, Q.st, Q.cl, fun hi' j hj h => by
    by_cases e : j = k
    · subst e; exact hm
    · exact Q.cl2 hi' j hj (by omega)⟩
theorem RQ.push (hE : EOK n E) (hn : n ≤ 6) (Q : RQ n E s L i k) (hi : i < L.length) (hk : k < (MVL n E L[i]).length) (hm : aft L[i] (MVL n E L[i])[k].1 (MVL n E L[i])[k].2 ∉ L) : RQ n E s (L ++ [aft L[i] (MVL n E L[i])[k].1 (MVL n E L[i])[k].2]) i (k + 1) := by
  have hc : canM n E L[i] ((MVL n E L[i])[k].1 : Int) ((MVL n E L[i])[k].2 : Int) := MVb_mem (List.getElem_mem hk)
  obtain ⟨u1, u2, u3, u4⟩ := canM_iff.1 hc
  have hiL : (L ++ [aft L[i] (MVL n E L[i])[k].1 (MVL n E L[i])[k].2])[i]'(by simp; omega) = L[i] := by rw [List.getElem_append_left hi]
  refine ⟨fun t ht => ?_, by simp [Q.me], ?_, fun t ht => ?_, fun j hj h p hp => ?_, fun hi' j hj h => ?_⟩
  · rcases List.mem_append.1 ht with ht | ht
    · exact Q.rg t ht
    · rw [List.mem_singleton] at ht; subst ht
      exact (Q.rg L[i] (List.getElem_mem hi)).trans (.step _ _ u1 u2 u3 u4 (by omega) (.refl _))
  · rw [List.nodup_append]
    refine ⟨Q.nd, by simp, fun a ha b hb e => ?_⟩
    rw [List.mem_singleton] at hb
    subst hb e
    exact hm ha
  · rcases List.mem_append.1 ht with ht | ht
    · exact Q.st t ht
    · rw [List.mem_singleton] at ht; subst ht
      exact ((Q.st L[i] (List.getElem_mem hi)).aft hE hn u1 u2 u3 u4).mono (by omega)
  · have hjL : j < L.length := by omega
    rw [List.getElem_append_left hjL] at hp ⊢
    exact List.mem_append.2 (.inl (Q.cl j hjL h p hp))
  · rw [List.mem_append]
    simp only [hiL] at hj ⊢
    by_cases e : j = k
    · subst e; exact .inr (by simp)
    · exact .inl (Q.cl2 hi j hj (by omega))
theorem RQ.fin (hE : EOK n E) (Q : RQ n E s L i 0) (hi : i = L.length) (t : Nat → Int) : t ∈ L ↔ Rg n E n s t := by
  refine ⟨Q.rg t, fun h => ?_⟩
  have key : ∀ u w, Rg n E n u w → u ∈ L → w ∈ L := by
    intro u w h
    induction h with
    | refl u => exact id
    | step a b ha hb hadj h2 hg _ ih =>
      intro hu
      obtain ⟨j, hj, rfl⟩ := List.getElem_of_mem hu
      exact ih (Q.cl j hj (by omega) (a, b) (MVb_all ha hb (canM_iff.2 ⟨ha, hb, hadj, h2⟩)))
  exact key s t h Q.me
end
end Go.Proofs.YtpkhkghiidilcaaDoor.Sh

namespace Go.Proofs.YtpkhkghiidilcaaDoor.Sh
open Go
set_option maxRecDepth 100000
set_option maxHeartbeats 4000000
theorem key_loop (cx : Cx) {h : SHeap} {v : Value} {n : Nat} {s : Nat → Int} (hn : n ≤ 6) (hv : IS h v (lst n s)) (hb : ∀ v, v < n → 0 ≤ s v ∧ s v ≤ 40) :
    ∀ k ρ ms h' d', (∃ i : Nat, i + k = n ∧ ρ 0 = v ∧ ρ 3 = .int .i64 (kyN i s) ∧ ρ 4 = .int .i64 i ∧ ms = [] ∧ h' = h ∧ d' = []) →
    LoopW M cx 5 sf52L0 ρ ms h' d' (fun ex ρ' ms' h' d' => ms' = [] ∧ h' = h ∧ d' = [] ∧ ex = .exit 0 ∧ ρ' 3 = .int .i64 (kyN n s)) := by
  refine loop_run _ ?_
  rintro k ρ ms h' d' ⟨i, hk, r0, r3, r4, rfl, rfl, rfl⟩
  have ll := lst_len n s
  unfold sf52L0
  by_cases c : k = 0
  · have e1 : ¬ ((i : Int) < n) := by omega
    obtain rfl : i = n := by omega
    obtain ⟨va, vc, rfl, _⟩ := id hv
    rw [ll] at r0
    repeat (first | apply Z1 | apply Z2 | apply Z3 | apply Z4 | apply Z5 rfl | apply Z6 | apply Z7 | apply Z8 | apply Z9 | apply ZA | apply ZB | apply ZC | ((first | apply ZD (by decide) | apply ZN (by decide)); (simp (maxSteps := 9999999) only [go_sem, r0, r4, e1]; rfl)) | (refine ZE ?_ ?_; · simp only [go_sem]) | (refine ZF ?_ ?_; · simp only [go_sem]))
    exact end_nil ⟨rfl, rfl, rfl, rfl, by simp only [go_sem, r3]⟩
  · have e1 : ((i : Int) < n) := by omega
    have hi : i < n := by omega
    have e2 : (0 : Int) ≤ i := by omega
    have ew : IntKind.i64.wrap ((i : Int) + 1) = ((i + 1 : Nat) : Int) := by rw [wrap64 (by omega) (by omega)]; rfl
    obtain ⟨b1, o1, cp1, rfl, ld1⟩ := hv.ld (by intro e; rw [e] at ll; simp at ll; omega)
    have l1 := ld1 i (by omega)
    rw [← stk_at (by omega), lst_at _ hi] at l1
    rw [ll] at r0
    have p1 : 41 ^ i ≤ 41 ^ 6 := Nat.pow_le_pow_right (by decide) (by omega)
    have p2 : (41 ^ 6 : Nat) = 4750104241 := by decide
    have b1 := kyN_bnd i s (fun v hv => hb v (by omega))
    have b2 := hb i hi
    have w1 : IntKind.i64.wrap (kyN i s * 41) = kyN i s * 41 := wrap64 (by omega) (by omega)
    have w2 : IntKind.i64.wrap (kyN i s * 41 + s i) = kyN (i + 1) s := by rw [wrap64 (by omega) (by omega)]; rfl
    repeat (first | apply Z1 | apply Z2 | apply Z3 | apply Z4 | apply Z5 rfl | apply Z6 | apply Z7 | apply Z8 | apply Z9 | apply ZA | apply ZB | apply ZC | ((first | apply ZD (by decide) | apply ZN (by decide)); (simp (maxSteps := 9999999) only [go_sem, r0, r3, r4, e1, e2, l1, w1, w2, ew, Int.toNat_natCast]; rfl)) | (refine ZE ?_ ?_; · simp only [go_sem]) | (refine ZF ?_ ?_; · simp only [go_sem]))
    exact end_nil ⟨k - 1, by omega, i + 1, by omega, by simp only [go_sem, r0, ll], by simp only [go_sem], by simp only [go_sem, ew], rfl, rfl, rfl⟩
theorem key52 {h : SHeap} {v : Value} {n : Nat} {s : Nat → Int} (hn : n ≤ 6) (hv : IS h v (lst n s)) (hb : ∀ v, v < n → 0 ≤ s v ∧ s v ≤ 40) : M.call 52 [v] h = some (.int .i64 (kyN n s), h, []) := by
  refine call_run sf52 rfl rfl rfl ?_
  unfold sf52
  repeat (first | apply Z1 | apply Z2 | apply Z3 | apply Z4 | apply Z5 rfl | apply Z6 | apply Z7 | apply Z8 | apply Z9 | apply ZA | apply ZB | apply ZC | ((first | apply ZD (by decide) | apply ZN (by decide)); (simp (maxSteps := 9999999) only [go_sem, argR]; rfl)) | (refine ZE ?_ ?_; · simp only [go_sem]) | (refine ZF ?_ ?_; · simp only [go_sem]))
  refine run_loop (key_loop _ hn hv hb n _ _ _ _ ⟨0, by omega, by simp only [go_sem, argR], by simp only [go_sem]; rfl, by simp only [go_sem] <;> rfl, rfl, rfl, rfl⟩) ?_
  rintro ex ρ2 ms2 h2 d2 ⟨rfl, rfl, rfl, rfl, t3⟩
  repeat (first | apply Z1 | apply Z2 | apply Z3 | apply Z4 | apply Z5 rfl | apply Z6 | apply Z7 | apply Z8 | apply Z9 | apply ZA | apply ZB | apply ZC | ((first | apply ZD (by decide) | apply ZN (by decide)); (simp (maxSteps := 9999999) only [go_sem, t3]; rfl)) | (refine ZE ?_ ?_; · simp only [go_sem]) | (refine ZF ?_ ?_; · simp only [go_sem]))
  exact end_nil (q_ret1 _ (by simp only [go_sem, t3]) rfl (take_self _))
structure RS (H : SHeap) (n : Nat) (L : List (Nat → Int)) (v : Value) (b : Nat) (h : SHeap) : Prop where
  low : ∀ j, j < H.length → h[j]? = H[j]?
  le : H.length + 1 < h.length
  mp : h[H.length]? = some (.map true (entK n L))
  els : ∃ cs, AccF (H.length + 1) h v cs 25 b ∧ cs.length = L.length ∧ ∀ (i : Nat) (hi : i < L.length), ∃ x, cs[i]? = some x ∧ LeafC H.length h x ∧ IS h x (lst n L[i])
theorem LeafC.keep {base : Nat} {h h' : SHeap} {x : Value} (k : LeafC base h x) (e : ∀ (j : Nat) (ds : List Value) (el : TypeId) (own : Nat) (old : List Nat), h[j]? = some (SO.cells ds el true own old) → h'[j]? = h[j]?) : LeafC base h' x := by
  obtain ⟨b, o, n, c, rfl, hb⟩ := k
  refine ⟨b, o, n, c, rfl, hb.imp id ?_⟩
  rintro ⟨h1, ds, el, own, old, h2, h3⟩
  exact ⟨h1, ds, el, own, old, by rw [e b ds el own old h2]; exact h2, h3⟩
theorem IS.keepL {base : Nat} {h h' : SHeap} {x : Value} {l : List Int} (i : IS h x l) (k : LeafC base h x) (low : ∀ j, j < base → h'[j]? = h[j]?) (hl : h.length ≤ h'.length) (e : ∀ (j : Nat) (ds : List Value) (el : TypeId) (own : Nat) (old : List Nat), h[j]? = some (SO.cells ds el true own old) → h'[j]? = h[j]?) : IS h' x l := by
  obtain ⟨b, o, n, c, rfl, hb⟩ := k
  obtain ⟨a, c', e1, hi⟩ := i
  refine ⟨a, c', e1, fun hne => ?_⟩
  obtain ⟨b0, o0, e2, h1, h2⟩ := hi hne
  subst e2
  simp at e1
  obtain ⟨⟨q1, q2⟩, q3, q4⟩ := e1
  subst q1 q2
  refine ⟨b, o, rfl, by omega, h2.fr ?_⟩
  rcases hb with hb | ⟨_, ds, el, own, old, h3, _⟩
  · exact low b hb
  · exact e b ds el own old h3
section
variable {H h h' : SHeap} {n : Nat} {L : List (Nat → Int)} {v : Value} {b : Nat}
theorem RS.grow (R : RS H n L v b h) (hl : h.length ≤ h'.length) (low : ∀ j, j < H.length → h'[j]? = h[j]?) (mp : h'[H.length]? = h[H.length]?) (hb : h'[b]? = h[b]?) (e : ∀ (j : Nat) (ds : List Value) (el : TypeId) (own : Nat) (old : List Nat), h[j]? = some (SO.cells ds el true own old) → h'[j]? = h[j]?) : RS H n L v b h' := by
  obtain ⟨cs, A, h1, h2⟩ := R.els
  have hle := R.le
  refine ⟨fun j hj => by rw [low j hj]; exact R.low j hj, by omega, by rw [mp]; exact R.mp, cs, A.keep hb, h1, fun i hi => ?_⟩
  obtain ⟨x, x1, x2, x3⟩ := h2 i hi
  exact ⟨x, x1, x2.keep e, x3.keepL x2 low hl e⟩
theorem RS.app (R : RS H n L v b h) (g : SHeap) : RS H n L v b (h ++ g) := by
  obtain ⟨cs, A, _⟩ := R.els
  have hle := R.le
  exact R.grow (by simp) (fun j hj => List.getElem?_append_left (by omega)) (List.getElem?_append_left (by omega)) (List.getElem?_append_left A.lt) (fun j ds el own old hj => List.getElem?_append_left (List.getElem?_eq_some_iff.1 hj).1)
theorem RS.shape (R : RS H n L v b h) : ∃ c, v = .slice (some ⟨b, 0, none⟩) L.length c := by
  obtain ⟨cs, A, h1, _⟩ := R.els
  obtain ⟨c, old, e, _⟩ := A.shp
  exact ⟨c, by rw [e, h1]⟩
theorem RS.el (R : RS H n L v b h) {i : Nat} (hi : i < L.length) : ∃ x, loadS h none (.pointer (some ⟨b, i, none⟩)) = some x ∧ IS h x (lst n L[i]) := by
  obtain ⟨cs, A, h1, h2⟩ := R.els
  obtain ⟨x, x1, x2, x3⟩ := h2 i hi
  obtain ⟨c, old, e, h3, _⟩ := A.shp
  have := load_cell (o := i) h3 rfl x1 []
  rw [List.append_nil] at this
  exact ⟨x, this, x3⟩
theorem RS.push (R : RS H n L v b h) {nb : Nat} {t : Nat → Int} (hn1 : 1 ≤ n) (hlen : L.length ≤ 1000000) (hnb : h[nb]? = some (.cells (iV n t) 3 true 0 [])) (hnl : H.length ≤ nb) (hky : ¬ ∃ u ∈ L, kyN n u = kyN n t) :
    ∃ H2, (∀ (base : Nat) (d : List Nat), appendS base (h.set H.length (.map true (entK n (L ++ [t]))) ++ [.cells [.slice (some ⟨nb, 0, none⟩) n (UNK + 1)] 25 false 0 []]) d 25 false 1 24 v (.slice (some ⟨h.length, 0, none⟩) 1 1) = some (.slice (some ⟨h.length + 1, 0, none⟩) (L.length + 1) (UNK + 1), H2, d)) ∧
      RS H n (L ++ [t]) (.slice (some ⟨h.length + 1, 0, none⟩) (L.length + 1) (UNK + 1)) (h.length + 1) H2 ∧ h.length < H2.length ∧ ∀ (j : Nat) (ds : List Value) (el : TypeId) (own : Nat) (old : List Nat), h[j]? = some (SO.cells ds el true own old) → H2[j]? = h[j]? := by
  obtain ⟨cs, A, h1, h2⟩ := R.els
  have hle := R.le
  have hbl := A.lt
  have hlo := A.low
  have gl : (h.set H.length (.map true (entK n (L ++ [t]))) ++ [.cells [.slice (some ⟨nb, 0, none⟩) n (UNK + 1)] 25 false 0 []] : SHeap).length = h.length + 1 := by simp
  have gj : ∀ j, j < h.length → j ≠ H.length → (h.set H.length (.map true (entK n (L ++ [t]))) ++ [.cells [.slice (some ⟨nb, 0, none⟩) n (UNK + 1)] 25 false 0 []] : SHeap)[j]? = h[j]? := fun j hj hne => by
    rw [List.getElem?_append_left (by simp; exact hj), List.getElem?_set_ne (by omega)]
  have gm : (h.set H.length (.map true (entK n (L ++ [t]))) ++ [.cells [.slice (some ⟨nb, 0, none⟩) n (UNK + 1)] 25 false 0 []] : SHeap)[H.length]? = some (.map true (entK n (L ++ [t]))) := by
    rw [List.getElem?_append_left (by simp; omega), List.getElem?_set_self (by omega)]
  have gt : (h.set H.length (.map true (entK n (L ++ [t]))) ++ [.cells [.slice (some ⟨nb, 0, none⟩) n (UNK + 1)] 25 false 0 []] : SHeap)[h.length]? = some (.cells [.slice (some ⟨nb, 0, none⟩) n (UNK + 1)] 25 false 0 []) := by
    rw [List.getElem?_append_right (by simp)]; simp
  generalize (h.set H.length (.map true (entK n (L ++ [t]))) ++ [.cells [.slice (some ⟨nb, 0, none⟩) n (UNK + 1)] 25 false 0 []] : SHeap) = G at *
  have A2 : AccF (H.length + 1) G v cs 25 b := A.keep (gj b hbl (by omega))
  obtain ⟨H2, ap, A3, l3, k3⟩ := A2.push (bytes := 24) gt rfl rfl (by decide) (by omega)
  rw [gl, h1] at ap A3
  rw [gl] at l3 k3
  have hk : ∀ j, j < h.length → j ≠ H.length → j ≠ b → H2[j]? = h[j]? := fun j hj h1 h2 => by rw [k3 j (by omega) h2, gj j hj h1]
  have hcell : ∀ (j : Nat) (ds : List Value) (el : TypeId) (own : Nat) (old : List Nat), h[j]? = some (SO.cells ds el true own old) → H2[j]? = h[j]? := fun j ds el own old hj => by
    refine hk j (List.getElem?_eq_some_iff.1 hj).1 (fun e => ?_) (fun e => ?_)
    · rw [e, R.mp] at hj; cases hj
    · obtain ⟨c, old', _, q, _⟩ := A.shp
      rw [e, q] at hj
      injection hj with hj
      injection hj with _ _ hj
      cases hj
  refine ⟨H2, ap, ⟨fun j hj => by rw [hk j (by omega) (by omega) (by omega)]; exact R.low j hj, by omega, by rw [k3 _ (by omega) (by omega)]; exact gm, cs ++ [.slice (some ⟨nb, 0, none⟩) n (UNK + 1)], A3, by simp [h1], fun i hi => ?_⟩, by omega, hcell⟩
  by_cases c : i < L.length
  · obtain ⟨x, x1, x2, x3⟩ := h2 i c
    refine ⟨x, by rw [List.getElem?_append_left (by omega)]; exact x1, x2.keep hcell, ?_⟩
    rw [List.getElem_append_left c]
    exact x3.keepL x2 (fun j hj => hk j (by omega) (by omega) (by omega)) (by omega) hcell
  · have hiL : i = L.length := by simp at hi; omega
    subst hiL
    have hnb2 := hcell _ _ _ _ _ hnb
    refine ⟨.slice (some ⟨nb, 0, none⟩) n (UNK + 1), by rw [List.getElem?_append_right (by omega), h1, Nat.sub_self]; rfl, ⟨nb, 0, n, UNK + 1, rfl, .inr ⟨hnl, _, _, _, _, by rw [hnb2]; exact hnb, rfl⟩⟩, ?_⟩
    have : (L ++ [t])[L.length]'hi = t := by simp
    rw [this]
    exact IS.lstAt (by rw [hnb2]; exact hnb) rfl
end
end Go.Proofs.YtpkhkghiidilcaaDoor.Sh

namespace Go.Proofs.YtpkhkghiidilcaaDoor.Sh
open Go
set_option maxRecDepth 100000
set_option maxHeartbeats 4000000
theorem load_pair {h : SHeap} {b : Nat} {L : List (Nat × Nat)} {el : TypeId} {pf : Bool} {own : Nat} {old : List Nat} (hb : h[b]? = some (.cells (prN L) el pf own old)) (hr : readable own = true) {j : Nat} (hj : j < L.length) : loadS h (some 2) (.pointer (some ⟨b, j * 2, none⟩)) = some (.agg #[.int .i64 (L[j].1 : Int), .int .i64 (L[j].2 : Int)]) := by
  have hp : Prs h b 0 (castE L) := Prs.mk0 (el := el) (pf := pf) (own := own) (old := old) (by rw [hb, prN_prs]) hr
  have := hp.loadN (i := j) (by rw [castE_len]; exact hj)
  rw [Nat.zero_add] at this
  rw [this]
  simp [castE]
section
variable {H : SHeap} {n : Nat} {E : List (Int × Int)} {s : Nat → Int} {ev : Value}
theorem reach_inner (cx : Cx) (hn1 : 1 ≤ n) (hn : n ≤ 6) (hE : EOK n E) (hP : PS H ev E) (hEl : E.length ≤ 1000000) {i : Nat} {u : Nat → Int} (Su : ST n u 12) {mb : Nat} (hmb : H.length ≤ mb) :
    ∀ m ρ ms h' d', (∃ (k b : Nat) (L : List (Nat → Int)) (v : Value), k + m = (MVL n E u).length ∧ RS H n L v b h' ∧ RQ n E s L i k ∧ L[i]? = some u ∧ (MVL n E u ≠ [] → h'[mb]? = some (.cells (prN (MVL n E u)) 45 true 0 [])) ∧
      ρ 0 = .int .i64 n ∧ ρ 1 = ev ∧ ρ 7 = .map (some H.length) ∧ ρ 8 = v ∧ ρ 9 = .int .i64 i ∧ ρ 10 = (if (MVL n E u).length = 0 then .slice none 0 0 else .slice (some ⟨mb, 0, none⟩) (MVL n E u).length (UNK + 2)) ∧ ρ 11 = .int .i64 k ∧ ms = [] ∧ d' = []) →
    LoopW M cx 7 sf17L0 ρ ms h' d' (fun ex ρ' ms' h' d' => ms' = [] ∧ d' = [] ∧ ex = .exit 2 ∧ ∃ (b : Nat) (L : List (Nat → Int)) (v : Value), RS H n L v b h' ∧ RQ n E s L (i + 1) 0 ∧ i < L.length ∧ ρ' 0 = .int .i64 n ∧ ρ' 1 = ev ∧ ρ' 7 = .map (some H.length) ∧ ρ' 8 = v ∧ ρ' 9 = .int .i64 i) := by
  have hML := MVL_len hn E u
  refine loop_run _ ?_
  rintro m ρ ms h' d' ⟨k, b, L, v, hm, R, Q, hu, hbk, r0, r1, r7, r8, r9, r10, r11, rfl, rfl⟩
  obtain ⟨hiL, hue⟩ := List.getElem?_eq_some_iff.1 hu
  unfold sf17L0
  by_cases c : m = 0
  · have Q2 := Q.next hiL (by rw [hue]; omega)
    by_cases c0 : (MVL n E u).length = 0
    · rw [if_pos c0] at r10
      have e1 : ¬ ((k : Int) < (0 : Nat)) := by omega
      have e1' : ¬ ((k : Int) < 0) := by omega
      repeat (first | apply Z1 | apply Z2 | apply Z3 | apply Z4 | apply Z5 rfl | apply Z6 | apply Z7 | apply Z8 | apply Z9 | apply ZA | apply ZB | apply ZC | ((first | apply ZD (by decide) | apply ZN (by decide)); (simp (maxSteps := 9999999) only [go_sem, r10, r11, e1, e1']; rfl)) | (refine ZE ?_ ?_; · simp only [go_sem]) | (refine ZF ?_ ?_; · simp only [go_sem]))
      exact end_nil ⟨rfl, rfl, rfl, b, L, v, R, Q2, hiL, by simp only [go_sem, r0], by simp only [go_sem, r1], by simp only [go_sem, r7], by simp only [go_sem, r8], by simp only [go_sem, r9]⟩
    · rw [if_neg c0] at r10
      have e1 : ¬ ((k : Int) < (MVL n E u).length) := by omega
      repeat (first | apply Z1 | apply Z2 | apply Z3 | apply Z4 | apply Z5 rfl | apply Z6 | apply Z7 | apply Z8 | apply Z9 | apply ZA | apply ZB | apply ZC | ((first | apply ZD (by decide) | apply ZN (by decide)); (simp (maxSteps := 9999999) only [go_sem, r10, r11, e1]; rfl)) | (refine ZE ?_ ?_; · simp only [go_sem]) | (refine ZF ?_ ?_; · simp only [go_sem]))
      exact end_nil ⟨rfl, rfl, rfl, b, L, v, R, Q2, hiL, by simp only [go_sem, r0], by simp only [go_sem, r1], by simp only [go_sem, r7], by simp only [go_sem, r8], by simp only [go_sem, r9]⟩
  · have hk : k < (MVL n E u).length := by omega
    rw [if_neg (by omega)] at r10
    have hne : MVL n E u ≠ [] := fun e => by rw [e] at hk; simp at hk
    have hmv := hbk hne
    have e1 : ((k : Int) < (MVL n E u).length) := by omega
    have e2 : (0 : Int) ≤ k := by omega
    have e3 : (0 : Int) ≤ i := by omega
    have e4 : ((i : Int) < L.length) := by omega
    have ew : IntKind.i64.wrap ((k : Int) + 1) = ((k + 1 : Nat) : Int) := by rw [wrap64 (by omega) (by omega)]; rfl
    have hLl := few_stocks hn L Q.nd Q.st
    obtain ⟨x, x1, x2⟩ := R.el hiL
    rw [hue] at x2
    obtain ⟨vc, rfl⟩ := R.shape
    have lp := load_pair hmv rfl hk
    have hcm : canM n E u ((MVL n E u)[k].1 : Int) ((MVL n E u)[k].2 : Int) := MVb_mem (List.getElem_mem hk)
    have qk : ∀ w, w = aft u (MVL n E u)[k].1 (MVL n E u)[k].2 → (w ∈ L → RQ n E s L i (k + 1)) ∧ (w ∉ L → RQ n E s (L ++ [w]) i (k + 1)) := fun w hw => by
      have hk' : k < (MVL n E L[i]).length := by rw [hue]; exact hk
      have e : aft L[i] (MVL n E L[i])[k].1 (MVL n E L[i])[k].2 = w := by rw [hw]; simp only [hue]
      refine ⟨fun hm => Q.skip hiL hk' (by rw [e]; exact hm), fun hm => ?_⟩
      have := Q.push hE hn hiL hk' (by rw [e]; exact hm)
      rw [e] at this; exact this
    have c47 := move47 (H := h') hn (hP.fr R.low) hEl x2 (lst_len _ _) (mem_bnd Su hn (by decide)) hn1 ((MVL n E u)[k].1 : Int) ((MVL n E u)[k].2 : Int)
    rw [stk_lst Su, if_pos hcm, Int.toNat_natCast, Int.toNat_natCast] at c47
    generalize (MVL n E u)[k] = p at *
    obtain ⟨p1, p2⟩ := p
    dsimp only at *
    obtain ⟨u1, u2, u3, u4⟩ := canM_iff.1 hcm
    have Sw := (Su.aft hE hn u1 u2 u3 u4).mono (B' := 12) (by decide)
    obtain ⟨qk1, qk2⟩ := qk _ rfl
    generalize aft u p1 p2 = w at *
    have R1 := R.app [.cells (iV n w) 3 true 0 []]
    have g1 : (h' ++ [.cells (iV n w) 3 true 0 []] : SHeap)[h'.length]? = some (.cells (iV n w) 3 true 0 []) := by rw [app_get0]; rfl
    have gl : (h' ++ [.cells (iV n w) 3 true 0 []] : SHeap).length = h'.length + 1 := by simp
    have gm : (h' ++ [.cells (iV n w) 3 true 0 []] : SHeap)[mb]? = some (.cells (prN (MVL n E u)) 45 true 0 []) := by rw [List.getElem?_append_left (List.getElem?_eq_some_iff.1 hmv).1]; exact hmv
    generalize h' ++ [.cells (iV n w) 3 true 0 []] = G at *
    have Iw : IS G (.slice (some ⟨h'.length, 0, none⟩) n (UNK + 1)) (lst n w) := IS.lstAt g1 rfl
    have c52 := key52 hn Iw (fun v _ => by have := Sw.bnd hn v; omega)
    have fk := findK (n := n) (t := w) L
    have hR := R.le
    by_cases c2 : ∃ t ∈ L, kyN n t = kyN n w
    · rw [if_pos c2] at fk
      obtain ⟨t, t1, t2⟩ := c2
      have hw : w ∈ L := by rw [← ky_inj hn (Q.st t t1) Sw t2]; exact t1
      have lk : ∀ d, lookV .int (.bool false) false (some (.map (some H.length))) (some (.int .i64 (kyN n w))) G d = some (.bool true, G, d) := fun d => lookV_ok (q := .int) d rfl R1.mp fk
      repeat (first | apply Z1 | apply Z2 | apply Z3 | apply Z4 | apply Z5 rfl | apply Z6 | apply Z7 | apply Z8 | apply Z9 | apply ZA | apply ZB | apply ZC | ((first | apply ZD (by decide) | apply ZN (by decide)); (simp (maxSteps := 9999999) only [go_sem, r0, r1, r7, r8, r9, r10, r11, e1, e2, e3, e4, x1, lp, c47, c52, lk, ew, Int.toNat_natCast]; rfl)) | (refine ZE ?_ ?_; · simp only [go_sem]) | (refine ZF ?_ ?_; · simp only [go_sem]))
      exact end_nil ⟨m - 1, by omega, k + 1, b, L, _, by omega, R1, qk1 hw, hu, fun _ => gm, by simp only [go_sem, r0], by simp only [go_sem, r1], by simp only [go_sem, r7], by simp only [go_sem, r8], by simp only [go_sem, r9], by simp only [go_sem, r10]; rw [if_neg (by omega)], by simp only [go_sem, ew], rfl, rfl⟩
    · rw [if_neg c2] at fk
      have hw : w ∉ L := fun h => c2 ⟨w, h, rfl⟩
      have lk : ∀ d, lookV .int (.bool false) false (some (.map (some H.length))) (some (.int .i64 (kyN n w))) G d = some (.bool false, G, d) := fun d => lookV_ok (q := .int) d rfl R1.mp fk
      have up := fun (cx : Cx) d => updV_ok cx (q := .int) (r := H.length) (k := .int .i64 (kyN n w)) (v := .bool true) (h := G) d rfl R1.mp rfl (updK L c2)
      obtain ⟨H2, ap, R2, l2, kc⟩ := R1.push (t := w) hn1 (by omega) g1 (by omega) c2
      have hm2 := kc _ _ _ _ _ gm
      have hGl : (G.set H.length (.map true (entK n (L ++ [w])))).length = G.length := by simp
      generalize G.set H.length (.map true (entK n (L ++ [w]))) = G2 at *
      rw [← hGl] at ap
      repeat (first | apply Z1 | apply Z2 | apply Z3 | apply Z4 | apply Z5 rfl | apply Z6 | apply Z7 | apply Z8 | apply Z9 | apply ZA | apply ZB | apply ZC | ((first | apply ZD (by decide) | apply ZN (by decide)); (simp (maxSteps := 9999999) only [go_sem, r0, r1, r7, r8, r9, r10, r11, e1, e2, e3, e4, x1, lp, c47, c52, lk, up, ap, ew, Int.toNat_natCast]; rfl)) | (refine ZE ?_ ?_; · simp only [go_sem]) | (refine ZF ?_ ?_; · simp only [go_sem]))
      refine end_nil ⟨m - 1, by omega, k + 1, G.length + 1, L ++ [w], .slice (some ⟨G.length + 1, 0, none⟩) (L.length + 1) (UNK + 1), by omega, R2, qk2 hw, by rw [List.getElem?_append_left hiL]; exact hu, fun _ => by rw [hm2]; exact gm, by simp only [go_sem, r0], by simp only [go_sem, r1], by simp only [go_sem, r7], by simp only [go_sem, hGl], by simp only [go_sem, r9], by simp only [go_sem, r10]; rw [if_neg (by omega)], by simp only [go_sem, ew], rfl, rfl⟩
theorem reach_outer (cx : Cx) (hn1 : 1 ≤ n) (hn : n ≤ 6) (hE : EOK n E) (hP : PS H ev E) (hEl : E.length ≤ 1000000) :
    ∀ m ρ ms h' d', (∃ (i b : Nat) (L : List (Nat → Int)) (v : Value), i + m = 753572 ∧ i ≤ L.length ∧ RS H n L v b h' ∧ RQ n E s L i 0 ∧ ρ 0 = .int .i64 n ∧ ρ 1 = ev ∧ ρ 7 = .map (some H.length) ∧ ρ 8 = v ∧ ρ 9 = .int .i64 i ∧ ms = [] ∧ d' = []) →
    LoopW M cx 7 sf17L1 ρ ms h' d' (fun ex ρ' ms' h' d' => ms' = [] ∧ d' = [] ∧ ex = .exit 0 ∧ ∃ (b : Nat) (L : List (Nat → Int)) (v : Value), RS H n L v b h' ∧ RQ n E s L L.length 0 ∧ ρ' 8 = v) := by
  refine loop_run _ ?_
  rintro m ρ ms h' d' ⟨i, b, L, v, hm, hiL, R, Q, r0, r1, r7, r8, r9, rfl, rfl⟩
  have hLl := few_stocks hn L Q.nd Q.st
  obtain ⟨vc, rfl⟩ := R.shape
  unfold sf17L1
  by_cases c : i = L.length
  · have e1 : ¬ ((i : Int) < L.length) := by omega
    repeat (first | apply Z1 | apply Z2 | apply Z3 | apply Z4 | apply Z5 rfl | apply Z6 | apply Z7 | apply Z8 | apply Z9 | apply ZA | apply ZB | apply ZC | ((first | apply ZD (by decide) | apply ZN (by decide)); (simp (maxSteps := 9999999) only [go_sem, r8, r9, e1]; rfl)) | (refine ZE ?_ ?_; · simp only [go_sem]) | (refine ZF ?_ ?_; · simp only [go_sem]))
    exact end_nil ⟨rfl, rfl, rfl, b, L, _, R, by rw [← c]; exact Q, by simp only [go_sem, r8]⟩
  · have hi : i < L.length := by omega
    have e1 : ((i : Int) < L.length) := by omega
    have e2 : (0 : Int) ≤ i := by omega
    have ew : IntKind.i64.wrap ((i : Int) + 1) = ((i + 1 : Nat) : Int) := by rw [wrap64 (by omega) (by omega)]; rfl
    obtain ⟨x, x1, x2⟩ := R.el hi
    have Su := Q.st L[i] (List.getElem_mem hi)
    have c44 := moves44 hn hn1 (hP.fr R.low) hEl x2 (lst_len _ _) (mem_bnd Su hn (by decide))
    rw [stk_lst Su] at c44
    have hu : L[i]? = some L[i] := List.getElem?_eq_getElem hi
    generalize L[i] = u at *
    have hR := R.le
    have R1 : RS H n L (.slice (some ⟨b, 0, none⟩) L.length vc) b (resH h' (prN (MVL n E u)) (MVL n E u).length 45) := by
      unfold resH; split
      · exact R
      · exact R.app _
    have hbk : MVL n E u ≠ [] → (resH h' (prN (MVL n E u)) (MVL n E u).length 45)[h'.length]? = some (.cells (prN (MVL n E u)) 45 true 0 []) := fun h => by
      have : (MVL n E u).length ≠ 0 := fun e => h (List.length_eq_zero_iff.1 e)
      unfold resH
      rw [if_neg this, app_get0]; rfl
    have hmv : resV h' (MVL n E u).length 2 = (if (MVL n E u).length = 0 then .slice none 0 0 else .slice (some ⟨h'.length, 0, none⟩) (MVL n E u).length (UNK + 2)) := rfl
    generalize resH h' (prN (MVL n E u)) (MVL n E u).length 45 = H3 at *
    generalize resV h' (MVL n E u).length 2 = mv at *
    repeat (first | apply Z1 | apply Z2 | apply Z3 | apply Z4 | apply Z5 rfl | apply Z6 | apply Z7 | apply Z8 | apply Z9 | apply ZA | apply ZB | apply ZC | ((first | apply ZD (by decide) | apply ZN (by decide)); (simp (maxSteps := 9999999) only [go_sem, r0, r1, r8, r9, e1, e2, x1, c44, Int.toNat_natCast]; rfl)) | (refine ZE ?_ ?_; · simp only [go_sem]) | (refine ZF ?_ ?_; · simp only [go_sem]))
    refine run_loop (reach_inner _ hn1 hn hE hP hEl (i := i) Su (by omega) (MVL n E u).length _ _ _ _ ⟨0, b, L, _, by omega, R1, Q, hu, hbk, by simp only [go_sem, r0], by simp only [go_sem, r1], by simp only [go_sem, r7], by simp only [go_sem, r8], by simp only [go_sem, r9], by simp only [go_sem, hmv], by simp only [go_sem] <;> rfl, rfl, rfl⟩) ?_
    rintro ex ρ2 ms2 h2 d2 ⟨rfl, rfl, rfl, b2, L2, v2, R2, Q2, hi2, t0, t1, t7, t8, t9⟩
    repeat (first | apply Z1 | apply Z2 | apply Z3 | apply Z4 | apply Z5 rfl | apply Z6 | apply Z7 | apply Z8 | apply Z9 | apply ZA | apply ZB | apply ZC | ((first | apply ZD (by decide) | apply ZN (by decide)); (simp (maxSteps := 9999999) only [go_sem, t0, t1, t7, t8, t9, ew]; rfl)) | (refine ZE ?_ ?_; · simp only [go_sem]) | (refine ZF ?_ ?_; · simp only [go_sem]))
    exact end_nil ⟨m - 1, by omega, i + 1, b2, L2, v2, by omega, by omega, R2, Q2, by simp only [go_sem, t0], by simp only [go_sem, t1], by simp only [go_sem, t7], by simp only [go_sem, t8], by simp only [go_sem, ew], rfl, rfl⟩
theorem reached17 (hn1 : 1 ≤ n) (hn : n ≤ 6) (hE : EOK n E) (hP : PS H ev E) (hEl : E.length ≤ 1000000) {sa : Nat} (hsa : sa < H.length) (hs : IS H (.slice (some ⟨sa, 0, none⟩) n (UNK + 1)) (lst n s)) (S : ST n s 12) :
    ∃ (L : List (Nat → Int)) (c : Nat) (H' : SHeap), M.call 17 [.int .i64 n, ev, .slice (some ⟨sa, 0, none⟩) n (UNK + 1)] H = some (.slice (some ⟨H.length, 0, none⟩) L.length c, H', []) ∧ (∀ t, t ∈ L ↔ Rg n E n s t) ∧ L.length ≤ 753571 ∧ H.length < H'.length ∧ (∀ j, j < H.length → H'[j]? = H[j]?) ∧
      ∀ (i : Nat) (hi : i < L.length), ∃ x, loadS H' none (.pointer (some ⟨H.length, i, none⟩)) = some x ∧ IS H' x (lst n L[i]) := by
  suffices key : ∃ r, (∃ (L : List (Nat → Int)) (c : Nat) (H' : SHeap), r = (Value.slice (some ⟨H.length, 0, none⟩) L.length c, H', ([] : List Nat)) ∧ (∀ t, t ∈ L ↔ Rg n E n s t) ∧ L.length ≤ 753571 ∧ H.length < H'.length ∧ (∀ j, j < H.length → H'[j]? = H[j]?) ∧
      ∀ (i : Nat) (hi : i < L.length), ∃ x, loadS H' none (.pointer (some ⟨H.length, i, none⟩)) = some x ∧ IS H' x (lst n L[i])) ∧ M.call 17 [.int .i64 n, ev, .slice (some ⟨sa, 0, none⟩) n (UNK + 1)] H = some r by
    obtain ⟨r, ⟨L, c, H', rfl, k1⟩, k2⟩ := key
    exact ⟨L, c, H', k2, k1⟩
  refine call_ex (f := 17) _ sf17 rfl rfl rfl ?_
  have c52 := key52 hn (hs.app [.map true []]) (fun v _ => by have := S.bnd hn v; omega)
  have up : ∀ (cx : Cx) d, updV cx .int (some (.map (some H.length))) (some (.int .i64 (kyN n s))) (some (.bool true)) (H ++ [.map true []]) d = some (udf, H ++ [.map true (entK n [s])], d) := fun cx d => by
    have := updV_ok cx (q := .int) (r := H.length) (k := .int .i64 (kyN n s)) (v := .bool true) (es := []) (es' := entK n [s]) (h := H ++ [.map true []]) d rfl (by rw [app_get0]; rfl) rfl rfl
    rw [List.set_append_right _ _ (Nat.le_refl _), Nat.sub_self] at this
    exact this
  have R0 : RS H n [s] (.slice (some ⟨H.length + 1, 0, none⟩) 1 1) (H.length + 1) (H ++ [.map true (entK n [s]), .cells [.slice (some ⟨sa, 0, none⟩) n (UNK + 1)] 25 false 0 []]) := by
    refine ⟨fun j hj => List.getElem?_append_left hj, by simp, by rw [app_get0]; rfl, [.slice (some ⟨sa, 0, none⟩) n (UNK + 1)], ⟨by simp, rfl, Nat.le_refl _, 1, [], rfl, by rw [app_get]; rfl, .inr ⟨rfl, by decide, rfl⟩⟩, rfl, fun i hi => ?_⟩
    have : i = 0 := by simp at hi; omega
    subst this
    exact ⟨_, rfl, ⟨sa, 0, n, UNK + 1, rfl, .inl hsa⟩, hs.app _⟩
  obtain ⟨ea, ec, rfl, _⟩ := id hP
  unfold sf17
  repeat (first | apply Z1 | apply Z2 | apply Z3 | apply Z4 | apply Z5 rfl | apply Z6 | apply Z7 | apply Z8 | apply Z9 | apply ZA | apply ZB | apply ZC | ((first | apply ZD (by decide) | apply ZN (by decide)); (simp (maxSteps := 9999999) only [go_sem, argR, c52, up]; rfl)) | (refine ZE ?_ ?_; · simp only [go_sem]) | (refine ZF ?_ ?_; · simp only [go_sem]))
  refine run_loop (reach_outer _ hn1 hn hE hP hEl 753572 _ _ _ _ ⟨0, H.length + 1, [s], _, by omega, by omega, R0, RQ.start S, by simp only [go_sem, argR], by simp only [go_sem, argR], by simp only [go_sem], by simp only [go_sem], by simp only [go_sem] <;> rfl, rfl, rfl⟩) ?_
  rintro ex ρ2 ms2 h2 d2 ⟨rfl, rfl, rfl, b, L, v, R, Q, t8⟩
  have hLl := few_stocks hn L Q.nd Q.st
  have hfin := Q.fin hE rfl
  have hle := R.le
  obtain ⟨cs, A, h1, hels⟩ := R.els
  have hlow := A.low
  obtain ⟨c, old, rfl, hb, _⟩ := A.shp
  obtain ⟨H', cs', old', g1, g2, g3, g4, g5, g6⟩ := gc_LL (H := H) (h := h2) (n := cs.length) (c := c) hb (by omega) (by omega) (fun x hx => by
    obtain ⟨i, hi, rfl⟩ := List.getElem_of_mem hx
    obtain ⟨x, x1, x2, _⟩ := hels i (by omega)
    rw [List.getElem?_eq_getElem hi] at x1
    injection x1 with x1
    rw [x1]; exact x2) (by omega) R.low
  rw [h1] at t8 g1
  repeat (first | apply Z1 | apply Z2 | apply Z3 | apply Z4 | apply Z5 rfl | apply Z6 | apply Z7 | apply Z8 | apply Z9 | apply ZA | apply ZB | apply ZC | ((first | apply ZD (by decide) | apply ZN (by decide)); (simp (maxSteps := 9999999) only [go_sem, t8]; rfl)) | (refine ZE ?_ ?_; · simp only [go_sem]) | (refine ZF ?_ ?_; · simp only [go_sem]))
  refine end_nil ⟨_, ⟨L, c, H', rfl, hfin, hLl, g2, g3, fun i hi => ?_⟩, q_gc [.slice (some ⟨b, 0, none⟩) L.length c] (by simp only [go_sem, t8]) rfl g1 rfl⟩
  obtain ⟨x, x1, x2, x3⟩ := hels i hi
  obtain ⟨x', y1, y2⟩ := g6 i x x1
  have := load_cell (o := i) g4 rfl y1 []
  rw [List.append_nil] at this
  exact ⟨x', this, y2.is x3⟩
end
end Go.Proofs.YtpkhkghiidilcaaDoor.Sh

