/- Around of the document: its contract. -/
import Derived.Test.YtecncmmkghmojaaWx
set_option linter.all false
namespace Go.Proofs.Ytecncmmkghmojaa.Sh
open Go Geo
set_option maxRecDepth 100000

theorem least_take (l : List Pt) (i : Nat) (a : Pt) (hi : i < l.length) : least (l.take (i + 1)) a = leastStep (least (l.take i) a) l[i] := by
  rw [List.take_add_one, List.getElem?_eq_getElem hi, least, List.foldl_append]
  rfl

theorem least_loop (cx : Cx) (H : SHeap) (bv c : Nat) (l : List (Int × Int)) (p0 : Int × Int) (hn : l.length ≤ 12) (hp : Prs H bv 0 l) : ∀ k ρ ms h' d', (∃ (i : Nat), i + k = l.length ∧ ρ 0 = .slice (some ⟨bv, 0, none⟩) l.length c ∧ ρ 4 = .pointer (some ⟨H.length, 0, none⟩) ∧ ρ 5 = .int .i64 i ∧ h' = H ++ [cel (least (l.take i) p0)] ∧ ms = [] ∧ d' = []) →
    LoopW M cx 7 sf58L2 ρ ms h' d' (fun ex ρ' ms' h' d' => ex = .exit 0 ∧ ρ' 0 = .slice (some ⟨bv, 0, none⟩) l.length c ∧ ρ' 4 = .pointer (some ⟨H.length, 0, none⟩) ∧ h' = H ++ [cel (least l p0)] ∧ ms' = [] ∧ d' = []) := by
  refine loop_run _ ?_
  rintro k ρ ms h' d' ⟨i, hi, h0, h4, h5, rfl, rfl, rfl⟩
  unfold sf58L2
  by_cases hk : k = 0
  · have e1 : ¬ ((i : Int) < l.length) := by omega
    repeat (first | apply run_seq | apply run_block | apply end_seq | apply end_blk_hit | apply end_blk_miss rfl | apply end_blk | apply end_seq_exit | apply end_seq_ret | apply end_blk_ret | apply run_skip | apply run_ret | apply run_exit | (apply run_region (by decide); (simp only [go_sem, h0, h5, e1]; rfl)) | (refine run_cond_t ?_ ?_; · simp only [go_sem]) | (refine run_cond_f ?_ ?_; · simp only [go_sem]))
    have et : least (l.take i) p0 = least l p0 := by rw [List.take_of_length_le (by omega)]
    refine end_nil ⟨rfl, ?_, ?_, by rw [et], rfl, rfl⟩
    · simp only [go_sem, h0]
    · simp only [go_sem, h4]
  · have e1 : (i : Int) < l.length := by omega
    have hil : i < l.length := by omega
    have e2 : (0 : Int) ≤ i := by omega
    have ew : IntKind.i64.wrap ((i : Int) + 1) = ((i + 1 : Nat) : Int) := by rw [wrap64 (by omega) (by omega)]; rfl
    have hst := least_take l i p0 hil
    generalize least (l.take i) p0 = n at *
    have l1 : loadS (H ++ [SO.cells [.int .i64 n.1, .int .i64 n.2] 53 true 0 []]) (some 2) (.pointer (some ⟨bv, 0 + i * 2, none⟩)) = some (.agg #[.int .i64 l[i].1, .int .i64 l[i].2]) := (hp.app [cel n]).loadN hil
    rw [Nat.zero_add] at l1
    generalize l[i] = p at *
    have c61 := fun h => before61 p n h
    cases hb : before p n with
    | true =>
      rw [hb] at c61
      have hs : leastStep n p = p := by unfold leastStep; rw [if_pos hb]
      repeat (first | apply run_seq | apply run_block | apply end_seq | apply end_blk_hit | apply end_blk_miss rfl | apply end_blk | apply end_seq_exit | apply end_seq_ret | apply end_blk_ret | apply run_skip | apply run_ret | apply run_exit | (apply run_region (by decide); (simp only [go_sem, h0, h4, h5, e1, e2, l1, c61, cel, Int.toNat_natCast, ew]; rfl)) | (refine run_cond_t ?_ ?_; · simp only [go_sem]) | (refine run_cond_f ?_ ?_; · simp only [go_sem]))
      refine end_nil ⟨k - 1, by omega, i + 1, by omega, ?_, ?_, ?_, by rw [hst, hs]; rfl, rfl, rfl⟩
      · simp only [go_sem, h0]
      · simp only [go_sem, h4]
      · simp only [go_sem, ew]
    | false =>
      rw [hb] at c61
      have hs : leastStep n p = n := by unfold leastStep; rw [if_neg (by rw [hb]; decide)]
      repeat (first | apply run_seq | apply run_block | apply end_seq | apply end_blk_hit | apply end_blk_miss rfl | apply end_blk | apply end_seq_exit | apply end_seq_ret | apply end_blk_ret | apply run_skip | apply run_ret | apply run_exit | (apply run_region (by decide); (simp only [go_sem, h0, h4, h5, e1, e2, l1, c61, cel, Int.toNat_natCast, ew]; rfl)) | (refine run_cond_t ?_ ?_; · simp only [go_sem]) | (refine run_cond_f ?_ ?_; · simp only [go_sem]))
      refine end_nil ⟨k - 1, by omega, i + 1, by omega, ?_, ?_, ?_, by rw [hst, hs]; rfl, rfl, rfl⟩
      · simp only [go_sem, h0]
      · simp only [go_sem, h4]
      · simp only [go_sem, ew]

theorem gc_tuple {h g : SHeap} {j n c : Nat} {cs : List Value} {el : TypeId} {own : Nat} {old : List Nat} {b : Bool} (hj : g[j]? = some (.cells cs el true own old)) (ho : (own == 2) = false) :
    gcS h.length (.tuple #[.slice (some ⟨h.length + j, 0, none⟩) n c, .bool b]) (h ++ g) = some (.tuple #[.slice (some ⟨h.length, 0, none⟩) n c, .bool b], h ++ [.cells cs el true own (old.filterMap (ren h.length [h.length + j]))]) := by
  have e0 : (h ++ g)[h.length + j]? = some (.cells cs el true own old) := by rw [app_get, hj]
  have eb : Nat.ble h.length (h.length + j) = true := by rw [ble_dec]; simp
  have e1 : reach h.length (h ++ g) 1000000 [h.length + j] [] = [h.length + j] := by
    rw [show (1000000 : Nat) = 999998 + 1 + 1 from rfl, reach]
    simp only [eb, List.contains_nil, Bool.not_true, Bool.or_self, Bool.false_eq_true, if_false, e0, ptrsO, Bool.true_or, if_true, List.nil_append]
    rw [reach]
  have e2 : ren h.length [h.length + j] (h.length + j) = some h.length := by
    simp [ren, eb, posOf]
  have ep : ptrs 3 (.tuple #[.slice (some ⟨h.length + j, 0, none⟩) n c, .bool b]) = [h.length + j] := rfl
  have er : renV h.length [h.length + j] 3 (.tuple #[.slice (some ⟨h.length + j, 0, none⟩) n c, .bool b]) = some (.tuple #[.slice (some ⟨h.length, 0, none⟩) n c, .bool b]) := by
    simp [renV, mapO, e2]
  unfold gcS
  simp only [ep, e1, er, mapO, renO, e0, ho, Bool.false_eq_true, if_false, if_true, take_app]
theorem q_gc2 {base : Nat} {i j : Nat} {ρ : Reg} {h h' : SHeap} {a : Option Addr} {n c : Nat} {b : Bool} {r : Value} (hv : ρ i = .slice a n c) (hw : ρ j = .bool b) (hg : gcS base (.tuple #[.slice a n c, .bool b]) h = some (r, h')) : callQ [.tmp i, .tmp j] base (r, h', []) .ret ρ [] h [] := by
  refine ⟨rfl, ?_⟩
  show opn (ρ i) fun v' => opn (ρ j) fun w' => endW base h [] (r, h', []) [v', w']
  rw [hv, hw]
  exact ⟨_, _, hg, rfl⟩

/-- Around of the document -/
theorem around58 {H : SHeap} {bv c : Nat} {l : List (Int × Int)} (hl : ∀ q ∈ l, inR q) (hn1 : 1 ≤ l.length) (hn : l.length ≤ 12) (hp : Prs H bv 0 l) :
    ∃ c', M.call 58 [.slice (some ⟨bv, 0, none⟩) l.length c] H = some (.tuple #[.slice (some ⟨H.length, 0, none⟩) (wrap l).length c', .bool (decide (3 ≤ (wrap l).length))], H ++ [.cells (prs (wrap l)) 53 true 0 []], []) ∧ ((wrap l).length ≠ 1 → c' = UNK + 2) := by
  have hl0 : 0 < l.length := by omega
  have hwr : wrap l = wrapGo l (least l l[0]) l.length [least l l[0]] (least l l[0]) := by
    have : l.headD (0, 0) = l[0] := by cases l with
      | nil => simp at hl0
      | cons p r => rfl
    rw [wrap, this]
  obtain ⟨ls1, ls2, ls3⟩ := least_spec l l[0]
  have hfl : least l l[0] ∈ l := by
    rcases ls1 with z | z
    · rw [z]; exact List.getElem_mem hl0
    · exact z
  have h1 : least (l.take 1) l[0] = l[0] := by
    rw [least_take l 0 _ hl0]
    have : before l[0] l[0] = false := by simp [before]
    simp [least, leastStep, this]
  obtain ⟨w1, w2, w3, _⟩ := wrap_spec (l := l) (by intro e; rw [e] at hl0; simp at hl0)
  have l0 : loadS H (some 2) (.pointer (some ⟨bv, 0 + 0 * 2, none⟩)) = some (.agg #[.int .i64 l[0].1, .int .i64 l[0].2]) := hp.loadN hl0
  rw [Nat.zero_mul, Nat.zero_add] at l0
  have hln : (0 : Int) < l.length := by omega
  refine call_ex (P := fun r => ∃ c', r = (.tuple #[.slice (some ⟨H.length, 0, none⟩) (wrap l).length c', .bool (decide (3 ≤ (wrap l).length))], H ++ [.cells (prs (wrap l)) 53 true 0 []], []) ∧ ((wrap l).length ≠ 1 → c' = UNK + 2)) sf58 rfl rfl rfl ?_ |>.elim (fun r hr => by
    obtain ⟨⟨c', rfl, e⟩, hc⟩ := hr
    exact ⟨c', hc, e⟩)
  unfold sf58
  repeat (first | apply run_seq | apply run_block | apply end_seq | apply end_blk_hit | apply end_blk_miss rfl | apply end_blk | apply end_seq_exit | apply end_seq_ret | apply end_blk_ret | apply run_skip | apply run_ret | apply run_exit | (apply run_region (by decide); (simp only [go_sem, argR, hln, l0]; rfl)) | (refine run_cond_t ?_ ?_; · simp only [go_sem]) | (refine run_cond_f ?_ ?_; · simp only [go_sem]))
  refine run_loop (least_loop _ H bv c l l[0] hn hp (l.length - 1) _ _ _ _ ⟨1, by omega, ?_, ?_, ?_, by rw [h1]; rfl, rfl, rfl⟩) ?_
  · simp only [go_sem, argR]
  · simp only [go_sem]
  · (simp only [go_sem]) <;> rfl
  · rintro ex ρ' ms' h2 d2 ⟨rfl, k0, k4, rfl, rfl, rfl⟩
    generalize hff : least l l[0] = f at *
    repeat (first | apply run_seq | apply run_block | apply end_seq | apply end_blk_hit | apply end_blk_miss rfl | apply end_blk | apply end_seq_exit | apply end_seq_ret | apply end_blk_ret | apply run_skip | apply run_ret | apply run_exit | (apply run_region (by decide); (simp only [go_sem, k0, k4, cel]; rfl)) | (refine run_cond_t ?_ ?_; · simp only [go_sem]) | (refine run_cond_f ?_ ?_; · simp only [go_sem]))
    refine run_loop (wrap_loop _ H bv c l f (wrap l) hl hn ls3 hp (l.length + 1) _ _ _ _ ⟨l.length, [f], f, .slice (some ⟨H.length + 1, 0, none⟩) 1 1, rfl, ring_one hfl, by omega, hwr.symm, ?_, ?_, ?_, ?_, .inr ⟨rfl, H.length + 1, rfl, by rw [app_get]; rfl, by omega, rfl, rfl⟩, ?_, by simp, by rw [app_get0]; rfl, by rw [app_get]; rfl, fun j hj => by rw [List.getElem?_append_left hj], rfl, rfl⟩) ?_
    · simp only [go_sem, k0]
    · simp only [go_sem, k4]
    · simp only [go_sem]
    · simp only [go_sem]
    · intro b c e; simp at e; omega
    · rintro ex ρ' ms' h3 d3 ⟨rfl, v6, k6, out, hle, hsame, rfl, rfl⟩
      obtain ⟨b, c', old, rfl, hb, hlo, hold, hc'⟩ := out.shape
      obtain ⟨g, rfl⟩ := ext_of_same hle hsame
      obtain ⟨j, rfl⟩ : ∃ j, b = H.length + j := ⟨b - H.length, by omega⟩
      rw [app_get] at hb
      have gt := gc_tuple (h := H) (g := g) (j := j) (n := (wrap l).length) (c := c') (own := 0) (old := old) (b := decide (3 ≤ (wrap l).length)) hb rfl
      rw [ren_none hold] at gt
      have hd : decide ((3 : Int) ≤ ((wrap l).length : Int)) = decide (3 ≤ (wrap l).length) := by
        apply decide_eq_decide.2; omega
      repeat (first | apply run_seq | apply run_block | apply end_seq | apply end_blk_hit | apply end_blk_miss rfl | apply end_blk | apply end_seq_exit | apply end_seq_ret | apply end_blk_ret | apply run_skip | apply run_ret | apply run_exit | (apply run_region (by decide); (simp only [go_sem, k6, hd]; rfl)) | (refine run_cond_t ?_ ?_; · simp only [go_sem]) | (refine run_cond_f ?_ ?_; · simp only [go_sem]))
      refine end_nil ⟨_, ⟨c', rfl, hc'⟩, q_gc2 (a := some ⟨H.length + j, 0, none⟩) (n := (wrap l).length) (c := c') (b := decide (3 ≤ (wrap l).length)) ?_ ?_ gt⟩
      · simp only [go_sem, k6]
      · simp only [go_sem, hd]
end Go.Proofs.Ytecncmmkghmojaa.Sh

