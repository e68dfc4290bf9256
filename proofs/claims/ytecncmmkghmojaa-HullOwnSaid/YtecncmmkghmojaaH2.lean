/- Functions on pairs: own copies, Tower and CheckTower decide, Stands, Reach and Balance refuse what is no tower. -/
import Derived.Test.YtecncmmkghmojaaH1
import Derived.Test.YtecncmmkghmojaaM3
set_option linter.all false
/- Functions on pairs: own copies, Tower and CheckTower decide, Stands, Reach and Balance refuse what is no tower. -/
namespace Go.Proofs.Ytecncmmkghmojaa.Sh
open Go
set_option maxRecDepth 100000

theorem slice_from0 {a : Option Addr} {n c m : Nat} (h1 : m ≤ n) (h2 : n ≤ c) (h3 : c < UNK) (ha : a = none ∨ ∃ b o, a = some ⟨b, o, none⟩) : sliceS 2 (.slice a n c) none (some (.int .i64 (m : Int))) none = some (.slice a m c) := by
  have e1 : Nat.ble UNK c = false := by rw [ble_dec]; simp; exact h3
  have e2 : (decide (0 ≤ (m : Int)) && decide ((m : Int) ≤ (c : Int))) = true := by simp; omega
  have e3 : Nat.blt c UNK = true := by rw [blt_dec]; simp [h3]
  unfold sliceS
  simp only [bMx, e1, Bool.false_eq_true, if_false, bHi, bnd, e2, if_true, bLo, Int.toNat_natCast, Nat.sub_zero]
  rcases ha with rfl | ⟨b, o, rfl⟩
  · rfl
  · simp [e3]
section
variable (g : FuncId) (q : Int × Int → Bool) (hg : ∀ (x y : Int) (h : SHeap), M.call g [.agg #[.int .i64 x, .int .i64 y]] h = some (.bool (q (x, y)), h, []))
include hg
theorem index_loop (cx : Cx) {h : SHeap} {v : Value} {l : List (Int × Int)} (hv : PS h v l) (hs : l.length < 4611686018427387904) (d : List Nat) : ∀ k ρ ms h' d', (∃ i : Nat, i + k = l.length ∧ ρ 0 = v ∧ ρ 1 = .func (.func g) #[] #[] ∧ ρ 7 = .int .i64 l.length ∧ ρ 8 = .int .i64 i ∧ (l.take i).any q = false ∧ ms = [] ∧ h' = h ∧ d' = d) →
    LoopW M cx 5 sf105L0 ρ ms h' d' (fun ex ρ' ms' h' d' => ((ex = .exit 0 ∧ l.any q = false) ∨ (ex = .ret ∧ l.any q = true ∧ ρ' 4 = .int .i64 (l.findIdx q))) ∧ ms' = [] ∧ h' = h ∧ d' = d) := by
  obtain ⟨a, c, rfl, kp⟩ := hv
  refine loop_run _ ?_
  rintro k ρ ms h' d' ⟨i, hi, h0, h1, h7, h8, hall, rfl, rfl, rfl⟩
  unfold sf105L0
  by_cases hk : k = 0
  · have e1 : ¬ ((i : Int) < l.length) := by omega
    repeat (first | apply run_seq | apply run_block | apply end_seq | apply end_blk_hit | apply end_blk_miss rfl | apply end_blk | apply end_seq_exit | apply end_seq_ret | apply end_blk_ret | apply run_skip | apply run_ret | apply run_exit | (apply run_region (by decide); (simp only [go_sem, h0, h7, h8, e1]; rfl)) | (refine run_cond_t ?_ ?_; · simp only [go_sem]) | (refine run_cond_f ?_ ?_; · simp only [go_sem]))
    refine end_nil ⟨.inl ⟨rfl, ?_⟩, rfl, rfl, rfl⟩
    rw [← hall, List.take_of_length_le (by omega)]
  · have e1 : (i : Int) < l.length := by omega
    have hil : i < l.length := by omega
    have e2 : (0 : Int) ≤ i := by omega
    obtain ⟨b, o, rfl, hp⟩ := kp (by intro e; rw [e] at hil; simp at hil)
    have l1 := hp.loadN hil
    have ew : IntKind.i64.wrap ((i : Int) + 1) = ((i + 1 : Nat) : Int) := by rw [wrap64 (by omega) (by omega)]; rfl
    have hlt : (l.take (i + 1)).any q = ((l.take i).any q || q l[i]) := by
      rw [List.take_add_one, List.getElem?_eq_getElem hil]
      simp only [Option.toList_some, List.any_append, List.any_cons, List.any_nil, Bool.or_false]
    have hyes : q l[i] = true → l.any q = true := fun e => List.any_eq_true.2 ⟨l[i], List.getElem_mem hil, e⟩
    have hfi : q l[i] = true → l.findIdx q = i := by
      intro e
      rw [List.findIdx_eq hil]
      refine ⟨e, fun j hj => ?_⟩
      have := List.any_eq_false.1 hall l[j] (by rw [List.mem_take_iff_getElem]; exact ⟨j, by omega, rfl⟩)
      simpa using this
    generalize l[i] = p at *
    obtain ⟨x, y⟩ := p
    dsimp only at l1
    have cg := fun h => hg x y h
    cases hq : q (x, y) with
    | true =>
      rw [hq] at cg
      repeat (first | apply run_seq | apply run_block | apply end_seq | apply end_blk_hit | apply end_blk_miss rfl | apply end_blk | apply end_seq_exit | apply end_seq_ret | apply end_blk_ret | apply run_skip | apply run_ret | apply run_exit | (apply run_region (by decide); (simp only [go_sem, h0, h1, h7, h8, e1, e2, l1, cg, Int.toNat_natCast]; rfl)) | (refine run_cond_t ?_ ?_; · simp only [go_sem]) | (refine run_cond_f ?_ ?_; · simp only [go_sem]))
      refine end_nil ⟨.inr ⟨rfl, hyes hq, ?_⟩, rfl, rfl, rfl⟩
      simp only [go_sem, h8, hfi hq]
    | false =>
      rw [hq] at cg
      repeat (first | apply run_seq | apply run_block | apply end_seq | apply end_blk_hit | apply end_blk_miss rfl | apply end_blk | apply end_seq_exit | apply end_seq_ret | apply end_blk_ret | apply run_skip | apply run_ret | apply run_exit | (apply run_region (by decide); (simp only [go_sem, h0, h1, h7, h8, e1, e2, l1, cg, Int.toNat_natCast, ew]; rfl)) | (refine run_cond_t ?_ ?_; · simp only [go_sem]) | (refine run_cond_f ?_ ?_; · simp only [go_sem]))
      refine end_nil ⟨k - 1, by omega, i + 1, by omega, ?_, ?_, ?_, ?_, ?_, rfl, rfl, rfl⟩
      · simp only [go_sem, h0]
      · simp only [go_sem, h1]
      · simp only [go_sem, h7]
      · simp only [go_sem, ew]
      · rw [hlt, hall, hq]; rfl
theorem index105 {h : SHeap} {v : Value} {l : List (Int × Int)} (hv : PS h v l) (hs : l.length < 4611686018427387904) : M.call 105 [v, .func (.func g) #[] #[]] h = some (.int .i64 (if l.any q = true then (l.findIdx q : Int) else -1), h, []) := by
  have hv0 := hv
  obtain ⟨a, c, rfl, kp⟩ := hv0
  refine call_run sf105 rfl rfl rfl ?_
  unfold sf105
  repeat (first | apply run_seq | apply run_block | apply end_seq | apply end_blk_hit | apply end_blk_miss rfl | apply end_blk | apply end_seq_exit | apply end_seq_ret | apply end_blk_ret | apply run_skip | apply run_ret | apply run_exit | (apply run_region (by decide); (simp only [go_sem, argR]; rfl)) | (refine run_cond_t ?_ ?_; · simp only [go_sem]) | (refine run_cond_f ?_ ?_; · simp only [go_sem]))
  refine run_loop (index_loop g q hg _ hv hs [] l.length _ _ _ _ ⟨0, by omega, ?_, ?_, ?_, ?_, rfl, rfl, rfl, rfl⟩) ?_
  · simp only [go_sem, argR]
  · simp only [go_sem, argR]
  · simp only [go_sem, argR]
  · (simp only [go_sem, argR]) <;> rfl
  · rintro ex ρ' ms' h1 d1 ⟨⟨rfl, hany⟩ | ⟨rfl, hany, k2⟩, rfl, rfl, rfl⟩
    · repeat (first | apply run_seq | apply run_block | apply end_seq | apply end_blk_hit | apply end_blk_miss rfl | apply end_blk | apply end_seq_exit | apply end_seq_ret | apply end_blk_ret | apply run_skip | apply run_ret | apply run_exit | (apply run_region (by decide); (simp only [go_sem]; rfl)) | (refine run_cond_t ?_ ?_; · simp only [go_sem]) | (refine run_cond_f ?_ ?_; · simp only [go_sem]))
      rw [hany]
      exact end_nil (q_ret1 _ (by simp only [go_sem]) rfl (take_self _))
    · repeat (first | apply run_seq | apply run_block | apply end_seq | apply end_blk_hit | apply end_blk_miss rfl | apply end_blk | apply end_seq_exit | apply end_seq_ret | apply end_blk_ret | apply run_skip | apply run_ret | apply run_exit | (apply run_region (by decide); (simp only [go_sem]; rfl)) | (refine run_cond_t ?_ ?_; · simp only [go_sem]) | (refine run_cond_f ?_ ?_; · simp only [go_sem]))
      rw [hany]
      exact end_nil (q_ret1 _ (by rw [k2]; rfl) rfl (take_self _))
theorem contains85 {h : SHeap} {v : Value} {l : List (Int × Int)} (hv : PS h v l) (hs : l.length < 4611686018427387904) : M.call 85 [v, .func (.func g) #[] #[]] h = some (.bool (l.any q), h, []) := by
  have e := index105 g q hg hv hs
  obtain ⟨a, c, rfl, kp⟩ := hv
  refine call_run sf85 rfl rfl rfl ?_
  unfold sf85
  cases hq : l.any q with
  | true =>
    rw [hq, if_pos rfl] at e
    have e0 : (0 : Int) ≤ (l.findIdx q : Int) := by omega
    repeat (first | apply run_seq | apply run_block | apply end_seq | apply end_blk_hit | apply end_blk_miss rfl | apply end_blk | apply end_seq_exit | apply end_seq_ret | apply end_blk_ret | apply run_skip | apply run_ret | apply run_exit | (apply run_region (by decide); (simp only [go_sem, argR, e, e0]; rfl)) | (refine run_cond_t ?_ ?_; · simp only [go_sem]) | (refine run_cond_f ?_ ?_; · simp only [go_sem]))
    exact end_nil (q_ret1 _ (by simp only [go_sem]) rfl (take_self _))
  | false =>
    rw [hq, if_neg (by decide)] at e
    have e0 : ¬ (0 : Int) ≤ -1 := by decide
    repeat (first | apply run_seq | apply run_block | apply end_seq | apply end_blk_hit | apply end_blk_miss rfl | apply end_blk | apply end_seq_exit | apply end_seq_ret | apply end_blk_ret | apply run_skip | apply run_ret | apply run_exit | (apply run_region (by decide); (simp only [go_sem, argR, e, e0]; rfl)) | (refine run_cond_t ?_ ?_; · simp only [go_sem]) | (refine run_cond_f ?_ ?_; · simp only [go_sem]))
    exact end_nil (q_ret1 _ (by simp only [go_sem]) rfl (take_self _))
end

end Go.Proofs.Ytecncmmkghmojaa.Sh


