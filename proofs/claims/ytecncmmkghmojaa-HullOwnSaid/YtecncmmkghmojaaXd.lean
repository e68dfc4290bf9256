/- The iterator over corners: its making and its run. -/
import Derived.Test.YtecncmmkghmojaaXc
set_option linter.all false
namespace Go.Proofs.Ytecncmmkghmojaa.Sh
open Go Geo
set_option maxRecDepth 100000

theorem setLoop_eq {h : SHeap} {L st0 fn df : Nat} {t : T} {ps : List Nat} {as body : SCode} {pd : Option SCode} (hL : h[L]? = some (.loop st0 fn t ps as body pd df)) (st : Nat) (pend : Option SCode) : setLoop h L st pend = h.set L (.loop st fn t ps as body pend df) := by
  unfold setLoop; rw [hL]

theorem q_gcf {base : Nat} {i : Nat} {ρ : Reg} {h h' : SHeap} {f : Fn} {a b : Array Value} {r : Value} (hv : ρ i = .func f a b) (hg : gcS base (.func f a b) h = some (r, h')) : callQ [.tmp i] base (r, h', []) .ret ρ [] h [] := by
  refine ⟨rfl, ?_⟩
  show opn (ρ i) fun v' => endW base h [] (r, h', []) [v']
  rw [hv]
  exact ⟨_, _, hg, rfl⟩

/-- around -/
theorem around99 (cb n c : Nat) (h : SHeap) (hc : cb < h.length) : M.call 99 [.slice (some ⟨cb, 0, none⟩) n c] h = some (.func (.func 109) #[] #[.pointer (some ⟨h.length, 0, none⟩)], h ++ [.cells [.slice (some ⟨cb, 0, none⟩) n c] 76 false 0 []], []) := by
  refine call_run sf99 rfl rfl rfl ?_
  unfold sf99
  repeat (first | apply run_seq | apply run_block | apply end_seq | apply end_blk_hit | apply end_blk_miss rfl | apply end_blk | apply end_seq_exit | apply end_seq_ret | apply end_blk_ret | apply run_skip | apply run_ret | apply run_exit | (apply run_region (by decide); (simp only [go_sem, argR]; rfl)) | (refine run_cond_t ?_ ?_; · simp only [go_sem]) | (refine run_cond_f ?_ ?_; · simp only [go_sem]))
  refine end_nil (q_gcf (f := .func 109) (a := #[]) (b := #[.pointer (some ⟨h.length, 0, none⟩)]) (by simp only [go_sem]) ?_)
  have e0 : (h ++ [SO.cells [.slice (some ⟨cb, 0, none⟩) n c] 76 false 0 []])[h.length]? = some (.cells [.slice (some ⟨cb, 0, none⟩) n c] 76 false 0 []) := by rw [app_get0]; rfl
  have eb : Nat.ble h.length h.length = true := by rw [ble_dec]; simp
  have ec : Nat.ble h.length cb = false := by rw [ble_dec]; simpa using hc
  have ep : ptrs 3 (.func (.func 109) #[] #[.pointer (some ⟨h.length, 0, none⟩)]) = [h.length] := rfl
  have eo : ptrsO (some (SO.cells [.slice (some ⟨cb, 0, none⟩) n c] 76 false 0 [])) = [cb] := rfl
  have e1 : reach h.length (h ++ [SO.cells [.slice (some ⟨cb, 0, none⟩) n c] 76 false 0 []]) 1000000 [h.length] [] = [h.length] := by
    rw [show (1000000 : Nat) = 999997 + 1 + 1 + 1 from rfl, reach]
    simp only [eb, List.contains_nil, Bool.not_true, Bool.or_self, Bool.false_eq_true, if_false, e0, eo]
    rw [List.cons_append, reach]
    simp only [ec, Bool.not_false, Bool.true_or, if_true, List.nil_append]
    rw [reach]
  have e2 : ren h.length [h.length] h.length = some h.length := by
    simp [ren, eb, posOf]
  have e3 : ren h.length [h.length] cb = some cb := by
    simp [ren, ec]
  have er : renV h.length [h.length] 3 (.func (.func 109) #[] #[.pointer (some ⟨h.length, 0, none⟩)]) = some (.func (.func 109) #[] #[.pointer (some ⟨h.length, 0, none⟩)]) := by
    simp [renV, mapO, e2]
  have es : renV h.length [h.length] 3 (.slice (some ⟨cb, 0, none⟩) n c) = some (.slice (some ⟨cb, 0, none⟩) n c) := by
    simp [renV, e3]
  have ef : ((0 : Nat) == 2) = false := rfl
  unfold gcS
  simp only [ep, e1, er, mapO, renO, e0, es, ef, Bool.false_eq_true, if_false, take_app, List.filterMap_nil]

/-- the iterator's run -/
theorem around109 {h : SHeap} {L pb cb c : Nat} {l : List (Int × Int)} (hn1 : 1 ≤ l.length) (hn : l.length ≤ 12) (J : Nat → SHeap → List Nat → Prop)
    (happ : ∀ k hh dd g, J k hh dd → J k (hh ++ g) dd) (hfix : ∀ k hh dd, J k hh dd → loadS hh none (.pointer (some ⟨pb, 0, none⟩)) = some (.slice (some ⟨cb, 0, none⟩) l.length c) ∧ Prs hh cb 0 l)
    (hrd : ∀ k hh dd, k < l.length → J k hh dd → ∃ hh' d', M.round h.length L [.int .i64 k, .agg (nbr l k).toArray] hh = some (.bool true, hh', d') ∧ J (k + 1) hh' (d' ++ dd))
    (h0 : J 0 h []) :
    ∃ r, (∃ hh dd, J l.length hh dd ∧ ((dd = [] ∧ r = (.tuple #[], hh.take h.length, [])) ∨ (dd ≠ [] ∧ r = (.tuple #[], hh, dd)))) ∧ M.call 109 [.func (.yield L) #[] #[], .pointer (some ⟨pb, 0, none⟩)] h = some r := by
  refine call_ex _ sf109 rfl rfl rfl ?_
  unfold sf109
  obtain ⟨f1, f2⟩ := hfix 0 h [] h0
  repeat (first | apply run_seq | apply run_block | apply end_seq | apply end_blk_hit | apply end_blk_miss rfl | apply end_blk | apply end_seq_exit | apply end_seq_ret | apply end_blk_ret | apply run_skip | apply run_ret | apply run_exit | (apply run_region (by decide); (simp only [go_sem, argR, f1]; rfl)) | (refine run_cond_t ?_ ?_; · simp only [go_sem]) | (refine run_cond_f ?_ ?_; · simp only [go_sem]))
  refine run_loop (around_loop _ L pb cb c l hn1 hn J happ hfix hrd l.length _ _ _ _ ⟨0, by omega, by simp only [go_sem, argR], by simp only [go_sem, argR], by simp only [go_sem], by simp only [go_sem], by simp only [go_sem], by simp only [go_sem], h0, rfl⟩) ?_
  rintro ex ρ' ms' hh dd ⟨rfl, hj, rfl⟩
  repeat (first | apply run_seq | apply run_block | apply end_seq | apply end_blk_hit | apply end_blk_miss rfl | apply end_blk | apply end_seq_exit | apply end_seq_ret | apply end_blk_ret | apply run_skip | apply run_ret | apply run_exit | (apply run_region (by decide); (simp only [go_sem]; rfl)) | (refine run_cond_t ?_ ?_; · simp only [go_sem]) | (refine run_cond_f ?_ ?_; · simp only [go_sem]))
  refine end_nil ?_
  cases dd with
  | nil => exact ⟨_, ⟨hh, [], hj, .inl ⟨rfl, rfl⟩⟩, rfl, _, _, gc_flat rfl, rfl⟩
  | cons x xs => exact ⟨_, ⟨hh, x :: xs, hj, .inr ⟨by simp, rfl⟩⟩, rfl, rfl⟩
end Go.Proofs.Ytecncmmkghmojaa.Sh

