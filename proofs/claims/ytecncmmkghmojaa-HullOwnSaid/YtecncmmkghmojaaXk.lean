/- Area and Middle, the program's and the document's. -/
import Derived.Test.YtecncmmkghmojaaH7
set_option linter.all false
namespace Go.Proofs.Ytecncmmkghmojaa.Sh
open Go Geo
set_option maxRecDepth 100000

/-- a call that has opened a hull -/
def opened (h : SHeap) (l : List (Int × Int)) : SHeap := h ++ [.cells [.slice (some ⟨h.length + 1, 0, none⟩) l.length (UNK + 2), .int .i64 (mX l), .int .i64 (mY l), .int .i64 (mD l)] 79 false 0 [], .cells (prs l) 77 true 0 []]
theorem opened_body (h : SHeap) (l : List (Int × Int)) : Body (opened h l) h.length (h.length + 1) (UNK + 2) l (mX l) (mY l) (mD l) :=
  ⟨by unfold opened; rw [app_get0]; rfl, Prs.mk0 (by unfold opened; rw [app_get]; rfl) rfl⟩
theorem opened_take (h : SHeap) (l : List (Int × Int)) : (opened h l).take h.length = h := take_app _ _
theorem open62' {h : SHeap} {v : Value} {l : List (Int × Int)} (hv : PS h v l) (T : Tame l) : M.call 62 [v] h = some (.tuple #[.pointer (some ⟨h.length, 0, none⟩), .int .i64 0], opened h l, []) := open62 hv T

/-- corners of an argument, read in a longer heap -/
theorem Prs.corner {h : SHeap} {b o : Nat} {l : List (Int × Int)} (k : Prs h b o l) {i : Nat} (hi : i < l.length) (e : List SO) : loadS (h ++ e) (some 2) (.pointer (some ⟨b, o + i * 2, none⟩)) = some (.agg #[.int .i64 (cn l i).1, .int .i64 (cn l i).2]) := by
  have := (k.app e).loadN hi
  rw [this]
  unfold cn
  rw [List.getD_eq_getElem?_getD, List.getElem?_eq_getElem hi]; rfl
theorem Ext.prs {h h' : SHeap} {b o : Nat} {l : List (Int × Int)} (e : Ext h h') (k : Prs h b o l) : Prs h' b o l := by
  obtain ⟨g, rfl⟩ := e
  exact k.app g
theorem S_part (n k : Nat) (f : Nat → Int) (m : Nat) (h : ∀ k, (f k).natAbs ≤ m) : (S k f).natAbs ≤ k * m := S_bound m (fun k _ => h k)

theorem areaR_loop (cx : Cx) {h : SHeap} {b o c : Nat} {l : List (Int × Int)} (hp : Prs h b o l) (hl : ∀ q ∈ l, inR q) (hn : l.length ≤ 12) : ∀ k ρ ms h' d', (∃ i : Nat, i + k = l.length ∧ ρ 0 = .slice (some ⟨b, o, none⟩) l.length c ∧ ρ 3 = .int .i64 (S i (cz l)) ∧ ρ 4 = .int .i64 i ∧ ms = [] ∧ Ext h h' ∧ d' = []) →
    LoopW M cx 6 sf21L0 ρ ms h' d' (fun ex ρ' ms' h' d' => ex = .exit 0 ∧ ρ' 3 = .int .i64 (areaZ l) ∧ ms' = [] ∧ Ext h h' ∧ d' = []) := by
  refine loop_run _ ?_
  rintro k ρ ms h' d' ⟨i, hi, h0, h3, h4, rfl, hx, rfl⟩
  unfold sf21L0
  by_cases hk : k = 0
  · have e1 : ¬ ((i : Int) < l.length) := by omega
    have ei : i = l.length := by omega
    repeat (first | apply run_seq | apply run_block | apply end_seq | apply end_blk_hit | apply end_blk_miss rfl | apply end_blk | apply end_seq_exit | apply end_seq_ret | apply end_blk_ret | apply run_skip | apply run_ret | apply run_exit | (apply run_region (by decide); (simp only [go_sem, h0, h4, e1]; rfl)) | (refine run_cond_t ?_ ?_; · simp only [go_sem]) | (refine run_cond_f ?_ ?_; · simp only [go_sem]))
    refine end_nil ⟨rfl, ?_, rfl, hx, rfl⟩
    simp only [go_sem, h3]
    rw [ei]; rfl
  · have e1 : (i : Int) < l.length := by omega
    have e2 : (0 : Int) ≤ i := by omega
    have hil : i < l.length := by omega
    have ew : IntKind.i64.wrap ((i : Int) + 1) = ((i + 1 : Nat) : Int) := by rw [wrap64 (by omega) (by omega)]; rfl
    have hqm : (i + 1) % l.length < l.length := Nat.mod_lt _ (by omega)
    have v4 : (((i + 1 : Nat) : Int)).tmod (l.length : Int) = (((i + 1) % l.length : Nat) : Int) := by rw [Int.tmod_eq_emod_of_nonneg (by omega)]; rfl
    have hz : ¬ ((l.length : Int) = 0) := by omega
    have p3 : (((i + 1) % l.length : Nat) : Int) < l.length := by omega
    have p4 : (0 : Int) ≤ (((i + 1) % l.length : Nat) : Int) := by omega
    have hp' := hx.prs hp
    have l1 := hp'.corner hil
    have l2 := hp'.corner hqm
    have ss := S_succ i (cz l)
    have sb := S_part l.length i (cz l) 800 (fun k => cz_bound hl k)
    have sb2 := S_part l.length (i + 1) (cz l) 800 (fun k => cz_bound hl k)
    have zc : cz l i = (cn l i).1 * (cn l ((i + 1) % l.length)).2 - (cn l i).2 * (cn l ((i + 1) % l.length)).1 := rfl
    have hp1 := inR_getD hl i
    have hq1 := inR_getD hl ((i + 1) % l.length)
    generalize (i + 1) % l.length = a at *
    have r1 : inR (cn l i) := hp1
    have r2 : inR (cn l a) := hq1
    clear hp1 hq1
    generalize cn l i = p at *
    generalize cn l a = q at *
    have m1 : (p.1 * q.2).natAbs ≤ 400 := Nat.le_trans (mul_bound (m := 20) (n := 20) (by have := r1; unfold inR at this; omega) (by have := r2; unfold inR at this; omega)) (by decide)
    have m2 : (p.2 * q.1).natAbs ≤ 400 := Nat.le_trans (mul_bound (m := 20) (n := 20) (by have := r1; unfold inR at this; omega) (by have := r2; unfold inR at this; omega)) (by decide)
    have w1 : IntKind.i64.wrap (p.1 * q.2) = p.1 * q.2 := wrap_abs (by omega)
    have w2 : IntKind.i64.wrap (p.2 * q.1) = p.2 * q.1 := wrap_abs (by omega)
    have w3 : IntKind.i64.wrap (S i (cz l) + p.1 * q.2) = S i (cz l) + p.1 * q.2 := wrap_abs (by omega)
    have w4 : IntKind.i64.wrap (S i (cz l) + p.1 * q.2 - p.2 * q.1) = S (i + 1) (cz l) := by rw [wrap_abs (by omega)]; omega
    have rep2 : List.replicate 2 SO.gone = [SO.gone, SO.gone] := rfl
    repeat (first | apply run_seq | apply run_block | apply end_seq | apply end_blk_hit | apply end_blk_miss rfl | apply end_blk | apply end_seq_exit | apply end_seq_ret | apply end_blk_ret | apply run_skip | apply run_ret | apply run_exit | (apply run_region (by decide); (simp only [go_sem, h0, h4, e1]; rfl)) | (refine run_cond_t ?_ ?_; · simp only [go_sem]) | (refine run_cond_f ?_ ?_; · simp only [go_sem]))
    apply run_regionN (by decide)
    · simp only [go_sem, h0, h4, e1, e2, l1, l2, ew, v4, hz, p3, p4, rep2, new_some, Int.toNat_natCast]
      rfl
    repeat (first | apply run_seq | apply run_block | apply end_seq | apply end_blk_hit | apply end_blk_miss rfl | apply end_blk | apply end_seq_exit | apply end_seq_ret | apply end_blk_ret | apply run_skip | apply run_ret | apply run_exit | (apply run_region (by decide); (simp only [go_sem, h3, h4, w1, w2, w3, w4, ew]; rfl)) | (refine run_cond_t ?_ ?_; · simp only [go_sem]) | (refine run_cond_f ?_ ?_; · simp only [go_sem]))
    refine end_nil ⟨k - 1, by omega, i + 1, by omega, ?_, ?_, ?_, rfl, hx.app _, rfl⟩
    · simp only [go_sem, h0]
    · simp only [go_sem, w4]
    · simp only [go_sem, ew]

/-- Area of the document -/
theorem areaR21 {h : SHeap} {v : Value} {l : List (Int × Int)} (hv : PS h v l) (T : Tame l) : M.call 21 [v] h = some (.int .i64 (areaZ l), h, []) := by
  have T1 := T.lo
  obtain ⟨a, c, rfl, hps⟩ := hv
  obtain ⟨b, o, rfl, hp⟩ := hps (by intro e; rw [e] at T1; simp at T1)
  refine call_run sf21 rfl rfl rfl ?_
  unfold sf21
  repeat (first | apply run_seq | apply run_block | apply end_seq | apply end_blk_hit | apply end_blk_miss rfl | apply end_blk | apply end_seq_exit | apply end_seq_ret | apply end_blk_ret | apply run_skip | apply run_ret | apply run_exit | (apply run_region (by decide); (simp only [go_sem, argR]; rfl)) | (refine run_cond_t ?_ ?_; · simp only [go_sem]) | (refine run_cond_f ?_ ?_; · simp only [go_sem]))
  refine run_loop (areaR_loop _ (c := c) hp T.inr T.hi l.length _ _ _ _ ⟨0, by omega, by simp only [go_sem, argR], by simp only [go_sem]; rfl, by simp only [go_sem], rfl, Ext.refl h, rfl⟩) ?_
  rintro ex ρ' ms' h1 d1 ⟨rfl, k3, rfl, hx, rfl⟩
  repeat (first | apply run_seq | apply run_block | apply end_seq | apply end_blk_hit | apply end_blk_miss rfl | apply end_blk | apply end_seq_exit | apply end_seq_ret | apply end_blk_ret | apply run_skip | apply run_ret | apply run_exit | (apply run_region (by decide); (simp only [go_sem, k3]; rfl)) | (refine run_cond_t ?_ ?_; · simp only [go_sem]) | (refine run_cond_f ?_ ?_; · simp only [go_sem]))
  exact end_nil (q_ret1 _ (by simp only [go_sem]) rfl hx.take)
end Go.Proofs.Ytecncmmkghmojaa.Sh

