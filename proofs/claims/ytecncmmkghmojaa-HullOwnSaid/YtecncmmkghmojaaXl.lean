/- Middle of the document, and the law of the middles. -/
import Derived.Test.YtecncmmkghmojaaXk
set_option linter.all false
namespace Go.Proofs.Ytecncmmkghmojaa.Sh
open Go Geo
set_option maxRecDepth 100000

theorem middleR_loop (cx : Cx) {h : SHeap} {b o c : Nat} {l : List (Int × Int)} (hp : Prs h b o l) (hl : ∀ q ∈ l, inR q) (hn : l.length ≤ 12) (v2 : Value) : ∀ k ρ ms h' d', (∃ i : Nat, i + k = l.length ∧ ρ 0 = .slice (some ⟨b, o, none⟩) l.length c ∧ ρ 2 = v2 ∧ ρ 3 = .int .i64 (S i (fX l)) ∧ ρ 4 = .int .i64 (S i (fY l)) ∧ ρ 5 = .int .i64 i ∧ ms = [] ∧ Ext h h' ∧ d' = []) →
    LoopW M cx 7 sf22L0 ρ ms h' d' (fun ex ρ' ms' h' d' => ex = .exit 0 ∧ ρ' 0 = .slice (some ⟨b, o, none⟩) l.length c ∧ ρ' 2 = v2 ∧ ρ' 3 = .int .i64 (midX l) ∧ ρ' 4 = .int .i64 (midY l) ∧ ms' = [] ∧ Ext h h' ∧ d' = []) := by
  refine loop_run _ ?_
  rintro k ρ ms h' d' ⟨i, hi, h0, h2, h3, h4, h5, rfl, hx, rfl⟩
  unfold sf22L0
  by_cases hk : k = 0
  · have e1 : ¬ ((i : Int) < l.length) := by omega
    have ei : i = l.length := by omega
    repeat (first | apply run_seq | apply run_block | apply end_seq | apply end_blk_hit | apply end_blk_miss rfl | apply end_blk | apply end_seq_exit | apply end_seq_ret | apply end_blk_ret | apply run_skip | apply run_ret | apply run_exit | (apply run_region (by decide); (simp only [go_sem, h0, h5, e1]; rfl)) | (refine run_cond_t ?_ ?_; · simp only [go_sem]) | (refine run_cond_f ?_ ?_; · simp only [go_sem]))
    refine end_nil ⟨rfl, ?_, ?_, ?_, ?_, rfl, hx, rfl⟩
    · simp only [go_sem, h0]
    · simp only [go_sem, h2]
    · simp only [go_sem, h3]; rw [ei]; rfl
    · simp only [go_sem, h4]; rw [ei]; rfl
  · have e1 : (i : Int) < l.length := by omega
    have e2 : (0 : Int) ≤ i := by omega
    have hil : i < l.length := by omega
    have ew : IntKind.i64.wrap ((i : Int) + 1) = ((i + 1 : Nat) : Int) := by rw [wrap64 (by omega) (by omega)]; rfl
    have hqm : (i + 1) % l.length < l.length := Nat.mod_lt _ (by omega)
    have v4 : (((i + 1 : Nat) : Int)).tmod (l.length : Int) = (((i + 1) % l.length : Nat) : Int) := by rw [Int.tmod_eq_emod_of_nonneg (by omega)]; rfl
    have hz : ¬ ((l.length : Int) = 0) := by omega
    have p3 : (((i + 1) % l.length : Nat) : Int) < l.length := by omega
    have p4 : (0 : Int) ≤ (((i + 1) % l.length : Nat) : Int) := by omega
    have hp' := hx.prs hp
    have l1 := hp'.corner hil
    have l2 := hp'.corner hqm
    have ssx := S_succ i (fX l)
    have ssy := S_succ i (fY l)
    have sx := S_part l.length i (fX l) 32000 (fun k => fX_bound hl k)
    have sx2 := S_part l.length (i + 1) (fX l) 32000 (fun k => fX_bound hl k)
    have sy := S_part l.length i (fY l) 32000 (fun k => fY_bound hl k)
    have sy2 := S_part l.length (i + 1) (fY l) 32000 (fun k => fY_bound hl k)
    have bz := cz_bound hl i
    have bx := fX_bound hl i
    have bY := fY_bound hl i
    have zx : fX l i = ((cn l i).1 + (cn l ((i + 1) % l.length)).1) * cz l i := rfl
    have zy : fY l i = ((cn l i).2 + (cn l ((i + 1) % l.length)).2) * cz l i := rfl
    have zc : cz l i = (cn l i).1 * (cn l ((i + 1) % l.length)).2 - (cn l i).2 * (cn l ((i + 1) % l.length)).1 := rfl
    have r1 : inR (cn l i) := inR_getD hl i
    have r2 : inR (cn l ((i + 1) % l.length)) := inR_getD hl ((i + 1) % l.length)
    generalize (i + 1) % l.length = a at *
    generalize cn l i = p at *
    generalize cn l a = q at *
    generalize cz l i = z at *
    have m1 : (p.1 * q.2).natAbs ≤ 400 := Nat.le_trans (mul_bound (m := 20) (n := 20) (by have := r1; unfold inR at this; omega) (by have := r2; unfold inR at this; omega)) (by decide)
    have m2 : (p.2 * q.1).natAbs ≤ 400 := Nat.le_trans (mul_bound (m := 20) (n := 20) (by have := r1; unfold inR at this; omega) (by have := r2; unfold inR at this; omega)) (by decide)
    have w1 : IntKind.i64.wrap (p.1 * q.2) = p.1 * q.2 := wrap_abs (by omega)
    have w2 : IntKind.i64.wrap (p.2 * q.1) = p.2 * q.1 := wrap_abs (by omega)
    have w3 : IntKind.i64.wrap (p.1 * q.2 - p.2 * q.1) = z := by rw [wrap_abs (by omega)]; omega
    have w4 : IntKind.i64.wrap (p.1 + q.1) = p.1 + q.1 := by have := r1; have := r2; unfold inR at *; exact wrap64 (by omega) (by omega)
    have w5 : IntKind.i64.wrap (p.2 + q.2) = p.2 + q.2 := by have := r1; have := r2; unfold inR at *; exact wrap64 (by omega) (by omega)
    have w6 : IntKind.i64.wrap ((p.1 + q.1) * z) = fX l i := by rw [← zx]; exact wrap_abs (by omega)
    have w7 : IntKind.i64.wrap ((p.2 + q.2) * z) = fY l i := by rw [← zy]; exact wrap_abs (by omega)
    have w8 : IntKind.i64.wrap (S i (fX l) + fX l i) = S (i + 1) (fX l) := by rw [← ssx]; exact wrap_abs (by omega)
    have w9 : IntKind.i64.wrap (S i (fY l) + fY l i) = S (i + 1) (fY l) := by rw [← ssy]; exact wrap_abs (by omega)
    have rep2 : List.replicate 2 SO.gone = [SO.gone, SO.gone] := rfl
    repeat (first | apply run_seq | apply run_block | apply end_seq | apply end_blk_hit | apply end_blk_miss rfl | apply end_blk | apply end_seq_exit | apply end_seq_ret | apply end_blk_ret | apply run_skip | apply run_ret | apply run_exit | (apply run_region (by decide); (simp only [go_sem, h0, h5, e1]; rfl)) | (refine run_cond_t ?_ ?_; · simp only [go_sem]) | (refine run_cond_f ?_ ?_; · simp only [go_sem]))
    apply run_regionN (by decide)
    · simp only [go_sem, h0, h5, e1, e2, l1, l2, ew, v4, hz, p3, p4, rep2, new_some, Int.toNat_natCast]
      rfl
    repeat (first | apply run_seq | apply run_block | apply end_seq | apply end_blk_hit | apply end_blk_miss rfl | apply end_blk | apply end_seq_exit | apply end_seq_ret | apply end_blk_ret | apply run_skip | apply run_ret | apply run_exit | (apply run_region (by decide); (simp only [go_sem, h3, h4, h5, w1, w2, w3, w4, w5, w6, w7, w8, w9, ew]; rfl)) | (refine run_cond_t ?_ ?_; · simp only [go_sem]) | (refine run_cond_f ?_ ?_; · simp only [go_sem]))
    refine end_nil ⟨k - 1, by omega, i + 1, by omega, ?_, ?_, ?_, ?_, ?_, rfl, hx.app _, rfl⟩
    · simp only [go_sem, h0]
    · simp only [go_sem, h2]
    · simp only [go_sem, w8]
    · simp only [go_sem, w9]
    · simp only [go_sem, ew]

/-- Middle of the document -/
theorem middleR22 {h : SHeap} {v : Value} {l : List (Int × Int)} (hv : PS h v l) (T : Tame l) : M.call 22 [v] h = some (.agg #[.int .i64 (mX l), .int .i64 (mY l), .int .i64 (mD l)], h, []) := by
  have T1 := T.lo
  have hv0 := hv
  obtain ⟨a, c, rfl, hps⟩ := hv
  obtain ⟨b, o, rfl, hp⟩ := hps (by intro e; rw [e] at T1; simp at T1)
  refine call_run sf22 rfl rfl rfl ?_
  unfold sf22
  repeat (first | apply run_seq | apply run_block | apply end_seq | apply end_blk_hit | apply end_blk_miss rfl | apply end_blk | apply end_seq_exit | apply end_seq_ret | apply end_blk_ret | apply run_skip | apply run_ret | apply run_exit | (apply run_region (by decide); (simp only [go_sem, argR]; rfl)) | (refine run_cond_t ?_ ?_; · simp only [go_sem]) | (refine run_cond_f ?_ ?_; · simp only [go_sem]))
  refine run_loop (middleR_loop _ (c := c) (hp.app [SO.cells [.int .i64 0, .int .i64 0, .int .i64 0] 27 true 0 []]) T.inr T.hi (.pointer (some ⟨h.length, 0, none⟩)) l.length _ _ _ _ ⟨0, by omega, by simp only [go_sem, argR], by simp only [go_sem], by simp only [go_sem]; rfl, by simp only [go_sem]; rfl, by simp only [go_sem], rfl, Ext.refl _, rfl⟩) ?_
  rintro ex ρ' ms' h1 d1 ⟨rfl, k0, k2, k3, k4, rfl, ⟨g, rfl⟩, rfl⟩
  have c21 := areaR21 (h := h ++ [SO.cells [.int .i64 0, .int .i64 0, .int .i64 0] 27 true 0 []] ++ g) ((hv0.app _).app _) T
  rw [List.append_assoc, List.cons_append, List.nil_append] at c21
  have ba := area_bound T
  have bx := midX_bound T
  have bY := midY_bound T
  have wa : IntKind.i64.wrap (3 * areaZ l) = 3 * areaZ l := wrap_abs (by omega)
  have g1 := fun h => gcdR (midX l) (midY l) h (by omega) (by omega)
  have hgle : Int.gcd (midX l) (midY l) ≤ 384000 := by
    have := gcdL_le [midX l, midY l] 384000 (by intro x hx; simp at hx; rcases hx with rfl | rfl <;> omega)
    rwa [gcdL_two] at this
  have g2 := fun h => gcdR (Int.gcd (midX l) (midY l) : Nat) (3 * areaZ l) h (by omega) (by omega)
  have hgm : Int.gcd ((Int.gcd (midX l) (midY l) : Nat) : Int) (3 * areaZ l) = midG l := by unfold midG; rw [gcdL_three]
  rw [hgm] at g2
  have hgp := midG_pos T
  have hg0 : ¬ ((midG l : Int) = 0) := by omega
  have wx : IntKind.i64.wrap ((midX l).tdiv (midG l)) = mX l := wrap_abs (tdiv_le _ _ _ (by omega))
  have wy : IntKind.i64.wrap ((midY l).tdiv (midG l)) = mY l := wrap_abs (tdiv_le _ _ _ (by omega))
  have wd : IntKind.i64.wrap ((3 * areaZ l).tdiv (midG l)) = mD l := wrap_abs (tdiv_le _ _ _ (by omega))
  repeat (first | apply run_seq | apply run_block | apply end_seq | apply end_blk_hit | apply end_blk_miss rfl | apply end_blk | apply end_seq_exit | apply end_seq_ret | apply end_blk_ret | apply run_skip | apply run_ret | apply run_exit | (apply run_region (by decide); (simp only [go_sem, k0, k2, k3, k4, c21, wa, g1, g2, hg0, wx, wy, wd]; rfl)) | (refine run_cond_t ?_ ?_; · simp only [go_sem]) | (refine run_cond_f ?_ ?_; · simp only [go_sem]))
  refine end_nil (q_cell [.int .i64 (mX l), .int .i64 (mY l), .int .i64 (mD l)] ?_ rfl ⟨some ⟨h.length, 0, none⟩, by simp only [go_sem, k2]⟩ (take_app _ _))
  simp only [go_sem, k2]
end Go.Proofs.Ytecncmmkghmojaa.Sh

