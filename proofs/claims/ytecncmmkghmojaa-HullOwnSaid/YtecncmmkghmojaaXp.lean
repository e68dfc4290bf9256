/- Rests and tips of the document; comparing numbers; the law of the rests. -/
import Derived.Test.YtecncmmkghmojaaXo
set_option linter.all false
namespace Go.Proofs.Ytecncmmkghmojaa.Sh
open Go Geo
set_option maxRecDepth 100000

/-- along -/
theorem along79 {X Y D : Int} (F : Fine X Y D) {p q : Int × Int} (hp : inR p) (hq : inR q) (h : SHeap) :
    M.call 79 [.agg #[.int .i64 X, .int .i64 Y, .int .i64 D], .agg #[.int .i64 p.1, .int .i64 p.2], .agg #[.int .i64 q.1, .int .i64 q.2]] h = some (.int .i64 (ahd X Y D p q), h, []) := by
  have hx := F.x
  have hy := F.y
  have hm := inR_mul F.d hp
  rw [Int.mul_comm D p.1, Int.mul_comm D p.2] at hm
  obtain ⟨a1, a2, a3, a4⟩ := hp
  obtain ⟨b1, b2, b3, b4⟩ := hq
  have w1 : IntKind.i64.wrap (q.1 - p.1) = q.1 - p.1 := wrap_abs (by omega)
  have w2 : IntKind.i64.wrap (q.2 - p.2) = q.2 - p.2 := wrap_abs (by omega)
  have w3 : IntKind.i64.wrap (p.1 * D) = p.1 * D := wrap_abs (by omega)
  have w4 : IntKind.i64.wrap (p.2 * D) = p.2 * D := wrap_abs (by omega)
  have w5 : IntKind.i64.wrap (X - p.1 * D) = X - p.1 * D := wrap_abs (by omega)
  have w6 : IntKind.i64.wrap (Y - p.2 * D) = Y - p.2 * D := wrap_abs (by omega)
  have m1 : ((q.1 - p.1) * (X - p.1 * D)).natAbs ≤ 40 * 1000000 := mul_bound (by omega) (by omega)
  have m2 : ((q.2 - p.2) * (Y - p.2 * D)).natAbs ≤ 40 * 1000000 := mul_bound (by omega) (by omega)
  have w7 : IntKind.i64.wrap ((q.1 - p.1) * (X - p.1 * D)) = (q.1 - p.1) * (X - p.1 * D) := wrap_abs (by omega)
  have w8 : IntKind.i64.wrap ((q.2 - p.2) * (Y - p.2 * D)) = (q.2 - p.2) * (Y - p.2 * D) := wrap_abs (by omega)
  have w9 : IntKind.i64.wrap ((q.1 - p.1) * (X - p.1 * D) + (q.2 - p.2) * (Y - p.2 * D)) = (q.1 - p.1) * (X - p.1 * D) + (q.2 - p.2) * (Y - p.2 * D) := wrap_abs (by omega)
  rw [ahd_eq]
  refine call_run sf79 rfl rfl rfl ?_
  unfold sf79
  repeat (first | apply run_seq | apply run_block | apply end_seq | apply end_blk_hit | apply end_blk_miss rfl | apply end_blk | apply end_seq_exit | apply end_seq_ret | apply end_blk_ret | apply run_skip | apply run_ret | apply run_exit | (apply run_region (by decide); (simp only [go_sem, argR, w1, w2, w3, w4, w5, w6, w7, w8, w9]; rfl)) | (refine run_cond_t ?_ ?_; · simp only [go_sem]) | (refine run_cond_f ?_ ?_; · simp only [go_sem]))
  exact end_nil (q_ret1 _ (by simp only [go_sem, w9]) rfl (take_app _ _))

/-- ends of the document -/
theorem endsR83 {h : SHeap} {v : Value} {l : List (Int × Int)} (hv : PS h v l) (hn : l.length ≤ 12) {i : Nat} (hi : i < l.length) :
    M.call 83 [v, .int .i64 i] h = some (.tuple #[.agg #[.int .i64 (cn l i).1, .int .i64 (cn l i).2], .agg #[.int .i64 (cn l ((i + 1) % l.length)).1, .int .i64 (cn l ((i + 1) % l.length)).2]], h, []) := by
  obtain ⟨a, c, rfl, hps⟩ := hv
  obtain ⟨b, o, rfl, hp⟩ := hps (by intro e; rw [e] at hi; simp at hi)
  have hqm : (i + 1) % l.length < l.length := Nat.mod_lt _ (by omega)
  have e1 : (i : Int) < l.length := by omega
  have e2 : (0 : Int) ≤ i := by omega
  have ew : IntKind.i64.wrap ((i : Int) + 1) = ((i + 1 : Nat) : Int) := by rw [wrap64 (by omega) (by omega)]; rfl
  have v4 : (((i + 1 : Nat) : Int)).tmod (l.length : Int) = (((i + 1) % l.length : Nat) : Int) := by rw [Int.tmod_eq_emod_of_nonneg (by omega)]; rfl
  have hz : ¬ ((l.length : Int) = 0) := by omega
  have p3 : (((i + 1) % l.length : Nat) : Int) < l.length := by omega
  have p4 : (0 : Int) ≤ (((i + 1) % l.length : Nat) : Int) := by omega
  have l1 := fun e => hp.corner hi e
  have l2 := fun e => hp.corner hqm e
  generalize (i + 1) % l.length = a at *
  generalize cn l i = p at *
  generalize cn l a = q at *
  refine call_run sf83 rfl rfl rfl ?_
  unfold sf83
  repeat (first | apply run_seq | apply run_block | apply end_seq | apply end_blk_hit | apply end_blk_miss rfl | apply end_blk | apply end_seq_exit | apply end_seq_ret | apply end_blk_ret | apply run_skip | apply run_ret | apply run_exit | (apply run_region (by decide); (simp only [go_sem, argR, l1, l2, e1, e2, ew, v4, hz, p3, p4, Int.toNat_natCast]; rfl)) | (refine run_cond_t ?_ ?_; · simp only [go_sem]) | (refine run_cond_f ?_ ?_; · simp only [go_sem]))
  refine end_nil (q_cell2 [.int .i64 p.1, .int .i64 p.2] [.int .i64 q.1, .int .i64 q.2] ?_ ?_ rfl rfl ⟨some ⟨h.length, 0, none⟩, by simp only [go_sem]⟩ ⟨some ⟨h.length + 1, 0, none⟩, by simp only [go_sem]⟩ (take_app _ _))
  · simp only [go_sem]
  · simp only [go_sem]

/-- Rest of the document -/
theorem rest78 {h : SHeap} {v : Value} {l : List (Int × Int)} (hv : PS h v l) (T : Tame l) {i : Nat} (hi : i < l.length) (firm : Bool) :
    M.call 78 [v, .int .i64 i, .bool firm] h = some (.bool (if firm then firmB (mX l) (mY l) (mD l) (cn l i) (cn l ((i + 1) % l.length)) else restB (mX l) (mY l) (mD l) (cn l i) (cn l ((i + 1) % l.length))), h, []) := by
  have c22 := middleR22 hv T
  have c83 := endsR83 (hv.app [SO.cells [.int .i64 (mX l), .int .i64 (mY l), .int .i64 (mD l)] 27 true 0 []]) T.hi hi
  have hp : inR (cn l i) := inR_getD T.inr i
  have hq : inR (cn l ((i + 1) % l.length)) := inR_getD T.inr ((i + 1) % l.length)
  have F := T.fine
  generalize mX l = X at *
  generalize mY l = Y at *
  generalize mD l = D at *
  generalize (i + 1) % l.length = a at *
  generalize cn l i = p at *
  generalize cn l a = q at *
  have a1 := fun e => along79 F hp hq e
  have a2 := fun e => along79 F hq hp e
  unfold firmB restB
  generalize ahd X Y D p q = A at *
  generalize ahd X Y D q p = B at *
  refine call_run sf78 rfl rfl rfl ?_
  unfold sf78
  cases firm
  · rw [if_neg (by decide)]
    by_cases c1 : 0 ≤ A
    · by_cases c2 : 0 ≤ B
      · repeat (first | apply run_seq | apply run_block | apply end_seq | apply end_blk_hit | apply end_blk_miss rfl | apply end_blk | apply end_seq_exit | apply end_seq_ret | apply end_blk_ret | apply run_skip | apply run_ret | apply run_exit | (apply run_region (by decide); (simp only [go_sem, argR, c22, c83, a1, a2, c1, c2]; rfl)) | (refine run_cond_t ?_ ?_; · simp only [go_sem]) | (refine run_cond_f ?_ ?_; · simp only [go_sem]))
        exact end_nil (q_ret1 _ (by simp only [go_sem, c1, c2]) rfl (take_app _ _))
      · repeat (first | apply run_seq | apply run_block | apply end_seq | apply end_blk_hit | apply end_blk_miss rfl | apply end_blk | apply end_seq_exit | apply end_seq_ret | apply end_blk_ret | apply run_skip | apply run_ret | apply run_exit | (apply run_region (by decide); (simp only [go_sem, argR, c22, c83, a1, a2, c1, c2]; rfl)) | (refine run_cond_t ?_ ?_; · simp only [go_sem]) | (refine run_cond_f ?_ ?_; · simp only [go_sem]))
        exact end_nil (q_ret1 _ (by simp only [go_sem, c1, c2]) rfl (take_app _ _))
    · repeat (first | apply run_seq | apply run_block | apply end_seq | apply end_blk_hit | apply end_blk_miss rfl | apply end_blk | apply end_seq_exit | apply end_seq_ret | apply end_blk_ret | apply run_skip | apply run_ret | apply run_exit | (apply run_region (by decide); (simp only [go_sem, argR, c22, c83, a1, a2, c1]; rfl)) | (refine run_cond_t ?_ ?_; · simp only [go_sem]) | (refine run_cond_f ?_ ?_; · simp only [go_sem]))
      exact end_nil (q_ret1 _ (by simp only [go_sem, c1, Bool.false_and]) rfl (take_app _ _))
  · rw [if_pos rfl]
    by_cases c1 : 0 < A
    · by_cases c2 : 0 < B
      · repeat (first | apply run_seq | apply run_block | apply end_seq | apply end_blk_hit | apply end_blk_miss rfl | apply end_blk | apply end_seq_exit | apply end_seq_ret | apply end_blk_ret | apply run_skip | apply run_ret | apply run_exit | (apply run_region (by decide); (simp only [go_sem, argR, c22, c83, a1, a2, c1, c2]; rfl)) | (refine run_cond_t ?_ ?_; · simp only [go_sem]) | (refine run_cond_f ?_ ?_; · simp only [go_sem]))
        exact end_nil (q_ret1 _ (by simp only [go_sem, c1, c2]) rfl (take_app _ _))
      · repeat (first | apply run_seq | apply run_block | apply end_seq | apply end_blk_hit | apply end_blk_miss rfl | apply end_blk | apply end_seq_exit | apply end_seq_ret | apply end_blk_ret | apply run_skip | apply run_ret | apply run_exit | (apply run_region (by decide); (simp only [go_sem, argR, c22, c83, a1, a2, c1, c2]; rfl)) | (refine run_cond_t ?_ ?_; · simp only [go_sem]) | (refine run_cond_f ?_ ?_; · simp only [go_sem]))
        exact end_nil (q_ret1 _ (by simp only [go_sem, c1, c2]) rfl (take_app _ _))
    · repeat (first | apply run_seq | apply run_block | apply end_seq | apply end_blk_hit | apply end_blk_miss rfl | apply end_blk | apply end_seq_exit | apply end_seq_ret | apply end_blk_ret | apply run_skip | apply run_ret | apply run_exit | (apply run_region (by decide); (simp only [go_sem, argR, c22, c83, a1, a2, c1]; rfl)) | (refine run_cond_t ?_ ?_; · simp only [go_sem]) | (refine run_cond_f ?_ ?_; · simp only [go_sem]))
      exact end_nil (q_ret1 _ (by simp only [go_sem, c1, Bool.false_and]) rfl (take_app _ _))

theorem AccS.ps {H0 h : SHeap} {v : Value} {cs : List Value} {n s : Nat} {el : TypeId} (A : AccS H0 h v cs n s el) {w : Value} {l : List (Int × Int)} (hw : PS H0 w l) : PS h w l := by
  obtain ⟨a, c, rfl, k⟩ := hw
  exact ⟨a, c, rfl, fun hn => let ⟨b, o, e, p⟩ := k hn; ⟨b, o, e, A.prs p⟩⟩

theorem restsR_loop (cx : Cx) {H : SHeap} {w : Value} {l : List (Int × Int)} (hw : PS H w l) (T : Tame l) (firm : Bool) (test : Nat → Bool)
    (ht : ∀ i, test i = if firm then firmB (mX l) (mY l) (mD l) (cn l i) (cn l ((i + 1) % l.length)) else restB (mX l) (mY l) (mD l) (cn l i) (cn l ((i + 1) % l.length))) :
    ∀ k ρ ms h' d', (∃ (i : Nat) (v : Value), i + k = l.length ∧ ρ 0 = w ∧ ρ 1 = .bool firm ∧ ρ 5 = v ∧ ρ 6 = .int .i64 i ∧ AccS H h' v (natV ((List.range i).filter test)) ((List.range i).filter test).length 1 3 ∧ ms = [] ∧ d' = []) →
    LoopW M cx 5 sf40L0 ρ ms h' d' (fun ex ρ' ms' h' d' => ex = .exit 0 ∧ ∃ v : Value, ρ' 5 = v ∧ AccS H h' v (natV ((List.range l.length).filter test)) ((List.range l.length).filter test).length 1 3 ∧ ms' = [] ∧ d' = []) := by
  have hn := T.hi
  refine loop_run _ ?_
  rintro k ρ ms h' d' ⟨i, v, hi, h0, h1, h5, h6, A, rfl, rfl⟩
  have hw' := A.ps hw
  have hwk := hw
  obtain ⟨wa, wc, rfl, -⟩ := hwk
  unfold sf40L0
  by_cases hk : k = 0
  · have e1 : ¬ ((i : Int) < l.length) := by omega
    have ei : i = l.length := by omega
    repeat (first | apply run_seq | apply run_block | apply end_seq | apply end_blk_hit | apply end_blk_miss rfl | apply end_blk | apply end_seq_exit | apply end_seq_ret | apply end_blk_ret | apply run_skip | apply run_ret | apply run_exit | (apply run_region (by decide); (simp only [go_sem, h0, h6, e1]; rfl)) | (refine run_cond_t ?_ ?_; · simp only [go_sem]) | (refine run_cond_f ?_ ?_; · simp only [go_sem]))
    refine end_nil ⟨rfl, v, ?_, ?_, rfl, rfl⟩
    · simp only [go_sem, h5]
    · rw [ei] at A; exact A
  · have e1 : (i : Int) < l.length := by omega
    have hil : i < l.length := by omega
    have ew : IntKind.i64.wrap ((i : Int) + 1) = ((i + 1 : Nat) : Int) := by rw [wrap64 (by omega) (by omega)]; rfl
    have cB := rest78 hw' T hil firm
    rw [← ht i] at cB
    have hfs := filter_succ test i
    have hfl := filter_le test i
    cases htt : test i
    · rw [htt] at cB
      simp only [htt, Bool.false_eq_true, if_false, List.append_nil] at hfs
      repeat (first | apply run_seq | apply run_block | apply end_seq | apply end_blk_hit | apply end_blk_miss rfl | apply end_blk | apply end_seq_exit | apply end_seq_ret | apply end_blk_ret | apply run_skip | apply run_ret | apply run_exit | (apply run_region (by decide); (simp only [go_sem, h0, h1, h5, h6, e1, cB, ew]; rfl)) | (refine run_cond_t ?_ ?_; · simp only [go_sem]) | (refine run_cond_f ?_ ?_; · simp only [go_sem]))
      refine end_nil ⟨k - 1, by omega, i + 1, v, by omega, ?_, ?_, ?_, ?_, ?_, rfl, rfl⟩
      · simp only [go_sem, h0]
      · simp only [go_sem, h1]
      · simp only [go_sem, h5]
      · simp only [go_sem, ew]
      · rw [hfs]; exact A
    · rw [htt] at cB
      simp only [htt, if_true] at hfs
      have A2 := A.app [SO.cells [.int .i64 (i : Int)] 3 true 0 []]
      obtain ⟨H2, v2, ap, -, A3, -, -⟩ := A2.push (bytes := 8) (bs := h'.length) (el2 := 3) (pf2 := true) (own2 := 0) (old2 := []) (new := [.int .i64 (i : Int)]) (by rw [app_get0]; rfl) rfl rfl (by decide) rfl (by decide) (by omega)
      repeat (first | apply run_seq | apply run_block | apply end_seq | apply end_blk_hit | apply end_blk_miss rfl | apply end_blk | apply end_seq_exit | apply end_seq_ret | apply end_blk_ret | apply run_skip | apply run_ret | apply run_exit | (apply run_region (by decide); (simp only [go_sem, h0, h1, h5, h6, e1, cB, ap, ew]; rfl)) | (refine run_cond_t ?_ ?_; · simp only [go_sem]) | (refine run_cond_f ?_ ?_; · simp only [go_sem]))
      refine end_nil ⟨k - 1, by omega, i + 1, v2, by omega, ?_, ?_, ?_, ?_, ?_, rfl, rfl⟩
      · simp only [go_sem, h0]
      · simp only [go_sem, h1]
      · simp only [go_sem]
      · simp only [go_sem, ew]
      · rw [hfs, natV_app, natV_one, List.length_append]; exact A3

/-- Rests of the document -/
theorem restsR40 {h : SHeap} {v : Value} {l : List (Int × Int)} (hv : PS h v l) (T : Tame l) (firm : Bool) (test : Nat → Bool)
    (ht : ∀ i, test i = if firm then firmB (mX l) (mY l) (mD l) (cn l i) (cn l ((i + 1) % l.length)) else restB (mX l) (mY l) (mD l) (cn l i) (cn l ((i + 1) % l.length))) :
    M.call 40 [v, .bool firm] h = some (resV h ((List.range l.length).filter test).length 1, resH h (natV ((List.range l.length).filter test)) ((List.range l.length).filter test).length 3, []) := by
  refine call_run sf40 rfl rfl rfl ?_
  unfold sf40
  repeat (first | apply run_seq | apply run_block | apply end_seq | apply end_blk_hit | apply end_blk_miss rfl | apply end_blk | apply end_seq_exit | apply end_seq_ret | apply end_blk_ret | apply run_skip | apply run_ret | apply run_exit | (apply run_region (by decide); (simp only [go_sem, argR]; rfl)) | (refine run_cond_t ?_ ?_; · simp only [go_sem]) | (refine run_cond_f ?_ ?_; · simp only [go_sem]))
  refine run_loop (restsR_loop _ hv T firm test ht l.length _ _ _ _ ⟨0, .slice none 0 0, by omega, by simp only [go_sem, argR], by simp only [go_sem, argR], by simp only [go_sem], by simp only [go_sem], AccS.nil0 h 1 3, rfl, rfl⟩) ?_
  rintro ex ρ' ms' h1 d1 ⟨rfl, v5, k5, A, rfl, rfl⟩
  repeat (first | apply run_seq | apply run_block | apply end_seq | apply end_blk_hit | apply end_blk_miss rfl | apply end_blk | apply end_seq_exit | apply end_seq_ret | apply end_blk_ret | apply run_skip | apply run_ret | apply run_exit | (apply run_region (by decide); (simp only [go_sem, k5]; rfl)) | (refine run_cond_t ?_ ?_; · simp only [go_sem]) | (refine run_cond_f ?_ ?_; · simp only [go_sem]))
  refine end_nil (A.at0.q1 rfl rfl ?_)
  simp only [go_sem, k5]
end Go.Proofs.Ytecncmmkghmojaa.Sh

