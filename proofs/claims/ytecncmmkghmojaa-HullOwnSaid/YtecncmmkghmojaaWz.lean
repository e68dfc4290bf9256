/- The points that the statements make. -/
import Derived.Test.YtecncmmkghmojaaWy
set_option linter.all false
namespace Go.Proofs.Ytecncmmkghmojaa.Sh
open Go Geo
set_option maxRecDepth 100000

def pt41 (p : Int × Int) : Int × Int := (IntKind.i64.wrap (IntKind.i64.wrap ((IntKind.u64.wrap p.1).tmod 41) - 20), IntKind.i64.wrap (IntKind.i64.wrap ((IntKind.u64.wrap p.2).tmod 41) - 20))
theorem pt41_in (p : Int × Int) : inR (pt41 p) := by
  have h1 := u64_mod p.1 41 (by decide) (by decide)
  have h2 := u64_mod p.2 41 (by decide) (by decide)
  have e1 : (pt41 p).1 = (IntKind.u64.wrap p.1).tmod 41 - 20 := by
    show IntKind.i64.wrap (IntKind.i64.wrap ((IntKind.u64.wrap p.1).tmod 41) - 20) = _
    rw [wrap64 (x := (IntKind.u64.wrap p.1).tmod 41) (by omega) (by omega), wrap64 (by omega) (by omega)]
  have e2 : (pt41 p).2 = (IntKind.u64.wrap p.2).tmod 41 - 20 := by
    show IntKind.i64.wrap (IntKind.i64.wrap ((IntKind.u64.wrap p.2).tmod 41) - 20) = _
    rw [wrap64 (x := (IntKind.u64.wrap p.2).tmod 41) (by omega) (by omega), wrap64 (by omega) (by omega)]
  refine ⟨?_, ?_, ?_, ?_⟩ <;> omega
def pads : List (Int × Int) := [(0, 0), (1, 1), (2, 4)]
def pts (l : List (Int × Int)) : List (Int × Int) := (l.take 12).map pt41 ++ pads.drop ((l.take 12).map pt41).length
theorem pts_in (l : List (Int × Int)) : ∀ q ∈ pts l, inR q := by
  intro q hq
  rcases List.mem_append.1 hq with hq | hq
  · obtain ⟨p, _, rfl⟩ := List.mem_map.1 hq
    exact pt41_in p
  · have := List.mem_of_mem_drop hq
    simp only [pads, List.mem_cons, List.not_mem_nil, or_false] at this
    rcases this with rfl | rfl | rfl <;> exact ⟨by decide, by decide, by decide, by decide⟩
theorem pts_len (l : List (Int × Int)) : 3 ≤ (pts l).length ∧ (pts l).length ≤ 12 := by
  simp only [pts, List.length_append, List.length_map, List.length_take, List.length_drop, pads, List.length_cons, List.length_nil]
  omega

theorem points_loop (cx : Cx) {h : SHeap} {v : Value} {l : List (Int × Int)} (hv : ArgS h v l) : ∀ k ρ ms h' d', (∃ (i : Nat) (v3 : Value), i + k = min l.length 12 ∧ ρ 0 = v ∧ ρ 3 = v3 ∧ ρ 4 = .int .i64 i ∧ Acc h.length h' v3 (prs ((l.take i).map pt41)) i 2 53 ∧ h.length ≤ h'.length ∧ (∀ j, j < h.length → h'[j]? = h[j]?) ∧ ms = [] ∧ d' = []) →
    LoopW M cx 6 sf59L1 ρ ms h' d' (fun ex ρ' ms' h' d' => ex = .exit 0 ∧ ∃ v3 : Value, ρ' 3 = v3 ∧ Acc h.length h' v3 (prs ((l.take 12).map pt41)) (min l.length 12) 2 53 ∧ h.length ≤ h'.length ∧ (∀ j, j < h.length → h'[j]? = h[j]?) ∧ ms' = [] ∧ d' = []) := by
  obtain ⟨a, c, rfl, k1, k2, kv⟩ := hv
  refine loop_run _ ?_
  rintro k ρ ms h' d' ⟨i, v3, hi, h0, h3, h4, acc, hle, hsame, rfl, rfl⟩
  unfold sf59L1
  by_cases hk : k = 0
  · have ei : i = min l.length 12 := by omega
    have et : l.take i = l.take 12 := by
      rw [ei, Nat.min_comm, ← List.take_eq_take_min]
    rw [et, ei] at acc
    by_cases c1 : (i : Int) < l.length
    · have c2 : ¬ ((i : Int) < 12) := by omega
      repeat (first | apply run_seq | apply run_block | apply end_seq | apply end_blk_hit | apply end_blk_miss rfl | apply end_blk | apply end_seq_exit | apply end_seq_ret | apply end_blk_ret | apply run_skip | apply run_ret | apply run_exit | (apply run_region (by decide); (simp only [go_sem, h0, h3, h4, c1, c2]; rfl)) | (refine run_cond_t ?_ ?_; · simp only [go_sem]) | (refine run_cond_f ?_ ?_; · simp only [go_sem]))
      refine end_nil ⟨rfl, v3, ?_, acc, hle, hsame, rfl, rfl⟩
      simp only [go_sem, h3]
    · repeat (first | apply run_seq | apply run_block | apply end_seq | apply end_blk_hit | apply end_blk_miss rfl | apply end_blk | apply end_seq_exit | apply end_seq_ret | apply end_blk_ret | apply run_skip | apply run_ret | apply run_exit | (apply run_region (by decide); (simp only [go_sem, h0, h3, h4, c1]; rfl)) | (refine run_cond_t ?_ ?_; · simp only [go_sem]) | (refine run_cond_f ?_ ?_; · simp only [go_sem]))
      refine end_nil ⟨rfl, v3, ?_, acc, hle, hsame, rfl, rfl⟩
      simp only [go_sem, h3]
  · have c1 : (i : Int) < l.length := by omega
    have c2 : (i : Int) < 12 := by omega
    have hil : i < l.length := by omega
    have e2 : (0 : Int) ≤ i := by omega
    have ew : IntKind.i64.wrap ((i : Int) + 1) = ((i + 1 : Nat) : Int) := by rw [wrap64 (by omega) (by omega)]; rfl
    obtain ⟨b, o, rfl, hpp⟩ : ∃ b o, a = some ⟨b, o, none⟩ ∧ Prs h b o l := by
      rcases kv with ⟨_, rfl⟩ | ⟨b, o, e, p⟩
      · simp at hil
      · exact ⟨b, o, e, p (by intro e; rw [e] at hil; simp at hil)⟩
    have hp' : Prs h' b o l := hpp.same (hsame b hpp.lt)
    have hp1 := hp'.app [SO.gone]
    have l1 := hp1.load1 hil
    have l2 := hp1.load2 hil
    have hmt : (l.take (i + 1)).map pt41 = (l.take i).map pt41 ++ [pt41 l[i]] := by
      rw [List.take_add_one, List.getElem?_eq_getElem hil]
      simp only [Option.toList_some, List.map_append, List.map_cons, List.map_nil]
    generalize hq : l[i] = q at *
    obtain ⟨x, y⟩ := q
    dsimp only at l1 l2
    generalize hX : IntKind.i64.wrap (IntKind.i64.wrap ((IntKind.u64.wrap x).tmod 41) - 20) = X at *
    generalize hY : IntKind.i64.wrap (IntKind.i64.wrap ((IntKind.u64.wrap y).tmod 41) - 20) = Y at *
    have hpk : pt41 (x, y) = (X, Y) := by rw [← hX, ← hY]; rfl
    have acc' : Acc h.length (h' ++ [SO.cells [.int .i64 X, .int .i64 Y] 53 true 0 []]) v3 (prs ((l.take i).map pt41)) i 2 53 :=
      acc.keep (fun b e => by rw [List.getElem?_append_left (acc.lt e).2])
    obtain ⟨old, ap, acc2, kp⟩ := acc_append (bytes := 16) acc' (bs := h'.length) (el2 := 53) (pf2 := true) (own2 := 0) (old2 := []) (new := [.int .i64 X, .int .i64 Y]) (by rw [app_get0]; rfl) rfl rfl (by decide) rfl (by decide) (by omega) (by simp; omega)
    have ap' := fun base d => ap base d
    have hsrc : (h' ++ [SO.cells [.int .i64 X, .int .i64 Y] 53 true 0 []]).length = h'.length + 1 := by simp
    rw [hsrc] at acc2 kp
    repeat (first | apply run_seq | apply run_block | apply end_seq | apply end_blk_hit | apply end_blk_miss rfl | apply end_blk | apply end_seq_exit | apply end_seq_ret | apply end_blk_ret | apply run_skip | apply run_ret | apply run_exit | (apply run_region (by decide); (simp only [go_sem, h0, h3, h4, c1, c2, Int.toNat_natCast]; rfl)) | (refine run_cond_t ?_ ?_; · simp only [go_sem]) | (refine run_cond_f ?_ ?_; · simp only [go_sem]))
    apply run_regionN (by decide)
    · simp only [go_sem, h0, h3, h4, c1, e2, l1, l2, hX, hY, rep1, new_some, ap', Int.toNat_natCast]
      rfl
    have hl2 : (shv (h' ++ [SO.cells [.int .i64 X, .int .i64 Y] 53 true 0 []]) v3 ++ [SO.cells (prs ((l.take i).map pt41) ++ [.int .i64 X, .int .i64 Y]) 53 true 0 old]).length = h'.length + 2 := by simp [shv_len]
    have k2' : ∀ j, j < h.length → (shv (h' ++ [SO.cells [.int .i64 X, .int .i64 Y] 53 true 0 []]) v3 ++ [SO.cells (prs ((l.take i).map pt41) ++ [.int .i64 X, .int .i64 Y]) 53 true 0 old])[j]? = h[j]? := by
      intro j hj
      rw [kp j (by omega) (fun b e => by have := acc.lt e; omega), List.getElem?_append_left (by omega)]
      exact hsame j hj
    have hprs : prs ((l.take (i + 1)).map pt41) = prs ((l.take i).map pt41) ++ [.int .i64 X, .int .i64 Y] := by
      rw [hmt, prs_app, hpk]; rfl
    generalize shv (h' ++ [SO.cells [.int .i64 X, .int .i64 Y] 53 true 0 []]) v3 ++ [SO.cells (prs ((l.take i).map pt41) ++ [.int .i64 X, .int .i64 Y]) 53 true 0 old] = h2 at acc2 k2' hl2 ⊢
    repeat (first | apply run_seq | apply run_block | apply end_seq | apply end_blk_hit | apply end_blk_miss rfl | apply end_blk | apply end_seq_exit | apply end_seq_ret | apply end_blk_ret | apply run_skip | apply run_ret | apply run_exit | (apply run_region (by decide); (simp only [go_sem, h4, ew]; rfl)) | (refine run_cond_t ?_ ?_; · simp only [go_sem]) | (refine run_cond_f ?_ ?_; · simp only [go_sem]))
    refine end_nil ⟨k - 1, by omega, i + 1, _, by omega, ?_, rfl, ?_, ?_, by omega, k2', rfl, rfl⟩
    · simp only [go_sem, h0]
    · simp only [go_sem, ew]
    · rw [hprs]
      simp only [go_sem]
      exact acc2

theorem pad_loop (cx : Cx) (h : SHeap) (P : List (Int × Int)) : ∀ k ρ ms h' d', (∃ (y : List (Int × Int)) (v3 : Value), 3 - y.length = k ∧ y.length ≤ 12 ∧ y ++ pads.drop y.length = P ∧ ρ 3 = v3 ∧ Acc h.length h' v3 (prs y) y.length 2 53 ∧ h.length ≤ h'.length ∧ (∀ j, j < h.length → h'[j]? = h[j]?) ∧ ms = [] ∧ d' = []) →
    LoopW M cx 6 sf59L0 ρ ms h' d' (fun ex ρ' ms' h' d' => ex = .exit 2 ∧ ∃ v3 : Value, ρ' 3 = v3 ∧ Acc h.length h' v3 (prs P) P.length 2 53 ∧ h.length ≤ h'.length ∧ (∀ j, j < h.length → h'[j]? = h[j]?) ∧ ms' = [] ∧ d' = []) := by
  refine loop_run _ ?_
  rintro k ρ ms h' d' ⟨y, v3, hk, hy12, hP, h3, acc, hle, hsame, rfl, rfl⟩
  unfold sf59L0
  have hsh : ∃ a c, v3 = .slice a y.length c := by
    rcases acc with ⟨e0, rfl, _⟩ | ⟨b, old, rfl, _⟩
    · exact ⟨none, 0, by rw [e0]⟩
    · exact ⟨_, _, rfl⟩
  obtain ⟨a, c, rfl⟩ := hsh
  by_cases c1 : y.length < 3
  · have e1 : ((y.length : Nat) : Int) < 3 := by omega
    have hpad : pads.drop y.length = ((y.length : Int), (y.length : Int) * y.length) :: pads.drop (y.length + 1) := by
      have : y.length = 0 ∨ y.length = 1 ∨ y.length = 2 := by omega
      rcases this with e | e | e <;> rw [e] <;> rfl
    have wq : IntKind.i64.wrap ((y.length : Int) * y.length) = (y.length : Int) * y.length := by
      have : y.length = 0 ∨ y.length = 1 ∨ y.length = 2 := by omega
      rcases this with e | e | e <;> rw [e] <;> decide
    generalize hm : (y.length : Int) = m at *
    have acc' : Acc h.length (h' ++ [SO.cells [.int .i64 m, .int .i64 (m * m)] 53 true 0 []]) (.slice a y.length c) (prs y) y.length 2 53 :=
      acc.keep (fun b e => by rw [List.getElem?_append_left (acc.lt e).2])
    obtain ⟨old, ap, acc2, kp⟩ := acc_append (bytes := 16) acc' (bs := h'.length) (el2 := 53) (pf2 := true) (own2 := 0) (old2 := []) (new := [.int .i64 m, .int .i64 (m * m)]) (by rw [app_get0]; rfl) rfl rfl (by decide) rfl (by decide) (by omega) (by simp; omega)
    have ap' := fun base d => ap base d
    have hsrc : (h' ++ [SO.cells [.int .i64 m, .int .i64 (m * m)] 53 true 0 []]).length = h'.length + 1 := by simp
    rw [hsrc] at acc2 kp
    have hl2 : (shv (h' ++ [SO.cells [.int .i64 m, .int .i64 (m * m)] 53 true 0 []]) (.slice a y.length c) ++ [SO.cells (prs y ++ [.int .i64 m, .int .i64 (m * m)]) 53 true 0 old]).length = h'.length + 2 := by simp [shv_len]
    have k2' : ∀ j, j < h.length → (shv (h' ++ [SO.cells [.int .i64 m, .int .i64 (m * m)] 53 true 0 []]) (.slice a y.length c) ++ [SO.cells (prs y ++ [.int .i64 m, .int .i64 (m * m)]) 53 true 0 old])[j]? = h[j]? := by
      intro j hj
      rw [kp j (by omega) (fun b e => by have := acc.lt e; omega), List.getElem?_append_left (by omega)]
      exact hsame j hj
    have hprs : prs (y ++ [(m, m * m)]) = prs y ++ [.int .i64 m, .int .i64 (m * m)] := by rw [prs_app]; rfl
    rw [← hprs] at acc2
    repeat (first | apply run_seq | apply run_block | apply end_seq | apply end_blk_hit | apply end_blk_miss rfl | apply end_blk | apply end_seq_exit | apply end_seq_ret | apply end_blk_ret | apply run_skip | apply run_ret | apply run_exit | (apply run_region (by decide); (simp only [go_sem, h3, hm, e1, wq, ap']; rfl)) | (refine run_cond_t ?_ ?_; · simp only [go_sem]) | (refine run_cond_f ?_ ?_; · simp only [go_sem]))
    refine end_nil ⟨3 - (y ++ [(m, m * m)]).length, by simp; omega, y ++ [(m, m * m)], .slice (some ⟨h'.length + 1, 0, none⟩) (y.length + 1) (UNK + 2), rfl, by simp; omega, ?_, ?_, ?_, by omega, k2', rfl, rfl⟩
    · rw [List.append_assoc, List.length_append, ← hP, hpad]; rfl
    · simp only [go_sem]
    · rw [List.length_append]; rw [hprs] at acc2 ⊢; exact acc2
  · have e1 : ¬ (((y.length : Nat) : Int) < 3) := by omega
    have hPy : P = y := by rw [← hP, List.drop_eq_nil_of_le (by simp [pads]; omega), List.append_nil]
    repeat (first | apply run_seq | apply run_block | apply end_seq | apply end_blk_hit | apply end_blk_miss rfl | apply end_blk | apply end_seq_exit | apply end_seq_ret | apply end_blk_ret | apply run_skip | apply run_ret | apply run_exit | (apply run_region (by decide); (simp only [go_sem, h3, e1]; rfl)) | (refine run_cond_t ?_ ?_; · simp only [go_sem]) | (refine run_cond_f ?_ ?_; · simp only [go_sem]))
    rw [hPy]
    refine end_nil ⟨rfl, _, ?_, acc, hle, hsame, rfl, rfl⟩
    simp only [go_sem, h3]

/-- points -/
theorem points59 {h : SHeap} {v : Value} {l : List (Int × Int)} (hv : ArgS h v l) : M.call 59 [v] h = some (.slice (some ⟨h.length, 0, none⟩) (pts l).length (UNK + 2), h ++ [.cells (prs (pts l)) 53 true 0 []], []) := by
  have hpl := pts_len l
  refine call_run sf59 rfl rfl rfl ?_
  unfold sf59
  repeat (first | apply run_seq | apply run_block | apply end_seq | apply end_blk_hit | apply end_blk_miss rfl | apply end_blk | apply end_seq_exit | apply end_seq_ret | apply end_blk_ret | apply run_skip | apply run_ret | apply run_exit | (apply run_region (by decide); (simp only [go_sem, argR]; rfl)) | (refine run_cond_t ?_ ?_; · simp only [go_sem]) | (refine run_cond_f ?_ ?_; · simp only [go_sem]))
  refine run_loop (points_loop _ hv (min l.length 12) _ _ _ _ ⟨0, .slice none 0 0, by omega, ?_, ?_, ?_, .inl ⟨rfl, rfl, rfl⟩, Nat.le_refl _, fun j hj => rfl, rfl, rfl⟩) ?_
  · simp only [go_sem, argR]
  · simp only [go_sem]
  · (simp only [go_sem]) <;> rfl
  · rintro ex ρ' ms' h1 d1 ⟨rfl, v3, k3, acc, hle, hsame, rfl, rfl⟩
    have hyl : ((l.take 12).map pt41).length = min l.length 12 := by simp [Nat.min_comm]
    repeat (first | apply run_seq | apply run_block | apply end_seq | apply end_blk_hit | apply end_blk_miss rfl | apply end_blk | apply end_seq_exit | apply end_seq_ret | apply end_blk_ret | apply run_skip | apply run_ret | apply run_exit | (apply run_region (by decide); (simp only [go_sem]; rfl)) | (refine run_cond_t ?_ ?_; · simp only [go_sem]) | (refine run_cond_f ?_ ?_; · simp only [go_sem]))
    refine run_loop (pad_loop _ h (pts l) (3 - ((l.take 12).map pt41).length) _ _ _ _ ⟨(l.take 12).map pt41, v3, rfl, by omega, rfl, k3, by rw [hyl]; exact acc, hle, hsame, rfl, rfl⟩) ?_
    rintro ex ρ2 ms2 h2 d2 ⟨rfl, v4, q3, acc2, hle2, hsame2, rfl, rfl⟩
    rcases acc2 with ⟨e0, _⟩ | ⟨b, old, rfl, hb, hcl, hn, hlo, hsc, hold⟩
    · omega
    · obtain ⟨g, rfl⟩ := ext_of_same hle2 hsame2
      obtain ⟨j, rfl⟩ : ∃ j, b = h.length + j := ⟨b - h.length, by omega⟩
      rw [app_get] at hb
      repeat (first | apply run_seq | apply run_block | apply end_seq | apply end_blk_hit | apply end_blk_miss rfl | apply end_blk | apply end_seq_exit | apply end_seq_ret | apply end_blk_ret | apply run_skip | apply run_ret | apply run_exit | (apply run_region (by decide); (simp only [go_sem, q3]; rfl)) | (refine run_cond_t ?_ ?_; · simp only [go_sem]) | (refine run_cond_f ?_ ?_; · simp only [go_sem]))
      refine end_nil (q_gc1 (a := some ⟨h.length + j, 0, none⟩) (n := (pts l).length) (c := UNK + 2) (by (simp only [go_sem, q3]) <;> rfl) ?_)
      have := gc_block (h := h) (g := g) (j := j) (n := (pts l).length) (c := UNK + 2) (o := 0) (own := 0) (old := old) hb rfl
      rw [ren_none hold] at this
      exact this
end Go.Proofs.Ytecncmmkghmojaa.Sh

