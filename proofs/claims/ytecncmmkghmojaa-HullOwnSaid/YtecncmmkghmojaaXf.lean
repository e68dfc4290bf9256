/- open: the corners are copied. -/
import Derived.Test.YtecncmmkghmojaaXe
set_option linter.all false
namespace Go.Proofs.Ytecncmmkghmojaa.Sh
open Go Geo
set_option maxRecDepth 100000

theorem prs_take_succ (l : List (Int × Int)) (i : Nat) (hi : i < l.length) : prs (l.take (i + 1)) = prs (l.take i) ++ [.int .i64 l[i].1, .int .i64 l[i].2] := by
  rw [List.take_add_one, List.getElem?_eq_getElem hi, prs_app]
  rfl

theorem copy_loop (cx : Cx) {h : SHeap} {b o c : Nat} {l : List (Int × Int)} (hp : Prs h b o l) (hn : l.length ≤ 12) (H0 : SHeap) (hH0 : ∀ j, j < h.length → H0[j]? = h[j]?) (hcx : cx.base = h.length) :
    ∀ k ρ ms h' d', (∃ (i : Nat) (v : Value), i + k = l.length ∧ ρ 2 = .pointer (some ⟨h.length, 0, none⟩) ∧ ρ 3 = .pointer (some ⟨h.length + 1, 0, none⟩) ∧ ρ 4 = .pointer (some ⟨h.length + 2, 0, none⟩) ∧
      ρ 31 = .slice (some ⟨b, o, none⟩) l.length c ∧ ρ 32 = .int .i64 l.length ∧ ρ 33 = .int .i64 i ∧ h.length + 3 ≤ h'.length ∧ (∀ j, j < h.length + 2 → h'[j]? = H0[j]?) ∧
      h'[h.length + 2]? = some (.cells [v, .int .i64 0, .int .i64 0, .int .i64 0] 79 false 0 []) ∧ Acc (h.length + 3) h' v (prs (l.take i)) i 2 77 ∧ ms = [] ∧ d' = []) →
    LoopW M cx 8 sf62L1 ρ ms h' d' (fun ex ρ' ms' h' d' => ex = .exit 0 ∧ ρ' 2 = .pointer (some ⟨h.length, 0, none⟩) ∧ ρ' 3 = .pointer (some ⟨h.length + 1, 0, none⟩) ∧ ρ' 4 = .pointer (some ⟨h.length + 2, 0, none⟩) ∧
      ∃ v, h.length + 3 ≤ h'.length ∧ (∀ j, j < h.length + 2 → h'[j]? = H0[j]?) ∧
      h'[h.length + 2]? = some (.cells [v, .int .i64 0, .int .i64 0, .int .i64 0] 79 false 0 []) ∧ Acc (h.length + 3) h' v (prs l) l.length 2 77 ∧ ms' = [] ∧ d' = []) := by
  refine loop_run _ ?_
  rintro k ρ ms h' d' ⟨i, v, hi, h2, h3, h4, h31, h32, h33, hle, hsame, hbody, acc, rfl, rfl⟩
  unfold sf62L1
  by_cases hk : k = 0
  · have e1 : ¬ ((i : Int) < l.length) := by omega
    have ei : i = l.length := by omega
    repeat (first | apply run_seq | apply run_block | apply end_seq | apply end_blk_hit | apply end_blk_miss rfl | apply end_blk | apply end_seq_exit | apply end_seq_ret | apply end_blk_ret | apply run_skip | apply run_ret | apply run_exit | (apply run_region (by decide); (simp only [go_sem, h32, h33, e1]; rfl)) | (refine run_cond_t ?_ ?_; · simp only [go_sem]) | (refine run_cond_f ?_ ?_; · simp only [go_sem]))
    subst ei
    rw [List.take_length] at acc
    refine end_nil ⟨rfl, ?_, ?_, ?_, v, hle, hsame, hbody, acc, rfl, rfl⟩
    · simp only [go_sem, h2]
    · simp only [go_sem, h3]
    · simp only [go_sem, h4]
  · have e1 : (i : Int) < l.length := by omega
    have hil : i < l.length := by omega
    have e2 : (0 : Int) ≤ i := by omega
    have ew : IntKind.i64.wrap ((i : Int) + 1) = ((i + 1 : Nat) : Int) := by rw [wrap64 (by omega) (by omega)]; rfl
    have hp' : Prs h' b o l := hp.same (by rw [hsame b (by have := hp.lt; omega), hH0 b hp.lt])
    have l1 := hp'.loadN hil
    obtain ⟨hv2, hv3, _⟩ := acc_cells acc
    have hv1 := acc_vsame acc
    have hps := prs_take_succ l i hil
    generalize l[i] = q at *
    repeat (first | apply run_seq | apply run_block | apply end_seq | apply end_blk_hit | apply end_blk_miss rfl | apply end_blk | apply end_seq_exit | apply end_seq_ret | apply end_blk_ret | apply run_skip | apply run_ret | apply run_exit | (apply run_region (by decide); (simp only [go_sem, h31, h32, h33, e1, e2, l1, Int.toNat_natCast]; rfl)) | (refine run_cond_t ?_ ?_; · simp only [go_sem]) | (refine run_cond_f ?_ ?_; · simp only [go_sem]))
    have c1 : ∀ j, j < h'.length → (h' ++ [SO.cells [.int .i64 q.1, .int .i64 q.2] 53 true 0 []])[j]? = h'[j]? := fun j hj => List.getElem?_append_left hj
    have c2 : (h' ++ [SO.cells [.int .i64 q.1, .int .i64 q.2] 53 true 0 []])[h'.length]? = some (.cells [.int .i64 q.1, .int .i64 q.2] 53 true 0 []) := by rw [app_get0]; rfl
    have c3 : (h' ++ [SO.cells [.int .i64 q.1, .int .i64 q.2] 53 true 0 []]).length = h'.length + 1 := by simp
    generalize h' ++ [SO.cells [.int .i64 q.1, .int .i64 q.2] 53 true 0 []] = G at *
    have b1 : loadS (G ++ [SO.gone]) none (.pointer (some ⟨h.length + 2, 0, none⟩)) = some v := by
      rw [load_rdO, List.getElem?_append_left (by omega), c1 _ (by omega), hbody]; rfl
    have b2 : loadS (G ++ [SO.gone]) (some 2) (.pointer (some ⟨h'.length, 0, none⟩)) = some (.agg #[.int .i64 q.1, .int .i64 q.2]) := by
      rw [load_rdON, List.getElem?_append_left (by omega), c2]; rfl
    have acc0 : Acc (h.length + 3) (G ++ [SO.cells [.int .i64 q.1, .int .i64 q.2] 77 true 0 []]) v (prs (l.take i)) i 2 77 :=
      acc.keep (fun b e => by have := acc.lt e; rw [List.getElem?_append_left (by omega), c1 b this.2])
    obtain ⟨old, ap, acc2, kp⟩ := acc_append (bytes := 16) acc0 (bs := G.length) (el2 := 77) (pf2 := true) (own2 := 0) (old2 := []) (new := [.int .i64 q.1, .int .i64 q.2]) (by rw [app_get0]; rfl) rfl rfl (by decide) rfl (by decide) (by omega) (by simp; omega)
    have ap' := fun base d => ap base d
    have hsrc : (G ++ [SO.cells [.int .i64 q.1, .int .i64 q.2] 77 true 0 []]).length = G.length + 1 := by simp
    rw [hsrc] at acc2 kp
    have ltv : ∀ b, v = .slice (some ⟨b, 0, none⟩) i (UNK + 2) → h.length + 3 ≤ b ∧ b < h'.length := fun b e => acc.lt e
    have kB : (shv (G ++ [SO.cells [.int .i64 q.1, .int .i64 q.2] 77 true 0 []]) v ++ [SO.cells (prs (l.take i) ++ [.int .i64 q.1, .int .i64 q.2]) 77 true 0 old])[h.length + 2]? = some (.cells [v, .int .i64 0, .int .i64 0, .int .i64 0] 79 false 0 []) := by
      rw [kp _ (by omega) (fun b e => by have := ltv b e; omega), List.getElem?_append_left (by omega), c1 _ (by omega), hbody]
    have hbB : Nat.ble cx.base (h.length + 2) = true := by rw [hcx, ble_dec]; simp
    have hdirty : dirty cx.base (h.length + 2) false [] = [] := by simp [dirty, hbB]
    apply run_regionN (by decide)
    · simp only [go_sem, h4, b1, b2, hv1, hv2, hv3, rep1, new_some, ap', kB, hdirty]
      rfl
    have kO : ∀ j, j < h.length + 2 → (shv (G ++ [SO.cells [.int .i64 q.1, .int .i64 q.2] 77 true 0 []]) v ++ [SO.cells (prs (l.take i) ++ [.int .i64 q.1, .int .i64 q.2]) 77 true 0 old])[j]? = H0[j]? := by
      intro j hj
      rw [kp j (by omega) (fun b e => by have := ltv b e; omega), List.getElem?_append_left (by omega), c1 j (by omega)]
      exact hsame j hj
    have kn : (shv (G ++ [SO.cells [.int .i64 q.1, .int .i64 q.2] 77 true 0 []]) v ++ [SO.cells (prs (l.take i) ++ [.int .i64 q.1, .int .i64 q.2]) 77 true 0 old]).length = G.length + 2 := by simp [shv_len]
    generalize shv (G ++ [SO.cells [.int .i64 q.1, .int .i64 q.2] 77 true 0 []]) v ++ [SO.cells (prs (l.take i) ++ [.int .i64 q.1, .int .i64 q.2]) 77 true 0 old] = F at *
    repeat (first | apply run_seq | apply run_block | apply end_seq | apply end_blk_hit | apply end_blk_miss rfl | apply end_blk | apply end_seq_exit | apply end_seq_ret | apply end_blk_ret | apply run_skip | apply run_ret | apply run_exit | (apply run_region (by decide); (simp only [go_sem, h33, ew]; rfl)) | (refine run_cond_t ?_ ?_; · simp only [go_sem]) | (refine run_cond_f ?_ ?_; · simp only [go_sem]))
    refine end_nil ⟨k - 1, by omega, i + 1, .slice (some ⟨G.length + 1, 0, none⟩) (i + 1) (UNK + 2), by omega, ?_, ?_, ?_, ?_, ?_, ?_, by simp; omega, ?_, ?_, ?_, rfl, rfl⟩
    · simp only [go_sem, h2]
    · simp only [go_sem, h3]
    · simp only [go_sem, h4]
    · simp only [go_sem, h31]
    · simp only [go_sem, h32]
    · simp only [go_sem, ew]
    · intro j hj
      rw [List.getElem?_set_ne (by omega)]; exact kO j hj
    · rw [List.getElem?_set_self (by omega)]
    · rw [hps]
      exact acc2.keep (fun b e => by simp at e; rw [List.getElem?_set_ne (by omega)])
end Go.Proofs.Ytecncmmkghmojaa.Sh

