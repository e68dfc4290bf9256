/- Around of the document: what it returns. -/
import Derived.Test.YtecncmmkghmojaaWw
set_option linter.all false
namespace Go.Proofs.Ytecncmmkghmojaa.Sh
open Go Geo
set_option maxRecDepth 100000

/-- the list of corners so far: made by a literal, or grown -/
def OutS (lo : Nat) (h : SHeap) (v : Value) (cs : List Value) (n : Nat) : Prop :=
  (n ≠ 0 ∧ Acc lo h v cs n 2 53) ∨ (n = 1 ∧ ∃ b, v = .slice (some ⟨b, 0, none⟩) 1 1 ∧ h[b]? = some (.cells cs 53 true 0 []) ∧ lo ≤ b ∧ cs.all sc = true ∧ cs.length = 2)
theorem OutS.shape {lo : Nat} {h : SHeap} {v : Value} {cs : List Value} {n : Nat} (o : OutS lo h v cs n) : ∃ b c old, v = .slice (some ⟨b, 0, none⟩) n c ∧ h[b]? = some (.cells cs 53 true 0 old) ∧ lo ≤ b ∧ (∀ x ∈ old, lo ≤ x ∧ x < b) ∧ (n ≠ 1 → c = UNK + 2) := by
  rcases o with ⟨hn, h0 | ⟨b, old, rfl, h1, _, _, h4, _, h6⟩⟩ | ⟨rfl, b, rfl, h1, h2, _⟩
  · exact (hn h0.1).elim
  · exact ⟨b, _, old, rfl, h1, h4, h6, fun _ => rfl⟩
  · exact ⟨b, 1, [], rfl, h1, h2, fun x hx => by simp at hx, fun e => (e rfl).elim⟩
theorem OutS.keep {lo : Nat} {h h' : SHeap} {v : Value} {cs : List Value} {n : Nat} (o : OutS lo h v cs n) (k : ∀ b c, v = .slice (some ⟨b, 0, none⟩) n c → h'[b]? = h[b]?) : OutS lo h' v cs n := by
  rcases o with ⟨hn, a⟩ | ⟨rfl, b, rfl, h1, h2⟩
  · exact .inl ⟨hn, a.keep (fun b e => k b _ e)⟩
  · exact .inr ⟨rfl, b, rfl, by rw [k b 1 rfl]; exact h1, h2⟩

theorem out_append {lo : Nat} {h : SHeap} {v : Value} {cs new : List Value} {n : Nat} (o : OutS lo h v cs n) {bs : Nat} (hs : h[bs]? = some (.cells new 53 true 0 [])) (hl : new.length = 2) (hsc : new.all sc = true) (hb : (n + 1) * 16 ≤ 140737488355328) (hlo : lo ≤ h.length) :
    ∃ h2, (∀ (base : Nat) (d : List Nat), appendS base h d 53 true 2 16 v (.slice (some ⟨bs, 0, none⟩) 1 1) = some (.slice (some ⟨h.length, 0, none⟩) (n + 1) (UNK + 2), h2, d)) ∧ h2.length = h.length + 1 ∧
      OutS lo h2 (.slice (some ⟨h.length, 0, none⟩) (n + 1) (UNK + 2)) (cs ++ new) (n + 1) ∧ (∀ j, j < h.length → (∀ b c, v = .slice (some ⟨b, 0, none⟩) n c → j ≠ b) → h2[j]? = h[j]?) := by
  rcases o with ⟨hn, a⟩ | ⟨rfl, b, rfl, h1, h2, h3, h4⟩
  · obtain ⟨old, e1, e2, e3⟩ := acc_append (bytes := 16) a hs rfl hl (by decide) hsc (by decide) hb hlo
    refine ⟨_, e1, by simp [shv_len], .inl ⟨by omega, e2⟩, fun j hj hne => e3 j hj (fun b e => hne b _ e)⟩
  · refine ⟨h ++ [.cells (cs ++ new) 53 true 0 []], fun base d => ?_, by simp, .inl ⟨by omega, .inr ⟨h.length, [], rfl, by rw [app_get0]; rfl, by simp [hl, h4], by omega, hlo, by simp only [List.all_append, h3, hsc, Bool.and_self], fun c hc => by simp at hc⟩⟩, fun j hj _ => by rw [List.getElem?_append_left hj]⟩
    have hseen : rdN h bs 0 (1 * 2) = some new := by
      rw [rdN_def, hs]
      dsimp only
      rw [readable_0, ble_dec, decide_eq_true (by omega), if_pos (by rfl), List.drop_zero, Nat.one_mul, ← hl, List.take_length]
    have hsx : rdN h b 0 (1 * 2) = some cs := by
      rw [rdN_def, h1]
      dsimp only
      rw [readable_0, ble_dec, decide_eq_true (by omega), if_pos (by rfl), List.drop_zero, Nat.one_mul, ← h4, List.take_length]
    have hone := all_sc_one new hsc
    have e1 : Nat.ble UNK 1 = false := by decide
    unfold appendS
    simp only [lenS, seenS, hseen, hsx, e1]
    simp [-List.all_eq_true, ble_dec, blt_dec, hone, hsc, h3]

theorem ring_full {l : List Pt} {f a : Pt} {acc : List Pt} (hl : ∀ q ∈ l, before q f = false) (r : Ring l f acc a) (hk : l.length ≤ acc.length) : scan a l = f ∨ scan a l = a := by
  obtain ⟨d, hd⟩ := ring_hp hl r
  rcases scan_sup hd with ⟨h1, _⟩ | hs
  · exact .inr h1
  · by_cases e : scan a l = f
    · exact .inl e
    · exfalso
      have r2 := ring_next r hs e
      have := nodup_len r2.nodup r2.mem
      simp at this
      omega

theorem wrap_loop (cx : Cx) (H : SHeap) (bv c : Nat) (l : List (Int × Int)) (f : Int × Int) (W : List (Int × Int)) (hl : ∀ q ∈ l, inR q) (hn : l.length ≤ 12) (hf : ∀ q ∈ l, before q f = false) (hp : Prs H bv 0 l) :
    ∀ k ρ ms h' d', (∃ (j : Nat) (acc : List Pt) (a : Pt) (v6 : Value), k = j + 1 ∧ Ring l f acc a ∧ l.length ≤ acc.length + j ∧ wrapGo l f j acc a = W ∧ ρ 0 = .slice (some ⟨bv, 0, none⟩) l.length c ∧ ρ 4 = .pointer (some ⟨H.length, 0, none⟩) ∧ ρ 6 = v6 ∧ ρ 7 = .pointer (some ⟨H.length + 2, 0, none⟩) ∧
      OutS H.length h' v6 (prs acc) acc.length ∧ (∀ b c, v6 = .slice (some ⟨b, 0, none⟩) acc.length c → b ≠ H.length ∧ b ≠ H.length + 2) ∧ H.length + 3 ≤ h'.length ∧ h'[H.length]? = some (cel f) ∧ h'[H.length + 2]? = some (cel a) ∧ (∀ j, j < H.length → h'[j]? = H[j]?) ∧ ms = [] ∧ d' = []) →
    LoopW M cx 7 sf58L1 ρ ms h' d' (fun ex ρ' ms' h' d' => ex = .exit 2 ∧ ∃ v6, ρ' 6 = v6 ∧ OutS H.length h' v6 (prs W) W.length ∧ H.length ≤ h'.length ∧ (∀ j, j < H.length → h'[j]? = H[j]?) ∧ ms' = [] ∧ d' = []) := by
  refine loop_run _ ?_
  rintro k ρ ms h' d' ⟨j, acc, a, v6, rfl, rg, hlen, hW, h0, h4, h6, h7, out, hsep, hle, hbf, hba, hsame, rfl, rfl⟩
  unfold sf58L1
  have haR : inR a := hl a (rg.mem a (List.mem_of_getElem? rg.last))
  have hp' : Prs h' bv 0 l := hp.same (hsame bv hp.lt)
  have ea : h'[H.length + 2]? = some (.cells [.int .i64 a.1, .int .i64 a.2] 53 true 0 []) := hba
  have la : loadS h' (some 2) (.pointer (some ⟨H.length + 2, 0, none⟩)) = some (.agg #[.int .i64 a.1, .int .i64 a.2]) := by rw [load_rdON, hba]; rfl
  repeat (first | apply run_seq | apply run_block | apply end_seq | apply end_blk_hit | apply end_blk_miss rfl | apply end_blk | apply end_seq_exit | apply end_seq_ret | apply end_blk_ret | apply run_skip | apply run_ret | apply run_exit | (apply run_region (by decide); (simp only [go_sem, h0, h4, h6, h7, la]; rfl)) | (refine run_cond_t ?_ ?_; · simp only [go_sem]) | (refine run_cond_f ?_ ?_; · simp only [go_sem]))
  refine run_loop (scan_loop cx h' bv c (H.length + 2) l a (.pointer (some ⟨H.length, 0, none⟩)) v6 hl hn haR hp' hba l.length _ _ _ _ ⟨0, by omega, ?_, ?_, ?_, ?_, ?_, ?_, rfl, rfl, rfl⟩) ?_
  · simp only [go_sem, h0]
  · simp only [go_sem, h4]
  · simp only [go_sem, h6]
  · simp only [go_sem, h7]
  · simp only [go_sem]
  · (simp only [go_sem]) <;> rfl
  · rintro ex ρ' ms' h1 d1 ⟨rfl, k0, k4, k6, k7, k8, rfl, rfl, rfl⟩
    generalize hnx : scan a l = n at *
    have l8 : loadS (h' ++ [cel n]) (some 2) (.pointer (some ⟨h'.length, 0, none⟩)) = some (.agg #[.int .i64 n.1, .int .i64 n.2]) := by
      rw [load_rdON, app_get0]; rfl
    have l4 : loadS (h' ++ [cel n]) (some 2) (.pointer (some ⟨H.length, 0, none⟩)) = some (.agg #[.int .i64 f.1, .int .i64 f.2]) := by
      rw [load_rdON, List.getElem?_append_left (by omega), hbf]; rfl
    have l7 : loadS (h' ++ [cel n]) (some 2) (.pointer (some ⟨H.length + 2, 0, none⟩)) = some (.agg #[.int .i64 a.1, .int .i64 a.2]) := by
      rw [load_rdON, List.getElem?_append_left (by omega), hba]; rfl
    have oblt : ∀ b c, v6 = .slice (some ⟨b, 0, none⟩) acc.length c → b < h'.length := by
      intro b c e
      obtain ⟨b', c', old, e', hb', _⟩ := out.shape
      rw [e] at e'
      simp at e'
      rw [e'.1]
      exact (List.getElem?_eq_some_iff.1 hb').1
    by_cases cc : n = f ∨ n = a
    · have hWa : W = acc := by
        rw [← hW]
        cases j with
        | zero => rfl
        | succ j => rw [wrapGo, hnx, if_pos cc]
      have outW : OutS H.length (h' ++ [cel n]) v6 (prs W) W.length := by
        rw [hWa]
        exact out.keep (fun b c e => by rw [List.getElem?_append_left (oblt b c e)])
      by_cases c1 : n = f
      · have d1 : decide (n = f) = true := decide_eq_true c1
        repeat (first | apply run_seq | apply run_block | apply end_seq | apply end_blk_hit | apply end_blk_miss rfl | apply end_blk | apply end_seq_exit | apply end_seq_ret | apply end_blk_ret | apply run_skip | apply run_ret | apply run_exit | (apply run_region (by decide); (simp only [go_sem, k0, k4, k6, k7, k8, l8, l4, l7, d1, udf]; rfl)) | (refine run_cond_t ?_ ?_; · simp only [go_sem]) | (refine run_cond_f ?_ ?_; · simp only [go_sem]))
        refine end_nil ⟨rfl, v6, ?_, outW, by simp; omega, fun j hj => by rw [List.getElem?_append_left (by omega)]; exact hsame j hj, rfl, rfl⟩
        simp only [go_sem, k6]
      · have d1 : decide (n = f) = false := decide_eq_false c1
        have d2 : decide (n = a) = true := decide_eq_true (cc.resolve_left c1)
        repeat (first | apply run_seq | apply run_block | apply end_seq | apply end_blk_hit | apply end_blk_miss rfl | apply end_blk | apply end_seq_exit | apply end_seq_ret | apply end_blk_ret | apply run_skip | apply run_ret | apply run_exit | (apply run_region (by decide); (simp only [go_sem, k0, k4, k6, k7, k8, l8, l4, l7, d1, d2, udf]; rfl)) | (refine run_cond_t ?_ ?_; · simp only [go_sem]) | (refine run_cond_f ?_ ?_; · simp only [go_sem]))
        refine end_nil ⟨rfl, v6, ?_, outW, by simp; omega, fun j hj => by rw [List.getElem?_append_left (by omega)]; exact hsame j hj, rfl, rfl⟩
        simp only [go_sem, k6]
    · have c1 : ¬ n = f := fun x => cc (.inl x)
      have c2 : ¬ n = a := fun x => cc (.inr x)
      have d1 : decide (n = f) = false := decide_eq_false c1
      have d2 : decide (n = a) = false := decide_eq_false c2
      cases j with
      | zero => exact (cc (hnx ▸ ring_full hf rg (by omega))).elim
      | succ j =>
        obtain ⟨d, hd⟩ := ring_hp hf rg
        have hs : Sup l a n := by
          rcases scan_sup hd with ⟨z, _⟩ | z
          · rw [hnx] at z; exact (c2 z).elim
          · rw [hnx] at z; exact z
        have rg2 := ring_next rg hs c1
        have hacc := nodup_len rg.nodup rg.mem
        have out' : OutS H.length (h' ++ [cel n, .cells [.int .i64 n.1, .int .i64 n.2] 53 true 0 []]) v6 (prs acc) acc.length :=
          out.keep (fun b c e => by rw [List.getElem?_append_left (oblt b c e)])
        obtain ⟨h2, ap, hl2, out2, kp⟩ := out_append (new := [.int .i64 n.1, .int .i64 n.2]) (bs := h'.length + 1) out' (by rw [app_get]; rfl) rfl rfl (by omega) (by simp; omega)
        have hl2' : h2.length = h'.length + 3 := by rw [hl2]; simp
        have hsl : (h' ++ [cel n, SO.cells [.int .i64 n.1, .int .i64 n.2] 53 true 0 []]).length = h'.length + 2 := by simp
        rw [hsl] at ap out2 kp
        have ap' := fun base d => ap base d
        have kp' : ∀ j, j < h'.length → (∀ b c, v6 = .slice (some ⟨b, 0, none⟩) acc.length c → j ≠ b) → h2[j]? = h'[j]? := fun j hj hne => by
          rw [kp j (by omega) hne, List.getElem?_append_left hj]
        have k72 : h2[H.length + 2]? = some (.cells [.int .i64 a.1, .int .i64 a.2] 53 true 0 []) := by
          rw [kp' _ (by omega) (fun b c e => (hsep b c e).2.symm)]; exact hba
        have k82 : loadS h2 (some 2) (.pointer (some ⟨h'.length, 0, none⟩)) = some (.agg #[.int .i64 n.1, .int .i64 n.2]) := by
          rw [load_rdON, kp h'.length (by omega) (fun b c e => by have := oblt b c e; omega), app_get0]; rfl
        repeat (first | apply run_seq | apply run_block | apply end_seq | apply end_blk_hit | apply end_blk_miss rfl | apply end_blk | apply end_seq_exit | apply end_seq_ret | apply end_blk_ret | apply run_skip | apply run_ret | apply run_exit | (apply run_region (by decide); (simp only [go_sem, k0, k4, k6, k7, k8, l8, l4, l7, d1, d2, udf, ap', k72, k82]; rfl)) | (refine run_cond_t ?_ ?_; · simp only [go_sem]) | (refine run_cond_f ?_ ?_; · simp only [go_sem]))
        refine end_nil ⟨j + 1, by omega, j, acc ++ [n], n, .slice (some ⟨h'.length + 2, 0, none⟩) (acc.length + 1) (UNK + 2), rfl, rg2, by simp; omega, ?_, ?_, ?_, ?_, ?_, ?_, ?_, ?_, ?_, ?_, ?_, rfl, rfl⟩
        · rw [← hW, wrapGo, hnx, if_neg cc]
        · simp only [go_sem, k0]
        · simp only [go_sem, k4]
        · simp only [go_sem, k6]
        · simp only [go_sem, k7]
        · rw [prs_app, List.length_append]
          exact out2.keep (fun b c e => by simp at e; rw [List.getElem?_set_ne (by omega)])
        · intro b c e; simp at e; omega
        · simp; omega
        · rw [List.getElem?_set_ne (by omega), kp' _ (by omega) (fun b c e => (hsep b c e).1.symm)]; exact hbf
        · rw [List.getElem?_set_self (by omega)]; rfl
        · intro i hi
          rw [List.getElem?_set_ne (by omega), kp' _ (by omega) (fun b c e => by
            obtain ⟨b', c', old, e', _, hlo, _⟩ := out.shape
            rw [e] at e'; simp at e'; omega)]
          exact hsame i hi
end Go.Proofs.Ytecncmmkghmojaa.Sh

