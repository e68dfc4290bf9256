/- Half of a hull: a stack of corners. -/
import Derived.Test.YtecncmmkghmojaaH9
set_option linter.all false
/- Half of a hull: a stack of corners. -/
namespace Go.Proofs.Ytecncmmkghmojaa.Sh
open Go Geo
set_option maxRecDepth 100000

theorem kill_ln (h : SHeap) (b : Nat) : (kill h b).length = h.length := by
  unfold kill; split <;> simp
theorem kill_gt (h : SHeap) (b j : Nat) (hj : j ≠ b) : (kill h b)[j]? = h[j]? := by
  unfold kill
  split
  · rw [List.getElem?_set_ne (by omega)]
  · rfl
theorem killA_ln : ∀ (l : List Nat) (h : SHeap), (killAll h l).length = h.length
  | [], h => rfl
  | b :: l, h => by
    show (killAll (kill h b) l).length = _
    rw [killA_ln l, kill_ln]
theorem killA_gt : ∀ (l : List Nat) (h : SHeap) (j : Nat), j ∉ l → (killAll h l)[j]? = h[j]?
  | [], h, j, _ => rfl
  | b :: l, h, j, hj => by
    show (killAll (kill h b) l)[j]? = _
    rw [killA_gt l _ j (fun hm => hj (by simp [hm])), kill_gt h b j (fun e => hj (by simp [e]))]

/-- points gathered, of which some may have been taken away again -/
structure AccT (H0 h : SHeap) (v : Value) (S : List (Int × Int)) : Prop where
  acc : (S = [] ∧ v = .slice none 0 0) ∨ ∃ b old junk, v = .slice (some ⟨b, 0, none⟩) S.length (UNK + 2) ∧ h[b]? = some (.cells (prs S ++ junk) 53 true 0 old) ∧ S ≠ [] ∧ H0.length ≤ b ∧ junk.all sc = true ∧ ∀ c ∈ old, H0.length ≤ c ∧ c < b
  le : H0.length ≤ h.length
  same : ∀ j, j < H0.length → h[j]? = H0[j]?
theorem AccT.nil0 (H0 : SHeap) : AccT H0 H0 (.slice none 0 0) [] := ⟨.inl ⟨rfl, rfl⟩, Nat.le_refl _, fun j hj => rfl⟩
theorem AccT.app {H0 h : SHeap} {v : Value} {S : List (Int × Int)} (A : AccT H0 h v S) (g : SHeap) : AccT H0 (h ++ g) v S := by
  refine ⟨?_, by have := A.le; simp; omega, fun j hj => by rw [List.getElem?_append_left (by have := A.le; omega)]; exact A.same j hj⟩
  rcases A.acc with a | ⟨b, old, junk, h1, h2, h3⟩
  · exact .inl a
  · exact .inr ⟨b, old, junk, h1, by rw [List.getElem?_append_left (List.getElem?_eq_some_iff.1 h2).1]; exact h2, h3⟩
theorem AccT.keepPrs {H0 h : SHeap} {v : Value} {S : List (Int × Int)} (A : AccT H0 h v S) {b o : Nat} {l : List (Int × Int)} (hp : Prs H0 b o l) : Prs h b o l := hp.same (A.same b hp.lt)
theorem AccT.shape {H0 h : SHeap} {v : Value} {S : List (Int × Int)} (A : AccT H0 h v S) : ∃ a c, v = .slice a S.length c := by
  rcases A.acc with ⟨rfl, rfl⟩ | ⟨b, old, junk, rfl, _⟩
  · exact ⟨_, _, rfl⟩
  · exact ⟨_, _, rfl⟩
theorem AccT.pop {H0 h : SHeap} {b : Nat} {S : List (Int × Int)} {x : Int × Int} {n : Nat} (A : AccT H0 h (.slice (some ⟨b, 0, none⟩) n (UNK + 2)) (S ++ [x])) (hS : S ≠ []) : AccT H0 h (.slice (some ⟨b, 0, none⟩) S.length (UNK + 2)) S := by
  refine ⟨?_, A.le, A.same⟩
  rcases A.acc with ⟨h1, _⟩ | ⟨b', old, junk, h1, h2, h3, h4, h5, h6⟩
  · simp at h1
  · simp only [Value.slice.injEq, Option.some.injEq, Addr.mk.injEq, and_true] at h1
    obtain ⟨rfl, _⟩ := h1
    refine .inr ⟨b, old, [.int .i64 x.1, .int .i64 x.2] ++ junk, rfl, ?_, hS, h4, by simp [sc, h5], h6⟩
    rw [h2, prs_app, List.append_assoc]; rfl
theorem AccT.push {H0 h : SHeap} {v : Value} {S : List (Int × Int)} (A : AccT H0 h v S) (hS : S.length ≤ 1000) (g : SHeap) (p : Int × Int) :
    ∃ H2 v2, (∀ (base : Nat) (d : List Nat), appendS base (h ++ (g ++ [blk [p]])) d 53 true 2 16 v (.slice (some ⟨h.length + g.length, 0, none⟩) 1 1) = some (v2, H2, d)) ∧ AccT H0 H2 v2 (S ++ [p]) ∧ (∃ b old, v2 = .slice (some ⟨b, 0, none⟩) (S.length + 1) (UNK + 2) ∧ H2[b]? = some (.cells (prs (S ++ [p])) 53 true 0 old) ∧ H0.length ≤ b ∧ ∀ c ∈ old, H0.length ≤ c ∧ c < b) := by
  have hle := A.le
  have hbs : (h ++ (g ++ [blk [p]]))[h.length + g.length]? = some (.cells [.int .i64 p.1, .int .i64 p.2] 53 true 0 []) := by rw [app_get, app_get0]; rfl
  have hprs : prs (S ++ [p]) = prs S ++ [.int .i64 p.1, .int .i64 p.2] := by rw [prs_app]; rfl
  have toAcc : (∀ b old junk, v = .slice (some ⟨b, 0, none⟩) S.length (UNK + 2) → h[b]? = some (.cells (prs S ++ junk) 53 true 0 old) → S ≠ [] → junk = []) → AccS H0 h v (prs S) S.length 2 53 := by
    intro hj
    refine ⟨?_, A.le, A.same⟩
    rcases A.acc with ⟨rfl, rfl⟩ | ⟨b, old, junk, h1, h2, h3, h4, h5, h6⟩
    · exact .inl ⟨rfl, rfl, rfl⟩
    · have := hj b old junk h1 h2 h3
      subst this
      rw [List.append_nil] at h2
      exact .inr ⟨b, old, h1, h2, by rw [prs_len]; omega, by intro e; exact h3 (List.length_eq_zero_iff.1 e), h4, prs_sc _, h6⟩
  have fin : ∀ H2 v2, AccS H0 H2 v2 (prs (S ++ [p])) (S.length + 1) 2 53 → AccT H0 H2 v2 (S ++ [p]) ∧ (∃ b old, v2 = .slice (some ⟨b, 0, none⟩) (S.length + 1) (UNK + 2) ∧ H2[b]? = some (.cells (prs (S ++ [p])) 53 true 0 old) ∧ H0.length ≤ b ∧ ∀ c ∈ old, H0.length ≤ c ∧ c < b) := by
    intro H2 v2 B
    rcases B.acc with ⟨e, _⟩ | ⟨b, old, rfl, h1, h2, h3, h4, h5, h6⟩
    · omega
    · exact ⟨⟨.inr ⟨b, old, [], by rw [List.length_append]; rfl, by rw [List.append_nil]; exact h1, by simp, h4, rfl, h6⟩, B.le, B.same⟩, b, old, rfl, h1, h4, h6⟩
  rcases A.acc with ⟨rfl, rfl⟩ | ⟨b, old, junk, rfl, h2, h3, h4, h5, h6⟩
  · have B := (toAcc (fun _ _ _ _ _ hne => (hne rfl).elim)).app (g ++ [blk [p]])
    obtain ⟨H2, v2, ap, -, A2, -, -⟩ := B.push (bytes := 16) hbs rfl rfl (by decide) rfl (by decide) (by decide)
    exact ⟨H2, v2, ap, fin H2 v2 A2⟩
  · by_cases hj : junk = []
    · subst hj
      have B := (toAcc (fun b' old' junk' e1 e2 _ => by
        simp only [Value.slice.injEq, Option.some.injEq, Addr.mk.injEq, and_true] at e1
        obtain rfl := e1
        rw [h2] at e2
        simp only [Option.some.injEq, SO.cells.injEq, List.append_cancel_left_eq] at e2
        exact e2.1.symm)).app (g ++ [blk [p]])
      obtain ⟨H2, v2, ap, -, A2, -, -⟩ := B.push (bytes := 16) hbs rfl rfl (by decide) rfl (by decide) (by omega)
      rw [← hprs] at A2
      exact ⟨H2, v2, ap, fin H2 v2 A2⟩
    · have hbl : b < h.length := (List.getElem?_eq_some_iff.1 h2).1
      have hb' : (h ++ (g ++ [blk [p]]))[b]? = some (.cells (prs S ++ junk) 53 true 0 old) := by rw [List.getElem?_append_left hbl]; exact h2
      have e0 : (S.length == 0) = false := beq_eq_false_iff_ne.2 (fun e => h3 (List.length_eq_zero_iff.1 e))
      have hseen : rdN (h ++ (g ++ [blk [p]])) (h.length + g.length) 0 (1 * 2) = some [.int .i64 p.1, .int .i64 p.2] := by rw [rdN_def, hbs]; rfl
      have hsx : rdN (h ++ (g ++ [blk [p]])) b 0 (S.length * 2) = some (prs S) := by
        rw [rdN_def, hb']
        dsimp only
        rw [readable_0, ble_dec, decide_eq_true (by rw [List.length_append, prs_len]; omega), if_pos (by rfl), List.drop_zero, List.take_append_of_le_length (by rw [prs_len]; omega), List.take_of_length_le (by rw [prs_len]; omega)]
      have e1 : Nat.ble UNK (UNK + 2) = true := by decide
      have e2 : Nat.beq (UNK + 2) (UNK + 2) = true := Nat.beq_refl _
      have e3 : Nat.beq (0 + S.length * 2) (prs S ++ junk).length = false := by
        rw [nbeq_dec]
        refine decide_eq_false ?_
        rw [List.length_append, prs_len]
        have : junk.length ≠ 0 := fun e => hj (List.length_eq_zero_iff.1 e)
        omega
      have e4 : Nat.ble ((S.length + 1) * 16) 140737488355328 = true := by rw [ble_dec]; exact decide_eq_true (by omega)
      have e5 : Nat.blt 0 16 = true := by decide
      have e6 : ((1 : Nat) == 0) = false := rfl
      have o1 : ([Value.int .i64 p.1, Value.int .i64 p.2]).all oneC = true := rfl
      have o2 : ([Value.int .i64 p.1, Value.int .i64 p.2]).all sc = true := rfl
      have hkl := killA_ln (b :: old) (h ++ (g ++ [blk [p]]))
      refine ⟨killAll (h ++ (g ++ [blk [p]])) (b :: old) ++ [.cells (prs (S ++ [p])) 53 true 0 []], .slice (some ⟨(h ++ (g ++ [blk [p]])).length, 0, none⟩) (S.length + 1) (UNK + 2), fun base d => ?_, fin _ _ ⟨.inr ⟨(h ++ (g ++ [blk [p]])).length, [], rfl, ?_, by rw [prs_len, List.length_append]; simp; omega, by omega, by simp; omega, prs_sc _, fun c hc => by simp at hc⟩, by rw [List.length_append, hkl]; simp; omega, fun j hj => ?_⟩⟩
      · unfold appendS
        simp only [lenS, seenS, hseen, hsx, e0, hb', e1, e2, e3, e4, e5, e6, o1, o2, prs_sc, Bool.false_eq_true, if_false, if_true, Bool.and_self, Bool.not_true, Bool.false_or, Bool.or_self, beq_self_eq_true, hprs]
      · rw [← hkl, app_get0]; rfl
      · rw [List.getElem?_append_left (by rw [hkl]; simp; omega), killA_gt _ _ _ (fun hm => by
          rcases List.mem_cons.1 hm with e | e
          · omega
          · have := h6 j e; omega), List.getElem?_append_left (by omega)]
        exact A.same j hj

/-- corners that do not turn left are taken away; the last one stands first -/
def popR (p : Int × Int) : List (Int × Int) → List (Int × Int)
  | [] => []
  | [a] => [a]
  | a :: b :: r => if Geo.turn b a p ≤ 0 then popR p (b :: r) else a :: b :: r
theorem popR_pop {p a b : Int × Int} {r : List (Int × Int)} (h : Geo.turn b a p ≤ 0) : popR p (a :: b :: r) = popR p (b :: r) := by rw [popR, if_pos h]
theorem popR_stop {p a b : Int × Int} {r : List (Int × Int)} (h : ¬ Geo.turn b a p ≤ 0) : popR p (a :: b :: r) = a :: b :: r := by rw [popR, if_neg h]
theorem popR_sub (p : Int × Int) : ∀ (R : List (Int × Int)), (popR p R).length ≤ R.length ∧ ∀ q ∈ popR p R, q ∈ R
  | [] => ⟨Nat.le_refl _, fun q h => h⟩
  | [a] => ⟨Nat.le_refl _, fun q h => h⟩
  | a :: b :: r => by
    by_cases c : Geo.turn b a p ≤ 0
    · rw [popR_pop c]
      have := popR_sub p (b :: r)
      exact ⟨by simp only [List.length_cons] at this ⊢; omega, fun q h => by simp only [List.mem_cons] at *; exact .inr (by simpa using this.2 q h)⟩
    · rw [popR_stop c]; exact ⟨Nat.le_refl _, fun q h => h⟩
def hfold (l : List (Int × Int)) : List (Int × Int) := l.foldl (fun R p => p :: popR p R) []
theorem hfold_snoc (l : List (Int × Int)) (p : Int × Int) : hfold (l ++ [p]) = p :: popR p (hfold l) := by unfold hfold; rw [List.foldl_append]; rfl
end Go.Proofs.Ytecncmmkghmojaa.Sh


/- Half of a hull: the walk. -/
namespace Go.Proofs.Ytecncmmkghmojaa.Sh
open Go Geo
set_option maxRecDepth 100000

theorem cn_snoc2 (r : List (Int × Int)) (a b : Int × Int) : cn (r ++ [b, a]) (r.length + 1) = a ∧ cn (r ++ [b, a]) r.length = b := by
  unfold cn
  rw [List.getD_eq_getElem?_getD, List.getD_eq_getElem?_getD, List.getElem?_append_right (by omega), List.getElem?_append_right (by omega), Nat.add_sub_cancel_left, Nat.sub_self]
  exact ⟨rfl, rfl⟩

theorem pop_loop (cx : Cx) {H0 H : SHeap} {m : Nat} {p : Int × Int} (hm : H[m]? = some (blk [p])) (hp : inR p) (R0 : List (Int × Int)) (r7 r8 r9 : Value) :
    ∀ k ρ ms h' d', (∃ (R : List (Int × Int)) (v : Value), R.length = k ∧ R.length ≤ 12 ∧ (∀ q ∈ R, inR q) ∧ popR p R = popR p R0 ∧ ρ 3 = v ∧ ρ 5 = .pointer (some ⟨m, 0, none⟩) ∧ ρ 6 = .int .i64 R.length ∧ ρ 7 = r7 ∧ ρ 8 = r8 ∧ ρ 9 = r9 ∧ AccT H0 H v R.reverse ∧ h' = H ∧ ms = [] ∧ d' = []) →
    LoopW M cx 6 sf94L0 ρ ms h' d' (fun ex ρ' ms' h' d' => ex = .exit 2 ∧ (∃ v : Value, ρ' 3 = v ∧ AccT H0 H v (popR p R0).reverse) ∧ ρ' 5 = .pointer (some ⟨m, 0, none⟩) ∧ ρ' 7 = r7 ∧ ρ' 8 = r8 ∧ ρ' 9 = r9 ∧ h' = H ∧ ms' = [] ∧ d' = []) := by
  refine loop_run _ ?_
  rintro k ρ ms h' d' ⟨R, v, hk, h12, hR, hpop, r3, r5, r6, e7, e8, e9, A, rfl, rfl, rfl⟩
  unfold sf94L0
  cases R with
  | nil =>
    rw [List.length_nil] at r6
    have : popR p R0 = [] := by rw [← hpop]; rfl
    repeat (first | apply run_seq | apply run_block | apply end_seq | apply end_blk_hit | apply end_blk_miss rfl | apply end_blk | apply end_seq_exit | apply end_seq_ret | apply end_blk_ret | apply run_skip | apply run_ret | apply run_exit | (apply run_region (by decide); (simp only [go_sem, r6]; rfl)) | (refine run_cond_t ?_ ?_; · simp only [go_sem]) | (refine run_cond_f ?_ ?_; · simp only [go_sem]))
    refine end_nil ⟨rfl, ⟨v, ?_, by rw [this]; exact A⟩, ?_, ?_, ?_, ?_, rfl, rfl, rfl⟩
    · simp only [go_sem, r3]
    · simp only [go_sem, r5]
    · simp only [go_sem, e7]
    · simp only [go_sem, e8]
    · simp only [go_sem, e9]
  | cons a R1 =>
    cases R1 with
    | nil =>
      have : popR p R0 = [a] := by rw [← hpop]; rfl
      have e1 : ¬ ((1 : Int) < (([a] : List (Int × Int)).length : Int)) := by simp
      repeat (first | apply run_seq | apply run_block | apply end_seq | apply end_blk_hit | apply end_blk_miss rfl | apply end_blk | apply end_seq_exit | apply end_seq_ret | apply end_blk_ret | apply run_skip | apply run_ret | apply run_exit | (apply run_region (by decide); (simp only [go_sem, r6, e1]; rfl)) | (refine run_cond_t ?_ ?_; · simp only [go_sem]) | (refine run_cond_f ?_ ?_; · simp only [go_sem]))
      refine end_nil ⟨rfl, ⟨v, ?_, by rw [this]; exact A⟩, ?_, ?_, ?_, ?_, rfl, rfl, rfl⟩
      · simp only [go_sem, r3]
      · simp only [go_sem, r5]
      · simp only [go_sem, e7]
      · simp only [go_sem, e8]
      · simp only [go_sem, e9]
    | cons b r =>
      have hS : (a :: b :: r).reverse = r.reverse ++ [b, a] := by simp
      have hl : (a :: b :: r).length = r.length + 2 := rfl
      rw [hl] at r6 h12
      rcases A.acc with ⟨e, _⟩ | ⟨bb, old, junk, hv, h2, h3, h4, h5, h6⟩
      · simp at e
      · rw [List.length_reverse, hl] at hv
        have pp : Prs h' bb 0 (r.reverse ++ [b, a]) := ⟨[], junk, 53, true, 0, old, by rw [List.nil_append, ← hS]; exact h2, rfl, rfl⟩
        have l1 := pp.corner (i := r.length + 1) (by simp) []
        have l2 := pp.corner (i := r.length) (by simp) []
        obtain ⟨k1, k2⟩ := cn_snoc2 r.reverse a b
        rw [List.length_reverse] at k1 k2
        rw [List.append_nil, Nat.zero_add] at l1 l2
        rw [k1] at l1
        rw [k2] at l2
        have lp : loadS h' (some 2) (.pointer (some ⟨m, 0, none⟩)) = some (.agg #[.int .i64 p.1, .int .i64 p.2]) := by rw [load_rdON, hm]; rfl
        have ha := hR a (by simp)
        have hb := hR b (by simp)
        have e1 : (1 : Int) < ((r.length + 2 : Nat) : Int) := by omega
        have w1 : IntKind.i64.wrap (((r.length + 2 : Nat) : Int) - 1) = ((r.length + 1 : Nat) : Int) := by rw [wrap64 (by omega) (by omega)]; omega
        have w2 : IntKind.i64.wrap (((r.length + 2 : Nat) : Int) - 2) = ((r.length : Nat) : Int) := by rw [wrap64 (by omega) (by omega)]; omega
        have f0 : (0 : Int) ≤ ((r.length + 1 : Nat) : Int) := by omega
        have f1 : ((r.length + 1 : Nat) : Int) < ((r.length + 2 : Nat) : Int) := by omega
        have g0 : (0 : Int) ≤ (r.length : Int) := by omega
        have g1 : (r.length : Int) < ((r.length + 2 : Nat) : Int) := by omega
        have c80 := fun e => minus80 a b e (inR_sm ha) (inR_sm hb)
        have c80' := fun e => minus80 p a e (inR_sm hp) (inR_sm ha)
        have c95 : ∀ e, M.call 95 [.agg #[.int .i64 (sbt a b).1, .int .i64 (sbt a b).2], .agg #[.int .i64 (sbt p a).1, .int .i64 (sbt p a).2]] e = some (.int .i64 (Geo.turn b a p), e, []) := fun e => cross95 _ _ e (sbt_in hb ha) (sbt_in ha hp)
        have s3 := slice_to (b := bb) (n := r.length + 2) (k := r.length + 1) (by omega)
        have hpp := popR_pop (p := p) (a := a) (b := b) (r := r)
        have hps := popR_stop (p := p) (a := a) (b := b) (r := r)
        have Apop : AccT H0 h' (.slice (some ⟨bb, 0, none⟩) (r.length + 1) (UNK + 2)) (b :: r).reverse := by
          have A' := A
          rw [hv, List.reverse_cons] at A'
          have := A'.pop (by simp)
          simpa using this
        rw [hv] at r3
        by_cases hc : Geo.turn b a p ≤ 0
        · generalize sbt a b = u at *
          generalize sbt p a = w at *
          generalize Geo.turn b a p = Z at *
          repeat (first | apply run_seq | apply run_block | apply end_seq | apply end_blk_hit | apply end_blk_miss rfl | apply end_blk | apply end_seq_exit | apply end_seq_ret | apply end_blk_ret | apply run_skip | apply run_ret | apply run_exit | (apply run_region (by decide); (simp only [go_sem, r3, r5, r6, e1, w1, w2, f0, f1, g0, g1, l1, l2, lp, c80, c80', c95, hc, s3, Int.toNat_natCast]; rfl)) | (refine run_cond_t ?_ ?_; · simp only [go_sem]) | (refine run_cond_f ?_ ?_; · simp only [go_sem]))
          refine end_nil ⟨k - 1, by rw [hl] at hk; omega, b :: r, _, by rw [hl] at hk; simp only [List.length_cons]; omega, by simp only [List.length_cons]; omega, fun q hq => hR q (by simp only [List.mem_cons] at hq ⊢; exact .inr hq), by rw [← hpp hc]; exact hpop, ?_, ?_, ?_, ?_, ?_, ?_, Apop, rfl, rfl, rfl⟩
          · simp only [go_sem]
          · simp only [go_sem, r5]
          · (simp only [go_sem]) <;> rfl
          · simp only [go_sem, e7]
          · simp only [go_sem, e8]
          · simp only [go_sem, e9]
        · generalize sbt a b = u at *
          generalize sbt p a = w at *
          generalize Geo.turn b a p = Z at *
          repeat (first | apply run_seq | apply run_block | apply end_seq | apply end_blk_hit | apply end_blk_miss rfl | apply end_blk | apply end_seq_exit | apply end_seq_ret | apply end_blk_ret | apply run_skip | apply run_ret | apply run_exit | (apply run_region (by decide); (simp only [go_sem, r3, r5, r6, e1, w1, w2, f0, f1, g0, g1, l1, l2, lp, c80, c80', c95, hc, Int.toNat_natCast]; rfl)) | (refine run_cond_t ?_ ?_; · simp only [go_sem]) | (refine run_cond_f ?_ ?_; · simp only [go_sem]))
          refine end_nil ⟨rfl, ⟨v, ?_, by rw [← hpop, hps hc]; exact A⟩, ?_, ?_, ?_, ?_, rfl, rfl, rfl⟩
          · simp only [go_sem, r3]; rw [hv]
          · simp only [go_sem, r5]
          · simp only [go_sem, e7]
          · simp only [go_sem, e8]
          · simp only [go_sem, e9]

theorem hfold_sub (l : List (Int × Int)) : (hfold l).length ≤ l.length ∧ ∀ q ∈ hfold l, q ∈ l := by
  have : ∀ n, n ≤ l.length → (hfold (l.take n)).length ≤ n ∧ ∀ q ∈ hfold (l.take n), q ∈ l := by
    intro n
    induction n with
    | zero => intro _; simp [hfold]
    | succ n ih =>
      intro hn
      obtain ⟨i1, i2⟩ := ih (by omega)
      have e : l.take (n + 1) = l.take n ++ [l[n]'(by omega)] := by rw [List.take_add_one, List.getElem?_eq_getElem (by omega)]; rfl
      rw [e, hfold_snoc]
      obtain ⟨k1, k2⟩ := popR_sub (l[n]'(by omega)) (hfold (l.take n))
      refine ⟨by simp only [List.length_cons]; omega, fun q hq => ?_⟩
      rcases List.mem_cons.1 hq with rfl | hq
      · exact List.getElem_mem _
      · exact i2 q (k2 q hq)
  have h := this l.length (Nat.le_refl _)
  rwa [List.take_length] at h

theorem half_loop (cx : Cx) {H0 : SHeap} {b o n c : Nat} {l : List (Int × Int)} (hpl : Prs H0 b o l) (hl : l.length = n) (hn : n ≤ 12) (hin : ∀ q ∈ l, inR q) :
    ∀ k ρ ms h' d', (∃ (i : Nat) (v : Value), i + k = n ∧ ρ 3 = v ∧ ρ 7 = .slice (some ⟨b, o, none⟩) n c ∧ ρ 8 = .int .i64 n ∧ ρ 9 = .int .i64 i ∧ AccT H0 h' v (hfold (l.take i)).reverse ∧ (i ≠ 0 → ∃ bb old, v = .slice (some ⟨bb, 0, none⟩) (hfold (l.take i)).length (UNK + 2) ∧ h'[bb]? = some (.cells (prs (hfold (l.take i)).reverse) 53 true 0 old) ∧ H0.length ≤ bb ∧ ∀ c ∈ old, H0.length ≤ c ∧ c < bb) ∧ ms = [] ∧ d' = []) →
    LoopW M cx 6 sf94L1 ρ ms h' d' (fun ex ρ' ms' h' d' => ex = .exit 0 ∧ (∃ v : Value, ρ' 3 = v ∧ AccT H0 h' v (hfold l).reverse ∧ (n ≠ 0 → ∃ bb old, v = .slice (some ⟨bb, 0, none⟩) (hfold l).length (UNK + 2) ∧ h'[bb]? = some (.cells (prs (hfold l).reverse) 53 true 0 old) ∧ H0.length ≤ bb ∧ ∀ c ∈ old, H0.length ≤ c ∧ c < bb)) ∧ ms' = [] ∧ d' = []) := by
  refine loop_run _ ?_
  rintro k ρ ms h' d' ⟨i, v, hi, r3, r7, r8, r9, A, hex, rfl, rfl⟩
  unfold sf94L1
  by_cases hk : k = 0
  · have e1 : ¬ ((i : Int) < n) := by omega
    have ei : i = n := by omega
    rw [ei, ← hl, List.take_length] at A hex
    rw [hl] at hex
    repeat (first | apply run_seq | apply run_block | apply end_seq | apply end_blk_hit | apply end_blk_miss rfl | apply end_blk | apply end_seq_exit | apply end_seq_ret | apply end_blk_ret | apply run_skip | apply run_ret | apply run_exit | (apply run_region (by decide); (simp only [go_sem, r8, r9, e1]; rfl)) | (refine run_cond_t ?_ ?_; · simp only [go_sem]) | (refine run_cond_f ?_ ?_; · simp only [go_sem]))
    refine end_nil ⟨rfl, ⟨v, ?_, A, hex⟩, rfl, rfl⟩
    simp only [go_sem, r3]
  · have e1 : (i : Int) < n := by omega
    have e0 : (0 : Int) ≤ i := by omega
    have hil : i < l.length := by omega
    have ew : IntKind.i64.wrap ((i : Int) + 1) = ((i + 1 : Nat) : Int) := by rw [wrap64 (by omega) (by omega)]; rfl
    have l1 := (A.keepPrs hpl).loadN hil
    have htk : l.take (i + 1) = l.take i ++ [l[i]] := by rw [List.take_add_one, List.getElem?_eq_getElem hil]; rfl
    obtain ⟨s1, s2⟩ := hfold_sub (l.take i)
    have hRin : ∀ q ∈ hfold (l.take i), inR q := fun q hq => hin q (List.mem_of_mem_take (s2 q hq))
    have hpin := hin l[i] (List.getElem_mem hil)
    have hRl : (hfold (l.take i)).length ≤ 12 := by rw [List.length_take] at s1; omega
    have hvs : ∃ a c, v = .slice a (hfold (l.take i)).length c := by
      obtain ⟨a, c, e⟩ := A.shape; rw [List.length_reverse] at e; exact ⟨a, c, e⟩
    have hsnoc : hfold (l.take (i + 1)) = l[i] :: popR l[i] (hfold (l.take i)) := by rw [htk, hfold_snoc]
    obtain ⟨p1, p2⟩ := popR_sub l[i] (hfold (l.take i))
    generalize l[i] = p at *
    generalize hRe : hfold (l.take i) = R at *
    generalize hRe2 : hfold (l.take (i + 1)) = R2 at *
    obtain ⟨va, vc, rfl⟩ := hvs
    have hm : (h' ++ [blk [p]])[h'.length]? = some (blk [p]) := by rw [app_get0]; rfl
    have pl := pop_loop cx hm hpin R (.slice (some ⟨b, o, none⟩) n c) (.int .i64 n) (.int .i64 i) (H0 := H0) R.length
    repeat (first | apply run_seq | apply run_block | apply end_seq | apply end_blk_hit | apply end_blk_miss rfl | apply end_blk | apply end_seq_exit | apply end_seq_ret | apply end_blk_ret | apply run_skip | apply run_ret | apply run_exit | (apply run_region (by decide); (simp only [go_sem, r3, r7, r8, r9, e0, e1, l1, Int.toNat_natCast]; rfl)) | (refine run_cond_t ?_ ?_; · simp only [go_sem]) | (refine run_cond_f ?_ ?_; · simp only [go_sem]))
    refine run_loop (pl _ _ _ _ ⟨R, _, rfl, hRl, hRin, rfl, by simp only [go_sem, r3], by simp only [go_sem], by simp only [go_sem, r3], by simp only [go_sem, r7], by simp only [go_sem, r8], by simp only [go_sem, r9], A.app _, rfl, rfl, rfl⟩) ?_
    rintro ex ρ' ms' h2 d2 ⟨rfl, ⟨v2, k3, A2⟩, k5, k7, k8, k9, rfl, rfl, rfl⟩
    have lp : ∀ e, loadS (h' ++ (blk [p] :: e)) (some 2) (.pointer (some ⟨h'.length, 0, none⟩)) = some (.agg #[.int .i64 p.1, .int .i64 p.2]) := fun e => by rw [load_rdON, app_get0]; rfl
    have hlen3 : (popR p R).reverse.length ≤ 1000 := by rw [List.length_reverse]; omega
    obtain ⟨H2, v3, ap, A3, ex3⟩ := A2.push hlen3 [] p
    have hlh : (h' ++ [blk [p]]).length = h'.length + 1 := by simp
    have ap' : ∀ base d, appendS base (h' ++ [SO.cells [.int .i64 p.1, .int .i64 p.2] 53 true 0 [], SO.cells [.int .i64 p.1, .int .i64 p.2] 53 true 0 []]) d 53 true 2 16 v2 (.slice (some ⟨h'.length + 1, 0, none⟩) 1 1) = some (v3, H2, d) := by
      intro base d
      have := ap base d
      rw [hlh, List.append_assoc] at this
      exact this
    obtain ⟨va2, vc2, rfl⟩ := A2.shape
    have hrev : (popR p R).reverse ++ [p] = R2.reverse := by rw [hsnoc, List.reverse_cons]
    have hlen : (popR p R).reverse.length + 1 = R2.length := by rw [hsnoc, List.length_reverse]; rfl
    rw [hrev] at A3 ex3
    rw [hlen] at ex3
    repeat (first | apply run_seq | apply run_block | apply end_seq | apply end_blk_hit | apply end_blk_miss rfl | apply end_blk | apply end_seq_exit | apply end_seq_ret | apply end_blk_ret | apply run_skip | apply run_ret | apply run_exit | (apply run_region (by decide); (simp only [go_sem]; rfl)) | (refine run_cond_t ?_ ?_; · simp only [go_sem]) | (refine run_cond_f ?_ ?_; · simp only [go_sem]))
    change Run _ _ _ _ _ _ _ (h' ++ [SO.cells [.int .i64 p.1, .int .i64 p.2] 53 true 0 []]) _ _
    repeat (first | apply run_seq | apply run_block | apply end_seq | apply end_blk_hit | apply end_blk_miss rfl | apply end_blk | apply end_seq_exit | apply end_seq_ret | apply end_blk_ret | apply run_skip | apply run_ret | apply run_exit | (apply run_region (by decide); (simp only [go_sem, k3, k5, k7, k8, k9, ap', ew]; rfl)) | (refine run_cond_t ?_ ?_; · simp only [go_sem]) | (refine run_cond_f ?_ ?_; · simp only [go_sem]))
    refine end_nil ⟨k - 1, by omega, i + 1, v3, by omega, ?_, ?_, ?_, ?_, by rw [hRe2]; exact A3, fun _ => by rw [hRe2]; exact ex3, rfl, rfl⟩
    · simp only [go_sem]
    · simp only [go_sem, k7]
    · simp only [go_sem, k8]
    · simp only [go_sem, ew]

/-- half: the corners on one side, but for the last one -/
theorem half94 {h : SHeap} {b o n c : Nat} {l : List (Int × Int)} (hpl : Prs h b o l) (hl : l.length = n) (hn : n ≤ 12) (hn0 : 1 ≤ n) (hin : ∀ q ∈ l, inR q) :
    M.call 94 [.slice (some ⟨b, o, none⟩) n c] h = some (.slice (some ⟨h.length, 0, none⟩) ((hfold l).length - 1) (UNK + 2), h ++ [blk (hfold l).reverse], []) := by
  have hf1 : 1 ≤ (hfold l).length := by
    have e : l = l.take (n - 1) ++ [l[n - 1]'(by omega)] := by
      have : l.take (n - 1 + 1) = l.take (n - 1) ++ [l[n - 1]'(by omega)] := by rw [List.take_add_one, List.getElem?_eq_getElem (by omega)]; rfl
      rw [← this, show n - 1 + 1 = l.length by omega, List.take_length]
    rw [e, hfold_snoc]; simp
  have hfl := (hfold_sub l).1
  refine call_run sf94 rfl rfl rfl ?_
  unfold sf94
  repeat (first | apply run_seq | apply run_block | apply end_seq | apply end_blk_hit | apply end_blk_miss rfl | apply end_blk | apply end_seq_exit | apply end_seq_ret | apply end_blk_ret | apply run_skip | apply run_ret | apply run_exit | (apply run_region (by decide); (simp only [go_sem, argR]; rfl)) | (refine run_cond_t ?_ ?_; · simp only [go_sem]) | (refine run_cond_f ?_ ?_; · simp only [go_sem]))
  refine run_loop (half_loop _ (c := c) hpl hl hn hin n _ _ _ _ ⟨0, .slice none 0 0, by omega, by simp only [go_sem], by simp only [go_sem, argR], by simp only [go_sem, argR], by (simp only [go_sem]) <;> rfl, AccT.nil0 h, fun e => (e rfl).elim, rfl, rfl⟩) ?_
  rintro ex ρ' ms' h1 d1 ⟨rfl, ⟨v, k3, A, hex⟩, rfl, rfl⟩
  obtain ⟨bb, old, rfl, h2, h3, h4⟩ := hex (by omega)
  have s3 := slice_to (b := bb) (n := (hfold l).length) (k := (hfold l).length - 1) (by omega)
  have w1 : IntKind.i64.wrap (((hfold l).length : Int) - 1) = (((hfold l).length - 1 : Nat) : Int) := by rw [wrap64 (by omega) (by omega)]; omega
  have ht : h1.take h.length = h := take_of_same A.le A.same
  have q := q_own1 (H := h) (h := h1) (b := bb) (o := 0) (n := (hfold l).length - 1) (c := UNK + 2) (cs := prs (hfold l).reverse) (el := 53) (own := 0) (old := old) (i := 2)
    (ρ := upd (upd (upd (upd (upd (upd ρ' 50 (.slice (some ⟨bb, 0, none⟩) (hfold l).length (UNK + 2))) 51 (.slice (some ⟨bb, 0, none⟩) (hfold l).length (UNK + 2))) 52 (.int .i64 (hfold l).length)) 53 (.int .i64 (((hfold l).length - 1 : Nat) : Int))) 54 (.slice (some ⟨bb, 0, none⟩) ((hfold l).length - 1) (UNK + 2))) 2 (.slice (some ⟨bb, 0, none⟩) ((hfold l).length - 1) (UNK + 2))) (by simp only [go_sem]) ht h2 rfl h3
  rw [ren_none' h4] at q
  repeat (first | apply run_seq | apply run_block | apply end_seq | apply end_blk_hit | apply end_blk_miss rfl | apply end_blk | apply end_seq_exit | apply end_seq_ret | apply end_blk_ret | apply run_skip | apply run_ret | apply run_exit | (apply run_region (by decide); (simp only [go_sem, k3, w1, s3]; rfl)) | (refine run_cond_t ?_ ?_; · simp only [go_sem]) | (refine run_cond_f ?_ ?_; · simp only [go_sem]))
  exact end_nil q
end Go.Proofs.Ytecncmmkghmojaa.Sh


/- The stack of corners is one side of the hull: plain laws. -/
namespace Go.Proofs.Ytecncmmkghmojaa.Geo

/-- to the right, or straight up -/
def LP (u : Pt) : Prop := HP (0, -1) u
theorem lp_before {a b : Pt} : LP (sub b a) ↔ before a b = true := by
  simp only [LP, HP, crs, dot, sub, before, decide_eq_true_eq]
  constructor
  · rintro (h | ⟨h1, h2⟩) <;> omega
  · rintro (h | ⟨h1, h2⟩) <;> omega
theorem trans_gt1 {d u v w : Pt} (hu : HP d u) (hv : HP d v) (hw : HP d w) (h1 : 0 < crs u v) (h2 : 0 ≤ crs v w) : 0 < crs u w := by
  have h3 := trans_ge hu hv hw (by omega) h2
  by_cases e : crs u w = 0
  · have sd := same_dir hu hw e
    have id := para_id v u w
    rw [e, Int.mul_zero, Int.add_zero] at id
    have uu := dot_pos hu.ne
    have a := Int.mul_nonneg (show 0 ≤ dot u u by omega) h2
    have b := Int.mul_pos sd h1
    rw [crs_anti u v, Int.mul_neg] at id
    omega
  · omega
theorem trans_gt2 {d u v w : Pt} (hu : HP d u) (hv : HP d v) (hw : HP d w) (h1 : 0 ≤ crs u v) (h2 : 0 < crs v w) : 0 < crs u w := by
  have h3 := trans_ge hu hv hw h1 (by omega)
  by_cases e : crs u w = 0
  · have e' : crs w u = 0 := by rw [crs_anti u w]; omega
    have sd := same_dir hw hu e'
    have id := para_id v w u
    rw [e', Int.mul_zero, Int.add_zero] at id
    have ww := dot_pos hw.ne
    have a : crs v u ≤ 0 := by rw [crs_anti u v]; omega
    have b := Int.mul_pos sd h2
    have c := Int.mul_nonneg (show 0 ≤ dot w w by omega) (show 0 ≤ - crs v u by omega)
    rw [Int.mul_neg] at c
    omega
  · omega
theorem bf_trans {a b c : Pt} (h1 : before a b = true) (h2 : before b c = true) : before a c = true := by
  simp only [before, decide_eq_true_eq] at *
  omega
theorem bf_irr (a : Pt) : before a a = false := by simp [before]
theorem bf_total {a b : Pt} (h : before a b = false) : a = b ∨ before b a = true := by
  simp only [before, decide_eq_false_iff_not, decide_eq_true_eq] at *
  by_cases e : a = b
  · exact .inl e
  · right
    have : ¬ (a.1 = b.1 ∧ a.2 = b.2) := fun h => e (Prod.ext h.1 h.2)
    omega
theorem bf_asym {a b : Pt} (h : before a b = true) : before b a = false := by
  simp only [before, decide_eq_false_iff_not, decide_eq_true_eq] at *
  omega

def EdgeOK (b a q : Pt) : Prop := 0 < turn b a q ∨ (turn b a q = 0 ∧ before q b = false ∧ before a q = false)
theorem EdgeOK.nonneg {b a q : Pt} (h : EdgeOK b a q) : 0 ≤ turn b a q := by rcases h with h | h <;> omega
/-- the sides of a stack, the last corner first, see these points on their left -/
def Edges (P : List Pt) : List Pt → Prop
  | a :: b :: r => before b a = true ∧ (∀ q ∈ P, EdgeOK b a q) ∧ Edges P (b :: r)
  | _ => True
def Conv : List Pt → Prop
  | a :: b :: c :: r => 0 < turn c b a ∧ Conv (b :: c :: r)
  | _ => True
def Bottom (P : List Pt) : List Pt → Prop
  | [] => False
  | [z] => ∀ q ∈ P, q = z ∨ before z q = true
  | _ :: b :: r => Bottom P (b :: r)

theorem pop_inv {P : List Pt} {p : Pt} (hp : ∀ q ∈ P, before q p = true) : ∀ (R : List Pt), R ≠ [] → (∀ q ∈ R, q ∈ P) → Edges P R → Conv R → Bottom P R → (∀ q ∈ P, before q (R.headD (0, 0)) = false → 0 ≤ turn (R.headD (0, 0)) p q) →
    Sh.popR p R ≠ [] ∧ (∀ q ∈ Sh.popR p R, q ∈ P) ∧ Edges P (Sh.popR p R) ∧ Conv (Sh.popR p R) ∧ Bottom P (Sh.popR p R) ∧ (∀ q ∈ P, before q ((Sh.popR p R).headD (0, 0)) = false → 0 ≤ turn ((Sh.popR p R).headD (0, 0)) p q) ∧ (∀ t s r, Sh.popR p R = t :: s :: r → 0 < turn s t p)
  | [], h, _, _, _, _, _ => (h rfl).elim
  | [a], _, h2, h3, h4, h5, h6 => ⟨by simp [Sh.popR], h2, h3, h4, h5, h6, fun t s r e => by simp [Sh.popR] at e⟩
  | a :: b :: r, _, h2, h3, h4, h5, h6 => by
    by_cases c : turn b a p ≤ 0
    · rw [Sh.popR_pop c]
      refine pop_inv hp (b :: r) (by simp) (fun q hq => h2 q (by simp only [List.mem_cons] at hq ⊢; exact .inr hq)) h3.2.2 ?_ h5 ?_
      · cases r with
        | nil => trivial
        | cons x r => exact h4.2
      · intro q hq hb
        show 0 ≤ turn b p q
        have hb' : before q b = false := hb
        rcases bf_total hb' with e | hbq
        · rw [e]; simp only [turn]; grind
        · have ha : LP (sub a b) := lp_before.2 h3.1
          have hbp : LP (sub p b) := lp_before.2 (hp b (h2 b (by simp)))
          have hbq' : LP (sub q b) := lp_before.2 hbq
          have e1 := (h3.2.1 q hq).nonneg
          rw [turn_crs] at e1 c ⊢
          exact trans_ge hbp ha hbq' (by rw [crs_anti (sub a b)]; omega) e1
    · rw [Sh.popR_stop c]
      refine ⟨by simp, h2, h3, h4, h5, h6, fun t s r' e => ?_⟩
      simp only [List.cons.injEq] at e
      obtain ⟨rfl, rfl, _⟩ := e
      omega

/-- all sides of a convex stack see a point on the left, if the last one does -/
theorem conv_all {P : List Pt} {p : Pt} (hp : ∀ q ∈ P, before q p = true) : ∀ (R : List Pt), (∀ q ∈ R, q ∈ P) → Edges P R → Conv R → (∀ t s r, R = t :: s :: r → 0 < turn s t p) → Edges (P ++ [p]) R
  | [], _, _, _, _ => trivial
  | [a], _, _, _, _ => trivial
  | a :: b :: r, h2, h3, h4, h5 => by
    have h0 := h5 a b r rfl
    refine ⟨h3.1, fun q hq => ?_, ?_⟩
    · rcases List.mem_append.1 hq with hq | hq
      · exact h3.2.1 q hq
      · simp at hq; subst hq; exact .inl h0
    · refine conv_all hp (b :: r) (fun q hq => h2 q (by simp only [List.mem_cons] at hq ⊢; exact .inr hq)) h3.2.2 ?_ ?_
      · cases r with
        | nil => trivial
        | cons x r => exact h4.2
      · intro t s r' e
        cases r with
        | nil => simp at e
        | cons x r =>
          simp only [List.cons.injEq] at e
          obtain ⟨rfl, rfl, _⟩ := e
          -- x, b, a, p
          have u1 : LP (sub b x) := lp_before.2 h3.2.2.1
          have u2 : LP (sub a b) := lp_before.2 h3.1
          have u3 : LP (sub p b) := lp_before.2 (hp b (h2 b (by simp)))
          have t1 : 0 < crs (sub b x) (sub a b) := by have := h4.1; simp only [turn, crs, sub] at this ⊢; exact this
          have t2 : 0 < crs (sub a b) (sub p b) := by rw [← turn_crs]; exact h0
          have := trans_gt1 u1 u2 u3 t1 (by omega)
          simp only [turn, crs, sub] at this ⊢; exact this

/-- one more point -/
theorem push_inv {P R : List Pt} {p : Pt} (hp : ∀ q ∈ P, before q p = true) (h1 : R ≠ []) (h2 : ∀ q ∈ R, q ∈ P) (h3 : Edges P R) (h4 : Conv R) (h5 : Bottom P R) (h6 : ∀ q ∈ P, q = R.headD (0, 0) ∨ before q (R.headD (0, 0)) = true) :
    (∀ q ∈ p :: Sh.popR p R, q ∈ P ++ [p]) ∧ Edges (P ++ [p]) (p :: Sh.popR p R) ∧ Conv (p :: Sh.popR p R) ∧ Bottom (P ++ [p]) (p :: Sh.popR p R) ∧ (∀ q ∈ P ++ [p], q = p ∨ before q p = true) := by
  obtain ⟨k1, k2, k3, k4, k5, k6, k7⟩ := pop_inv hp R h1 h2 h3 h4 h5 (fun q hq hb => by
    rcases h6 q hq with e | e
    · rw [e]; simp only [turn]; grind
    · rw [e] at hb; cases hb)
  have hmem : ∀ q ∈ p :: Sh.popR p R, q ∈ P ++ [p] := fun q hq => by
    rcases List.mem_cons.1 hq with rfl | hq
    · simp
    · exact List.mem_append_left _ (k2 q hq)
  have hall := conv_all hp (Sh.popR p R) k2 k3 k4 k7
  generalize Sh.popR p R = T at *
  refine ⟨hmem, ?_, ?_, ?_, fun q hq => ?_⟩
  · cases T with
    | nil => exact (k1 rfl).elim
    | cons t r =>
      have ht := k2 t (by simp)
      have htp := hp t ht
      refine ⟨htp, fun q hq => ?_, hall⟩
      rcases List.mem_append.1 hq with hq | hq
      · by_cases hb : before q t = false
        · have := k6 q hq hb
          by_cases e : turn t p q = 0
          · exact .inr ⟨e, hb, bf_asym (hp q hq)⟩
          · exact .inl (by have : 0 ≤ turn t p q := this; omega)
        · have hb' : before q t = true := by simpa using hb
          cases r with
          | nil =>
            exfalso
            rcases k5 q hq with e | e
            · subst e; rw [bf_irr] at hb'; cases hb'
            · rw [bf_asym e] at hb'; cases hb'
          | cons s r =>
            have h0 := k7 t s r rfl
            have e1 := (k3.2.1 q hq).nonneg
            have u1 : LP (sub t q) := lp_before.2 hb'
            have u2 : LP (sub t s) := lp_before.2 k3.1
            have u3 : LP (sub p t) := lp_before.2 htp
            have t1 : 0 ≤ crs (sub t q) (sub t s) := by
              have : crs (sub t q) (sub t s) = turn s t q := by simp only [turn, crs, sub]; grind
              omega
            have t2 : 0 < crs (sub t s) (sub p t) := by
              have : crs (sub t s) (sub p t) = turn s t p := by simp only [turn, crs, sub]
              omega
            have := trans_gt2 u1 u2 u3 t1 t2
            have e2 : turn t p q = crs (sub t q) (sub p t) := by simp only [turn, crs, sub]; grind
            exact .inl (by omega)
      · simp at hq
        subst hq
        exact .inr ⟨by simp only [turn]; grind, bf_asym htp, bf_irr _⟩
  · cases T with
    | nil => trivial
    | cons t r =>
      cases r with
      | nil => trivial
      | cons s r => exact ⟨k7 t s r rfl, k4⟩
  · cases T with
    | nil => exact (k1 rfl).elim
    | cons t r =>
      show Bottom (P ++ [p]) (t :: r)
      have : ∀ (T : List Pt), Bottom P T → (∀ q ∈ T, q ∈ P) → Bottom (P ++ [p]) T := by
        intro T
        induction T with
        | nil => intro h _; exact h
        | cons x T ih =>
          intro h hm
          cases T with
          | nil =>
            intro q hq
            rcases List.mem_append.1 hq with hq | hq
            · exact h q hq
            · simp at hq; subst hq; exact .inr (hp x (hm x (by simp)))
          | cons y T => exact ih h (fun q hq => hm q (by simp only [List.mem_cons] at hq ⊢; exact .inr hq))
      exact this _ k5 k2
  · rcases List.mem_append.1 hq with hq | hq
    · exact .inr (hp q hq)
    · simp at hq; exact .inl hq

/-- all points -/
theorem fold_inv {D : List Pt} (hs : D.Pairwise (fun p q => before p q = true)) : ∀ n, 1 ≤ n → n ≤ D.length →
    Sh.hfold (D.take n) ≠ [] ∧ (∀ q ∈ Sh.hfold (D.take n), q ∈ D.take n) ∧ Edges (D.take n) (Sh.hfold (D.take n)) ∧ Conv (Sh.hfold (D.take n)) ∧ Bottom (D.take n) (Sh.hfold (D.take n)) ∧ (∀ q ∈ D.take n, q = (Sh.hfold (D.take n)).headD (0, 0) ∨ before q ((Sh.hfold (D.take n)).headD (0, 0)) = true) := by
  intro n
  induction n with
  | zero => intro h; omega
  | succ n ih =>
    intro _ hn
    have e : D.take (n + 1) = D.take n ++ [D[n]'(by omega)] := by rw [List.take_add_one, List.getElem?_eq_getElem (by omega)]; rfl
    by_cases hz : n = 0
    · subst hz
      rw [e, Sh.hfold_snoc]
      have e0 : D.take 0 = [] := rfl
      rw [e0]
      refine ⟨by simp, fun q hq => ?_, trivial, trivial, fun q hq => ?_, fun q hq => ?_⟩
      · simpa [Sh.hfold, Sh.popR] using hq
      · simp at hq; exact .inl hq
      · simp at hq; exact .inl hq
    · obtain ⟨i1, i2, i3, i4, i5, i6⟩ := ih (by omega) (by omega)
      have hlt : ∀ q ∈ D.take n, before q (D[n]'(by omega)) = true := by
        intro q hq
        obtain ⟨j, hj, rfl⟩ := List.mem_iff_getElem.1 hq
        rw [List.length_take] at hj
        rw [List.getElem_take]
        exact List.pairwise_iff_getElem.1 hs j n (by omega) (by omega) (by omega)
      obtain ⟨k1, k2, k3, k4, k5⟩ := push_inv hlt i1 i2 i3 i4 i5 i6
      rw [e, Sh.hfold_snoc]
      exact ⟨by simp, k1, k2, k3, k4, k5⟩
theorem fold_all {D : List Pt} (hs : D.Pairwise (fun p q => before p q = true)) (h1 : 1 ≤ D.length) :
    Sh.hfold D ≠ [] ∧ (∀ q ∈ Sh.hfold D, q ∈ D) ∧ Edges D (Sh.hfold D) ∧ Bottom D (Sh.hfold D) ∧ (∀ q ∈ D, q = (Sh.hfold D).headD (0, 0) ∨ before q ((Sh.hfold D).headD (0, 0)) = true) := by
  have := fold_inv hs D.length h1 (Nat.le_refl _)
  rw [List.take_length] at this
  exact ⟨this.1, this.2.1, this.2.2.1, this.2.2.2.2.1, this.2.2.2.2.2⟩
end Go.Proofs.Ytecncmmkghmojaa.Geo


/- The two sides of the hull are the points wrapped: plain laws. -/
namespace Go.Proofs.Ytecncmmkghmojaa.Geo

theorem sup_uniq {l : List Pt} {a b c : Pt} (h1 : Sup l a b) (h2 : Sup l a c) : b = c := by
  have k1 := h1.2.2 c h2.2.1 h2.1
  have k2 := h2.2.2 b h1.2.1 h1.1
  have ub := dot_pos (sub_ne h1.1)
  have uc := dot_pos (sub_ne h2.1)
  have an := crs_anti (sub b a) (sub c a)
  have dc := dot_comm (sub b a) (sub c a)
  have lg := lagr (sub b a) (sub c a)
  have hx : crs (sub b a) (sub c a) = 0 := by rcases k1 with k1 | k1 <;> rcases k2 with k2 | k2 <;> omega
  rw [hx] at lg
  have d1 : 0 < dot (sub b a) (sub c a) := by rcases k1 with k1 | k1 <;> omega
  have d2 : dot (sub b a) (sub c a) ≤ dot (sub b a) (sub b a) := by rcases k1 with k1 | k1 <;> omega
  have d3 : dot (sub b a) (sub c a) ≤ dot (sub c a) (sub c a) := by rcases k2 with k2 | k2 <;> omega
  have id : dot (sub b c) (sub b c) = dot (sub b a) (sub b a) - 2 * dot (sub b a) (sub c a) + dot (sub c a) (sub c a) := by simp only [dot, sub]; grind
  generalize dot (sub b a) (sub c a) = x at *
  generalize dot (sub b a) (sub b a) = u at *
  generalize dot (sub c a) (sub c a) = v at *
  simp only [Int.mul_zero, Int.sub_zero] at lg
  have e1 : x = u := by
    by_cases e : x = u
    · exact e
    · exfalso
      have m1 := Int.mul_lt_mul_of_pos_right (show x < u by omega) uc
      have m2 := Int.mul_le_mul_of_nonneg_left d3 (show 0 ≤ x by omega)
      omega
  have e2 : x = v := by
    rw [← e1] at lg
    exact Int.eq_of_mul_eq_mul_left (show x ≠ 0 by omega) lg
  have z := dot_zero (u := sub b c) (by omega)
  simp only [sub, Prod.mk.injEq] at z
  exact Prod.ext (by omega) (by omega)

theorem edge_sup {D l : List Pt} (hm : ∀ q, q ∈ l → q ∈ D) {a b : Pt} (hba : before b a = true) (ha : a ∈ l) (hs : ∀ q ∈ D, EdgeOK b a q) : Sup l b a := by
  have hab : a ≠ b := by rintro rfl; rw [bf_irr] at hba; cases hba
  refine ⟨hab, ha, fun q hq hqb => ?_⟩
  rcases hs q (hm q hq) with h | ⟨h1, h2, h3⟩
  · exact .inl (by rw [← turn_crs]; exact h)
  · rw [turn_crs] at h1
    have u1 : LP (sub a b) := lp_before.2 hba
    have u2 : LP (sub q b) := by
      rcases bf_total h2 with e | e
      · exact (hqb e).elim
      · exact lp_before.2 e
    refine .inr ⟨h1, same_dir u1 u2 h1, ?_⟩
    have id : dot (sub a b) (sub q b) = dot (sub a b) (sub a b) - dot (sub a b) (sub a q) := by simp only [dot, sub]; grind
    rcases bf_total h3 with e | e
    · subst e; exact Int.le_refl _
    · have u3 : LP (sub a q) := lp_before.2 e
      have c3 : crs (sub a b) (sub a q) = 0 := by
        have : crs (sub a b) (sub a q) = - crs (sub a b) (sub q b) := by simp only [crs, sub]; grind
        omega
      have := same_dir u1 u3 c3
      omega

/-- each the next of the one before -/
def Chn (l : List Pt) : List Pt → Prop
  | a :: b :: r => Sup l a b ∧ Chn l (b :: r)
  | _ => True
theorem chn_join {l : List Pt} {g : Pt} : ∀ {X Y : List Pt}, Chn l (X ++ [g]) → Chn l (g :: Y) → Chn l (X ++ g :: Y)
  | [], Y, _, h => h
  | [a], Y, h1, h2 => ⟨h1.1, h2⟩
  | a :: b :: r, Y, h1, h2 => ⟨h1.1, chn_join (X := b :: r) h1.2 h2⟩

theorem edges_chn {D l : List Pt} (hm : ∀ q, q ∈ l ↔ q ∈ D) : ∀ {R : List Pt}, Edges D R → (∀ q ∈ R, q ∈ D) → Chn l R.reverse
  | [], _, _ => trivial
  | [a], _, _ => trivial
  | a :: b :: r, h, hR => by
    have ih := edges_chn hm (R := b :: r) h.2.2 (fun q hq => hR q (by simp only [List.mem_cons] at hq ⊢; exact .inr hq))
    rw [List.reverse_cons] at ih
    rw [List.reverse_cons, List.reverse_cons, List.append_assoc]
    exact chn_join ih ⟨edge_sup (fun q hq => (hm q).1 hq) h.1 ((hm a).2 (hR a (by simp))) h.2.1, trivial⟩
theorem edges_bf {D : List Pt} : ∀ {a : Pt} {r : List Pt}, Edges D (a :: r) → ∀ q ∈ r, before q a = true
  | a, [], _, q, hq => by simp at hq
  | a, b :: r, h, q, hq => by
    rcases List.mem_cons.1 hq with rfl | hq
    · exact h.1
    · exact bf_trans (edges_bf h.2.2 q hq) h.1

theorem follow {l : List Pt} {f : Pt} (hl : ∀ q ∈ l, before q f = false) : ∀ (rest : List Pt) (k : Nat) (acc : List Pt) (a : Pt), l.length ≤ acc.length + k → Ring l f acc a → Chn l (a :: (rest ++ [f])) → f ∉ rest → wrapGo l f k acc a = acc ++ rest
  | [], 0, acc, a, _, _, _, _ => by rw [List.append_nil]; rfl
  | [], k + 1, acc, a, hk, r, h, _ => by
    obtain ⟨d, hd⟩ := ring_hp hl r
    have : scan a l = f := by
      rcases scan_sup hd with ⟨_, h2⟩ | hs
      · exact (h.1.1 (h2 f h.1.2.1)).elim
      · exact sup_uniq hs h.1
    rw [wrapGo, if_pos (.inl this), List.append_nil]
  | b :: rest, 0, acc, a, hk, r, h, hf => by
    exfalso
    have r2 := ring_next r h.1 (fun e => hf (by simp [e]))
    have := nodup_len r2.nodup r2.mem
    simp at this
    omega
  | b :: rest, k + 1, acc, a, hk, r, h, hf => by
    obtain ⟨d, hd⟩ := ring_hp hl r
    have hbf : b ≠ f := fun e => hf (by simp [e])
    have : scan a l = b := by
      rcases scan_sup hd with ⟨_, h2⟩ | hs
      · exact (h.1.1 (h2 b h.1.2.1)).elim
      · exact sup_uniq hs h.1
    rw [wrapGo, this, if_neg (fun e => by rcases e with e | e; exact hbf e; exact h.1.1 e), follow hl rest k _ b (by simp; omega) (ring_next r h.1 hbf) h.2 (fun e => hf (by simp [e])), List.append_assoc]
    rfl

/-- all on the other side -/
def neg (p : Pt) : Pt := (- p.1, - p.2)
theorem neg_neg (p : Pt) : neg (neg p) = p := by simp only [neg, Int.neg_neg]
theorem neg_inj {p q : Pt} (h : neg p = neg q) : p = q := by rw [← neg_neg p, h, neg_neg]
theorem neg_before (p q : Pt) : before (neg p) (neg q) = before q p := by
  simp only [before, neg]
  congr 1
  apply propext
  omega
theorem neg_turn (a b c : Pt) : turn (neg a) (neg b) (neg c) = turn a b c := by simp only [turn, neg]; grind
theorem neg_pop (p : Pt) : ∀ (R : List Pt), Sh.popR (neg p) (R.map neg) = (Sh.popR p R).map neg
  | [] => rfl
  | [a] => rfl
  | a :: b :: r => by
    have ih := neg_pop p (b :: r)
    by_cases c : turn b a p ≤ 0
    · rw [Sh.popR_pop c]
      show Sh.popR (neg p) (neg a :: neg b :: r.map neg) = _
      rw [Sh.popR_pop (by rw [neg_turn]; exact c)]
      exact ih
    · rw [Sh.popR_stop c]
      show Sh.popR (neg p) (neg a :: neg b :: r.map neg) = _
      rw [Sh.popR_stop (by rw [neg_turn]; exact c)]
      rfl
theorem neg_fold0 : ∀ (l R : List Pt), (l.map neg).foldl (fun R p => p :: Sh.popR p R) (R.map neg) = (l.foldl (fun R p => p :: Sh.popR p R) R).map neg
  | [], R => rfl
  | p :: l, R => by
    show (l.map neg).foldl (fun R p => p :: Sh.popR p R) (neg p :: Sh.popR (neg p) (R.map neg)) = _
    rw [neg_pop]
    exact neg_fold0 l (p :: Sh.popR p R)
theorem neg_fold (l : List Pt) : Sh.hfold (l.map neg) = (Sh.hfold l).map neg := neg_fold0 l []
theorem neg_sup {l : List Pt} {a b : Pt} (h : Sup (l.map neg) (neg a) (neg b)) : Sup l a b := by
  refine ⟨fun e => h.1 (by rw [e]), ?_, fun q hq hqa => ?_⟩
  · obtain ⟨x, hx, e⟩ := List.mem_map.1 h.2.1
    exact neg_inj e ▸ hx
  · have := h.2.2 (neg q) (List.mem_map_of_mem hq) (fun e => hqa (neg_inj e))
    have c1 : crs (sub (neg b) (neg a)) (sub (neg q) (neg a)) = crs (sub b a) (sub q a) := by simp only [crs, sub, neg]; grind
    have c2 : dot (sub (neg b) (neg a)) (sub (neg q) (neg a)) = dot (sub b a) (sub q a) := by simp only [dot, sub, neg]; grind
    have c3 : dot (sub (neg b) (neg a)) (sub (neg b) (neg a)) = dot (sub b a) (sub b a) := by simp only [dot, sub, neg]; grind
    rw [c1, c2, c3] at this
    exact this
theorem neg_chn {l : List Pt} : ∀ {X : List Pt}, Chn (l.map neg) (X.map neg) → Chn l X
  | [], _ => trivial
  | [a], _ => trivial
  | a :: b :: r, h => ⟨neg_sup h.1, neg_chn (X := b :: r) h.2⟩

theorem bottom_last {P : List Pt} : ∀ {R : List Pt}, Bottom P R → ∃ Y z, R = Y ++ [z] ∧ ∀ q ∈ P, q = z ∨ before z q = true
  | [], h => h.elim
  | [z], h => ⟨[], z, rfl, h⟩
  | a :: b :: r, h => by
    obtain ⟨Y, z, e, hz⟩ := bottom_last (R := b :: r) h
    exact ⟨a :: Y, z, by rw [e]; rfl, hz⟩

/-- the points wrapped -/
theorem wrap_two {l D : List Pt} (hs : D.Pairwise (fun p q => before p q = true)) (hm : ∀ q, q ∈ l ↔ q ∈ D) (h2 : 2 ≤ D.length) :
    wrap l = (Sh.hfold D).tail.reverse ++ (Sh.hfold D.reverse).tail.reverse := by
  have hs' : (D.reverse.map neg).Pairwise (fun p q => before p q = true) := by
    rw [List.pairwise_map, List.pairwise_reverse]
    exact hs.imp (fun {a b} h => by rw [neg_before]; exact h)
  obtain ⟨a1, a2, a3, a4, a5⟩ := fold_all hs (by omega)
  obtain ⟨b1, b2, b3, b4, b5⟩ := fold_all hs' (by simp; omega)
  rw [neg_fold] at b1 b2 b3 b4 b5
  have ca := edges_chn (l := l) hm a3 a2
  have cb : Chn l (Sh.hfold D.reverse).reverse := neg_chn (by
    rw [List.map_reverse]
    exact edges_chn (l := l.map neg) (fun q => by simp only [List.mem_map, List.mem_reverse, hm]) b3 b2)
  obtain ⟨Y1, f, e1, hf⟩ := bottom_last a4
  generalize Sh.hfold D = R1 at *
  obtain ⟨Y2, g', e2, hg'⟩ := bottom_last b4
  generalize Sh.hfold D.reverse = R2 at *
  obtain ⟨g, t1, rfl⟩ : ∃ g t1, R1 = g :: t1 := by
    cases R1 with
    | nil => exact (a1 rfl).elim
    | cons g t => exact ⟨g, t, rfl⟩
  obtain ⟨f', t2, rfl⟩ : ∃ f' t2, R2 = f' :: t2 := by
    cases R2 with
    | nil => exact (b1 rfl).elim
    | cons g t => exact ⟨g, t, rfl⟩
  have anti : ∀ {x y : Pt}, (x = y ∨ before y x = true) → (y = x ∨ before x y = true) → x = y := by
    intro x y h1 h2
    rcases h1 with h1 | h1
    · exact h1
    · rcases h2 with h2 | h2
      · exact h2.symm
      · rw [bf_asym h1] at h2; cases h2
  have hfD : f ∈ D := a2 f (by rw [e1]; simp)
  have hgD : g ∈ D := a2 g (by simp)
  have hf'D : f' ∈ D := by
    obtain ⟨x, hx, e⟩ := List.mem_map.1 (b2 (neg f') (by simp))
    exact neg_inj e ▸ (List.mem_reverse.1 hx)
  have ef : f' = f := by
    refine anti (hf f' hf'D) ?_
    have := b5 (neg f) (List.mem_map_of_mem (List.mem_reverse.2 hfD))
    show f = f' ∨ before f' f = true
    rcases this with h | h
    · exact .inl (neg_inj h)
    · exact .inr (by rw [← neg_before]; exact h)
  subst ef
  obtain ⟨Y3, g3, e3, hg3⟩ : ∃ Y3 g3, f' :: t2 = Y3 ++ [g3] ∧ ∀ q ∈ D, q = g3 ∨ before q g3 = true := by
    have hne : f' :: t2 ≠ [] := by simp
    refine ⟨(f' :: t2).dropLast, (f' :: t2).getLast hne, (List.dropLast_concat_getLast hne).symm, fun q hq => ?_⟩
    have em : (f' :: t2).map neg = ((f' :: t2).dropLast).map neg ++ [neg ((f' :: t2).getLast hne)] := by
      rw [← List.map_singleton, ← List.map_append, List.dropLast_concat_getLast hne]
    rw [em] at e2
    obtain ⟨_, e4⟩ := List.append_inj' e2 rfl
    simp only [List.cons.injEq, and_true] at e4
    rcases hg' (neg q) (List.mem_map_of_mem (List.mem_reverse.2 hq)) with h | h
    · exact .inl (neg_inj (h.trans e4.symm))
    · exact .inr (by rw [← e4, neg_before] at h; exact h)
  have hg3D : g3 ∈ D := by
    have : g3 ∈ f' :: t2 := by rw [e3]; simp
    obtain ⟨x, hx, e⟩ := List.mem_map.1 (b2 (neg g3) (List.mem_map_of_mem this))
    exact neg_inj e ▸ (List.mem_reverse.1 hx)
  have eg : g3 = g := anti (x := g3) (y := g) ((hg3 g hgD).elim (fun h => .inl h.symm) (fun h => .inr h)) ((a5 g3 hg3D).elim (fun h => .inl h.symm) (fun h => .inr h))
  subst eg
  have hfg : f' ≠ g3 := by
    rintro rfl
    have all : ∀ q ∈ D, q = f' := fun q hq => anti (hf q hq) ((hg3 q hq).imp (fun h => h.symm) (fun h => h) |>.elim (fun h => .inl h) (fun h => .inr h))
    have := List.pairwise_iff_getElem.1 hs 0 1 (by omega) (by omega) (by omega)
    rw [all _ (List.getElem_mem (by omega)), all D[1] (List.getElem_mem (by omega)), bf_irr] at this
    cases this
  obtain ⟨Y4, rfl⟩ : ∃ Y4, t2 = Y4 ++ [g3] := by
    cases Y3 with
    | nil => simp at e3; exact (hfg e3.1).elim
    | cons x Y => simp at e3; exact ⟨Y, e3.2⟩
  have e5 : ∃ Y5, t1 = Y5 ++ [f'] := by
    cases Y1 with
    | nil => simp at e1; exact (hfg e1.1.symm).elim
    | cons x Y => simp at e1; exact ⟨Y, e1.2⟩
  obtain ⟨Y5, rfl⟩ := e5
  simp only [List.tail_cons, List.reverse_append, List.reverse_cons, List.reverse_nil, List.nil_append, List.singleton_append, List.cons_append] at *
  have cc : Chn l (f' :: (Y5.reverse ++ g3 :: (Y4.reverse ++ [f']))) := chn_join (X := f' :: Y5.reverse) ca cb
  have hfl : ∀ q ∈ l, before q f' = false := fun q hq => by
    rcases hf q ((hm q).1 hq) with e | e
    · rw [e, bf_irr]
    · exact bf_asym e
  have hfl' : f' ∈ l := (hm f').2 hfD
  have hleast : least l (l.headD (0, 0)) = f' := by
    obtain ⟨s1, s2, s3⟩ := least_spec l (l.headD (0, 0))
    have hmem : least l (l.headD (0, 0)) ∈ l := by
      rcases s1 with s | s
      · rw [s]
        cases l with
        | nil => simp at hfl'
        | cons p r => simp
      · exact s
    exact anti (hf _ ((hm _).1 hmem)) (by
      rcases bf_total (s3 f' hfl') with e | e
      · exact .inl e
      · exact .inr e)
  have hnot : f' ∉ Y5.reverse ++ g3 :: Y4.reverse := by
    intro hin
    rcases List.mem_append.1 hin with h | h
    · have h := List.mem_reverse.1 h
      -- the edges of Y5 ++ [f']
      have key : ∀ (Y : List Pt), Edges D (Y ++ [f']) → f' ∉ Y := by
        intro Y
        induction Y with
        | nil => intro _ hh; simp at hh
        | cons y Y ih =>
          intro hE hh
          rcases List.mem_cons.1 hh with e | hh
          · have := edges_bf hE f' (by simp)
            rw [e, bf_irr] at this; cases this
          · refine ih ?_ hh
            cases Y with
            | nil => trivial
            | cons z Y => exact hE.2.2
      exact key (g3 :: Y5) a3 (by simp [h])
    · have h : f' ∈ Y4 ++ [g3] := by
        rcases List.mem_cons.1 h with e | h
        · simp [e]
        · simp [List.mem_reverse.1 h]
      have := edges_bf b3 (neg f') (List.mem_map_of_mem h)
      rw [bf_irr] at this; cases this
  show wrapGo l (least l (l.headD (0, 0))) l.length [least l (l.headD (0, 0))] (least l (l.headD (0, 0))) = _
  rw [hleast]
  have := follow hfl (Y5.reverse ++ g3 :: Y4.reverse) l.length [f'] f' (by simp) (ring_one hfl') (by rw [List.append_assoc]; exact cc) hnot
  rw [this]
  rfl
/-- all points are one -/
theorem wrap_one {l : List Pt} (h : ∀ p ∈ l, ∀ q ∈ l, p = q) (hne : l ≠ []) : (wrap l).length < 3 := by
  obtain ⟨w1, w2, w3, w4⟩ := wrap_spec hne
  by_cases c : 3 ≤ (wrap l).length
  · exfalso
    have := w4 c 0 2 ((wrap l)[0]'(by omega)) ((wrap l)[1]'(by omega)) ((wrap l)[2]'(by omega)) (List.getElem?_eq_getElem _) (by rw [Nat.mod_eq_of_lt (by omega)]; exact List.getElem?_eq_getElem _) (List.getElem?_eq_getElem _) (by omega) (by rw [Nat.mod_eq_of_lt (by omega)]; omega)
    rw [h _ (w1 _ (List.getElem_mem _)) _ (w1 _ (List.getElem_mem (show 2 < (wrap l).length by omega))), h ((wrap l)[1]'(by omega)) (w1 _ (List.getElem_mem _)) _ (w1 _ (List.getElem_mem (show 2 < (wrap l).length by omega)))] at this
    simp [turn] at this
  · omega
end Go.Proofs.Ytecncmmkghmojaa.Geo


