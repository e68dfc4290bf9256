/- Sums, and the balance of a tower. -/
import Derived.Test.YtecncmmkghmojaaH1
import Derived.Test.YtecncmmkghmojaaH2
import Derived.Test.YtecncmmkghmojaaM3
set_option linter.all false
/- Sums, and the balance of a tower. -/
namespace Go.Proofs.Ytecncmmkghmojaa.Sh
open Go
set_option maxRecDepth 100000

def isum : List Int → Int
  | [] => 0
  | x :: r => x + isum r
theorem isum_append : ∀ (l m : List Int), isum (l ++ m) = isum l + isum m
  | [], m => by simp [isum]
  | x :: r, m => by simp only [List.cons_append, isum, isum_append r m]; omega
theorem isum_take_succ (l : List Int) (i : Nat) (hi : i < l.length) : isum (l.take (i + 1)) = isum (l.take i) + l[i] := by
  rw [List.take_add_one, List.getElem?_eq_getElem hi, isum_append]
  simp [isum]
theorem isum_bound (m : Nat) : ∀ (l : List Int), (∀ x ∈ l, x.natAbs ≤ m) → (isum l).natAbs ≤ l.length * m
  | [], _ => by simp [isum]
  | x :: r, h => by
    have h1 := h x (by simp)
    have h2 := isum_bound m r (fun y hy => h y (by simp [hy]))
    simp only [isum, List.length_cons, Nat.add_mul, Nat.one_mul]
    omega

/-- a slice of whole numbers, from the beginning of its block -/
def IS (h : SHeap) (v : Value) (l : List Int) : Prop := ∃ a c, v = .slice a l.length c ∧ (l ≠ [] → ∃ b, a = some ⟨b, 0, none⟩ ∧ Ints h b l)

theorem sum_loop (cx : Cx) (a : Option Addr) (c : Nat) (l : List Int) (h : SHeap) (d : List Nat) (hl : l ≠ [] → ∃ b, a = some ⟨b, 0, none⟩ ∧ Ints h b l) (hs : l.length ≤ 1000) (hb : ∀ x ∈ l, x.natAbs ≤ 1000000000000) :
    ∀ k ρ ms h' d', (∃ i : Nat, i + k = l.length ∧ ρ 3 = .int .i64 (isum (l.take i)) ∧ ρ 6 = .slice a l.length c ∧ ρ 7 = .int .i64 l.length ∧ ρ 8 = .int .i64 i ∧ ms = [] ∧ h' = h ∧ d' = d) →
    LoopW M cx 5 sf104L0 ρ ms h' d' (fun ex ρ' ms' h' d' => ex = .exit 0 ∧ ρ' 3 = .int .i64 (isum l) ∧ ms' = [] ∧ h' = h ∧ d' = d) := by
  refine loop_run _ ?_
  rintro k ρ ms h' d' ⟨i, hi, h3, h5, h6, h7, rfl, rfl, rfl⟩
  unfold sf104L0
  by_cases hk : k = 0
  · have e1 : ¬ ((i : Int) < l.length) := by omega
    repeat (first | apply run_seq | apply run_block | apply end_seq | apply end_blk_hit | apply end_blk_miss rfl | apply end_blk | apply end_seq_exit | apply end_seq_ret | apply end_blk_ret | apply run_skip | apply run_ret | apply run_exit | (apply run_region (by decide); (simp only [go_sem, ↓reduceIte, Int.reduceAdd, Int.reduceEq, Int.reduceLE, Int.reduceLT, Int.reduceMul, Int.reduceNeg, Int.reduceSub, Int.reduceToNat, Nat.reduceAdd, Nat.reduceBEq, Nat.reduceEqDiff, Nat.reduceLT, Nat.reduceLeDiff, Nat.reduceMul, Nat.reduceSub, h3, h5, h6, h7, e1]; rfl)) | (refine run_cond_t ?_ ?_; · simp only [go_sem, ↓reduceIte, Nat.reduceEqDiff]) | (refine run_cond_f ?_ ?_; · simp only [go_sem, ↓reduceIte, Nat.reduceEqDiff]))
    refine end_nil ⟨rfl, ?_, rfl, rfl, rfl⟩
    simp only [go_sem, ↓reduceIte, Int.reduceAdd, Int.reduceEq, Int.reduceLE, Int.reduceLT, Int.reduceMul, Int.reduceNeg, Int.reduceSub, Int.reduceToNat, Nat.reduceAdd, Nat.reduceBEq, Nat.reduceEqDiff, Nat.reduceLT, Nat.reduceLeDiff, Nat.reduceMul, Nat.reduceSub, h3]
    rw [List.take_of_length_le (by omega)]
  · have e1 : (i : Int) < l.length := by omega
    have hil : i < l.length := by omega
    have e2 : (0 : Int) ≤ i := by omega
    obtain ⟨b, rfl, hp⟩ := hl (by intro e; rw [e] at hil; simp at hil)
    have l1 := hp.load hil
    have ew : IntKind.i64.wrap ((i : Int) + 1) = ((i + 1 : Nat) : Int) := by rw [wrap64 (by omega) (by omega)]; rfl
    have hst := isum_take_succ l i hil
    have hbd := isum_bound 1000000000000 (l.take (i + 1)) (fun x hx => hb x (List.mem_of_mem_take hx))
    have hlen : (l.take (i + 1)).length = i + 1 := by simp; omega
    rw [hlen] at hbd
    have e3 : IntKind.i64.wrap (isum (l.take i) + l[i]) = isum (l.take (i + 1)) := by
      rw [← hst]
      exact wrap_abs (by omega)
    repeat (first | apply run_seq | apply run_block | apply end_seq | apply end_blk_hit | apply end_blk_miss rfl | apply end_blk | apply end_seq_exit | apply end_seq_ret | apply end_blk_ret | apply run_skip | apply run_ret | apply run_exit | (apply run_region (by decide); (simp only [go_sem, ↓reduceIte, Int.reduceAdd, Int.reduceEq, Int.reduceLE, Int.reduceLT, Int.reduceMul, Int.reduceNeg, Int.reduceSub, Int.reduceToNat, Nat.reduceAdd, Nat.reduceBEq, Nat.reduceEqDiff, Nat.reduceLT, Nat.reduceLeDiff, Nat.reduceMul, Nat.reduceSub, h3, h5, h6, h7, e1, e2, l1, e3, Int.toNat_natCast, ew]; rfl)) | (refine run_cond_t ?_ ?_; · simp only [go_sem, ↓reduceIte, Nat.reduceEqDiff]) | (refine run_cond_f ?_ ?_; · simp only [go_sem, ↓reduceIte, Nat.reduceEqDiff]))
    refine end_nil ⟨k - 1, by omega, i + 1, by omega, ?_, ?_, ?_, ?_, rfl, rfl, rfl⟩
    · simp only [go_sem, ↓reduceIte, Int.reduceAdd, Int.reduceEq, Int.reduceLE, Int.reduceLT, Int.reduceMul, Int.reduceNeg, Int.reduceSub, Int.reduceToNat, Nat.reduceAdd, Nat.reduceBEq, Nat.reduceEqDiff, Nat.reduceLT, Nat.reduceLeDiff, Nat.reduceMul, Nat.reduceSub, e3]
    · simp only [go_sem, ↓reduceIte, Int.reduceAdd, Int.reduceEq, Int.reduceLE, Int.reduceLT, Int.reduceMul, Int.reduceNeg, Int.reduceSub, Int.reduceToNat, Nat.reduceAdd, Nat.reduceBEq, Nat.reduceEqDiff, Nat.reduceLT, Nat.reduceLeDiff, Nat.reduceMul, Nat.reduceSub, h5]
    · simp only [go_sem, ↓reduceIte, Int.reduceAdd, Int.reduceEq, Int.reduceLE, Int.reduceLT, Int.reduceMul, Int.reduceNeg, Int.reduceSub, Int.reduceToNat, Nat.reduceAdd, Nat.reduceBEq, Nat.reduceEqDiff, Nat.reduceLT, Nat.reduceLeDiff, Nat.reduceMul, Nat.reduceSub, h6]
    · simp only [go_sem, ↓reduceIte, Int.reduceAdd, Int.reduceEq, Int.reduceLE, Int.reduceLT, Int.reduceMul, Int.reduceNeg, Int.reduceSub, Int.reduceToNat, Nat.reduceAdd, Nat.reduceBEq, Nat.reduceEqDiff, Nat.reduceLT, Nat.reduceLeDiff, Nat.reduceMul, Nat.reduceSub, ew]

/-- sum[int64] -/
theorem sum104 {h : SHeap} {v : Value} {l : List Int} (hv : IS h v l) (hs : l.length ≤ 1000) (hb : ∀ x ∈ l, x.natAbs ≤ 1000000000000) : M.call 104 [v] h = some (.int .i64 (isum l), h, []) := by
  obtain ⟨a, c, rfl, hl⟩ := hv
  refine call_run sf104 rfl rfl rfl ?_
  unfold sf104
  repeat (first | apply run_seq | apply run_block | apply end_seq | apply end_blk_hit | apply end_blk_miss rfl | apply end_blk | apply end_seq_exit | apply end_seq_ret | apply end_blk_ret | apply run_skip | apply run_ret | apply run_exit | (apply run_region (by decide); (simp only [go_sem, ↓reduceIte, Int.reduceAdd, Int.reduceEq, Int.reduceLE, Int.reduceLT, Int.reduceMul, Int.reduceNeg, Int.reduceSub, Int.reduceToNat, Nat.reduceAdd, Nat.reduceBEq, Nat.reduceEqDiff, Nat.reduceLT, Nat.reduceLeDiff, Nat.reduceMul, Nat.reduceSub, argR]; rfl)) | (refine run_cond_t ?_ ?_; · simp only [go_sem, ↓reduceIte, Nat.reduceEqDiff]) | (refine run_cond_f ?_ ?_; · simp only [go_sem, ↓reduceIte, Nat.reduceEqDiff]))
  refine run_loop (sum_loop _ a c l h [] hl hs hb l.length _ _ _ _ ⟨0, by omega, ?_, ?_, ?_, ?_, rfl, rfl, rfl⟩) ?_
  · (simp only [go_sem, ↓reduceIte, Int.reduceAdd, Int.reduceEq, Int.reduceLE, Int.reduceLT, Int.reduceMul, Int.reduceNeg, Int.reduceSub, Int.reduceToNat, Nat.reduceAdd, Nat.reduceBEq, Nat.reduceEqDiff, Nat.reduceLT, Nat.reduceLeDiff, Nat.reduceMul, Nat.reduceSub]) <;> rfl
  · simp only [go_sem, ↓reduceIte, Int.reduceAdd, Int.reduceEq, Int.reduceLE, Int.reduceLT, Int.reduceMul, Int.reduceNeg, Int.reduceSub, Int.reduceToNat, Nat.reduceAdd, Nat.reduceBEq, Nat.reduceEqDiff, Nat.reduceLT, Nat.reduceLeDiff, Nat.reduceMul, Nat.reduceSub, argR]
  · simp only [go_sem, ↓reduceIte, Int.reduceAdd, Int.reduceEq, Int.reduceLE, Int.reduceLT, Int.reduceMul, Int.reduceNeg, Int.reduceSub, Int.reduceToNat, Nat.reduceAdd, Nat.reduceBEq, Nat.reduceEqDiff, Nat.reduceLT, Nat.reduceLeDiff, Nat.reduceMul, Nat.reduceSub, argR]
  · (simp only [go_sem, ↓reduceIte, Int.reduceAdd, Int.reduceEq, Int.reduceLE, Int.reduceLT, Int.reduceMul, Int.reduceNeg, Int.reduceSub, Int.reduceToNat, Nat.reduceAdd, Nat.reduceBEq, Nat.reduceEqDiff, Nat.reduceLT, Nat.reduceLeDiff, Nat.reduceMul, Nat.reduceSub, argR]) <;> rfl
  · rintro ex ρ' ms' h1 d1 ⟨rfl, k3, rfl, rfl, rfl⟩
    repeat (first | apply run_seq | apply run_block | apply end_seq | apply end_blk_hit | apply end_blk_miss rfl | apply end_blk | apply end_seq_exit | apply end_seq_ret | apply end_blk_ret | apply run_skip | apply run_ret | apply run_exit | (apply run_region (by decide); (simp only [go_sem, ↓reduceIte, Int.reduceAdd, Int.reduceEq, Int.reduceLE, Int.reduceLT, Int.reduceMul, Int.reduceNeg, Int.reduceSub, Int.reduceToNat, Nat.reduceAdd, Nat.reduceBEq, Nat.reduceEqDiff, Nat.reduceLT, Nat.reduceLeDiff, Nat.reduceMul, Nat.reduceSub, k3]; rfl)) | (refine run_cond_t ?_ ?_; · simp only [go_sem, ↓reduceIte, Nat.reduceEqDiff]) | (refine run_cond_f ?_ ?_; · simp only [go_sem, ↓reduceIte, Nat.reduceEqDiff]))
    exact end_nil (q_ret1 _ (by simp only [go_sem, ↓reduceIte, Int.reduceAdd, Int.reduceEq, Int.reduceLE, Int.reduceLT, Int.reduceMul, Int.reduceNeg, Int.reduceSub, Int.reduceToNat, Nat.reduceAdd, Nat.reduceBEq, Nat.reduceEqDiff, Nat.reduceLT, Nat.reduceLeDiff, Nat.reduceMul, Nat.reduceSub]) rfl (take_self _))
end Go.Proofs.Ytecncmmkghmojaa.Sh

/- The balance of a tower, of the program. -/
namespace Go.Proofs.Ytecncmmkghmojaa.Sh
open Go
set_option maxRecDepth 100000

theorem Prs.same {h h' : SHeap} {b o : Nat} {l : List (Int × Int)} (k : Prs h b o l) (e : h'[b]? = h[b]?) : Prs h' b o l := by
  obtain ⟨pre, post, el, pf, own, old, h1, h2⟩ := k
  exact ⟨pre, post, el, pf, own, old, by rw [e]; exact h1, h2⟩
theorem Prs.drop {h : SHeap} {b o : Nat} {l : List (Int × Int)} (k : Prs h b o l) (p : Nat) (hp : p ≤ l.length) : Prs h b (o + p * 2) (l.drop p) := by
  obtain ⟨pre, post, el, pf, own, old, h1, h2, h3⟩ := k
  refine ⟨pre ++ prs (l.take p), post, el, pf, own, old, ?_, h2, ?_⟩
  · rw [h1, List.append_assoc, ← List.append_assoc (prs (l.take p)), ← prs_app, List.take_append_drop]
  · simp [prs_len, h3]; omega

/-- a tower's slice: from the beginning of its block -/
def TSl (h : SHeap) (v : Value) (l : List (Int × Int)) : Prop := ∃ b c, v = .slice (some ⟨b, 0, none⟩) l.length c ∧ Prs h b 0 l ∧ (c = UNK + 2 ∨ (c < UNK ∧ l.length ≤ c))
theorem TSl.ps {h : SHeap} {v : Value} {l : List (Int × Int)} (k : TSl h v l) : PS h v l := by
  obtain ⟨b, c, rfl, hp, _⟩ := k
  exact ⟨_, c, rfl, fun _ => ⟨b, 0, rfl, hp⟩⟩
theorem TSl.app {h : SHeap} {v : Value} {l : List (Int × Int)} (k : TSl h v l) (g : SHeap) : TSl (h ++ g) v l := by
  obtain ⟨b, c, rfl, hp, hc⟩ := k
  exact ⟨b, c, rfl, hp.app g, hc⟩
theorem TSl.drop {h : SHeap} {v : Value} {l : List (Int × Int)} (k : TSl h v l) {p : Nat} (hp : p < l.length) :
    ∃ b c', sliceS 2 v (some (.int .i64 (p : Int))) none none = some (.slice (some ⟨b, p * 2, none⟩) (l.length - p) c') ∧ Prs h b (p * 2) (l.drop p) := by
  obtain ⟨b, c, rfl, hb, hc⟩ := k
  have hd := hb.drop p (by omega)
  rw [Nat.zero_add] at hd
  have e2 : (decide (0 ≤ (p : Int)) && decide ((p : Int) ≤ (l.length : Int))) = true := by simp; omega
  rcases hc with rfl | ⟨hc, hle⟩
  · refine ⟨b, UNK + 2, ?_, hd⟩
    have e1 : Nat.ble UNK (UNK + 2) = true := by decide
    unfold sliceS
    simp only [bMx, e1, if_true, bHi, bLo, bnd, e2, Int.toNat_natCast]
    simp
  · have e1 : Nat.ble UNK c = false := by rw [ble_dec]; simp; exact hc
    have e3 : Nat.blt c UNK = true := by rw [blt_dec]; simp [hc]
    have e4 : (c == p) = false := beq_eq_false_iff_ne.2 (by omega)
    refine ⟨b, c - p, ?_, hd⟩
    unfold sliceS
    simp only [bMx, e1, Bool.false_eq_true, if_false, bHi, bLo, bnd, e2, if_true, Int.toNat_natCast, Bool.false_and, e3, e4, Nat.zero_add]

def tw (q : Int × Int) : Int := q.2 * (2 * q.1 + q.2)
def ww (q : Int × Int) : Int := 2 * q.2
theorem okP_ranges {q : Int × Int} (h : okP q = true) : -1000 ≤ q.1 ∧ q.1 ≤ 1000 ∧ 1 ≤ q.2 ∧ q.2 ≤ 100 := of_decide_eq_true h
theorem tw_bound {q : Int × Int} (h : okP q = true) : (tw q).natAbs ≤ 210000 := by
  obtain ⟨a, b, c, d⟩ := okP_ranges h
  rw [tw, Int.natAbs_mul]
  exact Nat.le_trans (Nat.mul_le_mul (show q.2.natAbs ≤ 100 by omega) (show (2 * q.1 + q.2).natAbs ≤ 2100 by omega)) (by decide)
theorem ww_bound {q : Int × Int} (h : okP q = true) : (ww q).natAbs ≤ 200 := by
  obtain ⟨a, b, c, d⟩ := okP_ranges h
  rw [ww]; omega

def sepV (n s : Nat) (v w : Value) : Prop := ∀ b b', v = .slice (some ⟨b, 0, none⟩) n (UNK + s) → w = .slice (some ⟨b', 0, none⟩) n (UNK + s) → b ≠ b'

theorem map_take_succ {α : Type} (f : α → Value) (l : List α) (i : Nat) (hi : i < l.length) : (l.take (i + 1)).map f = (l.take i).map f ++ [f l[i]] := by
  rw [List.take_add_one, List.getElem?_eq_getElem hi]
  simp only [Option.toList_some, List.map_append, List.map_cons, List.map_nil]

theorem bal_loop (cx : Cx) (H : SHeap) (bb off c : Nat) (m : List (Int × Int)) (hm : Prs H bb off m) (hs : m.length ≤ 12) (hok : m.all okP = true) : ∀ k ρ ms h' d', (∃ (i : Nat) (v5 v6 : Value), i + k = m.length ∧
      ρ 4 = .pointer (some ⟨H.length, 0, none⟩) ∧ ρ 5 = v5 ∧ ρ 6 = v6 ∧ ρ 11 = .slice (some ⟨bb, off, none⟩) m.length c ∧ ρ 12 = .int .i64 m.length ∧ ρ 13 = .int .i64 i ∧
      Acc (H.length + 1) h' v5 ((m.take i).map (fun q => mkI (tw q))) i 1 2 ∧ Acc (H.length + 1) h' v6 ((m.take i).map (fun q => mkI (ww q))) i 1 2 ∧ sepV i 1 v5 v6 ∧
      H.length + 1 ≤ h'.length ∧ h'[H.length]? = some (.cells [.int .i64 0, .int .i64 0] 82 true 0 []) ∧ (∀ j, j < H.length → h'[j]? = H[j]?) ∧ ms = [] ∧ d' = []) →
    LoopW M cx 6 sf73L0 ρ ms h' d' (fun ex ρ' ms' h' d' => ex = .exit 0 ∧ ∃ (v5 v6 : Value), ρ' 4 = .pointer (some ⟨H.length, 0, none⟩) ∧ ρ' 5 = v5 ∧ ρ' 6 = v6 ∧
      Acc (H.length + 1) h' v5 (m.map (fun q => mkI (tw q))) m.length 1 2 ∧ Acc (H.length + 1) h' v6 (m.map (fun q => mkI (ww q))) m.length 1 2 ∧
      H.length + 1 ≤ h'.length ∧ h'[H.length]? = some (.cells [.int .i64 0, .int .i64 0] 82 true 0 []) ∧ (∀ j, j < H.length → h'[j]? = H[j]?) ∧ ms' = [] ∧ d' = []) := by
  refine loop_run _ ?_
  rintro k ρ ms h' d' ⟨i, v5, v6, hi, h4, h5, h6, h11, h12, h13, a5, a6, hsep, hle, hres, hsame, rfl, rfl⟩
  unfold sf73L0
  by_cases hk : k = 0
  · have e1 : ¬ ((i : Int) < m.length) := by omega
    repeat (first | apply run_seq | apply run_block | apply end_seq | apply end_blk_hit | apply end_blk_miss rfl | apply end_blk | apply end_seq_exit | apply end_seq_ret | apply end_blk_ret | apply run_skip | apply run_ret | apply run_exit | (apply run_region (by decide); (simp only [go_sem, ↓reduceIte, Int.reduceAdd, Int.reduceEq, Int.reduceLE, Int.reduceLT, Int.reduceMul, Int.reduceNeg, Int.reduceSub, Int.reduceToNat, Nat.reduceAdd, Nat.reduceBEq, Nat.reduceEqDiff, Nat.reduceLT, Nat.reduceLeDiff, Nat.reduceMul, Nat.reduceSub, h11, h12, h13, e1]; rfl)) | (refine run_cond_t ?_ ?_; · simp only [go_sem, ↓reduceIte, Nat.reduceEqDiff]) | (refine run_cond_f ?_ ?_; · simp only [go_sem, ↓reduceIte, Nat.reduceEqDiff]))
    have ei : i = m.length := by omega
    subst ei
    rw [List.take_length] at a5 a6
    refine end_nil ⟨rfl, v5, v6, ?_, ?_, ?_, a5, a6, hle, hres, hsame, rfl, rfl⟩
    · simp only [go_sem, ↓reduceIte, Int.reduceAdd, Int.reduceEq, Int.reduceLE, Int.reduceLT, Int.reduceMul, Int.reduceNeg, Int.reduceSub, Int.reduceToNat, Nat.reduceAdd, Nat.reduceBEq, Nat.reduceEqDiff, Nat.reduceLT, Nat.reduceLeDiff, Nat.reduceMul, Nat.reduceSub, h4]
    · simp only [go_sem, ↓reduceIte, Int.reduceAdd, Int.reduceEq, Int.reduceLE, Int.reduceLT, Int.reduceMul, Int.reduceNeg, Int.reduceSub, Int.reduceToNat, Nat.reduceAdd, Nat.reduceBEq, Nat.reduceEqDiff, Nat.reduceLT, Nat.reduceLeDiff, Nat.reduceMul, Nat.reduceSub, h5]
    · simp only [go_sem, ↓reduceIte, Int.reduceAdd, Int.reduceEq, Int.reduceLE, Int.reduceLT, Int.reduceMul, Int.reduceNeg, Int.reduceSub, Int.reduceToNat, Nat.reduceAdd, Nat.reduceBEq, Nat.reduceEqDiff, Nat.reduceLT, Nat.reduceLeDiff, Nat.reduceMul, Nat.reduceSub, h6]
  · have e1 : (i : Int) < m.length := by omega
    have hil : i < m.length := by omega
    have e2 : (0 : Int) ≤ i := by omega
    have ew : IntKind.i64.wrap ((i : Int) + 1) = ((i + 1 : Nat) : Int) := by rw [wrap64 (by omega) (by omega)]; rfl
    have hm' : Prs h' bb off m := hm.same (hsame bb hm.lt)
    have l1 := hm'.loadN hil
    have hq : okP m[i] = true := List.all_eq_true.1 hok _ (List.getElem_mem hil)
    have t5 := map_take_succ (fun q => mkI (tw q)) m i hil
    have t6 := map_take_succ (fun q => mkI (ww q)) m i hil
    have rg := okP_ranges hq
    have bt := tw_bound hq
    have hsuc : (i : Int) + 1 = ((i + 1 : Nat) : Int) := rfl
    generalize hpq : m[i] = q at *
    obtain ⟨x, y⟩ := q
    dsimp only at l1 rg
    have w1 : IntKind.i64.wrap (2 * x) = 2 * x := wrap64 (by omega) (by omega)
    have w2 : IntKind.i64.wrap (2 * x + y) = 2 * x + y := wrap64 (by omega) (by omega)
    have w3 : IntKind.i64.wrap (y * (2 * x + y)) = y * (2 * x + y) := wrap_abs (Nat.le_trans bt (by decide))
    have w4 : IntKind.i64.wrap (2 * y) = 2 * y := wrap64 (by omega) (by omega)
    repeat (first | apply run_seq | apply run_block | apply end_seq | apply end_blk_hit | apply end_blk_miss rfl | apply end_blk | apply end_seq_exit | apply end_seq_ret | apply end_blk_ret | apply run_skip | apply run_ret | apply run_exit | (apply run_region (by decide); (simp only [go_sem, ↓reduceIte, Int.reduceAdd, Int.reduceEq, Int.reduceLE, Int.reduceLT, Int.reduceMul, Int.reduceNeg, Int.reduceSub, Int.reduceToNat, Nat.reduceAdd, Nat.reduceBEq, Nat.reduceEqDiff, Nat.reduceLT, Nat.reduceLeDiff, Nat.reduceMul, Nat.reduceSub, h11, h12, h13, e1, e2, l1, Int.toNat_natCast]; rfl)) | (refine run_cond_t ?_ ?_; · simp only [go_sem, ↓reduceIte, Nat.reduceEqDiff]) | (refine run_cond_f ?_ ?_; · simp only [go_sem, ↓reduceIte, Nat.reduceEqDiff]))
    -- the first sum's list
    generalize hh1 : h' ++ [SO.cells [.int .i64 x, .int .i64 y] 53 true 0 []] = h1
    have hl1 : h1.length = h'.length + 1 := by rw [← hh1]; simp
    have k1 : ∀ j, j < h'.length → h1[j]? = h'[j]? := fun j hj => by rw [← hh1, List.getElem?_append_left hj]
    have c8 : h1[h'.length]? = some (.cells [.int .i64 x, .int .i64 y] 53 true 0 []) := by rw [← hh1, app_get0]; rfl
    have q0 : loadS h1 none (.pointer (some ⟨h'.length, 0, none⟩)) = some (.int .i64 x) := by rw [load_rdO, c8]; rfl
    have q1 : loadS h1 none (.pointer (some ⟨h'.length, 1, none⟩)) = some (.int .i64 y) := by rw [load_rdO, c8]; rfl
    have a5' : Acc (H.length + 1) (h1 ++ [SO.cells [.int .i64 (y * (2 * x + y))] 2 true 0 []]) v5 ((m.take i).map (fun q => mkI (tw q))) i 1 2 :=
      a5.keep (fun b e => by have := a5.lt e; rw [List.getElem?_append_left (by omega), k1 b this.2])
    obtain ⟨old5, ap5, acc5, kp5⟩ := acc_append (bytes := 8) a5' (bs := h1.length) (el2 := 2) (pf2 := true) (own2 := 0) (old2 := []) (new := [.int .i64 (y * (2 * x + y))]) (by rw [app_get0]; rfl) rfl rfl (by decide) rfl (by decide) (by omega) (by simp; omega)
    have ap5' := fun base d => ap5 base d
    apply run_region (by decide)
    · simp only [go_sem, ↓reduceIte, Int.reduceAdd, Int.reduceEq, Int.reduceLE, Int.reduceLT, Int.reduceMul, Int.reduceNeg, Int.reduceSub, Int.reduceToNat, Nat.reduceAdd, Nat.reduceBEq, Nat.reduceEqDiff, Nat.reduceLT, Nat.reduceLeDiff, Nat.reduceMul, Nat.reduceSub, h5, q0, q1, w1, w2, w3, ap5']; rfl
    have lt5 : ∀ b, v5 = .slice (some ⟨b, 0, none⟩) i (UNK + 1) → H.length + 1 ≤ b ∧ b < h'.length := fun b e => a5.lt e
    have lt6 : ∀ b, v6 = .slice (some ⟨b, 0, none⟩) i (UNK + 1) → H.length + 1 ≤ b ∧ b < h'.length := fun b e => a6.lt e
    have hsrc1 : (h1 ++ [SO.cells [.int .i64 (y * (2 * x + y))] 2 true 0 []]).length = h1.length + 1 := by simp
    rw [hsrc1] at acc5 kp5
    have k2 : ∀ j, j < h'.length → (∀ b, v5 = .slice (some ⟨b, 0, none⟩) i (UNK + 1) → j ≠ b) → (shv (h1 ++ [SO.cells [.int .i64 (y * (2 * x + y))] 2 true 0 []]) v5 ++ [SO.cells ((m.take i).map (fun q => mkI (tw q)) ++ [.int .i64 (y * (2 * x + y))]) 2 true 0 old5])[j]? = h'[j]? := by
      intro j hj hne
      rw [kp5 j (by omega) hne, List.getElem?_append_left (by omega), k1 j hj]
    have q2 : loadS (shv (h1 ++ [SO.cells [.int .i64 (y * (2 * x + y))] 2 true 0 []]) v5 ++ [SO.cells ((m.take i).map (fun q => mkI (tw q)) ++ [.int .i64 (y * (2 * x + y))]) 2 true 0 old5]) none (.pointer (some ⟨h'.length, 1, none⟩)) = some (.int .i64 y) := by
      rw [load_rdO, kp5 h'.length (by omega) (fun b e => by have := lt5 b e; omega), List.getElem?_append_left (by omega), c8]; rfl
    have hl2 : (shv (h1 ++ [SO.cells [.int .i64 (y * (2 * x + y))] 2 true 0 []]) v5 ++ [SO.cells ((m.take i).map (fun q => mkI (tw q)) ++ [.int .i64 (y * (2 * x + y))]) 2 true 0 old5]).length = h1.length + 2 := by
      simp [shv_len]
    generalize hh2 : shv (h1 ++ [SO.cells [.int .i64 (y * (2 * x + y))] 2 true 0 []]) v5 ++ [SO.cells ((m.take i).map (fun q => mkI (tw q)) ++ [.int .i64 (y * (2 * x + y))]) 2 true 0 old5] = h2 at acc5 k2 q2 hl2 ⊢
    clear kp5 ap5 ap5'
    refine end_seq ?_
    -- the second sum's list
    have a6' : Acc (H.length + 1) (h2 ++ [SO.cells [.int .i64 (2 * y)] 2 true 0 []]) v6 ((m.take i).map (fun q => mkI (ww q))) i 1 2 :=
      a6.keep (fun b e => by rw [List.getElem?_append_left (by have := lt6 b e; omega), k2 b (lt6 b e).2 (fun b' e' => (hsep b' b e' e).symm)])
    obtain ⟨old6, ap6, acc6, kp6⟩ := acc_append (bytes := 8) a6' (bs := h2.length) (el2 := 2) (pf2 := true) (own2 := 0) (old2 := []) (new := [.int .i64 (2 * y)]) (by rw [app_get0]; rfl) rfl rfl (by decide) rfl (by decide) (by omega) (by simp; omega)
    have ap6' := fun base d => ap6 base d
    apply run_region (by decide)
    · simp only [go_sem, ↓reduceIte, Int.reduceAdd, Int.reduceEq, Int.reduceLE, Int.reduceLT, Int.reduceMul, Int.reduceNeg, Int.reduceSub, Int.reduceToNat, Nat.reduceAdd, Nat.reduceBEq, Nat.reduceEqDiff, Nat.reduceLT, Nat.reduceLeDiff, Nat.reduceMul, Nat.reduceSub, h6, q2, w4, ap6']; rfl
    have hsrc2 : (h2 ++ [SO.cells [.int .i64 (2 * y)] 2 true 0 []]).length = h2.length + 1 := by simp
    rw [hsrc2] at acc6 kp6
    have k3 : ∀ j, j < h2.length → (∀ b, v6 = .slice (some ⟨b, 0, none⟩) i (UNK + 1) → j ≠ b) → (shv (h2 ++ [SO.cells [.int .i64 (2 * y)] 2 true 0 []]) v6 ++ [SO.cells ((m.take i).map (fun q => mkI (ww q)) ++ [.int .i64 (2 * y)]) 2 true 0 old6])[j]? = h2[j]? := by
      intro j hj hne
      rw [kp6 j (by omega) hne, List.getElem?_append_left (by omega)]
    have hl3 : (shv (h2 ++ [SO.cells [.int .i64 (2 * y)] 2 true 0 []]) v6 ++ [SO.cells ((m.take i).map (fun q => mkI (ww q)) ++ [.int .i64 (2 * y)]) 2 true 0 old6]).length = h2.length + 2 := by
      simp [shv_len]
    generalize hh3 : shv (h2 ++ [SO.cells [.int .i64 (2 * y)] 2 true 0 []]) v6 ++ [SO.cells ((m.take i).map (fun q => mkI (ww q)) ++ [.int .i64 (2 * y)]) 2 true 0 old6] = h3 at acc6 k3 hl3 ⊢
    clear kp6 ap6 ap6'
    repeat (first | apply run_seq | apply run_block | apply end_seq | apply end_blk_hit | apply end_blk_miss rfl | apply end_blk | apply end_seq_exit | apply end_seq_ret | apply end_blk_ret | apply run_skip | apply run_ret | apply run_exit | (apply run_region (by decide); (simp only [go_sem, ↓reduceIte, Int.reduceAdd, Int.reduceEq, Int.reduceLE, Int.reduceLT, Int.reduceMul, Int.reduceNeg, Int.reduceSub, Int.reduceToNat, Nat.reduceAdd, Nat.reduceBEq, Nat.reduceEqDiff, Nat.reduceLT, Nat.reduceLeDiff, Nat.reduceMul, Nat.reduceSub, h13, ew]; rfl)) | (refine run_cond_t ?_ ?_; · simp only [go_sem, ↓reduceIte, Nat.reduceEqDiff]) | (refine run_cond_f ?_ ?_; · simp only [go_sem, ↓reduceIte, Nat.reduceEqDiff]))
    have acc5' : Acc (H.length + 1) h3 (.slice (some ⟨h1.length + 1, 0, none⟩) (i + 1) (UNK + 1)) ((m.take i).map (fun q => mkI (tw q)) ++ [.int .i64 (y * (2 * x + y))]) (i + 1) 1 2 := by
      refine acc5.keep (fun b e => ?_)
      simp at e
      subst e
      exact k3 _ (by omega) (fun b' e' => by have := lt6 b' e'; omega)
    refine end_nil ⟨k - 1, by omega, i + 1, .slice (some ⟨h1.length + 1, 0, none⟩) (i + 1) (UNK + 1), .slice (some ⟨h2.length + 1, 0, none⟩) (i + 1) (UNK + 1), by omega, ?_, ?_, ?_, ?_, ?_, ?_, ?_, ?_, ?_, by omega, ?_, ?_, rfl, rfl⟩
    · simp only [go_sem, ↓reduceIte, Int.reduceAdd, Int.reduceEq, Int.reduceLE, Int.reduceLT, Int.reduceMul, Int.reduceNeg, Int.reduceSub, Int.reduceToNat, Nat.reduceAdd, Nat.reduceBEq, Nat.reduceEqDiff, Nat.reduceLT, Nat.reduceLeDiff, Nat.reduceMul, Nat.reduceSub, h4]
    · simp only [go_sem, ↓reduceIte, Int.reduceAdd, Int.reduceEq, Int.reduceLE, Int.reduceLT, Int.reduceMul, Int.reduceNeg, Int.reduceSub, Int.reduceToNat, Nat.reduceAdd, Nat.reduceBEq, Nat.reduceEqDiff, Nat.reduceLT, Nat.reduceLeDiff, Nat.reduceMul, Nat.reduceSub]
    · simp only [go_sem, ↓reduceIte, Int.reduceAdd, Int.reduceEq, Int.reduceLE, Int.reduceLT, Int.reduceMul, Int.reduceNeg, Int.reduceSub, Int.reduceToNat, Nat.reduceAdd, Nat.reduceBEq, Nat.reduceEqDiff, Nat.reduceLT, Nat.reduceLeDiff, Nat.reduceMul, Nat.reduceSub]
    · simp only [go_sem, ↓reduceIte, Int.reduceAdd, Int.reduceEq, Int.reduceLE, Int.reduceLT, Int.reduceMul, Int.reduceNeg, Int.reduceSub, Int.reduceToNat, Nat.reduceAdd, Nat.reduceBEq, Nat.reduceEqDiff, Nat.reduceLT, Nat.reduceLeDiff, Nat.reduceMul, Nat.reduceSub, h11]
    · simp only [go_sem, ↓reduceIte, Int.reduceAdd, Int.reduceEq, Int.reduceLE, Int.reduceLT, Int.reduceMul, Int.reduceNeg, Int.reduceSub, Int.reduceToNat, Nat.reduceAdd, Nat.reduceBEq, Nat.reduceEqDiff, Nat.reduceLT, Nat.reduceLeDiff, Nat.reduceMul, Nat.reduceSub, h12]
    · simp only [go_sem, ↓reduceIte, Int.reduceAdd, Int.reduceEq, Int.reduceLE, Int.reduceLT, Int.reduceMul, Int.reduceNeg, Int.reduceSub, Int.reduceToNat, Nat.reduceAdd, Nat.reduceBEq, Nat.reduceEqDiff, Nat.reduceLT, Nat.reduceLeDiff, Nat.reduceMul, Nat.reduceSub, ew]
    · rw [t5]; exact acc5'
    · rw [t6]; exact acc6
    · intro b b' e e'
      simp at e e'
      omega
    · rw [k3 _ (by omega) (fun b e => by have := lt6 b e; omega), k2 _ (by omega) (fun b e => by have := lt5 b e; omega)]
      exact hres
    · intro j hj
      rw [k3 _ (by omega) (fun b e => by have := lt6 b e; omega), k2 _ (by omega) (fun b e => by have := lt5 b e; omega)]
      exact hsame j hj
end Go.Proofs.Ytecncmmkghmojaa.Sh

/- balance and Balance of the program. -/
namespace Go.Proofs.Ytecncmmkghmojaa.Sh
open Go
set_option maxRecDepth 100000

theorem isum_pos : ∀ (l : List Int), (∀ x ∈ l, 1 ≤ x) → (l.length : Int) ≤ isum l
  | [], _ => by simp [isum]
  | x :: r, h => by
    have h1 := h x (by simp)
    have h2 := isum_pos r (fun y hy => h y (by simp [hy]))
    simp only [isum, List.length_cons]
    omega
def sT (l : List (Int × Int)) : Int := isum (l.map tw)
def sW (l : List (Int × Int)) : Int := isum (l.map ww)
def bal (l : List (Int × Int)) : Int × Int := ((sT l).tdiv (Int.gcd (sT l) (sW l)), (sW l).tdiv (Int.gcd (sT l) (sW l)))
theorem sT_bound {l : List (Int × Int)} (hok : l.all okP = true) (hs : l.length ≤ 12) : (sT l).natAbs ≤ 2520000 := by
  have := isum_bound 210000 (l.map tw) (fun x hx => by
    obtain ⟨q, hq, rfl⟩ := List.mem_map.1 hx
    exact tw_bound (List.all_eq_true.1 hok q hq))
  rw [List.length_map] at this
  show (isum (l.map tw)).natAbs ≤ 2520000
  omega
theorem sW_bound {l : List (Int × Int)} (hok : l.all okP = true) (hs : l.length ≤ 12) : (sW l).natAbs ≤ 2400 := by
  have := isum_bound 200 (l.map ww) (fun x hx => by
    obtain ⟨q, hq, rfl⟩ := List.mem_map.1 hx
    exact ww_bound (List.all_eq_true.1 hok q hq))
  rw [List.length_map] at this
  show (isum (l.map ww)).natAbs ≤ 2400
  omega
theorem sW_pos {l : List (Int × Int)} (hok : l.all okP = true) (hl : l ≠ []) : 1 ≤ sW l := by
  have := isum_pos (l.map ww) (fun x hx => by
    obtain ⟨q, hq, rfl⟩ := List.mem_map.1 hx
    have := okP_ranges (List.all_eq_true.1 hok q hq)
    rw [ww]; omega)
  rw [List.length_map] at this
  have h2 : 0 < l.length := List.length_pos_iff.2 hl
  show 1 ≤ isum (l.map ww)
  omega
theorem gcd_ne {l : List (Int × Int)} (hok : l.all okP = true) (hl : l ≠ []) : Int.gcd (sT l) (sW l) ≠ 0 := by
  have := sW_pos hok hl
  intro e
  rw [Int.gcd_eq_zero_iff] at e
  omega
theorem all_drop {α : Type} {q : α → Bool} {l : List α} (h : l.all q = true) (p : Nat) : (l.drop p).all q = true := by
  rw [List.all_eq_true] at h ⊢
  exact fun x hx => h x (List.mem_of_mem_drop hx)

theorem Acc.is {lo : Nat} {h : SHeap} {v : Value} {l : List Int} {n : Nat} {el : TypeId} (a : Acc lo h v (l.map mkI) n 1 el) (hn : n = l.length) : IS h v l := by
  subst hn
  rcases a with ⟨h1, rfl, h2⟩ | ⟨b, old, rfl, h1, _⟩
  · exact ⟨none, 0, by rw [h1], fun hne => (hne (by simpa using h1)).elim⟩
  · exact ⟨_, _, rfl, fun _ => ⟨b, rfl, el, true, 0, old, h1, rfl⟩⟩

/-- balance -/
theorem balance73 {h : SHeap} {v : Value} {l : List (Int × Int)} (hv : TSl h v l) (hok : l.all okP = true) (hs : l.length ≤ 12) {p : Nat} (hp : p < l.length) :
    M.call 73 [v, .int .i64 p] h = some (.agg #[.int .i64 (bal (l.drop p)).1, .int .i64 (bal (l.drop p)).2], h, []) := by
  obtain ⟨bb, c', hsl, hpr⟩ := hv.drop hp
  have hml : l.length - p = (l.drop p).length := by simp
  have hmk := all_drop hok p
  have hms : (l.drop p).length ≤ 12 := by simp; omega
  have hmn : l.drop p ≠ [] := by intro e; have := congrArg List.length e; simp at this; omega
  rw [hml] at hsl
  generalize l.drop p = m at *
  refine call_run sf73 rfl rfl rfl ?_
  unfold sf73
  repeat (first | apply run_seq | apply run_block | apply end_seq | apply end_blk_hit | apply end_blk_miss rfl | apply end_blk | apply end_seq_exit | apply end_seq_ret | apply end_blk_ret | apply run_skip | apply run_ret | apply run_exit | (apply run_region (by decide); (simp only [go_sem, ↓reduceIte, Int.reduceAdd, Int.reduceEq, Int.reduceLE, Int.reduceLT, Int.reduceMul, Int.reduceNeg, Int.reduceSub, Int.reduceToNat, Nat.reduceAdd, Nat.reduceBEq, Nat.reduceEqDiff, Nat.reduceLT, Nat.reduceLeDiff, Nat.reduceMul, Nat.reduceSub, argR, hsl]; rfl)) | (refine run_cond_t ?_ ?_; · simp only [go_sem, ↓reduceIte, Nat.reduceEqDiff]) | (refine run_cond_f ?_ ?_; · simp only [go_sem, ↓reduceIte, Nat.reduceEqDiff]))
  refine run_loop (bal_loop _ h bb (p * 2) c' m hpr hms hmk m.length _ _ _ _ ⟨0, .slice none 0 0, .slice none 0 0, by omega, ?_, ?_, ?_, ?_, ?_, ?_, .inl ⟨rfl, rfl, rfl⟩, .inl ⟨rfl, rfl, rfl⟩, fun b b' e => by simp at e, by simp, by rw [app_get0]; rfl, fun j hj => by rw [List.getElem?_append_left hj], rfl, rfl⟩) ?_
  · (simp only [go_sem, ↓reduceIte, Int.reduceAdd, Int.reduceEq, Int.reduceLE, Int.reduceLT, Int.reduceMul, Int.reduceNeg, Int.reduceSub, Int.reduceToNat, Nat.reduceAdd, Nat.reduceBEq, Nat.reduceEqDiff, Nat.reduceLT, Nat.reduceLeDiff, Nat.reduceMul, Nat.reduceSub]) <;> rfl
  · (simp only [go_sem, ↓reduceIte, Int.reduceAdd, Int.reduceEq, Int.reduceLE, Int.reduceLT, Int.reduceMul, Int.reduceNeg, Int.reduceSub, Int.reduceToNat, Nat.reduceAdd, Nat.reduceBEq, Nat.reduceEqDiff, Nat.reduceLT, Nat.reduceLeDiff, Nat.reduceMul, Nat.reduceSub]) <;> rfl
  · (simp only [go_sem, ↓reduceIte, Int.reduceAdd, Int.reduceEq, Int.reduceLE, Int.reduceLT, Int.reduceMul, Int.reduceNeg, Int.reduceSub, Int.reduceToNat, Nat.reduceAdd, Nat.reduceBEq, Nat.reduceEqDiff, Nat.reduceLT, Nat.reduceLeDiff, Nat.reduceMul, Nat.reduceSub]) <;> rfl
  · (simp only [go_sem, ↓reduceIte, Int.reduceAdd, Int.reduceEq, Int.reduceLE, Int.reduceLT, Int.reduceMul, Int.reduceNeg, Int.reduceSub, Int.reduceToNat, Nat.reduceAdd, Nat.reduceBEq, Nat.reduceEqDiff, Nat.reduceLT, Nat.reduceLeDiff, Nat.reduceMul, Nat.reduceSub]) <;> rfl
  · (simp only [go_sem, ↓reduceIte, Int.reduceAdd, Int.reduceEq, Int.reduceLE, Int.reduceLT, Int.reduceMul, Int.reduceNeg, Int.reduceSub, Int.reduceToNat, Nat.reduceAdd, Nat.reduceBEq, Nat.reduceEqDiff, Nat.reduceLT, Nat.reduceLeDiff, Nat.reduceMul, Nat.reduceSub]) <;> rfl
  · (simp only [go_sem, ↓reduceIte, Int.reduceAdd, Int.reduceEq, Int.reduceLE, Int.reduceLT, Int.reduceMul, Int.reduceNeg, Int.reduceSub, Int.reduceToNat, Nat.reduceAdd, Nat.reduceBEq, Nat.reduceEqDiff, Nat.reduceLT, Nat.reduceLeDiff, Nat.reduceMul, Nat.reduceSub]) <;> rfl
  · rintro ex ρ' ms' h1 d1 ⟨rfl, v5, v6, k4, k5, k6, a5, a6, hle, hres, hsame, rfl, rfl⟩
    have i5 : IS h1 v5 (m.map tw) := Acc.is (by rw [List.map_map]; exact a5) (by simp)
    have i6 : IS h1 v6 (m.map ww) := Acc.is (by rw [List.map_map]; exact a6) (by simp)
    have bT := sT_bound hmk hms
    have bW := sW_bound hmk hms
    have c5 := sum104 i5 (by simp; omega) (fun x hx => by
      obtain ⟨q, hq, rfl⟩ := List.mem_map.1 hx
      exact Nat.le_trans (tw_bound (List.all_eq_true.1 hmk q hq)) (by decide))
    have c6 := sum104 i6 (by simp; omega) (fun x hx => by
      obtain ⟨q, hq, rfl⟩ := List.mem_map.1 hx
      exact Nat.le_trans (ww_bound (List.all_eq_true.1 hmk q hq)) (by decide))
    have c65 := lowest (sT m) (sW m) h1 (by omega) (by omega) (gcd_ne hmk hmn)
    have e1 : isum (m.map tw) = sT m := rfl
    have e2 : isum (m.map ww) = sW m := rfl
    rw [e1] at c5
    rw [e2] at c6
    have hst : ∀ (base : Nat) (d : List Nat) (x y : Int), storeS base h1 d h.length 0 [.int .i64 x, .int .i64 y] = some (h1.set h.length (.cells [.int .i64 x, .int .i64 y] 82 true 0 []), d) := by
      intro base d x y
      rw [store_def, hres]
      simp [kill_nil, write_cons, write_nil, dirty_pf, sc, oneC, ble_dec, blt_dec]
    have hll : h.length < h1.length := by omega
    repeat (first | apply run_seq | apply run_block | apply end_seq | apply end_blk_hit | apply end_blk_miss rfl | apply end_blk | apply end_seq_exit | apply end_seq_ret | apply end_blk_ret | apply run_skip | apply run_ret | apply run_exit | (apply run_region (by decide); (simp only [go_sem, ↓reduceIte, Int.reduceAdd, Int.reduceEq, Int.reduceLE, Int.reduceLT, Int.reduceMul, Int.reduceNeg, Int.reduceSub, Int.reduceToNat, Nat.reduceAdd, Nat.reduceBEq, Nat.reduceEqDiff, Nat.reduceLT, Nat.reduceLeDiff, Nat.reduceMul, Nat.reduceSub, k4, k5, k6, c5, c6, c65, hres]; rfl)) | (refine run_cond_t ?_ ?_; · simp only [go_sem, ↓reduceIte, Nat.reduceEqDiff]) | (refine run_cond_f ?_ ?_; · simp only [go_sem, ↓reduceIte, Nat.reduceEqDiff]))
    refine end_nil (q_cell [.int .i64 (bal m).1, .int .i64 (bal m).2] ?_ rfl ⟨_, by simp only [go_sem, ↓reduceIte, Int.reduceAdd, Int.reduceEq, Int.reduceLE, Int.reduceLT, Int.reduceMul, Int.reduceNeg, Int.reduceSub, Int.reduceToNat, Nat.reduceAdd, Nat.reduceBEq, Nat.reduceEqDiff, Nat.reduceLT, Nat.reduceLeDiff, Nat.reduceMul, Nat.reduceSub, k4]; rfl⟩ ?_)
    · simp only [go_sem, ↓reduceIte, Int.reduceAdd, Int.reduceEq, Int.reduceLE, Int.reduceLT, Int.reduceMul, Int.reduceNeg, Int.reduceSub, Int.reduceToNat, Nat.reduceAdd, Nat.reduceBEq, Nat.reduceEqDiff, Nat.reduceLT, Nat.reduceLeDiff, Nat.reduceMul, Nat.reduceSub, k4]
      rw [load_rdON, List.getElem?_set_self hll]
      rfl
    · refine take_of_same (by simp; omega) (fun j hj => ?_)
      rw [List.getElem?_set_ne (by omega)]
      exact hsame j hj
end Go.Proofs.Ytecncmmkghmojaa.Sh

/- Balance, Stands and Reach of the program, of towers. -/
namespace Go.Proofs.Ytecncmmkghmojaa.Sh
open Go
set_option maxRecDepth 100000

def Ext (h h' : SHeap) : Prop := ∃ g, h' = h ++ g
theorem Ext.refl (h : SHeap) : Ext h h := ⟨[], by simp⟩
theorem Ext.app {h h' : SHeap} (e : Ext h h') (l : List SO) : Ext h (h' ++ l) := by
  obtain ⟨g, rfl⟩ := e
  exact ⟨g ++ l, by simp⟩
theorem Ext.take {h h' : SHeap} (e : Ext h h') : h'.take h.length = h := by
  obtain ⟨g, rfl⟩ := e
  exact take_app _ _
theorem TSl.ext {h h' : SHeap} {v : Value} {l : List (Int × Int)} (k : TSl h v l) (e : Ext h h') : TSl h' v l := by
  obtain ⟨g, rfl⟩ := e
  exact k.app g

theorem towerB_of {l : List (Int × Int)} (h : towerB l = true) : l.all okP = true ∧ 1 ≤ l.length ∧ l.length ≤ 12 := by
  simp only [towerB, Bool.and_eq_true, decide_eq_true_eq] at h
  exact ⟨h.1.1, h.1.2, h.2⟩
theorem bal_bounds {l : List (Int × Int)} (hok : l.all okP = true) (hs : l.length ≤ 12) : (bal l).1.natAbs ≤ 2520000 ∧ (bal l).2.natAbs ≤ 2400 :=
  ⟨tdiv_le _ _ _ (sT_bound hok hs), tdiv_le _ _ _ (sW_bound hok hs)⟩

/-- Balance of a plank -/
theorem balance49_ok {h : SHeap} {v : Value} {l : List (Int × Int)} (hv : TSl h v l) (ht : towerB l = true) {p : Nat} (hp : p < l.length) :
    M.call 49 [v, .int .i64 p] h = some (.tuple #[.agg #[.int .i64 (bal (l.drop p)).1, .int .i64 (bal (l.drop p)).2], .int .i64 0], h, []) := by
  obtain ⟨hok, _, hs⟩ := towerB_of ht
  have e := check48 ((hv.app [.cells [.int .i64 0, .int .i64 0] 53 true 0 []]).ps) (by omega)
  have c73 := balance73 (hv.app [.cells [.int .i64 0, .int .i64 0] 53 true 0 []]) hok hs hp
  rw [ht, if_pos rfl] at e
  obtain ⟨b, c, rfl, kp⟩ := hv
  have c1 : ¬ ((p : Int) < 0) := by omega
  have c2 : ¬ ((l.length : Int) ≤ p) := by omega
  refine call_run sf49 rfl rfl rfl ?_
  unfold sf49
  repeat (first | apply run_seq | apply run_block | apply end_seq | apply end_blk_hit | apply end_blk_miss rfl | apply end_blk | apply end_seq_exit | apply end_seq_ret | apply end_blk_ret | apply run_skip | apply run_ret | apply run_exit | (apply run_region (by decide); (simp only [go_sem, ↓reduceIte, Int.reduceAdd, Int.reduceEq, Int.reduceLE, Int.reduceLT, Int.reduceMul, Int.reduceNeg, Int.reduceSub, Int.reduceToNat, Nat.reduceAdd, Nat.reduceBEq, Nat.reduceEqDiff, Nat.reduceLT, Nat.reduceLeDiff, Nat.reduceMul, Nat.reduceSub, argR, e, c1, c2, c73]; rfl)) | (refine run_cond_t ?_ ?_; · simp only [go_sem, ↓reduceIte, Nat.reduceEqDiff]) | (refine run_cond_f ?_ ?_; · simp only [go_sem, ↓reduceIte, Nat.reduceEqDiff]))
  exact end_nil (q_cell_tmp (FT := FT) [.int .i64 (bal (l.drop p)).1, .int .i64 (bal (l.drop p)).2] (.int .i64 0) (by simp only [go_sem, ↓reduceIte, Int.reduceAdd, Int.reduceEq, Int.reduceLE, Int.reduceLT, Int.reduceMul, Int.reduceNeg, Int.reduceSub, Int.reduceToNat, Nat.reduceAdd, Nat.reduceBEq, Nat.reduceEqDiff, Nat.reduceLT, Nat.reduceLeDiff, Nat.reduceMul, Nat.reduceSub]) (by simp only [go_sem, ↓reduceIte, Int.reduceAdd, Int.reduceEq, Int.reduceLE, Int.reduceLT, Int.reduceMul, Int.reduceNeg, Int.reduceSub, Int.reduceToNat, Nat.reduceAdd, Nat.reduceBEq, Nat.reduceEqDiff, Nat.reduceLT, Nat.reduceLeDiff, Nat.reduceMul, Nat.reduceSub]) rfl rfl ⟨_, rfl⟩ (take_app _ _))

/-- is the balance at plank i not over what is below it? -/
def badS (l : List (Int × Int)) : Nat → Bool
  | 0 => decide (0 < (bal l).1)
  | j + 1 => decide ((bal (l.drop (j + 1))).1 < (l.getD j (0, 0)).1 * (bal (l.drop (j + 1))).2) || decide (((l.getD j (0, 0)).1 + (l.getD j (0, 0)).2) * (bal (l.drop (j + 1))).2 < (bal (l.drop (j + 1))).1)
def firstS (l : List (Int × Int)) : Option Nat := (List.range l.length).find? (badS l)
def standS (l : List (Int × Int)) : Nat × Bool := match firstS l with
  | some i => (i, false)
  | none => (0, true)
theorem firstS_none {l : List (Int × Int)} (h : ∀ j, j < l.length → badS l j = false) : standS l = (0, true) := by
  have : firstS l = none := by
    rw [firstS, List.find?_range_eq_none]
    intro i hi; rw [h i hi]; rfl
  rw [standS, this]
theorem firstS_some {l : List (Int × Int)} {i : Nat} (hi : i < l.length) (hb : badS l i = true) (h : ∀ j, j < i → badS l j = false) : standS l = (i, false) := by
  have : firstS l = some i := by
    rw [firstS, List.find?_range_eq_some]
    refine ⟨hb, List.mem_range.2 hi, fun j hj => ?_⟩
    rw [h j hj]; rfl
  rw [standS, this]

theorem mul_bound {a b : Int} {m n : Nat} (ha : a.natAbs ≤ m) (hb : b.natAbs ≤ n) : (a * b).natAbs ≤ m * n := by
  rw [Int.natAbs_mul]
  exact Nat.mul_le_mul ha hb

theorem stands_loop (cx : Cx) {h : SHeap} {v : Value} {l : List (Int × Int)} (hv : TSl h v l) (ht : towerB l = true) : ∀ k ρ ms h' d', (∃ i : Nat, i + k = l.length ∧ ρ 0 = v ∧ ρ 15 = .int .i64 l.length ∧ ρ 16 = .int .i64 i ∧ (∀ j, j < i → badS l j = false) ∧ ms = [] ∧ Ext h h' ∧ d' = []) →
    LoopW M cx 6 sf35L0 ρ ms h' d' (fun ex ρ' ms' h' d' => ((ex = .exit 0 ∧ standS l = (0, true)) ∨ (ex = .ret ∧ ∃ i : Nat, standS l = (i, false) ∧ ρ' 2 = .int .i64 i ∧ ρ' 3 = .bool false ∧ ρ' 4 = .int .i64 0)) ∧ ms' = [] ∧ Ext h h' ∧ d' = []) := by
  obtain ⟨hok, hlen1, hs⟩ := towerB_of ht
  refine loop_run _ ?_
  rintro k ρ ms h' d' ⟨i, hi, h0, h15, h16, hall, rfl, hex, rfl⟩
  unfold sf35L0
  by_cases hk : k = 0
  · have e1 : ¬ ((i : Int) < l.length) := by omega
    repeat (first | apply run_seq | apply run_block | apply end_seq | apply end_blk_hit | apply end_blk_miss rfl | apply end_blk | apply end_seq_exit | apply end_seq_ret | apply end_blk_ret | apply run_skip | apply run_ret | apply run_exit | (apply run_region (by decide); (simp only [go_sem, ↓reduceIte, Int.reduceAdd, Int.reduceEq, Int.reduceLE, Int.reduceLT, Int.reduceMul, Int.reduceNeg, Int.reduceSub, Int.reduceToNat, Nat.reduceAdd, Nat.reduceBEq, Nat.reduceEqDiff, Nat.reduceLT, Nat.reduceLeDiff, Nat.reduceMul, Nat.reduceSub, h15, h16, e1]; rfl)) | (refine run_cond_t ?_ ?_; · simp only [go_sem, ↓reduceIte, Nat.reduceEqDiff]) | (refine run_cond_f ?_ ?_; · simp only [go_sem, ↓reduceIte, Nat.reduceEqDiff]))
    have ei : i = l.length := by omega
    subst ei
    exact end_nil ⟨.inl ⟨rfl, firstS_none hall⟩, rfl, hex, rfl⟩
  · have e1 : (i : Int) < l.length := by omega
    have hil : i < l.length := by omega
    have e2 : (0 : Int) ≤ i := by omega
    have ew : IntKind.i64.wrap ((i : Int) + 1) = ((i + 1 : Nat) : Int) := by rw [wrap64 (by omega) (by omega)]; rfl
    have hv' := hv.ext hex
    have c73 := balance73 hv' hok hs hil
    have hsuc : badS l i = false → ∀ j, j < i + 1 → badS l j = false := by
      intro hb j hj
      by_cases e : j = i
      · rw [e]; exact hb
      · exact hall j (by omega)
    cases i with
    | zero =>
      rw [List.drop_zero] at c73
      have c73' : M.call 73 [v, .int .i64 0] h' = some (.agg #[.int .i64 (bal l).1, .int .i64 (bal l).2], h', []) := c73
      have h16' : ρ 16 = .int .i64 0 := h16
      have e1' : (0 : Int) < l.length := e1
      by_cases c1 : 0 < (bal l).1
      · repeat (first | apply run_seq | apply run_block | apply end_seq | apply end_blk_hit | apply end_blk_miss rfl | apply end_blk | apply end_seq_exit | apply end_seq_ret | apply end_blk_ret | apply run_skip | apply run_ret | apply run_exit | (apply run_region (by decide); (simp only [go_sem, ↓reduceIte, Int.reduceAdd, Int.reduceEq, Int.reduceLE, Int.reduceLT, Int.reduceMul, Int.reduceNeg, Int.reduceSub, Int.reduceToNat, Nat.reduceAdd, Nat.reduceBEq, Nat.reduceEqDiff, Nat.reduceLT, Nat.reduceLeDiff, Nat.reduceMul, Nat.reduceSub, h0, h15, h16', e1', c73', c1]; rfl)) | (refine run_cond_t ?_ ?_; · simp only [go_sem, ↓reduceIte, Nat.reduceEqDiff]) | (refine run_cond_f ?_ ?_; · simp only [go_sem, ↓reduceIte, Nat.reduceEqDiff]))
        have hb : badS l 0 = true := decide_eq_true c1
        refine end_nil ⟨.inr ⟨rfl, 0, firstS_some hil hb hall, ?_, ?_, ?_⟩, rfl, hex.app _, rfl⟩
        · (simp only [go_sem, ↓reduceIte, Int.reduceAdd, Int.reduceEq, Int.reduceLE, Int.reduceLT, Int.reduceMul, Int.reduceNeg, Int.reduceSub, Int.reduceToNat, Nat.reduceAdd, Nat.reduceBEq, Nat.reduceEqDiff, Nat.reduceLT, Nat.reduceLeDiff, Nat.reduceMul, Nat.reduceSub]) <;> rfl
        · (simp only [go_sem, ↓reduceIte, Int.reduceAdd, Int.reduceEq, Int.reduceLE, Int.reduceLT, Int.reduceMul, Int.reduceNeg, Int.reduceSub, Int.reduceToNat, Nat.reduceAdd, Nat.reduceBEq, Nat.reduceEqDiff, Nat.reduceLT, Nat.reduceLeDiff, Nat.reduceMul, Nat.reduceSub]) <;> rfl
        · (simp only [go_sem, ↓reduceIte, Int.reduceAdd, Int.reduceEq, Int.reduceLE, Int.reduceLT, Int.reduceMul, Int.reduceNeg, Int.reduceSub, Int.reduceToNat, Nat.reduceAdd, Nat.reduceBEq, Nat.reduceEqDiff, Nat.reduceLT, Nat.reduceLeDiff, Nat.reduceMul, Nat.reduceSub]) <;> rfl
      · repeat (first | apply run_seq | apply run_block | apply end_seq | apply end_blk_hit | apply end_blk_miss rfl | apply end_blk | apply end_seq_exit | apply end_seq_ret | apply end_blk_ret | apply run_skip | apply run_ret | apply run_exit | (apply run_region (by decide); (simp only [go_sem, ↓reduceIte, Int.reduceAdd, Int.reduceEq, Int.reduceLE, Int.reduceLT, Int.reduceMul, Int.reduceNeg, Int.reduceSub, Int.reduceToNat, Nat.reduceAdd, Nat.reduceBEq, Nat.reduceEqDiff, Nat.reduceLT, Nat.reduceLeDiff, Nat.reduceMul, Nat.reduceSub, h0, h15, h16', e1', c73', c1]; rfl)) | (refine run_cond_t ?_ ?_; · simp only [go_sem, ↓reduceIte, Nat.reduceEqDiff]) | (refine run_cond_f ?_ ?_; · simp only [go_sem, ↓reduceIte, Nat.reduceEqDiff]))
        have hb : badS l 0 = false := decide_eq_false c1
        refine end_nil ⟨k - 1, by omega, 1, by omega, ?_, ?_, ?_, hsuc hb, rfl, hex.app _, rfl⟩
        · simp only [go_sem, ↓reduceIte, Int.reduceAdd, Int.reduceEq, Int.reduceLE, Int.reduceLT, Int.reduceMul, Int.reduceNeg, Int.reduceSub, Int.reduceToNat, Nat.reduceAdd, Nat.reduceBEq, Nat.reduceEqDiff, Nat.reduceLT, Nat.reduceLeDiff, Nat.reduceMul, Nat.reduceSub, h0]
        · simp only [go_sem, ↓reduceIte, Int.reduceAdd, Int.reduceEq, Int.reduceLE, Int.reduceLT, Int.reduceMul, Int.reduceNeg, Int.reduceSub, Int.reduceToNat, Nat.reduceAdd, Nat.reduceBEq, Nat.reduceEqDiff, Nat.reduceLT, Nat.reduceLeDiff, Nat.reduceMul, Nat.reduceSub, h15]
        · (simp only [go_sem, ↓reduceIte, Int.reduceAdd, Int.reduceEq, Int.reduceLE, Int.reduceLT, Int.reduceMul, Int.reduceNeg, Int.reduceSub, Int.reduceToNat, Nat.reduceAdd, Nat.reduceBEq, Nat.reduceEqDiff, Nat.reduceLT, Nat.reduceLeDiff, Nat.reduceMul, Nat.reduceSub]) <;> rfl
    | succ j =>
      obtain ⟨bv, cv, rfl, hp, hc⟩ := hv'
      have hjl : j < l.length := by omega
      have hgd : l.getD j (0, 0) = l[j] := by rw [List.getD_eq_getElem?_getD, List.getElem?_eq_getElem hjl]; rfl
      have l1 := (hp.app [.cells [.int .i64 (bal (l.drop (j + 1))).1, .int .i64 (bal (l.drop (j + 1))).2] 82 true 0 []]).load1 hjl
      have l2 := (hp.app [.cells [.int .i64 (bal (l.drop (j + 1))).1, .int .i64 (bal (l.drop (j + 1))).2] 82 true 0 []]).load2 hjl
      rw [Nat.zero_add] at l1 l2
      have rg := okP_ranges (List.all_eq_true.1 hok l[j] (List.getElem_mem hjl))
      have bb := bal_bounds (all_drop hok (j + 1)) (show (l.drop (j + 1)).length ≤ 12 by simp; omega)
      have hbad : badS l (j + 1) = (decide ((bal (l.drop (j + 1))).1 < l[j].1 * (bal (l.drop (j + 1))).2) || decide ((l[j].1 + l[j].2) * (bal (l.drop (j + 1))).2 < (bal (l.drop (j + 1))).1)) := by
        rw [← hgd]; rfl
      generalize hA : (bal (l.drop (j + 1))).1 = A at *
      generalize hB : (bal (l.drop (j + 1))).2 = B at *
      generalize l[j] = q at *
      obtain ⟨x, y⟩ := q
      dsimp only at l1 l2 rg hbad
      have hz : ¬ (((j + 1 : Nat) : Int) = 0) := by omega
      have hsub : IntKind.i64.wrap (((j + 1 : Nat) : Int) - 1) = (j : Int) := by rw [wrap64 (by omega) (by omega)]; omega
      have ej : (0 : Int) ≤ j := by omega
      have ejl : (j : Int) < l.length := by omega
      have w1 : IntKind.i64.wrap (x * B) = x * B := wrap_abs (Nat.le_trans (mul_bound (m := 1000) (n := 2400) (by omega) bb.2) (by decide))
      have w2 : IntKind.i64.wrap (x + y) = x + y := wrap64 (by omega) (by omega)
      have w3 : IntKind.i64.wrap ((x + y) * B) = (x + y) * B := wrap_abs (Nat.le_trans (mul_bound (m := 1100) (n := 2400) (by omega) bb.2) (by decide))
      by_cases c1 : A < x * B
      · repeat (first | apply run_seq | apply run_block | apply end_seq | apply end_blk_hit | apply end_blk_miss rfl | apply end_blk | apply end_seq_exit | apply end_seq_ret | apply end_blk_ret | apply run_skip | apply run_ret | apply run_exit | (apply run_region (by decide); (simp only [go_sem, ↓reduceIte, Int.reduceAdd, Int.reduceEq, Int.reduceLE, Int.reduceLT, Int.reduceMul, Int.reduceNeg, Int.reduceSub, Int.reduceToNat, Nat.reduceAdd, Nat.reduceBEq, Nat.reduceEqDiff, Nat.reduceLT, Nat.reduceLeDiff, Nat.reduceMul, Nat.reduceSub, h0, h15, h16, e1, c73, hz, hsub, ej, ejl, l1, l2, w1, w2, w3, c1, Int.toNat_natCast]; rfl)) | (refine run_cond_t ?_ ?_; · simp only [go_sem, ↓reduceIte, Nat.reduceEqDiff]) | (refine run_cond_f ?_ ?_; · simp only [go_sem, ↓reduceIte, Nat.reduceEqDiff]))
        have hb : badS l (j + 1) = true := by rw [hbad, decide_eq_true c1]; rfl
        refine end_nil ⟨.inr ⟨rfl, j + 1, firstS_some hil hb hall, ?_, ?_, ?_⟩, rfl, hex.app _, rfl⟩
        · (simp only [go_sem, ↓reduceIte, Int.reduceAdd, Int.reduceEq, Int.reduceLE, Int.reduceLT, Int.reduceMul, Int.reduceNeg, Int.reduceSub, Int.reduceToNat, Nat.reduceAdd, Nat.reduceBEq, Nat.reduceEqDiff, Nat.reduceLT, Nat.reduceLeDiff, Nat.reduceMul, Nat.reduceSub]) <;> rfl
        · (simp only [go_sem, ↓reduceIte, Int.reduceAdd, Int.reduceEq, Int.reduceLE, Int.reduceLT, Int.reduceMul, Int.reduceNeg, Int.reduceSub, Int.reduceToNat, Nat.reduceAdd, Nat.reduceBEq, Nat.reduceEqDiff, Nat.reduceLT, Nat.reduceLeDiff, Nat.reduceMul, Nat.reduceSub]) <;> rfl
        · (simp only [go_sem, ↓reduceIte, Int.reduceAdd, Int.reduceEq, Int.reduceLE, Int.reduceLT, Int.reduceMul, Int.reduceNeg, Int.reduceSub, Int.reduceToNat, Nat.reduceAdd, Nat.reduceBEq, Nat.reduceEqDiff, Nat.reduceLT, Nat.reduceLeDiff, Nat.reduceMul, Nat.reduceSub]) <;> rfl
      · by_cases c2 : (x + y) * B < A
        · repeat (first | apply run_seq | apply run_block | apply end_seq | apply end_blk_hit | apply end_blk_miss rfl | apply end_blk | apply end_seq_exit | apply end_seq_ret | apply end_blk_ret | apply run_skip | apply run_ret | apply run_exit | (apply run_region (by decide); (simp only [go_sem, ↓reduceIte, Int.reduceAdd, Int.reduceEq, Int.reduceLE, Int.reduceLT, Int.reduceMul, Int.reduceNeg, Int.reduceSub, Int.reduceToNat, Nat.reduceAdd, Nat.reduceBEq, Nat.reduceEqDiff, Nat.reduceLT, Nat.reduceLeDiff, Nat.reduceMul, Nat.reduceSub, h0, h15, h16, e1, c73, hz, hsub, ej, ejl, l1, l2, w1, w2, w3, c1, c2, Int.toNat_natCast]; rfl)) | (refine run_cond_t ?_ ?_; · simp only [go_sem, ↓reduceIte, Nat.reduceEqDiff]) | (refine run_cond_f ?_ ?_; · simp only [go_sem, ↓reduceIte, Nat.reduceEqDiff]))
          have hb : badS l (j + 1) = true := by rw [hbad, decide_eq_true c2, Bool.or_true]
          refine end_nil ⟨.inr ⟨rfl, j + 1, firstS_some hil hb hall, ?_, ?_, ?_⟩, rfl, hex.app _, rfl⟩
          · (simp only [go_sem, ↓reduceIte, Int.reduceAdd, Int.reduceEq, Int.reduceLE, Int.reduceLT, Int.reduceMul, Int.reduceNeg, Int.reduceSub, Int.reduceToNat, Nat.reduceAdd, Nat.reduceBEq, Nat.reduceEqDiff, Nat.reduceLT, Nat.reduceLeDiff, Nat.reduceMul, Nat.reduceSub]) <;> rfl
          · (simp only [go_sem, ↓reduceIte, Int.reduceAdd, Int.reduceEq, Int.reduceLE, Int.reduceLT, Int.reduceMul, Int.reduceNeg, Int.reduceSub, Int.reduceToNat, Nat.reduceAdd, Nat.reduceBEq, Nat.reduceEqDiff, Nat.reduceLT, Nat.reduceLeDiff, Nat.reduceMul, Nat.reduceSub]) <;> rfl
          · (simp only [go_sem, ↓reduceIte, Int.reduceAdd, Int.reduceEq, Int.reduceLE, Int.reduceLT, Int.reduceMul, Int.reduceNeg, Int.reduceSub, Int.reduceToNat, Nat.reduceAdd, Nat.reduceBEq, Nat.reduceEqDiff, Nat.reduceLT, Nat.reduceLeDiff, Nat.reduceMul, Nat.reduceSub]) <;> rfl
        · repeat (first | apply run_seq | apply run_block | apply end_seq | apply end_blk_hit | apply end_blk_miss rfl | apply end_blk | apply end_seq_exit | apply end_seq_ret | apply end_blk_ret | apply run_skip | apply run_ret | apply run_exit | (apply run_region (by decide); (simp only [go_sem, ↓reduceIte, Int.reduceAdd, Int.reduceEq, Int.reduceLE, Int.reduceLT, Int.reduceMul, Int.reduceNeg, Int.reduceSub, Int.reduceToNat, Nat.reduceAdd, Nat.reduceBEq, Nat.reduceEqDiff, Nat.reduceLT, Nat.reduceLeDiff, Nat.reduceMul, Nat.reduceSub, h0, h15, h16, e1, c73, hz, hsub, ej, ejl, l1, l2, w1, w2, w3, c1, c2, Int.toNat_natCast, ew]; rfl)) | (refine run_cond_t ?_ ?_; · simp only [go_sem, ↓reduceIte, Nat.reduceEqDiff]) | (refine run_cond_f ?_ ?_; · simp only [go_sem, ↓reduceIte, Nat.reduceEqDiff]))
          have hb : badS l (j + 1) = false := by rw [hbad, decide_eq_false c1, decide_eq_false c2]; rfl
          refine end_nil ⟨k - 1, by omega, j + 1 + 1, by omega, ?_, ?_, ?_, hsuc hb, rfl, hex.app _, rfl⟩
          · simp only [go_sem, ↓reduceIte, Int.reduceAdd, Int.reduceEq, Int.reduceLE, Int.reduceLT, Int.reduceMul, Int.reduceNeg, Int.reduceSub, Int.reduceToNat, Nat.reduceAdd, Nat.reduceBEq, Nat.reduceEqDiff, Nat.reduceLT, Nat.reduceLeDiff, Nat.reduceMul, Nat.reduceSub, h0]
          · simp only [go_sem, ↓reduceIte, Int.reduceAdd, Int.reduceEq, Int.reduceLE, Int.reduceLT, Int.reduceMul, Int.reduceNeg, Int.reduceSub, Int.reduceToNat, Nat.reduceAdd, Nat.reduceBEq, Nat.reduceEqDiff, Nat.reduceLT, Nat.reduceLeDiff, Nat.reduceMul, Nat.reduceSub, h15]
          · simp only [go_sem, ↓reduceIte, Int.reduceAdd, Int.reduceEq, Int.reduceLE, Int.reduceLT, Int.reduceMul, Int.reduceNeg, Int.reduceSub, Int.reduceToNat, Nat.reduceAdd, Nat.reduceBEq, Nat.reduceEqDiff, Nat.reduceLT, Nat.reduceLeDiff, Nat.reduceMul, Nat.reduceSub, ew]

/-- Stands -/
theorem stands35 {h : SHeap} {v : Value} {l : List (Int × Int)} (hv : TSl h v l) (ht : towerB l = true) : M.call 35 [v] h = some (.tuple #[.int .i64 (standS l).1, .bool (standS l).2, .int .i64 0], h, []) := by
  obtain ⟨hok, _, hs⟩ := towerB_of ht
  have e := check48 hv.ps (by omega)
  rw [ht, if_pos rfl] at e
  have hvk := hv
  obtain ⟨b, c, rfl, kp⟩ := hv
  refine call_run sf35 rfl rfl rfl ?_
  unfold sf35
  repeat (first | apply run_seq | apply run_block | apply end_seq | apply end_blk_hit | apply end_blk_miss rfl | apply end_blk | apply end_seq_exit | apply end_seq_ret | apply end_blk_ret | apply run_skip | apply run_ret | apply run_exit | (apply run_region (by decide); (simp only [go_sem, ↓reduceIte, Int.reduceAdd, Int.reduceEq, Int.reduceLE, Int.reduceLT, Int.reduceMul, Int.reduceNeg, Int.reduceSub, Int.reduceToNat, Nat.reduceAdd, Nat.reduceBEq, Nat.reduceEqDiff, Nat.reduceLT, Nat.reduceLeDiff, Nat.reduceMul, Nat.reduceSub, argR, e]; rfl)) | (refine run_cond_t ?_ ?_; · simp only [go_sem, ↓reduceIte, Nat.reduceEqDiff]) | (refine run_cond_f ?_ ?_; · simp only [go_sem, ↓reduceIte, Nat.reduceEqDiff]))
  refine run_loop (stands_loop _ hvk ht l.length _ _ _ _ ⟨0, by omega, ?_, ?_, ?_, fun j hj => by omega, rfl, Ext.refl h, rfl⟩) ?_
  · simp only [go_sem, ↓reduceIte, Int.reduceAdd, Int.reduceEq, Int.reduceLE, Int.reduceLT, Int.reduceMul, Int.reduceNeg, Int.reduceSub, Int.reduceToNat, Nat.reduceAdd, Nat.reduceBEq, Nat.reduceEqDiff, Nat.reduceLT, Nat.reduceLeDiff, Nat.reduceMul, Nat.reduceSub, argR]
  · (simp only [go_sem, ↓reduceIte, Int.reduceAdd, Int.reduceEq, Int.reduceLE, Int.reduceLT, Int.reduceMul, Int.reduceNeg, Int.reduceSub, Int.reduceToNat, Nat.reduceAdd, Nat.reduceBEq, Nat.reduceEqDiff, Nat.reduceLT, Nat.reduceLeDiff, Nat.reduceMul, Nat.reduceSub, argR]) <;> rfl
  · (simp only [go_sem, ↓reduceIte, Int.reduceAdd, Int.reduceEq, Int.reduceLE, Int.reduceLT, Int.reduceMul, Int.reduceNeg, Int.reduceSub, Int.reduceToNat, Nat.reduceAdd, Nat.reduceBEq, Nat.reduceEqDiff, Nat.reduceLT, Nat.reduceLeDiff, Nat.reduceMul, Nat.reduceSub, argR]) <;> rfl
  · rintro ex ρ' ms' h1 d1 ⟨⟨rfl, hst⟩ | ⟨rfl, i, hst, k2, k3, k4⟩, rfl, hex, rfl⟩
    · repeat (first | apply run_seq | apply run_block | apply end_seq | apply end_blk_hit | apply end_blk_miss rfl | apply end_blk | apply end_seq_exit | apply end_seq_ret | apply end_blk_ret | apply run_skip | apply run_ret | apply run_exit | (apply run_region (by decide); (simp only [go_sem, ↓reduceIte, Int.reduceAdd, Int.reduceEq, Int.reduceLE, Int.reduceLT, Int.reduceMul, Int.reduceNeg, Int.reduceSub, Int.reduceToNat, Nat.reduceAdd, Nat.reduceBEq, Nat.reduceEqDiff, Nat.reduceLT, Nat.reduceLeDiff, Nat.reduceMul, Nat.reduceSub]; rfl)) | (refine run_cond_t ?_ ?_; · simp only [go_sem, ↓reduceIte, Nat.reduceEqDiff]) | (refine run_cond_f ?_ ?_; · simp only [go_sem, ↓reduceIte, Nat.reduceEqDiff]))
      rw [hst]
      exact end_nil (q_ret3 _ _ _ (by (simp only [go_sem, ↓reduceIte, Int.reduceAdd, Int.reduceEq, Int.reduceLE, Int.reduceLT, Int.reduceMul, Int.reduceNeg, Int.reduceSub, Int.reduceToNat, Nat.reduceAdd, Nat.reduceBEq, Nat.reduceEqDiff, Nat.reduceLT, Nat.reduceLeDiff, Nat.reduceMul, Nat.reduceSub]) <;> rfl) (by (simp only [go_sem, ↓reduceIte, Int.reduceAdd, Int.reduceEq, Int.reduceLE, Int.reduceLT, Int.reduceMul, Int.reduceNeg, Int.reduceSub, Int.reduceToNat, Nat.reduceAdd, Nat.reduceBEq, Nat.reduceEqDiff, Nat.reduceLT, Nat.reduceLeDiff, Nat.reduceMul, Nat.reduceSub]) <;> rfl) (by (simp only [go_sem, ↓reduceIte, Int.reduceAdd, Int.reduceEq, Int.reduceLE, Int.reduceLT, Int.reduceMul, Int.reduceNeg, Int.reduceSub, Int.reduceToNat, Nat.reduceAdd, Nat.reduceBEq, Nat.reduceEqDiff, Nat.reduceLT, Nat.reduceLeDiff, Nat.reduceMul, Nat.reduceSub]) <;> rfl) rfl rfl rfl hex.take)
    · repeat (first | apply run_seq | apply run_block | apply end_seq | apply end_blk_hit | apply end_blk_miss rfl | apply end_blk | apply end_seq_exit | apply end_seq_ret | apply end_blk_ret | apply run_skip | apply run_ret | apply run_exit | (apply run_region (by decide); (simp only [go_sem, ↓reduceIte, Int.reduceAdd, Int.reduceEq, Int.reduceLE, Int.reduceLT, Int.reduceMul, Int.reduceNeg, Int.reduceSub, Int.reduceToNat, Nat.reduceAdd, Nat.reduceBEq, Nat.reduceEqDiff, Nat.reduceLT, Nat.reduceLeDiff, Nat.reduceMul, Nat.reduceSub]; rfl)) | (refine run_cond_t ?_ ?_; · simp only [go_sem, ↓reduceIte, Nat.reduceEqDiff]) | (refine run_cond_f ?_ ?_; · simp only [go_sem, ↓reduceIte, Nat.reduceEqDiff]))
      rw [hst]
      exact end_nil (q_ret3 _ _ _ k2 k3 k4 rfl rfl rfl hex.take)
end Go.Proofs.Ytecncmmkghmojaa.Sh

/- Reach of the program; Balance, Stands and Reach of the document. -/
namespace Go.Proofs.Ytecncmmkghmojaa.Sh
open Go
set_option maxRecDepth 100000

def rch (l : List (Int × Int)) (a : Int) : Int := l.foldl (fun a q => if q.1 + q.2 > a then q.1 + q.2 else a) a
theorem rch_take_succ (l : List (Int × Int)) (i : Nat) (a : Int) (hi : i < l.length) : rch (l.take (i + 1)) a = if l[i].1 + l[i].2 > rch (l.take i) a then l[i].1 + l[i].2 else rch (l.take i) a := by
  rw [List.take_add_one, List.getElem?_eq_getElem hi, rch, List.foldl_append]
  rfl
def reachF (l : List (Int × Int)) : Int := rch l ((l.getD 0 (0, 0)).1 + (l.getD 0 (0, 0)).2)

theorem reach_loop (cx : Cx) {h : SHeap} {v : Value} {l : List (Int × Int)} (a0 : Int) (hv : TSl h v l) (ht : towerB l = true) : ∀ k ρ ms h' d', (∃ i : Nat, i + k = l.length ∧ ρ 5 = .int .i64 (rch (l.take i) a0) ∧ ρ 22 = v ∧ ρ 23 = .int .i64 l.length ∧ ρ 24 = .int .i64 i ∧ ms = [] ∧ Ext h h' ∧ d' = []) →
    LoopW M cx 6 sf36L0 ρ ms h' d' (fun ex ρ' ms' h' d' => ex = .exit 0 ∧ ρ' 5 = .int .i64 (rch l a0) ∧ ms' = [] ∧ Ext h h' ∧ d' = []) := by
  obtain ⟨hok, hlen1, hs⟩ := towerB_of ht
  refine loop_run _ ?_
  rintro k ρ ms h' d' ⟨i, hi, h5, h22, h23, h24, rfl, hex, rfl⟩
  unfold sf36L0
  by_cases hk : k = 0
  · have e1 : ¬ ((i : Int) < l.length) := by omega
    repeat (first | apply run_seq | apply run_block | apply end_seq | apply end_blk_hit | apply end_blk_miss rfl | apply end_blk | apply end_seq_exit | apply end_seq_ret | apply end_blk_ret | apply run_skip | apply run_ret | apply run_exit | (apply run_region (by decide); (simp only [go_sem, ↓reduceIte, Int.reduceAdd, Int.reduceEq, Int.reduceLE, Int.reduceLT, Int.reduceMul, Int.reduceNeg, Int.reduceSub, Int.reduceToNat, Nat.reduceAdd, Nat.reduceBEq, Nat.reduceEqDiff, Nat.reduceLT, Nat.reduceLeDiff, Nat.reduceMul, Nat.reduceSub, h22, h23, h24, e1]; rfl)) | (refine run_cond_t ?_ ?_; · simp only [go_sem, ↓reduceIte, Nat.reduceEqDiff]) | (refine run_cond_f ?_ ?_; · simp only [go_sem, ↓reduceIte, Nat.reduceEqDiff]))
    refine end_nil ⟨rfl, ?_, rfl, hex, rfl⟩
    simp only [go_sem, ↓reduceIte, Int.reduceAdd, Int.reduceEq, Int.reduceLE, Int.reduceLT, Int.reduceMul, Int.reduceNeg, Int.reduceSub, Int.reduceToNat, Nat.reduceAdd, Nat.reduceBEq, Nat.reduceEqDiff, Nat.reduceLT, Nat.reduceLeDiff, Nat.reduceMul, Nat.reduceSub, h5]
    rw [List.take_of_length_le (by omega)]
  · have e1 : (i : Int) < l.length := by omega
    have hil : i < l.length := by omega
    have e2 : (0 : Int) ≤ i := by omega
    have ew : IntKind.i64.wrap ((i : Int) + 1) = ((i + 1 : Nat) : Int) := by rw [wrap64 (by omega) (by omega)]; rfl
    obtain ⟨bv, cv, rfl, hp, hc⟩ := hv.ext hex
    have l1 := hp.loadN hil
    rw [Nat.zero_add] at l1
    have rg := okP_ranges (List.all_eq_true.1 hok l[i] (List.getElem_mem hil))
    have hst := rch_take_succ l i a0 hil
    generalize l[i] = q at *
    obtain ⟨x, y⟩ := q
    dsimp only at l1 rg hst
    have w1 : IntKind.i64.wrap (x + y) = x + y := wrap64 (by omega) (by omega)
    repeat (first | apply run_seq | apply run_block | apply end_seq | apply end_blk_hit | apply end_blk_miss rfl | apply end_blk | apply end_seq_exit | apply end_seq_ret | apply end_blk_ret | apply run_skip | apply run_ret | apply run_exit | (apply run_region (by decide); (simp only [go_sem, ↓reduceIte, Int.reduceAdd, Int.reduceEq, Int.reduceLE, Int.reduceLT, Int.reduceMul, Int.reduceNeg, Int.reduceSub, Int.reduceToNat, Nat.reduceAdd, Nat.reduceBEq, Nat.reduceEqDiff, Nat.reduceLT, Nat.reduceLeDiff, Nat.reduceMul, Nat.reduceSub, h5, h22, h23, h24, e1, e2, l1, w1, Int.toNat_natCast, ew]; rfl)) | (refine run_cond_t ?_ ?_; · simp only [go_sem, ↓reduceIte, Nat.reduceEqDiff]) | (refine run_cond_f ?_ ?_; · simp only [go_sem, ↓reduceIte, Nat.reduceEqDiff]))
    refine end_nil ⟨k - 1, by omega, i + 1, by omega, ?_, ?_, ?_, ?_, rfl, hex.app _, rfl⟩
    · simp only [go_sem, ↓reduceIte, Int.reduceAdd, Int.reduceEq, Int.reduceLE, Int.reduceLT, Int.reduceMul, Int.reduceNeg, Int.reduceSub, Int.reduceToNat, Nat.reduceAdd, Nat.reduceBEq, Nat.reduceEqDiff, Nat.reduceLT, Nat.reduceLeDiff, Nat.reduceMul, Nat.reduceSub, h5, w1]
      rw [hst]
    · simp only [go_sem, ↓reduceIte, Int.reduceAdd, Int.reduceEq, Int.reduceLE, Int.reduceLT, Int.reduceMul, Int.reduceNeg, Int.reduceSub, Int.reduceToNat, Nat.reduceAdd, Nat.reduceBEq, Nat.reduceEqDiff, Nat.reduceLT, Nat.reduceLeDiff, Nat.reduceMul, Nat.reduceSub, h22]
    · simp only [go_sem, ↓reduceIte, Int.reduceAdd, Int.reduceEq, Int.reduceLE, Int.reduceLT, Int.reduceMul, Int.reduceNeg, Int.reduceSub, Int.reduceToNat, Nat.reduceAdd, Nat.reduceBEq, Nat.reduceEqDiff, Nat.reduceLT, Nat.reduceLeDiff, Nat.reduceMul, Nat.reduceSub, h23]
    · simp only [go_sem, ↓reduceIte, Int.reduceAdd, Int.reduceEq, Int.reduceLE, Int.reduceLT, Int.reduceMul, Int.reduceNeg, Int.reduceSub, Int.reduceToNat, Nat.reduceAdd, Nat.reduceBEq, Nat.reduceEqDiff, Nat.reduceLT, Nat.reduceLeDiff, Nat.reduceMul, Nat.reduceSub, ew]

/-- Reach -/
theorem reach36 {h : SHeap} {v : Value} {l : List (Int × Int)} (hv : TSl h v l) (ht : towerB l = true) : M.call 36 [v] h = some (.tuple #[.int .i64 (reachF l), .int .i64 0], h, []) := by
  obtain ⟨hok, hlen1, hs⟩ := towerB_of ht
  have e := check48 hv.ps (by omega)
  rw [ht, if_pos rfl] at e
  have hvk := hv
  obtain ⟨b, c, rfl, kp, hc⟩ := hv
  have hl0 : 0 < l.length := by omega
  have l1 := kp.load1 hl0
  have l2 := kp.load2 hl0
  rw [Nat.zero_add, Nat.zero_mul] at l1
  rw [Nat.zero_mul, Nat.zero_add] at l2
  have rg := okP_ranges (List.all_eq_true.1 hok l[0] (List.getElem_mem hl0))
  have w1 : IntKind.i64.wrap (l[0].1 + l[0].2) = l[0].1 + l[0].2 := wrap64 (by omega) (by omega)
  have hgd : l.getD 0 (0, 0) = l[0] := by rw [List.getD_eq_getElem?_getD, List.getElem?_eq_getElem hl0]; rfl
  have hln : (0 : Int) < l.length := by omega
  refine call_run sf36 rfl rfl rfl ?_
  unfold sf36
  repeat (first | apply run_seq | apply run_block | apply end_seq | apply end_blk_hit | apply end_blk_miss rfl | apply end_blk | apply end_seq_exit | apply end_seq_ret | apply end_blk_ret | apply run_skip | apply run_ret | apply run_exit | (apply run_region (by decide); (simp only [go_sem, ↓reduceIte, Int.reduceAdd, Int.reduceEq, Int.reduceLE, Int.reduceLT, Int.reduceMul, Int.reduceNeg, Int.reduceSub, Int.reduceToNat, Nat.reduceAdd, Nat.reduceBEq, Nat.reduceEqDiff, Nat.reduceLT, Nat.reduceLeDiff, Nat.reduceMul, Nat.reduceSub, argR, e, l1, l2, w1, hln]; rfl)) | (refine run_cond_t ?_ ?_; · simp only [go_sem, ↓reduceIte, Nat.reduceEqDiff]) | (refine run_cond_f ?_ ?_; · simp only [go_sem, ↓reduceIte, Nat.reduceEqDiff]))
  refine run_loop (reach_loop _ (l[0].1 + l[0].2) hvk ht l.length _ _ _ _ ⟨0, by omega, ?_, ?_, ?_, ?_, rfl, Ext.refl h, rfl⟩) ?_
  · (simp only [go_sem, ↓reduceIte, Int.reduceAdd, Int.reduceEq, Int.reduceLE, Int.reduceLT, Int.reduceMul, Int.reduceNeg, Int.reduceSub, Int.reduceToNat, Nat.reduceAdd, Nat.reduceBEq, Nat.reduceEqDiff, Nat.reduceLT, Nat.reduceLeDiff, Nat.reduceMul, Nat.reduceSub, w1]) <;> rfl
  · simp only [go_sem, ↓reduceIte, Int.reduceAdd, Int.reduceEq, Int.reduceLE, Int.reduceLT, Int.reduceMul, Int.reduceNeg, Int.reduceSub, Int.reduceToNat, Nat.reduceAdd, Nat.reduceBEq, Nat.reduceEqDiff, Nat.reduceLT, Nat.reduceLeDiff, Nat.reduceMul, Nat.reduceSub, argR]
  · (simp only [go_sem, ↓reduceIte, Int.reduceAdd, Int.reduceEq, Int.reduceLE, Int.reduceLT, Int.reduceMul, Int.reduceNeg, Int.reduceSub, Int.reduceToNat, Nat.reduceAdd, Nat.reduceBEq, Nat.reduceEqDiff, Nat.reduceLT, Nat.reduceLeDiff, Nat.reduceMul, Nat.reduceSub, argR]) <;> rfl
  · (simp only [go_sem, ↓reduceIte, Int.reduceAdd, Int.reduceEq, Int.reduceLE, Int.reduceLT, Int.reduceMul, Int.reduceNeg, Int.reduceSub, Int.reduceToNat, Nat.reduceAdd, Nat.reduceBEq, Nat.reduceEqDiff, Nat.reduceLT, Nat.reduceLeDiff, Nat.reduceMul, Nat.reduceSub, argR]) <;> rfl
  · rintro ex ρ' ms' h1 d1 ⟨rfl, k5, rfl, hex, rfl⟩
    repeat (first | apply run_seq | apply run_block | apply end_seq | apply end_blk_hit | apply end_blk_miss rfl | apply end_blk | apply end_seq_exit | apply end_seq_ret | apply end_blk_ret | apply run_skip | apply run_ret | apply run_exit | (apply run_region (by decide); (simp only [go_sem, ↓reduceIte, Int.reduceAdd, Int.reduceEq, Int.reduceLE, Int.reduceLT, Int.reduceMul, Int.reduceNeg, Int.reduceSub, Int.reduceToNat, Nat.reduceAdd, Nat.reduceBEq, Nat.reduceEqDiff, Nat.reduceLT, Nat.reduceLeDiff, Nat.reduceMul, Nat.reduceSub, k5]; rfl)) | (refine run_cond_t ?_ ?_; · simp only [go_sem, ↓reduceIte, Nat.reduceEqDiff]) | (refine run_cond_f ?_ ?_; · simp only [go_sem, ↓reduceIte, Nat.reduceEqDiff]))
    refine end_nil (q_ret2 _ _ ?_ (by (simp only [go_sem, ↓reduceIte, Int.reduceAdd, Int.reduceEq, Int.reduceLE, Int.reduceLT, Int.reduceMul, Int.reduceNeg, Int.reduceSub, Int.reduceToNat, Nat.reduceAdd, Nat.reduceBEq, Nat.reduceEqDiff, Nat.reduceLT, Nat.reduceLeDiff, Nat.reduceMul, Nat.reduceSub]) <;> rfl) rfl rfl hex.take)
    simp only [go_sem, ↓reduceIte, Int.reduceAdd, Int.reduceEq, Int.reduceLE, Int.reduceLT, Int.reduceMul, Int.reduceNeg, Int.reduceSub, Int.reduceToNat, Nat.reduceAdd, Nat.reduceBEq, Nat.reduceEqDiff, Nat.reduceLT, Nat.reduceLeDiff, Nat.reduceMul, Nat.reduceSub, k5]
    rw [reachF, hgd]

theorem reachR_loop (cx : Cx) {h : SHeap} {v : Value} {l : List (Int × Int)} (a0 : Int) (d : List Nat) (hv : TSl h v l) (ht : towerB l = true) : ∀ k ρ ms h' d', (∃ i : Nat, i + k = l.length ∧ ρ 0 = v ∧ ρ 3 = .int .i64 (rch (l.take i) a0) ∧ ρ 4 = .int .i64 i ∧ ms = [] ∧ h' = h ∧ d' = d) →
    LoopW M cx 6 sf53L0 ρ ms h' d' (fun ex ρ' ms' h' d' => ex = .exit 0 ∧ ρ' 3 = .int .i64 (rch l a0) ∧ ms' = [] ∧ h' = h ∧ d' = d) := by
  obtain ⟨hok, hlen1, hs⟩ := towerB_of ht
  obtain ⟨bv, cv, rfl, hp, hc⟩ := hv
  refine loop_run _ ?_
  rintro k ρ ms h' d' ⟨i, hi, h0, h3, h4, rfl, rfl, rfl⟩
  unfold sf53L0
  by_cases hk : k = 0
  · have e1 : ¬ ((i : Int) < l.length) := by omega
    repeat (first | apply run_seq | apply run_block | apply end_seq | apply end_blk_hit | apply end_blk_miss rfl | apply end_blk | apply end_seq_exit | apply end_seq_ret | apply end_blk_ret | apply run_skip | apply run_ret | apply run_exit | (apply run_region (by decide); (simp only [go_sem, ↓reduceIte, Int.reduceAdd, Int.reduceEq, Int.reduceLE, Int.reduceLT, Int.reduceMul, Int.reduceNeg, Int.reduceSub, Int.reduceToNat, Nat.reduceAdd, Nat.reduceBEq, Nat.reduceEqDiff, Nat.reduceLT, Nat.reduceLeDiff, Nat.reduceMul, Nat.reduceSub, h0, h3, h4, e1]; rfl)) | (refine run_cond_t ?_ ?_; · simp only [go_sem, ↓reduceIte, Nat.reduceEqDiff]) | (refine run_cond_f ?_ ?_; · simp only [go_sem, ↓reduceIte, Nat.reduceEqDiff]))
    refine end_nil ⟨rfl, ?_, rfl, rfl, rfl⟩
    simp only [go_sem, ↓reduceIte, Int.reduceAdd, Int.reduceEq, Int.reduceLE, Int.reduceLT, Int.reduceMul, Int.reduceNeg, Int.reduceSub, Int.reduceToNat, Nat.reduceAdd, Nat.reduceBEq, Nat.reduceEqDiff, Nat.reduceLT, Nat.reduceLeDiff, Nat.reduceMul, Nat.reduceSub, h3]
    rw [List.take_of_length_le (by omega)]
  · have e1 : (i : Int) < l.length := by omega
    have hil : i < l.length := by omega
    have e2 : (0 : Int) ≤ i := by omega
    have ew : IntKind.i64.wrap ((i : Int) + 1) = ((i + 1 : Nat) : Int) := by rw [wrap64 (by omega) (by omega)]; rfl
    have l1 := hp.load1 hil
    have l2 := hp.load2 hil
    rw [Nat.zero_add] at l1 l2
    have rg := okP_ranges (List.all_eq_true.1 hok l[i] (List.getElem_mem hil))
    have hst := rch_take_succ l i a0 hil
    generalize l[i] = q at *
    obtain ⟨x, y⟩ := q
    dsimp only at l1 l2 rg hst
    have w1 : IntKind.i64.wrap (x + y) = x + y := wrap64 (by omega) (by omega)
    repeat (first | apply run_seq | apply run_block | apply end_seq | apply end_blk_hit | apply end_blk_miss rfl | apply end_blk | apply end_seq_exit | apply end_seq_ret | apply end_blk_ret | apply run_skip | apply run_ret | apply run_exit | (apply run_region (by decide); (simp only [go_sem, ↓reduceIte, Int.reduceAdd, Int.reduceEq, Int.reduceLE, Int.reduceLT, Int.reduceMul, Int.reduceNeg, Int.reduceSub, Int.reduceToNat, Nat.reduceAdd, Nat.reduceBEq, Nat.reduceEqDiff, Nat.reduceLT, Nat.reduceLeDiff, Nat.reduceMul, Nat.reduceSub, h0, h3, h4, e1, e2, l1, l2, w1, Int.toNat_natCast, ew]; rfl)) | (refine run_cond_t ?_ ?_; · simp only [go_sem, ↓reduceIte, Nat.reduceEqDiff]) | (refine run_cond_f ?_ ?_; · simp only [go_sem, ↓reduceIte, Nat.reduceEqDiff]))
    refine end_nil ⟨k - 1, by omega, i + 1, by omega, ?_, ?_, ?_, rfl, rfl, rfl⟩
    · simp only [go_sem, ↓reduceIte, Int.reduceAdd, Int.reduceEq, Int.reduceLE, Int.reduceLT, Int.reduceMul, Int.reduceNeg, Int.reduceSub, Int.reduceToNat, Nat.reduceAdd, Nat.reduceBEq, Nat.reduceEqDiff, Nat.reduceLT, Nat.reduceLeDiff, Nat.reduceMul, Nat.reduceSub, h0]
    · simp only [go_sem, ↓reduceIte, Int.reduceAdd, Int.reduceEq, Int.reduceLE, Int.reduceLT, Int.reduceMul, Int.reduceNeg, Int.reduceSub, Int.reduceToNat, Nat.reduceAdd, Nat.reduceBEq, Nat.reduceEqDiff, Nat.reduceLT, Nat.reduceLeDiff, Nat.reduceMul, Nat.reduceSub, h3, w1]
      rw [hst]
    · simp only [go_sem, ↓reduceIte, Int.reduceAdd, Int.reduceEq, Int.reduceLE, Int.reduceLT, Int.reduceMul, Int.reduceNeg, Int.reduceSub, Int.reduceToNat, Nat.reduceAdd, Nat.reduceBEq, Nat.reduceEqDiff, Nat.reduceLT, Nat.reduceLeDiff, Nat.reduceMul, Nat.reduceSub, ew]

/-- Reach of the document -/
theorem reach53 {h : SHeap} {v : Value} {l : List (Int × Int)} (hv : TSl h v l) (ht : towerB l = true) : M.call 53 [v] h = some (.int .i64 (reachF l), h, []) := by
  obtain ⟨hok, hlen1, hs⟩ := towerB_of ht
  have hvk := hv
  obtain ⟨b, c, rfl, kp, hc⟩ := hv
  have hl0 : 0 < l.length := by omega
  have l1 := kp.load1 hl0
  have l2 := kp.load2 hl0
  rw [Nat.zero_add, Nat.zero_mul] at l1
  rw [Nat.zero_mul, Nat.zero_add] at l2
  have rg := okP_ranges (List.all_eq_true.1 hok l[0] (List.getElem_mem hl0))
  have w1 : IntKind.i64.wrap (l[0].1 + l[0].2) = l[0].1 + l[0].2 := wrap64 (by omega) (by omega)
  have hgd : l.getD 0 (0, 0) = l[0] := by rw [List.getD_eq_getElem?_getD, List.getElem?_eq_getElem hl0]; rfl
  have hln : (0 : Int) < l.length := by omega
  have h1 : rch (l.take 1) (l[0].1 + l[0].2) = l[0].1 + l[0].2 := by
    rw [rch_take_succ l 0 _ hl0]
    simp [rch]
  refine call_run sf53 rfl rfl rfl ?_
  unfold sf53
  repeat (first | apply run_seq | apply run_block | apply end_seq | apply end_blk_hit | apply end_blk_miss rfl | apply end_blk | apply end_seq_exit | apply end_seq_ret | apply end_blk_ret | apply run_skip | apply run_ret | apply run_exit | (apply run_region (by decide); (simp only [go_sem, ↓reduceIte, Int.reduceAdd, Int.reduceEq, Int.reduceLE, Int.reduceLT, Int.reduceMul, Int.reduceNeg, Int.reduceSub, Int.reduceToNat, Nat.reduceAdd, Nat.reduceBEq, Nat.reduceEqDiff, Nat.reduceLT, Nat.reduceLeDiff, Nat.reduceMul, Nat.reduceSub, argR, l1, l2, w1, hln]; rfl)) | (refine run_cond_t ?_ ?_; · simp only [go_sem, ↓reduceIte, Nat.reduceEqDiff]) | (refine run_cond_f ?_ ?_; · simp only [go_sem, ↓reduceIte, Nat.reduceEqDiff]))
  refine run_loop (reachR_loop _ (l[0].1 + l[0].2) [] hvk ht (l.length - 1) _ _ _ _ ⟨1, by omega, ?_, ?_, ?_, rfl, rfl, rfl⟩) ?_
  · simp only [go_sem, ↓reduceIte, Int.reduceAdd, Int.reduceEq, Int.reduceLE, Int.reduceLT, Int.reduceMul, Int.reduceNeg, Int.reduceSub, Int.reduceToNat, Nat.reduceAdd, Nat.reduceBEq, Nat.reduceEqDiff, Nat.reduceLT, Nat.reduceLeDiff, Nat.reduceMul, Nat.reduceSub, argR]
  · simp only [go_sem, ↓reduceIte, Int.reduceAdd, Int.reduceEq, Int.reduceLE, Int.reduceLT, Int.reduceMul, Int.reduceNeg, Int.reduceSub, Int.reduceToNat, Nat.reduceAdd, Nat.reduceBEq, Nat.reduceEqDiff, Nat.reduceLT, Nat.reduceLeDiff, Nat.reduceMul, Nat.reduceSub, w1]
    rw [h1]
  · (simp only [go_sem, ↓reduceIte, Int.reduceAdd, Int.reduceEq, Int.reduceLE, Int.reduceLT, Int.reduceMul, Int.reduceNeg, Int.reduceSub, Int.reduceToNat, Nat.reduceAdd, Nat.reduceBEq, Nat.reduceEqDiff, Nat.reduceLT, Nat.reduceLeDiff, Nat.reduceMul, Nat.reduceSub]) <;> rfl
  · rintro ex ρ' ms' h1 d1 ⟨rfl, k3, rfl, rfl, rfl⟩
    repeat (first | apply run_seq | apply run_block | apply end_seq | apply end_blk_hit | apply end_blk_miss rfl | apply end_blk | apply end_seq_exit | apply end_seq_ret | apply end_blk_ret | apply run_skip | apply run_ret | apply run_exit | (apply run_region (by decide); (simp only [go_sem, ↓reduceIte, Int.reduceAdd, Int.reduceEq, Int.reduceLE, Int.reduceLT, Int.reduceMul, Int.reduceNeg, Int.reduceSub, Int.reduceToNat, Nat.reduceAdd, Nat.reduceBEq, Nat.reduceEqDiff, Nat.reduceLT, Nat.reduceLeDiff, Nat.reduceMul, Nat.reduceSub, k3]; rfl)) | (refine run_cond_t ?_ ?_; · simp only [go_sem, ↓reduceIte, Nat.reduceEqDiff]) | (refine run_cond_f ?_ ?_; · simp only [go_sem, ↓reduceIte, Nat.reduceEqDiff]))
    refine end_nil (q_ret1 _ ?_ rfl (take_self _))
    simp only [go_sem, ↓reduceIte, Int.reduceAdd, Int.reduceEq, Int.reduceLE, Int.reduceLT, Int.reduceMul, Int.reduceNeg, Int.reduceSub, Int.reduceToNat, Nat.reduceAdd, Nat.reduceBEq, Nat.reduceEqDiff, Nat.reduceLT, Nat.reduceLeDiff, Nat.reduceMul, Nat.reduceSub, k3]
    rw [reachF, hgd]

theorem sT_take_succ (l : List (Int × Int)) (i : Nat) (hi : i < l.length) : sT (l.take (i + 1)) = sT (l.take i) + tw l[i] := by
  rw [sT, sT, List.take_add_one, List.getElem?_eq_getElem hi, List.map_append, isum_append]
  simp [isum]
theorem sW_take_succ (l : List (Int × Int)) (i : Nat) (hi : i < l.length) : sW (l.take (i + 1)) = sW (l.take i) + ww l[i] := by
  rw [sW, sW, List.take_add_one, List.getElem?_eq_getElem hi, List.map_append, isum_append]
  simp [isum]
theorem all_take {α : Type} {q : α → Bool} {l : List α} (h : l.all q = true) (p : Nat) : (l.take p).all q = true := by
  rw [List.all_eq_true] at h ⊢
  exact fun x hx => h x (List.mem_of_mem_take hx)

theorem balR_loop (cx : Cx) {h : SHeap} {v : Value} {l : List (Int × Int)} (p : Nat) (hp0 : p ≤ l.length) (d : List Nat) (c0 : Value) (hv : TSl h v l) (hok : l.all okP = true) (hs : l.length ≤ 12) : ∀ k ρ ms h' d', (∃ t : Nat, p + t + k = l.length ∧ ρ 0 = v ∧ ρ 4 = c0 ∧ ρ 5 = .int .i64 (sT ((l.drop p).take t)) ∧ ρ 6 = .int .i64 (sW ((l.drop p).take t)) ∧ ρ 7 = .int .i64 (p + t : Nat) ∧ ms = [] ∧ h' = h ∧ d' = d) →
    LoopW M cx 6 sf52L0 ρ ms h' d' (fun ex ρ' ms' h' d' => ex = .exit 0 ∧ ρ' 4 = c0 ∧ ρ' 5 = .int .i64 (sT (l.drop p)) ∧ ρ' 6 = .int .i64 (sW (l.drop p)) ∧ ms' = [] ∧ h' = h ∧ d' = d) := by
  obtain ⟨bv, cv, rfl, hp, hc⟩ := hv
  refine loop_run _ ?_
  rintro k ρ ms h' d' ⟨t, hi, h0, h4, h5, h6, h7, rfl, rfl, rfl⟩
  unfold sf52L0
  by_cases hk : k = 0
  · have e1 : ¬ (((p + t : Nat) : Int) < l.length) := by omega
    repeat (first | apply run_seq | apply run_block | apply end_seq | apply end_blk_hit | apply end_blk_miss rfl | apply end_blk | apply end_seq_exit | apply end_seq_ret | apply end_blk_ret | apply run_skip | apply run_ret | apply run_exit | (apply run_region (by decide); (simp only [go_sem, ↓reduceIte, Int.reduceAdd, Int.reduceEq, Int.reduceLE, Int.reduceLT, Int.reduceMul, Int.reduceNeg, Int.reduceSub, Int.reduceToNat, Nat.reduceAdd, Nat.reduceBEq, Nat.reduceEqDiff, Nat.reduceLT, Nat.reduceLeDiff, Nat.reduceMul, Nat.reduceSub, h0, h7, e1]; rfl)) | (refine run_cond_t ?_ ?_; · simp only [go_sem, ↓reduceIte, Nat.reduceEqDiff]) | (refine run_cond_f ?_ ?_; · simp only [go_sem, ↓reduceIte, Nat.reduceEqDiff]))
    have e : (l.drop p).take t = l.drop p := List.take_of_length_le (by simp; omega)
    rw [e] at h5 h6
    refine end_nil ⟨rfl, ?_, ?_, ?_, rfl, rfl, rfl⟩
    · simp only [go_sem, ↓reduceIte, Int.reduceAdd, Int.reduceEq, Int.reduceLE, Int.reduceLT, Int.reduceMul, Int.reduceNeg, Int.reduceSub, Int.reduceToNat, Nat.reduceAdd, Nat.reduceBEq, Nat.reduceEqDiff, Nat.reduceLT, Nat.reduceLeDiff, Nat.reduceMul, Nat.reduceSub, h4]
    · simp only [go_sem, ↓reduceIte, Int.reduceAdd, Int.reduceEq, Int.reduceLE, Int.reduceLT, Int.reduceMul, Int.reduceNeg, Int.reduceSub, Int.reduceToNat, Nat.reduceAdd, Nat.reduceBEq, Nat.reduceEqDiff, Nat.reduceLT, Nat.reduceLeDiff, Nat.reduceMul, Nat.reduceSub, h5]
    · simp only [go_sem, ↓reduceIte, Int.reduceAdd, Int.reduceEq, Int.reduceLE, Int.reduceLT, Int.reduceMul, Int.reduceNeg, Int.reduceSub, Int.reduceToNat, Nat.reduceAdd, Nat.reduceBEq, Nat.reduceEqDiff, Nat.reduceLT, Nat.reduceLeDiff, Nat.reduceMul, Nat.reduceSub, h6]
  · have hil : p + t < l.length := by omega
    have htl : t < (l.drop p).length := by simp; omega
    have l1 := hp.load1 hil
    have l2 := hp.load2 hil
    rw [Nat.zero_add] at l1 l2
    have rg := okP_ranges (List.all_eq_true.1 hok l[p + t] (List.getElem_mem hil))
    have sT1 := sT_take_succ (l.drop p) t htl
    have sW1 := sW_take_succ (l.drop p) t htl
    have bT := sT_bound (all_take (all_drop hok p) (t + 1)) (show ((l.drop p).take (t + 1)).length ≤ 12 by simp; omega)
    have bW := sW_bound (all_take (all_drop hok p) (t + 1)) (show ((l.drop p).take (t + 1)).length ≤ 12 by simp; omega)
    have bt := tw_bound (List.all_eq_true.1 hok l[p + t] (List.getElem_mem hil))
    rw [List.getElem_drop] at sT1 sW1
    have e1 : ((p + t : Nat) : Int) < l.length := by omega
    have e2 : (0 : Int) ≤ ((p + t : Nat) : Int) := by omega
    have ew : IntKind.i64.wrap (((p + t : Nat) : Int) + 1) = ((p + t + 1 : Nat) : Int) := by rw [wrap64 (by omega) (by omega)]; rfl
    generalize l[p + t] = q at *
    obtain ⟨x, y⟩ := q
    dsimp only at l1 l2 rg
    generalize hI : p + t = I at *
    have w1 : IntKind.i64.wrap (2 * x) = 2 * x := wrap64 (by omega) (by omega)
    have w2 : IntKind.i64.wrap (2 * x + y) = 2 * x + y := wrap64 (by omega) (by omega)
    have w3 : IntKind.i64.wrap (y * (2 * x + y)) = y * (2 * x + y) := wrap_abs (Nat.le_trans bt (by decide))
    have w4 : IntKind.i64.wrap (2 * y) = 2 * y := wrap64 (by omega) (by omega)
    have w5 : IntKind.i64.wrap (sT ((l.drop p).take t) + y * (2 * x + y)) = sT ((l.drop p).take (t + 1)) := by
      rw [sT1]
      show IntKind.i64.wrap (sT ((l.drop p).take t) + tw (x, y)) = _
      rw [← sT1]
      exact wrap_abs (by omega)
    have w6 : IntKind.i64.wrap (sW ((l.drop p).take t) + 2 * y) = sW ((l.drop p).take (t + 1)) := by
      rw [sW1]
      show IntKind.i64.wrap (sW ((l.drop p).take t) + ww (x, y)) = _
      rw [← sW1]
      exact wrap_abs (by omega)
    repeat (first | apply run_seq | apply run_block | apply end_seq | apply end_blk_hit | apply end_blk_miss rfl | apply end_blk | apply end_seq_exit | apply end_seq_ret | apply end_blk_ret | apply run_skip | apply run_ret | apply run_exit | (apply run_region (by decide); (simp only [go_sem, ↓reduceIte, Int.reduceAdd, Int.reduceEq, Int.reduceLE, Int.reduceLT, Int.reduceMul, Int.reduceNeg, Int.reduceSub, Int.reduceToNat, Nat.reduceAdd, Nat.reduceBEq, Nat.reduceEqDiff, Nat.reduceLT, Nat.reduceLeDiff, Nat.reduceMul, Nat.reduceSub, h0, h5, h6, h7, e1, e2, l1, l2, w1, w2, w3, w4, w5, w6, Int.toNat_natCast, ew]; rfl)) | (refine run_cond_t ?_ ?_; · simp only [go_sem, ↓reduceIte, Nat.reduceEqDiff]) | (refine run_cond_f ?_ ?_; · simp only [go_sem, ↓reduceIte, Nat.reduceEqDiff]))
    refine end_nil ⟨k - 1, by omega, t + 1, by omega, ?_, ?_, ?_, ?_, ?_, rfl, rfl, rfl⟩
    · simp only [go_sem, ↓reduceIte, Int.reduceAdd, Int.reduceEq, Int.reduceLE, Int.reduceLT, Int.reduceMul, Int.reduceNeg, Int.reduceSub, Int.reduceToNat, Nat.reduceAdd, Nat.reduceBEq, Nat.reduceEqDiff, Nat.reduceLT, Nat.reduceLeDiff, Nat.reduceMul, Nat.reduceSub, h0]
    · simp only [go_sem, ↓reduceIte, Int.reduceAdd, Int.reduceEq, Int.reduceLE, Int.reduceLT, Int.reduceMul, Int.reduceNeg, Int.reduceSub, Int.reduceToNat, Nat.reduceAdd, Nat.reduceBEq, Nat.reduceEqDiff, Nat.reduceLT, Nat.reduceLeDiff, Nat.reduceMul, Nat.reduceSub, h4]
    · simp only [go_sem, ↓reduceIte, Int.reduceAdd, Int.reduceEq, Int.reduceLE, Int.reduceLT, Int.reduceMul, Int.reduceNeg, Int.reduceSub, Int.reduceToNat, Nat.reduceAdd, Nat.reduceBEq, Nat.reduceEqDiff, Nat.reduceLT, Nat.reduceLeDiff, Nat.reduceMul, Nat.reduceSub, w5]
    · simp only [go_sem, ↓reduceIte, Int.reduceAdd, Int.reduceEq, Int.reduceLE, Int.reduceLT, Int.reduceMul, Int.reduceNeg, Int.reduceSub, Int.reduceToNat, Nat.reduceAdd, Nat.reduceBEq, Nat.reduceEqDiff, Nat.reduceLT, Nat.reduceLeDiff, Nat.reduceMul, Nat.reduceSub, w6]
    · simp only [go_sem, ↓reduceIte, Int.reduceAdd, Int.reduceEq, Int.reduceLE, Int.reduceLT, Int.reduceMul, Int.reduceNeg, Int.reduceSub, Int.reduceToNat, Nat.reduceAdd, Nat.reduceBEq, Nat.reduceEqDiff, Nat.reduceLT, Nat.reduceLeDiff, Nat.reduceMul, Nat.reduceSub, ew]
      rw [show p + (t + 1) = I + 1 by omega]

/-- Balance of the document -/
theorem balance52 {h : SHeap} {v : Value} {l : List (Int × Int)} (hv : TSl h v l) (hok : l.all okP = true) (hs : l.length ≤ 12) {p : Nat} (hp : p < l.length) :
    M.call 52 [v, .int .i64 p] h = some (.agg #[.int .i64 (bal (l.drop p)).1, .int .i64 (bal (l.drop p)).2], h, []) := by
  have hmk := all_drop hok p
  have hms : (l.drop p).length ≤ 12 := by simp; omega
  have hmn : l.drop p ≠ [] := by intro e; have := congrArg List.length e; simp at this; omega
  have bT := sT_bound hmk hms
  have bW := sW_bound hmk hms
  have cg := fun h => gcdR (sT (l.drop p)) (sW (l.drop p)) h (by omega) (by omega)
  have hg : ((Int.gcd (sT (l.drop p)) (sW (l.drop p)) : Nat) : Int) ≠ 0 := by have := gcd_ne hmk hmn; omega
  have w1 := wrap_abs (tdiv_le (sT (l.drop p)) (Int.gcd (sT (l.drop p)) (sW (l.drop p))) 9223372036854775807 (by omega))
  have w2 := wrap_abs (tdiv_le (sW (l.drop p)) (Int.gcd (sT (l.drop p)) (sW (l.drop p))) 9223372036854775807 (by omega))
  refine call_run sf52 rfl rfl rfl ?_
  unfold sf52
  repeat (first | apply run_seq | apply run_block | apply end_seq | apply end_blk_hit | apply end_blk_miss rfl | apply end_blk | apply end_seq_exit | apply end_seq_ret | apply end_blk_ret | apply run_skip | apply run_ret | apply run_exit | (apply run_region (by decide); (simp only [go_sem, ↓reduceIte, Int.reduceAdd, Int.reduceEq, Int.reduceLE, Int.reduceLT, Int.reduceMul, Int.reduceNeg, Int.reduceSub, Int.reduceToNat, Nat.reduceAdd, Nat.reduceBEq, Nat.reduceEqDiff, Nat.reduceLT, Nat.reduceLeDiff, Nat.reduceMul, Nat.reduceSub, argR]; rfl)) | (refine run_cond_t ?_ ?_; · simp only [go_sem, ↓reduceIte, Nat.reduceEqDiff]) | (refine run_cond_f ?_ ?_; · simp only [go_sem, ↓reduceIte, Nat.reduceEqDiff]))
  refine run_loop (balR_loop _ p (by omega) [] (.pointer (some ⟨h.length, 0, none⟩)) (hv.app _) hok hs (l.length - p) _ _ _ _ ⟨0, by omega, ?_, ?_, ?_, ?_, ?_, rfl, rfl, rfl⟩) ?_
  · simp only [go_sem, ↓reduceIte, Int.reduceAdd, Int.reduceEq, Int.reduceLE, Int.reduceLT, Int.reduceMul, Int.reduceNeg, Int.reduceSub, Int.reduceToNat, Nat.reduceAdd, Nat.reduceBEq, Nat.reduceEqDiff, Nat.reduceLT, Nat.reduceLeDiff, Nat.reduceMul, Nat.reduceSub, argR]
  · simp only [go_sem, ↓reduceIte, Int.reduceAdd, Int.reduceEq, Int.reduceLE, Int.reduceLT, Int.reduceMul, Int.reduceNeg, Int.reduceSub, Int.reduceToNat, Nat.reduceAdd, Nat.reduceBEq, Nat.reduceEqDiff, Nat.reduceLT, Nat.reduceLeDiff, Nat.reduceMul, Nat.reduceSub]
  · (simp only [go_sem, ↓reduceIte, Int.reduceAdd, Int.reduceEq, Int.reduceLE, Int.reduceLT, Int.reduceMul, Int.reduceNeg, Int.reduceSub, Int.reduceToNat, Nat.reduceAdd, Nat.reduceBEq, Nat.reduceEqDiff, Nat.reduceLT, Nat.reduceLeDiff, Nat.reduceMul, Nat.reduceSub]) <;> rfl
  · (simp only [go_sem, ↓reduceIte, Int.reduceAdd, Int.reduceEq, Int.reduceLE, Int.reduceLT, Int.reduceMul, Int.reduceNeg, Int.reduceSub, Int.reduceToNat, Nat.reduceAdd, Nat.reduceBEq, Nat.reduceEqDiff, Nat.reduceLT, Nat.reduceLeDiff, Nat.reduceMul, Nat.reduceSub]) <;> rfl
  · (simp only [go_sem, ↓reduceIte, Int.reduceAdd, Int.reduceEq, Int.reduceLE, Int.reduceLT, Int.reduceMul, Int.reduceNeg, Int.reduceSub, Int.reduceToNat, Nat.reduceAdd, Nat.reduceBEq, Nat.reduceEqDiff, Nat.reduceLT, Nat.reduceLeDiff, Nat.reduceMul, Nat.reduceSub, argR]) <;> rfl
  · rintro ex ρ' ms' h1 d1 ⟨rfl, k4, k5, k6, rfl, rfl, rfl⟩
    repeat (first | apply run_seq | apply run_block | apply end_seq | apply end_blk_hit | apply end_blk_miss rfl | apply end_blk | apply end_seq_exit | apply end_seq_ret | apply end_blk_ret | apply run_skip | apply run_ret | apply run_exit | (apply run_region (by decide); (simp only [go_sem, ↓reduceIte, Int.reduceAdd, Int.reduceEq, Int.reduceLE, Int.reduceLT, Int.reduceMul, Int.reduceNeg, Int.reduceSub, Int.reduceToNat, Nat.reduceAdd, Nat.reduceBEq, Nat.reduceEqDiff, Nat.reduceLT, Nat.reduceLeDiff, Nat.reduceMul, Nat.reduceSub, k4, k5, k6, cg, hg, w1, w2]; rfl)) | (refine run_cond_t ?_ ?_; · simp only [go_sem, ↓reduceIte, Nat.reduceEqDiff]) | (refine run_cond_f ?_ ?_; · simp only [go_sem, ↓reduceIte, Nat.reduceEqDiff]))
    exact end_nil (q_cell [.int .i64 (bal (l.drop p)).1, .int .i64 (bal (l.drop p)).2] (by simp only [go_sem, ↓reduceIte, Int.reduceAdd, Int.reduceEq, Int.reduceLE, Int.reduceLT, Int.reduceMul, Int.reduceNeg, Int.reduceSub, Int.reduceToNat, Nat.reduceAdd, Nat.reduceBEq, Nat.reduceEqDiff, Nat.reduceLT, Nat.reduceLeDiff, Nat.reduceMul, Nat.reduceSub, k4]; rfl) rfl ⟨_, by simp only [go_sem, ↓reduceIte, Int.reduceAdd, Int.reduceEq, Int.reduceLE, Int.reduceLT, Int.reduceMul, Int.reduceNeg, Int.reduceSub, Int.reduceToNat, Nat.reduceAdd, Nat.reduceBEq, Nat.reduceEqDiff, Nat.reduceLT, Nat.reduceLeDiff, Nat.reduceMul, Nat.reduceSub, k4]; rfl⟩ (take_app _ _))
end Go.Proofs.Ytecncmmkghmojaa.Sh

/- Stands of the document; the towers that the statements make. -/
namespace Go.Proofs.Ytecncmmkghmojaa.Sh
open Go
set_option maxRecDepth 100000

theorem standsR_loop (cx : Cx) {h : SHeap} {v : Value} {l : List (Int × Int)} (hv : TSl h v l) (ht : towerB l = true) : ∀ k ρ ms h' d', (∃ i : Nat, i + k = l.length ∧ ρ 0 = v ∧ ρ 4 = .int .i64 i ∧ (∀ j, j < i → badS l j = false) ∧ ms = [] ∧ Ext h h' ∧ d' = []) →
    LoopW M cx 6 sf51L0 ρ ms h' d' (fun ex ρ' ms' h' d' => ((ex = .exit 0 ∧ standS l = (0, true)) ∨ (ex = .ret ∧ ∃ i : Nat, standS l = (i, false) ∧ ρ' 2 = .int .i64 i ∧ ρ' 3 = .bool false)) ∧ ms' = [] ∧ Ext h h' ∧ d' = []) := by
  obtain ⟨hok, hlen1, hs⟩ := towerB_of ht
  refine loop_run _ ?_
  rintro k ρ ms h' d' ⟨i, hi, h0, h4, hall, rfl, hex, rfl⟩
  unfold sf51L0
  have hv' := hv.ext hex
  by_cases hk : k = 0
  · obtain ⟨bv, cv, rfl, hp, hc⟩ := hv'
    have e1 : ¬ ((i : Int) < l.length) := by omega
    repeat (first | apply run_seq | apply run_block | apply end_seq | apply end_blk_hit | apply end_blk_miss rfl | apply end_blk | apply end_seq_exit | apply end_seq_ret | apply end_blk_ret | apply run_skip | apply run_ret | apply run_exit | (apply run_region (by decide); (simp only [go_sem, ↓reduceIte, Int.reduceAdd, Int.reduceEq, Int.reduceLE, Int.reduceLT, Int.reduceMul, Int.reduceNeg, Int.reduceSub, Int.reduceToNat, Nat.reduceAdd, Nat.reduceBEq, Nat.reduceEqDiff, Nat.reduceLT, Nat.reduceLeDiff, Nat.reduceMul, Nat.reduceSub, h0, h4, e1]; rfl)) | (refine run_cond_t ?_ ?_; · simp only [go_sem, ↓reduceIte, Nat.reduceEqDiff]) | (refine run_cond_f ?_ ?_; · simp only [go_sem, ↓reduceIte, Nat.reduceEqDiff]))
    have ei : i = l.length := by omega
    subst ei
    exact end_nil ⟨.inl ⟨rfl, firstS_none hall⟩, rfl, hex, rfl⟩
  · have e1 : (i : Int) < l.length := by omega
    have hil : i < l.length := by omega
    have ew : IntKind.i64.wrap ((i : Int) + 1) = ((i + 1 : Nat) : Int) := by rw [wrap64 (by omega) (by omega)]; rfl
    have c52 := balance52 hv' hok hs hil
    have hsuc : badS l i = false → ∀ j, j < i + 1 → badS l j = false := by
      intro hb j hj
      by_cases e : j = i
      · rw [e]; exact hb
      · exact hall j (by omega)
    obtain ⟨bv, cv, rfl, hp, hc⟩ := hv'
    cases i with
    | zero =>
      rw [List.drop_zero] at c52
      have c52' : M.call 52 [.slice (some ⟨bv, 0, none⟩) l.length cv, .int .i64 0] h' = some (.agg #[.int .i64 (bal l).1, .int .i64 (bal l).2], h', []) := c52
      have h4' : ρ 4 = .int .i64 0 := h4
      have e1' : (0 : Int) < l.length := e1
      by_cases c1 : 0 < (bal l).1
      · repeat (first | apply run_seq | apply run_block | apply end_seq | apply end_blk_hit | apply end_blk_miss rfl | apply end_blk | apply end_seq_exit | apply end_seq_ret | apply end_blk_ret | apply run_skip | apply run_ret | apply run_exit | (apply run_region (by decide); (simp only [go_sem, ↓reduceIte, Int.reduceAdd, Int.reduceEq, Int.reduceLE, Int.reduceLT, Int.reduceMul, Int.reduceNeg, Int.reduceSub, Int.reduceToNat, Nat.reduceAdd, Nat.reduceBEq, Nat.reduceEqDiff, Nat.reduceLT, Nat.reduceLeDiff, Nat.reduceMul, Nat.reduceSub, h0, h4', e1', c52', c1, udf]; rfl)) | (refine run_cond_t ?_ ?_; · simp only [go_sem, ↓reduceIte, Nat.reduceEqDiff]) | (refine run_cond_f ?_ ?_; · simp only [go_sem, ↓reduceIte, Nat.reduceEqDiff]))
        have hb : badS l 0 = true := decide_eq_true c1
        refine end_nil ⟨.inr ⟨rfl, 0, firstS_some hil hb hall, ?_, ?_⟩, rfl, hex.app _, rfl⟩
        · (simp only [go_sem, ↓reduceIte, Int.reduceAdd, Int.reduceEq, Int.reduceLE, Int.reduceLT, Int.reduceMul, Int.reduceNeg, Int.reduceSub, Int.reduceToNat, Nat.reduceAdd, Nat.reduceBEq, Nat.reduceEqDiff, Nat.reduceLT, Nat.reduceLeDiff, Nat.reduceMul, Nat.reduceSub, h4']) <;> rfl
        · (simp only [go_sem, ↓reduceIte, Int.reduceAdd, Int.reduceEq, Int.reduceLE, Int.reduceLT, Int.reduceMul, Int.reduceNeg, Int.reduceSub, Int.reduceToNat, Nat.reduceAdd, Nat.reduceBEq, Nat.reduceEqDiff, Nat.reduceLT, Nat.reduceLeDiff, Nat.reduceMul, Nat.reduceSub]) <;> rfl
      · repeat (first | apply run_seq | apply run_block | apply end_seq | apply end_blk_hit | apply end_blk_miss rfl | apply end_blk | apply end_seq_exit | apply end_seq_ret | apply end_blk_ret | apply run_skip | apply run_ret | apply run_exit | (apply run_region (by decide); (simp only [go_sem, ↓reduceIte, Int.reduceAdd, Int.reduceEq, Int.reduceLE, Int.reduceLT, Int.reduceMul, Int.reduceNeg, Int.reduceSub, Int.reduceToNat, Nat.reduceAdd, Nat.reduceBEq, Nat.reduceEqDiff, Nat.reduceLT, Nat.reduceLeDiff, Nat.reduceMul, Nat.reduceSub, h0, h4', e1', c52', c1, udf]; rfl)) | (refine run_cond_t ?_ ?_; · simp only [go_sem, ↓reduceIte, Nat.reduceEqDiff]) | (refine run_cond_f ?_ ?_; · simp only [go_sem, ↓reduceIte, Nat.reduceEqDiff]))
        have hb : badS l 0 = false := decide_eq_false c1
        refine end_nil ⟨k - 1, by omega, 1, by omega, ?_, ?_, hsuc hb, rfl, hex.app _, rfl⟩
        · simp only [go_sem, ↓reduceIte, Int.reduceAdd, Int.reduceEq, Int.reduceLE, Int.reduceLT, Int.reduceMul, Int.reduceNeg, Int.reduceSub, Int.reduceToNat, Nat.reduceAdd, Nat.reduceBEq, Nat.reduceEqDiff, Nat.reduceLT, Nat.reduceLeDiff, Nat.reduceMul, Nat.reduceSub, h0]
        · (simp only [go_sem, ↓reduceIte, Int.reduceAdd, Int.reduceEq, Int.reduceLE, Int.reduceLT, Int.reduceMul, Int.reduceNeg, Int.reduceSub, Int.reduceToNat, Nat.reduceAdd, Nat.reduceBEq, Nat.reduceEqDiff, Nat.reduceLT, Nat.reduceLeDiff, Nat.reduceMul, Nat.reduceSub]) <;> rfl
    | succ j =>
      have hjl : j < l.length := by omega
      have hgd : l.getD j (0, 0) = l[j] := by rw [List.getD_eq_getElem?_getD, List.getElem?_eq_getElem hjl]; rfl
      have l1 := (hp.app [.cells [.int .i64 (bal (l.drop (j + 1))).1, .int .i64 (bal (l.drop (j + 1))).2] 53 true 0 []]).load1 hjl
      have l2 := (hp.app [.cells [.int .i64 (bal (l.drop (j + 1))).1, .int .i64 (bal (l.drop (j + 1))).2] 53 true 0 []]).load2 hjl
      rw [Nat.zero_add] at l1 l2
      have rg := okP_ranges (List.all_eq_true.1 hok l[j] (List.getElem_mem hjl))
      have bb := bal_bounds (all_drop hok (j + 1)) (show (l.drop (j + 1)).length ≤ 12 by simp; omega)
      have hbad : badS l (j + 1) = (decide ((bal (l.drop (j + 1))).1 < l[j].1 * (bal (l.drop (j + 1))).2) || decide ((l[j].1 + l[j].2) * (bal (l.drop (j + 1))).2 < (bal (l.drop (j + 1))).1)) := by
        rw [← hgd]; rfl
      generalize hA : (bal (l.drop (j + 1))).1 = A at *
      generalize hB : (bal (l.drop (j + 1))).2 = B at *
      generalize l[j] = q at *
      obtain ⟨x, y⟩ := q
      dsimp only at l1 l2 rg hbad
      have hz : ¬ (((j + 1 : Nat) : Int) = 0) := by omega
      have hz' : (0 : Int) < ((j + 1 : Nat) : Int) := by omega
      have hsub : IntKind.i64.wrap (((j + 1 : Nat) : Int) - 1) = (j : Int) := by rw [wrap64 (by omega) (by omega)]; omega
      have ej : (0 : Int) ≤ j := by omega
      have ejl : (j : Int) < l.length := by omega
      have w1 : IntKind.i64.wrap (x * B) = x * B := wrap_abs (Nat.le_trans (mul_bound (m := 1000) (n := 2400) (by omega) bb.2) (by decide))
      have w2 : IntKind.i64.wrap (x + y) = x + y := wrap64 (by omega) (by omega)
      have w3 : IntKind.i64.wrap ((x + y) * B) = (x + y) * B := wrap_abs (Nat.le_trans (mul_bound (m := 1100) (n := 2400) (by omega) bb.2) (by decide))
      by_cases c1 : A < x * B
      · repeat (first | apply run_seq | apply run_block | apply end_seq | apply end_blk_hit | apply end_blk_miss rfl | apply end_blk | apply end_seq_exit | apply end_seq_ret | apply end_blk_ret | apply run_skip | apply run_ret | apply run_exit | (apply run_region (by decide); (simp only [go_sem, ↓reduceIte, Int.reduceAdd, Int.reduceEq, Int.reduceLE, Int.reduceLT, Int.reduceMul, Int.reduceNeg, Int.reduceSub, Int.reduceToNat, Nat.reduceAdd, Nat.reduceBEq, Nat.reduceEqDiff, Nat.reduceLT, Nat.reduceLeDiff, Nat.reduceMul, Nat.reduceSub, h0, h4, e1, c52, hz, hz', hsub, ej, ejl, l1, l2, w1, w2, w3, c1, udf, Int.toNat_natCast]; rfl)) | (refine run_cond_t ?_ ?_; · simp only [go_sem, ↓reduceIte, Nat.reduceEqDiff]) | (refine run_cond_f ?_ ?_; · simp only [go_sem, ↓reduceIte, Nat.reduceEqDiff]))
        have hb : badS l (j + 1) = true := by rw [hbad, decide_eq_true c1]; rfl
        refine end_nil ⟨.inr ⟨rfl, j + 1, firstS_some hil hb hall, ?_, ?_⟩, rfl, hex.app _, rfl⟩
        · (simp only [go_sem, ↓reduceIte, Int.reduceAdd, Int.reduceEq, Int.reduceLE, Int.reduceLT, Int.reduceMul, Int.reduceNeg, Int.reduceSub, Int.reduceToNat, Nat.reduceAdd, Nat.reduceBEq, Nat.reduceEqDiff, Nat.reduceLT, Nat.reduceLeDiff, Nat.reduceMul, Nat.reduceSub, h4]) <;> rfl
        · (simp only [go_sem, ↓reduceIte, Int.reduceAdd, Int.reduceEq, Int.reduceLE, Int.reduceLT, Int.reduceMul, Int.reduceNeg, Int.reduceSub, Int.reduceToNat, Nat.reduceAdd, Nat.reduceBEq, Nat.reduceEqDiff, Nat.reduceLT, Nat.reduceLeDiff, Nat.reduceMul, Nat.reduceSub]) <;> rfl
      · by_cases c2 : (x + y) * B < A
        · repeat (first | apply run_seq | apply run_block | apply end_seq | apply end_blk_hit | apply end_blk_miss rfl | apply end_blk | apply end_seq_exit | apply end_seq_ret | apply end_blk_ret | apply run_skip | apply run_ret | apply run_exit | (apply run_region (by decide); (simp only [go_sem, ↓reduceIte, Int.reduceAdd, Int.reduceEq, Int.reduceLE, Int.reduceLT, Int.reduceMul, Int.reduceNeg, Int.reduceSub, Int.reduceToNat, Nat.reduceAdd, Nat.reduceBEq, Nat.reduceEqDiff, Nat.reduceLT, Nat.reduceLeDiff, Nat.reduceMul, Nat.reduceSub, h0, h4, e1, c52, hz, hz', hsub, ej, ejl, l1, l2, w1, w2, w3, c1, c2, udf, Int.toNat_natCast]; rfl)) | (refine run_cond_t ?_ ?_; · simp only [go_sem, ↓reduceIte, Nat.reduceEqDiff]) | (refine run_cond_f ?_ ?_; · simp only [go_sem, ↓reduceIte, Nat.reduceEqDiff]))
          have hb : badS l (j + 1) = true := by rw [hbad, decide_eq_true c2, Bool.or_true]
          refine end_nil ⟨.inr ⟨rfl, j + 1, firstS_some hil hb hall, ?_, ?_⟩, rfl, hex.app _, rfl⟩
          · (simp only [go_sem, ↓reduceIte, Int.reduceAdd, Int.reduceEq, Int.reduceLE, Int.reduceLT, Int.reduceMul, Int.reduceNeg, Int.reduceSub, Int.reduceToNat, Nat.reduceAdd, Nat.reduceBEq, Nat.reduceEqDiff, Nat.reduceLT, Nat.reduceLeDiff, Nat.reduceMul, Nat.reduceSub, h4]) <;> rfl
          · (simp only [go_sem, ↓reduceIte, Int.reduceAdd, Int.reduceEq, Int.reduceLE, Int.reduceLT, Int.reduceMul, Int.reduceNeg, Int.reduceSub, Int.reduceToNat, Nat.reduceAdd, Nat.reduceBEq, Nat.reduceEqDiff, Nat.reduceLT, Nat.reduceLeDiff, Nat.reduceMul, Nat.reduceSub]) <;> rfl
        · repeat (first | apply run_seq | apply run_block | apply end_seq | apply end_blk_hit | apply end_blk_miss rfl | apply end_blk | apply end_seq_exit | apply end_seq_ret | apply end_blk_ret | apply run_skip | apply run_ret | apply run_exit | (apply run_region (by decide); (simp only [go_sem, ↓reduceIte, Int.reduceAdd, Int.reduceEq, Int.reduceLE, Int.reduceLT, Int.reduceMul, Int.reduceNeg, Int.reduceSub, Int.reduceToNat, Nat.reduceAdd, Nat.reduceBEq, Nat.reduceEqDiff, Nat.reduceLT, Nat.reduceLeDiff, Nat.reduceMul, Nat.reduceSub, h0, h4, e1, c52, hz, hz', hsub, ej, ejl, l1, l2, w1, w2, w3, c1, c2, udf, Int.toNat_natCast, ew]; rfl)) | (refine run_cond_t ?_ ?_; · simp only [go_sem, ↓reduceIte, Nat.reduceEqDiff]) | (refine run_cond_f ?_ ?_; · simp only [go_sem, ↓reduceIte, Nat.reduceEqDiff]))
          have hb : badS l (j + 1) = false := by rw [hbad, decide_eq_false c1, decide_eq_false c2]; rfl
          refine end_nil ⟨k - 1, by omega, j + 1 + 1, by omega, ?_, ?_, hsuc hb, rfl, hex.app _, rfl⟩
          · simp only [go_sem, ↓reduceIte, Int.reduceAdd, Int.reduceEq, Int.reduceLE, Int.reduceLT, Int.reduceMul, Int.reduceNeg, Int.reduceSub, Int.reduceToNat, Nat.reduceAdd, Nat.reduceBEq, Nat.reduceEqDiff, Nat.reduceLT, Nat.reduceLeDiff, Nat.reduceMul, Nat.reduceSub, h0]
          · simp only [go_sem, ↓reduceIte, Int.reduceAdd, Int.reduceEq, Int.reduceLE, Int.reduceLT, Int.reduceMul, Int.reduceNeg, Int.reduceSub, Int.reduceToNat, Nat.reduceAdd, Nat.reduceBEq, Nat.reduceEqDiff, Nat.reduceLT, Nat.reduceLeDiff, Nat.reduceMul, Nat.reduceSub, ew]

/-- Stands of the document -/
theorem stands51 {h : SHeap} {v : Value} {l : List (Int × Int)} (hv : TSl h v l) (ht : towerB l = true) : M.call 51 [v] h = some (.tuple #[.int .i64 (standS l).1, .bool (standS l).2], h, []) := by
  refine call_run sf51 rfl rfl rfl ?_
  unfold sf51
  repeat (first | apply run_seq | apply run_block | apply end_seq | apply end_blk_hit | apply end_blk_miss rfl | apply end_blk | apply end_seq_exit | apply end_seq_ret | apply end_blk_ret | apply run_skip | apply run_ret | apply run_exit | (apply run_region (by decide); (simp only [go_sem, ↓reduceIte, Int.reduceAdd, Int.reduceEq, Int.reduceLE, Int.reduceLT, Int.reduceMul, Int.reduceNeg, Int.reduceSub, Int.reduceToNat, Nat.reduceAdd, Nat.reduceBEq, Nat.reduceEqDiff, Nat.reduceLT, Nat.reduceLeDiff, Nat.reduceMul, Nat.reduceSub, argR]; rfl)) | (refine run_cond_t ?_ ?_; · simp only [go_sem, ↓reduceIte, Nat.reduceEqDiff]) | (refine run_cond_f ?_ ?_; · simp only [go_sem, ↓reduceIte, Nat.reduceEqDiff]))
  refine run_loop (standsR_loop _ hv ht l.length _ _ _ _ ⟨0, by omega, ?_, ?_, fun j hj => by omega, rfl, Ext.refl h, rfl⟩) ?_
  · simp only [go_sem, ↓reduceIte, Int.reduceAdd, Int.reduceEq, Int.reduceLE, Int.reduceLT, Int.reduceMul, Int.reduceNeg, Int.reduceSub, Int.reduceToNat, Nat.reduceAdd, Nat.reduceBEq, Nat.reduceEqDiff, Nat.reduceLT, Nat.reduceLeDiff, Nat.reduceMul, Nat.reduceSub, argR]
  · (simp only [go_sem, ↓reduceIte, Int.reduceAdd, Int.reduceEq, Int.reduceLE, Int.reduceLT, Int.reduceMul, Int.reduceNeg, Int.reduceSub, Int.reduceToNat, Nat.reduceAdd, Nat.reduceBEq, Nat.reduceEqDiff, Nat.reduceLT, Nat.reduceLeDiff, Nat.reduceMul, Nat.reduceSub]) <;> rfl
  · rintro ex ρ' ms' h1 d1 ⟨⟨rfl, hst⟩ | ⟨rfl, i, hst, k2, k3⟩, rfl, hex, rfl⟩
    · repeat (first | apply run_seq | apply run_block | apply end_seq | apply end_blk_hit | apply end_blk_miss rfl | apply end_blk | apply end_seq_exit | apply end_seq_ret | apply end_blk_ret | apply run_skip | apply run_ret | apply run_exit | (apply run_region (by decide); (simp only [go_sem, ↓reduceIte, Int.reduceAdd, Int.reduceEq, Int.reduceLE, Int.reduceLT, Int.reduceMul, Int.reduceNeg, Int.reduceSub, Int.reduceToNat, Nat.reduceAdd, Nat.reduceBEq, Nat.reduceEqDiff, Nat.reduceLT, Nat.reduceLeDiff, Nat.reduceMul, Nat.reduceSub]; rfl)) | (refine run_cond_t ?_ ?_; · simp only [go_sem, ↓reduceIte, Nat.reduceEqDiff]) | (refine run_cond_f ?_ ?_; · simp only [go_sem, ↓reduceIte, Nat.reduceEqDiff]))
      rw [hst]
      exact end_nil (q_ret2 _ _ (by (simp only [go_sem, ↓reduceIte, Int.reduceAdd, Int.reduceEq, Int.reduceLE, Int.reduceLT, Int.reduceMul, Int.reduceNeg, Int.reduceSub, Int.reduceToNat, Nat.reduceAdd, Nat.reduceBEq, Nat.reduceEqDiff, Nat.reduceLT, Nat.reduceLeDiff, Nat.reduceMul, Nat.reduceSub]) <;> rfl) (by (simp only [go_sem, ↓reduceIte, Int.reduceAdd, Int.reduceEq, Int.reduceLE, Int.reduceLT, Int.reduceMul, Int.reduceNeg, Int.reduceSub, Int.reduceToNat, Nat.reduceAdd, Nat.reduceBEq, Nat.reduceEqDiff, Nat.reduceLT, Nat.reduceLeDiff, Nat.reduceMul, Nat.reduceSub]) <;> rfl) rfl rfl hex.take)
    · repeat (first | apply run_seq | apply run_block | apply end_seq | apply end_blk_hit | apply end_blk_miss rfl | apply end_blk | apply end_seq_exit | apply end_seq_ret | apply end_blk_ret | apply run_skip | apply run_ret | apply run_exit | (apply run_region (by decide); (simp only [go_sem, ↓reduceIte, Int.reduceAdd, Int.reduceEq, Int.reduceLE, Int.reduceLT, Int.reduceMul, Int.reduceNeg, Int.reduceSub, Int.reduceToNat, Nat.reduceAdd, Nat.reduceBEq, Nat.reduceEqDiff, Nat.reduceLT, Nat.reduceLeDiff, Nat.reduceMul, Nat.reduceSub]; rfl)) | (refine run_cond_t ?_ ?_; · simp only [go_sem, ↓reduceIte, Nat.reduceEqDiff]) | (refine run_cond_f ?_ ?_; · simp only [go_sem, ↓reduceIte, Nat.reduceEqDiff]))
      rw [hst]
      exact end_nil (q_ret2 _ _ k2 k3 rfl rfl hex.take)

/-! ### planks -/
def plk (p : Int × Int) : Int × Int := (IntKind.i64.wrap (IntKind.i64.wrap ((IntKind.u64.wrap p.1).tmod 2001) - 1000), IntKind.i64.wrap (1 + IntKind.i64.wrap ((IntKind.u64.wrap p.2).tmod 100)))
def plks (l : List (Int × Int)) : List (Int × Int) := if l = [] then [(-2, 4)] else (l.take 12).map plk
theorem u64_mod (n : Int) (m : Int) (hm : 0 < m) (hm2 : m ≤ 1000000) : 0 ≤ (IntKind.u64.wrap n).tmod m ∧ (IntKind.u64.wrap n).tmod m < m := by
  have h1 : IntKind.u64.wrap n = n % 18446744073709551616 := by simp [IntKind.wrap, IntKind.signed, IntKind.bits]
  have h2 : 0 ≤ n % 18446744073709551616 := by omega
  rw [h1]
  refine ⟨Int.tmod_nonneg _ h2, ?_⟩
  rw [Int.tmod_eq_emod_of_nonneg h2]
  exact Int.emod_lt_of_pos _ hm
theorem plk_ok (p : Int × Int) : okP (plk p) = true := by
  have h1 := u64_mod p.1 2001 (by decide) (by decide)
  have h2 := u64_mod p.2 100 (by decide) (by decide)
  have e1 : (plk p).1 = (IntKind.u64.wrap p.1).tmod 2001 - 1000 := by
    show IntKind.i64.wrap (IntKind.i64.wrap ((IntKind.u64.wrap p.1).tmod 2001) - 1000) = _
    rw [wrap64 (x := (IntKind.u64.wrap p.1).tmod 2001) (by omega) (by omega), wrap64 (by omega) (by omega)]
  have e2 : (plk p).2 = 1 + (IntKind.u64.wrap p.2).tmod 100 := by
    show IntKind.i64.wrap (1 + IntKind.i64.wrap ((IntKind.u64.wrap p.2).tmod 100)) = _
    rw [wrap64 (x := (IntKind.u64.wrap p.2).tmod 100) (by omega) (by omega), wrap64 (by omega) (by omega)]
  exact decide_eq_true (by rw [e1, e2]; omega)
theorem plks_tower (l : List (Int × Int)) : towerB (plks l) = true := by
  unfold plks
  split
  · decide
  · rename_i hl
    have hpos : 0 < l.length := List.length_pos_iff.2 hl
    simp only [towerB, Bool.and_eq_true, decide_eq_true_eq, List.length_map, List.length_take]
    refine ⟨⟨?_, by omega⟩, by omega⟩
    rw [List.all_eq_true]
    intro x hx
    obtain ⟨q, _, rfl⟩ := List.mem_map.1 hx
    exact plk_ok q

theorem rep1 : List.replicate 1 SO.gone = [SO.gone] := rfl
theorem new_some (h : SHeap) (b : Nat) (cs : List Value) (el : TypeId) (pf : Bool) : newS h (some b) cs el pf = if (!pf || cs.all sc) = true then (match h[b]? with
    | some .gone => some (b, h.set b (.cells cs el pf 0 []))
    | _ => none) else none := (rfl)

theorem planks_loop (cx : Cx) {h : SHeap} {v : Value} {l : List (Int × Int)} (hv : ArgS h v l) : ∀ k ρ ms h' d', (∃ (i : Nat) (v3 : Value), i + k = min l.length 12 ∧ ρ 0 = v ∧ ρ 3 = v3 ∧ ρ 4 = .int .i64 i ∧ Acc h.length h' v3 (prs ((l.take i).map plk)) i 2 53 ∧ h.length ≤ h'.length ∧ (∀ j, j < h.length → h'[j]? = h[j]?) ∧ ms = [] ∧ d' = []) →
    LoopW M cx 6 sf50L0 ρ ms h' d' (fun ex ρ' ms' h' d' => ex = .exit 0 ∧ ∃ v3 : Value, ρ' 3 = v3 ∧ Acc h.length h' v3 (prs ((l.take 12).map plk)) (min l.length 12) 2 53 ∧ h.length ≤ h'.length ∧ (∀ j, j < h.length → h'[j]? = h[j]?) ∧ ms' = [] ∧ d' = []) := by
  obtain ⟨a, c, rfl, k1, k2, kv⟩ := hv
  refine loop_run _ ?_
  rintro k ρ ms h' d' ⟨i, v3, hi, h0, h3, h4, acc, hle, hsame, rfl, rfl⟩
  unfold sf50L0
  by_cases hk : k = 0
  · have ei : i = min l.length 12 := by omega
    have et : l.take i = l.take 12 := by
      rw [ei, Nat.min_comm, ← List.take_eq_take_min]
    rw [et, ei] at acc
    by_cases c1 : (i : Int) < l.length
    · have c2 : ¬ ((i : Int) < 12) := by omega
      repeat (first | apply run_seq | apply run_block | apply end_seq | apply end_blk_hit | apply end_blk_miss rfl | apply end_blk | apply end_seq_exit | apply end_seq_ret | apply end_blk_ret | apply run_skip | apply run_ret | apply run_exit | (apply run_region (by decide); (simp only [go_sem, ↓reduceIte, Int.reduceAdd, Int.reduceEq, Int.reduceLE, Int.reduceLT, Int.reduceMul, Int.reduceNeg, Int.reduceSub, Int.reduceToNat, Nat.reduceAdd, Nat.reduceBEq, Nat.reduceEqDiff, Nat.reduceLT, Nat.reduceLeDiff, Nat.reduceMul, Nat.reduceSub, h0, h3, h4, c1, c2]; rfl)) | (refine run_cond_t ?_ ?_; · simp only [go_sem, ↓reduceIte, Nat.reduceEqDiff]) | (refine run_cond_f ?_ ?_; · simp only [go_sem, ↓reduceIte, Nat.reduceEqDiff]))
      refine end_nil ⟨rfl, v3, ?_, acc, hle, hsame, rfl, rfl⟩
      simp only [go_sem, ↓reduceIte, Int.reduceAdd, Int.reduceEq, Int.reduceLE, Int.reduceLT, Int.reduceMul, Int.reduceNeg, Int.reduceSub, Int.reduceToNat, Nat.reduceAdd, Nat.reduceBEq, Nat.reduceEqDiff, Nat.reduceLT, Nat.reduceLeDiff, Nat.reduceMul, Nat.reduceSub, h3]
    · repeat (first | apply run_seq | apply run_block | apply end_seq | apply end_blk_hit | apply end_blk_miss rfl | apply end_blk | apply end_seq_exit | apply end_seq_ret | apply end_blk_ret | apply run_skip | apply run_ret | apply run_exit | (apply run_region (by decide); (simp only [go_sem, ↓reduceIte, Int.reduceAdd, Int.reduceEq, Int.reduceLE, Int.reduceLT, Int.reduceMul, Int.reduceNeg, Int.reduceSub, Int.reduceToNat, Nat.reduceAdd, Nat.reduceBEq, Nat.reduceEqDiff, Nat.reduceLT, Nat.reduceLeDiff, Nat.reduceMul, Nat.reduceSub, h0, h3, h4, c1]; rfl)) | (refine run_cond_t ?_ ?_; · simp only [go_sem, ↓reduceIte, Nat.reduceEqDiff]) | (refine run_cond_f ?_ ?_; · simp only [go_sem, ↓reduceIte, Nat.reduceEqDiff]))
      refine end_nil ⟨rfl, v3, ?_, acc, hle, hsame, rfl, rfl⟩
      simp only [go_sem, ↓reduceIte, Int.reduceAdd, Int.reduceEq, Int.reduceLE, Int.reduceLT, Int.reduceMul, Int.reduceNeg, Int.reduceSub, Int.reduceToNat, Nat.reduceAdd, Nat.reduceBEq, Nat.reduceEqDiff, Nat.reduceLT, Nat.reduceLeDiff, Nat.reduceMul, Nat.reduceSub, h3]
  · have c1 : (i : Int) < l.length := by omega
    have c2 : (i : Int) < 12 := by omega
    have hil : i < l.length := by omega
    have e2 : (0 : Int) ≤ i := by omega
    have ew : IntKind.i64.wrap ((i : Int) + 1) = ((i + 1 : Nat) : Int) := by rw [wrap64 (by omega) (by omega)]; rfl
    obtain ⟨b, o, rfl, hpp⟩ : ∃ b o, a = some ⟨b, o, none⟩ ∧ Prs h b o l := by
      rcases kv with ⟨_, rfl⟩ | ⟨b, o, e, p⟩
      · simp at hil
      · exact ⟨b, o, e, p (by intro e; rw [e] at hil; simp at hil)⟩
    have hp' : Prs h' b o l := hpp.same (hsame b hpp.lt)
    have hp1 := hp'.app [SO.gone]
    have l1 := hp1.load1 hil
    have l2 := hp1.load2 hil
    have hmt : (l.take (i + 1)).map plk = (l.take i).map plk ++ [plk l[i]] := by
      rw [List.take_add_one, List.getElem?_eq_getElem hil]
      simp only [Option.toList_some, List.map_append, List.map_cons, List.map_nil]
    generalize hq : l[i] = q at *
    obtain ⟨x, y⟩ := q
    dsimp only at l1 l2
    generalize hX : IntKind.i64.wrap (IntKind.i64.wrap ((IntKind.u64.wrap x).tmod 2001) - 1000) = X at *
    generalize hY : IntKind.i64.wrap (1 + IntKind.i64.wrap ((IntKind.u64.wrap y).tmod 100)) = Y at *
    have hpk : plk (x, y) = (X, Y) := by rw [← hX, ← hY]; rfl
    have acc' : Acc h.length (h' ++ [SO.cells [.int .i64 X, .int .i64 Y] 53 true 0 []]) v3 (prs ((l.take i).map plk)) i 2 53 :=
      acc.keep (fun b e => by rw [List.getElem?_append_left (acc.lt e).2])
    obtain ⟨old, ap, acc2, kp⟩ := acc_append (bytes := 16) acc' (bs := h'.length) (el2 := 53) (pf2 := true) (own2 := 0) (old2 := []) (new := [.int .i64 X, .int .i64 Y]) (by rw [app_get0]; rfl) rfl rfl (by decide) rfl (by decide) (by omega) (by simp; omega)
    have ap' := fun base d => ap base d
    have hsrc : (h' ++ [SO.cells [.int .i64 X, .int .i64 Y] 53 true 0 []]).length = h'.length + 1 := by simp
    rw [hsrc] at acc2 kp
    repeat (first | apply run_seq | apply run_block | apply end_seq | apply end_blk_hit | apply end_blk_miss rfl | apply end_blk | apply end_seq_exit | apply end_seq_ret | apply end_blk_ret | apply run_skip | apply run_ret | apply run_exit | (apply run_region (by decide); (simp only [go_sem, ↓reduceIte, Int.reduceAdd, Int.reduceEq, Int.reduceLE, Int.reduceLT, Int.reduceMul, Int.reduceNeg, Int.reduceSub, Int.reduceToNat, Nat.reduceAdd, Nat.reduceBEq, Nat.reduceEqDiff, Nat.reduceLT, Nat.reduceLeDiff, Nat.reduceMul, Nat.reduceSub, h0, h3, h4, c1, c2, Int.toNat_natCast]; rfl)) | (refine run_cond_t ?_ ?_; · simp only [go_sem, ↓reduceIte, Nat.reduceEqDiff]) | (refine run_cond_f ?_ ?_; · simp only [go_sem, ↓reduceIte, Nat.reduceEqDiff]))
    apply run_regionN (by decide)
    · simp only [go_sem, ↓reduceIte, Int.reduceAdd, Int.reduceEq, Int.reduceLE, Int.reduceLT, Int.reduceMul, Int.reduceNeg, Int.reduceSub, Int.reduceToNat, Nat.reduceAdd, Nat.reduceBEq, Nat.reduceEqDiff, Nat.reduceLT, Nat.reduceLeDiff, Nat.reduceMul, Nat.reduceSub, h0, h3, h4, c1, e2, l1, l2, hX, hY, rep1, new_some, ap', Int.toNat_natCast]
      rfl
    have hl2 : (shv (h' ++ [SO.cells [.int .i64 X, .int .i64 Y] 53 true 0 []]) v3 ++ [SO.cells (prs ((l.take i).map plk) ++ [.int .i64 X, .int .i64 Y]) 53 true 0 old]).length = h'.length + 2 := by simp [shv_len]
    have k2' : ∀ j, j < h.length → (shv (h' ++ [SO.cells [.int .i64 X, .int .i64 Y] 53 true 0 []]) v3 ++ [SO.cells (prs ((l.take i).map plk) ++ [.int .i64 X, .int .i64 Y]) 53 true 0 old])[j]? = h[j]? := by
      intro j hj
      rw [kp j (by omega) (fun b e => by have := acc.lt e; omega), List.getElem?_append_left (by omega)]
      exact hsame j hj
    have hprs : prs ((l.take (i + 1)).map plk) = prs ((l.take i).map plk) ++ [.int .i64 X, .int .i64 Y] := by
      rw [hmt, prs_app, hpk]; rfl
    generalize shv (h' ++ [SO.cells [.int .i64 X, .int .i64 Y] 53 true 0 []]) v3 ++ [SO.cells (prs ((l.take i).map plk) ++ [.int .i64 X, .int .i64 Y]) 53 true 0 old] = h2 at acc2 k2' hl2 ⊢
    repeat (first | apply run_seq | apply run_block | apply end_seq | apply end_blk_hit | apply end_blk_miss rfl | apply end_blk | apply end_seq_exit | apply end_seq_ret | apply end_blk_ret | apply run_skip | apply run_ret | apply run_exit | (apply run_region (by decide); (simp only [go_sem, ↓reduceIte, Int.reduceAdd, Int.reduceEq, Int.reduceLE, Int.reduceLT, Int.reduceMul, Int.reduceNeg, Int.reduceSub, Int.reduceToNat, Nat.reduceAdd, Nat.reduceBEq, Nat.reduceEqDiff, Nat.reduceLT, Nat.reduceLeDiff, Nat.reduceMul, Nat.reduceSub, h4, ew]; rfl)) | (refine run_cond_t ?_ ?_; · simp only [go_sem, ↓reduceIte, Nat.reduceEqDiff]) | (refine run_cond_f ?_ ?_; · simp only [go_sem, ↓reduceIte, Nat.reduceEqDiff]))
    refine end_nil ⟨k - 1, by omega, i + 1, _, by omega, ?_, rfl, ?_, ?_, by omega, k2', rfl, rfl⟩
    · simp only [go_sem, ↓reduceIte, Int.reduceAdd, Int.reduceEq, Int.reduceLE, Int.reduceLT, Int.reduceMul, Int.reduceNeg, Int.reduceSub, Int.reduceToNat, Nat.reduceAdd, Nat.reduceBEq, Nat.reduceEqDiff, Nat.reduceLT, Nat.reduceLeDiff, Nat.reduceMul, Nat.reduceSub, h0]
    · simp only [go_sem, ↓reduceIte, Int.reduceAdd, Int.reduceEq, Int.reduceLE, Int.reduceLT, Int.reduceMul, Int.reduceNeg, Int.reduceSub, Int.reduceToNat, Nat.reduceAdd, Nat.reduceBEq, Nat.reduceEqDiff, Nat.reduceLT, Nat.reduceLeDiff, Nat.reduceMul, Nat.reduceSub, ew]
    · rw [hprs]
      simp only [go_sem, ↓reduceIte, Int.reduceAdd, Int.reduceEq, Int.reduceLE, Int.reduceLT, Int.reduceMul, Int.reduceNeg, Int.reduceSub, Int.reduceToNat, Nat.reduceAdd, Nat.reduceBEq, Nat.reduceEqDiff, Nat.reduceLT, Nat.reduceLeDiff, Nat.reduceMul, Nat.reduceSub]
      exact acc2
end Go.Proofs.Ytecncmmkghmojaa.Sh

/- HullStands on the shadow machine. -/
namespace Go.Proofs.Ytecncmmkghmojaa.Sh
open Go
set_option maxRecDepth 100000

theorem ext_of_same {h h' : SHeap} (hl : h.length ≤ h'.length) (k : ∀ j, j < h.length → h'[j]? = h[j]?) : Ext h h' := by
  have := take_of_same hl k
  exact ⟨h'.drop h.length, by conv => lhs; rw [← List.take_append_drop h.length h', this]⟩
theorem ren_none {base b : Nat} {old : List Nat} (h : ∀ c ∈ old, base ≤ c ∧ c < b) : old.filterMap (ren base [b]) = [] := by
  rw [List.filterMap_eq_nil_iff]
  intro c hc
  have := h c hc
  have e1 : Nat.ble base c = true := by rw [ble_dec]; simp; omega
  have e2 : Nat.beq b c = false := by rw [nbeq_dec]; simp; omega
  simp only [ren, e1, posOf, e2]
  rfl

/-- planks -/
theorem planks50 {h : SHeap} {v : Value} {l : List (Int × Int)} (hv : ArgS h v l) : ∃ c, M.call 50 [v] h = some (.slice (some ⟨h.length, 0, none⟩) (plks l).length c, h ++ [.cells (prs (plks l)) 53 true 0 []], []) ∧ (c = UNK + 2 ∨ (c < UNK ∧ (plks l).length ≤ c)) := by
  by_cases hl : l = []
  · subst hl
    refine ⟨1, ?_, .inr ⟨by decide, by decide⟩⟩
    refine call_run sf50 rfl rfl rfl ?_
    unfold sf50
    repeat (first | apply run_seq | apply run_block | apply end_seq | apply end_blk_hit | apply end_blk_miss rfl | apply end_blk | apply end_seq_exit | apply end_seq_ret | apply end_blk_ret | apply run_skip | apply run_ret | apply run_exit | (apply run_region (by decide); (simp only [go_sem, ↓reduceIte, Int.reduceAdd, Int.reduceEq, Int.reduceLE, Int.reduceLT, Int.reduceMul, Int.reduceNeg, Int.reduceSub, Int.reduceToNat, Nat.reduceAdd, Nat.reduceBEq, Nat.reduceEqDiff, Nat.reduceLT, Nat.reduceLeDiff, Nat.reduceMul, Nat.reduceSub, argR]; rfl)) | (refine run_cond_t ?_ ?_; · simp only [go_sem, ↓reduceIte, Nat.reduceEqDiff]) | (refine run_cond_f ?_ ?_; · simp only [go_sem, ↓reduceIte, Nat.reduceEqDiff]))
    refine run_loop (planks_loop _ hv 0 _ _ _ _ ⟨0, .slice none 0 0, by simp, ?_, ?_, ?_, .inl ⟨rfl, rfl, rfl⟩, Nat.le_refl _, fun j hj => rfl, rfl, rfl⟩) ?_
    · simp only [go_sem, ↓reduceIte, Int.reduceAdd, Int.reduceEq, Int.reduceLE, Int.reduceLT, Int.reduceMul, Int.reduceNeg, Int.reduceSub, Int.reduceToNat, Nat.reduceAdd, Nat.reduceBEq, Nat.reduceEqDiff, Nat.reduceLT, Nat.reduceLeDiff, Nat.reduceMul, Nat.reduceSub, argR]
    · simp only [go_sem, ↓reduceIte, Int.reduceAdd, Int.reduceEq, Int.reduceLE, Int.reduceLT, Int.reduceMul, Int.reduceNeg, Int.reduceSub, Int.reduceToNat, Nat.reduceAdd, Nat.reduceBEq, Nat.reduceEqDiff, Nat.reduceLT, Nat.reduceLeDiff, Nat.reduceMul, Nat.reduceSub]
    · (simp only [go_sem, ↓reduceIte, Int.reduceAdd, Int.reduceEq, Int.reduceLE, Int.reduceLT, Int.reduceMul, Int.reduceNeg, Int.reduceSub, Int.reduceToNat, Nat.reduceAdd, Nat.reduceBEq, Nat.reduceEqDiff, Nat.reduceLT, Nat.reduceLeDiff, Nat.reduceMul, Nat.reduceSub]) <;> rfl
    · rintro ex ρ' ms' h1 d1 ⟨rfl, v3, k3, acc, hle, hsame, rfl, rfl⟩
      have hv3 : v3 = .slice none 0 0 := by
        rcases acc with ⟨_, e, _⟩ | ⟨b, old, _, _, _, h0, _⟩
        · exact e
        · exact (h0 (by simp)).elim
      rw [hv3] at k3
      obtain ⟨g, rfl⟩ := ext_of_same hle hsame
      repeat (first | apply run_seq | apply run_block | apply end_seq | apply end_blk_hit | apply end_blk_miss rfl | apply end_blk | apply end_seq_exit | apply end_seq_ret | apply end_blk_ret | apply run_skip | apply run_ret | apply run_exit | (apply run_region (by decide); (simp only [go_sem, ↓reduceIte, Int.reduceAdd, Int.reduceEq, Int.reduceLE, Int.reduceLT, Int.reduceMul, Int.reduceNeg, Int.reduceSub, Int.reduceToNat, Nat.reduceAdd, Nat.reduceBEq, Nat.reduceEqDiff, Nat.reduceLT, Nat.reduceLeDiff, Nat.reduceMul, Nat.reduceSub, k3]; rfl)) | (refine run_cond_t ?_ ?_; · simp only [go_sem, ↓reduceIte, Nat.reduceEqDiff]) | (refine run_cond_f ?_ ?_; · simp only [go_sem, ↓reduceIte, Nat.reduceEqDiff]))
      refine end_nil (q_gc1 (a := some ⟨h.length + g.length, 0, none⟩) (n := 1) (c := 1) ?_ ?_)
      · (simp only [go_sem, ↓reduceIte, Int.reduceAdd, Int.reduceEq, Int.reduceLE, Int.reduceLT, Int.reduceMul, Int.reduceNeg, Int.reduceSub, Int.reduceToNat, Nat.reduceAdd, Nat.reduceBEq, Nat.reduceEqDiff, Nat.reduceLT, Nat.reduceLeDiff, Nat.reduceMul, Nat.reduceSub]) <;> rfl
      · have := gc_block (h := h) (g := g ++ [.cells [.int .i64 (-2), .int .i64 4] 53 true 0 []]) (j := g.length) (n := 1) (c := 1) (o := 0) (own := 0) (old := []) (cs := [.int .i64 (-2), .int .i64 4]) (el := 53) (by simp) rfl
        exact this
  · have hpos : 0 < l.length := List.length_pos_iff.2 hl
    have hpl : plks l = (l.take 12).map plk := by rw [plks, if_neg hl]
    have hlen : (plks l).length = min l.length 12 := by rw [hpl]; simp [Nat.min_comm]
    refine ⟨UNK + 2, ?_, .inl rfl⟩
    refine call_run sf50 rfl rfl rfl ?_
    unfold sf50
    repeat (first | apply run_seq | apply run_block | apply end_seq | apply end_blk_hit | apply end_blk_miss rfl | apply end_blk | apply end_seq_exit | apply end_seq_ret | apply end_blk_ret | apply run_skip | apply run_ret | apply run_exit | (apply run_region (by decide); (simp only [go_sem, ↓reduceIte, Int.reduceAdd, Int.reduceEq, Int.reduceLE, Int.reduceLT, Int.reduceMul, Int.reduceNeg, Int.reduceSub, Int.reduceToNat, Nat.reduceAdd, Nat.reduceBEq, Nat.reduceEqDiff, Nat.reduceLT, Nat.reduceLeDiff, Nat.reduceMul, Nat.reduceSub, argR]; rfl)) | (refine run_cond_t ?_ ?_; · simp only [go_sem, ↓reduceIte, Nat.reduceEqDiff]) | (refine run_cond_f ?_ ?_; · simp only [go_sem, ↓reduceIte, Nat.reduceEqDiff]))
    refine run_loop (planks_loop _ hv (min l.length 12) _ _ _ _ ⟨0, .slice none 0 0, by omega, ?_, ?_, ?_, .inl ⟨rfl, rfl, rfl⟩, Nat.le_refl _, fun j hj => rfl, rfl, rfl⟩) ?_
    · simp only [go_sem, ↓reduceIte, Int.reduceAdd, Int.reduceEq, Int.reduceLE, Int.reduceLT, Int.reduceMul, Int.reduceNeg, Int.reduceSub, Int.reduceToNat, Nat.reduceAdd, Nat.reduceBEq, Nat.reduceEqDiff, Nat.reduceLT, Nat.reduceLeDiff, Nat.reduceMul, Nat.reduceSub, argR]
    · simp only [go_sem, ↓reduceIte, Int.reduceAdd, Int.reduceEq, Int.reduceLE, Int.reduceLT, Int.reduceMul, Int.reduceNeg, Int.reduceSub, Int.reduceToNat, Nat.reduceAdd, Nat.reduceBEq, Nat.reduceEqDiff, Nat.reduceLT, Nat.reduceLeDiff, Nat.reduceMul, Nat.reduceSub]
    · (simp only [go_sem, ↓reduceIte, Int.reduceAdd, Int.reduceEq, Int.reduceLE, Int.reduceLT, Int.reduceMul, Int.reduceNeg, Int.reduceSub, Int.reduceToNat, Nat.reduceAdd, Nat.reduceBEq, Nat.reduceEqDiff, Nat.reduceLT, Nat.reduceLeDiff, Nat.reduceMul, Nat.reduceSub]) <;> rfl
    · rintro ex ρ' ms' h1 d1 ⟨rfl, v3, k3, acc, hle, hsame, rfl, rfl⟩
      rcases acc with ⟨e0, _⟩ | ⟨b, old, rfl, hb, hcl, hn, hlo, hsc, hold⟩
      · omega
      · have hz : ¬ (((min l.length 12 : Nat) : Int) = 0) := by omega
        obtain ⟨g, rfl⟩ := ext_of_same hle hsame
        obtain ⟨j, rfl⟩ : ∃ j, b = h.length + j := ⟨b - h.length, by omega⟩
        rw [app_get] at hb
        generalize min l.length 12 = n at *
        repeat (first | apply run_seq | apply run_block | apply end_seq | apply end_blk_hit | apply end_blk_miss rfl | apply end_blk | apply end_seq_exit | apply end_seq_ret | apply end_blk_ret | apply run_skip | apply run_ret | apply run_exit | (apply run_region (by decide); (simp only [go_sem, ↓reduceIte, Int.reduceAdd, Int.reduceEq, Int.reduceLE, Int.reduceLT, Int.reduceMul, Int.reduceNeg, Int.reduceSub, Int.reduceToNat, Nat.reduceAdd, Nat.reduceBEq, Nat.reduceEqDiff, Nat.reduceLT, Nat.reduceLeDiff, Nat.reduceMul, Nat.reduceSub, k3, hz]; rfl)) | (refine run_cond_t ?_ ?_; · simp only [go_sem, ↓reduceIte, Nat.reduceEqDiff]) | (refine run_cond_f ?_ ?_; · simp only [go_sem, ↓reduceIte, Nat.reduceEqDiff]))
        refine end_nil (q_gc1 (a := some ⟨h.length + j, 0, none⟩) (n := n) (c := UNK + 2) (by (simp only [go_sem, ↓reduceIte, Int.reduceAdd, Int.reduceEq, Int.reduceLE, Int.reduceLT, Int.reduceMul, Int.reduceNeg, Int.reduceSub, Int.reduceToNat, Nat.reduceAdd, Nat.reduceBEq, Nat.reduceEqDiff, Nat.reduceLT, Nat.reduceLeDiff, Nat.reduceMul, Nat.reduceSub, k3]) <;> rfl) ?_)
        have := gc_block (h := h) (g := g) (j := j) (n := n) (c := UNK + 2) (o := 0) (own := 0) (old := old) hb rfl
        rw [ren_none hold] at this
        rw [this, hlen, hpl]

/-! ### the statement's second tower -/
def nextP (y : List (Int × Int)) (i : Nat) : Int × Int :=
  ((if i = 0 then - (y.getD 0 (0, 0)).2 else (y.getD (i - 1) (0, 0)).1) + ((y.getD i (0, 0)).1).tmod 5, (y.getD i (0, 0)).2)
/-- how far the change of a tower has come -/
def Mid (n : Nat) (y : List (Int × Int)) (i : Nat) : Prop := y.length = n ∧ y.all okP = true ∧ ∀ j, j < i → (y.getD j (0, 0)).1.natAbs ≤ 104 + 4 * j

theorem prs_set : ∀ (y : List (Int × Int)) (i : Nat) (p : Int × Int), i < y.length → prs (y.set i p) = ((prs y).set (2 * i) (.int .i64 p.1)).set (2 * i + 1) (.int .i64 p.2)
  | q :: y, 0, p, _ => rfl
  | q :: y, i + 1, p, h => by
    rw [List.set_cons_succ, show 2 * (i + 1) = 2 * i + 1 + 1 by omega]
    simp only [prs, List.set_cons_succ]
    rw [prs_set y i p (by simpa using h)]

theorem getD_of {y : List (Int × Int)} {i : Nat} (h : i < y.length) : y.getD i (0, 0) = y[i] := by rw [List.getD_eq_getElem?_getD, List.getElem?_eq_getElem h]; rfl
theorem tmod5 (a : Int) : (a.tmod 5).natAbs ≤ 4 := by
  have := tmod_lt a 5 (by decide)
  have e : (5 : Int).natAbs = 5 := rfl
  omega

theorem mid_next {n : Nat} {y : List (Int × Int)} {i : Nat} (hm : Mid n y i) (hn : n ≤ 12) (hi : i < n) : (nextP y i).1.natAbs ≤ 104 + 4 * i ∧ (nextP y i).2 = (y.getD i (0, 0)).2 ∧ Mid n (y.set i (nextP y i)) (i + 1) := by
  obtain ⟨hl, hok, hb⟩ := hm
  have hg : ∀ j, j < n → okP (y.getD j (0, 0)) = true := by
    intro j hj
    rw [getD_of (by omega)]
    exact List.all_eq_true.1 hok _ (List.getElem_mem _)
  have h5 := tmod5 (y.getD i (0, 0)).1
  have ri := okP_ranges (hg i hi)
  have h1 : (nextP y i).1.natAbs ≤ 104 + 4 * i := by
    unfold nextP
    dsimp only
    by_cases e : i = 0
    · subst e
      rw [if_pos rfl]
      omega
    · rw [if_neg e]
      have := hb (i - 1) (by omega)
      omega
  have h2 : (nextP y i).2 = (y.getD i (0, 0)).2 := rfl
  refine ⟨h1, h2, by simpa using hl, ?_, ?_⟩
  · rw [List.all_eq_true]
    intro x hx
    rcases List.mem_or_eq_of_mem_set hx with hx | rfl
    · exact List.all_eq_true.1 hok x hx
    · simp only [okP, decide_eq_true_eq]
      rw [h2]
      omega
  · intro j hj
    by_cases e : j = i
    · subst e
      rw [getD_of (by simp; omega), List.getElem_set_self]
      exact h1
    · have h3 : (y.set i (nextP y i)).getD j (0, 0) = y.getD j (0, 0) := by
        rw [List.getD_eq_getElem?_getD, List.getD_eq_getElem?_getD, List.getElem?_set_ne (by omega)]
      rw [h3]
      exact hb j (by omega)
end Go.Proofs.Ytecncmmkghmojaa.Sh

/- HullStands on the shadow machine. -/
namespace Go.Proofs.Ytecncmmkghmojaa.Sh
open Go
set_option maxRecDepth 100000

/-- the block in which the tower lies, and what lay there before -/
def HT (h h' : SHeap) (y : List (Int × Int)) : Prop := h.length < h'.length ∧ h'[h.length]? = some (.cells (prs y) 53 true 0 []) ∧ ∀ j, j < h.length → h'[j]? = h[j]?
theorem HT.app {h h' : SHeap} {y : List (Int × Int)} (k : HT h h' y) (g : List SO) : HT h (h' ++ g) y := by
  obtain ⟨h1, h2, h3⟩ := k
  refine ⟨by simp; omega, by rw [List.getElem?_append_left h1]; exact h2, fun j hj => by rw [List.getElem?_append_left (by omega)]; exact h3 j hj⟩
theorem HT.take {h h' : SHeap} {y : List (Int × Int)} (k : HT h h' y) : h'.take h.length = h := take_of_same (Nat.le_of_lt k.1) k.2.2

theorem mod_loop (cx : Cx) (h : SHeap) (n c : Nat) (pl : Int) (rd : Value) (hn1 : 1 ≤ n) (hn : n ≤ 12) (hc : c = UNK + 2 ∨ (c < UNK ∧ n ≤ c)) : ∀ k ρ ms h' d', (∃ (i : Nat) (y : List (Int × Int)), i + k = n ∧ Mid n y i ∧ ρ 1 = .int .i64 pl ∧ ρ 5 = .slice (some ⟨h.length, 0, none⟩) n c ∧ ρ 6 = rd ∧ ρ 17 = .int .i64 i ∧ HT h h' y ∧ ms = [] ∧ d' = []) →
    LoopW M cx 7 sf11L0 ρ ms h' d' (fun ex ρ' ms' h' d' => ex = .exit 2 ∧ ∃ y, Mid n y n ∧ ρ' 1 = .int .i64 pl ∧ ρ' 5 = .slice (some ⟨h.length, 0, none⟩) n c ∧ ρ' 6 = rd ∧ HT h h' y ∧ ms' = [] ∧ d' = []) := by
  refine loop_run _ ?_
  rintro k ρ ms h' d' ⟨i, y, hi, hm, h1, h5, h6, h17, hT, rfl, rfl⟩
  unfold sf11L0
  by_cases hk : k = 0
  · have e1 : ¬ ((i : Int) < n) := by omega
    have ei : i = n := by omega
    subst ei
    repeat (first | apply run_seq | apply run_block | apply end_seq | apply end_blk_hit | apply end_blk_miss rfl | apply end_blk | apply end_seq_exit | apply end_seq_ret | apply end_blk_ret | apply run_skip | apply run_ret | apply run_exit | (apply run_region (by decide); (simp only [go_sem, ↓reduceIte, Int.reduceAdd, Int.reduceEq, Int.reduceLE, Int.reduceLT, Int.reduceMul, Int.reduceNeg, Int.reduceSub, Int.reduceToNat, Nat.reduceAdd, Nat.reduceBEq, Nat.reduceEqDiff, Nat.reduceLT, Nat.reduceLeDiff, Nat.reduceMul, Nat.reduceSub, h1, h5, h6, h17, e1]; rfl)) | (refine run_cond_t ?_ ?_; · simp only [go_sem, ↓reduceIte, Nat.reduceEqDiff]) | (refine run_cond_f ?_ ?_; · simp only [go_sem, ↓reduceIte, Nat.reduceEqDiff]))
    refine end_nil ⟨rfl, y, hm, ?_, ?_, ?_, hT, rfl, rfl⟩
    · simp only [go_sem, ↓reduceIte, Int.reduceAdd, Int.reduceEq, Int.reduceLE, Int.reduceLT, Int.reduceMul, Int.reduceNeg, Int.reduceSub, Int.reduceToNat, Nat.reduceAdd, Nat.reduceBEq, Nat.reduceEqDiff, Nat.reduceLT, Nat.reduceLeDiff, Nat.reduceMul, Nat.reduceSub, h1]
    · simp only [go_sem, ↓reduceIte, Int.reduceAdd, Int.reduceEq, Int.reduceLE, Int.reduceLT, Int.reduceMul, Int.reduceNeg, Int.reduceSub, Int.reduceToNat, Nat.reduceAdd, Nat.reduceBEq, Nat.reduceEqDiff, Nat.reduceLT, Nat.reduceLeDiff, Nat.reduceMul, Nat.reduceSub, h5]
    · simp only [go_sem, ↓reduceIte, Int.reduceAdd, Int.reduceEq, Int.reduceLE, Int.reduceLT, Int.reduceMul, Int.reduceNeg, Int.reduceSub, Int.reduceToNat, Nat.reduceAdd, Nat.reduceBEq, Nat.reduceEqDiff, Nat.reduceLT, Nat.reduceLeDiff, Nat.reduceMul, Nat.reduceSub, h6]
  · have hin : i < n := by omega
    have e1 : (i : Int) < n := by omega
    have e2 : (0 : Int) ≤ i := by omega
    have ew : IntKind.i64.wrap ((i : Int) + 1) = ((i + 1 : Nat) : Int) := by rw [wrap64 (by omega) (by omega)]; rfl
    obtain ⟨nx1, nx2, hmid⟩ := mid_next hm hn hin
    have hl : y.length = n := hm.1
    obtain ⟨t1, t2, t3⟩ := hT
    have hp : Prs h' h.length 0 y := Prs.mk0 t2 rfl
    have hi' : i < y.length := by omega
    have h0' : 0 < y.length := by omega
    have li1 := hp.load1 hi'
    have li2 := hp.load2 hi'
    have l02 := hp.load2 h0'
    rw [Nat.zero_add] at li1 li2
    rw [Nat.zero_mul, Nat.zero_add] at l02
    have rg0 := okP_ranges (List.all_eq_true.1 hm.2.1 y[0] (List.getElem_mem h0'))
    have rgi := okP_ranges (List.all_eq_true.1 hm.2.1 y[i] (List.getElem_mem hi'))
    have h50 : (0 : Int) < n := by omega
    have w0 : IntKind.i64.wrap (- y[0].2) = - y[0].2 := wrap64 (by omega) (by omega)
    have hbl : i * 2 + 2 ≤ (prs y).length := by rw [prs_len]; omega
    have g0 : y.getD 0 (0, 0) = y[0] := getD_of h0'
    have gi : y.getD i (0, 0) = y[i] := getD_of hi'
    have hset : ∀ (a b : Int), nextP y i = (a, b) → HT h (h'.set h.length (.cells (((prs y).set (i * 2) (.int .i64 a)).set (i * 2 + 1) (.int .i64 b)) 53 true 0 [])) (y.set i (nextP y i)) := by
      intro a b e
      refine ⟨by simpa using t1, ?_, ?_⟩
      · rw [List.getElem?_set_self t1, prs_set y i _ hi', e, Nat.mul_comm 2 i]
      · intro j hj
        rw [List.getElem?_set_ne (by omega)]
        exact t3 j hj
    cases i with
    | zero =>
      have h17' : ρ 17 = .int .i64 0 := h17
      have enx : nextP y 0 = (- y[0].2 + y[0].1.tmod 5, y[0].2) := by
        rw [nextP, if_pos rfl, g0]
      have w1 : IntKind.i64.wrap (- y[0].2 + y[0].1.tmod 5) = - y[0].2 + y[0].1.tmod 5 := by
        have := tmod5 y[0].1
        exact wrap64 (by omega) (by omega)
      have ht := hset _ _ enx
      rw [Nat.zero_mul] at li1 li2 hbl ht
      rw [Nat.zero_add] at li2 ht
      repeat (first | apply run_seq | apply run_block | apply end_seq | apply end_blk_hit | apply end_blk_miss rfl | apply end_blk | apply end_seq_exit | apply end_seq_ret | apply end_blk_ret | apply run_skip | apply run_ret | apply run_exit | (apply run_region (by decide); (simp only [go_sem, ↓reduceIte, Int.reduceAdd, Int.reduceEq, Int.reduceLE, Int.reduceLT, Int.reduceMul, Int.reduceNeg, Int.reduceSub, Int.reduceToNat, Nat.reduceAdd, Nat.reduceBEq, Nat.reduceEqDiff, Nat.reduceLT, Nat.reduceLeDiff, Nat.reduceMul, Nat.reduceSub, h1, h5, h6, h17', h50, li1, li2, l02, w0, w1, t2, hbl]; rfl)) | (refine run_cond_t ?_ ?_; · simp only [go_sem, ↓reduceIte, Nat.reduceEqDiff]) | (refine run_cond_f ?_ ?_; · simp only [go_sem, ↓reduceIte, Nat.reduceEqDiff]))
      refine end_nil ⟨k - 1, by omega, 1, y.set 0 (nextP y 0), by omega, hmid, ?_, ?_, ?_, ?_, ht, rfl, rfl⟩
      · simp only [go_sem, ↓reduceIte, Int.reduceAdd, Int.reduceEq, Int.reduceLE, Int.reduceLT, Int.reduceMul, Int.reduceNeg, Int.reduceSub, Int.reduceToNat, Nat.reduceAdd, Nat.reduceBEq, Nat.reduceEqDiff, Nat.reduceLT, Nat.reduceLeDiff, Nat.reduceMul, Nat.reduceSub, h1]
      · simp only [go_sem, ↓reduceIte, Int.reduceAdd, Int.reduceEq, Int.reduceLE, Int.reduceLT, Int.reduceMul, Int.reduceNeg, Int.reduceSub, Int.reduceToNat, Nat.reduceAdd, Nat.reduceBEq, Nat.reduceEqDiff, Nat.reduceLT, Nat.reduceLeDiff, Nat.reduceMul, Nat.reduceSub, h5]
      · simp only [go_sem, ↓reduceIte, Int.reduceAdd, Int.reduceEq, Int.reduceLE, Int.reduceLT, Int.reduceMul, Int.reduceNeg, Int.reduceSub, Int.reduceToNat, Nat.reduceAdd, Nat.reduceBEq, Nat.reduceEqDiff, Nat.reduceLT, Nat.reduceLeDiff, Nat.reduceMul, Nat.reduceSub, h6]
      · (simp only [go_sem, ↓reduceIte, Int.reduceAdd, Int.reduceEq, Int.reduceLE, Int.reduceLT, Int.reduceMul, Int.reduceNeg, Int.reduceSub, Int.reduceToNat, Nat.reduceAdd, Nat.reduceBEq, Nat.reduceEqDiff, Nat.reduceLT, Nat.reduceLeDiff, Nat.reduceMul, Nat.reduceSub]) <;> rfl
    | succ j =>
      have hj' : j < y.length := by omega
      have lj1 := hp.load1 hj'
      rw [Nat.zero_add] at lj1
      have gj : y.getD j (0, 0) = y[j] := getD_of hj'
      have rgj := okP_ranges (List.all_eq_true.1 hm.2.1 y[j] (List.getElem_mem hj'))
      have hjj : (0 : Int) < ((j + 1 : Nat) : Int) := by omega
      have hsub : IntKind.i64.wrap (((j + 1 : Nat) : Int) - 1) = (j : Int) := by rw [wrap64 (by omega) (by omega)]; omega
      have ej : (0 : Int) ≤ j := by omega
      have ejn : (j : Int) < n := by omega
      have enx : nextP y (j + 1) = (y[j].1 + y[j + 1].1.tmod 5, y[j + 1].2) := by
        rw [nextP, if_neg (by omega), gi, Nat.add_sub_cancel, gj]
      have w1 : IntKind.i64.wrap (y[j].1 + y[j + 1].1.tmod 5) = y[j].1 + y[j + 1].1.tmod 5 := by
        have := tmod5 y[j + 1].1
        exact wrap64 (by omega) (by omega)
      have ht := hset _ _ enx
      repeat (first | apply run_seq | apply run_block | apply end_seq | apply end_blk_hit | apply end_blk_miss rfl | apply end_blk | apply end_seq_exit | apply end_seq_ret | apply end_blk_ret | apply run_skip | apply run_ret | apply run_exit | (apply run_region (by decide); (simp only [go_sem, ↓reduceIte, Int.reduceAdd, Int.reduceEq, Int.reduceLE, Int.reduceLT, Int.reduceMul, Int.reduceNeg, Int.reduceSub, Int.reduceToNat, Nat.reduceAdd, Nat.reduceBEq, Nat.reduceEqDiff, Nat.reduceLT, Nat.reduceLeDiff, Nat.reduceMul, Nat.reduceSub, h1, h5, h6, h17, h50, e1, e2, hjj, hsub, ej, ejn, li1, li2, lj1, l02, w0, w1, t2, hbl, Int.toNat_natCast, ew]; rfl)) | (refine run_cond_t ?_ ?_; · simp only [go_sem, ↓reduceIte, Nat.reduceEqDiff]) | (refine run_cond_f ?_ ?_; · simp only [go_sem, ↓reduceIte, Nat.reduceEqDiff]))
      refine end_nil ⟨k - 1, by omega, j + 1 + 1, y.set (j + 1) (nextP y (j + 1)), by omega, hmid, ?_, ?_, ?_, ?_, ht, rfl, rfl⟩
      · simp only [go_sem, ↓reduceIte, Int.reduceAdd, Int.reduceEq, Int.reduceLE, Int.reduceLT, Int.reduceMul, Int.reduceNeg, Int.reduceSub, Int.reduceToNat, Nat.reduceAdd, Nat.reduceBEq, Nat.reduceEqDiff, Nat.reduceLT, Nat.reduceLeDiff, Nat.reduceMul, Nat.reduceSub, h1]
      · simp only [go_sem, ↓reduceIte, Int.reduceAdd, Int.reduceEq, Int.reduceLE, Int.reduceLT, Int.reduceMul, Int.reduceNeg, Int.reduceSub, Int.reduceToNat, Nat.reduceAdd, Nat.reduceBEq, Nat.reduceEqDiff, Nat.reduceLT, Nat.reduceLeDiff, Nat.reduceMul, Nat.reduceSub, h5]
      · simp only [go_sem, ↓reduceIte, Int.reduceAdd, Int.reduceEq, Int.reduceLE, Int.reduceLT, Int.reduceMul, Int.reduceNeg, Int.reduceSub, Int.reduceToNat, Nat.reduceAdd, Nat.reduceBEq, Nat.reduceEqDiff, Nat.reduceLT, Nat.reduceLeDiff, Nat.reduceMul, Nat.reduceSub, h6]
      · simp only [go_sem, ↓reduceIte, Int.reduceAdd, Int.reduceEq, Int.reduceLE, Int.reduceLT, Int.reduceMul, Int.reduceNeg, Int.reduceSub, Int.reduceToNat, Nat.reduceAdd, Nat.reduceBEq, Nat.reduceEqDiff, Nat.reduceLT, Nat.reduceLeDiff, Nat.reduceMul, Nat.reduceSub, ew]

theorem plank_of (z : Int) (n : Nat) (hn1 : 1 ≤ n) (hn : n ≤ 12) : IntKind.u64.wrap (n : Int) = n ∧ ∃ P : Nat, P < n ∧ IntKind.i64.wrap ((IntKind.u64.wrap z).tmod n) = P := by
  have h1 : IntKind.u64.wrap (n : Int) = (n : Int) % 18446744073709551616 := by simp [IntKind.wrap, IntKind.signed, IntKind.bits]
  refine ⟨by rw [h1]; omega, ?_⟩
  have h2 := u64_mod z n (by omega) (by omega)
  refine ⟨((IntKind.u64.wrap z).tmod n).toNat, by omega, ?_⟩
  rw [wrap64 (by omega) (by omega)]
  omega

theorem law11_loop (cx : Cx) (h : SHeap) (n c : Nat) (pl : Int) (hn1 : 1 ≤ n) (hn : n ≤ 12) (hc : c = UNK + 2 ∨ (c < UNK ∧ n ≤ c)) : ∀ k ρ ms h' d', (∃ (r : Nat) (y : List (Int × Int)), r + k = 2 ∧ y.length = n ∧ y.all okP = true ∧ ρ 1 = .int .i64 pl ∧ ρ 5 = .slice (some ⟨h.length, 0, none⟩) n c ∧ ρ 6 = .int .i64 r ∧ HT h h' y ∧ ms = [] ∧ d' = []) →
    LoopW M cx 7 sf11L1 ρ ms h' d' (fun ex ρ' ms' h' d' => ex = .exit 0 ∧ h'.take h.length = h ∧ ms' = [] ∧ d' = []) := by
  refine loop_run _ ?_
  rintro k ρ ms h' d' ⟨r, y, hr, hl, hok, h1, h5, h6, hT, rfl, rfl⟩
  unfold sf11L1
  by_cases hk : k = 0
  · have e1 : ¬ ((r : Int) < 2) := by omega
    repeat (first | apply run_seq | apply run_block | apply end_seq | apply end_blk_hit | apply end_blk_miss rfl | apply end_blk | apply end_seq_exit | apply end_seq_ret | apply end_blk_ret | apply run_skip | apply run_ret | apply run_exit | (apply run_region (by decide); (simp only [go_sem, ↓reduceIte, Int.reduceAdd, Int.reduceEq, Int.reduceLE, Int.reduceLT, Int.reduceMul, Int.reduceNeg, Int.reduceSub, Int.reduceToNat, Nat.reduceAdd, Nat.reduceBEq, Nat.reduceEqDiff, Nat.reduceLT, Nat.reduceLeDiff, Nat.reduceMul, Nat.reduceSub, h6, e1]; rfl)) | (refine run_cond_t ?_ ?_; · simp only [go_sem, ↓reduceIte, Nat.reduceEqDiff]) | (refine run_cond_f ?_ ?_; · simp only [go_sem, ↓reduceIte, Nat.reduceEqDiff]))
    exact end_nil ⟨rfl, hT.take, rfl, rfl⟩
  · have e1 : (r : Int) < 2 := by omega
    have ew : IntKind.i64.wrap ((r : Int) + 1) = ((r + 1 : Nat) : Int) := by rw [wrap64 (by omega) (by omega)]; rfl
    obtain ⟨hu, P, hP, hPP⟩ := plank_of pl n hn1 hn
    have hn0 : ¬ ((n : Int) = 0) := by omega
    have ht : towerB y = true := by
      simp only [towerB, hok, Bool.true_and, Bool.and_eq_true, decide_eq_true_eq]; omega
    have hts : TSl h' (.slice (some ⟨h.length, 0, none⟩) n c) y := ⟨_, c, by rw [hl], Prs.mk0 hT.2.1 rfl, by rw [hl]; exact hc⟩
    have c49 := balance49_ok hts ht (show P < y.length by omega)
    have c35 := fun g => stands35 (hts.app g) ht
    have c36 := fun g => reach36 (hts.app g) ht
    have c51 := fun g => stands51 (hts.app g) ht
    have c52 := fun g => balance52 (hts.app g) hok (by omega) (show P < y.length by omega)
    have c53 := fun g => reach53 (hts.app g) ht
    repeat (first | apply run_seq | apply run_block | apply end_seq | apply end_blk_hit | apply end_blk_miss rfl | apply end_blk | apply end_seq_exit | apply end_seq_ret | apply end_blk_ret | apply run_skip | apply run_ret | apply run_exit | (apply run_region (by decide); (simp only [go_sem, ↓reduceIte, Int.reduceAdd, Int.reduceEq, Int.reduceLE, Int.reduceLT, Int.reduceMul, Int.reduceNeg, Int.reduceSub, Int.reduceToNat, Nat.reduceAdd, Nat.reduceBEq, Nat.reduceEqDiff, Nat.reduceLT, Nat.reduceLeDiff, Nat.reduceMul, Nat.reduceSub, h1, h5, h6, e1, hu, hn0, hPP, c49, c35, c36, c51, c52, c53, udf]; rfl)) | (refine run_cond_t ?_ ?_; · simp only [go_sem, ↓reduceIte, Nat.reduceEqDiff]) | (refine run_cond_f ?_ ?_; · simp only [go_sem, ↓reduceIte, Nat.reduceEqDiff]))
    refine run_loop (mod_loop cx h n c pl (.int .i64 r) hn1 hn hc n _ _ _ _ ⟨0, y, by omega, ⟨hl, hok, fun j hj => by omega⟩, ?_, ?_, ?_, ?_, hT.app _, rfl, rfl⟩) ?_
    · simp only [go_sem, ↓reduceIte, Int.reduceAdd, Int.reduceEq, Int.reduceLE, Int.reduceLT, Int.reduceMul, Int.reduceNeg, Int.reduceSub, Int.reduceToNat, Nat.reduceAdd, Nat.reduceBEq, Nat.reduceEqDiff, Nat.reduceLT, Nat.reduceLeDiff, Nat.reduceMul, Nat.reduceSub, h1]
    · simp only [go_sem, ↓reduceIte, Int.reduceAdd, Int.reduceEq, Int.reduceLE, Int.reduceLT, Int.reduceMul, Int.reduceNeg, Int.reduceSub, Int.reduceToNat, Nat.reduceAdd, Nat.reduceBEq, Nat.reduceEqDiff, Nat.reduceLT, Nat.reduceLeDiff, Nat.reduceMul, Nat.reduceSub, h5]
    · simp only [go_sem, ↓reduceIte, Int.reduceAdd, Int.reduceEq, Int.reduceLE, Int.reduceLT, Int.reduceMul, Int.reduceNeg, Int.reduceSub, Int.reduceToNat, Nat.reduceAdd, Nat.reduceBEq, Nat.reduceEqDiff, Nat.reduceLT, Nat.reduceLeDiff, Nat.reduceMul, Nat.reduceSub, h6]
    · (simp only [go_sem, ↓reduceIte, Int.reduceAdd, Int.reduceEq, Int.reduceLE, Int.reduceLT, Int.reduceMul, Int.reduceNeg, Int.reduceSub, Int.reduceToNat, Nat.reduceAdd, Nat.reduceBEq, Nat.reduceEqDiff, Nat.reduceLT, Nat.reduceLeDiff, Nat.reduceMul, Nat.reduceSub]) <;> rfl
    · rintro ex ρ' ms' h2 d2 ⟨rfl, y2, hm2, k1, k5, k6, hT2, rfl, rfl⟩
      repeat (first | apply run_seq | apply run_block | apply end_seq | apply end_blk_hit | apply end_blk_miss rfl | apply end_blk | apply end_seq_exit | apply end_seq_ret | apply end_blk_ret | apply run_skip | apply run_ret | apply run_exit | (apply run_region (by decide); (simp only [go_sem, ↓reduceIte, Int.reduceAdd, Int.reduceEq, Int.reduceLE, Int.reduceLT, Int.reduceMul, Int.reduceNeg, Int.reduceSub, Int.reduceToNat, Nat.reduceAdd, Nat.reduceBEq, Nat.reduceEqDiff, Nat.reduceLT, Nat.reduceLeDiff, Nat.reduceMul, Nat.reduceSub, k1, k5, k6, ew]; rfl)) | (refine run_cond_t ?_ ?_; · simp only [go_sem, ↓reduceIte, Nat.reduceEqDiff]) | (refine run_cond_f ?_ ?_; · simp only [go_sem, ↓reduceIte, Nat.reduceEqDiff]))
      refine end_nil ⟨k - 1, by omega, r + 1, y2, by omega, hm2.1, hm2.2.1, ?_, ?_, ?_, hT2, rfl, rfl⟩
      · simp only [go_sem, ↓reduceIte, Int.reduceAdd, Int.reduceEq, Int.reduceLE, Int.reduceLT, Int.reduceMul, Int.reduceNeg, Int.reduceSub, Int.reduceToNat, Nat.reduceAdd, Nat.reduceBEq, Nat.reduceEqDiff, Nat.reduceLT, Nat.reduceLeDiff, Nat.reduceMul, Nat.reduceSub, k1]
      · simp only [go_sem, ↓reduceIte, Int.reduceAdd, Int.reduceEq, Int.reduceLE, Int.reduceLT, Int.reduceMul, Int.reduceNeg, Int.reduceSub, Int.reduceToNat, Nat.reduceAdd, Nat.reduceBEq, Nat.reduceEqDiff, Nat.reduceLT, Nat.reduceLeDiff, Nat.reduceMul, Nat.reduceSub, k5]
      · simp only [go_sem, ↓reduceIte, Int.reduceAdd, Int.reduceEq, Int.reduceLE, Int.reduceLT, Int.reduceMul, Int.reduceNeg, Int.reduceSub, Int.reduceToNat, Nat.reduceAdd, Nat.reduceBEq, Nat.reduceEqDiff, Nat.reduceLT, Nat.reduceLeDiff, Nat.reduceMul, Nat.reduceSub, ew]

/-- HullStands on the shadow machine -/
theorem law11 {h : SHeap} {v : Value} {l : List (Int × Int)} (hv : ArgS h v l) (z : Int) : M.call 11 [v, .int .i64 z] h = some (.bool true, h, []) := by
  obtain ⟨c, c50, hc⟩ := planks50 hv
  have ht := plks_tower l
  generalize plks l = y at *
  obtain ⟨hok, hn1, hn⟩ := towerB_of ht
  have aw := fun h => awake_call h
  refine call_run sf11 rfl rfl rfl ?_
  unfold sf11
  repeat (first | apply run_seq | apply run_block | apply end_seq | apply end_blk_hit | apply end_blk_miss rfl | apply end_blk | apply end_seq_exit | apply end_seq_ret | apply end_blk_ret | apply run_skip | apply run_ret | apply run_exit | (apply run_region (by decide); (simp only [go_sem, ↓reduceIte, Int.reduceAdd, Int.reduceEq, Int.reduceLE, Int.reduceLT, Int.reduceMul, Int.reduceNeg, Int.reduceSub, Int.reduceToNat, Nat.reduceAdd, Nat.reduceBEq, Nat.reduceEqDiff, Nat.reduceLT, Nat.reduceLeDiff, Nat.reduceMul, Nat.reduceSub, argR, c50]; rfl)) | (refine run_cond_t ?_ ?_; · simp only [go_sem, ↓reduceIte, Nat.reduceEqDiff]) | (refine run_cond_f ?_ ?_; · simp only [go_sem, ↓reduceIte, Nat.reduceEqDiff]))
  refine run_loop (law11_loop _ h y.length c z hn1 hn hc 2 _ _ _ _ ⟨0, y, by omega, rfl, hok, ?_, ?_, ?_, ⟨by simp, by rw [app_get0]; rfl, fun j hj => by rw [List.getElem?_append_left hj]⟩, rfl, rfl⟩) ?_
  · simp only [go_sem, ↓reduceIte, Int.reduceAdd, Int.reduceEq, Int.reduceLE, Int.reduceLT, Int.reduceMul, Int.reduceNeg, Int.reduceSub, Int.reduceToNat, Nat.reduceAdd, Nat.reduceBEq, Nat.reduceEqDiff, Nat.reduceLT, Nat.reduceLeDiff, Nat.reduceMul, Nat.reduceSub, argR]
  · simp only [go_sem, ↓reduceIte, Int.reduceAdd, Int.reduceEq, Int.reduceLE, Int.reduceLT, Int.reduceMul, Int.reduceNeg, Int.reduceSub, Int.reduceToNat, Nat.reduceAdd, Nat.reduceBEq, Nat.reduceEqDiff, Nat.reduceLT, Nat.reduceLeDiff, Nat.reduceMul, Nat.reduceSub]
  · (simp only [go_sem, ↓reduceIte, Int.reduceAdd, Int.reduceEq, Int.reduceLE, Int.reduceLT, Int.reduceMul, Int.reduceNeg, Int.reduceSub, Int.reduceToNat, Nat.reduceAdd, Nat.reduceBEq, Nat.reduceEqDiff, Nat.reduceLT, Nat.reduceLeDiff, Nat.reduceMul, Nat.reduceSub]) <;> rfl
  · rintro ex ρ' ms' h1 d1 ⟨rfl, htk, rfl, rfl⟩
    repeat (first | apply run_seq | apply run_block | apply end_seq | apply end_blk_hit | apply end_blk_miss rfl | apply end_blk | apply end_seq_exit | apply end_seq_ret | apply end_blk_ret | apply run_skip | apply run_ret | apply run_exit | (apply run_region (by decide); (simp only [go_sem, ↓reduceIte, Int.reduceAdd, Int.reduceEq, Int.reduceLE, Int.reduceLT, Int.reduceMul, Int.reduceNeg, Int.reduceSub, Int.reduceToNat, Nat.reduceAdd, Nat.reduceBEq, Nat.reduceEqDiff, Nat.reduceLT, Nat.reduceLeDiff, Nat.reduceMul, Nat.reduceSub, aw]; rfl)) | (refine run_cond_t ?_ ?_; · simp only [go_sem, ↓reduceIte, Nat.reduceEqDiff]) | (refine run_cond_f ?_ ?_; · simp only [go_sem, ↓reduceIte, Nat.reduceEqDiff]))
    exact end_nil (q_ret1 _ (by simp only [go_sem, ↓reduceIte, Int.reduceAdd, Int.reduceEq, Int.reduceLE, Int.reduceLT, Int.reduceMul, Int.reduceNeg, Int.reduceSub, Int.reduceToNat, Nat.reduceAdd, Nat.reduceBEq, Nat.reduceEqDiff, Nat.reduceLT, Nat.reduceLeDiff, Nat.reduceMul, Nat.reduceSub]) rfl htk)
end Go.Proofs.Ytecncmmkghmojaa.Sh

