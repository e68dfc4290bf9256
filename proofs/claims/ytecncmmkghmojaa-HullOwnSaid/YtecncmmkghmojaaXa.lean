/- tame: the hulls that the statements make. -/
import Derived.Test.YtecncmmkghmojaaWz
import Derived.Test.YtecncmmkghmojaaH3
set_option linter.all false
namespace Go.Proofs.Ytecncmmkghmojaa.Sh
open Go Geo
set_option maxRecDepth 100000

theorem mod_succ {n x : Nat} (h : x < n) : (x + 1) % n = if x + 1 < n then x + 1 else 0 := by
  by_cases c : x + 1 < n
  · rw [if_pos c, Nat.mod_eq_of_lt c]
  · rw [if_neg c, show x + 1 = n by omega, Nat.mod_self]
theorem rot_get {W : List Pt} {k : Nat} (hk : k < W.length) (i : Nat) (hi : i < W.length) : (W.drop k ++ W.take k)[i]? = W[if i + k < W.length then i + k else i + k - W.length]? := by
  by_cases c : i + k < W.length
  · rw [if_pos c, List.getElem?_append_left (by simp; omega), List.getElem?_drop, Nat.add_comm]
  · rw [if_neg c, List.getElem?_append_right (by simp; omega), List.getElem?_take, if_pos (by simp; omega)]
    congr 1
    simp
    omega
theorem rot_len {W : List Pt} {k : Nat} (hk : k < W.length) : (W.drop k ++ W.take k).length = W.length := by simp; omega
theorem hull_rot {W : List Pt} (h : HullP W) {k : Nat} (hk : k < W.length) : HullP (W.drop k ++ W.take k) := by
  intro i j a b c ha hb hc h1 h2
  have hi : i < W.length := by have := (List.getElem?_eq_some_iff.1 ha).1; rwa [rot_len hk] at this
  have hj : j < W.length := by have := (List.getElem?_eq_some_iff.1 hc).1; rwa [rot_len hk] at this
  rw [rot_len hk] at hb h2
  have hm := Nat.mod_lt (i + 1) (show 0 < W.length by omega)
  rw [rot_get hk i hi] at ha
  rw [rot_get hk _ hm] at hb
  rw [rot_get hk j hj] at hc
  have hi2 : (if i + k < W.length then i + k else i + k - W.length) < W.length := by split <;> omega
  have e1 : (if (i + 1) % W.length + k < W.length then (i + 1) % W.length + k else (i + 1) % W.length + k - W.length) = ((if i + k < W.length then i + k else i + k - W.length) + 1) % W.length := by
    rw [mod_succ hi2, mod_succ hi]
    split <;> split <;> (try split) <;> (try split) <;> omega
  rw [e1] at hb
  refine h _ _ a b c ha hb hc ?_ ?_
  · split <;> split <;> omega
  · rw [mod_succ hi2]
    rw [mod_succ hi] at h2
    split at h2 <;> split <;> split <;> (try split) <;> omega

def tri : List (Int × Int) := [(0, 0), (9, 0), (1, 1)]
theorem tri_hull : HullP tri := by
  intro i k a b c ha hb hc h1 h2
  have hi : i < 3 := (List.getElem?_eq_some_iff.1 ha).1
  have hk : k < 3 := (List.getElem?_eq_some_iff.1 hc).1
  have hl : tri.length = 3 := rfl
  rw [hl] at hb h2
  have i3 : i = 0 ∨ i = 1 ∨ i = 2 := by omega
  have k3 : k = 0 ∨ k = 1 ∨ k = 2 := by omega
  rcases i3 with rfl | rfl | rfl <;> rcases k3 with rfl | rfl | rfl <;> first
    | exact (h1 rfl).elim
    | exact (h2 rfl).elim
    | (cases ha; cases hb; cases hc; decide)

/-- what a hull of the statements is -/
structure Tame (T : List (Int × Int)) : Prop where
  lo : 3 ≤ T.length
  hi : T.length ≤ 12
  inr : ∀ q ∈ T, inR q
  hull : HullP T

theorem slice_to {b n k : Nat} (h1 : k ≤ n) : sliceS 2 (.slice (some ⟨b, 0, none⟩) n (UNK + 2)) none (some (.int .i64 (k : Int))) none = some (.slice (some ⟨b, 0, none⟩) k (UNK + 2)) := by
  have e1 : Nat.ble UNK (UNK + 2) = true := by decide
  have e2 : (decide (0 ≤ (k : Int)) && decide ((k : Int) ≤ (n : Int))) = true := by simp; omega
  unfold sliceS
  simp only [bMx, e1, if_true, bHi, bnd, e2, bLo, Int.toNat_natCast]
  simp

theorem append_more {h : SHeap} {b b2 n k c : Nat} {A B : List (Int × Int)} {old : List Nat} (hA : h[b]? = some (.cells (prs A) 53 true 0 old)) (hn : A.length = n) (hB : Prs h b2 0 B) (hk : k ≤ B.length) (hk0 : k ≠ 0) (hm : (n + k) * 16 ≤ 140737488355328) (base : Nat) (d : List Nat) :
    appendS base h d 53 true 2 16 (.slice (some ⟨b, 0, none⟩) n (UNK + 2)) (.slice (some ⟨b2, 0, none⟩) k c) = some (.slice (some ⟨h.length, 0, none⟩) (n + k) (UNK + 2), share h b ++ [.cells (prs A ++ prs (B.take k)) 53 true 0 (b :: old)], d) := by
  have hsx : seenS h 2 (.slice (some ⟨b, 0, none⟩) n (UNK + 2)) n = some (prs A) := by
    have := (Prs.mk0 hA rfl).seen (Nat.le_refl A.length)
    rw [List.take_length, hn] at this
    unfold seenS
    by_cases z : n = 0
    · subst z
      have : A = [] := List.length_eq_zero_iff.1 hn
      subst this; rfl
    · show (if (n == 0) = true then some [] else rdN h b 0 (n * 2)) = _
      rw [if_neg (by simpa using z)]; exact this
  have hseen := hB.seen hk
  have e1 : Nat.ble UNK (UNK + 2) = true := by decide
  have e2 : Nat.beq (UNK + 2) (UNK + 2) = true := by decide
  have e3 : Nat.beq (0 + n * 2) (prs A).length = true := by rw [prs_len, hn, Nat.zero_add, Nat.mul_comm]; exact Nat.beq_refl _
  have e4 : Nat.ble ((n + k) * 16) 140737488355328 = true := by rw [ble_dec]; simpa using hm
  have e5 : Nat.blt 0 16 = true := by decide
  have e6 : (k == 0) = false := beq_eq_false_iff_ne.2 hk0
  have hsy : seenS h 2 (.slice (some ⟨b2, 0, none⟩) k c) k = some (prs (B.take k)) := by
    show (if (k == 0) = true then some [] else rdN h b2 0 (k * 2)) = _
    rw [if_neg (by simpa using hk0)]; exact hseen
  unfold appendS
  simp only [lenS, e6, hsx, hsy, hA, e1, e2, e3, e4, e5, prs_one, prs_sc]
  simp

/-- tame -/
theorem tame18 {h : SHeap} {v : Value} {l : List (Int × Int)} (hv : ArgS h v l) (z : Int) : ∃ T c, Tame T ∧ (c = UNK + 2 ∨ (c < UNK ∧ T.length ≤ c)) ∧ M.call 18 [v, .int .i64 z] h = some (.slice (some ⟨h.length, 0, none⟩) T.length c, h ++ [.cells (prs T) 53 true 0 []], []) := by
  have c59 := points59 hv
  have pin := pts_in l
  have plen := pts_len l
  generalize pts l = P at *
  have hpP : Prs (h ++ [SO.cells (prs P) 53 true 0 []]) h.length 0 P := Prs.mk0 (by rw [app_get0]; rfl) rfl
  obtain ⟨c', c58, hc'⟩ := around58 (c := UNK + 2) pin (by omega) plen.2 hpP
  have hwl := wrap_spec (l := P) (by intro e; rw [e] at plen; simp at plen)
  generalize wrap P = W at *
  obtain ⟨w1, w2, w3, w4⟩ := hwl
  have hln : (h ++ [SO.cells (prs P) 53 true 0 []]).length = h.length + 1 := by simp
  rw [hln, List.append_assoc] at c58
  have c58' : M.call 58 [.slice (some ⟨h.length, 0, none⟩) P.length (UNK + 2)] (h ++ [SO.cells (prs P) 53 true 0 []]) = some (.tuple #[.slice (some ⟨h.length + 1, 0, none⟩) W.length c', .bool (decide (3 ≤ W.length))], h ++ [SO.cells (prs P) 53 true 0 [], .cells (prs W) 53 true 0 []], []) := c58
  by_cases ok : 3 ≤ W.length
  · have tW : Tame W := ⟨ok, by omega, fun q hq => pin q (w1 q hq), w4 ok⟩
    have hcc := hc' (by omega)
    subst hcc
    rw [decide_eq_true ok] at c58'
    obtain ⟨hu, k, hk, hkk⟩ := plank_of z W.length (by omega) (by omega)
    have hn0 : ¬ ((W.length : Int) = 0) := by omega
    refine ⟨W.drop k ++ W.take k, UNK + 2, ⟨by rw [rot_len hk]; exact ok, by rw [rot_len hk]; omega, fun q hq => ?_, hull_rot tW.hull hk⟩, .inl rfl, ?_⟩
    · rcases List.mem_append.1 hq with hq | hq
      · exact tW.inr q (List.mem_of_mem_drop hq)
      · exact tW.inr q (List.mem_of_mem_take hq)
    · have hW2 : TSl (h ++ [SO.cells (prs P) 53 true 0 [], .cells (prs W) 53 true 0 []]) (.slice (some ⟨h.length + 1, 0, none⟩) W.length (UNK + 2)) W := ⟨_, _, rfl, Prs.mk0 (by rw [app_get]; rfl) rfl, .inl rfl⟩
      have s1 : sliceS 2 (.slice (some ⟨h.length + 1, 0, none⟩) W.length (UNK + 2)) (some (.int .i64 (k : Int))) none none = some (.slice (some ⟨h.length + 1, k * 2, none⟩) (W.length - k) (UNK + 2)) := by
        have e1 : Nat.ble UNK (UNK + 2) = true := by decide
        have e2 : (decide (0 ≤ (k : Int)) && decide ((k : Int) ≤ (W.length : Int))) = true := by simp; omega
        unfold sliceS
        simp only [bMx, e1, if_true, bHi, bLo, bnd, e2, Int.toNat_natCast]
        simp
      have s2 := slice_to (b := h.length + 1) (show k ≤ W.length by omega)
      have hWp : Prs (h ++ [SO.cells (prs P) 53 true 0 [], .cells (prs W) 53 true 0 []]) (h.length + 1) 0 W := Prs.mk0 (by rw [app_get]; rfl) rfl
      have hWd := hWp.drop k (by omega)
      rw [Nat.zero_add] at hWd
      have a1 := fun base d => append_prs (base := base) (d := d) (el := 53) (c := UNK + 2) hWd (n := W.length - k) (by simp) (by omega) (by omega)
      have ht : (W.drop k).take (W.length - k) = W.drop k := List.take_of_length_le (by simp)
      have hl2 : (h ++ [SO.cells (prs P) 53 true 0 [], .cells (prs W) 53 true 0 []]).length = h.length + 2 := by simp
      simp only [ht, hl2, List.append_assoc, List.cons_append, List.nil_append] at a1
      refine call_run sf18 rfl rfl rfl ?_
      unfold sf18
      by_cases k0 : k = 0
      · subst k0
        have a2 : ∀ (base : Nat) (hh : SHeap) (d : List Nat) (x : Value), appendS base hh d 53 true 2 16 (.slice (some ⟨h.length + 2, 0, none⟩) (W.length - 0) (UNK + 2)) (.slice (some ⟨h.length + 1, 0, none⟩) 0 (UNK + 2)) = some (.slice (some ⟨h.length + 2, 0, none⟩) (W.length - 0) (UNK + 2), hh, d) := fun base hh d x => rfl
        have a2' := fun base hh d => a2 base hh d udf
        generalize hwn : W.length - 0 = wn at *
        have hkk' : IntKind.i64.wrap ((IntKind.u64.wrap z).tmod (W.length : Int)) = 0 := hkk
        have s1' : sliceS 2 (.slice (some ⟨h.length + 1, 0, none⟩) W.length (UNK + 2)) (some (.int .i64 0)) none none = some (.slice (some ⟨h.length + 1, 0, none⟩) wn (UNK + 2)) := by
          have := s1; rw [Nat.zero_mul] at this; exact this
        have s2' : sliceS 2 (.slice (some ⟨h.length + 1, 0, none⟩) W.length (UNK + 2)) none (some (.int .i64 0)) none = some (.slice (some ⟨h.length + 1, 0, none⟩) 0 (UNK + 2)) := s2
        rw [Nat.zero_mul] at a1
        repeat (first | apply run_seq | apply run_block | apply end_seq | apply end_blk_hit | apply end_blk_miss rfl | apply end_blk | apply end_seq_exit | apply end_seq_ret | apply end_blk_ret | apply run_skip | apply run_ret | apply run_exit | (apply run_region (by decide); (simp only [go_sem, argR, c59, c58', hu, hn0, hkk', s1', s2', a1, a2']; rfl)) | (refine run_cond_t ?_ ?_; · simp only [go_sem]) | (refine run_cond_f ?_ ?_; · simp only [go_sem]))
        refine end_nil (q_gc1 (a := some ⟨h.length + 2, 0, none⟩) (n := wn) (c := UNK + 2) (by (simp only [go_sem]) <;> rfl) ?_)
        have := gc_block (h := h) (g := [SO.cells (prs P) 53 true 0 [], .cells (prs W) 53 true 0 [], .cells (prs (W.drop 0)) 53 true 0 []]) (j := 2) (n := wn) (c := UNK + 2) (o := 0) (own := 0) (old := []) rfl rfl
        rw [List.drop_zero] at this ⊢
        rw [List.take_zero, List.append_nil]
        have ewn : wn = W.length := by omega
        rw [ewn] at this ⊢
        exact this
      · have hXp : (h ++ [SO.cells (prs P) 53 true 0 [], .cells (prs W) 53 true 0 [], .cells (prs (W.drop k)) 53 true 0 []])[h.length + 2]? = some (.cells (prs (W.drop k)) 53 true 0 []) := by rw [app_get]; rfl
        have hWp3 : Prs (h ++ [SO.cells (prs P) 53 true 0 [], .cells (prs W) 53 true 0 [], .cells (prs (W.drop k)) 53 true 0 []]) (h.length + 1) 0 W := Prs.mk0 (by rw [app_get]; rfl) rfl
        have a2 := fun base d => append_more (c := UNK + 2) hXp (show (W.drop k).length = W.length - k by simp) hWp3 (show k ≤ W.length by omega) k0 (by omega) base d
        have hsh : share (h ++ [SO.cells (prs P) 53 true 0 [], .cells (prs W) 53 true 0 [], .cells (prs (W.drop k)) 53 true 0 []]) (h.length + 2) = h ++ [SO.cells (prs P) 53 true 0 [], .cells (prs W) 53 true 0 [], .cells (prs (W.drop k)) 53 true 1 []] := by
          unfold share
          rw [hXp]
          dsimp only
          rw [app_set]
          rfl
        have hl3 : (h ++ [SO.cells (prs P) 53 true 0 [], .cells (prs W) 53 true 0 [], .cells (prs (W.drop k)) 53 true 0 []]).length = h.length + 3 := by simp
        simp only [hsh, hl3, List.append_assoc, List.cons_append, List.nil_append, ← prs_app] at a2
        rw [show W.length - k + k = W.length by omega] at a2
        repeat (first | apply run_seq | apply run_block | apply end_seq | apply end_blk_hit | apply end_blk_miss rfl | apply end_blk | apply end_seq_exit | apply end_seq_ret | apply end_blk_ret | apply run_skip | apply run_ret | apply run_exit | (apply run_region (by decide); (simp only [go_sem, argR, c59, c58', hu, hn0, hkk, s1, s2, a1, a2]; rfl)) | (refine run_cond_t ?_ ?_; · simp only [go_sem]) | (refine run_cond_f ?_ ?_; · simp only [go_sem]))
        refine end_nil (q_gc1 (a := some ⟨h.length + 3, 0, none⟩) (n := W.length) (c := UNK + 2) (by (simp only [go_sem]) <;> rfl) ?_)
        have := gc_block (h := h) (g := [SO.cells (prs P) 53 true 0 [], .cells (prs W) 53 true 0 [], .cells (prs (W.drop k)) 53 true 1 [], .cells (prs (W.drop k ++ W.take k)) 53 true 0 [h.length + 2]]) (j := 3) (n := W.length) (c := UNK + 2) (o := 0) (own := 0) (old := [h.length + 2]) rfl rfl
        rw [ren_none (by intro c hc; simp at hc; omega)] at this
        rw [rot_len hk]
        exact this
  · rw [decide_eq_false ok] at c58'
    refine ⟨tri, 3, ⟨by decide, by decide, ?_, tri_hull⟩, .inr ⟨by decide, by decide⟩, ?_⟩
    · intro q hq
      simp only [tri, List.mem_cons, List.not_mem_nil, or_false] at hq
      rcases hq with rfl | rfl | rfl <;> exact ⟨by decide, by decide, by decide, by decide⟩
    · refine call_run sf18 rfl rfl rfl ?_
      unfold sf18
      repeat (first | apply run_seq | apply run_block | apply end_seq | apply end_blk_hit | apply end_blk_miss rfl | apply end_blk | apply end_seq_exit | apply end_seq_ret | apply end_blk_ret | apply run_skip | apply run_ret | apply run_exit | (apply run_region (by decide); (simp only [go_sem, argR, c59, c58']; rfl)) | (refine run_cond_t ?_ ?_; · simp only [go_sem]) | (refine run_cond_f ?_ ?_; · simp only [go_sem]))
      refine end_nil (q_gc1 (a := some ⟨h.length + 2, 0, none⟩) (n := 3) (c := 3) (by (simp only [go_sem]) <;> rfl) ?_)
      exact gc_block (h := h) (g := [SO.cells (prs P) 53 true 0 [], .cells (prs W) 53 true 0 [], .cells (prs tri) 53 true 0 []]) (j := 2) (n := 3) (c := 3) (o := 0) (own := 0) (old := []) rfl rfl
end Go.Proofs.Ytecncmmkghmojaa.Sh

