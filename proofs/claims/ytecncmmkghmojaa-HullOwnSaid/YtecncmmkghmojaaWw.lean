/- Around of the document: what it returns. -/
import Derived.Test.YtecncmmkghmojaaH6
set_option linter.all false
namespace Go.Proofs.Ytecncmmkghmojaa.Sh
open Go Geo
set_option maxRecDepth 100000

def cel (p : Int × Int) : SO := .cells [.int .i64 p.1, .int .i64 p.2] 53 true 0 []
theorem eqP (p q : Int × Int) : eqS (.agg [.int, .int]) (.agg #[.int .i64 p.1, .int .i64 p.2]) (.agg #[.int .i64 q.1, .int .i64 q.2]) = some (decide (p = q)) := by
  rw [eqS_aggr]
  show eqList [.int, .int] [.int .i64 p.1, .int .i64 p.2] [.int .i64 q.1, .int .i64 q.2] = _
  rw [eqL_cons, eqL_cons, eqL_nil]
  by_cases h1 : p.1 = q.1
  · by_cases h2 : p.2 = q.2
    · rw [if_pos h1, if_pos h2, decide_eq_true (Prod.ext h1 h2)]
    · rw [if_pos h1, if_neg h2, decide_eq_false (fun e => h2 (by rw [e]))]
  · rw [if_neg h1, decide_eq_false (fun e => h1 (by rw [e]))]

attribute [go_sem ↓ high] eqP

theorem scan_take (a : Pt) (l : List Pt) (i : Nat) (hi : i < l.length) : (l.take (i + 1)).foldl (scanStep a) a = scanStep a ((l.take i).foldl (scanStep a) a) l[i] := by
  rw [List.take_add_one, List.getElem?_eq_getElem hi, List.foldl_append]
  rfl
theorem scan_rng {a : Pt} {l : List Pt} (ha : inR a) (hl : ∀ q ∈ l, inR q) : ∀ n, inR n → inR (l.foldl (scanStep a) n) := by
  induction l with
  | nil => intro n h; exact h
  | cons p r ih =>
    intro n h
    refine ih (fun q hq => hl q (by simp [hq])) _ ?_
    unfold scanStep
    split
    · exact h
    · split
      · exact hl p (by simp)
      · exact h

theorem scan_loop (cx : Cx) (g : SHeap) (bv c A7 : Nat) (l : List (Int × Int)) (a : Int × Int) (v4 v6 : Value) (hl : ∀ q ∈ l, inR q) (hn : l.length ≤ 12) (ha : inR a) (hp : Prs g bv 0 l) (h7 : g[A7]? = some (cel a)) : ∀ k ρ ms h' d', (∃ (i : Nat), i + k = l.length ∧ ρ 0 = .slice (some ⟨bv, 0, none⟩) l.length c ∧ ρ 4 = v4 ∧ ρ 6 = v6 ∧ ρ 7 = .pointer (some ⟨A7, 0, none⟩) ∧ ρ 8 = .pointer (some ⟨g.length, 0, none⟩) ∧ ρ 9 = .int .i64 i ∧ h' = g ++ [cel ((l.take i).foldl (scanStep a) a)] ∧ ms = [] ∧ d' = []) →
    LoopW M cx 7 sf58L0 ρ ms h' d' (fun ex ρ' ms' h' d' => ex = .exit 4 ∧ ρ' 0 = .slice (some ⟨bv, 0, none⟩) l.length c ∧ ρ' 4 = v4 ∧ ρ' 6 = v6 ∧ ρ' 7 = .pointer (some ⟨A7, 0, none⟩) ∧ ρ' 8 = .pointer (some ⟨g.length, 0, none⟩) ∧ h' = g ++ [cel (scan a l)] ∧ ms' = [] ∧ d' = []) := by
  refine loop_run _ ?_
  rintro k ρ ms h' d' ⟨i, hi, h0, h4, h6, h7r, h8, h9, rfl, rfl, rfl⟩
  unfold sf58L0
  by_cases hk : k = 0
  · have e1 : ¬ ((i : Int) < l.length) := by omega
    repeat (first | apply run_seq | apply run_block | apply end_seq | apply end_blk_hit | apply end_blk_miss rfl | apply end_blk | apply end_seq_exit | apply end_seq_ret | apply end_blk_ret | apply run_skip | apply run_ret | apply run_exit | (apply run_region (by decide); (simp only [go_sem, h0, h9, e1]; rfl)) | (refine run_cond_t ?_ ?_; · simp only [go_sem]) | (refine run_cond_f ?_ ?_; · simp only [go_sem]))
    have et : (l.take i).foldl (scanStep a) a = scan a l := by rw [List.take_of_length_le (by omega)]; rfl
    refine end_nil ⟨rfl, ?_, ?_, ?_, ?_, ?_, by rw [et], rfl, rfl⟩
    · simp only [go_sem, h0]
    · simp only [go_sem, h4]
    · simp only [go_sem, h6]
    · simp only [go_sem, h7r]
    · simp only [go_sem, h8]
  · have e1 : (i : Int) < l.length := by omega
    have hil : i < l.length := by omega
    have e2 : (0 : Int) ≤ i := by omega
    have ew : IntKind.i64.wrap ((i : Int) + 1) = ((i + 1 : Nat) : Int) := by rw [wrap64 (by omega) (by omega)]; rfl
    have hst := scan_take a l i hil
    have hnr : inR ((l.take i).foldl (scanStep a) a) := scan_rng ha (fun q hq => hl q (List.mem_of_mem_take hq)) a ha
    have hpr := hl l[i] (List.getElem_mem hil)
    have hA7 : A7 < g.length := (List.getElem?_eq_some_iff.1 h7).1
    generalize hnn : (l.take i).foldl (scanStep a) a = n at *
    have l1 : loadS (g ++ [SO.cells [.int .i64 n.1, .int .i64 n.2] 53 true 0 []]) (some 2) (.pointer (some ⟨bv, 0 + i * 2, none⟩)) = some (.agg #[.int .i64 l[i].1, .int .i64 l[i].2]) := (hp.app [cel n]).loadN hil
    rw [Nat.zero_add] at l1
    generalize l[i] = p at *
    have l7 : loadS (g ++ [SO.cells [.int .i64 n.1, .int .i64 n.2] 53 true 0 []]) (some 2) (.pointer (some ⟨A7, 0, none⟩)) = some (.agg #[.int .i64 a.1, .int .i64 a.2]) := by
      rw [load_rdON, List.getElem?_append_left hA7, h7]; rfl
    have l8 : loadS (g ++ [SO.cells [.int .i64 n.1, .int .i64 n.2] 53 true 0 []]) (some 2) (.pointer (some ⟨g.length, 0, none⟩)) = some (.agg #[.int .i64 n.1, .int .i64 n.2]) := by
      rw [load_rdON, app_get0]; rfl
    have c60 := fun h => turn60 a n p h ha hnr hpr
    have c97 := fun h => far97 a p h ha hpr
    have c97' := fun h => far97 a n h ha hnr
    by_cases c1 : p = a
    · have d1 : decide (p = a) = true := decide_eq_true c1
      have hs : scanStep a n p = n := by unfold scanStep; rw [if_pos c1]
      repeat (first | apply run_seq | apply run_block | apply end_seq | apply end_blk_hit | apply end_blk_miss rfl | apply end_blk | apply end_seq_exit | apply end_seq_ret | apply end_blk_ret | apply run_skip | apply run_ret | apply run_exit | (apply run_region (by decide); (simp only [go_sem, h0, h9, e1, e2, h7r, h8, l1, l7, l8, c60, c97, c97', udf, cel, Int.toNat_natCast, ew, d1]; rfl)) | (refine run_cond_t ?_ ?_; · simp only [go_sem]) | (refine run_cond_f ?_ ?_; · simp only [go_sem]))
      refine end_nil ⟨k - 1, by omega, i + 1, by omega, ?_, ?_, ?_, ?_, ?_, ?_, by rw [hst, hs]; rfl, rfl, rfl⟩
      · simp only [go_sem, h0]
      · simp only [go_sem, h4]
      · simp only [go_sem, h6]
      · simp only [go_sem, h7r]
      · simp only [go_sem, h8]
      · simp only [go_sem, ew]
    · have d1 : decide (p = a) = false := decide_eq_false c1
      by_cases c2 : n = a
      · have d2 : decide (n = a) = true := decide_eq_true c2
        have hs : scanStep a n p = p := by unfold scanStep; rw [if_neg c1, if_pos (.inl c2)]
        repeat (first | apply run_seq | apply run_block | apply end_seq | apply end_blk_hit | apply end_blk_miss rfl | apply end_blk | apply end_seq_exit | apply end_seq_ret | apply end_blk_ret | apply run_skip | apply run_ret | apply run_exit | (apply run_region (by decide); (simp only [go_sem, h0, h9, e1, e2, h7r, h8, l1, l7, l8, c60, c97, c97', udf, cel, Int.toNat_natCast, ew, d1, d2]; rfl)) | (refine run_cond_t ?_ ?_; · simp only [go_sem]) | (refine run_cond_f ?_ ?_; · simp only [go_sem]))
        refine end_nil ⟨k - 1, by omega, i + 1, by omega, ?_, ?_, ?_, ?_, ?_, ?_, by rw [hst, hs]; rfl, rfl, rfl⟩
        · simp only [go_sem, h0]
        · simp only [go_sem, h4]
        · simp only [go_sem, h6]
        · simp only [go_sem, h7r]
        · simp only [go_sem, h8]
        · simp only [go_sem, ew]
      · have d2 : decide (n = a) = false := decide_eq_false c2
        by_cases c3 : turn a n p < 0
        · have hs : scanStep a n p = p := by unfold scanStep; rw [if_neg c1, if_pos (.inr (.inl c3))]
          repeat (first | apply run_seq | apply run_block | apply end_seq | apply end_blk_hit | apply end_blk_miss rfl | apply end_blk | apply end_seq_exit | apply end_seq_ret | apply end_blk_ret | apply run_skip | apply run_ret | apply run_exit | (apply run_region (by decide); (simp only [go_sem, h0, h9, e1, e2, h7r, h8, l1, l7, l8, c60, c97, c97', udf, cel, Int.toNat_natCast, ew, d1, d2, c3]; rfl)) | (refine run_cond_t ?_ ?_; · simp only [go_sem]) | (refine run_cond_f ?_ ?_; · simp only [go_sem]))
          refine end_nil ⟨k - 1, by omega, i + 1, by omega, ?_, ?_, ?_, ?_, ?_, ?_, by rw [hst, hs]; rfl, rfl, rfl⟩
          · simp only [go_sem, h0]
          · simp only [go_sem, h4]
          · simp only [go_sem, h6]
          · simp only [go_sem, h7r]
          · simp only [go_sem, h8]
          · simp only [go_sem, ew]
        · by_cases c4 : turn a n p = 0
          · by_cases c5 : far a n < far a p
            · have hs : scanStep a n p = p := by unfold scanStep; rw [if_neg c1, if_pos (.inr (.inr ⟨c4, c5⟩))]
              repeat (first | apply run_seq | apply run_block | apply end_seq | apply end_blk_hit | apply end_blk_miss rfl | apply end_blk | apply end_seq_exit | apply end_seq_ret | apply end_blk_ret | apply run_skip | apply run_ret | apply run_exit | (apply run_region (by decide); (simp only [go_sem, h0, h9, e1, e2, h7r, h8, l1, l7, l8, c60, c97, c97', udf, cel, Int.toNat_natCast, ew, d1, d2, c3, c4, Int.lt_irrefl, c5]; rfl)) | (refine run_cond_t ?_ ?_; · simp only [go_sem]) | (refine run_cond_f ?_ ?_; · simp only [go_sem]))
              refine end_nil ⟨k - 1, by omega, i + 1, by omega, ?_, ?_, ?_, ?_, ?_, ?_, by rw [hst, hs]; rfl, rfl, rfl⟩
              · simp only [go_sem, h0]
              · simp only [go_sem, h4]
              · simp only [go_sem, h6]
              · simp only [go_sem, h7r]
              · simp only [go_sem, h8]
              · simp only [go_sem, ew]
            · have hs : scanStep a n p = n := by
                unfold scanStep
                rw [if_neg c1, if_neg]
                rintro (z | z | z)
                · exact c2 z
                · exact c3 z
                · exact c5 z.2
              repeat (first | apply run_seq | apply run_block | apply end_seq | apply end_blk_hit | apply end_blk_miss rfl | apply end_blk | apply end_seq_exit | apply end_seq_ret | apply end_blk_ret | apply run_skip | apply run_ret | apply run_exit | (apply run_region (by decide); (simp only [go_sem, h0, h9, e1, e2, h7r, h8, l1, l7, l8, c60, c97, c97', udf, cel, Int.toNat_natCast, ew, d1, d2, c3, c4, Int.lt_irrefl, c5]; rfl)) | (refine run_cond_t ?_ ?_; · simp only [go_sem]) | (refine run_cond_f ?_ ?_; · simp only [go_sem]))
              refine end_nil ⟨k - 1, by omega, i + 1, by omega, ?_, ?_, ?_, ?_, ?_, ?_, by rw [hst, hs]; rfl, rfl, rfl⟩
              · simp only [go_sem, h0]
              · simp only [go_sem, h4]
              · simp only [go_sem, h6]
              · simp only [go_sem, h7r]
              · simp only [go_sem, h8]
              · simp only [go_sem, ew]
          · have hs : scanStep a n p = n := by
              unfold scanStep
              rw [if_neg c1, if_neg]
              rintro (z | z | z)
              · exact c2 z
              · exact c3 z
              · exact c4 z.1
            repeat (first | apply run_seq | apply run_block | apply end_seq | apply end_blk_hit | apply end_blk_miss rfl | apply end_blk | apply end_seq_exit | apply end_seq_ret | apply end_blk_ret | apply run_skip | apply run_ret | apply run_exit | (apply run_region (by decide); (simp only [go_sem, h0, h9, e1, e2, h7r, h8, l1, l7, l8, c60, c97, c97', udf, cel, Int.toNat_natCast, ew, d1, d2, c3, c4]; rfl)) | (refine run_cond_t ?_ ?_; · simp only [go_sem]) | (refine run_cond_f ?_ ?_; · simp only [go_sem]))
            refine end_nil ⟨k - 1, by omega, i + 1, by omega, ?_, ?_, ?_, ?_, ?_, ?_, by rw [hst, hs]; rfl, rfl, rfl⟩
            · simp only [go_sem, h0]
            · simp only [go_sem, h4]
            · simp only [go_sem, h6]
            · simp only [go_sem, h7r]
            · simp only [go_sem, h8]
            · simp only [go_sem, ew]
end Go.Proofs.Ytecncmmkghmojaa.Sh

