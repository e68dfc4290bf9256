/- Turned of the program and of the document; comparing pairs. -/
import Derived.Test.YtecncmmkghmojaaXl
import Derived.Test.YtecncmmkghmojaaShZp
set_option linter.all false
namespace Go.Proofs.Ytecncmmkghmojaa.Sh
open Go Geo
set_option maxRecDepth 100000

/-- Check -/
theorem check55 {h : SHeap} {v : Value} {l : List (Int × Int)} (hv : PS h v l) (T : Tame l) : M.call 55 [v] h = some (.int .i64 0, h, []) := by
  have c := open62' hv T
  have ot := opened_take h l
  generalize opened h l = H at *
  refine call_run sf55 rfl rfl rfl ?_
  unfold sf55
  repeat (first | apply run_seq | apply run_block | apply end_seq | apply end_blk_hit | apply end_blk_miss rfl | apply end_blk | apply end_seq_exit | apply end_seq_ret | apply end_blk_ret | apply run_skip | apply run_ret | apply run_exit | (apply run_region (by decide); (simp only [go_sem, argR, c]; rfl)) | (refine run_cond_t ?_ ?_; · simp only [go_sem]) | (refine run_cond_f ?_ ?_; · simp only [go_sem]))
  exact end_nil (q_ret1 _ (by simp only [go_sem]) rfl ot)

def trn (p : Int × Int) : Int × Int := (-p.2, p.1)
theorem take_map_succ {α β : Type} (f : α → β) (l : List α) (i : Nat) (hi : i < l.length) : (l.take (i + 1)).map f = (l.take i).map f ++ [f l[i]] := by
  rw [List.take_add_one, List.getElem?_eq_getElem hi]
  simp only [Option.toList_some, List.map_append, List.map_cons, List.map_nil]

theorem turned_loop (cx : Cx) {H : SHeap} {b o c : Nat} {l : List (Int × Int)} (hp : Prs H b o l) (hl : ∀ q ∈ l, inR q) (hn : l.length ≤ 12) : ∀ k ρ ms h' d', (∃ (i : Nat) (v : Value), i + k = l.length ∧ ρ 5 = v ∧ ρ 13 = .slice (some ⟨b, o, none⟩) l.length c ∧ ρ 14 = .int .i64 l.length ∧ ρ 15 = .int .i64 i ∧ AccS H h' v (prs ((l.take i).map trn)) i 2 53 ∧ ms = [] ∧ d' = []) →
    LoopW M cx 5 sf32L0 ρ ms h' d' (fun ex ρ' ms' h' d' => ex = .exit 0 ∧ ∃ v : Value, ρ' 5 = v ∧ AccS H h' v (prs (l.map trn)) l.length 2 53 ∧ ms' = [] ∧ d' = []) := by
  refine loop_run _ ?_
  rintro k ρ ms h' d' ⟨i, v, hi, h5, h13, h14, h15, A, rfl, rfl⟩
  unfold sf32L0
  by_cases hk : k = 0
  · have e1 : ¬ ((i : Int) < l.length) := by omega
    have ei : i = l.length := by omega
    repeat (first | apply run_seq | apply run_block | apply end_seq | apply end_blk_hit | apply end_blk_miss rfl | apply end_blk | apply end_seq_exit | apply end_seq_ret | apply end_blk_ret | apply run_skip | apply run_ret | apply run_exit | (apply run_region (by decide); (simp only [go_sem, h14, h15, e1]; rfl)) | (refine run_cond_t ?_ ?_; · simp only [go_sem]) | (refine run_cond_f ?_ ?_; · simp only [go_sem]))
    refine end_nil ⟨rfl, v, ?_, ?_, rfl, rfl⟩
    · simp only [go_sem, h5]
    · rw [ei, List.take_length] at A; exact A
  · have e1 : (i : Int) < l.length := by omega
    have e2 : (0 : Int) ≤ i := by omega
    have hil : i < l.length := by omega
    have ew : IntKind.i64.wrap ((i : Int) + 1) = ((i + 1 : Nat) : Int) := by rw [wrap64 (by omega) (by omega)]; rfl
    have l1 := (A.prs hp).loadN hil
    have hmt := take_map_succ trn l i hil
    have hin := hl l[i] (List.getElem_mem hil)
    generalize l[i] = q at *
    obtain ⟨x, y⟩ := q
    have wy : IntKind.i64.wrap (-y) = -y := wrap_neg (by obtain ⟨a1, a2, a3, a4⟩ := hin; simp only at a3 a4; omega)
    have A2 := A.app [SO.cells [.int .i64 x, .int .i64 y] 53 true 0 [], .cells [.int .i64 (-y), .int .i64 x] 53 true 0 []]
    obtain ⟨H2, v2, ap, -, A3, -, -⟩ := A2.push (bytes := 16) (bs := h'.length + 1) (el2 := 53) (pf2 := true) (own2 := 0) (old2 := []) (new := [.int .i64 (-y), .int .i64 x]) (by rw [app_get]; rfl) rfl rfl (by decide) rfl (by decide) (by omega)
    repeat (first | apply run_seq | apply run_block | apply end_seq | apply end_blk_hit | apply end_blk_miss rfl | apply end_blk | apply end_seq_exit | apply end_seq_ret | apply end_blk_ret | apply run_skip | apply run_ret | apply run_exit | (apply run_region (by decide); (simp only [go_sem, h5, h13, h14, h15, e1, e2, l1, wy, ap, ew, Int.toNat_natCast]; rfl)) | (refine run_cond_t ?_ ?_; · simp only [go_sem]) | (refine run_cond_f ?_ ?_; · simp only [go_sem]))
    refine end_nil ⟨k - 1, by omega, i + 1, v2, by omega, ?_, ?_, ?_, ?_, ?_, rfl, rfl⟩
    · simp only [go_sem]
    · simp only [go_sem, h13]
    · simp only [go_sem, h14]
    · simp only [go_sem, ew]
    · rw [hmt, prs_app]; exact A3

/-- Turned -/
theorem turned32 {h : SHeap} {v : Value} {l : List (Int × Int)} (hv : PS h v l) (T : Tame l) : M.call 32 [v] h = some (.tuple #[.slice (some ⟨h.length, 0, none⟩) l.length (UNK + 2), .int .i64 0], h ++ [.cells (prs (l.map trn)) 53 true 0 []], []) := by
  have T1 := T.lo
  have hv0 := hv
  obtain ⟨a, c, rfl, hps⟩ := hv
  obtain ⟨b, o, rfl, hp⟩ := hps (by intro e; rw [e] at T1; simp at T1)
  have c55 := check55 hv0 T
  refine call_run sf32 rfl rfl rfl ?_
  unfold sf32
  repeat (first | apply run_seq | apply run_block | apply end_seq | apply end_blk_hit | apply end_blk_miss rfl | apply end_blk | apply end_seq_exit | apply end_seq_ret | apply end_blk_ret | apply run_skip | apply run_ret | apply run_exit | (apply run_region (by decide); (simp only [go_sem, argR, c55]; rfl)) | (refine run_cond_t ?_ ?_; · simp only [go_sem]) | (refine run_cond_f ?_ ?_; · simp only [go_sem]))
  refine run_loop (turned_loop _ (c := c) hp T.inr T.hi l.length _ _ _ _ ⟨0, .slice none 0 0, by omega, by simp only [go_sem], by simp only [go_sem, argR], by simp only [go_sem, argR], by simp only [go_sem], AccS.nil0 h 2 53, rfl, rfl⟩) ?_
  rintro ex ρ' ms' h1 d1 ⟨rfl, v5, k5, A, rfl, rfl⟩
  repeat (first | apply run_seq | apply run_block | apply end_seq | apply end_blk_hit | apply end_blk_miss rfl | apply end_blk | apply end_seq_exit | apply end_seq_ret | apply end_blk_ret | apply run_skip | apply run_ret | apply run_exit | (apply run_region (by decide); (simp only [go_sem, k5]; rfl)) | (refine run_cond_t ?_ ?_; · simp only [go_sem]) | (refine run_cond_f ?_ ?_; · simp only [go_sem]))
  have hn : ¬ l.length = 0 := by omega
  refine end_nil (A.at0.q2 (.int .i64 0) (by rw [← resV_pos _ _ hn]) (resH_pos _ _ _ hn) ?_ ?_ rfl)
  · simp only [go_sem, k5]
  · simp only [go_sem]

theorem turnedR_loop (cx : Cx) {H : SHeap} {b o c : Nat} {l : List (Int × Int)} (hp : Prs H b o l) (hl : ∀ q ∈ l, inR q) (hn : l.length ≤ 12) : ∀ k ρ ms h' d', (∃ (i : Nat) (v : Value), i + k = l.length ∧ ρ 0 = .slice (some ⟨b, o, none⟩) l.length c ∧ ρ 3 = v ∧ ρ 4 = .int .i64 i ∧ AccS H h' v (prs ((l.take i).map trn)) i 2 53 ∧ ms = [] ∧ d' = []) →
    LoopW M cx 5 sf34L0 ρ ms h' d' (fun ex ρ' ms' h' d' => ex = .exit 0 ∧ ∃ v : Value, ρ' 3 = v ∧ AccS H h' v (prs (l.map trn)) l.length 2 53 ∧ ms' = [] ∧ d' = []) := by
  refine loop_run _ ?_
  rintro k ρ ms h' d' ⟨i, v, hi, h0, h3, h4, A, rfl, rfl⟩
  unfold sf34L0
  by_cases hk : k = 0
  · have e1 : ¬ ((i : Int) < l.length) := by omega
    have ei : i = l.length := by omega
    repeat (first | apply run_seq | apply run_block | apply end_seq | apply end_blk_hit | apply end_blk_miss rfl | apply end_blk | apply end_seq_exit | apply end_seq_ret | apply end_blk_ret | apply run_skip | apply run_ret | apply run_exit | (apply run_region (by decide); (simp only [go_sem, h0, h4, e1]; rfl)) | (refine run_cond_t ?_ ?_; · simp only [go_sem]) | (refine run_cond_f ?_ ?_; · simp only [go_sem]))
    refine end_nil ⟨rfl, v, ?_, ?_, rfl, rfl⟩
    · simp only [go_sem, h3]
    · rw [ei, List.take_length] at A; exact A
  · have e1 : (i : Int) < l.length := by omega
    have e2 : (0 : Int) ≤ i := by omega
    have hil : i < l.length := by omega
    have ew : IntKind.i64.wrap ((i : Int) + 1) = ((i + 1 : Nat) : Int) := by rw [wrap64 (by omega) (by omega)]; rfl
    have hp1 := (A.prs hp).app [SO.gone]
    have l1 := hp1.load1 hil
    have l2 := hp1.load2 hil
    have hmt := take_map_succ trn l i hil
    have hin := hl l[i] (List.getElem_mem hil)
    generalize l[i] = q at *
    obtain ⟨x, y⟩ := q
    dsimp only at l1 l2
    have wy : IntKind.i64.wrap (-y) = -y := wrap_neg (by obtain ⟨a1, a2, a3, a4⟩ := hin; simp only at a3 a4; omega)
    have A2 := A.app [SO.cells [.int .i64 (-y), .int .i64 x] 53 true 0 []]
    obtain ⟨H2, v2, ap, -, A3, -, -⟩ := A2.push (bytes := 16) (bs := h'.length) (el2 := 53) (pf2 := true) (own2 := 0) (old2 := []) (new := [.int .i64 (-y), .int .i64 x]) (by rw [app_get0]; rfl) rfl rfl (by decide) rfl (by decide) (by omega)
    repeat (first | apply run_seq | apply run_block | apply end_seq | apply end_blk_hit | apply end_blk_miss rfl | apply end_blk | apply end_seq_exit | apply end_seq_ret | apply end_blk_ret | apply run_skip | apply run_ret | apply run_exit | (apply run_region (by decide); (simp only [go_sem, h0, h3, h4, e1, e2, Int.toNat_natCast]; rfl)) | (refine run_cond_t ?_ ?_; · simp only [go_sem]) | (refine run_cond_f ?_ ?_; · simp only [go_sem]))
    apply run_regionN (by decide)
    · simp only [go_sem, h0, h3, h4, e1, e2, l1, l2, wy, rep1, new_some, ap, Int.toNat_natCast]
      rfl
    repeat (first | apply run_seq | apply run_block | apply end_seq | apply end_blk_hit | apply end_blk_miss rfl | apply end_blk | apply end_seq_exit | apply end_seq_ret | apply end_blk_ret | apply run_skip | apply run_ret | apply run_exit | (apply run_region (by decide); (simp only [go_sem, h4, ew]; rfl)) | (refine run_cond_t ?_ ?_; · simp only [go_sem]) | (refine run_cond_f ?_ ?_; · simp only [go_sem]))
    refine end_nil ⟨k - 1, by omega, i + 1, v2, by omega, ?_, ?_, ?_, ?_, rfl, rfl⟩
    · simp only [go_sem, h0]
    · simp only [go_sem]
    · simp only [go_sem, ew]
    · rw [hmt, prs_app]; exact A3

/-- Turned of the document -/
theorem turnedR34 {h : SHeap} {v : Value} {l : List (Int × Int)} (hv : PS h v l) (T : Tame l) : M.call 34 [v] h = some (.slice (some ⟨h.length, 0, none⟩) l.length (UNK + 2), h ++ [.cells (prs (l.map trn)) 53 true 0 []], []) := by
  have T1 := T.lo
  obtain ⟨a, c, rfl, hps⟩ := hv
  obtain ⟨b, o, rfl, hp⟩ := hps (by intro e; rw [e] at T1; simp at T1)
  refine call_run sf34 rfl rfl rfl ?_
  unfold sf34
  repeat (first | apply run_seq | apply run_block | apply end_seq | apply end_blk_hit | apply end_blk_miss rfl | apply end_blk | apply end_seq_exit | apply end_seq_ret | apply end_blk_ret | apply run_skip | apply run_ret | apply run_exit | (apply run_region (by decide); (simp only [go_sem, argR]; rfl)) | (refine run_cond_t ?_ ?_; · simp only [go_sem]) | (refine run_cond_f ?_ ?_; · simp only [go_sem]))
  refine run_loop (turnedR_loop _ (c := c) hp T.inr T.hi l.length _ _ _ _ ⟨0, .slice none 0 0, by omega, by simp only [go_sem, argR], by simp only [go_sem], by simp only [go_sem], AccS.nil0 h 2 53, rfl, rfl⟩) ?_
  rintro ex ρ' ms' h1 d1 ⟨rfl, v5, k5, A, rfl, rfl⟩
  repeat (first | apply run_seq | apply run_block | apply end_seq | apply end_blk_hit | apply end_blk_miss rfl | apply end_blk | apply end_seq_exit | apply end_seq_ret | apply end_blk_ret | apply run_skip | apply run_ret | apply run_exit | (apply run_region (by decide); (simp only [go_sem, k5]; rfl)) | (refine run_cond_t ?_ ?_; · simp only [go_sem]) | (refine run_cond_f ?_ ?_; · simp only [go_sem]))
  have hn : ¬ l.length = 0 := by omega
  refine end_nil (A.at0.q1 (by rw [← resV_pos _ _ hn]) (resH_pos _ _ _ hn) ?_)
  simp only [go_sem, k5]

theorem PS.mk0 {h : SHeap} {b n c : Nat} {l : List (Int × Int)} {el : TypeId} (hb : h[b]? = some (.cells (prs l) el true 0 [])) (hn : n = l.length) : PS h (.slice (some ⟨b, 0, none⟩) n c) l :=
  ⟨_, _, by rw [hn], fun _ => ⟨_, _, rfl, Prs.mk0 hb rfl⟩⟩

theorem pairs_loop (cx : Cx) {h : SHeap} {v w : Value} {a b : List (Int × Int)} (hv : PS h v a) (hw : PS h w b) (hab : a.length = b.length) (hs : a.length < 4611686018427387904) : ∀ k ρ ms h' d', (∃ i : Nat, i + k = a.length ∧ ρ 0 = v ∧ ρ 1 = w ∧ ρ 5 = .int .i64 i ∧ a.take i = b.take i ∧ ms = [] ∧ h' = h ∧ d' = []) →
    LoopW M cx 5 sf33L0 ρ ms h' d' (fun ex ρ' ms' h' d' => ms' = [] ∧ h' = h ∧ d' = [] ∧ ((ex = .exit 0 ∧ a = b) ∨ (ex = .ret ∧ ρ' 4 = .bool false ∧ a ≠ b))) := by
  obtain ⟨va, ca, rfl, ka⟩ := hv
  obtain ⟨vb, cb, rfl, kb⟩ := hw
  refine loop_run _ ?_
  rintro k ρ ms h' d' ⟨i, hi, h0, h1, h5, he, rfl, rfl, rfl⟩
  unfold sf33L0
  by_cases hk : k = 0
  · have e1 : ¬ ((i : Int) < a.length) := by omega
    have ei : i = a.length := by omega
    repeat (first | apply run_seq | apply run_block | apply end_seq | apply end_blk_hit | apply end_blk_miss rfl | apply end_blk | apply end_seq_exit | apply end_seq_ret | apply end_blk_ret | apply run_skip | apply run_ret | apply run_exit | (apply run_region (by decide); (simp only [go_sem, h0, h1, h5, e1]; rfl)) | (refine run_cond_t ?_ ?_; · simp only [go_sem]) | (refine run_cond_f ?_ ?_; · simp only [go_sem]))
    refine end_nil ⟨rfl, rfl, rfl, .inl ⟨rfl, ?_⟩⟩
    rw [ei, List.take_length, hab, List.take_length] at he
    exact he
  · have e1 : (i : Int) < a.length := by omega
    have e3 : (i : Int) < b.length := by omega
    have e2 : (0 : Int) ≤ i := by omega
    have hia : i < a.length := by omega
    have hib : i < b.length := by omega
    have ew : IntKind.i64.wrap ((i : Int) + 1) = ((i + 1 : Nat) : Int) := by rw [wrap64 (by omega) (by omega)]; rfl
    obtain ⟨ba, oa, rfl, pa⟩ := ka (by intro e; rw [e] at hia; simp at hia)
    obtain ⟨bb, ob, rfl, pb⟩ := kb (by intro e; rw [e] at hib; simp at hib)
    have l1 := pa.loadN hia
    have l2 := pb.loadN hib
    have t1 : a.take (i + 1) = a.take i ++ [a[i]] := by rw [List.take_add_one, List.getElem?_eq_getElem hia]; rfl
    have t2 : b.take (i + 1) = b.take i ++ [b[i]] := by rw [List.take_add_one, List.getElem?_eq_getElem hib]; rfl
    have hne : a[i] ≠ b[i] → a ≠ b := fun h1 h2 => h1 (by subst h2; rfl)
    generalize a[i] = p at *
    generalize b[i] = q at *
    by_cases hpq : p = q
    · subst hpq
      repeat (first | apply run_seq | apply run_block | apply end_seq | apply end_blk_hit | apply end_blk_miss rfl | apply end_blk | apply end_seq_exit | apply end_seq_ret | apply end_blk_ret | apply run_skip | apply run_ret | apply run_exit | (apply run_region (by decide); (simp only [go_sem, h0, h1, h5, e1, e2, e3, l1, l2, ew, Int.toNat_natCast]; rfl)) | (refine run_cond_t ?_ ?_; · simp only [go_sem]) | (refine run_cond_f ?_ ?_; · simp only [go_sem]))
      refine end_nil ⟨k - 1, by omega, i + 1, by omega, ?_, ?_, ?_, by rw [t1, t2, he], rfl, rfl, rfl⟩
      · simp only [go_sem, h0]
      · simp only [go_sem, h1]
      · simp only [go_sem, ew]
    · repeat (first | apply run_seq | apply run_block | apply end_seq | apply end_blk_hit | apply end_blk_miss rfl | apply end_blk | apply end_seq_exit | apply end_seq_ret | apply end_blk_ret | apply run_skip | apply run_ret | apply run_exit | (apply run_region (by decide); (simp only [go_sem, h0, h1, h5, e1, e2, e3, l1, l2, hpq, ew, Int.toNat_natCast]; rfl)) | (refine run_cond_t ?_ ?_; · simp only [go_sem]) | (refine run_cond_f ?_ ?_; · simp only [go_sem]))
      refine end_nil ⟨rfl, rfl, rfl, .inr ⟨rfl, ?_, hne hpq⟩⟩
      simp only [go_sem]

/-- pairs: are these slices of pairs equal? -/
theorem pairs33 {h : SHeap} {v w : Value} {a b : List (Int × Int)} (hv : PS h v a) (hw : PS h w b) (hs : a.length < 4611686018427387904) : M.call 33 [v, w] h = some (.bool (decide (a = b)), h, []) := by
  have hv0 := hv
  have hw0 := hw
  obtain ⟨va, ca, rfl, ka⟩ := hv
  obtain ⟨vb, cb, rfl, kb⟩ := hw
  refine call_run sf33 rfl rfl rfl ?_
  unfold sf33
  by_cases hab : a.length = b.length
  · have e1 : ((a.length : Int) = b.length) := by omega
    repeat (first | apply run_seq | apply run_block | apply end_seq | apply end_blk_hit | apply end_blk_miss rfl | apply end_blk | apply end_seq_exit | apply end_seq_ret | apply end_blk_ret | apply run_skip | apply run_ret | apply run_exit | (apply run_region (by decide); (simp only [go_sem, argR, e1]; rfl)) | (refine run_cond_t ?_ ?_; · simp only [go_sem]) | (refine run_cond_f ?_ ?_; · simp only [go_sem]))
    refine run_loop (pairs_loop _ hv0 hw0 hab hs a.length _ _ _ _ ⟨0, by omega, by simp only [go_sem, argR, e1], by simp only [go_sem, argR], by simp only [go_sem], by simp, rfl, rfl, rfl⟩) ?_
    rintro ex ρ' ms' h1 d1 ⟨rfl, rfl, rfl, ⟨rfl, he⟩ | ⟨rfl, h4, he⟩⟩
    · rw [decide_eq_true he]
      repeat (first | apply run_seq | apply run_block | apply end_seq | apply end_blk_hit | apply end_blk_miss rfl | apply end_blk | apply end_seq_exit | apply end_seq_ret | apply end_blk_ret | apply run_skip | apply run_ret | apply run_exit | (apply run_region (by decide); (simp only [go_sem]; rfl)) | (refine run_cond_t ?_ ?_; · simp only [go_sem]) | (refine run_cond_f ?_ ?_; · simp only [go_sem]))
      exact end_nil (q_ret1 _ (by simp only [go_sem]) rfl (take_self _))
    · rw [decide_eq_false he]
      repeat (first | apply run_seq | apply run_block | apply end_seq | apply end_blk_hit | apply end_blk_miss rfl | apply end_blk | apply end_seq_exit | apply end_seq_ret | apply end_blk_ret | apply run_skip | apply run_ret | apply run_exit | (apply run_region (by decide); (simp only [go_sem]; rfl)) | (refine run_cond_t ?_ ?_; · simp only [go_sem]) | (refine run_cond_f ?_ ?_; · simp only [go_sem]))
      exact end_nil (q_ret1 _ h4 rfl (take_self _))
  · have e1 : ¬ ((a.length : Int) = b.length) := by omega
    have he : a ≠ b := fun e => hab (by rw [e])
    rw [decide_eq_false he]
    repeat (first | apply run_seq | apply run_block | apply end_seq | apply end_blk_hit | apply end_blk_miss rfl | apply end_blk | apply end_seq_exit | apply end_seq_ret | apply end_blk_ret | apply run_skip | apply run_ret | apply run_exit | (apply run_region (by decide); (simp only [go_sem, argR, e1]; rfl)) | (refine run_cond_t ?_ ?_; · simp only [go_sem]) | (refine run_cond_f ?_ ?_; · simp only [go_sem]))
    exact end_nil (q_ret1 _ (by simp only [go_sem]) rfl (take_self _))

end Go.Proofs.Ytecncmmkghmojaa.Sh

