/- Rests of the document. -/
import Derived.Test.YtdmfhdnpakgkpaaDoorOa
import Derived.Test.YtdmfhdnpakgkpaaDoorH16
import Derived.Test.YtdmfhdnpakgkpaaDoorNe
import Derived.Test.YtdmfhdnpakgkpaaDoorGi
import Derived.Test.YtdmfhdnpakgkpaaDoorQz
import Derived.Test.YtdmfhdnpakgkpaaDoorH18
import Derived.Test.YtdmfhdnpakgkpaaDoorH15
set_option linter.all false
/- Rests of the document. -/
namespace Go.Proofs.YtdmfhdnpakgkpaaDoor.Sh
open Go
set_option maxRecDepth 100000
set_option maxHeartbeats 4000000

/-- the least number whose square is not below -/
def lim (N : Nat) : Nat := ((List.range (N + 1)).find? (fun l => decide (N ≤ l * l))).getD 0
def zP (l i j : Nat) : Int × Int := ((i : Int) - l, (j : Int) - l)
def gR (b : Int × Int) (l i j : Nat) : List (Int × Int) := if restP (zP l i j) b = zP l i j then [zP l i j] else []
def rowR (b : Int × Int) (l i m : Nat) : List (Int × Int) := (List.range m).flatMap (gR b l i)
def listR (b : Int × Int) (l m : Nat) : List (Int × Int) := (List.range m).flatMap fun i => rowR b l i (2 * l + 1)
/-- the rests of a number, in order -/
def restsL (b : Int × Int) : List (Int × Int) := listR b (lim (nrm b).toNat) (2 * lim (nrm b).toNat + 1)
theorem mem_gR {b : Int × Int} {l i j : Nat} {z : Int × Int} : z ∈ gR b l i j ↔ z = zP l i j ∧ restP z b = z := by
  unfold gR; split
  · rename_i h; simp only [List.mem_singleton]
    constructor
    · intro e; subst e; exact ⟨rfl, h⟩
    · exact fun e => e.1
  · rename_i h
    constructor
    · intro e; exact absurd e List.not_mem_nil
    · rintro ⟨rfl, e⟩; exact (h e).elim
theorem mem_listR {b : Int × Int} {l : Nat} {z : Int × Int} : z ∈ listR b l (2 * l + 1) ↔ Bd l z ∧ restP z b = z := by
  unfold listR rowR
  simp only [List.mem_flatMap, List.mem_range, mem_gR]
  constructor
  · rintro ⟨i, hi, j, hj, rfl, h⟩
    exact ⟨⟨by simp only [zP]; omega, by simp only [zP]; omega, by simp only [zP]; omega, by simp only [zP]; omega⟩, h⟩
  · rintro ⟨⟨h1, h2, h3, h4⟩, h⟩
    refine ⟨(z.1 + l).toNat, by omega, (z.2 + l).toNat, by omega, ?_, h⟩
    unfold zP
    refine Prod.ext ?_ ?_ <;> dsimp only <;> omega
theorem len_listR (b : Int × Int) (l m : Nat) : (listR b l m).length ≤ m * (2 * l + 1) := by
  refine fm_len _ _ (fun i => ?_) m
  have : (rowR b l i (2 * l + 1)).length ≤ (2 * l + 1) * 1 := fm_len _ 1 (fun j => by unfold gR; split <;> simp) _
  omega
theorem cP_lt (x y : Int × Int) : cP x y < 0 ↔ x.1 < y.1 ∨ (x.1 = y.1 ∧ x.2 < y.2) := by
  unfold cP
  rw [lexC_lt, lexC_lt]
  have : ¬ lexC [] [] < 0 := lexC_irr []
  constructor
  · rintro (h | ⟨h1, h | h⟩)
    · exact .inl h
    · exact .inr ⟨h1, h⟩
    · exact (this h.2).elim
  · rintro (h | ⟨h1, h⟩)
    · exact .inl h
    · exact .inr ⟨h1, .inl h⟩
theorem lt_listR (b : Int × Int) (l m : Nat) : (listR b l m).Pairwise (fun x y => cP x y < 0) := by
  unfold listR
  refine pw_range _ _ (fun i _ => ?_) (fun i i' h _ x hx y hy => ?_)
  · unfold rowR
    refine pw_range _ _ (fun j _ => ?_) (fun j j' h _ x hx y hy => ?_)
    · unfold gR; split <;> simp
    · obtain ⟨rfl, _⟩ := mem_gR.1 hx
      obtain ⟨rfl, _⟩ := mem_gR.1 hy
      rw [cP_lt]
      exact .inr ⟨rfl, by simp only [zP]; omega⟩
  · unfold rowR at hx hy
    obtain ⟨j, _, hx⟩ := List.mem_flatMap.1 hx
    obtain ⟨j', _, hy⟩ := List.mem_flatMap.1 hy
    obtain ⟨rfl, _⟩ := mem_gR.1 hx
    obtain ⟨rfl, _⟩ := mem_gR.1 hy
    rw [cP_lt]
    exact .inl (by simp only [zP]; omega)
theorem sq_bd {x L : Int} (hL : 0 ≤ L) (h : x * x ≤ L * L) : -L ≤ x ∧ x ≤ L := by
  have h1 : x.natAbs * x.natAbs ≤ L.natAbs * L.natAbs := by
    have e1 := Int.natAbs_mul_self (a := x)
    have e2 := Int.natAbs_mul_self (a := L)
    omega
  have h2 := Nat.mul_self_le_mul_self_iff.1 h1
  omega
theorem lim_le {N : Nat} (hN : N ≤ 500) : lim N ≤ 23 ∧ N ≤ lim N * lim N := by
  have : ∀ N, N < 501 → lim N ≤ 23 ∧ N ≤ lim N * lim N := by decide +kernel
  exact this N (by omega)
/-- the program's rests are the document's -/
theorem mem_rests {b : Int × Int} (h0 : b ≠ (0, 0)) (hN : (nrm b).toNat ≤ 500) {z : Int × Int} : z ∈ restsL b ↔ ∃ x y : Nat, x < (nrm b).toNat ∧ y < (nrm b).toNat ∧ restP ((x : Int), (y : Int)) b = z := by
  unfold restsL
  rw [mem_listR]
  have hn := nrm_pos h0
  have hn0 := nrm_nonneg b
  have hNe : ((nrm b).toNat : Int) = nrm b := Int.toNat_of_nonneg hn0
  obtain ⟨_, hl⟩ := lim_le hN
  constructor
  · rintro ⟨_, h⟩
    refine ⟨(z.1 % nrm b).toNat, (z.2 % nrm b).toNat, ?_, ?_, ?_⟩
    · have := Int.emod_lt_of_pos z.1 (show 0 < nrm b by omega)
      have := Int.emod_nonneg z.1 (show nrm b ≠ 0 by omega)
      omega
    · have := Int.emod_lt_of_pos z.2 (show 0 < nrm b by omega)
      have := Int.emod_nonneg z.2 (show nrm b ≠ 0 by omega)
      omega
    · have e1 := Int.emod_nonneg z.1 (show nrm b ≠ 0 by omega)
      have e2 := Int.emod_nonneg z.2 (show nrm b ≠ 0 by omega)
      rw [Int.toNat_of_nonneg e1, Int.toNat_of_nonneg e2]
      have key : (z.1 % nrm b, z.2 % nrm b) = addP z (mulP (mulP (-(z.1 / nrm b), -(z.2 / nrm b)) (conjP b)) b) := by
        rw [mul_assoc', mul_comm' (conjP b) b, nrm_conj_mul]
        have d1 := Int.mul_ediv_add_emod z.1 (nrm b)
        have d2 := Int.mul_ediv_add_emod z.2 (nrm b)
        unfold addP mulP
        refine Prod.ext ?_ ?_ <;> dsimp only <;> grind
      rw [key, rest_shift _ h0, h]
  · rintro ⟨x, y, hx, hy, rfl⟩
    refine ⟨?_, rest_rest _ h0⟩
    have hr := rest_nrm (x := ((x : Int), (y : Int))) (y := b) (by omega)
    generalize restP ((x : Int), (y : Int)) b = r at *
    have hl' : nrm b ≤ (lim (nrm b).toNat : Int) * lim (nrm b).toNat := by
      rw [← Int.natCast_mul]; omega
    have hL0 : (0 : Int) ≤ (lim (nrm b).toNat : Int) := by omega
    generalize (lim (nrm b).toNat : Int) = L at *
    have hrr := nrm_nonneg r
    have h1 : nrm r ≤ L * L := by omega
    unfold nrm at h1
    have q1 : 0 ≤ r.1 * r.1 := by
      rcases Int.le_total 0 r.1 with h | h
      · exact Int.mul_nonneg h h
      · exact Int.mul_nonneg_of_nonpos_of_nonpos h h
    have q2 : 0 ≤ r.2 * r.2 := by
      rcases Int.le_total 0 r.2 with h | h
      · exact Int.mul_nonneg h h
      · exact Int.mul_nonneg_of_nonpos_of_nonpos h h
    obtain ⟨a1, a2⟩ := sq_bd hL0 (show r.1 * r.1 ≤ L * L by omega)
    obtain ⟨a3, a4⟩ := sq_bd hL0 (show r.2 * r.2 ≤ L * L by omega)
    exact ⟨a1, a2, a3, a4⟩
end Go.Proofs.YtdmfhdnpakgkpaaDoor.Sh


/- Rests of the document: the walk. -/
namespace Go.Proofs.YtdmfhdnpakgkpaaDoor.Sh
open Go
set_option maxRecDepth 100000
set_option maxHeartbeats 4000000

theorem pair_get {H : SHeap} {o : SO} {h' : SHeap} {b : Int × Int} {el : TypeId} (ho : o = .cells [.int .i64 b.1, .int .i64 b.2] el true 0 []) (hs : h'[H.length]? = (H ++ [o])[H.length]?) (g : SHeap) : loadS (h' ++ g) (some 2) (.pointer (some ⟨H.length, 0, none⟩)) = some (.agg #[.int .i64 b.1, .int .i64 b.2]) := by
  rw [app_get0] at hs
  have hlt : H.length < h'.length := by
    by_cases c : H.length < h'.length
    · exact c
    · rw [List.getElem?_eq_none (by omega)] at hs; cases hs
  rw [load_rdON, List.getElem?_append_left hlt, hs, ho]
  rfl
end Go.Proofs.YtdmfhdnpakgkpaaDoor.Sh


/- Rests: the map of the rests. -/
namespace Go.Proofs.YtdmfhdnpakgkpaaDoor.Sh
open Go
set_option maxRecDepth 100000
set_option maxHeartbeats 4000000

/-- the map lies behind the number's box -/
structure MS (h : SHeap) (o : SO) (h' : SHeap) (S : List (Int × Int)) : Prop where
  map : h'[h.length + 1]? = some (.map true (S.map ent))
  same : ∀ j, j < h.length + 1 → h'[j]? = (h ++ [o])[j]?
theorem MS.lt {h h' : SHeap} {o : SO} {S : List (Int × Int)} (A : MS h o h' S) : h.length + 1 < h'.length := (List.getElem?_eq_some_iff.1 A.map).1
theorem MS.upd {h h' : SHeap} {o : SO} {S S' : List (Int × Int)} (A : MS h o h' S) (g : SHeap) : MS h o ((h' ++ g).set (h.length + 1) (.map true (S'.map ent))) S' := by
  have := A.lt
  refine ⟨?_, fun j hj => ?_⟩
  · rw [List.getElem?_set_self (by simp; omega)]
  · rw [List.getElem?_set_ne (by omega), List.getElem?_append_left (by omega)]
    exact A.same j hj
/-- what the map holds so far -/
def SI (b : Int × Int) (N i j : Nat) (S : List (Int × Int)) : Prop := S.Nodup ∧ ∀ p, p ∈ S ↔ ∃ x y : Nat, (x < i ∨ x = i ∧ y < j) ∧ y < N ∧ restP ((x : Int), (y : Int)) b = p
theorem SI.step {b : Int × Int} {N i j : Nat} {S : List (Int × Int)} (h : SI b N i j S) (hj : j < N) : SI b N i (j + 1) (addE S (restP ((i : Int), (j : Int)) b)) := by
  refine ⟨addE_nodup h.1, fun p => ?_⟩
  rw [addE_mem, h.2 p]
  constructor
  · rintro (⟨x, y, h1, h2, h3⟩ | rfl)
    · exact ⟨x, y, by omega, h2, h3⟩
    · exact ⟨i, j, by omega, hj, rfl⟩
  · rintro ⟨x, y, h1, h2, h3⟩
    by_cases c : x = i ∧ y = j
    · obtain ⟨rfl, rfl⟩ := c
      exact .inr h3.symm
    · exact .inl ⟨x, y, by omega, h2, h3⟩
theorem SI.row {b : Int × Int} {N i : Nat} {S : List (Int × Int)} (h : SI b N i N S) : SI b N (i + 1) 0 S := by
  refine ⟨h.1, fun p => ?_⟩
  rw [h.2 p]
  constructor
  · rintro ⟨x, y, h1, h2, h3⟩; exact ⟨x, y, by omega, h2, h3⟩
  · rintro ⟨x, y, h1, h2, h3⟩; exact ⟨x, y, by omega, h2, h3⟩

theorem mcol_loop (cx : Cx) {b : Int × Int} (hb : Bd 30000 b) (h0 : b ≠ (0, 0)) {N i : Nat} (hN : N ≤ 500) (hi : i < N) (h : SHeap) (o : SO) (ho : o = .cells [.int .i64 b.1, .int .i64 b.2] 34 true 0 []) : ∀ k ρ ms h' d', (∃ (j : Nat) (S : List (Int × Int)), j + k = N ∧ ρ 1 = .pointer (some ⟨h.length, 0, none⟩) ∧ ρ 5 = .int .i64 N ∧ ρ 6 = .map (some (h.length + 1)) ∧ ρ 7 = .int .i64 i ∧ ρ 27 = .int .i64 N ∧ ρ 28 = .int .i64 i ∧ ρ 31 = .int .i64 N ∧ ρ 32 = .int .i64 j ∧ SI b N i j S ∧ MS h o h' S ∧ ms = [] ∧ d' = []) →
    LoopW M cx 6 sf25L1 ρ ms h' d' (fun ex ρ' ms' h' d' => ex = .exit 2 ∧ ms' = [] ∧ d' = [] ∧ ∃ S, ρ' 1 = .pointer (some ⟨h.length, 0, none⟩) ∧ ρ' 5 = .int .i64 N ∧ ρ' 6 = .map (some (h.length + 1)) ∧ ρ' 27 = .int .i64 N ∧ ρ' 28 = .int .i64 i ∧ SI b N i N S ∧ MS h o h' S) := by
  refine loop_run _ ?_
  rintro k ρ ms h' d' ⟨j, S, hj, r1, r5, r6, r7, r27, r28, r31, r32, I, A, rfl, rfl⟩
  unfold sf25L1
  by_cases c : k = 0
  · have e1 : ¬ ((j : Int) < N) := by omega
    repeat (first | apply run_seq | apply run_block | apply end_seq | apply end_blk_hit | apply end_blk_miss rfl | apply end_blk | apply end_seq_exit | apply end_seq_ret | apply end_blk_ret | apply run_skip | apply run_ret | apply run_exit | (apply run_region (by decide); (simp (maxSteps := 9999999) only [go_sem, r31, r32, e1]; rfl)) | (apply run_regionN (by decide); (simp (maxSteps := 9999999) only [go_sem, r31, r32, e1]; rfl)) | (refine run_cond_t ?_ ?_; · simp only [go_sem]) | (refine run_cond_f ?_ ?_; · simp only [go_sem]))
    refine end_nil ⟨rfl, rfl, rfl, S, by simp (maxSteps := 9999999) only [go_sem, r1], by simp (maxSteps := 9999999) only [go_sem, r5], by simp (maxSteps := 9999999) only [go_sem, r6], by simp (maxSteps := 9999999) only [go_sem, r27], by simp (maxSteps := 9999999) only [go_sem, r28], ?_, A⟩
    have : j = N := by omega
    rw [this] at I; exact I
  · have e1 : ((j : Int) < N) := by omega
    have ew : IntKind.i64.wrap ((j : Int) + 1) = ((j + 1 : Nat) : Int) := by rw [wrap64 (by omega) (by omega)]; rfl
    have hg := pair_get ho (A.same h.length (by omega)) []
    rw [List.append_nil] at hg
    have c60 : ∀ h, M.call 60 [.agg #[.int .i64 i, .int .i64 j], .agg #[.int .i64 b.1, .int .i64 b.2]] h = _ := fun h => quo60 (x := ((i : Int), (j : Int))) (y := b) (X := 500) (Y := 30000) ⟨by dsimp only; omega, by dsimp only; omega, by dsimp only; omega, by dsimp only; omega⟩ hb (by decide) (by decide) (by decide) h0 h
    have I2 := I.step (show j < N by omega)
    generalize restP ((i : Int), (j : Int)) b = r at *
    generalize quoP ((i : Int), (j : Int)) b = q at *
    have up := updV_ok cx (q := .agg [.int, .int]) (r := h.length + 1) (k := .agg #[.int .i64 r.1, .int .i64 r.2]) (v := .bool true) (es := S.map ent) (h := h' ++ [.cells [.int .i64 q.1, .int .i64 q.2] 68 true 0 [], .cells [.int .i64 r.1, .int .i64 r.2] 68 true 0 []]) [] rfl (by rw [List.getElem?_append_left A.lt]; exact A.map) rfl (upd_ins r S)
    have A2 := A.upd (S' := addE S r) [.cells [.int .i64 q.1, .int .i64 q.2] 68 true 0 [], .cells [.int .i64 r.1, .int .i64 r.2] 68 true 0 []]
    repeat (first | apply run_seq | apply run_block | apply end_seq | apply end_blk_hit | apply end_blk_miss rfl | apply end_blk | apply end_seq_exit | apply end_seq_ret | apply end_blk_ret | apply run_skip | apply run_ret | apply run_exit | (apply run_region (by decide); (simp (maxSteps := 9999999) only [go_sem, r1, r5, r6, r7, r31, r32, e1, hg, c60, up, ew]; rfl)) | (apply run_regionN (by decide); (simp (maxSteps := 9999999) only [go_sem, r1, r5, r6, r7, r31, r32, e1, hg, c60, up, ew]; rfl)) | (refine run_cond_t ?_ ?_; · simp only [go_sem]) | (refine run_cond_f ?_ ?_; · simp only [go_sem]))
    exact end_nil ⟨k - 1, by omega, j + 1, _, by omega, by simp (maxSteps := 9999999) only [go_sem, r1], by simp (maxSteps := 9999999) only [go_sem, r5], by simp (maxSteps := 9999999) only [go_sem, r6], by simp (maxSteps := 9999999) only [go_sem, r7], by simp (maxSteps := 9999999) only [go_sem, r27], by simp (maxSteps := 9999999) only [go_sem, r28], by simp (maxSteps := 9999999) only [go_sem, r31], by simp (maxSteps := 9999999) only [go_sem, ew], I2, A2, rfl, rfl⟩
theorem mrow_loop (cx : Cx) {b : Int × Int} (hb : Bd 30000 b) (h0 : b ≠ (0, 0)) {N : Nat} (hN : N ≤ 500) (h : SHeap) (o : SO) (ho : o = .cells [.int .i64 b.1, .int .i64 b.2] 34 true 0 []) : ∀ k ρ ms h' d', (∃ (i : Nat) (S : List (Int × Int)), i + k = N ∧ ρ 1 = .pointer (some ⟨h.length, 0, none⟩) ∧ ρ 5 = .int .i64 N ∧ ρ 6 = .map (some (h.length + 1)) ∧ ρ 27 = .int .i64 N ∧ ρ 28 = .int .i64 i ∧ SI b N i 0 S ∧ MS h o h' S ∧ ms = [] ∧ d' = []) →
    LoopW M cx 6 sf25L2 ρ ms h' d' (fun ex ρ' ms' h' d' => ex = .exit 0 ∧ ms' = [] ∧ d' = [] ∧ ∃ S, ρ' 6 = .map (some (h.length + 1)) ∧ SI b N N 0 S ∧ MS h o h' S) := by
  refine loop_run _ ?_
  rintro k ρ ms h' d' ⟨i, S, hi, r1, r5, r6, r27, r28, I, A, rfl, rfl⟩
  unfold sf25L2
  by_cases c : k = 0
  · have e1 : ¬ ((i : Int) < N) := by omega
    repeat (first | apply run_seq | apply run_block | apply end_seq | apply end_blk_hit | apply end_blk_miss rfl | apply end_blk | apply end_seq_exit | apply end_seq_ret | apply end_blk_ret | apply run_skip | apply run_ret | apply run_exit | (apply run_region (by decide); (simp (maxSteps := 9999999) only [go_sem, r27, r28, e1]; rfl)) | (apply run_regionN (by decide); (simp (maxSteps := 9999999) only [go_sem, r27, r28, e1]; rfl)) | (refine run_cond_t ?_ ?_; · simp only [go_sem]) | (refine run_cond_f ?_ ?_; · simp only [go_sem]))
    refine end_nil ⟨rfl, rfl, rfl, S, by simp (maxSteps := 9999999) only [go_sem, r6], ?_, A⟩
    have : i = N := by omega
    rw [this] at I; exact I
  · have e1 : ((i : Int) < N) := by omega
    have ew : IntKind.i64.wrap ((i : Int) + 1) = ((i + 1 : Nat) : Int) := by rw [wrap64 (by omega) (by omega)]; rfl
    repeat (first | apply run_seq | apply run_block | apply end_seq | apply end_blk_hit | apply end_blk_miss rfl | apply end_blk | apply end_seq_exit | apply end_seq_ret | apply end_blk_ret | apply run_skip | apply run_ret | apply run_exit | (apply run_region (by decide); (simp (maxSteps := 9999999) only [go_sem, r5, r27, r28, e1]; rfl)) | (apply run_regionN (by decide); (simp (maxSteps := 9999999) only [go_sem, r5, r27, r28, e1]; rfl)) | (refine run_cond_t ?_ ?_; · simp only [go_sem]) | (refine run_cond_f ?_ ?_; · simp only [go_sem]))
    refine run_loop (mcol_loop cx hb h0 hN (i := i) (by omega) h o ho N _ _ _ _ ⟨0, S, by omega, by simp (maxSteps := 9999999) only [go_sem, r1], by simp (maxSteps := 9999999) only [go_sem, r5], by simp (maxSteps := 9999999) only [go_sem, r6], by simp (maxSteps := 9999999) only [go_sem], by simp (maxSteps := 9999999) only [go_sem, r27], by simp (maxSteps := 9999999) only [go_sem, r28], by simp (maxSteps := 9999999) only [go_sem, r5], by (simp (maxSteps := 9999999) only [go_sem]) <;> rfl, I, A, rfl, rfl⟩) ?_
    rintro ex ρ' ms' h1 d1 ⟨rfl, rfl, rfl, S2, k1, k5, k6, k27, k28, I2, A2⟩
    repeat (first | apply run_seq | apply run_block | apply end_seq | apply end_blk_hit | apply end_blk_miss rfl | apply end_blk | apply end_seq_exit | apply end_seq_ret | apply end_blk_ret | apply run_skip | apply run_ret | apply run_exit | (apply run_region (by decide); (simp (maxSteps := 9999999) only [go_sem, k28, ew]; rfl)) | (apply run_regionN (by decide); (simp (maxSteps := 9999999) only [go_sem, k28, ew]; rfl)) | (refine run_cond_t ?_ ?_; · simp only [go_sem]) | (refine run_cond_f ?_ ?_; · simp only [go_sem]))
    exact end_nil ⟨k - 1, by omega, i + 1, S2, by omega, by simp (maxSteps := 9999999) only [go_sem, k1], by simp (maxSteps := 9999999) only [go_sem, k5], by simp (maxSteps := 9999999) only [go_sem, k6], by simp (maxSteps := 9999999) only [go_sem, k27], by simp (maxSteps := 9999999) only [go_sem, ew], I2.row, A2, rfl, rfl⟩
end Go.Proofs.YtdmfhdnpakgkpaaDoor.Sh


/- Rests: the range over the map, and the whole. -/
namespace Go.Proofs.YtdmfhdnpakgkpaaDoor.Sh
open Go
set_option maxRecDepth 100000
set_option maxHeartbeats 4000000

theorem AccS.setIter {H h : SHeap} {v : Value} {cs : List Value} {n s : Nat} {el : TypeId} (A : AccS H h v cs n s el) {ib mb k : Nat} {seen : List Nat} (hb : h[ib]? = some (.iter mb seen k)) (hge : H.length ≤ ib) (x : SO) : AccS H (h.set ib x) v cs n s el := by
  refine ⟨?_, by simp [A.le], fun j hj => by rw [List.getElem?_set_ne (by omega)]; exact A.same j hj⟩
  have e0 := A.acc
  refine A.acc.keep (fun b e => ?_)
  rw [List.getElem?_set_ne]
  rintro rfl
  rcases e0 with ⟨_, e1, _⟩ | ⟨b', old, e1, e2, _⟩
  · rw [e] at e1; cases e1
  · rw [e] at e1
    cases e1
    rw [hb] at e2; cases e2
def left (n : Nat) (seen : List Nat) : List Nat := (List.range n).filter (fun i => !(seen.contains i))
theorem left_less {n i : Nat} {seen : List Nat} (hi : i < n) (hs : i ∉ seen) : (left n (seen ++ [i])).length < (left n seen).length := by
  have e : left n (seen ++ [i]) = (left n seen).filter (fun j => !(decide (j = i))) := by
    unfold left
    rw [List.filter_filter]
    apply List.filter_congr
    intro j _
    by_cases c : j ∈ seen <;> by_cases d : j = i <;> simp [c, d]
  rw [e]
  refine List.length_filter_lt_length_iff_exists.2 ⟨i, ?_, by simp⟩
  unfold left
  rw [List.mem_filter]
  exact ⟨List.mem_range.2 hi, by simpa using hs⟩
/-- the elements that were seen -/
def seenP (S : List (Int × Int)) (seen : List Nat) : List (Int × Int) := seen.map (fun i => S.getD i (0, 0))
theorem range_loop (cx : Cx) {S : List (Int × Int)} {n : Nat} (hn : S.length = n) (hn2 : n ≤ 1000000) (h : SHeap) (o : SO) (ib : Nat) (hib : h.length + 1 < ib) : ∀ k ρ ms h' d', (∃ (seen : List Nat) (v : Value), (left n seen).length ≤ k ∧ ρ 48 = .pointer (some ⟨ib, 0, none⟩) ∧ ρ 11 = v ∧ seen.Nodup ∧ (∀ i ∈ seen, i < n) ∧ seen.length ≤ n ∧ h'[ib]? = some (.iter (h.length + 1) seen n) ∧ h'[h.length + 1]? = some (.map true (S.map ent)) ∧ AccS (h ++ [o]) h' v (prs (seenP S seen)) seen.length 2 34 ∧ ms = [] ∧ d' = []) →
    RunX M cx 6 (.loop sf25L0) ρ ms h' d' (fun ex ρ' ms' h' d' => ex = .exit 4 ∧ ms' = [] ∧ d' = [] ∧ ∃ (seen : List Nat) (v : Value), ρ' 11 = v ∧ seen.Nodup ∧ (∀ i, i < n ↔ i ∈ seen) ∧ AccS (h ++ [o]) h' v (prs (seenP S seen)) seen.length 2 34) := by
  refine x_loop rfl _ ?_
  rintro k ρ ms h' d' ⟨seen, v, hk, r48, r11, hnd, hlt, hle, hit, hmap, A, rfl, rfl⟩
  unfold sf25L0
  refine x_seq rfl (x_region rfl (by decide) ⟨rfl, ib, h.length + 1, seen, n, true, S.map ent, by simp (maxSteps := 9999999) only [go_sem, r48], hit, hmap, by simpa using hn, fun hall => ?_, fun i e hi he => ?_⟩)
  · refine ⟨rfl, .bool false, h', [], by simp (maxSteps := 9999999) only [go_sem], ?_⟩
    refine .inl ⟨rfl, x_seq rfl (x_plain rfl ?_)⟩
    repeat (first | apply run_seq | apply run_block | apply end_seq | apply end_blk_hit | apply end_blk_miss rfl | apply end_blk | apply end_seq_exit | apply end_seq_ret | apply end_blk_ret | apply run_skip | apply run_ret | apply run_exit | (apply run_region (by decide); (simp (maxSteps := 9999999) only [go_sem]; rfl)) | (apply run_regionN (by decide); (simp (maxSteps := 9999999) only [go_sem]; rfl)) | (refine run_cond_t ?_ ?_; · simp only [go_sem]) | (refine run_cond_f ?_ ?_; · simp only [go_sem]))
    exact end_nil (.inr ⟨nofun, .inr ⟨nofun, rfl, rfl, rfl, seen, v, by simp (maxSteps := 9999999) only [go_sem, r11], hnd, fun i => ⟨hall i, hlt i⟩, A⟩⟩)
  · obtain ⟨p, hp, rfl⟩ : ∃ p, S[i]? = some p ∧ e = ent p := by
      rw [List.getElem?_map] at he
      cases hq : S[i]? with
      | none => rw [hq] at he; cases he
      | some p => rw [hq] at he; cases he; exact ⟨p, rfl, rfl⟩
    have hin : i < n := by
      have := (List.getElem?_eq_some_iff.1 hp).1
      omega
    have hget : S.getD i (0, 0) = p := by rw [List.getD_eq_getElem?_getD, hp]; rfl
    have hl1 := left_less hin hi
    have A1 := A.setIter hit (by simp; omega) (.iter (h.length + 1) (seen ++ [i]) n)
    have hlt' := (List.getElem?_eq_some_iff.1 hit).1
    have hit1 : (h'.set ib (.iter (h.length + 1) (seen ++ [i]) n))[ib]? = some (.iter (h.length + 1) (seen ++ [i]) n) := List.getElem?_set_self hlt'
    have hmap1 : (h'.set ib (.iter (h.length + 1) (seen ++ [i]) n))[h.length + 1]? = some (.map true (S.map ent)) := by rw [List.getElem?_set_ne (by omega)]; exact hmap
    generalize h'.set ib (.iter (h.length + 1) (seen ++ [i]) n) = h1 at *
    refine ⟨rfl, .bool true, h1, [], by simp (maxSteps := 9999999) only [go_sem], ?_⟩
    refine .inl ⟨rfl, x_seq rfl (x_plain rfl ?_)⟩
    repeat (first | apply run_seq | apply run_block | apply end_seq | apply end_blk_hit | apply end_blk_miss rfl | apply end_blk | apply end_seq_exit | apply end_seq_ret | apply end_blk_ret | apply run_skip | apply run_ret | apply run_exit | (apply run_region (by decide); (simp (maxSteps := 9999999) only [go_sem]; rfl)) | (apply run_regionN (by decide); (simp (maxSteps := 9999999) only [go_sem]; rfl)) | (refine run_cond_t ?_ ?_; · simp only [go_sem]) | (refine run_cond_f ?_ ?_; · simp only [go_sem]))
    refine end_nil (.inl ⟨rfl, x_block rfl (x_seq rfl (x_region rfl (by decide) ⟨rfl, ib, h.length + 1, seen ++ [i], n, true, S.map ent, i, ent p, by simp (maxSteps := 9999999) only [go_sem, r48], hit1, hmap1, by simpa using hn, by simp, by rw [List.getElem?_map, hp]; rfl, ?_⟩))⟩)
    have hlt1 := (List.getElem?_eq_some_iff.1 hit1).1
    have hmlt := (List.getElem?_eq_some_iff.1 hmap1).1
    have hsl : seen.length < n := by
      have : (seen ++ [i]).length ≤ n := by
        have hnd2 : (seen ++ [i]).Nodup := by
          rw [List.nodup_append]
          exact ⟨hnd, by simp, fun a ha b hb e => by simp at hb; subst hb; subst e; exact hi ha⟩
        have hsub : (seen ++ [i]) ⊆ List.range n := fun a ha => by
          rw [List.mem_range]
          rcases List.mem_append.1 ha with ha | ha
          · exact hlt a ha
          · simp at ha; omega
        have := hnd2.length_le_of_subset hsub
        simpa using this
      simp at this; omega
    obtain ⟨H2, v2, ap, -, A2, hle2, keep⟩ := ((A1.app [.cells [.int .i64 p.1, .int .i64 p.2] 68 true 0 []]).app [.cells [.int .i64 p.1, .int .i64 p.2] 34 true 0 []]).push (bytes := 16) (new := [.int .i64 p.1, .int .i64 p.2]) (by rw [app_get0]; rfl) rfl rfl (by decide) rfl (by decide) (by omega)
    have hs : seenP S (seen ++ [i]) = seenP S seen ++ [p] := by unfold seenP; rw [List.map_append, List.map_singleton, hget]
    have hpp : prs (seenP S (seen ++ [i])) = prs (seenP S seen) ++ [.int .i64 p.1, .int .i64 p.2] := by rw [hs, prs_app]; rfl
    have hl' : (seen ++ [i]).length = seen.length + 1 := by simp
    rw [← hpp, ← hl'] at A2
    have nb : ∀ (j : Nat) (x : SO), h1[j]? = some x → (∀ cs el pf own old, x ≠ SO.cells cs el pf own old) → H2[j]? = some x := by
      intro j x hx hne
      have hj := (List.getElem?_eq_some_iff.1 hx).1
      rw [keep j (by simp; omega) (fun b e => ?_)]
      · rw [List.getElem?_append_left (by simp; omega), List.getElem?_append_left hj]; exact hx
      · rintro rfl
        rcases A1.acc with ⟨_, e1, _⟩ | ⟨b', old, e1, e2, _⟩
        · rw [e] at e1; cases e1
        · rw [e] at e1
          cases e1
          rw [hx] at e2
          cases e2
          exact hne _ _ _ _ _ rfl
    have hit2 := nb ib _ hit1 (fun _ _ _ _ _ => nofun)
    have hmap2 := nb (h.length + 1) _ hmap1 (fun _ _ _ _ _ => nofun)
    obtain ⟨va, vc, rfl⟩ := A.shape
    simp only [List.append_assoc, List.length_append, List.length_cons, List.length_nil, List.cons_append, List.nil_append, Nat.zero_add] at ap
    unfold ent
    refine ⟨rfl, .agg #[.int .i64 p.1, .int .i64 p.2], h1, [], by simp (maxSteps := 9999999) only [go_sem], ?_⟩
    refine ⟨rfl, .pointer (some ⟨h1.length, 0, none⟩), h1 ++ [.cells [.int .i64 0, .int .i64 0] 68 true 0 []], [], by (simp (maxSteps := 9999999) only [go_sem]) <;> rfl, ?_⟩
    refine ⟨rfl, udf, h1 ++ [.cells [.int .i64 p.1, .int .i64 p.2] 68 true 0 []], [], by (simp (maxSteps := 9999999) only [go_sem]) <;> rfl, ?_⟩
    refine .inl ⟨rfl, x_plain rfl ?_⟩
    repeat (first | apply run_seq | apply run_block | apply end_seq | apply end_blk_hit | apply end_blk_miss rfl | apply end_blk | apply end_seq_exit | apply end_seq_ret | apply end_blk_ret | apply run_skip | apply run_ret | apply run_exit | (apply run_region (by decide); (simp (maxSteps := 9999999) only [go_sem, r11, ap]; rfl)) | (apply run_regionN (by decide); (simp (maxSteps := 9999999) only [go_sem, r11, ap]; rfl)) | (refine run_cond_t ?_ ?_; · simp only [go_sem]) | (refine run_cond_f ?_ ?_; · simp only [go_sem]))
    refine end_nil (.inl ⟨rfl, k - 1, by omega, seen ++ [i], v2, by omega, by simp (maxSteps := 9999999) only [go_sem, r48], by simp (maxSteps := 9999999) only [go_sem], ?_, ?_, by omega, hit2, hmap2, A2, rfl, rfl⟩)
    · rw [List.nodup_append]
      exact ⟨hnd, by simp, fun a ha b hb e => by simp at hb; subst hb; subst e; exact hi ha⟩
    · intro a ha
      rcases List.mem_append.1 ha with ha | ha
      · exact hlt a ha
      · simp at ha; omega
end Go.Proofs.YtdmfhdnpakgkpaaDoor.Sh


/- Rests: the whole, and the machine that knows it. -/
namespace Go.Proofs.YtdmfhdnpakgkpaaDoor.Sh
open Go
set_option maxRecDepth 100000
set_option maxHeartbeats 4000000

theorem celP_len (x : Int × Int) : (celP x).length = 2 := rfl
theorem celP_sc (x : Int × Int) : (celP x).all sc = true := rfl
theorem prs_flat : ∀ l : List (Int × Int), prs l = l.flatMap celP
  | [] => rfl
  | p :: l => by
    show _ = celP p ++ l.flatMap celP
    rw [← prs_flat l]; rfl
theorem nodup_restsL (b : Int × Int) : (restsL b).Nodup := (lt_listR b _ _).imp (fun {x y} h e => by subst e; exact CP.irr x h)
theorem le_restsL (b : Int × Int) : (restsL b).Pairwise (fun x y => ¬ cP y x < 0) := (lt_listR b _ _).imp (fun {x y} h => CP.asym x y h)
theorem len_restsL {b : Int × Int} (hN : (nrm b).toNat ≤ 500) : (restsL b).length ≤ 2209 := by
  have h1 := (lim_le hN).1
  have h2 := len_listR b (lim (nrm b).toNat) (2 * lim (nrm b).toNat + 1)
  have h3 : (2 * lim (nrm b).toNat + 1) * (2 * lim (nrm b).toNat + 1) ≤ 47 * 47 := Nat.mul_le_mul (by omega) (by omega)
  unfold restsL; omega
/-- what Rests answers -/
def restsA (p : Int × Int) (h : SHeap) : Value × SHeap × List Nat :=
  if Bd 30000 p then (if nrm p < 1 ∨ 500 < nrm p then (.tuple #[.slice none 0 0, .int .i64 1], h, [])
    else (.tuple #[resV h (restsL p).length 2, .int .i64 0], resH h (prs (restsL p)) (restsL p).length 34, []))
  else (.tuple #[.slice none 0 0, .int .i64 70], h, [])

theorem rests25X (p : Int × Int) (h : SHeap) : RunX M ⟨h.length, none, 25⟩ sf25.dep sf25.body (argR [agV p]) [] h [] (callQ sf25.res h.length (restsA p h)) := by
  have c57 := fun h => check57 p h
  unfold sf25
  show RunX M _ 6 _ _ _ _ _ _
  refine x_seq rfl (x_plain rfl ?_)
  repeat (first | apply run_seq | apply run_block | apply end_seq | apply end_blk_hit | apply end_blk_miss rfl | apply end_blk | apply end_seq_exit | apply end_seq_ret | apply end_blk_ret | apply run_skip | apply run_ret | apply run_exit | (apply run_region (by decide); (simp (maxSteps := 9999999) only [go_sem, argR]; rfl)) | (apply run_regionN (by decide); (simp (maxSteps := 9999999) only [go_sem, argR]; rfl)) | (refine run_cond_t ?_ ?_; · simp only [go_sem]) | (refine run_cond_f ?_ ?_; · simp only [go_sem]))
  refine end_nil (.inl ⟨rfl, x_seq rfl (x_plain rfl ?_)⟩)
  by_cases hb : Bd 30000 p
  · simp only [hb, if_true] at c57
    have c59 := fun h => norm59 hb (by decide) h
    repeat (first | apply run_seq | apply run_block | apply end_seq | apply end_blk_hit | apply end_blk_miss rfl | apply end_blk | apply end_seq_exit | apply end_seq_ret | apply end_blk_ret | apply run_skip | apply run_ret | apply run_exit | (apply run_region (by decide); (simp (maxSteps := 9999999) only [go_sem, argR, c57]; rfl)) | (apply run_regionN (by decide); (simp (maxSteps := 9999999) only [go_sem, argR, c57]; rfl)) | (refine run_cond_t ?_ ?_; · simp only [go_sem]) | (refine run_cond_f ?_ ?_; · simp only [go_sem]))
    refine end_nil (.inl ⟨rfl, x_seq rfl (x_plain rfl ?_)⟩)
    repeat (first | apply run_seq | apply run_block | apply end_seq | apply end_blk_hit | apply end_blk_miss rfl | apply end_blk | apply end_seq_exit | apply end_seq_ret | apply end_blk_ret | apply run_skip | apply run_ret | apply run_exit | (apply run_region (by decide); (simp (maxSteps := 9999999) only [go_sem, argR, c59]; rfl)) | (apply run_regionN (by decide); (simp (maxSteps := 9999999) only [go_sem, argR, c59]; rfl)) | (refine run_cond_t ?_ ?_; · simp only [go_sem]) | (refine run_cond_f ?_ ?_; · simp only [go_sem]))
    refine end_nil (.inl ⟨rfl, x_seq rfl (x_plain rfl ?_)⟩)
    by_cases hN1 : nrm p < 1
    · have e1 : (nrm p < 1) = True := eq_true hN1
      have hA : restsA p h = (.tuple #[.slice none 0 0, .int .i64 1], h, []) := by unfold restsA; rw [if_pos hb, if_pos (.inl hN1)]
      rw [hA]
      repeat (first | apply run_seq | apply run_block | apply end_seq | apply end_blk_hit | apply end_blk_miss rfl | apply end_blk | apply end_seq_exit | apply end_seq_ret | apply end_blk_ret | apply run_skip | apply run_ret | apply run_exit | (apply run_region (by decide); (simp (maxSteps := 9999999) only [go_sem, argR, e1]; rfl)) | (apply run_regionN (by decide); (simp (maxSteps := 9999999) only [go_sem, argR, e1]; rfl)) | (refine run_cond_t ?_ ?_; · simp only [go_sem]) | (refine run_cond_f ?_ ?_; · simp only [go_sem]))
      exact end_nil (.inr ⟨nofun, q_free [.slice none 0 0, .int .i64 1] (by simp (maxSteps := 9999999) only [go_sem]) rfl rfl rfl (fun _ => rfl) (take_app _ _) rfl⟩)
    · have e1 : (nrm p < 1) = False := eq_false hN1
      by_cases hN2 : 500 < nrm p
      · have e2 : (500 < nrm p) = True := eq_true hN2
        have hA : restsA p h = (.tuple #[.slice none 0 0, .int .i64 1], h, []) := by unfold restsA; rw [if_pos hb, if_pos (.inr hN2)]
        rw [hA]
        repeat (first | apply run_seq | apply run_block | apply end_seq | apply end_blk_hit | apply end_blk_miss rfl | apply end_blk | apply end_seq_exit | apply end_seq_ret | apply end_blk_ret | apply run_skip | apply run_ret | apply run_exit | (apply run_region (by decide); (simp (maxSteps := 9999999) only [go_sem, argR, e1, e2]; rfl)) | (apply run_regionN (by decide); (simp (maxSteps := 9999999) only [go_sem, argR, e1, e2]; rfl)) | (refine run_cond_t ?_ ?_; · simp only [go_sem]) | (refine run_cond_f ?_ ?_; · simp only [go_sem]))
        exact end_nil (.inr ⟨nofun, q_free [.slice none 0 0, .int .i64 1] (by simp (maxSteps := 9999999) only [go_sem]) rfl rfl rfl (fun _ => rfl) (take_app _ _) rfl⟩)
      · have e2 : (500 < nrm p) = False := eq_false hN2
        have hA : restsA p h = (.tuple #[resV h (restsL p).length 2, .int .i64 0], resH h (prs (restsL p)) (restsL p).length 34, []) := by unfold restsA; rw [if_pos hb, if_neg (by omega)]
        have h0 : p ≠ (0, 0) := by
          rintro rfl
          exact hN1 (by decide)
        have hn0 := nrm_nonneg p
        have hN : (nrm p).toNat ≤ 500 := by omega
        have hNe : nrm p = ((nrm p).toNat : Int) := (Int.toNat_of_nonneg hn0).symm
        rw [hA]
        clear hA
        repeat (first | apply run_seq | apply run_block | apply end_seq | apply end_blk_hit | apply end_blk_miss rfl | apply end_blk | apply end_seq_exit | apply end_seq_ret | apply end_blk_ret | apply run_skip | apply run_ret | apply run_exit | (apply run_region (by decide); (simp (maxSteps := 9999999) only [go_sem, argR, e1, e2]; rfl)) | (apply run_regionN (by decide); (simp (maxSteps := 9999999) only [go_sem, argR, e1, e2]; rfl)) | (refine run_cond_t ?_ ?_; · simp only [go_sem]) | (refine run_cond_f ?_ ?_; · simp only [go_sem]))
        refine end_nil (.inl ⟨rfl, x_seq rfl (x_plain rfl ?_)⟩)
        repeat (first | apply run_seq | apply run_block | apply end_seq | apply end_blk_hit | apply end_blk_miss rfl | apply end_blk | apply end_seq_exit | apply end_seq_ret | apply end_blk_ret | apply run_skip | apply run_ret | apply run_exit | (apply run_region (by decide); (simp (maxSteps := 9999999) only [go_sem]; rfl)) | (apply run_regionN (by decide); (simp (maxSteps := 9999999) only [go_sem]; rfl)) | (refine run_cond_t ?_ ?_; · simp only [go_sem]) | (refine run_cond_f ?_ ?_; · simp only [go_sem]))
        refine end_nil (.inl ⟨rfl, x_seq rfl (x_plain rfl ?_)⟩)
        repeat (first | apply run_seq | apply run_block | apply end_seq | apply end_blk_hit | apply end_blk_miss rfl | apply end_blk | apply end_seq_exit | apply end_seq_ret | apply end_blk_ret | apply run_skip | apply run_ret | apply run_exit | (apply run_region (by decide); (simp (maxSteps := 9999999) only [go_sem]; rfl)) | (apply run_regionN (by decide); (simp (maxSteps := 9999999) only [go_sem]; rfl)) | (refine run_cond_t ?_ ?_; · simp only [go_sem]) | (refine run_cond_f ?_ ?_; · simp only [go_sem]))
        have M0 : MS h (.cells [.int .i64 p.1, .int .i64 p.2] 34 true 0 []) (h ++ [.cells [.int .i64 p.1, .int .i64 p.2] 34 true 0 [], .map true []]) [] := by
          refine ⟨by rw [app_get]; rfl, fun j hj => ?_⟩
          by_cases c : j < h.length
          · rw [List.getElem?_append_left c, List.getElem?_append_left c]
          · have : j = h.length := by omega
            subst this
            rw [app_get0, app_get0]; rfl
        have I0 : SI p (nrm p).toNat 0 0 [] := ⟨List.nodup_nil, fun q => ⟨fun hq => absurd hq List.not_mem_nil, fun ⟨x, y, h1, _⟩ => by omega⟩⟩
        refine run_loop (mrow_loop _ hb h0 hN h _ rfl (nrm p).toNat _ _ _ _ ⟨0, [], by omega, by simp (maxSteps := 9999999) only [go_sem], by simp (maxSteps := 9999999) only [go_sem, ← hNe], by simp (maxSteps := 9999999) only [go_sem], by simp (maxSteps := 9999999) only [go_sem, ← hNe], by (simp (maxSteps := 9999999) only [go_sem]) <;> rfl, I0, M0, rfl, rfl⟩) ?_
        rintro ex ρ1 ms1 h1 d1 ⟨rfl, rfl, rfl, S, k6, I1, A1⟩
        repeat (first | apply run_seq | apply run_block | apply end_seq | apply end_blk_hit | apply end_blk_miss rfl | apply end_blk | apply end_seq_exit | apply end_seq_ret | apply end_blk_ret | apply run_skip | apply run_ret | apply run_exit | (apply run_region (by decide); (simp (maxSteps := 9999999) only [go_sem]; rfl)) | (apply run_regionN (by decide); (simp (maxSteps := 9999999) only [go_sem]; rfl)) | (refine run_cond_t ?_ ?_; · simp only [go_sem]) | (refine run_cond_f ?_ ?_; · simp only [go_sem]))
        have hperm : S.Perm (restsL p) := by
          refine (List.perm_ext_iff_of_nodup I1.1 (nodup_restsL p)).2 (fun z => ?_)
          rw [I1.2 z, mem_rests h0 hN]
          constructor
          · rintro ⟨x, y, g1, g2, g3⟩; exact ⟨x, y, by omega, g2, g3⟩
          · rintro ⟨x, y, g1, g2, g3⟩; exact ⟨x, y, by omega, g2, g3⟩
        have hSl : S.length = (restsL p).length := hperm.length_eq
        have hlen := len_restsL hN
        refine end_nil (.inl ⟨rfl, x_seq rfl (x_plain rfl ?_)⟩)
        repeat (first | apply run_seq | apply run_block | apply end_seq | apply end_blk_hit | apply end_blk_miss rfl | apply end_blk | apply end_seq_exit | apply end_seq_ret | apply end_blk_ret | apply run_skip | apply run_ret | apply run_exit | (apply run_region (by decide); (simp (maxSteps := 9999999) only [go_sem]; rfl)) | (apply run_regionN (by decide); (simp (maxSteps := 9999999) only [go_sem]; rfl)) | (refine run_cond_t ?_ ?_; · simp only [go_sem]) | (refine run_cond_f ?_ ?_; · simp only [go_sem]))
        refine end_nil (.inl ⟨rfl, x_seq rfl ?_⟩)
        refine x_seq rfl (x_region rfl (by decide) ⟨rfl, .map (some (h.length + 1)), h1, [], by simp (maxSteps := 9999999) only [go_sem, k6], ⟨rfl, h.length + 1, true, S.map ent, by simp (maxSteps := 9999999) only [go_sem], A1.map, ?_⟩⟩)
        have hml := A1.lt
        have base : AccS (h ++ [.cells [.int .i64 p.1, .int .i64 p.2] 34 true 0 []]) (h1 ++ [.iter (h.length + 1) [] (S.map ent).length]) (.slice none 0 0) [] 0 2 34 :=
          ⟨.inl ⟨rfl, rfl, rfl⟩, by simp; omega, fun j hj => by
            simp at hj
            rw [List.getElem?_append_left (by omega)]; exact A1.same j (by omega)⟩
        refine .inl ⟨rfl, x_block rfl (x_imp (range_loop _ (S := S) (n := S.length) rfl (by omega) h _ h1.length hml S.length _ _ _ _ ⟨[], .slice none 0 0, ?_, by simp (maxSteps := 9999999) only [go_sem], by simp (maxSteps := 9999999) only [go_sem], List.nodup_nil, fun i hi => absurd hi List.not_mem_nil, by simp, ?_, ?_, base, rfl, rfl⟩) ?_)⟩
        · unfold left
          refine Nat.le_trans (List.length_filter_le _ _) (by simp)
        · rw [List.length_map]; rw [app_get0]; rfl
        · rw [List.getElem?_append_left hml]; exact A1.map
        rintro ex ρ2 ms2 h2 d2 ⟨rfl, rfl, rfl, seen, v, q11, hnd, hall, A2⟩
        refine .inl ⟨rfl, x_plain rfl ?_⟩
        have hsp : seen.Perm (List.range S.length) := (List.perm_ext_iff_of_nodup hnd List.nodup_range).2 (fun i => by rw [List.mem_range]; exact (hall i).symm)
        have hL : (seenP S seen).Perm S := by
          have := hsp.map (fun i => S.getD i (0, 0))
          rw [getD_range] at this
          exact this
        have hsl : seen.length = S.length := by rw [hsp.length_eq]; simp
        have hpos : S.length ≠ 0 := by
          have hm : restP (((0 : Nat) : Int), ((0 : Nat) : Int)) p ∈ S := (I1.2 _).2 ⟨0, 0, by omega, by omega, rfl⟩
          intro e
          rw [List.length_eq_zero_iff.1 e] at hm
          exact absurd hm List.not_mem_nil
        generalize hLs : seenP S seen = L at *
        have hLl : L.length = seen.length := by rw [← hLs]; unfold seenP; simp
        rw [← hLl] at A2
        obtain ⟨B, old, rfl, hB, hB1, hold⟩ := A2.cellsAt (by omega)
        have hbl : B < h2.length := (List.getElem?_eq_some_iff.1 hB).1
        generalize hf : (fun i => L.getD i (0, 0)) = f at *
        have hfl : flF celP f L.length = prs L := by
          rw [prs_flat, flF_list, ← hf, getD_range]
        have SS : SA celP L.length B 34 h2 old h2 f := ⟨rfl, fun j _ _ => rfl, old, fun c hc => hc, by rw [hfl]; exact hB⟩
        obtain ⟨h3, f3, cs, S3, W, O⟩ := sortP (cap := UNK + 2) CP celP_len celP_sc (by omega) (fun c hc => by have := (hold c hc).2; omega) SS
        have hfin : (List.range L.length).map f3 = restsL p := by
          refine sorted_eq (c := cP) (fun x y => cP_anti) W O (l := L) ?_ (hL.trans hperm) (le_restsL _)
          rw [← hf, getD_range]
        have hLr : L.length = (restsL p).length := by rw [hL.length_eq, hperm.length_eq]
        obtain ⟨old3, ho3, hB3⟩ := S3.at_
        rw [flF_list, hfin, ← prs_flat] at hB3
        have A3 : AccS (h ++ [.cells [.int .i64 p.1, .int .i64 p.2] 34 true 0 []]) h3 (.slice (some ⟨B, 0, none⟩) L.length (UNK + 2)) (prs (restsL p)) (restsL p).length 2 34 := by
          have e0 := A2.acc
          refine ⟨.inr ⟨B, old3, by rw [hLr], hB3, by rw [prs_len]; omega, by omega, ?_, prs_sc _, fun c hc => ?_⟩, ?_, fun j hj => ?_⟩
          · rcases e0 with ⟨_, e1, _⟩ | ⟨b', old', e1, e2, e3, e4, e5, e6, e7⟩
            · cases e1
            · cases e1; exact e5
          · rcases e0 with ⟨_, e1, _⟩ | ⟨b', old', e1, e2, e3, e4, e5, e6, e7⟩
            · cases e1
            · cases e1
              rw [hB] at e2; cases e2
              exact e7 c (ho3 c hc)
          · rw [S3.len]; exact A2.le
          · rw [S3.same j ?_ ?_]
            · exact A2.same j hj
            · rcases e0 with ⟨_, e1, _⟩ | ⟨b', old', e1, e2, e3, e4, e5, e6, e7⟩
              · cases e1
              · cases e1; omega
            · intro hm
              rcases e0 with ⟨_, e1, _⟩ | ⟨b', old', e1, e2, e3, e4, e5, e6, e7⟩
              · cases e1
              · cases e1
                rw [hB] at e2; cases e2
                have := (e7 j hm).1
                omega
        repeat (first | apply run_seq | apply run_block | apply end_seq | apply end_blk_hit | apply end_blk_miss rfl | apply end_blk | apply end_seq_exit | apply end_seq_ret | apply end_blk_ret | apply run_skip | apply run_ret | apply run_exit | (apply run_region (by decide); (simp (maxSteps := 9999999) only [go_sem, q11, cs]; rfl)) | (apply run_regionN (by decide); (simp (maxSteps := 9999999) only [go_sem, q11, cs]; rfl)) | (refine run_cond_t ?_ ?_; · simp only [go_sem]) | (refine run_cond_f ?_ ?_; · simp only [go_sem]))
        exact end_nil (A3.q2 _ rfl rfl (by simp (maxSteps := 9999999) only [go_sem, q11]) (by simp (maxSteps := 9999999) only [go_sem]) rfl)
  · simp only [hb, if_false] at c57
    have hA : restsA p h = (.tuple #[.slice none 0 0, .int .i64 70], h, []) := by unfold restsA; rw [if_neg hb]
    rw [hA]
    repeat (first | apply run_seq | apply run_block | apply end_seq | apply end_blk_hit | apply end_blk_miss rfl | apply end_blk | apply end_seq_exit | apply end_seq_ret | apply end_blk_ret | apply run_skip | apply run_ret | apply run_exit | (apply run_region (by decide); (simp (maxSteps := 9999999) only [go_sem, argR, c57]; rfl)) | (apply run_regionN (by decide); (simp (maxSteps := 9999999) only [go_sem, argR, c57]; rfl)) | (refine run_cond_t ?_ ?_; · simp only [go_sem]) | (refine run_cond_f ?_ ?_; · simp only [go_sem]))
    exact end_nil (.inr ⟨nofun, q_free [.slice none 0 0, .int .i64 70] (by simp (maxSteps := 9999999) only [go_sem]) rfl rfl rfl (fun _ => rfl) (take_app _ _) rfl⟩)
end Go.Proofs.YtdmfhdnpakgkpaaDoor.Sh


