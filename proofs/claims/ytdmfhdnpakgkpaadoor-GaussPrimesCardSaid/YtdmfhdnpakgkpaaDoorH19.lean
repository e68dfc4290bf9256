/- Numbers of the chapter: the first of the associates. -/
import Derived.Test.YtdmfhdnpakgkpaaDoorNk
set_option linter.all false
/- Numbers of the chapter: the first of the associates. -/
namespace Go.Proofs.YtdmfhdnpakgkpaaDoor.Sh
open Go
set_option maxRecDepth 100000

/-- is this the first of the associates? -/
def isF (p : Int × Int) : Prop := 0 < p.1 ∧ 0 ≤ p.2
instance (p : Int × Int) : Decidable (isF p) := by unfold isF; exact inferInstance
/-- the unit that makes it the first -/
def firstU (p : Int × Int) : Int × Int := if isF p then (1, 0) else if isF (mulP p (0, 1)) then (0, 1) else if isF (mulP p (-1, 0)) then (-1, 0) else if isF (mulP p (0, -1)) then (0, -1) else (1, 0)
/-- the first of the associates, and the unit that makes the number of it -/
def firP (p : Int × Int) : (Int × Int) × (Int × Int) := (mulP p (firstU p), conjP (firstU p))
theorem mul_one (p : Int × Int) : mulP p (1, 0) = p := by unfold mulP; refine Prod.ext ?_ ?_ <;> dsimp only <;> omega
theorem mul_i (p : Int × Int) : mulP p (0, 1) = (-p.2, p.1) := by unfold mulP; refine Prod.ext ?_ ?_ <;> dsimp only <;> omega
theorem mul_m (p : Int × Int) : mulP p (-1, 0) = (-p.1, -p.2) := by unfold mulP; refine Prod.ext ?_ ?_ <;> dsimp only <;> omega
theorem mul_mi (p : Int × Int) : mulP p (0, -1) = (p.2, -p.1) := by unfold mulP; refine Prod.ext ?_ ?_ <;> dsimp only <;> omega
/-- a number that is not 0 has one -/
theorem first_ex {p : Int × Int} (h : p ≠ (0, 0)) : isF p ∨ isF (mulP p (0, 1)) ∨ isF (mulP p (-1, 0)) ∨ isF (mulP p (0, -1)) := by
  have : ¬ (p.1 = 0 ∧ p.2 = 0) := fun e => h (Prod.ext e.1 e.2)
  rw [mul_i, mul_m, mul_mi]
  unfold isF
  dsimp only
  omega

def rfA73_0 : SCode := (.region 0 [ ⟨(some 4), none, .alloc 68 true [(.int .i64 0), (.int .i64 0)], none, 0, false, []⟩, ⟨none, none, .store 2 (.tmp 4) (.tmp 7), none, 1, false, []⟩])
def rfB73_0 : SCode := (.block 1 (.seq (.region 0 [ ⟨(some 8), none, .load (some 2) (.tmp 1), none, 0, false, []⟩, ⟨(some 9), none, .load (some 2) (.tmp 4), none, 1, false, []⟩, ⟨(some 10), none, .call (.func 65) [(.tmp 8), (.tmp 9)], none, 2, false, []⟩, ⟨(some 5), none, .alloc 68 true [(.int .i64 0), (.int .i64 0)], none, 3, false, []⟩, ⟨none, none, .store 2 (.tmp 5) (.tmp 10), none, 4, false, []⟩]) (.seq (.region 0 [ ⟨(some 11), none, .idxArr 2 1 (.tmp 5) (.const (.int .i64 0)), none, 0, false, []⟩, ⟨(some 12), none, .load none (.tmp 11), none, 1, false, []⟩, ⟨(some 13), none, .bin .gtr (.tmp 12) (.const (.int .i64 0)), none, 2, false, []⟩, ⟨(some 14), none, .mov (.tmp 13), none, 3, false, []⟩, ⟨(some 15), none, .idxArr 2 1 (.tmp 5) (.const (.int .i64 1)), some (14, true), 4, false, []⟩, ⟨(some 16), none, .load none (.tmp 15), some (14, true), 5, false, []⟩, ⟨(some 17), none, .bin .geq (.tmp 16) (.const (.int .i64 0)), some (14, true), 6, false, []⟩, ⟨(some 18), none, .pick (.tmp 14) (.tmp 17) (.const (.bool false)), none, 7, false, []⟩]) (.cond (.tmp 18) (.seq (.region 0 [ ⟨(some 19), none, .load (some 2) (.tmp 5), none, 0, true, []⟩, ⟨(some 20), none, .load (some 2) (.tmp 4), none, 1, true, []⟩, ⟨(some 21), none, .call (.func 78) [(.tmp 20)], none, 2, false, [0]⟩, ⟨none, none, .store 2 (.tmp 2) (.tmp 19), none, 3, false, []⟩, ⟨none, none, .store 2 (.tmp 3) (.tmp 21), none, 4, false, []⟩]) (.ret)) (.skip)))))

/-- the state of the range in first: n is the caller's base -/
structure JF (n : Nat) (x : Int × Int) (t : T) (H hh : SHeap) : Prop where
  len : n + 5 ≤ hh.length
  low : ∀ j, j < n → hh[j]? = H[j]?
  c0 : hh[n]? = some (.cells [.int .i64 x.1, .int .i64 x.2] 68 true 0 [])
  c1 : hh[n + 1]? = some (.cells [.int .i64 0, .int .i64 0] 68 true 0 [])
  c2 : hh[n + 2]? = some (.cells [.int .i64 0, .int .i64 0] 68 true 0 [])
  df : hh[n + 3]? = some .deferred
  lp : hh[n + 4]? = some (.loop 0 73 t [7] rfA73_0 rfB73_0 none (n + 3))
/-- its end -/
structure JG (n : Nat) (x u : Int × Int) (t : T) (H hh : SHeap) : Prop where
  len : n + 5 ≤ hh.length
  low : ∀ j, j < n → hh[j]? = H[j]?
  c1 : hh[n + 1]? = some (.cells [.int .i64 (mulP x u).1, .int .i64 (mulP x u).2] 68 true 0 [])
  c2 : hh[n + 2]? = some (.cells [.int .i64 (conjP u).1, .int .i64 (conjP u).2] 68 true 0 [])
  df : hh[n + 3]? = some .deferred
  lp : hh[n + 4]? = some (.loop 2 73 t [7] rfA73_0 rfB73_0 (some .ret) (n + 3))

end Go.Proofs.YtdmfhdnpakgkpaaDoor.Sh


/- Numbers of the chapter: the units in turn, and the first of the associates. -/
namespace Go.Proofs.YtdmfhdnpakgkpaaDoor.Sh
open Go
set_option maxRecDepth 100000

end Go.Proofs.YtdmfhdnpakgkpaaDoor.Sh


/- Numbers of the chapter: the first of the associates, the program's and the document's. -/
namespace Go.Proofs.YtdmfhdnpakgkpaaDoor.Sh
open Go
set_option maxRecDepth 100000

theorem JF.cut {n : Nat} {x : Int × Int} {t : T} {H h : SHeap} (J : JF n x t H h) : JF n x t H (h.take (n + 5)) := by
  have jl := J.len
  have key : ∀ j, j < n + 5 → (h.take (n + 5))[j]? = h[j]? := fun j hj => by rw [List.getElem?_take, if_pos hj]
  exact ⟨by simp; omega, fun j hj => by rw [key j (by omega)]; exact J.low j hj, by rw [key _ (by omega)]; exact J.c0, by rw [key _ (by omega)]; exact J.c1, by rw [key _ (by omega)]; exact J.c2, by rw [key _ (by omega)]; exact J.df, by rw [key _ (by omega)]; exact J.lp⟩
theorem JG.cut {n : Nat} {x u : Int × Int} {t : T} {H h : SHeap} (J : JG n x u t H h) : JG n x u t H (h.take (n + 5)) := by
  have jl := J.len
  have key : ∀ j, j < n + 5 → (h.take (n + 5))[j]? = h[j]? := fun j hj => by rw [List.getElem?_take, if_pos hj]
  exact ⟨by simp; omega, fun j hj => by rw [key j (by omega)]; exact J.low j hj, by rw [key _ (by omega)]; exact J.c1, by rw [key _ (by omega)]; exact J.c2, by rw [key _ (by omega)]; exact J.df, by rw [key _ (by omega)]; exact J.lp⟩

end Go.Proofs.YtdmfhdnpakgkpaaDoor.Sh


/- Numbers: First, Divides and the greatest common divisor, the program's and the document's. -/
namespace Go.Proofs.YtdmfhdnpakgkpaaDoor.Sh
open Go
set_option maxRecDepth 100000

theorem firP_0 : firP (0, 0) = ((0, 0), (1, 0)) := by decide
/-- the number that is turned back -/
theorem firP_yes {p : Int × Int} (h : isF p) : firP p = (p, (1, 0)) := by
  unfold firP firstU
  rw [if_pos h, mul_one]; rfl
theorem isF_iff (a b : Int) : isF (a, b) ↔ 0 < a ∧ 0 ≤ b := Iff.rfl
theorem isF_turn {p : Int × Int} (h0 : p ≠ (0, 0)) (h : ¬ isF p) : (firP p).1 = (firP (mulP p (0, -1))).1 ∧ (firP p).2 = mulP (firP (mulP p (0, -1))).2 (0, 1) := by
  have hne : ¬ (p.1 = 0 ∧ p.2 = 0) := fun e => h0 (Prod.ext e.1 e.2)
  obtain ⟨a, b⟩ := p
  dsimp only at hne
  unfold firP firstU
  rw [mul_i, mul_m, mul_mi, mul_i, mul_m, mul_mi]
  dsimp only
  rw [if_neg h]
  rw [isF_iff] at h
  by_cases c1 : 0 < -b ∧ 0 ≤ a
  · rw [if_pos ((isF_iff _ _).2 c1), if_neg (show ¬ isF (b, -a) by rw [isF_iff]; omega), if_neg (show ¬ isF (- -a, b) by rw [isF_iff]; omega), if_pos (show isF (-b, - -a) by rw [isF_iff]; omega)]
    constructor
    · unfold mulP; refine Prod.ext ?_ ?_ <;> dsimp only <;> omega
    · decide
  · rw [if_neg (fun e => c1 ((isF_iff _ _).1 e))]
    by_cases c2 : 0 < -a ∧ 0 ≤ -b
    · rw [if_pos ((isF_iff _ _).2 c2), if_neg (show ¬ isF (b, -a) by rw [isF_iff]; omega), if_neg (show ¬ isF (- -a, b) by rw [isF_iff]; omega), if_neg (show ¬ isF (-b, - -a) by rw [isF_iff]; omega), if_pos (show isF (-a, -b) by rw [isF_iff]; omega)]
      constructor
      · unfold mulP; refine Prod.ext ?_ ?_ <;> dsimp only <;> omega
      · decide
    · rw [if_neg (fun e => c2 ((isF_iff _ _).1 e))]
      by_cases c3 : 0 < b ∧ 0 ≤ -a
      · rw [if_pos ((isF_iff _ _).2 c3), if_pos ((isF_iff _ _).2 c3)]
        constructor
        · unfold mulP; refine Prod.ext ?_ ?_ <;> dsimp only <;> omega
        · decide
      · omega
end Go.Proofs.YtdmfhdnpakgkpaaDoor.Sh


/- Numbers: First of the document; Divides, the program's and the document's. -/
namespace Go.Proofs.YtdmfhdnpakgkpaaDoor.Sh
open Go
set_option maxRecDepth 100000

/-- how many turns back make a number the first of its associates -/
def turnsN (p : Int × Int) : Nat := if isF p then 0 else if isF (mulP p (0, -1)) then 1 else if isF (mulP p (-1, 0)) then 2 else 3
theorem turns_step {p : Int × Int} (h0 : p ≠ (0, 0)) (h : ¬ isF p) : turnsN (mulP p (0, -1)) < turnsN p := by
  have e1 : mulP (mulP p (0, -1)) (0, -1) = mulP p (-1, 0) := by unfold mulP; refine Prod.ext ?_ ?_ <;> dsimp only <;> grind
  have e2 : mulP (mulP p (0, -1)) (-1, 0) = mulP p (0, 1) := by unfold mulP; refine Prod.ext ?_ ?_ <;> dsimp only <;> grind
  unfold turnsN
  rw [if_neg h, e1, e2]
  by_cases c1 : isF (mulP p (0, -1))
  · rw [if_pos c1, if_pos c1]; decide
  · rw [if_neg c1, if_neg c1]
    by_cases c2 : isF (mulP p (-1, 0))
    · rw [if_pos c2, if_pos c2]; decide
    · rw [if_neg c2, if_neg c2]
      have c3 : isF (mulP p (0, 1)) := by
        rcases first_ex h0 with k | k | k | k
        · exact (h k).elim
        · exact k
        · exact (c2 k).elim
        · exact (c1 k).elim
      rw [if_pos c3]; decide
theorem turn_bd {p : Int × Int} {A : Int} (h : Bd A p) : Bd A (mulP p (0, -1)) := by
  obtain ⟨a, b, c, d⟩ := h
  rw [mul_mi]
  refine ⟨?_, ?_, ?_, ?_⟩ <;> dsimp only <;> omega
theorem turn_bd' {p : Int × Int} {A : Int} (h : Bd A p) : Bd A (mulP p (0, 1)) := by
  obtain ⟨a, b, c, d⟩ := h
  rw [mul_i]
  refine ⟨?_, ?_, ?_, ?_⟩ <;> dsimp only <;> omega
theorem turn_ne {p : Int × Int} (h : p ≠ (0, 0)) : mulP p (0, -1) ≠ (0, 0) := by
  rw [mul_mi]
  intro e
  have e1 : p.2 = 0 := congrArg Prod.fst e
  have e2 : -p.1 = 0 := congrArg Prod.snd e
  exact h (Prod.ext (by omega) e1)
theorem mul_turn (a u : Int × Int) : mulP (mulP a (0, 1)) u = mulP a (mulP u (0, 1)) := by
  unfold mulP; refine Prod.ext ?_ ?_ <;> dsimp only <;> grind
theorem one_mul (p : Int × Int) : mulP (1, 0) p = p := by unfold mulP; refine Prod.ext ?_ ?_ <;> dsimp only <;> omega

theorem firstR_loop (cx : Cx) {x0 : Int × Int} (H : SHeap) : ∀ k ρ ms h' d', (∃ x u : Int × Int, turnsN x = k ∧ x ≠ (0, 0) ∧ Bd 1000000000 x ∧ Bd 1 u ∧ (firP x0).1 = (firP x).1 ∧ (firP x0).2 = mulP (firP x).2 u ∧ ρ 1 = .pointer (some ⟨H.length, 0, none⟩) ∧ ρ 2 = .pointer (some ⟨H.length + 1, 0, none⟩) ∧ ρ 3 = .pointer (some ⟨H.length + 2, 0, none⟩) ∧ ρ 4 = .pointer (some ⟨H.length + 3, 0, none⟩) ∧ h' = H ++ [bx x, bz, bz, bx u] ∧ ms = [] ∧ d' = []) →
    LoopW M cx 5 sf43L0 ρ ms h' d' (fun ex ρ' ms' h' d' => ex = .exit 0 ∧ ms' = [] ∧ d' = [] ∧ h' = H ++ [bx (firP x0).1, bz, bz, bx (firP x0).2] ∧ ρ' 1 = .pointer (some ⟨H.length, 0, none⟩) ∧ ρ' 2 = .pointer (some ⟨H.length + 1, 0, none⟩) ∧ ρ' 3 = .pointer (some ⟨H.length + 2, 0, none⟩) ∧ ρ' 4 = .pointer (some ⟨H.length + 3, 0, none⟩)) := by
  refine loop_run _ ?_
  rintro k ρ ms h' d' ⟨x, u, hk, hx0, hx, hu, i1, i2, r1, r2, r3, r4, rfl, rfl, rfl⟩
  unfold sf43L0
  by_cases c : isF x
  · have e := firP_yes c
    rw [e] at i1 i2
    dsimp only at i1 i2
    rw [one_mul] at i2
    have c1 : ¬ x.1 ≤ 0 := by have := c.1; omega
    have c2 : ¬ x.2 < 0 := by have := c.2; omega
    repeat (first | apply run_seq | apply run_block | apply end_seq | apply end_blk_hit | apply end_blk_miss rfl | apply end_blk | apply end_seq_exit | apply end_seq_ret | apply end_blk_ret | apply run_skip | apply run_ret | apply run_exit | (apply run_region (by decide); (simp (maxSteps := 9999999) only [go_sem, r1, r2, r3, r4, c1, c2]; rfl)) | (apply run_regionN (by decide); (simp (maxSteps := 9999999) only [go_sem, r1, r2, r3, r4, c1, c2]; rfl)) | (refine run_cond_t ?_ ?_; · simp only [go_sem]) | (refine run_cond_f ?_ ?_; · simp only [go_sem]))
    refine end_nil ⟨rfl, rfl, rfl, by rw [i1, i2], ?_, ?_, ?_, ?_⟩
    · simp (maxSteps := 9999999) only [go_sem, r1]
    · simp (maxSteps := 9999999) only [go_sem, r2]
    · simp (maxSteps := 9999999) only [go_sem, r3]
    · simp (maxSteps := 9999999) only [go_sem, r4]
  · have m1 := fun h => mulR35 hx (show Bd 1 ((0 : Int), (-1 : Int)) by decide) (by decide) h
    have m2 := fun h => mulR35 hu (show Bd 1 ((0 : Int), (1 : Int)) by decide) (by decide) h
    dsimp only at m1 m2
    obtain ⟨t1, t2⟩ := isF_turn hx0 c
    have ts := turns_step hx0 c
    have fin : ∀ ρ' : Reg, ρ' 1 = .pointer (some ⟨H.length, 0, none⟩) → ρ' 2 = .pointer (some ⟨H.length + 1, 0, none⟩) → ρ' 3 = .pointer (some ⟨H.length + 2, 0, none⟩) → ρ' 4 = .pointer (some ⟨H.length + 3, 0, none⟩) →
        ∃ k', k' < k ∧ ∃ x' u' : Int × Int, turnsN x' = k' ∧ x' ≠ (0, 0) ∧ Bd 1000000000 x' ∧ Bd 1 u' ∧ (firP x0).1 = (firP x').1 ∧ (firP x0).2 = mulP (firP x').2 u' ∧ ρ' 1 = .pointer (some ⟨H.length, 0, none⟩) ∧ ρ' 2 = .pointer (some ⟨H.length + 1, 0, none⟩) ∧ ρ' 3 = .pointer (some ⟨H.length + 2, 0, none⟩) ∧ ρ' 4 = .pointer (some ⟨H.length + 3, 0, none⟩) ∧ H ++ [bx (mulP x (0, -1)), bz, bz, bx (mulP u (0, 1))] = H ++ [bx x', bz, bz, bx u'] ∧ ([] : List Nat) = [] ∧ ([] : List Nat) = [] :=
      fun ρ' a b c d => ⟨turnsN (mulP x (0, -1)), by omega, mulP x (0, -1), mulP u (0, 1), rfl, turn_ne hx0, turn_bd hx, turn_bd' hu, by rw [i1, t1], by rw [i2, t2, mul_turn], a, b, c, d, rfl, rfl, rfl⟩
    by_cases c1 : x.1 ≤ 0
    · repeat (first | apply run_seq | apply run_block | apply end_seq | apply end_blk_hit | apply end_blk_miss rfl | apply end_blk | apply end_seq_exit | apply end_seq_ret | apply end_blk_ret | apply run_skip | apply run_ret | apply run_exit | (apply run_region (by decide); (simp (maxSteps := 9999999) only [go_sem, r1, r2, r3, r4, c1, m1, m2]; rfl)) | (apply run_regionN (by decide); (simp (maxSteps := 9999999) only [go_sem, r1, r2, r3, r4, c1, m1, m2]; rfl)) | (refine run_cond_t ?_ ?_; · simp only [go_sem]) | (refine run_cond_f ?_ ?_; · simp only [go_sem]))
      refine end_nil (fin _ ?_ ?_ ?_ ?_)
      · simp (maxSteps := 9999999) only [go_sem, r1]
      · simp (maxSteps := 9999999) only [go_sem, r2]
      · simp (maxSteps := 9999999) only [go_sem, r3]
      · simp (maxSteps := 9999999) only [go_sem, r4]
    · have c2 : x.2 < 0 := by
        by_cases e : x.2 < 0
        · exact e
        · exact (c ⟨by omega, by omega⟩).elim
      repeat (first | apply run_seq | apply run_block | apply end_seq | apply end_blk_hit | apply end_blk_miss rfl | apply end_blk | apply end_seq_exit | apply end_seq_ret | apply end_blk_ret | apply run_skip | apply run_ret | apply run_exit | (apply run_region (by decide); (simp (maxSteps := 9999999) only [go_sem, r1, r2, r3, r4, c1, c2, m1, m2]; rfl)) | (apply run_regionN (by decide); (simp (maxSteps := 9999999) only [go_sem, r1, r2, r3, r4, c1, c2, m1, m2]; rfl)) | (refine run_cond_t ?_ ?_; · simp only [go_sem]) | (refine run_cond_f ?_ ?_; · simp only [go_sem]))
      refine end_nil (fin _ ?_ ?_ ?_ ?_)
      · simp (maxSteps := 9999999) only [go_sem, r1]
      · simp (maxSteps := 9999999) only [go_sem, r2]
      · simp (maxSteps := 9999999) only [go_sem, r3]
      · simp (maxSteps := 9999999) only [go_sem, r4]
theorem eqZ (p : Int × Int) : eqS (.agg [.int, .int]) (.agg #[.int .i64 p.1, .int .i64 p.2]) (.agg #[.int .i64 0, .int .i64 0]) = some (decide (p = (0, 0))) := eqP p (0, 0)
attribute [go_sem ↓ high] eqZ
/-- First of the document -/
theorem firstR43 {x : Int × Int} (hx : Bd 1000000000 x) (h : SHeap) : M.call 43 [agV x] h = some (.tuple #[agV (firP x).1, agV (firP x).2], h, []) := by
  refine call_run sf43 rfl rfl rfl ?_
  unfold sf43
  by_cases c : x = (0, 0)
  · subst c
    rw [firP_0]
    repeat (first | apply run_seq | apply run_block | apply end_seq | apply end_blk_hit | apply end_blk_miss rfl | apply end_blk | apply end_seq_exit | apply end_seq_ret | apply end_blk_ret | apply run_skip | apply run_ret | apply run_exit | (apply run_region (by decide); (simp (maxSteps := 9999999) only [go_sem, argR]; rfl)) | (apply run_regionN (by decide); (simp (maxSteps := 9999999) only [go_sem, argR]; rfl)) | (refine run_cond_t ?_ ?_; · simp only [go_sem]) | (refine run_cond_f ?_ ?_; · simp only [go_sem]))
    exact end_nil (q_free [agV (0, 0), agV (1, 0)] (by simp (maxSteps := 9999999) only [go_sem]) rfl rfl rfl (fun _ => rfl) (take_app _ _) rfl)
  · have e : (x = (0, 0)) = False := eq_false c
    repeat (first | apply run_seq | apply run_block | apply end_seq | apply end_blk_hit | apply end_blk_miss rfl | apply end_blk | apply end_seq_exit | apply end_seq_ret | apply end_blk_ret | apply run_skip | apply run_ret | apply run_exit | (apply run_region (by decide); (simp (maxSteps := 9999999) only [go_sem, argR, e]; rfl)) | (apply run_regionN (by decide); (simp (maxSteps := 9999999) only [go_sem, argR, e]; rfl)) | (refine run_cond_t ?_ ?_; · simp only [go_sem]) | (refine run_cond_f ?_ ?_; · simp only [go_sem]))
    refine run_loop (firstR_loop (x0 := x) _ h _ _ _ _ _ ⟨x, (1, 0), rfl, c, hx, by decide, rfl, by rw [mul_one], ?_, ?_, ?_, ?_, rfl, rfl, rfl⟩) ?_
    · simp (maxSteps := 9999999) only [go_sem]
    · simp (maxSteps := 9999999) only [go_sem]
    · simp (maxSteps := 9999999) only [go_sem]
    · simp (maxSteps := 9999999) only [go_sem]
    rintro ex ρ' ms' h1 d1 ⟨rfl, rfl, rfl, rfl, k1, k2, k3, k4⟩
    repeat (first | apply run_seq | apply run_block | apply end_seq | apply end_blk_hit | apply end_blk_miss rfl | apply end_blk | apply end_seq_exit | apply end_seq_ret | apply end_blk_ret | apply run_skip | apply run_ret | apply run_exit | (apply run_region (by decide); (simp (maxSteps := 9999999) only [go_sem, k1, k2, k3, k4]; rfl)) | (apply run_regionN (by decide); (simp (maxSteps := 9999999) only [go_sem, k1, k2, k3, k4]; rfl)) | (refine run_cond_t ?_ ?_; · simp only [go_sem]) | (refine run_cond_f ?_ ?_; · simp only [go_sem]))
    exact end_nil (q_free [agV (firP x).1, agV (firP x).2] (by simp (maxSteps := 9999999) only [go_sem, k2, k3]) rfl rfl rfl (fun _ => rfl) (take_app _ _) rfl)

end Go.Proofs.YtdmfhdnpakgkpaaDoor.Sh


