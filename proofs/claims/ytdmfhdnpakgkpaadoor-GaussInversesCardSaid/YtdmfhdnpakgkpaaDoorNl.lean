/- Numbers of the chapter: the first of the associates. -/
import Derived.Test.YtdmfhdnpakgkpaaDoorNk
set_option linter.all false
namespace Go.Proofs.YtdmfhdnpakgkpaaDoor.Sh
open Go
set_option maxRecDepth 100000

/-- is this the first of the associates? -/
def isF (p : Int × Int) : Prop := 0 < p.1 ∧ 0 ≤ p.2
instance (p : Int × Int) : Decidable (isF p) := by unfold isF; exact inferInstance
/-- the units in order -/
def unitK : Nat → Int × Int
  | 0 => (1, 0)
  | 1 => (0, 1)
  | 2 => (-1, 0)
  | _ => (0, -1)
/-- the unit that makes it the first -/
def firstU (p : Int × Int) : Int × Int := if isF p then (1, 0) else if isF (mulP p (0, 1)) then (0, 1) else if isF (mulP p (-1, 0)) then (-1, 0) else if isF (mulP p (0, -1)) then (0, -1) else (1, 0)
/-- the first of the associates, and the unit that makes the number of it -/
def firP (p : Int × Int) : (Int × Int) × (Int × Int) := (mulP p (firstU p), conjP (firstU p))
theorem mul_one (p : Int × Int) : mulP p (1, 0) = p := by unfold mulP; refine Prod.ext ?_ ?_ <;> dsimp only <;> omega
theorem mul_i (p : Int × Int) : mulP p (0, 1) = (-p.2, p.1) := by unfold mulP; refine Prod.ext ?_ ?_ <;> dsimp only <;> omega
theorem mul_m (p : Int × Int) : mulP p (-1, 0) = (-p.1, -p.2) := by unfold mulP; refine Prod.ext ?_ ?_ <;> dsimp only <;> omega
theorem mul_mi (p : Int × Int) : mulP p (0, -1) = (p.2, -p.1) := by unfold mulP; refine Prod.ext ?_ ?_ <;> dsimp only <;> omega
/-- a number that is not 0 has one -/
theorem first_ex {p : Int × Int} (h : p ≠ (0, 0)) : isF p ∨ isF (mulP p (0, 1)) ∨ isF (mulP p (-1, 0)) ∨ isF (mulP p (0, -1)) := by
  have : ¬ (p.1 = 0 ∧ p.2 = 0) := fun e => h (Prod.ext e.1 e.2)
  rw [mul_i, mul_m, mul_mi]
  unfold isF
  dsimp only
  omega

def rfA73_0 : SCode := (.region 0 [ ⟨(some 4), none, .alloc 68 true [(.int .i64 0), (.int .i64 0)], none, 0, false, []⟩, ⟨none, none, .store 2 (.tmp 4) (.tmp 7), none, 1, false, []⟩])
def rfB73_0 : SCode := (.block 1 (.seq (.region 0 [ ⟨(some 8), none, .load (some 2) (.tmp 1), none, 0, false, []⟩, ⟨(some 9), none, .load (some 2) (.tmp 4), none, 1, false, []⟩, ⟨(some 10), none, .call (.func 65) [(.tmp 8), (.tmp 9)], none, 2, false, []⟩, ⟨(some 5), none, .alloc 68 true [(.int .i64 0), (.int .i64 0)], none, 3, false, []⟩, ⟨none, none, .store 2 (.tmp 5) (.tmp 10), none, 4, false, []⟩]) (.seq (.region 0 [ ⟨(some 11), none, .idxArr 2 1 (.tmp 5) (.const (.int .i64 0)), none, 0, false, []⟩, ⟨(some 12), none, .load none (.tmp 11), none, 1, false, []⟩, ⟨(some 13), none, .bin .gtr (.tmp 12) (.const (.int .i64 0)), none, 2, false, []⟩, ⟨(some 14), none, .mov (.tmp 13), none, 3, false, []⟩, ⟨(some 15), none, .idxArr 2 1 (.tmp 5) (.const (.int .i64 1)), some (14, true), 4, false, []⟩, ⟨(some 16), none, .load none (.tmp 15), some (14, true), 5, false, []⟩, ⟨(some 17), none, .bin .geq (.tmp 16) (.const (.int .i64 0)), some (14, true), 6, false, []⟩, ⟨(some 18), none, .pick (.tmp 14) (.tmp 17) (.const (.bool false)), none, 7, false, []⟩]) (.cond (.tmp 18) (.seq (.region 0 [ ⟨(some 19), none, .load (some 2) (.tmp 5), none, 0, true, []⟩, ⟨(some 20), none, .load (some 2) (.tmp 4), none, 1, true, []⟩, ⟨(some 21), none, .call (.func 78) [(.tmp 20)], none, 2, false, [0]⟩, ⟨none, none, .store 2 (.tmp 2) (.tmp 19), none, 3, false, []⟩, ⟨none, none, .store 2 (.tmp 3) (.tmp 21), none, 4, false, []⟩]) (.ret)) (.skip)))))

/-- the state of the range in first: n is the caller's base -/
structure JF (n : Nat) (x : Int × Int) (t : T) (H hh : SHeap) : Prop where
  len : n + 5 ≤ hh.length
  low : ∀ j, j < n → hh[j]? = H[j]?
  c0 : hh[n]? = some (.cells [.int .i64 x.1, .int .i64 x.2] 68 true 0 [])
  c1 : hh[n + 1]? = some (.cells [.int .i64 0, .int .i64 0] 68 true 0 [])
  c2 : hh[n + 2]? = some (.cells [.int .i64 0, .int .i64 0] 68 true 0 [])
  df : hh[n + 3]? = some .deferred
  lp : hh[n + 4]? = some (.loop 0 73 t [7] rfA73_0 rfB73_0 none (n + 3))
/-- its end -/
structure JG (n : Nat) (x u : Int × Int) (t : T) (H hh : SHeap) : Prop where
  len : n + 5 ≤ hh.length
  low : ∀ j, j < n → hh[j]? = H[j]?
  c1 : hh[n + 1]? = some (.cells [.int .i64 (mulP x u).1, .int .i64 (mulP x u).2] 68 true 0 [])
  c2 : hh[n + 2]? = some (.cells [.int .i64 (conjP u).1, .int .i64 (conjP u).2] 68 true 0 [])
  df : hh[n + 3]? = some .deferred
  lp : hh[n + 4]? = some (.loop 2 73 t [7] rfA73_0 rfB73_0 (some .ret) (n + 3))

theorem first_round {n base : Nat} {x u : Int × Int} {t : T} {H hh : SHeap} (hx : Bd 1000000000 x) (hu : Bd 1 u) (hf : Full 5 t) (t1 : t.get 1 = .pointer (some ⟨n, 0, none⟩)) (t2 : t.get 2 = .pointer (some ⟨n + 1, 0, none⟩)) (t3 : t.get 3 = .pointer (some ⟨n + 2, 0, none⟩)) (J : JF n x t H hh) :
    ∃ hh', (isF (mulP x u) → M.round base (n + 4) [agV u] hh = some (.bool false, hh', []) ∧ JG n x u t H hh') ∧
      (¬ isF (mulP x u) → M.round base (n + 4) [agV u] hh = some (.bool true, hh', []) ∧ hh.length ≤ hh'.length ∧ ∀ j, j < hh.length → hh'[j]? = hh[j]?) := by
  have jl := J.len
  have c65 := fun h => times65 hx hu (by decide) h
  have c78 := fun h => turned78 hu (by decide) h
  have hset : (hh ++ [SO.cells [.int .i64 u.1, .int .i64 u.2] 68 true 0 []]).set (n + 4) (.loop 1 73 t [7] rfA73_0 rfB73_0 none (n + 3)) = hh.set (n + 4) (.loop 1 73 t [7] rfA73_0 rfB73_0 none (n + 3)) ++ [SO.cells [.int .i64 u.1, .int .i64 u.2] 68 true 0 []] := by
    rw [List.set_append_left _ _ (by omega)]
  have hl1 : (hh ++ [SO.cells [.int .i64 u.1, .int .i64 u.2] 68 true 0 []])[n + 4]? = some (.loop 0 73 t [7] rfA73_0 rfB73_0 none (n + 3)) := by rw [List.getElem?_append_left (by omega)]; exact J.lp
  have g0 : ∀ j, j ≠ n + 4 → (hh.set (n + 4) (.loop 1 73 t [7] rfA73_0 rfB73_0 none (n + 3)))[j]? = hh[j]? := fun j hj => by rw [List.getElem?_set_ne (by omega)]
  have g1 : (hh.set (n + 4) (.loop 1 73 t [7] rfA73_0 rfB73_0 none (n + 3)))[n + 4]? = some (.loop 1 73 t [7] rfA73_0 rfB73_0 none (n + 3)) := by rw [List.getElem?_set_self (by omega)]
  have g2 : (hh.set (n + 4) (.loop 1 73 t [7] rfA73_0 rfB73_0 none (n + 3))).length = hh.length := by simp
  have hbase : Run M ⟨base, some (n + 4), 73⟩ 5 rfA73_0 [] (zipR t.get [7] [agV u]) [] hh [] (fun ex ρ1 ms1 h1 d1 => ex = .normal ∧ ms1 = [] ∧ d1 = [] ∧ h1 = hh ++ [SO.cells [.int .i64 u.1, .int .i64 u.2] 68 true 0 []] ∧ ρ1 1 = .pointer (some ⟨n, 0, none⟩) ∧ ρ1 2 = .pointer (some ⟨n + 1, 0, none⟩) ∧ ρ1 3 = .pointer (some ⟨n + 2, 0, none⟩) ∧ ρ1 4 = .pointer (some ⟨hh.length, 0, none⟩)) := by
    unfold rfA73_0
    repeat (first | apply run_seq | apply run_block | apply end_seq | apply end_blk_hit | apply end_blk_miss rfl | apply end_blk | apply end_seq_exit | apply end_seq_ret | apply end_blk_ret | apply run_skip | apply run_ret | apply run_exit | (apply run_region (by decide); (simp (maxSteps := 9999999) only [go_sem]; rfl)) | (apply run_regionN (by decide); (simp (maxSteps := 9999999) only [go_sem]; rfl)) | (refine run_cond_t ?_ ?_; · simp only [go_sem]) | (refine run_cond_f ?_ ?_; · simp only [go_sem]))
    refine end_nil ⟨rfl, rfl, rfl, rfl, ?_, ?_, ?_, ?_⟩
    · simp (maxSteps := 9999999) only [go_sem, t1]
    · simp (maxSteps := 9999999) only [go_sem, t2]
    · simp (maxSteps := 9999999) only [go_sem, t3]
    · simp (maxSteps := 9999999) only [go_sem]
  by_cases c : isF (mulP x u)
  · obtain ⟨r, ⟨hh', rfl, hP⟩, e⟩ := round_rule (FT := FT) (C := CA) (base := base) (args := [agV u]) (fun r => ∃ hh', r = (.bool false, hh', []) ∧ JG n x u t H hh') J.lp hf rfl (by decide) rfl (by
      refine run_imp hbase ?_
      rintro ex ρ1 ms1 h1 d1 ⟨rfl, rfl, rfl, rfl, k1, k2, k3, k4⟩
      refine ⟨rfl, ⟨73, t, [7], _, _, n + 3, hl1⟩, ?_⟩
      rw [setLoop_eq hl1, hset]
      rw [← g2] at k4
      have gl := g2
      generalize hh.set (n + 4) (.loop 1 73 t [7] rfA73_0 rfB73_0 none (n + 3)) = G at *
      have b1 : ∀ l, loadS (G ++ l) (some 2) (.pointer (some ⟨n, 0, none⟩)) = some (.agg #[.int .i64 x.1, .int .i64 x.2]) := fun l => by
        rw [load_rdON, List.getElem?_append_left (by omega), g0 _ (by omega), J.c0]; rfl
      have b2 : ∀ l, (G ++ l)[n + 1]? = some (.cells [.int .i64 0, .int .i64 0] 68 true 0 []) := fun l => by
        rw [List.getElem?_append_left (by omega), g0 _ (by omega), J.c1]
      have b3 : ∀ l X, ((G ++ l).set (n + 1) X)[n + 2]? = some (.cells [.int .i64 0, .int .i64 0] 68 true 0 []) := fun l X => by
        rw [List.getElem?_set_ne (by omega), List.getElem?_append_left (by omega), g0 _ (by omega), J.c2]
      have c1 := c.1
      have c2 := c.2
      unfold rfB73_0
      repeat (first | apply run_seq | apply run_block | apply end_seq | apply end_blk_hit | apply end_blk_miss rfl | apply end_blk | apply end_seq_exit | apply end_seq_ret | apply end_blk_ret | apply run_skip | apply run_ret | apply run_exit | (apply run_region (by decide); (simp (maxSteps := 9999999) only [go_sem, k1, k2, k3, k4, b1, b2, b3, c65, c78, c1, c2]; rfl)) | (apply run_regionN (by decide); (simp (maxSteps := 9999999) only [go_sem, k1, k2, k3, k4, b1, b2, b3, c65, c78, c1, c2]; rfl)) | (refine run_cond_t ?_ ?_; · simp only [go_sem]) | (refine run_cond_f ?_ ?_; · simp only [go_sem]))
      have hL : ∀ l X Y, (((G ++ l).set (n + 1) X).set (n + 2) Y)[n + 4]? = some (.loop 1 73 t [7] rfA73_0 rfB73_0 none (n + 3)) := fun l X Y => by
        rw [List.getElem?_set_ne (by omega), List.getElem?_set_ne (by omega), List.getElem?_append_left (by omega), g1]
      refine end_nil ⟨⟨_, _, _, _, _, _, _, _, hL _ _ _⟩, _, rfl, ?_⟩
      show JG n x u t H (setLoop _ (n + 4) 2 (some .ret))
      rw [setLoop_eq (hL _ _ _)]
      refine ⟨by simp; omega, fun j hj => ?_, ?_, ?_, ?_, ?_⟩
      · rw [List.getElem?_set_ne (by omega), List.getElem?_set_ne (by omega), List.getElem?_set_ne (by omega), List.getElem?_append_left (by omega), g0 _ (by omega)]; exact J.low j hj
      · rw [List.getElem?_set_ne (by omega), List.getElem?_set_ne (by omega), List.getElem?_set_self (by simp; omega)]
      · rw [List.getElem?_set_ne (by omega), List.getElem?_set_self (by simp; omega)]
      · rw [List.getElem?_set_ne (by omega), List.getElem?_set_ne (by omega), List.getElem?_set_ne (by omega), List.getElem?_append_left (by omega), g0 _ (by omega)]; exact J.df
      · rw [List.getElem?_set_self (by simp; omega)])
    exact ⟨hh', fun _ => ⟨e, hP⟩, fun h => (h c).elim⟩
  · obtain ⟨r, ⟨hh', rfl, hP⟩, e⟩ := round_rule (FT := FT) (C := CA) (base := base) (args := [agV u]) (fun r => ∃ hh', r = (.bool true, hh', []) ∧ hh.length ≤ hh'.length ∧ ∀ j, j < hh.length → hh'[j]? = hh[j]?) J.lp hf rfl (by decide) rfl (by
      refine run_imp hbase ?_
      rintro ex ρ1 ms1 h1 d1 ⟨rfl, rfl, rfl, rfl, k1, k2, k3, k4⟩
      refine ⟨rfl, ⟨73, t, [7], _, _, n + 3, hl1⟩, ?_⟩
      rw [setLoop_eq hl1, hset]
      rw [← g2] at k4
      have gl := g2
      generalize hh.set (n + 4) (.loop 1 73 t [7] rfA73_0 rfB73_0 none (n + 3)) = G at *
      have b1 : ∀ l, loadS (G ++ l) (some 2) (.pointer (some ⟨n, 0, none⟩)) = some (.agg #[.int .i64 x.1, .int .i64 x.2]) := fun l => by
        rw [load_rdON, List.getElem?_append_left (by omega), g0 _ (by omega), J.c0]; rfl
      have hL : ∀ l, (G ++ l)[n + 4]? = some (.loop 1 73 t [7] rfA73_0 rfB73_0 none (n + 3)) := fun l => by
        rw [List.getElem?_append_left (by omega), g1]
      have fin : ∀ l, (∃ st' fn' t' ps' as' body' pd df', (G ++ l)[n + 4]? = some (SO.loop st' fn' t' ps' as' body' pd df')) ∧ ∃ hh', (Value.bool true, setLoop (G ++ l) (n + 4) 0 none, ([] : List Nat)) = (.bool true, hh', []) ∧ hh.length ≤ hh'.length ∧ ∀ j, j < hh.length → hh'[j]? = hh[j]? := by
        intro l
        refine ⟨⟨_, _, _, _, _, _, _, _, hL l⟩, _, rfl, ?_⟩
        rw [setLoop_eq (hL l)]
        refine ⟨by simp; omega, fun j hj => ?_⟩
        by_cases e : j = n + 4
        · subst e
          rw [List.getElem?_set_self (by simp; omega), J.lp]
        · rw [List.getElem?_set_ne (by omega), List.getElem?_append_left (by omega), g0 _ e]
      unfold rfB73_0
      by_cases c1 : 0 < (mulP x u).1
      · have c2 : ¬ 0 ≤ (mulP x u).2 := fun e => c ⟨c1, e⟩
        repeat (first | apply run_seq | apply run_block | apply end_seq | apply end_blk_hit | apply end_blk_miss rfl | apply end_blk | apply end_seq_exit | apply end_seq_ret | apply end_blk_ret | apply run_skip | apply run_ret | apply run_exit | (apply run_region (by decide); (simp (maxSteps := 9999999) only [go_sem, k1, k2, k3, k4, b1, c65, c78, c1, c2]; rfl)) | (apply run_regionN (by decide); (simp (maxSteps := 9999999) only [go_sem, k1, k2, k3, k4, b1, c65, c78, c1, c2]; rfl)) | (refine run_cond_t ?_ ?_; · simp only [go_sem]) | (refine run_cond_f ?_ ?_; · simp only [go_sem]))
        exact end_nil (fin _)
      · repeat (first | apply run_seq | apply run_block | apply end_seq | apply end_blk_hit | apply end_blk_miss rfl | apply end_blk | apply end_seq_exit | apply end_seq_ret | apply end_blk_ret | apply run_skip | apply run_ret | apply run_exit | (apply run_region (by decide); (simp (maxSteps := 9999999) only [go_sem, k1, k2, k3, k4, b1, c65, c78, c1]; rfl)) | (apply run_regionN (by decide); (simp (maxSteps := 9999999) only [go_sem, k1, k2, k3, k4, b1, c65, c78, c1]; rfl)) | (refine run_cond_t ?_ ?_; · simp only [go_sem]) | (refine run_cond_f ?_ ?_; · simp only [go_sem]))
        exact end_nil (fin _))
    exact ⟨hh', fun h => (c h).elim, fun _ => ⟨e, hP⟩⟩
end Go.Proofs.YtdmfhdnpakgkpaaDoor.Sh

