/- How far the foot of the middle lies ahead: rests, firm rests and tips of the program and of the document. -/
import Derived.Test.YtecncmmkghmojaaXm
set_option linter.all false
namespace Go.Proofs.Ytecncmmkghmojaa.Sh
open Go Geo
set_option maxRecDepth 100000

/-- two cells are returned -/
theorem q_cell2 {base i j n m : Nat} {ρ : Reg} {h h0 : SHeap} (l k : List Value) (hv : loadS h (some n) (ρ i) = some (.agg l.toArray)) (hw : loadS h (some m) (ρ j) = some (.agg k.toArray)) (hfl : l.all (flat 1) = true) (hfk : k.all (flat 1) = true) (hp : ∃ a, ρ i = .pointer a) (hq : ∃ a, ρ j = .pointer a) (ht : h.take base = h0) :
    callQ [.cell (some n) i, .cell (some m) j] base (.tuple #[.agg l.toArray, .agg k.toArray], h0, []) .ret ρ [] h [] := by
  obtain ⟨a, ha⟩ := hp
  obtain ⟨b, hb⟩ := hq
  refine ⟨rfl, ?_⟩
  show opn (ρ i) fun a => ∃ v, loadS h (some n) a = some v ∧ opn v fun v' => opn (ρ j) fun b => ∃ w, loadS h (some m) b = some w ∧ opn w fun w' => endW base h [] (.tuple #[.agg l.toArray, .agg k.toArray], h0, []) [v', w']
  rw [ha] at hv ⊢
  rw [hb] at hw ⊢
  exact ⟨_, hv, ⟨_, hw, end_flat (l := [.agg l.toArray, .agg k.toArray]) (by simp only [oneV, flat]; simp only [List.toList_toArray, List.all_cons, List.all_nil, flat, hfl, hfk, Bool.and_self]) ht⟩⟩

/-- the numbers of a middle -/
structure Fine (X Y D : Int) : Prop where
  x : X.natAbs ≤ 384000
  y : Y.natAbs ≤ 384000
  d : D.natAbs ≤ 28800
theorem Tame.fine {l : List (Int × Int)} (T : Tame l) : Fine (mX l) (mY l) (mD l) :=
  ⟨tdiv_le _ _ _ (midX_bound T), tdiv_le _ _ _ (midY_bound T), tdiv_le _ _ _ (by have := area_bound T; omega)⟩

/-- how far the foot lies ahead of p, towards q -/
def ahd (X Y D : Int) (p q : Int × Int) : Int := dotp (sbt (X, Y) (D * p.1, D * p.2)) (sbt q p)
theorem ahd_eq (X Y D : Int) (p q : Int × Int) : ahd X Y D p q = (q.1 - p.1) * (X - p.1 * D) + (q.2 - p.2) * (Y - p.2 * D) := by
  simp only [ahd, dotp, sbt]
  rw [Int.mul_comm D p.1, Int.mul_comm D p.2, Int.mul_comm (q.1 - p.1), Int.mul_comm (q.2 - p.2)]

theorem Body.loadM {h : SHeap} {b cb c : Nat} {l : List (Int × Int)} {x y D : Int} (k : Body h b cb c l x y D) : loadS h (some 2) (.pointer (some ⟨b, 1, none⟩)) = some (.agg #[.int .i64 x, .int .i64 y]) := by
  rw [load_rdON, k.1]; rfl
theorem Body.loadD {h : SHeap} {b cb c : Nat} {l : List (Int × Int)} {x y D : Int} (k : Body h b cb c l x y D) : loadS h none (.pointer (some ⟨b, 3, none⟩)) = some (.int .i64 D) := by
  rw [load_rdO, k.1]; rfl

theorem inR_mul {D : Int} {p : Int × Int} (hD : D.natAbs ≤ 28800) (hp : inR p) : (D * p.1).natAbs ≤ 576000 ∧ (D * p.2).natAbs ≤ 576000 :=
  ⟨Nat.le_trans (mul_bound (m := 28800) (n := 20) hD (by obtain ⟨a, b, c, d⟩ := hp; omega)) (by decide), Nat.le_trans (mul_bound (m := 28800) (n := 20) hD (by obtain ⟨a, b, c, d⟩ := hp; omega)) (by decide)⟩

/-- ahead -/
theorem ahead68 {h : SHeap} {b cb c : Nat} {l : List (Int × Int)} {X Y D : Int} (hb : Body h b cb c l X Y D) (F : Fine X Y D) {p q : Int × Int} (hp : inR p) (hq : inR q) :
    M.call 68 [.pointer (some ⟨b, 0, none⟩), .agg #[.int .i64 p.1, .int .i64 p.2], .agg #[.int .i64 q.1, .int .i64 q.2]] h = some (.int .i64 (ahd X Y D p q), h, []) := by
  have hb' := hb.app [SO.cells [.int .i64 p.1, .int .i64 p.2] 77 true 0 [], .cells [.int .i64 q.1, .int .i64 q.2] 77 true 0 []]
  have m1 := hb'.loadM
  have m2 := hb'.loadD
  have hm := inR_mul F.d hp
  have hx := F.x
  have hy := F.y
  have c103 := fun h => times103 D p h (inR_sm hp) (by have := F.d; omega)
  have c80 := fun h => minus80 (X, Y) (D * p.1, D * p.2) h ⟨by simp only; omega, by simp only; omega⟩ ⟨by simp only; omega, by simp only; omega⟩
  have c80' := fun h => minus80 q p h (inR_sm hq) (inR_sm hp)
  have c82 := fun h => dot82 (sbt (X, Y) (D * p.1, D * p.2)) (sbt q p) h ⟨by simp only [sbt]; omega, by simp only [sbt]; omega⟩ ⟨by have := hp.1; have := hp.2.1; have := hq.1; have := hq.2.1; simp only [sbt]; omega, by have := hp.2.2; have := hq.2.2; simp only [sbt]; omega⟩
  dsimp only at c80
  refine call_run sf68 rfl rfl rfl ?_
  unfold sf68
  repeat (first | apply run_seq | apply run_block | apply end_seq | apply end_blk_hit | apply end_blk_miss rfl | apply end_blk | apply end_seq_exit | apply end_seq_ret | apply end_blk_ret | apply run_skip | apply run_ret | apply run_exit | (apply run_region (by decide); (simp only [go_sem, argR, m1, m2, c103, c80, c80', c82]; rfl)) | (refine run_cond_t ?_ ?_; · simp only [go_sem]) | (refine run_cond_f ?_ ?_; · simp only [go_sem]))
  exact end_nil (q_ret1 _ (by simp only [go_sem]; rfl) rfl (take_app _ _))

/-- ends -/
theorem ends67 {h : SHeap} {b cb c : Nat} {l : List (Int × Int)} {X Y D : Int} (hb : Body h b cb c l X Y D) (hn : l.length ≤ 12) {i : Nat} (hi : i < l.length) :
    M.call 67 [.pointer (some ⟨b, 0, none⟩), .int .i64 i] h = some (.tuple #[.agg #[.int .i64 (cn l i).1, .int .i64 (cn l i).2], .agg #[.int .i64 (cn l ((i + 1) % l.length)).1, .int .i64 (cn l ((i + 1) % l.length)).2]], h, []) := by
  have g1 : ∀ x y : Value, ∀ z w : Value, loadS (h ++ [SO.cells [x, y] 77 true 0 [], .cells [z, w] 77 true 0 []]) none (.pointer (some ⟨b, 0, none⟩)) = some (.slice (some ⟨cb, 0, none⟩) l.length c) := fun x y z w => (hb.app _).load
  have hqm : (i + 1) % l.length < l.length := Nat.mod_lt _ (by omega)
  have e1 : (i : Int) < l.length := by omega
  have e2 : (0 : Int) ≤ i := by omega
  have ew : IntKind.i64.wrap ((i : Int) + 1) = ((i + 1 : Nat) : Int) := by rw [wrap64 (by omega) (by omega)]; rfl
  have v4 : (((i + 1 : Nat) : Int)).tmod (l.length : Int) = (((i + 1) % l.length : Nat) : Int) := by rw [Int.tmod_eq_emod_of_nonneg (by omega)]; rfl
  have hz : ¬ ((l.length : Int) = 0) := by omega
  have p3 : (((i + 1) % l.length : Nat) : Int) < l.length := by omega
  have p4 : (0 : Int) ≤ (((i + 1) % l.length : Nat) : Int) := by omega
  have l1 := fun e => hb.2.corner hi e
  have l2 := fun e => hb.2.corner hqm e
  rw [Nat.zero_add] at l1 l2
  generalize (i + 1) % l.length = a at *
  generalize cn l i = p at *
  generalize cn l a = q at *
  refine call_run sf67 rfl rfl rfl ?_
  unfold sf67
  repeat (first | apply run_seq | apply run_block | apply end_seq | apply end_blk_hit | apply end_blk_miss rfl | apply end_blk | apply end_seq_exit | apply end_seq_ret | apply end_blk_ret | apply run_skip | apply run_ret | apply run_exit | (apply run_region (by decide); (simp only [go_sem, argR, g1, l1, l2, e1, e2, ew, v4, hz, p3, p4, Int.toNat_natCast]; rfl)) | (refine run_cond_t ?_ ?_; · simp only [go_sem]) | (refine run_cond_f ?_ ?_; · simp only [go_sem]))
  refine end_nil (q_cell2 [.int .i64 p.1, .int .i64 p.2] [.int .i64 q.1, .int .i64 q.2] ?_ ?_ rfl rfl ⟨some ⟨h.length, 0, none⟩, by simp only [go_sem]⟩ ⟨some ⟨h.length + 1, 0, none⟩, by simp only [go_sem]⟩ (take_app _ _))
  · simp only [go_sem]
  · simp only [go_sem]

def side (l : List (Int × Int)) (i : Nat) : (Int × Int) × (Int × Int) := (cn l i, cn l ((i + 1) % l.length))
def restB (X Y D : Int) (p q : Int × Int) : Bool := decide (0 ≤ ahd X Y D p q) && decide (0 ≤ ahd X Y D q p)
def firmB (X Y D : Int) (p q : Int × Int) : Bool := decide (0 < ahd X Y D p q) && decide (0 < ahd X Y D q p)
/-- rests -/
theorem rests71 {h : SHeap} {b cb c : Nat} {l : List (Int × Int)} {X Y D : Int} (hb : Body h b cb c l X Y D) (F : Fine X Y D) (hl : ∀ q ∈ l, inR q) (hn : l.length ≤ 12) {i : Nat} (hi : i < l.length) :
    M.call 71 [.pointer (some ⟨b, 0, none⟩), .int .i64 i] h = some (.bool (restB X Y D (cn l i) (cn l ((i + 1) % l.length))), h, []) := by
  have c67 := ends67 hb hn hi
  have hp : inR (cn l i) := inR_getD hl i
  have hq : inR (cn l ((i + 1) % l.length)) := inR_getD hl ((i + 1) % l.length)
  have g : ∀ e : SHeap, Body (h ++ e) b cb c l X Y D := fun e => hb.app e
  unfold restB
  generalize (i + 1) % l.length = a at *
  generalize cn l i = p at *
  generalize cn l a = q at *
  have a1 := fun e => ahead68 (g e) F hp hq
  have a2 := fun e => ahead68 (g e) F hq hp
  generalize ahd X Y D p q = A at *
  generalize ahd X Y D q p = B at *
  refine call_run sf71 rfl rfl rfl ?_
  unfold sf71
  by_cases c1 : 0 ≤ A
  · by_cases c2 : 0 ≤ B
    · repeat (first | apply run_seq | apply run_block | apply end_seq | apply end_blk_hit | apply end_blk_miss rfl | apply end_blk | apply end_seq_exit | apply end_seq_ret | apply end_blk_ret | apply run_skip | apply run_ret | apply run_exit | (apply run_region (by decide); (simp only [go_sem, argR, c67, a1, a2, c1, c2]; rfl)) | (refine run_cond_t ?_ ?_; · simp only [go_sem]) | (refine run_cond_f ?_ ?_; · simp only [go_sem]))
      exact end_nil (q_ret1 _ (by simp only [go_sem, c1, c2]) rfl (take_app _ _))
    · repeat (first | apply run_seq | apply run_block | apply end_seq | apply end_blk_hit | apply end_blk_miss rfl | apply end_blk | apply end_seq_exit | apply end_seq_ret | apply end_blk_ret | apply run_skip | apply run_ret | apply run_exit | (apply run_region (by decide); (simp only [go_sem, argR, c67, a1, a2, c1, c2]; rfl)) | (refine run_cond_t ?_ ?_; · simp only [go_sem]) | (refine run_cond_f ?_ ?_; · simp only [go_sem]))
      exact end_nil (q_ret1 _ (by simp only [go_sem, c1, c2]) rfl (take_app _ _))
  · repeat (first | apply run_seq | apply run_block | apply end_seq | apply end_blk_hit | apply end_blk_miss rfl | apply end_blk | apply end_seq_exit | apply end_seq_ret | apply end_blk_ret | apply run_skip | apply run_ret | apply run_exit | (apply run_region (by decide); (simp only [go_sem, argR, c67, a1, a2, c1]; rfl)) | (refine run_cond_t ?_ ?_; · simp only [go_sem]) | (refine run_cond_f ?_ ?_; · simp only [go_sem]))
    exact end_nil (q_ret1 _ (by simp only [go_sem, c1, Bool.false_and]) rfl (take_app _ _))

end Go.Proofs.Ytecncmmkghmojaa.Sh

