/- The package variable of supply stands in every world that the rows speak of. -/
import Derived.Test.YtpkhkghiidilcaaDoorH43
import Derived.Test.YtpkhkghiidilcaaDoorRows
import Derived.LaidLaws
import Derived.LaidHandle
import Derived.ChangeSame
import Derived.Test.YtpkhkghiidilcaaDoorH41
set_option linter.all false
namespace Go.Proofs.YtpkhkghiidilcaaDoor.Sh
section
open Go Go.RowKit Go.WideShapes Go.ChangeShapes
set_option maxRecDepth 100000
theorem noneN : Tryd.prog.globalNamed "careen/supply.none" = some 0 := by kernel_rfl
theorem only : ((List.range Tryd.prog.globals.size).all fun g => (laidG Tryd.prog g).isNone || Nat.beq g 0) = true := by kernel_rfl
theorem laid0 : laidG Tryd.prog 0 = some [.int .i64 0, .int .i64 0] := by kernel_rfl
theorem ty0 : (Tryd.prog.globals[0]?).map (·.type) = some 129 := by kernel_rfl
def st2 (d : Option TypeDesc) (t0 o0 t1 o1 : Nat) : Bool := match d with
 | some (.struct fs) => match fs.toList with
  | [f0, f1] => Nat.beq f0.type t0 && Nat.beq f0.offset o0 && Nat.beq f1.type t1 && Nat.beq f1.offset o1
  | _ => false
 | _ => false
theorem st2_ok {d : Option TypeDesc} {t0 o0 t1 o1 : Nat} (h : st2 d t0 o0 t1 o1 = true) : ∃ f0 f1 : Field, d = some (.struct #[f0, f1]) ∧ f0.type = t0 ∧ f0.offset = o0 ∧ f1.type = t1 ∧ f1.offset = o1 := by
 unfold st2 at h
 split at h
 ·rename_i fs
  split at h
  ·rename_i f0 f1 e
   simp only [Bool.and_eq_true] at h
   obtain ⟨⟨⟨h1, h2⟩, h3⟩, h4⟩ := h
   refine ⟨f0, f1, ?_, Nat.eq_of_beq_eq_true h1, Nat.eq_of_beq_eq_true h2, Nat.eq_of_beq_eq_true h3, Nat.eq_of_beq_eq_true h4⟩
   have : fs = #[f0, f1] := Array.ext' e
   rw [this]
  ·cases h
 ·cases h
theorem u129 : ∃ f0 f1 : Field, Tryd.prog.underlying 129 = some (.struct #[f0, f1]) ∧ f0.type = 3 ∧ f0.offset = 0 ∧ f1.type = 3 ∧ f1.offset = 1 := st2_ok (by kernel_rfl)
theorem u3 : Tryd.prog.underlying 3 = some (.int .i64) := by kernel_rfl
theorem cells129 : Tryd.prog.cellsOf 129 = 2 := by kernel_rfl
theorem cells3 : Tryd.prog.cellsOf 3 = 1 := by kernel_rfl
theorem var_heap {P : Program} {w : World} {n : String} {g : Nat} {cs : Array Value} (hg : P.globalNamed n = some g) (h : w.var? P n = some cs) : ∃ el fr, w.heap[g]? = some (.cells cs el fr) := by
 simp only [World.var?, hg, Option.bind_some] at h
 split at h
 ·rename_i c el fr hh; cases h; exact ⟨el, fr, hh⟩
 ·cases h
theorem glob_of_laid {W : World} (h : laidMetH Tryd.prog [("careen/supply.none", Rows.laid_careen_supply_none)] W) : GlobW Tryd.prog W := by
 have h' : laidMet Tryd.prog [("careen/supply.none", Rows.laid_careen_supply_none)] W := h
 obtain ⟨ps, hl, _, _⟩ := h'
 obtain ⟨g0, t0, cs0, f0, p0, q0, a1, a2, a3, a4, _, _⟩ := hl
 obtain rfl := Option.some.inj (noneN.symm.trans a1)
 obtain rfl := Option.some.inj (ty0.symm.trans a2)
 obtain ⟨s0, s1, hu, t0, o0, t1, o1⟩ := u129
 have c0 : cs0.toList = [.int .i64 0, .int .i64 0] := by
  obtain ⟨y0, y1, n, hx, hl, h0, h1⟩ := trod_struct2 hu a4
  rw [cells129] at hl
  rw [t0, o0, cells3] at h0
  rw [t1, o1, cells3] at h1
  match hcs : cs0.toList, hl with
  | [c0, c1], _ =>
   rw [hcs] at h0 h1
   simp only [List.drop_zero, List.drop_succ_cons, List.take_succ_cons, List.take_zero] at h0 h1
   obtain ⟨n0, e0, f0, _⟩ := DataW.trod_int u3 h0
   obtain ⟨n1, e1, f1, _⟩ := DataW.trod_int u3 h1
   simp only [List.cons.injEq, and_true] at e0 e1
   rw [e0, e1]
   simp only [Rows.laid_careen_supply_none, Prod.mk.injEq, DataW.agg.injEq, List.cons.injEq, and_true] at hx
   obtain ⟨⟨g0, g1⟩, _⟩ := hx
   rw [f0] at g0
   rw [f1] at g1
   simp only [DataW.lit.injEq, Lit.int.injEq, true_and] at g0 g1
   rw [← g0, ← g1]
 obtain ⟨el0, fr0, w0⟩ := var_heap noneN a3
 intro g l hg
 have hlt : g < Tryd.prog.globals.size := by
  unfold laidG at hg
  split at hg
  ·rename_i v hv; exact (Array.getElem?_eq_some_iff.1 hv).1
  ·cases hg
 have ho := List.all_eq_true.1 only g (List.mem_range.2 hlt)
 rw [hg] at ho
 simp only [Option.isNone_some, Bool.false_or, Nat.beq_eq] at ho
 subst ho
 rw [laid0] at hg; cases hg
 exact ⟨(Array.getElem?_eq_some_iff.1 w0).1, el0, fr0, by rw [w0, ← c0]⟩
end
end Go.Proofs.YtpkhkghiidilcaaDoor.Sh
namespace Go.Proofs.YtpkhkghiidilcaaDoor.Sh
section
open Go
set_option maxRecDepth 100000
set_option maxHeartbeats 1000000
structure IsD (n : Nat) (adj : Nat → Nat → Bool) (s : Nat) (F : Nat → Int) : Prop where
 src : F s = 0
 prv : ∀ v, v < n → 0 ≤ F v → v ≠ s → ∃ u, u < n ∧ adj u v = true ∧ 0 ≤ F u ∧ F v = F u + 1
 nxt : ∀ u v, u < n → v < n → 0 ≤ F u → adj u v = true → 0 ≤ F v ∧ F v ≤ F u + 1
theorem IsD.le {n : Nat} {adj : Nat → Nat → Bool} {s : Nat} {F F' : Nat → Int} (h : IsD n adj s F) (h' : IsD n adj s F') : ∀ v, v < n → 0 ≤ F v → 0 ≤ F' v ∧ F' v ≤ F v := by
 have key : ∀ (k : Nat) (v : Nat), v < n → F v = k → 0 ≤ F' v ∧ F' v ≤ F v := by
  intro k
  induction k with
  | zero =>
   intro v hv hk
   by_cases c : v = s
   ·subst c; rw [h.src, h'.src]; omega
   ·obtain ⟨u, _, _, h1, h2⟩ := h.prv v hv (by omega) c
    omega
  | succ k ih =>
   intro v hv hk
   have c : v ≠ s := fun e => by subst e; have := h.src; omega
   obtain ⟨u, hu, ha, h1, h2⟩ := h.prv v hv (by omega) c
   obtain ⟨k1, k2⟩ := ih u hu (by omega)
   obtain ⟨k3, k4⟩ := h'.nxt u v hu hv k1 ha
   omega
 intro v hv h0
 exact key (F v).toNat v hv (by omega)
theorem IsD.uniq {n : Nat} {adj : Nat → Nat → Bool} {s : Nat} {F F' : Nat → Int} (h : IsD n adj s F) (h' : IsD n adj s F') {v : Nat} (hv : v < n) : (0 ≤ F v ↔ 0 ≤ F' v) ∧ (0 ≤ F v → F v = F' v) := by
 refine ⟨⟨fun k => (h.le h' v hv k).1, fun k => (h'.le h v hv k).1⟩, fun k => ?_⟩
 have h1 := h.le h' v hv k
 have h2 := h'.le h v hv h1.1
 omega
theorem IsD.back {n : Nat} {adj : Nat → Nat → Bool} (hs : ∀ a b, adj a b = adj b a) {s t : Nat} (hsn : s < n) (ht : t < n) {F F' : Nat → Int} (h : IsD n adj s F) (h' : IsD n adj t F') (hr : 0 ≤ F t) : 0 ≤ F' s := by
 have key : ∀ (k : Nat) (v : Nat), v < n → F v = k → 0 ≤ F' v → 0 ≤ F' s := by
  intro k
  induction k with
  | zero =>
   intro v hv hk h0
   by_cases c : v = s
   ·subst c; exact h0
   ·obtain ⟨u, _, _, h1, h2⟩ := h.prv v hv (by omega) c
    omega
  | succ k ih =>
   intro v hv hk h0
   have c : v ≠ s := fun e => by subst e; have := h.src; omega
   obtain ⟨u, hu, ha, h1, h2⟩ := h.prv v hv (by omega) c
   exact ih u hu (by omega) (h'.nxt v u hv hu h0 (by rw [hs]; exact ha)).1
 exact key (F t).toNat t ht (by omega) (by rw [h'.src]; exact Int.le_refl 0)
theorem IsD.all {n : Nat} {adj : Nat → Nat → Bool} (hs : ∀ a b, adj a b = adj b a) {s t : Nat} (hsn : s < n) (ht : t < n) {F F' : Nat → Int} (h : IsD n adj s F) (h' : IsD n adj t F') (hr : ∀ v, v < n → 0 ≤ F v) : ∀ v, v < n → 0 ≤ F' v := by
 have h0 := h.back hs hsn ht h' (hr t ht)
 have key : ∀ (k : Nat) (v : Nat), v < n → F v = k → 0 ≤ F' v := by
  intro k
  induction k with
  | zero =>
   intro v hv hk
   by_cases c : v = s
   ·subst c; exact h0
   ·obtain ⟨u, _, _, h1, h2⟩ := h.prv v hv (by omega) c
    omega
  | succ k ih =>
   intro v hv hk
   have c : v ≠ s := fun e => by subst e; have := h.src; omega
   obtain ⟨u, hu, ha, h1, h2⟩ := h.prv v hv (by omega) c
   exact (h'.nxt u v hu hv (ih u hu (by omega)) ha).1
 intro v hv
 exact key (F v).toNat v hv (by have := hr v hv; omega)
def eAt (E : List (Int × Int)) (i : Nat) : Int × Int := E.getD i (0, 0)
theorem eAt_get {E : List (Int × Int)} {i : Nat} (h : i < E.length) : eAt E i = E[i] := by unfold eAt; rw [List.getD_eq_getElem?_getD, List.getElem?_eq_getElem h]; rfl
def okAt (n : Nat) (E : List (Int × Int)) (i : Nat) : Prop := 0 ≤ (eAt E i).1 ∧ (eAt E i).1 < (eAt E i).2 ∧ (eAt E i).2 < n ∧ (0 < i → (eAt E (i - 1)).1 < (eAt E i).1 ∨ (eAt E (i - 1)).1 = (eAt E i).1 ∧ (eAt E (i - 1)).2 < (eAt E i).2)
instance (n : Nat) (E : List (Int × Int)) (i : Nat) : Decidable (okAt n E i) := by unfold okAt; infer_instance
def EOK (n : Nat) (E : List (Int × Int)) : Prop := ∀ i, i < E.length → okAt n E i
instance (n : Nat) (E : List (Int × Int)) : Decidable (EOK n E) := by unfold EOK; infer_instance
def adjE (E : List (Int × Int)) (a b : Nat) : Bool := E.any fun e => decide (e = ((a : Int), (b : Int))) || decide (e = ((b : Int), (a : Int)))
theorem adjE_symm (E : List (Int × Int)) (a b : Nat) : adjE E a b = adjE E b a := by
 unfold adjE
 congr 1
 funext e
 rw [Bool.or_comm]
theorem adjE_snoc (E : List (Int × Int)) (e : Int × Int) (a b : Nat) : adjE (E ++ [e]) a b = (adjE E a b || decide (e = ((a : Int), (b : Int))) || decide (e = ((b : Int), (a : Int)))) := by
 unfold adjE; rw [List.any_append]; simp [Bool.or_assoc]
theorem adjE_mem {E : List (Int × Int)} {a b : Nat} : adjE E a b = true ↔ ((a : Int), (b : Int)) ∈ E ∨ ((b : Int), (a : Int)) ∈ E := by
 unfold adjE
 rw [List.any_eq_true]
 constructor
 ·rintro ⟨e, he, h⟩
  simp only [Bool.or_eq_true, decide_eq_true_eq] at h
  rcases h with rfl | rfl
  ·exact .inl he
  ·exact .inr he
 ·rintro (h | h)
  ·exact ⟨_, h, by simp⟩
  ·exact ⟨_, h, by simp⟩
theorem EOK.mem {n : Nat} {E : List (Int × Int)} (h : EOK n E) {e : Int × Int} (he : e ∈ E) : 0 ≤ e.1 ∧ e.1 < e.2 ∧ e.2 < n := by
 obtain ⟨i, hi, rfl⟩ := List.mem_iff_getElem.1 he
 have := h i hi
 unfold okAt at this
 rw [eAt_get hi] at this
 exact ⟨this.1, this.2.1, this.2.2.1⟩
theorem EOK.adj {n : Nat} {E : List (Int × Int)} (h : EOK n E) {a b : Nat} (ha : adjE E a b = true) : a < n ∧ b < n ∧ a ≠ b := by
 rcases adjE_mem.1 ha with k | k
 ·have := h.mem k; dsimp only at this; omega
 ·have := h.mem k; dsimp only at this; omega
def nxE (E : List (Int × Int)) (v : Nat) : Nat := (List.range 6).foldl (fun m w => if adjE E v w = true then m ||| 2 ^ w else m) 0
theorem nx_fold (E : List (Int × Int)) (v : Nat) : ∀ k, ((List.range k).foldl (fun m w => if adjE E v w = true then m ||| 2 ^ w else m) 0) < 2 ^ k ∧ ∀ i, ((List.range k).foldl (fun m w => if adjE E v w = true then m ||| 2 ^ w else m) 0).testBit i = (decide (i < k) && adjE E v i)
 | 0 => ⟨Nat.zero_lt_one, fun i => by simp⟩
 | k + 1 => by
  obtain ⟨h1, h2⟩ := nx_fold E v k
  rw [List.range_succ, List.foldl_append]
  simp only [List.foldl_cons, List.foldl_nil]
  by_cases c : adjE E v k = true
  ·rw [if_pos c]
   refine ⟨Nat.or_lt_two_pow (by rw [Nat.pow_succ]; omega) (Nat.pow_lt_pow_right (by decide) (by omega)), fun i => ?_⟩
   rw [Nat.testBit_or, h2, Nat.testBit_two_pow]
   by_cases e : k = i
   ·subst e; simp [c]
   ·by_cases e2 : i < k
    ·simp [e, e2, show i < k + 1 by omega]
    ·simp [e, e2, show ¬ i < k + 1 by omega]
  ·rw [if_neg c]
   refine ⟨by rw [Nat.pow_succ]; omega, fun i => ?_⟩
   rw [h2]
   by_cases e : k = i
   ·subst e; simp [c]
   ·by_cases e2 : i < k
    ·simp [e2, show i < k + 1 by omega]
    ·simp [e2, show ¬ i < k + 1 by omega]
theorem nxE_lt (E : List (Int × Int)) (v : Nat) : nxE E v < 64 := (nx_fold E v 6).1
theorem nxE_bit {n : Nat} {E : List (Int × Int)} (h : EOK n E) (hn : n ≤ 6) (v i : Nat) : (nxE E v).testBit i = adjE E v i := by
 rw [nxE, (nx_fold E v 6).2]
 by_cases c : adjE E v i = true
 ·have := (h.adj c).2.1
  simp [c, show i < 6 by omega]
 ·simp [c]
theorem bits_lt {a k : Nat} (h : ∀ i, a.testBit i = true → i < k) : a < 2 ^ k := by
 apply Nat.lt_of_not_ge
 intro hge
 obtain ⟨i, hi, hb⟩ := Nat.exists_ge_and_testBit_of_ge_two_pow hge
 have := h i hb
 omega
def gV (n : Nat) (nx : Nat → Nat) (far : Nat → Nat → Nat) : List Value := .int .i64 n :: ((List.range 6).map (fun v => Value.int .i64 (nx v : Int)) ++ (List.range 36).map (fun i => Value.int .i64 (far (i / 6) (i % 6) : Int)))
theorem gV_len (n : Nat) (nx : Nat → Nat) (far : Nat → Nat → Nat) : (gV n nx far).length = 43 := by simp [gV]
theorem gV_n (n : Nat) (nx : Nat → Nat) (far : Nat → Nat → Nat) : (gV n nx far)[0]? = some (.int .i64 n) := rfl
theorem gV_next (n : Nat) (nx : Nat → Nat) (far : Nat → Nat → Nat) {v : Nat} (h : v < 6) : (gV n nx far)[1 + v]? = some (.int .i64 (nx v)) := by
 unfold gV
 rw [Nat.add_comm 1 v, List.getElem?_cons_succ, List.getElem?_append_left (by simp; omega)]
 simp [h]
theorem gV_far (n : Nat) (nx : Nat → Nat) (far : Nat → Nat → Nat) {f v : Nat} (hf : f < 6) (h : v < 6) : (gV n nx far)[7 + f * 6 + v]? = some (.int .i64 (far f v)) := by
 unfold gV
 rw [show 7 + f * 6 + v = (6 + (f * 6 + v)) + 1 by omega, List.getElem?_cons_succ, List.getElem?_append_right (by simp)]
 simp only [List.length_map, List.length_range, Nat.add_sub_cancel_left, List.getElem?_map]
 rw [List.getElem?_range (by omega)]
 simp only [Option.map_some]
 rw [show (f * 6 + v) / 6 = f by omega, show (f * 6 + v) % 6 = v by omega]
def up {α : Type} (f : Nat → α) (v : Nat) (x : α) : Nat → α := fun k => if k = v then x else f k
theorem gV_congr {n : Nat} {nx nx' : Nat → Nat} {far far' : Nat → Nat → Nat} (h1 : ∀ v, v < 6 → nx v = nx' v) (h2 : ∀ f v, f < 6 → v < 6 → far f v = far' f v) : gV n nx far = gV n nx' far' := by
 unfold gV
 congr 2
 ·exact List.map_congr_left (fun v hv => by rw [h1 v (List.mem_range.1 hv)])
 ·exact List.map_congr_left (fun i hi => by
   have := List.mem_range.1 hi
   rw [h2 (i / 6) (i % 6) (by omega) (by omega)])
theorem gV_setn (n : Nat) (nx : Nat → Nat) (far : Nat → Nat → Nat) {v : Nat} (h : v < 6) (x : Nat) : (gV n nx far).set (1 + v) (.int .i64 x) = gV n (up nx v x) far := by
 apply List.ext_getElem?
 intro i
 by_cases e : i = 1 + v
 ·subst e
  rw [List.getElem?_set_self (by rw [gV_len]; omega), gV_next n _ far h]
  simp [up]
 ·rw [List.getElem?_set_ne (by omega)]
  match i with
  | 0 => rfl
  | i + 1 =>
   unfold gV
   rw [List.getElem?_cons_succ, List.getElem?_cons_succ]
   by_cases c : i < 6
   ·rw [List.getElem?_append_left (by simp; omega), List.getElem?_append_left (by simp; omega)]
    simp [c, up, show i ≠ v by omega]
   ·rw [List.getElem?_append_right (by simp; omega), List.getElem?_append_right (by simp; omega)]
    simp
theorem gV_setf (n : Nat) (nx : Nat → Nat) (far : Nat → Nat → Nat) {f v : Nat} (hf : f < 6) (h : v < 6) (x : Nat) : (gV n nx far).set (7 + f * 6 + v) (.int .i64 x) = gV n nx (up far f (up (far f) v x)) := by
 apply List.ext_getElem?
 intro i
 by_cases e : i = 7 + f * 6 + v
 ·subst e
  rw [List.getElem?_set_self (by rw [gV_len]; omega), gV_far n nx _ hf h]
  simp [up]
 ·rw [List.getElem?_set_ne (by omega)]
  match i with
  | 0 => rfl
  | i + 1 =>
   unfold gV
   rw [List.getElem?_cons_succ, List.getElem?_cons_succ]
   by_cases c : i < 6
   ·rw [List.getElem?_append_left (by simp; omega), List.getElem?_append_left (by simp; omega)]
   ·rw [List.getElem?_append_right (by simp; omega), List.getElem?_append_right (by simp; omega)]
    simp only [List.length_map, List.length_range, List.getElem?_map]
    by_cases c2 : i - 6 < 36
    ·rw [List.getElem?_range c2]
     simp only [Option.map_some, Option.some.injEq, Value.int.injEq, true_and, Int.ofNat.injEq]
     unfold up
     by_cases c3 : (i - 6) / 6 = f
     ·rw [if_pos c3, c3, if_neg (by omega)]
     ·rw [if_neg c3]
    ·rw [List.getElem?_eq_none (by simp; omega)]
     rfl
end
end Go.Proofs.YtpkhkghiidilcaaDoor.Sh
namespace Go.Proofs.YtpkhkghiidilcaaDoor.Sh
section
open Go
set_option maxRecDepth 100000
set_option maxHeartbeats 4000000
theorem sa_two (b o : Nat) : sliceArrS 2 1 (.pointer (some ⟨b, o, none⟩)) none none none = some (.slice (some ⟨b, o, none⟩) 2 2) := (rfl)
attribute [go_sem ↓] sa_two
def cmpI (x y : Int) : Int := if x < y then -1 else if y < x then 1 else 0
def lexC : List Int → List Int → Int
 | [], [] => 0
 | [], _ :: _ => -1
 | _ :: _, [] => 1
 | x :: xs, y :: ys => if cmpI x y = 0 then lexC xs ys else cmpI x y
theorem nan97 (x : Int) (h : SHeap) : M.call 97 [.int .i64 x] h = some (.bool false, h, []) := by
 refine call_run sf97 rfl rfl rfl ?_
 unfold sf97
 repeat (first | apply Z1 | apply Z2 | apply Z3 | apply Z4 | apply Z5 rfl | apply Z6 | apply Z7 | apply Z8 | apply Z9 | apply ZA | apply ZB | apply ZC | ((first | apply ZD (by decide) | apply ZN (by decide)); (simp (maxSteps := 9999999) only [go_sem, argR]; rfl)) | (refine ZE ?_ ?_; · simp only [go_sem]) | (refine ZF ?_ ?_; · simp only [go_sem]))
 exact end_nil (q_ret1 _ (by simp only [go_sem]) rfl (take_self _))
theorem cmp86 (x y : Int) (h : SHeap) : M.call 86 [.int .i64 x, .int .i64 y] h = some (.int .i64 (cmpI x y), h, []) := by
 refine call_run sf86 rfl rfl rfl ?_
 unfold sf86
 unfold cmpI
 by_cases e1 : x < y
 ·rw [if_pos e1]
  repeat (first | apply Z1 | apply Z2 | apply Z3 | apply Z4 | apply Z5 rfl | apply Z6 | apply Z7 | apply Z8 | apply Z9 | apply ZA | apply ZB | apply ZC | ((first | apply ZD (by decide) | apply ZN (by decide)); (simp (maxSteps := 9999999) only [go_sem, argR, nan97, e1]; rfl)) | (refine ZE ?_ ?_; · simp only [go_sem]) | (refine ZF ?_ ?_; · simp only [go_sem]))
  exact end_nil (q_ret1 _ (by simp only [go_sem]) rfl (take_self _))
 ·rw [if_neg e1]
  by_cases e2 : y < x
  ·rw [if_pos e2]
   repeat (first | apply Z1 | apply Z2 | apply Z3 | apply Z4 | apply Z5 rfl | apply Z6 | apply Z7 | apply Z8 | apply Z9 | apply ZA | apply ZB | apply ZC | ((first | apply ZD (by decide) | apply ZN (by decide)); (simp (maxSteps := 9999999) only [go_sem, argR, nan97, e1, e2]; rfl)) | (refine ZE ?_ ?_; · simp only [go_sem]) | (refine ZF ?_ ?_; · simp only [go_sem]))
   exact end_nil (q_ret1 _ (by simp only [go_sem]) rfl (take_self _))
  ·rw [if_neg e2]
   repeat (first | apply Z1 | apply Z2 | apply Z3 | apply Z4 | apply Z5 rfl | apply Z6 | apply Z7 | apply Z8 | apply Z9 | apply ZA | apply ZB | apply ZC | ((first | apply ZD (by decide) | apply ZN (by decide)); (simp (maxSteps := 9999999) only [go_sem, argR, nan97, e1, e2]; rfl)) | (refine ZE ?_ ?_; · simp only [go_sem]) | (refine ZF ?_ ?_; · simp only [go_sem]))
   exact end_nil (q_ret1 _ (by simp only [go_sem]) rfl (take_self _))
def IL (h : SHeap) (b o : Nat) (l : List Int) : Prop := ∀ (i : Nat) (hi : i < l.length), loadS h none (.pointer (some ⟨b, o + i, none⟩)) = some (.int .i64 l[i])
theorem lex_loop (cx : Cx) {h : SHeap} {ba oa bb ob ca cb : Nat} {a b : List Int} (ha : IL h ba oa a) (hb : IL h bb ob b) (hl : a.length ≤ 1000000) (hl2 : b.length ≤ 1000000) : ∀ k ρ ms h' d', (∃ i : Nat, i + k = a.length ∧ lexC a b = lexC (a.drop i) (b.drop i) ∧ ρ 0 = .slice (some ⟨ba, oa, none⟩) a.length ca ∧ ρ 1 = .slice (some ⟨bb, ob, none⟩) b.length cb ∧ ρ 9 = .slice (some ⟨ba, oa, none⟩) a.length ca ∧ ρ 10 = .int .i64 a.length ∧ ρ 11 = .int .i64 i ∧ ms = [] ∧ h' = h ∧ d' = []) →
  LoopW M cx 6 sf81L0 ρ ms h' d' (fun ex ρ' ms' h' d' => ms' = [] ∧ h' = h ∧ d' = [] ∧ ((ex = .exit 0 ∧ lexC a b = (if a.length < b.length then -1 else 0) ∧ ρ' 0 = .slice (some ⟨ba, oa, none⟩) a.length ca ∧ ρ' 1 = .slice (some ⟨bb, ob, none⟩) b.length cb) ∨ (ex = .ret ∧ ρ' 4 = .int .i64 (lexC a b)))) := by
 refine loop_run _ ?_
 rintro k ρ ms h' d' ⟨i, hi, he, r0, r1, r9, r10, r11, rfl, rfl, rfl⟩
 unfold sf81L0
 by_cases hk : k = 0
 ·have e1 : ¬ ((i : Int) < a.length) := by omega
  repeat (first | apply Z1 | apply Z2 | apply Z3 | apply Z4 | apply Z5 rfl | apply Z6 | apply Z7 | apply Z8 | apply Z9 | apply ZA | apply ZB | apply ZC | ((first | apply ZD (by decide) | apply ZN (by decide)); (simp (maxSteps := 9999999) only [go_sem, r9, r10, r11, e1]; rfl)) | (refine ZE ?_ ?_; · simp only [go_sem]) | (refine ZF ?_ ?_; · simp only [go_sem]))
  refine end_nil ⟨rfl, rfl, rfl, .inl ⟨rfl, ?_, by simp only [go_sem, r0], by simp only [go_sem, r1]⟩⟩
  rw [he, List.drop_eq_nil_of_le (by omega)]
  by_cases c : a.length < b.length
  ·rw [if_pos c]
   obtain ⟨y, ys, e⟩ : ∃ y ys, b.drop i = y :: ys := by
    cases e : b.drop i with
    | nil => have := congrArg List.length e; simp at this; omega
    | cons y ys => exact ⟨y, ys, rfl⟩
   rw [e]; rfl
  ·rw [if_neg c, List.drop_eq_nil_of_le (by omega)]; rfl
 ·have e1 : ((i : Int) < a.length) := by omega
  have hia : i < a.length := by omega
  have p1 : (0 : Int) ≤ (i : Int) := by omega
  have l1 := ha i hia
  have da : a.drop i = a[i] :: a.drop (i + 1) := by simp
  by_cases c : i < b.length
  ·have e2 : ¬ ((b.length : Int) ≤ i) := by omega
   have p2 : (i : Int) < b.length := by omega
   have l2 := hb i c
   have db : b.drop i = b[i] :: b.drop (i + 1) := by simp
   have ew : IntKind.i64.wrap ((i : Int) + 1) = ((i + 1 : Nat) : Int) := by rw [wrap64 (by omega) (by omega)]; rfl
   rw [da, db] at he
   generalize a[i] = x at *
   generalize b[i] = y at *
   have he' : lexC a b = (if cmpI x y = 0 then lexC (a.drop (i + 1)) (b.drop (i + 1)) else cmpI x y) := he
   by_cases z : cmpI x y = 0
   ·rw [if_pos z] at he'
    repeat (first | apply Z1 | apply Z2 | apply Z3 | apply Z4 | apply Z5 rfl | apply Z6 | apply Z7 | apply Z8 | apply Z9 | apply ZA | apply ZB | apply ZC | ((first | apply ZD (by decide) | apply ZN (by decide)); (simp (maxSteps := 9999999) only [go_sem, r0, r1, r9, r10, r11, e1, p1, l1, e2, p2, l2, cmp86, z, ew]; rfl)) | (refine ZE ?_ ?_; · simp only [go_sem]) | (refine ZF ?_ ?_; · simp only [go_sem]))
    exact end_nil ⟨k - 1, by omega, i + 1, by omega, he', by simp only [go_sem, r0], by simp only [go_sem, r1], by simp only [go_sem, r9], by simp only [go_sem, r10], by simp only [go_sem, ew], rfl, rfl, rfl⟩
   ·rw [if_neg z] at he'
    repeat (first | apply Z1 | apply Z2 | apply Z3 | apply Z4 | apply Z5 rfl | apply Z6 | apply Z7 | apply Z8 | apply Z9 | apply ZA | apply ZB | apply ZC | ((first | apply ZD (by decide) | apply ZN (by decide)); (simp (maxSteps := 9999999) only [go_sem, r0, r1, r9, r10, r11, e1, p1, l1, e2, p2, l2, cmp86, z]; rfl)) | (refine ZE ?_ ?_; · simp only [go_sem]) | (refine ZF ?_ ?_; · simp only [go_sem]))
    exact end_nil ⟨rfl, rfl, rfl, .inr ⟨rfl, by rw [he']; simp only [go_sem]⟩⟩
  ·have e2 : ((b.length : Int) ≤ i) := by omega
   repeat (first | apply Z1 | apply Z2 | apply Z3 | apply Z4 | apply Z5 rfl | apply Z6 | apply Z7 | apply Z8 | apply Z9 | apply ZA | apply ZB | apply ZC | ((first | apply ZD (by decide) | apply ZN (by decide)); (simp (maxSteps := 9999999) only [go_sem, r0, r1, r9, r10, r11, e1, p1, l1, e2]; rfl)) | (refine ZE ?_ ?_; · simp only [go_sem]) | (refine ZF ?_ ?_; · simp only [go_sem]))
   refine end_nil ⟨rfl, rfl, rfl, .inr ⟨rfl, ?_⟩⟩
   rw [he, da, List.drop_eq_nil_of_le (show b.length ≤ i by omega)]
   simp only [go_sem]
   rfl
theorem lex81 {h : SHeap} {ba oa bb ob ca cb : Nat} {a b : List Int} (ha : IL h ba oa a) (hb : IL h bb ob b) (hl : a.length ≤ 1000000) (hl2 : b.length ≤ 1000000) {na nb : Nat} (hna : na = a.length) (hnb : nb = b.length) : M.call 81 [.slice (some ⟨ba, oa, none⟩) na ca, .slice (some ⟨bb, ob, none⟩) nb cb] h = some (.int .i64 (lexC a b), h, []) := by
 subst hna hnb
 refine call_run sf81 rfl rfl rfl ?_
 unfold sf81
 repeat (first | apply Z1 | apply Z2 | apply Z3 | apply Z4 | apply Z5 rfl | apply Z6 | apply Z7 | apply Z8 | apply Z9 | apply ZA | apply ZB | apply ZC | ((first | apply ZD (by decide) | apply ZN (by decide)); (simp (maxSteps := 9999999) only [go_sem, argR]; rfl)) | (refine ZE ?_ ?_; · simp only [go_sem]) | (refine ZF ?_ ?_; · simp only [go_sem]))
 refine run_loop (lex_loop (ca := ca) (cb := cb) _ ha hb hl hl2 a.length _ _ _ _ ⟨0, by omega, by simp, by simp only [go_sem, argR], by simp only [go_sem, argR], by simp only [go_sem, argR], by simp only [go_sem, argR], by (simp only [go_sem]) <;> rfl, rfl, rfl, rfl⟩) ?_
 rintro ex ρ' ms' h1 d1 ⟨rfl, rfl, rfl, ⟨rfl, he, k0, k1⟩ | ⟨rfl, k4⟩⟩
 ·by_cases c : a.length < b.length
  ·have e1 : (a.length : Int) < b.length := by omega
   rw [if_pos c] at he
   rw [he]
   repeat (first | apply Z1 | apply Z2 | apply Z3 | apply Z4 | apply Z5 rfl | apply Z6 | apply Z7 | apply Z8 | apply Z9 | apply ZA | apply ZB | apply ZC | ((first | apply ZD (by decide) | apply ZN (by decide)); (simp (maxSteps := 9999999) only [go_sem, k0, k1, e1]; rfl)) | (refine ZE ?_ ?_; · simp only [go_sem]) | (refine ZF ?_ ?_; · simp only [go_sem]))
   exact end_nil (q_ret1 _ (by simp only [go_sem]) rfl (take_self _))
  ·have e1 : ¬ (a.length : Int) < b.length := by omega
   rw [if_neg c] at he
   rw [he]
   repeat (first | apply Z1 | apply Z2 | apply Z3 | apply Z4 | apply Z5 rfl | apply Z6 | apply Z7 | apply Z8 | apply Z9 | apply ZA | apply ZB | apply ZC | ((first | apply ZD (by decide) | apply ZN (by decide)); (simp (maxSteps := 9999999) only [go_sem, k0, k1, e1]; rfl)) | (refine ZE ?_ ?_; · simp only [go_sem]) | (refine ZF ?_ ?_; · simp only [go_sem]))
   exact end_nil (q_ret1 _ (by simp only [go_sem]) rfl (take_self _))
 ·repeat (first | apply Z1 | apply Z2 | apply Z3 | apply Z4 | apply Z5 rfl | apply Z6 | apply Z7 | apply Z8 | apply Z9 | apply ZA | apply ZB | apply ZC | ((first | apply ZD (by decide) | apply ZN (by decide)); (simp (maxSteps := 9999999) only [go_sem]; rfl)) | (refine ZE ?_ ?_; · simp only [go_sem]) | (refine ZF ?_ ?_; · simp only [go_sem]))
  exact end_nil (q_ret1 _ (by simp only [go_sem, k4]) rfl (take_self _))
end
end Go.Proofs.YtpkhkghiidilcaaDoor.Sh
namespace Go.Proofs.YtpkhkghiidilcaaDoor.Sh
section
open Go
set_option maxRecDepth 100000
set_option maxHeartbeats 4000000
abbrev gC (n : Nat) (nx : Nat → Nat) (far : Nat → Nat → Nat) : SO := .cells (gV n nx far) 101 true 0 []
structure OS (H h : SHeap) (n : Nat) (nx : Nat → Nat) (far : Nat → Nat → Nat) (a : Int × Int) : Prop where
 fr : ∀ j, j < H.length → h[j]? = H[j]?
 g : h[H.length]? = some (gC n nx far)
 l : h[H.length + 1]? = some (.cells [.int .i64 a.1, .int .i64 a.2] 45 true 0 [])
section
variable {H h : SHeap} {n : Nat} {nx : Nat → Nat} {far : Nat → Nat → Nat} {a : Int × Int}
theorem OS.lt (S : OS H h n nx far a) : H.length + 1 < h.length := (List.getElem?_eq_some_iff.1 S.l).1
theorem OS.app (S : OS H h n nx far a) (g : SHeap) : OS H (h ++ g) n nx far a := by
 have := S.lt
 have k : ∀ j, j < h.length → (h ++ g)[j]? = h[j]? := fun j hj => List.getElem?_append_left hj
 exact ⟨fun j hj => by rw [k j (by omega)]; exact S.fr j hj, by rw [k _ (by omega)]; exact S.g, by rw [k _ (by omega)]; exact S.l⟩
theorem OS.setG (S : OS H h n nx far a) (nx' : Nat → Nat) (far' : Nat → Nat → Nat) : OS H (h.set H.length (gC n nx' far')) n nx' far' a := by
 have := S.lt
 have k : ∀ j, j ≠ H.length → (h.set H.length (gC n nx' far'))[j]? = h[j]? := fun j hj => List.getElem?_set_ne (by omega)
 exact ⟨fun j hj => by rw [k j (by omega)]; exact S.fr j hj, by rw [List.getElem?_set_self (by omega)], by rw [k _ (by omega)]; exact S.l⟩
theorem OS.setL (S : OS H h n nx far a) (a' : Int × Int) : OS H (h.set (H.length + 1) (.cells [.int .i64 a'.1, .int .i64 a'.2] 45 true 0 [])) n nx far a' := by
 have := S.lt
 have k : ∀ j, j ≠ H.length + 1 → (h.set (H.length + 1) (.cells [.int .i64 a'.1, .int .i64 a'.2] 45 true 0 []))[j]? = h[j]? := fun j hj => List.getElem?_set_ne (by omega)
 exact ⟨fun j hj => by rw [k j (by omega)]; exact S.fr j hj, by rw [k _ (by omega)]; exact S.g, by rw [List.getElem?_set_self (by omega)]⟩
theorem OS.gN (S : OS H h n nx far a) {v : Nat} (hv : v < 6) (g : SHeap) : loadS (h ++ g) none (.pointer (some ⟨H.length, 1 + v, none⟩)) = some (.int .i64 (nx v)) := load_cell S.g rfl (gV_next n nx far hv) g
theorem OS.stN (S : OS H h n nx far a) {v x : Nat} (hv : v < 6) (base : Nat) (g : SHeap) (d : List Nat) : storeS base (h ++ g) d H.length (1 + v) (cellsL (.int .i64 (x : Int))) = some (h.set H.length (gC n (up nx v x) far) ++ g, d) := by
 have := store_cell (h := h ++ g) (base := base) (b := H.length) (o := 1 + v) (c := .int .i64 (x : Int)) (by rw [List.getElem?_append_left (by have := S.lt; omega)]; exact S.g) (by rw [gV_len]; omega) rfl (fun _ => rfl) d
 rw [gV_setn n nx far hv, List.set_append_left _ _ (by have := S.lt; omega)] at this
 exact this
theorem OS.stF (S : OS H h n nx far a) {f v x : Nat} (hf : f < 6) (hv : v < 6) (base : Nat) (g : SHeap) (d : List Nat) : storeS base (h ++ g) d H.length (7 + f * 6 + v) (cellsL (.int .i64 (x : Int))) = some (h.set H.length (gC n nx (up far f (up (far f) v x))) ++ g, d) := by
 have := store_cell (h := h ++ g) (base := base) (b := H.length) (o := 7 + f * 6 + v) (c := .int .i64 (x : Int)) (by rw [List.getElem?_append_left (by have := S.lt; omega)]; exact S.g) (by rw [gV_len]; omega) rfl (fun _ => rfl) d
 rw [gV_setf n nx far hf hv, List.set_append_left _ _ (by have := S.lt; omega)] at this
 exact this
theorem OS.stL (S : OS H h n nx far a) (a' : Int × Int) (base : Nat) (g : SHeap) (d : List Nat) : storeS base (h ++ g) d (H.length + 1) 0 (cellsL (.agg #[.int .i64 a'.1, .int .i64 a'.2])) = some (h.set (H.length + 1) (.cells [.int .i64 a'.1, .int .i64 a'.2] 45 true 0 []) ++ g, d) := by
 have := store_at (h := h ++ g) (base := base) (cs := [.int .i64 a.1, .int .i64 a.2]) (vs := [.int .i64 a'.1, .int .i64 a'.2]) (by rw [List.getElem?_append_left (by have := S.lt; omega)]; exact S.l) rfl (Nat.zero_lt_succ _) rfl (fun _ => rfl) d
 rw [List.set_append_left _ _ (by have := S.lt; omega)] at this
 exact this
end
theorem PS.fr {H h : SHeap} {v : Value} {L : List (Int × Int)} (k : PS H v L) (fr : ∀ j, j < H.length → h[j]? = H[j]?) : PS h v L := by
 obtain ⟨a, c, e, k⟩ := k
 refine ⟨a, c, e, fun hne => ?_⟩
 obtain ⟨b, o, ha, hp⟩ := k hne
 have e2 := fr b hp.lt
 obtain ⟨pre, post, el2, pf, own, old, h1, h2⟩ := hp
 exact ⟨b, o, ha, pre, post, el2, pf, own, old, by rw [e2]; exact h1, h2⟩
def lastE (E : List (Int × Int)) (i : Nat) : Int × Int := if i = 0 then (-1, -1) else eAt E (i - 1)
theorem lex2_le {a b : Int × Int} : lexC [a.1, a.2] [b.1, b.2] ≤ 0 ↔ ¬ (b.1 < a.1 ∨ b.1 = a.1 ∧ b.2 < a.2) := by
 have h : lexC [a.1, a.2] [b.1, b.2] = if a.1 < b.1 then -1 else if b.1 < a.1 then 1 else if a.2 < b.2 then -1 else if b.2 < a.2 then 1 else 0 := by
  unfold lexC cmpI
  by_cases c1 : a.1 < b.1
  ·simp [c1]
  ·by_cases c2 : b.1 < a.1
   ·simp [c1, c2]
   ·simp only [c1, c2, if_false]
    unfold lexC cmpI
    by_cases c3 : a.2 < b.2
    ·simp [c3]
    ·by_cases c4 : b.2 < a.2
     ·simp [c3, c4]
     ·simp [c3, c4, lexC]
 rw [h]
 split
 ·constructor
  ·intro _; omega
  ·intro _; omega
 ·split
  ·constructor
   ·intro _; omega
   ·intro _; omega
  ·split
   ·constructor
    ·intro _; omega
    ·intro _; omega
   ·split
    ·constructor
     ·intro _; omega
     ·intro _; omega
    ·constructor
     ·intro _; omega
     ·intro _; omega
theorem two_eq {a b : Nat} {v w : Nat} : (decide (((a : Int), (b : Int)) = ((v : Int), (w : Int)))) = (decide (a = v) && decide (b = w)) := by
 by_cases h1 : a = v
 ·by_cases h2 : b = w
  ·subst h1 h2; simp
  ·have : ¬ (((a : Int), (b : Int)) = ((v : Int), (w : Int))) := fun e => h2 (by have := congrArg Prod.snd e; dsimp only at this; omega)
   rw [decide_eq_false this]; simp [h2]
 ·have : ¬ (((a : Int), (b : Int)) = ((v : Int), (w : Int))) := fun e => h1 (by have := congrArg Prod.fst e; dsimp only at this; omega)
  rw [decide_eq_false this]; simp [h1]
theorem edge_loop (cx : Cx) {n : Nat} (hn : n ≤ 6) {H : SHeap} {va : Option Addr} {vc : Nat} {E : List (Int × Int)} (hv : PS H (.slice va E.length vc) E) (hlen : E.length ≤ 4611686018427387904) (far : Nat → Nat → Nat) :
  ∀ k ρ ms h' d', (∃ (i : Nat) (nx : Nat → Nat), i + k = E.length ∧ OS H h' n nx far (lastE E i) ∧ (∀ v, v < 6 → nx v < 64 ∧ ∀ w, (nx v).testBit w = adjE (E.take i) v w) ∧ (∀ j, j < i → okAt n E j) ∧ ρ 0 = .int .i64 n ∧ ρ 6 = .pointer (some ⟨H.length, 0, none⟩) ∧ ρ 7 = .pointer (some ⟨H.length + 1, 0, none⟩) ∧ ρ 26 = .slice va E.length vc ∧ ρ 27 = .int .i64 E.length ∧ ρ 28 = .int .i64 i ∧ ms = [] ∧ d' = []) →
  LoopW M cx 8 sf68L3 ρ ms h' d' (fun ex ρ' ms' h' d' => ms' = [] ∧ d' = [] ∧ ((ex = .exit 0 ∧ ρ' 0 = .int .i64 n ∧ ρ' 6 = .pointer (some ⟨H.length, 0, none⟩) ∧ ρ' 7 = .pointer (some ⟨H.length + 1, 0, none⟩) ∧ EOK n E ∧ ∃ nx a, OS H h' n nx far a ∧ ∀ v, v < 6 → nx v < 64 ∧ ∀ w, (nx v).testBit w = adjE E v w) ∨
   (ex = .ret ∧ ρ' 4 = .pointer none ∧ ρ' 5 = .int .i64 80 ∧ ¬ EOK n E ∧ h'.take H.length = H))) := by
 refine loop_run _ ?_
 rintro k ρ ms h' d' ⟨i, nx, hk, S, hnx, hok, r0, r6, r7, r26, r27, r28, rfl, rfl⟩
 unfold sf68L3
 have hlt := S.lt
 by_cases c : k = 0
 ·have e1 : ¬ ((i : Int) < E.length) := by omega
  repeat (first | apply Z1 | apply Z2 | apply Z3 | apply Z4 | apply Z5 rfl | apply Z6 | apply Z7 | apply Z8 | apply Z9 | apply ZA | apply ZB | apply ZC | ((first | apply ZD (by decide) | apply ZN (by decide)); (simp (maxSteps := 9999999) only [go_sem, r27, r28, e1]; rfl)) | (refine ZE ?_ ?_; · simp only [go_sem]) | (refine ZF ?_ ?_; · simp only [go_sem]))
  refine end_nil ⟨rfl, rfl, .inl ⟨rfl, by simp only [go_sem, r0], by simp only [go_sem, r6], by simp only [go_sem, r7], fun j hj => hok j (by omega), nx, _, S, fun v hv => ?_⟩⟩
  have := hnx v hv
  rw [List.take_of_length_le (by omega)] at this
  exact this
 ·have e1 : ((i : Int) < E.length) := by omega
  have e2 : (0 : Int) ≤ i := by omega
  have hil : i < E.length := by omega
  have ew : IntKind.i64.wrap ((i : Int) + 1) = ((i + 1 : Nat) : Int) := by rw [wrap64 (by omega) (by omega)]; rfl
  obtain ⟨a0, c0, he, kp⟩ := hv.fr S.fr
  cases he
  obtain ⟨b, o, rfl, hp⟩ := kp (by intro e; rw [e] at hil; simp at hil)
  have lp := hp.loadN hil
  have hea : eAt E i = E[i] := eAt_get hil
  have htk : E.take (i + 1) = E.take i ++ [E[i]] := by rw [List.take_add_one, List.getElem?_eq_getElem hil]; rfl
  have hlast : lastE E (i + 1) = E[i] := by unfold lastE; rw [if_neg (by omega), Nat.add_sub_cancel, hea]
  have IL1 : IL (h' ++ [.cells [.int .i64 E[i].1, .int .i64 E[i].2] 45 true 0 []]) h'.length 0 [E[i].1, E[i].2] := by
   intro j hj
   have : j = 0 ∨ j = 1 := by simp at hj; omega
   rcases this with rfl | rfl
   ·rw [load_app0]; rfl
   ·rw [load_app0]; rfl
  have IL2 : IL (h' ++ [.cells [.int .i64 E[i].1, .int .i64 E[i].2] 45 true 0 []]) (H.length + 1) 0 [(lastE E i).1, (lastE E i).2] := by
   intro j hj
   have : j = 0 ∨ j = 1 := by simp at hj; omega
   rcases this with rfl | rfl
   ·exact load_cell (o := 0) S.l rfl rfl _
   ·exact load_cell (o := 1) S.l rfl rfl _
  have c81 := lex81 (ca := 2) (cb := 2) IL1 IL2 (by simp) (by simp) (na := 2) (nb := 2) rfl rfl
  have hle := @lex2_le E[i] (lastE E i)
  generalize hL : lexC [E[i].1, E[i].2] [(lastE E i).1, (lastE E i).2] = L at *
  have hdef : okAt n E i ↔ (0 ≤ E[i].1 ∧ E[i].1 < E[i].2 ∧ E[i].2 < n ∧ ¬ L ≤ 0) := by
   unfold okAt
   rw [hea, hle]
   unfold lastE
   by_cases hi0 : i = 0
   ·subst hi0
    rw [if_pos rfl]
    dsimp only
    constructor
    ·rintro ⟨h1, h2, h3, _⟩; exact ⟨h1, h2, h3, by omega⟩
    ·rintro ⟨h1, h2, h3, _⟩; exact ⟨h1, h2, h3, by omega⟩
   ·rw [if_neg hi0]
    constructor
    ·rintro ⟨h1, h2, h3, h4⟩; exact ⟨h1, h2, h3, fun h => h (h4 (by omega))⟩
    ·rintro ⟨h1, h2, h3, h4⟩; exact ⟨h1, h2, h3, fun _ => by omega⟩
  have bad : ¬ okAt n E i → ¬ EOK n E := fun hb h => hb (h i hil)
  have fin : ∀ g, (h' ++ g).take H.length = H := fun g => take_of_same (by simp; omega) (fun j hj => by rw [List.getElem?_append_left (by omega)]; exact S.fr j hj)
  generalize hE : E[i] = e at *
  have h0e : (L ≤ 0) = True ∨ (L ≤ 0) = False := by by_cases h : L ≤ 0; exact .inl (eq_true h); exact .inr (eq_false h)
  by_cases x1 : L ≤ 0
  ·repeat (first | apply Z1 | apply Z2 | apply Z3 | apply Z4 | apply Z5 rfl | apply Z6 | apply Z7 | apply Z8 | apply Z9 | apply ZA | apply ZB | apply ZC | ((first | apply ZD (by decide) | apply ZN (by decide)); (simp (maxSteps := 9999999) only [go_sem, r0, r6, r7, r26, r27, r28, e1, e2, lp, c81, x1, Int.toNat_natCast]; rfl)) | (refine ZE ?_ ?_; · simp only [go_sem]) | (refine ZF ?_ ?_; · simp only [go_sem]))
   exact end_nil ⟨rfl, rfl, .inr ⟨rfl, by simp only [go_sem], by simp only [go_sem], bad (fun h => (hdef.1 h).2.2.2 x1), fin _⟩⟩
  ·by_cases x2 : e.1 < 0
   ·repeat (first | apply Z1 | apply Z2 | apply Z3 | apply Z4 | apply Z5 rfl | apply Z6 | apply Z7 | apply Z8 | apply Z9 | apply ZA | apply ZB | apply ZC | ((first | apply ZD (by decide) | apply ZN (by decide)); (simp (maxSteps := 9999999) only [go_sem, r0, r6, r7, r26, r27, r28, e1, e2, lp, c81, x1, x2, Int.toNat_natCast]; rfl)) | (refine ZE ?_ ?_; · simp only [go_sem]) | (refine ZF ?_ ?_; · simp only [go_sem]))
    exact end_nil ⟨rfl, rfl, .inr ⟨rfl, by simp only [go_sem], by simp only [go_sem], bad (fun h => by have := (hdef.1 h).1; omega), fin _⟩⟩
   ·by_cases x3 : e.2 ≤ e.1
    ·repeat (first | apply Z1 | apply Z2 | apply Z3 | apply Z4 | apply Z5 rfl | apply Z6 | apply Z7 | apply Z8 | apply Z9 | apply ZA | apply ZB | apply ZC | ((first | apply ZD (by decide) | apply ZN (by decide)); (simp (maxSteps := 9999999) only [go_sem, r0, r6, r7, r26, r27, r28, e1, e2, lp, c81, x1, x2, x3, Int.toNat_natCast]; rfl)) | (refine ZE ?_ ?_; · simp only [go_sem]) | (refine ZF ?_ ?_; · simp only [go_sem]))
     exact end_nil ⟨rfl, rfl, .inr ⟨rfl, by simp only [go_sem], by simp only [go_sem], bad (fun h => by have := (hdef.1 h).2.1; omega), fin _⟩⟩
    ·by_cases x4 : (n : Int) ≤ e.2
     ·repeat (first | apply Z1 | apply Z2 | apply Z3 | apply Z4 | apply Z5 rfl | apply Z6 | apply Z7 | apply Z8 | apply Z9 | apply ZA | apply ZB | apply ZC | ((first | apply ZD (by decide) | apply ZN (by decide)); (simp (maxSteps := 9999999) only [go_sem, r0, r6, r7, r26, r27, r28, e1, e2, lp, c81, x1, x2, x3, x4, Int.toNat_natCast]; rfl)) | (refine ZE ?_ ?_; · simp only [go_sem]) | (refine ZF ?_ ?_; · simp only [go_sem]))
      exact end_nil ⟨rfl, rfl, .inr ⟨rfl, by simp only [go_sem], by simp only [go_sem], bad (fun h => by have := (hdef.1 h).2.2.1; omega), fin _⟩⟩
     ·have hgood : okAt n E i := hdef.2 ⟨by omega, by omega, by omega, x1⟩
      obtain ⟨p, hp1⟩ : ∃ p : Nat, e.1 = p := ⟨e.1.toNat, by omega⟩
      obtain ⟨q, hq1⟩ : ∃ q : Nat, e.2 = q := ⟨e.2.toNat, by omega⟩
      have hee : e = ((p : Int), (q : Int)) := Prod.ext hp1 hq1
      subst hee
      dsimp only at x1 x2 x3 x4 lp c81
      have hp6 : p < 6 := by omega
      have hq6 : q < 6 := by omega
      have z1 : (0 : Int) ≤ p := by omega
      have z2 : (p : Int) < 6 := by omega
      have z3 : (0 : Int) ≤ q := by omega
      have z4 : (q : Int) < 6 := by omega
      obtain ⟨np1, np2⟩ := hnx p hp6
      obtain ⟨nq1, nq2⟩ := hnx q hq6
      have wp : IntKind.u64.wrap (p : Int) = p := wrapU (by omega) (by omega)
      have wq : IntKind.u64.wrap (q : Int) = q := wrapU (by omega) (by omega)
      have sp := shl_1 (k := .u64) (v := p) (by omega)
      have sq := shl_1 (k := .u64) (v := q) (by omega)
      have t6 : ∀ v, v < 6 → 2 ^ v < 64 := fun v hv => Nat.pow_lt_pow_right (a := 2) (by decide) hv
      have op := b_or (a := nx p) (b := 2 ^ q) (by omega) (by have := t6 q hq6; omega)
      have oq := b_or (a := nx q) (b := 2 ^ p) (by omega) (by have := t6 p hp6; omega)
      have g1 := S.gN hp6
      have s1 := fun base g d => S.stN (x := nx p ||| 2 ^ q) hp6 base g d
      have S1 := S.setG (up nx p (nx p ||| 2 ^ q)) far
      have g2 := S1.gN hq6
      rw [show up nx p (nx p ||| 2 ^ q) q = nx q by unfold up; rw [if_neg (by omega)]] at g2
      have s2 := fun base g d => S1.stN (x := nx q ||| 2 ^ p) hq6 base g d
      have S2 := S1.setG (up (up nx p (nx p ||| 2 ^ q)) q (nx q ||| 2 ^ p)) far
      have hl1 : (h'.set H.length (gC n (up nx p (nx p ||| 2 ^ q)) far)).length = h'.length := by simp
      generalize h'.set H.length (gC n (up nx p (nx p ||| 2 ^ q)) far) = h1 at *
      have hl2 : (h1.set H.length (gC n (up (up nx p (nx p ||| 2 ^ q)) q (nx q ||| 2 ^ p)) far)).length = h'.length := by simp [hl1]
      generalize h1.set H.length (gC n (up (up nx p (nx p ||| 2 ^ q)) q (nx q ||| 2 ^ p)) far) = h2 at *
      have s3 := fun base g d => S2.stL ((p : Int), (q : Int)) base g d
      have S3 := S2.setL ((p : Int), (q : Int))
      have bxl : ∀ (hh : SHeap), hh.length = h'.length → ∀ o c, [Value.int .i64 (p : Int), .int .i64 (q : Int)][o]? = some c → loadS (hh ++ [.cells [.int .i64 (p : Int), .int .i64 (q : Int)] 45 true 0 []]) none (.pointer (some ⟨h'.length, o, none⟩)) = some c := fun hh hl o c hc => by
       rw [← hl, load_app0]; exact hc
      have k1 := bxl h1 hl1 0 _ rfl
      have k2 := bxl h1 hl1 1 _ rfl
      have k3 := bxl h2 hl2 0 _ rfl
      have k4 := bxl h2 hl2 1 _ rfl
      have k5 : loadS (h2 ++ [.cells [.int .i64 (p : Int), .int .i64 (q : Int)] 45 true 0 []]) (some 2) (.pointer (some ⟨h'.length, 0, none⟩)) = some (.agg #[.int .i64 (p : Int), .int .i64 (q : Int)]) := by
       rw [← hl2, load_appN0]; rfl
      clear bxl fin bad hdef hle
      repeat (first | apply Z1 | apply Z2 | apply Z3 | apply Z4 | apply Z5 rfl | apply Z6 | apply Z7 | apply Z8 | apply Z9 | apply ZA | apply ZB | apply ZC | ((first | apply ZD (by decide) | apply ZN (by decide)); (simp (maxSteps := 9999999) only [go_sem, r0, r6, r7, r26, r27, r28, e1, e2, lp, c81, x1, x2, x3, x4, z1, z2, z3, z4, wp, wq, sp, sq, op, oq, g1, ↓s1, g2, ↓s2, ↓s3, k1, k2, k3, k4, k5, ew, Int.toNat_natCast]; rfl)) | (refine ZE ?_ ?_; · simp only [go_sem]) | (refine ZF ?_ ?_; · simp only [go_sem]))
      refine end_nil ⟨k - 1, by omega, i + 1, _, by omega, by rw [hlast]; exact S3.app [.cells [.int .i64 (p : Int), .int .i64 (q : Int)] 45 true 0 []], fun v hv => ?_, fun j hj => ?_, by simp only [go_sem, r0], by simp only [go_sem, r6], by simp only [go_sem, r7], by simp only [go_sem, r26], by simp only [go_sem, r27], by simp only [go_sem, ew], rfl, rfl⟩
      ·have hpq : p ≠ q := by omega
       obtain ⟨nv1, nv2⟩ := hnx v hv
       unfold up
       by_cases cq : v = q
       ·subst cq
        rw [if_pos rfl]
        refine ⟨Nat.or_lt_two_pow (n := 6) nq1 (t6 p hp6), fun w => ?_⟩
        rw [htk, adjE_snoc, Nat.testBit_or, nq2, Nat.testBit_two_pow, two_eq, two_eq]
        simp [hpq]
       ·rw [if_neg cq]
        by_cases cp : v = p
        ·subst cp
         rw [if_pos rfl]
         refine ⟨Nat.or_lt_two_pow (n := 6) np1 (t6 q hq6), fun w => ?_⟩
         rw [htk, adjE_snoc, Nat.testBit_or, np2, Nat.testBit_two_pow, two_eq, two_eq]
         simp [Ne.symm cq]
        ·rw [if_neg cp]
         refine ⟨nv1, fun w => ?_⟩
         rw [htk, adjE_snoc, nv2, two_eq, two_eq]
         simp [Ne.symm cq, Ne.symm cp]
      ·by_cases cj : j = i
       ·rw [cj]; exact hgood
       ·exact hok j (by omega)
end
end Go.Proofs.YtpkhkghiidilcaaDoor.Sh
namespace Go.Proofs.YtpkhkghiidilcaaDoor.Sh
section
open Go
set_option maxRecDepth 100000
set_option maxHeartbeats 4000000
structure BI (n : Nat) (adj : Nat → Nat → Bool) (s d seen now : Nat) (f : Nat → Nat) : Prop where
 b1 : ∀ v, seen.testBit v = true → v < n ∧ f v < d
 b2 : 0 < d → seen.testBit s = true ∧ f s = 0
 b3 : ∀ v, seen.testBit v = true → v ≠ s → ∃ u, u < n ∧ adj u v = true ∧ seen.testBit u = true ∧ f v = f u + 1
 b4 : ∀ u v, v < n → seen.testBit u = true → f u + 1 < d → adj u v = true → seen.testBit v = true ∧ f v ≤ f u + 1
 b5 : ∀ v, now.testBit v = true ↔ (d = 0 ∧ v = s) ∨ (0 < d ∧ v < n ∧ ∃ u, seen.testBit u = true ∧ f u + 1 = d ∧ adj u v = true)
theorem BI.seen_lt {n : Nat} {adj : Nat → Nat → Bool} {s d seen now : Nat} {f : Nat → Nat} (I : BI n adj s d seen now f) : seen < 2 ^ n := bits_lt (fun i hi => (I.b1 i hi).1)
theorem BI.now_lt {n : Nat} {adj : Nat → Nat → Bool} {s d seen now : Nat} {f : Nat → Nat} (hs : s < n) (I : BI n adj s d seen now f) : now < 2 ^ n := bits_lt (fun i hi => by
 rcases (I.b5 i).1 hi with ⟨_, rfl⟩ | ⟨_, h, _⟩
 ·exact hs
 ·exact h)
theorem BI.start (n : Nat) (adj : Nat → Nat → Bool) (s : Nat) (f : Nat → Nat) : BI n adj s 0 0 (2 ^ s) f := by
 refine ⟨fun v h => by simp at h, fun h => by omega, fun v h => by simp at h, fun u v _ h => by simp at h, fun v => ?_⟩
 rw [Nat.testBit_two_pow]
 constructor
 ·intro h; exact .inl ⟨rfl, by simpa using (eq_comm.1 (of_decide_eq_true h))⟩
 ·rintro (⟨_, rfl⟩ | ⟨h, _⟩)
  ·simp
  ·omega
theorem BI.step {n : Nat} {adj : Nat → Nat → Bool} {s d seen now more : Nat} {f f' : Nat → Nat} (I : BI n adj s d seen now f) (hs : s < n) (hadj : ∀ a b, adj a b = true → b < n)
  (hf : ∀ v, v < n → f' v = if (andn now seen).testBit v = true then d else f v) (hm : ∀ w, more.testBit w = true ↔ ∃ v, (andn now seen).testBit v = true ∧ adj v w = true) :
  BI n adj s (d + 1) (seen ||| andn now seen) more f' := by
 have ha : ∀ v, (andn now seen).testBit v = true → v < n ∧ now.testBit v = true ∧ seen.testBit v = false := fun v h => by
  rw [andn_bit] at h
  simp only [Bool.and_eq_true, Bool.not_eq_true'] at h
  refine ⟨?_, h.1, h.2⟩
  rcases (I.b5 v).1 h.1 with ⟨_, rfl⟩ | ⟨_, k, _⟩
  ·exact hs
  ·exact k
 have old : ∀ v, seen.testBit v = true → f' v = f v := fun v h => by
  rw [hf v (I.b1 v h).1, if_neg (fun k => by have := (ha v k).2.2; rw [h] at this; cases this)]
 have new : ∀ v, (andn now seen).testBit v = true → f' v = d := fun v h => by rw [hf v (ha v h).1, if_pos h]
 refine ⟨fun v h => ?_, fun _ => ?_, fun v h hv => ?_, fun u v hv h hd hadj' => ?_, fun w => ?_⟩
 ·rw [Nat.testBit_or, Bool.or_eq_true] at h
  rcases h with h | h
  ·have := I.b1 v h; rw [old v h]; omega
  ·rw [new v h]; exact ⟨(ha v h).1, by omega⟩
 ·by_cases c : d = 0
  ·subst c
   have h0 : seen.testBit s = false := by
    cases e : seen.testBit s with
    | false => rfl
    | true => have := I.b1 s e; omega
   have hn : (andn now seen).testBit s = true := by
    rw [andn_bit, h0, (I.b5 s).2 (.inl ⟨rfl, rfl⟩)]; rfl
   rw [Nat.testBit_or, hn, new s hn]; simp
  ·have := I.b2 (by omega)
   rw [Nat.testBit_or, this.1, old s this.1]; simp [this.2]
 ·rw [Nat.testBit_or, Bool.or_eq_true] at h
  rcases h with h | h
  ·obtain ⟨u, h1, h2, h3, h4⟩ := I.b3 v h hv
   exact ⟨u, h1, h2, by rw [Nat.testBit_or, h3]; rfl, by rw [old v h, old u h3]; exact h4⟩
  ·obtain ⟨h1, h2, h3⟩ := ha v h
   rcases (I.b5 v).1 h2 with ⟨_, rfl⟩ | ⟨_, _, u, k1, k2, k3⟩
   ·exact (hv rfl).elim
   ·exact ⟨u, (I.b1 u k1).1, k3, by rw [Nat.testBit_or, k1]; rfl, by rw [new v h, old u k1]; omega⟩
 ·rw [Nat.testBit_or, Bool.or_eq_true] at h
  rcases h with h | h
  ·rw [old u h] at hd ⊢
   by_cases c : f u + 1 < d
   ·obtain ⟨k1, k2⟩ := I.b4 u v hv h c hadj'
    exact ⟨by rw [Nat.testBit_or, k1]; rfl, by rw [old v k1]; exact k2⟩
   ·have hd0 : 0 < d := by have := I.b1 u h; omega
    have hnow : now.testBit v = true := (I.b5 v).2 (.inr ⟨hd0, hv, u, h, by omega, hadj'⟩)
    cases e : seen.testBit v with
    | true => exact ⟨by rw [Nat.testBit_or, e]; rfl, by rw [old v e]; have := I.b1 v e; omega⟩
    | false =>
     have hn : (andn now seen).testBit v = true := by rw [andn_bit, hnow, e]; rfl
     exact ⟨by rw [Nat.testBit_or, hn]; simp, by rw [new v hn]; omega⟩
  ·rw [new u h] at hd; omega
 ·rw [hm]
  constructor
  ·rintro ⟨v, h1, h2⟩
   exact .inr ⟨by omega, hadj v w h2, v, by rw [Nat.testBit_or, h1]; simp, by rw [new v h1], h2⟩
  ·rintro (⟨h, _⟩ | ⟨_, hw, u, h1, h2, h3⟩)
   ·omega
   ·rw [Nat.testBit_or, Bool.or_eq_true] at h1
    rcases h1 with h1 | h1
    ·rw [old u h1] at h2; have := I.b1 u h1; omega
    ·exact ⟨u, h1, h3⟩
theorem BI.fin {n : Nat} {adj : Nat → Nat → Bool} {s d seen now : Nat} {f : Nat → Nat} (I : BI n adj s d seen now f) (hs : s < n) (h0 : andn now seen = 0) : IsD n adj s (fun v => if seen.testBit v = true then (f v : Int) else -1) := by
 have hz : ∀ v, now.testBit v = true → seen.testBit v = true := fun v h => by
  have := andn_bit now seen v
  rw [h0, h] at this
  cases e : seen.testBit v with
  | true => rfl
  | false => rw [e] at this; simp at this
 have hd : 0 < d := by
  apply Nat.pos_of_ne_zero
  rintro rfl
  have := I.b1 s (hz s ((I.b5 s).2 (.inl ⟨rfl, rfl⟩)))
  omega
 have hs1 := I.b2 hd
 refine ⟨?_, fun v hv h1 h2 => ?_, fun u v hu hv h1 h2 => ?_⟩
 ·rw [if_pos hs1.1, hs1.2]; rfl
 ·by_cases c : seen.testBit v = true
  ·obtain ⟨u, k1, k2, k3, k4⟩ := I.b3 v c h2
   exact ⟨u, k1, k2, by rw [if_pos k3]; omega, by rw [if_pos c, if_pos k3, k4]; rfl⟩
  ·rw [if_neg c] at h1; omega
 ·by_cases c : seen.testBit u = true
  ·rw [if_pos c]
   have hb := I.b1 u c
   by_cases c2 : f u + 1 < d
   ·obtain ⟨k1, k2⟩ := I.b4 u v hv c c2 h2
    rw [if_pos k1]; omega
   ·have hnow : now.testBit v = true := (I.b5 v).2 (.inr ⟨hd, hv, u, c, by omega, h2⟩)
    have k1 := hz v hnow
    rw [if_pos k1]
    have := I.b1 v k1
    omega
  ·rw [if_neg c] at h1; omega
end
end Go.Proofs.YtpkhkghiidilcaaDoor.Sh
namespace Go.Proofs.YtpkhkghiidilcaaDoor.Sh
section
open Go
set_option maxRecDepth 100000
set_option maxHeartbeats 4000000
theorem inner_loop (cx : Cx) {n : Nat} (hn : n ≤ 6) {H : SHeap} {a : Int × Int} {nx : Nat → Nat} {far0 : Nat → Nat → Nat} {s d seen nw : Nat} (hs : s < 6) (hsn : seen < 64) (hnw : nw < 64) (hd : d < 64) (hnx : ∀ v, v < 6 → nx v < 64) :
  ∀ k ρ ms h' d', (∃ (i mo : Nat) (far : Nat → Nat → Nat), i + k = n ∧ OS H h' n nx far a ∧ mo < 64 ∧ (∀ w, mo.testBit w = true ↔ ∃ v, v < i ∧ nw.testBit v = true ∧ (nx v).testBit w = true) ∧ (∀ f v, far f v = if f = s ∧ v < i ∧ nw.testBit v = true then d else far0 f v) ∧
    ρ 0 = .int .i64 n ∧ ρ 6 = .pointer (some ⟨H.length, 0, none⟩) ∧ ρ 7 = .pointer (some ⟨H.length + 1, 0, none⟩) ∧ ρ 10 = .int .i64 s ∧ ρ 11 = .int .i64 seen ∧ ρ 12 = .int .i64 d ∧ ρ 13 = .int .i64 nw ∧ ρ 14 = .int .i64 mo ∧ ρ 86 = .int .i64 n ∧ ρ 87 = .int .i64 s ∧ ρ 105 = .int .i64 n ∧ ρ 106 = .int .i64 i ∧ ms = [] ∧ d' = []) →
  LoopW M cx 8 sf68L0 ρ ms h' d' (fun ex ρ' ms' h' d' => ms' = [] ∧ d' = [] ∧ ex = .exit 6 ∧ ∃ (mo : Nat) (far : Nat → Nat → Nat), OS H h' n nx far a ∧ mo < 64 ∧ (∀ w, mo.testBit w = true ↔ ∃ v, v < n ∧ nw.testBit v = true ∧ (nx v).testBit w = true) ∧ (∀ f v, far f v = if f = s ∧ v < n ∧ nw.testBit v = true then d else far0 f v) ∧
    ρ' 0 = .int .i64 n ∧ ρ' 6 = .pointer (some ⟨H.length, 0, none⟩) ∧ ρ' 7 = .pointer (some ⟨H.length + 1, 0, none⟩) ∧ ρ' 10 = .int .i64 s ∧ ρ' 11 = .int .i64 seen ∧ ρ' 12 = .int .i64 d ∧ ρ' 14 = .int .i64 mo ∧ ρ' 86 = .int .i64 n ∧ ρ' 87 = .int .i64 s) := by
 refine loop_run _ ?_
 rintro k ρ ms h' d' ⟨i, mo, far, hk, S, hmo, hmb, hfar, r0, r6, r7, r10, r11, r12, r13, r14, r86, r87, r105, r106, rfl, rfl⟩
 unfold sf68L0
 have hlt := S.lt
 by_cases c : k = 0
 ·have e1 : ¬ ((i : Int) < n) := by omega
  obtain rfl : i = n := by omega
  repeat (first | apply Z1 | apply Z2 | apply Z3 | apply Z4 | apply Z5 rfl | apply Z6 | apply Z7 | apply Z8 | apply Z9 | apply ZA | apply ZB | apply ZC | ((first | apply ZD (by decide) | apply ZN (by decide)); (simp (maxSteps := 9999999) only [go_sem, r105, r106, e1]; rfl)) | (refine ZE ?_ ?_; · simp only [go_sem]) | (refine ZF ?_ ?_; · simp only [go_sem]))
  exact end_nil ⟨rfl, rfl, rfl, mo, far, S, hmo, hmb, hfar, by simp only [go_sem, r0], by simp only [go_sem, r6], by simp only [go_sem, r7], by simp only [go_sem, r10], by simp only [go_sem, r11], by simp only [go_sem, r12], by simp only [go_sem, r14], by simp only [go_sem, r86], by simp only [go_sem, r87]⟩
 ·have e1 : ((i : Int) < n) := by omega
  have ew : IntKind.i64.wrap ((i : Int) + 1) = ((i + 1 : Nat) : Int) := by rw [wrap64 (by omega) (by omega)]; rfl
  have hi6 : i < 6 := by omega
  have z1 : (0 : Int) ≤ i := by omega
  have z2 : (i : Int) < 6 := by omega
  have z3 : (0 : Int) ≤ s := by omega
  have z4 : (s : Int) < 6 := by omega
  have wi : IntKind.u64.wrap (i : Int) = i := wrapU (by omega) (by omega)
  have sh := shr_n (k := .u64) (a := nw) (v := i) (by omega)
  have bv := bit_val nw i
  have key : ∀ v, v < i + 1 ↔ v < i ∨ v = i := fun v => by omega
  by_cases cb : nw.testBit i = true
  ·rw [if_pos cb] at bv
   have an : binS .and (.int .i64 ((nw / 2 ^ i : Nat) : Int)) (.int .i64 1) = some (.int .i64 1) := by
    have := b_and (a := nw / 2 ^ i) (b := 1) (by have := Nat.div_le_self nw (2 ^ i); omega) (by decide)
    rw [bv] at this; exact this
   have s1 : ∀ base d2, storeS base h' d2 H.length (7 + s * 6 + i) (cellsL (.int .i64 (d : Int))) = some (h'.set H.length (gC n nx (up far s (up (far s) i d))), d2) := fun base d2 => by
    have := S.stF (x := d) hs hi6 base [] d2
    simpa using this
   have S1 := S.setG nx (up far s (up (far s) i d))
   generalize h'.set H.length (gC n nx (up far s (up (far s) i d))) = h1 at *
   have g1 := S1.gN hi6 []
   rw [List.append_nil] at g1
   have om := b_or (a := mo) (b := nx i) (by omega) (by have := hnx i hi6; omega)
   repeat (first | apply Z1 | apply Z2 | apply Z3 | apply Z4 | apply Z5 rfl | apply Z6 | apply Z7 | apply Z8 | apply Z9 | apply ZA | apply ZB | apply ZC | ((first | apply ZD (by decide) | apply ZN (by decide)); (simp (maxSteps := 9999999) only [go_sem, r0, r6, r7, r10, r11, r12, r13, r14, r86, r87, r105, r106, e1, z1, z2, z3, z4, wi, sh, an, ↓s1, g1, om, ew, Int.toNat_natCast]; rfl)) | (refine ZE ?_ ?_; · simp only [go_sem]) | (refine ZF ?_ ?_; · simp only [go_sem]))
   refine end_nil ⟨k - 1, by omega, i + 1, _, _, by omega, S1, Nat.or_lt_two_pow (n := 6) hmo (hnx i hi6), fun w => ?_, fun f v => ?_, by simp only [go_sem, r0], by simp only [go_sem, r6], by simp only [go_sem, r7], by simp only [go_sem, r10], by simp only [go_sem, r11], by simp only [go_sem, r12], by simp only [go_sem, r13], by simp only [go_sem, om], by simp only [go_sem, r86], by simp only [go_sem, r87], by simp only [go_sem, r105], by simp only [go_sem, ew], rfl, rfl⟩
   ·rw [Nat.testBit_or, Bool.or_eq_true, hmb]
    constructor
    ·rintro (⟨v, h1, h2, h3⟩ | h)
     ·exact ⟨v, by omega, h2, h3⟩
     ·exact ⟨i, by omega, cb, h⟩
    ·rintro ⟨v, h1, h2, h3⟩
     rcases (key v).1 h1 with h | rfl
     ·exact .inl ⟨v, h, h2, h3⟩
     ·exact .inr h3
   ·unfold up
    by_cases cf : f = s
    ·subst cf
     rw [if_pos rfl]
     by_cases cv : v = i
     ·subst cv; rw [if_pos rfl, if_pos ⟨rfl, by omega, cb⟩]
     ·rw [if_neg cv, hfar]
      by_cases c2 : v < i
      ·simp [c2, show v < i + 1 by omega]
      ·simp [c2, show ¬ v < i + 1 by omega]
    ·rw [if_neg cf, hfar, if_neg (fun h => cf h.1), if_neg (fun h => cf h.1)]
  ·rw [if_neg cb] at bv
   have an : binS .and (.int .i64 ((nw / 2 ^ i : Nat) : Int)) (.int .i64 1) = some (.int .i64 0) := by
    have := b_and (a := nw / 2 ^ i) (b := 1) (by have := Nat.div_le_self nw (2 ^ i); omega) (by decide)
    rw [bv] at this; exact this
   repeat (first | apply Z1 | apply Z2 | apply Z3 | apply Z4 | apply Z5 rfl | apply Z6 | apply Z7 | apply Z8 | apply Z9 | apply ZA | apply ZB | apply ZC | ((first | apply ZD (by decide) | apply ZN (by decide)); (simp (maxSteps := 9999999) only [go_sem, r0, r6, r7, r10, r11, r12, r13, r14, r86, r87, r105, r106, e1, wi, sh, an, ew, Int.toNat_natCast]; rfl)) | (refine ZE ?_ ?_; · simp only [go_sem]) | (refine ZF ?_ ?_; · simp only [go_sem]))
   refine end_nil ⟨k - 1, by omega, i + 1, mo, far, by omega, S, hmo, fun w => ?_, fun f v => ?_, by simp only [go_sem, r0], by simp only [go_sem, r6], by simp only [go_sem, r7], by simp only [go_sem, r10], by simp only [go_sem, r11], by simp only [go_sem, r12], by simp only [go_sem, r13], by simp only [go_sem, r14], by simp only [go_sem, r86], by simp only [go_sem, r87], by simp only [go_sem, r105], by simp only [go_sem, ew], rfl, rfl⟩
   ·rw [hmb]
    constructor
    ·rintro ⟨v, h1, h2, h3⟩; exact ⟨v, by omega, h2, h3⟩
    ·rintro ⟨v, h1, h2, h3⟩
     rcases (key v).1 h1 with h | rfl
     ·exact ⟨v, h, h2, h3⟩
     ·exact (cb h2).elim
   ·rw [hfar]
    by_cases cv : v = i
    ·subst cv; simp [cb]
    ·by_cases c2 : v < i
     ·simp [c2, show v < i + 1 by omega]
     ·simp [c2, show ¬ v < i + 1 by omega]
end
end Go.Proofs.YtpkhkghiidilcaaDoor.Sh
namespace Go.Proofs.YtpkhkghiidilcaaDoor.Sh
section
open Go
set_option maxRecDepth 100000
set_option maxHeartbeats 4000000
section
variable {H h : SHeap} {b o : Nat} {cs : List Value} {el : TypeId} {own : Nat} {old : List Nat}
theorem gc_ptr2 {w : Value} (hw : flat 1 w = true) (ht : h.take H.length = H) (hb : h[b]? = some (.cells cs el true own old)) (h2 : (own == 2) = false) (hle : H.length ≤ b) :
  gcS H.length (.tuple #[.pointer (some ⟨b, o, none⟩), w]) h = some (.tuple #[.pointer (some ⟨H.length, o, none⟩), w], H ++ [.cells cs el true own (old.filterMap (ren H.length [b]))]) := by
 have eb : Nat.ble H.length b = true := by rw [ble_dec]; simpa using hle
 have e1 : reach H.length h 1000000 [b] [] = [b] := by
  rw [show (1000000 : Nat) = 999998 + 1 + 1 from rfl, reach]
  simp only [eb, List.contains_nil, Bool.not_true, Bool.or_self, Bool.false_eq_true, if_false, hb, ptrsO, Bool.true_or, if_true, List.nil_append]
  rw [reach]
 have e2 : ren H.length [b] b = some H.length := by simp [ren, eb, posOf]
 have hp : ptrs 2 w = [] ∧ ∀ K, renV H.length K 2 w = some w := ⟨ptrs_flat 2 w (flat_up _ _ hw), fun K => renV_flat 2 w (flat_up _ _ hw)⟩
 have e4 : ptrs 3 (.tuple #[.pointer (some ⟨b, o, none⟩), w]) = [b] := by
  show ptrs 2 (.pointer (some ⟨b, o, none⟩)) ++ (ptrs 2 w ++ []) = [b]
  rw [hp.1]; rfl
 have e3 := hp.2 [b]
 unfold gcS
 simp only [e4, e1, renV, e2, e3, mapO, renO, hb, h2, Bool.false_eq_true, if_false, if_true, ht]
theorem q_ptr2 {i j : Nat} {ρ : Reg} {w : Value} (hv : ρ i = .pointer (some ⟨b, o, none⟩)) (hj : ρ j = w) (hw : flat 1 w = true) (ht : h.take H.length = H) (hb : h[b]? = some (.cells cs el true own old)) (h2 : (own == 2) = false) (hle : H.length ≤ b) :
  callQ [.tmp i, .tmp j] H.length (.tuple #[.pointer (some ⟨H.length, o, none⟩), w], H ++ [.cells cs el true own (old.filterMap (ren H.length [b]))], []) .ret ρ [] h [] := by
 refine ⟨rfl, ?_⟩
 show opn (ρ i) fun v' => opn (ρ j) fun w' => endW H.length h [] (_, _, []) [v', w']
 rw [hv, hj]
 show opn w fun w' => endW H.length h [] (_, _, []) [_, w']
 exact opn_of hw ⟨_, _, gc_ptr2 hw ht hb h2 hle, rfl⟩
end
theorem bfs_loop (cx : Cx) {n : Nat} (hn : n ≤ 6) {H : SHeap} {a : Int × Int} {nx : Nat → Nat} {s : Nat} (hs : s < n) {far0 : Nat → Nat → Nat} (hnx : ∀ v, v < 6 → nx v < 64) (hadj : ∀ v w, v < 6 → (nx v).testBit w = true → w < n) :
  ∀ k ρ ms h' d', (∃ (d seen now : Nat) (far : Nat → Nat → Nat), seen + k = 64 ∧ d ≤ seen ∧ OS H h' n nx far a ∧ BI n (fun u v => decide (u < 6) && (nx u).testBit v) s d seen now (far s) ∧ (∀ f v, f ≠ s ∨ n ≤ v → far f v = far0 f v) ∧
    ρ 0 = .int .i64 n ∧ ρ 6 = .pointer (some ⟨H.length, 0, none⟩) ∧ ρ 7 = .pointer (some ⟨H.length + 1, 0, none⟩) ∧ ρ 10 = .int .i64 s ∧ ρ 11 = .int .i64 seen ∧ ρ 12 = .int .i64 d ∧ ρ 13 = .int .i64 now ∧ ρ 86 = .int .i64 n ∧ ρ 87 = .int .i64 s ∧ ms = [] ∧ d' = []) →
  LoopW M cx 8 sf68L1 ρ ms h' d' (fun ex ρ' ms' h' d' => ms' = [] ∧ d' = [] ∧ ex = .exit 4 ∧ ∃ (seen : Nat) (far : Nat → Nat → Nat), seen < 2 ^ n ∧ OS H h' n nx far a ∧ IsD n (fun u v => decide (u < 6) && (nx u).testBit v) s (fun v => if seen.testBit v = true then (far s v : Int) else -1) ∧ (∀ f v, f ≠ s ∨ n ≤ v → far f v = far0 f v) ∧
    ρ' 0 = .int .i64 n ∧ ρ' 6 = .pointer (some ⟨H.length, 0, none⟩) ∧ ρ' 7 = .pointer (some ⟨H.length + 1, 0, none⟩) ∧ ρ' 11 = .int .i64 seen ∧ ρ' 86 = .int .i64 n ∧ ρ' 87 = .int .i64 s) := by
 refine loop_run _ ?_
 rintro k ρ ms h' d' ⟨d, seen, now, far, hk, hd, S, I, hoth, r0, r6, r7, r10, r11, r12, r13, r86, r87, rfl, rfl⟩
 unfold sf68L1
 have hlt := S.lt
 have p6 : 2 ^ n ≤ 64 := Nat.pow_le_pow_right (n := 2) (by decide) hn
 have l1 := I.seen_lt
 have l2 := I.now_lt hs
 have an := b_andNot (a := now) (b := seen) (by omega) (by omega)
 by_cases c : andn now seen = 0
 ·have e1 : ((andn now seen : Nat) : Int) = 0 := by omega
  repeat (first | apply Z1 | apply Z2 | apply Z3 | apply Z4 | apply Z5 rfl | apply Z6 | apply Z7 | apply Z8 | apply Z9 | apply ZA | apply ZB | apply ZC | ((first | apply ZD (by decide) | apply ZN (by decide)); (simp (maxSteps := 9999999) only [go_sem, r11, r13, an, e1]; rfl)) | (refine ZE ?_ ?_; · simp only [go_sem]) | (refine ZF ?_ ?_; · simp only [go_sem]))
  exact end_nil ⟨rfl, rfl, rfl, seen, far, l1, S, I.fin hs c, hoth, by simp only [go_sem, r0], by simp only [go_sem, r6], by simp only [go_sem, r7], by simp only [go_sem, r11], by simp only [go_sem, r86], by simp only [go_sem, r87]⟩
 ·have hnb : ∀ v, (andn now seen).testBit v = true → v < n ∧ seen.testBit v = false := fun v h => by
   rw [andn_bit] at h
   simp only [Bool.and_eq_true, Bool.not_eq_true'] at h
   refine ⟨?_, h.2⟩
   rcases (I.b5 v).1 h.1 with ⟨_, rfl⟩ | ⟨_, k, _⟩
   ·exact hs
   ·exact k
  have hst := fun (f' : Nat → Nat) more => I.step (more := more) (f' := f') hs (fun a b h => by simp only [Bool.and_eq_true, decide_eq_true_eq] at h; exact hadj a b h.1 h.2)
  have hnw : andn now seen < 2 ^ n := bits_lt (fun i hi => (hnb i hi).1)
  have hgt : seen < seen ||| andn now seen := by
   apply Nat.lt_of_le_of_ne Nat.left_le_or
   intro e
   obtain ⟨i, hi⟩ : ∃ i, (andn now seen).testBit i = true := by
    apply Classical.byContradiction
    intro h
    apply c
    apply Nat.eq_of_testBit_eq
    intro i
    rw [Nat.zero_testBit]
    cases e2 : (andn now seen).testBit i with
    | false => rfl
    | true => exact (h ⟨i, e2⟩).elim
   have := (hnb i hi).2
   rw [e, Nat.testBit_or, hi] at this
   simp at this
  have hle : seen ||| andn now seen < 2 ^ n := Nat.or_lt_two_pow l1 hnw
  generalize hnwe : andn now seen = nw at *
  have e1 : ¬ ((nw : Nat) : Int) = 0 := by omega
  have or := b_or (a := seen) (b := nw) (by omega) (by omega)
  have ew : IntKind.i64.wrap ((d : Int) + 1) = ((d + 1 : Nat) : Int) := by rw [wrap64 (by omega) (by omega)]; rfl
  repeat (first | apply Z1 | apply Z2 | apply Z3 | apply Z4 | apply Z5 rfl | apply Z6 | apply Z7 | apply Z8 | apply Z9 | apply ZA | apply ZB | apply ZC | ((first | apply ZD (by decide) | apply ZN (by decide)); (simp (maxSteps := 9999999) only [go_sem, r0, r6, r7, r10, r11, r12, r13, r86, r87, an, e1, or]; rfl)) | (refine ZE ?_ ?_; · simp only [go_sem]) | (refine ZF ?_ ?_; · simp only [go_sem]))
  refine run_loop (inner_loop cx hn (a := a) (far0 := far) (s := s) (d := d) (seen := seen ||| nw) (nw := nw) (by omega) (by omega) (by omega) (by omega) hnx n _ _ _ _ ⟨0, 0, far, by omega, S, by decide, fun w => ⟨fun h => by simp at h, fun ⟨v, h, _⟩ => by omega⟩, fun f v => by rw [if_neg (by omega)], by simp only [go_sem, r0], by simp only [go_sem, r6], by simp only [go_sem, r7], by simp only [go_sem, r10], by simp only [go_sem, or], by simp only [go_sem, r12], by simp only [go_sem, r13], by simp only [go_sem], by simp only [go_sem, r86], by simp only [go_sem, r87], by simp only [go_sem, r0], by simp only [go_sem], rfl, rfl⟩) ?_
  rintro ex ρ2 ms2 h2 d2 ⟨rfl, rfl, rfl, mo, far2, S2, hmo, hmb, hf2, t0, t6, t7, t10, t11, t12, t14, t86, t87⟩
  repeat (first | apply Z1 | apply Z2 | apply Z3 | apply Z4 | apply Z5 rfl | apply Z6 | apply Z7 | apply Z8 | apply Z9 | apply ZA | apply ZB | apply ZC | ((first | apply ZD (by decide) | apply ZN (by decide)); (simp (maxSteps := 9999999) only [go_sem, t0, t6, t7, t10, t11, t12, t14, t86, t87, ew]; rfl)) | (refine ZE ?_ ?_; · simp only [go_sem]) | (refine ZF ?_ ?_; · simp only [go_sem]))
  refine end_nil ⟨k - ((seen ||| nw) - seen), by omega, d + 1, seen ||| nw, mo, far2, by omega, by omega, S2, hst (far2 s) mo (fun v hv => ?_) (fun w => ?_), fun f v hf => ?_, by simp only [go_sem, t0], by simp only [go_sem, t6], by simp only [go_sem, t7], by simp only [go_sem, t10], by simp only [go_sem, t11], by simp only [go_sem, ew], by simp only [go_sem, t14], by simp only [go_sem, t86], by simp only [go_sem, t87], rfl, rfl⟩
  ·rw [hf2]
   by_cases cv : nw.testBit v = true
   ·rw [if_pos ⟨rfl, hv, cv⟩, if_pos cv]
   ·rw [if_neg (fun h => cv h.2.2), if_neg cv]
  ·rw [hmb]
   constructor
   ·rintro ⟨v, h1, h2, h3⟩; exact ⟨v, h2, by simp only [Bool.and_eq_true, decide_eq_true_eq]; exact ⟨by omega, h3⟩⟩
   ·rintro ⟨v, h1, h2⟩
    simp only [Bool.and_eq_true, decide_eq_true_eq] at h2
    exact ⟨v, (hnb v h1).1, h1, h2.2⟩
  ·rw [← hoth f v hf, hf2, if_neg (fun h => by rcases hf with hf | hf; exact hf h.1; omega)]
end
end Go.Proofs.YtpkhkghiidilcaaDoor.Sh
namespace Go.Proofs.YtpkhkghiidilcaaDoor.Sh
section
open Go
set_option maxRecDepth 100000
set_option maxHeartbeats 4000000
def Conn (n : Nat) (E : List (Int × Int)) : Prop := ∀ s, s < n → ∃ F, IsD n (adjE E) s F ∧ ∀ v, v < n → 0 ≤ F v
open Classical in
noncomputable def farE (n : Nat) (E : List (Int × Int)) (s v : Nat) : Nat := if h : s < n ∧ v < n ∧ ∃ F, IsD n (adjE E) s F then ((Classical.choose h.2.2) v).toNat else 0
theorem farE_eq {n : Nat} {E : List (Int × Int)} {s v : Nat} {F : Nat → Int} (hF : IsD n (adjE E) s F) (hs : s < n) (hv : v < n) (h0 : 0 ≤ F v) : (farE n E s v : Int) = F v := by
 unfold farE
 rw [dif_pos ⟨hs, hv, F, hF⟩]
 have hc := Classical.choose_spec (⟨F, hF⟩ : ∃ F, IsD n (adjE E) s F)
 obtain ⟨h1, h2⟩ := hF.uniq hc hv
 have := h2 h0
 have := h1.1 h0
 omega
theorem farE_out {n : Nat} {E : List (Int × Int)} {s v : Nat} (h : ¬ (s < n ∧ v < n)) : farE n E s v = 0 := by
 unfold farE
 rw [dif_neg (fun k => h ⟨k.1, k.2.1⟩)]
theorem IsD.adj_congr {n : Nat} {adj adj' : Nat → Nat → Bool} {s : Nat} {F : Nat → Int} (h : IsD n adj s F) (he : ∀ u v, u < n → adj u v = adj' u v) : IsD n adj' s F :=
 ⟨h.src, fun v hv h1 h2 => by
  obtain ⟨u, k1, k2, k3, k4⟩ := h.prv v hv h1 h2
  exact ⟨u, k1, by rw [← he u v k1]; exact k2, k3, k4⟩, fun u v hu hv h1 h2 => h.nxt u v hu hv h1 (by rw [he u v hu]; exact h2)⟩
theorem from_loop (cx : Cx) {n : Nat} (hn1 : 1 ≤ n) (hn : n ≤ 6) {H : SHeap} {a : Int × Int} {nx : Nat → Nat} {E : List (Int × Int)} (hE : EOK n E) (hnx : ∀ v, v < 6 → nx v < 64 ∧ ∀ w, (nx v).testBit w = adjE E v w) :
  ∀ k ρ ms h' d', (∃ (i : Nat) (far : Nat → Nat → Nat), i + k = n ∧ OS H h' n nx far a ∧ (∀ s, s < i → ∃ F, IsD n (adjE E) s F ∧ ∀ v, v < n → 0 ≤ F v ∧ (far s v : Int) = F v) ∧ (∀ s v, i ≤ s ∨ n ≤ v → far s v = 0) ∧
    ρ 0 = .int .i64 n ∧ ρ 6 = .pointer (some ⟨H.length, 0, none⟩) ∧ ρ 7 = .pointer (some ⟨H.length + 1, 0, none⟩) ∧ ρ 86 = .int .i64 n ∧ ρ 87 = .int .i64 i ∧ ms = [] ∧ d' = []) →
  LoopW M cx 8 sf68L2 ρ ms h' d' (fun ex ρ' ms' h' d' => ms' = [] ∧ d' = [] ∧ ((ex = .exit 2 ∧ Conn n E ∧ (∃ far, OS H h' n nx far a ∧ ∀ s v, far s v = farE n E s v) ∧ ρ' 6 = .pointer (some ⟨H.length, 0, none⟩)) ∨
   (ex = .ret ∧ ρ' 4 = .pointer none ∧ ρ' 5 = .int .i64 80 ∧ ¬ Conn n E ∧ h'.take H.length = H))) := by
 refine loop_run _ ?_
 rintro k ρ ms h' d' ⟨i, far, hk, S, hfar, hz, r0, r6, r7, r86, r87, rfl, rfl⟩
 unfold sf68L2
 have hlt := S.lt
 have p6 : 2 ^ n ≤ 64 := Nat.pow_le_pow_right (n := 2) (by decide) hn
 by_cases c : k = 0
 ·have e1 : ¬ ((i : Int) < n) := by omega
  obtain rfl : i = n := by omega
  repeat (first | apply Z1 | apply Z2 | apply Z3 | apply Z4 | apply Z5 rfl | apply Z6 | apply Z7 | apply Z8 | apply Z9 | apply ZA | apply ZB | apply ZC | ((first | apply ZD (by decide) | apply ZN (by decide)); (simp (maxSteps := 9999999) only [go_sem, r86, r87, e1]; rfl)) | (refine ZE ?_ ?_; · simp only [go_sem]) | (refine ZF ?_ ?_; · simp only [go_sem]))
  refine end_nil ⟨rfl, rfl, .inl ⟨rfl, fun s hs => ?_, ⟨far, S, fun s v => ?_⟩, by simp only [go_sem, r6]⟩⟩
  ·obtain ⟨F, h1, h2⟩ := hfar s hs
   exact ⟨F, h1, fun v hv => (h2 v hv).1⟩
  ·by_cases cc : s < i ∧ v < i
   ·obtain ⟨F, h1, h2⟩ := hfar s cc.1
    obtain ⟨k1, k2⟩ := h2 v cc.2
    have := farE_eq h1 cc.1 cc.2 k1
    omega
   ·rw [farE_out cc, hz s v (by omega)]
 ·have e1 : ((i : Int) < n) := by omega
  have hin : i < n := by omega
  have ew : IntKind.i64.wrap ((i : Int) + 1) = ((i + 1 : Nat) : Int) := by rw [wrap64 (by omega) (by omega)]; rfl
  have wi : IntKind.u64.wrap (i : Int) = i := wrapU (by omega) (by omega)
  have wn : IntKind.u64.wrap (n : Int) = n := wrapU (by omega) (by omega)
  have si := shl_1 (k := .u64) (v := i) (by omega)
  have sn := shl_1 (k := .u64) (v := n) (by omega)
  have w2 : IntKind.i64.wrap (((2 ^ n : Nat) : Int) - 1) = ((2 ^ n - 1 : Nat) : Int) := by
   have : 0 < 2 ^ n := Nat.pow_pos (by decide)
   rw [wrap64 (by omega) (by omega)]; omega
  repeat (first | apply Z1 | apply Z2 | apply Z3 | apply Z4 | apply Z5 rfl | apply Z6 | apply Z7 | apply Z8 | apply Z9 | apply ZA | apply ZB | apply ZC | ((first | apply ZD (by decide) | apply ZN (by decide)); (simp (maxSteps := 9999999) only [go_sem, r0, r6, r7, r86, r87, e1, wi, si]; rfl)) | (refine ZE ?_ ?_; · simp only [go_sem]) | (refine ZF ?_ ?_; · simp only [go_sem]))
  refine run_loop (bfs_loop cx hn (a := a) (s := i) hin (far0 := far) (nx := nx) (fun v hv => (hnx v hv).1) (fun v w hv h => by rw [(hnx v hv).2] at h; exact (hE.adj h).2.1) 64 _ _ _ _ ⟨0, 0, 2 ^ i, far, rfl, Nat.le_refl _, S, BI.start n _ i _, fun f v _ => rfl, by simp only [go_sem, r0], by simp only [go_sem, r6], by simp only [go_sem, r7], by simp only [go_sem, r87], by simp only [go_sem], by simp only [go_sem], by simp only [go_sem, si], by simp only [go_sem, r86], by simp only [go_sem, r87], rfl, rfl⟩) ?_
  rintro ex ρ2 ms2 h2 d2 ⟨rfl, rfl, rfl, seen, far2, l1, S2, hD, hoth, t0, t6, t7, t11, t86, t87⟩
  have hD' := hD.adj_congr (adj' := adjE E) (fun u v hu => by rw [(hnx u (by omega)).2]; simp [show u < 6 by omega])
  clear hD
  have lt2 := S2.lt
  by_cases cs : seen = 2 ^ n - 1
  ·have e2 : (seen : Int) = ((2 ^ n - 1 : Nat) : Int) := by rw [cs]
   have hb : ∀ v, v < n → seen.testBit v = true := fun v hv => by rw [cs, Nat.testBit_two_pow_sub_one]; simpa using hv
   repeat (first | apply Z1 | apply Z2 | apply Z3 | apply Z4 | apply Z5 rfl | apply Z6 | apply Z7 | apply Z8 | apply Z9 | apply ZA | apply ZB | apply ZC | ((first | apply ZD (by decide) | apply ZN (by decide)); (simp (maxSteps := 9999999) only [go_sem, t0, t6, t7, t11, t86, t87, wn, sn, w2, e2, ew]; rfl)) | (refine ZE ?_ ?_; · simp only [go_sem]) | (refine ZF ?_ ?_; · simp only [go_sem]))
   refine end_nil ⟨k - 1, by omega, i + 1, far2, by omega, S2, fun s hs => ?_, fun s v h => ?_, by simp only [go_sem, t0], by simp only [go_sem, t6], by simp only [go_sem, t7], by simp only [go_sem, t86], by simp only [go_sem, ew], rfl, rfl⟩
   ·by_cases c2 : s = i
    ·subst c2
     exact ⟨_, hD', fun v hv => by rw [if_pos (hb v hv)]; exact ⟨by omega, rfl⟩⟩
    ·obtain ⟨F, k1, k2⟩ := hfar s (by omega)
     exact ⟨F, k1, fun v hv => by rw [hoth s v (.inl c2)]; exact k2 v hv⟩
   ·rw [hoth s v (by omega)]
    exact hz s v (by omega)
  ·have e2 : ¬ (seen : Int) = ((2 ^ n - 1 : Nat) : Int) := by omega
   repeat (first | apply Z1 | apply Z2 | apply Z3 | apply Z4 | apply Z5 rfl | apply Z6 | apply Z7 | apply Z8 | apply Z9 | apply ZA | apply ZB | apply ZC | ((first | apply ZD (by decide) | apply ZN (by decide)); (simp (maxSteps := 9999999) only [go_sem, t0, t6, t7, t11, t86, t87, wn, sn, w2, e2]; rfl)) | (refine ZE ?_ ?_; · simp only [go_sem]) | (refine ZF ?_ ?_; · simp only [go_sem]))
   refine end_nil ⟨rfl, rfl, .inr ⟨rfl, by simp only [go_sem], by simp only [go_sem], fun hc => ?_, ?_⟩⟩
   ·apply cs
    obtain ⟨F, k1, k2⟩ := hc i hin
    apply Nat.eq_of_testBit_eq
    intro v
    rw [Nat.testBit_two_pow_sub_one]
    by_cases cv : v < n
    ·have := ((hD'.uniq k1 cv).1.2 (k2 v cv))
     cases e : seen.testBit v with
     | true => simpa using cv
     | false => rw [e] at this; simp at this
    ·cases e : seen.testBit v with
     | false => simpa using cv
     | true =>
      have := Nat.testBit_lt_two_pow (x := seen) (i := v) (Nat.lt_of_lt_of_le l1 (Nat.pow_le_pow_right (by decide) (by omega)))
      rw [e] at this; cases this
   ·exact take_of_same (by omega) S2.fr
theorem gV_zero (n : Nat) : gV n (fun _ => 0) (fun _ _ => 0) = .int .i64 n :: List.replicate 42 (.int .i64 0) := rfl
noncomputable abbrev gE (n : Nat) (E : List (Int × Int)) : SO := gC n (nxE E) (farE n E)
open Classical in
theorem open68 {H : SHeap} {n : Nat} (hn1 : 1 ≤ n) (hn : n ≤ 6) {v : Value} {E : List (Int × Int)} (hv : PS H v E) (hlen : E.length ≤ 4611686018427387904) :
  M.call 68 [.int .i64 n, v] H = some (if EOK n E ∧ Conn n E then (.tuple #[.pointer (some ⟨H.length, 0, none⟩), .int .i64 0], H ++ [gE n E], []) else (.tuple #[.pointer none, .int .i64 80], H, [])) := by
 refine call_run sf68 rfl rfl rfl ?_
 obtain ⟨va, vc, rfl, hp⟩ := id hv
 unfold sf68
 have c1 : ¬ ((n : Int) < 1) := by omega
 have c2 : ¬ (6 < (n : Int)) := by omega
 have S0 : OS H ((H ++ [.cells (.int .i64 n :: List.replicate 42 (.int .i64 0)) 101 true 0 []]) ++ [.cells [.int .i64 (-1), .int .i64 (-1)] 45 true 0 []]) n (fun _ => 0) (fun _ _ => 0) (-1, -1) := by
  refine ⟨fun j hj => ?_, ?_, ?_⟩
  ·rw [List.append_assoc, List.getElem?_append_left hj]
  ·rw [List.append_assoc, List.getElem?_append_right (Nat.le_refl _), Nat.sub_self, ← gV_zero]; rfl
  ·rw [List.getElem?_append_right (by simp)]; simp
 have hH : ((H ++ [.cells (.int .i64 n :: List.replicate 42 (.int .i64 0)) 101 true 0 []]) ++ [.cells [.int .i64 (-1), .int .i64 (-1)] 45 true 0 []] : SHeap) = H ++ [.cells (.int .i64 n :: List.replicate 42 (.int .i64 0)) 101 true 0 [], .cells [.int .i64 (-1), .int .i64 (-1)] 45 true 0 []] := by rw [List.append_assoc]; rfl
 rw [hH] at S0
 repeat (first | apply Z1 | apply Z2 | apply Z3 | apply Z4 | apply Z5 rfl | apply Z6 | apply Z7 | apply Z8 | apply Z9 | apply ZA | apply ZB | apply ZC | ((first | apply ZD (by decide) | apply ZN (by decide)); (simp (maxSteps := 9999999) only [go_sem, argR, c1, c2]; rfl)) | (refine ZE ?_ ?_; · simp only [go_sem]) | (refine ZF ?_ ?_; · simp only [go_sem]))
 refine run_loop (edge_loop _ hn (H := H) hv hlen (fun _ _ => 0) E.length _ _ _ _ ⟨0, fun _ => 0, by omega, S0, fun v hv => ⟨show (0 : Nat) < 64 from by decide, fun w => by rw [Nat.zero_testBit]; rfl⟩, fun j hj => by omega, by simp only [go_sem, argR], by simp only [go_sem], by simp only [go_sem], by simp only [go_sem], by simp only [go_sem], by simp only [go_sem], rfl, rfl⟩) ?_
 rintro ex ρ2 ms2 h2 d2 ⟨rfl, rfl, h⟩
 rcases h with ⟨rfl, r0, r6, r7, hE, nx, a, S, hnx⟩ | ⟨rfl, r4, r5, hE, ht⟩
 ·repeat (first | apply Z1 | apply Z2 | apply Z3 | apply Z4 | apply Z5 rfl | apply Z6 | apply Z7 | apply Z8 | apply Z9 | apply ZA | apply ZB | apply ZC | ((first | apply ZD (by decide) | apply ZN (by decide)); (simp (maxSteps := 9999999) only [go_sem, r0, r6, r7]; rfl)) | (refine ZE ?_ ?_; · simp only [go_sem]) | (refine ZF ?_ ?_; · simp only [go_sem]))
  refine run_loop (from_loop _ hn1 hn (H := H) (nx := nx) (a := a) hE hnx n _ _ _ _ ⟨0, fun _ _ => 0, by omega, S, fun s hs => by omega, fun s v _ => rfl, by simp only [go_sem, r0], by simp only [go_sem, r6], by simp only [go_sem, r7], by simp only [go_sem, r0], by simp only [go_sem], rfl, rfl⟩) ?_
  rintro ex ρ3 ms3 h3 d3 ⟨rfl, rfl, h⟩
  rcases h with ⟨rfl, hC, ⟨far, S3, hfar⟩, t6⟩ | ⟨rfl, t4, t5, hC, ht⟩
  ·have lt3 := S3.lt
   repeat (first | apply Z1 | apply Z2 | apply Z3 | apply Z4 | apply Z5 rfl | apply Z6 | apply Z7 | apply Z8 | apply Z9 | apply ZA | apply ZB | apply ZC | ((first | apply ZD (by decide) | apply ZN (by decide)); (simp (maxSteps := 9999999) only [go_sem, t6]; rfl)) | (refine ZE ?_ ?_; · simp only [go_sem]) | (refine ZF ?_ ?_; · simp only [go_sem]))
   rw [if_pos ⟨hE, hC⟩]
   have hg : gC n nx far = gE n E := by
    unfold gE gC
    rw [gV_congr (nx' := nxE E) (far' := farE n E) (fun v hv => ?_) (fun f v _ _ => hfar f v)]
    apply Nat.eq_of_testBit_eq
    intro w
    rw [(hnx v hv).2, nxE_bit hE hn]
   exact end_nil (q_ptr2 (H := H) (old := []) (own := 0) (cs := gV n (nxE E) (farE n E)) (el := 101) (by simp only [go_sem, t6]) (by simp only [go_sem]) rfl (take_of_same (by omega) S3.fr) (by rw [S3.g, hg]) rfl (Nat.le_refl _))
  ·repeat (first | apply Z1 | apply Z2 | apply Z3 | apply Z4 | apply Z5 rfl | apply Z6 | apply Z7 | apply Z8 | apply Z9 | apply ZA | apply ZB | apply ZC | ((first | apply ZD (by decide) | apply ZN (by decide)); (simp (maxSteps := 9999999) only [go_sem, t4, t5]; rfl)) | (refine ZE ?_ ?_; · simp only [go_sem]) | (refine ZF ?_ ?_; · simp only [go_sem]))
   rw [if_neg (fun h => hC h.2)]
   exact end_nil (q_free [.pointer none, .int .i64 80] (by simp only [go_sem, t4, t5]) rfl rfl rfl (fun _ => rfl) ht rfl)
 ·repeat (first | apply Z1 | apply Z2 | apply Z3 | apply Z4 | apply Z5 rfl | apply Z6 | apply Z7 | apply Z8 | apply Z9 | apply ZA | apply ZB | apply ZC | ((first | apply ZD (by decide) | apply ZN (by decide)); (simp (maxSteps := 9999999) only [go_sem, r4, r5]; rfl)) | (refine ZE ?_ ?_; · simp only [go_sem]) | (refine ZF ?_ ?_; · simp only [go_sem]))
  rw [if_neg (fun h => hE h.1)]
  exact end_nil (q_free [.pointer none, .int .i64 80] (by simp only [go_sem, r4, r5]) rfl rfl rfl (fun _ => rfl) ht rfl)
end
end Go.Proofs.YtpkhkghiidilcaaDoor.Sh
namespace Go.Proofs.YtpkhkghiidilcaaDoor.Sh
section
open Go
set_option maxRecDepth 100000
set_option maxHeartbeats 4000000
def IS (h : SHeap) (v : Value) (l : List Int) : Prop := ∃ a c, v = .slice a l.length c ∧ (l ≠ [] → ∃ b o, a = some ⟨b, o, none⟩ ∧ b < h.length ∧ IL h b o l)
theorem IL.fr {H h : SHeap} {b o : Nat} {l : List Int} (k : IL H b o l) (e : h[b]? = H[b]?) : IL h b o l := fun i hi => by rw [load_same' e]; exact k i hi
theorem IS.fr {H h : SHeap} {v : Value} {l : List Int} (k : IS H v l) (hl : H.length ≤ h.length) (fr : ∀ j, j < H.length → h[j]? = H[j]?) : IS h v l := by
 obtain ⟨a, c, e, k⟩ := k
 refine ⟨a, c, e, fun hne => ?_⟩
 obtain ⟨b, o, ha, hb, hp⟩ := k hne
 exact ⟨b, o, ha, by omega, hp.fr (fr b hb)⟩
theorem IS.app {H : SHeap} {v : Value} {l : List Int} (k : IS H v l) (g : SHeap) : IS (H ++ g) v l := k.fr (by simp) (fun j hj => List.getElem?_append_left hj)
theorem IS.ld {H : SHeap} {v : Value} {l : List Int} (k : IS H v l) (hl : l ≠ []) : ∃ b o c, v = .slice (some ⟨b, o, none⟩) l.length c ∧ ∀ (i : Nat) (hi : i < l.length), loadS H none (.pointer (some ⟨b, o + i, none⟩)) = some (.int .i64 l[i]) := by
 obtain ⟨a, c, e, k⟩ := k
 obtain ⟨b, o, rfl, _, hp⟩ := k hl
 exact ⟨b, o, c, e, hp⟩
theorem sum_take {l : List Int} {i : Nat} (hi : i < l.length) : (l.take (i + 1)).sum = (l.take i).sum + l[i] := by
 rw [List.take_add_one, List.getElem?_eq_getElem hi, Option.toList_some, List.sum_append, List.sum_cons, List.sum_nil, Int.add_zero]
theorem sum_bnd {l : List Int} {B : Int} (h : ∀ x ∈ l, 0 ≤ x ∧ x ≤ B) : 0 ≤ l.sum ∧ l.sum ≤ B * l.length := by
 induction l with
 | nil => simp
 | cons a l ih =>
  have h1 := h a (List.mem_cons_self ..)
  have h2 := ih (fun x hx => h x (List.mem_cons_of_mem _ hx))
  rw [List.sum_cons, List.length_cons, Int.natCast_add, Int.mul_add]
  omega
theorem sum_small {l : List Int} (h : ∀ x ∈ l, 0 ≤ x ∧ x ≤ 1000) (hl : l.length ≤ 1000000) (i : Nat) : 0 ≤ (l.take i).sum ∧ (l.take i).sum ≤ 1000000000 := by
 have := sum_bnd (l := l.take i) (B := 1000) (fun x hx => h x (List.mem_of_mem_take hx))
 have h2 : (l.take i).length ≤ 1000000 := by rw [List.length_take]; omega
 omega
theorem sum60_loop (cx : Cx) {h : SHeap} {v : Value} {l : List Int} (hv : IS h v l) (hx : ∀ x ∈ l, 0 ≤ x ∧ x ≤ 1000) (hlen : l.length ≤ 1000000) :
  ∀ k ρ ms h' d', (∃ i : Nat, i + k = l.length ∧ ρ 3 = .int .i64 (l.take i).sum ∧ ρ 6 = v ∧ ρ 7 = .int .i64 l.length ∧ ρ 8 = .int .i64 i ∧ ms = [] ∧ h' = h ∧ d' = []) →
  LoopW M cx 5 sf60L0 ρ ms h' d' (fun ex ρ' ms' h' d' => ex = .exit 0 ∧ ms' = [] ∧ h' = h ∧ d' = [] ∧ ρ' 3 = .int .i64 l.sum) := by
 refine loop_run _ ?_
 rintro k ρ ms h' d' ⟨i, hk, r3, r6, r7, r8, rfl, rfl, rfl⟩
 unfold sf60L0
 by_cases c : k = 0
 ·have e1 : ¬ ((i : Int) < l.length) := by omega
  repeat (first | apply Z1 | apply Z2 | apply Z3 | apply Z4 | apply Z5 rfl | apply Z6 | apply Z7 | apply Z8 | apply Z9 | apply ZA | apply ZB | apply ZC | ((first | apply ZD (by decide) | apply ZN (by decide)); (simp (maxSteps := 9999999) only [go_sem, r7, r8, e1]; rfl)) | (refine ZE ?_ ?_; · simp only [go_sem]) | (refine ZF ?_ ?_; · simp only [go_sem]))
  refine end_nil ⟨rfl, rfl, rfl, rfl, ?_⟩
  simp only [go_sem, r3]
  rw [List.take_of_length_le (by omega)]
 ·have e1 : ((i : Int) < l.length) := by omega
  have e2 : (0 : Int) ≤ i := by omega
  have hil : i < l.length := by omega
  have ew : IntKind.i64.wrap ((i : Int) + 1) = ((i + 1 : Nat) : Int) := by rw [wrap64 (by omega) (by omega)]; rfl
  obtain ⟨b, o, cp, rfl, ld⟩ := hv.ld (by intro e; rw [e] at hil; simp at hil)
  have lp := ld i hil
  have hs := sum_take hil
  have hb := sum_small hx hlen (i + 1)
  have wa : IntKind.i64.wrap ((l.take i).sum + l[i]) = (l.take (i + 1)).sum := by rw [← hs, wrap64 (by omega) (by omega)]
  generalize l[i] = x at *
  generalize (l.take i).sum = s at *
  repeat (first | apply Z1 | apply Z2 | apply Z3 | apply Z4 | apply Z5 rfl | apply Z6 | apply Z7 | apply Z8 | apply Z9 | apply ZA | apply ZB | apply ZC | ((first | apply ZD (by decide) | apply ZN (by decide)); (simp (maxSteps := 9999999) only [go_sem, r3, r6, r7, r8, e1, e2, lp, wa, ew, Int.toNat_natCast]; rfl)) | (refine ZE ?_ ?_; · simp only [go_sem]) | (refine ZF ?_ ?_; · simp only [go_sem]))
  exact end_nil ⟨k - 1, by omega, i + 1, by omega, by simp only [go_sem, wa], by simp only [go_sem, r6], by simp only [go_sem, r7], by simp only [go_sem, ew], rfl, rfl, rfl⟩
theorem sum60 {h : SHeap} {v : Value} {l : List Int} (hv : IS h v l) (hx : ∀ x ∈ l, 0 ≤ x ∧ x ≤ 1000) (hlen : l.length ≤ 1000000) : M.call 60 [v] h = some (.int .i64 l.sum, h, []) := by
 refine call_run sf60 rfl rfl rfl ?_
 obtain ⟨va, vc, rfl, _⟩ := id hv
 unfold sf60
 repeat (first | apply Z1 | apply Z2 | apply Z3 | apply Z4 | apply Z5 rfl | apply Z6 | apply Z7 | apply Z8 | apply Z9 | apply ZA | apply ZB | apply ZC | ((first | apply ZD (by decide) | apply ZN (by decide)); (simp (maxSteps := 9999999) only [go_sem, argR]; rfl)) | (refine ZE ?_ ?_; · simp only [go_sem]) | (refine ZF ?_ ?_; · simp only [go_sem]))
 refine run_loop (sum60_loop _ hv hx hlen l.length _ _ _ _ ⟨0, by omega, by simp only [go_sem]; rfl, by simp only [go_sem], by simp only [go_sem], by simp only [go_sem], rfl, rfl, rfl⟩) ?_
 rintro ex ρ2 ms2 h2 d2 ⟨rfl, rfl, rfl, rfl, r3⟩
 repeat (first | apply Z1 | apply Z2 | apply Z3 | apply Z4 | apply Z5 rfl | apply Z6 | apply Z7 | apply Z8 | apply Z9 | apply ZA | apply ZB | apply ZC | ((first | apply ZD (by decide) | apply ZN (by decide)); (simp (maxSteps := 9999999) only [go_sem, r3]; rfl)) | (refine ZE ?_ ?_; · simp only [go_sem]) | (refine ZF ?_ ?_; · simp only [go_sem]))
 exact end_nil (q_ret1 _ (by simp only [go_sem, r3]) rfl (take_self _))
theorem sum63_loop (cx : Cx) {h : SHeap} {v : Value} {l : List Int} (hv : IS h v l) (hx : ∀ x ∈ l, 0 ≤ x ∧ x ≤ 1000) (hlen : l.length ≤ 1000000) :
  ∀ k ρ ms h' d', (∃ i : Nat, i + k = l.length ∧ ρ 3 = .int .i64 (l.take i).sum ∧ ρ 0 = v ∧ ρ 4 = .int .i64 i ∧ ms = [] ∧ h' = h ∧ d' = []) →
  LoopW M cx 5 sf63L0 ρ ms h' d' (fun ex ρ' ms' h' d' => ex = .exit 0 ∧ ms' = [] ∧ h' = h ∧ d' = [] ∧ ρ' 3 = .int .i64 l.sum) := by
 refine loop_run _ ?_
 rintro k ρ ms h' d' ⟨i, hk, r3, r0, r4, rfl, rfl, rfl⟩
 unfold sf63L0
 by_cases c : k = 0
 ·have e1 : ¬ ((i : Int) < l.length) := by omega
  obtain ⟨va, vc, rfl, _⟩ := id hv
  repeat (first | apply Z1 | apply Z2 | apply Z3 | apply Z4 | apply Z5 rfl | apply Z6 | apply Z7 | apply Z8 | apply Z9 | apply ZA | apply ZB | apply ZC | ((first | apply ZD (by decide) | apply ZN (by decide)); (simp (maxSteps := 9999999) only [go_sem, r0, r4, e1]; rfl)) | (refine ZE ?_ ?_; · simp only [go_sem]) | (refine ZF ?_ ?_; · simp only [go_sem]))
  refine end_nil ⟨rfl, rfl, rfl, rfl, ?_⟩
  simp only [go_sem, r3]
  rw [List.take_of_length_le (by omega)]
 ·have e1 : ((i : Int) < l.length) := by omega
  have e2 : (0 : Int) ≤ i := by omega
  have hil : i < l.length := by omega
  have ew : IntKind.i64.wrap ((i : Int) + 1) = ((i + 1 : Nat) : Int) := by rw [wrap64 (by omega) (by omega)]; rfl
  obtain ⟨b, o, cp, rfl, ld⟩ := hv.ld (by intro e; rw [e] at hil; simp at hil)
  have lp := ld i hil
  have hs := sum_take hil
  have hb := sum_small hx hlen (i + 1)
  have wa : IntKind.i64.wrap ((l.take i).sum + l[i]) = (l.take (i + 1)).sum := by rw [← hs, wrap64 (by omega) (by omega)]
  generalize l[i] = x at *
  generalize (l.take i).sum = s at *
  repeat (first | apply Z1 | apply Z2 | apply Z3 | apply Z4 | apply Z5 rfl | apply Z6 | apply Z7 | apply Z8 | apply Z9 | apply ZA | apply ZB | apply ZC | ((first | apply ZD (by decide) | apply ZN (by decide)); (simp (maxSteps := 9999999) only [go_sem, r3, r0, r4, e1, e2, lp, wa, ew, Int.toNat_natCast]; rfl)) | (refine ZE ?_ ?_; · simp only [go_sem]) | (refine ZF ?_ ?_; · simp only [go_sem]))
  exact end_nil ⟨k - 1, by omega, i + 1, by omega, by simp only [go_sem, wa], by simp only [go_sem, r0], by simp only [go_sem, ew], rfl, rfl, rfl⟩
theorem sum63 {h : SHeap} {v : Value} {l : List Int} (hv : IS h v l) (hx : ∀ x ∈ l, 0 ≤ x ∧ x ≤ 1000) (hlen : l.length ≤ 1000000) : M.call 63 [v] h = some (.int .i64 l.sum, h, []) := by
 refine call_run sf63 rfl rfl rfl ?_
 obtain ⟨va, vc, rfl, _⟩ := id hv
 unfold sf63
 repeat (first | apply Z1 | apply Z2 | apply Z3 | apply Z4 | apply Z5 rfl | apply Z6 | apply Z7 | apply Z8 | apply Z9 | apply ZA | apply ZB | apply ZC | ((first | apply ZD (by decide) | apply ZN (by decide)); (simp (maxSteps := 9999999) only [go_sem, argR]; rfl)) | (refine ZE ?_ ?_; · simp only [go_sem]) | (refine ZF ?_ ?_; · simp only [go_sem]))
 refine run_loop (sum63_loop _ hv hx hlen l.length _ _ _ _ ⟨0, by omega, by simp only [go_sem]; rfl, by simp only [go_sem, argR], by simp only [go_sem], rfl, rfl, rfl⟩) ?_
 rintro ex ρ2 ms2 h2 d2 ⟨rfl, rfl, rfl, rfl, r3⟩
 repeat (first | apply Z1 | apply Z2 | apply Z3 | apply Z4 | apply Z5 rfl | apply Z6 | apply Z7 | apply Z8 | apply Z9 | apply ZA | apply ZB | apply ZC | ((first | apply ZD (by decide) | apply ZN (by decide)); (simp (maxSteps := 9999999) only [go_sem, r3]; rfl)) | (refine ZE ?_ ?_; · simp only [go_sem]) | (refine ZF ?_ ?_; · simp only [go_sem]))
 exact end_nil (q_ret1 _ (by simp only [go_sem, r3]) rfl (take_self _))
def minL (l : List Int) : Int := l.tail.foldl min (l.headD 0)
def maxL (l : List Int) : Int := l.tail.foldl max (l.headD 0)
theorem fold_min (l : List Int) (a : Int) : (∀ x ∈ l, l.foldl min a ≤ x) ∧ l.foldl min a ≤ a ∧ (l.foldl min a = a ∨ l.foldl min a ∈ l) := by
 induction l generalizing a with
 | nil => simp
 | cons b l ih =>
  rw [List.foldl_cons]
  obtain ⟨h1, h2, h3⟩ := ih (min a b)
  refine ⟨fun x hx => ?_, by omega, ?_⟩
  ·rcases List.mem_cons.1 hx with rfl | hx
   ·omega
   ·exact h1 x hx
  ·rcases h3 with h3 | h3
   ·by_cases c : a ≤ b
    ·left; rw [h3]; omega
    ·right; rw [h3, show min a b = b by omega]; exact List.mem_cons_self ..
   ·right; exact List.mem_cons_of_mem _ h3
theorem fold_max (l : List Int) (a : Int) : (∀ x ∈ l, x ≤ l.foldl max a) ∧ a ≤ l.foldl max a ∧ (l.foldl max a = a ∨ l.foldl max a ∈ l) := by
 induction l generalizing a with
 | nil => simp
 | cons b l ih =>
  rw [List.foldl_cons]
  obtain ⟨h1, h2, h3⟩ := ih (max a b)
  refine ⟨fun x hx => ?_, by omega, ?_⟩
  ·rcases List.mem_cons.1 hx with rfl | hx
   ·omega
   ·exact h1 x hx
  ·rcases h3 with h3 | h3
   ·by_cases c : b ≤ a
    ·left; rw [h3]; omega
    ·right; rw [h3, show max a b = b by omega]; exact List.mem_cons_self ..
   ·right; exact List.mem_cons_of_mem _ h3
theorem minL_le {l : List Int} (hl : l ≠ []) : (∀ x ∈ l, minL l ≤ x) ∧ minL l ∈ l := by
 cases l with
 | nil => exact (hl rfl).elim
 | cons a l =>
  obtain ⟨h1, h2, h3⟩ := fold_min l a
  refine ⟨fun x hx => ?_, ?_⟩
  ·rcases List.mem_cons.1 hx with rfl | hx
   ·exact h2
   ·exact h1 x hx
  ·rcases h3 with h3 | h3
   ·show l.foldl min a ∈ _; rw [h3]; exact List.mem_cons_self ..
   ·exact List.mem_cons_of_mem _ h3
theorem maxL_le {l : List Int} (hl : l ≠ []) : (∀ x ∈ l, x ≤ maxL l) ∧ maxL l ∈ l := by
 cases l with
 | nil => exact (hl rfl).elim
 | cons a l =>
  obtain ⟨h1, h2, h3⟩ := fold_max l a
  refine ⟨fun x hx => ?_, ?_⟩
  ·rcases List.mem_cons.1 hx with rfl | hx
   ·exact h2
   ·exact h1 x hx
  ·rcases h3 with h3 | h3
   ·show l.foldl max a ∈ _; rw [h3]; exact List.mem_cons_self ..
   ·exact List.mem_cons_of_mem _ h3
theorem fold_take {l : List Int} {f : Int → Int → Int} {a : Int} {i : Nat} (hi : i < l.length) : (l.take (i + 1)).foldl f a = f ((l.take i).foldl f a) l[i] := by
 rw [List.take_add_one, List.getElem?_eq_getElem hi, Option.toList_some, List.foldl_append]; rfl
theorem min69_loop (cx : Cx) {h : SHeap} {v : Value} {a : Int} {l : List Int} (hv : IS h v (a :: l)) (hlen : l.length ≤ 1000000) :
  ∀ k ρ ms h' d', (∃ i : Nat, i + k = l.length ∧ ρ 3 = .int .i64 ((l.take i).foldl min a) ∧ ρ 0 = v ∧ ρ 4 = .int .i64 ((i + 1 : Nat) : Int) ∧ ms = [] ∧ h' = h ∧ d' = []) →
  LoopW M cx 5 sf69L0 ρ ms h' d' (fun ex ρ' ms' h' d' => ex = .exit 0 ∧ ms' = [] ∧ h' = h ∧ d' = [] ∧ ρ' 3 = .int .i64 (l.foldl min a)) := by
 refine loop_run _ ?_
 rintro k ρ ms h' d' ⟨i, hk, r3, r0, r4, rfl, rfl, rfl⟩
 unfold sf69L0
 obtain ⟨b, o, cp, rfl, ld⟩ := hv.ld (by simp)
 rw [List.length_cons] at r0
 by_cases c : k = 0
 ·have e1 : ¬ (((i + 1 : Nat) : Int) < ((l.length + 1 : Nat) : Int)) := by omega
  repeat (first | apply Z1 | apply Z2 | apply Z3 | apply Z4 | apply Z5 rfl | apply Z6 | apply Z7 | apply Z8 | apply Z9 | apply ZA | apply ZB | apply ZC | ((first | apply ZD (by decide) | apply ZN (by decide)); (simp (maxSteps := 9999999) only [go_sem, r0, r4, e1]; rfl)) | (refine ZE ?_ ?_; · simp only [go_sem]) | (refine ZF ?_ ?_; · simp only [go_sem]))
  refine end_nil ⟨rfl, rfl, rfl, rfl, ?_⟩
  simp only [go_sem, r3]
  rw [List.take_of_length_le (by omega)]
 ·have e1 : (((i + 1 : Nat) : Int) < ((l.length + 1 : Nat) : Int)) := by omega
  have e2 : (0 : Int) ≤ ((i + 1 : Nat) : Int) := by omega
  have hil : i < l.length := by omega
  have ew : IntKind.i64.wrap (((i + 1 : Nat) : Int) + 1) = ((i + 1 + 1 : Nat) : Int) := by rw [wrap64 (by omega) (by omega)]; rfl
  have lp : loadS h' none (.pointer (some ⟨b, o + (i + 1), none⟩)) = some (.int .i64 l[i]) := ld (i + 1) (by simp; omega)
  have hs := fold_take (f := min) (a := a) hil
  generalize l[i] = x at *
  generalize (l.take i).foldl min a = s at *
  generalize ej : i + 1 = j at *
  have hs' : (if x < s then x else s) = (l.take j).foldl min a := by rw [hs]; split <;> omega
  repeat (first | apply Z1 | apply Z2 | apply Z3 | apply Z4 | apply Z5 rfl | apply Z6 | apply Z7 | apply Z8 | apply Z9 | apply ZA | apply ZB | apply ZC | ((first | apply ZD (by decide) | apply ZN (by decide)); (simp (maxSteps := 9999999) only [go_sem, r3, r0, r4, e1, e2, lp, hs', ew, Int.toNat_natCast]; rfl)) | (refine ZE ?_ ?_; · simp only [go_sem]) | (refine ZF ?_ ?_; · simp only [go_sem]))
  exact end_nil ⟨k - 1, by omega, j, by omega, by simp only [go_sem, hs'], by simp only [go_sem, r0], by simp only [go_sem, ew], rfl, rfl, rfl⟩
theorem min69 {h : SHeap} {v : Value} {l : List Int} (hl : l ≠ []) (hv : IS h v l) (hlen : l.length ≤ 1000000) : M.call 69 [v] h = some (.int .i64 (minL l), h, []) := by
 cases l with
 | nil => exact (hl rfl).elim
 | cons a l =>
 refine call_run sf69 rfl rfl rfl ?_
 obtain ⟨b, o, c, rfl, ld⟩ := id (hv.ld (by simp))
 have l0 : loadS h none (.pointer (some ⟨b, o, none⟩)) = some (.int .i64 a) := ld 0 (by simp)
 have e0 : ¬ (((l.length + 1 : Nat) : Int) < 1) := by omega
 have e1 : (0 : Int) < ((l.length + 1 : Nat) : Int) := by omega
 unfold sf69
 repeat (first | apply Z1 | apply Z2 | apply Z3 | apply Z4 | apply Z5 rfl | apply Z6 | apply Z7 | apply Z8 | apply Z9 | apply ZA | apply ZB | apply ZC | ((first | apply ZD (by decide) | apply ZN (by decide)); (simp (maxSteps := 9999999) only [go_sem, argR, List.length_cons, e0, e1, l0]; rfl)) | (refine ZE ?_ ?_; · simp only [go_sem]) | (refine ZF ?_ ?_; · simp only [go_sem]))
 refine run_loop (min69_loop _ hv (by simp at hlen; omega) l.length _ _ _ _ ⟨0, by omega, by simp only [go_sem]; rfl, by simp only [go_sem, argR], by simp only [go_sem], rfl, rfl, rfl⟩) ?_
 rintro ex ρ2 ms2 h2 d2 ⟨rfl, rfl, rfl, rfl, r3⟩
 repeat (first | apply Z1 | apply Z2 | apply Z3 | apply Z4 | apply Z5 rfl | apply Z6 | apply Z7 | apply Z8 | apply Z9 | apply ZA | apply ZB | apply ZC | ((first | apply ZD (by decide) | apply ZN (by decide)); (simp (maxSteps := 9999999) only [go_sem, r3]; rfl)) | (refine ZE ?_ ?_; · simp only [go_sem]) | (refine ZF ?_ ?_; · simp only [go_sem]))
 exact end_nil (q_ret1 _ (by simp only [go_sem, r3]; rfl) rfl (take_self _))
theorem max70_loop (cx : Cx) {h : SHeap} {v : Value} {a : Int} {l : List Int} (hv : IS h v (a :: l)) (hlen : l.length ≤ 1000000) :
  ∀ k ρ ms h' d', (∃ i : Nat, i + k = l.length ∧ ρ 3 = .int .i64 ((l.take i).foldl max a) ∧ ρ 0 = v ∧ ρ 4 = .int .i64 ((i + 1 : Nat) : Int) ∧ ms = [] ∧ h' = h ∧ d' = []) →
  LoopW M cx 5 sf70L0 ρ ms h' d' (fun ex ρ' ms' h' d' => ex = .exit 0 ∧ ms' = [] ∧ h' = h ∧ d' = [] ∧ ρ' 3 = .int .i64 (l.foldl max a)) := by
 refine loop_run _ ?_
 rintro k ρ ms h' d' ⟨i, hk, r3, r0, r4, rfl, rfl, rfl⟩
 unfold sf70L0
 obtain ⟨b, o, cp, rfl, ld⟩ := hv.ld (by simp)
 rw [List.length_cons] at r0
 by_cases c : k = 0
 ·have e1 : ¬ (((i + 1 : Nat) : Int) < ((l.length + 1 : Nat) : Int)) := by omega
  repeat (first | apply Z1 | apply Z2 | apply Z3 | apply Z4 | apply Z5 rfl | apply Z6 | apply Z7 | apply Z8 | apply Z9 | apply ZA | apply ZB | apply ZC | ((first | apply ZD (by decide) | apply ZN (by decide)); (simp (maxSteps := 9999999) only [go_sem, r0, r4, e1]; rfl)) | (refine ZE ?_ ?_; · simp only [go_sem]) | (refine ZF ?_ ?_; · simp only [go_sem]))
  refine end_nil ⟨rfl, rfl, rfl, rfl, ?_⟩
  simp only [go_sem, r3]
  rw [List.take_of_length_le (by omega)]
 ·have e1 : (((i + 1 : Nat) : Int) < ((l.length + 1 : Nat) : Int)) := by omega
  have e2 : (0 : Int) ≤ ((i + 1 : Nat) : Int) := by omega
  have hil : i < l.length := by omega
  have ew : IntKind.i64.wrap (((i + 1 : Nat) : Int) + 1) = ((i + 1 + 1 : Nat) : Int) := by rw [wrap64 (by omega) (by omega)]; rfl
  have lp : loadS h' none (.pointer (some ⟨b, o + (i + 1), none⟩)) = some (.int .i64 l[i]) := ld (i + 1) (by simp; omega)
  have hs := fold_take (f := max) (a := a) hil
  generalize l[i] = x at *
  generalize (l.take i).foldl max a = s at *
  generalize ej : i + 1 = j at *
  have hs' : (if x > s then x else s) = (l.take j).foldl max a := by rw [hs]; split <;> omega
  repeat (first | apply Z1 | apply Z2 | apply Z3 | apply Z4 | apply Z5 rfl | apply Z6 | apply Z7 | apply Z8 | apply Z9 | apply ZA | apply ZB | apply ZC | ((first | apply ZD (by decide) | apply ZN (by decide)); (simp (maxSteps := 9999999) only [go_sem, r3, r0, r4, e1, e2, lp, hs', ew, Int.toNat_natCast]; rfl)) | (refine ZE ?_ ?_; · simp only [go_sem]) | (refine ZF ?_ ?_; · simp only [go_sem]))
  exact end_nil ⟨k - 1, by omega, j, by omega, by simp only [go_sem, hs'], by simp only [go_sem, r0], by simp only [go_sem, ew], rfl, rfl, rfl⟩
theorem max70 {h : SHeap} {v : Value} {l : List Int} (hl : l ≠ []) (hv : IS h v l) (hlen : l.length ≤ 1000000) : M.call 70 [v] h = some (.int .i64 (maxL l), h, []) := by
 cases l with
 | nil => exact (hl rfl).elim
 | cons a l =>
 refine call_run sf70 rfl rfl rfl ?_
 obtain ⟨b, o, c, rfl, ld⟩ := id (hv.ld (by simp))
 have l0 : loadS h none (.pointer (some ⟨b, o, none⟩)) = some (.int .i64 a) := ld 0 (by simp)
 have e0 : ¬ (((l.length + 1 : Nat) : Int) < 1) := by omega
 have e1 : (0 : Int) < ((l.length + 1 : Nat) : Int) := by omega
 unfold sf70
 repeat (first | apply Z1 | apply Z2 | apply Z3 | apply Z4 | apply Z5 rfl | apply Z6 | apply Z7 | apply Z8 | apply Z9 | apply ZA | apply ZB | apply ZC | ((first | apply ZD (by decide) | apply ZN (by decide)); (simp (maxSteps := 9999999) only [go_sem, argR, List.length_cons, e0, e1, l0]; rfl)) | (refine ZE ?_ ?_; · simp only [go_sem]) | (refine ZF ?_ ?_; · simp only [go_sem]))
 refine run_loop (max70_loop _ hv (by simp at hlen; omega) l.length _ _ _ _ ⟨0, by omega, by simp only [go_sem]; rfl, by simp only [go_sem, argR], by simp only [go_sem], rfl, rfl, rfl⟩) ?_
 rintro ex ρ2 ms2 h2 d2 ⟨rfl, rfl, rfl, rfl, r3⟩
 repeat (first | apply Z1 | apply Z2 | apply Z3 | apply Z4 | apply Z5 rfl | apply Z6 | apply Z7 | apply Z8 | apply Z9 | apply ZA | apply ZB | apply ZC | ((first | apply ZD (by decide) | apply ZN (by decide)); (simp (maxSteps := 9999999) only [go_sem, r3]; rfl)) | (refine ZE ?_ ?_; · simp only [go_sem]) | (refine ZF ?_ ?_; · simp only [go_sem]))
 exact end_nil (q_ret1 _ (by simp only [go_sem, r3]; rfl) rfl (take_self _))
end
end Go.Proofs.YtpkhkghiidilcaaDoor.Sh
namespace Go.Proofs.YtpkhkghiidilcaaDoor.Sh
section
open Go
set_option maxRecDepth 100000
set_option maxHeartbeats 4000000
def SupOK (n : Int) (l : List Int) : Prop := (l.length : Int) = n ∧ (∀ x ∈ l, 0 ≤ x ∧ x ≤ 40) ∧ l.sum ≤ 40
instance (n : Int) (l : List Int) : Decidable (SupOK n l) := by unfold SupOK; infer_instance
theorem check51 {h : SHeap} {n : Int} {v : Value} {l : List Int} (hv : IS h v l) (hlen : l.length ≤ 1000000) :
  M.call 51 [.int .i64 n, v] h = some (.int .i64 (if n < 1 ∨ 6 < n then 1 else if SupOK n l then 0 else 81), h, []) := by
 refine call_run sf51 rfl rfl rfl ?_
 obtain ⟨va, vc, rfl, _⟩ := id hv
 unfold sf51
 by_cases c1 : n < 1
 ·repeat (first | apply Z1 | apply Z2 | apply Z3 | apply Z4 | apply Z5 rfl | apply Z6 | apply Z7 | apply Z8 | apply Z9 | apply ZA | apply ZB | apply ZC | ((first | apply ZD (by decide) | apply ZN (by decide)); (simp (maxSteps := 9999999) only [go_sem, argR, c1]; rfl)) | (refine ZE ?_ ?_; · simp only [go_sem]) | (refine ZF ?_ ?_; · simp only [go_sem]))
  rw [if_pos (.inl c1)]
  exact end_nil (q_ret1 _ (by simp only [go_sem]) rfl (take_self _))
 ·by_cases c2 : 6 < n
  ·repeat (first | apply Z1 | apply Z2 | apply Z3 | apply Z4 | apply Z5 rfl | apply Z6 | apply Z7 | apply Z8 | apply Z9 | apply ZA | apply ZB | apply ZC | ((first | apply ZD (by decide) | apply ZN (by decide)); (simp (maxSteps := 9999999) only [go_sem, argR, c1, c2]; rfl)) | (refine ZE ?_ ?_; · simp only [go_sem]) | (refine ZF ?_ ?_; · simp only [go_sem]))
   rw [if_pos (.inr c2)]
   exact end_nil (q_ret1 _ (by simp only [go_sem]) rfl (take_self _))
  ·rw [if_neg (by omega)]
   by_cases c3 : (l.length : Int) = n
   ·have hne : l ≠ [] := fun e => by rw [e] at c3; simp at c3; omega
    have m1 := min69 hne hv hlen
    have m2 := max70 hne hv hlen
    obtain ⟨x1, x2⟩ := minL_le hne
    obtain ⟨y1, y2⟩ := maxL_le hne
    by_cases c4 : minL l < 0
    ·repeat (first | apply Z1 | apply Z2 | apply Z3 | apply Z4 | apply Z5 rfl | apply Z6 | apply Z7 | apply Z8 | apply Z9 | apply ZA | apply ZB | apply ZC | ((first | apply ZD (by decide) | apply ZN (by decide)); (simp (maxSteps := 9999999) only [go_sem, argR, c1, c2, c3, m1, c4]; rfl)) | (refine ZE ?_ ?_; · simp only [go_sem]) | (refine ZF ?_ ?_; · simp only [go_sem]))
     rw [if_neg (fun h => by have := (h.2.1 _ x2).1; omega)]
     exact end_nil (q_ret1 _ (by simp only [go_sem]) rfl (take_self _))
    ·by_cases c5 : maxL l > 40
     ·have c5' : 40 < maxL l := c5
      repeat (first | apply Z1 | apply Z2 | apply Z3 | apply Z4 | apply Z5 rfl | apply Z6 | apply Z7 | apply Z8 | apply Z9 | apply ZA | apply ZB | apply ZC | ((first | apply ZD (by decide) | apply ZN (by decide)); (simp (maxSteps := 9999999) only [go_sem, argR, c1, c2, c3, m1, c4, m2, c5, c5']; rfl)) | (refine ZE ?_ ?_; · simp only [go_sem]) | (refine ZF ?_ ?_; · simp only [go_sem]))
      rw [if_neg (fun h => by have := (h.2.1 _ y2).2; omega)]
      exact end_nil (q_ret1 _ (by simp only [go_sem]) rfl (take_self _))
     ·have hx : ∀ x ∈ l, 0 ≤ x ∧ x ≤ 40 := fun x hx => by have := x1 x hx; have := y1 x hx; omega
      have m3 := sum60 hv (fun x h => by have := hx x h; omega) hlen
      have c5' : ¬ 40 < maxL l := c5
      by_cases c6 : l.sum > 40
      ·have c6' : 40 < l.sum := c6
       repeat (first | apply Z1 | apply Z2 | apply Z3 | apply Z4 | apply Z5 rfl | apply Z6 | apply Z7 | apply Z8 | apply Z9 | apply ZA | apply ZB | apply ZC | ((first | apply ZD (by decide) | apply ZN (by decide)); (simp (maxSteps := 9999999) only [go_sem, argR, c1, c2, c3, m1, c4, m2, c5, c5', m3, c6, c6']; rfl)) | (refine ZE ?_ ?_; · simp only [go_sem]) | (refine ZF ?_ ?_; · simp only [go_sem]))
       rw [if_neg (fun h => by have := h.2.2; omega)]
       exact end_nil (q_ret1 _ (by simp only [go_sem]) rfl (take_self _))
      ·have c6' : ¬ 40 < l.sum := c6
       repeat (first | apply Z1 | apply Z2 | apply Z3 | apply Z4 | apply Z5 rfl | apply Z6 | apply Z7 | apply Z8 | apply Z9 | apply ZA | apply ZB | apply ZC | ((first | apply ZD (by decide) | apply ZN (by decide)); (simp (maxSteps := 9999999) only [go_sem, argR, c1, c2, c3, m1, c4, m2, c5, c5', m3, c6, c6']; rfl)) | (refine ZE ?_ ?_; · simp only [go_sem]) | (refine ZF ?_ ?_; · simp only [go_sem]))
       rw [if_pos ⟨c3, hx, by omega⟩]
       exact end_nil (q_ret1 _ (by simp only [go_sem]) rfl (take_self _))
   ·repeat (first | apply Z1 | apply Z2 | apply Z3 | apply Z4 | apply Z5 rfl | apply Z6 | apply Z7 | apply Z8 | apply Z9 | apply ZA | apply ZB | apply ZC | ((first | apply ZD (by decide) | apply ZN (by decide)); (simp (maxSteps := 9999999) only [go_sem, argR, c1, c2, c3]; rfl)) | (refine ZE ?_ ?_; · simp only [go_sem]) | (refine ZF ?_ ?_; · simp only [go_sem]))
    rw [if_neg (fun h => c3 h.1)]
    exact end_nil (q_ret1 _ (by simp only [go_sem]) rfl (take_self _))
theorem PS.ld {h : SHeap} {v : Value} {E : List (Int × Int)} (k : PS h v E) (hl : E ≠ []) : ∃ b o c, v = .slice (some ⟨b, o, none⟩) E.length c ∧ Prs h b o E := by
 obtain ⟨a, c, e, k⟩ := k
 obtain ⟨b, o, rfl, hp⟩ := k hl
 exact ⟨b, o, c, e, hp⟩
theorem pair_eq {e : Int × Int} {a b : Nat} : decide (e = ((a : Int), (b : Int))) = (decide (e.1 = a) && decide (e.2 = b)) := by
 by_cases h1 : e.1 = a
 ·by_cases h2 : e.2 = b
  ·rw [decide_eq_true (Prod.ext h1 h2), decide_eq_true h1, decide_eq_true h2]; rfl
  ·rw [decide_eq_false (fun e2 => h2 (by rw [e2])), decide_eq_true h1, decide_eq_false h2]; rfl
 ·rw [decide_eq_false (fun e2 => h1 (by rw [e2])), decide_eq_false h1]; rfl
theorem eq2 (x1 x2 y1 y2 : Int) : eqS (.agg [.int, .int]) (.agg #[.int .i64 x1, .int .i64 x2]) (.agg #[.int .i64 y1, .int .i64 y2]) = some (decide (x1 = y1) && decide (x2 = y2)) := by
 rw [eqS_aggr]
 show eqList [.int, .int] [.int .i64 x1, .int .i64 x2] [.int .i64 y1, .int .i64 y2] = _
 rw [eqL_cons, eqL_cons, eqL_nil]
 by_cases h1 : x1 = y1
 ·by_cases h2 : x2 = y2
  ·simp [h1, h2]
  ·simp [h1, h2]
 ·simp [h1]
theorem joined_loop (cx : Cx) {h : SHeap} {v : Value} {E : List (Int × Int)} (hv : PS h v E) (hlen : E.length ≤ 1000000) {a b : Nat} :
  ∀ k ρ ms h' d', (∃ i : Nat, i + k = E.length ∧ adjE (E.take i) a b = false ∧ h.length ≤ h'.length ∧ (∀ j, j < h.length → h'[j]? = h[j]?) ∧ ρ 0 = v ∧ ρ 1 = .int .i64 a ∧ ρ 2 = .int .i64 b ∧ ρ 7 = .int .i64 i ∧ ms = [] ∧ d' = []) →
  LoopW M cx 5 sf66L0 ρ ms h' d' (fun ex ρ' ms' h' d' => ms' = [] ∧ h.length ≤ h'.length ∧ (∀ j, j < h.length → h'[j]? = h[j]?) ∧ d' = [] ∧ ((ex = .exit 0 ∧ adjE E a b = false) ∨ (ex = .ret ∧ adjE E a b = true ∧ ρ' 6 = .bool true))) := by
 refine loop_run _ ?_
 rintro k ρ ms h' d' ⟨i, hk, hno, hle, fr, r0, r1, r2, r7, rfl, rfl⟩
 unfold sf66L0
 by_cases c : k = 0
 ·have e1 : ¬ ((i : Int) < E.length) := by omega
  obtain ⟨va, vc, rfl, _⟩ := id hv
  repeat (first | apply Z1 | apply Z2 | apply Z3 | apply Z4 | apply Z5 rfl | apply Z6 | apply Z7 | apply Z8 | apply Z9 | apply ZA | apply ZB | apply ZC | ((first | apply ZD (by decide) | apply ZN (by decide)); (simp (maxSteps := 9999999) only [go_sem, r0, r7, e1]; rfl)) | (refine ZE ?_ ?_; · simp only [go_sem]) | (refine ZF ?_ ?_; · simp only [go_sem]))
  rw [List.take_of_length_le (by omega)] at hno
  exact end_nil ⟨rfl, hle, fr, rfl, .inl ⟨rfl, hno⟩⟩
 ·have e1 : ((i : Int) < E.length) := by omega
  have e2 : (0 : Int) ≤ i := by omega
  have hil : i < E.length := by omega
  have ew : IntKind.i64.wrap ((i : Int) + 1) = ((i + 1 : Nat) : Int) := by rw [wrap64 (by omega) (by omega)]; rfl
  obtain ⟨bb, o, cp, rfl, hp⟩ := (hv.fr fr).ld (by intro e; rw [e] at hil; simp at hil)
  have lp := hp.loadN hil
  have htk : adjE (E.take (i + 1)) a b = (adjE (E.take i) a b || decide (E[i] = ((a : Int), (b : Int))) || decide (E[i] = ((b : Int), (a : Int)))) := by
   rw [List.take_add_one, List.getElem?_eq_getElem hil, Option.toList_some, adjE_snoc]
  rw [hno, pair_eq, pair_eq] at htk
  have hmem : E[i] ∈ E := List.getElem_mem hil
  have hyes : E[i] = ((a : Int), (b : Int)) ∨ E[i] = ((b : Int), (a : Int)) → adjE E a b = true := fun h => by
   rw [adjE_mem]
   rcases h with h | h
   ·left; rw [← h]; exact hmem
   ·right; rw [← h]; exact hmem
  generalize E[i] = e at *
  have hyes : (e.1 = a ∧ e.2 = b) ∨ (e.1 = b ∧ e.2 = a) → adjE E a b = true := fun h => hyes (h.imp (fun h => Prod.ext h.1 h.2) (fun h => Prod.ext h.1 h.2))
  have l2 : loadS (h' ++ [.cells [.int .i64 e.1, .int .i64 e.2] 45 true 0 []]) (some 2) (.pointer (some ⟨h'.length, 0, none⟩)) = some (.agg #[.int .i64 e.1, .int .i64 e.2]) := by
   rw [load_appN0]; rfl
  have fr2 : ∀ j, j < h.length → (h' ++ [SO.cells [.int .i64 e.1, .int .i64 e.2] 45 true 0 []])[j]? = h[j]? := fun j hj => by rw [List.getElem?_append_left (by omega)]; exact fr j hj
  have hle2 : h.length ≤ (h' ++ [SO.cells [.int .i64 e.1, .int .i64 e.2] 45 true 0 []]).length := by simp; omega
  have q := fun (x y : Nat) => eq2 e.1 e.2 (x : Int) (y : Int)
  have q1 := q a b
  have q2 := q b a
  clear q
  by_cases y1 : (decide (e.1 = (a : Int)) && decide (e.2 = (b : Int))) = true
  ·rw [y1] at q1
   repeat (first | apply Z1 | apply Z2 | apply Z3 | apply Z4 | apply Z5 rfl | apply Z6 | apply Z7 | apply Z8 | apply Z9 | apply ZA | apply ZB | apply ZC | ((first | apply ZD (by decide) | apply ZN (by decide)); (simp (maxSteps := 9999999) only [go_sem, r0, r1, r2, r7, e1, e2, lp, l2, ↓q1, Int.toNat_natCast]; rfl)) | (refine ZE ?_ ?_; · simp only [go_sem]) | (refine ZF ?_ ?_; · simp only [go_sem]))
   exact end_nil ⟨rfl, hle2, fr2, rfl, .inr ⟨rfl, hyes (.inl (by simpa using y1)), by simp only [go_sem]⟩⟩
  ·rw [Bool.not_eq_true] at y1
   rw [y1] at q1
   by_cases y2 : (decide (e.1 = (b : Int)) && decide (e.2 = (a : Int))) = true
   ·rw [y2] at q2
    repeat (first | apply Z1 | apply Z2 | apply Z3 | apply Z4 | apply Z5 rfl | apply Z6 | apply Z7 | apply Z8 | apply Z9 | apply ZA | apply ZB | apply ZC | ((first | apply ZD (by decide) | apply ZN (by decide)); (simp (maxSteps := 9999999) only [go_sem, r0, r1, r2, r7, e1, e2, lp, l2, ↓q1, ↓q2, Int.toNat_natCast]; rfl)) | (refine ZE ?_ ?_; · simp only [go_sem]) | (refine ZF ?_ ?_; · simp only [go_sem]))
    exact end_nil ⟨rfl, hle2, fr2, rfl, .inr ⟨rfl, hyes (.inr (by simpa using y2)), by simp only [go_sem]⟩⟩
   ·rw [Bool.not_eq_true] at y2
    rw [y1, y2] at htk
    rw [y2] at q2
    repeat (first | apply Z1 | apply Z2 | apply Z3 | apply Z4 | apply Z5 rfl | apply Z6 | apply Z7 | apply Z8 | apply Z9 | apply ZA | apply ZB | apply ZC | ((first | apply ZD (by decide) | apply ZN (by decide)); (simp (maxSteps := 9999999) only [go_sem, r0, r1, r2, r7, e1, e2, lp, l2, ↓q1, ↓q2, ew, Int.toNat_natCast]; rfl)) | (refine ZE ?_ ?_; · simp only [go_sem]) | (refine ZF ?_ ?_; · simp only [go_sem]))
    exact end_nil ⟨k - 1, by omega, i + 1, by omega, by simpa using htk, hle2, fr2, by simp only [go_sem, r0], by simp only [go_sem, r1], by simp only [go_sem, r2], by simp only [go_sem, ew], rfl, rfl⟩
theorem joined66 {h : SHeap} {v : Value} {E : List (Int × Int)} (hv : PS h v E) (hlen : E.length ≤ 1000000) (a b : Nat) : M.call 66 [v, .int .i64 a, .int .i64 b] h = some (.bool (adjE E a b), h, []) := by
 refine call_run sf66 rfl rfl rfl ?_
 obtain ⟨va, vc, rfl, _⟩ := id hv
 unfold sf66
 repeat (first | apply Z1 | apply Z2 | apply Z3 | apply Z4 | apply Z5 rfl | apply Z6 | apply Z7 | apply Z8 | apply Z9 | apply ZA | apply ZB | apply ZC | ((first | apply ZD (by decide) | apply ZN (by decide)); (simp (maxSteps := 9999999) only [go_sem, argR]; rfl)) | (refine ZE ?_ ?_; · simp only [go_sem]) | (refine ZF ?_ ?_; · simp only [go_sem]))
 refine run_loop (joined_loop _ hv hlen (a := a) (b := b) E.length _ _ _ _ ⟨0, by omega, rfl, Nat.le_refl _, fun j _ => rfl, by simp only [go_sem, argR], by simp only [go_sem, argR], by simp only [go_sem, argR], by simp only [go_sem], rfl, rfl⟩) ?_
 rintro ex ρ2 ms2 h2 d2 ⟨rfl, hle, fr, rfl, h⟩
 rcases h with ⟨rfl, hno⟩ | ⟨rfl, hy, r6⟩
 ·repeat (first | apply Z1 | apply Z2 | apply Z3 | apply Z4 | apply Z5 rfl | apply Z6 | apply Z7 | apply Z8 | apply Z9 | apply ZA | apply ZB | apply ZC | ((first | apply ZD (by decide) | apply ZN (by decide)); (simp (maxSteps := 9999999) only [go_sem]; rfl)) | (refine ZE ?_ ?_; · simp only [go_sem]) | (refine ZF ?_ ?_; · simp only [go_sem]))
  rw [hno]
  exact end_nil (q_ret1 _ (by simp only [go_sem]) rfl (take_of_same hle fr))
 ·repeat (first | apply Z1 | apply Z2 | apply Z3 | apply Z4 | apply Z5 rfl | apply Z6 | apply Z7 | apply Z8 | apply Z9 | apply ZA | apply ZB | apply ZC | ((first | apply ZD (by decide) | apply ZN (by decide)); (simp (maxSteps := 9999999) only [go_sem, r6]; rfl)) | (refine ZE ?_ ?_; · simp only [go_sem]) | (refine ZF ?_ ?_; · simp only [go_sem]))
  rw [hy]
  exact end_nil (q_ret1 _ (by simp only [go_sem, r6]) rfl (take_of_same hle fr))
end
end Go.Proofs.YtpkhkghiidilcaaDoor.Sh
namespace Go.Proofs.YtpkhkghiidilcaaDoor.Sh
section
open Go
set_option maxRecDepth 100000
set_option maxHeartbeats 4000000
def cnt : Nat → (Nat → Int) → Nat
 | 0, _ => 0
 | n + 1, f => cnt n f + if f n < 0 then 1 else 0
theorem cnt_up_ge {f : Nat → Int} {v : Nat} {d : Int} : ∀ n, n ≤ v → cnt n (up f v d) = cnt n f
 | 0, _ => rfl
 | n + 1, h => by
  show cnt n (up f v d) + _ = cnt n f + _
  rw [cnt_up_ge n (by omega)]
  unfold up
  rw [if_neg (show ¬ n = v by omega)]
theorem cnt_up {f : Nat → Int} {v : Nat} {d : Int} (hd : 0 ≤ d) (hf : f v < 0) : ∀ n, v < n → cnt n (up f v d) + 1 = cnt n f
 | 0, h => by omega
 | n + 1, h => by
  show cnt n (up f v d) + _ + 1 = cnt n f + _
  by_cases c : v = n
  ·subst c
   rw [cnt_up_ge v (Nat.le_refl _), if_pos hf]
   unfold up
   rw [if_pos rfl, if_neg (by omega)]
  ·have := cnt_up hd hf n (by omega)
   have e : up f v d n = f n := by unfold up; rw [if_neg (by omega)]
   rw [e]; omega
theorem cnt_le (f : Nat → Int) : ∀ n, cnt n f ≤ n
 | 0 => Nat.le_refl _
 | n + 1 => by
  have := cnt_le f n
  show cnt n f + _ ≤ n + 1
  split <;> omega
theorem cnt_all {f : Nat → Int} : ∀ n, (∀ v, v < n → f v < 0) → cnt n f = n
 | 0, _ => rfl
 | n + 1, h => by
  show cnt n f + _ = n + 1
  rw [cnt_all n (fun v hv => h v (by omega)), if_pos (h n (by omega))]
structure QI (n : Nat) (adj : Nat → Nat → Bool) (s : Nat) (f : Nat → Int) (q : List Nat) (i w : Nat) : Prop where
 q1 : ∀ v ∈ q, v < n ∧ 0 ≤ f v ∧ f v < q.length
 q2 : ∀ v, v < n → 0 ≤ f v → v ∈ q
 neg : ∀ v, v < n → f v < 0 → f v = -1
 src : f s = 0
 prv : ∀ v ∈ q, v ≠ s → ∃ u ∈ q, adj u v = true ∧ f v = f u + 1
 mono : ∀ j k, j ≤ k → k < q.length → f (q.getD j 0) ≤ f (q.getD k 0)
 top : i < q.length → ∀ v ∈ q, f v ≤ f (q.getD i 0) + 1
 don : ∀ j, j < i → ∀ v, v < n → adj (q.getD j 0) v = true → 0 ≤ f v ∧ f v ≤ f (q.getD j 0) + 1
 her : ∀ v, v < w → adj (q.getD i 0) v = true → 0 ≤ f v ∧ f v ≤ f (q.getD i 0) + 1
 num : q.length + cnt n f = n
 ile : i ≤ q.length
theorem QI.start {n : Nat} {adj : Nat → Nat → Bool} {s : Nat} (hs : s < n) : QI n adj s (up (fun _ => -1) s 0) [s] 0 0 := by
 have e : ∀ v, up (fun _ => (-1 : Int)) s 0 v = if v = s then 0 else -1 := fun v => rfl
 refine ⟨fun v hv => ?_, fun v _ h => ?_, fun v _ h => ?_, ?_, fun v hv h => ?_, fun j k h1 h2 => ?_, fun _ v hv => ?_, fun j h => by omega, fun v h => by omega, ?_, by simp⟩
 ·rw [List.mem_singleton] at hv; subst hv; rw [e, if_pos rfl]; exact ⟨hs, Int.le_refl _, by simp⟩
 ·rw [e] at h
  by_cases c : v = s
  ·rw [c]; exact List.mem_singleton.2 rfl
  ·rw [if_neg c] at h; omega
 ·rw [e] at h ⊢
  by_cases c : v = s
  ·rw [if_pos c] at h; omega
  ·rw [if_neg c]
 ·rw [e, if_pos rfl]
 ·exact (h (List.mem_singleton.1 hv)).elim
 ·simp at h2; subst h2; simp at h1; subst h1; exact Int.le_refl _
 ·rw [List.mem_singleton] at hv; subst hv; simp; omega
 ·have := cnt_up (f := fun _ => (-1 : Int)) (v := s) (d := 0) (by omega) (by decide) n hs
  rw [cnt_all (f := fun _ => (-1 : Int)) n (fun _ _ => (by decide : (-1 : Int) < 0))] at this
  show 1 + _ = n
  omega
section
variable {n : Nat} {adj : Nat → Nat → Bool} {s : Nat} {f : Nat → Int} {q : List Nat} {i w : Nat}
theorem QI.at' (Q : QI n adj s f q i w) (h : i < q.length) : q.getD i 0 = q[i] ∧ q[i] ∈ q := by
 rw [List.getD_eq_getElem?_getD, List.getElem?_eq_getElem h]
 exact ⟨rfl, List.getElem_mem h⟩
theorem QI.skip (Q : QI n adj s f q i w) (hi : i < q.length) (hw : w < n) (h : ¬ (f w < 0 ∧ adj (q.getD i 0) w = true)) : QI n adj s f q i (w + 1) :=
 ⟨Q.q1, Q.q2, Q.neg, Q.src, Q.prv, Q.mono, Q.top, Q.don, fun v hv ha => by
  by_cases c : v = w
  ·subst c
   have h0 : 0 ≤ f v := by
    apply Classical.byContradiction
    intro k
    exact h ⟨by omega, ha⟩
   exact ⟨h0, Q.top hi v (Q.q2 v hw h0)⟩
  ·exact Q.her v (by omega) ha, Q.num, Q.ile⟩
theorem QI.push (Q : QI n adj s f q i w) (hi : i < q.length) (hw : w < n) (h0 : f w < 0) (ha : adj (q.getD i 0) w = true) : QI n adj s (up f w (f (q.getD i 0) + 1)) (q ++ [w]) i (w + 1) := by
 have hq : ∀ v ∈ q, v ≠ w := fun v hv e => by subst e; have := (Q.q1 v hv).2.1; omega
 obtain ⟨hu, hum⟩ := Q.at' hi
 rw [hu] at ha ⊢
 have hu0 := Q.q1 _ hum
 have old : ∀ v ∈ q, up f w (f q[i] + 1) v = f v := fun v hv => by unfold up; rw [if_neg (hq v hv)]
 have new : up f w (f q[i] + 1) w = f q[i] + 1 := by unfold up; rw [if_pos rfl]
 have gd : ∀ j, j < q.length → (q ++ [w]).getD j 0 = q.getD j 0 ∧ q.getD j 0 ∈ q := fun j hj => by
  rw [List.getD_eq_getElem?_getD, List.getD_eq_getElem?_getD, List.getElem?_append_left hj, List.getElem?_eq_getElem hj]
  exact ⟨rfl, List.getElem_mem hj⟩
 have gn : (q ++ [w]).getD q.length 0 = w := by rw [List.getD_eq_getElem?_getD]; simp
 have gi := gd i hi
 rw [hu] at gi
 have up_ge : ∀ v, 0 ≤ f v → up f w (f q[i] + 1) v = f v := fun v hv => by
  unfold up; rw [if_neg (fun e => by subst e; omega)]
 refine ⟨fun v hv => ?_, fun v hv h => ?_, fun v hv h => ?_, ?_, fun v hv hvs => ?_, fun j k h1 h2 => ?_, fun _ v hv => ?_, fun j hj v hv h => ?_, fun v hv h => ?_, ?_, ?_⟩
 ·rw [List.mem_append, List.mem_singleton] at hv
  rw [List.length_append, List.length_singleton]
  rcases hv with hv | rfl
  ·rw [old v hv]; have := Q.q1 v hv; omega
  ·rw [new]; omega
 ·rw [List.mem_append, List.mem_singleton]
  by_cases c : v = w
  ·exact .inr c
  ·unfold up at h; rw [if_neg c] at h; exact .inl (Q.q2 v hv h)
 ·by_cases c : v = w
  ·subst c; rw [new] at h; omega
  ·unfold up at h ⊢; rw [if_neg c] at h ⊢; exact Q.neg v hv h
 ·rw [up_ge s (by rw [Q.src]; omega), Q.src]
 ·rw [List.mem_append, List.mem_singleton] at hv
  rcases hv with hv | rfl
  ·obtain ⟨u, k1, k2, k3⟩ := Q.prv v hv hvs
   exact ⟨u, List.mem_append_left _ k1, k2, by rw [old v hv, old u k1]; exact k3⟩
  ·exact ⟨q[i], List.mem_append_left _ hum, ha, by rw [new, old _ hum]⟩
 ·rw [List.length_append, List.length_singleton] at h2
  by_cases c : k = q.length
  ·subst c
   rw [gn, new]
   by_cases c2 : j = q.length
   ·subst c2; rw [gn, new]; exact Int.le_refl _
   ·have := gd j (by omega)
    rw [this.1, old _ this.2]
    have := Q.top hi _ this.2
    rw [hu] at this; exact this
  ·have a1 := gd j (by omega)
   have a2 := gd k (by omega)
   rw [a1.1, a2.1, old _ a1.2, old _ a2.2]
   exact Q.mono j k h1 (by omega)
 ·rw [gi.1, old _ hum]
  rw [List.mem_append, List.mem_singleton] at hv
  rcases hv with hv | rfl
  ·rw [old v hv]; have := Q.top hi v hv; rw [hu] at this; exact this
  ·rw [new]; exact Int.le_refl _
 ·have a1 := gd j (by omega)
  rw [a1.1] at h ⊢
  have := Q.don j hj v hv h
  rw [old _ a1.2, up_ge v this.1]
  exact this
 ·rw [gi.1] at h ⊢
  rw [old _ hum]
  by_cases c : v = w
  ·subst c; rw [new]; omega
  ·have := Q.her v (by omega) (by rw [hu]; exact h)
   rw [hu] at this
   rw [up_ge v this.1]; exact this
 ·have := cnt_up (f := f) (v := w) (d := f q[i] + 1) (by omega) h0 n hw
  have := Q.num
  rw [List.length_append, List.length_singleton]; omega
 ·rw [List.length_append]; have := Q.ile; omega
theorem QI.next (Q : QI n adj s f q i n) (hi : i < q.length) : QI n adj s f q (i + 1) 0 :=
 ⟨Q.q1, Q.q2, Q.neg, Q.src, Q.prv, Q.mono, fun h v hv => by
  have := Q.mono i (i + 1) (by omega) h
  have := Q.top hi v hv
  omega, fun j hj v hv h => by
  by_cases c : j = i
  ·subst c; exact Q.her v hv h
  ·exact Q.don j (by omega) v hv h, fun v h => by omega, Q.num, by omega⟩
theorem QI.fin (Q : QI n adj s f q i 0) (hi : i = q.length) : IsD n adj s f := by
 refine ⟨Q.src, fun v hv h1 h2 => ?_, fun u v hu hv h1 h2 => ?_⟩
 ·obtain ⟨u, k1, k2, k3⟩ := Q.prv v (Q.q2 v hv h1) h2
  exact ⟨u, (Q.q1 u k1).1, k2, (Q.q1 u k1).2.1, k3⟩
 ·obtain ⟨j, hj, e⟩ := List.mem_iff_getElem.1 (Q.q2 u hu h1)
  have := Q.don j (by omega) v hv
  rw [List.getD_eq_getElem?_getD, List.getElem?_eq_getElem hj, Option.getD_some, e] at this
  exact this h2
theorem QI.lt (Q : QI n adj s f q i w) : q.length ≤ n := by have := Q.num; omega
end
end
end Go.Proofs.YtpkhkghiidilcaaDoor.Sh
namespace Go.Proofs.YtpkhkghiidilcaaDoor.Sh
section
open Go
set_option maxRecDepth 100000
set_option maxHeartbeats 1000000
def AccL (H0 h : SHeap) (v : Value) (cs : List Value) (n s : Nat) (el : TypeId) : Prop :=
 AccS H0 h v cs n s el ∨ ∃ b, v = .slice (some ⟨b, 0, none⟩) n n ∧ n ≠ 0 ∧ n < UNK ∧ h[b]? = some (.cells cs el true 0 []) ∧ cs.length = n * s ∧ cs.all sc = true ∧ H0.length ≤ b ∧ H0.length ≤ h.length ∧ ∀ j, j < H0.length → h[j]? = H0[j]?
section
variable {H0 h : SHeap} {v : Value} {cs : List Value} {n s : Nat} {el : TypeId}
theorem AccL.le (A : AccL H0 h v cs n s el) : H0.length ≤ h.length := by
 rcases A with A | ⟨b, _, _, _, _, _, _, _, h1, _⟩
 ·exact A.le
 ·exact h1
theorem AccL.same (A : AccL H0 h v cs n s el) : ∀ j, j < H0.length → h[j]? = H0[j]? := by
 rcases A with A | ⟨b, _, _, _, _, _, _, _, _, h1⟩
 ·exact A.same
 ·exact h1
theorem AccL.shape (A : AccL H0 h v cs n s el) : ∃ a c, v = .slice a n c := by
 rcases A with A | ⟨b, rfl, _⟩
 ·exact A.shape
 ·exact ⟨_, _, rfl⟩
theorem AccL.app (A : AccL H0 h v cs n s el) (g : SHeap) : AccL H0 (h ++ g) v cs n s el := by
 rcases A with A | ⟨b, rfl, h1, h2, h3, h4, h5, h6, h7, h8⟩
 ·exact .inl (A.app g)
 ·have hb := (List.getElem?_eq_some_iff.1 h3).1
  exact .inr ⟨b, rfl, h1, h2, by rw [List.getElem?_append_left hb]; exact h3, h4, h5, h6, by simp; omega, fun j hj => by rw [List.getElem?_append_left (by omega)]; exact h8 j hj⟩
theorem AccL.cellsAt (A : AccL H0 h v cs n s el) (hn : n ≠ 0) : ∃ b c old, v = .slice (some ⟨b, 0, none⟩) n c ∧ h[b]? = some (.cells cs el true 0 old) ∧ H0.length ≤ b := by
 rcases A with A | ⟨b, rfl, h1, h2, h3, h4, h5, h6, h7⟩
 ·rcases A.acc with ⟨e, _⟩ | ⟨b, old, rfl, h1, h2, h3, h4, h5, h6⟩
  ·exact (hn e).elim
  ·exact ⟨b, _, old, rfl, h1, h4⟩
 ·exact ⟨b, _, [], rfl, h3, h6⟩
theorem AccL.push {bytes : Nat} {new : List Value} (A : AccL H0 h v cs n s el) {bs : Nat} {el2 : TypeId} {pf2 : Bool} {own2 : Nat} {old2 : List Nat}
  (hs : h[bs]? = some (.cells new el2 pf2 own2 old2)) (hr : readable own2 = true) (hl : new.length = s) (hs0 : 0 < s) (hsc : new.all sc = true) (hb0 : 0 < bytes) (hb : (n + 1) * bytes ≤ 140737488355328) :
  ∃ H2 v2, (∀ (base : Nat) (d : List Nat), appendS base h d el true s bytes v (.slice (some ⟨bs, 0, none⟩) 1 1) = some (v2, H2, d)) ∧ (∃ b, v2 = .slice (some ⟨b, 0, none⟩) (n + 1) (UNK + s)) ∧ AccS H0 H2 v2 (cs ++ new) (n + 1) s el := by
 rcases A with A | ⟨b, rfl, h1, h2, h3, h4, h5, h6, h7, h8⟩
 ·obtain ⟨H2, v2, k1, k2, k3, _⟩ := A.push (bytes := bytes) hs hr hl hs0 hsc hb0 hb
  exact ⟨H2, v2, k1, k2, k3⟩
 ·have hseen : rdN h bs 0 (1 * s) = some new := by
   rw [rdN_def, hs]
   dsimp only
   rw [hr, ble_dec, decide_eq_true (by omega), if_pos (by rfl), List.drop_zero, Nat.one_mul, ← hl, List.take_length]
  have hone := all_sc_one new hsc
  have hsx : rdN h b 0 (n * s) = some cs := by
   rw [rdN_def, h3]
   dsimp only
   rw [readable_0, ble_dec, decide_eq_true (by omega), if_pos (by rfl), List.drop_zero, ← h4, List.take_length]
  have hn : (n == 0) = false := beq_eq_false_iff_ne.2 h1
  have e1 : Nat.ble UNK n = false := by rw [ble_dec]; exact decide_eq_false (by omega)
  have e2 : Nat.ble (n + 1) n = false := by rw [ble_dec]; exact decide_eq_false (by omega)
  have e4 : Nat.ble ((n + 1) * bytes) 140737488355328 = true := by rw [ble_dec]; simpa using hb
  have e5 : Nat.blt 0 bytes = true := by rw [blt_dec]; simpa using hb0
  refine ⟨h ++ [.cells (cs ++ new) el true 0 []], .slice (some ⟨h.length, 0, none⟩) (n + 1) (UNK + s), fun base d => ?_, ⟨_, rfl⟩, ⟨.inr ⟨h.length, [], rfl, by simp, by rw [List.length_append, h4, hl, Nat.add_mul, Nat.one_mul], by omega, h7, by rw [List.all_append, h5, hsc]; rfl, fun c hc => by simp at hc⟩, by simp; omega, fun j hj => by rw [List.getElem?_append_left (by omega)]; exact h8 j hj⟩⟩
  unfold appendS
  simp only [lenS, seenS, hseen, hsx, hn, e1, e2, e4, e5, hone, hsc, h5]
  simp [-List.all_eq_true, hone, hsc, h5]
theorem AccL.own {H : SHeap} {o o' : SO} (A : AccL (H ++ [o]) h v cs n s el) : AccL (H ++ [o']) (h.set H.length o') v cs n s el := by
 have e : (H ++ [o]).length = H.length + 1 := by simp
 have e' : (H ++ [o']).length = H.length + 1 := by simp
 have hl := A.le
 have hsame := A.same
 rw [e] at hl hsame
 have same' : ∀ j, j < (H ++ [o']).length → (h.set H.length o')[j]? = (H ++ [o'])[j]? := fun j hj => by
  rw [e'] at hj
  by_cases c : j = H.length
  ·subst c; rw [List.getElem?_set_self (by omega)]; simp
  ·rw [List.getElem?_set_ne (fun e => c e.symm), hsame j (by omega), List.getElem?_append_left (by omega), List.getElem?_append_left (by omega)]
 rcases A with A | ⟨b, rfl, h1, h2, h3, h4, h5, h6, h7, h8⟩
 ·have hacc := A.acc
  rw [e] at hacc
  refine .inl ⟨?_, by rw [e', List.length_set]; exact hl, same'⟩
  rw [e']
  exact hacc.keep (fun b eb => List.getElem?_set_ne (by have := (hacc.lt eb).1; omega))
 ·rw [e] at h6
  exact .inr ⟨b, rfl, h1, h2, by rw [List.getElem?_set_ne (by omega)]; exact h3, h4, h5, by omega, by rw [e', List.length_set]; exact hl, same'⟩
theorem AccL.base {H : SHeap} {o : SO} (A : AccL (H ++ [o]) h v cs n s el) : H.length + 1 ≤ h.length ∧ h[H.length]? = some o ∧ ∀ j, j < H.length → h[j]? = H[j]? := by
 have hl := A.le
 have hsame := A.same
 rw [List.length_append, List.length_singleton] at hl hsame
 exact ⟨hl, by rw [hsame _ (by omega)]; simp, fun j hj => by rw [hsame j (by omega), List.getElem?_append_left hj]⟩
theorem AccL.lit {b : Nat} (hb : h = H0 ++ [.cells cs el true 0 []]) (hn : n ≠ 0) (hu : n < UNK) (hl : cs.length = n * s) (hsc : cs.all sc = true) : AccL H0 h (.slice (some ⟨H0.length, 0, none⟩) n n) cs n s el := by
 subst hb
 exact .inr ⟨_, rfl, hn, hu, by simp, hl, hsc, Nat.le_refl _, by simp, fun j hj => List.getElem?_append_left hj⟩
end
end
end Go.Proofs.YtpkhkghiidilcaaDoor.Sh
namespace Go.Proofs.YtpkhkghiidilcaaDoor.Sh
section
open Go
set_option maxRecDepth 100000
set_option maxHeartbeats 4000000
def iV (n : Nat) (f : Nat → Int) : List Value := (List.range n).map (fun v => Value.int .i64 (f v))
theorem iV_len (n : Nat) (f : Nat → Int) : (iV n f).length = n := by simp [iV]
theorem iV_get {n v : Nat} (f : Nat → Int) (h : v < n) : (iV n f)[v]? = some (.int .i64 (f v)) := by simp [iV, h]
theorem iV_set {n v : Nat} (f : Nat → Int) (h : v < n) (x : Int) : (iV n f).set v (.int .i64 x) = iV n (up f v x) := by
 apply List.ext_getElem?
 intro i
 by_cases e : i = v
 ·subst e
  rw [List.getElem?_set_self (by rw [iV_len]; exact h), iV_get _ h]; simp [up]
 ·rw [List.getElem?_set_ne (fun k => e k.symm)]
  by_cases c : i < n
  ·rw [iV_get _ c, iV_get _ c]; simp [up, e]
  ·rw [List.getElem?_eq_none (by rw [iV_len]; omega), List.getElem?_eq_none (by rw [iV_len]; omega)]
theorem iV_congr {n : Nat} {f g : Nat → Int} (h : ∀ v, v < n → f v = g v) : iV n f = iV n g := List.map_congr_left (fun v hv => by rw [h v (List.mem_range.1 hv)])
theorem iV_sc (n : Nat) (f : Nat → Int) : (iV n f).all sc = true := by
 rw [List.all_eq_true]
 intro v hv
 obtain ⟨i, _, rfl⟩ := List.mem_map.1 hv
 rfl
theorem store_end {H : SHeap} {cs : List Value} {el : TypeId} {o : Nat} {c : Value} (ho : o < cs.length) (h1 : oneC c = true) (h2 : sc c = true) (base : Nat) (d : List Nat) : storeS base (H ++ [.cells cs el true 0 []]) d H.length o [c] = some (H ++ [.cells (cs.set o c) el true 0 []], d) := by
 have := store_cell (h := H ++ [.cells cs el true 0 []]) (base := base) (b := H.length) (o := o) (c := c) (cs := cs) (el := el) (pf := true) (by simp) ho h1 (fun _ => h2) d
 rw [List.set_append_right _ _ (Nat.le_refl _), Nat.sub_self] at this
 exact this
theorem fill_loop (cx : Cx) {H : SHeap} {n : Nat} (hn : n ≤ 6) {a1 a2 : Value} :
  ∀ k ρ ms h' d', (∃ (i : Nat) (f : Nat → Int), i + k = n ∧ (∀ v, v < i → f v = -1) ∧ h' = H ++ [.cells (iV n f) 3 true 0 []] ∧ ρ 0 = .int .i64 n ∧ ρ 1 = a1 ∧ ρ 2 = a2 ∧ ρ 7 = .slice (some ⟨H.length, 0, none⟩) n n ∧ ρ 8 = .int .i64 i ∧ ms = [] ∧ d' = []) →
  LoopW M cx 7 sf40L2 ρ ms h' d' (fun ex ρ' ms' h' d' => ex = .exit 0 ∧ ms' = [] ∧ d' = [] ∧ h' = H ++ [.cells (iV n (fun _ => -1)) 3 true 0 []] ∧ ρ' 0 = .int .i64 n ∧ ρ' 1 = a1 ∧ ρ' 2 = a2 ∧ ρ' 7 = .slice (some ⟨H.length, 0, none⟩) n n) := by
 refine loop_run _ ?_
 rintro k ρ ms h' d' ⟨i, f, hk, hf, rfl, r0, r1, r2, r7, r8, rfl, rfl⟩
 unfold sf40L2
 by_cases c : k = 0
 ·have e1 : ¬ ((i : Int) < n) := by omega
  repeat (first | apply Z1 | apply Z2 | apply Z3 | apply Z4 | apply Z5 rfl | apply Z6 | apply Z7 | apply Z8 | apply Z9 | apply ZA | apply ZB | apply ZC | ((first | apply ZD (by decide) | apply ZN (by decide)); (simp (maxSteps := 9999999) only [go_sem, r0, r8, e1]; rfl)) | (refine ZE ?_ ?_; · simp only [go_sem]) | (refine ZF ?_ ?_; · simp only [go_sem]))
  exact end_nil ⟨rfl, rfl, rfl, by rw [iV_congr (fun v hv => hf v (by omega))], by simp only [go_sem, r0], by simp only [go_sem, r1], by simp only [go_sem, r2], by simp only [go_sem, r7]⟩
 ·have e1 : ((i : Int) < n) := by omega
  have e2 : (0 : Int) ≤ i := by omega
  have ew : IntKind.i64.wrap ((i : Int) + 1) = ((i + 1 : Nat) : Int) := by rw [wrap64 (by omega) (by omega)]; rfl
  have s1 : ∀ base d, storeS base (H ++ [.cells (iV n f) 3 true 0 []]) d H.length i (cellsL (.int .i64 (-1))) = some (H ++ [.cells (iV n (up f i (-1))) 3 true 0 []], d) := fun base d => by
   rw [← iV_set f (by omega)]
   exact store_end (by rw [iV_len]; omega) rfl rfl base d
  repeat (first | apply Z1 | apply Z2 | apply Z3 | apply Z4 | apply Z5 rfl | apply Z6 | apply Z7 | apply Z8 | apply Z9 | apply ZA | apply ZB | apply ZC | ((first | apply ZD (by decide) | apply ZN (by decide)); (simp (maxSteps := 9999999) only [go_sem, r0, r1, r2, r7, r8, e1, e2, ↓s1, ew, Int.toNat_natCast]; rfl)) | (refine ZE ?_ ?_; · simp only [go_sem]) | (refine ZF ?_ ?_; · simp only [go_sem]))
  exact end_nil ⟨k - 1, by omega, i + 1, up f i (-1), by omega, fun v hv => by unfold up; split; rfl; exact hf v (by omega), rfl, by simp only [go_sem, r0], by simp only [go_sem, r1], by simp only [go_sem, r2], by simp only [go_sem, r7], by simp only [go_sem, ew], rfl, rfl⟩
abbrev nI (v : Nat) : Value := .int .i64 (v : Int)
theorem AccL.ldQ {H h : SHeap} {v : Value} {q : List Nat} {el : TypeId} (A : AccL H h v (q.map nI) q.length 1 el) {i : Nat} (hi : i < q.length) : ∃ b c, v = .slice (some ⟨b, 0, none⟩) q.length c ∧ loadS h none (.pointer (some ⟨b, i, none⟩)) = some (nI (q.getD i 0)) := by
 obtain ⟨b, c, old, e, hb, _⟩ := A.cellsAt (by omega)
 refine ⟨b, c, e, ?_⟩
 have := load_cell (h := h) (o := i) (c := nI (q.getD i 0)) hb rfl (by rw [List.getElem?_map, List.getElem?_eq_getElem hi, List.getD_eq_getElem?_getD, List.getElem?_eq_getElem hi]; rfl) []
 rw [List.append_nil] at this
 exact this
theorem look_loop (cx : Cx) {H : SHeap} {n : Nat} (hn : n ≤ 6) {ev : Value} {E : List (Int × Int)} (hv : PS H ev E) (hlen : E.length ≤ 1000000) {s i : Nat} :
  ∀ k ρ ms h' d', (∃ (w : Nat) (f : Nat → Int) (q : List Nat) (qv : Value), w + k = n ∧ i < q.length ∧ QI n (adjE E) s f q i w ∧ AccL (H ++ [.cells (iV n f) 3 true 0 []]) h' qv (q.map nI) q.length 1 3 ∧
   ρ 0 = .int .i64 n ∧ ρ 1 = ev ∧ ρ 7 = .slice (some ⟨H.length, 0, none⟩) n n ∧ ρ 9 = qv ∧ ρ 10 = .int .i64 i ∧ ρ 11 = .int .i64 w ∧ ms = [] ∧ d' = []) →
  LoopW M cx 7 sf40L0 ρ ms h' d' (fun ex ρ' ms' h' d' => ex = .exit 4 ∧ ms' = [] ∧ d' = [] ∧ ∃ (f : Nat → Int) (q : List Nat) (qv : Value), i < q.length ∧ QI n (adjE E) s f q i n ∧ AccL (H ++ [.cells (iV n f) 3 true 0 []]) h' qv (q.map nI) q.length 1 3 ∧
   ρ' 0 = .int .i64 n ∧ ρ' 1 = ev ∧ ρ' 7 = .slice (some ⟨H.length, 0, none⟩) n n ∧ ρ' 9 = qv ∧ ρ' 10 = .int .i64 i) := by
 refine loop_run _ ?_
 rintro k ρ ms h' d' ⟨w, f, q, qv, hk, hi, Q, A, r0, r1, r7, r9, r10, r11, rfl, rfl⟩
 unfold sf40L0
 by_cases c : k = 0
 ·have e1 : ¬ ((w : Int) < n) := by omega
  obtain rfl : w = n := by omega
  repeat (first | apply Z1 | apply Z2 | apply Z3 | apply Z4 | apply Z5 rfl | apply Z6 | apply Z7 | apply Z8 | apply Z9 | apply ZA | apply ZB | apply ZC | ((first | apply ZD (by decide) | apply ZN (by decide)); (simp (maxSteps := 9999999) only [go_sem, r0, r11, e1]; rfl)) | (refine ZE ?_ ?_; · simp only [go_sem]) | (refine ZF ?_ ?_; · simp only [go_sem]))
  exact end_nil ⟨rfl, rfl, rfl, f, q, qv, hi, Q, A, by simp only [go_sem, r0], by simp only [go_sem, r1], by simp only [go_sem, r7], by simp only [go_sem, r9], by simp only [go_sem, r10]⟩
 ·have e1 : ((w : Int) < n) := by omega
  have e2 : (0 : Int) ≤ w := by omega
  have hw : w < n := by omega
  have ew : IntKind.i64.wrap ((w : Int) + 1) = ((w + 1 : Nat) : Int) := by rw [wrap64 (by omega) (by omega)]; rfl
  obtain ⟨hle, hb, fr⟩ := A.base
  have cellF : ∀ v, v < n → loadS h' none (.pointer (some ⟨H.length, v, none⟩)) = some (.int .i64 (f v)) := fun v hv => by
   have := load_cell (h := h') (o := v) hb rfl (iV_get f hv) []
   rw [List.append_nil] at this; exact this
  have l1 := cellF w hw
  obtain ⟨bq, cq, rfl, l2⟩ := A.ldQ hi
  obtain ⟨hu, hum⟩ := Q.at' hi
  have hu0 := Q.q1 _ hum
  have qlt := Q.lt
  rw [← hu] at hu0
  have l3 := cellF _ hu0.1
  have i1 : (0 : Int) ≤ i := by omega
  have i2 : (i : Int) < q.length := by omega
  by_cases c1 : f w < 0
  ·have cj := joined66 (hv.fr fr) hlen (q.getD i 0) w
   by_cases c2 : adjE E (q.getD i 0) w = true
   ·have Q2 := Q.push hi hw c1 c2
    have wu : IntKind.i64.wrap (f (q.getD i 0) + 1) = f (q.getD i 0) + 1 := wrap64 (by omega) (by omega)
    have u1 : (0 : Int) ≤ ((q.getD i 0 : Nat) : Int) := by omega
    have u2 : ((q.getD i 0 : Nat) : Int) < n := by omega
    have A1 := (A.own (o' := .cells (iV n (up f w (f (q.getD i 0) + 1))) 3 true 0 []))
    have s1 : ∀ base d, storeS base h' d H.length w (cellsL (.int .i64 (f (q.getD i 0) + 1))) = some (h'.set H.length (.cells (iV n (up f w (f (q.getD i 0) + 1))) 3 true 0 []), d) := fun base d => by
     rw [← iV_set f hw]
     exact store_cell hb (by rw [iV_len]; exact hw) rfl (fun _ => rfl) d
    rw [c2] at cj
    have hlq : (q ++ [w]).length = q.length + 1 := by simp
    generalize q.getD i 0 = u at *
    generalize hf2 : up f w (f u + 1) = f2 at *
    generalize h'.set H.length (.cells (iV n f2) 3 true 0 []) = h1 at *
    have A2 := A1.app [.cells [nI w] 3 true 0 []]
    obtain ⟨H2, v2, ap, ⟨b2, hv2⟩, A3⟩ := A2.push (bs := h1.length) (bytes := 8) (new := [nI w]) (el2 := 3) (pf2 := true) (own2 := 0) (old2 := []) (by simp) rfl rfl (by decide) rfl (by decide) (by omega)
    repeat (first | apply Z1 | apply Z2 | apply Z3 | apply Z4 | apply Z5 rfl | apply Z6 | apply Z7 | apply Z8 | apply Z9 | apply ZA | apply ZB | apply ZC | ((first | apply ZD (by decide) | apply ZN (by decide)); (simp (maxSteps := 9999999) only [go_sem, r0, r1, r7, r9, r10, r11, e1, e2, i1, i2, u1, u2, l1, l2, l3, c1, cj, wu, ↓s1, ap, ew, Int.toNat_natCast]; rfl)) | (refine ZE ?_ ?_; · simp only [go_sem]) | (refine ZF ?_ ?_; · simp only [go_sem]))
    refine end_nil ⟨k - 1, by omega, w + 1, f2, q ++ [w], v2, by omega, by omega, Q2, ?_, by simp only [go_sem, r0], by simp only [go_sem, r1], by simp only [go_sem, r7], by simp only [go_sem], by simp only [go_sem, r10], by simp only [go_sem, ew], rfl, rfl⟩
    rw [List.map_append, hlq]; exact .inl A3
   ·have Q2 := Q.skip hi hw (fun h => c2 h.2)
    rw [Bool.not_eq_true] at c2
    rw [c2] at cj
    repeat (first | apply Z1 | apply Z2 | apply Z3 | apply Z4 | apply Z5 rfl | apply Z6 | apply Z7 | apply Z8 | apply Z9 | apply ZA | apply ZB | apply ZC | ((first | apply ZD (by decide) | apply ZN (by decide)); (simp (maxSteps := 9999999) only [go_sem, r0, r1, r7, r9, r10, r11, e1, e2, i1, i2, l1, l2, c1, cj, ew, Int.toNat_natCast]; rfl)) | (refine ZE ?_ ?_; · simp only [go_sem]) | (refine ZF ?_ ?_; · simp only [go_sem]))
    exact end_nil ⟨k - 1, by omega, w + 1, f, q, _, by omega, hi, Q2, A, by simp only [go_sem, r0], by simp only [go_sem, r1], by simp only [go_sem, r7], by simp only [go_sem, r9], by simp only [go_sem, r10], by simp only [go_sem, ew], rfl, rfl⟩
  ·have Q2 := Q.skip hi hw (fun h => c1 h.1)
   repeat (first | apply Z1 | apply Z2 | apply Z3 | apply Z4 | apply Z5 rfl | apply Z6 | apply Z7 | apply Z8 | apply Z9 | apply ZA | apply ZB | apply ZC | ((first | apply ZD (by decide) | apply ZN (by decide)); (simp (maxSteps := 9999999) only [go_sem, r0, r1, r7, r9, r10, r11, e1, e2, i1, i2, l1, c1, ew, Int.toNat_natCast]; rfl)) | (refine ZE ?_ ?_; · simp only [go_sem]) | (refine ZF ?_ ?_; · simp only [go_sem]))
   exact end_nil ⟨k - 1, by omega, w + 1, f, q, _, by omega, hi, Q2, A, by simp only [go_sem, r0], by simp only [go_sem, r1], by simp only [go_sem, r7], by simp only [go_sem, r9], by simp only [go_sem, r10], by simp only [go_sem, ew], rfl, rfl⟩
theorem queue_loop (cx : Cx) {H : SHeap} {n : Nat} (hn : n ≤ 6) {ev : Value} {E : List (Int × Int)} (hv : PS H ev E) (hlen : E.length ≤ 1000000) {s : Nat} :
  ∀ k ρ ms h' d', (∃ (i : Nat) (f : Nat → Int) (q : List Nat) (qv : Value), i + k = n ∧ QI n (adjE E) s f q i 0 ∧ AccL (H ++ [.cells (iV n f) 3 true 0 []]) h' qv (q.map nI) q.length 1 3 ∧
   ρ 0 = .int .i64 n ∧ ρ 1 = ev ∧ ρ 7 = .slice (some ⟨H.length, 0, none⟩) n n ∧ ρ 9 = qv ∧ ρ 10 = .int .i64 i ∧ ms = [] ∧ d' = []) →
  LoopW M cx 7 sf40L1 ρ ms h' d' (fun ex ρ' ms' h' d' => ex = .exit 2 ∧ ms' = [] ∧ d' = [] ∧ ∃ (f : Nat → Int), IsD n (adjE E) s f ∧ (∀ v, v < n → f v < 0 → f v = -1) ∧ h'[H.length]? = some (.cells (iV n f) 3 true 0 []) ∧ H.length + 1 ≤ h'.length ∧ (∀ j, j < H.length → h'[j]? = H[j]?) ∧ ρ' 7 = .slice (some ⟨H.length, 0, none⟩) n n) := by
 refine loop_run _ ?_
 rintro k ρ ms h' d' ⟨i, f, q, qv, hk, Q, A, r0, r1, r7, r9, r10, rfl, rfl⟩
 unfold sf40L1
 have qlt := Q.lt
 have ile := Q.ile
 obtain ⟨qa, qc, rfl⟩ := A.shape
 by_cases c : i < q.length
 ·have e1 : (i : Int) < (q.length : Int) := by omega
  have ew : IntKind.i64.wrap ((i : Int) + 1) = ((i + 1 : Nat) : Int) := by rw [wrap64 (by omega) (by omega)]; rfl
  repeat (first | apply Z1 | apply Z2 | apply Z3 | apply Z4 | apply Z5 rfl | apply Z6 | apply Z7 | apply Z8 | apply Z9 | apply ZA | apply ZB | apply ZC | ((first | apply ZD (by decide) | apply ZN (by decide)); (simp (maxSteps := 9999999) only [go_sem, r0, r1, r7, r9, r10, e1]; rfl)) | (refine ZE ?_ ?_; · simp only [go_sem]) | (refine ZF ?_ ?_; · simp only [go_sem]))
  refine run_loop (look_loop cx hn hv hlen (s := s) (i := i) n _ _ _ _ ⟨0, f, q, _, by omega, c, Q, A, by simp only [go_sem, r0], by simp only [go_sem, r1], by simp only [go_sem, r7], by simp only [go_sem, r9], by simp only [go_sem, r10], by simp only [go_sem], rfl, rfl⟩) ?_
  rintro ex ρ2 ms2 h2 d2 ⟨rfl, rfl, rfl, f2, q2, qv2, hi2, Q2, A2, t0, t1, t7, t9, t10⟩
  repeat (first | apply Z1 | apply Z2 | apply Z3 | apply Z4 | apply Z5 rfl | apply Z6 | apply Z7 | apply Z8 | apply Z9 | apply ZA | apply ZB | apply ZC | ((first | apply ZD (by decide) | apply ZN (by decide)); (simp (maxSteps := 9999999) only [go_sem, t0, t1, t7, t9, t10, ew]; rfl)) | (refine ZE ?_ ?_; · simp only [go_sem]) | (refine ZF ?_ ?_; · simp only [go_sem]))
  exact end_nil ⟨k - 1, by omega, i + 1, f2, q2, qv2, by omega, Q2.next hi2, A2, by simp only [go_sem, t0], by simp only [go_sem, t1], by simp only [go_sem, t7], by simp only [go_sem, t9], by simp only [go_sem, ew], rfl, rfl⟩
 ·have e1 : ¬ (i : Int) < (q.length : Int) := by omega
  repeat (first | apply Z1 | apply Z2 | apply Z3 | apply Z4 | apply Z5 rfl | apply Z6 | apply Z7 | apply Z8 | apply Z9 | apply ZA | apply ZB | apply ZC | ((first | apply ZD (by decide) | apply ZN (by decide)); (simp (maxSteps := 9999999) only [go_sem, r9, r10, e1]; rfl)) | (refine ZE ?_ ?_; · simp only [go_sem]) | (refine ZF ?_ ?_; · simp only [go_sem]))
  obtain ⟨hle, hb, fr⟩ := A.base
  exact end_nil ⟨rfl, rfl, rfl, f, Q.fin (by omega), Q.neg, hb, hle, fr, by simp only [go_sem, r7]⟩
open Classical in
noncomputable def farI (n : Nat) (E : List (Int × Int)) (s v : Nat) : Int := if ∃ F, IsD n (adjE E) s F ∧ 0 ≤ F v then (farE n E s v : Int) else -1
theorem farI_eq {n : Nat} {E : List (Int × Int)} {s v : Nat} {f : Nat → Int} (h : IsD n (adjE E) s f) (hn : ∀ v, v < n → f v < 0 → f v = -1) (hs : s < n) (hv : v < n) : f v = farI n E s v := by
 unfold farI
 by_cases c : 0 ≤ f v
 ·rw [if_pos ⟨f, h, c⟩, farE_eq h hs hv c]
 ·rw [if_neg (fun ⟨F, k1, k2⟩ => c ((k1.uniq h hv).1.1 k2))]
  exact hn v hv (by omega)
theorem far40 {H : SHeap} {n : Nat} (hn : n ≤ 6) {ev : Value} {E : List (Int × Int)} (hv : PS H ev E) (hlen : E.length ≤ 1000000) {s : Nat} (hs : s < n) :
  M.call 40 [.int .i64 n, ev, .int .i64 s] H = some (.slice (some ⟨H.length, 0, none⟩) n n, H ++ [.cells (iV n (farI n E s)) 3 true 0 []], []) := by
 refine call_run sf40 rfl rfl rfl ?_
 obtain ⟨va, vc, rfl, _⟩ := id hv
 unfold sf40
 have e1 : (0 : Int) ≤ n := by omega
 have e2 : (n : Int) ≤ 1073741824 := by omega
 have e3 : n * 8 ≤ 140737488355328 := by omega
 have e4 : (0 : Int) ≤ s := by omega
 have e5 : (s : Int) < n := by omega
 have z0 : repeatL [Value.int .i64 0] n = iV n (fun _ => 0) := by
  unfold iV
  have : ∀ n, repeatL [Value.int .i64 0] n = List.replicate n (.int .i64 0) := fun n => by
   induction n with
   | zero => rfl
   | succ n ih => show [Value.int .i64 0] ++ repeatL _ n = _; rw [ih]; rfl
  rw [this]
  apply List.ext_getElem?
  intro i
  by_cases c : i < n <;> simp [c]
 repeat (first | apply Z1 | apply Z2 | apply Z3 | apply Z4 | apply Z5 rfl | apply Z6 | apply Z7 | apply Z8 | apply Z9 | apply ZA | apply ZB | apply ZC | ((first | apply ZD (by decide) | apply ZN (by decide)); (simp (maxSteps := 9999999) only [go_sem, argR, e1, e2, e3, Int.toNat_natCast, z0, iV_sc]; rfl)) | (refine ZE ?_ ?_; · simp only [go_sem]) | (refine ZF ?_ ?_; · simp only [go_sem]))
 refine run_loop (fill_loop _ hn (H := H) (a1 := .slice va E.length vc) (a2 := .int .i64 s) n _ _ _ _ ⟨0, _, by omega, fun v hv => by omega, rfl, by simp only [go_sem, argR], by simp only [go_sem, argR], by simp only [go_sem, argR], by simp only [go_sem], by simp only [go_sem], rfl, rfl⟩) ?_
 rintro ex ρ2 ms2 h2 d2 ⟨rfl, rfl, rfl, rfl, r0, r1, r2, r7⟩
 have s1 : ∀ base d, storeS base (H ++ [.cells (iV n (fun _ => -1)) 3 true 0 []]) d H.length s (cellsL (.int .i64 0)) = some (H ++ [.cells (iV n (up (fun _ => -1) s 0)) 3 true 0 []], d) := fun base d => by
  rw [← iV_set _ hs]
  exact store_end (by rw [iV_len]; omega) rfl rfl base d
 repeat (first | apply Z1 | apply Z2 | apply Z3 | apply Z4 | apply Z5 rfl | apply Z6 | apply Z7 | apply Z8 | apply Z9 | apply ZA | apply ZB | apply ZC | ((first | apply ZD (by decide) | apply ZN (by decide)); (simp (maxSteps := 9999999) only [go_sem, r0, r1, r2, r7, ↓s1, e4, e5, Int.toNat_natCast]; rfl)) | (refine ZE ?_ ?_; · simp only [go_sem]) | (refine ZF ?_ ?_; · simp only [go_sem]))
 have A0 : AccL (H ++ [.cells (iV n (up (fun _ => -1) s 0)) 3 true 0 []]) (H ++ [.cells (iV n (up (fun _ => -1) s 0)) 3 true 0 [], .cells [.int .i64 s] 3 true 0 []]) (.slice (some ⟨H.length + 1, 0, none⟩) 1 1) ([s].map nI) [s].length 1 3 := by
  have := AccL.lit (H0 := H ++ [SO.cells (iV n (up (fun _ => -1) s 0)) 3 true 0 []]) (b := 0) (cs := [s].map nI) (n := 1) (s := 1) (el := 3) rfl (by decide) (by decide) rfl rfl
  rw [List.append_assoc, List.length_append, List.length_singleton] at this
  exact this
 refine run_loop (queue_loop _ hn hv hlen (s := s) n _ _ _ _ ⟨0, _, [s], _, by omega, QI.start hs, A0, by simp only [go_sem, r0], by simp only [go_sem, r1], by simp only [go_sem, r7], by simp only [go_sem], by simp only [go_sem], rfl, rfl⟩) ?_
 rintro ex ρ3 ms3 h3 d3 ⟨rfl, rfl, rfl, f, hD, hneg, hb, hle, fr, t7⟩
 repeat (first | apply Z1 | apply Z2 | apply Z3 | apply Z4 | apply Z5 rfl | apply Z6 | apply Z7 | apply Z8 | apply Z9 | apply ZA | apply ZB | apply ZC | ((first | apply ZD (by decide) | apply ZN (by decide)); (simp (maxSteps := 9999999) only [go_sem, t7]; rfl)) | (refine ZE ?_ ?_; · simp only [go_sem]) | (refine ZF ?_ ?_; · simp only [go_sem]))
 rw [iV_congr (fun v hv => (farI_eq hD hneg hs hv).symm)]
 exact end_nil (q_own1 (old := []) (own := 0) (by simp only [go_sem, t7]) (take_of_same (by omega) fr) hb rfl (Nat.le_refl _))
end
end Go.Proofs.YtpkhkghiidilcaaDoor.Sh
namespace Go.Proofs.YtpkhkghiidilcaaDoor.Sh
section
open Go
set_option maxRecDepth 100000
set_option maxHeartbeats 4000000
inductive Wk (n : Nat) (adj : Nat → Nat → Bool) (s : Nat) : Nat → Nat → Prop
 | nil : Wk n adj s 0 s
 | step {k u v : Nat} : Wk n adj s k u → u < n → adj u v = true → Wk n adj s (k + 1) v
theorem least {P : Nat → Prop} : ∀ k, P k → ∃ m, P m ∧ ∀ j, j < m → ¬ P j := by
 intro k
 induction k using Nat.strongRecOn with
 | _ k ih =>
  intro h
  by_cases c : ∃ j, j < k ∧ P j
  ·obtain ⟨j, h1, h2⟩ := c; exact ih j h1 h2
  ·exact ⟨k, h, fun j hj hp => c ⟨j, hj, hp⟩⟩
open Classical in
theorem IsD.ex (n : Nat) (adj : Nat → Nat → Bool) (s : Nat) : ∃ F, IsD n adj s F := by
 have L : ∀ v, (∃ k, Wk n adj s k v) → ∃ m, Wk n adj s m v ∧ ∀ j, j < m → ¬ Wk n adj s j v := fun v ⟨k, h⟩ => least k h
 let F : Nat → Int := fun v => if h : ∃ k, Wk n adj s k v then ((Classical.choose (L v h) : Nat) : Int) else -1
 have hF : ∀ v k, Wk n adj s k v → ∃ m : Nat, F v = m ∧ Wk n adj s m v ∧ m ≤ k := fun v k h => by
  have hx : ∃ k, Wk n adj s k v := ⟨k, h⟩
  refine ⟨Classical.choose (L v hx), ?_, (Classical.choose_spec (L v hx)).1, ?_⟩
  ·show (if h : ∃ k, Wk n adj s k v then ((Classical.choose (L v h) : Nat) : Int) else -1) = _
   rw [dif_pos hx]
  ·apply Nat.le_of_not_lt
   intro hlt
   exact (Classical.choose_spec (L v hx)).2 k hlt h
 have hN : ∀ v, 0 ≤ F v → ∃ m : Nat, F v = m ∧ Wk n adj s m v := fun v h => by
  by_cases hx : ∃ k, Wk n adj s k v
  ·obtain ⟨k, hk⟩ := hx
   obtain ⟨m, h1, h2, _⟩ := hF v k hk
   exact ⟨m, h1, h2⟩
  ·have : F v = -1 := by
    show (if h : ∃ k, Wk n adj s k v then ((Classical.choose (L v h) : Nat) : Int) else -1) = _
    rw [dif_neg hx]
   omega
 refine ⟨F, ?_, fun v hv h1 h2 => ?_, fun u v hu hv h1 h2 => ?_⟩
 ·obtain ⟨m, h1, _, h3⟩ := hF s 0 .nil
  omega
 ·obtain ⟨m, k1, k2⟩ := hN v h1
  cases k2 with
  | nil => exact (h2 rfl).elim
  | step w hu ha =>
   rename_i k u
   obtain ⟨m2, j1, j2, j3⟩ := hF u k w
   obtain ⟨m3, i1, _, i3⟩ := hF v (m2 + 1) (.step j2 hu ha)
   exact ⟨u, hu, ha, by omega, by omega⟩
 ·obtain ⟨m, k1, k2⟩ := hN u h1
  obtain ⟨m3, i1, _, i3⟩ := hF v (m + 1) (.step k2 hu h2)
  omega
theorem farI_spec {n : Nat} {E : List (Int × Int)} {s : Nat} (hs : s < n) : ∃ F, IsD n (adjE E) s F ∧ ∀ v, v < n → (0 ≤ F v → farI n E s v = F v) ∧ (F v < 0 → farI n E s v = -1) := by
 obtain ⟨F, hF⟩ := IsD.ex n (adjE E) s
 refine ⟨F, hF, fun v hv => ⟨fun h => ?_, fun h => ?_⟩⟩
 ·unfold farI
  rw [if_pos ⟨F, hF, h⟩]
  exact farE_eq hF hs hv h
 ·unfold farI
  rw [if_neg (fun ⟨F', k1, k2⟩ => by have := (hF.uniq k1 hv).1.2 k2; omega)]
theorem conn_iff {n : Nat} {E : List (Int × Int)} (hn : 1 ≤ n) : Conn n E ↔ ∀ v, v < n → 0 ≤ farI n E 0 v := by
 obtain ⟨F0, h0, k0⟩ := farI_spec (n := n) (E := E) (s := 0) (by omega)
 constructor
 ·intro hc v hv
  obtain ⟨F, h1, h2⟩ := hc 0 (by omega)
  have := (h0.uniq h1 hv).1.2 (h2 v hv)
  rw [(k0 v hv).1 this]; exact this
 ·intro h s hs
  obtain ⟨F, hF⟩ := IsD.ex n (adjE E) s
  refine ⟨F, hF, h0.all (adjE_symm E) (by omega) hs hF (fun v hv => ?_)⟩
  apply Classical.byContradiction
  intro hneg
  have := (k0 v hv).2 (by omega)
  have := h v hv
  omega
theorem farI_conn {n : Nat} {E : List (Int × Int)} (hc : Conn n E) {s v : Nat} (hs : s < n) (hv : v < n) : farI n E s v = farE n E s v := by
 obtain ⟨F, h1, h2⟩ := hc s hs
 unfold farI
 rw [if_pos ⟨F, h1, h2 v hv⟩]
open Classical in
noncomputable def errG (n : Int) (E : List (Int × Int)) : Int := if n < 1 ∨ 6 < n then 1 else if EOK n.toNat E ∧ Conn n.toNat E then 0 else 80
end
end Go.Proofs.YtpkhkghiidilcaaDoor.Sh
namespace Go.Proofs.YtpkhkghiidilcaaDoor.Sh
section
open Go
set_option maxRecDepth 100000
set_option maxHeartbeats 4000000
theorem errG_ok {n : Int} {E : List (Int × Int)} (he : errG n E = 0) : ∃ m : Nat, n = m ∧ 1 ≤ m ∧ m ≤ 6 ∧ EOK m E ∧ Conn m E := by
 unfold errG at he
 by_cases c : n < 1 ∨ 6 < n
 ·rw [if_pos c] at he; omega
 ·rw [if_neg c] at he
  by_cases c2 : EOK n.toNat E ∧ Conn n.toNat E
  ·exact ⟨n.toNat, by omega, by omega, by omega, c2.1, c2.2⟩
  ·rw [if_neg c2] at he; omega
theorem errG_of {n : Nat} {E : List (Int × Int)} (h1 : 1 ≤ n) (h2 : n ≤ 6) (h3 : EOK n E) (h4 : Conn n E) : errG n E = 0 := by
 rw [errG, if_neg (by omega), Int.toNat_natCast, if_pos ⟨h3, h4⟩]
theorem open68_ok {H : SHeap} {n : Nat} {v : Value} {E : List (Int × Int)} (hv : PS H v E) (hlen : E.length ≤ 1000000) (he : errG n E = 0) : M.call 68 [.int .i64 n, v] H = some (.tuple #[.pointer (some ⟨H.length, 0, none⟩), .int .i64 0], H ++ [gE n E], []) := by
 obtain ⟨m, e, h1, h2, h3, h4⟩ := errG_ok he
 obtain rfl : n = m := by omega
 rw [open68 h1 h2 hv (by omega), if_pos ⟨h3, h4⟩]
theorem rdN_at {h : SHeap} {b o n : Nat} {cs : List Value} {el : TypeId} {pf : Bool} {own : Nat} {old : List Nat} (hb : h[b]? = some (.cells cs el pf own old)) (hr : readable own = true) (hl : o + n ≤ cs.length) : rdN h b o n = some ((cs.drop o).take n) := by
 rw [rdN_def, hb]
 dsimp only
 rw [hr, ble_dec, decide_eq_true hl]; rfl
theorem sliceArr_hi {b o m n size : Nat} (h : n ≤ m) (hm : m < UNK) (h0 : m ≠ 0) : sliceArrS m size (.pointer (some ⟨b, o, none⟩)) none (some (.int .i64 (n : Int))) none = some (.slice (some ⟨b, o, none⟩) n m) := by
 have e1 : Nat.ble n m = true := by rw [ble_dec]; simpa using h
 have e2 : Nat.blt m UNK = true := by rw [blt_dec]; simpa using hm
 unfold sliceArrS
 simp [bMx, bHi, bLo, bnd, e1, e2, h0, h]
end
end Go.Proofs.YtpkhkghiidilcaaDoor.Sh
namespace Go.Proofs.YtpkhkghiidilcaaDoor.Sh
section
open Go
set_option maxRecDepth 100000
set_option maxHeartbeats 4000000
theorem E_copy (R : Rec) (cx : Cx) (e : Evl) (sl : Option Nat) (size : Nat) (x y : Operand) (h : SHeap) (d : List Nat) : opE R cx e sl (.copy size x y) h d = match e x, e y with
  | some a, some b => copyS cx.base h d size a b
  | _, _ => none := (rfl)
attribute [go_sem ↓] E_copy
theorem sliceArr_6 (b o : Nat) : sliceArrS 6 1 (.pointer (some ⟨b, o, none⟩)) none none none = some (.slice (some ⟨b, o, none⟩) 6 6) := (rfl)
def stV (s : Nat → Int) : Value := .agg (iV 6 s).toArray
theorem stV_def (s : Nat → Int) : stV s = .agg #[.int .i64 (s 0), .int .i64 (s 1), .int .i64 (s 2), .int .i64 (s 3), .int .i64 (s 4), .int .i64 (s 5)] := rfl
theorem iV6 (s : Nat → Int) : iV 6 s = [.int .i64 (s 0), .int .i64 (s 1), .int .i64 (s 2), .int .i64 (s 3), .int .i64 (s 4), .int .i64 (s 5)] := rfl
def stk (l : List Int) (v : Nat) : Int := l.getD v 0
theorem stk_at {l : List Int} {v : Nat} (h : v < l.length) : stk l v = l[v] := by unfold stk; rw [List.getD_eq_getElem?_getD, List.getElem?_eq_getElem h]; rfl
theorem stk_out {l : List Int} {v : Nat} (h : l.length ≤ v) : stk l v = 0 := by unfold stk; rw [List.getD_eq_getElem?_getD, List.getElem?_eq_none h]; rfl
theorem IL.rdN {h : SHeap} {b o : Nat} {l : List Int} (k : IL h b o l) (hne : l ≠ []) : rdN h b o (l.length * 1) = some (l.map mkI) := by
 have l0 := k 0 (List.length_pos_iff.2 hne)
 have hr : ∀ {o x}, loadS h none (.pointer (some ⟨b, o, none⟩)) = some x → ∃ cs el pf own old, h[b]? = some (.cells cs el pf own old) ∧ readable own = true ∧ cs[o]? = some x := fun {o x} e => by
  rw [load_rdO] at e
  cases hb : h[b]? with
  | none => rw [hb] at e; cases e
  | some so =>
   rw [hb] at e
   cases so with
   | cells cs el pf own old =>
    rw [rdO_cells] at e
    by_cases c : readable own = true
    ·rw [if_pos c] at e; exact ⟨cs, el, pf, own, old, rfl, c, e⟩
    ·rw [if_neg c] at e; cases e
   | _ => cases e
 obtain ⟨cs, el, pf, own, old, hb, hro, _⟩ := hr l0
 have cell : ∀ i (hi : i < l.length), cs[o + i]? = some (.int .i64 l[i]) := fun i hi => by
  obtain ⟨cs', el', pf', own', old', hb', _, hc⟩ := hr (k i hi)
  rw [hb] at hb'; cases hb'; exact hc
 have hlen : o + l.length ≤ cs.length := by
  have hp : 0 < l.length := List.length_pos_iff.2 hne
  have := (List.getElem?_eq_some_iff.1 (cell (l.length - 1) (by omega))).1
  omega
 rw [Nat.mul_one, rdN_at hb hro hlen]
 congr 1
 apply List.ext_getElem?
 intro i
 by_cases c : i < l.length
 ·rw [List.getElem?_take_of_lt c, List.getElem?_drop, cell i c, List.getElem?_map, List.getElem?_eq_getElem c]; rfl
 ·rw [List.getElem?_eq_none (by rw [List.length_take]; omega), List.getElem?_eq_none (by rw [List.length_map]; omega)]
theorem write_take : ∀ (vs cs pre : List Value), vs.length ≤ cs.length → writeAt (pre ++ cs) pre.length vs = pre ++ (vs ++ cs.drop vs.length)
 | [], cs, pre, _ => by simp [writeAt]
 | v :: vs, [], pre, h => by simp at h
 | v :: vs, c :: cs, pre, h => by
  show writeAt ((pre ++ c :: cs).set pre.length v) (pre.length + 1) vs = _
  have e : (pre ++ c :: cs).set pre.length v = (pre ++ [v]) ++ cs := by simp
  have := write_take vs cs (pre ++ [v]) (by simpa using h)
  rw [List.length_append, List.length_singleton] at this
  rw [e, this]; simp
theorem copy_stk {l : List Int} (h : l.length ≤ 6) : writeAt (iV 6 (fun _ => 0)) 0 (l.map mkI) = iV 6 (stk l) := by
 have := write_take (l.map mkI) (iV 6 (fun _ => 0)) [] (by rw [List.length_map, iV_len]; exact h)
 rw [List.nil_append, List.length_nil, List.nil_append] at this
 rw [this]
 apply List.ext_getElem?
 intro i
 by_cases c : i < 6
 ·rw [iV_get _ c]
  by_cases c2 : i < l.length
  ·rw [List.getElem?_append_left (by rw [List.length_map]; exact c2), List.getElem?_map, List.getElem?_eq_getElem c2, stk_at c2]; rfl
  ·rw [List.getElem?_append_right (by rw [List.length_map]; omega), List.length_map, List.getElem?_drop, iV_get _ (by omega), stk_out (by omega)]
 ·rw [List.getElem?_eq_none (by simp [iV_len]; omega), List.getElem?_eq_none (by rw [iV_len]; omega)]
section
variable {H h : SHeap} {b o : Nat} {cs : List Value} {el : TypeId} {own : Nat} {old : List Nat}
theorem gc_ptr3 {w w2 : Value} (hw : flat 1 w = true) (hw2 : flat 1 w2 = true) (ht : h.take H.length = H) (hb : h[b]? = some (.cells cs el true own old)) (h2 : (own == 2) = false) (hle : H.length ≤ b) :
  gcS H.length (.tuple #[.pointer (some ⟨b, o, none⟩), w, w2]) h = some (.tuple #[.pointer (some ⟨H.length, o, none⟩), w, w2], H ++ [.cells cs el true own (old.filterMap (ren H.length [b]))]) := by
 have eb : Nat.ble H.length b = true := by rw [ble_dec]; simpa using hle
 have e1 : reach H.length h 1000000 [b] [] = [b] := by
  rw [show (1000000 : Nat) = 999998 + 1 + 1 from rfl, reach]
  simp only [eb, List.contains_nil, Bool.not_true, Bool.or_self, Bool.false_eq_true, if_false, hb, ptrsO, Bool.true_or, if_true, List.nil_append]
  rw [reach]
 have e2 : ren H.length [b] b = some H.length := by simp [ren, eb, posOf]
 have hp : ∀ {w}, flat 1 w = true → ptrs 2 w = [] ∧ ∀ K, renV H.length K 2 w = some w := fun {w} hw => ⟨ptrs_flat 2 w (flat_up _ _ hw), fun K => renV_flat 2 w (flat_up _ _ hw)⟩
 have e4 : ptrs 3 (.tuple #[.pointer (some ⟨b, o, none⟩), w, w2]) = [b] := by
  show ptrs 2 (.pointer (some ⟨b, o, none⟩)) ++ (ptrs 2 w ++ (ptrs 2 w2 ++ [])) = [b]
  rw [(hp hw).1, (hp hw2).1]; rfl
 have e3 := (hp hw).2 [b]
 have e5 := (hp hw2).2 [b]
 unfold gcS
 simp only [e4, e1, renV, e2, e3, e5, mapO, renO, hb, h2, Bool.false_eq_true, if_false, if_true, ht]
end
theorem q_gc {rs : List SRes} {base : Nat} {ρ : Reg} {h h' : SHeap} {v : Value} {ex : Ex} (l : List Value) (he : resE ρ h rs = some l) (ho : l.all opnB = true) (hg : gcS base (oneV l) h = some (v, h')) (hx : isEnd ex = true) : callQ rs base (v, h', []) ex ρ [] h [] :=
 ⟨hx, resE_ok (K := fun l' => endW base h [] (v, h', []) l') he ho ⟨_, _, hg, rfl⟩⟩
section
variable {H : SHeap} {v sv : Value} {E : List (Int × Int)} {l : List Int}
theorem copy_at (hs : IS H sv l) (hl0 : l ≠ []) (hl : l.length ≤ 6) (n : Nat) (base : Nat) (d : List Nat) : copyS base (H ++ [.cells (iV 6 (fun _ => 0)) 87 true 0 [], gE n E, .cells (iV 6 (fun _ => 0)) 87 true 0 []]) d 1 (.slice (some ⟨H.length + 2, 0, none⟩) 6 6) sv = some (.int .i64 l.length, H ++ [.cells (iV 6 (fun _ => 0)) 87 true 0 [], gE n E, .cells (iV 6 (stk l)) 87 true 0 []], d) := by
 obtain ⟨a, c, rfl, k⟩ := hs
 obtain ⟨b, o, rfl, hb, hi⟩ := k hl0
 have hi2 : IL (H ++ [.cells (iV 6 (fun _ => 0)) 87 true 0 [], gE n E, .cells (iV 6 (fun _ => 0)) 87 true 0 []]) b o l := hi.fr (List.getElem?_append_left hb)
 have hr := hi2.rdN hl0
 have hn0 : (l.length == 0) = false := beq_eq_false_iff_ne.2 (by intro e; exact hl0 (List.length_eq_zero_iff.1 e))
 have hmin : Nat.min l.length 6 = l.length := Nat.min_eq_left hl
 have hall : (l.map mkI).all sc = true := by
  rw [List.all_eq_true]
  intro x hx
  obtain ⟨i, _, rfl⟩ := List.mem_map.1 hx
  rfl
 have hst : storeS base (H ++ [.cells (iV 6 (fun _ => 0)) 87 true 0 [], gE n E, .cells (iV 6 (fun _ => 0)) 87 true 0 []]) d (H.length + 2) 0 (l.map mkI) = some (H ++ [.cells (iV 6 (fun _ => 0)) 87 true 0 [], gE n E, .cells (iV 6 (stk l)) 87 true 0 []], d) := by
  rw [store_def, List.getElem?_append_right (by omega), show H.length + 2 - H.length = 2 by omega]
  show (if (0 == 0) && Nat.ble (0 + (l.map mkI).length) (iV 6 (fun _ => 0)).length && (l.map mkI).all oneC && (!true || (l.map mkI).all sc) && Nat.blt 0 (l.map mkI).length then _ else _) = _
  have e2 : Nat.ble (0 + (l.map mkI).length) (iV 6 (fun _ => 0)).length = true := by rw [ble_dec, iV_len, List.length_map]; simpa using hl
  have e3 : Nat.blt 0 (l.map mkI).length = true := by rw [blt_dec, List.length_map]; simpa using List.length_pos_iff.2 hl0
  rw [e2, e3, hall, all_sc_one _ hall, copy_stk hl]
  rw [kill_nil, List.set_append_right _ _ (by omega), show H.length + 2 - H.length = 2 by omega]
  rfl
 unfold copyS
 simp only [lenS, seenS, hmin, hn0, hr, hst, Bool.false_eq_true, if_false]
theorem openAt_ok {n : Nat} (hv : PS H v E) (hlen : E.length ≤ 1000000) (he : errG n E = 0) (hs : IS H sv l) (hsl : l.length ≤ 1000000) (hl : SupOK n l) {place : Nat} (hp : place < n) : M.call 53 [.int .i64 n, v, sv, .int .i64 place] H = some (.tuple #[.pointer (some ⟨H.length, 0, none⟩), stV (stk l), .int .i64 0], H ++ [gE n E], []) := by
 refine call_run sf53 rfl rfl rfl ?_
 have o := open68_ok (hv.app [.cells (iV 6 (fun _ => 0)) 87 true 0 []]) hlen he
 have k := check51 (n := n) (hs.app [.cells (iV 6 (fun _ => 0)) 87 true 0 [], gE n E, .cells (iV 6 (fun _ => 0)) 87 true 0 []]) hsl
 obtain ⟨m, e, h1, h2, h3, h4⟩ := errG_ok he
 have hl1 := hl.1
 have cp := copy_at (E := E) hs (by intro e; rw [e] at hl1; simp at hl1; omega) (by omega) n
 rw [if_neg (by omega), if_pos hl] at k
 rw [iV6 (fun _ => 0)] at o k cp
 rw [iV6 (stk l)] at cp
 rw [List.append_assoc, List.length_append, List.length_singleton] at o
 obtain ⟨va, vc, rfl, _⟩ := id hv
 obtain ⟨sa, sc, rfl, _⟩ := id hs
 have c1 : ¬ (place : Int) < 0 := by omega
 have c2 : ¬ (n : Int) ≤ place := by omega
 unfold sf53
 repeat (first | apply Z1 | apply Z2 | apply Z3 | apply Z4 | apply Z5 rfl | apply Z6 | apply Z7 | apply Z8 | apply Z9 | apply ZA | apply ZB | apply ZC | ((first | apply ZD (by decide) | apply ZN (by decide)); (simp (maxSteps := 9999999) only [go_sem, argR, o, k, ↓sliceArr_6, cp, c1, c2]; rfl)) | (refine ZE ?_ ?_; · simp only [go_sem]) | (refine ZF ?_ ?_; · simp only [go_sem]))
 have hg : (H ++ [.cells [.int .i64 (stk l 0), .int .i64 (stk l 1), .int .i64 (stk l 2), .int .i64 (stk l 3), .int .i64 (stk l 4), .int .i64 (stk l 5)] 87 true 0 [], gE n E, .cells [.int .i64 (stk l 0), .int .i64 (stk l 1), .int .i64 (stk l 2), .int .i64 (stk l 3), .int .i64 (stk l 4), .int .i64 (stk l 5)] 87 true 0 []] : SHeap)[H.length + 1]? = some (gE n E) := by rw [List.getElem?_append_right (by omega), Nat.add_sub_cancel_left]; rfl
 exact end_nil (q_gc [.pointer (some ⟨H.length + 1, 0, none⟩), stV (stk l), .int .i64 0] (by simp only [go_sem]; rfl) rfl (gc_ptr3 (old := []) (own := 0) rfl rfl (by simp) hg rfl (by omega)) rfl)
end
end
end Go.Proofs.YtpkhkghiidilcaaDoor.Sh
namespace Go.Proofs.YtpkhkghiidilcaaDoor.Sh
section
open Go
set_option maxRecDepth 100000
set_option maxHeartbeats 4000000
def GAt (h : SHeap) (g n : Nat) (E : List (Int × Int)) : Prop := h[g]? = some (gE n E)
theorem GAt.app {h : SHeap} {g n : Nat} {E : List (Int × Int)} (k : GAt h g n E) (x : SHeap) : GAt (h ++ x) g n E := by
 unfold GAt at *
 rw [List.getElem?_append_left (List.getElem?_eq_some_iff.1 k).1]; exact k
theorem GAt.n {h : SHeap} {g n : Nat} {E : List (Int × Int)} (k : GAt h g n E) : loadS h none (.pointer (some ⟨g, 0, none⟩)) = some (.int .i64 n) := by
 have := load_cell (h := h) (o := 0) k rfl (gV_n _ _ _) []
 rw [List.append_nil] at this; exact this
theorem GAt.nx {h : SHeap} {g n : Nat} {E : List (Int × Int)} (k : GAt h g n E) {v : Nat} (hv : v < 6) : loadS h none (.pointer (some ⟨g, 1 + v, none⟩)) = some (.int .i64 (nxE E v)) := by
 have := load_cell (h := h) (o := 1 + v) k rfl (gV_next _ _ _ hv) []
 rw [List.append_nil] at this; exact this
theorem GAt.far {h : SHeap} {g n : Nat} {E : List (Int × Int)} (k : GAt h g n E) {f v : Nat} (hf : f < 6) (hv : v < 6) : loadS h none (.pointer (some ⟨g, 7 + f * 6 + v, none⟩)) = some (.int .i64 (farE n E f v)) := by
 have := load_cell (h := h) (o := 7 + f * 6 + v) k rfl (gV_far _ _ _ hf hv) []
 rw [List.append_nil] at this; exact this
theorem in84 {h : SHeap} {c g n : Nat} {E : List (Int × Int)} (hc : loadS h none (.pointer (some ⟨c, 0, none⟩)) = some (.pointer (some ⟨g, 0, none⟩))) (hg : GAt h g n E) (v : Int) : M.call 84 [.int .i64 v, .pointer (some ⟨c, 0, none⟩)] h = some (.bool (decide (0 ≤ v ∧ v < n)), h, []) := by
 refine call_run sf84 rfl rfl rfl ?_
 have l := hg.n
 unfold sf84
 by_cases c1 : 0 ≤ v
 ·have c1' : v ≥ 0 := c1
  by_cases c2 : v < n
  ·repeat (first | apply Z1 | apply Z2 | apply Z3 | apply Z4 | apply Z5 rfl | apply Z6 | apply Z7 | apply Z8 | apply Z9 | apply ZA | apply ZB | apply ZC | ((first | apply ZD (by decide) | apply ZN (by decide)); (simp (maxSteps := 9999999) only [go_sem, argR, c1, c1', c2, hc, l]; rfl)) | (refine ZE ?_ ?_; · simp only [go_sem]) | (refine ZF ?_ ?_; · simp only [go_sem]))
   rw [decide_eq_true ⟨c1, c2⟩]
   exact end_nil (q_ret1 _ (by simp only [go_sem]) rfl (take_self _))
  ·repeat (first | apply Z1 | apply Z2 | apply Z3 | apply Z4 | apply Z5 rfl | apply Z6 | apply Z7 | apply Z8 | apply Z9 | apply ZA | apply ZB | apply ZC | ((first | apply ZD (by decide) | apply ZN (by decide)); (simp (maxSteps := 9999999) only [go_sem, argR, c1, c1', c2, hc, l]; rfl)) | (refine ZE ?_ ?_; · simp only [go_sem]) | (refine ZF ?_ ?_; · simp only [go_sem]))
   rw [decide_eq_false (fun h => c2 h.2)]
   exact end_nil (q_ret1 _ (by simp only [go_sem]) rfl (take_self _))
 ·have c1' : ¬ v ≥ 0 := c1
  repeat (first | apply Z1 | apply Z2 | apply Z3 | apply Z4 | apply Z5 rfl | apply Z6 | apply Z7 | apply Z8 | apply Z9 | apply ZA | apply ZB | apply ZC | ((first | apply ZD (by decide) | apply ZN (by decide)); (simp (maxSteps := 9999999) only [go_sem, argR, c1, c1']; rfl)) | (refine ZE ?_ ?_; · simp only [go_sem]) | (refine ZF ?_ ?_; · simp only [go_sem]))
  rw [decide_eq_false (fun h => c1 h.1)]
  exact end_nil (q_ret1 _ (by simp only [go_sem]) rfl (take_self _))
def canM (n : Nat) (E : List (Int × Int)) (s : Nat → Int) (a b : Int) : Prop := (0 ≤ a ∧ a < n) ∧ (0 ≤ b ∧ b < n) ∧ adjE E a.toNat b.toNat = true ∧ 2 ≤ s a.toNat
instance (n : Nat) (E : List (Int × Int)) (s : Nat → Int) (a b : Int) : Decidable (canM n E s a b) := by unfold canM; infer_instance
theorem st_load {h : SHeap} {c : Nat} {s : Nat → Int} {el : TypeId} {pf : Bool} {own : Nat} {old : List Nat} (k : h[c]? = some (.cells (iV 6 s) el pf own old)) (hr : readable own = true) {v : Nat} (hv : v < 6) : loadS h none (.pointer (some ⟨c, v, none⟩)) = some (.int .i64 (s v)) := by
 have := load_cell (h := h) (o := v) k hr (iV_get s hv) []
 rw [List.append_nil] at this; exact this
theorem can78 {h : SHeap} {g n : Nat} {E : List (Int × Int)} (hE : EOK n E) (hn : n ≤ 6) (hg : GAt h g n E) (s : Nat → Int) (a b : Int) : M.call 78 [.pointer (some ⟨g, 0, none⟩), stV s, .agg #[.int .i64 a, .int .i64 b]] h = some (.bool (decide (canM n E s a b)), h, []) := by
 refine call_run sf78 rfl rfl rfl ?_
 unfold sf78
 rw [stV_def]
 have hH : ∀ x, loadS (h ++ [.cells [.pointer (some ⟨g, 0, none⟩)] 85 false 0 [], x, .cells [.int .i64 a, .int .i64 b] 106 true 0 []]) none (.pointer (some ⟨h.length, 0, none⟩)) = some (.pointer (some ⟨g, 0, none⟩)) := fun x => by
  rw [load_app0]; rfl
 have ia : ∀ x, M.call 84 [.int .i64 a, .pointer (some ⟨h.length, 0, none⟩)] (h ++ [.cells [.pointer (some ⟨g, 0, none⟩)] 85 false 0 [], x, .cells [.int .i64 a, .int .i64 b] 106 true 0 []]) = some (.bool (decide (0 ≤ a ∧ a < n)), h ++ [.cells [.pointer (some ⟨g, 0, none⟩)] 85 false 0 [], x, .cells [.int .i64 a, .int .i64 b] 106 true 0 []], []) := fun x => in84 (hH x) (hg.app _) a
 have ib : ∀ x, M.call 84 [.int .i64 b, .pointer (some ⟨h.length, 0, none⟩)] (h ++ [.cells [.pointer (some ⟨g, 0, none⟩)] 85 false 0 [], x, .cells [.int .i64 a, .int .i64 b] 106 true 0 []]) = some (.bool (decide (0 ≤ b ∧ b < n)), h ++ [.cells [.pointer (some ⟨g, 0, none⟩)] 85 false 0 [], x, .cells [.int .i64 a, .int .i64 b] 106 true 0 []], []) := fun x => in84 (hH x) (hg.app _) b
 by_cases c1 : 0 ≤ a ∧ a < n
 ·simp only [decide_eq_true c1] at ia
  by_cases c2 : 0 ≤ b ∧ b < n
  ·simp only [decide_eq_true c2] at ib
   obtain ⟨p, rfl⟩ : ∃ p : Nat, a = p := ⟨a.toNat, by omega⟩
   obtain ⟨q, rfl⟩ : ∃ q : Nat, b = q := ⟨b.toNat, by omega⟩
   have hp6 : p < 6 := by omega
   have hq6 : q < 6 := by omega
   have z1 : (0 : Int) ≤ p := by omega
   have z2 : (p : Int) < 6 := by omega
   have wq : IntKind.u64.wrap (q : Int) = q := wrapU (by omega) (by omega)
   have hx := fun x => (hg.app x).nx hp6
   have sh := shr_n (k := .u64) (a := nxE E p) (v := q) (by omega)
   have bv := bit_val (nxE E p) q
   have an := b_and (a := nxE E p / 2 ^ q) (b := 1) (by have := Nat.div_le_self (nxE E p) (2 ^ q); have := nxE_lt E p; omega) (by decide)
   rw [nxE_bit hE hn] at bv
   rw [bv] at an
   by_cases c3 : adjE E p q = true
   ·rw [if_pos c3] at an
    have an' : binS .and (.int .i64 ((nxE E p / 2 ^ q : Nat) : Int)) (.int .i64 1) = some (.int .i64 1) := an
    have ls : ∀ x y, loadS (h ++ [x, .cells [.int .i64 (s 0), .int .i64 (s 1), .int .i64 (s 2), .int .i64 (s 3), .int .i64 (s 4), .int .i64 (s 5)] 87 true 0 [], y]) none (.pointer (some ⟨h.length + 1, p, none⟩)) = some (.int .i64 (s p)) := fun x y => by
     refine st_load (s := s) (el := 87) (pf := true) (own := 0) (old := []) ?_ rfl hp6
     rw [app_get]; rfl
    by_cases c4 : 2 ≤ s p
    ·have c4' : s p ≥ 2 := c4
     repeat (first | apply Z1 | apply Z2 | apply Z3 | apply Z4 | apply Z5 rfl | apply Z6 | apply Z7 | apply Z8 | apply Z9 | apply ZA | apply ZB | apply ZC | ((first | apply ZD (by decide) | apply ZN (by decide)); (simp (maxSteps := 9999999) only [go_sem, argR, ia, ib, z1, z2, hx, wq, sh, an', ls, c4, c4', Int.toNat_natCast]; rfl)) | (refine ZE ?_ ?_; · simp only [go_sem]) | (refine ZF ?_ ?_; · simp only [go_sem]))
     rw [decide_eq_true (show canM n E s p q from ⟨c1, c2, c3, c4⟩)]
     exact end_nil (q_ret1 _ (by simp only [go_sem]) rfl (by simp))
    ·have c4' : ¬ s p ≥ 2 := c4
     repeat (first | apply Z1 | apply Z2 | apply Z3 | apply Z4 | apply Z5 rfl | apply Z6 | apply Z7 | apply Z8 | apply Z9 | apply ZA | apply ZB | apply ZC | ((first | apply ZD (by decide) | apply ZN (by decide)); (simp (maxSteps := 9999999) only [go_sem, argR, ia, ib, z1, z2, hx, wq, sh, an', ls, c4, c4', Int.toNat_natCast]; rfl)) | (refine ZE ?_ ?_; · simp only [go_sem]) | (refine ZF ?_ ?_; · simp only [go_sem]))
     rw [decide_eq_false (fun h : canM n E s p q => c4 h.2.2.2)]
     exact end_nil (q_ret1 _ (by simp only [go_sem]) rfl (by simp))
   ·rw [if_neg c3] at an
    have an' : binS .and (.int .i64 ((nxE E p / 2 ^ q : Nat) : Int)) (.int .i64 1) = some (.int .i64 0) := an
    repeat (first | apply Z1 | apply Z2 | apply Z3 | apply Z4 | apply Z5 rfl | apply Z6 | apply Z7 | apply Z8 | apply Z9 | apply ZA | apply ZB | apply ZC | ((first | apply ZD (by decide) | apply ZN (by decide)); (simp (maxSteps := 9999999) only [go_sem, argR, ia, ib, z1, z2, hx, wq, sh, an', Int.toNat_natCast]; rfl)) | (refine ZE ?_ ?_; · simp only [go_sem]) | (refine ZF ?_ ?_; · simp only [go_sem]))
    rw [decide_eq_false (fun h : canM n E s p q => c3 h.2.2.1)]
    exact end_nil (q_ret1 _ (by simp only [go_sem]) rfl (by simp))
  ·simp only [decide_eq_false c2] at ib
   repeat (first | apply Z1 | apply Z2 | apply Z3 | apply Z4 | apply Z5 rfl | apply Z6 | apply Z7 | apply Z8 | apply Z9 | apply ZA | apply ZB | apply ZC | ((first | apply ZD (by decide) | apply ZN (by decide)); (simp (maxSteps := 9999999) only [go_sem, argR, ia, ib]; rfl)) | (refine ZE ?_ ?_; · simp only [go_sem]) | (refine ZF ?_ ?_; · simp only [go_sem]))
   rw [decide_eq_false (fun h : canM n E s a b => c2 h.2.1)]
   exact end_nil (q_ret1 _ (by simp only [go_sem]) rfl (by simp))
 ·simp only [decide_eq_false c1] at ia
  repeat (first | apply Z1 | apply Z2 | apply Z3 | apply Z4 | apply Z5 rfl | apply Z6 | apply Z7 | apply Z8 | apply Z9 | apply ZA | apply ZB | apply ZC | ((first | apply ZD (by decide) | apply ZN (by decide)); (simp (maxSteps := 9999999) only [go_sem, argR, ia]; rfl)) | (refine ZE ?_ ?_; · simp only [go_sem]) | (refine ZF ?_ ?_; · simp only [go_sem]))
  rw [decide_eq_false (fun h : canM n E s a b => c1 h.1)]
  exact end_nil (q_ret1 _ (by simp only [go_sem]) rfl (by simp))
end
end Go.Proofs.YtpkhkghiidilcaaDoor.Sh
namespace Go.Proofs.YtpkhkghiidilcaaDoor.Sh
section
open Go
set_option maxRecDepth 100000
set_option maxHeartbeats 4000000
def aft (s : Nat → Int) (a b : Nat) : Nat → Int := up (up s a (s a - 2)) b (up s a (s a - 2) b + 1)
theorem aft79 {h : SHeap} {s : Nat → Int} {a b : Nat} (ha : a < 6) (hb : b < 6) (h1 : -1000 ≤ s a ∧ s a ≤ 1000) (h2 : -1000 ≤ s b ∧ s b ≤ 1000) : M.call 79 [.agg #[.int .i64 a, .int .i64 b], stV s] h = some (stV (aft s a b), h, []) := by
 refine call_run sf79 rfl rfl rfl ?_
 unfold sf79
 rw [stV_def s]
 have z1 : (0 : Int) ≤ a := by omega
 have z2 : (a : Int) < 6 := by omega
 have z3 : (0 : Int) ≤ b := by omega
 have z4 : (b : Int) < 6 := by omega
 have hl : ∀ (f : Nat → Int) x y v, v < 6 → loadS (h ++ [x, .cells (iV 6 f) 87 true 0 [], y]) none (.pointer (some ⟨h.length + 1, v, none⟩)) = some (.int .i64 (f v)) := fun f x y v hv => by
  refine st_load (s := f) (el := 87) (pf := true) (own := 0) (old := []) ?_ rfl hv
  rw [app_get]; rfl
 have hla : ∀ (f : Nat → Int) x y, loadS (h ++ [x, .cells (iV 6 f) 87 true 0 [], y]) (some 6) (.pointer (some ⟨h.length + 1, 0, none⟩)) = some (stV f) := fun f x y => by
  have := load_all (h := h ++ [x, .cells (iV 6 f) 87 true 0 [], y]) (b := h.length + 1) (n := 6) (cs := iV 6 f) (el := 87) (pf := true) (own := 0) (old := []) (by rw [app_get]; rfl) rfl (iV_len _ _) []
  rw [List.append_nil] at this; exact this
 have hs : ∀ (f : Nat → Int) x y v (w : Int) base d, v < 6 → storeS base (h ++ [x, .cells (iV 6 f) 87 true 0 [], y]) d (h.length + 1) v (cellsL (.int .i64 w)) = some (h ++ [x, .cells (iV 6 (up f v w)) 87 true 0 [], y], d) := fun f x y v w base d hv => by
  have := store_cell (h := h ++ [x, .cells (iV 6 f) 87 true 0 [], y]) (base := base) (b := h.length + 1) (o := v) (c := .int .i64 w) (cs := iV 6 f) (el := 87) (pf := true) (by rw [app_get]; rfl) (by rw [iV_len]; exact hv) rfl (fun _ => rfl) d
  rw [iV_set f hv] at this
  rw [cells_int, this, List.set_append_right _ _ (by omega), Nat.add_sub_cancel_left]
  rfl
 have w1 : IntKind.i64.wrap (s a - 2) = s a - 2 := wrap64 (by omega) (by omega)
 have hb2 : -1002 ≤ up s a (s a - 2) b ∧ up s a (s a - 2) b ≤ 1000 := by unfold up; split <;> omega
 have w2 : IntKind.i64.wrap (up s a (s a - 2) b + 1) = up s a (s a - 2) b + 1 := wrap64 (by omega) (by omega)
 have l1 := fun x y => hl s x y a ha
 have l2 := fun x y => hl (up s a (s a - 2)) x y b hb
 have s1 := fun x y base d => hs s x y a (s a - 2) base d ha
 have s2 := fun x y base d => hs (up s a (s a - 2)) x y b (up s a (s a - 2) b + 1) base d hb
 have l3 := fun x y => hla (up (up s a (s a - 2)) b (up s a (s a - 2) b + 1)) x y
 rw [iV6 s] at *
 repeat (first | apply Z1 | apply Z2 | apply Z3 | apply Z4 | apply Z5 rfl | apply Z6 | apply Z7 | apply Z8 | apply Z9 | apply ZA | apply ZB | apply ZC | ((first | apply ZD (by decide) | apply ZN (by decide)); (simp (maxSteps := 9999999) only [go_sem, argR, z1, z2, z3, z4, l1, ↓s1, w1, l2, ↓s2, w2, l3, Int.toNat_natCast]; rfl)) | (refine ZE ?_ ?_; · simp only [go_sem]) | (refine ZF ?_ ?_; · simp only [go_sem]))
 exact end_nil (q_free [stV (aft s a b)] (by simp only [go_sem]; rfl) rfl rfl rfl (fun _ => rfl) (by simp) rfl)
structure Caps (h : SHeap) (c1 c2 g n : Nat) (E : List (Int × Int)) (s : Nat → Int) : Prop where
 b1 : h[c1]? = some (.cells [.pointer (some ⟨g, 0, none⟩)] 85 false 0 [])
 b2 : h[c2]? = some (.cells (iV 6 s) 87 true 0 [])
 gr : GAt h g n E
theorem reach_old {base : Nat} {h : SHeap} {n b : Nat} {todo seen : List Nat} (hb : b < base) : reach base h (n + 1) (b :: todo) seen = reach base h n todo seen := by
 have : Nat.ble base b = false := by rw [ble_dec]; exact decide_eq_false (by omega)
 rw [reach, this]; rfl
theorem reach_new {base : Nat} {h : SHeap} {n b : Nat} {todo seen : List Nat} (hb : base ≤ b) (hs : b ∉ seen) : reach base h (n + 1) (b :: todo) seen = reach base h n (ptrsO h[b]? ++ todo) (seen ++ [b]) := by
 have e : Nat.ble base b = true := by rw [ble_dec]; exact decide_eq_true hb
 have e2 : seen.contains b = false := by
  cases c : seen.contains b with
  | false => rfl
  | true => exact (hs (List.contains_iff_mem.1 c)).elim
 rw [reach, e, e2]; rfl
theorem ren_old {base b : Nat} {K : List Nat} (hb : b < base) : ren base K b = some b := by
 have : Nat.ble base b = false := by rw [ble_dec]; exact decide_eq_false (by omega)
 unfold ren
 rw [this]; rfl
theorem ren_at {base b k : Nat} {K : List Nat} (hb : base ≤ b) (hk : posOf b K = some k) : ren base K b = some (base + k) := by
 have e : Nat.ble base b = true := by rw [ble_dec]; exact decide_eq_true hb
 unfold ren
 rw [e, hk]; rfl
theorem mk62 {h : SHeap} {g : Nat} (hg : g < h.length) (s : Nat → Int) : M.call 62 [.pointer (some ⟨g, 0, none⟩), stV s] h = some (.func (.func 77) #[] #[.pointer (some ⟨h.length, 0, none⟩), .pointer (some ⟨h.length + 1, 0, none⟩)], h ++ [.cells [.pointer (some ⟨g, 0, none⟩)] 85 false 0 [], .cells (iV 6 s) 87 true 0 []], []) := by
 refine call_run sf62 rfl rfl rfl ?_
 unfold sf62
 rw [stV_def]
 repeat (first | apply Z1 | apply Z2 | apply Z3 | apply Z4 | apply Z5 rfl | apply Z6 | apply Z7 | apply Z8 | apply Z9 | apply ZA | apply ZB | apply ZC | ((first | apply ZD (by decide) | apply ZN (by decide)); (simp (maxSteps := 9999999) only [go_sem, argR]; rfl)) | (refine ZE ?_ ?_; · simp only [go_sem]) | (refine ZF ?_ ?_; · simp only [go_sem]))
 refine end_nil (q_gc [.func (.func 77) #[] #[.pointer (some ⟨h.length, 0, none⟩), .pointer (some ⟨h.length + 1, 0, none⟩)]] (by simp only [go_sem]) rfl ?_ rfl)
 have p1 : posOf h.length [h.length, h.length + 1] = some 0 := by simp [posOf]
 have p2 : posOf (h.length + 1) [h.length, h.length + 1] = some 1 := by simp [posOf]
 have h0 : (h ++ [.cells [.pointer (some ⟨g, 0, none⟩)] 85 false 0 [], .cells [.int .i64 (s 0), .int .i64 (s 1), .int .i64 (s 2), .int .i64 (s 3), .int .i64 (s 4), .int .i64 (s 5)] 87 true 0 []] : SHeap)[h.length]? = some (.cells [.pointer (some ⟨g, 0, none⟩)] 85 false 0 []) := by rw [app_get0]; rfl
 have h1 : (h ++ [.cells [.pointer (some ⟨g, 0, none⟩)] 85 false 0 [], .cells [.int .i64 (s 0), .int .i64 (s 1), .int .i64 (s 2), .int .i64 (s 3), .int .i64 (s 4), .int .i64 (s 5)] 87 true 0 []] : SHeap)[h.length + 1]? = some (.cells [.int .i64 (s 0), .int .i64 (s 1), .int .i64 (s 2), .int .i64 (s 3), .int .i64 (s 4), .int .i64 (s 5)] 87 true 0 []) := by rw [app_get]; rfl
 have ht : (h ++ [.cells [.pointer (some ⟨g, 0, none⟩)] 85 false 0 [], .cells [.int .i64 (s 0), .int .i64 (s 1), .int .i64 (s 2), .int .i64 (s 3), .int .i64 (s 4), .int .i64 (s 5)] 87 true 0 []] : SHeap).take h.length = h := by simp
 generalize (h ++ [.cells [.pointer (some ⟨g, 0, none⟩)] 85 false 0 [], .cells [.int .i64 (s 0), .int .i64 (s 1), .int .i64 (s 2), .int .i64 (s 3), .int .i64 (s 4), .int .i64 (s 5)] 87 true 0 []] : SHeap) = hh at *
 have e1 : reach h.length hh 1000000 [h.length, h.length + 1] [] = [h.length, h.length + 1] := by
  rw [show (1000000 : Nat) = 999996 + 1 + 1 + 1 + 1 from rfl, reach_new (Nat.le_refl _) (by simp), h0]
  show reach h.length hh (999996 + 1 + 1 + 1) (g :: [h.length + 1]) [h.length] = _
  rw [reach_old hg, reach_new (by omega) (by simp), h1]
  show reach h.length hh (999996 + 1) [] _ = _
  rw [reach]; rfl
 have r0 : ren h.length [h.length, h.length + 1] h.length = some h.length := ren_at (Nat.le_refl _) p1
 have r1 : ren h.length [h.length, h.length + 1] (h.length + 1) = some (h.length + 1) := ren_at (by omega) p2
 have rg : ren h.length [h.length, h.length + 1] g = some g := ren_old hg
 unfold gcS
 show (match renV h.length (reach h.length hh 1000000 [h.length, h.length + 1] []) 3 (.func (.func 77) #[] #[.pointer (some ⟨h.length, 0, none⟩), .pointer (some ⟨h.length + 1, 0, none⟩)]), mapO (fun k => renO h.length (reach h.length hh 1000000 [h.length, h.length + 1] []) hh[k]?) (reach h.length hh 1000000 [h.length, h.length + 1] []) with
  | some v', some kept => some (v', hh.take h.length ++ kept)
  | _, _ => none) = _
 rw [e1]
 simp [renV, mapO, r0, r1, rg, renO, h0, h1, ht]
 rfl
end
end Go.Proofs.YtpkhkghiidilcaaDoor.Sh
namespace Go.Proofs.YtpkhkghiidilcaaDoor.Sh
section
open Go
set_option maxRecDepth 100000
set_option maxHeartbeats 4000000
def rowM (n : Nat) (E : List (Int × Int)) (s : Nat → Int) (a : Nat) : Nat → List (Nat × Nat)
 | 0 => []
 | b + 1 => rowM n E s a b ++ if canM n E s a b then [(a, b)] else []
def MVb (n : Nat) (E : List (Int × Int)) (s : Nat → Int) : Nat → List (Nat × Nat)
 | 0 => []
 | a + 1 => MVb n E s a ++ rowM n E s a n
def finD (B : Nat) (h : SHeap) (d : List Nat) : SHeap := match d with
 | [] => h.take B
 | _ => h
theorem q_dirty {base : Nat} {ρ : Reg} {h : SHeap} {d : List Nat} {ex : Ex} (hx : isEnd ex = true) : callQ [] base (.tuple #[], finD base h d, d) ex ρ [] h d := by
 refine ⟨hx, ?_⟩
 show endW base h d (.tuple #[], finD base h d, d) []
 cases d with
 | nil => exact ⟨_, _, gc_free (v := .tuple #[]) rfl (fun _ => rfl), rfl⟩
 | cons a d => rfl
theorem pair_ld (h : SHeap) (a b : Nat) : loadS (h ++ [.cells [.int .i64 a, .int .i64 b] 106 true 0 []]) (some 2) (.pointer (some ⟨h.length, 0, none⟩)) = some (.agg #[.int .i64 a, .int .i64 b]) := by
 rw [load_appN0]; rfl
theorem Caps.l1 {h : SHeap} {c1 c2 g n : Nat} {E : List (Int × Int)} {s : Nat → Int} (C : Caps h c1 c2 g n E s) (x : SHeap) : loadS (h ++ x) none (.pointer (some ⟨c1, 0, none⟩)) = some (.pointer (some ⟨g, 0, none⟩)) := load_cell C.b1 rfl rfl x
theorem Caps.l2 {h : SHeap} {c1 c2 g n : Nat} {E : List (Int × Int)} {s : Nat → Int} (C : Caps h c1 c2 g n E s) (x : SHeap) : loadS (h ++ x) (some 6) (.pointer (some ⟨c2, 0, none⟩)) = some (stV s) := load_all C.b2 rfl (iV_len _ _) x
theorem Caps.lt {h : SHeap} {c1 c2 g n : Nat} {E : List (Int × Int)} {s : Nat → Int} (C : Caps h c1 c2 g n E s) : c1 < h.length ∧ c2 < h.length ∧ g < h.length := ⟨(List.getElem?_eq_some_iff.1 C.b1).1, (List.getElem?_eq_some_iff.1 C.b2).1, (List.getElem?_eq_some_iff.1 C.gr).1⟩
section
variable {n : Nat} {E : List (Int × Int)} {s : Nat → Int} {c1 c2 g L B fn : Nat} (J X : List (Nat × Nat) → SHeap → List Nat → Prop)
theorem to_loop (hE : EOK n E) (hn : n ≤ 6) (hs : ∀ v, v < 6 → -1000 ≤ s v ∧ s v ≤ 1000)
  (hC : ∀ l h d, J l h d → Caps h c1 c2 g n E s) (hA : ∀ l h d x, J l h d → J l (h ++ x) d)
  (hY : ∀ a b h d, a < n → b < n → canM n E s a b → J (MVb n E s a ++ rowM n E s a b) h d → ∃ r h2 d2, M.round B L [.agg #[.int .i64 a, .int .i64 b], stV (aft s a b)] h = some (.bool r, h2, d2) ∧
   (r = true → J (MVb n E s a ++ rowM n E s a (b + 1)) h2 (d2 ++ d)) ∧ (r = false → X (MVb n E s a ++ rowM n E s a (b + 1)) h2 (d2 ++ d)))
  {a : Nat} (ha : a < n) {mx : Int} :
  ∀ k ρ ms h' d', (∃ b : Nat, b + k = n ∧ J (MVb n E s a ++ rowM n E s a b) h' d' ∧ ρ 0 = .func (.yield L) #[] #[] ∧ ρ 1 = .pointer (some ⟨c1, 0, none⟩) ∧ ρ 2 = .pointer (some ⟨c2, 0, none⟩) ∧ ρ 4 = .int .i64 a ∧ ρ 10 = .int .i64 mx ∧ ρ 11 = .int .i64 a ∧ ρ 17 = .int .i64 n ∧ ρ 18 = .int .i64 b ∧ ms = []) →
  LoopW M ⟨B, none, fn⟩ 6 sf77L0 ρ ms h' d' (fun ex ρ' ms' h' d' => ms' = [] ∧ ((ex = .exit 2 ∧ J (MVb n E s a ++ rowM n E s a n) h' d' ∧ ρ' 0 = .func (.yield L) #[] #[] ∧ ρ' 1 = .pointer (some ⟨c1, 0, none⟩) ∧ ρ' 2 = .pointer (some ⟨c2, 0, none⟩) ∧ ρ' 10 = .int .i64 mx ∧ ρ' 11 = .int .i64 a) ∨
   (ex = .ret ∧ ∃ b, b < n ∧ X (MVb n E s a ++ rowM n E s a (b + 1)) h' d'))) := by
 refine loop_run _ ?_
 rintro k ρ ms h' d' ⟨b, hk, hJ, r0, r1, r2, r4, r10, r11, r17, r18, rfl⟩
 unfold sf77L0
 by_cases c : k = 0
 ·have e1 : ¬ ((b : Int) < n) := by omega
  obtain rfl : b = n := by omega
  repeat (first | apply Z1 | apply Z2 | apply Z3 | apply Z4 | apply Z5 rfl | apply Z6 | apply Z7 | apply Z8 | apply Z9 | apply ZA | apply ZB | apply ZC | ((first | apply ZD (by decide) | apply ZN (by decide)); (simp (maxSteps := 9999999) only [go_sem, r17, r18, e1]; rfl)) | (refine ZE ?_ ?_; · simp only [go_sem]) | (refine ZF ?_ ?_; · simp only [go_sem]))
  exact end_nil ⟨rfl, .inl ⟨rfl, hJ, by simp only [go_sem, r0], by simp only [go_sem, r1], by simp only [go_sem, r2], by simp only [go_sem, r10], by simp only [go_sem, r11]⟩⟩
 ·have e1 : ((b : Int) < n) := by omega
  have hb : b < n := by omega
  have ew : IntKind.i64.wrap ((b : Int) + 1) = ((b + 1 : Nat) : Int) := by rw [wrap64 (by omega) (by omega)]; rfl
  have C := hC _ _ _ hJ
  have hJ1 := hA _ _ _ [.cells [.int .i64 a, .int .i64 b] 106 true 0 []] hJ
  have C1 := hC _ _ _ hJ1
  have l1 := C.l1 [.cells [.int .i64 a, .int .i64 b] 106 true 0 []]
  have l2 := C.l2 [.cells [.int .i64 a, .int .i64 b] 106 true 0 []]
  have l3 := pair_ld h' a b
  have cn := can78 hE hn C1.gr s (a : Int) (b : Int)
  by_cases cc : canM n E s a b
  ·simp only [decide_eq_true cc] at cn
   have ca := aft79 (h := h' ++ [.cells [.int .i64 a, .int .i64 b] 106 true 0 []]) (s := s) (a := a) (b := b) (by omega) (by omega) (hs a (by omega)) (hs b (by omega))
   obtain ⟨r, h2, d2, hr, y1, y2⟩ := hY a b _ _ ha hb cc hJ1
   cases r with
   | true =>
    repeat (first | apply Z1 | apply Z2 | apply Z3 | apply Z4 | apply Z5 rfl | apply Z6 | apply Z7 | apply Z8 | apply Z9 | apply ZA | apply ZB | apply ZC | ((first | apply ZD (by decide) | apply ZN (by decide)); (simp (maxSteps := 9999999) only [go_sem, r0, r1, r2, r4, r17, r18, e1, ↓l1, ↓l2, ↓l3, cn, ca, hr, ew]; rfl)) | (refine ZE ?_ ?_; · simp only [go_sem]) | (refine ZF ?_ ?_; · simp only [go_sem]))
    exact end_nil ⟨k - 1, by omega, b + 1, by omega, y1 rfl, by simp only [go_sem, r0], by simp only [go_sem, r1], by simp only [go_sem, r2], by simp only [go_sem, r4], by simp only [go_sem, r10], by simp only [go_sem, r11], by simp only [go_sem, r17], by simp only [go_sem, ew], rfl⟩
   | false =>
    repeat (first | apply Z1 | apply Z2 | apply Z3 | apply Z4 | apply Z5 rfl | apply Z6 | apply Z7 | apply Z8 | apply Z9 | apply ZA | apply ZB | apply ZC | ((first | apply ZD (by decide) | apply ZN (by decide)); (simp (maxSteps := 9999999) only [go_sem, r0, r1, r2, r4, r17, r18, e1, ↓l1, ↓l2, ↓l3, cn, ca, hr, ew]; rfl)) | (refine ZE ?_ ?_; · simp only [go_sem]) | (refine ZF ?_ ?_; · simp only [go_sem]))
    exact end_nil ⟨rfl, .inr ⟨rfl, b, hb, y2 rfl⟩⟩
  ·simp only [decide_eq_false cc] at cn
   repeat (first | apply Z1 | apply Z2 | apply Z3 | apply Z4 | apply Z5 rfl | apply Z6 | apply Z7 | apply Z8 | apply Z9 | apply ZA | apply ZB | apply ZC | ((first | apply ZD (by decide) | apply ZN (by decide)); (simp (maxSteps := 9999999) only [go_sem, r0, r1, r2, r4, r17, r18, e1, ↓l1, ↓l2, ↓l3, cn, ew]; rfl)) | (refine ZE ?_ ?_; · simp only [go_sem]) | (refine ZF ?_ ?_; · simp only [go_sem]))
   refine end_nil ⟨k - 1, by omega, b + 1, by omega, ?_, by simp only [go_sem, r0], by simp only [go_sem, r1], by simp only [go_sem, r2], by simp only [go_sem, r4], by simp only [go_sem, r10], by simp only [go_sem, r11], by simp only [go_sem, r17], by simp only [go_sem, ew], rfl⟩
   show J (_ ++ (_ ++ _)) _ _
   rw [if_neg cc, List.append_nil]
   exact hJ1
theorem from_loop77 (hE : EOK n E) (hn : n ≤ 6) (hs : ∀ v, v < 6 → -1000 ≤ s v ∧ s v ≤ 1000)
  (hC : ∀ l h d, J l h d → Caps h c1 c2 g n E s) (hA : ∀ l h d x, J l h d → J l (h ++ x) d)
  (hY : ∀ a b h d, a < n → b < n → canM n E s a b → J (MVb n E s a ++ rowM n E s a b) h d → ∃ r h2 d2, M.round B L [.agg #[.int .i64 a, .int .i64 b], stV (aft s a b)] h = some (.bool r, h2, d2) ∧
   (r = true → J (MVb n E s a ++ rowM n E s a (b + 1)) h2 (d2 ++ d)) ∧ (r = false → X (MVb n E s a ++ rowM n E s a (b + 1)) h2 (d2 ++ d))) :
  ∀ k ρ ms h' d', (∃ a : Nat, a + k = n ∧ J (MVb n E s a) h' d' ∧ ρ 0 = .func (.yield L) #[] #[] ∧ ρ 1 = .pointer (some ⟨c1, 0, none⟩) ∧ ρ 2 = .pointer (some ⟨c2, 0, none⟩) ∧ ρ 10 = .int .i64 n ∧ ρ 11 = .int .i64 a ∧ ms = []) →
  LoopW M ⟨B, none, fn⟩ 6 sf77L1 ρ ms h' d' (fun ex ρ' ms' h' d' => ms' = [] ∧ ((ex = .exit 0 ∧ J (MVb n E s n) h' d') ∨ (ex = .ret ∧ ∃ a b, a < n ∧ b < n ∧ X (MVb n E s a ++ rowM n E s a (b + 1)) h' d'))) := by
 refine loop_run _ ?_
 rintro k ρ ms h' d' ⟨a, hk, hJ, r0, r1, r2, r10, r11, rfl⟩
 unfold sf77L1
 by_cases c : k = 0
 ·have e1 : ¬ ((a : Int) < n) := by omega
  obtain rfl : a = n := by omega
  repeat (first | apply Z1 | apply Z2 | apply Z3 | apply Z4 | apply Z5 rfl | apply Z6 | apply Z7 | apply Z8 | apply Z9 | apply ZA | apply ZB | apply ZC | ((first | apply ZD (by decide) | apply ZN (by decide)); (simp (maxSteps := 9999999) only [go_sem, r10, r11, e1]; rfl)) | (refine ZE ?_ ?_; · simp only [go_sem]) | (refine ZF ?_ ?_; · simp only [go_sem]))
  exact end_nil ⟨rfl, .inl ⟨rfl, hJ⟩⟩
 ·have e1 : ((a : Int) < n) := by omega
  have ha : a < n := by omega
  have ew : IntKind.i64.wrap ((a : Int) + 1) = ((a + 1 : Nat) : Int) := by rw [wrap64 (by omega) (by omega)]; rfl
  have C := hC _ _ _ hJ
  have l1 := C.l1 []
  rw [List.append_nil] at l1
  have l2 := C.gr.n
  repeat (first | apply Z1 | apply Z2 | apply Z3 | apply Z4 | apply Z5 rfl | apply Z6 | apply Z7 | apply Z8 | apply Z9 | apply ZA | apply ZB | apply ZC | ((first | apply ZD (by decide) | apply ZN (by decide)); (simp (maxSteps := 9999999) only [go_sem, r0, r1, r2, r10, r11, e1, l1, l2]; rfl)) | (refine ZE ?_ ?_; · simp only [go_sem]) | (refine ZF ?_ ?_; · simp only [go_sem]))
  refine run_loop (to_loop J X hE hn hs hC hA hY ha (mx := n) n _ _ _ _ ⟨0, by omega, by rw [rowM, List.append_nil]; exact hJ, by simp only [go_sem, r0], by simp only [go_sem, r1], by simp only [go_sem, r2], by simp only [go_sem], by simp only [go_sem, r10], by simp only [go_sem, r11], by simp only [go_sem], by simp only [go_sem], rfl⟩) ?_
  rintro ex ρ2 ms2 h2 d2 ⟨rfl, h⟩
  rcases h with ⟨rfl, hJ2, t0, t1, t2, t10, t11⟩ | ⟨rfl, b, hb, hX⟩
  ·repeat (first | apply Z1 | apply Z2 | apply Z3 | apply Z4 | apply Z5 rfl | apply Z6 | apply Z7 | apply Z8 | apply Z9 | apply ZA | apply ZB | apply ZC | ((first | apply ZD (by decide) | apply ZN (by decide)); (simp (maxSteps := 9999999) only [go_sem, t0, t1, t2, t10, t11, ew]; rfl)) | (refine ZE ?_ ?_; · simp only [go_sem]) | (refine ZF ?_ ?_; · simp only [go_sem]))
   exact end_nil ⟨k - 1, by omega, a + 1, by omega, hJ2, by simp only [go_sem, t0], by simp only [go_sem, t1], by simp only [go_sem, t2], by simp only [go_sem, t10], by simp only [go_sem, ew], rfl⟩
  ·repeat (first | apply Z1 | apply Z2 | apply Z3 | apply Z4 | apply Z5 rfl | apply Z6 | apply Z7 | apply Z8 | apply Z9 | apply ZA | apply ZB | apply ZC | ((first | apply ZD (by decide) | apply ZN (by decide)); (simp (maxSteps := 9999999) only [go_sem]; rfl)) | (refine ZE ?_ ?_; · simp only [go_sem]) | (refine ZF ?_ ?_; · simp only [go_sem]))
   exact end_nil ⟨rfl, .inr ⟨rfl, a, b, ha, hb, hX⟩⟩
theorem iter77 {H : SHeap} (hB : B = H.length) (hE : EOK n E) (hn : n ≤ 6) (hs : ∀ v, v < 6 → -1000 ≤ s v ∧ s v ≤ 1000)
  (hC : ∀ l h d, J l h d → Caps h c1 c2 g n E s) (hA : ∀ l h d x, J l h d → J l (h ++ x) d)
  (hY : ∀ a b h d, a < n → b < n → canM n E s a b → J (MVb n E s a ++ rowM n E s a b) h d → ∃ r h2 d2, M.round B L [.agg #[.int .i64 a, .int .i64 b], stV (aft s a b)] h = some (.bool r, h2, d2) ∧
   (r = true → J (MVb n E s a ++ rowM n E s a (b + 1)) h2 (d2 ++ d)) ∧ (r = false → X (MVb n E s a ++ rowM n E s a (b + 1)) h2 (d2 ++ d)))
  (h0 : J [] H []) :
  ∃ h d, M.call 77 [.func (.yield L) #[] #[], .pointer (some ⟨c1, 0, none⟩), .pointer (some ⟨c2, 0, none⟩)] H = some (.tuple #[], finD B h d, d) ∧ (J (MVb n E s n) h d ∨ ∃ a b, a < n ∧ b < n ∧ X (MVb n E s a ++ rowM n E s a (b + 1)) h d) := by
 subst hB
 have key : ∃ r, (∃ h d, r = (Value.tuple #[], finD H.length h d, d) ∧ (J (MVb n E s n) h d ∨ ∃ a b, a < n ∧ b < n ∧ X (MVb n E s a ++ rowM n E s a (b + 1)) h d)) ∧ M.call 77 [.func (.yield L) #[] #[], .pointer (some ⟨c1, 0, none⟩), .pointer (some ⟨c2, 0, none⟩)] H = some r := by
  refine call_ex (f := 77) _ sf77 rfl rfl rfl ?_
  have C := hC _ _ _ h0
  have l1 := C.l1 []
  rw [List.append_nil] at l1
  have l2 := C.gr.n
  unfold sf77
  repeat (first | apply Z1 | apply Z2 | apply Z3 | apply Z4 | apply Z5 rfl | apply Z6 | apply Z7 | apply Z8 | apply Z9 | apply ZA | apply ZB | apply ZC | ((first | apply ZD (by decide) | apply ZN (by decide)); (simp (maxSteps := 9999999) only [go_sem, argR, l1, l2]; rfl)) | (refine ZE ?_ ?_; · simp only [go_sem]) | (refine ZF ?_ ?_; · simp only [go_sem]))
  refine run_loop (from_loop77 J X hE hn hs hC hA hY n _ _ _ _ ⟨0, by omega, h0, by simp only [go_sem, argR], by simp only [go_sem, argR], by simp only [go_sem, argR], by simp only [go_sem], by simp only [go_sem], rfl⟩) ?_
  rintro ex ρ2 ms2 h2 d2 ⟨rfl, h⟩
  rcases h with ⟨rfl, hJ⟩ | ⟨rfl, a, b, ha, hb, hX⟩
  ·repeat (first | apply Z1 | apply Z2 | apply Z3 | apply Z4 | apply Z5 rfl | apply Z6 | apply Z7 | apply Z8 | apply Z9 | apply ZA | apply ZB | apply ZC | ((first | apply ZD (by decide) | apply ZN (by decide)); (simp (maxSteps := 9999999) only [go_sem]; rfl)) | (refine ZE ?_ ?_; · simp only [go_sem]) | (refine ZF ?_ ?_; · simp only [go_sem]))
   exact end_nil ⟨_, ⟨h2, d2, rfl, .inl hJ⟩, q_dirty rfl⟩
  ·repeat (first | apply Z1 | apply Z2 | apply Z3 | apply Z4 | apply Z5 rfl | apply Z6 | apply Z7 | apply Z8 | apply Z9 | apply ZA | apply ZB | apply ZC | ((first | apply ZD (by decide) | apply ZN (by decide)); (simp (maxSteps := 9999999) only [go_sem]; rfl)) | (refine ZE ?_ ?_; · simp only [go_sem]) | (refine ZF ?_ ?_; · simp only [go_sem]))
   exact end_nil ⟨_, ⟨h2, d2, rfl, .inr ⟨a, b, ha, hb, hX⟩⟩, q_dirty rfl⟩
 obtain ⟨r, ⟨h, d, rfl, k⟩, e⟩ := key
 exact ⟨h, d, e, k⟩
end
end
end Go.Proofs.YtpkhkghiidilcaaDoor.Sh
namespace Go.Proofs.YtpkhkghiidilcaaDoor.Sh
section
open Go
set_option maxRecDepth 100000
set_option maxHeartbeats 4000000
def rfA43_0 : SCode := (.region 0 [ ⟨(some 12), none, .alloc 106 true [(.int .i64 0), (.int .i64 0)], none, 0, false, []⟩, ⟨none, none, .store 2 (.tmp 12) (.tmp 27), none, 1, false, []⟩])
def rfB43_0 : SCode := (.block 1 (.region 0 [ ⟨(some 29), none, .load none (.tmp 11), none, 0, false, []⟩, ⟨(some 30), none, .fieldAddr 0 (.tmp 12), none, 1, false, []⟩, ⟨(some 31), none, .load none (.tmp 30), none, 2, false, []⟩, ⟨(some 32), none, .fieldAddr 1 (.tmp 12), none, 3, false, []⟩, ⟨(some 33), none, .load none (.tmp 32), none, 4, false, []⟩, ⟨(some 34), none, .build [(.int .i64 0), (.int .i64 0)] [(0, 1, (.tmp 31)), (1, 1, (.tmp 33))], none, 5, false, []⟩, ⟨(some 35), none, .buildSlice 45 true [(.int .i64 0), (.int .i64 0)] 1 [(0, 2, (.tmp 34))], none, 6, false, []⟩, ⟨(some 36), none, .append 45 true 2 16 (.tmp 29) (.tmp 35), none, 7, false, []⟩, ⟨none, none, .store 1 (.tmp 11) (.tmp 36), none, 8, false, []⟩]))
def prN (l : List (Nat × Nat)) : List Value := l.flatMap fun p => [.int .i64 (p.1 : Int), .int .i64 (p.2 : Int)]
theorem prN_snoc (l : List (Nat × Nat)) (a b : Nat) : prN (l ++ [(a, b)]) = prN l ++ [.int .i64 (a : Int), .int .i64 (b : Int)] := by simp [prN]
structure JM (N n : Nat) (E : List (Int × Int)) (s : Nat → Int) (t : T) (H : SHeap) (l : List (Nat × Nat)) (h : SHeap) (d : List Nat) : Prop where
 len : N + 7 ≤ h.length
 low : ∀ j, j < N → h[j]? = H[j]?
 cap : Caps h (N + 3) (N + 4) N n E s
 out : ∃ qv, h[N + 2]? = some (.cells [qv] 22 false 0 []) ∧ Acc (N + 7) h qv (prN l) l.length 2 45
 df : h[N + 5]? = some .deferred
 lp : h[N + 6]? = some (.loop 0 43 t [27, 28] rfA43_0 rfB43_0 none (N + 5))
 d1 : d = [] ↔ l = []
 d2 : ∀ x ∈ d, x = N + 2
theorem Caps.same {h h' : SHeap} {c1 c2 g n : Nat} {E : List (Int × Int)} {s : Nat → Int} (C : Caps h c1 c2 g n E s) (k : ∀ j, j = c1 ∨ j = c2 ∨ j = g → h'[j]? = h[j]?) : Caps h' c1 c2 g n E s :=
 ⟨by rw [k _ (.inl rfl)]; exact C.b1, by rw [k _ (.inr (.inl rfl))]; exact C.b2, by have := C.gr; unfold GAt at *; rw [k _ (.inr (.inr rfl))]; exact this⟩
theorem JM.app {N n : Nat} {E : List (Int × Int)} {s : Nat → Int} {t : T} {H : SHeap} {l : List (Nat × Nat)} {h : SHeap} {d : List Nat} (J : JM N n E s t H l h d) (x : SHeap) : JM N n E s t H l (h ++ x) d := by
 have hl := J.len
 have k : ∀ j, j < h.length → (h ++ x)[j]? = h[j]? := fun j hj => List.getElem?_append_left hj
 obtain ⟨qv, o1, o2⟩ := J.out
 exact ⟨by simp; omega, fun j hj => by rw [k j (by omega)]; exact J.low j hj, J.cap.same (fun j hj => k j (by omega)), ⟨qv, by rw [k _ (by omega)]; exact o1, o2.keep (fun b e => k b (o2.lt e).2)⟩, by rw [k _ (by omega)]; exact J.df, by rw [k _ (by omega)]; exact J.lp, J.d1, J.d2⟩
end
end Go.Proofs.YtpkhkghiidilcaaDoor.Sh
namespace Go.Proofs.YtpkhkghiidilcaaDoor.Sh
section
open Go
set_option maxRecDepth 100000
set_option maxHeartbeats 4000000
theorem rowM_len (n : Nat) (E : List (Int × Int)) (s : Nat → Int) (a : Nat) : ∀ b, (rowM n E s a b).length ≤ b
 | 0 => Nat.le_refl _
 | b + 1 => by
  have := rowM_len n E s a b
  show (_ ++ _ : List _).length ≤ b + 1
  rw [List.length_append]
  split <;> simp <;> omega
theorem MVb_len (n : Nat) (E : List (Int × Int)) (s : Nat → Int) : ∀ a, (MVb n E s a).length ≤ a * n
 | 0 => by simp [MVb]
 | a + 1 => by
  have := MVb_len n E s a
  have := rowM_len n E s a n
  show (_ ++ _ : List _).length ≤ (a + 1) * n
  rw [List.length_append, Nat.add_mul]; omega
def MVL (n : Nat) (E : List (Int × Int)) (s : Nat → Int) : List (Nat × Nat) := MVb n E s n
theorem MVL_len {n : Nat} (hn : n ≤ 6) (E : List (Int × Int)) (s : Nat → Int) : (MVL n E s).length ≤ 36 := by
 have := MVb_len n E s n
 have : n * n ≤ 6 * 6 := Nat.mul_le_mul hn hn
 unfold MVL; omega
theorem pos_len {n : Nat} (hn : n ≤ 6) (E : List (Int × Int)) (s : Nat → Int) {a b : Nat} (ha : a < n) (hb : b ≤ n) : (MVb n E s a ++ rowM n E s a b).length ≤ 42 := by
 have := MVb_len n E s a
 have := rowM_len n E s a b
 have : a * n ≤ 6 * 6 := Nat.mul_le_mul (by omega) hn
 rw [List.length_append]; omega
theorem wst (s : Nat → Int) : writeAt [.int .i64 0, .int .i64 0, .int .i64 0, .int .i64 0, .int .i64 0, .int .i64 0] 0 (cellsL (stV s)) = iV 6 s := rfl
theorem stk_bnd {n : Int} {l : List Int} (h : SupOK n l) (v : Nat) : 0 ≤ stk l v ∧ stk l v ≤ 40 := by
 by_cases c : v < l.length
 ·rw [stk_at c]; exact h.2.1 _ (List.getElem_mem c)
 ·rw [stk_out (by omega)]; omega
theorem q_gcM {rs : List SRes} {base : Nat} {ρ : Reg} {ms : List Nat} {h h2 h' : SHeap} {v : Value} {ex : Ex} (l : List Value) (hs : shut h ms = some h2) (he : resE ρ h2 rs = some l) (ho : l.all opnB = true) (hg : gcS base (oneV l) h2 = some (v, h')) (hx : isEnd ex = true) : callQ rs base (v, h', []) ex ρ ms h [] := by
 refine ⟨hx, ?_⟩
 have key : resW ρ h2 rs fun l' => endW base h2 [] (v, h', []) l' := resE_ok (K := fun l' => endW base h2 [] (v, h', []) l') he ho ⟨_, _, hg, rfl⟩
 cases ms with
 | nil =>
  have : h = h2 := by simpa [shut] using hs
  subst this
  exact key
 | cons m ms => exact ⟨h2, hs, key⟩
theorem JM.fin {N n : Nat} {E : List (Int × Int)} {s : Nat → Int} {t : T} {H : SHeap} {l : List (Nat × Nat)} {h : SHeap} {d : List Nat} (J : JM N n E s t H l h d) : JM N n E s t H l (finD (N + 7) h d) d := by
 cases d with
 | cons a d => exact J
 | nil =>
  have hl : l = [] := J.d1.1 rfl
  subst hl
  have jl := J.len
  have k : ∀ j, j < N + 7 → (h.take (N + 7))[j]? = h[j]? := fun j hj => by rw [List.getElem?_take, if_pos hj]
  obtain ⟨qv, o1, o2⟩ := J.out
  exact ⟨by show N + 7 ≤ (h.take (N + 7)).length; rw [List.length_take]; omega, fun j hj => by show (h.take (N + 7))[j]? = _; rw [k j (by omega)]; exact J.low j hj, J.cap.same (fun j hj => k j (by omega)), ⟨qv, by show (h.take (N + 7))[N + 2]? = _; rw [k _ (by omega)]; exact o1, by
   rcases o2 with o2 | ⟨_, _, _, _, _, h0, _⟩
   ·exact .inl o2
   ·exact (h0 rfl).elim⟩, by show (h.take (N + 7))[N + 5]? = _; rw [k _ (by omega)]; exact J.df, by show (h.take (N + 7))[N + 6]? = _; rw [k _ (by omega)]; exact J.lp, J.d1, J.d2⟩
section
variable {H : SHeap} {v sv : Value} {E : List (Int × Int)} {l : List Int}
end
end
end Go.Proofs.YtpkhkghiidilcaaDoor.Sh
namespace Go.Proofs.YtpkhkghiidilcaaDoor.Sh
section
open Go
set_option maxRecDepth 100000
set_option maxHeartbeats 4000000
def lst (n : Nat) (f : Nat → Int) : List Int := (List.range n).map f
theorem lst_len (n : Nat) (f : Nat → Int) : (lst n f).length = n := by simp [lst]
theorem lst_at {n v : Nat} (f : Nat → Int) (h : v < n) : stk (lst n f) v = f v := by
 rw [stk_at (by rw [lst_len]; exact h)]; simp [lst]
theorem lst_stk {l : List Int} {n : Nat} (h : l.length = n) : lst n (stk l) = l := by
 subst h
 apply List.ext_getElem (lst_len _ _)
 intro i h1 h2
 simp [lst, stk_at h2]
theorem map_stk {l : List Int} {n : Nat} (h : l.length = n) : l.map mkI = iV n (stk l) := by
 subst h
 apply List.ext_getElem?
 intro i
 by_cases c : i < l.length
 ·rw [iV_get _ c, stk_at c, List.getElem?_map, List.getElem?_eq_getElem c]; rfl
 ·rw [List.getElem?_eq_none (by rw [List.length_map]; omega), List.getElem?_eq_none (by rw [iV_len]; omega)]
theorem append_nil1 {h : SHeap} {b o n c : Nat} {cs : List Value} (hn : n ≠ 0) (hr : rdN h b o (n * 1) = some cs) (hsc : cs.all sc = true) (hb : n ≤ 1000000) (base : Nat) (d : List Nat) : appendS base h d 3 true 1 8 (.slice none 0 0) (.slice (some ⟨b, o, none⟩) n c) = some (.slice (some ⟨h.length, 0, none⟩) n (UNK + 1), h ++ [.cells cs 3 true 0 []], d) := by
 have hn0 : (n == 0) = false := beq_eq_false_iff_ne.2 hn
 have e4 : Nat.ble ((0 + n) * 8) 140737488355328 = true := by rw [ble_dec]; simp; omega
 have hone := all_sc_one cs hsc
 unfold appendS
 simp only [lenS, seenS, hr, hn0, e4, hone, hsc]
 simp [-List.all_eq_true, hone, hsc, Nat.blt]
section
variable {H h : SHeap} {b o n c : Nat}
theorem gc_old2 {w : Value} (hw : flat 1 w = true) (hb : b < H.length) (ht : h.take H.length = H) : gcS H.length (.tuple #[.slice (some ⟨b, o, none⟩) n c, w]) h = some (.tuple #[.slice (some ⟨b, o, none⟩) n c, w], H) := by
 have hp : ptrs 2 w = [] ∧ ∀ K, renV H.length K 2 w = some w := ⟨ptrs_flat 2 w (flat_up _ _ hw), fun K => renV_flat 2 w (flat_up _ _ hw)⟩
 have e4 : ptrs 3 (.tuple #[.slice (some ⟨b, o, none⟩) n c, w]) = [b] := by
  show ptrs 2 (.slice (some ⟨b, o, none⟩) n c) ++ (ptrs 2 w ++ []) = [b]
  rw [hp.1]; rfl
 have e1 : reach H.length h 1000000 [b] [] = [] := by
  rw [show (1000000 : Nat) = 999998 + 1 + 1 from rfl, reach_old hb]
  rw [reach]
 have e2 : ren H.length [] b = some b := ren_old hb
 have e3 := hp.2 []
 unfold gcS
 simp only [e4, e1, renV, e2, e3, mapO, ht, List.append_nil]
end
theorem two_ld (h : SHeap) (a b : Int) (x : List SO) : loadS (h ++ .cells [.int .i64 a, .int .i64 b] 45 true 0 [] :: x) none (.pointer (some ⟨h.length, 0, none⟩)) = some (.int .i64 a) ∧ loadS (h ++ .cells [.int .i64 a, .int .i64 b] 45 true 0 [] :: x) none (.pointer (some ⟨h.length, 1, none⟩)) = some (.int .i64 b) :=
 ⟨by rw [load_app0]; rfl, by rw [load_app0]; rfl⟩
theorem move47 {H : SHeap} {n : Nat} (hn : n ≤ 6) {ev lv : Value} {E : List (Int × Int)} {l : List Int} (hv : PS H ev E) (hlen : E.length ≤ 1000000) (hs : IS H lv l) (hl : l.length = n) (hb : ∀ x ∈ l, -500 ≤ x ∧ x ≤ 500) (hn1 : 1 ≤ n) (a b : Int) :
  M.call 47 [.int .i64 n, ev, lv, .agg #[.int .i64 a, .int .i64 b]] H = some (if canM n E (stk l) a b then (.tuple #[.slice (some ⟨H.length, 0, none⟩) n (UNK + 1), .bool true], H ++ [.cells (iV n (aft (stk l) a.toNat b.toNat)) 3 true 0 []], []) else (.tuple #[lv, .bool false], H, [])) := by
 refine call_run sf47 rfl rfl rfl ?_
 have hne : l ≠ [] := fun e => by subst e; simp at hl; omega
 have hmk := map_stk hl
 subst hl
 obtain ⟨va, vc, rfl, _⟩ := id hv
 obtain ⟨sa, sc', rfl, hs2⟩ := id hs
 obtain ⟨bs, os, rfl, hbs, il⟩ := hs2 hne
 have no : ∀ (ρ : Reg) (h : SHeap), h.take H.length = H → ρ 8 = .slice (some ⟨bs, os, none⟩) l.length sc' → ρ 9 = .bool false → callQ [.tmp 8, .tmp 9] H.length (.tuple #[.slice (some ⟨bs, os, none⟩) l.length sc', .bool false], H, []) .ret ρ [] h [] := fun ρ h ht e1 e2 =>
  q_gc [.slice (some ⟨bs, os, none⟩) l.length sc', .bool false] (by simp only [go_sem, e1, e2]) rfl (gc_old2 rfl hbs ht) rfl
 unfold sf47
 by_cases c1 : a < 0
 ·rw [if_neg (fun h : canM l.length E (stk l) a b => by have := h.1.1; omega)]
  repeat (first | apply Z1 | apply Z2 | apply Z3 | apply Z4 | apply Z5 rfl | apply Z6 | apply Z7 | apply Z8 | apply Z9 | apply ZA | apply ZB | apply ZC | ((first | apply ZD (by decide) | apply ZN (by decide)); (simp (maxSteps := 9999999) only [go_sem, argR, c1]; rfl)) | (refine ZE ?_ ?_; · simp only [go_sem]) | (refine ZF ?_ ?_; · simp only [go_sem]))
  exact end_nil (no _ _ (by simp) (by simp only [go_sem]) (by simp only [go_sem]))
 ·by_cases c2 : (l.length : Int) ≤ a
  ·rw [if_neg (fun h : canM l.length E (stk l) a b => by have := h.1.2; omega)]
   repeat (first | apply Z1 | apply Z2 | apply Z3 | apply Z4 | apply Z5 rfl | apply Z6 | apply Z7 | apply Z8 | apply Z9 | apply ZA | apply ZB | apply ZC | ((first | apply ZD (by decide) | apply ZN (by decide)); (simp (maxSteps := 9999999) only [go_sem, argR, c1, c2]; rfl)) | (refine ZE ?_ ?_; · simp only [go_sem]) | (refine ZF ?_ ?_; · simp only [go_sem]))
   exact end_nil (no _ _ (by simp) (by simp only [go_sem]) (by simp only [go_sem]))
  ·by_cases c3 : b < 0
   ·rw [if_neg (fun h : canM l.length E (stk l) a b => by have := h.2.1.1; omega)]
    repeat (first | apply Z1 | apply Z2 | apply Z3 | apply Z4 | apply Z5 rfl | apply Z6 | apply Z7 | apply Z8 | apply Z9 | apply ZA | apply ZB | apply ZC | ((first | apply ZD (by decide) | apply ZN (by decide)); (simp (maxSteps := 9999999) only [go_sem, argR, c1, c2, c3]; rfl)) | (refine ZE ?_ ?_; · simp only [go_sem]) | (refine ZF ?_ ?_; · simp only [go_sem]))
    exact end_nil (no _ _ (by simp) (by simp only [go_sem]) (by simp only [go_sem]))
   ·by_cases c4 : (l.length : Int) ≤ b
    ·rw [if_neg (fun h : canM l.length E (stk l) a b => by have := h.2.1.2; omega)]
     repeat (first | apply Z1 | apply Z2 | apply Z3 | apply Z4 | apply Z5 rfl | apply Z6 | apply Z7 | apply Z8 | apply Z9 | apply ZA | apply ZB | apply ZC | ((first | apply ZD (by decide) | apply ZN (by decide)); (simp (maxSteps := 9999999) only [go_sem, argR, c1, c2, c3, c4]; rfl)) | (refine ZE ?_ ?_; · simp only [go_sem]) | (refine ZF ?_ ?_; · simp only [go_sem]))
     exact end_nil (no _ _ (by simp) (by simp only [go_sem]) (by simp only [go_sem]))
    ·obtain ⟨p, rfl⟩ : ∃ p : Nat, a = p := ⟨a.toNat, by omega⟩
     obtain ⟨q, rfl⟩ : ∃ q : Nat, b = q := ⟨b.toNat, by omega⟩
     have hpn : p < l.length := by omega
     have hqn : q < l.length := by omega
     have cj := joined66 (hv.app [.cells [.int .i64 p, .int .i64 q] 45 true 0 []]) hlen p q
     by_cases c5 : adjE E p q = true
     ·rw [c5] at cj
      have z1 : (0 : Int) ≤ p := by omega
      have z2 : (p : Int) < l.length := by omega
      have hlp : p < l.length := by omega
      have lp : loadS (H ++ [.cells [.int .i64 p, .int .i64 q] 45 true 0 []]) none (.pointer (some ⟨bs, os + p, none⟩)) = some (.int .i64 (stk l p)) := by
       rw [load_same' (h := H) (List.getElem?_append_left hbs), il p hlp, stk_at hlp]
      by_cases c6 : stk l p < 2
      ·rw [if_neg (fun h : canM l.length E (stk l) p q => by have := h.2.2.2; rw [Int.toNat_natCast] at this; omega)]
       repeat (first | apply Z1 | apply Z2 | apply Z3 | apply Z4 | apply Z5 rfl | apply Z6 | apply Z7 | apply Z8 | apply Z9 | apply ZA | apply ZB | apply ZC | ((first | apply ZD (by decide) | apply ZN (by decide)); (simp (maxSteps := 9999999) only [go_sem, argR, c1, c2, c3, c4, cj, z1, z2, lp, c6, Int.toNat_natCast]; rfl)) | (refine ZE ?_ ?_; · simp only [go_sem]) | (refine ZF ?_ ?_; · simp only [go_sem]))
       exact end_nil (no _ _ (by simp) (by simp only [go_sem]) (by simp only [go_sem]))
      ·rw [if_pos (show canM l.length E (stk l) p q from ⟨⟨by omega, by omega⟩, ⟨by omega, by omega⟩, c5, by rw [Int.toNat_natCast]; omega⟩)]
       have hlq : q < l.length := by omega
       have hr : rdN (H ++ [.cells [.int .i64 p, .int .i64 q] 45 true 0 []]) bs os (l.length * 1) = some (iV l.length (stk l)) := by
        rw [← hmk]
        exact (il.fr (List.getElem?_append_left hbs)).rdN hne
       have ap := append_nil1 (c := sc') (by omega) hr (iV_sc _ _) (by omega)
       rw [List.append_assoc, List.length_append] at ap
       have ap' : ∀ (base : Nat) (d : List Nat), appendS base (H ++ [.cells [.int .i64 p, .int .i64 q] 45 true 0 []]) d 3 true 1 8 (.slice none 0 0) (.slice (some ⟨bs, os, none⟩) l.length sc') = some (.slice (some ⟨H.length + 1, 0, none⟩) l.length (UNK + 1), H ++ [.cells [.int .i64 p, .int .i64 q] 45 true 0 [], .cells (iV l.length (stk l)) 3 true 0 []], d) := ap
       have hld : ∀ (f : Nat → Int) x v, v < l.length → loadS (H ++ [x, .cells (iV l.length f) 3 true 0 []]) none (.pointer (some ⟨H.length + 1, v, none⟩)) = some (.int .i64 (f v)) := fun f x v hv => by
        have := load_cell (h := H ++ [x, .cells (iV l.length f) 3 true 0 []]) (b := H.length + 1) (o := v) (by rw [app_get]; rfl) rfl (iV_get f hv) []
        rw [List.append_nil] at this; exact this
       have hst : ∀ (f : Nat → Int) x v (w : Int) base d, v < l.length → storeS base (H ++ [x, .cells (iV l.length f) 3 true 0 []]) d (H.length + 1) v (cellsL (.int .i64 w)) = some (H ++ [x, .cells (iV l.length (up f v w)) 3 true 0 []], d) := fun f x v w base d hv => by
        have := store_cell (h := H ++ [x, .cells (iV l.length f) 3 true 0 []]) (base := base) (b := H.length + 1) (o := v) (c := .int .i64 w) (cs := iV l.length f) (el := 3) (pf := true) (by rw [app_get]; rfl) (by rw [iV_len]; exact hv) rfl (fun _ => rfl) d
        rw [iV_set f hv] at this
        rw [cells_int, this, List.set_append_right _ _ (by omega), Nat.add_sub_cancel_left]
        rfl
       have b1 : ∀ v, v < l.length → -500 ≤ stk l v ∧ stk l v ≤ 500 := fun v hv => by rw [stk_at hv]; exact hb _ (List.getElem_mem hv)
       have bp := b1 p hlp
       have bq := b1 q hlq
       generalize stk l = f at *
       have w1 : IntKind.i64.wrap (f p - 2) = f p - 2 := wrap64 (by omega) (by omega)
       have hb2 : -502 ≤ up f p (f p - 2) q ∧ up f p (f p - 2) q ≤ 500 := by unfold up; split <;> omega
       have w2 : IntKind.i64.wrap (up f p (f p - 2) q + 1) = up f p (f p - 2) q + 1 := wrap64 (by omega) (by omega)
       have l1 := fun x => hld f x p hlp
       have l2 := fun x => hld (up f p (f p - 2)) x q hlq
       have s1 := fun x base d => hst f x p (f p - 2) base d hlp
       have s2 := fun x base d => hst (up f p (f p - 2)) x q (up f p (f p - 2) q + 1) base d hlq
       have z3 : (0 : Int) ≤ q := by omega
       have z4 : (q : Int) < l.length := by omega
       repeat (first | apply Z1 | apply Z2 | apply Z3 | apply Z4 | apply Z5 rfl | apply Z6 | apply Z7 | apply Z8 | apply Z9 | apply ZA | apply ZB | apply ZC | ((first | apply ZD (by decide) | apply ZN (by decide)); (simp (maxSteps := 9999999) only [go_sem, argR, c1, c2, c3, c4, cj, z1, z2, z3, z4, lp, c6, ap', l1, ↓s1, w1, l2, ↓s2, w2, Int.toNat_natCast]; rfl)) | (refine ZE ?_ ?_; · simp only [go_sem]) | (refine ZF ?_ ?_; · simp only [go_sem]))
       exact end_nil (q_own2 (b := H.length + 1) (old := []) (own := 0) (w := .bool true) (by simp only [go_sem]) (by simp only [go_sem]) rfl (by simp) (by rw [app_get]; rfl) rfl (by omega))
     ·rw [Bool.not_eq_true] at c5
      rw [c5] at cj
      rw [if_neg (fun h : canM l.length E (stk l) p q => by have := h.2.2.1; rw [Int.toNat_natCast, Int.toNat_natCast, c5] at this; cases this)]
      repeat (first | apply Z1 | apply Z2 | apply Z3 | apply Z4 | apply Z5 rfl | apply Z6 | apply Z7 | apply Z8 | apply Z9 | apply ZA | apply ZB | apply ZC | ((first | apply ZD (by decide) | apply ZN (by decide)); (simp (maxSteps := 9999999) only [go_sem, argR, c1, c2, c3, c4, cj]; rfl)) | (refine ZE ?_ ?_; · simp only [go_sem]) | (refine ZF ?_ ?_; · simp only [go_sem]))
      exact end_nil (no _ _ (by simp) (by simp only [go_sem]) (by simp only [go_sem]))
end
end Go.Proofs.YtpkhkghiidilcaaDoor.Sh
namespace Go.Proofs.YtpkhkghiidilcaaDoor.Sh
section
open Go
set_option maxRecDepth 100000
set_option maxHeartbeats 4000000
theorem MVrow_if {n : Nat} {E : List (Int × Int)} {s : Nat → Int} (a b : Nat) : MVb n E s a ++ rowM n E s a (b + 1) = (MVb n E s a ++ rowM n E s a b) ++ if canM n E s a b then [(a, b)] else [] := by
 show _ ++ (_ ++ _) = _
 rw [List.append_assoc]
theorem row44_loop (cx : Cx) {H : SHeap} {n : Nat} (hn : n ≤ 6) (hn1 : 1 ≤ n) {ev lv : Value} {E : List (Int × Int)} {l : List Int} (hv : PS H ev E) (hlen : E.length ≤ 1000000) (hs : IS H lv l) (hl : l.length = n) (hb : ∀ x ∈ l, -500 ≤ x ∧ x ≤ 500) {a : Nat} (ha : a < n) :
  ∀ k ρ ms h' d', (∃ (b : Nat) (qv : Value), b + k = n ∧ AccS H h' qv (prN (MVb n E (stk l) a ++ rowM n E (stk l) a b)) (MVb n E (stk l) a ++ rowM n E (stk l) a b).length 2 45 ∧ ρ 0 = .int .i64 n ∧ ρ 1 = ev ∧ ρ 2 = lv ∧ ρ 7 = qv ∧ ρ 8 = .int .i64 a ∧ ρ 9 = .int .i64 b ∧ ms = [] ∧ d' = []) →
  LoopW M cx 6 sf44L0 ρ ms h' d' (fun ex ρ' ms' h' d' => ex = .exit 2 ∧ ms' = [] ∧ d' = [] ∧ ∃ qv : Value, AccS H h' qv (prN (MVb n E (stk l) a ++ rowM n E (stk l) a n)) (MVb n E (stk l) a ++ rowM n E (stk l) a n).length 2 45 ∧ ρ' 0 = .int .i64 n ∧ ρ' 1 = ev ∧ ρ' 2 = lv ∧ ρ' 7 = qv ∧ ρ' 8 = .int .i64 a) := by
 refine loop_run _ ?_
 rintro k ρ ms h' d' ⟨b, qv, hk, A, r0, r1, r2, r7, r8, r9, rfl, rfl⟩
 unfold sf44L0
 by_cases c : k = 0
 ·have e1 : ¬ ((b : Int) < n) := by omega
  obtain rfl : b = n := by omega
  repeat (first | apply Z1 | apply Z2 | apply Z3 | apply Z4 | apply Z5 rfl | apply Z6 | apply Z7 | apply Z8 | apply Z9 | apply ZA | apply ZB | apply ZC | ((first | apply ZD (by decide) | apply ZN (by decide)); (simp (maxSteps := 9999999) only [go_sem, r0, r9, e1]; rfl)) | (refine ZE ?_ ?_; · simp only [go_sem]) | (refine ZF ?_ ?_; · simp only [go_sem]))
  exact end_nil ⟨rfl, rfl, rfl, qv, A, by simp only [go_sem, r0], by simp only [go_sem, r1], by simp only [go_sem, r2], by simp only [go_sem, r7], by simp only [go_sem, r8]⟩
 ·have e1 : ((b : Int) < n) := by omega
  have ew : IntKind.i64.wrap ((b : Int) + 1) = ((b + 1 : Nat) : Int) := by rw [wrap64 (by omega) (by omega)]; rfl
  have cm := move47 hn (hv.fr A.same) hlen (hs.fr A.le A.same) hl hb hn1 (a : Int) (b : Int)
  rw [Int.toNat_natCast, Int.toNat_natCast] at cm
  have hplen := pos_len hn E (stk l) (a := a) (b := b) ha (by omega)
  by_cases cc : canM n E (stk l) a b
  ·rw [if_pos cc] at cm
   have A1 := A.app [.cells (iV n (aft (stk l) a b)) 3 true 0 [], .cells [.int .i64 a, .int .i64 b] 45 true 0 []]
   obtain ⟨H2, v2, ap, ⟨b2, hv2⟩, A3, _, _⟩ := A1.push (bs := h'.length + 1) (bytes := 16) (new := [.int .i64 a, .int .i64 b]) (el2 := 45) (pf2 := true) (own2 := 0) (old2 := []) (by rw [app_get]; rfl) rfl rfl (by decide) rfl (by decide) (by omega)
   repeat (first | apply Z1 | apply Z2 | apply Z3 | apply Z4 | apply Z5 rfl | apply Z6 | apply Z7 | apply Z8 | apply Z9 | apply ZA | apply ZB | apply ZC | ((first | apply ZD (by decide) | apply ZN (by decide)); (simp (maxSteps := 9999999) only [go_sem, r0, r1, r2, r7, r8, r9, e1, cm, ap, ew]; rfl)) | (refine ZE ?_ ?_; · simp only [go_sem]) | (refine ZF ?_ ?_; · simp only [go_sem]))
   refine end_nil ⟨k - 1, by omega, b + 1, v2, by omega, ?_, by simp only [go_sem, r0], by simp only [go_sem, r1], by simp only [go_sem, r2], by simp only [go_sem], by simp only [go_sem, r8], by simp only [go_sem, ew], rfl, rfl⟩
   rw [MVrow_if, if_pos cc, prN_snoc, List.length_append (bs := [(a, b)])]
   exact A3
  ·rw [if_neg cc] at cm
   repeat (first | apply Z1 | apply Z2 | apply Z3 | apply Z4 | apply Z5 rfl | apply Z6 | apply Z7 | apply Z8 | apply Z9 | apply ZA | apply ZB | apply ZC | ((first | apply ZD (by decide) | apply ZN (by decide)); (simp (maxSteps := 9999999) only [go_sem, r0, r1, r2, r7, r8, r9, e1, cm, ew]; rfl)) | (refine ZE ?_ ?_; · simp only [go_sem]) | (refine ZF ?_ ?_; · simp only [go_sem]))
   refine end_nil ⟨k - 1, by omega, b + 1, qv, by omega, ?_, by simp only [go_sem, r0], by simp only [go_sem, r1], by simp only [go_sem, r2], by simp only [go_sem, r7], by simp only [go_sem, r8], by simp only [go_sem, ew], rfl, rfl⟩
   rw [MVrow_if, if_neg cc, List.append_nil]
   exact A
theorem rows44_loop (cx : Cx) {H : SHeap} {n : Nat} (hn : n ≤ 6) (hn1 : 1 ≤ n) {ev lv : Value} {E : List (Int × Int)} {l : List Int} (hv : PS H ev E) (hlen : E.length ≤ 1000000) (hs : IS H lv l) (hl : l.length = n) (hb : ∀ x ∈ l, -500 ≤ x ∧ x ≤ 500) :
  ∀ k ρ ms h' d', (∃ (a : Nat) (qv : Value), a + k = n ∧ AccS H h' qv (prN (MVb n E (stk l) a)) (MVb n E (stk l) a).length 2 45 ∧ ρ 0 = .int .i64 n ∧ ρ 1 = ev ∧ ρ 2 = lv ∧ ρ 7 = qv ∧ ρ 8 = .int .i64 a ∧ ms = [] ∧ d' = []) →
  LoopW M cx 6 sf44L1 ρ ms h' d' (fun ex ρ' ms' h' d' => ex = .exit 0 ∧ ms' = [] ∧ d' = [] ∧ ∃ qv : Value, AccS H h' qv (prN (MVL n E (stk l))) (MVL n E (stk l)).length 2 45 ∧ ρ' 7 = qv) := by
 refine loop_run _ ?_
 rintro k ρ ms h' d' ⟨a, qv, hk, A, r0, r1, r2, r7, r8, rfl, rfl⟩
 unfold sf44L1
 by_cases c : k = 0
 ·have e1 : ¬ ((a : Int) < n) := by omega
  obtain rfl : a = n := by omega
  repeat (first | apply Z1 | apply Z2 | apply Z3 | apply Z4 | apply Z5 rfl | apply Z6 | apply Z7 | apply Z8 | apply Z9 | apply ZA | apply ZB | apply ZC | ((first | apply ZD (by decide) | apply ZN (by decide)); (simp (maxSteps := 9999999) only [go_sem, r0, r8, e1]; rfl)) | (refine ZE ?_ ?_; · simp only [go_sem]) | (refine ZF ?_ ?_; · simp only [go_sem]))
  exact end_nil ⟨rfl, rfl, rfl, qv, A, by simp only [go_sem, r7]⟩
 ·have e1 : ((a : Int) < n) := by omega
  have ew : IntKind.i64.wrap ((a : Int) + 1) = ((a + 1 : Nat) : Int) := by rw [wrap64 (by omega) (by omega)]; rfl
  repeat (first | apply Z1 | apply Z2 | apply Z3 | apply Z4 | apply Z5 rfl | apply Z6 | apply Z7 | apply Z8 | apply Z9 | apply ZA | apply ZB | apply ZC | ((first | apply ZD (by decide) | apply ZN (by decide)); (simp (maxSteps := 9999999) only [go_sem, r0, r1, r2, r7, r8, e1]; rfl)) | (refine ZE ?_ ?_; · simp only [go_sem]) | (refine ZF ?_ ?_; · simp only [go_sem]))
  refine run_loop (row44_loop cx hn hn1 hv hlen hs hl hb (a := a) (by omega) n _ _ _ _ ⟨0, qv, by omega, by rw [rowM, List.append_nil]; exact A, by simp only [go_sem, r0], by simp only [go_sem, r1], by simp only [go_sem, r2], by simp only [go_sem, r7], by simp only [go_sem, r8], by simp only [go_sem], rfl, rfl⟩) ?_
  rintro ex ρ2 ms2 h2 d2 ⟨rfl, rfl, rfl, qv2, A2, t0, t1, t2, t7, t8⟩
  repeat (first | apply Z1 | apply Z2 | apply Z3 | apply Z4 | apply Z5 rfl | apply Z6 | apply Z7 | apply Z8 | apply Z9 | apply ZA | apply ZB | apply ZC | ((first | apply ZD (by decide) | apply ZN (by decide)); (simp (maxSteps := 9999999) only [go_sem, t0, t1, t2, t7, t8, ew]; rfl)) | (refine ZE ?_ ?_; · simp only [go_sem]) | (refine ZF ?_ ?_; · simp only [go_sem]))
  exact end_nil ⟨k - 1, by omega, a + 1, qv2, by omega, A2, by simp only [go_sem, t0], by simp only [go_sem, t1], by simp only [go_sem, t2], by simp only [go_sem, t7], by simp only [go_sem, ew], rfl, rfl⟩
theorem moves44 {H : SHeap} {n : Nat} (hn : n ≤ 6) (hn1 : 1 ≤ n) {ev lv : Value} {E : List (Int × Int)} {l : List Int} (hv : PS H ev E) (hlen : E.length ≤ 1000000) (hs : IS H lv l) (hl : l.length = n) (hb : ∀ x ∈ l, -500 ≤ x ∧ x ≤ 500) :
  M.call 44 [.int .i64 n, ev, lv] H = some (resV H (MVL n E (stk l)).length 2, resH H (prN (MVL n E (stk l))) (MVL n E (stk l)).length 45, []) := by
 refine call_run sf44 rfl rfl rfl ?_
 obtain ⟨va, vc, rfl, _⟩ := id hv
 obtain ⟨sa, sc', rfl, hs2⟩ := id hs
 unfold sf44
 repeat (first | apply Z1 | apply Z2 | apply Z3 | apply Z4 | apply Z5 rfl | apply Z6 | apply Z7 | apply Z8 | apply Z9 | apply ZA | apply ZB | apply ZC | ((first | apply ZD (by decide) | apply ZN (by decide)); (simp (maxSteps := 9999999) only [go_sem, argR]; rfl)) | (refine ZE ?_ ?_; · simp only [go_sem]) | (refine ZF ?_ ?_; · simp only [go_sem]))
 refine run_loop (rows44_loop _ hn hn1 hv hlen hs hl hb n _ _ _ _ ⟨0, .slice none 0 0, by omega, AccS.nil0 H 2 45, by simp only [go_sem, argR], by simp only [go_sem, argR], by simp only [go_sem, argR], by simp only [go_sem], by simp only [go_sem], rfl, rfl⟩) ?_
 rintro ex ρ2 ms2 h2 d2 ⟨rfl, rfl, rfl, qv, A, r7⟩
 have A0 := A.at0
 obtain ⟨qa, qc, rfl⟩ := A.shape
 repeat (first | apply Z1 | apply Z2 | apply Z3 | apply Z4 | apply Z5 rfl | apply Z6 | apply Z7 | apply Z8 | apply Z9 | apply ZA | apply ZB | apply ZC | ((first | apply ZD (by decide) | apply ZN (by decide)); (simp (maxSteps := 9999999) only [go_sem, r7]; rfl)) | (refine ZE ?_ ?_; · simp only [go_sem]) | (refine ZF ?_ ?_; · simp only [go_sem]))
 exact end_nil (A0.ret1 (by simp only [go_sem, r7]))
end
end Go.Proofs.YtpkhkghiidilcaaDoor.Sh
