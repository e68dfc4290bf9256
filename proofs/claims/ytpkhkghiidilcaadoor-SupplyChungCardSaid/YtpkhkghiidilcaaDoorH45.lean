/- The package variable of supply stands in every world that the rows speak of. -/
import Derived.Test.YtpkhkghiidilcaaDoorH43
import Derived.Test.YtpkhkghiidilcaaDoorRows
import Derived.LaidLaws
import Derived.LaidHandle
import Derived.ChangeSame
import Derived.Test.YtpkhkghiidilcaaDoorH41
set_option linter.all false
namespace Go.Proofs.YtpkhkghiidilcaaDoor.Sh
open Go Go.RowKit Go.WideShapes Go.ChangeShapes
set_option maxRecDepth 100000
theorem noneN : Tryd.prog.globalNamed "careen/supply.none" = some 0 := by kernel_rfl
theorem only : ((List.range Tryd.prog.globals.size).all fun g => (laidG Tryd.prog g).isNone || Nat.beq g 0) = true := by kernel_rfl
theorem laid0 : laidG Tryd.prog 0 = some [.int .i64 0, .int .i64 0] := by kernel_rfl
theorem ty0 : (Tryd.prog.globals[0]?).map (·.type) = some 129 := by kernel_rfl
def st2 (d : Option TypeDesc) (t0 o0 t1 o1 : Nat) : Bool := match d with
  | some (.struct fs) => match fs.toList with
    | [f0, f1] => Nat.beq f0.type t0 && Nat.beq f0.offset o0 && Nat.beq f1.type t1 && Nat.beq f1.offset o1
    | _ => false
  | _ => false
theorem st2_ok {d : Option TypeDesc} {t0 o0 t1 o1 : Nat} (h : st2 d t0 o0 t1 o1 = true) : ∃ f0 f1 : Field, d = some (.struct #[f0, f1]) ∧ f0.type = t0 ∧ f0.offset = o0 ∧ f1.type = t1 ∧ f1.offset = o1 := by
  unfold st2 at h
  split at h
  · rename_i fs
    split at h
    · rename_i f0 f1 e
      simp only [Bool.and_eq_true] at h
      obtain ⟨⟨⟨h1, h2⟩, h3⟩, h4⟩ := h
      refine ⟨f0, f1, ?_, Nat.eq_of_beq_eq_true h1, Nat.eq_of_beq_eq_true h2, Nat.eq_of_beq_eq_true h3, Nat.eq_of_beq_eq_true h4⟩
      have : fs = #[f0, f1] := Array.ext' e
      rw [this]
    · cases h
  · cases h
theorem u129 : ∃ f0 f1 : Field, Tryd.prog.underlying 129 = some (.struct #[f0, f1]) ∧ f0.type = 3 ∧ f0.offset = 0 ∧ f1.type = 3 ∧ f1.offset = 1 := st2_ok (by kernel_rfl)
theorem u3 : Tryd.prog.underlying 3 = some (.int .i64) := by kernel_rfl
theorem cells129 : Tryd.prog.cellsOf 129 = 2 := by kernel_rfl
theorem cells3 : Tryd.prog.cellsOf 3 = 1 := by kernel_rfl
theorem var_heap {P : Program} {w : World} {n : String} {g : Nat} {cs : Array Value} (hg : P.globalNamed n = some g) (h : w.var? P n = some cs) : ∃ el fr, w.heap[g]? = some (.cells cs el fr) := by
  simp only [World.var?, hg, Option.bind_some] at h
  split at h
  · rename_i c el fr hh; cases h; exact ⟨el, fr, hh⟩
  · cases h
theorem glob_of_laid {W : World} (h : laidMetH Tryd.prog [("careen/supply.none", Rows.laid_careen_supply_none)] W) : GlobW Tryd.prog W := by
  have h' : laidMet Tryd.prog [("careen/supply.none", Rows.laid_careen_supply_none)] W := h
  obtain ⟨ps, hl, _, _⟩ := h'
  obtain ⟨g0, t0, cs0, f0, p0, q0, a1, a2, a3, a4, _, _⟩ := hl
  obtain rfl := Option.some.inj (noneN.symm.trans a1)
  obtain rfl := Option.some.inj (ty0.symm.trans a2)
  obtain ⟨s0, s1, hu, t0, o0, t1, o1⟩ := u129
  have c0 : cs0.toList = [.int .i64 0, .int .i64 0] := by
    obtain ⟨y0, y1, n, hx, hl, h0, h1⟩ := trod_struct2 hu a4
    rw [cells129] at hl
    rw [t0, o0, cells3] at h0
    rw [t1, o1, cells3] at h1
    match hcs : cs0.toList, hl with
    | [c0, c1], _ =>
      rw [hcs] at h0 h1
      simp only [List.drop_zero, List.drop_succ_cons, List.take_succ_cons, List.take_zero] at h0 h1
      obtain ⟨n0, e0, f0, _⟩ := DataW.trod_int u3 h0
      obtain ⟨n1, e1, f1, _⟩ := DataW.trod_int u3 h1
      simp only [List.cons.injEq, and_true] at e0 e1
      rw [e0, e1]
      simp only [Rows.laid_careen_supply_none, Prod.mk.injEq, DataW.agg.injEq, List.cons.injEq, and_true] at hx
      obtain ⟨⟨g0, g1⟩, _⟩ := hx
      rw [f0] at g0
      rw [f1] at g1
      simp only [DataW.lit.injEq, Lit.int.injEq, true_and] at g0 g1
      rw [← g0, ← g1]
  obtain ⟨el0, fr0, w0⟩ := var_heap noneN a3
  intro g l hg
  have hlt : g < Tryd.prog.globals.size := by
    unfold laidG at hg
    split at hg
    · rename_i v hv; exact (Array.getElem?_eq_some_iff.1 hv).1
    · cases hg
  have ho := List.all_eq_true.1 only g (List.mem_range.2 hlt)
  rw [hg] at ho
  simp only [Option.isNone_some, Bool.false_or, Nat.beq_eq] at ho
  subst ho
  rw [laid0] at hg; cases hg
  exact ⟨(Array.getElem?_eq_some_iff.1 w0).1, el0, fr0, by rw [w0, ← c0]⟩
end Go.Proofs.YtpkhkghiidilcaaDoor.Sh

namespace Go.Proofs.YtpkhkghiidilcaaDoor.Sh
open Go
set_option maxRecDepth 100000
set_option maxHeartbeats 1000000
structure IsD (n : Nat) (adj : Nat → Nat → Bool) (s : Nat) (F : Nat → Int) : Prop where
  src : F s = 0
  prv : ∀ v, v < n → 0 ≤ F v → v ≠ s → ∃ u, u < n ∧ adj u v = true ∧ 0 ≤ F u ∧ F v = F u + 1
  nxt : ∀ u v, u < n → v < n → 0 ≤ F u → adj u v = true → 0 ≤ F v ∧ F v ≤ F u + 1
theorem IsD.le {n : Nat} {adj : Nat → Nat → Bool} {s : Nat} {F F' : Nat → Int} (h : IsD n adj s F) (h' : IsD n adj s F') : ∀ v, v < n → 0 ≤ F v → 0 ≤ F' v ∧ F' v ≤ F v := by
  have key : ∀ (k : Nat) (v : Nat), v < n → F v = k → 0 ≤ F' v ∧ F' v ≤ F v := by
    intro k
    induction k with
    | zero =>
      intro v hv hk
      by_cases c : v = s
      · subst c; rw [h.src, h'.src]; omega
      · obtain ⟨u, _, _, h1, h2⟩ := h.prv v hv (by omega) c
        omega
    | succ k ih =>
      intro v hv hk
      have c : v ≠ s := fun e => by subst e; have := h.src; omega
      obtain ⟨u, hu, ha, h1, h2⟩ := h.prv v hv (by omega) c
      obtain ⟨k1, k2⟩ := ih u hu (by omega)
      obtain ⟨k3, k4⟩ := h'.nxt u v hu hv k1 ha
      omega
  intro v hv h0
  exact key (F v).toNat v hv (by omega)
theorem IsD.uniq {n : Nat} {adj : Nat → Nat → Bool} {s : Nat} {F F' : Nat → Int} (h : IsD n adj s F) (h' : IsD n adj s F') {v : Nat} (hv : v < n) : (0 ≤ F v ↔ 0 ≤ F' v) ∧ (0 ≤ F v → F v = F' v) := by
  refine ⟨⟨fun k => (h.le h' v hv k).1, fun k => (h'.le h v hv k).1⟩, fun k => ?_⟩
  have h1 := h.le h' v hv k
  have h2 := h'.le h v hv h1.1
  omega
theorem IsD.back {n : Nat} {adj : Nat → Nat → Bool} (hs : ∀ a b, adj a b = adj b a) {s t : Nat} (hsn : s < n) (ht : t < n) {F F' : Nat → Int} (h : IsD n adj s F) (h' : IsD n adj t F') (hr : 0 ≤ F t) : 0 ≤ F' s := by
  have key : ∀ (k : Nat) (v : Nat), v < n → F v = k → 0 ≤ F' v → 0 ≤ F' s := by
    intro k
    induction k with
    | zero =>
      intro v hv hk h0
      by_cases c : v = s
      · subst c; exact h0
      · obtain ⟨u, _, _, h1, h2⟩ := h.prv v hv (by omega) c
        omega
    | succ k ih =>
      intro v hv hk h0
      have c : v ≠ s := fun e => by subst e; have := h.src; omega
      obtain ⟨u, hu, ha, h1, h2⟩ := h.prv v hv (by omega) c
      exact ih u hu (by omega) (h'.nxt v u hv hu h0 (by rw [hs]; exact ha)).1
  exact key (F t).toNat t ht (by omega) (by rw [h'.src]; exact Int.le_refl 0)
theorem IsD.all {n : Nat} {adj : Nat → Nat → Bool} (hs : ∀ a b, adj a b = adj b a) {s t : Nat} (hsn : s < n) (ht : t < n) {F F' : Nat → Int} (h : IsD n adj s F) (h' : IsD n adj t F') (hr : ∀ v, v < n → 0 ≤ F v) : ∀ v, v < n → 0 ≤ F' v := by
  have h0 := h.back hs hsn ht h' (hr t ht)
  have key : ∀ (k : Nat) (v : Nat), v < n → F v = k → 0 ≤ F' v := by
    intro k
    induction k with
    | zero =>
      intro v hv hk
      by_cases c : v = s
      · subst c; exact h0
      · obtain ⟨u, _, _, h1, h2⟩ := h.prv v hv (by omega) c
        omega
    | succ k ih =>
      intro v hv hk
      have c : v ≠ s := fun e => by subst e; have := h.src; omega
      obtain ⟨u, hu, ha, h1, h2⟩ := h.prv v hv (by omega) c
      exact (h'.nxt u v hu hv (ih u hu (by omega)) ha).1
  intro v hv
  exact key (F v).toNat v hv (by have := hr v hv; omega)
def eAt (E : List (Int × Int)) (i : Nat) : Int × Int := E.getD i (0, 0)
theorem eAt_get {E : List (Int × Int)} {i : Nat} (h : i < E.length) : eAt E i = E[i] := by unfold eAt; rw [List.getD_eq_getElem?_getD, List.getElem?_eq_getElem h]; rfl
def okAt (n : Nat) (E : List (Int × Int)) (i : Nat) : Prop := 0 ≤ (eAt E i).1 ∧ (eAt E i).1 < (eAt E i).2 ∧ (eAt E i).2 < n ∧ (0 < i → (eAt E (i - 1)).1 < (eAt E i).1 ∨ (eAt E (i - 1)).1 = (eAt E i).1 ∧ (eAt E (i - 1)).2 < (eAt E i).2)
instance (n : Nat) (E : List (Int × Int)) (i : Nat) : Decidable (okAt n E i) := by unfold okAt; infer_instance
def EOK (n : Nat) (E : List (Int × Int)) : Prop := ∀ i, i < E.length → okAt n E i
instance (n : Nat) (E : List (Int × Int)) : Decidable (EOK n E) := by unfold EOK; infer_instance
def adjE (E : List (Int × Int)) (a b : Nat) : Bool := E.any fun e => decide (e = ((a : Int), (b : Int))) || decide (e = ((b : Int), (a : Int)))
theorem adjE_symm (E : List (Int × Int)) (a b : Nat) : adjE E a b = adjE E b a := by
  unfold adjE
  congr 1
  funext e
  rw [Bool.or_comm]
theorem adjE_snoc (E : List (Int × Int)) (e : Int × Int) (a b : Nat) : adjE (E ++ [e]) a b = (adjE E a b || decide (e = ((a : Int), (b : Int))) || decide (e = ((b : Int), (a : Int)))) := by
  unfold adjE; rw [List.any_append]; simp [Bool.or_assoc]
theorem adjE_mem {E : List (Int × Int)} {a b : Nat} : adjE E a b = true ↔ ((a : Int), (b : Int)) ∈ E ∨ ((b : Int), (a : Int)) ∈ E := by
  unfold adjE
  rw [List.any_eq_true]
  constructor
  · rintro ⟨e, he, h⟩
    simp only [Bool.or_eq_true, decide_eq_true_eq] at h
    rcases h with rfl | rfl
    · exact .inl he
    · exact .inr he
  · rintro (h | h)
    · exact ⟨_, h, by simp⟩
    · exact ⟨_, h, by simp⟩
theorem EOK.mem {n : Nat} {E : List (Int × Int)} (h : EOK n E) {e : Int × Int} (he : e ∈ E) : 0 ≤ e.1 ∧ e.1 < e.2 ∧ e.2 < n := by
  obtain ⟨i, hi, rfl⟩ := List.mem_iff_getElem.1 he
  have := h i hi
  unfold okAt at this
  rw [eAt_get hi] at this
  exact ⟨this.1, this.2.1, this.2.2.1⟩
theorem EOK.adj {n : Nat} {E : List (Int × Int)} (h : EOK n E) {a b : Nat} (ha : adjE E a b = true) : a < n ∧ b < n ∧ a ≠ b := by
  rcases adjE_mem.1 ha with k | k
  · have := h.mem k; dsimp only at this; omega
  · have := h.mem k; dsimp only at this; omega
def nxE (E : List (Int × Int)) (v : Nat) : Nat := (List.range 6).foldl (fun m w => if adjE E v w = true then m ||| 2 ^ w else m) 0
theorem nx_fold (E : List (Int × Int)) (v : Nat) : ∀ k, ((List.range k).foldl (fun m w => if adjE E v w = true then m ||| 2 ^ w else m) 0) < 2 ^ k ∧ ∀ i, ((List.range k).foldl (fun m w => if adjE E v w = true then m ||| 2 ^ w else m) 0).testBit i = (decide (i < k) && adjE E v i)
  | 0 => ⟨Nat.zero_lt_one, fun i => by simp⟩
  | k + 1 => by
    obtain ⟨h1, h2⟩ := nx_fold E v k
    rw [List.range_succ, List.foldl_append]
    simp only [List.foldl_cons, List.foldl_nil]
    by_cases c : adjE E v k = true
    · rw [if_pos c]
      refine ⟨Nat.or_lt_two_pow (by rw [Nat.pow_succ]; omega) (Nat.pow_lt_pow_right (by decide) (by omega)), fun i => ?_⟩
      rw [Nat.testBit_or, h2, Nat.testBit_two_pow]
      by_cases e : k = i
      · subst e; simp [c]
      · by_cases e2 : i < k
        · simp [e, e2, show i < k + 1 by omega]
        · simp [e, e2, show ¬ i < k + 1 by omega]
    · rw [if_neg c]
      refine ⟨by rw [Nat.pow_succ]; omega, fun i => ?_⟩
      rw [h2]
      by_cases e : k = i
      · subst e; simp [c]
      · by_cases e2 : i < k
        · simp [e2, show i < k + 1 by omega]
        · simp [e2, show ¬ i < k + 1 by omega]
theorem nxE_lt (E : List (Int × Int)) (v : Nat) : nxE E v < 64 := (nx_fold E v 6).1
theorem nxE_bit {n : Nat} {E : List (Int × Int)} (h : EOK n E) (hn : n ≤ 6) (v i : Nat) : (nxE E v).testBit i = adjE E v i := by
  rw [nxE, (nx_fold E v 6).2]
  by_cases c : adjE E v i = true
  · have := (h.adj c).2.1
    simp [c, show i < 6 by omega]
  · simp [c]
theorem bits_lt {a k : Nat} (h : ∀ i, a.testBit i = true → i < k) : a < 2 ^ k := by
  apply Nat.lt_of_not_ge
  intro hge
  obtain ⟨i, hi, hb⟩ := Nat.exists_ge_and_testBit_of_ge_two_pow hge
  have := h i hb
  omega
def gV (n : Nat) (nx : Nat → Nat) (far : Nat → Nat → Nat) : List Value := .int .i64 n :: ((List.range 6).map (fun v => Value.int .i64 (nx v : Int)) ++ (List.range 36).map (fun i => Value.int .i64 (far (i / 6) (i % 6) : Int)))
theorem gV_len (n : Nat) (nx : Nat → Nat) (far : Nat → Nat → Nat) : (gV n nx far).length = 43 := by simp [gV]
theorem gV_n (n : Nat) (nx : Nat → Nat) (far : Nat → Nat → Nat) : (gV n nx far)[0]? = some (.int .i64 n) := rfl
theorem gV_next (n : Nat) (nx : Nat → Nat) (far : Nat → Nat → Nat) {v : Nat} (h : v < 6) : (gV n nx far)[1 + v]? = some (.int .i64 (nx v)) := by
  unfold gV
  rw [Nat.add_comm 1 v, List.getElem?_cons_succ, List.getElem?_append_left (by simp; omega)]
  simp [h]
theorem gV_far (n : Nat) (nx : Nat → Nat) (far : Nat → Nat → Nat) {f v : Nat} (hf : f < 6) (h : v < 6) : (gV n nx far)[7 + f * 6 + v]? = some (.int .i64 (far f v)) := by
  unfold gV
  rw [show 7 + f * 6 + v = (6 + (f * 6 + v)) + 1 by omega, List.getElem?_cons_succ, List.getElem?_append_right (by simp)]
  simp only [List.length_map, List.length_range, Nat.add_sub_cancel_left, List.getElem?_map]
  rw [List.getElem?_range (by omega)]
  simp only [Option.map_some]
  rw [show (f * 6 + v) / 6 = f by omega, show (f * 6 + v) % 6 = v by omega]
def up {α : Type} (f : Nat → α) (v : Nat) (x : α) : Nat → α := fun k => if k = v then x else f k
theorem gV_congr {n : Nat} {nx nx' : Nat → Nat} {far far' : Nat → Nat → Nat} (h1 : ∀ v, v < 6 → nx v = nx' v) (h2 : ∀ f v, f < 6 → v < 6 → far f v = far' f v) : gV n nx far = gV n nx' far' := by
  unfold gV
  congr 2
  · exact List.map_congr_left (fun v hv => by rw [h1 v (List.mem_range.1 hv)])
  · exact List.map_congr_left (fun i hi => by
      have := List.mem_range.1 hi
      rw [h2 (i / 6) (i % 6) (by omega) (by omega)])
theorem gV_setn (n : Nat) (nx : Nat → Nat) (far : Nat → Nat → Nat) {v : Nat} (h : v < 6) (x : Nat) : (gV n nx far).set (1 + v) (.int .i64 x) = gV n (up nx v x) far := by
  apply List.ext_getElem?
  intro i
  by_cases e : i = 1 + v
  · subst e
    rw [List.getElem?_set_self (by rw [gV_len]; omega), gV_next n _ far h]
    simp [up]
  · rw [List.getElem?_set_ne (by omega)]
    match i with
    | 0 => rfl
    | i + 1 =>
      unfold gV
      rw [List.getElem?_cons_succ, List.getElem?_cons_succ]
      by_cases c : i < 6
      · rw [List.getElem?_append_left (by simp; omega), List.getElem?_append_left (by simp; omega)]
        simp [c, up, show i ≠ v by omega]
      · rw [List.getElem?_append_right (by simp; omega), List.getElem?_append_right (by simp; omega)]
        simp
theorem gV_setf (n : Nat) (nx : Nat → Nat) (far : Nat → Nat → Nat) {f v : Nat} (hf : f < 6) (h : v < 6) (x : Nat) : (gV n nx far).set (7 + f * 6 + v) (.int .i64 x) = gV n nx (up far f (up (far f) v x)) := by
  apply List.ext_getElem?
  intro i
  by_cases e : i = 7 + f * 6 + v
  · subst e
    rw [List.getElem?_set_self (by rw [gV_len]; omega), gV_far n nx _ hf h]
    simp [up]
  · rw [List.getElem?_set_ne (by omega)]
    match i with
    | 0 => rfl
    | i + 1 =>
      unfold gV
      rw [List.getElem?_cons_succ, List.getElem?_cons_succ]
      by_cases c : i < 6
      · rw [List.getElem?_append_left (by simp; omega), List.getElem?_append_left (by simp; omega)]
      · rw [List.getElem?_append_right (by simp; omega), List.getElem?_append_right (by simp; omega)]
        simp only [List.length_map, List.length_range, List.getElem?_map]
        by_cases c2 : i - 6 < 36
        · rw [List.getElem?_range c2]
          simp only [Option.map_some, Option.some.injEq, Value.int.injEq, true_and, Int.ofNat.injEq]
          unfold up
          by_cases c3 : (i - 6) / 6 = f
          · rw [if_pos c3, c3, if_neg (by omega)]
          · rw [if_neg c3]
        · rw [List.getElem?_eq_none (by simp; omega)]
          rfl
end Go.Proofs.YtpkhkghiidilcaaDoor.Sh

namespace Go.Proofs.YtpkhkghiidilcaaDoor.Sh
open Go
set_option maxRecDepth 100000
set_option maxHeartbeats 4000000
theorem sa_two (b o : Nat) : sliceArrS 2 1 (.pointer (some ⟨b, o, none⟩)) none none none = some (.slice (some ⟨b, o, none⟩) 2 2) := (rfl)
attribute [go_sem ↓] sa_two
def cmpI (x y : Int) : Int := if x < y then -1 else if y < x then 1 else 0
def lexC : List Int → List Int → Int
  | [], [] => 0
  | [], _ :: _ => -1
  | _ :: _, [] => 1
  | x :: xs, y :: ys => if cmpI x y = 0 then lexC xs ys else cmpI x y
theorem nan97 (x : Int) (h : SHeap) : M.call 97 [.int .i64 x] h = some (.bool false, h, []) := by
  refine call_run sf97 rfl rfl rfl ?_
  unfold sf97
  repeat (first | apply Z1 | apply Z2 | apply Z3 | apply Z4 | apply Z5 rfl | apply Z6 | apply Z7 | apply Z8 | apply Z9 | apply ZA | apply ZB | apply ZC | ((first | apply ZD (by decide) | apply ZN (by decide)); (simp (maxSteps := 9999999) only [go_sem, argR]; rfl)) | (refine ZE ?_ ?_; · simp only [go_sem]) | (refine ZF ?_ ?_; · simp only [go_sem]))
  exact end_nil (q_ret1 _ (by simp only [go_sem]) rfl (take_self _))
theorem cmp86 (x y : Int) (h : SHeap) : M.call 86 [.int .i64 x, .int .i64 y] h = some (.int .i64 (cmpI x y), h, []) := by
  refine call_run sf86 rfl rfl rfl ?_
  unfold sf86
  unfold cmpI
  by_cases e1 : x < y
  · rw [if_pos e1]
    repeat (first | apply Z1 | apply Z2 | apply Z3 | apply Z4 | apply Z5 rfl | apply Z6 | apply Z7 | apply Z8 | apply Z9 | apply ZA | apply ZB | apply ZC | ((first | apply ZD (by decide) | apply ZN (by decide)); (simp (maxSteps := 9999999) only [go_sem, argR, nan97, e1]; rfl)) | (refine ZE ?_ ?_; · simp only [go_sem]) | (refine ZF ?_ ?_; · simp only [go_sem]))
    exact end_nil (q_ret1 _ (by simp only [go_sem]) rfl (take_self _))
  · rw [if_neg e1]
    by_cases e2 : y < x
    · rw [if_pos e2]
      repeat (first | apply Z1 | apply Z2 | apply Z3 | apply Z4 | apply Z5 rfl | apply Z6 | apply Z7 | apply Z8 | apply Z9 | apply ZA | apply ZB | apply ZC | ((first | apply ZD (by decide) | apply ZN (by decide)); (simp (maxSteps := 9999999) only [go_sem, argR, nan97, e1, e2]; rfl)) | (refine ZE ?_ ?_; · simp only [go_sem]) | (refine ZF ?_ ?_; · simp only [go_sem]))
      exact end_nil (q_ret1 _ (by simp only [go_sem]) rfl (take_self _))
    · rw [if_neg e2]
      repeat (first | apply Z1 | apply Z2 | apply Z3 | apply Z4 | apply Z5 rfl | apply Z6 | apply Z7 | apply Z8 | apply Z9 | apply ZA | apply ZB | apply ZC | ((first | apply ZD (by decide) | apply ZN (by decide)); (simp (maxSteps := 9999999) only [go_sem, argR, nan97, e1, e2]; rfl)) | (refine ZE ?_ ?_; · simp only [go_sem]) | (refine ZF ?_ ?_; · simp only [go_sem]))
      exact end_nil (q_ret1 _ (by simp only [go_sem]) rfl (take_self _))
def IL (h : SHeap) (b o : Nat) (l : List Int) : Prop := ∀ (i : Nat) (hi : i < l.length), loadS h none (.pointer (some ⟨b, o + i, none⟩)) = some (.int .i64 l[i])
theorem lex_loop (cx : Cx) {h : SHeap} {ba oa bb ob ca cb : Nat} {a b : List Int} (ha : IL h ba oa a) (hb : IL h bb ob b) (hl : a.length ≤ 1000000) (hl2 : b.length ≤ 1000000) : ∀ k ρ ms h' d', (∃ i : Nat, i + k = a.length ∧ lexC a b = lexC (a.drop i) (b.drop i) ∧ ρ 0 = .slice (some ⟨ba, oa, none⟩) a.length ca ∧ ρ 1 = .slice (some ⟨bb, ob, none⟩) b.length cb ∧ ρ 9 = .slice (some ⟨ba, oa, none⟩) a.length ca ∧ ρ 10 = .int .i64 a.length ∧ ρ 11 = .int .i64 i ∧ ms = [] ∧ h' = h ∧ d' = []) →
    LoopW M cx 6 sf81L0 ρ ms h' d' (fun ex ρ' ms' h' d' => ms' = [] ∧ h' = h ∧ d' = [] ∧ ((ex = .exit 0 ∧ lexC a b = (if a.length < b.length then -1 else 0) ∧ ρ' 0 = .slice (some ⟨ba, oa, none⟩) a.length ca ∧ ρ' 1 = .slice (some ⟨bb, ob, none⟩) b.length cb) ∨ (ex = .ret ∧ ρ' 4 = .int .i64 (lexC a b)))) := by
  refine loop_run _ ?_
  rintro k ρ ms h' d' ⟨i, hi, he, r0, r1, r9, r10, r11, rfl, rfl, rfl⟩
  unfold sf81L0
  by_cases hk : k = 0
  · have e1 : ¬ ((i : Int) < a.length) := by omega
    repeat (first | apply Z1 | apply Z2 | apply Z3 | apply Z4 | apply Z5 rfl | apply Z6 | apply Z7 | apply Z8 | apply Z9 | apply ZA | apply ZB | apply ZC | ((first | apply ZD (by decide) | apply ZN (by decide)); (simp (maxSteps := 9999999) only [go_sem, r9, r10, r11, e1]; rfl)) | (refine ZE ?_ ?_; · simp only [go_sem]) | (refine ZF ?_ ?_; · simp only [go_sem]))
    refine end_nil ⟨rfl, rfl, rfl, .inl ⟨rfl, ?_, by simp only [go_sem, r0], by simp only [go_sem, r1]⟩⟩
    rw [he, List.drop_eq_nil_of_le (by omega)]
    by_cases c : a.length < b.length
    · rw [if_pos c]
      obtain ⟨y, ys, e⟩ : ∃ y ys, b.drop i = y :: ys := by
        cases e : b.drop i with
        | nil => have := congrArg List.length e; simp at this; omega
        | cons y ys => exact ⟨y, ys, rfl⟩
      rw [e]; rfl
    · rw [if_neg c, List.drop_eq_nil_of_le (by omega)]; rfl
  · have e1 : ((i : Int) < a.length) := by omega
    have hia : i < a.length := by omega
    have p1 : (0 : Int) ≤ (i : Int) := by omega
    have l1 := ha i hia
    have da : a.drop i = a[i] :: a.drop (i + 1) := by simp
    by_cases c : i < b.length
    · have e2 : ¬ ((b.length : Int) ≤ i) := by omega
      have p2 : (i : Int) < b.length := by omega
      have l2 := hb i c
      have db : b.drop i = b[i] :: b.drop (i + 1) := by simp
      have ew : IntKind.i64.wrap ((i : Int) + 1) = ((i + 1 : Nat) : Int) := by rw [wrap64 (by omega) (by omega)]; rfl
      rw [da, db] at he
      generalize a[i] = x at *
      generalize b[i] = y at *
      have he' : lexC a b = (if cmpI x y = 0 then lexC (a.drop (i + 1)) (b.drop (i + 1)) else cmpI x y) := he
      by_cases z : cmpI x y = 0
      · rw [if_pos z] at he'
        repeat (first | apply Z1 | apply Z2 | apply Z3 | apply Z4 | apply Z5 rfl | apply Z6 | apply Z7 | apply Z8 | apply Z9 | apply ZA | apply ZB | apply ZC | ((first | apply ZD (by decide) | apply ZN (by decide)); (simp (maxSteps := 9999999) only [go_sem, r0, r1, r9, r10, r11, e1, p1, l1, e2, p2, l2, cmp86, z, ew]; rfl)) | (refine ZE ?_ ?_; · simp only [go_sem]) | (refine ZF ?_ ?_; · simp only [go_sem]))
        exact end_nil ⟨k - 1, by omega, i + 1, by omega, he', by simp only [go_sem, r0], by simp only [go_sem, r1], by simp only [go_sem, r9], by simp only [go_sem, r10], by simp only [go_sem, ew], rfl, rfl, rfl⟩
      · rw [if_neg z] at he'
        repeat (first | apply Z1 | apply Z2 | apply Z3 | apply Z4 | apply Z5 rfl | apply Z6 | apply Z7 | apply Z8 | apply Z9 | apply ZA | apply ZB | apply ZC | ((first | apply ZD (by decide) | apply ZN (by decide)); (simp (maxSteps := 9999999) only [go_sem, r0, r1, r9, r10, r11, e1, p1, l1, e2, p2, l2, cmp86, z]; rfl)) | (refine ZE ?_ ?_; · simp only [go_sem]) | (refine ZF ?_ ?_; · simp only [go_sem]))
        exact end_nil ⟨rfl, rfl, rfl, .inr ⟨rfl, by rw [he']; simp only [go_sem]⟩⟩
    · have e2 : ((b.length : Int) ≤ i) := by omega
      repeat (first | apply Z1 | apply Z2 | apply Z3 | apply Z4 | apply Z5 rfl | apply Z6 | apply Z7 | apply Z8 | apply Z9 | apply ZA | apply ZB | apply ZC | ((first | apply ZD (by decide) | apply ZN (by decide)); (simp (maxSteps := 9999999) only [go_sem, r0, r1, r9, r10, r11, e1, p1, l1, e2]; rfl)) | (refine ZE ?_ ?_; · simp only [go_sem]) | (refine ZF ?_ ?_; · simp only [go_sem]))
      refine end_nil ⟨rfl, rfl, rfl, .inr ⟨rfl, ?_⟩⟩
      rw [he, da, List.drop_eq_nil_of_le (show b.length ≤ i by omega)]
      simp only [go_sem]
      rfl
theorem lex81 {h : SHeap} {ba oa bb ob ca cb : Nat} {a b : List Int} (ha : IL h ba oa a) (hb : IL h bb ob b) (hl : a.length ≤ 1000000) (hl2 : b.length ≤ 1000000) {na nb : Nat} (hna : na = a.length) (hnb : nb = b.length) : M.call 81 [.slice (some ⟨ba, oa, none⟩) na ca, .slice (some ⟨bb, ob, none⟩) nb cb] h = some (.int .i64 (lexC a b), h, []) := by
  subst hna hnb
  refine call_run sf81 rfl rfl rfl ?_
  unfold sf81
  repeat (first | apply Z1 | apply Z2 | apply Z3 | apply Z4 | apply Z5 rfl | apply Z6 | apply Z7 | apply Z8 | apply Z9 | apply ZA | apply ZB | apply ZC | ((first | apply ZD (by decide) | apply ZN (by decide)); (simp (maxSteps := 9999999) only [go_sem, argR]; rfl)) | (refine ZE ?_ ?_; · simp only [go_sem]) | (refine ZF ?_ ?_; · simp only [go_sem]))
  refine run_loop (lex_loop (ca := ca) (cb := cb) _ ha hb hl hl2 a.length _ _ _ _ ⟨0, by omega, by simp, by simp only [go_sem, argR], by simp only [go_sem, argR], by simp only [go_sem, argR], by simp only [go_sem, argR], by (simp only [go_sem]) <;> rfl, rfl, rfl, rfl⟩) ?_
  rintro ex ρ' ms' h1 d1 ⟨rfl, rfl, rfl, ⟨rfl, he, k0, k1⟩ | ⟨rfl, k4⟩⟩
  · by_cases c : a.length < b.length
    · have e1 : (a.length : Int) < b.length := by omega
      rw [if_pos c] at he
      rw [he]
      repeat (first | apply Z1 | apply Z2 | apply Z3 | apply Z4 | apply Z5 rfl | apply Z6 | apply Z7 | apply Z8 | apply Z9 | apply ZA | apply ZB | apply ZC | ((first | apply ZD (by decide) | apply ZN (by decide)); (simp (maxSteps := 9999999) only [go_sem, k0, k1, e1]; rfl)) | (refine ZE ?_ ?_; · simp only [go_sem]) | (refine ZF ?_ ?_; · simp only [go_sem]))
      exact end_nil (q_ret1 _ (by simp only [go_sem]) rfl (take_self _))
    · have e1 : ¬ (a.length : Int) < b.length := by omega
      rw [if_neg c] at he
      rw [he]
      repeat (first | apply Z1 | apply Z2 | apply Z3 | apply Z4 | apply Z5 rfl | apply Z6 | apply Z7 | apply Z8 | apply Z9 | apply ZA | apply ZB | apply ZC | ((first | apply ZD (by decide) | apply ZN (by decide)); (simp (maxSteps := 9999999) only [go_sem, k0, k1, e1]; rfl)) | (refine ZE ?_ ?_; · simp only [go_sem]) | (refine ZF ?_ ?_; · simp only [go_sem]))
      exact end_nil (q_ret1 _ (by simp only [go_sem]) rfl (take_self _))
  · repeat (first | apply Z1 | apply Z2 | apply Z3 | apply Z4 | apply Z5 rfl | apply Z6 | apply Z7 | apply Z8 | apply Z9 | apply ZA | apply ZB | apply ZC | ((first | apply ZD (by decide) | apply ZN (by decide)); (simp (maxSteps := 9999999) only [go_sem]; rfl)) | (refine ZE ?_ ?_; · simp only [go_sem]) | (refine ZF ?_ ?_; · simp only [go_sem]))
    exact end_nil (q_ret1 _ (by simp only [go_sem, k4]) rfl (take_self _))
end Go.Proofs.YtpkhkghiidilcaaDoor.Sh

namespace Go.Proofs.YtpkhkghiidilcaaDoor.Sh
open Go
set_option maxRecDepth 100000
set_option maxHeartbeats 4000000
abbrev gC (n : Nat) (nx : Nat → Nat) (far : Nat → Nat → Nat) : SO := .cells (gV n nx far) 101 true 0 []
structure OS (H h : SHeap) (n : Nat) (nx : Nat → Nat) (far : Nat → Nat → Nat) (a : Int × Int) : Prop where
  fr : ∀ j, j < H.length → h[j]? = H[j]?
  g : h[H.length]? = some (gC n nx far)
  l : h[H.length + 1]? = some (.cells [.int .i64 a.1, .int .i64 a.2] 45 true 0 [])
section
variable {H h : SHeap} {n : Nat} {nx : Nat → Nat} {far : Nat → Nat → Nat} {a : Int × Int}
theorem OS.lt (S : OS H h n nx far a) : H.length + 1 < h.length := (List.getElem?_eq_some_iff.1 S.l).1
theorem OS.app (S : OS H h n nx far a) (g : SHeap) : OS H (h ++ g) n nx far a := by
  have := S.lt
  have k : ∀ j, j < h.length → (h ++ g)[j]? = h[j]? := fun j hj => List.getElem?_append_left hj
  exact ⟨fun j hj => by rw [k j (by omega)]; exact S.fr j hj, by rw [k _ (by omega)]; exact S.g, by rw [k _ (by omega)]; exact S.l⟩
theorem OS.setG (S : OS H h n nx far a) (nx' : Nat → Nat) (far' : Nat → Nat → Nat) : OS H (h.set H.length (gC n nx' far')) n nx' far' a := by
  have := S.lt
  have k : ∀ j, j ≠ H.length → (h.set H.length (gC n nx' far'))[j]? = h[j]? := fun j hj => List.getElem?_set_ne (by omega)
  exact ⟨fun j hj => by rw [k j (by omega)]; exact S.fr j hj, by rw [List.getElem?_set_self (by omega)], by rw [k _ (by omega)]; exact S.l⟩
theorem OS.setL (S : OS H h n nx far a) (a' : Int × Int) : OS H (h.set (H.length + 1) (.cells [.int .i64 a'.1, .int .i64 a'.2] 45 true 0 [])) n nx far a' := by
  have := S.lt
  have k : ∀ j, j ≠ H.length + 1 → (h.set (H.length + 1) (.cells [.int .i64 a'.1, .int .i64 a'.2] 45 true 0 []))[j]? = h[j]? := fun j hj => List.getElem?_set_ne (by omega)
  exact ⟨fun j hj => by rw [k j (by omega)]; exact S.fr j hj, by rw [k _ (by omega)]; exact S.g, by rw [List.getElem?_set_self (by omega)]⟩
theorem OS.gN (S : OS H h n nx far a) {v : Nat} (hv : v < 6) (g : SHeap) : loadS (h ++ g) none (.pointer (some ⟨H.length, 1 + v, none⟩)) = some (.int .i64 (nx v)) := load_cell S.g rfl (gV_next n nx far hv) g
theorem OS.stN (S : OS H h n nx far a) {v x : Nat} (hv : v < 6) (base : Nat) (g : SHeap) (d : List Nat) : storeS base (h ++ g) d H.length (1 + v) (cellsL (.int .i64 (x : Int))) = some (h.set H.length (gC n (up nx v x) far) ++ g, d) := by
  have := store_cell (h := h ++ g) (base := base) (b := H.length) (o := 1 + v) (c := .int .i64 (x : Int)) (by rw [List.getElem?_append_left (by have := S.lt; omega)]; exact S.g) (by rw [gV_len]; omega) rfl (fun _ => rfl) d
  rw [gV_setn n nx far hv, List.set_append_left _ _ (by have := S.lt; omega)] at this
  exact this
theorem OS.stF (S : OS H h n nx far a) {f v x : Nat} (hf : f < 6) (hv : v < 6) (base : Nat) (g : SHeap) (d : List Nat) : storeS base (h ++ g) d H.length (7 + f * 6 + v) (cellsL (.int .i64 (x : Int))) = some (h.set H.length (gC n nx (up far f (up (far f) v x))) ++ g, d) := by
  have := store_cell (h := h ++ g) (base := base) (b := H.length) (o := 7 + f * 6 + v) (c := .int .i64 (x : Int)) (by rw [List.getElem?_append_left (by have := S.lt; omega)]; exact S.g) (by rw [gV_len]; omega) rfl (fun _ => rfl) d
  rw [gV_setf n nx far hf hv, List.set_append_left _ _ (by have := S.lt; omega)] at this
  exact this
theorem OS.stL (S : OS H h n nx far a) (a' : Int × Int) (base : Nat) (g : SHeap) (d : List Nat) : storeS base (h ++ g) d (H.length + 1) 0 (cellsL (.agg #[.int .i64 a'.1, .int .i64 a'.2])) = some (h.set (H.length + 1) (.cells [.int .i64 a'.1, .int .i64 a'.2] 45 true 0 []) ++ g, d) := by
  have := store_at (h := h ++ g) (base := base) (cs := [.int .i64 a.1, .int .i64 a.2]) (vs := [.int .i64 a'.1, .int .i64 a'.2]) (by rw [List.getElem?_append_left (by have := S.lt; omega)]; exact S.l) rfl (Nat.zero_lt_succ _) rfl (fun _ => rfl) d
  rw [List.set_append_left _ _ (by have := S.lt; omega)] at this
  exact this
end
theorem PS.fr {H h : SHeap} {v : Value} {L : List (Int × Int)} (k : PS H v L) (fr : ∀ j, j < H.length → h[j]? = H[j]?) : PS h v L := by
  obtain ⟨a, c, e, k⟩ := k
  refine ⟨a, c, e, fun hne => ?_⟩
  obtain ⟨b, o, ha, hp⟩ := k hne
  have e2 := fr b hp.lt
  obtain ⟨pre, post, el2, pf, own, old, h1, h2⟩ := hp
  exact ⟨b, o, ha, pre, post, el2, pf, own, old, by rw [e2]; exact h1, h2⟩
def lastE (E : List (Int × Int)) (i : Nat) : Int × Int := if i = 0 then (-1, -1) else eAt E (i - 1)
theorem lex2_le {a b : Int × Int} : lexC [a.1, a.2] [b.1, b.2] ≤ 0 ↔ ¬ (b.1 < a.1 ∨ b.1 = a.1 ∧ b.2 < a.2) := by
  have h : lexC [a.1, a.2] [b.1, b.2] = if a.1 < b.1 then -1 else if b.1 < a.1 then 1 else if a.2 < b.2 then -1 else if b.2 < a.2 then 1 else 0 := by
    unfold lexC cmpI
    by_cases c1 : a.1 < b.1
    · simp [c1]
    · by_cases c2 : b.1 < a.1
      · simp [c1, c2]
      · simp only [c1, c2, if_false]
        unfold lexC cmpI
        by_cases c3 : a.2 < b.2
        · simp [c3]
        · by_cases c4 : b.2 < a.2
          · simp [c3, c4]
          · simp [c3, c4, lexC]
  rw [h]
  split
  · constructor
    · intro _; omega
    · intro _; omega
  · split
    · constructor
      · intro _; omega
      · intro _; omega
    · split
      · constructor
        · intro _; omega
        · intro _; omega
      · split
        · constructor
          · intro _; omega
          · intro _; omega
        · constructor
          · intro _; omega
          · intro _; omega
theorem two_eq {a b : Nat} {v w : Nat} : (decide (((a : Int), (b : Int)) = ((v : Int), (w : Int)))) = (decide (a = v) && decide (b = w)) := by
  by_cases h1 : a = v
  · by_cases h2 : b = w
    · subst h1 h2; simp
    · have : ¬ (((a : Int), (b : Int)) = ((v : Int), (w : Int))) := fun e => h2 (by have := congrArg Prod.snd e; dsimp only at this; omega)
      rw [decide_eq_false this]; simp [h2]
  · have : ¬ (((a : Int), (b : Int)) = ((v : Int), (w : Int))) := fun e => h1 (by have := congrArg Prod.fst e; dsimp only at this; omega)
    rw [decide_eq_false this]; simp [h1]
theorem edge_loop (cx : Cx) {n : Nat} (hn : n ≤ 6) {H : SHeap} {va : Option Addr} {vc : Nat} {E : List (Int × Int)} (hv : PS H (.slice va E.length vc) E) (hlen : E.length ≤ 4611686018427387904) (far : Nat → Nat → Nat) :
    ∀ k ρ ms h' d', (∃ (i : Nat) (nx : Nat → Nat), i + k = E.length ∧ OS H h' n nx far (lastE E i) ∧ (∀ v, v < 6 → nx v < 64 ∧ ∀ w, (nx v).testBit w = adjE (E.take i) v w) ∧ (∀ j, j < i → okAt n E j) ∧ ρ 0 = .int .i64 n ∧ ρ 6 = .pointer (some ⟨H.length, 0, none⟩) ∧ ρ 7 = .pointer (some ⟨H.length + 1, 0, none⟩) ∧ ρ 26 = .slice va E.length vc ∧ ρ 27 = .int .i64 E.length ∧ ρ 28 = .int .i64 i ∧ ms = [] ∧ d' = []) →
    LoopW M cx 8 sf68L3 ρ ms h' d' (fun ex ρ' ms' h' d' => ms' = [] ∧ d' = [] ∧ ((ex = .exit 0 ∧ ρ' 0 = .int .i64 n ∧ ρ' 6 = .pointer (some ⟨H.length, 0, none⟩) ∧ ρ' 7 = .pointer (some ⟨H.length + 1, 0, none⟩) ∧ EOK n E ∧ ∃ nx a, OS H h' n nx far a ∧ ∀ v, v < 6 → nx v < 64 ∧ ∀ w, (nx v).testBit w = adjE E v w) ∨
      (ex = .ret ∧ ρ' 4 = .pointer none ∧ ρ' 5 = .int .i64 80 ∧ ¬ EOK n E ∧ h'.take H.length = H))) := by
  refine loop_run _ ?_
  rintro k ρ ms h' d' ⟨i, nx, hk, S, hnx, hok, r0, r6, r7, r26, r27, r28, rfl, rfl⟩
  unfold sf68L3
  have hlt := S.lt
  by_cases c : k = 0
  · have e1 : ¬ ((i : Int) < E.length) := by omega
    repeat (first | apply Z1 | apply Z2 | apply Z3 | apply Z4 | apply Z5 rfl | apply Z6 | apply Z7 | apply Z8 | apply Z9 | apply ZA | apply ZB | apply ZC | ((first | apply ZD (by decide) | apply ZN (by decide)); (simp (maxSteps := 9999999) only [go_sem, r27, r28, e1]; rfl)) | (refine ZE ?_ ?_; · simp only [go_sem]) | (refine ZF ?_ ?_; · simp only [go_sem]))
    refine end_nil ⟨rfl, rfl, .inl ⟨rfl, by simp only [go_sem, r0], by simp only [go_sem, r6], by simp only [go_sem, r7], fun j hj => hok j (by omega), nx, _, S, fun v hv => ?_⟩⟩
    have := hnx v hv
    rw [List.take_of_length_le (by omega)] at this
    exact this
  · have e1 : ((i : Int) < E.length) := by omega
    have e2 : (0 : Int) ≤ i := by omega
    have hil : i < E.length := by omega
    have ew : IntKind.i64.wrap ((i : Int) + 1) = ((i + 1 : Nat) : Int) := by rw [wrap64 (by omega) (by omega)]; rfl
    obtain ⟨a0, c0, he, kp⟩ := hv.fr S.fr
    cases he
    obtain ⟨b, o, rfl, hp⟩ := kp (by intro e; rw [e] at hil; simp at hil)
    have lp := hp.loadN hil
    have hea : eAt E i = E[i] := eAt_get hil
    have htk : E.take (i + 1) = E.take i ++ [E[i]] := by rw [List.take_add_one, List.getElem?_eq_getElem hil]; rfl
    have hlast : lastE E (i + 1) = E[i] := by unfold lastE; rw [if_neg (by omega), Nat.add_sub_cancel, hea]
    have IL1 : IL (h' ++ [.cells [.int .i64 E[i].1, .int .i64 E[i].2] 45 true 0 []]) h'.length 0 [E[i].1, E[i].2] := by
      intro j hj
      have : j = 0 ∨ j = 1 := by simp at hj; omega
      rcases this with rfl | rfl
      · rw [load_app0]; rfl
      · rw [load_app0]; rfl
    have IL2 : IL (h' ++ [.cells [.int .i64 E[i].1, .int .i64 E[i].2] 45 true 0 []]) (H.length + 1) 0 [(lastE E i).1, (lastE E i).2] := by
      intro j hj
      have : j = 0 ∨ j = 1 := by simp at hj; omega
      rcases this with rfl | rfl
      · exact load_cell (o := 0) S.l rfl rfl _
      · exact load_cell (o := 1) S.l rfl rfl _
    have c81 := lex81 (ca := 2) (cb := 2) IL1 IL2 (by simp) (by simp) (na := 2) (nb := 2) rfl rfl
    have hle := @lex2_le E[i] (lastE E i)
    generalize hL : lexC [E[i].1, E[i].2] [(lastE E i).1, (lastE E i).2] = L at *
    have hdef : okAt n E i ↔ (0 ≤ E[i].1 ∧ E[i].1 < E[i].2 ∧ E[i].2 < n ∧ ¬ L ≤ 0) := by
      unfold okAt
      rw [hea, hle]
      unfold lastE
      by_cases hi0 : i = 0
      · subst hi0
        rw [if_pos rfl]
        dsimp only
        constructor
        · rintro ⟨h1, h2, h3, _⟩; exact ⟨h1, h2, h3, by omega⟩
        · rintro ⟨h1, h2, h3, _⟩; exact ⟨h1, h2, h3, by omega⟩
      · rw [if_neg hi0]
        constructor
        · rintro ⟨h1, h2, h3, h4⟩; exact ⟨h1, h2, h3, fun h => h (h4 (by omega))⟩
        · rintro ⟨h1, h2, h3, h4⟩; exact ⟨h1, h2, h3, fun _ => by omega⟩
    have bad : ¬ okAt n E i → ¬ EOK n E := fun hb h => hb (h i hil)
    have fin : ∀ g, (h' ++ g).take H.length = H := fun g => take_of_same (by simp; omega) (fun j hj => by rw [List.getElem?_append_left (by omega)]; exact S.fr j hj)
    generalize hE : E[i] = e at *
    have h0e : (L ≤ 0) = True ∨ (L ≤ 0) = False := by by_cases h : L ≤ 0; exact .inl (eq_true h); exact .inr (eq_false h)
    by_cases x1 : L ≤ 0
    · repeat (first | apply Z1 | apply Z2 | apply Z3 | apply Z4 | apply Z5 rfl | apply Z6 | apply Z7 | apply Z8 | apply Z9 | apply ZA | apply ZB | apply ZC | ((first | apply ZD (by decide) | apply ZN (by decide)); (simp (maxSteps := 9999999) only [go_sem, r0, r6, r7, r26, r27, r28, e1, e2, lp, c81, x1, Int.toNat_natCast]; rfl)) | (refine ZE ?_ ?_; · simp only [go_sem]) | (refine ZF ?_ ?_; · simp only [go_sem]))
      exact end_nil ⟨rfl, rfl, .inr ⟨rfl, by simp only [go_sem], by simp only [go_sem], bad (fun h => (hdef.1 h).2.2.2 x1), fin _⟩⟩
    · by_cases x2 : e.1 < 0
      · repeat (first | apply Z1 | apply Z2 | apply Z3 | apply Z4 | apply Z5 rfl | apply Z6 | apply Z7 | apply Z8 | apply Z9 | apply ZA | apply ZB | apply ZC | ((first | apply ZD (by decide) | apply ZN (by decide)); (simp (maxSteps := 9999999) only [go_sem, r0, r6, r7, r26, r27, r28, e1, e2, lp, c81, x1, x2, Int.toNat_natCast]; rfl)) | (refine ZE ?_ ?_; · simp only [go_sem]) | (refine ZF ?_ ?_; · simp only [go_sem]))
        exact end_nil ⟨rfl, rfl, .inr ⟨rfl, by simp only [go_sem], by simp only [go_sem], bad (fun h => by have := (hdef.1 h).1; omega), fin _⟩⟩
      · by_cases x3 : e.2 ≤ e.1
        · repeat (first | apply Z1 | apply Z2 | apply Z3 | apply Z4 | apply Z5 rfl | apply Z6 | apply Z7 | apply Z8 | apply Z9 | apply ZA | apply ZB | apply ZC | ((first | apply ZD (by decide) | apply ZN (by decide)); (simp (maxSteps := 9999999) only [go_sem, r0, r6, r7, r26, r27, r28, e1, e2, lp, c81, x1, x2, x3, Int.toNat_natCast]; rfl)) | (refine ZE ?_ ?_; · simp only [go_sem]) | (refine ZF ?_ ?_; · simp only [go_sem]))
          exact end_nil ⟨rfl, rfl, .inr ⟨rfl, by simp only [go_sem], by simp only [go_sem], bad (fun h => by have := (hdef.1 h).2.1; omega), fin _⟩⟩
        · by_cases x4 : (n : Int) ≤ e.2
          · repeat (first | apply Z1 | apply Z2 | apply Z3 | apply Z4 | apply Z5 rfl | apply Z6 | apply Z7 | apply Z8 | apply Z9 | apply ZA | apply ZB | apply ZC | ((first | apply ZD (by decide) | apply ZN (by decide)); (simp (maxSteps := 9999999) only [go_sem, r0, r6, r7, r26, r27, r28, e1, e2, lp, c81, x1, x2, x3, x4, Int.toNat_natCast]; rfl)) | (refine ZE ?_ ?_; · simp only [go_sem]) | (refine ZF ?_ ?_; · simp only [go_sem]))
            exact end_nil ⟨rfl, rfl, .inr ⟨rfl, by simp only [go_sem], by simp only [go_sem], bad (fun h => by have := (hdef.1 h).2.2.1; omega), fin _⟩⟩
          · have hgood : okAt n E i := hdef.2 ⟨by omega, by omega, by omega, x1⟩
            obtain ⟨p, hp1⟩ : ∃ p : Nat, e.1 = p := ⟨e.1.toNat, by omega⟩
            obtain ⟨q, hq1⟩ : ∃ q : Nat, e.2 = q := ⟨e.2.toNat, by omega⟩
            have hee : e = ((p : Int), (q : Int)) := Prod.ext hp1 hq1
            subst hee
            dsimp only at x1 x2 x3 x4 lp c81
            have hp6 : p < 6 := by omega
            have hq6 : q < 6 := by omega
            have z1 : (0 : Int) ≤ p := by omega
            have z2 : (p : Int) < 6 := by omega
            have z3 : (0 : Int) ≤ q := by omega
            have z4 : (q : Int) < 6 := by omega
            obtain ⟨np1, np2⟩ := hnx p hp6
            obtain ⟨nq1, nq2⟩ := hnx q hq6
            have wp : IntKind.u64.wrap (p : Int) = p := wrapU (by omega) (by omega)
            have wq : IntKind.u64.wrap (q : Int) = q := wrapU (by omega) (by omega)
            have sp := shl_1 (k := .u64) (v := p) (by omega)
            have sq := shl_1 (k := .u64) (v := q) (by omega)
            have t6 : ∀ v, v < 6 → 2 ^ v < 64 := fun v hv => Nat.pow_lt_pow_right (a := 2) (by decide) hv
            have op := b_or (a := nx p) (b := 2 ^ q) (by omega) (by have := t6 q hq6; omega)
            have oq := b_or (a := nx q) (b := 2 ^ p) (by omega) (by have := t6 p hp6; omega)
            have g1 := S.gN hp6
            have s1 := fun base g d => S.stN (x := nx p ||| 2 ^ q) hp6 base g d
            have S1 := S.setG (up nx p (nx p ||| 2 ^ q)) far
            have g2 := S1.gN hq6
            rw [show up nx p (nx p ||| 2 ^ q) q = nx q by unfold up; rw [if_neg (by omega)]] at g2
            have s2 := fun base g d => S1.stN (x := nx q ||| 2 ^ p) hq6 base g d
            have S2 := S1.setG (up (up nx p (nx p ||| 2 ^ q)) q (nx q ||| 2 ^ p)) far
            have hl1 : (h'.set H.length (gC n (up nx p (nx p ||| 2 ^ q)) far)).length = h'.length := by simp
            generalize h'.set H.length (gC n (up nx p (nx p ||| 2 ^ q)) far) = h1 at *
            have hl2 : (h1.set H.length (gC n (up (up nx p (nx p ||| 2 ^ q)) q (nx q ||| 2 ^ p)) far)).length = h'.length := by simp [hl1]
            generalize h1.set H.length (gC n (up (up nx p (nx p ||| 2 ^ q)) q (nx q ||| 2 ^ p)) far) = h2 at *
            have s3 := fun base g d => S2.stL ((p : Int), (q : Int)) base g d
            have S3 := S2.setL ((p : Int), (q : Int))
            have bxl : ∀ (hh : SHeap), hh.length = h'.length → ∀ o c, [Value.int .i64 (p : Int), .int .i64 (q : Int)][o]? = some c → loadS (hh ++ [.cells [.int .i64 (p : Int), .int .i64 (q : Int)] 45 true 0 []]) none (.pointer (some ⟨h'.length, o, none⟩)) = some c := fun hh hl o c hc => by
              rw [← hl, load_app0]; exact hc
            have k1 := bxl h1 hl1 0 _ rfl
            have k2 := bxl h1 hl1 1 _ rfl
            have k3 := bxl h2 hl2 0 _ rfl
            have k4 := bxl h2 hl2 1 _ rfl
            have k5 : loadS (h2 ++ [.cells [.int .i64 (p : Int), .int .i64 (q : Int)] 45 true 0 []]) (some 2) (.pointer (some ⟨h'.length, 0, none⟩)) = some (.agg #[.int .i64 (p : Int), .int .i64 (q : Int)]) := by
              rw [← hl2, load_appN0]; rfl
            clear bxl fin bad hdef hle
            repeat (first | apply Z1 | apply Z2 | apply Z3 | apply Z4 | apply Z5 rfl | apply Z6 | apply Z7 | apply Z8 | apply Z9 | apply ZA | apply ZB | apply ZC | ((first | apply ZD (by decide) | apply ZN (by decide)); (simp (maxSteps := 9999999) only [go_sem, r0, r6, r7, r26, r27, r28, e1, e2, lp, c81, x1, x2, x3, x4, z1, z2, z3, z4, wp, wq, sp, sq, op, oq, g1, ↓s1, g2, ↓s2, ↓s3, k1, k2, k3, k4, k5, ew, Int.toNat_natCast]; rfl)) | (refine ZE ?_ ?_; · simp only [go_sem]) | (refine ZF ?_ ?_; · simp only [go_sem]))
            refine end_nil ⟨k - 1, by omega, i + 1, _, by omega, by rw [hlast]; exact S3.app [.cells [.int .i64 (p : Int), .int .i64 (q : Int)] 45 true 0 []], fun v hv => ?_, fun j hj => ?_, by simp only [go_sem, r0], by simp only [go_sem, r6], by simp only [go_sem, r7], by simp only [go_sem, r26], by simp only [go_sem, r27], by simp only [go_sem, ew], rfl, rfl⟩
            · have hpq : p ≠ q := by omega
              obtain ⟨nv1, nv2⟩ := hnx v hv
              unfold up
              by_cases cq : v = q
              · subst cq
                rw [if_pos rfl]
                refine ⟨Nat.or_lt_two_pow (n := 6) nq1 (t6 p hp6), fun w => ?_⟩
                rw [htk, adjE_snoc, Nat.testBit_or, nq2, Nat.testBit_two_pow, two_eq, two_eq]
                simp [hpq]
              · rw [if_neg cq]
                by_cases cp : v = p
                · subst cp
                  rw [if_pos rfl]
                  refine ⟨Nat.or_lt_two_pow (n := 6) np1 (t6 q hq6), fun w => ?_⟩
                  rw [htk, adjE_snoc, Nat.testBit_or, np2, Nat.testBit_two_pow, two_eq, two_eq]
                  simp [Ne.symm cq]
                · rw [if_neg cp]
                  refine ⟨nv1, fun w => ?_⟩
                  rw [htk, adjE_snoc, nv2, two_eq, two_eq]
                  simp [Ne.symm cq, Ne.symm cp]
            · by_cases cj : j = i
              · rw [cj]; exact hgood
              · exact hok j (by omega)
end Go.Proofs.YtpkhkghiidilcaaDoor.Sh

namespace Go.Proofs.YtpkhkghiidilcaaDoor.Sh
open Go
set_option maxRecDepth 100000
set_option maxHeartbeats 4000000
structure BI (n : Nat) (adj : Nat → Nat → Bool) (s d seen now : Nat) (f : Nat → Nat) : Prop where
  b1 : ∀ v, seen.testBit v = true → v < n ∧ f v < d
  b2 : 0 < d → seen.testBit s = true ∧ f s = 0
  b3 : ∀ v, seen.testBit v = true → v ≠ s → ∃ u, u < n ∧ adj u v = true ∧ seen.testBit u = true ∧ f v = f u + 1
  b4 : ∀ u v, v < n → seen.testBit u = true → f u + 1 < d → adj u v = true → seen.testBit v = true ∧ f v ≤ f u + 1
  b5 : ∀ v, now.testBit v = true ↔ (d = 0 ∧ v = s) ∨ (0 < d ∧ v < n ∧ ∃ u, seen.testBit u = true ∧ f u + 1 = d ∧ adj u v = true)
theorem BI.seen_lt {n : Nat} {adj : Nat → Nat → Bool} {s d seen now : Nat} {f : Nat → Nat} (I : BI n adj s d seen now f) : seen < 2 ^ n := bits_lt (fun i hi => (I.b1 i hi).1)
theorem BI.now_lt {n : Nat} {adj : Nat → Nat → Bool} {s d seen now : Nat} {f : Nat → Nat} (hs : s < n) (I : BI n adj s d seen now f) : now < 2 ^ n := bits_lt (fun i hi => by
  rcases (I.b5 i).1 hi with ⟨_, rfl⟩ | ⟨_, h, _⟩
  · exact hs
  · exact h)
theorem BI.start (n : Nat) (adj : Nat → Nat → Bool) (s : Nat) (f : Nat → Nat) : BI n adj s 0 0 (2 ^ s) f := by
  refine ⟨fun v h => by simp at h, fun h => by omega, fun v h => by simp at h, fun u v _ h => by simp at h, fun v => ?_⟩
  rw [Nat.testBit_two_pow]
  constructor
  · intro h; exact .inl ⟨rfl, by simpa using (eq_comm.1 (of_decide_eq_true h))⟩
  · rintro (⟨_, rfl⟩ | ⟨h, _⟩)
    · simp
    · omega
theorem BI.step {n : Nat} {adj : Nat → Nat → Bool} {s d seen now more : Nat} {f f' : Nat → Nat} (I : BI n adj s d seen now f) (hs : s < n) (hadj : ∀ a b, adj a b = true → b < n)
    (hf : ∀ v, v < n → f' v = if (andn now seen).testBit v = true then d else f v) (hm : ∀ w, more.testBit w = true ↔ ∃ v, (andn now seen).testBit v = true ∧ adj v w = true) :
    BI n adj s (d + 1) (seen ||| andn now seen) more f' := by
  have ha : ∀ v, (andn now seen).testBit v = true → v < n ∧ now.testBit v = true ∧ seen.testBit v = false := fun v h => by
    rw [andn_bit] at h
    simp only [Bool.and_eq_true, Bool.not_eq_true'] at h
    refine ⟨?_, h.1, h.2⟩
    rcases (I.b5 v).1 h.1 with ⟨_, rfl⟩ | ⟨_, k, _⟩
    · exact hs
    · exact k
  have old : ∀ v, seen.testBit v = true → f' v = f v := fun v h => by
    rw [hf v (I.b1 v h).1, if_neg (fun k => by have := (ha v k).2.2; rw [h] at this; cases this)]
  have new : ∀ v, (andn now seen).testBit v = true → f' v = d := fun v h => by rw [hf v (ha v h).1, if_pos h]
  refine ⟨fun v h => ?_, fun _ => ?_, fun v h hv => ?_, fun u v hv h hd hadj' => ?_, fun w => ?_⟩
  · rw [Nat.testBit_or, Bool.or_eq_true] at h
    rcases h with h | h
    · have := I.b1 v h; rw [old v h]; omega
    · rw [new v h]; exact ⟨(ha v h).1, by omega⟩
  · by_cases c : d = 0
    · subst c
      have h0 : seen.testBit s = false := by
        cases e : seen.testBit s with
        | false => rfl
        | true => have := I.b1 s e; omega
      have hn : (andn now seen).testBit s = true := by
        rw [andn_bit, h0, (I.b5 s).2 (.inl ⟨rfl, rfl⟩)]; rfl
      rw [Nat.testBit_or, hn, new s hn]; simp
    · have := I.b2 (by omega)
      rw [Nat.testBit_or, this.1, old s this.1]; simp [this.2]
  · rw [Nat.testBit_or, Bool.or_eq_true] at h
    rcases h with h | h
    · obtain ⟨u, h1, h2, h3, h4⟩ := I.b3 v h hv
      exact ⟨u, h1, h2, by rw [Nat.testBit_or, h3]; rfl, by rw [old v h, old u h3]; exact h4⟩
    · obtain ⟨h1, h2, h3⟩ := ha v h
      rcases (I.b5 v).1 h2 with ⟨_, rfl⟩ | ⟨_, _, u, k1, k2, k3⟩
      · exact (hv rfl).elim
      · exact ⟨u, (I.b1 u k1).1, k3, by rw [Nat.testBit_or, k1]; rfl, by rw [new v h, old u k1]; omega⟩
  · rw [Nat.testBit_or, Bool.or_eq_true] at h
    rcases h with h | h
    · rw [old u h] at hd ⊢
      by_cases c : f u + 1 < d
      · obtain ⟨k1, k2⟩ := I.b4 u v hv h c hadj'
        exact ⟨by rw [Nat.testBit_or, k1]; rfl, by rw [old v k1]; exact k2⟩
      · have hd0 : 0 < d := by have := I.b1 u h; omega
        have hnow : now.testBit v = true := (I.b5 v).2 (.inr ⟨hd0, hv, u, h, by omega, hadj'⟩)
        cases e : seen.testBit v with
        | true => exact ⟨by rw [Nat.testBit_or, e]; rfl, by rw [old v e]; have := I.b1 v e; omega⟩
        | false =>
          have hn : (andn now seen).testBit v = true := by rw [andn_bit, hnow, e]; rfl
          exact ⟨by rw [Nat.testBit_or, hn]; simp, by rw [new v hn]; omega⟩
    · rw [new u h] at hd; omega
  · rw [hm]
    constructor
    · rintro ⟨v, h1, h2⟩
      exact .inr ⟨by omega, hadj v w h2, v, by rw [Nat.testBit_or, h1]; simp, by rw [new v h1], h2⟩
    · rintro (⟨h, _⟩ | ⟨_, hw, u, h1, h2, h3⟩)
      · omega
      · rw [Nat.testBit_or, Bool.or_eq_true] at h1
        rcases h1 with h1 | h1
        · rw [old u h1] at h2; have := I.b1 u h1; omega
        · exact ⟨u, h1, h3⟩
theorem BI.fin {n : Nat} {adj : Nat → Nat → Bool} {s d seen now : Nat} {f : Nat → Nat} (I : BI n adj s d seen now f) (hs : s < n) (h0 : andn now seen = 0) : IsD n adj s (fun v => if seen.testBit v = true then (f v : Int) else -1) := by
  have hz : ∀ v, now.testBit v = true → seen.testBit v = true := fun v h => by
    have := andn_bit now seen v
    rw [h0, h] at this
    cases e : seen.testBit v with
    | true => rfl
    | false => rw [e] at this; simp at this
  have hd : 0 < d := by
    apply Nat.pos_of_ne_zero
    rintro rfl
    have := I.b1 s (hz s ((I.b5 s).2 (.inl ⟨rfl, rfl⟩)))
    omega
  have hs1 := I.b2 hd
  refine ⟨?_, fun v hv h1 h2 => ?_, fun u v hu hv h1 h2 => ?_⟩
  · rw [if_pos hs1.1, hs1.2]; rfl
  · by_cases c : seen.testBit v = true
    · obtain ⟨u, k1, k2, k3, k4⟩ := I.b3 v c h2
      exact ⟨u, k1, k2, by rw [if_pos k3]; omega, by rw [if_pos c, if_pos k3, k4]; rfl⟩
    · rw [if_neg c] at h1; omega
  · by_cases c : seen.testBit u = true
    · rw [if_pos c]
      have hb := I.b1 u c
      by_cases c2 : f u + 1 < d
      · obtain ⟨k1, k2⟩ := I.b4 u v hv c c2 h2
        rw [if_pos k1]; omega
      · have hnow : now.testBit v = true := (I.b5 v).2 (.inr ⟨hd, hv, u, c, by omega, h2⟩)
        have k1 := hz v hnow
        rw [if_pos k1]
        have := I.b1 v k1
        omega
    · rw [if_neg c] at h1; omega
end Go.Proofs.YtpkhkghiidilcaaDoor.Sh

namespace Go.Proofs.YtpkhkghiidilcaaDoor.Sh
open Go
set_option maxRecDepth 100000
set_option maxHeartbeats 4000000
theorem inner_loop (cx : Cx) {n : Nat} (hn : n ≤ 6) {H : SHeap} {a : Int × Int} {nx : Nat → Nat} {far0 : Nat → Nat → Nat} {s d seen nw : Nat} (hs : s < 6) (hsn : seen < 64) (hnw : nw < 64) (hd : d < 64) (hnx : ∀ v, v < 6 → nx v < 64) :
    ∀ k ρ ms h' d', (∃ (i mo : Nat) (far : Nat → Nat → Nat), i + k = n ∧ OS H h' n nx far a ∧ mo < 64 ∧ (∀ w, mo.testBit w = true ↔ ∃ v, v < i ∧ nw.testBit v = true ∧ (nx v).testBit w = true) ∧ (∀ f v, far f v = if f = s ∧ v < i ∧ nw.testBit v = true then d else far0 f v) ∧
        ρ 0 = .int .i64 n ∧ ρ 6 = .pointer (some ⟨H.length, 0, none⟩) ∧ ρ 7 = .pointer (some ⟨H.length + 1, 0, none⟩) ∧ ρ 10 = .int .i64 s ∧ ρ 11 = .int .i64 seen ∧ ρ 12 = .int .i64 d ∧ ρ 13 = .int .i64 nw ∧ ρ 14 = .int .i64 mo ∧ ρ 86 = .int .i64 n ∧ ρ 87 = .int .i64 s ∧ ρ 105 = .int .i64 n ∧ ρ 106 = .int .i64 i ∧ ms = [] ∧ d' = []) →
    LoopW M cx 8 sf68L0 ρ ms h' d' (fun ex ρ' ms' h' d' => ms' = [] ∧ d' = [] ∧ ex = .exit 6 ∧ ∃ (mo : Nat) (far : Nat → Nat → Nat), OS H h' n nx far a ∧ mo < 64 ∧ (∀ w, mo.testBit w = true ↔ ∃ v, v < n ∧ nw.testBit v = true ∧ (nx v).testBit w = true) ∧ (∀ f v, far f v = if f = s ∧ v < n ∧ nw.testBit v = true then d else far0 f v) ∧
        ρ' 0 = .int .i64 n ∧ ρ' 6 = .pointer (some ⟨H.length, 0, none⟩) ∧ ρ' 7 = .pointer (some ⟨H.length + 1, 0, none⟩) ∧ ρ' 10 = .int .i64 s ∧ ρ' 11 = .int .i64 seen ∧ ρ' 12 = .int .i64 d ∧ ρ' 14 = .int .i64 mo ∧ ρ' 86 = .int .i64 n ∧ ρ' 87 = .int .i64 s) := by
  refine loop_run _ ?_
  rintro k ρ ms h' d' ⟨i, mo, far, hk, S, hmo, hmb, hfar, r0, r6, r7, r10, r11, r12, r13, r14, r86, r87, r105, r106, rfl, rfl⟩
  unfold sf68L0
  have hlt := S.lt
  by_cases c : k = 0
  · have e1 : ¬ ((i : Int) < n) := by omega
    obtain rfl : i = n := by omega
    repeat (first | apply Z1 | apply Z2 | apply Z3 | apply Z4 | apply Z5 rfl | apply Z6 | apply Z7 | apply Z8 | apply Z9 | apply ZA | apply ZB | apply ZC | ((first | apply ZD (by decide) | apply ZN (by decide)); (simp (maxSteps := 9999999) only [go_sem, r105, r106, e1]; rfl)) | (refine ZE ?_ ?_; · simp only [go_sem]) | (refine ZF ?_ ?_; · simp only [go_sem]))
    exact end_nil ⟨rfl, rfl, rfl, mo, far, S, hmo, hmb, hfar, by simp only [go_sem, r0], by simp only [go_sem, r6], by simp only [go_sem, r7], by simp only [go_sem, r10], by simp only [go_sem, r11], by simp only [go_sem, r12], by simp only [go_sem, r14], by simp only [go_sem, r86], by simp only [go_sem, r87]⟩
  · have e1 : ((i : Int) < n) := by omega
    have ew : IntKind.i64.wrap ((i : Int) + 1) = ((i + 1 : Nat) : Int) := by rw [wrap64 (by omega) (by omega)]; rfl
    have hi6 : i < 6 := by omega
    have z1 : (0 : Int) ≤ i := by omega
    have z2 : (i : Int) < 6 := by omega
    have z3 : (0 : Int) ≤ s := by omega
    have z4 : (s : Int) < 6 := by omega
    have wi : IntKind.u64.wrap (i : Int) = i := wrapU (by omega) (by omega)
    have sh := shr_n (k := .u64) (a := nw) (v := i) (by omega)
    have bv := bit_val nw i
    have key : ∀ v, v < i + 1 ↔ v < i ∨ v = i := fun v => by omega
    by_cases cb : nw.testBit i = true
    · rw [if_pos cb] at bv
      have an : binS .and (.int .i64 ((nw / 2 ^ i : Nat) : Int)) (.int .i64 1) = some (.int .i64 1) := by
        have := b_and (a := nw / 2 ^ i) (b := 1) (by have := Nat.div_le_self nw (2 ^ i); omega) (by decide)
        rw [bv] at this; exact this
      have s1 : ∀ base d2, storeS base h' d2 H.length (7 + s * 6 + i) (cellsL (.int .i64 (d : Int))) = some (h'.set H.length (gC n nx (up far s (up (far s) i d))), d2) := fun base d2 => by
        have := S.stF (x := d) hs hi6 base [] d2
        simpa using this
      have S1 := S.setG nx (up far s (up (far s) i d))
      generalize h'.set H.length (gC n nx (up far s (up (far s) i d))) = h1 at *
      have g1 := S1.gN hi6 []
      rw [List.append_nil] at g1
      have om := b_or (a := mo) (b := nx i) (by omega) (by have := hnx i hi6; omega)
      repeat (first | apply Z1 | apply Z2 | apply Z3 | apply Z4 | apply Z5 rfl | apply Z6 | apply Z7 | apply Z8 | apply Z9 | apply ZA | apply ZB | apply ZC | ((first | apply ZD (by decide) | apply ZN (by decide)); (simp (maxSteps := 9999999) only [go_sem, r0, r6, r7, r10, r11, r12, r13, r14, r86, r87, r105, r106, e1, z1, z2, z3, z4, wi, sh, an, ↓s1, g1, om, ew, Int.toNat_natCast]; rfl)) | (refine ZE ?_ ?_; · simp only [go_sem]) | (refine ZF ?_ ?_; · simp only [go_sem]))
      refine end_nil ⟨k - 1, by omega, i + 1, _, _, by omega, S1, Nat.or_lt_two_pow (n := 6) hmo (hnx i hi6), fun w => ?_, fun f v => ?_, by simp only [go_sem, r0], by simp only [go_sem, r6], by simp only [go_sem, r7], by simp only [go_sem, r10], by simp only [go_sem, r11], by simp only [go_sem, r12], by simp only [go_sem, r13], by simp only [go_sem, om], by simp only [go_sem, r86], by simp only [go_sem, r87], by simp only [go_sem, r105], by simp only [go_sem, ew], rfl, rfl⟩
      · rw [Nat.testBit_or, Bool.or_eq_true, hmb]
        constructor
        · rintro (⟨v, h1, h2, h3⟩ | h)
          · exact ⟨v, by omega, h2, h3⟩
          · exact ⟨i, by omega, cb, h⟩
        · rintro ⟨v, h1, h2, h3⟩
          rcases (key v).1 h1 with h | rfl
          · exact .inl ⟨v, h, h2, h3⟩
          · exact .inr h3
      · unfold up
        by_cases cf : f = s
        · subst cf
          rw [if_pos rfl]
          by_cases cv : v = i
          · subst cv; rw [if_pos rfl, if_pos ⟨rfl, by omega, cb⟩]
          · rw [if_neg cv, hfar]
            by_cases c2 : v < i
            · simp [c2, show v < i + 1 by omega]
            · simp [c2, show ¬ v < i + 1 by omega]
        · rw [if_neg cf, hfar, if_neg (fun h => cf h.1), if_neg (fun h => cf h.1)]
    · rw [if_neg cb] at bv
      have an : binS .and (.int .i64 ((nw / 2 ^ i : Nat) : Int)) (.int .i64 1) = some (.int .i64 0) := by
        have := b_and (a := nw / 2 ^ i) (b := 1) (by have := Nat.div_le_self nw (2 ^ i); omega) (by decide)
        rw [bv] at this; exact this
      repeat (first | apply Z1 | apply Z2 | apply Z3 | apply Z4 | apply Z5 rfl | apply Z6 | apply Z7 | apply Z8 | apply Z9 | apply ZA | apply ZB | apply ZC | ((first | apply ZD (by decide) | apply ZN (by decide)); (simp (maxSteps := 9999999) only [go_sem, r0, r6, r7, r10, r11, r12, r13, r14, r86, r87, r105, r106, e1, wi, sh, an, ew, Int.toNat_natCast]; rfl)) | (refine ZE ?_ ?_; · simp only [go_sem]) | (refine ZF ?_ ?_; · simp only [go_sem]))
      refine end_nil ⟨k - 1, by omega, i + 1, mo, far, by omega, S, hmo, fun w => ?_, fun f v => ?_, by simp only [go_sem, r0], by simp only [go_sem, r6], by simp only [go_sem, r7], by simp only [go_sem, r10], by simp only [go_sem, r11], by simp only [go_sem, r12], by simp only [go_sem, r13], by simp only [go_sem, r14], by simp only [go_sem, r86], by simp only [go_sem, r87], by simp only [go_sem, r105], by simp only [go_sem, ew], rfl, rfl⟩
      · rw [hmb]
        constructor
        · rintro ⟨v, h1, h2, h3⟩; exact ⟨v, by omega, h2, h3⟩
        · rintro ⟨v, h1, h2, h3⟩
          rcases (key v).1 h1 with h | rfl
          · exact ⟨v, h, h2, h3⟩
          · exact (cb h2).elim
      · rw [hfar]
        by_cases cv : v = i
        · subst cv; simp [cb]
        · by_cases c2 : v < i
          · simp [c2, show v < i + 1 by omega]
          · simp [c2, show ¬ v < i + 1 by omega]
end Go.Proofs.YtpkhkghiidilcaaDoor.Sh

namespace Go.Proofs.YtpkhkghiidilcaaDoor.Sh
open Go
set_option maxRecDepth 100000
set_option maxHeartbeats 4000000
section
variable {H h : SHeap} {b o : Nat} {cs : List Value} {el : TypeId} {own : Nat} {old : List Nat}
theorem gc_ptr2 {w : Value} (hw : flat 1 w = true) (ht : h.take H.length = H) (hb : h[b]? = some (.cells cs el true own old)) (h2 : (own == 2) = false) (hle : H.length ≤ b) :
    gcS H.length (.tuple #[.pointer (some ⟨b, o, none⟩), w]) h = some (.tuple #[.pointer (some ⟨H.length, o, none⟩), w], H ++ [.cells cs el true own (old.filterMap (ren H.length [b]))]) := by
  have eb : Nat.ble H.length b = true := by rw [ble_dec]; simpa using hle
  have e1 : reach H.length h 1000000 [b] [] = [b] := by
    rw [show (1000000 : Nat) = 999998 + 1 + 1 from rfl, reach]
    simp only [eb, List.contains_nil, Bool.not_true, Bool.or_self, Bool.false_eq_true, if_false, hb, ptrsO, Bool.true_or, if_true, List.nil_append]
    rw [reach]
  have e2 : ren H.length [b] b = some H.length := by simp [ren, eb, posOf]
  have hp : ptrs 2 w = [] ∧ ∀ K, renV H.length K 2 w = some w := ⟨ptrs_flat 2 w (flat_up _ _ hw), fun K => renV_flat 2 w (flat_up _ _ hw)⟩
  have e4 : ptrs 3 (.tuple #[.pointer (some ⟨b, o, none⟩), w]) = [b] := by
    show ptrs 2 (.pointer (some ⟨b, o, none⟩)) ++ (ptrs 2 w ++ []) = [b]
    rw [hp.1]; rfl
  have e3 := hp.2 [b]
  unfold gcS
  simp only [e4, e1, renV, e2, e3, mapO, renO, hb, h2, Bool.false_eq_true, if_false, if_true, ht]
theorem q_ptr2 {i j : Nat} {ρ : Reg} {w : Value} (hv : ρ i = .pointer (some ⟨b, o, none⟩)) (hj : ρ j = w) (hw : flat 1 w = true) (ht : h.take H.length = H) (hb : h[b]? = some (.cells cs el true own old)) (h2 : (own == 2) = false) (hle : H.length ≤ b) :
    callQ [.tmp i, .tmp j] H.length (.tuple #[.pointer (some ⟨H.length, o, none⟩), w], H ++ [.cells cs el true own (old.filterMap (ren H.length [b]))], []) .ret ρ [] h [] := by
  refine ⟨rfl, ?_⟩
  show opn (ρ i) fun v' => opn (ρ j) fun w' => endW H.length h [] (_, _, []) [v', w']
  rw [hv, hj]
  show opn w fun w' => endW H.length h [] (_, _, []) [_, w']
  exact opn_of hw ⟨_, _, gc_ptr2 hw ht hb h2 hle, rfl⟩
end
theorem bfs_loop (cx : Cx) {n : Nat} (hn : n ≤ 6) {H : SHeap} {a : Int × Int} {nx : Nat → Nat} {s : Nat} (hs : s < n) {far0 : Nat → Nat → Nat} (hnx : ∀ v, v < 6 → nx v < 64) (hadj : ∀ v w, v < 6 → (nx v).testBit w = true → w < n) :
    ∀ k ρ ms h' d', (∃ (d seen now : Nat) (far : Nat → Nat → Nat), seen + k = 64 ∧ d ≤ seen ∧ OS H h' n nx far a ∧ BI n (fun u v => decide (u < 6) && (nx u).testBit v) s d seen now (far s) ∧ (∀ f v, f ≠ s ∨ n ≤ v → far f v = far0 f v) ∧
        ρ 0 = .int .i64 n ∧ ρ 6 = .pointer (some ⟨H.length, 0, none⟩) ∧ ρ 7 = .pointer (some ⟨H.length + 1, 0, none⟩) ∧ ρ 10 = .int .i64 s ∧ ρ 11 = .int .i64 seen ∧ ρ 12 = .int .i64 d ∧ ρ 13 = .int .i64 now ∧ ρ 86 = .int .i64 n ∧ ρ 87 = .int .i64 s ∧ ms = [] ∧ d' = []) →
    LoopW M cx 8 sf68L1 ρ ms h' d' (fun ex ρ' ms' h' d' => ms' = [] ∧ d' = [] ∧ ex = .exit 4 ∧ ∃ (seen : Nat) (far : Nat → Nat → Nat), seen < 2 ^ n ∧ OS H h' n nx far a ∧ IsD n (fun u v => decide (u < 6) && (nx u).testBit v) s (fun v => if seen.testBit v = true then (far s v : Int) else -1) ∧ (∀ f v, f ≠ s ∨ n ≤ v → far f v = far0 f v) ∧
        ρ' 0 = .int .i64 n ∧ ρ' 6 = .pointer (some ⟨H.length, 0, none⟩) ∧ ρ' 7 = .pointer (some ⟨H.length + 1, 0, none⟩) ∧ ρ' 11 = .int .i64 seen ∧ ρ' 86 = .int .i64 n ∧ ρ' 87 = .int .i64 s) := by
  refine loop_run _ ?_
  rintro k ρ ms h' d' ⟨d, seen, now, far, hk, hd, S, I, hoth, r0, r6, r7, r10, r11, r12, r13, r86, r87, rfl, rfl⟩
  unfold sf68L1
  have hlt := S.lt
  have p6 : 2 ^ n ≤ 64 := Nat.pow_le_pow_right (n := 2) (by decide) hn
  have l1 := I.seen_lt
  have l2 := I.now_lt hs
  have an := b_andNot (a := now) (b := seen) (by omega) (by omega)
  by_cases c : andn now seen = 0
  · have e1 : ((andn now seen : Nat) : Int) = 0 := by omega
    repeat (first | apply Z1 | apply Z2 | apply Z3 | apply Z4 | apply Z5 rfl | apply Z6 | apply Z7 | apply Z8 | apply Z9 | apply ZA | apply ZB | apply ZC | ((first | apply ZD (by decide) | apply ZN (by decide)); (simp (maxSteps := 9999999) only [go_sem, r11, r13, an, e1]; rfl)) | (refine ZE ?_ ?_; · simp only [go_sem]) | (refine ZF ?_ ?_; · simp only [go_sem]))
    exact end_nil ⟨rfl, rfl, rfl, seen, far, l1, S, I.fin hs c, hoth, by simp only [go_sem, r0], by simp only [go_sem, r6], by simp only [go_sem, r7], by simp only [go_sem, r11], by simp only [go_sem, r86], by simp only [go_sem, r87]⟩
  · have hnb : ∀ v, (andn now seen).testBit v = true → v < n ∧ seen.testBit v = false := fun v h => by
      rw [andn_bit] at h
      simp only [Bool.and_eq_true, Bool.not_eq_true'] at h
      refine ⟨?_, h.2⟩
      rcases (I.b5 v).1 h.1 with ⟨_, rfl⟩ | ⟨_, k, _⟩
      · exact hs
      · exact k
    have hst := fun (f' : Nat → Nat) more => I.step (more := more) (f' := f') hs (fun a b h => by simp only [Bool.and_eq_true, decide_eq_true_eq] at h; exact hadj a b h.1 h.2)
    have hnw : andn now seen < 2 ^ n := bits_lt (fun i hi => (hnb i hi).1)
    have hgt : seen < seen ||| andn now seen := by
      apply Nat.lt_of_le_of_ne Nat.left_le_or
      intro e
      obtain ⟨i, hi⟩ : ∃ i, (andn now seen).testBit i = true := by
        apply Classical.byContradiction
        intro h
        apply c
        apply Nat.eq_of_testBit_eq
        intro i
        rw [Nat.zero_testBit]
        cases e2 : (andn now seen).testBit i with
        | false => rfl
        | true => exact (h ⟨i, e2⟩).elim
      have := (hnb i hi).2
      rw [e, Nat.testBit_or, hi] at this
      simp at this
    have hle : seen ||| andn now seen < 2 ^ n := Nat.or_lt_two_pow l1 hnw
    generalize hnwe : andn now seen = nw at *
    have e1 : ¬ ((nw : Nat) : Int) = 0 := by omega
    have or := b_or (a := seen) (b := nw) (by omega) (by omega)
    have ew : IntKind.i64.wrap ((d : Int) + 1) = ((d + 1 : Nat) : Int) := by rw [wrap64 (by omega) (by omega)]; rfl
    repeat (first | apply Z1 | apply Z2 | apply Z3 | apply Z4 | apply Z5 rfl | apply Z6 | apply Z7 | apply Z8 | apply Z9 | apply ZA | apply ZB | apply ZC | ((first | apply ZD (by decide) | apply ZN (by decide)); (simp (maxSteps := 9999999) only [go_sem, r0, r6, r7, r10, r11, r12, r13, r86, r87, an, e1, or]; rfl)) | (refine ZE ?_ ?_; · simp only [go_sem]) | (refine ZF ?_ ?_; · simp only [go_sem]))
    refine run_loop (inner_loop cx hn (a := a) (far0 := far) (s := s) (d := d) (seen := seen ||| nw) (nw := nw) (by omega) (by omega) (by omega) (by omega) hnx n _ _ _ _ ⟨0, 0, far, by omega, S, by decide, fun w => ⟨fun h => by simp at h, fun ⟨v, h, _⟩ => by omega⟩, fun f v => by rw [if_neg (by omega)], by simp only [go_sem, r0], by simp only [go_sem, r6], by simp only [go_sem, r7], by simp only [go_sem, r10], by simp only [go_sem, or], by simp only [go_sem, r12], by simp only [go_sem, r13], by simp only [go_sem], by simp only [go_sem, r86], by simp only [go_sem, r87], by simp only [go_sem, r0], by simp only [go_sem], rfl, rfl⟩) ?_
    rintro ex ρ2 ms2 h2 d2 ⟨rfl, rfl, rfl, mo, far2, S2, hmo, hmb, hf2, t0, t6, t7, t10, t11, t12, t14, t86, t87⟩
    repeat (first | apply Z1 | apply Z2 | apply Z3 | apply Z4 | apply Z5 rfl | apply Z6 | apply Z7 | apply Z8 | apply Z9 | apply ZA | apply ZB | apply ZC | ((first | apply ZD (by decide) | apply ZN (by decide)); (simp (maxSteps := 9999999) only [go_sem, t0, t6, t7, t10, t11, t12, t14, t86, t87, ew]; rfl)) | (refine ZE ?_ ?_; · simp only [go_sem]) | (refine ZF ?_ ?_; · simp only [go_sem]))
    refine end_nil ⟨k - ((seen ||| nw) - seen), by omega, d + 1, seen ||| nw, mo, far2, by omega, by omega, S2, hst (far2 s) mo (fun v hv => ?_) (fun w => ?_), fun f v hf => ?_, by simp only [go_sem, t0], by simp only [go_sem, t6], by simp only [go_sem, t7], by simp only [go_sem, t10], by simp only [go_sem, t11], by simp only [go_sem, ew], by simp only [go_sem, t14], by simp only [go_sem, t86], by simp only [go_sem, t87], rfl, rfl⟩
    · rw [hf2]
      by_cases cv : nw.testBit v = true
      · rw [if_pos ⟨rfl, hv, cv⟩, if_pos cv]
      · rw [if_neg (fun h => cv h.2.2), if_neg cv]
    · rw [hmb]
      constructor
      · rintro ⟨v, h1, h2, h3⟩; exact ⟨v, h2, by simp only [Bool.and_eq_true, decide_eq_true_eq]; exact ⟨by omega, h3⟩⟩
      · rintro ⟨v, h1, h2⟩
        simp only [Bool.and_eq_true, decide_eq_true_eq] at h2
        exact ⟨v, (hnb v h1).1, h1, h2.2⟩
    · rw [← hoth f v hf, hf2, if_neg (fun h => by rcases hf with hf | hf; exact hf h.1; omega)]
end Go.Proofs.YtpkhkghiidilcaaDoor.Sh

namespace Go.Proofs.YtpkhkghiidilcaaDoor.Sh
open Go
set_option maxRecDepth 100000
set_option maxHeartbeats 4000000
def Conn (n : Nat) (E : List (Int × Int)) : Prop := ∀ s, s < n → ∃ F, IsD n (adjE E) s F ∧ ∀ v, v < n → 0 ≤ F v
open Classical in
noncomputable def farE (n : Nat) (E : List (Int × Int)) (s v : Nat) : Nat := if h : s < n ∧ v < n ∧ ∃ F, IsD n (adjE E) s F then ((Classical.choose h.2.2) v).toNat else 0
theorem farE_eq {n : Nat} {E : List (Int × Int)} {s v : Nat} {F : Nat → Int} (hF : IsD n (adjE E) s F) (hs : s < n) (hv : v < n) (h0 : 0 ≤ F v) : (farE n E s v : Int) = F v := by
  unfold farE
  rw [dif_pos ⟨hs, hv, F, hF⟩]
  have hc := Classical.choose_spec (⟨F, hF⟩ : ∃ F, IsD n (adjE E) s F)
  obtain ⟨h1, h2⟩ := hF.uniq hc hv
  have := h2 h0
  have := h1.1 h0
  omega
theorem farE_out {n : Nat} {E : List (Int × Int)} {s v : Nat} (h : ¬ (s < n ∧ v < n)) : farE n E s v = 0 := by
  unfold farE
  rw [dif_neg (fun k => h ⟨k.1, k.2.1⟩)]
theorem IsD.adj_congr {n : Nat} {adj adj' : Nat → Nat → Bool} {s : Nat} {F : Nat → Int} (h : IsD n adj s F) (he : ∀ u v, u < n → adj u v = adj' u v) : IsD n adj' s F :=
  ⟨h.src, fun v hv h1 h2 => by
    obtain ⟨u, k1, k2, k3, k4⟩ := h.prv v hv h1 h2
    exact ⟨u, k1, by rw [← he u v k1]; exact k2, k3, k4⟩, fun u v hu hv h1 h2 => h.nxt u v hu hv h1 (by rw [he u v hu]; exact h2)⟩
theorem from_loop (cx : Cx) {n : Nat} (hn1 : 1 ≤ n) (hn : n ≤ 6) {H : SHeap} {a : Int × Int} {nx : Nat → Nat} {E : List (Int × Int)} (hE : EOK n E) (hnx : ∀ v, v < 6 → nx v < 64 ∧ ∀ w, (nx v).testBit w = adjE E v w) :
    ∀ k ρ ms h' d', (∃ (i : Nat) (far : Nat → Nat → Nat), i + k = n ∧ OS H h' n nx far a ∧ (∀ s, s < i → ∃ F, IsD n (adjE E) s F ∧ ∀ v, v < n → 0 ≤ F v ∧ (far s v : Int) = F v) ∧ (∀ s v, i ≤ s ∨ n ≤ v → far s v = 0) ∧
        ρ 0 = .int .i64 n ∧ ρ 6 = .pointer (some ⟨H.length, 0, none⟩) ∧ ρ 7 = .pointer (some ⟨H.length + 1, 0, none⟩) ∧ ρ 86 = .int .i64 n ∧ ρ 87 = .int .i64 i ∧ ms = [] ∧ d' = []) →
    LoopW M cx 8 sf68L2 ρ ms h' d' (fun ex ρ' ms' h' d' => ms' = [] ∧ d' = [] ∧ ((ex = .exit 2 ∧ Conn n E ∧ (∃ far, OS H h' n nx far a ∧ ∀ s v, far s v = farE n E s v) ∧ ρ' 6 = .pointer (some ⟨H.length, 0, none⟩)) ∨
      (ex = .ret ∧ ρ' 4 = .pointer none ∧ ρ' 5 = .int .i64 80 ∧ ¬ Conn n E ∧ h'.take H.length = H))) := by
  refine loop_run _ ?_
  rintro k ρ ms h' d' ⟨i, far, hk, S, hfar, hz, r0, r6, r7, r86, r87, rfl, rfl⟩
  unfold sf68L2
  have hlt := S.lt
  have p6 : 2 ^ n ≤ 64 := Nat.pow_le_pow_right (n := 2) (by decide) hn
  by_cases c : k = 0
  · have e1 : ¬ ((i : Int) < n) := by omega
    obtain rfl : i = n := by omega
    repeat (first | apply Z1 | apply Z2 | apply Z3 | apply Z4 | apply Z5 rfl | apply Z6 | apply Z7 | apply Z8 | apply Z9 | apply ZA | apply ZB | apply ZC | ((first | apply ZD (by decide) | apply ZN (by decide)); (simp (maxSteps := 9999999) only [go_sem, r86, r87, e1]; rfl)) | (refine ZE ?_ ?_; · simp only [go_sem]) | (refine ZF ?_ ?_; · simp only [go_sem]))
    refine end_nil ⟨rfl, rfl, .inl ⟨rfl, fun s hs => ?_, ⟨far, S, fun s v => ?_⟩, by simp only [go_sem, r6]⟩⟩
    · obtain ⟨F, h1, h2⟩ := hfar s hs
      exact ⟨F, h1, fun v hv => (h2 v hv).1⟩
    · by_cases cc : s < i ∧ v < i
      · obtain ⟨F, h1, h2⟩ := hfar s cc.1
        obtain ⟨k1, k2⟩ := h2 v cc.2
        have := farE_eq h1 cc.1 cc.2 k1
        omega
      · rw [farE_out cc, hz s v (by omega)]
  · have e1 : ((i : Int) < n) := by omega
    have hin : i < n := by omega
    have ew : IntKind.i64.wrap ((i : Int) + 1) = ((i + 1 : Nat) : Int) := by rw [wrap64 (by omega) (by omega)]; rfl
    have wi : IntKind.u64.wrap (i : Int) = i := wrapU (by omega) (by omega)
    have wn : IntKind.u64.wrap (n : Int) = n := wrapU (by omega) (by omega)
    have si := shl_1 (k := .u64) (v := i) (by omega)
    have sn := shl_1 (k := .u64) (v := n) (by omega)
    have w2 : IntKind.i64.wrap (((2 ^ n : Nat) : Int) - 1) = ((2 ^ n - 1 : Nat) : Int) := by
      have : 0 < 2 ^ n := Nat.pow_pos (by decide)
      rw [wrap64 (by omega) (by omega)]; omega
    repeat (first | apply Z1 | apply Z2 | apply Z3 | apply Z4 | apply Z5 rfl | apply Z6 | apply Z7 | apply Z8 | apply Z9 | apply ZA | apply ZB | apply ZC | ((first | apply ZD (by decide) | apply ZN (by decide)); (simp (maxSteps := 9999999) only [go_sem, r0, r6, r7, r86, r87, e1, wi, si]; rfl)) | (refine ZE ?_ ?_; · simp only [go_sem]) | (refine ZF ?_ ?_; · simp only [go_sem]))
    refine run_loop (bfs_loop cx hn (a := a) (s := i) hin (far0 := far) (nx := nx) (fun v hv => (hnx v hv).1) (fun v w hv h => by rw [(hnx v hv).2] at h; exact (hE.adj h).2.1) 64 _ _ _ _ ⟨0, 0, 2 ^ i, far, rfl, Nat.le_refl _, S, BI.start n _ i _, fun f v _ => rfl, by simp only [go_sem, r0], by simp only [go_sem, r6], by simp only [go_sem, r7], by simp only [go_sem, r87], by simp only [go_sem], by simp only [go_sem], by simp only [go_sem, si], by simp only [go_sem, r86], by simp only [go_sem, r87], rfl, rfl⟩) ?_
    rintro ex ρ2 ms2 h2 d2 ⟨rfl, rfl, rfl, seen, far2, l1, S2, hD, hoth, t0, t6, t7, t11, t86, t87⟩
    have hD' := hD.adj_congr (adj' := adjE E) (fun u v hu => by rw [(hnx u (by omega)).2]; simp [show u < 6 by omega])
    clear hD
    have lt2 := S2.lt
    by_cases cs : seen = 2 ^ n - 1
    · have e2 : (seen : Int) = ((2 ^ n - 1 : Nat) : Int) := by rw [cs]
      have hb : ∀ v, v < n → seen.testBit v = true := fun v hv => by rw [cs, Nat.testBit_two_pow_sub_one]; simpa using hv
      repeat (first | apply Z1 | apply Z2 | apply Z3 | apply Z4 | apply Z5 rfl | apply Z6 | apply Z7 | apply Z8 | apply Z9 | apply ZA | apply ZB | apply ZC | ((first | apply ZD (by decide) | apply ZN (by decide)); (simp (maxSteps := 9999999) only [go_sem, t0, t6, t7, t11, t86, t87, wn, sn, w2, e2, ew]; rfl)) | (refine ZE ?_ ?_; · simp only [go_sem]) | (refine ZF ?_ ?_; · simp only [go_sem]))
      refine end_nil ⟨k - 1, by omega, i + 1, far2, by omega, S2, fun s hs => ?_, fun s v h => ?_, by simp only [go_sem, t0], by simp only [go_sem, t6], by simp only [go_sem, t7], by simp only [go_sem, t86], by simp only [go_sem, ew], rfl, rfl⟩
      · by_cases c2 : s = i
        · subst c2
          exact ⟨_, hD', fun v hv => by rw [if_pos (hb v hv)]; exact ⟨by omega, rfl⟩⟩
        · obtain ⟨F, k1, k2⟩ := hfar s (by omega)
          exact ⟨F, k1, fun v hv => by rw [hoth s v (.inl c2)]; exact k2 v hv⟩
      · rw [hoth s v (by omega)]
        exact hz s v (by omega)
    · have e2 : ¬ (seen : Int) = ((2 ^ n - 1 : Nat) : Int) := by omega
      repeat (first | apply Z1 | apply Z2 | apply Z3 | apply Z4 | apply Z5 rfl | apply Z6 | apply Z7 | apply Z8 | apply Z9 | apply ZA | apply ZB | apply ZC | ((first | apply ZD (by decide) | apply ZN (by decide)); (simp (maxSteps := 9999999) only [go_sem, t0, t6, t7, t11, t86, t87, wn, sn, w2, e2]; rfl)) | (refine ZE ?_ ?_; · simp only [go_sem]) | (refine ZF ?_ ?_; · simp only [go_sem]))
      refine end_nil ⟨rfl, rfl, .inr ⟨rfl, by simp only [go_sem], by simp only [go_sem], fun hc => ?_, ?_⟩⟩
      · apply cs
        obtain ⟨F, k1, k2⟩ := hc i hin
        apply Nat.eq_of_testBit_eq
        intro v
        rw [Nat.testBit_two_pow_sub_one]
        by_cases cv : v < n
        · have := ((hD'.uniq k1 cv).1.2 (k2 v cv))
          cases e : seen.testBit v with
          | true => simpa using cv
          | false => rw [e] at this; simp at this
        · cases e : seen.testBit v with
          | false => simpa using cv
          | true =>
            have := Nat.testBit_lt_two_pow (x := seen) (i := v) (Nat.lt_of_lt_of_le l1 (Nat.pow_le_pow_right (by decide) (by omega)))
            rw [e] at this; cases this
      · exact take_of_same (by omega) S2.fr
theorem gV_zero (n : Nat) : gV n (fun _ => 0) (fun _ _ => 0) = .int .i64 n :: List.replicate 42 (.int .i64 0) := rfl
noncomputable abbrev gE (n : Nat) (E : List (Int × Int)) : SO := gC n (nxE E) (farE n E)
open Classical in
theorem open68 {H : SHeap} {n : Nat} (hn1 : 1 ≤ n) (hn : n ≤ 6) {v : Value} {E : List (Int × Int)} (hv : PS H v E) (hlen : E.length ≤ 4611686018427387904) :
    M.call 68 [.int .i64 n, v] H = some (if EOK n E ∧ Conn n E then (.tuple #[.pointer (some ⟨H.length, 0, none⟩), .int .i64 0], H ++ [gE n E], []) else (.tuple #[.pointer none, .int .i64 80], H, [])) := by
  refine call_run sf68 rfl rfl rfl ?_
  obtain ⟨va, vc, rfl, hp⟩ := id hv
  unfold sf68
  have c1 : ¬ ((n : Int) < 1) := by omega
  have c2 : ¬ (6 < (n : Int)) := by omega
  have S0 : OS H ((H ++ [.cells (.int .i64 n :: List.replicate 42 (.int .i64 0)) 101 true 0 []]) ++ [.cells [.int .i64 (-1), .int .i64 (-1)] 45 true 0 []]) n (fun _ => 0) (fun _ _ => 0) (-1, -1) := by
    refine ⟨fun j hj => ?_, ?_, ?_⟩
    · rw [List.append_assoc, List.getElem?_append_left hj]
    · rw [List.append_assoc, List.getElem?_append_right (Nat.le_refl _), Nat.sub_self, ← gV_zero]; rfl
    · rw [List.getElem?_append_right (by simp)]; simp
  have hH : ((H ++ [.cells (.int .i64 n :: List.replicate 42 (.int .i64 0)) 101 true 0 []]) ++ [.cells [.int .i64 (-1), .int .i64 (-1)] 45 true 0 []] : SHeap) = H ++ [.cells (.int .i64 n :: List.replicate 42 (.int .i64 0)) 101 true 0 [], .cells [.int .i64 (-1), .int .i64 (-1)] 45 true 0 []] := by rw [List.append_assoc]; rfl
  rw [hH] at S0
  repeat (first | apply Z1 | apply Z2 | apply Z3 | apply Z4 | apply Z5 rfl | apply Z6 | apply Z7 | apply Z8 | apply Z9 | apply ZA | apply ZB | apply ZC | ((first | apply ZD (by decide) | apply ZN (by decide)); (simp (maxSteps := 9999999) only [go_sem, argR, c1, c2]; rfl)) | (refine ZE ?_ ?_; · simp only [go_sem]) | (refine ZF ?_ ?_; · simp only [go_sem]))
  refine run_loop (edge_loop _ hn (H := H) hv hlen (fun _ _ => 0) E.length _ _ _ _ ⟨0, fun _ => 0, by omega, S0, fun v hv => ⟨show (0 : Nat) < 64 from by decide, fun w => by rw [Nat.zero_testBit]; rfl⟩, fun j hj => by omega, by simp only [go_sem, argR], by simp only [go_sem], by simp only [go_sem], by simp only [go_sem], by simp only [go_sem], by simp only [go_sem], rfl, rfl⟩) ?_
  rintro ex ρ2 ms2 h2 d2 ⟨rfl, rfl, h⟩
  rcases h with ⟨rfl, r0, r6, r7, hE, nx, a, S, hnx⟩ | ⟨rfl, r4, r5, hE, ht⟩
  · repeat (first | apply Z1 | apply Z2 | apply Z3 | apply Z4 | apply Z5 rfl | apply Z6 | apply Z7 | apply Z8 | apply Z9 | apply ZA | apply ZB | apply ZC | ((first | apply ZD (by decide) | apply ZN (by decide)); (simp (maxSteps := 9999999) only [go_sem, r0, r6, r7]; rfl)) | (refine ZE ?_ ?_; · simp only [go_sem]) | (refine ZF ?_ ?_; · simp only [go_sem]))
    refine run_loop (from_loop _ hn1 hn (H := H) (nx := nx) (a := a) hE hnx n _ _ _ _ ⟨0, fun _ _ => 0, by omega, S, fun s hs => by omega, fun s v _ => rfl, by simp only [go_sem, r0], by simp only [go_sem, r6], by simp only [go_sem, r7], by simp only [go_sem, r0], by simp only [go_sem], rfl, rfl⟩) ?_
    rintro ex ρ3 ms3 h3 d3 ⟨rfl, rfl, h⟩
    rcases h with ⟨rfl, hC, ⟨far, S3, hfar⟩, t6⟩ | ⟨rfl, t4, t5, hC, ht⟩
    · have lt3 := S3.lt
      repeat (first | apply Z1 | apply Z2 | apply Z3 | apply Z4 | apply Z5 rfl | apply Z6 | apply Z7 | apply Z8 | apply Z9 | apply ZA | apply ZB | apply ZC | ((first | apply ZD (by decide) | apply ZN (by decide)); (simp (maxSteps := 9999999) only [go_sem, t6]; rfl)) | (refine ZE ?_ ?_; · simp only [go_sem]) | (refine ZF ?_ ?_; · simp only [go_sem]))
      rw [if_pos ⟨hE, hC⟩]
      have hg : gC n nx far = gE n E := by
        unfold gE gC
        rw [gV_congr (nx' := nxE E) (far' := farE n E) (fun v hv => ?_) (fun f v _ _ => hfar f v)]
        apply Nat.eq_of_testBit_eq
        intro w
        rw [(hnx v hv).2, nxE_bit hE hn]
      exact end_nil (q_ptr2 (H := H) (old := []) (own := 0) (cs := gV n (nxE E) (farE n E)) (el := 101) (by simp only [go_sem, t6]) (by simp only [go_sem]) rfl (take_of_same (by omega) S3.fr) (by rw [S3.g, hg]) rfl (Nat.le_refl _))
    · repeat (first | apply Z1 | apply Z2 | apply Z3 | apply Z4 | apply Z5 rfl | apply Z6 | apply Z7 | apply Z8 | apply Z9 | apply ZA | apply ZB | apply ZC | ((first | apply ZD (by decide) | apply ZN (by decide)); (simp (maxSteps := 9999999) only [go_sem, t4, t5]; rfl)) | (refine ZE ?_ ?_; · simp only [go_sem]) | (refine ZF ?_ ?_; · simp only [go_sem]))
      rw [if_neg (fun h => hC h.2)]
      exact end_nil (q_free [.pointer none, .int .i64 80] (by simp only [go_sem, t4, t5]) rfl rfl rfl (fun _ => rfl) ht rfl)
  · repeat (first | apply Z1 | apply Z2 | apply Z3 | apply Z4 | apply Z5 rfl | apply Z6 | apply Z7 | apply Z8 | apply Z9 | apply ZA | apply ZB | apply ZC | ((first | apply ZD (by decide) | apply ZN (by decide)); (simp (maxSteps := 9999999) only [go_sem, r4, r5]; rfl)) | (refine ZE ?_ ?_; · simp only [go_sem]) | (refine ZF ?_ ?_; · simp only [go_sem]))
    rw [if_neg (fun h => hE h.1)]
    exact end_nil (q_free [.pointer none, .int .i64 80] (by simp only [go_sem, r4, r5]) rfl rfl rfl (fun _ => rfl) ht rfl)
end Go.Proofs.YtpkhkghiidilcaaDoor.Sh

namespace Go.Proofs.YtpkhkghiidilcaaDoor.Sh
open Go
set_option maxRecDepth 100000
set_option maxHeartbeats 4000000
def IS (h : SHeap) (v : Value) (l : List Int) : Prop := ∃ a c, v = .slice a l.length c ∧ (l ≠ [] → ∃ b o, a = some ⟨b, o, none⟩ ∧ b < h.length ∧ IL h b o l)
theorem IL.fr {H h : SHeap} {b o : Nat} {l : List Int} (k : IL H b o l) (e : h[b]? = H[b]?) : IL h b o l := fun i hi => by rw [load_same' e]; exact k i hi
theorem IS.fr {H h : SHeap} {v : Value} {l : List Int} (k : IS H v l) (hl : H.length ≤ h.length) (fr : ∀ j, j < H.length → h[j]? = H[j]?) : IS h v l := by
  obtain ⟨a, c, e, k⟩ := k
  refine ⟨a, c, e, fun hne => ?_⟩
  obtain ⟨b, o, ha, hb, hp⟩ := k hne
  exact ⟨b, o, ha, by omega, hp.fr (fr b hb)⟩
theorem IS.app {H : SHeap} {v : Value} {l : List Int} (k : IS H v l) (g : SHeap) : IS (H ++ g) v l := k.fr (by simp) (fun j hj => List.getElem?_append_left hj)
theorem IS.ld {H : SHeap} {v : Value} {l : List Int} (k : IS H v l) (hl : l ≠ []) : ∃ b o c, v = .slice (some ⟨b, o, none⟩) l.length c ∧ ∀ (i : Nat) (hi : i < l.length), loadS H none (.pointer (some ⟨b, o + i, none⟩)) = some (.int .i64 l[i]) := by
  obtain ⟨a, c, e, k⟩ := k
  obtain ⟨b, o, rfl, _, hp⟩ := k hl
  exact ⟨b, o, c, e, hp⟩
theorem sum_take {l : List Int} {i : Nat} (hi : i < l.length) : (l.take (i + 1)).sum = (l.take i).sum + l[i] := by
  rw [List.take_add_one, List.getElem?_eq_getElem hi, Option.toList_some, List.sum_append, List.sum_cons, List.sum_nil, Int.add_zero]
theorem sum_bnd {l : List Int} {B : Int} (h : ∀ x ∈ l, 0 ≤ x ∧ x ≤ B) : 0 ≤ l.sum ∧ l.sum ≤ B * l.length := by
  induction l with
  | nil => simp
  | cons a l ih =>
    have h1 := h a (List.mem_cons_self ..)
    have h2 := ih (fun x hx => h x (List.mem_cons_of_mem _ hx))
    rw [List.sum_cons, List.length_cons, Int.natCast_add, Int.mul_add]
    omega
theorem sum_small {l : List Int} (h : ∀ x ∈ l, 0 ≤ x ∧ x ≤ 1000) (hl : l.length ≤ 1000000) (i : Nat) : 0 ≤ (l.take i).sum ∧ (l.take i).sum ≤ 1000000000 := by
  have := sum_bnd (l := l.take i) (B := 1000) (fun x hx => h x (List.mem_of_mem_take hx))
  have h2 : (l.take i).length ≤ 1000000 := by rw [List.length_take]; omega
  omega
theorem sum60_loop (cx : Cx) {h : SHeap} {v : Value} {l : List Int} (hv : IS h v l) (hx : ∀ x ∈ l, 0 ≤ x ∧ x ≤ 1000) (hlen : l.length ≤ 1000000) :
    ∀ k ρ ms h' d', (∃ i : Nat, i + k = l.length ∧ ρ 3 = .int .i64 (l.take i).sum ∧ ρ 6 = v ∧ ρ 7 = .int .i64 l.length ∧ ρ 8 = .int .i64 i ∧ ms = [] ∧ h' = h ∧ d' = []) →
    LoopW M cx 5 sf60L0 ρ ms h' d' (fun ex ρ' ms' h' d' => ex = .exit 0 ∧ ms' = [] ∧ h' = h ∧ d' = [] ∧ ρ' 3 = .int .i64 l.sum) := by
  refine loop_run _ ?_
  rintro k ρ ms h' d' ⟨i, hk, r3, r6, r7, r8, rfl, rfl, rfl⟩
  unfold sf60L0
  by_cases c : k = 0
  · have e1 : ¬ ((i : Int) < l.length) := by omega
    repeat (first | apply Z1 | apply Z2 | apply Z3 | apply Z4 | apply Z5 rfl | apply Z6 | apply Z7 | apply Z8 | apply Z9 | apply ZA | apply ZB | apply ZC | ((first | apply ZD (by decide) | apply ZN (by decide)); (simp (maxSteps := 9999999) only [go_sem, r7, r8, e1]; rfl)) | (refine ZE ?_ ?_; · simp only [go_sem]) | (refine ZF ?_ ?_; · simp only [go_sem]))
    refine end_nil ⟨rfl, rfl, rfl, rfl, ?_⟩
    simp only [go_sem, r3]
    rw [List.take_of_length_le (by omega)]
  · have e1 : ((i : Int) < l.length) := by omega
    have e2 : (0 : Int) ≤ i := by omega
    have hil : i < l.length := by omega
    have ew : IntKind.i64.wrap ((i : Int) + 1) = ((i + 1 : Nat) : Int) := by rw [wrap64 (by omega) (by omega)]; rfl
    obtain ⟨b, o, cp, rfl, ld⟩ := hv.ld (by intro e; rw [e] at hil; simp at hil)
    have lp := ld i hil
    have hs := sum_take hil
    have hb := sum_small hx hlen (i + 1)
    have wa : IntKind.i64.wrap ((l.take i).sum + l[i]) = (l.take (i + 1)).sum := by rw [← hs, wrap64 (by omega) (by omega)]
    generalize l[i] = x at *
    generalize (l.take i).sum = s at *
    repeat (first | apply Z1 | apply Z2 | apply Z3 | apply Z4 | apply Z5 rfl | apply Z6 | apply Z7 | apply Z8 | apply Z9 | apply ZA | apply ZB | apply ZC | ((first | apply ZD (by decide) | apply ZN (by decide)); (simp (maxSteps := 9999999) only [go_sem, r3, r6, r7, r8, e1, e2, lp, wa, ew, Int.toNat_natCast]; rfl)) | (refine ZE ?_ ?_; · simp only [go_sem]) | (refine ZF ?_ ?_; · simp only [go_sem]))
    exact end_nil ⟨k - 1, by omega, i + 1, by omega, by simp only [go_sem, wa], by simp only [go_sem, r6], by simp only [go_sem, r7], by simp only [go_sem, ew], rfl, rfl, rfl⟩
theorem sum60 {h : SHeap} {v : Value} {l : List Int} (hv : IS h v l) (hx : ∀ x ∈ l, 0 ≤ x ∧ x ≤ 1000) (hlen : l.length ≤ 1000000) : M.call 60 [v] h = some (.int .i64 l.sum, h, []) := by
  refine call_run sf60 rfl rfl rfl ?_
  obtain ⟨va, vc, rfl, _⟩ := id hv
  unfold sf60
  repeat (first | apply Z1 | apply Z2 | apply Z3 | apply Z4 | apply Z5 rfl | apply Z6 | apply Z7 | apply Z8 | apply Z9 | apply ZA | apply ZB | apply ZC | ((first | apply ZD (by decide) | apply ZN (by decide)); (simp (maxSteps := 9999999) only [go_sem, argR]; rfl)) | (refine ZE ?_ ?_; · simp only [go_sem]) | (refine ZF ?_ ?_; · simp only [go_sem]))
  refine run_loop (sum60_loop _ hv hx hlen l.length _ _ _ _ ⟨0, by omega, by simp only [go_sem]; rfl, by simp only [go_sem], by simp only [go_sem], by simp only [go_sem], rfl, rfl, rfl⟩) ?_
  rintro ex ρ2 ms2 h2 d2 ⟨rfl, rfl, rfl, rfl, r3⟩
  repeat (first | apply Z1 | apply Z2 | apply Z3 | apply Z4 | apply Z5 rfl | apply Z6 | apply Z7 | apply Z8 | apply Z9 | apply ZA | apply ZB | apply ZC | ((first | apply ZD (by decide) | apply ZN (by decide)); (simp (maxSteps := 9999999) only [go_sem, r3]; rfl)) | (refine ZE ?_ ?_; · simp only [go_sem]) | (refine ZF ?_ ?_; · simp only [go_sem]))
  exact end_nil (q_ret1 _ (by simp only [go_sem, r3]) rfl (take_self _))
end Go.Proofs.YtpkhkghiidilcaaDoor.Sh

namespace Go.Proofs.YtpkhkghiidilcaaDoor.Sh
open Go
set_option maxRecDepth 100000
set_option maxHeartbeats 4000000
def SupOK (n : Int) (l : List Int) : Prop := (l.length : Int) = n ∧ (∀ x ∈ l, 0 ≤ x ∧ x ≤ 40) ∧ l.sum ≤ 40
instance (n : Int) (l : List Int) : Decidable (SupOK n l) := by unfold SupOK; infer_instance
theorem PS.ld {h : SHeap} {v : Value} {E : List (Int × Int)} (k : PS h v E) (hl : E ≠ []) : ∃ b o c, v = .slice (some ⟨b, o, none⟩) E.length c ∧ Prs h b o E := by
  obtain ⟨a, c, e, k⟩ := k
  obtain ⟨b, o, rfl, hp⟩ := k hl
  exact ⟨b, o, c, e, hp⟩
end Go.Proofs.YtpkhkghiidilcaaDoor.Sh

namespace Go.Proofs.YtpkhkghiidilcaaDoor.Sh
open Go
set_option maxRecDepth 100000
set_option maxHeartbeats 4000000
def cnt : Nat → (Nat → Int) → Nat
  | 0, _ => 0
  | n + 1, f => cnt n f + if f n < 0 then 1 else 0
theorem cnt_up_ge {f : Nat → Int} {v : Nat} {d : Int} : ∀ n, n ≤ v → cnt n (up f v d) = cnt n f
  | 0, _ => rfl
  | n + 1, h => by
    show cnt n (up f v d) + _ = cnt n f + _
    rw [cnt_up_ge n (by omega)]
    unfold up
    rw [if_neg (show ¬ n = v by omega)]
theorem cnt_up {f : Nat → Int} {v : Nat} {d : Int} (hd : 0 ≤ d) (hf : f v < 0) : ∀ n, v < n → cnt n (up f v d) + 1 = cnt n f
  | 0, h => by omega
  | n + 1, h => by
    show cnt n (up f v d) + _ + 1 = cnt n f + _
    by_cases c : v = n
    · subst c
      rw [cnt_up_ge v (Nat.le_refl _), if_pos hf]
      unfold up
      rw [if_pos rfl, if_neg (by omega)]
    · have := cnt_up hd hf n (by omega)
      have e : up f v d n = f n := by unfold up; rw [if_neg (by omega)]
      rw [e]; omega
theorem cnt_le (f : Nat → Int) : ∀ n, cnt n f ≤ n
  | 0 => Nat.le_refl _
  | n + 1 => by
    have := cnt_le f n
    show cnt n f + _ ≤ n + 1
    split <;> omega
theorem cnt_all {f : Nat → Int} : ∀ n, (∀ v, v < n → f v < 0) → cnt n f = n
  | 0, _ => rfl
  | n + 1, h => by
    show cnt n f + _ = n + 1
    rw [cnt_all n (fun v hv => h v (by omega)), if_pos (h n (by omega))]
structure QI (n : Nat) (adj : Nat → Nat → Bool) (s : Nat) (f : Nat → Int) (q : List Nat) (i w : Nat) : Prop where
  q1 : ∀ v ∈ q, v < n ∧ 0 ≤ f v ∧ f v < q.length
  q2 : ∀ v, v < n → 0 ≤ f v → v ∈ q
  neg : ∀ v, v < n → f v < 0 → f v = -1
  src : f s = 0
  prv : ∀ v ∈ q, v ≠ s → ∃ u ∈ q, adj u v = true ∧ f v = f u + 1
  mono : ∀ j k, j ≤ k → k < q.length → f (q.getD j 0) ≤ f (q.getD k 0)
  top : i < q.length → ∀ v ∈ q, f v ≤ f (q.getD i 0) + 1
  don : ∀ j, j < i → ∀ v, v < n → adj (q.getD j 0) v = true → 0 ≤ f v ∧ f v ≤ f (q.getD j 0) + 1
  her : ∀ v, v < w → adj (q.getD i 0) v = true → 0 ≤ f v ∧ f v ≤ f (q.getD i 0) + 1
  num : q.length + cnt n f = n
  ile : i ≤ q.length
theorem QI.start {n : Nat} {adj : Nat → Nat → Bool} {s : Nat} (hs : s < n) : QI n adj s (up (fun _ => -1) s 0) [s] 0 0 := by
  have e : ∀ v, up (fun _ => (-1 : Int)) s 0 v = if v = s then 0 else -1 := fun v => rfl
  refine ⟨fun v hv => ?_, fun v _ h => ?_, fun v _ h => ?_, ?_, fun v hv h => ?_, fun j k h1 h2 => ?_, fun _ v hv => ?_, fun j h => by omega, fun v h => by omega, ?_, by simp⟩
  · rw [List.mem_singleton] at hv; subst hv; rw [e, if_pos rfl]; exact ⟨hs, Int.le_refl _, by simp⟩
  · rw [e] at h
    by_cases c : v = s
    · rw [c]; exact List.mem_singleton.2 rfl
    · rw [if_neg c] at h; omega
  · rw [e] at h ⊢
    by_cases c : v = s
    · rw [if_pos c] at h; omega
    · rw [if_neg c]
  · rw [e, if_pos rfl]
  · exact (h (List.mem_singleton.1 hv)).elim
  · simp at h2; subst h2; simp at h1; subst h1; exact Int.le_refl _
  · rw [List.mem_singleton] at hv; subst hv; simp; omega
  · have := cnt_up (f := fun _ => (-1 : Int)) (v := s) (d := 0) (by omega) (by decide) n hs
    rw [cnt_all (f := fun _ => (-1 : Int)) n (fun _ _ => (by decide : (-1 : Int) < 0))] at this
    show 1 + _ = n
    omega
section
variable {n : Nat} {adj : Nat → Nat → Bool} {s : Nat} {f : Nat → Int} {q : List Nat} {i w : Nat}
theorem QI.at' (Q : QI n adj s f q i w) (h : i < q.length) : q.getD i 0 = q[i] ∧ q[i] ∈ q := by
  rw [List.getD_eq_getElem?_getD, List.getElem?_eq_getElem h]
  exact ⟨rfl, List.getElem_mem h⟩
theorem QI.skip (Q : QI n adj s f q i w) (hi : i < q.length) (hw : w < n) (h : ¬ (f w < 0 ∧ adj (q.getD i 0) w = true)) : QI n adj s f q i (w + 1) :=
  ⟨Q.q1, Q.q2, Q.neg, Q.src, Q.prv, Q.mono, Q.top, Q.don, fun v hv ha => by
    by_cases c : v = w
    · subst c
      have h0 : 0 ≤ f v := by
        apply Classical.byContradiction
        intro k
        exact h ⟨by omega, ha⟩
      exact ⟨h0, Q.top hi v (Q.q2 v hw h0)⟩
    · exact Q.her v (by omega) ha, Q.num, Q.ile⟩
theorem QI.push (Q : QI n adj s f q i w) (hi : i < q.length) (hw : w < n) (h0 : f w < 0) (ha : adj (q.getD i 0) w = true) : QI n adj s (up f w (f (q.getD i 0) + 1)) (q ++ [w]) i (w + 1) := by
  have hq : ∀ v ∈ q, v ≠ w := fun v hv e => by subst e; have := (Q.q1 v hv).2.1; omega
  obtain ⟨hu, hum⟩ := Q.at' hi
  rw [hu] at ha ⊢
  have hu0 := Q.q1 _ hum
  have old : ∀ v ∈ q, up f w (f q[i] + 1) v = f v := fun v hv => by unfold up; rw [if_neg (hq v hv)]
  have new : up f w (f q[i] + 1) w = f q[i] + 1 := by unfold up; rw [if_pos rfl]
  have gd : ∀ j, j < q.length → (q ++ [w]).getD j 0 = q.getD j 0 ∧ q.getD j 0 ∈ q := fun j hj => by
    rw [List.getD_eq_getElem?_getD, List.getD_eq_getElem?_getD, List.getElem?_append_left hj, List.getElem?_eq_getElem hj]
    exact ⟨rfl, List.getElem_mem hj⟩
  have gn : (q ++ [w]).getD q.length 0 = w := by rw [List.getD_eq_getElem?_getD]; simp
  have gi := gd i hi
  rw [hu] at gi
  have up_ge : ∀ v, 0 ≤ f v → up f w (f q[i] + 1) v = f v := fun v hv => by
    unfold up; rw [if_neg (fun e => by subst e; omega)]
  refine ⟨fun v hv => ?_, fun v hv h => ?_, fun v hv h => ?_, ?_, fun v hv hvs => ?_, fun j k h1 h2 => ?_, fun _ v hv => ?_, fun j hj v hv h => ?_, fun v hv h => ?_, ?_, ?_⟩
  · rw [List.mem_append, List.mem_singleton] at hv
    rw [List.length_append, List.length_singleton]
    rcases hv with hv | rfl
    · rw [old v hv]; have := Q.q1 v hv; omega
    · rw [new]; omega
  · rw [List.mem_append, List.mem_singleton]
    by_cases c : v = w
    · exact .inr c
    · unfold up at h; rw [if_neg c] at h; exact .inl (Q.q2 v hv h)
  · by_cases c : v = w
    · subst c; rw [new] at h; omega
    · unfold up at h ⊢; rw [if_neg c] at h ⊢; exact Q.neg v hv h
  · rw [up_ge s (by rw [Q.src]; omega), Q.src]
  · rw [List.mem_append, List.mem_singleton] at hv
    rcases hv with hv | rfl
    · obtain ⟨u, k1, k2, k3⟩ := Q.prv v hv hvs
      exact ⟨u, List.mem_append_left _ k1, k2, by rw [old v hv, old u k1]; exact k3⟩
    · exact ⟨q[i], List.mem_append_left _ hum, ha, by rw [new, old _ hum]⟩
  · rw [List.length_append, List.length_singleton] at h2
    by_cases c : k = q.length
    · subst c
      rw [gn, new]
      by_cases c2 : j = q.length
      · subst c2; rw [gn, new]; exact Int.le_refl _
      · have := gd j (by omega)
        rw [this.1, old _ this.2]
        have := Q.top hi _ this.2
        rw [hu] at this; exact this
    · have a1 := gd j (by omega)
      have a2 := gd k (by omega)
      rw [a1.1, a2.1, old _ a1.2, old _ a2.2]
      exact Q.mono j k h1 (by omega)
  · rw [gi.1, old _ hum]
    rw [List.mem_append, List.mem_singleton] at hv
    rcases hv with hv | rfl
    · rw [old v hv]; have := Q.top hi v hv; rw [hu] at this; exact this
    · rw [new]; exact Int.le_refl _
  · have a1 := gd j (by omega)
    rw [a1.1] at h ⊢
    have := Q.don j hj v hv h
    rw [old _ a1.2, up_ge v this.1]
    exact this
  · rw [gi.1] at h ⊢
    rw [old _ hum]
    by_cases c : v = w
    · subst c; rw [new]; omega
    · have := Q.her v (by omega) (by rw [hu]; exact h)
      rw [hu] at this
      rw [up_ge v this.1]; exact this
  · have := cnt_up (f := f) (v := w) (d := f q[i] + 1) (by omega) h0 n hw
    have := Q.num
    rw [List.length_append, List.length_singleton]; omega
  · rw [List.length_append]; have := Q.ile; omega
theorem QI.next (Q : QI n adj s f q i n) (hi : i < q.length) : QI n adj s f q (i + 1) 0 :=
  ⟨Q.q1, Q.q2, Q.neg, Q.src, Q.prv, Q.mono, fun h v hv => by
    have := Q.mono i (i + 1) (by omega) h
    have := Q.top hi v hv
    omega, fun j hj v hv h => by
    by_cases c : j = i
    · subst c; exact Q.her v hv h
    · exact Q.don j (by omega) v hv h, fun v h => by omega, Q.num, by omega⟩
theorem QI.fin (Q : QI n adj s f q i 0) (hi : i = q.length) : IsD n adj s f := by
  refine ⟨Q.src, fun v hv h1 h2 => ?_, fun u v hu hv h1 h2 => ?_⟩
  · obtain ⟨u, k1, k2, k3⟩ := Q.prv v (Q.q2 v hv h1) h2
    exact ⟨u, (Q.q1 u k1).1, k2, (Q.q1 u k1).2.1, k3⟩
  · obtain ⟨j, hj, e⟩ := List.mem_iff_getElem.1 (Q.q2 u hu h1)
    have := Q.don j (by omega) v hv
    rw [List.getD_eq_getElem?_getD, List.getElem?_eq_getElem hj, Option.getD_some, e] at this
    exact this h2
theorem QI.lt (Q : QI n adj s f q i w) : q.length ≤ n := by have := Q.num; omega
end
end Go.Proofs.YtpkhkghiidilcaaDoor.Sh

namespace Go.Proofs.YtpkhkghiidilcaaDoor.Sh
open Go
set_option maxRecDepth 100000
set_option maxHeartbeats 1000000
def AccL (H0 h : SHeap) (v : Value) (cs : List Value) (n s : Nat) (el : TypeId) : Prop :=
  AccS H0 h v cs n s el ∨ ∃ b, v = .slice (some ⟨b, 0, none⟩) n n ∧ n ≠ 0 ∧ n < UNK ∧ h[b]? = some (.cells cs el true 0 []) ∧ cs.length = n * s ∧ cs.all sc = true ∧ H0.length ≤ b ∧ H0.length ≤ h.length ∧ ∀ j, j < H0.length → h[j]? = H0[j]?
section
variable {H0 h : SHeap} {v : Value} {cs : List Value} {n s : Nat} {el : TypeId}
theorem AccL.le (A : AccL H0 h v cs n s el) : H0.length ≤ h.length := by
  rcases A with A | ⟨b, _, _, _, _, _, _, _, h1, _⟩
  · exact A.le
  · exact h1
theorem AccL.same (A : AccL H0 h v cs n s el) : ∀ j, j < H0.length → h[j]? = H0[j]? := by
  rcases A with A | ⟨b, _, _, _, _, _, _, _, _, h1⟩
  · exact A.same
  · exact h1
theorem AccL.shape (A : AccL H0 h v cs n s el) : ∃ a c, v = .slice a n c := by
  rcases A with A | ⟨b, rfl, _⟩
  · exact A.shape
  · exact ⟨_, _, rfl⟩
theorem AccL.app (A : AccL H0 h v cs n s el) (g : SHeap) : AccL H0 (h ++ g) v cs n s el := by
  rcases A with A | ⟨b, rfl, h1, h2, h3, h4, h5, h6, h7, h8⟩
  · exact .inl (A.app g)
  · have hb := (List.getElem?_eq_some_iff.1 h3).1
    exact .inr ⟨b, rfl, h1, h2, by rw [List.getElem?_append_left hb]; exact h3, h4, h5, h6, by simp; omega, fun j hj => by rw [List.getElem?_append_left (by omega)]; exact h8 j hj⟩
theorem AccL.cellsAt (A : AccL H0 h v cs n s el) (hn : n ≠ 0) : ∃ b c old, v = .slice (some ⟨b, 0, none⟩) n c ∧ h[b]? = some (.cells cs el true 0 old) ∧ H0.length ≤ b := by
  rcases A with A | ⟨b, rfl, h1, h2, h3, h4, h5, h6, h7⟩
  · rcases A.acc with ⟨e, _⟩ | ⟨b, old, rfl, h1, h2, h3, h4, h5, h6⟩
    · exact (hn e).elim
    · exact ⟨b, _, old, rfl, h1, h4⟩
  · exact ⟨b, _, [], rfl, h3, h6⟩
theorem AccL.push {bytes : Nat} {new : List Value} (A : AccL H0 h v cs n s el) {bs : Nat} {el2 : TypeId} {pf2 : Bool} {own2 : Nat} {old2 : List Nat}
    (hs : h[bs]? = some (.cells new el2 pf2 own2 old2)) (hr : readable own2 = true) (hl : new.length = s) (hs0 : 0 < s) (hsc : new.all sc = true) (hb0 : 0 < bytes) (hb : (n + 1) * bytes ≤ 140737488355328) :
    ∃ H2 v2, (∀ (base : Nat) (d : List Nat), appendS base h d el true s bytes v (.slice (some ⟨bs, 0, none⟩) 1 1) = some (v2, H2, d)) ∧ (∃ b, v2 = .slice (some ⟨b, 0, none⟩) (n + 1) (UNK + s)) ∧ AccS H0 H2 v2 (cs ++ new) (n + 1) s el := by
  rcases A with A | ⟨b, rfl, h1, h2, h3, h4, h5, h6, h7, h8⟩
  · obtain ⟨H2, v2, k1, k2, k3, _⟩ := A.push (bytes := bytes) hs hr hl hs0 hsc hb0 hb
    exact ⟨H2, v2, k1, k2, k3⟩
  · have hseen : rdN h bs 0 (1 * s) = some new := by
      rw [rdN_def, hs]
      dsimp only
      rw [hr, ble_dec, decide_eq_true (by omega), if_pos (by rfl), List.drop_zero, Nat.one_mul, ← hl, List.take_length]
    have hone := all_sc_one new hsc
    have hsx : rdN h b 0 (n * s) = some cs := by
      rw [rdN_def, h3]
      dsimp only
      rw [readable_0, ble_dec, decide_eq_true (by omega), if_pos (by rfl), List.drop_zero, ← h4, List.take_length]
    have hn : (n == 0) = false := beq_eq_false_iff_ne.2 h1
    have e1 : Nat.ble UNK n = false := by rw [ble_dec]; exact decide_eq_false (by omega)
    have e2 : Nat.ble (n + 1) n = false := by rw [ble_dec]; exact decide_eq_false (by omega)
    have e4 : Nat.ble ((n + 1) * bytes) 140737488355328 = true := by rw [ble_dec]; simpa using hb
    have e5 : Nat.blt 0 bytes = true := by rw [blt_dec]; simpa using hb0
    refine ⟨h ++ [.cells (cs ++ new) el true 0 []], .slice (some ⟨h.length, 0, none⟩) (n + 1) (UNK + s), fun base d => ?_, ⟨_, rfl⟩, ⟨.inr ⟨h.length, [], rfl, by simp, by rw [List.length_append, h4, hl, Nat.add_mul, Nat.one_mul], by omega, h7, by rw [List.all_append, h5, hsc]; rfl, fun c hc => by simp at hc⟩, by simp; omega, fun j hj => by rw [List.getElem?_append_left (by omega)]; exact h8 j hj⟩⟩
    unfold appendS
    simp only [lenS, seenS, hseen, hsx, hn, e1, e2, e4, e5, hone, hsc, h5]
    simp [-List.all_eq_true, hone, hsc, h5]
theorem AccL.own {H : SHeap} {o o' : SO} (A : AccL (H ++ [o]) h v cs n s el) : AccL (H ++ [o']) (h.set H.length o') v cs n s el := by
  have e : (H ++ [o]).length = H.length + 1 := by simp
  have e' : (H ++ [o']).length = H.length + 1 := by simp
  have hl := A.le
  have hsame := A.same
  rw [e] at hl hsame
  have same' : ∀ j, j < (H ++ [o']).length → (h.set H.length o')[j]? = (H ++ [o'])[j]? := fun j hj => by
    rw [e'] at hj
    by_cases c : j = H.length
    · subst c; rw [List.getElem?_set_self (by omega)]; simp
    · rw [List.getElem?_set_ne (fun e => c e.symm), hsame j (by omega), List.getElem?_append_left (by omega), List.getElem?_append_left (by omega)]
  rcases A with A | ⟨b, rfl, h1, h2, h3, h4, h5, h6, h7, h8⟩
  · have hacc := A.acc
    rw [e] at hacc
    refine .inl ⟨?_, by rw [e', List.length_set]; exact hl, same'⟩
    rw [e']
    exact hacc.keep (fun b eb => List.getElem?_set_ne (by have := (hacc.lt eb).1; omega))
  · rw [e] at h6
    exact .inr ⟨b, rfl, h1, h2, by rw [List.getElem?_set_ne (by omega)]; exact h3, h4, h5, by omega, by rw [e', List.length_set]; exact hl, same'⟩
theorem AccL.base {H : SHeap} {o : SO} (A : AccL (H ++ [o]) h v cs n s el) : H.length + 1 ≤ h.length ∧ h[H.length]? = some o ∧ ∀ j, j < H.length → h[j]? = H[j]? := by
  have hl := A.le
  have hsame := A.same
  rw [List.length_append, List.length_singleton] at hl hsame
  exact ⟨hl, by rw [hsame _ (by omega)]; simp, fun j hj => by rw [hsame j (by omega), List.getElem?_append_left hj]⟩
theorem AccL.lit {b : Nat} (hb : h = H0 ++ [.cells cs el true 0 []]) (hn : n ≠ 0) (hu : n < UNK) (hl : cs.length = n * s) (hsc : cs.all sc = true) : AccL H0 h (.slice (some ⟨H0.length, 0, none⟩) n n) cs n s el := by
  subst hb
  exact .inr ⟨_, rfl, hn, hu, by simp, hl, hsc, Nat.le_refl _, by simp, fun j hj => List.getElem?_append_left hj⟩
end
end Go.Proofs.YtpkhkghiidilcaaDoor.Sh

namespace Go.Proofs.YtpkhkghiidilcaaDoor.Sh
open Go
set_option maxRecDepth 100000
set_option maxHeartbeats 4000000
def iV (n : Nat) (f : Nat → Int) : List Value := (List.range n).map (fun v => Value.int .i64 (f v))
theorem iV_len (n : Nat) (f : Nat → Int) : (iV n f).length = n := by simp [iV]
theorem iV_get {n v : Nat} (f : Nat → Int) (h : v < n) : (iV n f)[v]? = some (.int .i64 (f v)) := by simp [iV, h]
theorem iV_set {n v : Nat} (f : Nat → Int) (h : v < n) (x : Int) : (iV n f).set v (.int .i64 x) = iV n (up f v x) := by
  apply List.ext_getElem?
  intro i
  by_cases e : i = v
  · subst e
    rw [List.getElem?_set_self (by rw [iV_len]; exact h), iV_get _ h]; simp [up]
  · rw [List.getElem?_set_ne (fun k => e k.symm)]
    by_cases c : i < n
    · rw [iV_get _ c, iV_get _ c]; simp [up, e]
    · rw [List.getElem?_eq_none (by rw [iV_len]; omega), List.getElem?_eq_none (by rw [iV_len]; omega)]
theorem iV_sc (n : Nat) (f : Nat → Int) : (iV n f).all sc = true := by
  rw [List.all_eq_true]
  intro v hv
  obtain ⟨i, _, rfl⟩ := List.mem_map.1 hv
  rfl
abbrev nI (v : Nat) : Value := .int .i64 (v : Int)
open Classical in
noncomputable def farI (n : Nat) (E : List (Int × Int)) (s v : Nat) : Int := if ∃ F, IsD n (adjE E) s F ∧ 0 ≤ F v then (farE n E s v : Int) else -1
end Go.Proofs.YtpkhkghiidilcaaDoor.Sh

namespace Go.Proofs.YtpkhkghiidilcaaDoor.Sh
open Go
set_option maxRecDepth 100000
set_option maxHeartbeats 4000000
inductive Wk (n : Nat) (adj : Nat → Nat → Bool) (s : Nat) : Nat → Nat → Prop
  | nil : Wk n adj s 0 s
  | step {k u v : Nat} : Wk n adj s k u → u < n → adj u v = true → Wk n adj s (k + 1) v
theorem least {P : Nat → Prop} : ∀ k, P k → ∃ m, P m ∧ ∀ j, j < m → ¬ P j := by
  intro k
  induction k using Nat.strongRecOn with
  | _ k ih =>
    intro h
    by_cases c : ∃ j, j < k ∧ P j
    · obtain ⟨j, h1, h2⟩ := c; exact ih j h1 h2
    · exact ⟨k, h, fun j hj hp => c ⟨j, hj, hp⟩⟩
open Classical in
theorem IsD.ex (n : Nat) (adj : Nat → Nat → Bool) (s : Nat) : ∃ F, IsD n adj s F := by
  have L : ∀ v, (∃ k, Wk n adj s k v) → ∃ m, Wk n adj s m v ∧ ∀ j, j < m → ¬ Wk n adj s j v := fun v ⟨k, h⟩ => least k h
  let F : Nat → Int := fun v => if h : ∃ k, Wk n adj s k v then ((Classical.choose (L v h) : Nat) : Int) else -1
  have hF : ∀ v k, Wk n adj s k v → ∃ m : Nat, F v = m ∧ Wk n adj s m v ∧ m ≤ k := fun v k h => by
    have hx : ∃ k, Wk n adj s k v := ⟨k, h⟩
    refine ⟨Classical.choose (L v hx), ?_, (Classical.choose_spec (L v hx)).1, ?_⟩
    · show (if h : ∃ k, Wk n adj s k v then ((Classical.choose (L v h) : Nat) : Int) else -1) = _
      rw [dif_pos hx]
    · apply Nat.le_of_not_lt
      intro hlt
      exact (Classical.choose_spec (L v hx)).2 k hlt h
  have hN : ∀ v, 0 ≤ F v → ∃ m : Nat, F v = m ∧ Wk n adj s m v := fun v h => by
    by_cases hx : ∃ k, Wk n adj s k v
    · obtain ⟨k, hk⟩ := hx
      obtain ⟨m, h1, h2, _⟩ := hF v k hk
      exact ⟨m, h1, h2⟩
    · have : F v = -1 := by
        show (if h : ∃ k, Wk n adj s k v then ((Classical.choose (L v h) : Nat) : Int) else -1) = _
        rw [dif_neg hx]
      omega
  refine ⟨F, ?_, fun v hv h1 h2 => ?_, fun u v hu hv h1 h2 => ?_⟩
  · obtain ⟨m, h1, _, h3⟩ := hF s 0 .nil
    omega
  · obtain ⟨m, k1, k2⟩ := hN v h1
    cases k2 with
    | nil => exact (h2 rfl).elim
    | step w hu ha =>
      rename_i k u
      obtain ⟨m2, j1, j2, j3⟩ := hF u k w
      obtain ⟨m3, i1, _, i3⟩ := hF v (m2 + 1) (.step j2 hu ha)
      exact ⟨u, hu, ha, by omega, by omega⟩
  · obtain ⟨m, k1, k2⟩ := hN u h1
    obtain ⟨m3, i1, _, i3⟩ := hF v (m + 1) (.step k2 hu h2)
    omega
theorem farI_spec {n : Nat} {E : List (Int × Int)} {s : Nat} (hs : s < n) : ∃ F, IsD n (adjE E) s F ∧ ∀ v, v < n → (0 ≤ F v → farI n E s v = F v) ∧ (F v < 0 → farI n E s v = -1) := by
  obtain ⟨F, hF⟩ := IsD.ex n (adjE E) s
  refine ⟨F, hF, fun v hv => ⟨fun h => ?_, fun h => ?_⟩⟩
  · unfold farI
    rw [if_pos ⟨F, hF, h⟩]
    exact farE_eq hF hs hv h
  · unfold farI
    rw [if_neg (fun ⟨F', k1, k2⟩ => by have := (hF.uniq k1 hv).1.2 k2; omega)]
theorem conn_iff {n : Nat} {E : List (Int × Int)} (hn : 1 ≤ n) : Conn n E ↔ ∀ v, v < n → 0 ≤ farI n E 0 v := by
  obtain ⟨F0, h0, k0⟩ := farI_spec (n := n) (E := E) (s := 0) (by omega)
  constructor
  · intro hc v hv
    obtain ⟨F, h1, h2⟩ := hc 0 (by omega)
    have := (h0.uniq h1 hv).1.2 (h2 v hv)
    rw [(k0 v hv).1 this]; exact this
  · intro h s hs
    obtain ⟨F, hF⟩ := IsD.ex n (adjE E) s
    refine ⟨F, hF, h0.all (adjE_symm E) (by omega) hs hF (fun v hv => ?_)⟩
    apply Classical.byContradiction
    intro hneg
    have := (k0 v hv).2 (by omega)
    have := h v hv
    omega
open Classical in
noncomputable def errG (n : Int) (E : List (Int × Int)) : Int := if n < 1 ∨ 6 < n then 1 else if EOK n.toNat E ∧ Conn n.toNat E then 0 else 80
end Go.Proofs.YtpkhkghiidilcaaDoor.Sh

namespace Go.Proofs.YtpkhkghiidilcaaDoor.Sh
open Go
set_option maxRecDepth 100000
set_option maxHeartbeats 4000000
theorem errG_ok {n : Int} {E : List (Int × Int)} (he : errG n E = 0) : ∃ m : Nat, n = m ∧ 1 ≤ m ∧ m ≤ 6 ∧ EOK m E ∧ Conn m E := by
  unfold errG at he
  by_cases c : n < 1 ∨ 6 < n
  · rw [if_pos c] at he; omega
  · rw [if_neg c] at he
    by_cases c2 : EOK n.toNat E ∧ Conn n.toNat E
    · exact ⟨n.toNat, by omega, by omega, by omega, c2.1, c2.2⟩
    · rw [if_neg c2] at he; omega
theorem errG_of {n : Nat} {E : List (Int × Int)} (h1 : 1 ≤ n) (h2 : n ≤ 6) (h3 : EOK n E) (h4 : Conn n E) : errG n E = 0 := by
  rw [errG, if_neg (by omega), Int.toNat_natCast, if_pos ⟨h3, h4⟩]
theorem open68_ok {H : SHeap} {n : Nat} {v : Value} {E : List (Int × Int)} (hv : PS H v E) (hlen : E.length ≤ 1000000) (he : errG n E = 0) : M.call 68 [.int .i64 n, v] H = some (.tuple #[.pointer (some ⟨H.length, 0, none⟩), .int .i64 0], H ++ [gE n E], []) := by
  obtain ⟨m, e, h1, h2, h3, h4⟩ := errG_ok he
  obtain rfl : n = m := by omega
  rw [open68 h1 h2 hv (by omega), if_pos ⟨h3, h4⟩]
theorem openGoal_ok {H : SHeap} {n : Nat} {v : Value} {E : List (Int × Int)} (hv : PS H v E) (hlen : E.length ≤ 1000000) (he : errG n E = 0) {goal : Nat} (hg : goal < n) : M.call 58 [.int .i64 n, v, .int .i64 goal] H = some (.tuple #[.pointer (some ⟨H.length, 0, none⟩), .int .i64 0], H ++ [gE n E], []) := by
  refine call_run sf58 rfl rfl rfl ?_
  obtain ⟨va, vc, rfl, _⟩ := id hv
  have o := open68_ok hv hlen he
  have c1 : ¬ (goal : Int) < 0 := by omega
  have c2 : ¬ (n : Int) ≤ goal := by omega
  unfold sf58
  repeat (first | apply Z1 | apply Z2 | apply Z3 | apply Z4 | apply Z5 rfl | apply Z6 | apply Z7 | apply Z8 | apply Z9 | apply ZA | apply ZB | apply ZC | ((first | apply ZD (by decide) | apply ZN (by decide)); (simp (maxSteps := 9999999) only [go_sem, argR, o, c1, c2]; rfl)) | (refine ZE ?_ ?_; · simp only [go_sem]) | (refine ZF ?_ ?_; · simp only [go_sem]))
  exact end_nil (q_ptr2 (H := H) (old := []) (own := 0) (cs := gV n (nxE E) (farE n E)) (el := 101) (by simp only [go_sem]) (by simp only [go_sem]) rfl (by simp) (by simp) rfl (Nat.le_refl _))
theorem rdN_at {h : SHeap} {b o n : Nat} {cs : List Value} {el : TypeId} {pf : Bool} {own : Nat} {old : List Nat} (hb : h[b]? = some (.cells cs el pf own old)) (hr : readable own = true) (hl : o + n ≤ cs.length) : rdN h b o n = some ((cs.drop o).take n) := by
  rw [rdN_def, hb]
  dsimp only
  rw [hr, ble_dec, decide_eq_true hl]; rfl
theorem sliceArr_hi {b o m n size : Nat} (h : n ≤ m) (hm : m < UNK) (h0 : m ≠ 0) : sliceArrS m size (.pointer (some ⟨b, o, none⟩)) none (some (.int .i64 (n : Int))) none = some (.slice (some ⟨b, o, none⟩) n m) := by
  have e1 : Nat.ble n m = true := by rw [ble_dec]; simpa using h
  have e2 : Nat.blt m UNK = true := by rw [blt_dec]; simpa using hm
  unfold sliceArrS
  simp [bMx, bHi, bLo, bnd, e1, e2, h0, h]
theorem gEat (H : SHeap) (n : Nat) (E : List (Int × Int)) : (H ++ [gE n E] : SHeap)[H.length]? = some (.cells (gV n (nxE E) (farE n E)) 101 true 0 []) := by
  rw [List.getElem?_append_right (Nat.le_refl _), Nat.sub_self]; rfl
end Go.Proofs.YtpkhkghiidilcaaDoor.Sh

namespace Go.Proofs.YtpkhkghiidilcaaDoor.Sh
open Go
set_option maxRecDepth 100000
set_option maxHeartbeats 4000000
theorem E_copy (R : Rec) (cx : Cx) (e : Evl) (sl : Option Nat) (size : Nat) (x y : Operand) (h : SHeap) (d : List Nat) : opE R cx e sl (.copy size x y) h d = match e x, e y with
    | some a, some b => copyS cx.base h d size a b
    | _, _ => none := (rfl)
attribute [go_sem ↓] E_copy
theorem sliceArr_6 (b o : Nat) : sliceArrS 6 1 (.pointer (some ⟨b, o, none⟩)) none none none = some (.slice (some ⟨b, o, none⟩) 6 6) := (rfl)
def stV (s : Nat → Int) : Value := .agg (iV 6 s).toArray
theorem stV_def (s : Nat → Int) : stV s = .agg #[.int .i64 (s 0), .int .i64 (s 1), .int .i64 (s 2), .int .i64 (s 3), .int .i64 (s 4), .int .i64 (s 5)] := rfl
theorem iV6 (s : Nat → Int) : iV 6 s = [.int .i64 (s 0), .int .i64 (s 1), .int .i64 (s 2), .int .i64 (s 3), .int .i64 (s 4), .int .i64 (s 5)] := rfl
def stk (l : List Int) (v : Nat) : Int := l.getD v 0
theorem stk_at {l : List Int} {v : Nat} (h : v < l.length) : stk l v = l[v] := by unfold stk; rw [List.getD_eq_getElem?_getD, List.getElem?_eq_getElem h]; rfl
theorem stk_out {l : List Int} {v : Nat} (h : l.length ≤ v) : stk l v = 0 := by unfold stk; rw [List.getD_eq_getElem?_getD, List.getElem?_eq_none h]; rfl
theorem IL.rdN {h : SHeap} {b o : Nat} {l : List Int} (k : IL h b o l) (hne : l ≠ []) : rdN h b o (l.length * 1) = some (l.map mkI) := by
  have l0 := k 0 (List.length_pos_iff.2 hne)
  have hr : ∀ {o x}, loadS h none (.pointer (some ⟨b, o, none⟩)) = some x → ∃ cs el pf own old, h[b]? = some (.cells cs el pf own old) ∧ readable own = true ∧ cs[o]? = some x := fun {o x} e => by
    rw [load_rdO] at e
    cases hb : h[b]? with
    | none => rw [hb] at e; cases e
    | some so =>
      rw [hb] at e
      cases so with
      | cells cs el pf own old =>
        rw [rdO_cells] at e
        by_cases c : readable own = true
        · rw [if_pos c] at e; exact ⟨cs, el, pf, own, old, rfl, c, e⟩
        · rw [if_neg c] at e; cases e
      | _ => cases e
  obtain ⟨cs, el, pf, own, old, hb, hro, _⟩ := hr l0
  have cell : ∀ i (hi : i < l.length), cs[o + i]? = some (.int .i64 l[i]) := fun i hi => by
    obtain ⟨cs', el', pf', own', old', hb', _, hc⟩ := hr (k i hi)
    rw [hb] at hb'; cases hb'; exact hc
  have hlen : o + l.length ≤ cs.length := by
    have hp : 0 < l.length := List.length_pos_iff.2 hne
    have := (List.getElem?_eq_some_iff.1 (cell (l.length - 1) (by omega))).1
    omega
  rw [Nat.mul_one, rdN_at hb hro hlen]
  congr 1
  apply List.ext_getElem?
  intro i
  by_cases c : i < l.length
  · rw [List.getElem?_take_of_lt c, List.getElem?_drop, cell i c, List.getElem?_map, List.getElem?_eq_getElem c]; rfl
  · rw [List.getElem?_eq_none (by rw [List.length_take]; omega), List.getElem?_eq_none (by rw [List.length_map]; omega)]
section
variable {H h : SHeap} {b o : Nat} {cs : List Value} {el : TypeId} {own : Nat} {old : List Nat}
end
theorem q_gc {rs : List SRes} {base : Nat} {ρ : Reg} {h h' : SHeap} {v : Value} {ex : Ex} (l : List Value) (he : resE ρ h rs = some l) (ho : l.all opnB = true) (hg : gcS base (oneV l) h = some (v, h')) (hx : isEnd ex = true) : callQ rs base (v, h', []) ex ρ [] h [] :=
  ⟨hx, resE_ok (K := fun l' => endW base h [] (v, h', []) l') he ho ⟨_, _, hg, rfl⟩⟩
section
variable {H : SHeap} {v sv : Value} {E : List (Int × Int)} {l : List Int}
end
end Go.Proofs.YtpkhkghiidilcaaDoor.Sh

namespace Go.Proofs.YtpkhkghiidilcaaDoor.Sh
open Go
set_option maxRecDepth 100000
set_option maxHeartbeats 4000000
def GAt (h : SHeap) (g n : Nat) (E : List (Int × Int)) : Prop := h[g]? = some (gE n E)
theorem GAt.app {h : SHeap} {g n : Nat} {E : List (Int × Int)} (k : GAt h g n E) (x : SHeap) : GAt (h ++ x) g n E := by
  unfold GAt at *
  rw [List.getElem?_append_left (List.getElem?_eq_some_iff.1 k).1]; exact k
theorem GAt.n {h : SHeap} {g n : Nat} {E : List (Int × Int)} (k : GAt h g n E) : loadS h none (.pointer (some ⟨g, 0, none⟩)) = some (.int .i64 n) := by
  have := load_cell (h := h) (o := 0) k rfl (gV_n _ _ _) []
  rw [List.append_nil] at this; exact this
theorem GAt.nx {h : SHeap} {g n : Nat} {E : List (Int × Int)} (k : GAt h g n E) {v : Nat} (hv : v < 6) : loadS h none (.pointer (some ⟨g, 1 + v, none⟩)) = some (.int .i64 (nxE E v)) := by
  have := load_cell (h := h) (o := 1 + v) k rfl (gV_next _ _ _ hv) []
  rw [List.append_nil] at this; exact this
theorem GAt.far {h : SHeap} {g n : Nat} {E : List (Int × Int)} (k : GAt h g n E) {f v : Nat} (hf : f < 6) (hv : v < 6) : loadS h none (.pointer (some ⟨g, 7 + f * 6 + v, none⟩)) = some (.int .i64 (farE n E f v)) := by
  have := load_cell (h := h) (o := 7 + f * 6 + v) k rfl (gV_far _ _ _ hf hv) []
  rw [List.append_nil] at this; exact this
theorem in84 {h : SHeap} {c g n : Nat} {E : List (Int × Int)} (hc : loadS h none (.pointer (some ⟨c, 0, none⟩)) = some (.pointer (some ⟨g, 0, none⟩))) (hg : GAt h g n E) (v : Int) : M.call 84 [.int .i64 v, .pointer (some ⟨c, 0, none⟩)] h = some (.bool (decide (0 ≤ v ∧ v < n)), h, []) := by
  refine call_run sf84 rfl rfl rfl ?_
  have l := hg.n
  unfold sf84
  by_cases c1 : 0 ≤ v
  · have c1' : v ≥ 0 := c1
    by_cases c2 : v < n
    · repeat (first | apply Z1 | apply Z2 | apply Z3 | apply Z4 | apply Z5 rfl | apply Z6 | apply Z7 | apply Z8 | apply Z9 | apply ZA | apply ZB | apply ZC | ((first | apply ZD (by decide) | apply ZN (by decide)); (simp (maxSteps := 9999999) only [go_sem, argR, c1, c1', c2, hc, l]; rfl)) | (refine ZE ?_ ?_; · simp only [go_sem]) | (refine ZF ?_ ?_; · simp only [go_sem]))
      rw [decide_eq_true ⟨c1, c2⟩]
      exact end_nil (q_ret1 _ (by simp only [go_sem]) rfl (take_self _))
    · repeat (first | apply Z1 | apply Z2 | apply Z3 | apply Z4 | apply Z5 rfl | apply Z6 | apply Z7 | apply Z8 | apply Z9 | apply ZA | apply ZB | apply ZC | ((first | apply ZD (by decide) | apply ZN (by decide)); (simp (maxSteps := 9999999) only [go_sem, argR, c1, c1', c2, hc, l]; rfl)) | (refine ZE ?_ ?_; · simp only [go_sem]) | (refine ZF ?_ ?_; · simp only [go_sem]))
      rw [decide_eq_false (fun h => c2 h.2)]
      exact end_nil (q_ret1 _ (by simp only [go_sem]) rfl (take_self _))
  · have c1' : ¬ v ≥ 0 := c1
    repeat (first | apply Z1 | apply Z2 | apply Z3 | apply Z4 | apply Z5 rfl | apply Z6 | apply Z7 | apply Z8 | apply Z9 | apply ZA | apply ZB | apply ZC | ((first | apply ZD (by decide) | apply ZN (by decide)); (simp (maxSteps := 9999999) only [go_sem, argR, c1, c1']; rfl)) | (refine ZE ?_ ?_; · simp only [go_sem]) | (refine ZF ?_ ?_; · simp only [go_sem]))
    rw [decide_eq_false (fun h => c1 h.1)]
    exact end_nil (q_ret1 _ (by simp only [go_sem]) rfl (take_self _))
def canM (n : Nat) (E : List (Int × Int)) (s : Nat → Int) (a b : Int) : Prop := (0 ≤ a ∧ a < n) ∧ (0 ≤ b ∧ b < n) ∧ adjE E a.toNat b.toNat = true ∧ 2 ≤ s a.toNat
instance (n : Nat) (E : List (Int × Int)) (s : Nat → Int) (a b : Int) : Decidable (canM n E s a b) := by unfold canM; infer_instance
theorem st_load {h : SHeap} {c : Nat} {s : Nat → Int} {el : TypeId} {pf : Bool} {own : Nat} {old : List Nat} (k : h[c]? = some (.cells (iV 6 s) el pf own old)) (hr : readable own = true) {v : Nat} (hv : v < 6) : loadS h none (.pointer (some ⟨c, v, none⟩)) = some (.int .i64 (s v)) := by
  have := load_cell (h := h) (o := v) k hr (iV_get s hv) []
  rw [List.append_nil] at this; exact this
theorem can78 {h : SHeap} {g n : Nat} {E : List (Int × Int)} (hE : EOK n E) (hn : n ≤ 6) (hg : GAt h g n E) (s : Nat → Int) (a b : Int) : M.call 78 [.pointer (some ⟨g, 0, none⟩), stV s, .agg #[.int .i64 a, .int .i64 b]] h = some (.bool (decide (canM n E s a b)), h, []) := by
  refine call_run sf78 rfl rfl rfl ?_
  unfold sf78
  rw [stV_def]
  have hH : ∀ x, loadS (h ++ [.cells [.pointer (some ⟨g, 0, none⟩)] 85 false 0 [], x, .cells [.int .i64 a, .int .i64 b] 106 true 0 []]) none (.pointer (some ⟨h.length, 0, none⟩)) = some (.pointer (some ⟨g, 0, none⟩)) := fun x => by
    rw [load_app0]; rfl
  have ia : ∀ x, M.call 84 [.int .i64 a, .pointer (some ⟨h.length, 0, none⟩)] (h ++ [.cells [.pointer (some ⟨g, 0, none⟩)] 85 false 0 [], x, .cells [.int .i64 a, .int .i64 b] 106 true 0 []]) = some (.bool (decide (0 ≤ a ∧ a < n)), h ++ [.cells [.pointer (some ⟨g, 0, none⟩)] 85 false 0 [], x, .cells [.int .i64 a, .int .i64 b] 106 true 0 []], []) := fun x => in84 (hH x) (hg.app _) a
  have ib : ∀ x, M.call 84 [.int .i64 b, .pointer (some ⟨h.length, 0, none⟩)] (h ++ [.cells [.pointer (some ⟨g, 0, none⟩)] 85 false 0 [], x, .cells [.int .i64 a, .int .i64 b] 106 true 0 []]) = some (.bool (decide (0 ≤ b ∧ b < n)), h ++ [.cells [.pointer (some ⟨g, 0, none⟩)] 85 false 0 [], x, .cells [.int .i64 a, .int .i64 b] 106 true 0 []], []) := fun x => in84 (hH x) (hg.app _) b
  by_cases c1 : 0 ≤ a ∧ a < n
  · simp only [decide_eq_true c1] at ia
    by_cases c2 : 0 ≤ b ∧ b < n
    · simp only [decide_eq_true c2] at ib
      obtain ⟨p, rfl⟩ : ∃ p : Nat, a = p := ⟨a.toNat, by omega⟩
      obtain ⟨q, rfl⟩ : ∃ q : Nat, b = q := ⟨b.toNat, by omega⟩
      have hp6 : p < 6 := by omega
      have hq6 : q < 6 := by omega
      have z1 : (0 : Int) ≤ p := by omega
      have z2 : (p : Int) < 6 := by omega
      have wq : IntKind.u64.wrap (q : Int) = q := wrapU (by omega) (by omega)
      have hx := fun x => (hg.app x).nx hp6
      have sh := shr_n (k := .u64) (a := nxE E p) (v := q) (by omega)
      have bv := bit_val (nxE E p) q
      have an := b_and (a := nxE E p / 2 ^ q) (b := 1) (by have := Nat.div_le_self (nxE E p) (2 ^ q); have := nxE_lt E p; omega) (by decide)
      rw [nxE_bit hE hn] at bv
      rw [bv] at an
      by_cases c3 : adjE E p q = true
      · rw [if_pos c3] at an
        have an' : binS .and (.int .i64 ((nxE E p / 2 ^ q : Nat) : Int)) (.int .i64 1) = some (.int .i64 1) := an
        have ls : ∀ x y, loadS (h ++ [x, .cells [.int .i64 (s 0), .int .i64 (s 1), .int .i64 (s 2), .int .i64 (s 3), .int .i64 (s 4), .int .i64 (s 5)] 87 true 0 [], y]) none (.pointer (some ⟨h.length + 1, p, none⟩)) = some (.int .i64 (s p)) := fun x y => by
          refine st_load (s := s) (el := 87) (pf := true) (own := 0) (old := []) ?_ rfl hp6
          rw [app_get]; rfl
        by_cases c4 : 2 ≤ s p
        · have c4' : s p ≥ 2 := c4
          repeat (first | apply Z1 | apply Z2 | apply Z3 | apply Z4 | apply Z5 rfl | apply Z6 | apply Z7 | apply Z8 | apply Z9 | apply ZA | apply ZB | apply ZC | ((first | apply ZD (by decide) | apply ZN (by decide)); (simp (maxSteps := 9999999) only [go_sem, argR, ia, ib, z1, z2, hx, wq, sh, an', ls, c4, c4', Int.toNat_natCast]; rfl)) | (refine ZE ?_ ?_; · simp only [go_sem]) | (refine ZF ?_ ?_; · simp only [go_sem]))
          rw [decide_eq_true (show canM n E s p q from ⟨c1, c2, c3, c4⟩)]
          exact end_nil (q_ret1 _ (by simp only [go_sem]) rfl (by simp))
        · have c4' : ¬ s p ≥ 2 := c4
          repeat (first | apply Z1 | apply Z2 | apply Z3 | apply Z4 | apply Z5 rfl | apply Z6 | apply Z7 | apply Z8 | apply Z9 | apply ZA | apply ZB | apply ZC | ((first | apply ZD (by decide) | apply ZN (by decide)); (simp (maxSteps := 9999999) only [go_sem, argR, ia, ib, z1, z2, hx, wq, sh, an', ls, c4, c4', Int.toNat_natCast]; rfl)) | (refine ZE ?_ ?_; · simp only [go_sem]) | (refine ZF ?_ ?_; · simp only [go_sem]))
          rw [decide_eq_false (fun h : canM n E s p q => c4 h.2.2.2)]
          exact end_nil (q_ret1 _ (by simp only [go_sem]) rfl (by simp))
      · rw [if_neg c3] at an
        have an' : binS .and (.int .i64 ((nxE E p / 2 ^ q : Nat) : Int)) (.int .i64 1) = some (.int .i64 0) := an
        repeat (first | apply Z1 | apply Z2 | apply Z3 | apply Z4 | apply Z5 rfl | apply Z6 | apply Z7 | apply Z8 | apply Z9 | apply ZA | apply ZB | apply ZC | ((first | apply ZD (by decide) | apply ZN (by decide)); (simp (maxSteps := 9999999) only [go_sem, argR, ia, ib, z1, z2, hx, wq, sh, an', Int.toNat_natCast]; rfl)) | (refine ZE ?_ ?_; · simp only [go_sem]) | (refine ZF ?_ ?_; · simp only [go_sem]))
        rw [decide_eq_false (fun h : canM n E s p q => c3 h.2.2.1)]
        exact end_nil (q_ret1 _ (by simp only [go_sem]) rfl (by simp))
    · simp only [decide_eq_false c2] at ib
      repeat (first | apply Z1 | apply Z2 | apply Z3 | apply Z4 | apply Z5 rfl | apply Z6 | apply Z7 | apply Z8 | apply Z9 | apply ZA | apply ZB | apply ZC | ((first | apply ZD (by decide) | apply ZN (by decide)); (simp (maxSteps := 9999999) only [go_sem, argR, ia, ib]; rfl)) | (refine ZE ?_ ?_; · simp only [go_sem]) | (refine ZF ?_ ?_; · simp only [go_sem]))
      rw [decide_eq_false (fun h : canM n E s a b => c2 h.2.1)]
      exact end_nil (q_ret1 _ (by simp only [go_sem]) rfl (by simp))
  · simp only [decide_eq_false c1] at ia
    repeat (first | apply Z1 | apply Z2 | apply Z3 | apply Z4 | apply Z5 rfl | apply Z6 | apply Z7 | apply Z8 | apply Z9 | apply ZA | apply ZB | apply ZC | ((first | apply ZD (by decide) | apply ZN (by decide)); (simp (maxSteps := 9999999) only [go_sem, argR, ia]; rfl)) | (refine ZE ?_ ?_; · simp only [go_sem]) | (refine ZF ?_ ?_; · simp only [go_sem]))
    rw [decide_eq_false (fun h : canM n E s a b => c1 h.1)]
    exact end_nil (q_ret1 _ (by simp only [go_sem]) rfl (by simp))
end Go.Proofs.YtpkhkghiidilcaaDoor.Sh

namespace Go.Proofs.YtpkhkghiidilcaaDoor.Sh
open Go
set_option maxRecDepth 100000
set_option maxHeartbeats 4000000
def aft (s : Nat → Int) (a b : Nat) : Nat → Int := up (up s a (s a - 2)) b (up s a (s a - 2) b + 1)
theorem aft79 {h : SHeap} {s : Nat → Int} {a b : Nat} (ha : a < 6) (hb : b < 6) (h1 : -1000 ≤ s a ∧ s a ≤ 1000) (h2 : -1000 ≤ s b ∧ s b ≤ 1000) : M.call 79 [.agg #[.int .i64 a, .int .i64 b], stV s] h = some (stV (aft s a b), h, []) := by
  refine call_run sf79 rfl rfl rfl ?_
  unfold sf79
  rw [stV_def s]
  have z1 : (0 : Int) ≤ a := by omega
  have z2 : (a : Int) < 6 := by omega
  have z3 : (0 : Int) ≤ b := by omega
  have z4 : (b : Int) < 6 := by omega
  have hl : ∀ (f : Nat → Int) x y v, v < 6 → loadS (h ++ [x, .cells (iV 6 f) 87 true 0 [], y]) none (.pointer (some ⟨h.length + 1, v, none⟩)) = some (.int .i64 (f v)) := fun f x y v hv => by
    refine st_load (s := f) (el := 87) (pf := true) (own := 0) (old := []) ?_ rfl hv
    rw [app_get]; rfl
  have hla : ∀ (f : Nat → Int) x y, loadS (h ++ [x, .cells (iV 6 f) 87 true 0 [], y]) (some 6) (.pointer (some ⟨h.length + 1, 0, none⟩)) = some (stV f) := fun f x y => by
    have := load_all (h := h ++ [x, .cells (iV 6 f) 87 true 0 [], y]) (b := h.length + 1) (n := 6) (cs := iV 6 f) (el := 87) (pf := true) (own := 0) (old := []) (by rw [app_get]; rfl) rfl (iV_len _ _) []
    rw [List.append_nil] at this; exact this
  have hs : ∀ (f : Nat → Int) x y v (w : Int) base d, v < 6 → storeS base (h ++ [x, .cells (iV 6 f) 87 true 0 [], y]) d (h.length + 1) v (cellsL (.int .i64 w)) = some (h ++ [x, .cells (iV 6 (up f v w)) 87 true 0 [], y], d) := fun f x y v w base d hv => by
    have := store_cell (h := h ++ [x, .cells (iV 6 f) 87 true 0 [], y]) (base := base) (b := h.length + 1) (o := v) (c := .int .i64 w) (cs := iV 6 f) (el := 87) (pf := true) (by rw [app_get]; rfl) (by rw [iV_len]; exact hv) rfl (fun _ => rfl) d
    rw [iV_set f hv] at this
    rw [cells_int, this, List.set_append_right _ _ (by omega), Nat.add_sub_cancel_left]
    rfl
  have w1 : IntKind.i64.wrap (s a - 2) = s a - 2 := wrap64 (by omega) (by omega)
  have hb2 : -1002 ≤ up s a (s a - 2) b ∧ up s a (s a - 2) b ≤ 1000 := by unfold up; split <;> omega
  have w2 : IntKind.i64.wrap (up s a (s a - 2) b + 1) = up s a (s a - 2) b + 1 := wrap64 (by omega) (by omega)
  have l1 := fun x y => hl s x y a ha
  have l2 := fun x y => hl (up s a (s a - 2)) x y b hb
  have s1 := fun x y base d => hs s x y a (s a - 2) base d ha
  have s2 := fun x y base d => hs (up s a (s a - 2)) x y b (up s a (s a - 2) b + 1) base d hb
  have l3 := fun x y => hla (up (up s a (s a - 2)) b (up s a (s a - 2) b + 1)) x y
  rw [iV6 s] at *
  repeat (first | apply Z1 | apply Z2 | apply Z3 | apply Z4 | apply Z5 rfl | apply Z6 | apply Z7 | apply Z8 | apply Z9 | apply ZA | apply ZB | apply ZC | ((first | apply ZD (by decide) | apply ZN (by decide)); (simp (maxSteps := 9999999) only [go_sem, argR, z1, z2, z3, z4, l1, ↓s1, w1, l2, ↓s2, w2, l3, Int.toNat_natCast]; rfl)) | (refine ZE ?_ ?_; · simp only [go_sem]) | (refine ZF ?_ ?_; · simp only [go_sem]))
  exact end_nil (q_free [stV (aft s a b)] (by simp only [go_sem]; rfl) rfl rfl rfl (fun _ => rfl) (by simp) rfl)
structure Caps (h : SHeap) (c1 c2 g n : Nat) (E : List (Int × Int)) (s : Nat → Int) : Prop where
  b1 : h[c1]? = some (.cells [.pointer (some ⟨g, 0, none⟩)] 85 false 0 [])
  b2 : h[c2]? = some (.cells (iV 6 s) 87 true 0 [])
  gr : GAt h g n E
theorem reach_old {base : Nat} {h : SHeap} {n b : Nat} {todo seen : List Nat} (hb : b < base) : reach base h (n + 1) (b :: todo) seen = reach base h n todo seen := by
  have : Nat.ble base b = false := by rw [ble_dec]; exact decide_eq_false (by omega)
  rw [reach, this]; rfl
theorem reach_new {base : Nat} {h : SHeap} {n b : Nat} {todo seen : List Nat} (hb : base ≤ b) (hs : b ∉ seen) : reach base h (n + 1) (b :: todo) seen = reach base h n (ptrsO h[b]? ++ todo) (seen ++ [b]) := by
  have e : Nat.ble base b = true := by rw [ble_dec]; exact decide_eq_true hb
  have e2 : seen.contains b = false := by
    cases c : seen.contains b with
    | false => rfl
    | true => exact (hs (List.contains_iff_mem.1 c)).elim
  rw [reach, e, e2]; rfl
theorem ren_old {base b : Nat} {K : List Nat} (hb : b < base) : ren base K b = some b := by
  have : Nat.ble base b = false := by rw [ble_dec]; exact decide_eq_false (by omega)
  unfold ren
  rw [this]; rfl
theorem ren_at {base b k : Nat} {K : List Nat} (hb : base ≤ b) (hk : posOf b K = some k) : ren base K b = some (base + k) := by
  have e : Nat.ble base b = true := by rw [ble_dec]; exact decide_eq_true hb
  unfold ren
  rw [e, hk]; rfl
theorem mk62 {h : SHeap} {g : Nat} (hg : g < h.length) (s : Nat → Int) : M.call 62 [.pointer (some ⟨g, 0, none⟩), stV s] h = some (.func (.func 77) #[] #[.pointer (some ⟨h.length, 0, none⟩), .pointer (some ⟨h.length + 1, 0, none⟩)], h ++ [.cells [.pointer (some ⟨g, 0, none⟩)] 85 false 0 [], .cells (iV 6 s) 87 true 0 []], []) := by
  refine call_run sf62 rfl rfl rfl ?_
  unfold sf62
  rw [stV_def]
  repeat (first | apply Z1 | apply Z2 | apply Z3 | apply Z4 | apply Z5 rfl | apply Z6 | apply Z7 | apply Z8 | apply Z9 | apply ZA | apply ZB | apply ZC | ((first | apply ZD (by decide) | apply ZN (by decide)); (simp (maxSteps := 9999999) only [go_sem, argR]; rfl)) | (refine ZE ?_ ?_; · simp only [go_sem]) | (refine ZF ?_ ?_; · simp only [go_sem]))
  refine end_nil (q_gc [.func (.func 77) #[] #[.pointer (some ⟨h.length, 0, none⟩), .pointer (some ⟨h.length + 1, 0, none⟩)]] (by simp only [go_sem]) rfl ?_ rfl)
  have p1 : posOf h.length [h.length, h.length + 1] = some 0 := by simp [posOf]
  have p2 : posOf (h.length + 1) [h.length, h.length + 1] = some 1 := by simp [posOf]
  have h0 : (h ++ [.cells [.pointer (some ⟨g, 0, none⟩)] 85 false 0 [], .cells [.int .i64 (s 0), .int .i64 (s 1), .int .i64 (s 2), .int .i64 (s 3), .int .i64 (s 4), .int .i64 (s 5)] 87 true 0 []] : SHeap)[h.length]? = some (.cells [.pointer (some ⟨g, 0, none⟩)] 85 false 0 []) := by rw [app_get0]; rfl
  have h1 : (h ++ [.cells [.pointer (some ⟨g, 0, none⟩)] 85 false 0 [], .cells [.int .i64 (s 0), .int .i64 (s 1), .int .i64 (s 2), .int .i64 (s 3), .int .i64 (s 4), .int .i64 (s 5)] 87 true 0 []] : SHeap)[h.length + 1]? = some (.cells [.int .i64 (s 0), .int .i64 (s 1), .int .i64 (s 2), .int .i64 (s 3), .int .i64 (s 4), .int .i64 (s 5)] 87 true 0 []) := by rw [app_get]; rfl
  have ht : (h ++ [.cells [.pointer (some ⟨g, 0, none⟩)] 85 false 0 [], .cells [.int .i64 (s 0), .int .i64 (s 1), .int .i64 (s 2), .int .i64 (s 3), .int .i64 (s 4), .int .i64 (s 5)] 87 true 0 []] : SHeap).take h.length = h := by simp
  generalize (h ++ [.cells [.pointer (some ⟨g, 0, none⟩)] 85 false 0 [], .cells [.int .i64 (s 0), .int .i64 (s 1), .int .i64 (s 2), .int .i64 (s 3), .int .i64 (s 4), .int .i64 (s 5)] 87 true 0 []] : SHeap) = hh at *
  have e1 : reach h.length hh 1000000 [h.length, h.length + 1] [] = [h.length, h.length + 1] := by
    rw [show (1000000 : Nat) = 999996 + 1 + 1 + 1 + 1 from rfl, reach_new (Nat.le_refl _) (by simp), h0]
    show reach h.length hh (999996 + 1 + 1 + 1) (g :: [h.length + 1]) [h.length] = _
    rw [reach_old hg, reach_new (by omega) (by simp), h1]
    show reach h.length hh (999996 + 1) [] _ = _
    rw [reach]; rfl
  have r0 : ren h.length [h.length, h.length + 1] h.length = some h.length := ren_at (Nat.le_refl _) p1
  have r1 : ren h.length [h.length, h.length + 1] (h.length + 1) = some (h.length + 1) := ren_at (by omega) p2
  have rg : ren h.length [h.length, h.length + 1] g = some g := ren_old hg
  unfold gcS
  show (match renV h.length (reach h.length hh 1000000 [h.length, h.length + 1] []) 3 (.func (.func 77) #[] #[.pointer (some ⟨h.length, 0, none⟩), .pointer (some ⟨h.length + 1, 0, none⟩)]), mapO (fun k => renO h.length (reach h.length hh 1000000 [h.length, h.length + 1] []) hh[k]?) (reach h.length hh 1000000 [h.length, h.length + 1] []) with
    | some v', some kept => some (v', hh.take h.length ++ kept)
    | _, _ => none) = _
  rw [e1]
  simp [renV, mapO, r0, r1, rg, renO, h0, h1, ht]
  rfl
end Go.Proofs.YtpkhkghiidilcaaDoor.Sh

namespace Go.Proofs.YtpkhkghiidilcaaDoor.Sh
open Go
set_option maxRecDepth 100000
set_option maxHeartbeats 4000000
def rowM (n : Nat) (E : List (Int × Int)) (s : Nat → Int) (a : Nat) : Nat → List (Nat × Nat)
  | 0 => []
  | b + 1 => rowM n E s a b ++ if canM n E s a b then [(a, b)] else []
def MVb (n : Nat) (E : List (Int × Int)) (s : Nat → Int) : Nat → List (Nat × Nat)
  | 0 => []
  | a + 1 => MVb n E s a ++ rowM n E s a n
def finD (B : Nat) (h : SHeap) (d : List Nat) : SHeap := match d with
  | [] => h.take B
  | _ => h
theorem q_dirty {base : Nat} {ρ : Reg} {h : SHeap} {d : List Nat} {ex : Ex} (hx : isEnd ex = true) : callQ [] base (.tuple #[], finD base h d, d) ex ρ [] h d := by
  refine ⟨hx, ?_⟩
  show endW base h d (.tuple #[], finD base h d, d) []
  cases d with
  | nil => exact ⟨_, _, gc_free (v := .tuple #[]) rfl (fun _ => rfl), rfl⟩
  | cons a d => rfl
theorem pair_ld (h : SHeap) (a b : Nat) : loadS (h ++ [.cells [.int .i64 a, .int .i64 b] 106 true 0 []]) (some 2) (.pointer (some ⟨h.length, 0, none⟩)) = some (.agg #[.int .i64 a, .int .i64 b]) := by
  rw [load_appN0]; rfl
theorem Caps.l1 {h : SHeap} {c1 c2 g n : Nat} {E : List (Int × Int)} {s : Nat → Int} (C : Caps h c1 c2 g n E s) (x : SHeap) : loadS (h ++ x) none (.pointer (some ⟨c1, 0, none⟩)) = some (.pointer (some ⟨g, 0, none⟩)) := load_cell C.b1 rfl rfl x
theorem Caps.l2 {h : SHeap} {c1 c2 g n : Nat} {E : List (Int × Int)} {s : Nat → Int} (C : Caps h c1 c2 g n E s) (x : SHeap) : loadS (h ++ x) (some 6) (.pointer (some ⟨c2, 0, none⟩)) = some (stV s) := load_all C.b2 rfl (iV_len _ _) x
theorem Caps.lt {h : SHeap} {c1 c2 g n : Nat} {E : List (Int × Int)} {s : Nat → Int} (C : Caps h c1 c2 g n E s) : c1 < h.length ∧ c2 < h.length ∧ g < h.length := ⟨(List.getElem?_eq_some_iff.1 C.b1).1, (List.getElem?_eq_some_iff.1 C.b2).1, (List.getElem?_eq_some_iff.1 C.gr).1⟩
section
variable {n : Nat} {E : List (Int × Int)} {s : Nat → Int} {c1 c2 g L B fn : Nat} (J X : List (Nat × Nat) → SHeap → List Nat → Prop)
theorem to_loop (hE : EOK n E) (hn : n ≤ 6) (hs : ∀ v, v < 6 → -1000 ≤ s v ∧ s v ≤ 1000)
    (hC : ∀ l h d, J l h d → Caps h c1 c2 g n E s) (hA : ∀ l h d x, J l h d → J l (h ++ x) d)
    (hY : ∀ a b h d, a < n → b < n → canM n E s a b → J (MVb n E s a ++ rowM n E s a b) h d → ∃ r h2 d2, M.round B L [.agg #[.int .i64 a, .int .i64 b], stV (aft s a b)] h = some (.bool r, h2, d2) ∧
      (r = true → J (MVb n E s a ++ rowM n E s a (b + 1)) h2 (d2 ++ d)) ∧ (r = false → X (MVb n E s a ++ rowM n E s a (b + 1)) h2 (d2 ++ d)))
    {a : Nat} (ha : a < n) {mx : Int} :
    ∀ k ρ ms h' d', (∃ b : Nat, b + k = n ∧ J (MVb n E s a ++ rowM n E s a b) h' d' ∧ ρ 0 = .func (.yield L) #[] #[] ∧ ρ 1 = .pointer (some ⟨c1, 0, none⟩) ∧ ρ 2 = .pointer (some ⟨c2, 0, none⟩) ∧ ρ 4 = .int .i64 a ∧ ρ 10 = .int .i64 mx ∧ ρ 11 = .int .i64 a ∧ ρ 17 = .int .i64 n ∧ ρ 18 = .int .i64 b ∧ ms = []) →
    LoopW M ⟨B, none, fn⟩ 6 sf77L0 ρ ms h' d' (fun ex ρ' ms' h' d' => ms' = [] ∧ ((ex = .exit 2 ∧ J (MVb n E s a ++ rowM n E s a n) h' d' ∧ ρ' 0 = .func (.yield L) #[] #[] ∧ ρ' 1 = .pointer (some ⟨c1, 0, none⟩) ∧ ρ' 2 = .pointer (some ⟨c2, 0, none⟩) ∧ ρ' 10 = .int .i64 mx ∧ ρ' 11 = .int .i64 a) ∨
      (ex = .ret ∧ ∃ b, b < n ∧ X (MVb n E s a ++ rowM n E s a (b + 1)) h' d'))) := by
  refine loop_run _ ?_
  rintro k ρ ms h' d' ⟨b, hk, hJ, r0, r1, r2, r4, r10, r11, r17, r18, rfl⟩
  unfold sf77L0
  by_cases c : k = 0
  · have e1 : ¬ ((b : Int) < n) := by omega
    obtain rfl : b = n := by omega
    repeat (first | apply Z1 | apply Z2 | apply Z3 | apply Z4 | apply Z5 rfl | apply Z6 | apply Z7 | apply Z8 | apply Z9 | apply ZA | apply ZB | apply ZC | ((first | apply ZD (by decide) | apply ZN (by decide)); (simp (maxSteps := 9999999) only [go_sem, r17, r18, e1]; rfl)) | (refine ZE ?_ ?_; · simp only [go_sem]) | (refine ZF ?_ ?_; · simp only [go_sem]))
    exact end_nil ⟨rfl, .inl ⟨rfl, hJ, by simp only [go_sem, r0], by simp only [go_sem, r1], by simp only [go_sem, r2], by simp only [go_sem, r10], by simp only [go_sem, r11]⟩⟩
  · have e1 : ((b : Int) < n) := by omega
    have hb : b < n := by omega
    have ew : IntKind.i64.wrap ((b : Int) + 1) = ((b + 1 : Nat) : Int) := by rw [wrap64 (by omega) (by omega)]; rfl
    have C := hC _ _ _ hJ
    have hJ1 := hA _ _ _ [.cells [.int .i64 a, .int .i64 b] 106 true 0 []] hJ
    have C1 := hC _ _ _ hJ1
    have l1 := C.l1 [.cells [.int .i64 a, .int .i64 b] 106 true 0 []]
    have l2 := C.l2 [.cells [.int .i64 a, .int .i64 b] 106 true 0 []]
    have l3 := pair_ld h' a b
    have cn := can78 hE hn C1.gr s (a : Int) (b : Int)
    by_cases cc : canM n E s a b
    · simp only [decide_eq_true cc] at cn
      have ca := aft79 (h := h' ++ [.cells [.int .i64 a, .int .i64 b] 106 true 0 []]) (s := s) (a := a) (b := b) (by omega) (by omega) (hs a (by omega)) (hs b (by omega))
      obtain ⟨r, h2, d2, hr, y1, y2⟩ := hY a b _ _ ha hb cc hJ1
      cases r with
      | true =>
        repeat (first | apply Z1 | apply Z2 | apply Z3 | apply Z4 | apply Z5 rfl | apply Z6 | apply Z7 | apply Z8 | apply Z9 | apply ZA | apply ZB | apply ZC | ((first | apply ZD (by decide) | apply ZN (by decide)); (simp (maxSteps := 9999999) only [go_sem, r0, r1, r2, r4, r17, r18, e1, ↓l1, ↓l2, ↓l3, cn, ca, hr, ew]; rfl)) | (refine ZE ?_ ?_; · simp only [go_sem]) | (refine ZF ?_ ?_; · simp only [go_sem]))
        exact end_nil ⟨k - 1, by omega, b + 1, by omega, y1 rfl, by simp only [go_sem, r0], by simp only [go_sem, r1], by simp only [go_sem, r2], by simp only [go_sem, r4], by simp only [go_sem, r10], by simp only [go_sem, r11], by simp only [go_sem, r17], by simp only [go_sem, ew], rfl⟩
      | false =>
        repeat (first | apply Z1 | apply Z2 | apply Z3 | apply Z4 | apply Z5 rfl | apply Z6 | apply Z7 | apply Z8 | apply Z9 | apply ZA | apply ZB | apply ZC | ((first | apply ZD (by decide) | apply ZN (by decide)); (simp (maxSteps := 9999999) only [go_sem, r0, r1, r2, r4, r17, r18, e1, ↓l1, ↓l2, ↓l3, cn, ca, hr, ew]; rfl)) | (refine ZE ?_ ?_; · simp only [go_sem]) | (refine ZF ?_ ?_; · simp only [go_sem]))
        exact end_nil ⟨rfl, .inr ⟨rfl, b, hb, y2 rfl⟩⟩
    · simp only [decide_eq_false cc] at cn
      repeat (first | apply Z1 | apply Z2 | apply Z3 | apply Z4 | apply Z5 rfl | apply Z6 | apply Z7 | apply Z8 | apply Z9 | apply ZA | apply ZB | apply ZC | ((first | apply ZD (by decide) | apply ZN (by decide)); (simp (maxSteps := 9999999) only [go_sem, r0, r1, r2, r4, r17, r18, e1, ↓l1, ↓l2, ↓l3, cn, ew]; rfl)) | (refine ZE ?_ ?_; · simp only [go_sem]) | (refine ZF ?_ ?_; · simp only [go_sem]))
      refine end_nil ⟨k - 1, by omega, b + 1, by omega, ?_, by simp only [go_sem, r0], by simp only [go_sem, r1], by simp only [go_sem, r2], by simp only [go_sem, r4], by simp only [go_sem, r10], by simp only [go_sem, r11], by simp only [go_sem, r17], by simp only [go_sem, ew], rfl⟩
      show J (_ ++ (_ ++ _)) _ _
      rw [if_neg cc, List.append_nil]
      exact hJ1
theorem from_loop77 (hE : EOK n E) (hn : n ≤ 6) (hs : ∀ v, v < 6 → -1000 ≤ s v ∧ s v ≤ 1000)
    (hC : ∀ l h d, J l h d → Caps h c1 c2 g n E s) (hA : ∀ l h d x, J l h d → J l (h ++ x) d)
    (hY : ∀ a b h d, a < n → b < n → canM n E s a b → J (MVb n E s a ++ rowM n E s a b) h d → ∃ r h2 d2, M.round B L [.agg #[.int .i64 a, .int .i64 b], stV (aft s a b)] h = some (.bool r, h2, d2) ∧
      (r = true → J (MVb n E s a ++ rowM n E s a (b + 1)) h2 (d2 ++ d)) ∧ (r = false → X (MVb n E s a ++ rowM n E s a (b + 1)) h2 (d2 ++ d))) :
    ∀ k ρ ms h' d', (∃ a : Nat, a + k = n ∧ J (MVb n E s a) h' d' ∧ ρ 0 = .func (.yield L) #[] #[] ∧ ρ 1 = .pointer (some ⟨c1, 0, none⟩) ∧ ρ 2 = .pointer (some ⟨c2, 0, none⟩) ∧ ρ 10 = .int .i64 n ∧ ρ 11 = .int .i64 a ∧ ms = []) →
    LoopW M ⟨B, none, fn⟩ 6 sf77L1 ρ ms h' d' (fun ex ρ' ms' h' d' => ms' = [] ∧ ((ex = .exit 0 ∧ J (MVb n E s n) h' d') ∨ (ex = .ret ∧ ∃ a b, a < n ∧ b < n ∧ X (MVb n E s a ++ rowM n E s a (b + 1)) h' d'))) := by
  refine loop_run _ ?_
  rintro k ρ ms h' d' ⟨a, hk, hJ, r0, r1, r2, r10, r11, rfl⟩
  unfold sf77L1
  by_cases c : k = 0
  · have e1 : ¬ ((a : Int) < n) := by omega
    obtain rfl : a = n := by omega
    repeat (first | apply Z1 | apply Z2 | apply Z3 | apply Z4 | apply Z5 rfl | apply Z6 | apply Z7 | apply Z8 | apply Z9 | apply ZA | apply ZB | apply ZC | ((first | apply ZD (by decide) | apply ZN (by decide)); (simp (maxSteps := 9999999) only [go_sem, r10, r11, e1]; rfl)) | (refine ZE ?_ ?_; · simp only [go_sem]) | (refine ZF ?_ ?_; · simp only [go_sem]))
    exact end_nil ⟨rfl, .inl ⟨rfl, hJ⟩⟩
  · have e1 : ((a : Int) < n) := by omega
    have ha : a < n := by omega
    have ew : IntKind.i64.wrap ((a : Int) + 1) = ((a + 1 : Nat) : Int) := by rw [wrap64 (by omega) (by omega)]; rfl
    have C := hC _ _ _ hJ
    have l1 := C.l1 []
    rw [List.append_nil] at l1
    have l2 := C.gr.n
    repeat (first | apply Z1 | apply Z2 | apply Z3 | apply Z4 | apply Z5 rfl | apply Z6 | apply Z7 | apply Z8 | apply Z9 | apply ZA | apply ZB | apply ZC | ((first | apply ZD (by decide) | apply ZN (by decide)); (simp (maxSteps := 9999999) only [go_sem, r0, r1, r2, r10, r11, e1, l1, l2]; rfl)) | (refine ZE ?_ ?_; · simp only [go_sem]) | (refine ZF ?_ ?_; · simp only [go_sem]))
    refine run_loop (to_loop J X hE hn hs hC hA hY ha (mx := n) n _ _ _ _ ⟨0, by omega, by rw [rowM, List.append_nil]; exact hJ, by simp only [go_sem, r0], by simp only [go_sem, r1], by simp only [go_sem, r2], by simp only [go_sem], by simp only [go_sem, r10], by simp only [go_sem, r11], by simp only [go_sem], by simp only [go_sem], rfl⟩) ?_
    rintro ex ρ2 ms2 h2 d2 ⟨rfl, h⟩
    rcases h with ⟨rfl, hJ2, t0, t1, t2, t10, t11⟩ | ⟨rfl, b, hb, hX⟩
    · repeat (first | apply Z1 | apply Z2 | apply Z3 | apply Z4 | apply Z5 rfl | apply Z6 | apply Z7 | apply Z8 | apply Z9 | apply ZA | apply ZB | apply ZC | ((first | apply ZD (by decide) | apply ZN (by decide)); (simp (maxSteps := 9999999) only [go_sem, t0, t1, t2, t10, t11, ew]; rfl)) | (refine ZE ?_ ?_; · simp only [go_sem]) | (refine ZF ?_ ?_; · simp only [go_sem]))
      exact end_nil ⟨k - 1, by omega, a + 1, by omega, hJ2, by simp only [go_sem, t0], by simp only [go_sem, t1], by simp only [go_sem, t2], by simp only [go_sem, t10], by simp only [go_sem, ew], rfl⟩
    · repeat (first | apply Z1 | apply Z2 | apply Z3 | apply Z4 | apply Z5 rfl | apply Z6 | apply Z7 | apply Z8 | apply Z9 | apply ZA | apply ZB | apply ZC | ((first | apply ZD (by decide) | apply ZN (by decide)); (simp (maxSteps := 9999999) only [go_sem]; rfl)) | (refine ZE ?_ ?_; · simp only [go_sem]) | (refine ZF ?_ ?_; · simp only [go_sem]))
      exact end_nil ⟨rfl, .inr ⟨rfl, a, b, ha, hb, hX⟩⟩
theorem iter77 {H : SHeap} (hB : B = H.length) (hE : EOK n E) (hn : n ≤ 6) (hs : ∀ v, v < 6 → -1000 ≤ s v ∧ s v ≤ 1000)
    (hC : ∀ l h d, J l h d → Caps h c1 c2 g n E s) (hA : ∀ l h d x, J l h d → J l (h ++ x) d)
    (hY : ∀ a b h d, a < n → b < n → canM n E s a b → J (MVb n E s a ++ rowM n E s a b) h d → ∃ r h2 d2, M.round B L [.agg #[.int .i64 a, .int .i64 b], stV (aft s a b)] h = some (.bool r, h2, d2) ∧
      (r = true → J (MVb n E s a ++ rowM n E s a (b + 1)) h2 (d2 ++ d)) ∧ (r = false → X (MVb n E s a ++ rowM n E s a (b + 1)) h2 (d2 ++ d)))
    (h0 : J [] H []) :
    ∃ h d, M.call 77 [.func (.yield L) #[] #[], .pointer (some ⟨c1, 0, none⟩), .pointer (some ⟨c2, 0, none⟩)] H = some (.tuple #[], finD B h d, d) ∧ (J (MVb n E s n) h d ∨ ∃ a b, a < n ∧ b < n ∧ X (MVb n E s a ++ rowM n E s a (b + 1)) h d) := by
  subst hB
  have key : ∃ r, (∃ h d, r = (Value.tuple #[], finD H.length h d, d) ∧ (J (MVb n E s n) h d ∨ ∃ a b, a < n ∧ b < n ∧ X (MVb n E s a ++ rowM n E s a (b + 1)) h d)) ∧ M.call 77 [.func (.yield L) #[] #[], .pointer (some ⟨c1, 0, none⟩), .pointer (some ⟨c2, 0, none⟩)] H = some r := by
    refine call_ex (f := 77) _ sf77 rfl rfl rfl ?_
    have C := hC _ _ _ h0
    have l1 := C.l1 []
    rw [List.append_nil] at l1
    have l2 := C.gr.n
    unfold sf77
    repeat (first | apply Z1 | apply Z2 | apply Z3 | apply Z4 | apply Z5 rfl | apply Z6 | apply Z7 | apply Z8 | apply Z9 | apply ZA | apply ZB | apply ZC | ((first | apply ZD (by decide) | apply ZN (by decide)); (simp (maxSteps := 9999999) only [go_sem, argR, l1, l2]; rfl)) | (refine ZE ?_ ?_; · simp only [go_sem]) | (refine ZF ?_ ?_; · simp only [go_sem]))
    refine run_loop (from_loop77 J X hE hn hs hC hA hY n _ _ _ _ ⟨0, by omega, h0, by simp only [go_sem, argR], by simp only [go_sem, argR], by simp only [go_sem, argR], by simp only [go_sem], by simp only [go_sem], rfl⟩) ?_
    rintro ex ρ2 ms2 h2 d2 ⟨rfl, h⟩
    rcases h with ⟨rfl, hJ⟩ | ⟨rfl, a, b, ha, hb, hX⟩
    · repeat (first | apply Z1 | apply Z2 | apply Z3 | apply Z4 | apply Z5 rfl | apply Z6 | apply Z7 | apply Z8 | apply Z9 | apply ZA | apply ZB | apply ZC | ((first | apply ZD (by decide) | apply ZN (by decide)); (simp (maxSteps := 9999999) only [go_sem]; rfl)) | (refine ZE ?_ ?_; · simp only [go_sem]) | (refine ZF ?_ ?_; · simp only [go_sem]))
      exact end_nil ⟨_, ⟨h2, d2, rfl, .inl hJ⟩, q_dirty rfl⟩
    · repeat (first | apply Z1 | apply Z2 | apply Z3 | apply Z4 | apply Z5 rfl | apply Z6 | apply Z7 | apply Z8 | apply Z9 | apply ZA | apply ZB | apply ZC | ((first | apply ZD (by decide) | apply ZN (by decide)); (simp (maxSteps := 9999999) only [go_sem]; rfl)) | (refine ZE ?_ ?_; · simp only [go_sem]) | (refine ZF ?_ ?_; · simp only [go_sem]))
      exact end_nil ⟨_, ⟨h2, d2, rfl, .inr ⟨a, b, ha, hb, hX⟩⟩, q_dirty rfl⟩
  obtain ⟨r, ⟨h, d, rfl, k⟩, e⟩ := key
  exact ⟨h, d, e, k⟩
end
end Go.Proofs.YtpkhkghiidilcaaDoor.Sh

namespace Go.Proofs.YtpkhkghiidilcaaDoor.Sh
open Go
set_option maxRecDepth 100000
set_option maxHeartbeats 4000000
def rfA43_0 : SCode := (.region 0 [ ⟨(some 12), none, .alloc 106 true [(.int .i64 0), (.int .i64 0)], none, 0, false, []⟩, ⟨none, none, .store 2 (.tmp 12) (.tmp 27), none, 1, false, []⟩])
def rfB43_0 : SCode := (.block 1 (.region 0 [ ⟨(some 29), none, .load none (.tmp 11), none, 0, false, []⟩, ⟨(some 30), none, .fieldAddr 0 (.tmp 12), none, 1, false, []⟩, ⟨(some 31), none, .load none (.tmp 30), none, 2, false, []⟩, ⟨(some 32), none, .fieldAddr 1 (.tmp 12), none, 3, false, []⟩, ⟨(some 33), none, .load none (.tmp 32), none, 4, false, []⟩, ⟨(some 34), none, .build [(.int .i64 0), (.int .i64 0)] [(0, 1, (.tmp 31)), (1, 1, (.tmp 33))], none, 5, false, []⟩, ⟨(some 35), none, .buildSlice 45 true [(.int .i64 0), (.int .i64 0)] 1 [(0, 2, (.tmp 34))], none, 6, false, []⟩, ⟨(some 36), none, .append 45 true 2 16 (.tmp 29) (.tmp 35), none, 7, false, []⟩, ⟨none, none, .store 1 (.tmp 11) (.tmp 36), none, 8, false, []⟩]))
def prN (l : List (Nat × Nat)) : List Value := l.flatMap fun p => [.int .i64 (p.1 : Int), .int .i64 (p.2 : Int)]
theorem prN_snoc (l : List (Nat × Nat)) (a b : Nat) : prN (l ++ [(a, b)]) = prN l ++ [.int .i64 (a : Int), .int .i64 (b : Int)] := by simp [prN]
structure JM (N n : Nat) (E : List (Int × Int)) (s : Nat → Int) (t : T) (H : SHeap) (l : List (Nat × Nat)) (h : SHeap) (d : List Nat) : Prop where
  len : N + 7 ≤ h.length
  low : ∀ j, j < N → h[j]? = H[j]?
  cap : Caps h (N + 3) (N + 4) N n E s
  out : ∃ qv, h[N + 2]? = some (.cells [qv] 22 false 0 []) ∧ Acc (N + 7) h qv (prN l) l.length 2 45
  df : h[N + 5]? = some .deferred
  lp : h[N + 6]? = some (.loop 0 43 t [27, 28] rfA43_0 rfB43_0 none (N + 5))
  d1 : d = [] ↔ l = []
  d2 : ∀ x ∈ d, x = N + 2
theorem Caps.same {h h' : SHeap} {c1 c2 g n : Nat} {E : List (Int × Int)} {s : Nat → Int} (C : Caps h c1 c2 g n E s) (k : ∀ j, j = c1 ∨ j = c2 ∨ j = g → h'[j]? = h[j]?) : Caps h' c1 c2 g n E s :=
  ⟨by rw [k _ (.inl rfl)]; exact C.b1, by rw [k _ (.inr (.inl rfl))]; exact C.b2, by have := C.gr; unfold GAt at *; rw [k _ (.inr (.inr rfl))]; exact this⟩
theorem JM.app {N n : Nat} {E : List (Int × Int)} {s : Nat → Int} {t : T} {H : SHeap} {l : List (Nat × Nat)} {h : SHeap} {d : List Nat} (J : JM N n E s t H l h d) (x : SHeap) : JM N n E s t H l (h ++ x) d := by
  have hl := J.len
  have k : ∀ j, j < h.length → (h ++ x)[j]? = h[j]? := fun j hj => List.getElem?_append_left hj
  obtain ⟨qv, o1, o2⟩ := J.out
  exact ⟨by simp; omega, fun j hj => by rw [k j (by omega)]; exact J.low j hj, J.cap.same (fun j hj => k j (by omega)), ⟨qv, by rw [k _ (by omega)]; exact o1, o2.keep (fun b e => k b (o2.lt e).2)⟩, by rw [k _ (by omega)]; exact J.df, by rw [k _ (by omega)]; exact J.lp, J.d1, J.d2⟩
end Go.Proofs.YtpkhkghiidilcaaDoor.Sh

namespace Go.Proofs.YtpkhkghiidilcaaDoor.Sh
open Go
set_option maxRecDepth 100000
set_option maxHeartbeats 4000000
def MVL (n : Nat) (E : List (Int × Int)) (s : Nat → Int) : List (Nat × Nat) := MVb n E s n
theorem wst (s : Nat → Int) : writeAt [.int .i64 0, .int .i64 0, .int .i64 0, .int .i64 0, .int .i64 0, .int .i64 0] 0 (cellsL (stV s)) = iV 6 s := rfl
theorem stk_bnd {n : Int} {l : List Int} (h : SupOK n l) (v : Nat) : 0 ≤ stk l v ∧ stk l v ≤ 40 := by
  by_cases c : v < l.length
  · rw [stk_at c]; exact h.2.1 _ (List.getElem_mem c)
  · rw [stk_out (by omega)]; omega
theorem JM.fin {N n : Nat} {E : List (Int × Int)} {s : Nat → Int} {t : T} {H : SHeap} {l : List (Nat × Nat)} {h : SHeap} {d : List Nat} (J : JM N n E s t H l h d) : JM N n E s t H l (finD (N + 7) h d) d := by
  cases d with
  | cons a d => exact J
  | nil =>
    have hl : l = [] := J.d1.1 rfl
    subst hl
    have jl := J.len
    have k : ∀ j, j < N + 7 → (h.take (N + 7))[j]? = h[j]? := fun j hj => by rw [List.getElem?_take, if_pos hj]
    obtain ⟨qv, o1, o2⟩ := J.out
    exact ⟨by show N + 7 ≤ (h.take (N + 7)).length; rw [List.length_take]; omega, fun j hj => by show (h.take (N + 7))[j]? = _; rw [k j (by omega)]; exact J.low j hj, J.cap.same (fun j hj => k j (by omega)), ⟨qv, by show (h.take (N + 7))[N + 2]? = _; rw [k _ (by omega)]; exact o1, by
      rcases o2 with o2 | ⟨_, _, _, _, _, h0, _⟩
      · exact .inl o2
      · exact (h0 rfl).elim⟩, by show (h.take (N + 7))[N + 5]? = _; rw [k _ (by omega)]; exact J.df, by show (h.take (N + 7))[N + 6]? = _; rw [k _ (by omega)]; exact J.lp, J.d1, J.d2⟩
section
variable {H : SHeap} {v sv : Value} {E : List (Int × Int)} {l : List Int}
end
end Go.Proofs.YtpkhkghiidilcaaDoor.Sh

namespace Go.Proofs.YtpkhkghiidilcaaDoor.Sh
open Go
set_option maxRecDepth 100000
set_option maxHeartbeats 4000000
def lst (n : Nat) (f : Nat → Int) : List Int := (List.range n).map f
theorem lst_len (n : Nat) (f : Nat → Int) : (lst n f).length = n := by simp [lst]
theorem lst_at {n v : Nat} (f : Nat → Int) (h : v < n) : stk (lst n f) v = f v := by
  rw [stk_at (by rw [lst_len]; exact h)]; simp [lst]
section
variable {H h : SHeap} {b o n c : Nat}
end
end Go.Proofs.YtpkhkghiidilcaaDoor.Sh

namespace Go.Proofs.YtpkhkghiidilcaaDoor.Sh
open Go
set_option maxRecDepth 100000
set_option maxHeartbeats 4000000
theorem MVrow_if {n : Nat} {E : List (Int × Int)} {s : Nat → Int} (a b : Nat) : MVb n E s a ++ rowM n E s a (b + 1) = (MVb n E s a ++ rowM n E s a b) ++ if canM n E s a b then [(a, b)] else [] := by
  show _ ++ (_ ++ _) = _
  rw [List.append_assoc]
end Go.Proofs.YtpkhkghiidilcaaDoor.Sh

namespace Go.Proofs.YtpkhkghiidilcaaDoor.Sh
open Go
set_option maxRecDepth 100000
set_option maxHeartbeats 4000000
def tot (s : Nat → Int) : Int := s 0 + s 1 + s 2 + s 3 + s 4 + s 5
theorem tot_up (s : Nat → Int) {a : Nat} (ha : a < 6) (x : Int) : tot (up s a x) = tot s + (x - s a) := by
  have : a = 0 ∨ a = 1 ∨ a = 2 ∨ a = 3 ∨ a = 4 ∨ a = 5 := by omega
  unfold tot up
  rcases this with rfl | rfl | rfl | rfl | rfl | rfl <;> simp <;> omega
structure ST (n : Nat) (s : Nat → Int) (B : Int) : Prop where
  nn : ∀ v, 0 ≤ s v
  out : ∀ v, n ≤ v → s v = 0
  le : tot s ≤ B
theorem ST.bnd {n : Nat} {s : Nat → Int} {B : Int} (S : ST n s B) (hn : n ≤ 6) (v : Nat) : 0 ≤ s v ∧ s v ≤ B := by
  have h := S.le
  have n0 := S.nn 0
  have n1 := S.nn 1
  have n2 := S.nn 2
  have n3 := S.nn 3
  have n4 := S.nn 4
  have n5 := S.nn 5
  unfold tot at h
  refine ⟨S.nn v, ?_⟩
  by_cases c : v < 6
  · have : v = 0 ∨ v = 1 ∨ v = 2 ∨ v = 3 ∨ v = 4 ∨ v = 5 := by omega
    rcases this with rfl | rfl | rfl | rfl | rfl | rfl <;> omega
  · rw [S.out v (by omega)]; omega
theorem aft_at {s : Nat → Int} {a b : Nat} (h : a ≠ b) (v : Nat) : aft s a b v = if v = b then s b + 1 else if v = a then s a - 2 else s v := by
  unfold aft up
  by_cases c : v = b
  · rw [if_pos c, if_pos c, if_neg (fun e => h e.symm)]
  · rw [if_neg c, if_neg c]
theorem aft_tot {s : Nat → Int} {a b : Nat} (ha : a < 6) (hb : b < 6) : tot (aft s a b) = tot s - 1 := by
  unfold aft
  rw [tot_up _ hb, tot_up _ ha]; omega
theorem ST.aft {n : Nat} {E : List (Int × Int)} {s : Nat → Int} {B : Int} (S : ST n s B) (hE : EOK n E) (hn : n ≤ 6) {p q : Nat} (hp : p < n) (hq : q < n) (ha : adjE E p q = true) (h2 : 2 ≤ s p) : ST n (aft s p q) (B - 1) := by
  have hne := (hE.adj ha).2.2
  refine ⟨fun v => ?_, fun v hv => ?_, ?_⟩
  · rw [aft_at hne]
    have := S.nn v
    have := S.nn q
    split
    · omega
    · split
      · omega
      · omega
  · rw [aft_at hne, if_neg (by omega), if_neg (by omega)]; exact S.out v hv
  · rw [aft_tot (by omega) (by omega)]; have := S.le; omega
theorem ST.mono {n : Nat} {s : Nat → Int} {B B' : Int} (S : ST n s B) (h : B ≤ B') : ST n s B' := ⟨S.nn, S.out, by have := S.le; omega⟩
def doM (n : Nat) (E : List (Int × Int)) : (Nat → Int) → List (Int × Int) → (Nat → Int) × Nat
  | s, [] => (s, 0)
  | s, m :: ms => if canM n E s m.1 m.2 then ((doM n E (aft s m.1.toNat m.2.toNat) ms).1, (doM n E (aft s m.1.toNat m.2.toNat) ms).2 + 1) else (s, 0)
theorem IS.lstAt {h : SHeap} {b n c : Nat} {s : Nat → Int} {el : TypeId} {pf : Bool} {own : Nat} {old : List Nat} (hb : h[b]? = some (.cells (iV n s) el pf own old)) (hr : readable own = true) : IS h (.slice (some ⟨b, 0, none⟩) n c) (lst n s) := by
  refine ⟨some ⟨b, 0, none⟩, c, by rw [lst_len], fun _ => ⟨b, 0, rfl, (List.getElem?_eq_some_iff.1 hb).1, fun i hi => ?_⟩⟩
  rw [lst_len] at hi
  have := load_cell (h := h) (o := i) hb hr (iV_get s hi) []
  rw [List.append_nil] at this
  rw [Nat.zero_add, this]
  simp [lst]
def DV (H h : SHeap) (lv v : Value) (n i : Nat) (s : Nat → Int) : Prop := (i = 0 ∧ v = lv) ∨ (0 < i ∧ ∃ b, v = .slice (some ⟨b, 0, none⟩) n (UNK + 1) ∧ H.length ≤ b ∧ h[b]? = some (.cells (iV n s) 3 true 0 []))
theorem SupOK.st {n : Nat} {l : List Int} (h : SupOK n l) (hn : n ≤ 6) : ST n (stk l) 40 := by
  have hl : l.length = n := by have := h.1; omega
  refine ⟨fun v => (stk_bnd h v).1, fun v hv => stk_out (by omega), ?_⟩
  have h3 := h.2.2
  have key : ∀ (l : List Int), l.length ≤ 6 → tot (stk l) = l.sum := fun l hl => by
    unfold tot
    match l, hl with
    | [], _ => rfl
    | [a], _ => simp [stk]
    | [a, b], _ => simp [stk]
    | [a, b, c], _ => simp [stk]; omega
    | [a, b, c, d], _ => simp [stk]; omega
    | [a, b, c, d, e], _ => simp [stk]; omega
    | [a, b, c, d, e, f], _ => simp [stk]; omega
  rw [key l (by omega)]; exact h3
end Go.Proofs.YtpkhkghiidilcaaDoor.Sh

namespace Go.Proofs.YtpkhkghiidilcaaDoor.Sh
open Go
set_option maxRecDepth 100000
set_option maxHeartbeats 4000000
section
variable {H : SHeap} {v sv wv : Value} {E w : List (Int × Int)} {l : List Int}
end
end Go.Proofs.YtpkhkghiidilcaaDoor.Sh

namespace Go.Proofs.YtpkhkghiidilcaaDoor.Sh
open Go
set_option maxRecDepth 100000
set_option maxHeartbeats 4000000
theorem u64_mod' (z n : Int) (h0 : 0 < n) : 0 ≤ (IntKind.u64.wrap z).tmod n ∧ (IntKind.u64.wrap z).tmod n < n := by
  have hu : 0 ≤ IntKind.u64.wrap z := by
    have e1 : IntKind.u64.wrap z = z % 18446744073709551616 := by simp [IntKind.wrap, IntKind.signed, IntKind.bits]
    rw [e1]; exact Int.emod_nonneg _ (by decide)
  rw [Int.tmod_eq_emod_of_nonneg hu]
  exact ⟨Int.emod_nonneg _ (by omega), Int.emod_lt_of_pos _ h0⟩
def uR (x : Int) (m : Nat) : Nat := ((IntKind.u64.wrap x).tmod m).toNat
theorem uR_eq (x : Int) {m : Nat} (h : 0 < m) : (IntKind.u64.wrap x).tmod m = uR x m := by
  have := u64_mod' x m (by omega)
  unfold uR; omega
theorem uR_lt (x : Int) {m : Nat} (h : 0 < m) : uR x m < m := by
  have := u64_mod' x m (by omega)
  unfold uR; omega
def bV (f : Nat → Bool) : List Value := (List.range 36).map (fun i => Value.bool (f i))
theorem bV_len (f : Nat → Bool) : (bV f).length = 36 := by simp [bV]
theorem bV_get (f : Nat → Bool) {i : Nat} (h : i < 36) : (bV f)[i]? = some (.bool (f i)) := by simp [bV, h]
theorem bV_set (f : Nat → Bool) {i : Nat} (h : i < 36) (x : Bool) : (bV f).set i (.bool x) = bV (up f i x) := by
  apply List.ext_getElem?
  intro j
  by_cases e : j = i
  · subst e
    rw [List.getElem?_set_self (by rw [bV_len]; exact h), bV_get _ h]; simp [up]
  · rw [List.getElem?_set_ne (fun k => e k.symm)]
    by_cases c : j < 36
    · rw [bV_get _ c, bV_get _ c]; simp [up, e]
    · rw [List.getElem?_eq_none (by rw [bV_len]; omega), List.getElem?_eq_none (by rw [bV_len]; omega)]
abbrev tH (H : SHeap) (x : SO) (f : Nat → Bool) : SHeap := H ++ [x, .cells (bV f) 83 true 0 []]
theorem tH_st (H : SHeap) (x : SO) (f : Nat → Bool) {i : Nat} (h : i < 36) (base : Nat) (d : List Nat) : storeS base (tH H x f) d (H.length + 1) i (cellsL (.bool true)) = some (tH H x (up f i true), d) := by
  have := store_cell (h := tH H x f) (base := base) (b := H.length + 1) (o := i) (c := .bool true) (cs := bV f) (el := 83) (pf := true) (by rw [app_get]; rfl) (by rw [bV_len]; exact h) rfl (fun _ => rfl) d
  rw [bV_set f h, List.set_append_right _ _ (by omega), Nat.add_sub_cancel_left] at this
  exact this
structure T1 (n : Nat) (f : Nat → Bool) : Prop where
  lt : ∀ i, f i = true → i < 36 ∧ i / 6 < i % 6 ∧ i % 6 < n
theorem tame_par (cx : Cx) {H : SHeap} {N : Int} {ev : Value} {X : List (Int × Int)} (hv : PS H ev X) (hlen : X.length ≤ 9223372036854775807) {n : Nat} (hn : n ≤ 6) {most tree : Value} {g : Value} :
    ∀ k ρ ms h' d', (∃ (v : Nat) (f : Nat → Bool) (par : Nat → Nat), v + k = n + (if n = 0 then 1 else 0) ∧ 1 ≤ v ∧ (∀ w, 1 ≤ w → w < v → par w < w) ∧ (∀ i, f i = true ↔ i < 36 ∧ 1 ≤ i % 6 ∧ i % 6 < v ∧ par (i % 6) = i / 6) ∧ h' = tH H (.cells [.int .i64 N, ev] 24 false 0 []) f ∧
      ρ 1 = most ∧ ρ 2 = tree ∧ ρ 3 = .pointer (some ⟨H.length, 0, none⟩) ∧ ρ 8 = .int .i64 n ∧ ρ 9 = .pointer (some ⟨H.length + 1, 0, none⟩) ∧ ρ 10 = .int .i64 v ∧ ms = [] ∧ d' = []) →
    LoopW M cx 7 sf15L2 ρ ms h' d' (fun ex ρ' ms' h' d' => ex = .exit 0 ∧ ms' = [] ∧ d' = [] ∧ ∃ (f : Nat → Bool) (par : Nat → Nat), (∀ w, 1 ≤ w → w < n → par w < w) ∧ (∀ i, f i = true ↔ i < 36 ∧ 1 ≤ i % 6 ∧ i % 6 < n ∧ par (i % 6) = i / 6) ∧ h' = tH H (.cells [.int .i64 N, ev] 24 false 0 []) f ∧
      ρ' 2 = tree ∧ ρ' 3 = .pointer (some ⟨H.length, 0, none⟩) ∧ ρ' 8 = .int .i64 n ∧ ρ' 9 = .pointer (some ⟨H.length + 1, 0, none⟩)) := by
  refine loop_run _ ?_
  rintro k ρ ms h' d' ⟨v, f, par, hk, hv1, hpar, hf, rfl, r1, r2, r3, r8, r9, r10, rfl, rfl⟩
  unfold sf15L2
  by_cases c : v < n
  · have e1 : ((v : Int) < n) := by omega
    have ew : IntKind.i64.wrap ((v : Int) + 1) = ((v + 1 : Nat) : Int) := by rw [wrap64 (by omega) (by omega)]; rfl
    have wm : IntKind.i64.wrap ((v : Int) - 1) = ((v - 1 : Nat) : Int) := by rw [wrap64 (by omega) (by omega)]; omega
    have wu : IntKind.u64.wrap (v : Int) = v := wrapU (by omega) (by omega)
    have hne : ¬ (v : Int) = 0 := by omega
    have lx : loadS (tH H (.cells [.int .i64 N, ev] 24 false 0 []) f) none (.pointer (some ⟨H.length, 1, none⟩)) = some ev := by rw [load_app0]; rfl
    have step : ∀ u, u < v → ∀ (par' : Nat → Nat), par' = up par v u → (∀ w, 1 ≤ w → w < v + 1 → par' w < w) ∧ (∀ i, up f (u * 6 + v) true i = true ↔ i < 36 ∧ 1 ≤ i % 6 ∧ i % 6 < v + 1 ∧ par' (i % 6) = i / 6) := fun u hu par' hp => by
      subst hp
      refine ⟨fun w h1 h2 => ?_, fun i => ?_⟩
      · unfold up
        by_cases cw : w = v
        · rw [if_pos cw]; omega
        · rw [if_neg cw]; exact hpar w h1 (by omega)
      · unfold up
        by_cases ci : i = u * 6 + v
        · rw [if_pos ci]
          have h1 : i % 6 = v := by omega
          have h2 : i / 6 = u := by omega
          rw [if_pos h1]
          exact ⟨fun _ => ⟨by omega, by omega, by omega, h2.symm⟩, fun _ => rfl⟩
        · rw [if_neg ci, hf]
          by_cases cv : i % 6 = v
          · rw [if_pos cv]
            constructor
            · rintro ⟨_, _, h, _⟩; omega
            · rintro ⟨_, _, _, h⟩; omega
          · rw [if_neg cv]
            constructor
            · rintro ⟨h1, h2, h3, h4⟩; exact ⟨h1, h2, by omega, h4⟩
            · rintro ⟨h1, h2, h3, h4⟩; exact ⟨h1, h2, by omega, h4⟩
    have mulw : ∀ u, u < v → IntKind.i64.wrap ((u : Int) * 6) = ((u * 6 : Nat) : Int) := fun u hu => by rw [wrap64 (by omega) (by omega)]; omega
    have addw : ∀ u, u < v → IntKind.i64.wrap (((u * 6 : Nat) : Int) + v) = ((u * 6 + v : Nat) : Int) := fun u hu => by rw [wrap64 (by omega) (by omega)]; omega
    have z1 : ∀ u, u < v → (0 : Int) ≤ ((u * 6 + v : Nat) : Int) := fun u hu => by omega
    have z2 : ∀ u, u < v → ((u * 6 + v : Nat) : Int) < 36 := fun u hu => by omega
    have st := fun u (hu : u < v) => tH_st H (.cells [.int .i64 N, ev] 24 false 0 []) f (i := u * 6 + v) (by omega)
    obtain ⟨va, vc, rfl, _⟩ := id hv
    by_cases c2 : v - 1 < X.length
    · have e2 : ((v - 1 : Nat) : Int) < X.length := by omega
      have e3 : (0 : Int) ≤ ((v - 1 : Nat) : Int) := by omega
      obtain ⟨b, o, cp, he, hp⟩ := (hv.app [.cells [.int .i64 N, .slice va X.length vc] 24 false 0 [], .cells (bV f) 83 true 0 []]).ld (by intro e; rw [e] at c2; simp at c2)
      cases he
      have l1 := hp.load1 c2
      have um := uR_eq X[v - 1].1 (m := v) (by omega)
      have ul := uR_lt X[v - 1].1 (m := v) (by omega)
      generalize X[v - 1].1 = y at *
      have w6 : IntKind.i64.wrap ((uR y v : Nat) : Int) = ((uR y v : Nat) : Int) := wrap64 (by omega) (by omega)
      generalize uR y v = u at *
      have m1 := mulw u ul
      have m2 := addw u ul
      have m3 := z1 u ul
      have m4 := z2 u ul
      have m5 := st u ul
      obtain ⟨s1, s2⟩ := step u ul _ rfl
      generalize hj : u * 6 + v = j at *
      generalize u * 6 = j2 at *
      repeat (first | apply Z1 | apply Z2 | apply Z3 | apply Z4 | apply Z5 rfl | apply Z6 | apply Z7 | apply Z8 | apply Z9 | apply ZA | apply ZB | apply ZC | ((first | apply ZD (by decide) | apply ZN (by decide)); (simp (maxSteps := 9999999) only [go_sem, r1, r2, r3, r8, r9, r10, e1, e2, e3, wm, lx, l1, wu, um, w6, hne, m1, m2, m3, m4, ↓m5, ew, Int.toNat_natCast]; rfl)) | (refine ZE ?_ ?_; · simp only [go_sem]) | (refine ZF ?_ ?_; · simp only [go_sem]))
      exact end_nil ⟨k - 1, by split at hk <;> omega, v + 1, _, _, by split at hk <;> (try split) <;> omega, by omega, s1, s2, rfl, by simp only [go_sem, r1], by simp only [go_sem, r2], by simp only [go_sem, r3], by simp only [go_sem, r8], by simp only [go_sem, r9], by simp only [go_sem, ew], rfl, rfl⟩
    · have e2 : ¬ ((v - 1 : Nat) : Int) < X.length := by omega
      have ul : v - 1 < v := by omega
      generalize hu : v - 1 = u at *
      have m1 := mulw u ul
      have m2 := addw u ul
      have m3 := z1 u ul
      have m4 := z2 u ul
      have m5 := st u ul
      obtain ⟨s1, s2⟩ := step u ul _ rfl
      generalize hj : u * 6 + v = j at *
      generalize u * 6 = j2 at *
      repeat (first | apply Z1 | apply Z2 | apply Z3 | apply Z4 | apply Z5 rfl | apply Z6 | apply Z7 | apply Z8 | apply Z9 | apply ZA | apply ZB | apply ZC | ((first | apply ZD (by decide) | apply ZN (by decide)); (simp (maxSteps := 9999999) only [go_sem, r1, r2, r3, r8, r9, r10, e1, e2, wm, lx, m1, m2, m3, m4, ↓m5, ew, Int.toNat_natCast]; rfl)) | (refine ZE ?_ ?_; · simp only [go_sem]) | (refine ZF ?_ ?_; · simp only [go_sem]))
      exact end_nil ⟨k - 1, by split at hk <;> omega, v + 1, _, _, by split at hk <;> (try split) <;> omega, by omega, s1, s2, rfl, by simp only [go_sem, r1], by simp only [go_sem, r2], by simp only [go_sem, r3], by simp only [go_sem, r8], by simp only [go_sem, r9], by simp only [go_sem, ew], rfl, rfl⟩
  · have e1 : ¬ ((v : Int) < n) := by omega
    repeat (first | apply Z1 | apply Z2 | apply Z3 | apply Z4 | apply Z5 rfl | apply Z6 | apply Z7 | apply Z8 | apply Z9 | apply ZA | apply ZB | apply ZC | ((first | apply ZD (by decide) | apply ZN (by decide)); (simp (maxSteps := 9999999) only [go_sem, r8, r10, e1]; rfl)) | (refine ZE ?_ ?_; · simp only [go_sem]) | (refine ZF ?_ ?_; · simp only [go_sem]))
    refine end_nil ⟨rfl, rfl, rfl, f, par, fun w h1 h2 => hpar w h1 (by omega), fun i => ?_, rfl, by simp only [go_sem, r2], by simp only [go_sem, r3], by simp only [go_sem, r8], by simp only [go_sem, r9]⟩
    rw [hf]
    constructor
    · rintro ⟨h1, h2, h3, h4⟩
      refine ⟨h1, h2, ?_, h4⟩
      split at hk <;> omega
    · rintro ⟨h1, h2, h3, h4⟩; exact ⟨h1, h2, by omega, h4⟩
end Go.Proofs.YtpkhkghiidilcaaDoor.Sh

namespace Go.Proofs.YtpkhkghiidilcaaDoor.Sh
open Go
set_option maxRecDepth 100000
set_option maxHeartbeats 4000000
theorem tame_more (cx : Cx) {H : SHeap} {N : Int} {ev : Value} {X : List (Int × Int)} (hv : PS H ev X) (hlen : X.length ≤ 9223372036854775807) {n : Nat} (hn1 : 1 ≤ n) (hn : n ≤ 6) {tr : Bool} {f0 : Nat → Bool} :
    ∀ k ρ ms h' d', (∃ (i : Nat) (f : Nat → Bool), i + k = 20 ∧ T1 n f ∧ (∀ i, f0 i = true → f i = true) ∧ (tr = true → f = f0) ∧ h' = tH H (.cells [.int .i64 N, ev] 24 false 0 []) f ∧
      ρ 2 = .bool tr ∧ ρ 3 = .pointer (some ⟨H.length, 0, none⟩) ∧ ρ 8 = .int .i64 n ∧ ρ 9 = .pointer (some ⟨H.length + 1, 0, none⟩) ∧ ρ 12 = .int .i64 i ∧ ms = [] ∧ d' = []) →
    LoopW M cx 7 sf15L1 ρ ms h' d' (fun ex ρ' ms' h' d' => ex = .exit 2 ∧ ms' = [] ∧ d' = [] ∧ ∃ (f : Nat → Bool), T1 n f ∧ (∀ i, f0 i = true → f i = true) ∧ (tr = true → f = f0) ∧ h' = tH H (.cells [.int .i64 N, ev] 24 false 0 []) f ∧
      ρ' 8 = .int .i64 n ∧ ρ' 9 = .pointer (some ⟨H.length + 1, 0, none⟩)) := by
  refine loop_run _ ?_
  rintro k ρ ms h' d' ⟨i, f, hk, hT, hsub, htr, rfl, r2, r3, r8, r9, r12, rfl, rfl⟩
  unfold sf15L1
  have lx : loadS (tH H (.cells [.int .i64 N, ev] 24 false 0 []) f) none (.pointer (some ⟨H.length, 1, none⟩)) = some ev := by rw [load_app0]; rfl
  obtain ⟨va, vc, rfl, _⟩ := id hv
  by_cases c1 : (i : Int) < X.length
  · by_cases c2 : (i : Int) < 20
    · cases tr with
      | true =>
        repeat (first | apply Z1 | apply Z2 | apply Z3 | apply Z4 | apply Z5 rfl | apply Z6 | apply Z7 | apply Z8 | apply Z9 | apply ZA | apply ZB | apply ZC | ((first | apply ZD (by decide) | apply ZN (by decide)); (simp (maxSteps := 9999999) only [go_sem, r2, r3, r12, lx, c1, c2]; rfl)) | (refine ZE ?_ ?_; · simp only [go_sem]) | (refine ZF ?_ ?_; · simp only [go_sem]))
        exact end_nil ⟨rfl, rfl, rfl, f, hT, hsub, htr, rfl, by simp only [go_sem, r8], by simp only [go_sem, r9]⟩
      | false =>
        have hi : i < X.length := by omega
        have ew : IntKind.i64.wrap ((i : Int) + 1) = ((i + 1 : Nat) : Int) := by rw [wrap64 (by omega) (by omega)]; rfl
        have wn : IntKind.u64.wrap (n : Int) = n := wrapU (by omega) (by omega)
        have hne : ¬ (n : Int) = 0 := by omega
        have z0 : (0 : Int) ≤ i := by omega
        obtain ⟨b, o, cp, he, hp⟩ := (hv.app [.cells [.int .i64 N, .slice va X.length vc] 24 false 0 [], .cells (bV f) 83 true 0 []]).ld (by intro e; rw [e] at hi; simp at hi)
        cases he
        have l1 := hp.load1 hi
        have l2 := hp.load2 hi
        have ua := uR_eq X[i].1 (m := n) (by omega)
        have la := uR_lt X[i].1 (m := n) (by omega)
        have ub := uR_eq X[i].2 (m := n) (by omega)
        have lb := uR_lt X[i].2 (m := n) (by omega)
        generalize X[i] = y at *
        have w6 : IntKind.i64.wrap ((uR y.1 n : Nat) : Int) = ((uR y.1 n : Nat) : Int) := wrap64 (by omega) (by omega)
        have w7 : IntKind.i64.wrap ((uR y.2 n : Nat) : Int) = ((uR y.2 n : Nat) : Int) := wrap64 (by omega) (by omega)
        generalize uR y.1 n = a at *
        generalize uR y.2 n = b2 at *
        have key : ∀ p q : Nat, p < q → q < n → T1 n (up f (p * 6 + q) true) ∧ (∀ i, f0 i = true → up f (p * 6 + q) true i = true) := fun p q hpq hq => by
          refine ⟨⟨fun i hi => ?_⟩, fun i hi => ?_⟩
          · unfold up at hi
            by_cases ci : i = p * 6 + q
            · subst ci
              have h1 : (p * 6 + q) % 6 = q := by omega
              have h2 : (p * 6 + q) / 6 = p := by omega
              rw [h1, h2]
              exact ⟨by omega, hpq, hq⟩
            · rw [if_neg ci] at hi; exact hT.lt i hi
          · unfold up
            split
            · rfl
            · exact hsub i hi
        rcases Nat.lt_trichotomy a b2 with h | h | h
        · have q1 : ¬ ((b2 : Int) < a) := by omega
          have q2 : ((b2 : Int) > a) := by omega
          have q2' : ((a : Int) < b2) := by omega
          have q3 : ¬ ((a : Int) = b2) := by omega
          have m1 : IntKind.i64.wrap ((a : Int) * 6) = ((a * 6 : Nat) : Int) := by rw [wrap64 (by omega) (by omega)]; omega
          have m2 : IntKind.i64.wrap (((a * 6 : Nat) : Int) + b2) = ((a * 6 + b2 : Nat) : Int) := by rw [wrap64 (by omega) (by omega)]; omega
          have m3 : (0 : Int) ≤ ((a * 6 + b2 : Nat) : Int) := by omega
          have m4 : ((a * 6 + b2 : Nat) : Int) < 36 := by omega
          have m5 := tH_st H (.cells [.int .i64 N, .slice (some ⟨b, o, none⟩) X.length vc] 24 false 0 []) f (i := a * 6 + b2) (by omega)
          obtain ⟨k1, k2⟩ := key a b2 h lb
          generalize hj : a * 6 + b2 = j at *
          generalize a * 6 = j2 at *
          repeat (first | apply Z1 | apply Z2 | apply Z3 | apply Z4 | apply Z5 rfl | apply Z6 | apply Z7 | apply Z8 | apply Z9 | apply ZA | apply ZB | apply ZC | ((first | apply ZD (by decide) | apply ZN (by decide)); (simp (maxSteps := 9999999) only [go_sem, r2, r3, r8, r9, r12, lx, c1, c2, z0, l1, l2, wn, hne, ua, ub, w6, w7, q1, q2, q2', q3, m1, m2, m3, m4, ↓m5, ew, Int.toNat_natCast]; rfl)) | (refine ZE ?_ ?_; · simp only [go_sem]) | (refine ZF ?_ ?_; · simp only [go_sem]))
          exact end_nil ⟨k - 1, by omega, i + 1, _, by omega, k1, k2, (fun h => by cases h), rfl, by simp only [go_sem, r2], by simp only [go_sem, r3], by simp only [go_sem, r8], by simp only [go_sem, r9], by simp only [go_sem, ew], rfl, rfl⟩
        · subst h
          repeat (first | apply Z1 | apply Z2 | apply Z3 | apply Z4 | apply Z5 rfl | apply Z6 | apply Z7 | apply Z8 | apply Z9 | apply ZA | apply ZB | apply ZC | ((first | apply ZD (by decide) | apply ZN (by decide)); (simp (maxSteps := 9999999) only [go_sem, r2, r3, r8, r9, r12, lx, c1, c2, z0, l1, l2, wn, hne, ua, ub, w6, w7, ew, Int.toNat_natCast]; rfl)) | (refine ZE ?_ ?_; · simp only [go_sem]) | (refine ZF ?_ ?_; · simp only [go_sem]))
          exact end_nil ⟨k - 1, by omega, i + 1, f, by omega, hT, hsub, htr, rfl, by simp only [go_sem, r2], by simp only [go_sem, r3], by simp only [go_sem, r8], by simp only [go_sem, r9], by simp only [go_sem, ew], rfl, rfl⟩
        · have q1 : ((b2 : Int) < a) := by omega
          have q2 : ¬ ((b2 : Int) > a) := by omega
          have q2' : ¬ ((a : Int) < b2) := by omega
          have q3 : ¬ ((a : Int) = b2) := by omega
          have m1 : IntKind.i64.wrap ((b2 : Int) * 6) = ((b2 * 6 : Nat) : Int) := by rw [wrap64 (by omega) (by omega)]; omega
          have m2 : IntKind.i64.wrap (((b2 * 6 : Nat) : Int) + a) = ((b2 * 6 + a : Nat) : Int) := by rw [wrap64 (by omega) (by omega)]; omega
          have m3 : (0 : Int) ≤ ((b2 * 6 + a : Nat) : Int) := by omega
          have m4 : ((b2 * 6 + a : Nat) : Int) < 36 := by omega
          have m5 := tH_st H (.cells [.int .i64 N, .slice (some ⟨b, o, none⟩) X.length vc] 24 false 0 []) f (i := b2 * 6 + a) (by omega)
          obtain ⟨k1, k2⟩ := key b2 a h la
          generalize hj : b2 * 6 + a = j at *
          generalize b2 * 6 = j2 at *
          repeat (first | apply Z1 | apply Z2 | apply Z3 | apply Z4 | apply Z5 rfl | apply Z6 | apply Z7 | apply Z8 | apply Z9 | apply ZA | apply ZB | apply ZC | ((first | apply ZD (by decide) | apply ZN (by decide)); (simp (maxSteps := 9999999) only [go_sem, r2, r3, r8, r9, r12, lx, c1, c2, z0, l1, l2, wn, hne, ua, ub, w6, w7, q1, q2, q2', q3, m1, m2, m3, m4, ↓m5, ew, Int.toNat_natCast]; rfl)) | (refine ZE ?_ ?_; · simp only [go_sem]) | (refine ZF ?_ ?_; · simp only [go_sem]))
          exact end_nil ⟨k - 1, by omega, i + 1, _, by omega, k1, k2, (fun h => by cases h), rfl, by simp only [go_sem, r2], by simp only [go_sem, r3], by simp only [go_sem, r8], by simp only [go_sem, r9], by simp only [go_sem, ew], rfl, rfl⟩
    · repeat (first | apply Z1 | apply Z2 | apply Z3 | apply Z4 | apply Z5 rfl | apply Z6 | apply Z7 | apply Z8 | apply Z9 | apply ZA | apply ZB | apply ZC | ((first | apply ZD (by decide) | apply ZN (by decide)); (simp (maxSteps := 9999999) only [go_sem, r2, r3, r12, lx, c1, c2]; rfl)) | (refine ZE ?_ ?_; · simp only [go_sem]) | (refine ZF ?_ ?_; · simp only [go_sem]))
      exact end_nil ⟨rfl, rfl, rfl, f, hT, hsub, htr, rfl, by simp only [go_sem, r8], by simp only [go_sem, r9]⟩
  · repeat (first | apply Z1 | apply Z2 | apply Z3 | apply Z4 | apply Z5 rfl | apply Z6 | apply Z7 | apply Z8 | apply Z9 | apply ZA | apply ZB | apply ZC | ((first | apply ZD (by decide) | apply ZN (by decide)); (simp (maxSteps := 9999999) only [go_sem, r2, r3, r12, lx, c1]; rfl)) | (refine ZE ?_ ?_; · simp only [go_sem]) | (refine ZF ?_ ?_; · simp only [go_sem]))
    exact end_nil ⟨rfl, rfl, rfl, f, hT, hsub, htr, rfl, by simp only [go_sem, r8], by simp only [go_sem, r9]⟩
end Go.Proofs.YtpkhkghiidilcaaDoor.Sh

namespace Go.Proofs.YtpkhkghiidilcaaDoor.Sh
open Go
set_option maxRecDepth 100000
set_option maxHeartbeats 4000000
def edg (f : Nat → Bool) : Nat → List (Nat × Nat)
  | 0 => []
  | i + 1 => edg f i ++ if f i = true then [(i / 6, i % 6)] else []
theorem edg_len (f : Nat → Bool) : ∀ i, (edg f i).length ≤ i
  | 0 => Nat.le_refl _
  | i + 1 => by
    have := edg_len f i
    show (_ ++ _ : List _).length ≤ i + 1
    rw [List.length_append]
    split <;> simp <;> omega
theorem tame_list (cx : Cx) {H0 : SHeap} {H : SHeap} {x : SO} {f : Nat → Bool} {n : Nat} (hH : H0 = tH H x f) :
    ∀ k ρ ms h' d', (∃ (i : Nat) (qv : Value), i + k = 36 ∧ AccS H0 h' qv (prN (edg f i)) (edg f i).length 2 45 ∧ ρ 8 = .int .i64 n ∧ ρ 9 = .pointer (some ⟨H.length + 1, 0, none⟩) ∧ ρ 15 = qv ∧ ρ 16 = .int .i64 i ∧ ms = [] ∧ d' = []) →
    LoopW M cx 7 sf15L0 ρ ms h' d' (fun ex ρ' ms' h' d' => ex = .exit 4 ∧ ms' = [] ∧ d' = [] ∧ ∃ qv : Value, AccS H0 h' qv (prN (edg f 36)) (edg f 36).length 2 45 ∧ ρ' 8 = .int .i64 n ∧ ρ' 15 = qv) := by
  refine loop_run _ ?_
  rintro k ρ ms h' d' ⟨i, qv, hk, A, r8, r9, r15, r16, rfl, rfl⟩
  unfold sf15L0
  by_cases c : k = 0
  · have e1 : ¬ ((i : Int) < 36) := by omega
    obtain rfl : i = 36 := by omega
    repeat (first | apply Z1 | apply Z2 | apply Z3 | apply Z4 | apply Z5 rfl | apply Z6 | apply Z7 | apply Z8 | apply Z9 | apply ZA | apply ZB | apply ZC | ((first | apply ZD (by decide) | apply ZN (by decide)); (simp (maxSteps := 9999999) only [go_sem, r16, e1]; rfl)) | (refine ZE ?_ ?_; · simp only [go_sem]) | (refine ZF ?_ ?_; · simp only [go_sem]))
    exact end_nil ⟨rfl, rfl, rfl, qv, A, by simp only [go_sem, r8], by simp only [go_sem, r15]⟩
  · have e1 : ((i : Int) < 36) := by omega
    have hi : i < 36 := by omega
    have z1 : (0 : Int) ≤ i := by omega
    have ew : IntKind.i64.wrap ((i : Int) + 1) = ((i + 1 : Nat) : Int) := by rw [wrap64 (by omega) (by omega)]; rfl
    have hb : h'[H.length + 1]? = some (.cells (bV f) 83 true 0 []) := by
      rw [A.same _ (by rw [hH]; simp), hH, app_get]; rfl
    have l1 : loadS h' none (.pointer (some ⟨H.length + 1, i, none⟩)) = some (.bool (f i)) := by
      have := load_cell (h := h') (o := i) hb rfl (bV_get f hi) []
      rw [List.append_nil] at this; exact this
    have hll := edg_len f i
    by_cases cf : f i = true
    · rw [cf] at l1
      have q1 : (i : Int).tdiv 6 = ((i / 6 : Nat) : Int) := by rw [Int.tdiv_eq_ediv_of_nonneg (by omega)]; rfl
      have q2 : (i : Int).tmod 6 = ((i % 6 : Nat) : Int) := by rw [Int.tmod_eq_emod_of_nonneg (by omega)]; rfl
      have w1 : IntKind.i64.wrap ((i / 6 : Nat) : Int) = ((i / 6 : Nat) : Int) := wrap64 (by omega) (by omega)
      have A1 := A.app [.cells [.int .i64 ((i / 6 : Nat) : Int), .int .i64 ((i % 6 : Nat) : Int)] 45 true 0 []]
      obtain ⟨H2, v2, ap, ⟨b2, hv2⟩, A3, _, _⟩ := A1.push (bs := h'.length) (bytes := 16) (new := [.int .i64 ((i / 6 : Nat) : Int), .int .i64 ((i % 6 : Nat) : Int)]) (el2 := 45) (pf2 := true) (own2 := 0) (old2 := []) (by rw [app_get0]; rfl) rfl rfl (by decide) rfl (by decide) (by omega)
      have hsn : edg f (i + 1) = edg f i ++ [(i / 6, i % 6)] := by show _ ++ _ = _; rw [if_pos cf]
      generalize i / 6 = a at *
      generalize i % 6 = b at *
      repeat (first | apply Z1 | apply Z2 | apply Z3 | apply Z4 | apply Z5 rfl | apply Z6 | apply Z7 | apply Z8 | apply Z9 | apply ZA | apply ZB | apply ZC | ((first | apply ZD (by decide) | apply ZN (by decide)); (simp (maxSteps := 9999999) only [go_sem, r8, r9, r15, r16, e1, z1, l1, q1, q2, w1, ap, ew, Int.toNat_natCast]; rfl)) | (refine ZE ?_ ?_; · simp only [go_sem]) | (refine ZF ?_ ?_; · simp only [go_sem]))
      refine end_nil ⟨k - 1, by omega, i + 1, v2, by omega, ?_, by simp only [go_sem, r8], by simp only [go_sem, r9], by simp only [go_sem], by simp only [go_sem, ew], rfl, rfl⟩
      rw [hsn, prN_snoc, List.length_append]
      exact A3
    · have hsn : edg f (i + 1) = edg f i := by show _ ++ _ = _; rw [if_neg cf, List.append_nil]
      rw [Bool.not_eq_true] at cf
      rw [cf] at l1
      repeat (first | apply Z1 | apply Z2 | apply Z3 | apply Z4 | apply Z5 rfl | apply Z6 | apply Z7 | apply Z8 | apply Z9 | apply ZA | apply ZB | apply ZC | ((first | apply ZD (by decide) | apply ZN (by decide)); (simp (maxSteps := 9999999) only [go_sem, r8, r9, r15, r16, e1, z1, l1, ew, Int.toNat_natCast]; rfl)) | (refine ZE ?_ ?_; · simp only [go_sem]) | (refine ZF ?_ ?_; · simp only [go_sem]))
      refine end_nil ⟨k - 1, by omega, i + 1, qv, by omega, ?_, by simp only [go_sem, r8], by simp only [go_sem, r9], by simp only [go_sem, r15], by simp only [go_sem, ew], rfl, rfl⟩
      rw [hsn]; exact A
theorem AccS.gcR {H g h : SHeap} {v : Value} {cs : List Value} {n s : Nat} {el : TypeId} (A : AccS (H ++ g) h v cs n s el) (w : Value) (hw : flat 1 w = true) : gcS H.length (.tuple #[w, v]) h = some (.tuple #[w, resV H n s], resH H cs n el) := by
  have hp : ptrs 2 w = [] ∧ ∀ K, renV H.length K 2 w = some w := ⟨ptrs_flat 2 w (flat_up _ _ hw), fun K => renV_flat 2 w (flat_up _ _ hw)⟩
  by_cases hn : n = 0
  · have ht := A.take rfl
    have e3 := hp.2 []
    rcases A.acc with ⟨_, rfl, _⟩ | ⟨b, old, rfl, h1, h2, h3, _⟩
    · have e1 : ptrs 3 (.tuple #[w, .slice none 0 0]) = [] := by
        show ptrs 2 w ++ (ptrs 2 (.slice none 0 0) ++ []) = []
        rw [hp.1]; rfl
      unfold gcS
      rw [e1]
      rw [show (1000000 : Nat) = 999999 + 1 from rfl, reach]
      simp [renV, mapO, e3, ht, resV, resH, hn]
    · exact (h3 hn).elim
  · obtain ⟨b, old, rfl, h1, h2, h3⟩ := A.cellsAt hn
    have ht := A.take rfl
    have eb : Nat.ble H.length b = true := by rw [ble_dec]; simpa using h2
    have e1 : reach H.length h 1000000 [b] [] = [b] := by
      rw [show (1000000 : Nat) = 999998 + 1 + 1 from rfl, reach]
      simp only [eb, List.contains_nil, Bool.not_true, Bool.or_self, Bool.false_eq_true, if_false, h1, ptrsO, Bool.true_or, if_true, List.nil_append]
      rw [reach]
    have e2 : ren H.length [b] b = some H.length := by simp [ren, eb, posOf]
    have e0 : ((0 : Nat) == 2) = false := rfl
    have e3 := hp.2 [b]
    have e4 : ptrs 3 (.tuple #[w, .slice (some ⟨b, 0, none⟩) n (UNK + s)]) = [b] := by
      show ptrs 2 w ++ (ptrs 2 (.slice (some ⟨b, 0, none⟩) n (UNK + s)) ++ []) = [b]
      rw [hp.1]; rfl
    unfold gcS
    simp only [e4, e1, renV, e2, e3, mapO, renO, h1, e0, Bool.false_eq_true, if_false, if_true, ht, ren_none' h3]
    simp [resV, resH, hn]
structure TM (most : Nat) (tr : Bool) (n : Nat) (f : Nat → Bool) : Prop where
  n1 : 1 ≤ n
  n2 : n ≤ most
  t1 : T1 n f
  par : ∃ par : Nat → Nat, (∀ w, 1 ≤ w → w < n → par w < w ∧ f (par w * 6 + w) = true) ∧ (tr = true → ∀ i, f i = true ↔ i < 36 ∧ 1 ≤ i % 6 ∧ i % 6 < n ∧ par (i % 6) = i / 6)
theorem tame15 {H : SHeap} {N : Int} {ev : Value} {X : List (Int × Int)} (hv : PS H ev X) (hlen : X.length ≤ 9223372036854775807) {most : Nat} (hm1 : 1 ≤ most) (hm : most ≤ 6) (tr : Bool) :
    ∃ (n : Nat) (f : Nat → Bool), TM most tr n f ∧ M.call 15 [.agg #[.int .i64 N, ev], .int .i64 most, .bool tr] H = some (.tuple #[.int .i64 n, resV H (edg f 36).length 2], resH H (prN (edg f 36)) (edg f 36).length 45, []) := by
  have key : ∃ r, (∃ (n : Nat) (f : Nat → Bool), r = (Value.tuple #[.int .i64 n, resV H (edg f 36).length 2], resH H (prN (edg f 36)) (edg f 36).length 45, ([] : List Nat)) ∧ TM most tr n f) ∧ M.call 15 [.agg #[.int .i64 N, ev], .int .i64 most, .bool tr] H = some r := by
    refine call_ex (f := 15) _ sf15 rfl rfl rfl ?_
    have wm : IntKind.u64.wrap (most : Int) = most := wrapU (by omega) (by omega)
    have hne : ¬ (most : Int) = 0 := by omega
    have un := uR_eq N (m := most) (by omega)
    have ul := uR_lt N (m := most) (by omega)
    have w6 : IntKind.i64.wrap ((uR N most : Nat) : Int) = ((uR N most : Nat) : Int) := wrap64 (by omega) (by omega)
    generalize uR N most = r at *
    have w7 : IntKind.i64.wrap (1 + (r : Int)) = ((r + 1 : Nat) : Int) := by rw [wrap64 (by omega) (by omega)]; omega
    have w8 : IntKind.i64.wrap (((r + 1 : Nat) : Int) - 1) = ((r : Nat) : Int) := by rw [wrap64 (by omega) (by omega)]; omega
    obtain ⟨va, vc, rfl, _⟩ := id hv
    unfold sf15
    repeat (first | apply Z1 | apply Z2 | apply Z3 | apply Z4 | apply Z5 rfl | apply Z6 | apply Z7 | apply Z8 | apply Z9 | apply ZA | apply ZB | apply ZC | ((first | apply ZD (by decide) | apply ZN (by decide)); (simp (maxSteps := 9999999) only [go_sem, argR, wm, hne, un, w6, w7]; rfl)) | (refine ZE ?_ ?_; · simp only [go_sem]) | (refine ZF ?_ ?_; · simp only [go_sem]))
    refine run_loop (tame_par _ hv hlen (n := r + 1) (by omega) (N := N) (most := .int .i64 most) (tree := .bool tr) (g := .bool tr) r _ _ _ _ ⟨1, fun _ => false, fun _ => 0, by rw [if_neg (by omega)]; omega, Nat.le_refl _, fun w h1 h2 => by omega, fun i => ⟨(fun h => by cases h), (fun h => by omega)⟩, rfl, by simp only [go_sem, argR], by simp only [go_sem, argR], by simp only [go_sem], by simp only [go_sem], by simp only [go_sem], by simp only [go_sem], rfl, rfl⟩) ?_
    rintro ex ρ2 ms2 h2 d2 ⟨rfl, rfl, rfl, f, par, hpar, hf, rfl, r2, r3, r8, r9⟩
    repeat (first | apply Z1 | apply Z2 | apply Z3 | apply Z4 | apply Z5 rfl | apply Z6 | apply Z7 | apply Z8 | apply Z9 | apply ZA | apply ZB | apply ZC | ((first | apply ZD (by decide) | apply ZN (by decide)); (simp (maxSteps := 9999999) only [go_sem, r2, r3, r8, r9, w8]; rfl)) | (refine ZE ?_ ?_; · simp only [go_sem]) | (refine ZF ?_ ?_; · simp only [go_sem]))
    refine run_loop (tame_more _ hv hlen (n := r + 1) (by omega) (by omega) (N := N) (tr := tr) (f0 := f) (20 - r) _ _ _ _ ⟨r, f, by omega, ⟨fun i hi => ?_⟩, fun i h => h, fun _ => rfl, rfl, by simp only [go_sem, r2], by simp only [go_sem, r3], by simp only [go_sem, r8], by simp only [go_sem, r9], by simp only [go_sem, w8], rfl, rfl⟩) ?_
    · have := (hf i).1 hi
      have := hpar (i % 6) this.2.1 this.2.2.1
      omega
    rintro ex ρ3 ms3 h3 d3 ⟨rfl, rfl, rfl, f3, hT, hsub, htr, rfl, s8, s9⟩
    repeat (first | apply Z1 | apply Z2 | apply Z3 | apply Z4 | apply Z5 rfl | apply Z6 | apply Z7 | apply Z8 | apply Z9 | apply ZA | apply ZB | apply ZC | ((first | apply ZD (by decide) | apply ZN (by decide)); (simp (maxSteps := 9999999) only [go_sem, s8, s9]; rfl)) | (refine ZE ?_ ?_; · simp only [go_sem]) | (refine ZF ?_ ?_; · simp only [go_sem]))
    refine run_loop (tame_list _ (H := H) (f := f3) (n := r + 1) rfl 36 _ _ _ _ ⟨0, .slice none 0 0, by omega, AccS.nil0 _ 2 45, by simp only [go_sem, s8], by simp only [go_sem, s9], by simp only [go_sem], by simp only [go_sem], rfl, rfl⟩) ?_
    rintro ex ρ4 ms4 h4 d4 ⟨rfl, rfl, rfl, qv, A, t8, t15⟩
    obtain ⟨qa, qc, rfl⟩ := A.shape
    repeat (first | apply Z1 | apply Z2 | apply Z3 | apply Z4 | apply Z5 rfl | apply Z6 | apply Z7 | apply Z8 | apply Z9 | apply ZA | apply ZB | apply ZC | ((first | apply ZD (by decide) | apply ZN (by decide)); (simp (maxSteps := 9999999) only [go_sem, t8, t15]; rfl)) | (refine ZE ?_ ?_; · simp only [go_sem]) | (refine ZF ?_ ?_; · simp only [go_sem]))
    refine end_nil ⟨_, ⟨r + 1, f3, rfl, by omega, by omega, hT, par, fun w h1 h2 => ⟨hpar w h1 h2, hsub _ ((hf _).2 ?_)⟩, fun h => by rw [htr h]; exact hf⟩, ?_⟩
    · have := hpar w h1 h2
      have e1 : (par w * 6 + w) % 6 = w := by omega
      have e2 : (par w * 6 + w) / 6 = par w := by omega
      rw [e1, e2]; exact ⟨by omega, h1, h2, rfl⟩
    · exact q_gc [.int .i64 ((r + 1 : Nat) : Int), .slice qa (edg f3 36).length qc] (by simp only [go_sem]) rfl (A.gcR _ rfl) rfl
  obtain ⟨r, ⟨n, f, rfl, k⟩, e⟩ := key
  exact ⟨n, f, k, e⟩
end Go.Proofs.YtpkhkghiidilcaaDoor.Sh

namespace Go.Proofs.YtpkhkghiidilcaaDoor.Sh
open Go
set_option maxRecDepth 100000
set_option maxHeartbeats 1000000
def castE (l : List (Nat × Nat)) : List (Int × Int) := l.map fun p => ((p.1 : Int), (p.2 : Int))
theorem castE_len (l : List (Nat × Nat)) : (castE l).length = l.length := by simp [castE]
theorem prN_prs (l : List (Nat × Nat)) : prN l = prs (castE l) := by
  induction l with
  | nil => rfl
  | cons p l ih =>
    show [_, _] ++ prN l = _
    rw [ih]; rfl
theorem PS_res (H : SHeap) (l : List (Nat × Nat)) (el : TypeId) : PS (resH H (prN l) l.length el) (resV H l.length 2) (castE l) := by
  by_cases c : l.length = 0
  · have : l = [] := List.length_eq_zero_iff.1 c
    subst this
    exact ⟨none, 0, rfl, fun h => (h rfl).elim⟩
  · unfold resH resV
    rw [if_neg c, if_neg c]
    refine ⟨_, _, by rw [castE_len], fun _ => ⟨_, _, rfl, Prs.mk0 (el := el) (pf := true) (own := 0) (old := []) ?_ rfl⟩⟩
    rw [List.getElem?_append_right (Nat.le_refl _), Nat.sub_self, prN_prs]; rfl
def keyP (p : Nat × Nat) : Nat := 6 * p.1 + p.2
theorem edg_mem {f : Nat → Bool} : ∀ {k : Nat} {p : Nat × Nat}, p ∈ edg f k ↔ ∃ i, i < k ∧ f i = true ∧ p = (i / 6, i % 6)
  | 0, p => by simp [edg]
  | k + 1, p => by
    show p ∈ _ ++ _ ↔ _
    rw [List.mem_append, edg_mem]
    constructor
    · rintro (⟨i, h1, h2, h3⟩ | h)
      · exact ⟨i, by omega, h2, h3⟩
      · split at h
        · rename_i hf
          exact ⟨k, by omega, hf, List.mem_singleton.1 h⟩
        · cases h
    · rintro ⟨i, h1, h2, h3⟩
      by_cases c : i = k
      · subst c; right; rw [if_pos h2]; exact List.mem_singleton.2 h3
      · exact .inl ⟨i, by omega, h2, h3⟩
theorem edg_sorted (f : Nat → Bool) : ∀ k, (edg f k).Pairwise (fun p q => keyP p < keyP q)
  | 0 => List.Pairwise.nil
  | k + 1 => by
    show (_ ++ _ : List _).Pairwise _
    rw [List.pairwise_append]
    refine ⟨edg_sorted f k, ?_, fun p hp q hq => ?_⟩
    · split
      · exact List.pairwise_singleton _ _
      · exact List.Pairwise.nil
    · split at hq
      · obtain ⟨i, h1, _, rfl⟩ := edg_mem.1 hp
        rw [List.mem_singleton] at hq
        subst hq
        unfold keyP
        dsimp only
        omega
      · cases hq
theorem TM.eok {most : Nat} {tr : Bool} {n : Nat} {f : Nat → Bool} (T : TM most tr n f) : EOK n (castE (edg f 36)) := by
  intro i hi
  rw [castE_len] at hi
  have at' : ∀ j (hj : j < (edg f 36).length), eAt (castE (edg f 36)) j = (((edg f 36)[j].1 : Int), ((edg f 36)[j].2 : Int)) := fun j hj => by
    rw [eAt_get (by rw [castE_len]; exact hj)]; simp [castE]
  have pr : ∀ j (hj : j < (edg f 36).length), (edg f 36)[j].1 < (edg f 36)[j].2 ∧ (edg f 36)[j].2 < n ∧ (edg f 36)[j].2 < 6 := fun j hj => by
    obtain ⟨k, h1, h2, h3⟩ := edg_mem.1 (List.getElem_mem hj)
    have := T.t1.lt k h2
    rw [h3]
    dsimp only
    omega
  have hp := pr i hi
  unfold okAt
  rw [at' i hi]
  dsimp only
  refine ⟨by omega, by omega, by omega, fun h0 => ?_⟩
  have hq := pr (i - 1) (by omega)
  rw [at' (i - 1) (by omega)]
  dsimp only
  have hs := List.pairwise_iff_getElem.1 (edg_sorted f 36) (i - 1) i (by omega) hi (by omega)
  unfold keyP at hs
  omega
theorem TM.conn {most : Nat} {tr : Bool} {n : Nat} {f : Nat → Bool} (T : TM most tr n f) (hm : most ≤ 6) : Conn n (castE (edg f 36)) := by
  have n1 := T.n1
  have n2 := T.n2
  obtain ⟨par, hpar, _⟩ := T.par
  rw [conn_iff n1]
  obtain ⟨F, hF, hk⟩ := farI_spec (n := n) (E := castE (edg f 36)) (s := 0) (by omega)
  have key : ∀ v, v < n → 0 ≤ F v := by
    intro v
    induction v using Nat.strongRecOn with
    | _ v ih =>
      intro hv
      by_cases c : v = 0
      · subst c; rw [hF.src]; exact Int.le_refl _
      · obtain ⟨h1, h2⟩ := hpar v (by omega) hv
        have h3 := ih (par v) h1 (by omega)
        refine (hF.nxt (par v) v (by omega) hv h3 ?_).1
        rw [adjE_mem]
        left
        unfold castE
        refine List.mem_map.2 ⟨(par v, v), edg_mem.2 ⟨par v * 6 + v, by omega, h2, ?_⟩, rfl⟩
        refine Prod.ext ?_ ?_ <;> dsimp only <;> omega
  intro v hv
  rw [(hk v hv).1 (key v hv)]; exact key v hv
theorem TM.err {most : Nat} {tr : Bool} {n : Nat} {f : Nat → Bool} (T : TM most tr n f) (hm : most ≤ 6) : errG n (castE (edg f 36)) = 0 := errG_of T.n1 (by have := T.n2; omega) T.eok (T.conn hm)
theorem edgE_len (f : Nat → Bool) : (castE (edg f 36)).length ≤ 1000000 := by
  rw [castE_len]; have := edg_len f 36; omega
end Go.Proofs.YtpkhkghiidilcaaDoor.Sh

namespace Go.Proofs.YtpkhkghiidilcaaDoor.Sh
open Go
set_option maxRecDepth 100000
set_option maxHeartbeats 4000000
end Go.Proofs.YtpkhkghiidilcaaDoor.Sh

namespace Go.Proofs.YtpkhkghiidilcaaDoor.Sh
open Go
set_option maxRecDepth 100000
set_option maxHeartbeats 4000000
def capOK (n c s : Nat) : Prop := (n ≤ c ∧ c < UNK) ∨ c = UNK + s
def PSc (h : SHeap) (v : Value) (X : List (Int × Int)) : Prop := ∃ a c, v = .slice a X.length c ∧ capOK X.length c 2 ∧ (a = none ∧ c < UNK ∧ X = [] ∨ ∃ b o, a = some ⟨b, o, none⟩ ∧ (X ≠ [] → Prs h b o X))
theorem PSc.ps {h : SHeap} {v : Value} {X : List (Int × Int)} (k : PSc h v X) : PS h v X := by
  obtain ⟨a, c, e, _, k⟩ := k
  refine ⟨a, c, e, fun hn => ?_⟩
  rcases k with ⟨_, _, rfl⟩ | ⟨b, o, rfl, k⟩
  · exact (hn rfl).elim
  · exact ⟨b, o, rfl, k hn⟩
end Go.Proofs.YtpkhkghiidilcaaDoor.Sh

namespace Go.Proofs.YtpkhkghiidilcaaDoor.Sh
open Go
set_option maxRecDepth 100000
set_option maxHeartbeats 4000000
theorem ST.sup {n : Nat} {s : Nat → Int} (S : ST n s 40) (hn : n ≤ 6) : SupOK n (lst n s) := by
  refine ⟨by rw [lst_len], fun x hx => ?_, ?_⟩
  · unfold lst at hx
    obtain ⟨v, _, rfl⟩ := List.mem_map.1 hx
    exact S.bnd hn v
  · have h := S.le
    have o := S.out
    have : (lst n s).sum = tot s := by
      unfold tot
      have : n = 0 ∨ n = 1 ∨ n = 2 ∨ n = 3 ∨ n = 4 ∨ n = 5 ∨ n = 6 := by omega
      rcases this with rfl | rfl | rfl | rfl | rfl | rfl | rfl
      · rw [o 0 (by omega), o 1 (by omega), o 2 (by omega), o 3 (by omega), o 4 (by omega), o 5 (by omega)]; rfl
      · rw [o 1 (by omega), o 2 (by omega), o 3 (by omega), o 4 (by omega), o 5 (by omega)]; simp [lst, List.range_succ]
      · rw [o 2 (by omega), o 3 (by omega), o 4 (by omega), o 5 (by omega)]; simp [lst, List.range_succ]
      · rw [o 3 (by omega), o 4 (by omega), o 5 (by omega)]; simp [lst, List.range_succ]; omega
      · rw [o 4 (by omega), o 5 (by omega)]; simp [lst, List.range_succ]; omega
      · rw [o 5 (by omega)]; simp [lst, List.range_succ]; omega
      · simp [lst, List.range_succ]; omega
    rw [this]; exact h
end Go.Proofs.YtpkhkghiidilcaaDoor.Sh

namespace Go.Proofs.YtpkhkghiidilcaaDoor.Sh
open Go
set_option maxRecDepth 100000
set_option maxHeartbeats 4000000
theorem rowM_mem {n : Nat} {E : List (Int × Int)} {s : Nat → Int} {a : Nat} {p : Nat × Nat} : ∀ {b : Nat}, p ∈ rowM n E s a b → p.1 = a ∧ canM n E s p.1 p.2
  | 0, h => by cases h
  | b + 1, h => by
    have h : p ∈ _ ++ _ := h
    rw [List.mem_append] at h
    rcases h with h | h
    · exact rowM_mem h
    · split at h
      · rename_i hc; rw [List.mem_singleton] at h; subst h; exact ⟨rfl, hc⟩
      · cases h
theorem MVb_mem {n : Nat} {E : List (Int × Int)} {s : Nat → Int} {p : Nat × Nat} : ∀ {a : Nat}, p ∈ MVb n E s a → canM n E s p.1 p.2
  | 0, h => by cases h
  | a + 1, h => by
    have h : p ∈ _ ++ _ := h
    rw [List.mem_append] at h
    rcases h with h | h
    · exact MVb_mem h
    · exact (rowM_mem h).2
theorem DV.is {H h : SHeap} {lv v : Value} {n i : Nat} {s s0 : Nat → Int} (D : DV H h lv v n i s) (hl : IS H lv (lst n s0)) (h0 : i = 0 → s = s0) (hle : H.length ≤ h.length) (fr : ∀ j, j < H.length → h[j]? = H[j]?) : IS h v (lst n s) := by
  rcases D with ⟨e, rfl⟩ | ⟨_, b, rfl, _, hb⟩
  · rw [h0 e]; exact hl.fr hle fr
  · exact IS.lstAt hb rfl
theorem DV.keep {H h h' : SHeap} {lv v : Value} {n i : Nat} {s : Nat → Int} (D : DV H h lv v n i s) (k : ∀ b cs own old, H.length ≤ b → h[b]? = some (.cells cs 3 true own old) → h'[b]? = h[b]?) : DV H h' lv v n i s := by
  rcases D with ⟨e, rfl⟩ | ⟨e, b, rfl, hb, hc⟩
  · exact .inl ⟨e, rfl⟩
  · exact .inr ⟨e, b, rfl, hb, by rw [k b _ _ _ hb hc]; exact hc⟩
end Go.Proofs.YtpkhkghiidilcaaDoor.Sh

namespace Go.Proofs.YtpkhkghiidilcaaDoor.Sh
open Go
set_option maxRecDepth 100000
set_option maxHeartbeats 4000000
theorem AccS.pairs {H h : SHeap} {v : Value} {l : List (Nat × Nat)} (A : AccS H h v (prN l) l.length 2 45) : PS h v (castE l) := by
  rcases A.acc with ⟨h0, rfl, _⟩ | ⟨b, old, rfl, hb, _⟩
  · have : l = [] := List.length_eq_zero_iff.1 h0
    subst this
    exact ⟨none, 0, rfl, fun h => (h rfl).elim⟩
  · exact ⟨_, _, by rw [castE_len], fun _ => ⟨b, 0, rfl, Prs.mk0 (by rw [← prN_prs]; exact hb) rfl⟩⟩
end Go.Proofs.YtpkhkghiidilcaaDoor.Sh

namespace Go.Proofs.YtpkhkghiidilcaaDoor.Sh
open Go
set_option maxRecDepth 100000
set_option maxHeartbeats 4000000
theorem resH_fr (h : SHeap) (cs : List Value) (n : Nat) (el : TypeId) : h.length ≤ (resH h cs n el).length ∧ ∀ j, j < h.length → (resH h cs n el)[j]? = h[j]? := by
  unfold resH
  split
  · exact ⟨Nat.le_refl _, fun _ _ => rfl⟩
  · exact ⟨by simp, fun j hj => List.getElem?_append_left hj⟩
theorem Prs.fr {H h : SHeap} {b o : Nat} {X : List (Int × Int)} (k : Prs H b o X) (fr : ∀ j, j < H.length → h[j]? = H[j]?) : Prs h b o X := by
  have e := fr b k.lt
  obtain ⟨pre, post, el2, pf, own, old, h1, h2⟩ := k
  exact ⟨pre, post, el2, pf, own, old, by rw [e]; exact h1, h2⟩
theorem PSc.fr {H h : SHeap} {v : Value} {X : List (Int × Int)} (k : PSc H v X) (fr : ∀ j, j < H.length → h[j]? = H[j]?) : PSc h v X := by
  obtain ⟨a, c, e, hc, k⟩ := k
  refine ⟨a, c, e, hc, k.imp id ?_⟩
  rintro ⟨b, o, e, k⟩
  exact ⟨b, o, e, fun hn => (k hn).fr fr⟩
end Go.Proofs.YtpkhkghiidilcaaDoor.Sh

namespace Go.Proofs.YtpkhkghiidilcaaDoor.Sh
open Go
set_option maxRecDepth 100000
set_option maxHeartbeats 1000000
def pl (s : Nat → Int) (u : Nat) (k : Int) : Nat → Int := fun v => if v = u then s u + k else s v
theorem pl_same (s : Nat → Int) (u : Nat) (k : Int) : pl s u k u = s u + k := by unfold pl; rw [if_pos rfl]
theorem pl_ne (s : Nat → Int) {u v : Nat} (k : Int) (h : v ≠ u) : pl s u k v = s v := by unfold pl; rw [if_neg h]
theorem pl_back (s : Nat → Int) (u : Nat) (k : Int) : pl (pl s u (-k)) u k = s := by
  funext v
  unfold pl
  by_cases c : v = u
  · subst c; simp; omega
  · simp [c]
theorem pl_at (s : Nat → Int) (u : Nat) (k : Int) (v : Nat) : pl s u k v = s v + if v = u then k else 0 := by
  unfold pl; split
  · rename_i e; subst e; rfl
  · omega
theorem aft_v {s : Nat → Int} {a b : Nat} (h : a ≠ b) (v : Nat) : aft s a b v = s v + (if v = a then -2 else 0) + (if v = b then 1 else 0) := by
  rw [aft_at h]
  by_cases c1 : v = b
  · subst c1; rw [if_pos rfl, if_pos rfl, if_neg (fun e => h e.symm)]; omega
  · rw [if_neg c1, if_neg c1]
    by_cases c2 : v = a
    · subst c2; rw [if_pos rfl, if_pos rfl]; omega
    · rw [if_neg c2, if_neg c2]; omega
theorem aft_pl {s : Nat → Int} {a b u : Nat} {k : Int} (h : a ≠ b) : aft (pl s u k) a b = pl (aft s a b) u k := by
  funext v
  rw [aft_v h, pl_at, pl_at, aft_v h]; omega
theorem aft_pl2 {s : Nat → Int} {a b : Nat} (h : a ≠ b) : aft s a b = pl (pl s a (-2)) b 1 := by
  funext v
  rw [pl_at, pl_at, aft_v h]
inductive Rg (n : Nat) (E : List (Int × Int)) (g : Nat) : (Nat → Int) → (Nat → Int) → Prop
  | refl (s : Nat → Int) : Rg n E g s s
  | step {s t : Nat → Int} (a b : Nat) (ha : a < n) (hb : b < n) (hadj : adjE E a b = true) (h2 : 2 ≤ s a) (hg : a ≠ g) : Rg n E g (aft s a b) t → Rg n E g s t
theorem canM_iff {n : Nat} {E : List (Int × Int)} {s : Nat → Int} {a b : Nat} : canM n E s (a : Int) (b : Int) ↔ a < n ∧ b < n ∧ adjE E a b = true ∧ 2 ≤ s a := by
  unfold canM
  rw [Int.toNat_natCast, Int.toNat_natCast]
  constructor
  · rintro ⟨h1, h2, h3, h4⟩; exact ⟨by omega, by omega, h3, h4⟩
  · rintro ⟨h1, h2, h3, h4⟩; exact ⟨by omega, by omega, h3, h4⟩
section
variable {n : Nat} {E : List (Int × Int)} {g : Nat} {s t : Nat → Int}
theorem Rg.trans {w : Nat → Int} (h1 : Rg n E g s t) (h2 : Rg n E g t w) : Rg n E g s w := by
  induction h1 with
  | refl s => exact h2
  | step a b ha hb hadj h2' hg _ ih => exact .step a b ha hb hadj h2' hg (ih h2)
theorem aft_nn {a b : Nat} (h : a ≠ b) (hs : ∀ v, 0 ≤ s v) (h2 : 2 ≤ s a) : ∀ v, 0 ≤ aft s a b v := fun v => by
  rw [aft_at h]
  have := hs v
  have := hs b
  split
  · omega
  · split <;> omega
theorem Rg.nn (hE : EOK n E) (h : Rg n E g s t) (hs : ∀ v, 0 ≤ s v) : ∀ v, 0 ≤ t v := by
  induction h with
  | refl s => exact hs
  | step a b ha hb hadj h2 hg _ ih => exact ih (aft_nn (hE.adj hadj).2.2 hs h2)
theorem Rg.st (hE : EOK n E) (hn : n ≤ 6) {B : Int} (h : Rg n E g s t) (S : ST n s B) : ST n t B := by
  induction h with
  | refl s => exact S
  | step a b ha hb hadj h2 hg _ ih => exact ih ((S.aft hE hn ha hb hadj h2).mono (by omega))
theorem Rg.more (hE : EOK n E) (h : Rg n E g s t) {u : Nat} {k : Int} (hk : 0 ≤ k ∨ u = g) : Rg n E g (pl s u k) (pl t u k) := by
  induction h with
  | refl s => exact .refl _
  | @step s t a b ha hb hadj h2 hg _ ih =>
    have hne := (hE.adj hadj).2.2
    refine .step a b ha hb hadj ?_ hg (by rw [aft_pl hne]; exact ih)
    unfold pl
    split
    · rename_i e; subst e; rcases hk with hk | hk
      · omega
      · exact (hg hk).elim
    · exact h2
theorem Rg.less (hE : EOK n E) {s0 : Nat → Int} (h : Rg n E g s0 t) : ∀ (s : Nat → Int) (u : Nat), s0 = pl s u 1 → (∀ v, 0 ≤ s v) → ∃ t', Rg n E g s t' ∧ t g - 1 ≤ t' g := by
  induction h with
  | refl s0 =>
    rintro s u rfl hs
    refine ⟨s, .refl s, ?_⟩
    unfold pl; split
    · rename_i e; subst e; omega
    · omega
  | @step s0 t a b ha hb hadj h2 hg _ ih =>
    rintro s u rfl hs
    have hne := (hE.adj hadj).2.2
    by_cases c : 2 ≤ s a
    · obtain ⟨t', h1, h3⟩ := ih (aft s a b) u (aft_pl hne) (aft_nn hne hs c)
      exact ⟨t', .step a b ha hb hadj c hg h1, h3⟩
    · have hau : a = u := by
        apply Decidable.byContradiction
        intro e; rw [pl_ne _ _ e] at h2; exact c h2
      subst hau
      rw [pl_same] at h2
      have h1 : s a = 1 := by omega
      have e1 : aft (pl s a 1) a b = pl (pl s a (-1)) b 1 := by
        funext v
        rw [pl_at, pl_at, aft_v hne, pl_at]
        by_cases c2 : v = a
        · rw [if_pos c2, if_pos c2, if_pos c2]; omega
        · rw [if_neg c2, if_neg c2, if_neg c2]; omega
      obtain ⟨t', k1, k2⟩ := ih (pl s a (-1)) b e1 (fun v => by
        have := hs v
        unfold pl; split <;> omega)
      have k3 := k1.more hE (u := a) (k := 1) (.inl (by omega))
      rw [pl_back] at k3
      refine ⟨_, k3, ?_⟩
      unfold pl; split
      · rename_i e; subst e; omega
      · exact k2
theorem Rg.not_from (hE : EOK n E) (h : Rg n E n s t) (hs : ∀ v, 0 ≤ s v) : ∃ t', Rg n E g s t' ∧ t g ≤ t' g := by
  induction h with
  | refl s => exact ⟨s, .refl s, Int.le_refl _⟩
  | @step s t a b ha hb hadj h2 hg _ ih =>
    have hne := (hE.adj hadj).2.2
    obtain ⟨t1, k1, k2⟩ := ih (aft_nn hne hs h2)
    by_cases c : a = g
    · subst c
      have hs2 : ∀ v, 0 ≤ pl s a (-2) v := fun v => by
        have := hs v
        unfold pl; split <;> omega
      obtain ⟨t', k3, k4⟩ := k1.less hE _ b (aft_pl2 hne) hs2
      have k5 := k3.more hE (u := a) (k := 2) (.inr rfl)
      rw [pl_back] at k5
      exact ⟨_, k5, by rw [pl_same]; omega⟩
    · exact ⟨t1, .step a b ha hb hadj h2 c k1, k2⟩
theorem Rg.any (h : Rg n E g s t) : Rg n E n s t := by
  induction h with
  | refl s => exact .refl s
  | step a b ha hb hadj h2 hg _ ih => exact .step a b ha hb hadj h2 (by omega) ih
def IsM (n : Nat) (E : List (Int × Int)) (g : Nat) (s : Nat → Int) (m : Int) : Prop := (∃ t, Rg n E g s t ∧ t g = m) ∧ ∀ t, Rg n E g s t → t g ≤ m
theorem IsM.uniq {m m' : Int} (h : IsM n E g s m) (h' : IsM n E g s m') : m = m' := by
  obtain ⟨⟨t, h1, rfl⟩, h2⟩ := h
  obtain ⟨⟨t', h3, rfl⟩, h4⟩ := h'
  have := h2 _ h3
  have := h4 _ h1
  omega
theorem IsM.ex (hE : EOK n E) (hn : n ≤ 6) {B : Int} (S : ST n s B) : ∃ m, IsM n E g s m := by
  have hb : ∀ t, Rg n E g s t → t g ≤ B := fun t h => ((h.st hE hn S).bnd hn g).2
  obtain ⟨j, ⟨t, h1, h2⟩, h3⟩ := least (P := fun j => ∃ t, Rg n E g s t ∧ (B - t g).toNat = j) _ ⟨s, .refl s, rfl⟩
  refine ⟨t g, ⟨t, h1, rfl⟩, fun t' h' => ?_⟩
  have k1 := hb t h1
  have k2 := hb t' h'
  apply Decidable.byContradiction
  intro hlt
  exact h3 (B - t' g).toNat (by omega) ⟨t', h', rfl⟩
open Classical in
noncomputable def mx (n : Nat) (E : List (Int × Int)) (g : Nat) (s : Nat → Int) : Int := if h : ∃ m, IsM n E g s m then Classical.choose h else 0
theorem mx_is (hE : EOK n E) (hn : n ≤ 6) {B : Int} (S : ST n s B) : IsM n E g s (mx n E g s) := by
  unfold mx
  rw [dif_pos (IsM.ex hE hn S)]
  exact Classical.choose_spec (IsM.ex (g := g) hE hn S)
theorem mx_eq (hE : EOK n E) (hn : n ≤ 6) {B : Int} (S : ST n s B) {m : Int} (h : IsM n E g s m) : mx n E g s = m := (mx_is hE hn S).uniq h
theorem mx_ge (hE : EOK n E) (hn : n ≤ 6) {B : Int} (S : ST n s B) (h : Rg n E g s t) : t g ≤ mx n E g s := (mx_is hE hn S).2 t h
theorem mx_any (hE : EOK n E) (hn : n ≤ 6) {B : Int} (S : ST n s B) (h : Rg n E n s t) : t g ≤ mx n E g s := by
  obtain ⟨t', h1, h2⟩ := h.not_from (g := g) hE S.nn
  have := mx_ge hE hn S h1
  omega
theorem mx_bnd (hE : EOK n E) (hn : n ≤ 6) {B : Int} (S : ST n s B) : 0 ≤ mx n E g s ∧ mx n E g s ≤ B := by
  obtain ⟨⟨t, h1, h2⟩, _⟩ := mx_is (g := g) hE hn S
  rw [← h2]
  exact (h1.st hE hn S).bnd hn g
theorem mx_self (hE : EOK n E) (hn : n ≤ 6) {B : Int} (S : ST n s B) : s g ≤ mx n E g s := mx_ge hE hn S (.refl s)
theorem mx_any_le (hE : EOK n E) (hn : n ≤ 6) {B : Int} (S : ST n s B) (h : Rg n E n s t) : mx n E g t ≤ mx n E g s := by
  obtain ⟨⟨w, h1, h2⟩, _⟩ := mx_is (g := g) hE hn (h.st hE hn S)
  rw [← h2]
  exact mx_any hE hn S (h.trans h1.any)
theorem pl_st {u : Nat} {k : Int} {B : Int} (hn : n ≤ 6) (S : ST n s B) (hu : u < n) (hk : 0 ≤ k) : ST n (pl s u k) (B + k) := by
  refine ⟨fun v => ?_, fun v hv => ?_, ?_⟩
  · have := S.nn v
    unfold pl; split
    · rename_i e; subst e; omega
    · exact this
  · rw [pl_ne _ _ (by omega)]; exact S.out v hv
  · have := tot_up s (a := u) (by omega) (s u + k)
    have := S.le
    show tot (up s u (s u + k)) ≤ _
    omega
def lin : Nat → (Nat → Int) → (Nat → Int) → Int
  | 0, _, _ => 0
  | n + 1, c, s => lin n c s + c n * s n
theorem lin_out {c : Nat → Int} {a : Nat} {x : Int} : ∀ {n : Nat}, n ≤ a → lin n c (up s a x) = lin n c s
  | 0, _ => rfl
  | n + 1, h => by
    show lin n c _ + c n * up s a x n = lin n c s + c n * s n
    rw [lin_out (by omega)]
    unfold up; rw [if_neg (by omega)]
theorem lin_up {c : Nat → Int} {a : Nat} {x : Int} : ∀ {n : Nat}, a < n → lin n c (up s a x) = lin n c s + c a * (x - s a)
  | 0, h => by omega
  | n + 1, h => by
    show lin n c _ + c n * up s a x n = lin n c s + c n * s n + _
    by_cases e : a = n
    · subst e
      rw [lin_out (Nat.le_refl _)]
      unfold up; rw [if_pos rfl, Int.mul_sub]; omega
    · rw [lin_up (by omega)]
      unfold up; rw [if_neg (by omega)]; omega
theorem lin_aft {c : Nat → Int} {a b : Nat} (ha : a < n) (hb : b < n) : lin n c (aft s a b) = lin n c s - 2 * c a + c b := by
  unfold aft
  rw [lin_up hb, lin_up ha]
  have e1 : s a - 2 - s a = -2 := by omega
  have e2 : ∀ x : Int, x + 1 - x = 1 := fun x => by omega
  rw [e1, e2]; omega
theorem lin_nn {c : Nat → Int} (hc : ∀ v, 0 ≤ c v) (hs : ∀ v, 0 ≤ s v) : ∀ n, 0 ≤ lin n c s
  | 0 => Int.le_refl 0
  | n + 1 => by
    have := lin_nn hc hs n
    have := Int.mul_nonneg (hc n) (hs n)
    show 0 ≤ lin n c s + c n * s n
    omega
theorem lin_ge {c : Nat → Int} (hc : ∀ v, 0 ≤ c v) (hs : ∀ v, 0 ≤ s v) {a : Nat} : ∀ {n : Nat}, a < n → c a * s a ≤ lin n c s
  | 0, h => by omega
  | n + 1, h => by
    show _ ≤ lin n c s + c n * s n
    by_cases e : a = n
    · subst e; have := lin_nn hc hs a; omega
    · have := lin_ge hc hs (a := a) (n := n) (by omega)
      have := Int.mul_nonneg (hc n) (hs n)
      omega
theorem Rg.lin_le {c : Nat → Int} (hc : ∀ a b, a < n → b < n → adjE E a b = true → a ≠ g → c b ≤ 2 * c a) (h : Rg n E g s t) : lin n c t ≤ lin n c s := by
  induction h with
  | refl s => exact Int.le_refl _
  | step a b ha hb hadj h2 hg _ ih =>
    rw [lin_aft ha hb] at ih
    have := hc a b ha hb hadj hg
    omega
end
end Go.Proofs.YtpkhkghiidilcaaDoor.Sh

namespace Go.Proofs.YtpkhkghiidilcaaDoor.Sh
open Go
set_option maxRecDepth 100000
set_option maxHeartbeats 1000000
section
variable {n : Nat} {E : List (Int × Int)} {g : Nat}
theorem far_self (hc : Conn n E) (hg : g < n) : farE n E g g = 0 := by
  obtain ⟨F, hF, h0⟩ := hc g hg
  have := farE_eq hF hg hg (h0 g hg)
  have := hF.src
  omega
theorem far_adj (hc : Conn n E) (hg : g < n) {a b : Nat} (ha : a < n) (hb : b < n) (h : adjE E a b = true) : farE n E g b ≤ farE n E g a + 1 := by
  obtain ⟨F, hF, h0⟩ := hc g hg
  have h1 := farE_eq hF hg ha (h0 a ha)
  have h2 := farE_eq hF hg hb (h0 b hb)
  have := (hF.nxt a b ha hb (h0 a ha) h).2
  omega
theorem far_prev (hc : Conn n E) (hg : g < n) {v : Nat} (hv : v < n) (hne : v ≠ g) : ∃ u, u < n ∧ adjE E v u = true ∧ farE n E g v = farE n E g u + 1 := by
  obtain ⟨F, hF, h0⟩ := hc g hg
  obtain ⟨u, hu, ha, k1, k2⟩ := hF.prv v hv (h0 v hv) hne
  refine ⟨u, hu, by rw [adjE_symm]; exact ha, ?_⟩
  have h1 := farE_eq hF hg hv (h0 v hv)
  have h2 := farE_eq hF hg hu k1
  omega
theorem far_pos (hc : Conn n E) (hg : g < n) {v : Nat} (hv : v < n) (hne : v ≠ g) : 1 ≤ farE n E g v := by
  obtain ⟨u, _, _, h⟩ := far_prev hc hg hv hne
  omega
theorem cnt_mono {f f' : Nat → Int} (h : ∀ v, f' v ≤ f v) : ∀ n, cnt n f ≤ cnt n f'
  | 0 => Nat.le_refl _
  | n + 1 => by
    have := cnt_mono h n
    have := h n
    show (cnt n f + if f n < 0 then 1 else 0) ≤ cnt n f' + if f' n < 0 then 1 else 0
    split <;> split <;> omega
theorem cnt_lt {f f' : Nat → Int} (h : ∀ v, f' v ≤ f v) {u : Nat} (h1 : 0 ≤ f u) (h2 : f' u < 0) : ∀ n, u < n → cnt n f + 1 ≤ cnt n f'
  | 0, hu => by omega
  | n + 1, hu => by
    have h3 := h n
    show (cnt n f + if f n < 0 then 1 else 0) + 1 ≤ cnt n f' + if f' n < 0 then 1 else 0
    by_cases e : u = n
    · subst e
      have := cnt_mono h u
      rw [if_neg (by omega), if_pos h2]; omega
    · have := cnt_lt h h1 h2 n (by omega)
      split <;> split <;> omega
theorem far_lt (hc : Conn n E) (hg : g < n) {v : Nat} (hv : v < n) : farE n E g v < n := by
  have lv : ∀ d v, v < n → farE n E g v = d → ∀ k, k ≤ d → ∃ u, u < n ∧ farE n E g u = k := by
    intro d
    induction d with
    | zero => intro v hv h k hk; exact ⟨v, hv, by omega⟩
    | succ d ih =>
      intro v hv h k hk
      by_cases e : k = d + 1
      · exact ⟨v, hv, by omega⟩
      · have hne : v ≠ g := fun e => by subst e; have := far_self hc hv; omega
        obtain ⟨u, hu, _, h1⟩ := far_prev hc hg hv hne
        exact ih u hu (by omega) k (by omega)
  have key : ∀ k, k ≤ farE n E g v + 1 → k ≤ cnt n (fun w => (farE n E g w : Int) - k) := by
    intro k
    induction k with
    | zero => intro _; omega
    | succ k ih =>
      intro hk
      have h1 := ih (by omega)
      obtain ⟨u, hu, h2⟩ := lv _ v hv rfl k (by omega)
      have := cnt_lt (f := fun w => (farE n E g w : Int) - k) (f' := fun w => (farE n E g w : Int) - (k + 1 : Nat)) (fun w => by show (farE n E g w : Int) - (k + 1 : Nat) ≤ (farE n E g w : Int) - k; omega) (u := u) (by show 0 ≤ (farE n E g u : Int) - k; omega) (by show (farE n E g u : Int) - (k + 1 : Nat) < 0; omega) n hu
      omega
  have := key _ (Nat.le_refl _)
  have := cnt_le (fun w => (farE n E g w : Int) - (farE n E g v + 1 : Nat)) n
  omega
noncomputable def wg (n : Nat) (E : List (Int × Int)) (g v : Nat) : Int := ((2 ^ (6 - farE n E g v) : Nat) : Int)
theorem wg_nn (v : Nat) : 0 ≤ wg n E g v := Int.natCast_nonneg _
theorem wg_adj (hn : n ≤ 6) (hc : Conn n E) (hg : g < n) : ∀ a b, a < n → b < n → adjE E a b = true → a ≠ g → wg n E g b ≤ 2 * wg n E g a := by
  intro a b ha hb h _
  have h1 := far_adj hc hg hb ha (by rw [adjE_symm]; exact h)
  have h2 := far_lt hc hg ha
  unfold wg
  have : 2 ^ (6 - farE n E g b) ≤ 2 ^ (6 - farE n E g a + 1) := Nat.pow_le_pow_right (by decide) (by omega)
  rw [Nat.pow_succ] at this
  omega
theorem Rg.weight {s t : Nat → Int} (hE : EOK n E) (hn : n ≤ 6) (hc : Conn n E) (hg : g < n) (hs : ∀ v, 0 ≤ s v) (h : Rg n E g s t) : 64 * t g ≤ lin n (wg n E g) s := by
  have h1 := h.lin_le (wg_adj hn hc hg)
  have h2 := lin_ge (c := wg n E g) wg_nn (h.nn hE hs) (a := g) hg
  have : wg n E g g = 64 := by unfold wg; rw [far_self hc hg]; rfl
  rw [this] at h2
  omega
theorem Rg.many (hE : EOK n E) {a b : Nat} (ha : a < n) (hb : b < n) (hadj : adjE E a b = true) (hag : a ≠ g) : ∀ (k : Nat) (s : Nat → Int), 2 * (k : Int) ≤ s a → Rg n E g s (pl (pl s a (-(2 * (k : Int)))) b k)
  | 0, s, _ => by
    have : pl (pl s a (-(2 * ((0 : Nat) : Int)))) b ((0 : Nat) : Int) = s := by
      funext v
      rw [pl_at, pl_at]
      split <;> split <;> omega
    rw [this]; exact .refl s
  | k + 1, s, h => by
    have hne := (hE.adj hadj).2.2
    refine .step a b ha hb hadj (by omega) hag ?_
    have ih := Rg.many hE ha hb hadj hag k (aft s a b) (by rw [aft_at hne, if_neg hne, if_pos rfl]; omega)
    have : pl (pl (aft s a b) a (-(2 * (k : Int)))) b k = pl (pl s a (-(2 * ((k + 1 : Nat) : Int)))) b ((k + 1 : Nat) : Int) := by
      funext v
      by_cases c : v = b
      · subst c
        rw [pl_same, pl_ne _ _ (fun e => hne e.symm), pl_same, pl_ne _ _ (fun e => hne e.symm), aft_at hne, if_pos rfl]; omega
      · rw [pl_ne _ _ c, pl_ne _ _ c]
        by_cases c2 : v = a
        · subst c2; rw [pl_same, pl_same, aft_at hne, if_neg hne, if_pos rfl]; omega
        · rw [pl_ne _ _ c2, pl_ne _ _ c2, aft_at hne, if_neg c, if_neg c2]
    rw [this] at ih
    exact ih
theorem bring (hE : EOK n E) (hc : Conn n E) (hg : g < n) : ∀ (d : Nat) (v : Nat) (s : Nat → Int), (∀ w, 0 ≤ s w) → v < n → farE n E g v = d → ((2 ^ d : Nat) : Int) ≤ s v → ∃ t, Rg n E g s t ∧ 1 ≤ t g := by
  intro d
  induction d with
  | zero =>
    intro v s hnn hv h hs
    by_cases e : v = g
    · subst e; exact ⟨s, .refl s, by simpa using hs⟩
    · have := far_pos hc hg hv e; omega
  | succ d ih =>
    intro v s hnn hv h hs
    have hne : v ≠ g := fun e => by subst e; have := far_self hc hv; omega
    obtain ⟨u, hu, ha, h1⟩ := far_prev hc hg hv hne
    have h2 := (hE.adj ha).2.2
    have h3 : 2 ^ (d + 1) = 2 ^ d * 2 := Nat.pow_succ ..
    have k1 := Rg.many (g := g) hE hv hu ha hne (2 ^ d) s (by omega)
    have h5 := hnn u
    obtain ⟨t, k2, k3⟩ := ih u (pl (pl s v (-(2 * ((2 ^ d : Nat) : Int)))) u ((2 ^ d : Nat) : Int)) (k1.nn hE hnn) hu (by omega) (by rw [pl_same, pl_ne _ _ (fun e => h2 e.symm)]; omega)
    exact ⟨t, k1.trans k2, k3⟩
end
end Go.Proofs.YtpkhkghiidilcaaDoor.Sh

namespace Go.Proofs.YtpkhkghiidilcaaDoor.Sh
open Go
set_option maxRecDepth 100000
set_option maxHeartbeats 1000000
section
variable {n : Nat} {E : List (Int × Int)} {g : Nat} {s : Nat → Int} {B : Int}
theorem unsolv_box (hE : EOK n E) (hn : n ≤ 6) (hc : Conn n E) (hg : g < n) (S : ST n s B) (h : mx n E g s ≤ 0) {v : Nat} (hv : v < n) : s v < ((2 ^ farE n E g v : Nat) : Int) := by
  apply Decidable.byContradiction
  intro hlt
  obtain ⟨t, k1, k2⟩ := bring hE hc hg _ v s S.nn hv rfl (by omega)
  have := mx_ge hE hn S k1
  omega
theorem unsolv_pair (hE : EOK n E) (hn : n ≤ 6) (hc : Conn n E) (hg : g < n) (S : ST n s B) (h : mx n E g s ≤ 0) {v : Nat} (hv : v < n) (hne : v ≠ g) :
    ∃ u, u < n ∧ farE n E g v = farE n E g u + 1 ∧ s u + s v < ((2 ^ farE n E g v : Nat) : Int) := by
  obtain ⟨u, hu, ha, h1⟩ := far_prev hc hg hv hne
  have h2 := (hE.adj ha).2.2
  refine ⟨u, hu, h1, ?_⟩
  have h3 := S.nn v
  have h4 := S.nn u
  obtain ⟨k, hk⟩ : ∃ k : Nat, s v / 2 = k := ⟨(s v / 2).toNat, by omega⟩
  have k1 := Rg.many (g := g) hE hv hu ha hne k s (by omega)
  have k2 := unsolv_box hE hn hc hg (k1.st hE hn S) (by have := mx_any_le (g := g) hE hn S k1.any; omega) hu
  rw [pl_same, pl_ne _ _ (fun e => h2 e.symm)] at k2
  have e : 2 ^ farE n E g v = 2 * 2 ^ farE n E g u := by rw [h1, Nat.pow_succ]; omega
  omega
theorem tot_cnt {s F : Nat → Int} {K : Int} (hK : 0 ≤ K) (h : ∀ v, s v ≤ if F v < 0 then K else 0) : tot s ≤ K * (cnt 6 F : Nat) := by
  have key : ∀ v, (if F v < 0 then K else 0) = K * ((if F v < 0 then 1 else 0 : Nat) : Int) := fun v => by split <;> simp
  have h0 := h 0
  have h1 := h 1
  have h2 := h 2
  have h3 := h 3
  have h4 := h 4
  have h5 := h 5
  rw [key] at h0 h1 h2 h3 h4 h5
  unfold tot
  show _ ≤ K * ((((((0 + (if F 0 < 0 then 1 else 0)) + (if F 1 < 0 then 1 else 0)) + (if F 2 < 0 then 1 else 0)) + (if F 3 < 0 then 1 else 0)) + (if F 4 < 0 then 1 else 0)) + (if F 5 < 0 then 1 else 0) : Nat)
  generalize (if F 0 < 0 then 1 else 0 : Nat) = a0 at *
  generalize (if F 1 < 0 then 1 else 0 : Nat) = a1 at *
  generalize (if F 2 < 0 then 1 else 0 : Nat) = a2 at *
  generalize (if F 3 < 0 then 1 else 0 : Nat) = a3 at *
  generalize (if F 4 < 0 then 1 else 0 : Nat) = a4 at *
  generalize (if F 5 < 0 then 1 else 0 : Nat) = a5 at *
  push_cast
  simp only [Int.mul_add, Int.mul_zero, Int.zero_add]
  omega
theorem tot_five {s : Nat → Int} {K : Int} (hK0 : 0 ≤ K) (hK : ∀ v, s v ≤ K) {a b c d e : Nat} (ha : a < 6) (hb : b < 6) (hc : c < 6) (hd : d < 6) (he : e < 6)
    (ab : b ≠ a) (ac : c ≠ a) (ad : d ≠ a) (ae : e ≠ a) (bc : c ≠ b) (bd : d ≠ b) (be : e ≠ b) (cd : d ≠ c) (ce : e ≠ c) (de : e ≠ d) : tot s ≤ s a + s b + s c + s d + s e + K := by
  have upn : ∀ (f : Nat → Int) {v w : Nat} (x : Int), v ≠ w → up f w x v = f v := fun f v w x h => by unfold up; rw [if_neg h]
  have t1 := tot_up s ha 0
  have t2 := tot_up (up s a 0) hb 0
  have t3 := tot_up (up (up s a 0) b 0) hc 0
  have t4 := tot_up (up (up (up s a 0) b 0) c 0) hd 0
  have t5 := tot_up (up (up (up (up s a 0) b 0) c 0) d 0) he 0
  rw [upn _ _ ab] at t2
  rw [upn _ _ bc, upn _ _ ac] at t3
  rw [upn _ _ cd, upn _ _ bd, upn _ _ ad] at t4
  rw [upn _ _ de, upn _ _ ce, upn _ _ be, upn _ _ ae] at t5
  have c0 : cnt 6 (fun _ => -1) = 6 := cnt_all 6 (fun v _ => by decide)
  have c1 := cnt_up (f := fun _ => (-1 : Int)) (v := a) (d := 0) (by decide) (by decide) 6 ha
  have c2 := cnt_up (f := up (fun _ => (-1 : Int)) a 0) (v := b) (d := 0) (by decide) (by rw [upn _ _ ab]; decide) 6 hb
  have c3 := cnt_up (f := up (up (fun _ => (-1 : Int)) a 0) b 0) (v := c) (d := 0) (by decide) (by rw [upn _ _ bc, upn _ _ ac]; decide) 6 hc
  have c4 := cnt_up (f := up (up (up (fun _ => (-1 : Int)) a 0) b 0) c 0) (v := d) (d := 0) (by decide) (by rw [upn _ _ cd, upn _ _ bd, upn _ _ ad]; decide) 6 hd
  have c5 := cnt_up (f := up (up (up (up (fun _ => (-1 : Int)) a 0) b 0) c 0) d 0) (v := e) (d := 0) (by decide) (by rw [upn _ _ de, upn _ _ ce, upn _ _ be, upn _ _ ae]; decide) 6 he
  have key := tot_cnt (s := up (up (up (up (up s a 0) b 0) c 0) d 0) e 0) (F := up (up (up (up (up (fun _ => (-1 : Int)) a 0) b 0) c 0) d 0) e 0) hK0 (fun v => by
    unfold up
    by_cases e1 : v = e
    · simp [e1]
    · by_cases e2 : v = d
      · simp [e2]
      · by_cases e3 : v = c
        · simp [e3]
        · by_cases e4 : v = b
          · simp [e4]
          · by_cases e5 : v = a
            · simp [e5]
            · simp [e1, e2, e3, e4, e5]; exact hK v)
  have : cnt 6 (up (up (up (up (up (fun _ => (-1 : Int)) a 0) b 0) c 0) d 0) e 0) = 1 := by omega
  rw [this] at key
  omega
theorem p1 {x k : Nat} (h : x = k) : 2 ^ x = 2 ^ k := by rw [h]
theorem unsolv_40 (hE : EOK n E) (hn : n ≤ 6) (hc : Conn n E) (hg : g < n) (S : ST n s B) (h : mx n E g s ≤ 0) : tot s ≤ 40 := by
  have hb : ∀ v, v < n → s v < ((2 ^ farE n E g v : Nat) : Int) := fun v hv => unsolv_box hE hn hc hg S h hv
  have sg : s g = 0 := by
    have := hb g hg
    have := S.nn g
    rw [far_self hc hg] at *
    omega
  have hp : ∀ v, v < n → 1 ≤ farE n E g v → ∃ u, u < n ∧ farE n E g v = farE n E g u + 1 ∧ s u + s v < ((2 ^ farE n E g v : Nat) : Int) := fun v hv h1 => unsolv_pair hE hn hc hg S h hv (fun e => by subst e; rw [far_self hc hv] at h1; omega)
  have cap : ∀ k : Nat, (∀ v, v < n → farE n E g v ≤ k) → ∀ v, s v ≤ ((2 ^ k : Nat) : Int) - 1 := fun k hk v => by
    by_cases c : v < n
    · have h1 := hb v c
      have := Nat.pow_le_pow_right (n := 2) (by decide) (hk v c)
      omega
    · rw [S.out v (by omega)]
      have : 0 < 2 ^ k := Nat.pow_pos (by decide)
      omega
  have f0 := far_self hc hg
  by_cases h5 : ∃ v, v < n ∧ farE n E g v = 5
  · obtain ⟨v5, l5, d5⟩ := h5
    obtain ⟨v4, l4, d4, p5⟩ := hp v5 l5 (by omega)
    obtain ⟨v3, l3, d3, _⟩ := hp v4 l4 (by omega)
    obtain ⟨v2, l2, d2, p3⟩ := hp v3 l3 (by omega)
    obtain ⟨v1, l1, d1, _⟩ := hp v2 l2 (by omega)
    have b1 := hb v1 l1
    rw [d5] at p5
    rw [show farE n E g v3 = 3 by omega] at p3
    rw [show farE n E g v1 = 1 by omega] at b1
    have ne : ∀ {a b : Nat}, farE n E g a ≠ farE n E g b → a ≠ b := fun h e => h (by rw [e])
    have t1 := tot_five (s := up s g 40) (K := 40) (by decide) (fun v => by
      unfold up; split
      · exact Int.le_refl _
      · have := cap 5 (fun v hv => by have := far_lt hc hg hv; omega) v; have e : (2 ^ 5 : Nat) = 32 := rfl; omega) (a := v1) (b := v2) (c := v3) (d := v4) (e := v5) (by omega) (by omega) (by omega) (by omega) (by omega)
      (ne (by omega)) (ne (by omega)) (ne (by omega)) (ne (by omega)) (ne (by omega)) (ne (by omega)) (ne (by omega)) (ne (by omega)) (ne (by omega)) (ne (by omega))
    have upn : ∀ {v : Nat}, farE n E g v ≠ 0 → up s g 40 v = s v := fun {v} h => by unfold up; rw [if_neg (fun e => by subst e; exact h f0)]
    rw [upn (by omega), upn (by omega), upn (by omega), upn (by omega), upn (by omega), tot_up s (by omega), sg] at t1
    have e1 : ((2 ^ 5 : Nat) : Int) = 32 := rfl
    have e2 : ((2 ^ 3 : Nat) : Int) = 8 := rfl
    have e3 : ((2 ^ 1 : Nat) : Int) = 2 := rfl
    omega
  · by_cases h4 : ∃ v, v < n ∧ farE n E g v = 4
    · obtain ⟨v4, l4, d4⟩ := h4
      obtain ⟨v3, l3, d3, p4⟩ := hp v4 l4 (by omega)
      obtain ⟨v2, l2, d2, _⟩ := hp v3 l3 (by omega)
      obtain ⟨v1, l1, d1, p2⟩ := hp v2 l2 (by omega)
      rw [d4] at p4
      rw [show farE n E g v2 = 2 by omega] at p2
      have ne : ∀ {a b : Nat}, farE n E g a ≠ farE n E g b → a ≠ b := fun h e => h (by rw [e])
      have t1 := tot_five (s := s) (K := 15) (by decide) (fun v => by
        have := cap 4 (fun v hv => by
          have := far_lt hc hg hv
          have : farE n E g v ≠ 5 := fun e => h5 ⟨v, hv, e⟩
          omega) v
        have e : (2 ^ 4 : Nat) = 16 := rfl
        omega) (a := g) (b := v1) (c := v2) (d := v3) (e := v4) (by omega) (by omega) (by omega) (by omega) (by omega)
        (ne (by omega)) (ne (by omega)) (ne (by omega)) (ne (by omega)) (ne (by omega)) (ne (by omega)) (ne (by omega)) (ne (by omega)) (ne (by omega)) (ne (by omega))
      have e1 : ((2 ^ 4 : Nat) : Int) = 16 := rfl
      have e2 : ((2 ^ 2 : Nat) : Int) = 4 := rfl
      omega
    · have h7 := cap 3 (fun v hv => by
        have := far_lt hc hg hv
        have : farE n E g v ≠ 5 := fun e => h5 ⟨v, hv, e⟩
        have : farE n E g v ≠ 4 := fun e => h4 ⟨v, hv, e⟩
        omega)
      have e : ((2 ^ 3 : Nat) : Int) = 8 := rfl
      have t0 := tot_up s (a := g) (by omega) 0
      have : tot (up s g 0) ≤ 35 := by
        have q : ∀ v, s v ≤ 7 := fun v => by have := h7 v; omega
        have q0 := q 0
        have q1 := q 1
        have q2 := q 2
        have q3 := q 3
        have q4 := q 4
        have q5 := q 5
        have : g = 0 ∨ g = 1 ∨ g = 2 ∨ g = 3 ∨ g = 4 ∨ g = 5 := by omega
        unfold tot up
        rcases this with rfl | rfl | rfl | rfl | rfl | rfl <;> simp <;> omega
      omega
def oneS (n g : Nat) : Nat → Int := fun v => if v < n ∧ v ≠ g then 1 else 0
theorem oneS_le (v : Nat) : 0 ≤ oneS n g v ∧ oneS n g v ≤ 1 := by unfold oneS; split <;> omega
theorem oneS_g : oneS n g g = 0 := if_neg (by omega)
theorem oneS_st : ST n (oneS n g) 6 := by
  refine ⟨fun v => (oneS_le v).1, fun v hv => if_neg (by omega), ?_⟩
  have h0 := oneS_le (n := n) (g := g) 0
  have h1 := oneS_le (n := n) (g := g) 1
  have h2 := oneS_le (n := n) (g := g) 2
  have h3 := oneS_le (n := n) (g := g) 3
  have h4 := oneS_le (n := n) (g := g) 4
  have h5 := oneS_le (n := n) (g := g) 5
  unfold tot; omega
theorem oneS_tot (hn : n ≤ 6) (hg : g < n) : tot (oneS n g) = n - 1 := by
  have h1 : n = 1 ∨ n = 2 ∨ n = 3 ∨ n = 4 ∨ n = 5 ∨ n = 6 := by omega
  have h2 : g = 0 ∨ g = 1 ∨ g = 2 ∨ g = 3 ∨ g = 4 ∨ g = 5 := by omega
  rcases h1 with rfl | rfl | rfl | rfl | rfl | rfl <;> rcases h2 with rfl | rfl | rfl | rfl | rfl | rfl <;> first | rfl | omega
end
end Go.Proofs.YtpkhkghiidilcaaDoor.Sh

namespace Go.Proofs.YtpkhkghiidilcaaDoor.Sh
open Go
set_option maxRecDepth 100000
set_option maxHeartbeats 1000000
section
variable {n : Nat} {E : List (Int × Int)} {s : Nat → Int}
def full (n : Nat) (s : Nat → Int) : Prop := ∀ v, v < n → 1 ≤ s v
def Cov (n : Nat) (E : List (Int × Int)) (s : Nat → Int) : Prop := ∃ t, Rg n E n s t ∧ full n t
theorem lin_one_le {c : Nat → Int} (hc : ∀ v, 0 ≤ c v) : ∀ {n : Nat} {s s' : Nat → Int}, (∀ v, v < n → s v ≤ s' v) → lin n c s ≤ lin n c s'
  | 0, _, _, _ => Int.le_refl 0
  | n + 1, s, s', h => by
    have := lin_one_le hc (n := n) (s := s) (s' := s') (fun v hv => h v (by omega))
    have := Int.mul_le_mul_of_nonneg_left (h n (by omega)) (hc n)
    show lin n c s + c n * s n ≤ lin n c s' + c n * s' n
    omega
theorem lin_ones : ∀ n, lin n (fun _ => 1) (fun _ => 1) = n
  | 0 => rfl
  | n + 1 => by
    show lin n _ _ + 1 * 1 = _
    rw [lin_ones n]; omega
theorem tot_lin {B : Int} (hn : n ≤ 6) (S : ST n s B) : lin n (fun _ => 1) s = tot s := by
  have key : ∀ k, k ≤ 6 → n ≤ k → lin k (fun _ => 1) s = lin n (fun _ => 1) s := by
    intro k
    induction k with
    | zero => intro _ h; rw [show n = 0 by omega]
    | succ k ih =>
      intro h1 h2
      by_cases e : n = k + 1
      · rw [e]
      · show lin k _ s + 1 * s k = _
        rw [ih (by omega) (by omega), S.out k (by omega)]; omega
  rw [← key 6 (by omega) hn]
  show ((((((0 + 1 * s 0) + 1 * s 1) + 1 * s 2) + 1 * s 3) + 1 * s 4) + 1 * s 5) = s 0 + s 1 + s 2 + s 3 + s 4 + s 5
  omega
theorem Rg.tot_le {g : Nat} (hE : EOK n E) (hn : n ≤ 6) {t : Nat → Int} (h : Rg n E g s t) : tot t ≤ tot s := by
  induction h with
  | refl s => exact Int.le_refl _
  | step a b ha hb hadj h2 hg _ ih => rw [aft_tot (by omega) (by omega)] at ih; omega
theorem Cov.tot {B : Int} (hE : EOK n E) (hn : n ≤ 6) (S : ST n s B) (h : Cov n E s) : (n : Int) ≤ tot s := by
  obtain ⟨t, h1, h2⟩ := h
  have k1 := h1.tot_le hE hn
  have k2 := tot_lin hn (h1.st hE hn S)
  have k3 := lin_one_le (c := fun _ => 1) (fun _ => by decide) (n := n) (s := fun _ => 1) (s' := t) h2
  rw [lin_ones] at k3
  omega
noncomputable def pw (n : Nat) (E : List (Int × Int)) (a v : Nat) : Int := ((2 ^ farE n E a v : Nat) : Int)
end
end Go.Proofs.YtpkhkghiidilcaaDoor.Sh

