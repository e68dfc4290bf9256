/- The shadow machine: operations, one by one. -/
import Derived.Test.YtecncmmkghmojaaShG
set_option linter.all false
namespace Go.Proofs.Ytecncmmkghmojaa.Sh
open Go Go.RowKit

section
variable {P : Program} {nt : Nat} {m : Mp} {t : T} {a : Act}

theorem eq_shapes {k : EqK} {x y x' y' : Value} {b : Bool} (h : eqS k x y = some b) (hx : VR m x x') (hy : VR m y y') :
    (∃ k p q, x' = .int k p ∧ y' = .int k q ∧ b = (p == q)) ∨ (∃ p q, x' = .string p ∧ y' = .string q ∧ b = (p == q)) ∨
    (∃ p q, x' = .bool p ∧ y' = .bool q) ∨ (∃ p q, x' = .pointer p ∧ y' = .pointer q) ∨ (∃ p n c q n' c', x' = .slice p n c ∧ y' = .slice q n' c') ∨
    (∃ f p q, (x' = .func f p q ∧ y' = .nilFunc) ∨ (x' = .nilFunc ∧ y' = .func f p q)) ∨ (x' = .nilFunc ∧ y' = .nilFunc) ∨ (∃ l p q, k = .agg l ∧ x' = .agg p ∧ y' = .agg q) := by
  cases k with
  | int => obtain ⟨k, p, q, rfl, rfl, rfl⟩ := eqS_int h; exact .inl ⟨k, p, q, hx.int_inv, hy.int_inv, rfl⟩
  | bool => obtain ⟨p, q, rfl, rfl, rfl⟩ := eqS_bool h; exact .inr (.inr (.inl ⟨p, q, hx.bool_inv, hy.bool_inv⟩))
  | string => obtain ⟨p, q, rfl, rfl, rfl⟩ := eqS_string h; exact .inr (.inl ⟨p, q, hx.string_inv, hy.string_inv, rfl⟩)
  | ptr =>
    cases x <;> first | (simp [eqS] at h; done) | skip
    rename_i p
    cases y <;> first | (cases p <;> simp [eqS] at h; done) | skip
    cases hx <;> cases hy <;> exact .inr (.inr (.inr (.inl ⟨_, _, rfl, rfl⟩)))
  | slice =>
    cases x <;> first | (simp [eqS] at h; done) | skip
    rename_i p n c
    cases y <;> first | (cases p <;> simp [eqS] at h; done) | skip
    cases hx <;> cases hy <;> exact .inr (.inr (.inr (.inr (.inl ⟨_, _, _, _, _, _, rfl, rfl⟩))))
  | func =>
    cases x <;> first | (simp [eqS] at h; done) | skip
    · cases y <;> first | (simp [eqS] at h; done) | skip
      cases hx <;> cases hy <;> exact .inr (.inr (.inr (.inr (.inr (.inl ⟨_, _, _, .inl ⟨rfl, rfl⟩⟩)))))
    · cases y <;> first | (simp [eqS] at h; done) | skip
      · cases hx; cases hy <;> exact .inr (.inr (.inr (.inr (.inr (.inl ⟨_, _, _, .inr ⟨rfl, rfl⟩⟩)))))
      · cases hx; cases hy; exact .inr (.inr (.inr (.inr (.inr (.inr (.inl ⟨rfl, rfl⟩))))))
  | agg l =>
    obtain ⟨p, q, rfl, rfl, h⟩ := eqS_agg h
    obtain ⟨x', rfl, h1⟩ := hx.agg_inv
    obtain ⟨y', rfl, h2⟩ := hy.agg_inv
    exact .inr (.inr (.inr (.inr (.inr (.inr (.inr ⟨_, _, _, rfl, rfl, rfl⟩))))))

theorem eqKind_guard {l : List CK} {ty : TypeId} (h : eqKind P ty = some (.agg l)) : P.eqGuardType P.depth ty = false := by
  unfold eqKind at h
  split at h <;> first | (cases h; done) | skip
  · split at h
    · rename_i hc; simpa using hc
    · cases h
  · split at h
    · rename_i hc; simp only [Bool.and_eq_true, Bool.not_eq_true'] at hc; exact hc.1
    · cases h

theorem eq_run {k : EqK} {ty : TypeId} (hk : eqKind P ty = some k) {x y : Operand} {u v u' v' : Value} {b : Bool} (h : eqS k u v = some b) (hu : VR m u u') (hv : VR m v v') (w : World) (neg : Bool) :
    (do eqGuard (if neg then .neq else .eql) ty x y u' v'; binOp (if neg then .neq else .eql) ty u' v' : Sem Value).run P w = .ok (.bool (if neg then !b else b)) w := by
  have he := equal_run hk h hu hv w
  rcases eq_shapes h hu hv with ⟨k', p, q, rfl, rfl, rfl⟩ | ⟨p, q, rfl, rfl, rfl⟩ | ⟨p, q, rfl, rfl⟩ | ⟨p, q, rfl, rfl⟩ | ⟨p, n, c, q, n', c', rfl, rfl⟩ | ⟨f, p, q, ⟨rfl, rfl⟩ | ⟨rfl, rfl⟩⟩ | ⟨rfl, rfl⟩ | ⟨l, p, q, rfl, rfl, rfl⟩
  · cases neg <;> simp [eqGuard, binOp, Op.intCmp]
    all_goals rfl
  · cases neg <;> simp [eqGuard, binOp, Op.stringOp, beq_toListBytes]
  · cases neg <;> simp [eqGuard, binOp, he]
  · cases neg <;> simp [eqGuard, binOp, he]
  · cases neg <;> simp [eqGuard, binOp, he]
  · cases neg <;> simp [eqGuard, binOp, he]
  · cases neg <;> simp [eqGuard, binOp, he]
  · cases neg <;> simp [eqGuard, binOp, he]
  · have hg := run_eqGuard_agg (P := P) w (if neg = true then .neq else .eql) ty x y p q (eqKind_guard hk)
    simp only [Sem.run_bind, hg, Result.andThen_ok]
    cases neg <;> simp [binOp, he]

theorem sim_eq {E : Env} {h h' : SHeap} {d d' : List Nat} {w : World} (r : Rel E m h w) (ht : TR nt m t a.tmps) {k : EqK} {neg : Bool} {ty : TypeId} {x y : Operand} (hk : eqKind E.P ty = some k) (hx : okO x = true) (hy : okO y = true)
    {v : Value} (hs : o_eq k neg x y t h d = some (v, h', d')) :
    Does E m h (do pure (Next.value (← (do eqGuard (if neg then .neq else .eql) ty x y (a.eval x) (a.eval y); binOp (if neg then .neq else .eql) ty (a.eval x) (a.eval y) : Sem Value)))) w v h' := by
  unfold o_eq at hs
  split at hs
  case h_2 => cases hs
  rename_i p q hp hq
  split at hs
  case h_2 => cases hs
  rename_i b hb
  cases hs
  exact Does.pure r (run_v (eq_run hk hb (ev_sim ht hx hp) (ev_sim ht hy hq) w neg)) (.bool _)

theorem sim_mov {E : Env} {h h' : SHeap} {d d' : List Nat} {w : World} (r : Rel E m h w) (ht : TR nt m t a.tmps) {x : Operand} (hx : okO x = true) {v : Value} (hs : o_mov x t h d = some (v, h', d')) :
    Does E m h (pure (.value (a.eval x))) w v h' := by
  obtain ⟨h1, rfl, rfl⟩ := same_some hs
  exact Does.pure r rfl (ev_sim ht hx h1)

theorem sim_pick {E : Env} {h h' : SHeap} {d d' : List Nat} {w : World} (r : Rel E m h w) (ht : TR nt m t a.tmps) {c x y : Operand} (hc : okO c = true) (hx : okO x = true) (hy : okO y = true) {v : Value} (hs : o_pick c x y t h d = some (v, h', d')) :
    Does E m h (do pure (.value (if ← asBool (a.eval c) then a.eval x else a.eval y))) w v h' := by
  unfold o_pick at hs
  split at hs
  case h_2 => cases hs
  rename_i b hb
  obtain ⟨h1, rfl, rfl⟩ := same_some hs
  have hcv := (ev_sim ht hc hb).bool_inv
  refine Does.pure r (v' := if b then a.eval x else a.eval y) (by rw [hcv]; simp [asBool]) ?_
  cases b
  · exact ev_sim ht hy (by simpa using h1)
  · exact ev_sim ht hx (by simpa using h1)

/-! ### loads -/
theorem aggOf_inv {ty : TypeId} {g : Option Nat} (h : aggOf P ty = some g) (w : World) :
    (∃ i, P.info? ty = some i ∧ g = some i.size ∧ (isAgg ty).run P w = .ok true w ∧ (sizeOf ty).run P w = .ok i.size w) ∨ (g = none ∧ (isAgg ty).run P w = .ok false w ∧ (sizeOf ty).run P w = .ok 1 w) := by
  unfold aggOf at h
  have hsz : ∀ i, P.info? ty = some i → (sizeOf ty).run P w = .ok i.size w := fun i hi => by
    rw [run_sizeOf w hi]; simp [Program.cellsOf, hi]
  split at h
  · rename_i fs i hu hi
    cases h
    exact .inl ⟨i, hi, rfl, by simp [isAgg, run_underlying hu], hsz i hi⟩
  · rename_i n e i hu hi
    cases h
    exact .inl ⟨i, hi, rfl, by simp [isAgg, run_underlying hu], hsz i hi⟩
  · rename_i dsc i h1 h2 hi hii
    split at h
    · cases h
      rename_i hs
      refine .inr ⟨rfl, ?_, by rw [hsz i hii]; simp at hs; rw [hs]⟩
      unfold isAgg
      simp only [Sem.run_bind, run_underlying hi, Result.andThen_ok]
      cases dsc <;> first | rfl | (exact (h1 _ rfl).elim) | (exact (h2 _ _ rfl).elim)
    · cases h
  · cases h

theorem load_run {E : Env} {h : SHeap} {w : World} (r : Rel E m h w) {ty : TypeId} {g : Option Nat} (hg : aggOf E.P ty = some g) {x x' v : Value} (hx : VR m x x') (hs : loadS h g x = some v) :
    ∃ v', (Instr.loadAt ty x').run E.P w = .ok v' w ∧ VR m v v' := by
  unfold loadS at hs
  split at hs
  case h_2 => cases hs
  rename_i b o
  obtain ⟨A, δ, hm, rfl⟩ := hx.ptr_inv
  rcases aggOf_inv hg w with ⟨i, hi, rfl, h1, h2⟩ | ⟨rfl, h1, h2⟩
  · simp only at hs
    split at hs
    case h_2 => cases hs
    rename_i l hl
    cases hs
    obtain ⟨hlen, hc⟩ := r.rdN hl hm
    -- the model's cells
    have hl' : ∃ l' : List Value, LR m l l' ∧ ∀ j v, l'[j]? = some v → w.cell? ((⟨A, δ + o, none⟩ : Addr).add j) = some v := by
      clear hl
      have : ∀ (l : List Value) (k : Nat), (∀ (i : Nat) (x : Value), l[i]? = some x → ∃ y, w.cell? ⟨A, δ + o + (k + i), none⟩ = some y ∧ VR m x y) →
          ∃ l' : List Value, LR m l l' ∧ ∀ j v, l'[j]? = some v → w.cell? ⟨A, δ + o + (k + j), none⟩ = some v := by
        intro l
        induction l with
        | nil => intro k _; exact ⟨[], LR.nil m, fun j v hv => by simp at hv⟩
        | cons x l ih =>
          intro k hk
          obtain ⟨y, hy, hv⟩ := hk 0 x rfl
          obtain ⟨l', h1, h2⟩ := ih (k + 1) (fun i z hz => by
            have := hk (i + 1) z (by simpa using hz)
            rwa [show k + (i + 1) = k + 1 + i by omega] at this)
          refine ⟨y :: l', h1.cons hv, fun j v hj => ?_⟩
          cases j with
          | zero => simp at hj; subst hj; exact hy
          | succ j =>
            have := h2 j v (by simpa using hj)
            rwa [show k + (j + 1) = k + 1 + j by omega]
      obtain ⟨l', h3, h4⟩ := this l 0 (fun i x hx => by simpa using hc i x hx)
      exact ⟨l', h3, fun j v hv => by rw [addr_add]; simpa using h4 j v hv⟩
    obtain ⟨l', hlr, hcl⟩ := hl'
    refine ⟨.agg l'.toArray, ?_, VR.agg' hlr⟩
    have := run_loadCells_list (P := E.P) w (⟨A, δ + o, none⟩ : Addr) l' hcl
    have hn : l'.length = i.size := by rw [← hlr.1, hlen]
    unfold Instr.loadAt loadVar
    simp only [Instr.sureAddr, Sem.run_bind, Sem.run_pure, Result.andThen_ok, h1, if_true, h2]
    rw [← hn, this]
    rfl
  · simp only at hs
    obtain ⟨y, hy, hv⟩ := r.rd1 hs hm
    refine ⟨y, ?_, hv⟩
    unfold Instr.loadAt loadVar
    simp [Instr.sureAddr, h1, hy]

theorem sim_load {E : Env} {h h' : SHeap} {d d' : List Nat} {w : World} (r : Rel E m h w) (ht : TR nt m t a.tmps) {ty : TypeId} {g : Option Nat} {x : Operand} (hg : aggOf E.P ty = some g) (hx : okO x = true) {v : Value}
    (hs : o_load g x t h d = some (v, h', d')) : Does E m h (do pure (Next.value (← Instr.loadAt ty (a.eval x)))) w v h' := by
  unfold o_load at hs
  split at hs
  case h_2 => cases hs
  rename_i p hp
  obtain ⟨h1, rfl, rfl⟩ := same_some hs
  obtain ⟨v', h2, h3⟩ := load_run r hg (ev_sim ht hx hp) h1
  exact Does.pure r (run_v h2) h3

/-! ### stores -/
theorem szOf_run {ty : TypeId} {n : Nat} (h : szOf P ty = some n) (w : World) : (sizeOf ty).run P w = .ok n w := by
  unfold szOf at h
  cases hi : P.info? ty with
  | none => simp [hi] at h
  | some i => simp [hi] at h; rw [run_sizeOf w hi]; simp [Program.cellsOf, hi, h]

theorem sim_store {E : Env} {h h' : SHeap} {d d' : List Nat} {w : World} (r : Rel E m h w) (ht : TR nt m t a.tmps) {cx : Cx} {ty : TypeId} {n : Nat} {x y : Operand} (hn : szOf E.P ty = some n) (hx : okO x = true) (hy : okO y = true) {v : Value}
    (hs : o_store cx n x y t h d = some (v, h', d')) : Does E m h (do Instr.storeAt ty (a.eval x) (a.eval y); pure Next.skip) w v h' ∧ h'.length = h.length := by
  unfold o_store at hs
  split at hs
  case h_2 => cases hs
  rename_i b o u hp hq
  split at hs
  case isFalse => cases hs
  rename_i hl
  split at hs
  case h_2 => cases hs
  rename_i h2 d2 hst
  cases hs
  obtain ⟨A, δ, hm, hxe⟩ := (ev_sim ht hx hp).ptr_inv
  have hv := ev_sim ht hy hq
  obtain ⟨r', hc, hf, h1, hg, hlen⟩ := r.store hst hm hv.cells
  refine ⟨⟨undef, _, m, .inr ⟨run_u (w' := w.setCells A (δ + o) (a.eval y).cells.toList) ?_, rfl⟩, VR.udf m, m.le_refl, r', hg⟩, hlen⟩
  have hsz : (a.eval y).cells.size = n := by
    have := hv.cells.1
    simp at hl this
    omega
  rw [hxe]
  unfold Instr.storeAt storeVar
  simp only [Instr.sureAddr, Sem.run_bind, Sem.run_pure, Result.andThen_ok, szOf_run hn w, hsz, ne_eq, not_true_eq_false, if_false]
  exact run_storeCells_cells A (δ + o) _ 0 w (by simpa using hc) (by simpa using hf) h1

end
end Go.Proofs.Ytecncmmkghmojaa.Sh
