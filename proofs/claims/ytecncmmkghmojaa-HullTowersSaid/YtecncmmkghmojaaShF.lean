/- The shadow machine: operations that touch no memory, and loads and stores. -/
import Derived.Test.YtecncmmkghmojaaShE
import Derived.Laws.Entries
import Derived.ChangeKeysEq
set_option linter.all false
namespace Go.Proofs.Ytecncmmkghmojaa.Sh
open Go Go.RowKit

section
variable {P : Program} {nt : Nat} {m : Mp} {t : T} {a : Act}

theorem ev_sim (ht : TR nt m t a.tmps) {x : Operand} (ho : okO x = true) {v : Value} (h : ev t x = some v) : VR m v (a.eval x) := by
  cases x with
  | tmp i => cases h; exact ht.get i
  | const c => cases h; exact VR.plain ho
  | func f => cases h; exact .func rfl rfl (fun i x y hx => by simp at hx) (fun i x y hx => by simp at hx)
  | global g => cases h

theorem evs_sim (ht : TR nt m t a.tmps) {xs : List Operand} (ho : xs.all okO = true) {vs : List Value} (h : evs t xs = some vs) : LR m vs (xs.map a.eval) := by
  induction xs generalizing vs with
  | nil => cases h; exact LR.nil m
  | cons x r ih =>
    simp only [List.all_cons, Bool.and_eq_true] at ho
    unfold evs at h
    split at h
    · rename_i v vs' h1 h2
      cases h
      exact (ih ho.2 h2).cons (ev_sim ht ho.1 h1)
    · cases h

/-- what an operation does: its value, the world and the heap behind it -/
def Does (E : Env) (m : Mp) (h : SHeap) (s : Sem Next) (w : World) (v : Value) (h' : SHeap) : Prop :=
  ∃ v' w' m', (s.run E.P w = .ok (.value v') w' ∨ (s.run E.P w = .ok .skip w' ∧ v' = undef)) ∧ VR m' v v' ∧ m.le m' ∧ Rel E m' h' w' ∧ Ghost m h m' h'

theorem Does.pure {E : Env} {h : SHeap} {w : World} {s : Sem Next} {v v' : Value} (r : Rel E m h w) (hs : s.run E.P w = .ok (.value v') w) (hv : VR m v v') : Does E m h s w v h :=
  ⟨v', w, m, .inl hs, hv, m.le_refl, r, Ghost.refl _ _⟩
theorem same_some {v : Option Value} {h h' : SHeap} {d d' : List Nat} {x : Value} (k : same v h d = some (x, h', d')) : v = some x ∧ h' = h ∧ d' = d := by
  unfold same at k
  split at k
  · cases k; exact ⟨rfl, rfl, rfl⟩
  · cases k
theorem ifO_some {α : Type} {b : Bool} {x : Option α} {y : α} (h : ifO b x = some y) : b = true ∧ x = some y := by
  unfold ifO at h; split at h
  · exact ⟨by assumption, h⟩
  · cases h

/-- pure computations of the model -/
theorem pureRun_run {s : Sem Value} {v : Value} (h : pureRun s = some v) (w : World) : s.run P w = .ok v w := by
  unfold pureRun at h
  split at h
  · cases h; rfl
  · cases h

theorem run_v {s : Sem Value} {v : Value} {w w' : World} (h : s.run P w = .ok v w') : (do pure (Next.value (← s)) : Sem Next).run P w = .ok (.value v) w' := by
  simp [h]
theorem run_u {s : Sem Unit} {w w' : World} (h : s.run P w = .ok () w') : (do s; pure Next.skip : Sem Next).run P w = .ok .skip w' := by
  simp [h]

theorem VR.int_inv {k n} {v : Value} (h : VR m (.int k n) v) : v = .int k n := by cases h; rfl
theorem VR.bool_inv {b} {v : Value} (h : VR m (.bool b) v) : v = .bool b := by cases h; rfl
theorem VR.string_inv {b} {v : Value} (h : VR m (.string b) v) : v = .string b := by cases h; rfl
theorem VR.ptr_inv {b o} {v : Value} (h : VR m (.pointer (some ⟨b, o, none⟩)) v) : ∃ A δ, m.at b = some (A, δ) ∧ v = .pointer (some ⟨A, δ + o, none⟩) := by
  cases h with
  | ptr h => exact ⟨_, _, h, rfl⟩

/-- arithmetic and comparison of integers -/
theorem binS_run {op : BinOp} {x y v : Value} (h : binS op x y = some v) (ty : TypeId) (w : World) : VR m v v ∧ (∃ k a k' b, x = .int k a ∧ y = .int k' b) ∧ (binOp op ty x y).run P w = .ok v w := by
  unfold binS at h
  split at h
  case h_2 => cases h
  rename_i k a k' b
  have hk : ∀ s : Sem Value, pureRun s = some v → (∀ u, pureRun s = some u → ∃ j n, u = Value.int j n) → VR m v v ∧ (∃ k2 a2 k2' b2, Value.int k a = .int k2 a2 ∧ Value.int k' b = .int k2' b2) ∧ s.run P w = .ok v w := by
    intro s hs hi
    obtain ⟨j, n, rfl⟩ := hi v hs
    exact ⟨.int _ _, ⟨k, a, k', b, rfl, rfl⟩, pureRun_run hs w⟩
  cases op <;> simp only at h
  case shl =>
    refine hk (Op.shift .shl k a k' b) h (fun u hu => ?_)
    unfold Op.shift at hu
    split at hu
    · simp [runtimePanic, pureRun, program, bind, Sem.bind] at hu
    · simp [pureRun, pure] at hu; exact ⟨_, _, hu.symm⟩
  case shr =>
    refine hk (Op.shift .shr k a k' b) h (fun u hu => ?_)
    unfold Op.shift at hu
    split at hu
    · simp [runtimePanic, pureRun, program, bind, Sem.bind] at hu
    · simp [pureRun, pure] at hu; exact ⟨_, _, hu.symm⟩
  case eql => cases h
  case neq => cases h
  all_goals
    split at h
    case isFalse => cases h
    rename_i e
    subst e
    simp only [binOp]
    first
      | (cases h; exact ⟨.bool _, ⟨_, _, _, _, rfl, rfl⟩, by simp [Op.intCmp]⟩)
      | (simp only [ne_eq, not_true_eq_false, if_false]
         refine hk _ h (fun u hu => ?_)
         first
           | (unfold Op.intArith at hu; simp [pureRun, pure] at hu; exact ⟨_, _, hu.symm⟩)
           | (unfold Op.intBits at hu; simp [pureRun, pure] at hu; exact ⟨_, _, hu.symm⟩)
           | (unfold Op.intDiv at hu
              split at hu
              · simp [runtimePanic, pureRun, program, bind, Sem.bind] at hu
              · simp [pureRun, pure] at hu; exact ⟨_, _, hu.symm⟩))

theorem eqGuard_int (op : BinOp) (ty : TypeId) (x y : Operand) (k a k' b) (w : World) : (eqGuard op ty x y (.int k a) (.int k' b)).run P w = .ok () w := by
  unfold eqGuard
  split <;> simp
theorem sim_bin {E : Env} {h h' : SHeap} {d d' : List Nat} {w : World} (r : Rel E m h w) (ht : TR nt m t a.tmps) {op : BinOp} {ty : TypeId} {x y : Operand} (hx : okO x = true) (hy : okO y = true)
    {v : Value} (hs : o_bin op x y t h d = some (v, h', d')) :
    Does E m h (do pure (Next.value (← (do eqGuard op ty x y (a.eval x) (a.eval y); binOp op ty (a.eval x) (a.eval y) : Sem Value)))) w v h' := by
  unfold o_bin at hs
  split at hs
  case h_2 => cases hs
  rename_i p q hp hq
  obtain ⟨h1, rfl, rfl⟩ := same_some hs
  obtain ⟨h2, ⟨k, i, k', j, rfl, rfl⟩, h3⟩ := binS_run (P := E.P) (m := m) h1 ty w
  refine Does.pure r (run_v ?_) h2
  rw [(ev_sim ht hx hp).int_inv, (ev_sim ht hy hq).int_inv]
  simp [eqGuard_int, h3]

end
end Go.Proofs.Ytecncmmkghmojaa.Sh
