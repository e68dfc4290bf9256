/- The shadow machine: contracts of functions on values without addresses. -/
import Derived.Test.YtecncmmkghmojaaShZe
set_option linter.all false
namespace Go.Proofs.Ytecncmmkghmojaa.Sh
open Go Go.RowKit

/-- a value without addresses -/
def flat : Nat → Value → Bool
  | _, .bool _ | _, .int _ _ | _, .string _ => true
  | n + 1, .agg cs => cs.toList.all (flat n)
  | n + 1, .tuple cs => cs.toList.all (flat n)
  | _, _ => false

theorem arr_eq {m : Mp} {p : Value → Bool} (ih : ∀ v v', p v = true → VR m v v' → v' = v) {as as' : Array Value} (h : as.toList.all p = true) (hl : as.toList.length = as'.toList.length)
    (k : ∀ (i : Nat) (x y : Value), as.toList[i]? = some x → as'.toList[i]? = some y → VR m x y) : as' = as := by
  apply Array.ext'
  apply List.ext_getElem?
  intro i
  by_cases e : i < as.toList.length
  · have h1 : as.toList[i]? = some as.toList[i] := List.getElem?_eq_getElem e
    have h2 : as'.toList[i]? = some (as'.toList[i]'(by omega)) := List.getElem?_eq_getElem (by omega)
    rw [h1, h2]
    congr 1
    exact ih _ _ (List.all_eq_true.1 h _ (List.mem_of_getElem? h1)) (k i _ _ h1 h2)
  · rw [List.getElem?_eq_none (by omega), List.getElem?_eq_none (by omega)]

theorem flat_eq {m : Mp} : ∀ (n : Nat) (v v' : Value), flat n v = true → VR m v v' → v' = v
  | 0, v, v', h, k => by cases k <;> first | rfl | (simp [flat] at h; done)
  | n + 1, v, v', h, k => by
    cases k with
    | agg ha ka => rw [arr_eq (flat_eq n) (by simpa only [flat] using h) ha ka]
    | tuple ha ka => rw [arr_eq (flat_eq n) (by simpa only [flat] using h) ha ka]
    | _ => first | rfl | (simp [flat] at h; done)

theorem flat_VR {m : Mp} : ∀ (n : Nat) (v : Value), flat n v = true → VR m v v
  | 0, v, h => by cases v <;> first | (simp [flat] at h; done) | constructor
  | n + 1, v, h => by
    cases v with
    | bool b => constructor
    | int k z => constructor
    | string s => constructor
    | agg cs =>
      refine .agg rfl (fun i x y hx hy => ?_)
      rw [hx] at hy; cases hy
      simp only [flat] at h
      exact flat_VR n x (List.all_eq_true.1 h x (List.mem_of_getElem? hx))
    | tuple cs =>
      refine .tuple rfl (fun i x y hx hy => ?_)
      rw [hx] at hy; cases hy
      simp only [flat] at h
      exact flat_VR n x (List.all_eq_true.1 h x (List.mem_of_getElem? hx))
    | _ => simp [flat] at h

theorem flat_LR {m : Mp} {l l' : List Value} (h : l.all (flat 3) = true) (k : LR m l l') : l' = l := by
  have := arr_eq (as := l.toArray) (as' := l'.toArray) (flat_eq 3) (by simpa using h) (by simpa using k.1) (by simpa using k.2)
  simpa using congrArg Array.toList this
theorem flat_LR' {m : Mp} {l : List Value} (h : l.all (flat 3) = true) : LR m l l :=
  ⟨rfl, fun i x y hx hy => by rw [hx] at hy; cases hy; exact flat_VR 3 x (List.all_eq_true.1 h x (List.mem_of_getElem? hx))⟩

/-- nothing that lay there turns -/
theorem Rel.later {E : Env} {m : Mp} {h : SHeap} {w w' : World} (r : Rel E m h w) (b : Below w.heap.size w w') : Rel E m h w' := by
  refine ⟨r.len, fun c A δ hc => Nat.lt_of_lt_of_le (r.lt _ _ _ hc) b.size, fun c o A δ hc hm => (r.obj _ _ _ _ hc hm).heap (b.block A (r.lt _ _ _ hm)), r.base, r.sep, ?_, r.csz, ?_, Nat.le_trans r.bsz b.size⟩
  · intro c A δ K s hm hc
    obtain ⟨rcs, rel, fr, h1, h2⟩ := r.cap _ _ _ _ _ hm hc
    exact ⟨rcs, rel, fr, by rw [b.block A (r.lt _ _ _ hm)]; exact h1, h2⟩
  · exact r.below.trans ⟨b.os, b.tape, b.output, b.size, fun k hk => b.block k (Nat.lt_of_lt_of_le hk r.bsz)⟩

theorem Rel.empty (P : Program) (w : World) : Rel ⟨P, w.heap.size, w⟩ [] [] w := by
  have hat : ∀ b p, Mp.at [] b = some p → False := fun b p h => by have := Mp.at_lt h; simp at this
  have hcp : ∀ b p, Mp.cp [] b = some p → False := fun b p h => by simp [Mp.cp, Mp.full] at h
  exact ⟨rfl, fun b A δ h => (hat _ _ h).elim, fun b o A δ _ h => (hat _ _ h).elim, fun b o A δ _ h => (hat _ _ h).elim, fun b1 b2 o1 o2 A δ1 δ2 _ _ _ h => (hat _ _ h).elim,
    fun b A δ K s h => (hat _ _ h).elim, fun b K s cs el pf own old _ h => (hcp _ _ h).elim, Below.refl _ _, Nat.le_refl _⟩

/-- a contract that holds in every world -/
def Always (P : Program) (f : FuncId) (args : List Value) (v : Value) : Prop :=
  ∀ n w, CallsIn Fence.wide n P f args.toArray w (fun e w' => e = .returned v ∧ Below w.heap.size w w')

theorem always_of {P : Program} {R : Rec} {k : Nat} (S : Sound P R k) {f : FuncId} {args : List Value} {v : Value} {h' : SHeap} {d' : List Nat} (hs : R.call f args [] = some (v, h', d')) (ha : args.all (flat 3) = true) (hv : flat 3 v = true) :
    Known P f ∧ Always P f args v := by
  refine ⟨?_, fun n w => ?_⟩
  · exact (S.call (default : World).heap.size default f args [] v h' d' [] default args hs (Rel.empty P default) (flat_LR' ha)).1
  · refine CallsIn.mono ((S.call w.heap.size w f args [] v h' d' [] w args hs (Rel.empty P w) (flat_LR' ha)).2 n) ?_
    intro e w' he
    cases e with
    | returned v' =>
      obtain ⟨m', q1, q2, q3, q4⟩ := he
      rw [flat_eq 3 v v' hv q1]
      exact ⟨rfl, q3.below⟩
    | panicked c => exact he.elim
    | outgrown => exact he.elim

def ContractOK (P : Program) (C : FuncId → List Value → Option Value) : Prop := ∀ f args v, C f args = some v → args.all (flat 3) = true ∧ flat 3 v = true ∧ Known P f ∧ Always P f args v

def over (C : FuncId → List Value → Option Value) (R : Rec) : Rec :=
  ⟨fun f args h => match C f args with
    | some v => some (v, h, [])
    | none => R.call f args h, R.round, R.loop⟩

theorem over_ok {P : Program} {C : FuncId → List Value → Option Value} (hC : ContractOK P C) {R : Rec} {k : Nat} (S : Sound P R k) : Sound P (over C R) k := by
  refine ⟨?_, S.round, S.loop, ?_, S.rkeep, S.lkeep⟩
  · intro B w0 f args h v h' d' m w args' hs r hl
    simp only [over] at hs
    split at hs
    · rename_i u hu
      cases hs
      obtain ⟨ha, hv, hk, hal⟩ := hC f args v hu
      refine ⟨hk, fun n => ?_⟩
      rw [flat_LR ha hl]
      refine CallsIn.mono (hal n w) ?_
      rintro e w' ⟨rfl, hb⟩
      exact ⟨m, flat_VR 3 v hv, m.le_refl, r.later hb, Ghost.refl _ _⟩
    · exact S.call B w0 f args h v h' d' m w args' hs r hl
  · intro f args h v h' d' hs
    simp only [over] at hs
    split at hs
    · cases hs; exact Keep.refl _ _ _
    · exact S.ckeep f args h v h' d' hs

def noRec : Rec := ⟨fun _ _ _ => none, fun _ _ _ _ => none, fun _ _ _ => none⟩
def stepR (FT : FuncId → Option SFunc) (R : Rec) : Rec := ⟨stepCall FT R, stepRound R, stepLoop R⟩

def runC (FT : FuncId → Option SFunc) (C : FuncId → List Value → Option Value) : Nat → Rec
  | 0 => over C noRec
  | n + 1 => over C (stepR FT (runC FT C n))

theorem soundC {P : Program} (hmix : P.follows .mixedOrders = true) {FT : FuncId → Option SFunc} (hT : Tab P FT) {C : FuncId → List Value → Option Value} (hC : ContractOK P C) : ∀ n, Sound P (runC FT C n) n
  | 0 => over_ok hC (sound hmix hT 0)
  | n + 1 =>
    have S := soundC hmix hT hC n
    over_ok hC ⟨call_ok hmix hT S.call S.round S.loop S.ckeep S.rkeep S.lkeep, round_ok hmix S.call S.round S.loop, loop_ok hmix S.call S.round S.loop,
     call_keep S.ckeep S.rkeep S.lkeep, round_keep S.ckeep S.rkeep S.lkeep, loop_keep S.ckeep S.rkeep S.lkeep⟩

end Go.Proofs.Ytecncmmkghmojaa.Sh
