/- The shadow machine: one operation of a region, calls and all; a scope. -/
import Derived.Test.YtecncmmkghmojaaShP
import Derived.Scope
import Derived.RangeFuncRecord
set_option linter.all false
namespace Go
section
variable {F : Fence} {n : Nat} {P : Program} {a : Act} {w : World} {Q : Exit → Act → World → Prop}

theorem stepR_scope' {b : Frame} {k : List Item} {cs : List Frame} {c : Code} : step P (lone (b.atR a (.code (.scope c) :: k)) cs w) = .next (lone (b.atR a (.code c :: .inScope c :: k)) cs w) :=
  step_lone_go (by simp [stepG, stepG.exec, Frame.atR])
theorem stepR_inScope' {b : Frame} {k : List Item} {cs : List Frame} {c : Code} : step P (lone (b.atR a (.inScope c :: k)) cs w) = .next (lone (b.atR a k) cs w) :=
  step_lone_go (by simp [stepG, stepG.exec, Frame.atR])

theorem wpIn_scope' {c : Code} (h : c.wpIn F n P (Exit.noGoto Q) a w) : (Code.scope c).wpIn F n P Q a w := by
  intro b k cs hro hb hr
  have h0 : (lone (b.atR a (.code (.scope c) :: k)) cs w).fenced P F := fenced_calm hb hr rfl
  obtain ⟨e, a₁, w₁, hq, harr⟩ := h b (.inScope c :: k) cs hro hb hr
  cases e with
  | normal => exact ⟨.normal, a₁, w₁, hq, .head h0 stepR_scope' (StepsIn.trans harr (.one (fenced_calm hb hr rfl) stepR_inScope'))⟩
  | exit id =>
    have hx : exitTo id (.inScope c :: k) = exitTo id k := by simp [exitTo]
    exact ⟨.exit id, a₁, w₁, hq, fun k' hk => .head h0 stepR_scope' (harr.1 k' (by rw [hx]; exact hk)),
        fun hr' hk => let ⟨k₁, h1, h2⟩ := harr.2 hr' (by rw [hx]; exact hk); ⟨k₁, h1, .head h0 stepR_scope' h2⟩⟩
  | goto l => exact hq.elim
  | ret => exact ⟨_, a₁, w₁, hq, .of_steps (.one h0 stepR_scope') harr⟩
  | panic ch => exact ⟨_, a₁, w₁, hq, .of_steps (.one h0 stepR_scope') harr⟩
  | outgrown => exact ⟨_, a₁, w₁, hq, .of_steps (.one h0 stepR_scope') harr⟩
end
end Go

namespace Go.Proofs.Ytecncmmkghmojaa.Sh
open Go Go.RowKit

section
variable {nt : Nat} {m : Mp} {t : T} {a : Act}

/-- how a call ends -/
def CallPost (E : Env) (m : Mp) (h : SHeap) (v : Value) (h' : SHeap) : Ending → World → Prop
  | .returned v', w' => ∃ m', VR m' v v' ∧ m.le m' ∧ Rel E m' h' w' ∧ Ghost m h m' h'
  | _, _ => False

/-- the real function that a number stands for -/
def Known (P : Program) (f : FuncId) : Prop := ∃ fn, P.funcs[f]? = some fn ∧ fn.name ≠ "runtime.NumGoroutine" ∧ fn.body.isNone = false

def CallOK (P : Program) (R : Rec) : Prop := ∀ (B : Nat) (w0 : World) (f : FuncId) (args : List Value) (h : SHeap) (v : Value) (h' : SHeap) (d' : List Nat) (m : Mp) (w : World) (args' : List Value),
  R.call f args h = some (v, h', d') → Rel ⟨P, B, w0⟩ m h w → LR m args args' → Known P f ∧ ∀ n, CallsIn Fence.wide n P f args'.toArray w (CallPost ⟨P, B, w0⟩ m h v h')

def roundTmps (r : Loop) (args : Array Value) : Array Value := (r.params.zip args).foldl (fun tmps (t, a) => tmps.setIfInBounds t a) r.tmps

def RoundOK (P : Program) (R : Rec) : Prop := ∀ (B : Nat) (w0 : World) (base l : Nat) (args : List Value) (h : SHeap) (v : Value) (h' : SHeap) (d' : List Nat) (m : Mp) (w : World) (args' : List Value) (A : Nat),
  R.round base l args h = some (v, h', d') → Rel ⟨P, B, w0⟩ m h w → LR m args args' → m.at l = some (A, 0) →
    ∃ r : Loop, w.heap[A]? = some (.loop r) ∧ args'.length = r.params.size ∧ ∀ n, RoundIn Fence.wide n P A r.fn (roundTmps r args'.toArray) r.assign r.body w (CallPost ⟨P, B, w0⟩ m h v h')

/-- the fences in which a frame runs -/
def FR (m : Mp) (cx : Cx) (F : Fence) : Prop := (cx.rnd = none ∧ F = Fence.wide) ∨ ∃ l A, cx.rnd = some l ∧ F = Fence.wide.inRound A ∧ m.at l = some (A, 0)
theorem FR.fn {cx : Cx} {F : Fence} (h : FR m cx F) (f : FuncId) : F.fn f := by
  rcases h with ⟨_, rfl⟩ | ⟨_, _, _, rfl, _⟩ <;> trivial
theorem FR.depth {cx : Cx} {F : Fence} (h : FR m cx F) {n : Nat} : F.depth.isSome = true → 1 ≤ n := by
  rcases h with ⟨_, rfl⟩ | ⟨_, _, _, rfl, _⟩ <;> intro k <;> cases k
theorem FR.mono {m m' : Mp} {cx : Cx} {F : Fence} (h : FR m cx F) (hm : m.le m') : FR m' cx F := by
  rcases h with h | ⟨l, A, h1, h2, h3⟩
  · exact .inl h
  · exact .inr ⟨l, A, h1, h2, Mp.le_at hm h3⟩
theorem FR.calls {cx : Cx} {F : Fence} (h : FR m cx F) {n : Nat} {P : Program} {f : FuncId} {args : Array Value} {w : World} {R : Ending → World → Prop} (k : CallsIn Fence.wide n P f args w R) : CallsIn F n P f args w R := by
  rcases h with ⟨_, rfl⟩ | ⟨_, _, _, rfl, _⟩
  · exact k
  · exact k
theorem FR.rounds {cx : Cx} {F : Fence} (h : FR m cx F) {n : Nat} {P : Program} {l : Nat} {f : FuncId} {tmps : Array Value} {x y : Code} {w : World} {R : Ending → World → Prop} (k : RoundIn Fence.wide n P l f tmps x y w R) : RoundIn F n P l f tmps x y w R := by
  rcases h with ⟨_, rfl⟩ | ⟨_, _, _, rfl, _⟩
  · exact k
  · exact k

theorem wanted_sim (ht : TR nt m t a.tmps) {ops : Array Oper} {o : Oper} {g : Option (Nat × Bool)} (hg : compGuard ops o = some g) : Region.wanted o (yielded ops a.tmps) = wantedS t g := by
  unfold compGuard at hg
  unfold Region.wanted
  split at hg
  · rename_i h0
    cases hg
    rw [h0]; rfl
  · rename_i j want h0
    rw [h0]
    split at hg
    case h_2 => cases hg
    rename_i i hi
    cases hg
    simp only [wantedS, yielded, hi, Option.bind_some]
    have hv := ht.get i
    unfold tget
    cases hx : a.tmps[i]? with
    | none =>
      have : a.tmps.getD i undef = undef := by simp [Array.getD_eq_getD_getElem?, hx]
      rw [this] at hv
      generalize t.get i = u at hv
      cases hv <;> rfl
    | some x =>
      have : a.tmps.getD i undef = x := by simp [Array.getD_eq_getD_getElem?, hx]
      rw [this] at hv
      generalize t.get i = u at hv
      cases hv <;> simp

theorem put_tmps {o : Option Tmp} {v : Value} : (a.put o v).defers = a.defers := by cases o <;> rfl
theorem TR.put {v v' : Value} (ht : TR nt m t a.tmps) {o : Option Tmp} (ho : ∀ d, o = some d → d < nt) (hv : VR m v v') : TR nt m (sput t o v) (a.put o v').tmps := by
  cases o with
  | none => exact ht
  | some d => exact ht.set (ho d rfl) hv

theorem comp_nodefer {P : Program} {o : Oper} {so : SOp} (hc : compOp P o.op = some so) (c : Call) : o.op ≠ .defer c := by
  intro h
  rw [h] at hc
  cases hc

/-- an operation that makes no block at a place that was kept -/
theorem oper_step {P : Program} {B : Nat} {w0 : World} {R : Rec} (hR : CallOK P R) (hRr : RoundOK P R) {h h' : SHeap} {d d' : List Nat} {w : World} (r : Rel ⟨P, B, w0⟩ m h w) (ht : TR nt m t a.tmps) {cx : Cx} {F : Fence} (hF : FR m cx F)
    {o : Oper} {so : SOp} (hc : compOp P o.op = some so) (hm : makes so = false) {sl : Option Nat} {v : Value} (hs : opRun R cx sl so t h d = some (v, h', d')) {n : Nat} {Q : Exit → Act → World → Prop} {K : Act → World → Prop}
    (hK : ∀ v' w' m', VR m' v v' → m.le m' → Rel ⟨P, B, w0⟩ m' h' w' → Ghost m h m' h' → K (a.put o.dst v') w') : o.wpIn F n P a w K Q := by
  refine ⟨fun f _ => hF.fn f, ?_⟩
  rw [Oper.semAt_eq _ _ _ (comp_nodefer hc)]
  by_cases hcall : ∃ f args, so = .call f args
  · obtain ⟨f, args, rfl⟩ := hcall
    obtain ⟨dst, op, type, pos, after, guard⟩ := o
    simp only at hc hK ⊢
    -- only calls become calls
    have hop : ∃ args0 ats, op = .call ⟨.value f, args0, ats⟩ ∧ okO f = true ∧ args0.toList.all okO = true ∧ args = args0.toList := by
      unfold compOp at hc
      split at hc
      case h_21 =>
        rename_i c
        unfold compCall at hc
        split at hc
        · split at hc
          · rename_i hh
            cases hc
            obtain ⟨c1, c2⟩ := and2 hh
            obtain ⟨callee, args0, ats⟩ := c
            rename_i hcal
            simp only at hcal
            subst hcal
            exact ⟨_, _, rfl, c1, c2, rfl⟩
          · cases hc
        · cases hc
        · exfalso
          (repeat' split at hc)
          all_goals first
            | (cases hc; done)
            | (obtain ⟨_, hh⟩ := map_some' hc; cases hh.2; done)
      all_goals
        exfalso
        (try unfold ifO at hc)
        (repeat' split at hc)
        all_goals first
          | (cases hc; done)
          | (obtain ⟨_, hh⟩ := map_some' hc; cases hh.2; done)
    obtain ⟨args0, ats, rfl, hf, ha, rfl⟩ := hop
    simp only [opRun, o_call] at hs
    split at hs
    case h_2 => cases hs
    rename_i fv vs hfv hvs
    have hfr := ev_sim ht hf hfv
    have hvr := evs_sim ht ha hvs
    unfold callS at hs
    split at hs
    · -- a function
      rename_i g first cap
      split at hs
      case h_2 => cases hs
      rename_i v1 h1 d1 hcal
      cases hs
      obtain ⟨first', cap', hfe, hl1, hl2⟩ : ∃ first' cap', a.eval f = .func (.func g) first' cap' ∧ LR m first.toList first'.toList ∧ LR m cap.toList cap'.toList := by
        generalize a.eval f = fr at hfr ⊢
        cases hfr with
        | func x1 x2 x3 x4 => exact ⟨_, _, rfl, ⟨x1, x3⟩, ⟨x2, x4⟩⟩
      obtain ⟨⟨fn, k1, k2, k3⟩, hcalls⟩ := hR B w0 g _ h v h' d1 m w _ hcal r ((hl1.append hvr).append hl2)
      have hrun : (execOp a.eval ⟨dst, .call ⟨.value f, args0, ats⟩, type, pos, after, guard⟩).run P w = .ok (.enter g (first' ++ args0.map a.eval ++ cap')) w := by
        have k3' : ¬ fn.body = none := by intro h; rw [h] at k3; cases k3
        simp [execOp, resolve, hfe, Deferred.ofValue, invoke, callFunc, k1, k2, k3']
      rw [hrun]
      refine ⟨hF.depth, ?_⟩
      have harg : (first' ++ args0.map a.eval ++ cap') = (first'.toList ++ args0.toList.map a.eval ++ cap'.toList).toArray := by
        apply Array.ext'; simp
      rw [harg]
      refine hF.calls (CallsIn.mono (hcalls (n - 1)) ?_)
      intro e w' he
      cases e with
      | returned v' =>
        obtain ⟨m', q1, q2, q3, q4⟩ := he
        exact hK v' w' m' q1 q2 q3 q4
      | panicked c => exact he.elim
      | outgrown => exact he.elim
    · -- yield
      rename_i l first cap
      split at hs
      case isFalse => cases hs
      split at hs
      case h_2 => cases hs
      rename_i v1 h1 d1 hcal
      cases hs
      obtain ⟨A, hfe, hml⟩ : ∃ A, a.eval f = .func (.yield A) #[] #[] ∧ m.at l = some (A, 0) := by
        generalize a.eval f = fr at hfr ⊢
        cases hfr with
        | yield x => exact ⟨_, rfl, x⟩
      obtain ⟨lr, k1, k2, hrounds⟩ := hRr B w0 cx.base l _ h v h' d1 m w _ A hcal r hvr hml
      have hsz : (args0.map a.eval).size = lr.params.size := by simpa using k2
      have hrun : (execOp a.eval ⟨dst, .call ⟨.value f, args0, ats⟩, type, pos, after, guard⟩).run P w = .ok (.round A lr.fn (roundTmps lr (args0.map a.eval)) lr.assign lr.body) w := by
        have hsz' : args0.size = lr.params.size := by simpa using hsz
        simp [execOp, resolve, hfe, Deferred.ofValue, invoke, Instr.yield, run_getLoop k1, hsz', roundTmps]
      rw [hrun]
      refine ⟨hF.depth, ?_⟩
      have harg : args0.map a.eval = (args0.toList.map a.eval).toArray := by apply Array.ext'; simp
      rw [harg]
      refine hF.rounds (RoundIn.mono (hrounds (n - 1)) ?_)
      intro e w' he
      cases e with
      | returned v' =>
        obtain ⟨m', q1, q2, q3, q4⟩ := he
        exact hK v' w' m' q1 q2 q3 q4
      | panicked c => exact he.elim
      | outgrown => exact he.elim
    · cases hs
  · obtain ⟨v', w', m', hrun, q1, q2, q3, q4⟩ := op_sim (E := ⟨P, B, w0⟩) r ht hc hm (fun f args e => hcall ⟨f, args, e⟩) hs
    rcases hrun with hrun | ⟨hrun, rfl⟩
    · have hrun : (execOp a.eval o).run P w = _ := hrun
      rw [hrun]; exact hK v' w' m' q1 q2 q3 q4
    · have hrun : (execOp a.eval o).run P w = _ := hrun
      rw [hrun]; exact hK _ w' m' q1 q2 q3 q4

end
end Go.Proofs.Ytecncmmkghmojaa.Sh
