/- The shadow machine: regions, loops and calls; it is sound. -/
import Derived.Test.YtioijehbmgmgkaaM1
import Derived.Scope
import Derived.RangeFuncRecord
import Derived.RangeFuncNested
set_option linter.all false
namespace Go
section
variable {F : Fence} {n : Nat} {P : Program} {a : Act} {w : World} {Q : Exit → Act → World → Prop}
theorem stepR_scope' {b : Frame} {k : List Item} {cs : List Frame} {c : Code} : step P (lone (b.atR a (.code (.scope c) :: k)) cs w) = .next (lone (b.atR a (.code c :: .inScope c :: k)) cs w) :=
  step_lone_go (by simp [stepG, stepG.exec, Frame.atR])
theorem stepR_inScope' {b : Frame} {k : List Item} {cs : List Frame} {c : Code} : step P (lone (b.atR a (.inScope c :: k)) cs w) = .next (lone (b.atR a k) cs w) :=
  step_lone_go (by simp [stepG, stepG.exec, Frame.atR])
theorem wpIn_scope' {c : Code} (h : c.wpIn F n P (Exit.noGoto Q) a w) : (Code.scope c).wpIn F n P Q a w := by
  intro b k cs hro hb hr
  have h0 : (lone (b.atR a (.code (.scope c) :: k)) cs w).fenced P F := fenced_calm hb hr rfl
  obtain ⟨e, a₁, w₁, hq, harr⟩ := h b (.inScope c :: k) cs hro hb hr
  cases e with
  | normal => exact ⟨.normal, a₁, w₁, hq, .head h0 stepR_scope' (StepsIn.trans harr (.one (fenced_calm hb hr rfl) stepR_inScope'))⟩
  | exit id =>
    have hx : exitTo id (.inScope c :: k) = exitTo id k := by simp [exitTo]
    exact ⟨.exit id, a₁, w₁, hq, fun k' hk => .head h0 stepR_scope' (harr.1 k' (by rw [hx]; exact hk)),
        fun hr' hk => let ⟨k₁, h1, h2⟩ := harr.2 hr' (by rw [hx]; exact hk); ⟨k₁, h1, .head h0 stepR_scope' h2⟩⟩
  | goto l => exact hq.elim
  | ret => exact ⟨_, a₁, w₁, hq, .of_steps (.one h0 stepR_scope') harr⟩
  | panic ch => exact ⟨_, a₁, w₁, hq, .of_steps (.one h0 stepR_scope') harr⟩
  | outgrown => exact ⟨_, a₁, w₁, hq, .of_steps (.one h0 stepR_scope') harr⟩
end
end Go
namespace Go.Proofs.Ytioijehbmgmgkaa.Sh
open Go Go.RowKit
section
variable {nt : Nat} {m : Mp} {t : T} {a : Act}
def CallPost (E : Env) (m : Mp) (h : SHeap) (v : Value) (h' : SHeap) : Ending → World → Prop
  | .returned v', w' => ∃ m', VR m' v v' ∧ m.le m' ∧ Rel E m' h' w' ∧ Ghost m h m' h'
  | _, _ => False
def Known (P : Program) (f : FuncId) : Prop := ∃ fn, P.funcs[f]? = some fn ∧ fn.name ≠ "runtime.NumGoroutine" ∧ fn.body.isNone = false
def CallOK (P : Program) (R : Rec) : Prop := ∀ (B : Nat) (w0 : World) (f : FuncId) (args : List Value) (h : SHeap) (v : Value) (h' : SHeap) (d' : List Nat) (m : Mp) (w : World) (args' : List Value),
  R.call f args h = some (v, h', d') → Rel ⟨P, B, w0⟩ m h w → LR m args args' → Known P f ∧ ∀ n, CallsIn Fence.wide n P f args'.toArray w (CallPost ⟨P, B, w0⟩ m h v h')
def roundTmps (r : Loop) (args : Array Value) : Array Value := (r.params.zip args).foldl (fun tmps (t, a) => tmps.setIfInBounds t a) r.tmps
def RoundOK (P : Program) (R : Rec) : Prop := ∀ (B : Nat) (w0 : World) (base l : Nat) (args : List Value) (h : SHeap) (v : Value) (h' : SHeap) (d' : List Nat) (m : Mp) (w : World) (args' : List Value) (A : Nat),
  R.round base l args h = some (v, h', d') → Rel ⟨P, B, w0⟩ m h w → LR m args args' → m.at l = some (A, 0) →
    ∃ r : Loop, w.heap[A]? = some (.loop r) ∧ args'.length = r.params.size ∧ ∀ n, RoundIn Fence.wide n P A r.fn (roundTmps r args'.toArray) r.assign r.body w (CallPost ⟨P, B, w0⟩ m h v h')
def FR (m : Mp) (cx : Cx) (F : Fence) : Prop := (cx.rnd = none ∧ F = Fence.wide) ∨ ∃ l A, cx.rnd = some l ∧ F = Fence.wide.inRound A ∧ m.at l = some (A, 0)
theorem FR.fn {cx : Cx} {F : Fence} (h : FR m cx F) (f : FuncId) : F.fn f := by
  rcases h with ⟨_, rfl⟩ | ⟨_, _, _, rfl, _⟩ <;> trivial
theorem FR.depth {cx : Cx} {F : Fence} (h : FR m cx F) {n : Nat} : F.depth.isSome = true → 1 ≤ n := by
  rcases h with ⟨_, rfl⟩ | ⟨_, _, _, rfl, _⟩ <;> intro k <;> cases k
theorem FR.mono {m m' : Mp} {cx : Cx} {F : Fence} (h : FR m cx F) (hm : m.le m') : FR m' cx F := by
  rcases h with h | ⟨l, A, h1, h2, h3⟩
  · exact .inl h
  · exact .inr ⟨l, A, h1, h2, Mp.le_at hm h3⟩
theorem FR.calls {cx : Cx} {F : Fence} (h : FR m cx F) {n : Nat} {P : Program} {f : FuncId} {args : Array Value} {w : World} {R : Ending → World → Prop} (k : CallsIn Fence.wide n P f args w R) : CallsIn F n P f args w R := by
  rcases h with ⟨_, rfl⟩ | ⟨_, _, _, rfl, _⟩
  · exact k
  · exact k
theorem FR.rounds {cx : Cx} {F : Fence} (h : FR m cx F) {n : Nat} {P : Program} {l : Nat} {f : FuncId} {tmps : Array Value} {x y : Code} {w : World} {R : Ending → World → Prop} (k : RoundIn Fence.wide n P l f tmps x y w R) : RoundIn F n P l f tmps x y w R := by
  rcases h with ⟨_, rfl⟩ | ⟨_, _, _, rfl, _⟩
  · exact k
  · exact k
theorem wanted_sim (ht : TR nt m t a.tmps) {ops : Array Oper} {o : Oper} {g : Option (Nat × Bool)} (hg : compGuard ops o = some g) : Region.wanted o (yielded ops a.tmps) = wantedS t g := by
  unfold compGuard at hg
  unfold Region.wanted
  split at hg
  · rename_i h0
    cases hg
    rw [h0]; rfl
  · rename_i j want h0
    rw [h0]
    split at hg
    case h_2 => cases hg
    rename_i i hi
    cases hg
    simp only [wantedS, yielded, hi, Option.bind_some]
    have hv := ht.get i
    unfold tget
    cases hx : a.tmps[i]? with
    | none =>
      have : a.tmps.getD i undef = undef := by simp [Array.getD_eq_getD_getElem?, hx]
      rw [this] at hv
      generalize t.get i = u at hv
      cases hv <;> rfl
    | some x =>
      have : a.tmps.getD i undef = x := by simp [Array.getD_eq_getD_getElem?, hx]
      rw [this] at hv
      generalize t.get i = u at hv
      cases hv <;> simp
theorem put_tmps {o : Option Tmp} {v : Value} : (a.put o v).defers = a.defers := by cases o <;> rfl
theorem TR.put {v v' : Value} (ht : TR nt m t a.tmps) {o : Option Tmp} (ho : ∀ d, o = some d → d < nt) (hv : VR m v v') : TR nt m (sput t o v) (a.put o v').tmps := by
  cases o with
  | none => exact ht
  | some d => exact ht.set (ho d rfl) hv
theorem comp_nodefer {P : Program} {o : Oper} {so : SOp} (hc : compOp P o.op = some so) (c : Call) : o.op ≠ .defer c := by
  intro h
  rw [h] at hc
  cases hc
theorem oper_step {P : Program} {B : Nat} {w0 : World} {R : Rec} (hR : CallOK P R) (hRr : RoundOK P R) {h h' : SHeap} {d d' : List Nat} {w : World} (r : Rel ⟨P, B, w0⟩ m h w) (ht : TR nt m t a.tmps) {cx : Cx} {F : Fence} (hF : FR m cx F)
    {o : Oper} {so : SOp} (hc : compOp P o.op = some so) (hm : makes so = false) {sl : Option Nat} {v : Value} (hs : opRun R cx sl so t h d = some (v, h', d')) {n : Nat} {Q : Exit → Act → World → Prop} {K : Act → World → Prop}
    (hK : ∀ v' w' m', VR m' v v' → m.le m' → Rel ⟨P, B, w0⟩ m' h' w' → Ghost m h m' h' → K (a.put o.dst v') w') : o.wpIn F n P a w K Q := by
  refine ⟨fun f _ => hF.fn f, ?_⟩
  rw [Oper.semAt_eq _ _ _ (comp_nodefer hc)]
  by_cases hcall : ∃ f args, so = .call f args
  · obtain ⟨f, args, rfl⟩ := hcall
    obtain ⟨dst, op, type, pos, after, guard⟩ := o
    simp only at hc hK ⊢
    -- only calls become calls
    have hop : ∃ args0 ats, op = .call ⟨.value f, args0, ats⟩ ∧ okO f = true ∧ args0.toList.all okO = true ∧ args = args0.toList := by
      unfold compOp at hc
      split at hc
      case h_28 =>
        rename_i c
        unfold compCall at hc
        split at hc
        · split at hc
          · rename_i hh
            cases hc
            obtain ⟨c1, c2⟩ := and2 hh
            obtain ⟨callee, args0, ats⟩ := c
            rename_i hcal
            simp only at hcal
            subst hcal
            exact ⟨_, _, rfl, c1, c2, rfl⟩
          · cases hc
        · cases hc
        · exfalso
          (repeat' split at hc)
          all_goals first
            | (cases hc; done)
            | (obtain ⟨_, hh⟩ := map_some' hc; cases hh.2; done)
      all_goals
        exfalso
        (try unfold ifO at hc)
        (repeat' split at hc)
        all_goals first
          | (cases hc; done)
          | (obtain ⟨_, hh⟩ := map_some' hc; cases hh.2; done)
    obtain ⟨args0, ats, rfl, hf, ha, rfl⟩ := hop
    simp only [opRun, o_call] at hs
    split at hs
    case h_2 => cases hs
    rename_i fv vs hfv hvs
    have hfr := ev_sim ht hf hfv
    have hvr := evs_sim ht ha hvs
    unfold callS at hs
    split at hs
    · -- a function
      rename_i g first cap
      split at hs
      case h_2 => cases hs
      rename_i v1 h1 d1 hcal
      cases hs
      obtain ⟨first', cap', hfe, hl1, hl2⟩ : ∃ first' cap', a.eval f = .func (.func g) first' cap' ∧ LR m first.toList first'.toList ∧ LR m cap.toList cap'.toList := by
        generalize a.eval f = fr at hfr ⊢
        cases hfr with
        | func x1 x2 x3 x4 => exact ⟨_, _, rfl, ⟨x1, x3⟩, ⟨x2, x4⟩⟩
      obtain ⟨⟨fn, k1, k2, k3⟩, hcalls⟩ := hR B w0 g _ h v h' d1 m w _ hcal r ((hl1.append hvr).append hl2)
      have hrun : (execOp a.eval ⟨dst, .call ⟨.value f, args0, ats⟩, type, pos, after, guard⟩).run P w = .ok (.enter g (first' ++ args0.map a.eval ++ cap')) w := by
        have k3' : ¬ fn.body = none := by intro h; rw [h] at k3; cases k3
        simp [execOp, resolve, hfe, Deferred.ofValue, invoke, callFunc, k1, k2, k3']
      rw [hrun]
      refine ⟨hF.depth, ?_⟩
      have harg : (first' ++ args0.map a.eval ++ cap') = (first'.toList ++ args0.toList.map a.eval ++ cap'.toList).toArray := by
        apply Array.ext'; simp
      rw [harg]
      refine hF.calls (CallsIn.mono (hcalls (n - 1)) ?_)
      intro e w' he
      cases e with
      | returned v' =>
        obtain ⟨m', q1, q2, q3, q4⟩ := he
        exact hK v' w' m' q1 q2 q3 q4
      | panicked c => exact he.elim
      | outgrown => exact he.elim
    · -- yield
      rename_i l first cap
      split at hs
      case isFalse => cases hs
      split at hs
      case h_2 => cases hs
      rename_i v1 h1 d1 hcal
      cases hs
      obtain ⟨A, hfe, hml⟩ : ∃ A, a.eval f = .func (.yield A) #[] #[] ∧ m.at l = some (A, 0) := by
        generalize a.eval f = fr at hfr ⊢
        cases hfr with
        | yield x => exact ⟨_, rfl, x⟩
      obtain ⟨lr, k1, k2, hrounds⟩ := hRr B w0 cx.base l _ h v h' d1 m w _ A hcal r hvr hml
      have hsz : (args0.map a.eval).size = lr.params.size := by simpa using k2
      have hrun : (execOp a.eval ⟨dst, .call ⟨.value f, args0, ats⟩, type, pos, after, guard⟩).run P w = .ok (.round A lr.fn (roundTmps lr (args0.map a.eval)) lr.assign lr.body) w := by
        have hsz' : args0.size = lr.params.size := by simpa using hsz
        simp [execOp, resolve, hfe, Deferred.ofValue, invoke, Instr.yield, run_getLoop k1, hsz', roundTmps]
      rw [hrun]
      refine ⟨hF.depth, ?_⟩
      have harg : args0.map a.eval = (args0.toList.map a.eval).toArray := by apply Array.ext'; simp
      rw [harg]
      refine hF.rounds (RoundIn.mono (hrounds (n - 1)) ?_)
      intro e w' he
      cases e with
      | returned v' =>
        obtain ⟨m', q1, q2, q3, q4⟩ := he
        exact hK v' w' m' q1 q2 q3 q4
      | panicked c => exact he.elim
      | outgrown => exact he.elim
    · cases hs
  · obtain ⟨v', w', m', hrun, q1, q2, q3, q4⟩ := op_sim (E := ⟨P, B, w0⟩) r ht hc hm (fun f args e => hcall ⟨f, args, e⟩) hs
    rcases hrun with hrun | ⟨hrun, rfl⟩
    · have hrun : (execOp a.eval o).run P w = _ := hrun
      rw [hrun]; exact hK v' w' m' q1 q2 q3 q4
    · have hrun : (execOp a.eval o).run P w = _ := hrun
      rw [hrun]; exact hK _ w' m' q1 q2 q3 q4
end
end Go.Proofs.Ytioijehbmgmgkaa.Sh

namespace Go.Proofs.Ytioijehbmgmgkaa.Sh
open Go Go.RowKit
theorem vs0_eq {a b : Value} (h : vs0 a b = true) : a = b := by
  unfold vs0 at h
  split at h
  · simp at h; subst h; rfl
  · simp at h; obtain ⟨rfl, rfl⟩ := h; rfl
  · simp at h; subst h; rfl
  · simp at h; subst h; rfl
  · simp at h; obtain ⟨⟨rfl, rfl⟩, rfl⟩ := h; rfl
  · simp at h; subst h; rfl
  · cases h
theorem vsM_eq : ∀ {a b : List Value}, vsM a b = true → a = b
  | [], [], _ => rfl
  | [], _ :: _, h => by cases h
  | _ :: _, [], h => by cases h
  | a :: as, b :: bs, h => by
    simp only [vsM, Bool.and_eq_true] at h
    rw [vs0_eq h.1, vsM_eq h.2]
theorem vs1_eq {a b : Value} (h : vs1 a b = true) : a = b := by
  unfold vs1 at h
  split at h
  · simp only [Bool.and_eq_true] at h
    rw [Nat.eq_of_beq_eq_true h.1.1, Array.ext' (vsM_eq h.1.2), Array.ext' (vsM_eq h.2)]
  · exact vs0_eq h
theorem vsL_eq : ∀ {a b : List Value}, vsL a b = true → a = b
  | [], [], _ => rfl
  | [], _ :: _, h => by cases h
  | _ :: _, [], h => by cases h
  | a :: as, b :: bs, h => by
    simp only [vsL, Bool.and_eq_true] at h
    rw [vs1_eq h.1, vsL_eq h.2]
theorem vsame_eq {a b : Value} (h : vsame a b = true) : a = b := by
  unfold vsame at h
  split at h
  · rename_i x y
    have := vsL_eq h
    rw [Array.ext' this]
  · exact vs1_eq h
def stepO (R : Rec) (cx : Cx) (rb : Nat) (o : SOper) (lg : List LogE) (s : St) : Option (List LogE × St × Value) :=
  if wantedS s.t o.gd then
    match opRun R cx (slotOf rb o.sl) o.op s.t s.h s.d with
    | none => none
    | some (v, h, d) => if chkAll lg o.chk h then some (logOf o s.t v ++ lg, ⟨sput s.t o.dst v, s.ms, h, d⟩, v) else none
  else some (lg, ⟨sput s.t o.dst udf, s.ms, s.h, s.d⟩, udf)
theorem opsRun_cons (R : Rec) (cx : Cx) (rb : Nat) (o : SOper) (r : List SOper) (lg : List LogE) (s : St) :
    opsRun R cx rb (o :: r) lg s = match stepO R cx rb o lg s with
      | none => none
      | some (lg', s', _) => opsRun R cx rb r lg' s' := by
  unfold stepO
  rw [opsRun]
  by_cases hw : wantedS s.t o.gd = true
  · simp only [hw, if_true]
    cases opRun R cx (slotOf rb o.sl) o.op s.t s.h s.d with
    | none => rfl
    | some x =>
      obtain ⟨v, h, d⟩ := x
      simp only [fV_eq, fHif_eq, fPut_eq]
      split
      · rfl
      · rfl
  · simp only [hw, if_false, Bool.false_eq_true, fPut_eq]
theorem trace_of {R : Rec} {cx : Cx} {rb : Nat} : ∀ (al : List SOper) (lg : List LogE) (s s' : St), opsRun R cx rb al lg s = some s' →
    ∃ (lgs : Nat → List LogE) (tr : Nat → St) (val : Nat → Value), lgs 0 = lg ∧ tr 0 = s ∧ tr al.length = s' ∧ ∀ k o, al[k]? = some o → stepO R cx rb o (lgs k) (tr k) = some (lgs (k + 1), tr (k + 1), val k)
  | [], lg, s, s', h => by
    cases h
    exact ⟨fun _ => lg, fun _ => s, fun _ => udf, rfl, rfl, rfl, fun k o h => by simp at h⟩
  | o :: r, lg, s, s', h => by
    rw [opsRun_cons] at h
    split at h
    · cases h
    · rename_i lg1 s1 v1 hs
      obtain ⟨lgs, tr, val, h1, h2, h3, h4⟩ := trace_of r lg1 s1 s' h
      refine ⟨fun | 0 => lg | k + 1 => lgs k, fun | 0 => s | k + 1 => tr k, fun | 0 => v1 | k + 1 => val k, rfl, rfl, h3, fun k o' hk => ?_⟩
      cases k with
      | zero =>
        simp only [List.getElem?_cons_zero, Option.some.injEq] at hk
        subst hk
        rw [hs, ← h1, ← h2]
      | succ k => exact h4 k o' (by simpa using hk)
def Closed (ops : Array Oper) (S : Nat → Prop) : Prop := ∀ i op e, ops[i]? = some op → S i → e ∈ op.after → Region.binds .any e = true → S e.on
def FreeAt (ops : Array Oper) (al : List SOper) (k : Nat) (o : SOper) (op : Oper) : Prop :=
  ∀ (k' : Nat) (y : SOper) (oy : Oper), k < k' → al[k']? = some y → ops[y.id]? = some oy → (∃ e ∈ oy.after, Region.binds .any e = true ∧ e.on = o.id) ∨ op.apart ops oy = true
def SoloAt (ops : Array Oper) (al : List SOper) (k : Nat) : Prop :=
  ∀ (k' : Nat) (y : SOper) (oy : Oper), k < k' → al[k']? = some y → ops[y.id]? = some oy → ∃ e ∈ oy.after, Region.binds .any e = true ∧ ∀ (j : Nat) (x : SOper), j < k → al[j]? = some x → x.id ≠ e.on
structure Facts (P : Program) (ops : Array Oper) (n : Nat) (al : List SOper) : Prop where
  op : ∀ (k : Nat) (o : SOper), al[k]? = some o → ∃ op : Oper, ops[o.id]? = some op ∧ compOp P op.op = some o.op ∧ o.dst = op.dst ∧ compGuard ops op = some o.gd
  inj : ∀ (j k : Nat) (x y : SOper), al[j]? = some x → al[k]? = some y → x.id = y.id → j = k
  surj : ∀ i, i < ops.size → ∃ (k : Nat) (o : SOper), al[k]? = some o ∧ o.id = i
  deps : ∀ (k : Nat) (o : SOper) (op : Oper) (e : Edge), al[k]? = some o → ops[o.id]? = some op → e ∈ op.after → Region.binds .any e = true → ∃ (j : Nat) (x : SOper), j < k ∧ al[j]? = some x ∧ x.id = e.on
  kind : ∀ (k : Nat) (o : SOper) (op : Oper), al[k]? = some o → ops[o.id]? = some op → (isE o.op = false ∧ FreeAt ops al k o op) ∨ SoloAt ops al k
  look : ∀ (k : Nat) (o : SOper) (op : Oper), al[k]? = some o → ops[o.id]? = some op → ∀ x ∈ opnds o.op, ∀ t, tmpOf x = some t → t ∈ op.looksAt ops
  lookg : ∀ (k : Nat) (o : SOper) (op : Oper) (t : Nat) (want : Bool), al[k]? = some o → ops[o.id]? = some op → o.gd = some (t, want) → t ∈ op.looksAt ops
  plc : ∀ (k : Nat) (o : SOper), al[k]? = some o → makes o.op = true → ∃ s, o.sl = some s ∧ s < n
  pld : ∀ (j k : Nat) (x y : SOper) (s : Nat), al[j]? = some x → al[k]? = some y → makes x.op = true → makes y.op = true → x.sl = some s → y.sl = some s → j = k
  lg : ∀ (k : Nat) (o : SOper), al[k]? = some o → isLd o.op = true → o.lg = true
  chk : ∀ (j k : Nat) (x y : SOper) (oy : Oper), j < k → al[j]? = some x → al[k]? = some y → ops[y.id]? = some oy → isE y.op = true → isLd x.op = true →
    x.id ∈ y.chk ∨ ∀ S, Closed ops S → (∀ e ∈ oy.after, Region.binds .any e = true → S e.on) → S x.id
def AccOk (ops : Array Oper) (acc : List (Nat × List Nat)) : Prop := ∀ p ∈ acc, ∀ S, Closed ops S → S p.1 → ∀ i ∈ p.2, S i
theorem ancOf_ok {ops : Array Oper} {acc : List (Nat × List Nat)} (ha : AccOk ops acc) {es : List Edge} {S : Nat → Prop} (hS : Closed ops S) (he : ∀ e ∈ es, Region.binds .any e = true → S e.on) : ∀ i ∈ ancOf acc es, S i := by
  intro i hi
  unfold ancOf at hi
  obtain ⟨e, hem, hi⟩ := List.mem_flatMap.1 hi
  split at hi
  · rename_i hb
    rcases List.mem_cons.1 hi with rfl | hi
    · exact he e hem hb
    · split at hi
      · rename_i p hp
        have h1 := List.find?_some hp
        have h2 := List.mem_of_find?_eq_some hp
        have h3 : p.1 = e.on := Nat.eq_of_beq_eq_true h1
        exact ha p h2 S hS (h3 ▸ he e hem hb) i hi
      · simp at hi
  · simp at hi
theorem regOk_at {ops : Array Oper} {n : Nat} : ∀ (l : List SOper) (acc : List (Nat × List Nat)) (done : List SOper), AccOk ops acc → regOk ops n acc done l = true →
    ∀ k o, l[k]? = some o → ∃ acc', AccOk ops acc' ∧ oneOk ops n acc' ((l.take k).reverse ++ done) o (l.drop (k + 1)) = true
  | [], _, _, _, _, k, o, h => by simp at h
  | x :: r, acc, done, ha, hr, k, o, h => by
    unfold regOk at hr
    simp only [Bool.and_eq_true] at hr
    cases k with
    | zero =>
      simp only [List.getElem?_cons_zero, Option.some.injEq] at h
      subst h
      exact ⟨acc, ha, by simpa using hr.1⟩
    | succ k =>
      have ha' : AccOk ops ((x.id, (ancOf acc (match ops[x.id]? with | some op => op.after.toList | none => [])).eraseDups) :: acc) := by
        intro p hp S hS hSp
        rcases List.mem_cons.1 hp with rfl | hp
        · simp only at hSp ⊢
          intro i hi
          refine ancOf_ok ha hS ?_ i (List.mem_eraseDups.1 hi)
          intro e he hb
          split at he
          · rename_i op hop
            exact hS _ _ e hop hSp (by simpa using he) hb
          · simp at he
        · exact ha p hp S hS hSp
      obtain ⟨acc', h1, h2⟩ := regOk_at r _ _ ha' hr.2 k o (by simpa using h)
      exact ⟨acc', h1, by simpa using h2⟩
theorem mapO_get {α β : Type} {f : α → Option β} : ∀ {l : List α} {r : List β}, mapO f l = some r → ∀ (i : Nat) (y : β), r[i]? = some y → ∃ x, l[i]? = some x ∧ f x = some y
  | [], r, h, i, y, hy => by cases h; simp at hy
  | a :: as, r, h, i, y, hy => by
    unfold mapO at h
    split at h
    · rename_i b bs h1 h2
      cases h
      cases i with
      | zero => simp at hy; subst hy; exact ⟨a, rfl, h1⟩
      | succ i =>
        obtain ⟨x, q1, q2⟩ := mapO_get h2 i y (by simpa using hy)
        exact ⟨x, by simpa using q1, q2⟩
    · cases h
theorem preOf_get : ∀ (l : List SOper) (n i : Nat) (o : SOper), (preOf l n)[i]? = some o → ∃ o0, l[i]? = some o0 ∧ o = { o0 with sl := o.sl }
  | [], n, i, o, h => by simp [preOf] at h
  | x :: r, n, i, o, h => by
    unfold preOf at h
    split at h
    · cases i with
      | zero => simp at h; subst h; exact ⟨x, rfl, rfl⟩
      | succ i =>
        obtain ⟨o0, h1, h2⟩ := preOf_get r (n + 1) i o (by simpa using h)
        exact ⟨o0, by simpa using h1, h2⟩
    · cases i with
      | zero => simp at h; subst h; exact ⟨x, rfl, rfl⟩
      | succ i =>
        obtain ⟨o0, h1, h2⟩ := preOf_get r n i o (by simpa using h)
        exact ⟨o0, by simpa using h1, h2⟩
theorem annot_mem {ops : Array Oper} {so : List SOper} : ∀ (l : List Nat) (done : List SOper) (acc : List (Nat × List Nat)) (al : List SOper), annot ops so done acc l = some al →
    ∀ o ∈ al, ∃ (i : Nat) (o0 : SOper), so[i]? = some o0 ∧ o = { o0 with lg := o.lg, chk := o.chk }
  | [], _, _, al, h, o, ho => by cases h; simp at ho
  | i :: r, done, acc, al, h, o, ho => by
    unfold annot at h
    split at h
    · rename_i o0 op h1 h2
      obtain ⟨al', h3, rfl⟩ := map_some' h
      rcases List.mem_cons.1 ho with rfl | ho
      · exact ⟨i, o0, h1, rfl⟩
      · exact annot_mem r _ _ al' h3 o ho
    · cases h
theorem compOper_some {P : Program} {ops : Array Oper} {i : Nat} {o : SOper} (h : compOper P ops i = some o) : o.id = i ∧ o.sl = none ∧ o.chk = [] ∧ o.lg = false ∧ ∃ op, ops[i]? = some op ∧ compOp P op.op = some o.op ∧ o.dst = op.dst ∧ compGuard ops op = some o.gd := by
  unfold compOper at h
  split at h
  · cases h
  · rename_i op hop
    split at h
    · rename_i so g h1 h2
      cases h
      exact ⟨rfl, rfl, rfl, rfl, op, hop, h1, rfl, h2⟩
    · cases h
theorem beq_nat {a b : Nat} : Nat.beq a b = true ↔ a = b := by simp
theorem facts_of {P : Program} {ops : Array Oper} {so al : List SOper} {l : List Nat} {n : Nat} (hso : mapO (compOper P ops) (List.range ops.size) = some so) (han : annot ops (preOf so 0) [] [] l = some al)
    (hall : (List.range ops.size).all (fun i => al.any fun o => Nat.beq o.id i) = true) (hr : regOk ops n [] [] al = true) : Facts P ops n al := by
  have hop : ∀ (k : Nat) (o : SOper), al[k]? = some o → ∃ op : Oper, ops[o.id]? = some op ∧ compOp P op.op = some o.op ∧ o.dst = op.dst ∧ compGuard ops op = some o.gd := by
    intro k o hk
    obtain ⟨i, o0, h1, h2⟩ := annot_mem l [] [] al han o (List.mem_of_getElem? hk)
    obtain ⟨o1, h3, h4⟩ := preOf_get so 0 i o0 h1
    obtain ⟨j, h5, h6⟩ := mapO_get hso i o1 h3
    obtain ⟨q1, _, _, _, op, q2, q3, q4, q5⟩ := compOper_some h6
    rw [h2, h4]
    exact ⟨op, by simpa [q1] using q2, q3, q4, q5⟩
  have hone := regOk_at (ops := ops) (n := n) al [] [] (fun p hp => by simp at hp) hr
  have key : ∀ (k : Nat) (o : SOper) (op : Oper), al[k]? = some o → ops[o.id]? = some op → ∃ acc', AccOk ops acc' ∧
      ((al.take k).all (fun x => !(Nat.beq x.id o.id)) = true) ∧
      (∀ e ∈ op.after, Region.binds .any e = true → ∃ x ∈ al.take k, x.id = e.on) ∧
      ((isE o.op = false ∧ freeOf ops o.id op (al.drop (k + 1)) = true) ∨ soloOf ops (al.take k).reverse (al.drop (k + 1)) = true) ∧
      (∀ x ∈ opnds o.op, ∀ t, tmpOf x = some t → t ∈ op.looksAt ops) ∧
      (∀ t want, o.gd = some (t, want) → t ∈ op.looksAt ops) ∧
      placeOk n o (al.take k).reverse = true ∧ (isLd o.op = true → o.lg = true) ∧
      (isE o.op = true → ∀ x ∈ al.take k, isLd x.op = true → x.id ∈ o.chk ∨ x.id ∈ ancOf acc' op.after.toList) := by
    intro k o op hk hop2
    obtain ⟨acc', h1, h2⟩ := hone k o hk
    unfold oneOk at h2
    rw [hop2] at h2
    simp only [Bool.and_eq_true, List.append_nil] at h2
    obtain ⟨⟨⟨⟨⟨⟨⟨c1, c2⟩, c3⟩, c4⟩, c5⟩, c6⟩, c7⟩, c8⟩ := h2
    refine ⟨acc', h1, ?_, ?_, ?_, ?_, ?_, c6, ?_, ?_⟩
    · simpa using c1
    · intro e he hb
      have := List.all_eq_true.1 c2 e (by simpa using he)
      simp only [hb, Bool.not_true, Bool.false_or] at this
      obtain ⟨x, hx, hxe⟩ := List.any_eq_true.1 this
      exact ⟨x, by simpa using hx, beq_nat.1 hxe⟩
    · simp only [Bool.or_eq_true, Bool.and_eq_true, Bool.not_eq_true'] at c3
      exact c3
    · intro x hx t ht
      have := List.all_eq_true.1 c4 t (List.mem_filterMap.2 ⟨x, hx, ht⟩)
      obtain ⟨u, hu, e⟩ := List.any_eq_true.1 this
      rw [beq_nat.1 e]; exact hu
    · intro t want hg
      rw [hg] at c5
      obtain ⟨u, hu, e⟩ := List.any_eq_true.1 c5
      rw [beq_nat.1 e]; exact hu
    · intro hld
      simpa [hld] using c7
    · intro hE x hx hld
      simp only [hE, Bool.not_true, Bool.false_or] at c8
      have := List.all_eq_true.1 c8 x (by simpa using hx)
      simp only [hld, Bool.not_true, Bool.false_or, Bool.or_eq_true] at this
      rcases this with h | h
      · exact .inl (by simpa using h)
      · obtain ⟨u, hu, e⟩ := List.any_eq_true.1 h
        exact .inr (by rw [beq_nat.1 e]; exact hu)
  have take_get : ∀ (k : Nat) (x : SOper), x ∈ al.take k ↔ ∃ j, j < k ∧ al[j]? = some x := by
    intro k x
    constructor
    · intro hx
      obtain ⟨j, hj⟩ := List.getElem?_of_mem hx
      rw [List.getElem?_take] at hj
      split at hj
      · exact ⟨j, by assumption, hj⟩
      · cases hj
    · rintro ⟨j, hjk, hj⟩
      refine List.mem_of_getElem? (i := j) ?_
      rw [List.getElem?_take, if_pos hjk]; exact hj
  have drop_get : ∀ (k k' : Nat) (x : SOper), k < k' → al[k']? = some x → x ∈ al.drop (k + 1) := by
    intro k k' x hkk hx
    refine List.mem_of_getElem? (i := k' - (k + 1)) ?_
    rw [List.getElem?_drop]
    rwa [show k + 1 + (k' - (k + 1)) = k' by omega]
  have hinj0 : ∀ (j k : Nat) (x y : SOper), j < k → al[j]? = some x → al[k]? = some y → x.id ≠ y.id := by
    intro j k x y hjk hx hy he
    obtain ⟨op, hop2, _⟩ := hop k y hy
    obtain ⟨_, _, c1, _⟩ := key k y op hy hop2
    have := List.all_eq_true.1 c1 x ((take_get k x).2 ⟨j, hjk, hx⟩)
    simp [he] at this
  refine ⟨hop, ?_, ?_, ?_, ?_, ?_, ?_, ?_, ?_, ?_, ?_⟩
  · intro j k x y hx hy he
    rcases Nat.lt_trichotomy j k with h | h | h
    · exact absurd he (hinj0 j k x y h hx hy)
    · exact h
    · exact absurd he.symm (hinj0 k j y x h hy hx)
  · intro i hi
    have := List.all_eq_true.1 hall i (by simpa using hi)
    obtain ⟨o, ho, e⟩ := List.any_eq_true.1 this
    obtain ⟨k, hk⟩ := List.getElem?_of_mem ho
    exact ⟨k, o, hk, beq_nat.1 e⟩
  · intro k o op e hk hop2 he hb
    obtain ⟨_, _, _, c2, _⟩ := key k o op hk hop2
    obtain ⟨x, hx, hxe⟩ := c2 e he hb
    obtain ⟨j, hj, hjx⟩ := (take_get k x).1 hx
    exact ⟨j, x, hj, hjx, hxe⟩
  · intro k o op hk hop2
    obtain ⟨_, _, _, _, c3, _⟩ := key k o op hk hop2
    rcases c3 with ⟨h1, h2⟩ | h2
    · refine .inl ⟨h1, fun k' y oy hkk hy hoy => ?_⟩
      have := List.all_eq_true.1 h2 y (drop_get k k' y hkk hy)
      rw [hoy] at this
      simp only [Bool.or_eq_true] at this
      rcases this with h | h
      · obtain ⟨e, he, hh⟩ := List.any_eq_true.1 h
        simp only [Bool.and_eq_true] at hh
        exact .inl ⟨e, by simpa using he, hh.1, (beq_nat.1 hh.2).symm⟩
      · exact .inr h
    · refine .inr (fun k' y oy hkk hy hoy => ?_)
      have := List.all_eq_true.1 h2 y (drop_get k k' y hkk hy)
      rw [hoy] at this
      simp only at this
      obtain ⟨e, he, hh⟩ := List.any_eq_true.1 this
      simp only [Bool.and_eq_true] at hh
      refine ⟨e, by simpa using he, hh.1, fun j x hj hx hxe => ?_⟩
      have := List.all_eq_true.1 hh.2 x (by simpa using (take_get k x).2 ⟨j, hj, hx⟩)
      simp [hxe] at this
  · intro k o op hk hop2
    obtain ⟨_, _, _, _, _, c4, _⟩ := key k o op hk hop2
    exact c4
  · intro k o op t want hk hop2
    obtain ⟨_, _, _, _, _, _, c5, _⟩ := key k o op hk hop2
    exact c5 t want
  · intro k o hk hm
    obtain ⟨op, hop2, _⟩ := hop k o hk
    obtain ⟨_, _, _, _, _, _, _, c6, _⟩ := key k o op hk hop2
    unfold placeOk at c6
    simp only [hm, Bool.not_true, Bool.false_or] at c6
    split at c6
    · rename_i s hs
      simp only [Bool.and_eq_true, Nat.blt_eq] at c6
      exact ⟨s, hs, c6.1⟩
    · cases c6
  · have hlt : ∀ (j k : Nat) (x y : SOper) (s : Nat), j < k → al[j]? = some x → al[k]? = some y → makes x.op = true → makes y.op = true → x.sl = some s → y.sl = some s → False := by
      intro j k x y s hjk hx hy hmx hmy hsx hsy
      obtain ⟨op, hop2, _⟩ := hop k y hy
      obtain ⟨_, _, _, _, _, _, _, c6, _⟩ := key k y op hy hop2
      unfold placeOk at c6
      simp only [hmy, Bool.not_true, Bool.false_or, hsy, Bool.and_eq_true] at c6
      have := List.all_eq_true.1 c6.2 x (by simpa using (take_get k x).2 ⟨j, hjk, hx⟩)
      simp [hmx, hsx] at this
    intro j k x y s hx hy hmx hmy hsx hsy
    rcases Nat.lt_trichotomy j k with h | h | h
    · exact (hlt j k x y s h hx hy hmx hmy hsx hsy).elim
    · exact h
    · exact (hlt k j y x s h hy hx hmy hmx hsy hsx).elim
  · intro k o hk
    obtain ⟨op, hop2, _⟩ := hop k o hk
    obtain ⟨_, _, _, _, _, _, _, _, c7, _⟩ := key k o op hk hop2
    exact c7
  · intro j k x y oy hjk hx hy hoy hE hld
    obtain ⟨acc', ha, _, _, _, _, _, _, _, c8⟩ := key k y oy hy hoy
    rcases c8 hE x ((take_get k x).2 ⟨j, hjk, hx⟩) hld with h | h
    · exact .inl h
    · exact .inr (fun S hS hd => ancOf_ok ha hS (fun e he hb => hd e (by simpa using he) hb) _ h)
end Go.Proofs.Ytioijehbmgmgkaa.Sh

namespace Go.Proofs.Ytioijehbmgmgkaa.Sh
open Go Go.RowKit
theorem evs_congr {t t' : T} {xs : List Operand} (h : ∀ x ∈ xs, ev t x = ev t' x) : evs t xs = evs t' xs := by
  induction xs with
  | nil => rfl
  | cons x r ih => unfold evs; rw [h x (by simp), ih (fun y hy => h y (by simp [hy]))]
theorem evp_congr {t t' : T} {xs : List (Nat × Nat × Operand)} (h : ∀ x ∈ xs, ev t x.2.2 = ev t' x.2.2) : evp t xs = evp t' xs := by
  induction xs with
  | nil => rfl
  | cons x r ih =>
    obtain ⟨o, s, x⟩ := x
    unfold evp; rw [h (o, s, x) (by simp), ih (fun y hy => h y (by simp [hy]))]
theorem evo_congr {t t' : T} {x : Option Operand} (h : ∀ y ∈ x.toList, ev t y = ev t' y) : evo t x = evo t' x := by
  cases x with
  | none => rfl
  | some x =>
    have e := h x (by simp)
    simp only [evo, e]
theorem opRun_congr {R : Rec} {cx : Cx} {sl : Option Nat} {o : SOp} {t t' : T} {h : SHeap} {d : List Nat} (hh : ∀ x ∈ opnds o, ev t x = ev t' x) : opRun R cx sl o t h d = opRun R cx sl o t' h d := by
  cases o with
  | build z ps =>
    have : evp t ps = evp t' ps := evp_congr (fun x hx => hh x.2.2 (List.mem_map.2 ⟨x, hx, rfl⟩))
    simp only [opRun, o_build, this]
  | buildSlice el pf z n ps =>
    have : evp t ps = evp t' ps := evp_congr (fun x hx => hh x.2.2 (List.mem_map.2 ⟨x, hx, rfl⟩))
    simp only [opRun, o_buildSlice, this]
  | slice e s x lo hi mx =>
    have e0 := hh x (by simp [opnds])
    have e1 : evo t lo = evo t' lo := evo_congr (fun y hy => hh y (by simp only [opnds, List.mem_cons, List.mem_append]; exact .inr (.inl (.inl hy))))
    have e2 : evo t hi = evo t' hi := evo_congr (fun y hy => hh y (by simp only [opnds, List.mem_cons, List.mem_append]; exact .inr (.inl (.inr hy))))
    have e3 : evo t mx = evo t' mx := evo_congr (fun y hy => hh y (by simp only [opnds, List.mem_cons, List.mem_append]; exact .inr (.inr hy)))
    simp only [opRun, o_slice, e0, e1, e2, e3]
  | sliceArr e s x lo hi mx =>
    have e0 := hh x (by simp [opnds])
    have e1 : evo t lo = evo t' lo := evo_congr (fun y hy => hh y (by simp only [opnds, List.mem_cons, List.mem_append]; exact .inr (.inl (.inl hy))))
    have e2 : evo t hi = evo t' hi := evo_congr (fun y hy => hh y (by simp only [opnds, List.mem_cons, List.mem_append]; exact .inr (.inl (.inr hy))))
    have e3 : evo t mx = evo t' mx := evo_congr (fun y hy => hh y (by simp only [opnds, List.mem_cons, List.mem_append]; exact .inr (.inr hy)))
    simp only [opRun, o_sliceArr, e0, e1, e2, e3]
  | makeFunc f a b =>
    have e1 : evs t a = evs t' a := evs_congr (fun y hy => hh y (by simp only [opnds, List.mem_append]; exact .inl hy))
    have e2 : evs t b = evs t' b := evs_congr (fun y hy => hh y (by simp only [opnds, List.mem_append]; exact .inr hy))
    simp only [opRun, o_makeFunc, e1, e2]
  | maxi xs =>
    have e : evs t xs = evs t' xs := evs_congr hh
    simp only [opRun, o_maxi, e]
  | mini xs =>
    have e : evs t xs = evs t' xs := evs_congr hh
    simp only [opRun, o_mini, e]
  | call f xs =>
    have e0 := hh f (by simp [opnds])
    have e1 : evs t xs = evs t' xs := evs_congr (fun y hy => hh y (by simp [opnds, hy]))
    simp only [opRun, o_call, e0, e1]
  | _ =>
    simp only [opnds, List.mem_cons, List.not_mem_nil, or_false, forall_eq_or_imp, forall_eq, false_imp_iff, implies_true] at hh
    simp only [opRun, o_mov, o_pick, o_alloc, o_box, o_load, o_store, o_nilCheck, o_bin, o_eq, o_un, o_conv, o_fieldAddr, o_field, o_idxArr, o_idxSl, o_idx, o_extract, o_len, o_append, o_copy, o_makeSlice, o_makeMap, o_lookup, o_mapUpdate, o_mapLen, o_idxStr, o_clear, hh]
def isMp (_ : SOp) : Bool := false
theorem comp_nomap {P : Program} {op : Op} {so : SOp} (_ : compOp P op = some so) : isMp so = false := rfl
theorem pure_op {R : Rec} {cx : Cx} {sl : Option Nat} {o : SOp} {t : T} {h h' : SHeap} {d d' : List Nat} {v : Value} (h1 : isE o = false) (h2 : makes o = false) (h3 : isLd o = false) (h4 : isMp o = false)
    (hs : opRun R cx sl o t h d = some (v, h', d')) : h' = h ∧ d' = d ∧ ∀ sl2 k2 d2, opRun R cx sl2 o t k2 d2 = some (v, k2, d2) := by
  cases o <;> first
    | (cases h1; done)
    | (cases h2; done)
    | (cases h3; done)
    | (cases h4; done)
    | skip
  all_goals simp only [opRun, o_mov, o_pick, o_build, o_nilCheck, o_bin, o_eq, o_un, o_conv, o_fieldAddr, o_field, o_idxArr, o_idxSl, o_idx, o_slice, o_sliceArr, o_makeFunc, o_extract, o_len, o_maxi, o_mini, o_idxStr] at hs ⊢
  all_goals
    (repeat' split at hs)
    all_goals first
      | (cases hs; done)
      | (cases hs; exact ⟨rfl, rfl, fun _ _ _ => rfl⟩)
      | (obtain ⟨q1, q2, q3⟩ := same_some hs; subst q2 q3; simp_all [same]; done)
      | (cases hs; simp_all; done)
end Go.Proofs.Ytioijehbmgmgkaa.Sh

namespace Go.Proofs.Ytioijehbmgmgkaa.Sh
open Go Go.RowKit
theorem Rel.ghost {E : Env} {m : Mp} {h : SHeap} {w : World} (r : Rel E m h w) {b : Nat} (hb : m.at b = none) (o : SO) : Rel E m (h.set b o) w := by
  have hne : ∀ c x, m.at c = some x → b ≠ c := by intro c x hc e; subst e; rw [hb] at hc; cases hc
  have hcp : ∀ c x, m.cp c = some x → b ≠ c := by
    intro c x hc e; subst e
    unfold Mp.cp at hc; rw [Mp.at_none.1 hb] at hc; cases hc
  refine ⟨by simpa using r.len, r.lt, ?_, ?_, ?_, r.cap, ?_, r.below, r.bsz, r.glob⟩
  · intro c o' A δ hc hm
    rw [List.getElem?_set_ne (hne c _ hm)] at hc
    exact r.obj _ _ _ _ hc hm
  · intro c o' A δ hc hm
    rw [List.getElem?_set_ne (hne c _ hm)] at hc
    exact r.base _ _ _ _ hc hm
  · intro b1 b2 o1 o2 A δ1 δ2 hn h1 h2 m1 m2
    rw [List.getElem?_set_ne (hne _ _ m1)] at h1
    rw [List.getElem?_set_ne (hne _ _ m2)] at h2
    exact r.sep b1 b2 o1 o2 A δ1 δ2 hn h1 h2 m1 m2
  · intro c K s cs el pf own old hc hcc
    rw [List.getElem?_set_ne (hcp c _ hcc)] at hc
    exact r.csz _ _ _ _ _ _ _ _ hc hcc
theorem Rel.gone1 {E : Env} {m : Mp} {h : SHeap} {w : World} (r : Rel E m h w) : Rel E (m ++ [none]) (h ++ [SO.gone]) w := by
  have key : ∀ c x, Mp.at (m ++ [none]) c = some x → c < m.length ∧ m.at c = some x := by
    intro c x hc
    have hlt := Mp.at_lt hc
    simp at hlt
    by_cases e : c < m.length
    · rw [Mp.at_append_left e] at hc; exact ⟨e, hc⟩
    · have : c = m.length := by omega
      subst this
      rw [Mp.at_snoc] at hc; cases hc
  have keyc : ∀ c x, Mp.cp (m ++ [none]) c = some x → c < m.length ∧ m.cp c = some x := by
    intro c x hc
    by_cases e : c < m.length
    · rw [Mp.cp_append_left e] at hc; exact ⟨e, hc⟩
    · by_cases e2 : c = m.length
      · subst e2; rw [Mp.cp_snoc] at hc; cases hc
      · exfalso
        unfold Mp.cp Mp.full at hc
        rw [List.getElem?_eq_none (by simp; omega)] at hc
        cases hc
  have hget : ∀ c o, c < m.length → (h ++ [SO.gone])[c]? = some o → h[c]? = some o := by
    intro c o hc ho
    rwa [List.getElem?_append_left (by rw [← r.len]; exact hc)] at ho
  refine ⟨by simp [r.len], fun c A δ hc => r.lt _ _ _ (key _ _ hc).2, ?_, ?_, ?_, ?_, ?_, r.below, r.bsz, r.glob⟩
  · intro c o A δ hc hm
    obtain ⟨k1, k2⟩ := key _ _ hm
    exact (r.obj _ _ _ _ (hget _ _ k1 hc) k2).mono (Mp.le_append _ _)
  · intro c o A δ hc hm
    obtain ⟨k1, k2⟩ := key _ _ hm
    exact r.base _ _ _ _ (hget _ _ k1 hc) k2
  · intro b1 b2 o1 o2 A δ1 δ2 hn h1 h2 m1 m2
    obtain ⟨k1, k2⟩ := key _ _ m1
    obtain ⟨k3, k4⟩ := key _ _ m2
    exact r.sep b1 b2 o1 o2 A δ1 δ2 hn (hget _ _ k1 h1) (hget _ _ k3 h2) k2 k4
  · intro c A δ K s hm hc
    exact r.cap _ _ _ _ _ (key _ _ hm).2 (keyc _ _ hc).2
  · intro c K s cs el pf own old hb hc
    obtain ⟨k1, k2⟩ := keyc _ _ hc
    exact r.csz _ _ _ _ _ _ _ _ (hget _ _ k1 hb) k2
theorem Rel.gones {E : Env} {m : Mp} {h : SHeap} {w : World} (r : Rel E m h w) (n : Nat) : Rel E (m ++ List.replicate n none) (h ++ List.replicate n SO.gone) w := by
  induction n with
  | zero => simpa using r
  | succ n ih =>
    have := ih.gone1
    rw [List.append_assoc, List.append_assoc] at this
    rw [List.replicate_succ', List.replicate_succ']
    exact this
inductive DR (m : Mp) : List Nat → List Deferred → Prop
  | nil : DR m [] []
  | cons {b A ms ds} (h : m.at b = some (A, 0)) (k : DR m ms ds) : DR m (b :: ms) ({ target := .collected A, args := #[] } :: ds)
theorem DR.mono {m m' : Mp} (hm : m.le m') {ms ds} (h : DR m ms ds) : DR m' ms ds := by
  induction h with
  | nil => exact .nil
  | cons h _ ih => exact .cons (Mp.le_at hm h) ih
structure SR (P : Program) (B : Nat) (w0 : World) (nt : Nat) (m : Mp) (s : St) (a : Act) (w : World) : Prop where
  tr : TR nt m s.t a.tmps
  ds : DR m s.ms a.defers
  rel : Rel ⟨P, B, w0⟩ m s.h w
section
variable {P : Program} {B : Nat} {w0 : World} {nt : Nat} {m : Mp} {a : Act}
theorem oper_none {R : Rec} (hR : CallOK P R) (hRr : RoundOK P R) {t : T} {h h' : SHeap} {d d' : List Nat} {w : World} (r : Rel ⟨P, B, w0⟩ m h w) (ht : TR nt m t a.tmps) {cx : Cx} {F : Fence} (hF : FR m cx F)
    {o : Oper} {so : SOp} (hc : compOp P o.op = some so) {v : Value} (hs : opRun R cx none so t h d = some (v, h', d')) {n : Nat} {Q : Exit → Act → World → Prop} {K : Act → World → Prop}
    (hK : ∀ v' w' m', VR m' v v' → m.le m' → Rel ⟨P, B, w0⟩ m' h' w' → Ghost m h m' h' → K (a.put o.dst v') w') : o.wpIn F n P a w K Q := by
  cases hm : makes so with
  | false => exact oper_step hR hRr r ht hF hc hm hs hK
  | true =>
    obtain ⟨cs, el, pf, mk, b, h1, h2, rfl, rfl⟩ := opMade_run hm hs
    obtain ⟨s, hex, hmb⟩ := made_op (E := ⟨P, B, w0⟩) ht hc hm h1
    obtain ⟨hp, hcase⟩ := newS_some h2
    rcases hcase with ⟨_, rfl, rfl⟩ | ⟨hcase, _⟩
    · obtain ⟨v', w', m', hrun, q1, q2, q3, q4⟩ := MadeBy.push (E := ⟨P, B, w0⟩) r hmb hp
      refine ⟨fun f _ => hF.fn f, ?_⟩
      rw [Oper.semAt_eq _ _ _ (comp_nodefer hc), hex]
      have hrun : s.run P w = _ := hrun
      rw [run_v hrun]
      exact hK v' w' m' q1 q2 q3 q4
    · cases hcase
theorem oper_skip {t : T} {w : World} (ht : TR nt m t a.tmps) {cx : Cx} {F : Fence} (hF : FR m cx F) {ops : Array Oper} {i : Nat} {o : Oper} (ho : ops[i]? = some o) {g : Option (Nat × Bool)} (hg : compGuard ops o = some g) (hw : wantedS t g = false)
    {n : Nat} {Q : Exit → Act → World → Prop} {K : Act → World → Prop} (hK : K (a.put o.dst undef) w) : wpOpIn F n P ops Q i K a w := by
  unfold wpOpIn
  simp only [ho, wanted_sim ht hg, hw, Bool.false_eq_true, if_false]
  exact ⟨fun f _ => hF.fn f, hK⟩
theorem oper_do {t : T} {w : World} (ht : TR nt m t a.tmps) {F : Fence} {ops : Array Oper} {i : Nat} {o : Oper} (ho : ops[i]? = some o) {g : Option (Nat × Bool)} (hg : compGuard ops o = some g) (hw : wantedS t g = true)
    {n : Nat} {Q : Exit → Act → World → Prop} {K : Act → World → Prop} (hK : o.wpIn F n P a w K Q) : wpOpIn F n P ops Q i K a w := by
  unfold wpOpIn
  simp only [ho, wanted_sim ht hg, hw, if_true]
  exact hK
theorem ops_plain {R : Rec} (hR : CallOK P R) (hRr : RoundOK P R) {cx : Cx} {F : Fence} {ops : Array Oper} {n : Nat} {Q : Exit → Act → World → Prop} {rb : Nat} : ∀ (l : List Nat) (so : List SOper) (lg : List LogE) (s s' : St) (m : Mp) (a : Act) (w : World),
    mapO (compOper P ops) l = some so → (so.all fun o => match o.dst with | some d => Nat.blt d nt | none => true) = true → opsRun R cx rb so lg s = some s' → SR P B w0 nt m s a w → FR m cx F →
    (∀ a' w' m', m.le m' → Ghost m s.h m' s'.h → SR P B w0 nt m' s' a' w' → Q .normal a' w') → wpOpsIn F n P ops Q l a w
  | [], so, lg, s, s', m, a, w, hc, hb, hs, hr, hF, hQ => by
    cases hc; cases hs
    exact hQ a w m m.le_refl (Ghost.refl _ _) hr
  | i :: l, so, lg, s, s', m, a, w, hc, hb, hs, hr, hF, hQ => by
    unfold mapO at hc
    split at hc
    case h_2 => cases hc
    rename_i o so' h1 h2
    cases hc
    obtain ⟨q1, q2, q3, q4, op, q5, q6, q7, q8⟩ := compOper_some h1
    simp only [List.all_cons, Bool.and_eq_true] at hb
    have hd : ∀ d, op.dst = some d → d < nt := by
      intro d hd
      have := hb.1
      rw [q7, hd] at this
      simpa using this
    rw [opsRun_cons] at hs
    split at hs
    case h_1 => cases hs
    rename_i lg1 s1 v1 hst
    rw [wpOpsIn_cons]
    unfold stepO at hst
    by_cases hw : wantedS s.t o.gd = true
    · rw [if_pos hw] at hst
      split at hst
      case h_1 => cases hst
      rename_i v h' d' hrun
      split at hst
      case isFalse => cases hst
      cases hst
      rw [q2] at hrun
      refine oper_do hr.tr q5 q8 hw (oper_none hR hRr hr.rel hr.tr hF q6 hrun ?_)
      intro v' w' m' k1 k2 k3 k4
      refine ops_plain hR hRr l so' _ _ s' m' _ w' h2 hb.2 hs ⟨?_, ?_, k3⟩ (hF.mono k2) ?_
      · rw [q7]; exact (hr.tr.mono k2).put hd k1
      · rw [put_tmps]; exact hr.ds.mono k2
      · intro a' w'' m'' e1 e2 e3
        exact hQ a' w'' m'' (Mp.le_trans k2 e1) (k4.trans e2) e3
    · rw [if_neg hw] at hst
      cases hst
      refine oper_skip hr.tr hF q5 q8 (by simpa using hw) ?_
      refine ops_plain hR hRr l so' _ _ s' m _ w h2 hb.2 hs ⟨?_, ?_, hr.rel⟩ hF hQ
      · rw [q7]; exact hr.tr.put hd (VR.udf m)
      · rw [put_tmps]; exact hr.ds
end
end Go.Proofs.Ytioijehbmgmgkaa.Sh

namespace Go.Proofs.Ytioijehbmgmgkaa.Sh
open Go Go.RowKit
theorem sput_ne {t : T} {o : Option Nat} {x : Nat} {v : Value} (h : o ≠ some x) : (sput t o v).get x = t.get x := by
  cases o with
  | none => rfl
  | some d => exact T.get_set_ne v (by intro e; exact h (by rw [e]))
theorem sput_same {K : Nat} {t : T} {x : Nat} {v : Value} (hd : t.deep K) (hx : x + 1 < 2 ^ K) : (sput t (some x) v).get x = v := T.get_set_same v hd hx
theorem sput_deep {K : Nat} {t : T} {o : Option Nat} {v : Value} (hd : t.deep K) : (sput t o v).deep K := by
  cases o with
  | none => exact hd
  | some d => exact T.deep_set hd _ _
def TS (al : List SOper) (val : Nat → Value) (t0 : T) (S : Nat → Bool) : Nat → T
  | 0 => t0
  | k + 1 => match al[k]? with
    | some o => if S k then sput (TS al val t0 S k) o.dst (val k) else TS al val t0 S k
    | none => TS al val t0 S k
section
variable {al : List SOper} {val : Nat → Value} {t0 : T} {S S' : Nat → Bool}
theorem TS_deep {K : Nat} (hd : t0.deep K) : ∀ k, (TS al val t0 S k).deep K
  | 0 => hd
  | k + 1 => by
    unfold TS
    split
    · split
      · exact sput_deep (TS_deep hd k)
      · exact TS_deep hd k
    · exact TS_deep hd k
theorem TS_skip {x j : Nat} : ∀ (N : Nat), j ≤ N → (∀ p o, j ≤ p → p < N → al[p]? = some o → o.dst = some x → S p = false) → (TS al val t0 S N).get x = (TS al val t0 S j).get x
  | 0, h, _ => by have : j = 0 := by omega
                  subst this; rfl
  | N + 1, h, hh => by
    by_cases e : j = N + 1
    · subst e; rfl
    · have ih := TS_skip N (by omega) (fun p o h1 h2 => hh p o h1 (by omega))
      rw [← ih]
      conv => lhs; unfold TS
      split
      · rename_i o ho
        split
        · rename_i hs
          exact sput_ne (fun hd => by rw [hh N o (by omega) (by omega) ho hd] at hs; cases hs)
        · rfl
      · rfl
theorem TS_agree {K nt x : Nat} (hd : t0.deep K) (hK : nt < 2 ^ K) (hb : ∀ (p : Nat) (o : SOper) (d : Nat), al[p]? = some o → o.dst = some d → d < nt) : ∀ (j : Nat), (∀ p o, p < j → al[p]? = some o → o.dst = some x → S p = S' p) →
    (TS al val t0 S j).get x = (TS al val t0 S' j).get x
  | 0, _ => rfl
  | j + 1, hh => by
    have ih := TS_agree (x := x) hd hK hb j (fun p o h1 => hh p o (by omega))
    unfold TS
    split
    · rename_i o ho
      by_cases e : o.dst = some x
      · have h1 := hh j o (by omega) ho e
        have hx := hb j o x ho e
        rw [h1, e]
        split
        · rw [sput_same (TS_deep hd j) (by omega), sput_same (TS_deep hd j) (by omega)]
        · exact ih
      · have l : ∀ (S : Nat → Bool), (if S j = true then sput (TS al val t0 S j) o.dst (val j) else TS al val t0 S j).get x = (TS al val t0 S j).get x := by
          intro S
          split
          · exact sput_ne e
          · rfl
        rw [l, l, ih]
    · exact ih
theorem TS_all : ∀ (N : Nat), (∀ k, k < N → S k = true) → TS al val t0 S N = TS al val t0 (fun _ => true) N
  | 0, _ => rfl
  | N + 1, h => by
    unfold TS
    rw [TS_all N (fun k hk => h k (by omega)), h N (by omega)]
end
theorem TR.congr {nt : Nat} {m : Mp} {t t' : T} {a : Array Value} (h : TR nt m t a) (hd : ∃ k, t'.deep k ∧ nt < 2 ^ k) (he : ∀ x, t'.get x = t.get x) : TR nt m t' a :=
  ⟨h.size, hd, fun i => by rw [he]; exact h.get i⟩
def more (S : Nat → Bool) (k : Nat) : Nat → Bool := fun p => p == k || S p
theorem more_same {S : Nat → Bool} {k : Nat} : more S k k = true := by simp [more]
theorem more_ne {S : Nat → Bool} {k p : Nat} (h : p ≠ k) : more S k p = S p := by simp [more, h]
theorem more_false {S : Nat → Bool} {k p : Nat} (h : more S k p = false) : p ≠ k ∧ S p = false := by simpa [more] using h
theorem loadS_gone {h : SHeap} {b : Nat} (hb : h[b]? = some .gone) (o : SO) {agg : Option Nat} {a v : Value} (hl : loadS h agg a = some v) : loadS (h.set b o) agg a = some v := by
  unfold loadS at *
  split at hl
  case h_2 => cases hl
  rename_i c off
  have hne : b ≠ c := by
    intro e; subst e
    split at hl
    · unfold rd1 at hl; rw [hb] at hl; cases hl
    · unfold rdN at hl; rw [hb] at hl; cases hl
  have e1 : ∀ off, rd1 (h.set b o) c off = rd1 h c off := fun off => by unfold rd1; rw [List.getElem?_set_ne hne]
  have e2 : ∀ off n, rdN (h.set b o) c off n = rdN h c off n := fun off n => by unfold rdN; rw [List.getElem?_set_ne hne]
  simp only [e1, e2]
  exact hl
structure Trace (R : Rec) (cx : Cx) (rb : Nat) (al : List SOper) (lgs : Nat → List LogE) (tr : Nat → St) (val : Nat → Value) : Prop where
  step : ∀ (k : Nat) (o : SOper), al[k]? = some o → stepO R cx rb o (lgs k) (tr k) = some (lgs (k + 1), tr (k + 1), val k)
section
variable {R : Rec} {cx : Cx} {rb : Nat} {al : List SOper} {lgs : Nat → List LogE} {tr : Nat → St} {val : Nat → Value}
theorem Trace.cases (H : Trace R cx rb al lgs tr val) {k : Nat} {o : SOper} (hk : al[k]? = some o) :
    (tr (k + 1)).t = sput (tr k).t o.dst (val k) ∧ (tr (k + 1)).ms = (tr k).ms ∧
    ((wantedS (tr k).t o.gd = false ∧ (tr (k + 1)).h = (tr k).h ∧ val k = udf ∧ lgs (k + 1) = lgs k) ∨
     (wantedS (tr k).t o.gd = true ∧ opRun R cx (slotOf rb o.sl) o.op (tr k).t (tr k).h (tr k).d = some (val k, (tr (k + 1)).h, (tr (k + 1)).d) ∧ chkAll (lgs k) o.chk (tr (k + 1)).h = true ∧ lgs (k + 1) = logOf o (tr k).t (val k) ++ lgs k)) := by
  have h := H.step k o hk
  unfold stepO at h
  split at h
  · rename_i hw
    split at h
    · cases h
    · rename_i v h2 d2 hr
      split at h
      · rename_i hc
        simp only [Option.some.injEq, Prod.mk.injEq] at h
        obtain ⟨h3, h4, h5⟩ := h
        rw [← h4, ← h5]
        exact ⟨rfl, rfl, .inr ⟨hw, hr, hc, h3.symm⟩⟩
      · cases h
  · rename_i hw
    simp only [Option.some.injEq, Prod.mk.injEq] at h
    obtain ⟨h3, h4, h5⟩ := h
    rw [← h4, ← h5]
    exact ⟨rfl, rfl, .inl ⟨by simpa using hw, rfl, rfl, h3.symm⟩⟩
theorem Trace.TS (H : Trace R cx rb al lgs tr val) : ∀ k, k ≤ al.length → (tr k).t = Sh.TS al val (tr 0).t (fun _ => true) k ∧ (tr k).ms = (tr 0).ms
  | 0, _ => ⟨rfl, rfl⟩
  | k + 1, h => by
    have hk : al[k]? = some al[k] := by simp
    obtain ⟨h1, h2, _⟩ := H.cases hk
    obtain ⟨h3, h4⟩ := H.TS k (by omega)
    refine ⟨?_, by rw [h2, h4]⟩
    rw [h1, h3]
    conv => rhs; unfold Sh.TS
    rw [hk]; rfl
theorem Trace.log (H : Trace R cx rb al lgs tr val) {k : Nat} {o : SOper} (hk : al[k]? = some o) {agg : Option Nat} {x : Operand} (ho : o.op = .load agg x) (hl : o.lg = true) (hw : wantedS (tr k).t o.gd = true) {v : Value} (hv : ev (tr k).t x = some v) :
    ∀ j, k < j → j ≤ al.length → (⟨o.id, agg, v, val k⟩ : LogE) ∈ lgs j
  | 0, h, _ => by omega
  | j + 1, h, hj => by
    by_cases e : k = j
    · subst e
      obtain ⟨_, _, h1 | ⟨h1, h2, h3, h4⟩⟩ := H.cases hk
      · rw [hw] at h1; cases h1.1
      · rw [h4]
        unfold logOf
        simp [hl, ho, hv]
    · have ih := H.log hk ho hl hw hv j (by omega) (by omega)
      have hk' : al[j]? = some al[j] := by simp
      obtain ⟨_, _, ⟨_, _, _, h4⟩ | ⟨_, _, _, h4⟩⟩ := H.cases hk'
      · rw [h4]; exact ih
      · rw [h4]; exact List.mem_append_right _ ih
end
structure HInv (P : Program) (B : Nat) (w0 : World) (al : List SOper) (rb : Nat) (tr : Nat → St) (val : Nat → Value) (mi : Mp) (hi : SHeap) (S : Nat → Bool) (j : Nat) (m : Mp) (w : World) : Prop where
  rel : Rel ⟨P, B, w0⟩ m (tr j).h w
  gh : Ghost mi hi m (tr j).h
  pl : ∀ (k : Nat) (o : SOper) (s : Nat), al[k]? = some o → makes o.op = true → S k = false → o.sl = some s → m.at (rb + s) = none ∧ ∃ ob, (tr j).h[rb + s]? = some ob
  fl : ∀ (k : Nat) (o : SOper) (s : Nat), k < j → al[k]? = some o → makes o.op = true → S k = false → o.sl = some s → wantedS (tr k).t o.gd = true →
    ∃ cs el pf mk, opMade o.op (tr k).t = some (cs, el, pf, mk) ∧ (tr j).h[rb + s]? = some (.cells cs el pf 0 []) ∧ (pf = true → cs.all sc = true) ∧ val k = mk (rb + s)
  ld : ∀ (k : Nat) (o : SOper) (agg : Option Nat) (x : Operand), k < j → al[k]? = some o → o.op = .load agg x → S k = false → wantedS (tr k).t o.gd = true →
    ∃ v, ev (tr k).t x = some v ∧ loadS (tr j).h agg v = some (val k)
theorem isLd_load {o : SOp} (h : isLd o = true) : ∃ agg x, o = .load agg x := by
  cases o <;> first | (cases h; done) | exact ⟨_, _, rfl⟩
theorem makes_E {o : SOp} (h : makes o = true) : isE o = false ∧ isLd o = false := by
  cases o <;> first | (cases h; done) | exact ⟨rfl, rfl⟩
section
variable {P : Program} {B : Nat} {w0 : World} {ops : Array Oper} {n : Nat} {R : Rec} {cx : Cx} {rb : Nat} {al : List SOper} {lgs : Nat → List LogE} {tr : Nat → St} {val : Nat → Value} {mi m : Mp} {hi : SHeap} {S : Nat → Bool} {w : World}
theorem HInv.advance (F : Facts P ops n al) (H : Trace R cx rb al lgs tr val) (hrb : hi.length = rb) {j : Nat} (I : HInv P B w0 al rb tr val mi hi S j m w) {o : SOper} (hk : al[j]? = some o) (hE : isE o.op = false) (hS : S j = false) :
    HInv P B w0 al rb tr val mi hi S (j + 1) m w := by
  obtain ⟨op, hop, hcomp, _, _⟩ := F.op j o hk
  -- where the heap stays
  have stay : (tr (j + 1)).h = (tr j).h → makes o.op = false ∨ wantedS (tr j).t o.gd = false → (∀ agg x, o.op = .load agg x → wantedS (tr j).t o.gd = true → ∃ v, ev (tr j).t x = some v ∧ loadS (tr j).h agg v = some (val j)) →
      HInv P B w0 al rb tr val mi hi S (j + 1) m w := by
    intro he hm hl
    refine ⟨by rw [he]; exact I.rel, by rw [he]; exact I.gh, fun k o' s h1 h2 h3 h4 => by rw [he]; exact I.pl k o' s h1 h2 h3 h4, ?_, ?_⟩
    · intro k o' s hkj h1 h2 h3 h4 h5
      rw [he]
      by_cases e : k = j
      · subst e
        rw [hk] at h1; cases h1
        rcases hm with hm | hm
        · rw [hm] at h2; cases h2
        · rw [hm] at h5; cases h5
      · exact I.fl k o' s (by omega) h1 h2 h3 h4 h5
    · intro k o' agg x hkj h1 h2 h3 h4
      rw [he]
      by_cases e : k = j
      · subst e
        rw [hk] at h1; cases h1
        exact hl agg x h2 h4
      · exact I.ld k o' agg x (by omega) h1 h2 h3 h4
  obtain ⟨_, _, ⟨hw, hh, hv, _⟩ | ⟨hw, hrun, _, _⟩⟩ := H.cases hk
  · exact stay hh (.inr hw) (fun _ _ _ h => by rw [hw] at h; cases h)
  · cases hm : makes o.op with
    | false =>
      cases hl : isLd o.op with
      | false =>
        obtain ⟨h1, _, _⟩ := pure_op hE hm hl (comp_nomap hcomp) hrun
        exact stay h1 (.inl hm) (fun agg x he => by rw [he] at hl; cases hl)
      | true =>
        obtain ⟨agg, x, he⟩ := isLd_load hl
        rw [he] at hrun
        simp only [opRun, o_load] at hrun
        split at hrun
        case h_2 => cases hrun
        rename_i u hu
        obtain ⟨h1, h2, _⟩ := same_some hrun
        refine stay h2 (.inl hm) (fun agg' x' he' _ => ?_)
        rw [he] at he'; cases he'
        exact ⟨u, hu, h1⟩
    | true =>
      obtain ⟨s, hs, hsn⟩ := F.plc j o hk hm
      obtain ⟨cs, el, pf, mk, b, h1, h2, h3, h4⟩ := opMade_run hm hrun
      obtain ⟨hp, hcase⟩ := newS_some h2
      rw [hs] at hcase
      rcases hcase with ⟨hc, _⟩ | ⟨hc, hg, hset⟩
      · cases hc
      · have hb : b = rb + s := by simp only [slotOf, Option.some.injEq] at hc; exact hc.symm
        subst hb
        obtain ⟨hmn, _⟩ := I.pl j o s hk hm hS hs
        have hlt : rb + s < (tr j).h.length := (List.getElem?_eq_some_iff.1 hg).1
        refine ⟨by rw [hset]; exact I.rel.ghost hmn _, ?_, ?_, ?_, ?_⟩
        · intro c ob hc hmc
          obtain ⟨q1, q2⟩ := I.gh c ob hc hmc
          have hcl : c < hi.length := (List.getElem?_eq_some_iff.1 hc).1
          refine ⟨?_, q2⟩
          rw [hset, List.getElem?_set_ne (by omega)]; exact q1
        · intro k o' s' k1 k2 k3 k4
          obtain ⟨q1, ob, q2⟩ := I.pl k o' s' k1 k2 k3 k4
          refine ⟨q1, ?_⟩
          rw [hset]
          by_cases e : rb + s = rb + s'
          · rw [← e, List.getElem?_set_self hlt]; exact ⟨_, rfl⟩
          · rw [List.getElem?_set_ne e]; exact ⟨ob, q2⟩
        · intro k o' s' hkj k1 k2 k3 k4 k5
          by_cases e : k = j
          · subst e
            rw [hk] at k1; cases k1
            rw [hs] at k4; cases k4
            refine ⟨cs, el, pf, mk, h1, ?_, hp, h3⟩
            rw [hset, List.getElem?_set_self hlt]
          · obtain ⟨cs', el', pf', mk', q1, q2, q3, q4⟩ := I.fl k o' s' (by omega) k1 k2 k3 k4 k5
            refine ⟨cs', el', pf', mk', q1, ?_, q3, q4⟩
            have hne : rb + s ≠ rb + s' := by
              intro e2
              have : s = s' := by omega
              subst this
              exact e (F.pld k j o' o s k1 hk k2 hm k4 hs)
            rw [hset, List.getElem?_set_ne hne]; exact q2
        · intro k o' agg x hkj k1 k2 k3 k4
          by_cases e : k = j
          · subst e
            rw [hk] at k1; cases k1
            rw [k2] at hm; cases hm
          · obtain ⟨v, q1, q2⟩ := I.ld k o' agg x (by omega) k1 k2 k3 k4
            refine ⟨v, q1, ?_⟩
            rw [hset]; exact loadS_gone hg _ q2
theorem HInv.fewer {j k : Nat} (I : HInv P B w0 al rb tr val mi hi S j m w) {m' : Mp} {w' : World} (hr : Rel ⟨P, B, w0⟩ m' (tr j).h w') (hg : ∀ c ob, (tr j).h[c]? = some ob → m.at c = none → (∀ o s, al[k]? = some o → makes o.op = true → o.sl = some s → c ≠ rb + s) → m'.at c = none)
    (F : Facts P ops n al) (hrb : hi.length = rb) : HInv P B w0 al rb tr val mi hi (more S k) j m' w' := by
  refine ⟨hr, ?_, ?_, ?_, ?_⟩
  · intro c ob hc hm
    obtain ⟨q1, q2⟩ := I.gh c ob hc hm
    have hcl : c < hi.length := (List.getElem?_eq_some_iff.1 hc).1
    exact ⟨q1, hg c ob q1 q2 (fun o s _ _ _ => by omega)⟩
  · intro k' o s k1 k2 k3 k4
    obtain ⟨hne, hS⟩ := more_false k3
    obtain ⟨q1, ob, q2⟩ := I.pl k' o s k1 k2 hS k4
    refine ⟨hg _ ob q2 q1 (fun o' s' a1 a2 a3 e => ?_), ob, q2⟩
    have : s = s' := by omega
    subst this
    exact hne (F.pld k' k o o' s k1 a1 k2 a2 k4 a3)
  · intro k' o s hkj k1 k2 k3 k4 k5
    exact I.fl k' o s hkj k1 k2 (more_false k3).2 k4 k5
  · intro k' o agg x hkj k1 k2 k3 k4
    exact I.ld k' o agg x hkj k1 k2 (more_false k3).2 k4
end
end Go.Proofs.Ytioijehbmgmgkaa.Sh

namespace Go.Proofs.Ytioijehbmgmgkaa.Sh
open Go Go.RowKit
theorem ev_get {t t' : T} {x : Operand} (h : ∀ i, tmpOf x = some i → t.get i = t'.get i) : ev t x = ev t' x := by
  cases x with
  | tmp i => show some (t.get i) = some (t'.get i); rw [h i rfl]
  | const v => rfl
  | func f => rfl
  | global g => rfl
theorem wanted_get {t t' : T} {g : Option (Nat × Bool)} (h : ∀ i want, g = some (i, want) → t.get i = t'.get i) : wantedS t g = wantedS t' g := by
  cases g with
  | none => rfl
  | some p =>
    obtain ⟨i, want⟩ := p
    show (match t.get i with | .bool b => b == want | _ => false) = (match t'.get i with | .bool b => b == want | _ => false)
    rw [h i want rfl]
section
variable {P : Program} {B : Nat} {w0 : World} {ops : Array Oper} {n : Nat} {R : Rec} {cx : Cx} {rb : Nat} {al : List SOper} {lgs : Nat → List LogE} {tr : Nat → St} {val : Nat → Value} {mi m : Mp} {hi : SHeap} {S : Nat → Bool} {w : World} {nt : Nat} {a : Act}
theorem pend_run (hR : CallOK P R) (hRr : RoundOK P R) (F : Facts P ops n al) (H : Trace R cx rb al lgs tr val) (hrb : hi.length = rb) {j k : Nat} (I : HInv P B w0 al rb tr val mi hi S j m w) {o : SOper} (hk : al[k]? = some o) (hkj : k < j) (hE : isE o.op = false) (hS : S k = false)
    {T0 : T} (hT : TR nt m T0 a.tmps) {op : Oper} (hop : ops[o.id]? = some op) (hlook : ∀ x, x ∈ op.looksAt ops → T0.get x = (tr k).t.get x) {Fn : Fence} (hF : FR m cx Fn) {q : Nat} {Q : Exit → Act → World → Prop} {K : Act → World → Prop}
    (hK : ∀ v' w' m', VR m' (val k) v' → m.le m' → HInv P B w0 al rb tr val mi hi (more S k) j m' w' → K (a.put op.dst v') w') : wpOpIn Fn q P ops Q o.id K a w := by
  obtain ⟨op', hop', hcomp, hdst, hgd⟩ := F.op k o hk
  rw [hop] at hop'; cases hop'
  have hwant : wantedS T0 o.gd = wantedS (tr k).t o.gd := wanted_get (fun i want hg => hlook i (F.lookg k o op i want hk hop hg))
  have hev : ∀ x ∈ opnds o.op, ev T0 x = ev (tr k).t x := fun x hx => ev_get (fun i hi => hlook i (F.look k o op hk hop x hx i hi))
  have fin : ∀ v' w' m', VR m' (val k) v' → m.le m' → Rel ⟨P, B, w0⟩ m' (tr j).h w' → Ghost m (tr j).h m' (tr j).h → K (a.put op.dst v') w' := by
    intro v' w' m' k1 k2 k3 k4
    exact hK v' w' m' k1 k2 (I.fewer k3 (fun c ob hc hm _ => (k4 c ob hc hm).2) F hrb)
  obtain ⟨_, _, ⟨hw, hh, hv, _⟩ | ⟨hw, hrun, _, _⟩⟩ := H.cases hk
  · refine oper_skip hT hF hop hgd (by rw [hwant]; exact hw) ?_
    exact fin _ _ m (by rw [hv]; exact VR.udf m) m.le_refl I.rel (Ghost.refl _ _)
  · refine oper_do hT hop hgd (by rw [hwant]; exact hw) ?_
    cases hm : makes o.op with
    | true =>
      obtain ⟨s, hs, hsn⟩ := F.plc k o hk hm
      obtain ⟨cs, el, pf, mk, h1, h2, h3, h4⟩ := I.fl k o s hkj hk hm hS hs hw
      obtain ⟨hmn, _⟩ := I.pl k o s hk hm hS hs
      have h1' : opMade o.op T0 = some (cs, el, pf, mk) := by
        rw [← h1]
        cases ho : o.op <;> rw [ho] at hm hev <;> first | (cases hm; done) | skip
        · rfl
        · rename_i el0 pf0 x; have := hev x (by simp [opnds]); simp only [opMade, this]
        · rename_i el0 pf0 z len ps
          have : evp T0 ps = evp (tr k).t ps := evp_congr (fun x hx => hev x.2.2 (List.mem_map.2 ⟨x, hx, rfl⟩))
          simp only [opMade, this]
      obtain ⟨sm, hex, hmb⟩ := made_op (E := ⟨P, B, w0⟩) hT hcomp hm h1'
      obtain ⟨v', w', m', r1, r2, r3, r4, r5⟩ := MadeBy.place (E := ⟨P, B, w0⟩) I.rel hmb h3 hmn h2
      refine ⟨fun f _ => hF.fn f, ?_⟩
      rw [Oper.semAt_eq _ _ _ (comp_nodefer hcomp), hex]
      have r1 : sm.run P w = _ := r1
      rw [run_v r1]
      refine hK v' w' m' (by rw [h4]; exact r2) r3 (I.fewer r4 (fun c ob hc hmc hne => ?_) F hrb)
      rw [r5 c (hne o s hk hm hs)]; exact hmc
    | false =>
      have hrun' : opRun R cx none o.op T0 (tr j).h (tr j).d = some (val k, (tr j).h, (tr j).d) := by
        rw [opRun_congr hev]
        cases hl : isLd o.op with
        | false =>
          obtain ⟨_, _, h3⟩ := pure_op hE hm hl (comp_nomap hcomp) hrun
          exact h3 _ _ _
        | true =>
          obtain ⟨agg, x, he⟩ := isLd_load hl
          obtain ⟨v, h1, h2⟩ := I.ld k o agg x hkj hk he hS hw
          rw [he]
          simp only [opRun, o_load, h1, h2, same]
      exact oper_step hR hRr I.rel hT hF hcomp hm hrun' fin
theorem front_run (hR : CallOK P R) (hRr : RoundOK P R) (F : Facts P ops n al) (H : Trace R cx rb al lgs tr val) (hrb : hi.length = rb) {k : Nat} (I : HInv P B w0 al rb tr val mi hi S k m w) {o : SOper} (hk : al[k]? = some o) (hE : isE o.op = true)
    (hcl : Closed ops (fun i => ∃ (p : Nat) (x : SOper), al[p]? = some x ∧ x.id = i ∧ S p = true))
    {T0 : T} (hT : TR nt m T0 a.tmps) {op : Oper} (hop : ops[o.id]? = some op) (hdeps : ∀ e ∈ op.after, Region.binds .any e = true → ∃ (p : Nat) (x : SOper), al[p]? = some x ∧ x.id = e.on ∧ S p = true)
    (hlook : ∀ x, x ∈ op.looksAt ops → T0.get x = (tr k).t.get x) {Fn : Fence} (hF : FR m cx Fn) {q : Nat} {Q : Exit → Act → World → Prop} {K : Act → World → Prop}
    (hK : ∀ v' w' m', VR m' (val k) v' → m.le m' → HInv P B w0 al rb tr val mi hi (more S k) (k + 1) m' w' → K (a.put op.dst v') w') : wpOpIn Fn q P ops Q o.id K a w := by
  obtain ⟨op', hop', hcomp, hdst, hgd⟩ := F.op k o hk
  rw [hop] at hop'; cases hop'
  have hwant : wantedS T0 o.gd = wantedS (tr k).t o.gd := wanted_get (fun i want hg => hlook i (F.lookg k o op i want hk hop hg))
  have hev : ∀ x ∈ opnds o.op, ev T0 x = ev (tr k).t x := fun x hx => ev_get (fun i hi => hlook i (F.look k o op hk hop x hx i hi))
  have hm : makes o.op = false := by
    cases hm : makes o.op with
    | false => rfl
    | true => rw [(makes_E hm).1] at hE; cases hE
  have hnl : isLd o.op = false := by
    cases hl : isLd o.op with
    | false => rfl
    | true => obtain ⟨agg, x, he⟩ := isLd_load hl; rw [he] at hE; cases hE
  have fin : (∀ (p : Nat) (y : SOper) (agg : Option Nat) (x : Operand), p < k → al[p]? = some y → y.op = .load agg x → S p = false → wantedS (tr p).t y.gd = true → ∃ v, ev (tr p).t x = some v ∧ loadS (tr (k + 1)).h agg v = some (val p)) →
      ∀ v' w' m', VR m' (val k) v' → m.le m' → Rel ⟨P, B, w0⟩ m' (tr (k + 1)).h w' → Ghost m (tr k).h m' (tr (k + 1)).h → K (a.put op.dst v') w' := by
    intro hld v' w' m' k1 k2 k3 k4
    refine hK v' w' m' k1 k2 ⟨k3, I.gh.trans k4, ?_, ?_, ?_⟩
    · intro p y s h1 h2 h3 h4
      obtain ⟨q1, ob, q2⟩ := I.pl p y s h1 h2 (more_false h3).2 h4
      obtain ⟨q3, q4⟩ := k4 _ ob q2 q1
      exact ⟨q4, ob, q3⟩
    · intro p y s hp h1 h2 h3 h4 h5
      obtain ⟨hne, hS⟩ := more_false h3
      obtain ⟨cs, el, pf, mk, q1, q2, q3, q4⟩ := I.fl p y s (by omega) h1 h2 hS h4 h5
      obtain ⟨q5, _⟩ := I.pl p y s h1 h2 hS h4
      exact ⟨cs, el, pf, mk, q1, (k4 _ _ q2 q5).1, q3, q4⟩
    · intro p y agg x hp h1 h2 h3 h4
      obtain ⟨hne, hS⟩ := more_false h3
      exact hld p y agg x (by omega) h1 h2 hS h4
  obtain ⟨_, _, ⟨hw, hh, hv, _⟩ | ⟨hw, hrun, hchk, _⟩⟩ := H.cases hk
  · refine oper_skip hT hF hop hgd (by rw [hwant]; exact hw) ?_
    refine fin ?_ _ _ m (by rw [hv]; exact VR.udf m) m.le_refl (by rw [hh]; exact I.rel) (by rw [hh]; exact Ghost.refl _ _)
    intro p y agg x hp h1 h2 h3 h4
    rw [hh]; exact I.ld p y agg x hp h1 h2 h3 h4
  · refine oper_do hT hop hgd (by rw [hwant]; exact hw) ?_
    have hrun' : opRun R cx (slotOf rb o.sl) o.op T0 (tr k).h (tr k).d = some (val k, (tr (k + 1)).h, (tr (k + 1)).d) := by rw [opRun_congr hev]; exact hrun
    refine oper_step hR hRr I.rel hT hF hcomp hm hrun' (fin ?_)
    intro p y agg x hp h1 h2 h3 h4
    obtain ⟨v, q1, q2⟩ := I.ld p y agg x hp h1 h2 h3 h4
    have hyl : isLd y.op = true := by rw [h2]; rfl
    refine ⟨v, q1, ?_⟩
    rcases F.chk p k y o op hp h1 hk hop hE hyl with hc | hc
    · have hlog := H.log h1 h2 (F.lg p y h1 hyl) h4 q1 k hp (by have := (List.getElem?_eq_some_iff.1 hk).1; omega)
      unfold chkAll at hchk
      have := List.all_eq_true.1 hchk _ hlog
      have hcc : o.chk.contains y.id = true := by simpa using hc
      simp only [hcc, Bool.not_true, Bool.false_or] at this
      split at this
      · rename_i u hu
        rw [hu, vsame_eq this]
      · cases this
    · obtain ⟨p', y', r1, r2, r3⟩ := hc _ hcl hdeps
      have := F.inj p' p y' y r1 h1 r2
      subst this
      rw [h3] at r3; cases r3
structure Inv (P : Program) (B : Nat) (w0 : World) (nt : Nat) (ops : Array Oper) (al : List SOper) (rb : Nat) (tr : Nat → St) (val : Nat → Value) (mi : Mp) (hi : SHeap) (S : Nat → Bool) (f : Nat) (m : Mp) (listed : Array Bool) (a : Act) (w : World) : Prop where
  sz : listed.size = ops.size
  li : ∀ (k : Nat) (o : SOper), al[k]? = some o → listed[o.id]? = some (S k)
  cl : Closed ops (fun i => ∃ (p : Nat) (x : SOper), al[p]? = some x ∧ x.id = i ∧ S p = true)
  fN : f ≤ al.length
  lo : ∀ k, f ≤ k → S k = false
  pe : ∀ (k : Nat) (o : SOper) (op : Oper), k < f → al[k]? = some o → ops[o.id]? = some op → S k = false → isE o.op = false ∧ FreeAt ops al k o op
  fr : f < al.length → SoloAt ops al f
  T : TR nt m (TS al val (tr 0).t S al.length) a.tmps
  H : HInv P B w0 al rb tr val mi hi S f m w
  le : mi.le m
theorem to_front (F : Facts P ops n al) (H : Trace R cx rb al lgs tr val) (hrb : hi.length = rb) : ∀ (c j : Nat), c + j = al.length → HInv P B w0 al rb tr val mi hi S j m w → (∀ k, j ≤ k → S k = false) →
    ∃ f, j ≤ f ∧ f ≤ al.length ∧ HInv P B w0 al rb tr val mi hi S f m w ∧ (∀ (k : Nat) (o : SOper) (op : Oper), j ≤ k → k < f → al[k]? = some o → ops[o.id]? = some op → isE o.op = false ∧ FreeAt ops al k o op) ∧ (f < al.length → SoloAt ops al f)
  | 0, j, hc, I, _ => ⟨j, by omega, by omega, I, fun k o op h1 h2 => by omega, fun h => by omega⟩
  | c + 1, j, hc, I, hS => by
    have hj : al[j]? = some al[j] := by simp
    obtain ⟨op, hop, _⟩ := F.op j _ hj
    rcases F.kind j _ op hj hop with ⟨hE, hfree⟩ | hsolo
    · obtain ⟨f, h1, h2, h3, h4, h5⟩ := to_front F H hrb c (j + 1) (by omega) (I.advance F H hrb hj hE (hS j (by omega))) (fun k hk => hS k (by omega))
      refine ⟨f, by omega, h2, h3, fun k o op' hk1 hk2 ho hop' => ?_, h5⟩
      by_cases e : k = j
      · subst e
        rw [hj] at ho; cases ho
        rw [hop] at hop'; cases hop'
        exact ⟨hE, hfree⟩
      · exact h4 k o op' (by omega) hk2 ho hop'
    · exact ⟨j, by omega, by omega, I, fun k o op h1 h2 => by omega, fun _ => hsolo⟩
end
end Go.Proofs.Ytioijehbmgmgkaa.Sh

namespace Go.Proofs.Ytioijehbmgmgkaa.Sh
open Go Go.RowKit
section
variable {P : Program} {B : Nat} {w0 : World} {ops : Array Oper} {n : Nat} {R : Rec} {cx : Cx} {rb : Nat} {al : List SOper} {lgs : Nat → List LogE} {tr : Nat → St} {val : Nat → Value} {mi : Mp} {hi : SHeap} {nt : Nat}
theorem any_run (hR : CallOK P R) (hRr : RoundOK P R) (F : Facts P ops n al) (H : Trace R cx rb al lgs tr val) (hrb : hi.length = rb) {K0 : Nat} (hdeep : (tr 0).t.deep K0) (hK0 : nt < 2 ^ K0) (hbd : ∀ (p : Nat) (o : SOper) (d : Nat), al[p]? = some o → o.dst = some d → d < nt) {Fn : Fence} {q : Nat} {Q : Exit → Act → World → Prop} :
    ∀ (fuel : Nat) (listed : Array Bool) (a : Act) (w : World) (S : Nat → Bool) (f : Nat) (m : Mp), Inv P B w0 nt ops al rb tr val mi hi S f m listed a w → listed.toList.count false ≤ fuel → FR m cx Fn →
    (∀ a' w' m', mi.le m' → Ghost mi hi m' (tr al.length).h → TR nt m' (tr al.length).t a'.tmps → Rel ⟨P, B, w0⟩ m' (tr al.length).h w' → a'.defers = a.defers → Q .normal a' w') → wpAnyIn Fn q P .any ops Q fuel listed a w := by
  intro fuel
  -- where all have run
  have done : ∀ (listed : Array Bool) (a : Act) (w : World) (S : Nat → Bool) (f : Nat) (m : Mp), Inv P B w0 nt ops al rb tr val mi hi S f m listed a w → Region.ready .any ops listed = [] →
      (∀ a' w' m', mi.le m' → Ghost mi hi m' (tr al.length).h → TR nt m' (tr al.length).t a'.tmps → Rel ⟨P, B, w0⟩ m' (tr al.length).h w' → a'.defers = a.defers → Q .normal a' w') → Q .normal a w := by
    intro listed a w S f m I hr hQ
    have hall : ∀ k, k < al.length → S k = true := by
      intro k
      induction k using Nat.strongRecOn with
      | _ k ih =>
        intro hk
        have hko : al[k]? = some al[k] := by simp
        obtain ⟨op, hop, _⟩ := F.op k _ hko
        cases hS : S k with
        | true => rfl
        | false =>
          exfalso
          have hmem : al[k].id ∈ Region.ready .any ops listed := by
            refine mem_ready.2 ⟨?_, op, hop, ?_⟩
            · have := I.li k _ hko
              rw [Array.getD_eq_getD_getElem?, this, hS]; rfl
            · intro e he hb
              obtain ⟨j, x, hj, hx, hxe⟩ := F.deps k _ op e hko hop he hb
              have hjl : j < al.length := (List.getElem?_eq_some_iff.1 hx).1
              have := I.li j x hx
              rw [← hxe, Array.getD_eq_getD_getElem?, this, ih j hj hjl]; rfl
          rw [hr] at hmem
          cases hmem
    have hf : f = al.length := by
      have := I.fN
      by_cases e : f < al.length
      · have h1 := hall f e
        rw [I.lo f (Nat.le_refl _)] at h1; cases h1
      · omega
    subst hf
    have hT := I.T
    rw [TS_all _ hall, ← (H.TS al.length (Nat.le_refl _)).1] at hT
    exact hQ a w m I.le I.H.gh hT I.H.rel rfl
  induction fuel with
  | zero =>
    intro listed a w S f m I hc _ hQ
    have hnil : Region.ready .any ops listed = [] := by
      cases hr : Region.ready .any ops listed with
      | nil => rfl
      | cons i r =>
        exfalso
        have hmem : i ∈ Region.ready .any ops listed := by rw [hr]; simp
        obtain ⟨h1, op, hop, _⟩ := mem_ready.1 hmem
        have hlt : i < listed.size := by rw [I.sz]; exact (Array.getElem?_eq_some_iff.1 hop).1
        have hmemf : false ∈ listed.toList := by
          have : listed[i]? = some false := by
            rw [Array.getD_eq_getD_getElem?] at h1
            simp [hlt] at h1 ⊢
            exact h1
          exact Array.mem_toList_iff.2 (Array.mem_of_getElem? this)
        have := List.count_pos_iff.2 hmemf
        omega
    exact ⟨hnil, done listed a w S f m I hnil hQ⟩
  | succ fuel ih =>
    intro listed a w S f m I hc hF hQ
    refine ⟨fun hnil => done listed a w S f m I hnil hQ, fun i hi0 => ?_⟩
    obtain ⟨hl, op, hop, hdep⟩ := mem_ready.1 hi0
    have hilt : i < ops.size := (Array.getElem?_eq_some_iff.1 hop).1
    obtain ⟨k, o, hk, rfl⟩ := F.surj i hilt
    have hkl : k < al.length := (List.getElem?_eq_some_iff.1 hk).1
    have hSk : S k = false := by
      have := I.li k o hk
      rw [Array.getD_eq_getD_getElem?, this] at hl
      exact hl
    have hdeps : ∀ e ∈ op.after, Region.binds .any e = true → ∃ (p : Nat) (x : SOper), al[p]? = some x ∧ x.id = e.on ∧ S p = true := by
      intro e he hb
      have h1 := hdep e he hb
      obtain ⟨j, x, hj, hx, hxe⟩ := F.deps k o op e hk hop he hb
      refine ⟨j, x, hx, hxe, ?_⟩
      have := I.li j x hx
      rw [← hxe, Array.getD_eq_getD_getElem?, this] at h1
      exact h1
    have hkf : k ≤ f := by
      by_cases e : k ≤ f
      · exact e
      · exfalso
        obtain ⟨e1, he1, hb1, hn1⟩ := I.fr (by omega) k o op (by omega) hk hop
        obtain ⟨p, x, hp, hpe, hSp⟩ := hdeps e1 he1 hb1
        by_cases hpf : p < f
        · exact hn1 p x hpf hp hpe
        · rw [I.lo p (by omega)] at hSp; cases hSp
    -- those before k that write where it looks have run; those behind have not
    have hbefore : ∀ p y d, p < k → al[p]? = some y → y.dst = some d → d ∈ op.looksAt ops → S p = true := by
      intro p y d hpk hp hd hlk
      cases hSp : S p with
      | true => rfl
      | false =>
        exfalso
        obtain ⟨yop, hyop, _, hyd, _⟩ := F.op p y hp
        obtain ⟨_, hfree⟩ := I.pe p y yop (by omega) hp hyop hSp
        rcases hfree k o op hpk hk hop with ⟨e, he, hb, heq⟩ | hap
        · obtain ⟨p', x', h1, h2, h3⟩ := hdeps e he hb
          have := F.inj p' p x' y h1 hp (by rw [h2, heq])
          subst this
          rw [hSp] at h3; cases h3
        · exact (Oper.apart_spec hap).1 d (by rw [← hyd]; exact hd) hlk
    have hbehind : ∀ p y, k < p → al[p]? = some y → S p = true → ∃ yop, ops[y.id]? = some yop ∧ yop.dst = y.dst ∧ op.apart ops yop = true := by
      intro p y hkp hp hSp
      have hpf : p < f := by
        by_cases e : p < f
        · exact e
        · rw [I.lo p (by omega)] at hSp; cases hSp
      obtain ⟨yop, hyop, _, hyd, _⟩ := F.op p y hp
      obtain ⟨_, hfree⟩ := I.pe k o op (by omega) hk hop hSk
      rcases hfree p y yop hkp hp hyop with ⟨e, he, hb, heq⟩ | hap
      · exfalso
        obtain ⟨p', x', h1, h2, h3⟩ := I.cl y.id yop e hyop ⟨p, y, hp, rfl, hSp⟩ he hb
        have := F.inj p' k x' o h1 hk (by rw [h2, heq])
        subst this
        rw [hSk] at h3; cases h3
      · exact ⟨yop, hyop, hyd.symm, hap⟩
    obtain ⟨_, _, _, hodst, _⟩ := F.op k o hk
    have hodst : o.dst = op.dst := by
      obtain ⟨op', h1, _, h2, _⟩ := F.op k o hk
      rw [hop] at h1; cases h1; exact h2
    have hlook : ∀ x, x ∈ op.looksAt ops → (TS al val (tr 0).t S al.length).get x = (tr k).t.get x := by
      intro x hx
      rw [(H.TS k (by omega)).1, TS_skip (j := k) al.length (by omega) ?_, TS_agree hdeep hK0 hbd k ?_]
      · intro p y hpk hp hd
        rw [hbefore p y x hpk hp hd hx]
      · intro p y hkp hpN hp hd
        cases hSp : S p with
        | false => rfl
        | true =>
          exfalso
          by_cases e : p = k
          · subst e; rw [hSk] at hSp; cases hSp
          · obtain ⟨yop, _, hyd, hap⟩ := hbehind p y (by omega) hp hSp
            exact (Oper.apart_spec hap).2.2 x (by rw [hyd]; exact hd) hx
    have hT2 : ∀ v' m', m.le m' → VR m' (val k) v' → TR nt m' (TS al val (tr 0).t (more S k) al.length) (a.put op.dst v').tmps := by
      intro v' m' hm hv
      have h1 : TR nt m' (sput (TS al val (tr 0).t S al.length) op.dst (val k)) (a.put op.dst v').tmps :=
        (I.T.mono hm).put (fun d hd => hbd k o d hk (by rw [hodst]; exact hd)) hv
      refine h1.congr ⟨K0, TS_deep hdeep _, hK0⟩ (fun x => ?_)
      by_cases hx : op.dst = some x
      · have hxb := hbd k o x hk (by rw [hodst]; exact hx)
        rw [hx, sput_same (TS_deep hdeep _) (by omega)]
        rw [TS_skip (j := k + 1) al.length (by omega) ?_]
        · conv => lhs; unfold TS
          rw [hk]
          simp only [more_same, if_true]
          rw [hodst, hx, sput_same (TS_deep hdeep _) (by omega)]
        · intro p y hkp hpN hp hd
          rw [more_ne (by omega)]
          cases hSp : S p with
          | false => rfl
          | true =>
            exfalso
            obtain ⟨yop, _, hyd, hap⟩ := hbehind p y (by omega) hp hSp
            exact (Oper.apart_spec hap).2.1 x hx (by rw [hyd]; exact hd)
      · rw [sput_ne hx]
        refine TS_agree hdeep hK0 hbd al.length (fun p y hpN hp hd => more_ne ?_)
        intro e; subst e
        rw [hk] at hp; cases hp
        rw [hodst] at hd; exact hx hd
    have hcl2 : Closed ops (fun i => ∃ (p : Nat) (x : SOper), al[p]? = some x ∧ x.id = i ∧ more S k p = true) := by
      intro i' op' e' hop' hex he' hb'
      obtain ⟨p, x, hp, hxi, hSp⟩ := hex
      by_cases e : p = k
      · subst e
        rw [hk] at hp; cases hp
        rw [hxi, hop'] at hop; cases hop
        obtain ⟨p', x', h1, h2, h3⟩ := hdeps e' he' hb'
        exact ⟨p', x', h1, h2, by simp [more, h3]⟩
      · rw [more_ne e] at hSp
        obtain ⟨p', x', h1, h2, h3⟩ := I.cl i' op' e' hop' ⟨p, x, hp, hxi, hSp⟩ he' hb'
        exact ⟨p', x', h1, h2, by simp [more, h3]⟩
    have hli2 : ∀ (p : Nat) (y : SOper), al[p]? = some y → (listed.setIfInBounds o.id true)[y.id]? = some (more S k p) := by
      intro p y hp
      by_cases e : p = k
      · subst e
        rw [hk] at hp; cases hp
        have : o.id < listed.size := by rw [I.sz]; exact hilt
        rw [more_same]; simp [this]
      · rw [more_ne e, Array.getElem?_setIfInBounds_ne (fun e2 => e (F.inj p k y o hp hk e2.symm))]
        exact I.li p y hp
    have hcount : (listed.setIfInBounds o.id true).toList.count false ≤ fuel := by
      have hlt : o.id < listed.toList.length := by simp [I.sz, hilt]
      have hval : listed.toList[o.id] = false := by
        have := I.li k o hk
        rw [hSk] at this
        have h2 : o.id < listed.size := by rw [I.sz]; exact hilt
        simp [h2] at this
        simpa using this
      rw [Array.toList_setIfInBounds, List.count_set hlt, hval]
      have e1 : (if (false == false) = true then 1 else 0 : Nat) = 1 := rfl
      have e2 : (if (true == false) = true then 1 else 0 : Nat) = 0 := rfl
      rw [e1, e2]
      omega
    -- what follows
    have next : ∀ (f' : Nat) (v' : Value) (w' : World) (m' : Mp), f ≤ f' → k < f' → f' ≤ al.length → VR m' (val k) v' → m.le m' → HInv P B w0 al rb tr val mi hi (more S k) f' m' w' →
        (∀ (p : Nat) (y : SOper) (yop : Oper), f ≤ p → p < f' → p ≠ k → al[p]? = some y → ops[y.id]? = some yop → isE y.op = false ∧ FreeAt ops al p y yop) → (f' < al.length → SoloAt ops al f') →
        wpAnyIn Fn q P .any ops Q fuel (listed.setIfInBounds o.id true) (a.put op.dst v') w' := by
      intro f' v' w' m' hff hkf' hfN hv hm HI hpe hfr
      refine ih _ _ _ (more S k) f' m' ⟨by simpa using I.sz, hli2, hcl2, hfN, ?_, ?_, hfr, hT2 v' m' hm hv, HI, Mp.le_trans I.le hm⟩ hcount (hF.mono hm) ?_
      · intro p hp
        rw [more_ne (by omega)]
        exact I.lo p (by omega)
      · intro p y yop hp hy hyop hSp
        obtain ⟨hne, hSp⟩ := more_false hSp
        by_cases e : p < f
        · exact I.pe p y yop e hy hyop hSp
        · exact hpe p y yop (by omega) hp hne hy hyop
      · intro a' w'' m'' e1 e2 e3 e4 e5
        exact hQ a' w'' m'' e1 e2 e3 e4 (by rw [e5, put_tmps])
    by_cases hlt : k < f
    · -- it had waited
      obtain ⟨hE, _⟩ := I.pe k o op hlt hk hop hSk
      refine pend_run hR hRr F H hrb I.H hk hlt hE hSk I.T hop hlook hF (fun v' w' m' k1 k2 k3 => ?_)
      exact next f v' w' m' (Nat.le_refl _) hlt I.fN k1 k2 k3 (fun p y yop h1 h2 => by omega) I.fr
    · have hkf2 : k = f := by omega
      subst hkf2
      have after : ∀ v' w' m', VR m' (val k) v' → m.le m' → HInv P B w0 al rb tr val mi hi (more S k) (k + 1) m' w' → wpAnyIn Fn q P .any ops Q fuel (listed.setIfInBounds o.id true) (a.put op.dst v') w' := by
        intro v' w' m' k1 k2 k3
        obtain ⟨f', h1, h2, h3, h4, h5⟩ := to_front F H hrb (al.length - (k + 1)) (k + 1) (by omega) k3 (fun p hp => by rw [more_ne (by omega)]; exact I.lo p (by omega))
        exact next f' v' w' m' (by omega) (by omega) h2 k1 k2 h3 (fun p y yop q1 q2 q3 => h4 p y yop (by omega) q2) h5
      cases hE : isE o.op with
      | false => exact pend_run hR hRr F H hrb (I.H.advance F H hrb hk hE hSk) hk (by omega) hE hSk I.T hop hlook hF after
      | true => exact front_run hR hRr F H hrb I.H hk hE I.cl I.T hop hdeps hlook hF after
end
end Go.Proofs.Ytioijehbmgmgkaa.Sh

namespace Go.Proofs.Ytioijehbmgmgkaa.Sh
open Go Go.RowKit
theorem repl_get {α : Type} {x : α} {n i : Nat} : (List.replicate n x)[i]? = if i < n then some x else none := by
  by_cases h : i < n
  · simp [h]
  · rw [if_neg h, List.getElem?_eq_none (by simp; omega)]
theorem TS_none {al : List SOper} {val : Nat → Value} {t0 : T} : ∀ N, TS al val t0 (fun _ => false) N = t0
  | 0 => rfl
  | N + 1 => by
    unfold TS
    rw [TS_none N]
    split <;> simp
def exR : Ex → Exit
  | .normal => .normal
  | .exit id => .exit id
  | .ret => .ret
def XP (P : Program) (B : Nat) (w0 : World) (nt : Nat) (m : Mp) (h : SHeap) (ex : Ex) (s' : St) (e : Exit) (a' : Act) (w' : World) : Prop :=
  e = exR ex ∧ ∃ m', m.le m' ∧ Ghost m h m' s'.h ∧ SR P B w0 nt m' s' a' w'
section
variable {P : Program} {B : Nat} {w0 : World} {R : Rec} {cx : Cx} {nt : Nat}
theorem region_ok (hmix : P.follows .mixedOrders = true) (hR : CallOK P R) (hRr : RoundOK P R) {ops : Array Oper} {draw : Bool} {id : Nat} {c : SCode} (hc : compRegion P ops draw = some c) (hb : bounded nt c = true) {s s' : St} {ex : Ex} (hx : exec R cx c s = some (ex, s'))
    {m : Mp} {a : Act} {w : World} (hs : SR P B w0 nt m s a w) {Fn : Fence} (hF : FR m cx Fn) {q : Nat} {Q : Exit → Act → World → Prop} (hQ : ∀ e a' w', XP P B w0 nt m s.h ex s' e a' w' → Q e a' w') : (Code.region id ops draw).wpIn Fn q P Q a w := by
  unfold compRegion at hc
  split at hc
  · cases hc
  rename_i so hso
  cases draw with
  | false =>
    simp only [Bool.false_eq_true, if_false, Option.some.injEq] at hc
    subst hc
    simp only [exec, List.replicate_zero, List.append_nil] at hx
    split at hx
    case h_2 => cases hx
    rename_i s1 hrun
    cases hx
    simp only [bounded] at hb
    have e0 : ({ s with h := s.h } : St) = s := rfl
    refine wpIn_region (ops_plain hR hRr _ so [] s s' m a w hso hb hrun hs hF ?_)
    intro a' w' m' h1 h2 h3
    exact hQ _ _ _ ⟨rfl, m', h1, h2, h3⟩
  | true =>
    simp only [if_true] at hc
    split at hc
    case isTrue => cases hc
    rename_i hni
    split at hc
    case h_2 => cases hc
    rename_i l hl
    split at hc
    case h_2 => cases hc
    rename_i al han
    split at hc
    case isFalse => cases hc
    rename_i hcond
    simp only [Bool.and_eq_true] at hcond
    cases hc
    have F := facts_of hso han hcond.1 hcond.2
    generalize countMakes so = n at *
    simp only [exec] at hx
    split at hx
    case h_2 => cases hx
    rename_i s1 hrun
    cases hx
    obtain ⟨lgs, tr, val, h1, h2, h3, h4⟩ := trace_of al [] _ s' hrun
    have H : Trace R cx s.h.length al lgs tr val := ⟨h4⟩
    have hbd : ∀ (p : Nat) (o : SOper) (d : Nat), al[p]? = some o → o.dst = some d → d < nt := by
      intro p o d hp hd
      have := List.all_eq_true.1 hb o (List.mem_of_getElem? hp)
      rw [hd] at this
      simpa using this
    obtain ⟨K0, hdeep, hK0⟩ := hs.tr.deep
    have r1 : Rel ⟨P, B, w0⟩ m s.h { w with drawn := w.drawn + 1 } := hs.rel.drew _
    have r0 := r1.gones n
    have hlm : m.length = s.h.length := hs.rel.len
    have hat : ∀ c, m.at c = none → Mp.at (m ++ List.replicate n none) c = none := by
      intro c hc
      rw [Mp.at_none] at hc ⊢
      unfold Mp.full at hc ⊢
      by_cases e : c < m.length
      · rw [List.getElem?_append_left e]; exact hc
      · rw [List.getElem?_append_right (by omega), repl_get]
        split <;> rfl
    have hout : ∀ c, m.length ≤ c → m.at c = none := by
      intro c hc
      rw [Mp.at_none]; unfold Mp.full; rw [List.getElem?_eq_none hc]; rfl
    have hin : HInv P B w0 al s.h.length tr val m s.h (fun _ => false) 0 (m ++ List.replicate n none) { w with drawn := w.drawn + 1 } := by
      refine ⟨by rw [h2]; exact r0, ?_, ?_, ?_, ?_⟩
      · intro c ob hc hm
        have hcl : c < s.h.length := (List.getElem?_eq_some_iff.1 hc).1
        rw [h2]
        refine ⟨?_, hat c hm⟩
        show (s.h ++ List.replicate n SO.gone)[c]? = _
        rw [List.getElem?_append_left hcl]; exact hc
      · intro k o sl hk hm _ hsl
        obtain ⟨sl', e1, e2⟩ := F.plc k o hk hm
        rw [hsl] at e1; cases e1
        refine ⟨hat _ (hout _ (by omega)), .gone, ?_⟩
        rw [h2]
        show (s.h ++ List.replicate n SO.gone)[s.h.length + sl]? = _
        rw [List.getElem?_append_right (by omega), repl_get, if_pos (by omega)]
      · intro k o sl hk; omega
      · intro k o agg x hk; omega
    obtain ⟨f, q1, q2, q3, q4, q5⟩ := to_front F H rfl al.length 0 (by omega) hin (fun _ _ => rfl)
    have hle0 : m.le (m ++ List.replicate n none) := Mp.le_append _ _
    refine wpIn_region_any hmix (any_run hR hRr F H rfl (by rw [h2]; exact hdeep) hK0 hbd ops.size _ a _ (fun _ => false) f (m ++ List.replicate n none) ⟨by simp, ?_, ?_, q2, fun _ _ => rfl, ?_, q5, ?_, q3, hle0⟩ ?_ (hF.mono hle0) ?_)
    · intro k o hk
      obtain ⟨op, hop, _⟩ := F.op k o hk
      have : o.id < ops.size := (Array.getElem?_eq_some_iff.1 hop).1
      simp [this]
    · intro i op e _ hh
      obtain ⟨_, _, _, _, hf⟩ := hh
      cases hf
    · intro k o op hk hko hop _
      exact q4 k o op (by omega) hk hko hop
    · rw [TS_none, h2]; exact hs.tr.mono hle0
    · have := List.count_le_length (a := false) (l := (Array.replicate ops.size false).toList)
      simpa using this
    · intro a' w' m' e1 e2 e3 e4 e5
      rw [h3] at e2 e3 e4
      refine hQ _ _ _ ⟨rfl, m', e1, e2, e3, ?_, e4⟩
      have hms : s'.ms = s.ms := by rw [← h3, (H.TS al.length (Nat.le_refl _)).2, h2]
      rw [e5, hms]; exact hs.ds.mono e1
end
end Go.Proofs.Ytioijehbmgmgkaa.Sh

namespace Go.Proofs.Ytioijehbmgmgkaa.Sh
open Go Go.RowKit
def LoopOK (P : Program) (R : Rec) (k : Nat) : Prop := ∀ (B : Nat) (w0 : World) (nt : Nat) (cx : Cx) (code : Code) (c : SCode) (s : St) (ex : Ex) (s' : St) (m : Mp) (a : Act) (w : World) (F : Fence) (q : Nat) (Q : Exit → Act → World → Prop),
  compCode P code = some c → bounded nt c = true → R.loop cx c s = some (ex, s') → SR P B w0 nt m s a w → FR m cx F → (∀ e a' w', XP P B w0 nt m s.h ex s' e a' w' → Q e a' w') → Code.roundsIn F q P code Q k a w
theorem XP.trans {P : Program} {B : Nat} {w0 : World} {nt : Nat} {m m1 : Mp} {h h1 : SHeap} {ex : Ex} {s' : St} {e : Exit} {a' : Act} {w' : World} (hm : m.le m1) (hg : Ghost m h m1 h1) (x : XP P B w0 nt m1 h1 ex s' e a' w') : XP P B w0 nt m h ex s' e a' w' := by
  obtain ⟨h1, m', h2, h3, h4⟩ := x
  exact ⟨h1, m', Mp.le_trans hm h2, hg.trans h3, h4⟩
theorem setLoop_some {h : SHeap} {l st : Nat} {pend : Option SCode} {st0 fn t ps as body pend0 df} (hl : h[l]? = some (.loop st0 fn t ps as body pend0 df)) : setLoop h l st pend = h.set l (.loop st fn t ps as body pend df) := by
  unfold setLoop; rw [hl]
theorem Ghost.set {m : Mp} {h : SHeap} {l : Nat} {o : SO} {x} (hl : m.at l = some x) : Ghost m h m (h.set l o) := by
  intro c ob hc hm
  refine ⟨?_, hm⟩
  rw [List.getElem?_set_ne (by intro e; subst e; rw [hl] at hm; cases hm)]
  exact hc
theorem Rel.setLoop {E : Env} {m : Mp} {h : SHeap} {w : World} (r : Rel E m h w) {l A st st0 fn : Nat} {t : T} {ps : List Nat} {as body : SCode} {pend pend0 : Option SCode} {df : Nat} (hl : h[l]? = some (.loop st0 fn t ps as body pend0 df)) (hm : m.at l = some (A, 0))
    {lr lr' : Loop} (hr : w.heap[A]? = some (.loop lr)) (hk : LoopR E.P m st0 fn t ps as body pend0 df lr) (he : lr' = { lr with state := lr'.state, pending := lr'.pending }) (hst : stR st lr'.state) (hpe : PendR pend lr'.pending) :
    Rel E m (Sh.setLoop h l st pend) (w.putObj A (.loop lr')) := by
  rw [setLoop_some hl]
  refine r.replace (ob := .loop lr) hl hm rfl (by intros; intro e; cases e) (by intros; intro e; cases e) hr (by intros; intro e; cases e) ?_
  have hA : A < w.heap.size := (Array.getElem?_eq_some_iff.1 hr).1
  refine ⟨rfl, lr', World.putObj_heap_same hA, ?_⟩
  rw [he]
  exact ⟨hst, hk.hps, hk.has, hk.hbody, hpe, hk.hdf, hk.htm⟩
section
variable {P : Program} {B : Nat} {w0 : World} {R : Rec} {nt : Nat}
theorem rangeFunc_ok (hR : CallOK P R) {cx : Cx} {g : Operand} {ps : Array Tmp} {x y : Code} {as body : SCode} (hx : compCode P x = some as) (hy : compCode P y = some body) (hg : okO g = true) (hb : bounded nt (.rangeFunc g ps.toList as body) = true)
    {s s' : St} {ex : Ex} (hs : exec R cx (.rangeFunc g ps.toList as body) s = some (ex, s')) {m : Mp} {a : Act} {w : World} (hsr : SR P B w0 nt m s a w) {F : Fence} (hF : FR m cx F) {q : Nat} {Q : Exit → Act → World → Prop}
    (hQ : ∀ e a' w', XP P B w0 nt m s.h ex s' e a' w' → Q e a' w') : (Code.rangeFunc g ps x y).wpIn F q P Q a w := by
  simp only [exec] at hs
  split at hs
  case h_2 => cases hs
  rename_i gf first cap hev
  obtain ⟨first', cap', hfe, hl1, hl2⟩ : ∃ first' cap', a.eval g = .func (.func gf) first' cap' ∧ LR m first.toList first'.toList ∧ LR m cap.toList cap'.toList := by
    have hfr := ev_sim hsr.tr hg hev
    generalize a.eval g = fr at hfr ⊢
    cases hfr with
    | func x1 x2 x3 x4 => exact ⟨_, _, rfl, ⟨x1, x3⟩, ⟨x2, x4⟩⟩
  simp only [bounded, Bool.and_eq_true] at hb
  -- once the record is laid
  have main : ∀ (m1 : Mp) (h1 : SHeap) (mk : List Nat) (df dA : Nat) (w1 : World) (mark : List Deferred), m.le m1 → Ghost m s.h m1 h1 → Rel ⟨P, B, w0⟩ m1 h1 w1 → m1.at df = some (dA, 0) → DR m1 mk (mark ++ a.defers) →
      (match R.call gf (first.toList ++ [.func (.yield h1.length) #[] #[]] ++ cap.toList) (h1 ++ [.loop 0 cx.fn s.t ps.toList as body none df]) with
        | none => none
        | some (_, h2, d2) =>
          match h2[h1.length]? with
          | some (.loop st _ _ _ _ _ pend _) =>
            if st == 1 then none
            else match pend with
              | none => some (Ex.normal, (⟨s.t, mk, Sh.setLoop h2 h1.length 3 none, dirts cx.base d2 s.d⟩ : St))
              | some .ret => some (.ret, ⟨s.t, mk, Sh.setLoop h2 h1.length 3 (some .ret), dirts cx.base d2 s.d⟩)
              | some (.exit id) => some (.exit id, ⟨s.t, mk, Sh.setLoop h2 h1.length 3 (some (.exit id)), dirts cx.base d2 s.d⟩)
              | _ => none
          | _ => none) = some (ex, s') →
      ∀ fn, ∃ (w₂ : World) (d : Deferred) (f : FuncId) (args : Array Value), w₂ = w1.alloc (.loop { state := .ready, pending := none, fn, tmps := a.tmps, params := ps, assign := x, body := y, defers := dA }) ∧
        (resolve a.eval (rangeCall g w1.heap.size) 0).run P w₂ = .ok d w₂ ∧ (invoke d.target d.args).run P w₂ = .ok (.enter f args) w₂ ∧
        CallsIn F (q - 1) P f args w₂ (rangePost F q P w1.heap.size Q { a with defers := mark ++ a.defers }) := by
    intro m1 h1 mk df dA w1 mark hm1 hg1 r1 hdf hdr hcall fn
    split at hcall
    case h_1 => cases hcall
    rename_i v2 h2 d2 hrc
    -- the record
    have r2 : Rel ⟨P, B, w0⟩ (m1 ++ [some ((w1.heap.size, 0), none)]) (h1 ++ [.loop 0 cx.fn s.t ps.toList as body none df]) (w1.alloc (.loop { state := .ready, pending := none, fn, tmps := a.tmps, params := ps, assign := x, body := y, defers := dA })) := by
      refine Rel.push (o := .loop 0 cx.fn s.t ps.toList as body none df) r1 rfl none (fun w' hw' => ?_) (fun K s e => by cases e)
      exact ⟨rfl, _, hw', ⟨trivial, rfl, hx, hy, .none, Mp.le_at (Mp.le_append _ _) hdf, nt, (hsr.tr.mono hm1).mono (Mp.le_append _ _), hb.1.2, hb.2, hb.1.1⟩⟩
    have hlen : m1.length = h1.length := r1.len
    have hml : Mp.at (m1 ++ [some ((w1.heap.size, 0), none)]) h1.length = some (w1.heap.size, 0) := by rw [← hlen, Mp.at_snoc]; rfl
    have hmm : m.le (m1 ++ [some ((w1.heap.size, 0), none)]) := Mp.le_trans hm1 (Mp.le_append _ _)
    have hargs : LR (m1 ++ [some ((w1.heap.size, 0), none)]) (first.toList ++ [.func (.yield h1.length) #[] #[]] ++ cap.toList) (first'.toList ++ [.func (.yield w1.heap.size) #[] #[]] ++ cap'.toList) :=
      ((hl1.mono hmm).append ((LR.nil _).cons (.yield hml))).append (hl2.mono hmm)
    obtain ⟨⟨fn0, k1, k2, k3⟩, hcalls⟩ := hR B w0 gf _ _ v2 h2 d2 _ _ _ hrc r2 hargs
    have k3' : ¬ fn0.body = none := by intro h; rw [h] at k3; cases k3
    refine ⟨_, { target := .fn (.func gf) cap', args := first' ++ #[Value.func (Fn.yield w1.heap.size) #[] #[]] }, gf, (first'.toList ++ [Value.func (Fn.yield w1.heap.size) #[] #[]] ++ cap'.toList).toArray, rfl, ?_, ?_, ?_⟩
    · have hce : ∀ v, a.eval (.const v) = v := fun _ => rfl
      simp [resolve, hfe, Deferred.ofValue, hce]
    · have : first' ++ #[Value.func (Fn.yield w1.heap.size) #[] #[]] ++ cap' = (first'.toList ++ [Value.func (Fn.yield w1.heap.size) #[] #[]] ++ cap'.toList).toArray := by apply Array.ext'; simp
      simp [invoke, callFunc, k1, k2, k3']
    · refine hF.calls (CallsIn.mono (hcalls (q - 1)) ?_)
      intro e w3 he
      cases e with
      | panicked c => exact he.elim
      | outgrown => exact he.elim
      | returned v' =>
        obtain ⟨m3, q1, q2, q3, q4⟩ := he
        have hml3 := Mp.le_at q2 hml
        split at hcall
        case h_2 => cases hcall
        rename_i st _ _ _ _ _ pend _ hl2
        obtain ⟨_, lr, e2, e3⟩ := q3.obj _ _ _ _ hl2 hml3
        split at hcall
        · cases hcall
        rename_i hst
        have hbusy : lr.state ≠ .busy := by
          intro hbb
          have := e3.hst
          rw [hbb] at this
          unfold stR at this
          split at this <;> first | (simp at hst; done) | (cases this; done) | (rename_i e4; cases e4) | skip
          all_goals simp_all
        refine ⟨lr.pending, _, run_endLoop e2 hbusy, ?_⟩
        have rs : ∀ pend', pend' = pend → Rel ⟨P, B, w0⟩ m3 (Sh.setLoop h2 h1.length 3 pend') (w3.putObj w1.heap.size (.loop { lr with state := .exhausted })) := by
          intro pend' hp'
          subst hp'
          exact q3.setLoop hl2 hml3 e2 e3 rfl trivial e3.hpend
        have hgh : ∀ pend', Ghost m s.h m3 (Sh.setLoop h2 h1.length 3 pend') := by
          intro pend'
          rw [setLoop_some hl2]
          exact ((hg1.trans (Ghost.push hlen)).trans q4).trans (Ghost.set hml3)
        have hle3 : m.le m3 := Mp.le_trans hmm q2
        have hdr3 : DR m3 mk (mark ++ a.defers) := (hdr.mono (Mp.le_append _ _)).mono q2
        have hpp := e3.hpend
        generalize w3.putObj w1.heap.size (Obj.loop { lr with state := .exhausted }) = W at rs ⊢
        split at hcall
        · cases hcall
          have : lr.pending = none := by generalize lr.pending = z at hpp; cases hpp; rfl
          rw [this]
          exact hQ _ _ _ ⟨rfl, m3, hle3, hgh _, hsr.tr.mono hle3, hdr3, rs none rfl⟩
        · cases hcall
          have : lr.pending = some .ret := by generalize lr.pending = z at hpp; cases hpp; rfl
          rw [this]
          exact wpIn_ret (hQ _ _ _ ⟨rfl, m3, hle3, hgh _, hsr.tr.mono hle3, hdr3, rs (some .ret) rfl⟩)
        · rename_i id
          cases hcall
          have : lr.pending = some (.exit id) := by generalize lr.pending = z at hpp; cases hpp; rfl
          rw [this]
          exact wpIn_exit (hQ _ _ _ ⟨rfl, m3, hle3, hgh _, hsr.tr.mono hle3, hdr3, rs (some (.exit id)) rfl⟩)
        · cases hcall
  refine wpIn_rangeFunc (fun fn _ => ?_)
  rcases hF with ⟨hrn, rfl⟩ | ⟨l, A, hrn, rfl, hml⟩
  · rw [hrn] at hs
    simp only at hs
    have r1 : Rel ⟨P, B, w0⟩ (m ++ [some ((w.heap.size, 0), none)]) (s.h ++ [.deferred]) (w.alloc (.deferred (some []))) :=
      Rel.push (o := .deferred) hsr.rel rfl none (fun w' hw' => ⟨rfl, hw'⟩) (fun K s e => by cases e)
    have hlen : m.length = s.h.length := hsr.rel.len
    have hdf : Mp.at (m ++ [some ((w.heap.size, 0), none)]) s.h.length = some (w.heap.size, 0) := by rw [← hlen, Mp.at_snoc]; rfl
    obtain ⟨w₂, d, f, args, e1, e2, e3, e4⟩ := main _ _ (s.h.length :: s.ms) s.h.length w.heap.size _ [{ target := .collected w.heap.size, args := #[] }] (Mp.le_append _ _) (Ghost.push hlen) r1 hdf (.cons hdf (hsr.ds.mono (Mp.le_append _ _))) hs fn
    have hsz : (w.alloc (.deferred (some []))).heap.size = w.heap.size + 1 := by rw [World.size_alloc]
    rw [hsz] at e2 e4
    refine ⟨_, _, w₂, d, w₂, f, args, w₂, ?_, e2, fun _ _ => trivial, e3, (by intro k; cases k), e4⟩
    rw [e1]
    exact run_enterLoop_outer fn a.tmps ps x y
  · rw [hrn] at hs
    simp only at hs
    split at hs
    case h_1 => cases hs
    rename_i h1 mk df hfind
    split at hfind
    case h_2 => cases hfind
    rename_i st0 fn0 t0 ps0 as0 body0 pend0 df0 hl
    cases hfind
    obtain ⟨_, lr, e2, e3⟩ := hsr.rel.obj _ _ _ _ hl hml
    have hF' : FR m cx (Fence.wide.inRound A) := .inr ⟨l, A, hrn, rfl, hml⟩
    obtain ⟨w₂, d, f, args, g1, g2, g3, g4⟩ := main m s.h s.ms df lr.defers w [] m.le_refl (Ghost.refl _ _) hsr.rel e3.hdf hsr.ds hs fn
    refine ⟨_, _, w₂, d, w₂, f, args, w₂, ?_, g2, fun _ _ => trivial, g3, (by intro k; cases k), g4⟩
    rw [g1]
    have := run_enterLoop_inner (P := P) (l₀ := A) (r₀ := lr) e2 fn a.tmps ps x y
    exact this
end
end Go.Proofs.Ytioijehbmgmgkaa.Sh

namespace Go.Proofs.Ytioijehbmgmgkaa.Sh
open Go Go.RowKit
section
variable {P : Program} {B : Nat} {w0 : World} {R : Rec}
theorem exec_ok (hmix : P.follows .mixedOrders = true) (hR : CallOK P R) (hRr : RoundOK P R) {k : Nat} (hRl : LoopOK P R k) : ∀ (code : Code) (nt : Nat) (cx : Cx) (c : SCode) (s s' : St) (ex : Ex) (m : Mp) (a : Act) (w : World) (F : Fence) (q : Nat) (Q : Exit → Act → World → Prop),
    compCode P code = some c → bounded nt c = true → exec R cx c s = some (ex, s') → SR P B w0 nt m s a w → FR m cx F → (∀ e a' w', XP P B w0 nt m s.h ex s' e a' w' → Q e a' w') → code.wpIn F q P Q a w := by
  intro code
  induction code with
  | skip =>
    intro nt cx c s s' ex m a w F q Q hc hb hs hsr hF hQ
    cases hc; cases hs
    exact wpIn_skip (hQ _ _ _ ⟨rfl, m, m.le_refl, Ghost.refl _ _, hsr⟩)
  | label l =>
    intro nt cx c s s' ex m a w F q Q hc hb hs hsr hF hQ
    cases hc; cases hs
    exact wpIn_label (hQ _ _ _ ⟨rfl, m, m.le_refl, Ghost.refl _ _, hsr⟩)
  | region id ops draw =>
    intro nt cx c s s' ex m a w F q Q hc hb hs hsr hF hQ
    exact region_ok hmix hR hRr hc hb hs hsr hF hQ
  | scope c0 ih =>
    intro nt cx c s s' ex m a w F q Q hc hb hs hsr hF hQ
    refine wpIn_scope' (ih nt cx c s s' ex m a w F q _ hc hb hs hsr hF ?_)
    intro e a' w' hx
    have h1 := hQ e a' w' hx
    obtain ⟨rfl, _⟩ := hx
    cases ex <;> exact h1
  | seq x y ihx ihy =>
    intro nt cx c s s' ex m a w F q Q hc hb hs hsr hF hQ
    simp only [compCode] at hc
    split at hc
    case h_2 => cases hc
    rename_i cx' cy hcx hcy
    cases hc
    simp only [bounded, Bool.and_eq_true] at hb
    simp only [exec] at hs
    cases hex : exec R cx cx' s with
    | none => rw [hex] at hs; cases hs
    | some r =>
      obtain ⟨ex1, s1⟩ := r
      rw [hex] at hs
      refine wpIn_seq (ihx nt cx cx' s s1 ex1 m a w F q _ hcx hb.1 hex hsr hF ?_)
      intro e a1 w1 hx
      cases ex1 with
      | normal =>
        obtain ⟨rfl, m1, h1, h2, h3⟩ := hx
        exact ihy nt cx cy s1 s' ex m1 a1 w1 F q Q hcy hb.2 hs h3 (hF.mono h1) (fun e a' w' hx => hQ e a' w' (XP.trans h1 h2 hx))
      | exit id =>
        cases hs
        have := hQ e a1 w1 hx
        obtain ⟨rfl, _⟩ := hx
        exact this
      | ret =>
        cases hs
        have := hQ e a1 w1 hx
        obtain ⟨rfl, _⟩ := hx
        exact this
  | cond c0 x y ihx ihy =>
    intro nt cx c s s' ex m a w F q Q hc hb hs hsr hF hQ
    simp only [compCode] at hc
    split at hc
    case h_2 => cases hc
    rename_i cx' cy hcx hcy
    split at hc
    case isFalse => cases hc
    rename_i hok
    cases hc
    simp only [bounded, Bool.and_eq_true] at hb
    simp only [exec] at hs
    split at hs
    case h_2 => cases hs
    rename_i b hev
    have hv := (ev_sim hsr.tr hok hev).bool_inv
    cases b with
    | true =>
      simp only [if_true] at hs
      exact wpIn_cond_true hv (ihx nt cx cx' s s' ex m a w F q Q hcx hb.1 hs hsr hF hQ)
    | false =>
      simp only [Bool.false_eq_true, if_false] at hs
      exact wpIn_cond_false hv (ihy nt cx cy s s' ex m a w F q Q hcy hb.2 hs hsr hF hQ)
  | block id c0 ih =>
    intro nt cx c s s' ex m a w F q Q hc hb hs hsr hF hQ
    obtain ⟨c1, hc1, rfl⟩ := map_some' hc
    simp only [bounded] at hb
    simp only [exec] at hs
    cases hex : exec R cx c1 s with
    | none => rw [hex] at hs; cases hs
    | some r =>
      obtain ⟨ex1, s1⟩ := r
      rw [hex] at hs
      refine wpIn_block (ih nt cx c1 s s1 ex1 m a w F q _ hc1 hb hex hsr hF ?_)
      intro e a1 w1 hx
      cases ex1 with
      | normal =>
        cases hs
        have := hQ e a1 w1 hx
        obtain ⟨rfl, _⟩ := hx
        exact this
      | ret =>
        cases hs
        have := hQ e a1 w1 hx
        obtain ⟨rfl, _⟩ := hx
        exact this
      | exit j =>
        simp only at hs
        obtain ⟨rfl, hx⟩ := hx
        simp only [exR, Exit.inBlock]
        by_cases e : j = id
        · subst e
          simp only [beq_self_eq_true, if_true, Option.some.injEq, Prod.mk.injEq] at hs
          obtain ⟨rfl, rfl⟩ := hs
          rw [if_pos rfl]
          exact hQ _ _ _ ⟨rfl, hx⟩
        · simp only [beq_iff_eq, e, if_false, Option.some.injEq, Prod.mk.injEq] at hs
          obtain ⟨rfl, rfl⟩ := hs
          rw [if_neg e]
          exact hQ _ _ _ ⟨rfl, hx⟩
  | loop c0 ih =>
    intro nt cx c s s' ex m a w F q Q hc hb hs hsr hF hQ
    obtain ⟨c1, hc1, rfl⟩ := map_some' hc
    simp only [bounded] at hb
    simp only [exec] at hs
    exact wpIn_loop_rounds k (hRl B w0 nt cx c0 c1 s ex s' m a w F q Q hc1 hb hs hsr hF hQ)
  | rangeFunc g ps x y ihx ihy =>
    intro nt cx c s s' ex m a w F q Q hc hb hs hsr hF hQ
    simp only [compCode] at hc
    split at hc
    case h_2 => cases hc
    rename_i cx' cy hcx hcy
    split at hc
    case isFalse => cases hc
    rename_i hok
    cases hc
    exact rangeFunc_ok hR hcx hcy hok hb hs hsr hF hQ
  | exit id =>
    intro nt cx c s s' ex m a w F q Q hc hb hs hsr hF hQ
    cases hc; cases hs
    exact wpIn_exit (hQ _ _ _ ⟨rfl, m, m.le_refl, Ghost.refl _ _, hsr⟩)
  | ret =>
    intro nt cx c s s' ex m a w F q Q hc hb hs hsr hF hQ
    cases hc; cases hs
    exact wpIn_ret (hQ _ _ _ ⟨rfl, m, m.le_refl, Ghost.refl _ _, hsr⟩)
  | goto l => intro nt cx c s s' ex m a w F q Q hc; cases hc
  | refuse why => intro nt cx c s s' ex m a w F q Q hc; cases hc
theorem loop_ok (hmix : P.follows .mixedOrders = true) (hR : CallOK P R) (hRr : RoundOK P R) {k : Nat} (hRl : LoopOK P R k) : LoopOK P ⟨R.call, R.round, stepLoop R⟩ (k + 1) := by
  intro B w0 nt cx code c s ex s' m a w F q Q hc hb hs hsr hF hQ
  rw [roundsIn_succ]
  simp only [stepLoop] at hs
  cases hex : exec R cx c s with
  | none => rw [hex] at hs; cases hs
  | some r =>
    obtain ⟨ex1, s1⟩ := r
    rw [hex] at hs
    refine exec_ok hmix hR hRr hRl code nt cx c s s1 ex1 m a w F q _ hc hb hex hsr hF ?_
    intro e a1 w1 hx
    cases ex1 with
    | normal =>
      obtain ⟨rfl, m1, h1, h2, h3⟩ := hx
      exact hRl B w0 nt cx code c s1 ex s' m1 a1 w1 F q Q hc hb hs h3 (hF.mono h1) (fun e a' w' hx => hQ e a' w' (XP.trans h1 h2 hx))
    | exit id =>
      cases hs
      have := hQ e a1 w1 hx
      obtain ⟨rfl, _⟩ := hx
      exact this
    | ret =>
      cases hs
      have := hQ e a1 w1 hx
      obtain ⟨rfl, _⟩ := hx
      exact this
theorem zip_TR {nt : Nat} {m : Mp} : ∀ (ps : List Nat) (args args' : List Value) (t : T) (a : Array Value), TR nt m t a → ps.all (fun d => Nat.blt d nt) = true → LR m args args' →
    TR nt m (zipSet t ps args) ((ps.zip args').foldl (fun tmps (p : Nat × Value) => tmps.setIfInBounds p.1 p.2) a)
  | [], args, args', t, a, h, _, _ => by simpa [zipSet] using h
  | p :: ps, [], args', t, a, h, _, hl => by rw [hl.nil_inv]; simpa [zipSet] using h
  | p :: ps, x :: args, args', t, a, h, hb, hl => by
    obtain ⟨y, r, rfl, h1, h2⟩ := hl.cons_inv
    simp only [List.all_cons, Bool.and_eq_true, Nat.blt_eq] at hb
    exact zip_TR ps args r _ _ (h.set hb.1 h1) hb.2 h2
theorem roundTmps_eq (r : Loop) (args : Array Value) : roundTmps r args = (r.params.toList.zip args.toList).foldl (fun tmps (p : Nat × Value) => tmps.setIfInBounds p.1 p.2) r.tmps := by
  unfold roundTmps
  rw [← Array.foldl_toList, Array.toList_zip]
theorem round_ok (hmix : P.follows .mixedOrders = true) (hR : CallOK P R) (hRr : RoundOK P R) {k : Nat} (hRl : LoopOK P R k) : RoundOK P ⟨R.call, stepRound R, R.loop⟩ := by
  intro B w0 base l args h v h' d' m w args' A hs r hl hml
  simp only [stepRound] at hs
  split at hs
  case h_2 => cases hs
  rename_i fn t ps as body pend df hhl
  split at hs
  case isFalse => cases hs
  rename_i hlen
  simp only [beq_iff_eq] at hlen
  rw [fZip_eq] at hs
  obtain ⟨_, lr, e2, e3⟩ := r.obj _ _ _ _ hhl hml
  have hpl : args'.length = lr.params.size := by rw [← hl.1, hlen, ← e3.hps]; simp
  refine ⟨lr, e2, hpl, fun n => ?_⟩
  obtain ⟨nt, htr, hb1, hb2, hb3⟩ := e3.htm
  split at hs
  case h_2 => cases hs
  rename_i s1 hex1
  split at hs
  case h_2 => cases hs
  rename_i fn2 t2 ps2 as2 body2 pend2 df2 hl1
  rw [fH_eq] at hs
  have hF : ∀ m', m.le m' → FR m' ⟨base, some l, fn⟩ (Fence.wide.inRound A) := fun m' hm => .inr ⟨l, A, rfl, rfl, Mp.le_at hm hml⟩
  have htr1 : TR nt m (zipSet t ps args) (roundTmps lr args'.toArray) := by
    rw [roundTmps_eq, e3.hps]
    exact zip_TR ps args args' t lr.tmps htr hb3 hl
  refine roundIn_of_wpIn (F := Fence.wide) trivial ?_
  refine exec_ok hmix hR hRr hRl lr.assign nt ⟨base, some l, fn⟩ as ⟨zipSet t ps args, [], h, []⟩ s1 .normal m _ w _ n _ e3.has hb1 hex1 ⟨htr1, .nil, r⟩ (hF m m.le_refl) ?_
  rintro e a1 w1 ⟨rfl, m1, h1, h2, h3⟩
  obtain ⟨_, lr1, e4, e5⟩ := h3.rel.obj _ _ _ _ hl1 (Mp.le_at h1 hml)
  have hready : lr1.state = .ready := by
    have := e5.hst
    generalize lr1.state = z at this
    cases z <;> first | rfl | (exact this.elim)
  refine ⟨_, run_beginRound e4 hready, ?_⟩
  have r1 : Rel ⟨P, B, w0⟩ m1 (setLoop s1.h l 1 pend2) (w1.putObj A (.loop { lr1 with state := .busy })) := h3.rel.setLoop hl1 (Mp.le_at h1 hml) e4 e5 rfl trivial e5.hpend
  split at hs
  case h_2 => cases hs
  rename_i ex s2 hex2
  refine exec_ok hmix hR hRr hRl lr.body nt ⟨base, some l, fn⟩ body _ s2 ex m1 a1 _ _ n _ e3.hbody hb2 hex2 ⟨h3.tr, h3.ds, r1⟩ (hF m1 h1) ?_
  intro e a2 w2 hx
  obtain ⟨he, m2, h4, h5, h6⟩ := hx
  split at hs
  case h_2 => cases hs
  rename_i st3 fn3 t3 ps3 as3 body3 pend3 df3 hl2
  cases hs
  have hml2 := Mp.le_at h4 (Mp.le_at h1 hml)
  obtain ⟨_, lr2, e6, e7⟩ := h6.rel.obj _ _ _ _ hl2 hml2
  have hgh : ∀ st pd, Ghost m h m2 (setLoop s2.h l st pd) := by
    intro st pd
    rw [setLoop_some hl2]
    refine (h2.trans ?_).trans (Ghost.set hml2)
    refine Ghost.trans ?_ h5
    show Ghost m1 s1.h m1 (setLoop s1.h l 1 pend2)
    rw [setLoop_some hl1]
    exact Ghost.set (Mp.le_at h1 hml)
  have hle : m.le m2 := Mp.le_trans h1 h4
  subst he
  cases ex with
  | normal =>
    refine ⟨_, _, run_endRound none e6, m2, .bool _, hle, ?_, hgh _ _⟩
    exact h6.rel.setLoop hl2 hml2 e6 e7 rfl trivial .none
  | ret =>
    refine ⟨_, _, run_endRound (some .ret) e6, m2, .bool _, hle, ?_, hgh _ _⟩
    exact h6.rel.setLoop hl2 hml2 e6 e7 rfl trivial .ret
  | exit id =>
    refine ⟨_, _, run_endRound (some (.exit id)) e6, m2, .bool _, hle, ?_, hgh _ _⟩
    exact h6.rel.setLoop hl2 hml2 e6 e7 rfl trivial (.exit id)
end
end Go.Proofs.Ytioijehbmgmgkaa.Sh

namespace Go.Proofs.Ytioijehbmgmgkaa.Sh
open Go Go.RowKit
def KO (d : List Nat) (b : Nat) : SO → SO → Prop
  | .cells cs el pf own old, .cells cs' el' pf' own' old' => el' = el ∧ pf' = pf ∧ (∀ c ∈ old', c ∈ old) ∧ (pf = false → b ∉ d → cs' = cs) ∧ (own = 2 → own' = 2)
  | .map pf es, .map pf' es' => pf' = pf ∧ (pf = false → b ∉ d → es' = es)
  | .loop _ fn t ps as body _ df, .loop _ fn' t' ps' as' body' _ df' => fn' = fn ∧ t' = t ∧ ps' = ps ∧ as' = as ∧ body' = body ∧ df' = df
  | .deferred, .deferred => True
  | .iter mb _ n, .iter mb' _ n' => mb' = mb ∧ n' = n
  | .gone, .gone => True
  | _, _ => False
theorem KO.refl (d : List Nat) (b : Nat) (o : SO) : KO d b o o := by
  cases o <;> simp [KO]
theorem KO.trans {d1 d2 : List Nat} {b : Nat} {o1 o2 o3 : SO} (h : KO d1 b o1 o2) (k : KO d2 b o2 o3) (hd : ∀ c ∈ d1, c ∈ d2) : KO d2 b o1 o3 := by
  cases o1 <;> cases o2 <;> simp only [KO] at h <;> cases o3 <;> simp only [KO] at k ⊢
  · obtain ⟨rfl, rfl, h3, h4, h5⟩ := h
    obtain ⟨rfl, rfl, k3, k4, k5⟩ := k
    exact ⟨rfl, rfl, fun c hc => h3 c (k3 c hc), fun hp hb => (k4 hp hb).trans (h4 hp (fun hh => hb (hd _ hh))), fun h => k5 (h5 h)⟩
  · obtain ⟨rfl, rfl, rfl, rfl, rfl, rfl⟩ := h
    exact k
  · obtain ⟨rfl, h4⟩ := h
    obtain ⟨rfl, k4⟩ := k
    exact ⟨rfl, fun hp hb => (k4 hp hb).trans (h4 hp (fun hh => hb (hd _ hh)))⟩
  · exact ⟨k.1.trans h.1, k.2.trans h.2⟩
def Keep (base : Nat) (h h' : SHeap) (d : List Nat) : Prop := h.length ≤ h'.length ∧ ∀ b o, b < base → h[b]? = some o → ∃ o', h'[b]? = some o' ∧ KO d b o o'
theorem Keep.refl (base : Nat) (h : SHeap) (d : List Nat) : Keep base h h d := ⟨Nat.le_refl _, fun b o _ hb => ⟨o, hb, KO.refl _ _ _⟩⟩
theorem Keep.trans {base : Nat} {h1 h2 h3 : SHeap} {d1 d2 : List Nat} (x : Keep base h1 h2 d1) (y : Keep base h2 h3 d2) (hd : ∀ c ∈ d1, c ∈ d2) : Keep base h1 h3 d2 :=
  ⟨Nat.le_trans x.1 y.1, fun b o hb ho => let ⟨o2, h2, k2⟩ := x.2 b o hb ho; let ⟨o3, h3, k3⟩ := y.2 b o2 hb h2; ⟨o3, h3, k2.trans k3 hd⟩⟩
theorem Keep.push (base : Nat) (h : SHeap) (l : List SO) (d : List Nat) : Keep base h (h ++ l) d :=
  ⟨by simp, fun b o _ hb => ⟨o, by rw [List.getElem?_append_left (List.getElem?_eq_some_iff.1 hb).1]; exact hb, KO.refl _ _ _⟩⟩
theorem Keep.set_high {base : Nat} {h : SHeap} {l : Nat} (hl : base ≤ l) (o : SO) (d : List Nat) : Keep base h (h.set l o) d :=
  ⟨by simp, fun b ob hb hob => ⟨ob, by rw [List.getElem?_set_ne (by omega)]; exact hob, KO.refl _ _ _⟩⟩
theorem Keep.more {base : Nat} {h h' : SHeap} {d d' : List Nat} (x : Keep base h h' d) (hd : ∀ c ∈ d, c < base → c ∈ d') : Keep base h h' d' := by
  refine ⟨x.1, fun b o hb ho => ?_⟩
  obtain ⟨o', h1, h2⟩ := x.2 b o hb ho
  refine ⟨o', h1, ?_⟩
  cases o <;> cases o' <;> simp only [KO] at h2 ⊢
  · exact ⟨h2.1, h2.2.1, h2.2.2.1, fun hp hn => h2.2.2.2.1 hp (fun hh => hn (hd b hh hb)), h2.2.2.2.2⟩
  · exact h2
  · exact ⟨h2.1, fun hp hn => h2.2 hp (fun hh => hn (hd b hh hb))⟩
  · exact h2
theorem Keep.low {base base' : Nat} {h h' : SHeap} {d : List Nat} (x : Keep base h h' d) (hb : base' ≤ base) : Keep base' h h' d := ⟨x.1, fun b o k => x.2 b o (by omega)⟩
theorem KO.killed (d : List Nat) (b : Nat) (o : SO) : KO d b o (killed o) := by
  cases o <;> simp [KO, Sh.killed]
theorem Keep.killAll (base : Nat) (h : SHeap) (l : List Nat) (d : List Nat) : Keep base h (killAll h l) d := by
  refine ⟨by rw [killAll_len]; exact Nat.le_refl _, fun b o _ hb => ?_⟩
  rw [killAll_get, hb]
  split
  · exact ⟨_, rfl, KO.killed _ _ _⟩
  · exact ⟨_, rfl, KO.refl _ _ _⟩
theorem Keep.share (base : Nat) (h : SHeap) (c : Nat) (d : List Nat) {cs el pf old} (hc : h[c]? = some (.cells cs el pf 0 old)) : Keep base h (share h c) d := by
  refine ⟨by rw [share_len]; exact Nat.le_refl _, fun b o _ hb => ?_⟩
  rw [share_get', hb]
  split
  · rename_i e
    subst e
    rw [hc] at hb; cases hb
    exact ⟨_, rfl, rfl, rfl, fun _ h => h, fun _ _ => rfl, fun h => by cases h⟩
  · exact ⟨_, rfl, KO.refl _ _ _⟩
theorem dirty_sub (base b : Nat) (pf : Bool) (d : List Nat) : ∀ c ∈ d, c ∈ dirty base b pf d := by
  intro c hc; unfold dirty; split
  · exact hc
  · exact List.mem_cons_of_mem _ hc
theorem dirty_mem {base b : Nat} {pf : Bool} {d : List Nat} (hb : b < base) (hp : pf = false) : b ∈ dirty base b pf d := by
  unfold dirty
  rw [if_neg]
  · exact List.mem_cons_self
  · simp [hp]; omega
def KeepD (base : Nat) (h : SHeap) (d : List Nat) (h' : SHeap) (d' : List Nat) : Prop := (∀ c ∈ d, c ∈ d') ∧ Keep base h h' d'
theorem KeepD.refl (base : Nat) (h : SHeap) (d : List Nat) : KeepD base h d h d := ⟨fun _ h => h, Keep.refl _ _ _⟩
theorem KeepD.trans {base : Nat} {h1 h2 h3 : SHeap} {d1 d2 d3 : List Nat} (x : KeepD base h1 d1 h2 d2) (y : KeepD base h2 d2 h3 d3) : KeepD base h1 d1 h3 d3 :=
  ⟨fun c hc => y.1 c (x.1 c hc), x.2.trans y.2 y.1⟩
theorem storeS_keep {base : Nat} {h h' : SHeap} {d d' : List Nat} {b o : Nat} {vs : List Value} (hs : storeS base h d b o vs = some (h', d')) : KeepD base h d h' d' := by
  unfold storeS at hs
  split at hs
  case h_2 => cases hs
  rename_i cs el pf own old hb
  split at hs
  case isFalse => cases hs
  cases hs
  refine ⟨dirty_sub _ _ _ _, by simp [killAll_len], fun c ob hc hob => ?_⟩
  by_cases e : b = c
  · subst e
    rw [hb] at hob; cases hob
    have hl : b < (killAll h old).length := by rw [killAll_len]; exact (List.getElem?_eq_some_iff.1 hb).1
    rw [List.getElem?_set_self hl]
    exact ⟨_, rfl, rfl, rfl, fun c hc => by simp at hc, fun hp hn => absurd (dirty_mem hc hp) hn, fun h2 => by rename_i hcc; simp [h2] at hcc⟩
  · rw [List.getElem?_set_ne e]
    exact (Keep.killAll base h old _).2 c ob hc hob
theorem newS_keep {base : Nat} {h h' : SHeap} {sl : Option Nat} {cs : List Value} {el : TypeId} {pf : Bool} {b : Nat} (hsl : ∀ s, sl = some s → base ≤ s) (hs : newS h sl cs el pf = some (b, h')) (d : List Nat) : KeepD base h d h' d := by
  obtain ⟨_, ⟨_, _, rfl⟩ | ⟨h1, _, rfl⟩⟩ := newS_some hs
  · exact ⟨fun _ h => h, Keep.push _ _ _ _⟩
  · exact ⟨fun _ h => h, Keep.set_high (hsl b h1) _ _⟩
theorem appendS_keep {base : Nat} {h h' : SHeap} {d d' : List Nat} {el : TypeId} {pf : Bool} {size bytes : Nat} {x y v : Value} (hs : appendS base h d el pf size bytes x y = some (v, h', d')) : KeepD base h d h' d' := by
  unfold appendS at hs
  split at hs
  case h_2 => cases hs
  split at hs
  · cases hs; exact KeepD.refl _ _ _
  split at hs
  case isFalse => cases hs
  split at hs
  case h_2 => cases hs
  split at hs
  case isFalse => cases hs
  simp only at hs
  split at hs
  · cases hs; exact ⟨fun _ h => h, Keep.push _ _ _ _⟩
  · split at hs
    · split at hs
      · rename_i hbb
        split at hs
        case isFalse => cases hs
        rename_i hcc
        simp only [Bool.and_eq_true, beq_iff_eq] at hcc
        rw [hcc.1.1.1] at hbb
        split at hs
        · cases hs; exact ⟨fun _ h => h, (Keep.share _ _ _ _ hbb).trans (Keep.push _ _ _ d) (fun _ h => h)⟩
        · cases hs; exact ⟨fun _ h => h, (Keep.killAll _ _ _ _).trans (Keep.push _ _ _ d) (fun _ h => h)⟩
      · cases hs
    · split at hs
      · split at hs
        · rename_i h2 d2 hst
          cases hs; exact storeS_keep hst
        · cases hs
      · cases hs; exact ⟨fun _ h => h, Keep.push _ _ _ _⟩
  · cases hs
theorem copyS_keep {base : Nat} {h h' : SHeap} {d d' : List Nat} {size : Nat} {x y v : Value} (hs : copyS base h d size x y = some (v, h', d')) : KeepD base h d h' d' := by
  unfold copyS at hs
  split at hs
  case h_2 => cases hs
  simp only at hs
  split at hs
  case h_2 => cases hs
  split at hs
  · cases hs; exact KeepD.refl _ _ _
  · split at hs
    · cases hs; exact KeepD.refl _ _ _
    · split at hs
      · rename_i h2 d2 hst
        cases hs; exact storeS_keep hst
      · cases hs
  · cases hs
def CallKeep (R : Rec) : Prop := ∀ f args h v h' d', R.call f args h = some (v, h', d') → Keep h.length h h' d'
def RoundKeep (R : Rec) : Prop := ∀ base l args h v h' d', base ≤ h.length → R.round base l args h = some (v, h', d') → Keep base h h' d'
def StKeep (cx : Cx) (s s' : St) : Prop := KeepD cx.base s.h s.d s'.h s'.d ∧ ((∀ b ∈ s.ms, cx.base ≤ b) → ∀ b ∈ s'.ms, cx.base ≤ b)
def LoopKeep (R : Rec) : Prop := ∀ cx c s ex s', cx.base ≤ s.h.length → R.loop cx c s = some (ex, s') → StKeep cx s s'
theorem dirts_keep {base : Nat} {h h' : SHeap} {d d' : List Nat} (hk : Keep h.length h h' d') (hb : base ≤ h.length) : KeepD base h d h' (dirts base d' d) := by
  refine ⟨fun c hc => List.mem_append_right _ hc, (hk.low hb).more (fun c hc hcb => List.mem_append_left _ ?_)⟩
  rw [List.mem_filter]
  refine ⟨hc, ?_⟩
  have : Nat.ble base c = false := by
    cases h : Nat.ble base c with
    | false => rfl
    | true => have := Nat.le_of_ble_eq_true h; omega
  rw [this]; rfl
section
variable {R : Rec}
theorem same_keep {v : Option Value} {x : Value} {h h' : SHeap} {d d' : List Nat} (base : Nat) (k : same v h d = some (x, h', d')) : KeepD base h d h' d' := by
  obtain ⟨_, rfl, rfl⟩ := same_some k
  exact KeepD.refl _ _ _
theorem op_keep (hC : CallKeep R) (hRo : RoundKeep R) {cx : Cx} {sl : Option Nat} (hsl : ∀ s, sl = some s → cx.base ≤ s) {o : SOp} {t : T} {h h' : SHeap} {d d' : List Nat} {v : Value} (hb : cx.base ≤ h.length) (hs : opRun R cx sl o t h d = some (v, h', d')) : KeepD cx.base h d h' d' := by
  cases o <;> simp only [opRun, o_mov, o_pick, o_alloc, o_box, o_build, o_buildSlice, o_load, o_store, o_nilCheck, o_bin, o_eq, o_un, o_conv, o_fieldAddr, o_field, o_idxArr, o_idxSl, o_idx, o_slice, o_sliceArr, o_makeFunc, o_extract, o_len, o_append, o_copy, o_maxi, o_mini, o_makeSlice, o_call, o_makeMap, o_lookup, o_mapUpdate, o_mapLen, o_idxStr, o_clear] at hs
  case call f args =>
    split at hs
    case h_2 => cases hs
    unfold callS at hs
    split at hs
    · split at hs
      · rename_i hc; cases hs; exact dirts_keep (hC _ _ _ _ _ _ hc) hb
      · cases hs
    · split at hs
      case isFalse => cases hs
      split at hs
      · rename_i hc
        cases hs
        exact ⟨fun c hc => List.mem_append_right _ hc, (hRo _ _ _ _ _ _ _ hb hc).more (fun c hc _ => List.mem_append_left _ hc)⟩
      · cases hs
    · cases hs
  case makeMap pf => cases hs; exact ⟨fun _ h => h, Keep.push _ _ _ _⟩
  case mapUpdate q m k v =>
    split at hs
    case h_2 => cases hs
    rename_i r _ _ _ _ _
    split at hs
    case isFalse => cases hs
    split at hs
    case h_2 => cases hs
    rename_i pf es hr
    split at hs
    case isFalse => cases hs
    split at hs
    case h_2 => cases hs
    cases hs
    refine ⟨dirty_sub _ _ _ _, by simp, fun c ob hc hob => ?_⟩
    by_cases e : r = c
    · subst e
      rw [hr] at hob; cases hob
      rw [List.getElem?_set_self (List.getElem?_eq_some_iff.1 hr).1]
      exact ⟨_, rfl, rfl, fun hp hn => absurd (dirty_mem hc hp) hn⟩
    · rw [List.getElem?_set_ne e]
      exact ⟨ob, hob, KO.refl _ _ _⟩
  all_goals
    (repeat' split at hs)
    all_goals first
      | (cases hs; done)
      | (cases hs; exact KeepD.refl _ _ _)
      | exact same_keep _ hs
      | exact appendS_keep hs
      | exact copyS_keep hs
      | (rename_i hn; cases hs; exact newS_keep hsl hn _)
      | (rename_i hn; cases hs; exact newS_keep (fun s e => by cases e) hn _)
      | (rename_i hst; cases hs; exact storeS_keep hst)
      | (rename_i hst _; cases hs; exact storeS_keep hst)
      | skip
theorem slotOf_le {rb base : Nat} (hb : base ≤ rb) (sl : Option Nat) : ∀ s, slotOf rb sl = some s → base ≤ s := by
  intro s hs
  cases sl with
  | none => cases hs
  | some k => cases hs; omega
theorem ops_keep (hC : CallKeep R) (hRo : RoundKeep R) {cx : Cx} {rb : Nat} (hrb : cx.base ≤ rb) : ∀ (l : List SOper) (lg : List LogE) (s s' : St), cx.base ≤ s.h.length → opsRun R cx rb l lg s = some s' → StKeep cx s s'
  | [], lg, s, s', _, hs => by cases hs; exact ⟨KeepD.refl _ _ _, fun h => h⟩
  | o :: l, lg, s, s', hb, hs => by
    rw [opsRun_cons] at hs
    split at hs
    case h_1 => cases hs
    rename_i lg1 s1 v1 hst
    unfold stepO at hst
    have h1 : StKeep cx s s1 := by
      split at hst
      · split at hst
        case h_1 => cases hst
        rename_i v h2 d2 hrun
        split at hst
        case isFalse => cases hst
        cases hst
        exact ⟨op_keep hC hRo (slotOf_le hrb _) hb hrun, fun h => h⟩
      · cases hst; exact ⟨KeepD.refl _ _ _, fun h => h⟩
    have h2 := ops_keep hC hRo hrb l lg1 s1 s' (Nat.le_trans hb h1.1.2.1) hs
    exact ⟨h1.1.trans h2.1, fun h => h2.2 (h1.2 h)⟩
theorem setLoop_keep (base : Nat) (h : SHeap) (l st : Nat) (pd : Option SCode) (d : List Nat) : Keep base h (setLoop h l st pd) d := by
  unfold setLoop
  split
  · rename_i hl
    refine ⟨by simp, fun b o _ hb => ?_⟩
    by_cases e : l = b
    · subst e
      rw [hl] at hb; cases hb
      rw [List.getElem?_set_self (List.getElem?_eq_some_iff.1 hl).1]
      exact ⟨_, rfl, rfl, rfl, rfl, rfl, rfl, rfl⟩
    · rw [List.getElem?_set_ne e]; exact ⟨o, hb, KO.refl _ _ _⟩
  · exact Keep.refl _ _ _
theorem exec_keep (hC : CallKeep R) (hRo : RoundKeep R) (hL : LoopKeep R) {cx : Cx} : ∀ (c : SCode) (s s' : St) (ex : Ex), cx.base ≤ s.h.length → exec R cx c s = some (ex, s') → StKeep cx s s' := by
  intro c
  induction c with
  | skip => intro s s' ex hb hs; cases hs; exact ⟨KeepD.refl _ _ _, fun h => h⟩
  | exit id => intro s s' ex hb hs; cases hs; exact ⟨KeepD.refl _ _ _, fun h => h⟩
  | ret => intro s s' ex hb hs; cases hs; exact ⟨KeepD.refl _ _ _, fun h => h⟩
  | region n ops =>
    intro s s' ex hb hs
    simp only [exec] at hs
    split at hs
    case h_2 => cases hs
    rename_i s1 hr
    cases hs
    have h1 := ops_keep hC hRo hb ops [] _ s' (by simp; omega) hr
    exact ⟨KeepD.trans ⟨fun _ h => h, Keep.push _ _ _ _⟩ h1.1, h1.2⟩
  | seq a b iha ihb =>
    intro s s' ex hb hs
    simp only [exec] at hs
    cases hex : exec R cx a s with
    | none => rw [hex] at hs; cases hs
    | some r =>
      obtain ⟨ex1, s1⟩ := r
      rw [hex] at hs
      have h1 := iha s s1 ex1 hb hex
      cases ex1 with
      | normal =>
        have h2 := ihb s1 s' ex (Nat.le_trans hb h1.1.2.1) hs
        exact ⟨h1.1.trans h2.1, fun h => h2.2 (h1.2 h)⟩
      | exit id => cases hs; exact h1
      | ret => cases hs; exact h1
  | cond c a b iha ihb =>
    intro s s' ex hb hs
    simp only [exec] at hs
    split at hs
    case h_2 => cases hs
    split at hs
    · exact iha s s' ex hb hs
    · exact ihb s s' ex hb hs
  | block id c ih =>
    intro s s' ex hb hs
    simp only [exec] at hs
    cases hex : exec R cx c s with
    | none => rw [hex] at hs; cases hs
    | some r =>
      obtain ⟨ex1, s1⟩ := r
      rw [hex] at hs
      have h1 := ih s s1 ex1 hb hex
      cases ex1 with
      | normal => cases hs; exact h1
      | ret => cases hs; exact h1
      | exit j =>
        simp only at hs
        split at hs <;> (cases hs; exact h1)
  | loop c ih => intro s s' ex hb hs; exact hL cx c s ex s' hb hs
  | rangeFunc f ps as body iha ihb =>
    intro s s' ex hb hs
    simp only [exec] at hs
    split at hs
    case h_2 => cases hs
    rename_i gf first cap hev
    have main : ∀ (h1 : SHeap) (mk : List Nat) (df : Nat), Keep cx.base s.h h1 s.d → ((∀ b ∈ s.ms, cx.base ≤ b) → ∀ b ∈ mk, cx.base ≤ b) →
      (match R.call gf (first.toList ++ [.func (.yield h1.length) #[] #[]] ++ cap.toList) (h1 ++ [.loop 0 cx.fn s.t ps as body none df]) with
        | none => none
        | some (_, h2, d2) =>
          match h2[h1.length]? with
          | some (.loop st _ _ _ _ _ pend _) =>
            if st == 1 then none
            else match pend with
              | none => some (Ex.normal, (⟨s.t, mk, Sh.setLoop h2 h1.length 3 none, dirts cx.base d2 s.d⟩ : St))
              | some .ret => some (.ret, ⟨s.t, mk, Sh.setLoop h2 h1.length 3 (some .ret), dirts cx.base d2 s.d⟩)
              | some (.exit id) => some (.exit id, ⟨s.t, mk, Sh.setLoop h2 h1.length 3 (some (.exit id)), dirts cx.base d2 s.d⟩)
              | _ => none
          | _ => none) = some (ex, s') → StKeep cx s s' := by
      intro h1 mk df hk hm hcall
      split at hcall
      case h_1 => cases hcall
      rename_i v2 h2 d2 hrc
      have hbl : cx.base ≤ h1.length := Nat.le_trans hb hk.1
      have h3 := dirts_keep (base := cx.base) (d := s.d) (hC _ _ _ _ _ _ hrc) (by simp; omega)
      have hall : ∀ pd, KeepD cx.base s.h s.d (Sh.setLoop h2 h1.length 3 pd) (dirts cx.base d2 s.d) := by
        intro pd
        refine ⟨h3.1, ?_⟩
        refine Keep.trans (Keep.trans (Keep.trans hk (Keep.push _ _ _ s.d) (fun _ h => h)) h3.2 h3.1) (setLoop_keep _ _ _ _ _ _) (fun _ h => h)
      split at hcall
      case h_2 => cases hcall
      split at hcall
      · cases hcall
      split at hcall
      · cases hcall; exact ⟨hall _, hm⟩
      · cases hcall; exact ⟨hall _, hm⟩
      · cases hcall; exact ⟨hall _, hm⟩
      · cases hcall
    cases hr : cx.rnd with
    | none =>
      rw [hr] at hs
      simp only at hs
      refine main _ _ _ (Keep.push _ _ _ _) ?_ hs
      intro h b hbm
      rcases List.mem_cons.1 hbm with rfl | hbm
      · exact hb
      · exact h b hbm
    | some l =>
      rw [hr] at hs
      simp only at hs
      split at hs
      case h_1 => cases hs
      rename_i h1 mk df hfind
      split at hfind
      case h_2 => cases hfind
      cases hfind
      exact main _ _ _ (Keep.refl _ _ _) (fun h => h) hs
end
end Go.Proofs.Ytioijehbmgmgkaa.Sh

namespace Go.Proofs.Ytioijehbmgmgkaa.Sh
open Go Go.RowKit
theorem reach_ok {base : Nat} {h : SHeap} : ∀ (n : Nat) (todo seen : List Nat), seen.Nodup → (∀ b ∈ seen, base ≤ b) → (reach base h n todo seen).Nodup ∧ ∀ b ∈ reach base h n todo seen, base ≤ b
  | 0, _, seen, h1, h2 => ⟨h1, h2⟩
  | _ + 1, [], seen, h1, h2 => ⟨h1, h2⟩
  | n + 1, b :: todo, seen, h1, h2 => by
    unfold reach
    split
    · exact reach_ok n todo seen h1 h2
    · rename_i hc
      simp only [Bool.or_eq_true, Bool.not_eq_true', not_or, Bool.not_eq_false] at hc
      refine reach_ok n _ _ ?_ ?_
      · rw [List.nodup_append]
        refine ⟨h1, by simp, ?_⟩
        intro x hx y hy e
        simp at hy
        subst hy e
        exact hc.2 (by simpa using hx)
      · intro c hc2
        rcases List.mem_append.1 hc2 with h | h
        · exact h2 c h
        · simp at h; subst h; exact Nat.le_of_ble_eq_true hc.1
theorem posOf_some {b : Nat} : ∀ {K : List Nat} {i : Nat}, posOf b K = some i → K[i]? = some b
  | [], i, h => by cases h
  | a :: r, i, h => by
    unfold posOf at h
    split at h
    · rename_i e; cases h; simp [Nat.eq_of_beq_eq_true e]
    · split at h
      · rename_i j hj; cases h; simpa using posOf_some hj
      · cases h
theorem posOf_get {b : Nat} : ∀ {K : List Nat} {i : Nat}, K.Nodup → K[i]? = some b → posOf b K = some i
  | [], i, _, h => by simp at h
  | a :: r, i, hn, h => by
    rw [List.nodup_cons] at hn
    unfold posOf
    cases i with
    | zero => simp at h; subst h; simp
    | succ i =>
      simp at h
      have : Nat.beq a b = false := by
        cases hb : Nat.beq a b with
        | false => rfl
        | true => exact absurd (List.mem_of_getElem? h) (by rw [← Nat.eq_of_beq_eq_true hb]; exact hn.1)
      rw [this, posOf_get hn.2 h]; rfl
theorem notble {a b : Nat} : (!(Nat.ble a b)) = true ↔ b < a := by
  cases h : Nat.ble a b with
  | false =>
    have : ¬ a ≤ b := fun hh => by rw [Nat.ble_eq_true_of_le hh] at h; cases h
    simp; omega
  | true =>
    have := Nat.le_of_ble_eq_true h
    simp; omega
theorem ren_some {base : Nat} {K : List Nat} {b b' : Nat} (h : ren base K b = some b') : (b < base ∧ b' = b) ∨ (base ≤ b ∧ ∃ i, K[i]? = some b ∧ b' = base + i) := by
  unfold ren at h
  split at h
  · rename_i hc
    cases h
    refine .inl ⟨?_, rfl⟩
    exact notble.1 hc
  · rename_i hc
    rw [notble] at hc
    split at h
    · rename_i i hi
      cases h
      refine .inr ⟨by omega, i, posOf_some hi, rfl⟩
    · cases h
theorem ren_low {base : Nat} {K : List Nat} {b : Nat} (h : b < base) : ren base K b = some b := by
  unfold ren; rw [if_pos (notble.2 h)]
theorem ren_get {base : Nat} {K : List Nat} {b i : Nat} (hn : K.Nodup) (hb : base ≤ b) (h : K[i]? = some b) : ren base K b = some (base + i) := by
  unfold ren; rw [if_neg (fun hh => by have := notble.1 hh; omega), posOf_get hn h]
def gcM (base : Nat) (K : List Nat) (m : Mp) : Mp := m.take base ++ K.map (fun k => m.full k)
section
variable {base : Nat} {K : List Nat} {m mi : Mp}
theorem gcM_low (hb : base ≤ m.length) {b : Nat} (h : b < base) : (gcM base K m).full b = m.full b := by
  unfold gcM Mp.full
  rw [List.getElem?_append_left (by simp; omega), List.getElem?_take, if_pos h]
theorem gcM_new (hb : base ≤ m.length) {b i : Nat} (h : K[i]? = some b) : (gcM base K m).full (base + i) = m.full b := by
  unfold gcM
  show ((m.take base ++ K.map (fun k => m.full k))[base + i]?).join = _
  have hl : (m.take base).length = base := by simp; omega
  rw [List.getElem?_append_right (by omega), hl, show base + i - base = i by omega, List.getElem?_map, h]
  rfl
theorem gcM_ren (hb : base ≤ m.length) {b b' : Nat} (h : ren base K b = some b') : (gcM base K m).full b' = m.full b := by
  rcases ren_some h with ⟨h1, rfl⟩ | ⟨_, i, h1, rfl⟩
  · exact gcM_low hb h1
  · exact gcM_new hb h1
theorem gcM_at (hb : base ≤ m.length) {b b' : Nat} (h : ren base K b = some b') : (gcM base K m).at b' = m.at b := by
  unfold Mp.at; rw [gcM_ren hb h]
theorem gcM_cp (hb : base ≤ m.length) {b b' : Nat} (h : ren base K b = some b') : (gcM base K m).cp b' = m.cp b := by
  unfold Mp.cp; rw [gcM_ren hb h]
theorem mapO_len {α β : Type} {f : α → Option β} : ∀ {l : List α} {r : List β}, mapO f l = some r → r.length = l.length
  | [], r, h => by cases h; rfl
  | a :: as, r, h => by
    unfold mapO at h
    split at h
    · rename_i b bs h1 h2; cases h; simp [mapO_len h2]
    · cases h
theorem LR.ren {f : Value → Option Value} {l l' r : List Value} (h : LR m l l') {m' : Mp} (hm : mapO f l = some r) (hf : ∀ (i : Nat) (x y x' : Value), l[i]? = some x → l'[i]? = some y → f x = some x' → VR m' x' y) : LR m' r l' := by
  refine ⟨by rw [mapO_len hm, h.1], fun i x' y hx hy => ?_⟩
  obtain ⟨x, h1, h2⟩ := mapO_get hm i x' hx
  exact hf i x y x' h1 hy h2
theorem renV_ok (hb : base ≤ m.length) {x y : Value} (h : VR m x y) : ∀ (n : Nat) (x' : Value), renV base K n x = some x' → VR (gcM base K m) x' y := by
  induction h with
  | bool b => intro n x' hx; cases n <;> (simp only [renV, Option.some.injEq] at hx; subst hx; exact .bool _)
  | int k z => intro n x' hx; cases n <;> (simp only [renV, Option.some.injEq] at hx; subst hx; exact .int _ _)
  | string s => intro n x' hx; cases n <;> (simp only [renV, Option.some.injEq] at hx; subst hx; exact .string _)
  | nilFunc => intro n x' hx; cases n <;> (simp only [renV, Option.some.injEq] at hx; subst hx; exact .nilFunc)
  | nilIface => intro n x' hx; cases n <;> (simp only [renV, Option.some.injEq] at hx; subst hx; exact .nilIface)
  | ptr0 => intro n x' hx; cases n <;> (simp only [renV, Option.some.injEq] at hx; subst hx; exact .ptr0)
  | ptr hm =>
    intro n x' hx
    cases n <;>
    · simp only [renV] at hx
      split at hx
      · rename_i b' hr; cases hx; exact .ptr (by rw [gcM_at hb hr]; exact hm)
      · cases hx
  | sl0 => intro n x' hx; cases n <;> (simp only [renV, Option.some.injEq] at hx; subst hx; exact .sl0)
  | sl hm hn hc =>
    intro n x' hx
    cases n <;>
    · simp only [renV] at hx
      split at hx
      · rename_i b' hr
        cases hx
        exact .sl (by rw [gcM_at hb hr]; exact hm) hn (hc.imp id (fun ⟨q1, K', s, q2, q3⟩ => ⟨q1, K', s, by rw [gcM_cp hb hr]; exact q2, q3⟩))
      · cases hx
  | slz hm hc =>
    intro n x' hx
    cases n <;>
    · simp only [renV] at hx
      split at hx
      · rename_i b' hr; cases hx; exact .slz (by rw [gcM_at hb hr]; exact hm) hc
      · cases hx
  | map0 => intro n x' hx; cases n <;> (simp only [renV, Option.some.injEq] at hx; subst hx; exact .map0)
  | map hm =>
    intro n x' hx
    cases n <;>
    · simp only [renV] at hx
      split at hx
      · rename_i b' hr; cases hx; exact .map (by rw [gcM_at hb hr]; exact hm)
      · cases hx
  | func ha hbb _ _ iha ihb =>
    intro n x' hx
    cases n with
    | zero => simp only [renV] at hx; cases hx
    | succ n =>
      simp only [renV] at hx
      split at hx
      · rename_i u v h1 h2
        cases hx
        refine .func (by simp [mapO_len h1]; simpa using ha) (by simp [mapO_len h2]; simpa using hbb) ?_ ?_
        · intro i p q hp hq
          obtain ⟨z, hz, hf⟩ := mapO_get h1 i p (by simpa using hp)
          exact iha i z q hz hq n p hf
        · intro i p q hp hq
          obtain ⟨z, hz, hf⟩ := mapO_get h2 i p (by simpa using hp)
          exact ihb i z q hz hq n p hf
      · cases hx
  | yield hm => intro n x' hx; cases n <;> (simp only [renV] at hx; cases hx)
  | agg ha _ iha =>
    intro n x' hx
    cases n with
    | zero => simp only [renV] at hx; cases hx
    | succ n =>
      simp only [renV] at hx
      split at hx
      · rename_i u h1
        cases hx
        refine .agg (by simp [mapO_len h1]; simpa using ha) ?_
        intro i p q hp hq
        obtain ⟨z, hz, hf⟩ := mapO_get h1 i p (by simpa using hp)
        exact iha i z q hz hq n p hf
      · cases hx
  | tuple ha _ iha =>
    intro n x' hx
    cases n with
    | zero => simp only [renV] at hx; cases hx
    | succ n =>
      simp only [renV] at hx
      split at hx
      · rename_i u h1
        cases hx
        refine .tuple (by simp [mapO_len h1]; simpa using ha) ?_
        intro i p q hp hq
        obtain ⟨z, hz, hf⟩ := mapO_get h1 i p (by simpa using hp)
        exact iha i z q hz hq n p hf
      · cases hx
theorem low_ok {m' : Mp} (hlow : ∀ b, b < mi.length → m'.full b = m.full b) {x y0 : Value} (h : VR mi x y0) : ∀ y, VR m x y → VR m' x y := by
  have hat : ∀ {b p}, mi.at b = some p → m'.at b = m.at b := fun hb => by unfold Mp.at; rw [hlow _ (Mp.at_lt hb)]
  have hcp : ∀ {b p}, mi.at b = some p → m'.cp b = m.cp b := fun hb => by unfold Mp.cp; rw [hlow _ (Mp.at_lt hb)]
  induction h with
  | bool b => intro y hy; cases hy; exact .bool _
  | int k z => intro y hy; cases hy; exact .int _ _
  | string s => intro y hy; cases hy; exact .string _
  | nilFunc => intro y hy; cases hy; exact .nilFunc
  | nilIface => intro y hy; cases hy; exact .nilIface
  | ptr0 => intro y hy; cases hy; exact .ptr0
  | ptr hm => intro y hy; cases hy with | ptr h2 => exact .ptr (by rw [hat hm]; exact h2)
  | sl0 => intro y hy; cases hy; exact .sl0
  | sl hm hn hc =>
    intro y hy
    cases hy with
    | sl h2 hn2 hc2 => exact .sl (by rw [hat hm]; exact h2) hn2 (hc2.imp id (fun ⟨q1, K', s, q2, q3⟩ => ⟨q1, K', s, by rw [hcp hm]; exact q2, q3⟩))
    | slz h2 hc2 => exact .slz (by rw [hat hm]; exact h2) hc2
  | slz hm hc =>
    intro y hy
    cases hy with
    | sl h2 hn2 hc2 => exact .sl (by rw [hat hm]; exact h2) hn2 (hc2.imp id (fun ⟨q1, K', s, q2, q3⟩ => ⟨q1, K', s, by rw [hcp hm]; exact q2, q3⟩))
    | slz h2 hc2 => exact .slz (by rw [hat hm]; exact h2) hc2
  | map0 => intro y hy; cases hy; exact .map0
  | map hm => intro y hy; cases hy with | map h2 => exact .map (by rw [hat hm]; exact h2)
  | @func f as bs as' bs' ha hbb _ _ iha ihb =>
    intro y hy
    cases hy with
    | func ha2 hb2 ka kb =>
      refine .func ha2 hb2 ?_ ?_
      · intro i p q hp hq
        obtain ⟨z, hz⟩ : ∃ z, as'.toList[i]? = some z := by
          have : i < as'.toList.length := by rw [← ha]; exact (List.getElem?_eq_some_iff.1 hp).1
          exact ⟨_, List.getElem?_eq_getElem this⟩
        exact iha i p z hp hz q (ka i p q hp hq)
      · intro i p q hp hq
        obtain ⟨z, hz⟩ : ∃ z, bs'.toList[i]? = some z := by
          have : i < bs'.toList.length := by rw [← hbb]; exact (List.getElem?_eq_some_iff.1 hp).1
          exact ⟨_, List.getElem?_eq_getElem this⟩
        exact ihb i p z hp hz q (kb i p q hp hq)
  | yield hm => intro y hy; cases hy with | yield h2 => exact .yield (by rw [hat hm]; exact h2)
  | @agg as as' ha _ iha =>
    intro y hy
    cases hy with
    | agg ha2 ka =>
      refine .agg ha2 ?_
      intro i p q hp hq
      obtain ⟨z, hz⟩ : ∃ z, as'.toList[i]? = some z := by
        have : i < as'.toList.length := by rw [← ha]; exact (List.getElem?_eq_some_iff.1 hp).1
        exact ⟨_, List.getElem?_eq_getElem this⟩
      exact iha i p z hp hz q (ka i p q hp hq)
  | @tuple as as' ha _ iha =>
    intro y hy
    cases hy with
    | tuple ha2 ka =>
      refine .tuple ha2 ?_
      intro i p q hp hq
      obtain ⟨z, hz⟩ : ∃ z, as'.toList[i]? = some z := by
        have : i < as'.toList.length := by rw [← ha]; exact (List.getElem?_eq_some_iff.1 hp).1
        exact ⟨_, List.getElem?_eq_getElem this⟩
      exact iha i p z hp hz q (ka i p q hp hq)
theorem sc_ok {m' : Mp} {x y : Value} (hx : sc x = true) (h : VR m x y) : VR m' x y := by
  cases h <;> first | (cases hx; done) | constructor
end
end Go.Proofs.Ytioijehbmgmgkaa.Sh

namespace Go.Proofs.Ytioijehbmgmgkaa.Sh
open Go Go.RowKit
theorem sc_cells {m m' : Mp} {x y : Value} (hx : (cellsL x).all sc = true) (h : VR m x y) : VR m' x y := by
  cases h with
  | agg ha ka =>
    refine .agg ha (fun i p q hp hq => sc_ok ?_ (ka i p q hp hq))
    exact List.all_eq_true.1 hx p (List.mem_of_getElem? hp)
  | bool b => exact .bool _
  | int k n => exact .int _ _
  | string s => exact .string _
  | _ => simp [cellsL, sc] at hx <;> first | constructor | skip
theorem shape_ren {base : Nat} {K : List Nat} {o o' : SO} (h : renO base K (some o) = some o') :
    (∃ cs el pf old, o = .cells cs el pf 2 old ∧ o' = .cells [] el true 2 []) ∨
    (∃ cs el pf own old cs', o = .cells cs el pf own old ∧ own ≠ 2 ∧ o' = .cells cs' el pf own (old.filterMap (ren base K)) ∧ cs'.length = cs.length ∧ ((pf = true ∧ cs' = cs) ∨ (pf = false ∧ mapO (renV base K 3) cs = some cs'))) ∨
    (∃ pf es es', o = .map pf es ∧ o' = .map pf es' ∧ ((pf = true ∧ es' = es) ∨ (pf = false ∧ mapO (renE base K) es = some es'))) := by
  unfold renO at h
  split at h
  · rename_i cs el pf own old he
    cases he
    split at h
    · rename_i h2
      simp only [beq_iff_eq] at h2
      subst h2
      cases h
      exact .inl ⟨_, _, _, _, rfl, rfl⟩
    · rename_i h2
      simp only [beq_iff_eq] at h2
      split at h
      · rename_i cs' hcs
        cases h
        refine .inr (.inl ⟨_, _, _, _, _, _, rfl, h2, rfl, ?_, ?_⟩)
        · split at hcs
          · cases hcs; rfl
          · exact mapO_len hcs
        · split at hcs
          · rename_i hp; cases hcs; exact .inl ⟨hp, rfl⟩
          · rename_i hp; exact .inr ⟨by simpa using hp, hcs⟩
      · cases h
  · rename_i pf es he
    cases he
    split at h
    · rename_i es' hes
      cases h
      refine .inr (.inr ⟨_, _, _, rfl, rfl, ?_⟩)
      split at hes
      · rename_i hp; cases hes; exact .inl ⟨hp, rfl⟩
      · rename_i hp; exact .inr ⟨by simpa using hp, hes⟩
    · cases h
  · cases h
theorem gc_ok {E : Env} {mi m : Mp} {h h1 h' : SHeap} {wi w : World} {v v' y : Value} (ri : Rel E mi h wi) (r : Rel E m h1 w) (hm : mi.le m) (hg : Ghost mi h m h1) (hk : Keep h.length h h1 []) (hv : VR m v y) (hgc : gcS h.length v h1 = some (v', h')) :
    ∃ m', VR m' v' y ∧ mi.le m' ∧ Rel E m' h' w ∧ Ghost mi h m' h' := by
  unfold gcS at hgc
  simp only at hgc
  obtain ⟨hnd, hge⟩ := reach_ok (base := h.length) (h := h1) 1000000 (ptrs 3 v) [] List.nodup_nil (fun b hb => by simp at hb)
  generalize reach h.length h1 1000000 (ptrs 3 v) [] = K at hgc hnd hge
  split at hgc
  case h_2 => cases hgc
  rename_i v2 kept hv2 hkept
  cases hgc
  have hbm : h.length ≤ m.length := by rw [r.len]; exact hk.1
  have hil : mi.length = h.length := ri.len
  have hlow : ∀ b, b < mi.length → (gcM h.length K m).full b = m.full b := fun b hb => gcM_low hbm (by omega)
  have hatl : ∀ b, b < h.length → (gcM h.length K m).at b = m.at b := fun b hb => by unfold Mp.at; rw [gcM_low hbm hb]
  have view : ∀ (b' : Nat) (o' : SO), (h1.take h.length ++ kept)[b']? = some o' → (b' < h.length ∧ h1[b']? = some o') ∨
      ∃ (i b : Nat) (o : SO), b' = h.length + i ∧ K[i]? = some b ∧ h.length ≤ b ∧ h1[b]? = some o ∧ renO h.length K (some o) = some o' := by
    intro b' o' hb'
    have htl : (h1.take h.length).length = h.length := by have := hk.1; simp; omega
    by_cases e : b' < h.length
    · rw [List.getElem?_append_left (by omega), List.getElem?_take, if_pos e] at hb'
      exact .inl ⟨e, hb'⟩
    · rw [List.getElem?_append_right (by omega), htl] at hb'
      obtain ⟨b, hb1, hb2⟩ := mapO_get hkept _ _ hb'
      cases ho : h1[b]? with
      | none => rw [ho] at hb2; cases hb2
      | some o =>
        rw [ho] at hb2
        exact .inr ⟨b' - h.length, b, o, by omega, hb1, hge b (List.mem_of_getElem? hb1), ho, hb2⟩
  have hkl : kept.length = K.length := mapO_len hkept
  have hatn : ∀ i b, K[i]? = some b → (gcM h.length K m).at (h.length + i) = m.at b := fun i b hb => by unfold Mp.at; rw [gcM_new hbm hb]
  have hcpn : ∀ i b, K[i]? = some b → (gcM h.length K m).cp (h.length + i) = m.cp b := fun i b hb => by unfold Mp.cp; rw [gcM_new hbm hb]
  have hcpl : ∀ b, b < h.length → (gcM h.length K m).cp b = m.cp b := fun b hb => by unfold Mp.cp; rw [gcM_low hbm hb]
  -- a block that lay there before
  have old_at : ∀ b p, b < h.length → m.at b = some p → mi.at b = some p := by
    intro b p hb hp
    have hb1 : h[b]? = some h[b] := by simp
    cases hmi : mi.at b with
    | none => rw [(hg b _ hb1 hmi).2] at hp; cases hp
    | some p' => rw [Mp.le_at hm hmi] at hp; exact hp
  have old_or : ∀ b o A δ, b < h.length → h1[b]? = some o → m.at b = some (A, δ) → OR E.P (gcM h.length K m) o A δ w := by
    intro b o A δ hb ho hma
    have hmi := old_at b _ hb hma
    obtain ⟨o1, ho1, hko⟩ := hk.2 b h[b] hb (by simp)
    rw [ho] at ho1; cases ho1
    have r0 := ri.obj b h[b] A δ (by simp) hmi
    have r1 := r.obj b o A δ ho hma
    generalize h[b] = o0 at hko r0
    rcases o0 with ⟨cs0, el0, pf0, own0, old0⟩ | ⟨a1, a2, a3, a4, a5, a6, a7, a8⟩ | _ | ⟨pf0, es0⟩ | _ <;> rcases o with ⟨cs, el, pf, own, old⟩ | ⟨b1, b2, b3, b4, b5, b6, b7, b8⟩ | _ | ⟨pf, es⟩ | _ <;> simp only [KO] at hko
    · -- cells
      obtain ⟨hel, hpfe, k3, k4, k5⟩ := hko
      subst hel hpfe
      rcases r1 with r1 | ⟨rcs, rel, fr, e1, e2, e3, e4, e5⟩
      · exact .inl r1
      · rcases r0 with r0 | ⟨rcs0, rel0, fr0, f1, f2, f3, f4, f5⟩
        · exact .inl (k5 r0)
        · refine .inr ⟨rcs, rel, fr, e1, ?_, e3, e4, ?_⟩
          · intro i x hx
            obtain ⟨z, hz1, hz2⟩ := e2 i x hx
            refine ⟨z, hz1, ?_⟩
            cases hpf : pf with
            | true => exact sc_ok (List.all_eq_true.1 (e4 hpf) x (List.mem_of_getElem? hx)) hz2
            | false =>
              have := k4 hpf (by simp)
              subst this
              obtain ⟨y0, _, hy0⟩ := f2 i x hx
              exact low_ok hlow hy0 _ hz2
          · intro c hc
            obtain ⟨p, hp⟩ := f5 c (k3 c hc)
            have hlt := Mp.at_lt hp
            exact ⟨p, by rw [hatl c (by omega)]; exact Mp.le_at hm hp⟩
    · -- loops
      obtain ⟨rfl, rfl, rfl, rfl, rfl, rfl⟩ := hko
      obtain ⟨f0, lr0, f1, f2⟩ := r0
      obtain ⟨e0, lr, e1, e2⟩ := r1
      refine ⟨e0, lr, e1, ⟨e2.hst, e2.hps, e2.has, e2.hbody, e2.hpend, ?_, ?_⟩⟩
      · have hlt := Mp.at_lt f2.hdf
        rw [hatl _ (by omega)]; exact e2.hdf
      · obtain ⟨nt, t1, t2⟩ := e2.htm
        obtain ⟨nt0, t3, _⟩ := f2.htm
        exact ⟨nt, ⟨t1.size, t1.deep, fun i => low_ok hlow (t3.get i) _ (t1.get i)⟩, t2⟩
    · exact r1
    · -- maps
      obtain ⟨hpfe, k4⟩ := hko
      subst hpfe
      obtain ⟨f0, ⟨rs0, cl0, f1, f2, f3, f4⟩, f5⟩ := r0
      obtain ⟨e0, ⟨rs, cl, e1, e2, e3, e4⟩, e5⟩ := r1
      refine ⟨e0, ⟨rs, cl, e1, ⟨e2.1, ?_⟩, ⟨e3.1, ?_⟩, e4⟩, e5⟩
      · intro i x z hx hz
        have hvv := e2.2 i x z hx hz
        cases hpf : pf with
        | true =>
          obtain ⟨en, hen, rfl⟩ : ∃ en, es[i]? = some en ∧ en.1 = x := by
            rw [List.getElem?_map] at hx
            cases hh : es[i]? with
            | none => rw [hh] at hx; cases hx
            | some en => rw [hh] at hx; cases hx; exact ⟨en, rfl, rfl⟩
          have := List.all_eq_true.1 (e5 hpf) en (List.mem_of_getElem? hen)
          simp only [Bool.and_eq_true] at this
          exact sc_cells this.1 hvv
        | false =>
          have := k4 hpf (by simp)
          subst this
          obtain ⟨y0, _, hy0⟩ := f2.get hx
          exact low_ok hlow hy0 _ hvv
      · intro i x z hx hz
        have hvv := e3.2 i x z hx hz
        cases hpf : pf with
        | true =>
          obtain ⟨en, hen, rfl⟩ : ∃ en, es[i]? = some en ∧ en.2 = x := by
            rw [List.getElem?_map] at hx
            cases hh : es[i]? with
            | none => rw [hh] at hx; cases hx
            | some en => rw [hh] at hx; cases hx; exact ⟨en, rfl, rfl⟩
          have := List.all_eq_true.1 (e5 hpf) en (List.mem_of_getElem? hen)
          simp only [Bool.and_eq_true] at this
          exact sc_cells this.2 hvv
        | false =>
          have := k4 hpf (by simp)
          subst this
          obtain ⟨y0, _, hy0⟩ := f3.get hx
          exact low_ok hlow hy0 _ hvv
    · -- iterators
      obtain ⟨rfl, rfl⟩ := hko
      obtain ⟨f0, M0, f1, _⟩ := r0
      obtain ⟨e0, M, e1, e2⟩ := r1
      have hlt := Mp.at_lt f1
      exact ⟨e0, M, by rw [hatl _ (by omega)]; exact e1, e2⟩
    · trivial
  have new_or : ∀ (b : Nat) (o o' : SO) (A δ : Nat), h1[b]? = some o → renO h.length K (some o) = some o' → m.at b = some (A, δ) → OR E.P (gcM h.length K m) o' A δ w := by
    intro b o o' A δ ho hr hma
    have r1 := r.obj b o A δ ho hma
    rcases shape_ren hr with ⟨cs, el, pf, old, rfl, rfl⟩ | ⟨cs, el, pf, own, old, cs', rfl, h2, rfl, hlen, hcs⟩ | ⟨pf, es, es', rfl, rfl, hes⟩
    · exact .inl rfl
    · rcases r1 with r1 | ⟨rcs, rel, fr, e1, e2, e3, e4, e5⟩
      · exact absurd r1 h2
      · refine .inr ⟨rcs, rel, fr, e1, ?_, e3, ?_, ?_⟩
        · intro i x hx
          rcases hcs with ⟨hp, rfl⟩ | ⟨hp, hcs⟩
          · obtain ⟨z, hz1, hz2⟩ := e2 i x hx
            exact ⟨z, hz1, sc_ok (List.all_eq_true.1 (e4 hp) x (List.mem_of_getElem? hx)) hz2⟩
          · obtain ⟨x0, hx0, hf⟩ := mapO_get hcs i x hx
            obtain ⟨z, hz1, hz2⟩ := e2 i x0 hx0
            exact ⟨z, hz1, renV_ok hbm hz2 3 x hf⟩
        · intro hp
          rcases hcs with ⟨_, rfl⟩ | ⟨hp2, _⟩
          · exact e4 hp
          · rw [hp] at hp2; cases hp2
        · intro c hc
          obtain ⟨c0, hc0, hrc⟩ := List.mem_filterMap.1 hc
          obtain ⟨p, hp⟩ := e5 c0 hc0
          exact ⟨p, by rw [gcM_at hbm hrc]; exact hp⟩
    · obtain ⟨e0, ⟨rs, cl, e1, e2, e3, e4⟩, e5⟩ := r1
      rcases hes with ⟨hp, rfl⟩ | ⟨hp, hes⟩
      · refine ⟨e0, ⟨rs, cl, e1, ⟨e2.1, ?_⟩, ⟨e3.1, ?_⟩, e4⟩, e5⟩
        · intro i x z hx hz
          obtain ⟨en, hen, rfl⟩ : ∃ en, es'[i]? = some en ∧ en.1 = x := by
            rw [List.getElem?_map] at hx
            cases hh : es'[i]? with
            | none => rw [hh] at hx; cases hx
            | some en => rw [hh] at hx; cases hx; exact ⟨en, rfl, rfl⟩
          have := List.all_eq_true.1 (e5 hp) en (List.mem_of_getElem? hen)
          simp only [Bool.and_eq_true] at this
          exact sc_cells this.1 (e2.2 i _ z hx hz)
        · intro i x z hx hz
          obtain ⟨en, hen, rfl⟩ : ∃ en, es'[i]? = some en ∧ en.2 = x := by
            rw [List.getElem?_map] at hx
            cases hh : es'[i]? with
            | none => rw [hh] at hx; cases hx
            | some en => rw [hh] at hx; cases hx; exact ⟨en, rfl, rfl⟩
          have := List.all_eq_true.1 (e5 hp) en (List.mem_of_getElem? hen)
          simp only [Bool.and_eq_true] at this
          exact sc_cells this.2 (e3.2 i _ z hx hz)
      · have get : ∀ (i : Nat) (en' : Value × Value), es'[i]? = some en' → ∃ en : Value × Value, es[i]? = some en ∧ renV h.length K 3 en.1 = some en'.1 ∧ renV h.length K 3 en.2 = some en'.2 := by
          intro i en' hi
          obtain ⟨en, h3, h4⟩ := mapO_get hes i en' hi
          unfold renE at h4
          split at h4
          · rename_i p q hp hq; cases h4; exact ⟨en, h3, hp, hq⟩
          · cases h4
        have hl := mapO_len hes
        refine ⟨e0, ⟨rs, cl, e1, ⟨by have := e2.1; simp at this ⊢; omega, ?_⟩, ⟨by have := e3.1; simp at this ⊢; omega, ?_⟩, e4⟩, fun hp2 => by rw [hp] at hp2; cases hp2⟩
        · intro i x z hx hz
          rw [List.getElem?_map] at hx
          cases hh : es'[i]? with
          | none => rw [hh] at hx; cases hx
          | some en' =>
            rw [hh] at hx; cases hx
            obtain ⟨en, h3, h4, _⟩ := get i en' hh
            exact renV_ok hbm (e2.2 i en.1 z (by rw [List.getElem?_map, h3]; rfl) hz) 3 _ h4
        · intro i x z hx hz
          rw [List.getElem?_map] at hx
          cases hh : es'[i]? with
          | none => rw [hh] at hx; cases hx
          | some en' =>
            rw [hh] at hx; cases hx
            obtain ⟨en, h3, _, h4⟩ := get i en' hh
            exact renV_ok hbm (e3.2 i en.2 z (by rw [List.getElem?_map, h3]; rfl) hz) 3 _ h4
  have src : ∀ (b' : Nat) (o' : SO), (h1.take h.length ++ kept)[b']? = some o' → ∃ b o, h1[b]? = some o ∧ (gcM h.length K m).at b' = m.at b ∧ (gcM h.length K m).cp b' = m.cp b ∧ ren h.length K b = some b' ∧
      live o' = live o ∧ isRO o' = isRO o ∧ ((b' < h.length ∧ b = b' ∧ o' = o) ∨ (h.length ≤ b ∧ renO h.length K (some o) = some o')) := by
    intro b' o' hb'
    rcases view b' o' hb' with ⟨h2, h3⟩ | ⟨i, b, o, rfl, h2, h3, h4, h5⟩
    · exact ⟨b', o', h3, hatl b' h2, hcpl b' h2, ren_low h2, rfl, rfl, .inl ⟨h2, rfl, rfl⟩⟩
    · refine ⟨b, o, h4, hatn i b h2, hcpn i b h2, ren_get hnd h3 h2, ?_, ?_, .inr ⟨h3, h5⟩⟩
      · rcases shape_ren h5 with ⟨cs, el, pf, old, rfl, rfl⟩ | ⟨cs, el, pf, own, old, cs', rfl, h2, rfl, hlen, hcs⟩ | ⟨pf, es, es', rfl, rfl, hes⟩ <;> rfl
      · rcases shape_ren h5 with ⟨cs, el, pf, old, rfl, rfl⟩ | ⟨cs, el, pf, own, old, cs', rfl, h2, rfl, hlen, hcs⟩ | ⟨pf, es, es', rfl, rfl, hes⟩ <;> rfl
  have chain : ∀ b1' b2' o1' o2' b1 b2 o1 o2 δ1 δ2 A, h1[b2]? = some o2 → m.at b2 = some (A, δ2) → live o2 = true → ren h.length K b1 = some b1' →
      ((b1' < h.length ∧ b1 = b1' ∧ o1' = o1) ∨ (h.length ≤ b1 ∧ renO h.length K (some o1) = some o1')) → ((b2' < h.length ∧ b2 = b2' ∧ o2' = o2) ∨ (h.length ≤ b2 ∧ renO h.length K (some o2) = some o2')) →
      Chain b1 o1 δ1 o2 δ2 → Chain b1' o1' δ1 o2' δ2 := by
    intro b1' b2' o1' o2' b1 b2 o1 o2 δ1 δ2 A ho2 hm2 hl2 hr1 c1 c2 hch
    obtain ⟨cs1, el1, pf1, old1, cs2, el2, pf2, own2, old2, rfl, rfl, hmem, hle⟩ := hch
    obtain ⟨cs1', old1', rfl, hlen1⟩ : ∃ cs1' old1', o1' = .cells cs1' el1 pf1 1 old1' ∧ cs1'.length = cs1.length := by
      rcases c1 with ⟨_, _, rfl⟩ | ⟨_, hr⟩
      · exact ⟨_, _, rfl, rfl⟩
      · rcases shape_ren hr with ⟨cs, el, pf, old, e1, e2⟩ | ⟨cs, el, pf, own, old, cs', e1, h2, e2, hlen, hcs⟩ | ⟨pf, es, es', e1, e2, hes⟩
        · cases e1
        · cases e1; exact ⟨_, _, e2, hlen⟩
        · cases e1
    rcases c2 with ⟨hb2, rfl, rfl⟩ | ⟨_, hr⟩
    · -- the newer one lay there before
      obtain ⟨o3, ho3, hko⟩ := hk.2 b2 h[b2] hb2 (by simp)
      rw [ho2] at ho3; cases ho3
      have hmi := old_at b2 _ hb2 hm2
      have r0 := ri.obj b2 h[b2] A δ2 (by simp) hmi
      generalize h[b2] = o0 at hko r0
      rcases o0 with ⟨cs0, el0, pf0, own0, old0⟩ | ⟨a1, a2, a3, a4, a5, a6, a7, a8⟩ | _ | ⟨pf0, es0⟩ | _ <;> simp only [KO] at hko
      obtain ⟨_, _, k3, _, k5⟩ := hko
      rcases r0 with r0 | ⟨rcs0, rel0, fr0, f1, f2, f3, f4, f5⟩
      · have := k5 r0
        subst this
        simp [live] at hl2
      · obtain ⟨p, hp⟩ := f5 b1 (k3 b1 hmem)
        have hlt := Mp.at_lt hp
        rw [ren_low (by omega)] at hr1
        cases hr1
        exact ⟨_, _, _, _, _, _, _, _, _, rfl, rfl, hmem, by omega⟩
    · rcases shape_ren hr with ⟨cs, el, pf, old, e1, e2⟩ | ⟨cs, el, pf, own, old, cs', e1, h2, e2, hlen, hcs⟩ | ⟨pf, es, es', e1, e2, hes⟩
      · cases e1; simp [live] at hl2
      · cases e1
        subst e2
        exact ⟨_, _, _, _, _, _, _, _, _, rfl, rfl, List.mem_filterMap.2 ⟨b1, hmem, hr1⟩, by omega⟩
      · cases e1
  refine ⟨gcM h.length K m, renV_ok hbm hv 3 _ hv2, ?_, ⟨?_, ?_, ?_, ?_, ?_, ?_, ?_, r.below, r.bsz, r.glob⟩, ?_⟩
  · intro b x hx
    have hlt := Mp.full_lt hx
    rw [hlow b hlt]; exact hm b x hx
  · unfold gcM
    have := hk.1
    simp [hkl]; omega
  · intro b' A δ hb
    have hlt := Mp.at_lt hb
    have hl2 : (gcM h.length K m).length = (h1.take h.length ++ kept).length := by
      unfold gcM
      have := hk.1
      simp [hkl]; omega
    obtain ⟨b, o, _, h3, _⟩ := src b' (h1.take h.length ++ kept)[b'] (by simp)
    rw [h3] at hb
    exact r.lt b A δ hb
  · intro b' o' A δ ho' hb
    obtain ⟨b, o, h2, h3, _, _, _, _, hc⟩ := src b' o' ho'
    rw [h3] at hb
    rcases hc with ⟨h4, rfl, rfl⟩ | ⟨h4, h5⟩
    · exact old_or b o' A δ h4 h2 hb
    · exact new_or b o o' A δ h2 h5 hb
  · intro b' o' A δ ho' hb hl hro
    obtain ⟨b, o, h2, h3, _, _, h5, h6, _⟩ := src b' o' ho'
    rw [h3] at hb
    exact r.base b o A δ h2 hb (by rw [← h5]; exact hl) (by rw [← h6]; exact hro)
  · intro b1' b2' o1' o2' A δ1 δ2 hne h1' h2' m1 m2 l1 l2
    obtain ⟨b1, o1, p1, p2, _, p3, p4, p5, p6⟩ := src b1' o1' h1'
    obtain ⟨b2, o2, q1, q2, _, q3, q4, q5, q6⟩ := src b2' o2' h2'
    rw [p2] at m1
    rw [q2] at m2
    have hne2 : b1 ≠ b2 := by
      intro e
      subst e
      rw [p3] at q3; cases q3
      exact hne rfl
    rcases r.sep b1 b2 o1 o2 A δ1 δ2 hne2 p1 q1 m1 m2 (by rw [← p4]; exact l1) (by rw [← q4]; exact l2) with ⟨g1, g2⟩ | g | g
    · exact .inl ⟨by rw [p5]; exact g1, by rw [q5]; exact g2⟩
    · exact .inr (.inl (chain b1' b2' o1' o2' b1 b2 o1 o2 δ1 δ2 A q1 m2 (by rw [← q4]; exact l2) p3 p6 q6 g))
    · exact .inr (.inr (chain b2' b1' o2' o1' b2 b1 o2 o1 δ2 δ1 A p1 m1 (by rw [← p4]; exact l1) q3 q6 p6 g))
  · intro b' A δ Kc s hb hc
    have hlt := Mp.at_lt hb
    have hl2 : (gcM h.length K m).length = (h1.take h.length ++ kept).length := by
      unfold gcM
      have := hk.1
      simp [hkl]; omega
    obtain ⟨b, o, _, h3, h4, _⟩ := src b' (h1.take h.length ++ kept)[b'] (by simp)
    rw [h3] at hb
    rw [h4] at hc
    exact r.cap b A δ Kc s hb hc
  · intro b' Kc s cs el pf own old hb hc
    obtain ⟨b, o, h2, h3, h4, _, _, _, h6⟩ := src b' _ hb
    rw [h4] at hc
    rcases h6 with ⟨_, rfl, rfl⟩ | ⟨_, hr⟩
    · exact r.csz b Kc s _ _ _ _ _ h2 hc
    · rcases shape_ren hr with ⟨cs, el, pf, old, e1, e2⟩ | ⟨cs, el, pf, own, old, cs', e1, h2', e2, hlen, hcs⟩ | ⟨pf, es, es', e1, e2, hes⟩
      · cases e2; subst e1; exact r.csz b Kc s _ _ _ _ _ h2 hc
      · cases e2; subst e1; exact r.csz b Kc s _ _ _ _ _ h2 hc
      · cases e2
  · intro b o hb hmb
    have hlt : b < h.length := (List.getElem?_eq_some_iff.1 hb).1
    obtain ⟨q1, q2⟩ := hg b o hb hmb
    refine ⟨?_, by rw [hatl b hlt]; exact q2⟩
    have := hk.1
    rw [List.getElem?_append_left (by simp; omega), List.getElem?_take, if_pos hlt]
    exact q1
end Go.Proofs.Ytioijehbmgmgkaa.Sh

namespace Go.Proofs.Ytioijehbmgmgkaa.Sh
open Go Go.RowKit
theorem fill_deep {K : Nat} : ∀ (vs : List Value) (t : T) (i : Nat), t.deep K → (t.fill i vs).deep K
  | [], t, i, h => h
  | v :: vs, t, i, h => fill_deep vs _ _ (T.deep_set h i v)
theorem fill_get {K : Nat} : ∀ (vs : List Value) (t : T) (i j : Nat), t.deep K → i + vs.length < 2 ^ K → (t.fill i vs).get j = if i ≤ j ∧ j < i + vs.length then (vs[j - i]?).getD udf else t.get j
  | [], t, i, j, _, _ => by
    rw [if_neg (fun hc => by have h1 := hc.1; have h2 := hc.2; rw [List.length_nil] at h2; omega)]
    rfl
  | v :: vs, t, i, j, h, hl => by
    simp at hl
    show ((t.set i v).fill (i + 1) vs).get j = _
    rw [fill_get vs _ (i + 1) j (T.deep_set h i v) (by omega)]
    by_cases e : j = i
    · subst e
      rw [if_neg (by omega), if_pos (by simp), T.get_set_same v h (by omega)]
      simp
    · by_cases e2 : i + 1 ≤ j ∧ j < i + 1 + vs.length
      · rw [if_pos e2, if_pos (by simp; omega)]
        have : j - i = (j - (i + 1)) + 1 := by omega
        rw [this]; simp
      · rw [if_neg e2, if_neg (by simp; omega), T.get_set_ne v (fun k => e k.symm)]
theorem TR.args {nt dep : Nat} {m : Mp} {args args' : List Value} (hn : nt < 2 ^ dep) (ha : args.length < 2 ^ dep) (hl : LR m args args') :
    TR nt m ((T.blank dep).fill 0 args) (args'.toArray ++ Array.replicate (nt - args'.toArray.size) undef) := by
  refine ⟨by simp; omega, ⟨dep, fill_deep _ _ _ (T.deep_blank dep), hn⟩, fun i => ?_⟩
  rw [fill_get args (T.blank dep) 0 i (T.deep_blank dep) (by omega), T.get_blank]
  simp only [Nat.zero_le, true_and, Nat.zero_add, Nat.sub_zero]
  by_cases e : i < args.length
  · rw [if_pos e]
    have e' : i < args'.length := hl.1 ▸ e
    have h1 : args[i]? = some args[i] := by simp
    have h2 : args'[i]? = some args'[i] := by simp
    have hg : (args'.toArray ++ Array.replicate (nt - args'.toArray.size) undef).getD i undef = args'[i] := by
      rw [Array.getD_eq_getD_getElem?, Array.getElem?_append_left (by simpa using e')]
      simp [e']
    rw [hg, h1]
    exact hl.2 i _ _ h1 h2
  · rw [if_neg e]
    have e' : ¬ i < args'.length := hl.1 ▸ e
    have hg : (args'.toArray ++ Array.replicate (nt - args'.toArray.size) undef).getD i undef = undef := by
      rw [Array.getD_eq_getD_getElem?, Array.getElem?_append_right (by simpa using e')]
      by_cases e3 : i - args'.toArray.size < nt - args'.toArray.size
      · simp at e3; simp [e3]
      · simp at e3; simp [e3]
    rw [hg]
    exact VR.udf m
section
variable {P : Program} {B : Nat} {w0 : World} {R : Rec} {m : Mp}
def resF (tmps : Array Value) (rv : ResultVar) : Sem Value :=
  match rv with
  | .tmp t => pure (tmps.getD t undef)
  | .cell a t => do loadVar t (← asAddr (tmps.getD a undef))
theorem results_eq (fn : Func) (tmps : Array Value) : results fn tmps = (do let vs ← fn.results.mapM (resF tmps); pure (if h : vs.size = 1 then vs[0] else .tuple vs)) := rfl
theorem res_run {nt : Nat} {t : T} {tmps : Array Value} {h : SHeap} {w : World} (ht : TR nt m t tmps) (r : Rel ⟨P, B, w0⟩ m h w) : ∀ (rvs : List ResultVar) (rs : List SRes) (l : List Value), compRes P rvs = some rs → resS t h rs = some l →
    ∃ l', LR m l l' ∧ (rvs.mapM (resF tmps)).run P w = .ok l' w
  | [], rs, l, hc, hr => by
    cases hc; cases hr
    exact ⟨[], LR.nil m, by simp⟩
  | .tmp i :: rvs, rs, l, hc, hr => by
    obtain ⟨rs', h1, rfl⟩ := map_some' hc
    simp only [resS] at hr
    split at hr
    case h_2 => cases hr
    rename_i l0 hl0
    cases hr
    obtain ⟨l', h2, h3⟩ := res_run ht r rvs rs' l0 h1 hl0
    have h7 : (resF tmps (.tmp i)).run P w = .ok (tmps.getD i undef) w := rfl
    exact ⟨_, h2.cons (ht.get i), by rw [List.mapM_cons]; simp only [Sem.run_bind, h7, Result.andThen_ok, h3, Sem.run_pure]⟩
  | .cell i ty :: rvs, rs, l, hc, hr => by
    simp only [compRes] at hc
    split at hc
    case h_2 => cases hc
    rename_i g rs' hg h1
    cases hc
    simp only [resS] at hr
    split at hr
    case h_2 => cases hr
    rename_i v l0 hv hl0
    cases hr
    obtain ⟨l', h2, h3⟩ := res_run ht r rvs rs' l0 h1 hl0
    have hx := ht.get i
    obtain ⟨v', h4, h5⟩ := load_run (E := ⟨P, B, w0⟩) r hg hx hv
    obtain ⟨q, hq⟩ : ∃ q, tmps.getD i undef = .pointer (some q) := by
      unfold loadS at hv
      split at hv
      · rename_i hp
        unfold tget at hp
        rw [hp] at hx
        obtain ⟨A, δ, _, he⟩ := hx.ptr_inv
        exact ⟨_, he⟩
      · cases hv
    have h6 : (loadVar ty q).run P w = .ok v' w := by
      rw [hq] at h4
      have : (Instr.loadAt ty (.pointer (some q))).run P w = (loadVar ty q).run P w := by simp [Instr.loadAt, Instr.sureAddr]
      rw [← this]; exact h4
    have h7 : (resF tmps (.cell i ty)).run P w = .ok v' w := by
      unfold resF
      simp only [hq, asAddr, Sem.run_bind, Sem.run_pure, Result.andThen_ok, h6]
    exact ⟨_, h2.cons h5, by rw [List.mapM_cons]; simp only [Sem.run_bind, h7, Result.andThen_ok, h3, Sem.run_pure]⟩
theorem oneV_sim {l l' : List Value} (h : LR m l l') : VR m (oneV l) (if h : l'.toArray.size = 1 then l'.toArray[0] else .tuple l'.toArray) := by
  by_cases e : l'.toArray.size = 1
  · rw [dif_pos e]
    have e1 : l'.length = 1 := by simpa using e
    have e2 : l.length = 1 := h.1 ▸ e1
    obtain ⟨x, rfl⟩ := List.length_eq_one_iff.1 e2
    obtain ⟨y, r, rfl, h1, h2⟩ := h.cons_inv
    exact h1
  · rw [dif_neg e]
    have e2 : l.length ≠ 1 := by
      intro k; apply e; simp; rw [← h.1]; exact k
    have : oneV l = .tuple l.toArray := by
      unfold oneV
      split
      · rename_i x; exact absurd rfl e2
      · rfl
    rw [this]
    exact VR.tuple' h
theorem leaves_ok {fn : Func} {tmps : Array Value} {Post : Ending → World → Prop} {n : Nat} {m : Mp} : ∀ (ms : List Nat) (ds : List Deferred) (h h1 : SHeap) (w : World), DR m ms ds → shut h ms = some h1 → Rel ⟨P, B, w0⟩ m h w → 
    (∀ w1, Rel ⟨P, B, w0⟩ m h1 w1 → Ghost m h m h1 → LeavesIn Fence.wide n P fn tmps Post [] .returning w1) → LeavesInM Fence.wide n P fn tmps Post ds .returning w := by
  intro ms ds h h1 w hd
  induction hd generalizing h w with
  | nil =>
    intro hs r hk
    cases hs
    exact hk w r (Ghost.refl _ _)
  | @cons b A ms ds hb hd ih =>
    intro hs r hk
    unfold shut at hs
    split at hs
    case h_2 => cases hs
    rename_i hbd
    obtain ⟨_, hw⟩ := r.obj _ _ _ _ hbd hb
    refine ⟨(by intro e; cases e), .inl ⟨A, _, rfl, run_takeDeferred hw, ?_⟩⟩
    refine ih (h.set b .gone) _ hs (r.replace (o' := .gone) (ob' := .deferred none) hbd hb rfl (by intros; intro e; cases e) (by intros; intro e; cases e) hw (by intros; intro e; cases e) trivial) ?_
    intro w1 r1 g1
    exact hk w1 r1 ((Ghost.set hb).trans g1)
theorem shut_keep (base : Nat) (d : List Nat) : ∀ (ms : List Nat) (h h1 : SHeap), (∀ b ∈ ms, base ≤ b) → shut h ms = some h1 → Keep base h h1 d
  | [], h, h1, _, hs => by cases hs; exact Keep.refl _ _ _
  | b :: r, h, h1, hb, hs => by
    unfold shut at hs
    split at hs
    · exact (Keep.set_high (hb b (by simp)) _ _).trans (shut_keep base d r _ h1 (fun c hc => hb c (by simp [hc])) hs) (fun _ h => h)
    · cases hs
def Tab (P : Program) (FT : FuncId → Option SFunc) : Prop := ∀ f sf, FT f = some sf → ∃ fn, P.funcs[f]? = some fn ∧ compFunc P fn = some sf
theorem fin_out {sf : SFunc} {base : Nat} {s : St} {v : Value} {h' : SHeap} {d' : List Nat} (hs : fin sf base s = some (v, h', d')) :
    ∃ h l, shut s.h s.ms = some h ∧ resS s.t h sf.res = some l ∧ ((s.d = [] ∧ d' = [] ∧ gcS base (oneV l) h = some (v, h')) ∨ (v = oneV l ∧ h' = h ∧ d' = s.d)) := by
  unfold fin at hs
  split at hs
  · cases hs
  · rename_i h hsh
    split at hs
    · cases hs
    · rename_i l hl
      split at hs
      · rename_i hd
        split at hs
        · rename_i v1 h1 hg
          simp only [fV_eq, fH_eq] at hs
          cases hs
          exact ⟨h, l, hsh, hl, .inl ⟨List.isEmpty_iff.1 hd, rfl, hg⟩⟩
        · cases hs
      · cases hs
        exact ⟨_, l, hsh, hl, .inr ⟨rfl, rfl, rfl⟩⟩
theorem stepCall_out {FT : FuncId → Option SFunc} {f : FuncId} {args : List Value} {h : SHeap} {v : Value} {h' : SHeap} {d' : List Nat} (hs : stepCall FT R f args h = some (v, h', d')) :
    ∃ sf ex s, FT f = some sf ∧ args.length < 2 ^ sf.dep ∧ exec R ⟨h.length, none, f⟩ sf.body ⟨(T.blank sf.dep).fill 0 args, [], h, []⟩ = some (ex, s) ∧ (ex = .normal ∨ ex = .ret) ∧ fin sf h.length s = some (v, h', d') := by
  unfold stepCall at hs
  split at hs
  · cases hs
  · rename_i sf hsf
    split at hs
    · rename_i hl
      simp only [fNat_eq, fFill_eq] at hs
      split at hs
      · rename_i s hex; exact ⟨sf, .normal, s, hsf, Nat.blt_eq ▸ hl, hex, .inl rfl, hs⟩
      · rename_i s hex; exact ⟨sf, .ret, s, hsf, Nat.blt_eq ▸ hl, hex, .inr rfl, hs⟩
      · cases hs
    · cases hs
theorem call_keep {FT : FuncId → Option SFunc} (hC : CallKeep R) (hRo : RoundKeep R) (hL : LoopKeep R) : CallKeep ⟨stepCall FT R, R.round, R.loop⟩ := by
  intro f args h v h' d' hs
  obtain ⟨sf, ex, s, _, _, hex, _, hf⟩ := stepCall_out hs
  have hk := exec_keep (cx := ⟨h.length, none, f⟩) hC hRo hL sf.body _ s ex (Nat.le_refl _) hex
  obtain ⟨h1, l, hsh, _, hcase⟩ := fin_out hf
  have hk2 : Keep h.length h h1 s.d := hk.1.2.trans (shut_keep h.length s.d s.ms s.h h1 (hk.2 (fun b hb => by simp at hb)) hsh) (fun _ h => h)
  rcases hcase with ⟨hd, rfl, hg⟩ | ⟨_, rfl, rfl⟩
  · rw [hd] at hk2
    unfold gcS at hg
    simp only at hg
    split at hg
    case h_2 => cases hg
    rename_i v2 kept _ _
    cases hg
    refine ⟨by have := hk2.1; simp; omega, fun b o hb ho => ?_⟩
    obtain ⟨o', q1, q2⟩ := hk2.2 b o hb ho
    refine ⟨o', ?_, q2⟩
    have := hk2.1
    rw [List.getElem?_append_left (by simp; omega), List.getElem?_take, if_pos hb]
    exact q1
  · exact hk2
theorem call_ok (hmix : P.follows .mixedOrders = true) {FT : FuncId → Option SFunc} (hT : Tab P FT) (hR : CallOK P R) (hRr : RoundOK P R) {k : Nat} (hRl : LoopOK P R k) (hC : CallKeep R) (hRo : RoundKeep R) (hL : LoopKeep R) : CallOK P ⟨stepCall FT R, R.round, R.loop⟩ := by
  intro B w0 f args h v h' d' m w args' hs r hl
  obtain ⟨sf, ex, s, hsf, hlen, hex, hexn, hf⟩ := stepCall_out hs
  obtain ⟨fn, hfn, hcomp⟩ := hT f sf hsf
  unfold compFunc at hcomp
  split at hcomp
  · cases hcomp
  rename_i c hbody
  split at hcomp
  case h_2 => cases hcomp
  rename_i sc rs hsc hrs
  split at hcomp
  case isFalse => cases hcomp
  rename_i hcond
  simp only [Bool.and_eq_true] at hcond
  have hname : fn.name ≠ "runtime.NumGoroutine" := by simpa using hcond.2
  cases hcomp
  refine ⟨⟨fn, hfn, hname, by rw [hbody]; rfl⟩, fun n => ?_⟩
  refine callsIn_of_wp_marks (F := Fence.wide) hfn hbody trivial ?_
  have hk := exec_keep (cx := ⟨h.length, none, f⟩) hC hRo hL sc _ s ex (Nat.le_refl _) hex
  obtain ⟨h1, l, hsh, hres, hcase⟩ := fin_out hf
  have hk2 : Keep h.length h h1 s.d := hk.1.2.trans (shut_keep h.length s.d s.ms s.h h1 (hk.2 (fun b hb => by simp at hb)) hsh) (fun _ h => h)
  refine exec_ok hmix hR hRr hRl c fn.ntmps ⟨h.length, none, f⟩ sc _ s ex m _ w Fence.wide n _ hsc hcond.1 hex ⟨TR.args (Nat.lt_log2_self) hlen hl, .nil, r⟩ (.inl ⟨rfl, rfl⟩) ?_
  intro e a' w' hx
  obtain ⟨he, m', q1, q2, q3⟩ := hx
  have done : LeavesInM Fence.wide n P fn a'.tmps (CallPost ⟨P, B, w0⟩ m h v h') a'.defers .returning w' := by
    refine leaves_ok s.ms a'.defers s.h h1 w' q3.ds hsh q3.rel ?_
    intro w1 r1 g1
    obtain ⟨l', hl1, hl2⟩ := res_run q3.tr r1 fn.results.toList rs l hrs hres
    refine ⟨(if hh : l'.toArray.size = 1 then l'.toArray[0] else .tuple l'.toArray), ?_, ?_⟩
    · rw [results_eq, Array.mapM_eq_mapM_toList]
      simp [hl2]
    · have hv := oneV_sim hl1
      rcases hcase with ⟨hd, _, hg⟩ | ⟨rfl, rfl, _⟩
      · rw [hd] at hk2
        obtain ⟨m2, p1, p2, p3, p4⟩ := gc_ok r r1 q1 (q2.trans g1) hk2 hv hg
        exact ⟨m2, p1, p2, p3, p4⟩
      · exact ⟨m', hv, q1, r1, q2.trans g1⟩
  subst he
  rcases hexn with rfl | rfl
  · exact done
  · exact done
theorem round_keep (hC : CallKeep R) (hRo : RoundKeep R) (hL : LoopKeep R) : RoundKeep ⟨R.call, stepRound R, R.loop⟩ := by
  intro base l args h v h' d' hb hs
  simp only [stepRound] at hs
  split at hs
  case h_2 => cases hs
  rename_i fn t ps as body pend df hhl
  split at hs
  case isFalse => cases hs
  rw [fZip_eq] at hs
  split at hs
  case h_2 => cases hs
  rename_i s1 hex1
  split at hs
  case h_2 => cases hs
  rename_i fn2 t2 ps2 as2 body2 pend2 df2 hl1
  rw [fH_eq] at hs
  split at hs
  case h_2 => cases hs
  rename_i ex s2 hex2
  split at hs
  case h_2 => cases hs
  cases hs
  have k1 := exec_keep (cx := ⟨base, some l, fn⟩) hC hRo hL as _ s1 _ hb hex1
  have k2 := setLoop_keep base s1.h l 1 pend2 s1.d
  have hb2 : base ≤ s1.h.length := Nat.le_trans hb k1.1.2.1
  have k3 := exec_keep (cx := ⟨base, some l, fn⟩) hC hRo hL body _ s2 ex (Nat.le_trans hb2 k2.1) hex2
  exact (((k1.1.2.trans k2 (fun _ h => h)).trans k3.1.2 k3.1.1)).trans (setLoop_keep _ _ _ _ _ _) (fun _ h => h)
theorem loop_keep (hC : CallKeep R) (hRo : RoundKeep R) (hL : LoopKeep R) : LoopKeep ⟨R.call, R.round, stepLoop R⟩ := by
  intro cx c s ex s' hb hs
  simp only [stepLoop] at hs
  cases hex : exec R cx c s with
  | none => rw [hex] at hs; cases hs
  | some r =>
    obtain ⟨ex1, s1⟩ := r
    rw [hex] at hs
    have h1 := exec_keep hC hRo hL c s s1 ex1 hb hex
    cases ex1 with
    | normal =>
      have h2 := hL cx c s1 ex s' (Nat.le_trans hb h1.1.2.1) hs
      exact ⟨h1.1.trans h2.1, fun h => h2.2 (h1.2 h)⟩
    | exit id => cases hs; exact h1
    | ret => cases hs; exact h1
structure Sound (P : Program) (R : Rec) (n : Nat) : Prop where
  call : CallOK P R
  round : RoundOK P R
  loop : LoopOK P R n
  ckeep : CallKeep R
  rkeep : RoundKeep R
  lkeep : LoopKeep R
theorem sound (hmix : P.follows .mixedOrders = true) {FT : FuncId → Option SFunc} (hT : Tab P FT) : ∀ n, Sound P (run FT n) n
  | 0 => ⟨fun _ _ _ _ _ _ _ _ _ _ _ h => (by cases h), fun _ _ _ _ _ _ _ _ _ _ _ _ _ h => (by cases h), fun _ _ _ _ _ _ _ _ _ _ _ _ _ _ _ _ _ h => (by cases h),
      fun _ _ _ _ _ _ h => (by cases h), fun _ _ _ _ _ _ _ _ h => (by cases h), fun _ _ _ _ _ _ h => (by cases h)⟩
  | n + 1 =>
    have S := sound hmix hT n
    ⟨call_ok hmix hT S.call S.round S.loop S.ckeep S.rkeep S.lkeep, round_ok hmix S.call S.round S.loop, loop_ok hmix S.call S.round S.loop,
     call_keep S.ckeep S.rkeep S.lkeep, round_keep S.ckeep S.rkeep S.lkeep, loop_keep S.ckeep S.rkeep S.lkeep⟩
end
end Go.Proofs.Ytioijehbmgmgkaa.Sh

