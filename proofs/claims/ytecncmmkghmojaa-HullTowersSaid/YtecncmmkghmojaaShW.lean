/- The shadow machine: a region that draws its order. -/
import Derived.Test.YtecncmmkghmojaaShV
set_option linter.all false
namespace Go.Proofs.Ytecncmmkghmojaa.Sh
open Go Go.RowKit

theorem ev_get {t t' : T} {x : Operand} (h : ∀ i, tmpOf x = some i → t.get i = t'.get i) : ev t x = ev t' x := by
  cases x with
  | tmp i => show some (t.get i) = some (t'.get i); rw [h i rfl]
  | const v => rfl
  | func f => rfl
  | global g => rfl
theorem wanted_get {t t' : T} {g : Option (Nat × Bool)} (h : ∀ i want, g = some (i, want) → t.get i = t'.get i) : wantedS t g = wantedS t' g := by
  cases g with
  | none => rfl
  | some p =>
    obtain ⟨i, want⟩ := p
    show (match t.get i with | .bool b => b == want | _ => false) = (match t'.get i with | .bool b => b == want | _ => false)
    rw [h i want rfl]

section
variable {P : Program} {B : Nat} {w0 : World} {ops : Array Oper} {n : Nat} {R : Rec} {cx : Cx} {rb : Nat} {al : List SOper} {lgs : Nat → List LogE} {tr : Nat → St} {val : Nat → Value} {mi m : Mp} {hi : SHeap} {S : Nat → Bool} {w : World} {nt : Nat} {a : Act}

/-- an operation that waited runs -/
theorem pend_run (hR : CallOK P R) (hRr : RoundOK P R) (F : Facts P ops n al) (H : Trace R cx rb al lgs tr val) (hrb : hi.length = rb) {j k : Nat} (I : HInv P B w0 al rb tr val mi hi S j m w) {o : SOper} (hk : al[k]? = some o) (hkj : k < j) (hE : isE o.op = false) (hS : S k = false)
    {T0 : T} (hT : TR nt m T0 a.tmps) {op : Oper} (hop : ops[o.id]? = some op) (hlook : ∀ x, x ∈ op.looksAt ops → T0.get x = (tr k).t.get x) {Fn : Fence} (hF : FR m cx Fn) {q : Nat} {Q : Exit → Act → World → Prop} {K : Act → World → Prop}
    (hK : ∀ v' w' m', VR m' (val k) v' → m.le m' → HInv P B w0 al rb tr val mi hi (more S k) j m' w' → K (a.put op.dst v') w') : wpOpIn Fn q P ops Q o.id K a w := by
  obtain ⟨op', hop', hcomp, hdst, hgd⟩ := F.op k o hk
  rw [hop] at hop'; cases hop'
  have hwant : wantedS T0 o.gd = wantedS (tr k).t o.gd := wanted_get (fun i want hg => hlook i (F.lookg k o op i want hk hop hg))
  have hev : ∀ x ∈ opnds o.op, ev T0 x = ev (tr k).t x := fun x hx => ev_get (fun i hi => hlook i (F.look k o op hk hop x hx i hi))
  have fin : ∀ v' w' m', VR m' (val k) v' → m.le m' → Rel ⟨P, B, w0⟩ m' (tr j).h w' → Ghost m (tr j).h m' (tr j).h → K (a.put op.dst v') w' := by
    intro v' w' m' k1 k2 k3 k4
    exact hK v' w' m' k1 k2 (I.fewer k3 (fun c ob hc hm _ => (k4 c ob hc hm).2) F hrb)
  obtain ⟨_, _, ⟨hw, hh, hv, _⟩ | ⟨hw, hrun, _, _⟩⟩ := H.cases hk
  · refine oper_skip hT hF hop hgd (by rw [hwant]; exact hw) ?_
    exact fin _ _ m (by rw [hv]; exact VR.udf m) m.le_refl I.rel (Ghost.refl _ _)
  · refine oper_do hT hop hgd (by rw [hwant]; exact hw) ?_
    cases hm : makes o.op with
    | true =>
      obtain ⟨s, hs, hsn⟩ := F.plc k o hk hm
      obtain ⟨cs, el, pf, mk, h1, h2, h3, h4⟩ := I.fl k o s hkj hk hm hS hs hw
      obtain ⟨hmn, _⟩ := I.pl k o s hk hm hS hs
      have h1' : opMade o.op T0 = some (cs, el, pf, mk) := by
        rw [← h1]
        cases ho : o.op <;> rw [ho] at hm hev <;> first | (cases hm; done) | skip
        · rfl
        · rename_i el0 pf0 x; have := hev x (by simp [opnds]); simp only [opMade, this]
        · rename_i el0 pf0 z len ps
          have : evp T0 ps = evp (tr k).t ps := evp_congr (fun x hx => hev x.2.2 (List.mem_map.2 ⟨x, hx, rfl⟩))
          simp only [opMade, this]
      obtain ⟨sm, hex, hmb⟩ := made_op (E := ⟨P, B, w0⟩) hT hcomp hm h1'
      obtain ⟨v', w', m', r1, r2, r3, r4, r5⟩ := MadeBy.place (E := ⟨P, B, w0⟩) I.rel hmb h3 hmn h2
      refine ⟨fun f _ => hF.fn f, ?_⟩
      rw [Oper.semAt_eq _ _ _ (comp_nodefer hcomp), hex]
      have r1 : sm.run P w = _ := r1
      rw [run_v r1]
      refine hK v' w' m' (by rw [h4]; exact r2) r3 (I.fewer r4 (fun c ob hc hmc hne => ?_) F hrb)
      rw [r5 c (hne o s hk hm hs)]; exact hmc
    | false =>
      have hrun' : opRun R cx none o.op T0 (tr j).h (tr j).d = some (val k, (tr j).h, (tr j).d) := by
        rw [opRun_congr hev]
        cases hl : isLd o.op with
        | false =>
          obtain ⟨_, _, h3⟩ := pure_op hE hm hl (comp_nomap hcomp) hrun
          exact h3 _ _ _
        | true =>
          obtain ⟨agg, x, he⟩ := isLd_load hl
          obtain ⟨v, h1, h2⟩ := I.ld k o agg x hkj hk he hS hw
          rw [he]
          simp only [opRun, o_load, h1, h2, same]
      exact oper_step hR hRr I.rel hT hF hcomp hm hrun' fin

/-- an operation that may change memory runs; none of those that wait must -/
theorem front_run (hR : CallOK P R) (hRr : RoundOK P R) (F : Facts P ops n al) (H : Trace R cx rb al lgs tr val) (hrb : hi.length = rb) {k : Nat} (I : HInv P B w0 al rb tr val mi hi S k m w) {o : SOper} (hk : al[k]? = some o) (hE : isE o.op = true)
    (hcl : Closed ops (fun i => ∃ (p : Nat) (x : SOper), al[p]? = some x ∧ x.id = i ∧ S p = true))
    {T0 : T} (hT : TR nt m T0 a.tmps) {op : Oper} (hop : ops[o.id]? = some op) (hdeps : ∀ e ∈ op.after, Region.binds .any e = true → ∃ (p : Nat) (x : SOper), al[p]? = some x ∧ x.id = e.on ∧ S p = true)
    (hlook : ∀ x, x ∈ op.looksAt ops → T0.get x = (tr k).t.get x) {Fn : Fence} (hF : FR m cx Fn) {q : Nat} {Q : Exit → Act → World → Prop} {K : Act → World → Prop}
    (hK : ∀ v' w' m', VR m' (val k) v' → m.le m' → HInv P B w0 al rb tr val mi hi (more S k) (k + 1) m' w' → K (a.put op.dst v') w') : wpOpIn Fn q P ops Q o.id K a w := by
  obtain ⟨op', hop', hcomp, hdst, hgd⟩ := F.op k o hk
  rw [hop] at hop'; cases hop'
  have hwant : wantedS T0 o.gd = wantedS (tr k).t o.gd := wanted_get (fun i want hg => hlook i (F.lookg k o op i want hk hop hg))
  have hev : ∀ x ∈ opnds o.op, ev T0 x = ev (tr k).t x := fun x hx => ev_get (fun i hi => hlook i (F.look k o op hk hop x hx i hi))
  have hm : makes o.op = false := by
    cases hm : makes o.op with
    | false => rfl
    | true => rw [(makes_E hm).1] at hE; cases hE
  have hnl : isLd o.op = false := by
    cases hl : isLd o.op with
    | false => rfl
    | true => obtain ⟨agg, x, he⟩ := isLd_load hl; rw [he] at hE; cases hE
  have fin : (∀ (p : Nat) (y : SOper) (agg : Option Nat) (x : Operand), p < k → al[p]? = some y → y.op = .load agg x → S p = false → wantedS (tr p).t y.gd = true → ∃ v, ev (tr p).t x = some v ∧ loadS (tr (k + 1)).h agg v = some (val p)) →
      ∀ v' w' m', VR m' (val k) v' → m.le m' → Rel ⟨P, B, w0⟩ m' (tr (k + 1)).h w' → Ghost m (tr k).h m' (tr (k + 1)).h → K (a.put op.dst v') w' := by
    intro hld v' w' m' k1 k2 k3 k4
    refine hK v' w' m' k1 k2 ⟨k3, I.gh.trans k4, ?_, ?_, ?_⟩
    · intro p y s h1 h2 h3 h4
      obtain ⟨q1, ob, q2⟩ := I.pl p y s h1 h2 (more_false h3).2 h4
      obtain ⟨q3, q4⟩ := k4 _ ob q2 q1
      exact ⟨q4, ob, q3⟩
    · intro p y s hp h1 h2 h3 h4 h5
      obtain ⟨hne, hS⟩ := more_false h3
      obtain ⟨cs, el, pf, mk, q1, q2, q3, q4⟩ := I.fl p y s (by omega) h1 h2 hS h4 h5
      obtain ⟨q5, _⟩ := I.pl p y s h1 h2 hS h4
      exact ⟨cs, el, pf, mk, q1, (k4 _ _ q2 q5).1, q3, q4⟩
    · intro p y agg x hp h1 h2 h3 h4
      obtain ⟨hne, hS⟩ := more_false h3
      exact hld p y agg x (by omega) h1 h2 hS h4
  obtain ⟨_, _, ⟨hw, hh, hv, _⟩ | ⟨hw, hrun, hchk, _⟩⟩ := H.cases hk
  · refine oper_skip hT hF hop hgd (by rw [hwant]; exact hw) ?_
    refine fin ?_ _ _ m (by rw [hv]; exact VR.udf m) m.le_refl (by rw [hh]; exact I.rel) (by rw [hh]; exact Ghost.refl _ _)
    intro p y agg x hp h1 h2 h3 h4
    rw [hh]; exact I.ld p y agg x hp h1 h2 h3 h4
  · refine oper_do hT hop hgd (by rw [hwant]; exact hw) ?_
    have hrun' : opRun R cx (slotOf rb o.sl) o.op T0 (tr k).h (tr k).d = some (val k, (tr (k + 1)).h, (tr (k + 1)).d) := by rw [opRun_congr hev]; exact hrun
    refine oper_step hR hRr I.rel hT hF hcomp hm hrun' (fin ?_)
    intro p y agg x hp h1 h2 h3 h4
    obtain ⟨v, q1, q2⟩ := I.ld p y agg x hp h1 h2 h3 h4
    have hyl : isLd y.op = true := by rw [h2]; rfl
    refine ⟨v, q1, ?_⟩
    rcases F.chk p k y o op hp h1 hk hop hE hyl with hc | hc
    · have hlog := H.log h1 h2 (F.lg p y h1 hyl) h4 q1 k hp (by have := (List.getElem?_eq_some_iff.1 hk).1; omega)
      unfold chkAll at hchk
      have := List.all_eq_true.1 hchk _ hlog
      have hcc : o.chk.contains y.id = true := by simpa using hc
      simp only [hcc, Bool.not_true, Bool.false_or] at this
      split at this
      · rename_i u hu
        rw [hu, vsame_eq this]
      · cases this
    · obtain ⟨p', y', r1, r2, r3⟩ := hc _ hcl hdeps
      have := F.inj p' p y' y r1 h1 r2
      subst this
      rw [h3] at r3; cases r3

/-- what holds on the way through a region -/
structure Inv (P : Program) (B : Nat) (w0 : World) (nt : Nat) (ops : Array Oper) (al : List SOper) (rb : Nat) (tr : Nat → St) (val : Nat → Value) (mi : Mp) (hi : SHeap) (S : Nat → Bool) (f : Nat) (m : Mp) (listed : Array Bool) (a : Act) (w : World) : Prop where
  sz : listed.size = ops.size
  li : ∀ (k : Nat) (o : SOper), al[k]? = some o → listed[o.id]? = some (S k)
  cl : Closed ops (fun i => ∃ (p : Nat) (x : SOper), al[p]? = some x ∧ x.id = i ∧ S p = true)
  fN : f ≤ al.length
  lo : ∀ k, f ≤ k → S k = false
  pe : ∀ (k : Nat) (o : SOper) (op : Oper), k < f → al[k]? = some o → ops[o.id]? = some op → S k = false → isE o.op = false ∧ FreeAt ops al k o op
  fr : f < al.length → SoloAt ops al f
  T : TR nt m (TS al val (tr 0).t S al.length) a.tmps
  H : HInv P B w0 al rb tr val mi hi S f m w
  le : mi.le m

/-- on to the next operation that all later ones wait for -/
theorem to_front (F : Facts P ops n al) (H : Trace R cx rb al lgs tr val) (hrb : hi.length = rb) : ∀ (c j : Nat), c + j = al.length → HInv P B w0 al rb tr val mi hi S j m w → (∀ k, j ≤ k → S k = false) →
    ∃ f, j ≤ f ∧ f ≤ al.length ∧ HInv P B w0 al rb tr val mi hi S f m w ∧ (∀ (k : Nat) (o : SOper) (op : Oper), j ≤ k → k < f → al[k]? = some o → ops[o.id]? = some op → isE o.op = false ∧ FreeAt ops al k o op) ∧ (f < al.length → SoloAt ops al f)
  | 0, j, hc, I, _ => ⟨j, by omega, by omega, I, fun k o op h1 h2 => by omega, fun h => by omega⟩
  | c + 1, j, hc, I, hS => by
    have hj : al[j]? = some al[j] := by simp
    obtain ⟨op, hop, _⟩ := F.op j _ hj
    rcases F.kind j _ op hj hop with ⟨hE, hfree⟩ | hsolo
    · obtain ⟨f, h1, h2, h3, h4, h5⟩ := to_front F H hrb c (j + 1) (by omega) (I.advance F H hrb hj hE (hS j (by omega))) (fun k hk => hS k (by omega))
      refine ⟨f, by omega, h2, h3, fun k o op' hk1 hk2 ho hop' => ?_, h5⟩
      by_cases e : k = j
      · subst e
        rw [hj] at ho; cases ho
        rw [hop] at hop'; cases hop'
        exact ⟨hE, hfree⟩
      · exact h4 k o op' (by omega) hk2 ho hop'
    · exact ⟨j, by omega, by omega, I, fun k o op h1 h2 => by omega, fun _ => hsolo⟩

end
end Go.Proofs.Ytecncmmkghmojaa.Sh
