/- The shadow machine: pieces of code. -/
import Derived.Test.YtecncmmkghmojaaShY
import Derived.RangeFuncNested
set_option linter.all false
namespace Go.Proofs.Ytecncmmkghmojaa.Sh
open Go Go.RowKit

def LoopOK (P : Program) (R : Rec) (k : Nat) : Prop := ∀ (B : Nat) (w0 : World) (nt : Nat) (cx : Cx) (code : Code) (c : SCode) (s : St) (ex : Ex) (s' : St) (m : Mp) (a : Act) (w : World) (F : Fence) (q : Nat) (Q : Exit → Act → World → Prop),
  compCode P code = some c → bounded nt c = true → R.loop cx c s = some (ex, s') → SR P B w0 nt m s a w → FR m cx F → (∀ e a' w', XP P B w0 nt m s.h ex s' e a' w' → Q e a' w') → Code.roundsIn F q P code Q k a w

theorem XP.trans {P : Program} {B : Nat} {w0 : World} {nt : Nat} {m m1 : Mp} {h h1 : SHeap} {ex : Ex} {s' : St} {e : Exit} {a' : Act} {w' : World} (hm : m.le m1) (hg : Ghost m h m1 h1) (x : XP P B w0 nt m1 h1 ex s' e a' w') : XP P B w0 nt m h ex s' e a' w' := by
  obtain ⟨h1, m', h2, h3, h4⟩ := x
  exact ⟨h1, m', Mp.le_trans hm h2, hg.trans h3, h4⟩

theorem setLoop_some {h : SHeap} {l st : Nat} {pend : Option SCode} {st0 fn t ps as body pend0 df} (hl : h[l]? = some (.loop st0 fn t ps as body pend0 df)) : setLoop h l st pend = h.set l (.loop st fn t ps as body pend df) := by
  unfold setLoop; rw [hl]

theorem Ghost.set {m : Mp} {h : SHeap} {l : Nat} {o : SO} {x} (hl : m.at l = some x) : Ghost m h m (h.set l o) := by
  intro c ob hc hm
  refine ⟨?_, hm⟩
  rw [List.getElem?_set_ne (by intro e; subst e; rw [hl] at hm; cases hm)]
  exact hc

/-- the record of a loop turns -/
theorem Rel.setLoop {E : Env} {m : Mp} {h : SHeap} {w : World} (r : Rel E m h w) {l A st st0 fn : Nat} {t : T} {ps : List Nat} {as body : SCode} {pend pend0 : Option SCode} {df : Nat} (hl : h[l]? = some (.loop st0 fn t ps as body pend0 df)) (hm : m.at l = some (A, 0))
    {lr lr' : Loop} (hr : w.heap[A]? = some (.loop lr)) (hk : LoopR E.P m st0 fn t ps as body pend0 df lr) (he : lr' = { lr with state := lr'.state, pending := lr'.pending }) (hst : stR st lr'.state) (hpe : PendR pend lr'.pending) :
    Rel E m (Sh.setLoop h l st pend) (w.putObj A (.loop lr')) := by
  rw [setLoop_some hl]
  refine r.replace (ob := .loop lr) hl hm rfl (by intros; intro e; cases e) (by intros; intro e; cases e) hr (by intros; intro e; cases e) ?_
  have hA : A < w.heap.size := (Array.getElem?_eq_some_iff.1 hr).1
  refine ⟨rfl, lr', World.putObj_heap_same hA, ?_⟩
  rw [he]
  exact ⟨hst, hk.hps, hk.has, hk.hbody, hpe, hk.hdf, hk.htm⟩

theorem leads_wide {m : Mp} {cx : Cx} {F : Fence} (hF : FR m cx F) {p : Program} {w : World} {t : Target} {args : Array Value} : ∀ f', Target.leads p w t args = some f' → F.fn f' := fun f' _ => hF.fn f'

section
variable {P : Program} {B : Nat} {w0 : World} {R : Rec} {nt : Nat}

/-- a range over a function -/
theorem rangeFunc_ok (hR : CallOK P R) {cx : Cx} {g : Operand} {ps : Array Tmp} {x y : Code} {as body : SCode} (hx : compCode P x = some as) (hy : compCode P y = some body) (hg : okO g = true) (hb : bounded nt (.rangeFunc g ps.toList as body) = true)
    {s s' : St} {ex : Ex} (hs : exec R cx (.rangeFunc g ps.toList as body) s = some (ex, s')) {m : Mp} {a : Act} {w : World} (hsr : SR P B w0 nt m s a w) {F : Fence} (hF : FR m cx F) {q : Nat} {Q : Exit → Act → World → Prop}
    (hQ : ∀ e a' w', XP P B w0 nt m s.h ex s' e a' w' → Q e a' w') : (Code.rangeFunc g ps x y).wpIn F q P Q a w := by
  simp only [exec] at hs
  split at hs
  case h_2 => cases hs
  rename_i gf first cap hev
  obtain ⟨first', cap', hfe, hl1, hl2⟩ : ∃ first' cap', a.eval g = .func (.func gf) first' cap' ∧ LR m first.toList first'.toList ∧ LR m cap.toList cap'.toList := by
    have hfr := ev_sim hsr.tr hg hev
    generalize a.eval g = fr at hfr ⊢
    cases hfr with
    | func x1 x2 x3 x4 => exact ⟨_, _, rfl, ⟨x1, x3⟩, ⟨x2, x4⟩⟩
  simp only [bounded, Bool.and_eq_true] at hb
  -- once the record is laid
  have main : ∀ (m1 : Mp) (h1 : SHeap) (mk : List Nat) (df dA : Nat) (w1 : World) (mark : List Deferred), m.le m1 → Ghost m s.h m1 h1 → Rel ⟨P, B, w0⟩ m1 h1 w1 → m1.at df = some (dA, 0) → DR m1 mk (mark ++ a.defers) →
      (match R.call gf (first.toList ++ [.func (.yield h1.length) #[] #[]] ++ cap.toList) (h1 ++ [.loop 0 cx.fn s.t ps.toList as body none df]) with
        | none => none
        | some (_, h2, d2) =>
          match h2[h1.length]? with
          | some (.loop st _ _ _ _ _ pend _) =>
            if st == 1 then none
            else match pend with
              | none => some (Ex.normal, (⟨s.t, mk, Sh.setLoop h2 h1.length 3 none, dirts cx.base d2 s.d⟩ : St))
              | some .ret => some (.ret, ⟨s.t, mk, Sh.setLoop h2 h1.length 3 (some .ret), dirts cx.base d2 s.d⟩)
              | some (.exit id) => some (.exit id, ⟨s.t, mk, Sh.setLoop h2 h1.length 3 (some (.exit id)), dirts cx.base d2 s.d⟩)
              | _ => none
          | _ => none) = some (ex, s') →
      ∀ fn, ∃ (w₂ : World) (d : Deferred) (f : FuncId) (args : Array Value), w₂ = w1.alloc (.loop { state := .ready, pending := none, fn, tmps := a.tmps, params := ps, assign := x, body := y, defers := dA }) ∧
        (resolve a.eval (rangeCall g w1.heap.size) 0).run P w₂ = .ok d w₂ ∧ (invoke d.target d.args).run P w₂ = .ok (.enter f args) w₂ ∧
        CallsIn F (q - 1) P f args w₂ (rangePost F q P w1.heap.size Q { a with defers := mark ++ a.defers }) := by
    intro m1 h1 mk df dA w1 mark hm1 hg1 r1 hdf hdr hcall fn
    split at hcall
    case h_1 => cases hcall
    rename_i v2 h2 d2 hrc
    -- the record
    have r2 : Rel ⟨P, B, w0⟩ (m1 ++ [some ((w1.heap.size, 0), none)]) (h1 ++ [.loop 0 cx.fn s.t ps.toList as body none df]) (w1.alloc (.loop { state := .ready, pending := none, fn, tmps := a.tmps, params := ps, assign := x, body := y, defers := dA })) := by
      refine Rel.push (o := .loop 0 cx.fn s.t ps.toList as body none df) r1 rfl none (fun w' hw' => ?_) (fun K s e => by cases e)
      exact ⟨rfl, _, hw', ⟨trivial, rfl, hx, hy, .none, Mp.le_at (Mp.le_append _ _) hdf, nt, (hsr.tr.mono hm1).mono (Mp.le_append _ _), hb.1.2, hb.2, hb.1.1⟩⟩
    have hlen : m1.length = h1.length := r1.len
    have hml : Mp.at (m1 ++ [some ((w1.heap.size, 0), none)]) h1.length = some (w1.heap.size, 0) := by rw [← hlen, Mp.at_snoc]; rfl
    have hmm : m.le (m1 ++ [some ((w1.heap.size, 0), none)]) := Mp.le_trans hm1 (Mp.le_append _ _)
    have hargs : LR (m1 ++ [some ((w1.heap.size, 0), none)]) (first.toList ++ [.func (.yield h1.length) #[] #[]] ++ cap.toList) (first'.toList ++ [.func (.yield w1.heap.size) #[] #[]] ++ cap'.toList) :=
      ((hl1.mono hmm).append ((LR.nil _).cons (.yield hml))).append (hl2.mono hmm)
    obtain ⟨⟨fn0, k1, k2, k3⟩, hcalls⟩ := hR B w0 gf _ _ v2 h2 d2 _ _ _ hrc r2 hargs
    have k3' : ¬ fn0.body = none := by intro h; rw [h] at k3; cases k3
    refine ⟨_, { target := .fn (.func gf) cap', args := first' ++ #[Value.func (Fn.yield w1.heap.size) #[] #[]] }, gf, (first'.toList ++ [Value.func (Fn.yield w1.heap.size) #[] #[]] ++ cap'.toList).toArray, rfl, ?_, ?_, ?_⟩
    · have hce : ∀ v, a.eval (.const v) = v := fun _ => rfl
      simp [resolve, hfe, Deferred.ofValue, hce]
    · have : first' ++ #[Value.func (Fn.yield w1.heap.size) #[] #[]] ++ cap' = (first'.toList ++ [Value.func (Fn.yield w1.heap.size) #[] #[]] ++ cap'.toList).toArray := by apply Array.ext'; simp
      simp [invoke, callFunc, k1, k2, k3']
    · refine hF.calls (CallsIn.mono (hcalls (q - 1)) ?_)
      intro e w3 he
      cases e with
      | panicked c => exact he.elim
      | outgrown => exact he.elim
      | returned v' =>
        obtain ⟨m3, q1, q2, q3, q4⟩ := he
        have hml3 := Mp.le_at q2 hml
        split at hcall
        case h_2 => cases hcall
        rename_i st _ _ _ _ _ pend _ hl2
        obtain ⟨_, lr, e2, e3⟩ := q3.obj _ _ _ _ hl2 hml3
        split at hcall
        · cases hcall
        rename_i hst
        have hbusy : lr.state ≠ .busy := by
          intro hbb
          have := e3.hst
          rw [hbb] at this
          unfold stR at this
          split at this <;> first | (simp at hst; done) | (cases this; done) | (rename_i e4; cases e4) | skip
          all_goals simp_all
        refine ⟨lr.pending, _, run_endLoop e2 hbusy, ?_⟩
        have rs : ∀ pend', pend' = pend → Rel ⟨P, B, w0⟩ m3 (Sh.setLoop h2 h1.length 3 pend') (w3.putObj w1.heap.size (.loop { lr with state := .exhausted })) := by
          intro pend' hp'
          subst hp'
          exact q3.setLoop hl2 hml3 e2 e3 rfl trivial e3.hpend
        have hgh : ∀ pend', Ghost m s.h m3 (Sh.setLoop h2 h1.length 3 pend') := by
          intro pend'
          rw [setLoop_some hl2]
          exact ((hg1.trans (Ghost.push hlen)).trans q4).trans (Ghost.set hml3)
        have hle3 : m.le m3 := Mp.le_trans hmm q2
        have hdr3 : DR m3 mk (mark ++ a.defers) := (hdr.mono (Mp.le_append _ _)).mono q2
        have hpp := e3.hpend
        generalize w3.putObj w1.heap.size (Obj.loop { lr with state := .exhausted }) = W at rs ⊢
        split at hcall
        · cases hcall
          have : lr.pending = none := by generalize lr.pending = z at hpp; cases hpp; rfl
          rw [this]
          exact hQ _ _ _ ⟨rfl, m3, hle3, hgh _, hsr.tr.mono hle3, hdr3, rs none rfl⟩
        · cases hcall
          have : lr.pending = some .ret := by generalize lr.pending = z at hpp; cases hpp; rfl
          rw [this]
          exact wpIn_ret (hQ _ _ _ ⟨rfl, m3, hle3, hgh _, hsr.tr.mono hle3, hdr3, rs (some .ret) rfl⟩)
        · rename_i id
          cases hcall
          have : lr.pending = some (.exit id) := by generalize lr.pending = z at hpp; cases hpp; rfl
          rw [this]
          exact wpIn_exit (hQ _ _ _ ⟨rfl, m3, hle3, hgh _, hsr.tr.mono hle3, hdr3, rs (some (.exit id)) rfl⟩)
        · cases hcall
  refine wpIn_rangeFunc (fun fn _ => ?_)
  rcases hF with ⟨hrn, rfl⟩ | ⟨l, A, hrn, rfl, hml⟩
  · rw [hrn] at hs
    simp only at hs
    have r1 : Rel ⟨P, B, w0⟩ (m ++ [some ((w.heap.size, 0), none)]) (s.h ++ [.deferred]) (w.alloc (.deferred (some []))) :=
      Rel.push (o := .deferred) hsr.rel rfl none (fun w' hw' => ⟨rfl, hw'⟩) (fun K s e => by cases e)
    have hlen : m.length = s.h.length := hsr.rel.len
    have hdf : Mp.at (m ++ [some ((w.heap.size, 0), none)]) s.h.length = some (w.heap.size, 0) := by rw [← hlen, Mp.at_snoc]; rfl
    obtain ⟨w₂, d, f, args, e1, e2, e3, e4⟩ := main _ _ (s.h.length :: s.ms) s.h.length w.heap.size _ [{ target := .collected w.heap.size, args := #[] }] (Mp.le_append _ _) (Ghost.push hlen) r1 hdf (.cons hdf (hsr.ds.mono (Mp.le_append _ _))) hs fn
    have hsz : (w.alloc (.deferred (some []))).heap.size = w.heap.size + 1 := by rw [World.size_alloc]
    rw [hsz] at e2 e4
    refine ⟨_, _, w₂, d, w₂, f, args, w₂, ?_, e2, fun _ _ => trivial, e3, (by intro k; cases k), e4⟩
    rw [e1]
    exact run_enterLoop_outer fn a.tmps ps x y
  · rw [hrn] at hs
    simp only at hs
    split at hs
    case h_1 => cases hs
    rename_i h1 mk df hfind
    split at hfind
    case h_2 => cases hfind
    rename_i st0 fn0 t0 ps0 as0 body0 pend0 df0 hl
    cases hfind
    obtain ⟨_, lr, e2, e3⟩ := hsr.rel.obj _ _ _ _ hl hml
    have hF' : FR m cx (Fence.wide.inRound A) := .inr ⟨l, A, hrn, rfl, hml⟩
    obtain ⟨w₂, d, f, args, g1, g2, g3, g4⟩ := main m s.h s.ms df lr.defers w [] m.le_refl (Ghost.refl _ _) hsr.rel e3.hdf hsr.ds hs fn
    refine ⟨_, _, w₂, d, w₂, f, args, w₂, ?_, g2, fun _ _ => trivial, g3, (by intro k; cases k), g4⟩
    rw [g1]
    have := run_enterLoop_inner (P := P) (l₀ := A) (r₀ := lr) e2 fn a.tmps ps x y
    exact this

end
end Go.Proofs.Ytecncmmkghmojaa.Sh
