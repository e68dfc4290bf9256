/- The shadow machine: code with iterators over maps, all orders at once. -/
import Derived.Test.YtdmfhdnpakgkpaaDoorShZq
set_option linter.all false
namespace Go.Proofs.YtdmfhdnpakgkpaaDoor.Sh
open Go Go.RowKit

def bindL {α β : Type} (x : Option (List α)) (f : α → Option (List β)) : Option (List β) :=
  match x with
  | none => none
  | some l => match mapO f l with
    | some r => some r.flatten
    | none => none
theorem bindL_some {α β : Type} {x : Option (List α)} {f : α → Option (List β)} {L : List β} (h : bindL x f = some L) : ∃ l, x = some l ∧ ∀ a ∈ l, ∃ r, f a = some r ∧ ∀ b ∈ r, b ∈ L := by
  unfold bindL at h
  split at h
  · cases h
  · rename_i l
    split at h
    · rename_i r hr
      cases h
      refine ⟨l, rfl, fun a ha => ?_⟩
      have : ∀ (l : List α) (r : List (List β)), mapO f l = some r → ∀ a ∈ l, ∃ x, f a = some x ∧ x ∈ r := by
        intro l
        induction l with
        | nil => intro r _ a ha; cases ha
        | cons y l ih =>
          intro r hr a ha
          unfold mapO at hr
          split at hr
          · rename_i z zs h1 h2
            cases hr
            rcases List.mem_cons.1 ha with rfl | ha
            · exact ⟨z, h1, by simp⟩
            · obtain ⟨x, h3, h4⟩ := ih zs h2 a ha
              exact ⟨x, h3, by simp [h4]⟩
          · cases hr
      obtain ⟨x, h1, h2⟩ := this l r hr a ha
      exact ⟨x, h1, fun b hb => List.mem_flatten.2 ⟨x, h2, hb⟩⟩
    · cases h

def opsL (R : Rec) (cx : Cx) : List SOper → St → Option (List St)
  | [], s => some [s]
  | o :: r, s =>
    if wantedS s.t o.gd then bindL (opL R cx o.op s.t s.h s.d) fun x => opsL R cx r ⟨sput s.t o.dst x.1, s.ms, x.2.1, x.2.2⟩
    else opsL R cx r ⟨sput s.t o.dst udf, s.ms, s.h, s.d⟩

def hasIter : SCode → Bool
  | .region _ ops => ops.any fun o => isIter o.op
  | .seq a b | .cond _ a b => hasIter a || hasIter b
  | .block _ c | .loop c => hasIter c
  | _ => false

def loopL (f : St → Option (List (Ex × St))) : Nat → St → Option (List (Ex × St))
  | 0, _ => none
  | k + 1, s => bindL (f s) fun x => match x.1 with
    | .normal => loopL f k x.2
    | _ => some [x]

def oneL (x : Option (Ex × St)) : Option (List (Ex × St)) := match x with
  | some r => some [r]
  | none => none

def LOOPS : Nat := 64
def execL (R : Rec) (cx : Cx) : SCode → St → Option (List (Ex × St))
  | .region n ops, s => if ops.any (fun o => isIter o.op) then
      (if Nat.beq n 0 then (match opsL R cx ops s with
        | some l => some (l.map fun s' => (Ex.normal, s'))
        | none => none) else none)
    else oneL (exec R cx (.region n ops) s)
  | .seq a b, s => bindL (execL R cx a s) fun x => match x.1 with
    | .normal => execL R cx b x.2
    | _ => some [x]
  | .cond c a b, s => match ev s.t c with
    | some (.bool c) => if c then execL R cx a s else execL R cx b s
    | _ => none
  | .block id c, s => bindL (execL R cx c s) fun x => match x.1 with
    | .exit j => some [(if j == id then .normal else .exit j, x.2)]
    | _ => some [x]
  | .loop c, s => if hasIter c then loopL (execL R cx c) LOOPS s else oneL (exec R cx (.loop c) s)
  | c, s => oneL (exec R cx c s)

section
variable {P : Program} {nt : Nat} {m : Mp} {a : Act} {B : Nat} {w0 : World}

theorem comp_iter {op : Op} {so : SOp} (hc : compOp P op = some so) (hi : isIter so = true) :
    (∃ t x kt e, op = .range t x ∧ so = .range x ∧ okO x = true ∧ P.underlying t = some (.map kt e)) ∨ (∃ x, op = .next x false ∧ so = .next x ∧ okO x = true) ∨ ∃ x, op = .entry x ∧ so = .entry x ∧ okO x = true := by
  unfold compOp at hc
  split at hc
  case h_13 =>
    split at hc
    · rename_i kt e hu
      obtain ⟨h1, rfl⟩ := ifO' hc
      exact .inl ⟨_, _, kt, e, rfl, rfl, h1, hu⟩
    · cases hc
  case h_14 =>
    obtain ⟨h1, rfl⟩ := ifO' hc
    exact .inr (.inl ⟨_, rfl, rfl, h1⟩)
  case h_15 =>
    obtain ⟨h1, rfl⟩ := ifO' hc
    exact .inr (.inr ⟨_, rfl, rfl, h1⟩)
  all_goals
    exfalso
    (try unfold compCall at hc)
    (try unfold ifO at hc)
    (repeat' split at hc)
    all_goals first
      | (cases hc; done)
      | (cases hc; cases hi; done)
      | (obtain ⟨_, _, rfl⟩ := map_some' hc; cases hi; done)

/-- one step, whatever the order -/
theorem iter_sim {E : Env} {t : T} {h : SHeap} {d : List Nat} {w : World} (r : Rel E m h w) (ht : TR nt m t a.tmps) {o : Oper} {so : SOp} (hc : compOp E.P o.op = some so) (hi : isIter so = true) {R : Rec} {cx : Cx} {L : List (Value × SHeap × List Nat)} (hs : opL R cx so t h d = some L) :
    ∃ x ∈ L, Does E m h (execOp a.eval o) w x.1 x.2.1 := by
  obtain ⟨dst, op, type, pos, after, guard⟩ := o
  simp only at hc
  rcases comp_iter hc hi with ⟨ty, x, kt, e, rfl, rfl, hx, hu⟩ | ⟨x, rfl, rfl, hx⟩ | ⟨x, rfl, rfl, hx⟩
  · simp only [opL] at hs
    split at hs
    · rename_i b hev
      split at hs
      · rename_i pf es hb
        cases hs
        exact ⟨(Value.pointer (some ⟨h.length, 0, none⟩), h ++ [SO.iter b [] es.length], d), by simp, sim_range r ht hu hx hev hb⟩
      · cases hs
    · cases hs
  · simp only [opL] at hs
    split at hs
    · rename_i b hev
      split at hs
      · rename_i mb seen n hb
        split at hs
        · rename_i pf es hmb
          split at hs
          · rename_i hn
            rcases sim_next (ty := type) r ht hx hev hb hmb (Nat.eq_of_beq_eq_true hn) with ⟨h1, h2⟩ | ⟨i, e, h1, h2, h3⟩
            · rw [h1] at hs
              cases hs
              exact ⟨(.tuple #[.bool false], h, d), by simp, h2⟩
            · split at hs
              · rename_i h0; rw [h0] at h1; cases h1
              · rename_i l hne
                have : ∀ (l : List Nat) (L : List (Value × SHeap × List Nat)), mapO (fun i => match es[i]? with
                    | some e => some ((.tuple #[.bool true, e.1, e.2] : Value), h.set b (.iter mb (seen ++ [i]) n), d)
                    | none => none) l = some L → i ∈ l → ((.tuple #[.bool true, e.1, e.2] : Value), h.set b (.iter mb (seen ++ [i]) n), d) ∈ L := by
                  intro l
                  induction l with
                  | nil => intro L _ hm; cases hm
                  | cons y l ih =>
                    intro L hL hm
                    unfold mapO at hL
                    split at hL
                    · rename_i z zs q1 q2
                      cases hL
                      rcases List.mem_cons.1 hm with rfl | hm
                      · rw [h2] at q1
                        cases q1
                        simp
                      · exact List.mem_cons_of_mem _ (ih zs q2 hm)
                    · cases hL
                exact ⟨(Value.tuple #[.bool true, e.1, e.2], h.set b (SO.iter mb (seen ++ [i]) n), d), this _ _ hs h1, h3⟩
          · cases hs
        · cases hs
      · cases hs
    · cases hs
  · simp only [opL] at hs
    split at hs
    · rename_i b hev
      split at hs
      · rename_i mb seen n hb
        split at hs
        · rename_i pf es i hmb hl
          split at hs
          · rename_i hn
            split at hs
            · rename_i e he
              cases hs
              exact ⟨(.tuple #[e.1, e.2], h, d), by simp, sim_entry r ht hx hev hb hmb (Nat.eq_of_beq_eq_true hn) hl he⟩
            · cases hs
          · cases hs
        · cases hs
      · cases hs
    · cases hs

theorem oper_L {R : Rec} (hR : CallOK P R) (hRr : RoundOK P R) {t : T} {h : SHeap} {d : List Nat} {w : World} (r : Rel ⟨P, B, w0⟩ m h w) (ht : TR nt m t a.tmps) {cx : Cx} {F : Fence} (hF : FR m cx F)
    {o : Oper} {so : SOp} (hc : compOp P o.op = some so) {L : List (Value × SHeap × List Nat)} (hs : opL R cx so t h d = some L) {n : Nat} {Q : Exit → Act → World → Prop} {K : Act → World → Prop}
    (hK : ∀ x ∈ L, ∀ v' w' m', VR m' x.1 v' → m.le m' → Rel ⟨P, B, w0⟩ m' x.2.1 w' → Ghost m h m' x.2.1 → K (a.put o.dst v') w') : o.wpIn F n P a w K Q := by
  by_cases hi : isIter so = true
  · obtain ⟨x, hx, v', w', m', hrun, q1, q2, q3, q4⟩ := iter_sim (E := ⟨P, B, w0⟩) r ht hc hi hs
    refine ⟨fun f _ => hF.fn f, ?_⟩
    rw [Oper.semAt_eq _ _ _ (comp_nodefer hc)]
    rcases hrun with hrun | ⟨hrun, rfl⟩
    · have hrun : (execOp a.eval o).run P w = _ := hrun
      rw [hrun]; exact hK x hx v' w' m' q1 q2 q3 q4
    · have hrun : (execOp a.eval o).run P w = _ := hrun
      rw [hrun]; exact hK x hx _ w' m' q1 q2 q3 q4
  · have : ∃ v h' d', opRun R cx none so t h d = some (v, h', d') ∧ L = [(v, h', d')] := by
      cases so <;> first
        | (exact absurd rfl hi)
        | (simp only [opL] at hs
           split at hs
           · rename_i r0 hr0; cases hs; exact ⟨_, _, _, hr0, rfl⟩
           · cases hs)
    obtain ⟨v, h', d', h1, rfl⟩ := this
    exact oper_none hR hRr r ht hF hc h1 (fun v' w' m' => hK (v, h', d') (by simp) v' w' m')

theorem ops_L {R : Rec} (hR : CallOK P R) (hRr : RoundOK P R) {cx : Cx} {F : Fence} {ops : Array Oper} {n : Nat} {Q : Exit → Act → World → Prop} : ∀ (l : List Nat) (so : List SOper) (s : St) (L : List St) (m : Mp) (a : Act) (w : World),
    mapO (compOper P ops) l = some so → (so.all fun o => match o.dst with | some d => Nat.blt d nt | none => true) = true → opsL R cx so s = some L → SR P B w0 nt m s a w → FR m cx F →
    (∀ s' ∈ L, ∀ a' w' m', m.le m' → Ghost m s.h m' s'.h → SR P B w0 nt m' s' a' w' → Q .normal a' w') → wpOpsIn F n P ops Q l a w
  | [], so, s, L, m, a, w, hc, hb, hs, hr, hF, hQ => by
    cases hc; cases hs
    exact hQ s (by simp) a w m m.le_refl (Ghost.refl _ _) hr
  | i :: l, so, s, L, m, a, w, hc, hb, hs, hr, hF, hQ => by
    unfold mapO at hc
    split at hc
    case h_2 => cases hc
    rename_i o so' h1 h2
    cases hc
    obtain ⟨q1, q2, q3, q4, op, q5, q6, q7, q8⟩ := compOper_some h1
    simp only [List.all_cons, Bool.and_eq_true] at hb
    have hd : ∀ d, op.dst = some d → d < nt := by
      intro d hd
      have := hb.1
      rw [q7, hd] at this
      simpa using this
    simp only [opsL] at hs
    rw [wpOpsIn_cons]
    by_cases hw : wantedS s.t o.gd = true
    · rw [if_pos hw] at hs
      obtain ⟨l0, hl0, hall⟩ := bindL_some hs
      refine oper_do hr.tr q5 q8 hw (oper_L hR hRr hr.rel hr.tr hF q6 hl0 ?_)
      intro x hx v' w' m' k1 k2 k3 k4
      obtain ⟨L', hL', hsub⟩ := hall x hx
      refine ops_L hR hRr l so' _ L' m' _ w' h2 hb.2 hL' ⟨?_, ?_, k3⟩ (hF.mono k2) ?_
      · rw [q7]; exact (hr.tr.mono k2).put hd k1
      · rw [put_tmps]; exact hr.ds.mono k2
      · intro s' hs' a' w'' m'' e1 e2 e3
        exact hQ s' (hsub s' hs') a' w'' m'' (Mp.le_trans k2 e1) (k4.trans e2) e3
    · rw [if_neg hw] at hs
      refine oper_skip hr.tr hF q5 q8 (by simpa using hw) ?_
      refine ops_L hR hRr l so' _ L m _ w h2 hb.2 hs ⟨?_, ?_, hr.rel⟩ hF hQ
      · rw [q7]; exact hr.tr.put hd (VR.udf m)
      · rw [put_tmps]; exact hr.ds
end
end Go.Proofs.YtdmfhdnpakgkpaaDoor.Sh

