/- The shadow machine: states; a region in the order of the text. -/
import Derived.Test.YtecncmmkghmojaaShS
set_option linter.all false
namespace Go.Proofs.Ytecncmmkghmojaa.Sh
open Go Go.RowKit

/-- something is laid at a place that has no block of the model's -/
theorem Rel.ghost {E : Env} {m : Mp} {h : SHeap} {w : World} (r : Rel E m h w) {b : Nat} (hb : m.at b = none) (o : SO) : Rel E m (h.set b o) w := by
  have hne : ∀ c x, m.at c = some x → b ≠ c := by intro c x hc e; subst e; rw [hb] at hc; cases hc
  have hcp : ∀ c x, m.cp c = some x → b ≠ c := by
    intro c x hc e; subst e
    unfold Mp.cp at hc; rw [Mp.at_none.1 hb] at hc; cases hc
  refine ⟨by simpa using r.len, r.lt, ?_, ?_, ?_, r.cap, ?_, r.below, r.bsz⟩
  · intro c o' A δ hc hm
    rw [List.getElem?_set_ne (hne c _ hm)] at hc
    exact r.obj _ _ _ _ hc hm
  · intro c o' A δ hc hm
    rw [List.getElem?_set_ne (hne c _ hm)] at hc
    exact r.base _ _ _ _ hc hm
  · intro b1 b2 o1 o2 A δ1 δ2 hn h1 h2 m1 m2
    rw [List.getElem?_set_ne (hne _ _ m1)] at h1
    rw [List.getElem?_set_ne (hne _ _ m2)] at h2
    exact r.sep b1 b2 o1 o2 A δ1 δ2 hn h1 h2 m1 m2
  · intro c K s cs el pf own old hc hcc
    rw [List.getElem?_set_ne (hcp c _ hcc)] at hc
    exact r.csz _ _ _ _ _ _ _ _ hc hcc

/-- places are kept -/
theorem Rel.gone1 {E : Env} {m : Mp} {h : SHeap} {w : World} (r : Rel E m h w) : Rel E (m ++ [none]) (h ++ [SO.gone]) w := by
  have key : ∀ c x, Mp.at (m ++ [none]) c = some x → c < m.length ∧ m.at c = some x := by
    intro c x hc
    have hlt := Mp.at_lt hc
    simp at hlt
    by_cases e : c < m.length
    · rw [Mp.at_append_left e] at hc; exact ⟨e, hc⟩
    · have : c = m.length := by omega
      subst this
      rw [Mp.at_snoc] at hc; cases hc
  have keyc : ∀ c x, Mp.cp (m ++ [none]) c = some x → c < m.length ∧ m.cp c = some x := by
    intro c x hc
    by_cases e : c < m.length
    · rw [Mp.cp_append_left e] at hc; exact ⟨e, hc⟩
    · by_cases e2 : c = m.length
      · subst e2; rw [Mp.cp_snoc] at hc; cases hc
      · exfalso
        unfold Mp.cp Mp.full at hc
        rw [List.getElem?_eq_none (by simp; omega)] at hc
        cases hc
  have hget : ∀ c o, c < m.length → (h ++ [SO.gone])[c]? = some o → h[c]? = some o := by
    intro c o hc ho
    rwa [List.getElem?_append_left (by rw [← r.len]; exact hc)] at ho
  refine ⟨by simp [r.len], fun c A δ hc => r.lt _ _ _ (key _ _ hc).2, ?_, ?_, ?_, ?_, ?_, r.below, r.bsz⟩
  · intro c o A δ hc hm
    obtain ⟨k1, k2⟩ := key _ _ hm
    exact (r.obj _ _ _ _ (hget _ _ k1 hc) k2).mono (Mp.le_append _ _)
  · intro c o A δ hc hm
    obtain ⟨k1, k2⟩ := key _ _ hm
    exact r.base _ _ _ _ (hget _ _ k1 hc) k2
  · intro b1 b2 o1 o2 A δ1 δ2 hn h1 h2 m1 m2
    obtain ⟨k1, k2⟩ := key _ _ m1
    obtain ⟨k3, k4⟩ := key _ _ m2
    exact r.sep b1 b2 o1 o2 A δ1 δ2 hn (hget _ _ k1 h1) (hget _ _ k3 h2) k2 k4
  · intro c A δ K s hm hc
    exact r.cap _ _ _ _ _ (key _ _ hm).2 (keyc _ _ hc).2
  · intro c K s cs el pf own old hb hc
    obtain ⟨k1, k2⟩ := keyc _ _ hc
    exact r.csz _ _ _ _ _ _ _ _ (hget _ _ k1 hb) k2
theorem Rel.gones {E : Env} {m : Mp} {h : SHeap} {w : World} (r : Rel E m h w) (n : Nat) : Rel E (m ++ List.replicate n none) (h ++ List.replicate n SO.gone) w := by
  induction n with
  | zero => simpa using r
  | succ n ih =>
    have := ih.gone1
    rw [List.append_assoc, List.append_assoc] at this
    rw [List.replicate_succ', List.replicate_succ']
    exact this

/-- the marks on the activation's deferred calls -/
inductive DR (m : Mp) : List Nat → List Deferred → Prop
  | nil : DR m [] []
  | cons {b A ms ds} (h : m.at b = some (A, 0)) (k : DR m ms ds) : DR m (b :: ms) ({ target := .collected A, args := #[] } :: ds)
theorem DR.mono {m m' : Mp} (hm : m.le m') {ms ds} (h : DR m ms ds) : DR m' ms ds := by
  induction h with
  | nil => exact .nil
  | cons h _ ih => exact .cons (Mp.le_at hm h) ih

structure SR (P : Program) (B : Nat) (w0 : World) (nt : Nat) (m : Mp) (s : St) (a : Act) (w : World) : Prop where
  tr : TR nt m s.t a.tmps
  ds : DR m s.ms a.defers
  rel : Rel ⟨P, B, w0⟩ m s.h w

section
variable {P : Program} {B : Nat} {w0 : World} {nt : Nat} {m : Mp} {a : Act}

/-- an operation, the places apart -/
theorem oper_none {R : Rec} (hR : CallOK P R) (hRr : RoundOK P R) {t : T} {h h' : SHeap} {d d' : List Nat} {w : World} (r : Rel ⟨P, B, w0⟩ m h w) (ht : TR nt m t a.tmps) {cx : Cx} {F : Fence} (hF : FR m cx F)
    {o : Oper} {so : SOp} (hc : compOp P o.op = some so) {v : Value} (hs : opRun R cx none so t h d = some (v, h', d')) {n : Nat} {Q : Exit → Act → World → Prop} {K : Act → World → Prop}
    (hK : ∀ v' w' m', VR m' v v' → m.le m' → Rel ⟨P, B, w0⟩ m' h' w' → Ghost m h m' h' → K (a.put o.dst v') w') : o.wpIn F n P a w K Q := by
  cases hm : makes so with
  | false => exact oper_step hR hRr r ht hF hc hm hs hK
  | true =>
    obtain ⟨cs, el, pf, mk, b, h1, h2, rfl, rfl⟩ := opMade_run hm hs
    obtain ⟨s, hex, hmb⟩ := made_op (E := ⟨P, B, w0⟩) ht hc hm h1
    obtain ⟨hp, hcase⟩ := newS_some h2
    rcases hcase with ⟨_, rfl, rfl⟩ | ⟨hcase, _⟩
    · obtain ⟨v', w', m', hrun, q1, q2, q3, q4⟩ := MadeBy.push (E := ⟨P, B, w0⟩) r hmb hp
      refine ⟨fun f _ => hF.fn f, ?_⟩
      rw [Oper.semAt_eq _ _ _ (comp_nodefer hc), hex]
      have hrun : s.run P w = _ := hrun
      rw [run_v hrun]
      exact hK v' w' m' q1 q2 q3 q4
    · cases hcase

theorem oper_skip {t : T} {w : World} (ht : TR nt m t a.tmps) {cx : Cx} {F : Fence} (hF : FR m cx F) {ops : Array Oper} {i : Nat} {o : Oper} (ho : ops[i]? = some o) {g : Option (Nat × Bool)} (hg : compGuard ops o = some g) (hw : wantedS t g = false)
    {n : Nat} {Q : Exit → Act → World → Prop} {K : Act → World → Prop} (hK : K (a.put o.dst undef) w) : wpOpIn F n P ops Q i K a w := by
  unfold wpOpIn
  simp only [ho, wanted_sim ht hg, hw, Bool.false_eq_true, if_false]
  exact ⟨fun f _ => hF.fn f, hK⟩

theorem oper_do {t : T} {w : World} (ht : TR nt m t a.tmps) {F : Fence} {ops : Array Oper} {i : Nat} {o : Oper} (ho : ops[i]? = some o) {g : Option (Nat × Bool)} (hg : compGuard ops o = some g) (hw : wantedS t g = true)
    {n : Nat} {Q : Exit → Act → World → Prop} {K : Act → World → Prop} (hK : o.wpIn F n P a w K Q) : wpOpIn F n P ops Q i K a w := by
  unfold wpOpIn
  simp only [ho, wanted_sim ht hg, hw, if_true]
  exact hK

theorem ops_plain {R : Rec} (hR : CallOK P R) (hRr : RoundOK P R) {cx : Cx} {F : Fence} {ops : Array Oper} {n : Nat} {Q : Exit → Act → World → Prop} {rb : Nat} : ∀ (l : List Nat) (so : List SOper) (lg : List LogE) (s s' : St) (m : Mp) (a : Act) (w : World),
    mapO (compOper P ops) l = some so → (so.all fun o => match o.dst with | some d => Nat.blt d nt | none => true) = true → opsRun R cx rb so lg s = some s' → SR P B w0 nt m s a w → FR m cx F →
    (∀ a' w' m', m.le m' → Ghost m s.h m' s'.h → SR P B w0 nt m' s' a' w' → Q .normal a' w') → wpOpsIn F n P ops Q l a w
  | [], so, lg, s, s', m, a, w, hc, hb, hs, hr, hF, hQ => by
    cases hc; cases hs
    exact hQ a w m m.le_refl (Ghost.refl _ _) hr
  | i :: l, so, lg, s, s', m, a, w, hc, hb, hs, hr, hF, hQ => by
    unfold mapO at hc
    split at hc
    case h_2 => cases hc
    rename_i o so' h1 h2
    cases hc
    obtain ⟨q1, q2, q3, q4, op, q5, q6, q7, q8⟩ := compOper_some h1
    simp only [List.all_cons, Bool.and_eq_true] at hb
    have hd : ∀ d, op.dst = some d → d < nt := by
      intro d hd
      have := hb.1
      rw [q7, hd] at this
      simpa using this
    rw [opsRun_cons] at hs
    split at hs
    case h_1 => cases hs
    rename_i lg1 s1 v1 hst
    rw [wpOpsIn_cons]
    unfold stepO at hst
    by_cases hw : wantedS s.t o.gd = true
    · rw [if_pos hw] at hst
      split at hst
      case h_1 => cases hst
      rename_i v h' d' hrun
      split at hst
      case isFalse => cases hst
      cases hst
      rw [q2] at hrun
      refine oper_do hr.tr q5 q8 hw (oper_none hR hRr hr.rel hr.tr hF q6 hrun ?_)
      intro v' w' m' k1 k2 k3 k4
      refine ops_plain hR hRr l so' _ _ s' m' _ w' h2 hb.2 hs ⟨?_, ?_, k3⟩ (hF.mono k2) ?_
      · rw [q7]; exact (hr.tr.mono k2).put hd k1
      · rw [put_tmps]; exact hr.ds.mono k2
      · intro a' w'' m'' e1 e2 e3
        exact hQ a' w'' m'' (Mp.le_trans k2 e1) (k4.trans e2) e3
    · rw [if_neg hw] at hst
      cases hst
      refine oper_skip hr.tr hF q5 q8 (by simpa using hw) ?_
      refine ops_plain hR hRr l so' _ _ s' m _ w h2 hb.2 hs ⟨?_, ?_, hr.rel⟩ hF hQ
      · rw [q7]; exact hr.tr.put hd (VR.udf m)
      · rw [put_tmps]; exact hr.ds

end
end Go.Proofs.Ytecncmmkghmojaa.Sh
