/- The shadow machine: code, whole; a round. -/
import Derived.Test.YtecncmmkghmojaaShZ
set_option linter.all false
namespace Go.Proofs.Ytecncmmkghmojaa.Sh
open Go Go.RowKit

section
variable {P : Program} {B : Nat} {w0 : World} {R : Rec}

theorem exec_ok (hmix : P.follows .mixedOrders = true) (hR : CallOK P R) (hRr : RoundOK P R) {k : Nat} (hRl : LoopOK P R k) : ∀ (code : Code) (nt : Nat) (cx : Cx) (c : SCode) (s s' : St) (ex : Ex) (m : Mp) (a : Act) (w : World) (F : Fence) (q : Nat) (Q : Exit → Act → World → Prop),
    compCode P code = some c → bounded nt c = true → exec R cx c s = some (ex, s') → SR P B w0 nt m s a w → FR m cx F → (∀ e a' w', XP P B w0 nt m s.h ex s' e a' w' → Q e a' w') → code.wpIn F q P Q a w := by
  intro code
  induction code with
  | skip =>
    intro nt cx c s s' ex m a w F q Q hc hb hs hsr hF hQ
    cases hc; cases hs
    exact wpIn_skip (hQ _ _ _ ⟨rfl, m, m.le_refl, Ghost.refl _ _, hsr⟩)
  | label l =>
    intro nt cx c s s' ex m a w F q Q hc hb hs hsr hF hQ
    cases hc; cases hs
    exact wpIn_label (hQ _ _ _ ⟨rfl, m, m.le_refl, Ghost.refl _ _, hsr⟩)
  | region id ops draw =>
    intro nt cx c s s' ex m a w F q Q hc hb hs hsr hF hQ
    exact region_ok hmix hR hRr hc hb hs hsr hF hQ
  | scope c0 ih =>
    intro nt cx c s s' ex m a w F q Q hc hb hs hsr hF hQ
    refine wpIn_scope' (ih nt cx c s s' ex m a w F q _ hc hb hs hsr hF ?_)
    intro e a' w' hx
    have h1 := hQ e a' w' hx
    obtain ⟨rfl, _⟩ := hx
    cases ex <;> exact h1
  | seq x y ihx ihy =>
    intro nt cx c s s' ex m a w F q Q hc hb hs hsr hF hQ
    simp only [compCode] at hc
    split at hc
    case h_2 => cases hc
    rename_i cx' cy hcx hcy
    cases hc
    simp only [bounded, Bool.and_eq_true] at hb
    simp only [exec] at hs
    cases hex : exec R cx cx' s with
    | none => rw [hex] at hs; cases hs
    | some r =>
      obtain ⟨ex1, s1⟩ := r
      rw [hex] at hs
      refine wpIn_seq (ihx nt cx cx' s s1 ex1 m a w F q _ hcx hb.1 hex hsr hF ?_)
      intro e a1 w1 hx
      cases ex1 with
      | normal =>
        obtain ⟨rfl, m1, h1, h2, h3⟩ := hx
        exact ihy nt cx cy s1 s' ex m1 a1 w1 F q Q hcy hb.2 hs h3 (hF.mono h1) (fun e a' w' hx => hQ e a' w' (XP.trans h1 h2 hx))
      | exit id =>
        cases hs
        have := hQ e a1 w1 hx
        obtain ⟨rfl, _⟩ := hx
        exact this
      | ret =>
        cases hs
        have := hQ e a1 w1 hx
        obtain ⟨rfl, _⟩ := hx
        exact this
  | cond c0 x y ihx ihy =>
    intro nt cx c s s' ex m a w F q Q hc hb hs hsr hF hQ
    simp only [compCode] at hc
    split at hc
    case h_2 => cases hc
    rename_i cx' cy hcx hcy
    split at hc
    case isFalse => cases hc
    rename_i hok
    cases hc
    simp only [bounded, Bool.and_eq_true] at hb
    simp only [exec] at hs
    split at hs
    case h_2 => cases hs
    rename_i b hev
    have hv := (ev_sim hsr.tr hok hev).bool_inv
    cases b with
    | true =>
      simp only [if_true] at hs
      exact wpIn_cond_true hv (ihx nt cx cx' s s' ex m a w F q Q hcx hb.1 hs hsr hF hQ)
    | false =>
      simp only [Bool.false_eq_true, if_false] at hs
      exact wpIn_cond_false hv (ihy nt cx cy s s' ex m a w F q Q hcy hb.2 hs hsr hF hQ)
  | block id c0 ih =>
    intro nt cx c s s' ex m a w F q Q hc hb hs hsr hF hQ
    obtain ⟨c1, hc1, rfl⟩ := map_some' hc
    simp only [bounded] at hb
    simp only [exec] at hs
    cases hex : exec R cx c1 s with
    | none => rw [hex] at hs; cases hs
    | some r =>
      obtain ⟨ex1, s1⟩ := r
      rw [hex] at hs
      refine wpIn_block (ih nt cx c1 s s1 ex1 m a w F q _ hc1 hb hex hsr hF ?_)
      intro e a1 w1 hx
      cases ex1 with
      | normal =>
        cases hs
        have := hQ e a1 w1 hx
        obtain ⟨rfl, _⟩ := hx
        exact this
      | ret =>
        cases hs
        have := hQ e a1 w1 hx
        obtain ⟨rfl, _⟩ := hx
        exact this
      | exit j =>
        simp only at hs
        obtain ⟨rfl, hx⟩ := hx
        simp only [exR, Exit.inBlock]
        by_cases e : j = id
        · subst e
          simp only [beq_self_eq_true, if_true, Option.some.injEq, Prod.mk.injEq] at hs
          obtain ⟨rfl, rfl⟩ := hs
          rw [if_pos rfl]
          exact hQ _ _ _ ⟨rfl, hx⟩
        · simp only [beq_iff_eq, e, if_false, Option.some.injEq, Prod.mk.injEq] at hs
          obtain ⟨rfl, rfl⟩ := hs
          rw [if_neg e]
          exact hQ _ _ _ ⟨rfl, hx⟩
  | loop c0 ih =>
    intro nt cx c s s' ex m a w F q Q hc hb hs hsr hF hQ
    obtain ⟨c1, hc1, rfl⟩ := map_some' hc
    simp only [bounded] at hb
    simp only [exec] at hs
    exact wpIn_loop_rounds k (hRl B w0 nt cx c0 c1 s ex s' m a w F q Q hc1 hb hs hsr hF hQ)
  | rangeFunc g ps x y ihx ihy =>
    intro nt cx c s s' ex m a w F q Q hc hb hs hsr hF hQ
    simp only [compCode] at hc
    split at hc
    case h_2 => cases hc
    rename_i cx' cy hcx hcy
    split at hc
    case isFalse => cases hc
    rename_i hok
    cases hc
    exact rangeFunc_ok hR hcx hcy hok hb hs hsr hF hQ
  | exit id =>
    intro nt cx c s s' ex m a w F q Q hc hb hs hsr hF hQ
    cases hc; cases hs
    exact wpIn_exit (hQ _ _ _ ⟨rfl, m, m.le_refl, Ghost.refl _ _, hsr⟩)
  | ret =>
    intro nt cx c s s' ex m a w F q Q hc hb hs hsr hF hQ
    cases hc; cases hs
    exact wpIn_ret (hQ _ _ _ ⟨rfl, m, m.le_refl, Ghost.refl _ _, hsr⟩)
  | goto l => intro nt cx c s s' ex m a w F q Q hc; cases hc
  | refuse why => intro nt cx c s s' ex m a w F q Q hc; cases hc

/-- a loop, one round of fuel more -/
theorem loop_ok (hmix : P.follows .mixedOrders = true) (hR : CallOK P R) (hRr : RoundOK P R) {k : Nat} (hRl : LoopOK P R k) : LoopOK P ⟨R.call, R.round, stepLoop R⟩ (k + 1) := by
  intro B w0 nt cx code c s ex s' m a w F q Q hc hb hs hsr hF hQ
  rw [roundsIn_succ]
  simp only [stepLoop] at hs
  cases hex : exec R cx c s with
  | none => rw [hex] at hs; cases hs
  | some r =>
    obtain ⟨ex1, s1⟩ := r
    rw [hex] at hs
    refine exec_ok hmix hR hRr hRl code nt cx c s s1 ex1 m a w F q _ hc hb hex hsr hF ?_
    intro e a1 w1 hx
    cases ex1 with
    | normal =>
      obtain ⟨rfl, m1, h1, h2, h3⟩ := hx
      exact hRl B w0 nt cx code c s1 ex s' m1 a1 w1 F q Q hc hb hs h3 (hF.mono h1) (fun e a' w' hx => hQ e a' w' (XP.trans h1 h2 hx))
    | exit id =>
      cases hs
      have := hQ e a1 w1 hx
      obtain ⟨rfl, _⟩ := hx
      exact this
    | ret =>
      cases hs
      have := hQ e a1 w1 hx
      obtain ⟨rfl, _⟩ := hx
      exact this

theorem zip_TR {nt : Nat} {m : Mp} : ∀ (ps : List Nat) (args args' : List Value) (t : T) (a : Array Value), TR nt m t a → ps.all (fun d => Nat.blt d nt) = true → LR m args args' →
    TR nt m (zipSet t ps args) ((ps.zip args').foldl (fun tmps (p : Nat × Value) => tmps.setIfInBounds p.1 p.2) a)
  | [], args, args', t, a, h, _, _ => by simpa [zipSet] using h
  | p :: ps, [], args', t, a, h, _, hl => by rw [hl.nil_inv]; simpa [zipSet] using h
  | p :: ps, x :: args, args', t, a, h, hb, hl => by
    obtain ⟨y, r, rfl, h1, h2⟩ := hl.cons_inv
    simp only [List.all_cons, Bool.and_eq_true, Nat.blt_eq] at hb
    exact zip_TR ps args r _ _ (h.set hb.1 h1) hb.2 h2

theorem roundTmps_eq (r : Loop) (args : Array Value) : roundTmps r args = (r.params.toList.zip args.toList).foldl (fun tmps (p : Nat × Value) => tmps.setIfInBounds p.1 p.2) r.tmps := by
  unfold roundTmps
  rw [← Array.foldl_toList, Array.toList_zip]

/-- a round -/
theorem round_ok (hmix : P.follows .mixedOrders = true) (hR : CallOK P R) (hRr : RoundOK P R) {k : Nat} (hRl : LoopOK P R k) : RoundOK P ⟨R.call, stepRound R, R.loop⟩ := by
  intro B w0 base l args h v h' d' m w args' A hs r hl hml
  simp only [stepRound] at hs
  split at hs
  case h_2 => cases hs
  rename_i fn t ps as body pend df hhl
  split at hs
  case isFalse => cases hs
  rename_i hlen
  simp only [beq_iff_eq] at hlen
  rw [fZip_eq] at hs
  obtain ⟨_, lr, e2, e3⟩ := r.obj _ _ _ _ hhl hml
  have hpl : args'.length = lr.params.size := by rw [← hl.1, hlen, ← e3.hps]; simp
  refine ⟨lr, e2, hpl, fun n => ?_⟩
  obtain ⟨nt, htr, hb1, hb2, hb3⟩ := e3.htm
  split at hs
  case h_2 => cases hs
  rename_i s1 hex1
  split at hs
  case h_2 => cases hs
  rename_i fn2 t2 ps2 as2 body2 pend2 df2 hl1
  rw [fH_eq] at hs
  have hF : ∀ m', m.le m' → FR m' ⟨base, some l, fn⟩ (Fence.wide.inRound A) := fun m' hm => .inr ⟨l, A, rfl, rfl, Mp.le_at hm hml⟩
  have htr1 : TR nt m (zipSet t ps args) (roundTmps lr args'.toArray) := by
    rw [roundTmps_eq, e3.hps]
    exact zip_TR ps args args' t lr.tmps htr hb3 hl
  refine roundIn_of_wpIn (F := Fence.wide) trivial ?_
  refine exec_ok hmix hR hRr hRl lr.assign nt ⟨base, some l, fn⟩ as ⟨zipSet t ps args, [], h, []⟩ s1 .normal m _ w _ n _ e3.has hb1 hex1 ⟨htr1, .nil, r⟩ (hF m m.le_refl) ?_
  rintro e a1 w1 ⟨rfl, m1, h1, h2, h3⟩
  obtain ⟨_, lr1, e4, e5⟩ := h3.rel.obj _ _ _ _ hl1 (Mp.le_at h1 hml)
  have hready : lr1.state = .ready := by
    have := e5.hst
    generalize lr1.state = z at this
    cases z <;> first | rfl | (exact this.elim)
  refine ⟨_, run_beginRound e4 hready, ?_⟩
  have r1 : Rel ⟨P, B, w0⟩ m1 (setLoop s1.h l 1 pend2) (w1.putObj A (.loop { lr1 with state := .busy })) := h3.rel.setLoop hl1 (Mp.le_at h1 hml) e4 e5 rfl trivial e5.hpend
  split at hs
  case h_2 => cases hs
  rename_i ex s2 hex2
  refine exec_ok hmix hR hRr hRl lr.body nt ⟨base, some l, fn⟩ body _ s2 ex m1 a1 _ _ n _ e3.hbody hb2 hex2 ⟨h3.tr, h3.ds, r1⟩ (hF m1 h1) ?_
  intro e a2 w2 hx
  obtain ⟨he, m2, h4, h5, h6⟩ := hx
  split at hs
  case h_2 => cases hs
  rename_i st3 fn3 t3 ps3 as3 body3 pend3 df3 hl2
  cases hs
  have hml2 := Mp.le_at h4 (Mp.le_at h1 hml)
  obtain ⟨_, lr2, e6, e7⟩ := h6.rel.obj _ _ _ _ hl2 hml2
  have hgh : ∀ st pd, Ghost m h m2 (setLoop s2.h l st pd) := by
    intro st pd
    rw [setLoop_some hl2]
    refine (h2.trans ?_).trans (Ghost.set hml2)
    refine Ghost.trans ?_ h5
    show Ghost m1 s1.h m1 (setLoop s1.h l 1 pend2)
    rw [setLoop_some hl1]
    exact Ghost.set (Mp.le_at h1 hml)
  have hle : m.le m2 := Mp.le_trans h1 h4
  subst he
  cases ex with
  | normal =>
    refine ⟨_, _, run_endRound none e6, m2, .bool _, hle, ?_, hgh _ _⟩
    exact h6.rel.setLoop hl2 hml2 e6 e7 rfl trivial .none
  | ret =>
    refine ⟨_, _, run_endRound (some .ret) e6, m2, .bool _, hle, ?_, hgh _ _⟩
    exact h6.rel.setLoop hl2 hml2 e6 e7 rfl trivial .ret
  | exit id =>
    refine ⟨_, _, run_endRound (some (.exit id)) e6, m2, .bool _, hle, ?_, hgh _ _⟩
    exact h6.rel.setLoop hl2 hml2 e6 e7 rfl trivial (.exit id)

end
end Go.Proofs.Ytecncmmkghmojaa.Sh
