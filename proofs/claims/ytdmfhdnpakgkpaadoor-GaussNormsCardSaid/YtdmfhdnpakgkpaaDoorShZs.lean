/- The shadow machine: code with iterators over maps is followed. -/
import Derived.Test.YtdmfhdnpakgkpaaDoorShZr
set_option linter.all false
namespace Go.Proofs.YtdmfhdnpakgkpaaDoor.Sh
open Go Go.RowKit

theorem preOf_op : ∀ (l : List SOper) (n : Nat) (o : SOper), o ∈ preOf l n → ∃ o0 ∈ l, o.op = o0.op
  | [], _, o, h => by cases h
  | x :: r, n, o, h => by
    simp only [preOf] at h
    split at h
    · rcases List.mem_cons.1 h with rfl | h
      · exact ⟨x, by simp, rfl⟩
      · obtain ⟨o0, h1, h2⟩ := preOf_op r _ o h
        exact ⟨o0, by simp [h1], h2⟩
    · rcases List.mem_cons.1 h with rfl | h
      · exact ⟨_, by simp, rfl⟩
      · obtain ⟨o0, h1, h2⟩ := preOf_op r _ o h
        exact ⟨o0, by simp [h1], h2⟩
theorem annot_op {ops : Array Oper} {so : List SOper} : ∀ (l : List Nat) (done : List SOper) (acc : List (Nat × List Nat)) (al : List SOper), annot ops so done acc l = some al → ∀ o ∈ al, ∃ o0 ∈ so, o.op = o0.op
  | [], _, _, al, h, o, ho => by cases h; cases ho
  | i :: r, done, acc, al, h, o, ho => by
    simp only [annot] at h
    split at h
    · rename_i x op h1 h2
      obtain ⟨al', h3, rfl⟩ := map_some' h
      rcases List.mem_cons.1 ho with rfl | ho
      · exact ⟨x, List.mem_of_getElem? h1, rfl⟩
      · exact annot_op r _ _ _ h3 o ho
    · cases h

section
variable {P : Program} {B : Nat} {w0 : World} {R : Rec}

theorem oneL_some {x : Option (Ex × St)} {L : List (Ex × St)} (h : oneL x = some L) : ∃ ex s', x = some (ex, s') ∧ L = [(ex, s')] := by
  unfold oneL at h
  split at h
  · rename_i r; cases h; exact ⟨r.1, r.2, rfl, rfl⟩
  · cases h

theorem execL_ok (hmix : P.follows .mixedOrders = true) (hR : CallOK P R) (hRr : RoundOK P R) {k : Nat} (hRl : LoopOK P R k) : ∀ (code : Code) (nt : Nat) (cx : Cx) (c : SCode) (s : St) (L : List (Ex × St)) (m : Mp) (a : Act) (w : World) (F : Fence) (q : Nat) (Q : Exit → Act → World → Prop),
    compCode P code = some c → bounded nt c = true → execL R cx c s = some L → SR P B w0 nt m s a w → FR m cx F → (∀ ex s' e a' w', (ex, s') ∈ L → XP P B w0 nt m s.h ex s' e a' w' → Q e a' w') → code.wpIn F q P Q a w := by
  intro code
  have plain : ∀ (nt : Nat) (cx : Cx) (c : SCode) (s : St) (L : List (Ex × St)) (m : Mp) (a : Act) (w : World) (F : Fence) (q : Nat) (Q : Exit → Act → World → Prop),
    ∀ code, compCode P code = some c → bounded nt c = true → oneL (exec R cx c s) = some L → SR P B w0 nt m s a w → FR m cx F → (∀ ex s' e a' w', (ex, s') ∈ L → XP P B w0 nt m s.h ex s' e a' w' → Q e a' w') → code.wpIn F q P Q a w := by
    intro nt cx c s L m a w F q Q code hc hb hs hsr hF hQ
    obtain ⟨ex, s', hex, rfl⟩ := oneL_some hs
    exact exec_ok hmix hR hRr hRl code nt cx c s s' ex m a w F q Q hc hb hex hsr hF (fun e a' w' hx => hQ ex s' e a' w' (by simp) hx)
  induction code with
  | skip =>
    intro nt cx c s L m a w F q Q hc hb hs hsr hF hQ
    have hc' := hc
    cases hc'
    exact plain nt cx _ s L m a w F q Q _ hc hb hs hsr hF hQ
  | label l =>
    intro nt cx c s L m a w F q Q hc hb hs hsr hF hQ
    have hc' := hc
    cases hc'
    exact plain nt cx _ s L m a w F q Q _ hc hb hs hsr hF hQ
  | exit id =>
    intro nt cx c s L m a w F q Q hc hb hs hsr hF hQ
    have hc' := hc
    cases hc'
    exact plain nt cx _ s L m a w F q Q _ hc hb hs hsr hF hQ
  | ret =>
    intro nt cx c s L m a w F q Q hc hb hs hsr hF hQ
    have hc' := hc
    cases hc'
    exact plain nt cx _ s L m a w F q Q _ hc hb hs hsr hF hQ
  | goto l =>
    intro nt cx c s L m a w F q Q hc hb hs hsr hF hQ
    cases hc
  | refuse l =>
    intro nt cx c s L m a w F q Q hc hb hs hsr hF hQ
    cases hc
  | region id ops draw =>
    intro nt cx c s L m a w F q Q hc hb hs hsr hF hQ
    have hc' : compRegion P ops draw = some c := hc
    obtain ⟨n, al, rfl⟩ : ∃ n al, c = .region n al := by
      unfold compRegion at hc'
      (repeat' split at hc') <;> first | (cases hc'; done) | (cases hc'; exact ⟨_, _, rfl⟩)
    by_cases hi : al.any (fun o => isIter o.op) = true
    · simp only [execL, hi, if_true] at hs
      split at hs
      case isFalse => cases hs
      split at hs
      case h_2 => cases hs
      rename_i l hl
      cases hs
      unfold compRegion at hc'
      split at hc'
      · cases hc'
      rename_i so hso
      cases draw with
      | false =>
        simp only [Bool.false_eq_true, if_false, Option.some.injEq, SCode.region.injEq] at hc'
        obtain ⟨rfl, rfl⟩ := hc'
        simp only [bounded] at hb
        refine wpIn_region (ops_L hR hRr _ so s l m a w hso hb hl hsr hF ?_)
        intro s' hs' a' w' m' h1 h2 h3
        exact hQ .normal s' _ _ _ (List.mem_map.2 ⟨s', hs', rfl⟩) ⟨rfl, m', h1, h2, h3⟩
      | true =>
        exfalso
        simp only [if_true] at hc'
        split at hc'
        case isTrue => cases hc'
        rename_i hni
        split at hc'
        case h_2 => cases hc'
        split at hc'
        case h_2 => cases hc'
        rename_i al2 han
        split at hc'
        case isFalse => cases hc'
        cases hc'
        obtain ⟨o, ho, hio⟩ := List.any_eq_true.1 hi
        obtain ⟨o1, h1, h2⟩ := annot_op _ _ _ _ han o ho
        obtain ⟨o2, h3, h4⟩ := preOf_op _ _ _ h1
        exact hni (List.any_eq_true.2 ⟨o2, h3, by rw [← h4, ← h2]; exact hio⟩)
    · have : execL R cx (.region n al) s = oneL (exec R cx (.region n al) s) := by
        simp only [execL]; rw [if_neg hi]
      rw [this] at hs
      exact plain nt cx _ s L m a w F q Q _ hc hb hs hsr hF hQ
  | scope c0 ih =>
    intro nt cx c s L m a w F q Q hc hb hs hsr hF hQ
    refine wpIn_scope' (ih nt cx c s L m a w F q _ hc hb hs hsr hF ?_)
    intro ex s' e a' w' hm hx
    have h1 := hQ ex s' e a' w' hm hx
    obtain ⟨rfl, _⟩ := hx
    cases ex <;> exact h1
  | seq x y ihx ihy =>
    intro nt cx c s L m a w F q Q hc hb hs hsr hF hQ
    simp only [compCode] at hc
    split at hc
    case h_2 => cases hc
    rename_i cx' cy hcx hcy
    cases hc
    simp only [bounded, Bool.and_eq_true] at hb
    simp only [execL] at hs
    obtain ⟨l1, hl1, hall⟩ := bindL_some hs
    refine wpIn_seq (ihx nt cx cx' s l1 m a w F q _ hcx hb.1 hl1 hsr hF ?_)
    intro ex1 s1 e a1 w1 hm hx
    obtain ⟨r, hr, hsub⟩ := hall (ex1, s1) hm
    cases ex1 with
    | normal =>
      obtain ⟨rfl, m1, h1, h2, h3⟩ := hx
      exact ihy nt cx cy s1 r m1 a1 w1 F q Q hcy hb.2 hr h3 (hF.mono h1) (fun ex s' e a' w' hm' hx => hQ ex s' e a' w' (hsub _ hm') (XP.trans h1 h2 hx))
    | exit id =>
      cases hr
      have := hQ _ _ e a1 w1 (hsub _ (by simp)) hx
      obtain ⟨rfl, _⟩ := hx
      exact this
    | ret =>
      cases hr
      have := hQ _ _ e a1 w1 (hsub _ (by simp)) hx
      obtain ⟨rfl, _⟩ := hx
      exact this
  | cond c0 x y ihx ihy =>
    intro nt cx c s L m a w F q Q hc hb hs hsr hF hQ
    simp only [compCode] at hc
    split at hc
    case h_2 => cases hc
    rename_i cx' cy hcx hcy
    split at hc
    case isFalse => cases hc
    rename_i hok
    cases hc
    simp only [bounded, Bool.and_eq_true] at hb
    simp only [execL] at hs
    split at hs
    case h_2 => cases hs
    rename_i b hev
    have hv := (ev_sim hsr.tr hok hev).bool_inv
    cases b with
    | true =>
      simp only [if_true] at hs
      exact wpIn_cond_true hv (ihx nt cx cx' s L m a w F q Q hcx hb.1 hs hsr hF hQ)
    | false =>
      simp only [Bool.false_eq_true, if_false] at hs
      exact wpIn_cond_false hv (ihy nt cx cy s L m a w F q Q hcy hb.2 hs hsr hF hQ)
  | block id c0 ih =>
    intro nt cx c s L m a w F q Q hc hb hs hsr hF hQ
    obtain ⟨c1, hc1, rfl⟩ := map_some' hc
    simp only [bounded] at hb
    simp only [execL] at hs
    obtain ⟨l1, hl1, hall⟩ := bindL_some hs
    refine wpIn_block (ih nt cx c1 s l1 m a w F q _ hc1 hb hl1 hsr hF ?_)
    intro ex1 s1 e a1 w1 hm hx
    obtain ⟨r, hr, hsub⟩ := hall (ex1, s1) hm
    cases ex1 with
    | normal =>
      cases hr
      have := hQ _ _ e a1 w1 (hsub _ (by simp)) hx
      obtain ⟨rfl, _⟩ := hx
      exact this
    | ret =>
      cases hr
      have := hQ _ _ e a1 w1 (hsub _ (by simp)) hx
      obtain ⟨rfl, _⟩ := hx
      exact this
    | exit j =>
      simp only [Option.some.injEq] at hr
      subst hr
      obtain ⟨rfl, hx⟩ := hx
      simp only [exR, Exit.inBlock]
      by_cases e : j = id
      · subst e
        rw [if_pos rfl]
        exact hQ .normal s1 _ _ _ (hsub _ (by simp)) ⟨rfl, hx⟩
      · rw [if_neg e]
        exact hQ (.exit j) s1 _ _ _ (hsub _ (by simp [e])) ⟨rfl, hx⟩
  | loop c0 ih =>
    intro nt cx c s L m a w F q Q hc hb hs hsr hF hQ
    have hc0 := hc
    obtain ⟨c1, hc1, rfl⟩ := map_some' hc
    have hb0 := hb
    simp only [bounded] at hb
    by_cases hi : hasIter c1 = true
    · simp only [execL, hi, if_true] at hs
      have rounds : ∀ (j : Nat) (s : St) (L : List (Ex × St)) (m : Mp) (a : Act) (w : World) (Q : Exit → Act → World → Prop), loopL (execL R cx c1) j s = some L → SR P B w0 nt m s a w → FR m cx F →
          (∀ ex s' e a' w', (ex, s') ∈ L → XP P B w0 nt m s.h ex s' e a' w' → Q e a' w') → Code.roundsIn F q P c0 Q j a w := by
        intro j
        induction j with
        | zero => intro s L m a w Q hs; cases hs
        | succ j ihj =>
          intro s L m a w Q hs hsr hF hQ
          rw [roundsIn_succ]
          simp only [loopL] at hs
          obtain ⟨l1, hl1, hall⟩ := bindL_some hs
          refine ih nt cx c1 s l1 m a w F q _ hc1 hb hl1 hsr hF ?_
          intro ex1 s1 e a1 w1 hm hx
          obtain ⟨r, hr, hsub⟩ := hall (ex1, s1) hm
          cases ex1 with
          | normal =>
            obtain ⟨rfl, m1, h1, h2, h3⟩ := hx
            exact ihj s1 r m1 a1 w1 Q hr h3 (hF.mono h1) (fun ex s' e a' w' hm' hx => hQ ex s' e a' w' (hsub _ hm') (XP.trans h1 h2 hx))
          | exit id =>
            cases hr
            have := hQ _ _ e a1 w1 (hsub _ (by simp)) hx
            obtain ⟨rfl, _⟩ := hx
            exact this
          | ret =>
            cases hr
            have := hQ _ _ e a1 w1 (hsub _ (by simp)) hx
            obtain ⟨rfl, _⟩ := hx
            exact this
      exact wpIn_loop_rounds LOOPS (rounds LOOPS s L m a w Q hs hsr hF hQ)
    · have : execL R cx (.loop c1) s = oneL (exec R cx (.loop c1) s) := by
        simp only [execL]; rw [if_neg hi]
      rw [this] at hs
      exact plain nt cx _ s L m a w F q Q _ hc0 hb0 hs hsr hF hQ
  | rangeFunc g ps x y ihx ihy =>
    intro nt cx c s L m a w F q Q hc hb hs hsr hF hQ
    have hc0 := hc
    simp only [compCode] at hc
    split at hc
    case h_2 => cases hc
    split at hc
    case isFalse => cases hc
    cases hc
    exact plain nt cx _ s L m a w F q Q _ hc0 hb hs hsr hF hQ
end
end Go.Proofs.YtdmfhdnpakgkpaaDoor.Sh

