/- The shadow machine: code with iterators over maps, in all orders, by what must hold at its ends. -/
import Derived.Test.YtdmfhdnpakgkpaaDoorShZu
import Derived.Test.YtdmfhdnpakgkpaaDoorShZw
set_option linter.all false
namespace Go.Proofs.YtdmfhdnpakgkpaaDoor.Sh
open Go Go.RowKit

def plainX (R : Rec) (cx : Cx) (c : SCode) (s : St) (Q : Ex → St → Prop) : Prop := ∃ ex s', exec R cx c s = some (ex, s') ∧ Q ex s'
def contX (g : St → (Ex → St → Prop) → Prop) (Q : Ex → St → Prop) : Ex → St → Prop
  | .normal, s => g s Q
  | ex, s => Q ex s
def loopX (f : St → (Ex → St → Prop) → Prop) : Nat → St → (Ex → St → Prop) → Prop
  | 0, _, _ => False
  | k + 1, s, Q => f s (contX (loopX f k) Q)
def blkX (id : Nat) (Q : Ex → St → Prop) : Ex → St → Prop
  | .exit j, s => Q (if j == id then .normal else .exit j) s
  | ex, s => Q ex s
/-- whatever the order: the code ends, and this holds -/
def WX (R : Rec) (cx : Cx) : SCode → St → (Ex → St → Prop) → Prop
  | .region n ops, s, Q => if hasIter (.region n ops) = true then n = 0 ∧ ∃ l, opsL R cx ops s = some l ∧ l ≠ [] ∧ ∀ s' ∈ l, Q .normal s' else plainX R cx (.region n ops) s Q
  | .seq a b, s, Q => if hasIter (.seq a b) = true then WX R cx a s (contX (WX R cx b) Q) else plainX R cx (.seq a b) s Q
  | .cond c a b, s, Q => if hasIter (.cond c a b) = true then (match ev s.t c with
      | some (.bool v) => if v = true then WX R cx a s Q else WX R cx b s Q
      | _ => False) else plainX R cx (.cond c a b) s Q
  | .block id c, s, Q => if hasIter (.block id c) = true then WX R cx c s (blkX id Q) else plainX R cx (.block id c) s Q
  | .loop c, s, Q => if hasIter (.loop c) = true then ∃ k, loopX (WX R cx c) k s Q else plainX R cx (.loop c) s Q
  | .skip, s, Q => plainX R cx .skip s Q
  | .exit id, s, Q => plainX R cx (.exit id) s Q
  | .ret, s, Q => plainX R cx .ret s Q
  | .rangeFunc f ps a b, s, Q => plainX R cx (.rangeFunc f ps a b) s Q

theorem WX_plain {R : Rec} {cx : Cx} {c : SCode} (hi : hasIter c = false) {s : St} {Q : Ex → St → Prop} : WX R cx c s Q ↔ plainX R cx c s Q := by
  cases c <;> first | exact Iff.rfl | (unfold WX; rw [if_neg (by rw [hi]; decide)])
theorem contX_mono {g g' : St → (Ex → St → Prop) → Prop} {Q Q' : Ex → St → Prop} (hg : ∀ s, g s Q → g' s Q') (hq : ∀ ex s, Q ex s → Q' ex s) : ∀ ex s, contX g Q ex s → contX g' Q' ex s := by
  intro ex s h
  cases ex with
  | normal => exact hg s h
  | exit id => exact hq _ _ h
  | ret => exact hq _ _ h
/-! ### from one machine to others -/
section
variable {F : (Rec → Prop) → Prop} {R : Rec}
theorem Big.list (B : Big F R) {α : Type} {p : α → Rec → Prop} : ∀ {l : List α}, (∀ x ∈ l, F (p x)) → F (fun R => ∀ x ∈ l, p x R)
  | [], _ => B.all (fun R x hx => by cases hx)
  | a :: l, h => B.mono (fun R hR x hx => by
      rcases List.mem_cons.1 hx with rfl | hx
      · exact hR.1
      · exact hR.2 x hx) (B.both (h a (by simp)) (B.list (l := l) (fun x hx => h x (by simp [hx]))))
theorem Big.mapO (B : Big F R) {α β : Type} {f : Rec → α → Option β} (hf : ∀ a r, f R a = some r → F (fun R' => f R' a = some r)) : ∀ {l : List α} {r : List β}, Sh.mapO (f R) l = some r → F (fun R' => Sh.mapO (f R') l = some r)
  | [], r, h => B.all (fun R => h)
  | a :: l, r, h => by
    unfold Sh.mapO at h
    split at h
    · rename_i z zs h1 h2
      refine B.mono (fun R' hR => ?_) (B.both (hf a z h1) (B.mapO hf h2))
      unfold Sh.mapO
      rw [hR.1, hR.2]; exact h
    · cases h
theorem Big.opL (B : Big F R) {cx : Cx} {o : SOp} {t : T} {h : SHeap} {d : List Nat} {L : List (Value × SHeap × List Nat)} (hs : opL R cx o t h d = some L) : F (fun R => Sh.opL R cx o t h d = some L) := by
  by_cases hi : isIter o = true
  · cases o <;> first | (cases hi; done) | exact B.all (fun R => hs)
  · cases o <;> first
      | (exact absurd rfl hi)
      | (simp only [Sh.opL] at hs ⊢
         split at hs
         · rename_i r0 hr0
           refine B.mono (fun R' hR => ?_) (B.opRun hr0)
           simp only [hR]; exact hs
         · cases hs)
theorem Big.opsL (B : Big F R) {cx : Cx} : ∀ {ops : List SOper} {s : St} {L : List St}, opsL R cx ops s = some L → F (fun R => Sh.opsL R cx ops s = some L)
  | [], s, L, hs => B.all (fun R => hs)
  | o :: ops, s, L, hs => by
    simp only [Sh.opsL] at hs ⊢
    split at hs
    · rename_i hw
      unfold bindL at hs
      split at hs
      · cases hs
      rename_i l0 hl0
      split at hs
      case h_2 => cases hs
      rename_i r hr
      refine B.mono (fun R' hR => ?_) (B.both (B.opL hl0) (B.mapO (f := fun R (x : Value × SHeap × List Nat) => Sh.opsL R cx ops ⟨sput s.t o.dst x.1, s.ms, x.2.1, x.2.2⟩) (fun a r h => B.opsL h) hr))
      rw [if_pos hw]
      unfold bindL
      rw [hR.1]
      dsimp only
      rw [hR.2]
      exact hs
    · rename_i hw
      refine B.mono (fun R' hR => ?_) (B.opsL hs)
      rw [if_neg hw]; exact hR

theorem Big.plainX (B : Big F R) {cx : Cx} {c : SCode} {s : St} {K : Rec → Ex → St → Prop} {K0 : Ex → St → Prop} (hK : ∀ ex s', K0 ex s' → F (fun R' => K R' ex s')) (h : plainX R cx c s K0) : F (fun R' => Sh.plainX R' cx c s (K R')) := by
  obtain ⟨ex, s', e, k⟩ := h
  exact B.mono (fun R' hR => ⟨ex, s', hR.1, hR.2⟩) (B.both (B.exec e) (hK ex s' k))
theorem Big.WX (B : Big F R) {cx : Cx} : ∀ (c : SCode) (s : St) (K : Rec → Ex → St → Prop) (K0 : Ex → St → Prop), (∀ ex s', K0 ex s' → F (fun R' => K R' ex s')) → WX R cx c s K0 → F (fun R' => Sh.WX R' cx c s (K R')) := by
  intro c
  have cont : ∀ (c : SCode), (∀ (s : St) (K : Rec → Ex → St → Prop) (K0 : Ex → St → Prop), (∀ ex s', K0 ex s' → F (fun R' => K R' ex s')) → Sh.WX R cx c s K0 → F (fun R' => Sh.WX R' cx c s (K R'))) →
      ∀ (K : Rec → Ex → St → Prop) (K0 : Ex → St → Prop), (∀ ex s', K0 ex s' → F (fun R' => K R' ex s')) → ∀ ex s', contX (Sh.WX R cx c) K0 ex s' → F (fun R' => contX (Sh.WX R' cx c) (K R') ex s') := by
    intro c ih K K0 hK ex s' h
    cases ex with
    | normal => exact ih s' K K0 hK h
    | exit id => exact hK _ _ h
    | ret => exact hK _ _ h
  induction c with
  | skip => intro s K K0 hK h; exact B.plainX hK h
  | exit id => intro s K K0 hK h; exact B.plainX hK h
  | ret => intro s K K0 hK h; exact B.plainX hK h
  | rangeFunc f ps a b iha ihb => intro s K K0 hK h; exact B.plainX hK h
  | region n ops =>
    intro s K K0 hK h
    unfold Sh.WX at h ⊢
    split at h
    · rename_i hi
      obtain ⟨hn, l, hl, hne, hall⟩ := h
      refine B.mono (fun R' hR => ?_) (B.both (B.opsL hl) (B.list (fun s' hs' => hK .normal s' (hall s' hs'))))
      rw [if_pos hi]
      exact ⟨hn, l, hR.1, hne, hR.2⟩
    · rename_i hi
      refine B.mono (fun R' hR => ?_) (B.plainX hK h)
      rw [if_neg hi]; exact hR
  | seq a b iha ihb =>
    intro s K K0 hK h
    unfold Sh.WX at h ⊢
    split at h
    · rename_i hi
      refine B.mono (fun R' hR => ?_) (iha s (fun R' => contX (Sh.WX R' cx b) (K R')) _ (cont b ihb K K0 hK) h)
      rw [if_pos hi]; exact hR
    · rename_i hi
      refine B.mono (fun R' hR => ?_) (B.plainX hK h)
      rw [if_neg hi]; exact hR
  | cond c0 a b iha ihb =>
    intro s K K0 hK h
    unfold Sh.WX at h ⊢
    split at h
    · rename_i hi
      split at h
      · rename_i v hv
        split at h
        · rename_i e
          refine B.mono (fun R' hR => ?_) (iha s K K0 hK h)
          rw [if_pos hi]; simp only [e, if_true]; exact hR
        · rename_i e
          refine B.mono (fun R' hR => ?_) (ihb s K K0 hK h)
          rw [if_pos hi]; simp only [e]; exact hR
      · exact h.elim
    · rename_i hi
      refine B.mono (fun R' hR => ?_) (B.plainX hK h)
      rw [if_neg hi]; exact hR
  | block id c0 ih =>
    intro s K K0 hK h
    unfold Sh.WX at h ⊢
    split at h
    · rename_i hi
      refine B.mono (fun R' hR => ?_) (ih s (fun R' => blkX id (K R')) (blkX id K0) (fun ex s' h => ?_) h)
      · rw [if_pos hi]; exact hR
      · cases ex with
        | normal => exact hK _ _ h
        | exit id => exact hK _ _ h
        | ret => exact hK _ _ h
    · rename_i hi
      refine B.mono (fun R' hR => ?_) (B.plainX hK h)
      rw [if_neg hi]; exact hR
  | loop c0 ih =>
    intro s K K0 hK h
    unfold Sh.WX at h ⊢
    split at h
    · rename_i hi
      obtain ⟨k, hk⟩ := h
      have rounds : ∀ (k : Nat) (s : St), loopX (Sh.WX R cx c0) k s K0 → F (fun R' => loopX (Sh.WX R' cx c0) k s (K R')) := by
        intro k
        induction k with
        | zero => intro s h; exact h.elim
        | succ k ihk =>
          intro s h
          refine ih s (fun R' => contX (loopX (Sh.WX R' cx c0) k) (K R')) _ (fun ex s' h => ?_) h
          cases ex with
          | normal => exact ihk s' h
          | exit id => exact hK _ _ h
          | ret => exact hK _ _ h
      refine B.mono (fun R' hR => ?_) (rounds k s hk)
      rw [if_pos hi]; exact ⟨k, hR⟩
    · rename_i hi
      refine B.mono (fun R' hR => ?_) (B.plainX hK h)
      rw [if_neg hi]; exact hR
end

/-! ### it is what the program does -/
section
variable {P : Program} {B : Nat} {w0 : World} {R : Rec}
theorem WX_ok (hmix : P.follows .mixedOrders = true) (hR : CallOK P R) (hRr : RoundOK P R) {k : Nat} (hRl : LoopOK P R k) : ∀ (code : Code) (nt : Nat) (cx : Cx) (c : SCode) (s : St) (K : Ex → St → Prop) (m : Mp) (a : Act) (w : World) (F : Fence) (q : Nat) (Q : Exit → Act → World → Prop),
    compCode P code = some c → bounded nt c = true → WX R cx c s K → SR P B w0 nt m s a w → FR m cx F → (∀ ex s' e a' w', K ex s' → XP P B w0 nt m s.h ex s' e a' w' → Q e a' w') → code.wpIn F q P Q a w := by
  intro code
  have plain : ∀ (nt : Nat) (cx : Cx) (c : SCode) (s : St) (K : Ex → St → Prop) (m : Mp) (a : Act) (w : World) (F : Fence) (q : Nat) (Q : Exit → Act → World → Prop),
    ∀ code, compCode P code = some c → bounded nt c = true → plainX R cx c s K → SR P B w0 nt m s a w → FR m cx F → (∀ ex s' e a' w', K ex s' → XP P B w0 nt m s.h ex s' e a' w' → Q e a' w') → code.wpIn F q P Q a w := by
    intro nt cx c s K m a w F q Q code hc hb hs hsr hF hQ
    obtain ⟨ex, s', hex, hk⟩ := hs
    exact exec_ok hmix hR hRr hRl code nt cx c s s' ex m a w F q Q hc hb hex hsr hF (fun e a' w' hx => hQ ex s' e a' w' hk hx)
  induction code with
  | skip =>
    intro nt cx c s K m a w F q Q hc hb hs hsr hF hQ
    have hc' := hc
    cases hc'
    exact plain nt cx _ s K m a w F q Q _ hc hb hs hsr hF hQ
  | label l =>
    intro nt cx c s K m a w F q Q hc hb hs hsr hF hQ
    have hc' := hc
    cases hc'
    exact plain nt cx _ s K m a w F q Q _ hc hb hs hsr hF hQ
  | exit id =>
    intro nt cx c s K m a w F q Q hc hb hs hsr hF hQ
    have hc' := hc
    cases hc'
    exact plain nt cx _ s K m a w F q Q _ hc hb hs hsr hF hQ
  | ret =>
    intro nt cx c s K m a w F q Q hc hb hs hsr hF hQ
    have hc' := hc
    cases hc'
    exact plain nt cx _ s K m a w F q Q _ hc hb hs hsr hF hQ
  | goto l =>
    intro nt cx c s K m a w F q Q hc hb hs hsr hF hQ
    cases hc
  | refuse l =>
    intro nt cx c s K m a w F q Q hc hb hs hsr hF hQ
    cases hc
  | region id ops draw =>
    intro nt cx c s K m a w F q Q hc hb hs hsr hF hQ
    have hc' : compRegion P ops draw = some c := hc
    obtain ⟨n, al, rfl⟩ : ∃ n al, c = .region n al := by
      unfold compRegion at hc'
      (repeat' split at hc') <;> first | (cases hc'; done) | (cases hc'; exact ⟨_, _, rfl⟩)
    by_cases hi : hasIter (.region n al) = true
    · unfold WX at hs
      rw [if_pos hi] at hs
      obtain ⟨hn, l, hl, hne, hall⟩ := hs
      have hi' : al.any (fun o => isIter o.op) = true := hi
      unfold compRegion at hc'
      split at hc'
      · cases hc'
      rename_i so hso
      cases draw with
      | false =>
        simp only [Bool.false_eq_true, if_false, Option.some.injEq, SCode.region.injEq] at hc'
        obtain ⟨rfl, rfl⟩ := hc'
        simp only [bounded] at hb
        refine wpIn_region (ops_L hR hRr _ so s l m a w hso hb hl hsr hF ?_)
        intro s' hs' a' w' m' h1 h2 h3
        exact hQ .normal s' _ _ _ (hall s' hs') ⟨rfl, m', h1, h2, h3⟩
      | true =>
        exfalso
        simp only [if_true] at hc'
        split at hc'
        case isTrue => cases hc'
        rename_i hni
        split at hc'
        case h_2 => cases hc'
        split at hc'
        case h_2 => cases hc'
        rename_i al2 han
        split at hc'
        case isFalse => cases hc'
        cases hc'
        obtain ⟨o, ho, hio⟩ := List.any_eq_true.1 hi'
        obtain ⟨o1, h1, h2⟩ := annot_op _ _ _ _ han o ho
        obtain ⟨o2, h3, h4⟩ := preOf_op _ _ _ h1
        exact hni (List.any_eq_true.2 ⟨o2, h3, by rw [← h4, ← h2]; exact hio⟩)
    · exact plain nt cx _ s K m a w F q Q _ hc hb ((WX_plain (by simpa using hi)).1 hs) hsr hF hQ
  | scope c0 ih =>
    intro nt cx c s K m a w F q Q hc hb hs hsr hF hQ
    refine wpIn_scope' (ih nt cx c s K m a w F q _ hc hb hs hsr hF ?_)
    intro ex s' e a' w' hm hx
    have h1 := hQ ex s' e a' w' hm hx
    obtain ⟨rfl, _⟩ := hx
    cases ex <;> exact h1
  | seq x y ihx ihy =>
    intro nt cx c s K m a w F q Q hc hb hs hsr hF hQ
    have hc0 := hc
    have hb0 := hb
    simp only [compCode] at hc
    split at hc
    case h_2 => cases hc
    rename_i cx' cy hcx hcy
    cases hc
    simp only [bounded, Bool.and_eq_true] at hb
    by_cases hi : hasIter (.seq cx' cy) = true
    · unfold WX at hs
      rw [if_pos hi] at hs
      refine wpIn_seq (ihx nt cx cx' s _ m a w F q _ hcx hb.1 hs hsr hF ?_)
      intro ex1 s1 e a1 w1 hm hx
      cases ex1 with
      | normal =>
        obtain ⟨rfl, m1, h1, h2, h3⟩ := hx
        exact ihy nt cx cy s1 K m1 a1 w1 F q Q hcy hb.2 hm h3 (hF.mono h1) (fun ex s' e a' w' hm' hx => hQ ex s' e a' w' hm' (XP.trans h1 h2 hx))
      | exit id =>
        have := hQ _ _ e a1 w1 hm hx
        obtain ⟨rfl, _⟩ := hx
        exact this
      | ret =>
        have := hQ _ _ e a1 w1 hm hx
        obtain ⟨rfl, _⟩ := hx
        exact this
    · exact plain nt cx _ s K m a w F q Q _ hc0 hb0 ((WX_plain (by simpa using hi)).1 hs) hsr hF hQ
  | cond c0 x y ihx ihy =>
    intro nt cx c s K m a w F q Q hc hb hs hsr hF hQ
    have hc0 := hc
    have hb0 := hb
    simp only [compCode] at hc
    split at hc
    case h_2 => cases hc
    rename_i cx' cy hcx hcy
    split at hc
    case isFalse => cases hc
    rename_i hok
    cases hc
    simp only [bounded, Bool.and_eq_true] at hb
    by_cases hi : hasIter (.cond c0 cx' cy) = true
    · unfold WX at hs
      rw [if_pos hi] at hs
      split at hs
      case h_2 => exact hs.elim
      rename_i b hev
      have hv := (ev_sim hsr.tr hok hev).bool_inv
      cases b with
      | true =>
        simp only [if_true] at hs
        exact wpIn_cond_true hv (ihx nt cx cx' s K m a w F q Q hcx hb.1 hs hsr hF hQ)
      | false =>
        simp only [Bool.false_eq_true, if_false] at hs
        exact wpIn_cond_false hv (ihy nt cx cy s K m a w F q Q hcy hb.2 hs hsr hF hQ)
    · exact plain nt cx _ s K m a w F q Q _ hc0 hb0 ((WX_plain (by simpa using hi)).1 hs) hsr hF hQ
  | block id c0 ih =>
    intro nt cx c s K m a w F q Q hc hb hs hsr hF hQ
    have hc0 := hc
    have hb0 := hb
    obtain ⟨c1, hc1, rfl⟩ := map_some' hc
    simp only [bounded] at hb
    by_cases hi : hasIter (.block id c1) = true
    · unfold WX at hs
      rw [if_pos hi] at hs
      refine wpIn_block (ih nt cx c1 s _ m a w F q _ hc1 hb hs hsr hF ?_)
      intro ex1 s1 e a1 w1 hm hx
      cases ex1 with
      | normal =>
        have := hQ _ _ e a1 w1 hm hx
        obtain ⟨rfl, _⟩ := hx
        exact this
      | ret =>
        have := hQ _ _ e a1 w1 hm hx
        obtain ⟨rfl, _⟩ := hx
        exact this
      | exit j =>
        obtain ⟨rfl, hx⟩ := hx
        have hm' : K (if j == id then .normal else .exit j) s1 := hm
        simp only [exR, Exit.inBlock]
        by_cases e : j = id
        · subst e
          rw [if_pos rfl]
          exact hQ .normal s1 _ _ _ (by simpa using hm') ⟨rfl, hx⟩
        · rw [if_neg e]
          exact hQ (.exit j) s1 _ _ _ (by simpa [e] using hm') ⟨rfl, hx⟩
    · exact plain nt cx _ s K m a w F q Q _ hc0 hb0 ((WX_plain (by simpa using hi)).1 hs) hsr hF hQ
  | loop c0 ih =>
    intro nt cx c s K m a w F q Q hc hb hs hsr hF hQ
    have hc0 := hc
    obtain ⟨c1, hc1, rfl⟩ := map_some' hc
    have hb0 := hb
    simp only [bounded] at hb
    by_cases hi : hasIter (.loop c1) = true
    · unfold WX at hs
      rw [if_pos hi] at hs
      obtain ⟨j, hj⟩ := hs
      have rounds : ∀ (j : Nat) (s : St) (m : Mp) (a : Act) (w : World) (Q : Exit → Act → World → Prop), loopX (WX R cx c1) j s K → SR P B w0 nt m s a w → FR m cx F →
          (∀ ex s' e a' w', K ex s' → XP P B w0 nt m s.h ex s' e a' w' → Q e a' w') → Code.roundsIn F q P c0 Q j a w := by
        intro j
        induction j with
        | zero => intro s m a w Q hs; exact hs.elim
        | succ j ihj =>
          intro s m a w Q hs hsr hF hQ
          rw [roundsIn_succ]
          refine ih nt cx c1 s _ m a w F q _ hc1 hb hs hsr hF ?_
          intro ex1 s1 e a1 w1 hm hx
          cases ex1 with
          | normal =>
            obtain ⟨rfl, m1, h1, h2, h3⟩ := hx
            exact ihj s1 m1 a1 w1 Q hm h3 (hF.mono h1) (fun ex s' e a' w' hm' hx => hQ ex s' e a' w' hm' (XP.trans h1 h2 hx))
          | exit id =>
            have := hQ _ _ e a1 w1 hm hx
            obtain ⟨rfl, _⟩ := hx
            exact this
          | ret =>
            have := hQ _ _ e a1 w1 hm hx
            obtain ⟨rfl, _⟩ := hx
            exact this
      exact wpIn_loop_rounds j (rounds j s m a w Q hj hsr hF hQ)
    · exact plain nt cx _ s K m a w F q Q _ hc0 hb0 ((WX_plain (by simpa using hi)).1 hs) hsr hF hQ
  | rangeFunc g ps x y ihx ihy =>
    intro nt cx c s K m a w F q Q hc hb hs hsr hF hQ
    have hc0 := hc
    simp only [compCode] at hc
    split at hc
    case h_2 => cases hc
    split at hc
    case isFalse => cases hc
    cases hc
    exact plain nt cx _ s K m a w F q Q _ hc0 hb hs hsr hF hQ
end

/-! ### it ends somewhere, and keeps what it must -/
section
variable {R : Rec}
theorem WX_some (hC : CallKeep R) (hRo : RoundKeep R) (hL : LoopKeep R) {cx : Cx} : ∀ (c : SCode) (s : St) (K : Ex → St → Prop), cx.base ≤ s.h.length → WX R cx c s K → ∃ ex s', K ex s' ∧ StKeep cx s s' := by
  have plain : ∀ (c : SCode) (s : St) (K : Ex → St → Prop), cx.base ≤ s.h.length → plainX R cx c s K → ∃ ex s', K ex s' ∧ StKeep cx s s' := by
    intro c s K hb ⟨ex, s', he, hk⟩
    exact ⟨ex, s', hk, exec_keep hC hRo hL c s s' ex hb he⟩
  intro c
  induction c with
  | skip => intro s K hb h; exact plain _ s K hb h
  | exit id => intro s K hb h; exact plain _ s K hb h
  | ret => intro s K hb h; exact plain _ s K hb h
  | rangeFunc g ps x y ihx ihy => intro s K hb h; exact plain _ s K hb h
  | region n ops =>
    intro s K hb h
    by_cases hi : hasIter (.region n ops) = true
    · unfold WX at h
      rw [if_pos hi] at h
      obtain ⟨_, l, hl, hne, hall⟩ := h
      obtain ⟨s', hs'⟩ := List.exists_mem_of_ne_nil l hne
      exact ⟨.normal, s', hall s' hs', opsL_keep hC hRo ops s l hb hl s' hs'⟩
    · exact plain _ s K hb ((WX_plain (by simpa using hi)).1 h)
  | seq a b iha ihb =>
    intro s K hb h
    by_cases hi : hasIter (.seq a b) = true
    · unfold WX at h
      rw [if_pos hi] at h
      obtain ⟨ex, s1, k1, p1⟩ := iha s _ hb h
      cases ex with
      | normal =>
        obtain ⟨ex2, s2, k2, p2⟩ := ihb s1 K (Nat.le_trans hb p1.1.2.1) k1
        exact ⟨ex2, s2, k2, p1.trans p2⟩
      | exit id => exact ⟨_, s1, k1, p1⟩
      | ret => exact ⟨_, s1, k1, p1⟩
    · exact plain _ s K hb ((WX_plain (by simpa using hi)).1 h)
  | cond c0 a b iha ihb =>
    intro s K hb h
    by_cases hi : hasIter (.cond c0 a b) = true
    · unfold WX at h
      rw [if_pos hi] at h
      split at h
      · split at h
        · exact iha s K hb h
        · exact ihb s K hb h
      · exact h.elim
    · exact plain _ s K hb ((WX_plain (by simpa using hi)).1 h)
  | block id c0 ih =>
    intro s K hb h
    by_cases hi : hasIter (.block id c0) = true
    · unfold WX at h
      rw [if_pos hi] at h
      obtain ⟨ex, s1, k1, p1⟩ := ih s _ hb h
      cases ex with
      | normal => exact ⟨_, s1, k1, p1⟩
      | exit j => exact ⟨_, s1, k1, p1⟩
      | ret => exact ⟨_, s1, k1, p1⟩
    · exact plain _ s K hb ((WX_plain (by simpa using hi)).1 h)
  | loop c0 ih =>
    intro s K hb h
    by_cases hi : hasIter (.loop c0) = true
    · unfold WX at h
      rw [if_pos hi] at h
      obtain ⟨k, hk⟩ := h
      have rounds : ∀ (k : Nat) (s : St), cx.base ≤ s.h.length → loopX (WX R cx c0) k s K → ∃ ex s', K ex s' ∧ StKeep cx s s' := by
        intro k
        induction k with
        | zero => intro s _ h; exact h.elim
        | succ k ihk =>
          intro s hb h
          obtain ⟨ex, s1, k1, p1⟩ := ih s _ hb h
          cases ex with
          | normal =>
            obtain ⟨ex2, s2, k2, p2⟩ := ihk s1 (Nat.le_trans hb p1.1.2.1) k1
            exact ⟨ex2, s2, k2, p1.trans p2⟩
          | exit id => exact ⟨_, s1, k1, p1⟩
          | ret => exact ⟨_, s1, k1, p1⟩
      exact rounds k s hb hk
    · exact plain _ s K hb ((WX_plain (by simpa using hi)).1 h)
end
end Go.Proofs.YtdmfhdnpakgkpaaDoor.Sh

