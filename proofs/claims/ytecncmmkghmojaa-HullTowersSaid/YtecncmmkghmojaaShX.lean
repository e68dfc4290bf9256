/- The shadow machine: a region that draws its order, whole. -/
import Derived.Test.YtecncmmkghmojaaShW
set_option linter.all false
namespace Go.Proofs.Ytecncmmkghmojaa.Sh
open Go Go.RowKit

section
variable {P : Program} {B : Nat} {w0 : World} {ops : Array Oper} {n : Nat} {R : Rec} {cx : Cx} {rb : Nat} {al : List SOper} {lgs : Nat → List LogE} {tr : Nat → St} {val : Nat → Value} {mi : Mp} {hi : SHeap} {nt : Nat}

theorem any_run (hR : CallOK P R) (hRr : RoundOK P R) (F : Facts P ops n al) (H : Trace R cx rb al lgs tr val) (hrb : hi.length = rb) {K0 : Nat} (hdeep : (tr 0).t.deep K0) (hK0 : nt < 2 ^ K0) (hbd : ∀ (p : Nat) (o : SOper) (d : Nat), al[p]? = some o → o.dst = some d → d < nt) {Fn : Fence} {q : Nat} {Q : Exit → Act → World → Prop} :
    ∀ (fuel : Nat) (listed : Array Bool) (a : Act) (w : World) (S : Nat → Bool) (f : Nat) (m : Mp), Inv P B w0 nt ops al rb tr val mi hi S f m listed a w → listed.toList.count false ≤ fuel → FR m cx Fn →
    (∀ a' w' m', mi.le m' → Ghost mi hi m' (tr al.length).h → TR nt m' (tr al.length).t a'.tmps → Rel ⟨P, B, w0⟩ m' (tr al.length).h w' → a'.defers = a.defers → Q .normal a' w') → wpAnyIn Fn q P .any ops Q fuel listed a w := by
  intro fuel
  -- where all have run
  have done : ∀ (listed : Array Bool) (a : Act) (w : World) (S : Nat → Bool) (f : Nat) (m : Mp), Inv P B w0 nt ops al rb tr val mi hi S f m listed a w → Region.ready .any ops listed = [] →
      (∀ a' w' m', mi.le m' → Ghost mi hi m' (tr al.length).h → TR nt m' (tr al.length).t a'.tmps → Rel ⟨P, B, w0⟩ m' (tr al.length).h w' → a'.defers = a.defers → Q .normal a' w') → Q .normal a w := by
    intro listed a w S f m I hr hQ
    have hall : ∀ k, k < al.length → S k = true := by
      intro k
      induction k using Nat.strongRecOn with
      | _ k ih =>
        intro hk
        have hko : al[k]? = some al[k] := by simp
        obtain ⟨op, hop, _⟩ := F.op k _ hko
        cases hS : S k with
        | true => rfl
        | false =>
          exfalso
          have hmem : al[k].id ∈ Region.ready .any ops listed := by
            refine mem_ready.2 ⟨?_, op, hop, ?_⟩
            · have := I.li k _ hko
              rw [Array.getD_eq_getD_getElem?, this, hS]; rfl
            · intro e he hb
              obtain ⟨j, x, hj, hx, hxe⟩ := F.deps k _ op e hko hop he hb
              have hjl : j < al.length := (List.getElem?_eq_some_iff.1 hx).1
              have := I.li j x hx
              rw [← hxe, Array.getD_eq_getD_getElem?, this, ih j hj hjl]; rfl
          rw [hr] at hmem
          cases hmem
    have hf : f = al.length := by
      have := I.fN
      by_cases e : f < al.length
      · have h1 := hall f e
        rw [I.lo f (Nat.le_refl _)] at h1; cases h1
      · omega
    subst hf
    have hT := I.T
    rw [TS_all _ hall, ← (H.TS al.length (Nat.le_refl _)).1] at hT
    exact hQ a w m I.le I.H.gh hT I.H.rel rfl
  induction fuel with
  | zero =>
    intro listed a w S f m I hc _ hQ
    have hnil : Region.ready .any ops listed = [] := by
      cases hr : Region.ready .any ops listed with
      | nil => rfl
      | cons i r =>
        exfalso
        have hmem : i ∈ Region.ready .any ops listed := by rw [hr]; simp
        obtain ⟨h1, op, hop, _⟩ := mem_ready.1 hmem
        have hlt : i < listed.size := by rw [I.sz]; exact (Array.getElem?_eq_some_iff.1 hop).1
        have hmemf : false ∈ listed.toList := by
          have : listed[i]? = some false := by
            rw [Array.getD_eq_getD_getElem?] at h1
            simp [hlt] at h1 ⊢
            exact h1
          exact Array.mem_toList_iff.2 (Array.mem_of_getElem? this)
        have := List.count_pos_iff.2 hmemf
        omega
    exact ⟨hnil, done listed a w S f m I hnil hQ⟩
  | succ fuel ih =>
    intro listed a w S f m I hc hF hQ
    refine ⟨fun hnil => done listed a w S f m I hnil hQ, fun i hi0 => ?_⟩
    obtain ⟨hl, op, hop, hdep⟩ := mem_ready.1 hi0
    have hilt : i < ops.size := (Array.getElem?_eq_some_iff.1 hop).1
    obtain ⟨k, o, hk, rfl⟩ := F.surj i hilt
    have hkl : k < al.length := (List.getElem?_eq_some_iff.1 hk).1
    have hSk : S k = false := by
      have := I.li k o hk
      rw [Array.getD_eq_getD_getElem?, this] at hl
      exact hl
    have hdeps : ∀ e ∈ op.after, Region.binds .any e = true → ∃ (p : Nat) (x : SOper), al[p]? = some x ∧ x.id = e.on ∧ S p = true := by
      intro e he hb
      have h1 := hdep e he hb
      obtain ⟨j, x, hj, hx, hxe⟩ := F.deps k o op e hk hop he hb
      refine ⟨j, x, hx, hxe, ?_⟩
      have := I.li j x hx
      rw [← hxe, Array.getD_eq_getD_getElem?, this] at h1
      exact h1
    have hkf : k ≤ f := by
      by_cases e : k ≤ f
      · exact e
      · exfalso
        obtain ⟨e1, he1, hb1, hn1⟩ := I.fr (by omega) k o op (by omega) hk hop
        obtain ⟨p, x, hp, hpe, hSp⟩ := hdeps e1 he1 hb1
        by_cases hpf : p < f
        · exact hn1 p x hpf hp hpe
        · rw [I.lo p (by omega)] at hSp; cases hSp
    -- those before k that write where it looks have run; those behind have not
    have hbefore : ∀ p y d, p < k → al[p]? = some y → y.dst = some d → d ∈ op.looksAt ops → S p = true := by
      intro p y d hpk hp hd hlk
      cases hSp : S p with
      | true => rfl
      | false =>
        exfalso
        obtain ⟨yop, hyop, _, hyd, _⟩ := F.op p y hp
        obtain ⟨_, hfree⟩ := I.pe p y yop (by omega) hp hyop hSp
        rcases hfree k o op hpk hk hop with ⟨e, he, hb, heq⟩ | hap
        · obtain ⟨p', x', h1, h2, h3⟩ := hdeps e he hb
          have := F.inj p' p x' y h1 hp (by rw [h2, heq])
          subst this
          rw [hSp] at h3; cases h3
        · exact (Oper.apart_spec hap).1 d (by rw [← hyd]; exact hd) hlk
    have hbehind : ∀ p y, k < p → al[p]? = some y → S p = true → ∃ yop, ops[y.id]? = some yop ∧ yop.dst = y.dst ∧ op.apart ops yop = true := by
      intro p y hkp hp hSp
      have hpf : p < f := by
        by_cases e : p < f
        · exact e
        · rw [I.lo p (by omega)] at hSp; cases hSp
      obtain ⟨yop, hyop, _, hyd, _⟩ := F.op p y hp
      obtain ⟨_, hfree⟩ := I.pe k o op (by omega) hk hop hSk
      rcases hfree p y yop hkp hp hyop with ⟨e, he, hb, heq⟩ | hap
      · exfalso
        obtain ⟨p', x', h1, h2, h3⟩ := I.cl y.id yop e hyop ⟨p, y, hp, rfl, hSp⟩ he hb
        have := F.inj p' k x' o h1 hk (by rw [h2, heq])
        subst this
        rw [hSk] at h3; cases h3
      · exact ⟨yop, hyop, hyd.symm, hap⟩
    obtain ⟨_, _, _, hodst, _⟩ := F.op k o hk
    have hodst : o.dst = op.dst := by
      obtain ⟨op', h1, _, h2, _⟩ := F.op k o hk
      rw [hop] at h1; cases h1; exact h2
    have hlook : ∀ x, x ∈ op.looksAt ops → (TS al val (tr 0).t S al.length).get x = (tr k).t.get x := by
      intro x hx
      rw [(H.TS k (by omega)).1, TS_skip (j := k) al.length (by omega) ?_, TS_agree hdeep hK0 hbd k ?_]
      · intro p y hpk hp hd
        rw [hbefore p y x hpk hp hd hx]
      · intro p y hkp hpN hp hd
        cases hSp : S p with
        | false => rfl
        | true =>
          exfalso
          by_cases e : p = k
          · subst e; rw [hSk] at hSp; cases hSp
          · obtain ⟨yop, _, hyd, hap⟩ := hbehind p y (by omega) hp hSp
            exact (Oper.apart_spec hap).2.2 x (by rw [hyd]; exact hd) hx
    have hT2 : ∀ v' m', m.le m' → VR m' (val k) v' → TR nt m' (TS al val (tr 0).t (more S k) al.length) (a.put op.dst v').tmps := by
      intro v' m' hm hv
      have h1 : TR nt m' (sput (TS al val (tr 0).t S al.length) op.dst (val k)) (a.put op.dst v').tmps :=
        (I.T.mono hm).put (fun d hd => hbd k o d hk (by rw [hodst]; exact hd)) hv
      refine h1.congr ⟨K0, TS_deep hdeep _, hK0⟩ (fun x => ?_)
      by_cases hx : op.dst = some x
      · have hxb := hbd k o x hk (by rw [hodst]; exact hx)
        rw [hx, sput_same (TS_deep hdeep _) (by omega)]
        rw [TS_skip (j := k + 1) al.length (by omega) ?_]
        · conv => lhs; unfold TS
          rw [hk]
          simp only [more_same, if_true]
          rw [hodst, hx, sput_same (TS_deep hdeep _) (by omega)]
        · intro p y hkp hpN hp hd
          rw [more_ne (by omega)]
          cases hSp : S p with
          | false => rfl
          | true =>
            exfalso
            obtain ⟨yop, _, hyd, hap⟩ := hbehind p y (by omega) hp hSp
            exact (Oper.apart_spec hap).2.1 x hx (by rw [hyd]; exact hd)
      · rw [sput_ne hx]
        refine TS_agree hdeep hK0 hbd al.length (fun p y hpN hp hd => more_ne ?_)
        intro e; subst e
        rw [hk] at hp; cases hp
        rw [hodst] at hd; exact hx hd
    have hcl2 : Closed ops (fun i => ∃ (p : Nat) (x : SOper), al[p]? = some x ∧ x.id = i ∧ more S k p = true) := by
      intro i' op' e' hop' hex he' hb'
      obtain ⟨p, x, hp, hxi, hSp⟩ := hex
      by_cases e : p = k
      · subst e
        rw [hk] at hp; cases hp
        rw [hxi, hop'] at hop; cases hop
        obtain ⟨p', x', h1, h2, h3⟩ := hdeps e' he' hb'
        exact ⟨p', x', h1, h2, by simp [more, h3]⟩
      · rw [more_ne e] at hSp
        obtain ⟨p', x', h1, h2, h3⟩ := I.cl i' op' e' hop' ⟨p, x, hp, hxi, hSp⟩ he' hb'
        exact ⟨p', x', h1, h2, by simp [more, h3]⟩
    have hli2 : ∀ (p : Nat) (y : SOper), al[p]? = some y → (listed.setIfInBounds o.id true)[y.id]? = some (more S k p) := by
      intro p y hp
      by_cases e : p = k
      · subst e
        rw [hk] at hp; cases hp
        have : o.id < listed.size := by rw [I.sz]; exact hilt
        rw [more_same]; simp [this]
      · rw [more_ne e, Array.getElem?_setIfInBounds_ne (fun e2 => e (F.inj p k y o hp hk e2.symm))]
        exact I.li p y hp
    have hcount : (listed.setIfInBounds o.id true).toList.count false ≤ fuel := by
      have hlt : o.id < listed.toList.length := by simp [I.sz, hilt]
      have hval : listed.toList[o.id] = false := by
        have := I.li k o hk
        rw [hSk] at this
        have h2 : o.id < listed.size := by rw [I.sz]; exact hilt
        simp [h2] at this
        simpa using this
      rw [Array.toList_setIfInBounds, List.count_set hlt, hval]
      have e1 : (if (false == false) = true then 1 else 0 : Nat) = 1 := rfl
      have e2 : (if (true == false) = true then 1 else 0 : Nat) = 0 := rfl
      rw [e1, e2]
      omega
    -- what follows
    have next : ∀ (f' : Nat) (v' : Value) (w' : World) (m' : Mp), f ≤ f' → k < f' → f' ≤ al.length → VR m' (val k) v' → m.le m' → HInv P B w0 al rb tr val mi hi (more S k) f' m' w' →
        (∀ (p : Nat) (y : SOper) (yop : Oper), f ≤ p → p < f' → p ≠ k → al[p]? = some y → ops[y.id]? = some yop → isE y.op = false ∧ FreeAt ops al p y yop) → (f' < al.length → SoloAt ops al f') →
        wpAnyIn Fn q P .any ops Q fuel (listed.setIfInBounds o.id true) (a.put op.dst v') w' := by
      intro f' v' w' m' hff hkf' hfN hv hm HI hpe hfr
      refine ih _ _ _ (more S k) f' m' ⟨by simpa using I.sz, hli2, hcl2, hfN, ?_, ?_, hfr, hT2 v' m' hm hv, HI, Mp.le_trans I.le hm⟩ hcount (hF.mono hm) ?_
      · intro p hp
        rw [more_ne (by omega)]
        exact I.lo p (by omega)
      · intro p y yop hp hy hyop hSp
        obtain ⟨hne, hSp⟩ := more_false hSp
        by_cases e : p < f
        · exact I.pe p y yop e hy hyop hSp
        · exact hpe p y yop (by omega) hp hne hy hyop
      · intro a' w'' m'' e1 e2 e3 e4 e5
        exact hQ a' w'' m'' e1 e2 e3 e4 (by rw [e5, put_tmps])
    by_cases hlt : k < f
    · -- it had waited
      obtain ⟨hE, _⟩ := I.pe k o op hlt hk hop hSk
      refine pend_run hR hRr F H hrb I.H hk hlt hE hSk I.T hop hlook hF (fun v' w' m' k1 k2 k3 => ?_)
      exact next f v' w' m' (Nat.le_refl _) hlt I.fN k1 k2 k3 (fun p y yop h1 h2 => by omega) I.fr
    · have hkf2 : k = f := by omega
      subst hkf2
      have after : ∀ v' w' m', VR m' (val k) v' → m.le m' → HInv P B w0 al rb tr val mi hi (more S k) (k + 1) m' w' → wpAnyIn Fn q P .any ops Q fuel (listed.setIfInBounds o.id true) (a.put op.dst v') w' := by
        intro v' w' m' k1 k2 k3
        obtain ⟨f', h1, h2, h3, h4, h5⟩ := to_front F H hrb (al.length - (k + 1)) (k + 1) (by omega) k3 (fun p hp => by rw [more_ne (by omega)]; exact I.lo p (by omega))
        exact next f' v' w' m' (by omega) (by omega) h2 k1 k2 h3 (fun p y yop q1 q2 q3 => h4 p y yop (by omega) q2) h5
      cases hE : isE o.op with
      | false => exact pend_run hR hRr F H hrb (I.H.advance F H hrb hk hE hSk) hk (by omega) hE hSk I.T hop hlook hF after
      | true => exact front_run hR hRr F H hrb I.H hk hE I.cl I.T hop hdeps hlook hF after

end
end Go.Proofs.Ytecncmmkghmojaa.Sh
