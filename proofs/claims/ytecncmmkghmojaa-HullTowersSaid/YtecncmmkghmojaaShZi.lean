/- The shadow machine without fuel: the limit of all rounds. -/
import Derived.Test.YtecncmmkghmojaaShZh
set_option linter.all false
namespace Go.Proofs.Ytecncmmkghmojaa.Sh
open Go Go.RowKit

/-- what is kept from one machine to others -/
structure Big (F : (Rec → Prop) → Prop) (R : Rec) : Prop where
  mono : ∀ {p q : Rec → Prop}, (∀ R, p R → q R) → F p → F q
  both : ∀ {p q : Rec → Prop}, F p → F q → F (fun R => p R ∧ q R)
  tru : F (fun _ => True)
  call : ∀ {f a h r}, R.call f a h = some r → F (fun R => R.call f a h = some r)
  round : ∀ {b l a h r}, R.round b l a h = some r → F (fun R => R.round b l a h = some r)
  loop : ∀ {cx c s r}, R.loop cx c s = some r → F (fun R => R.loop cx c s = some r)

variable {F : (Rec → Prop) → Prop} {R : Rec}

theorem Big.all (B : Big F R) {p : Rec → Prop} (h : ∀ R, p R) : F p := B.mono (fun R _ => h R) B.tru

theorem Big.callS (B : Big F R) {base h d f args r} (hs : callS R base h d f args = some r) : F (fun R => callS R base h d f args = some r) := by
  unfold Sh.callS at hs ⊢
  split at hs
  · split at hs
    · rename_i u hu
      refine B.mono (fun R hR => ?_) (B.call hu)
      simp only [hR]; exact hs
    · cases hs
  · split at hs
    · rename_i hc
      split at hs
      · rename_i u hu
        refine B.mono (fun R hR => ?_) (B.round hu)
        simp only [hc, if_true, hR]; exact hs
      · cases hs
    · cases hs
  · cases hs

theorem Big.opRun (B : Big F R) {cx sl o t h d r} (hs : opRun R cx sl o t h d = some r) : F (fun R => opRun R cx sl o t h d = some r) := by
  cases o with
  | call f args =>
    simp only [Sh.opRun, o_call] at hs ⊢
    split at hs
    · exact B.callS hs
    · cases hs
  | _ => exact B.all (fun R => hs)

theorem Big.opsRun (B : Big F R) {cx rb} : ∀ {ops lg s r}, opsRun R cx rb ops lg s = some r → F (fun R => opsRun R cx rb ops lg s = some r)
  | [], lg, s, r, hs => B.all (fun R => hs)
  | o :: ops, lg, s, r, hs => by
    rw [opsRun_cons] at hs
    split at hs
    · cases hs
    · rename_i lg' s' v' hst
      have h1 := B.opsRun hs
      have h2 : F (fun R => stepO R cx rb o lg s = some (lg', s', v')) := by
        unfold stepO at hst ⊢
        split at hst
        · rename_i hw
          split at hst
          · cases hst
          · rename_i v h d ho
            refine B.mono (fun R hR => ?_) (B.opRun ho)
            simp only [hw, if_true, hR]; exact hst
        · rename_i hw
          refine B.all (fun R => ?_)
          rw [if_neg hw]; exact hst
      refine B.mono (fun R hR => ?_) (B.both h1 h2)
      rw [opsRun_cons, hR.2]; exact hR.1

theorem Big.exec (B : Big F R) {cx} : ∀ {c s r}, exec R cx c s = some r → F (fun R => exec R cx c s = some r) := by
  intro c
  induction c with
  | skip => intro s r hs; exact B.all (fun R => hs)
  | exit id => intro s r hs; exact B.all (fun R => hs)
  | ret => intro s r hs; exact B.all (fun R => hs)
  | region n ops =>
    intro s r hs
    unfold Sh.exec at hs ⊢
    split at hs
    · rename_i s' ho
      refine B.mono (fun R hR => ?_) (B.opsRun ho)
      simp only [hR]; exact hs
    · cases hs
  | seq a b iha ihb =>
    intro s r hs
    unfold Sh.exec at hs ⊢
    split at hs
    · rename_i s' ho
      refine B.mono (fun R hR => ?_) (B.both (iha ho) (ihb hs))
      simp only [hR.1]; exact hR.2
    · rename_i hne
      refine B.mono (fun R hR => ?_) (iha hs)
      rw [hR]
      split
      · rename_i s' e; exact (hne s' (hs.trans e)).elim
      · rfl
  | cond c a b iha ihb =>
    intro s r hs
    unfold Sh.exec at hs ⊢
    split at hs
    · rename_i v hv
      try simp only
      split at hs
      · rename_i hc; refine B.mono (fun R hR => ?_) (iha hs); rw [if_pos hc]; exact hR
      · rename_i hc; refine B.mono (fun R hR => ?_) (ihb hs); rw [if_neg hc]; exact hR
    · cases hs
  | block id c ih =>
    intro s r hs
    unfold Sh.exec at hs ⊢
    split at hs
    · rename_i j s' ho
      refine B.mono (fun R hR => ?_) (ih ho)
      simp only [hR]; exact hs
    · rename_i hne
      refine B.mono (fun R hR => ?_) (ih hs)
      rw [hR]
      split
      · rename_i j s' e; exact (hne j s' (hs.trans e)).elim
      · rfl
  | loop c ih =>
    intro s r hs
    unfold Sh.exec at hs ⊢
    exact B.loop hs
  | rangeFunc f ps as body iha ihb =>
    intro s r hs
    unfold Sh.exec at hs ⊢
    split at hs
    · rename_i g first cap hf
      try simp only
      split at hs
      · cases hs
      · rename_i h1 mk df h2
        try simp only
        split at hs
        · cases hs
        · rename_i v h2 d2 hc
          refine B.mono (fun R hR => ?_) (B.call hc)
          simp only [hR]; exact hs
    · cases hs

theorem Big.stepCall (B : Big F R) {FT f a h r} (hs : stepCall FT R f a h = some r) : F (fun R => stepCall FT R f a h = some r) := by
  unfold Sh.stepCall at hs ⊢
  simp only [fNat_eq, fFill_eq] at hs ⊢
  split at hs
  · cases hs
  · try simp only
    split at hs
    · rename_i hb
      split at hs
      · rename_i s ho
        refine B.mono (fun R hR => ?_) (B.exec ho)
        simp only [hb, if_true, hR]; exact hs
      · rename_i s ho
        refine B.mono (fun R hR => ?_) (B.exec ho)
        simp only [hb, if_true, hR]; exact hs
      · cases hs
    · cases hs

theorem Big.stepRound (B : Big F R) {b l a h r} (hs : stepRound R b l a h = some r) : F (fun R => stepRound R b l a h = some r) := by
  unfold Sh.stepRound at hs ⊢
  simp only [fZip_eq, fH_eq] at hs ⊢
  split at hs
  · try simp only
    split at hs
    · rename_i hl
      split at hs
      · rename_i s1 h1
        split at hs
        · rename_i h2
          split at hs
          · rename_i ex s2 h3
            refine B.mono (fun R hR => ?_) (B.both (B.exec h1) (B.exec h3))
            simp only [hl, if_true, hR.1, h2, hR.2]; exact hs
          · cases hs
        · cases hs
      · cases hs
    · cases hs
  · cases hs

theorem Big.stepLoop (B : Big F R) {cx c s r} (hs : stepLoop R cx c s = some r) : F (fun R => stepLoop R cx c s = some r) := by
  unfold Sh.stepLoop at hs ⊢
  split at hs
  · rename_i s' ho
    refine B.mono (fun R hR => ?_) (B.both (B.exec ho) (B.loop hs))
    simp only [hR.1]; exact hR.2
  · rename_i hne
    refine B.mono (fun R hR => ?_) (B.exec hs)
    rw [hR]
    split
    · rename_i s' e; exact (hne s' (hs.trans e)).elim
    · rfl

def Le (R R' : Rec) : Prop := (∀ f a h r, R.call f a h = some r → R'.call f a h = some r) ∧ (∀ b l a h r, R.round b l a h = some r → R'.round b l a h = some r) ∧ (∀ cx c s r, R.loop cx c s = some r → R'.loop cx c s = some r)

theorem Le.big {R R' : Rec} (h : Le R R') : Big (fun p => p R') R :=
  ⟨fun h k => h _ k, fun a b => ⟨a, b⟩, trivial, fun k => h.1 _ _ _ _ k, fun k => h.2.1 _ _ _ _ _ k, fun k => h.2.2 _ _ _ _ k⟩
theorem Le.trans {R R' R'' : Rec} (h : Le R R') (k : Le R' R'') : Le R R'' :=
  ⟨fun f a e r x => k.1 f a e r (h.1 f a e r x), fun b l a e r x => k.2.1 b l a e r (h.2.1 b l a e r x), fun b l a e x => k.2.2 b l a e (h.2.2 b l a e x)⟩
theorem Le.refl (R : Rec) : Le R R := ⟨fun _ _ _ _ h => h, fun _ _ _ _ _ h => h, fun _ _ _ _ h => h⟩

theorem stepR_mono {FT : FuncId → Option SFunc} {R R' : Rec} (h : Le R R') : Le (stepR FT R) (stepR FT R') :=
  ⟨fun _ _ _ _ k => h.big.stepCall k, fun _ _ _ _ _ k => h.big.stepRound k, fun _ _ _ _ k => h.big.stepLoop k⟩
theorem over_mono {C : FuncId → List Value → Option Value} {R R' : Rec} (h : Le R R') : Le (over C R) (over C R') := by
  refine ⟨fun f a e r k => ?_, h.2.1, h.2.2⟩
  simp only [over] at k ⊢
  split at k
  · exact k
  · exact h.1 _ _ _ _ k
theorem runC_le {FT : FuncId → Option SFunc} {C : FuncId → List Value → Option Value} : ∀ n, Le (runC FT C n) (runC FT C (n + 1))
  | 0 => over_mono ⟨fun _ _ _ _ h => (by cases h), fun _ _ _ _ _ h => (by cases h), fun _ _ _ _ h => (by cases h)⟩
  | n + 1 => over_mono (stepR_mono (runC_le n))
theorem runC_le' {FT : FuncId → Option SFunc} {C : FuncId → List Value → Option Value} {n : Nat} : ∀ k, Le (runC FT C n) (runC FT C (n + k))
  | 0 => Le.refl _
  | k + 1 => (runC_le' k).trans (runC_le (n + k))
theorem runC_mono {FT : FuncId → Option SFunc} {C : FuncId → List Value → Option Value} {n m : Nat} (h : n ≤ m) : Le (runC FT C n) (runC FT C m) := by
  have := runC_le' (FT := FT) (C := C) (n := n) (m - n)
  rwa [Nat.add_sub_cancel' h] at this

open Classical in
noncomputable def sup {α : Type} (f : Nat → Option α) : Option α :=
  if h : ∃ n r, f n = some r then some (Classical.choose (Classical.choose_spec h)) else none
theorem sup_some {α : Type} {f : Nat → Option α} {r : α} (h : sup f = some r) : ∃ n, f n = some r := by
  unfold sup at h
  split at h
  · rename_i hx
    cases h
    exact ⟨_, Classical.choose_spec (Classical.choose_spec hx)⟩
  · cases h
theorem sup_of {α : Type} {f : Nat → Option α} (hm : ∀ n m r, n ≤ m → f n = some r → f m = some r) {n : Nat} {r : α} (h : f n = some r) : sup f = some r := by
  have hx : ∃ n r, f n = some r := ⟨n, r, h⟩
  obtain ⟨r', hr⟩ : ∃ r', sup f = some r' := by
    unfold sup; rw [dif_pos hx]; exact ⟨_, rfl⟩
  obtain ⟨m, h1⟩ := sup_some hr
  have h2 := hm n (max n m) r (Nat.le_max_left _ _) h
  have h3 := hm m (max n m) r' (Nat.le_max_right _ _) h1
  rw [hr, ← h3, h2]

/-- the machine without fuel -/
noncomputable def big (FT : FuncId → Option SFunc) (C : FuncId → List Value → Option Value) : Rec :=
  ⟨fun f a h => sup fun n => (runC FT C n).call f a h, fun b l a h => sup fun n => (runC FT C n).round b l a h, fun cx c s => sup fun n => (runC FT C n).loop cx c s⟩

theorem big_big (FT : FuncId → Option SFunc) (C : FuncId → List Value → Option Value) : Big (fun p => ∃ n, ∀ m, n ≤ m → p (runC FT C m)) (big FT C) := by
  refine ⟨fun h ⟨n, k⟩ => ⟨n, fun m hm => h _ (k m hm)⟩, fun ⟨n, a⟩ ⟨m, b⟩ => ⟨max n m, fun k hk => ⟨a k (by omega), b k (by omega)⟩⟩, ⟨0, fun _ _ => trivial⟩, fun k => ?_, fun k => ?_, fun k => ?_⟩
  · obtain ⟨n, h⟩ := sup_some k
    exact ⟨n, fun m hm => (runC_mono hm).1 _ _ _ _ h⟩
  · obtain ⟨n, h⟩ := sup_some k
    exact ⟨n, fun m hm => (runC_mono hm).2.1 _ _ _ _ _ h⟩
  · obtain ⟨n, h⟩ := sup_some k
    exact ⟨n, fun m hm => (runC_mono hm).2.2 _ _ _ _ h⟩

theorem le_big {FT : FuncId → Option SFunc} {C : FuncId → List Value → Option Value} (n : Nat) : Le (runC FT C n) (big FT C) :=
  ⟨fun _ _ _ _ h => sup_of (fun _ _ _ hm k => (runC_mono hm).1 _ _ _ _ k) h, fun _ _ _ _ _ h => sup_of (fun _ _ _ hm k => (runC_mono hm).2.1 _ _ _ _ _ k) h, fun _ _ _ _ h => sup_of (fun _ _ _ hm k => (runC_mono hm).2.2 _ _ _ _ k) h⟩

variable {FT : FuncId → Option SFunc} {C : FuncId → List Value → Option Value}

theorem big_known {f a v} (hC : C f a = some v) (h : SHeap) : (big FT C).call f a h = some (v, h, []) := by
  refine (le_big 0).1 _ _ _ _ ?_
  simp only [runC, over, hC]
theorem big_call {f a h r} (hC : C f a = none) (hs : stepCall FT (big FT C) f a h = some r) : (big FT C).call f a h = some r := by
  obtain ⟨n, k⟩ := (big_big FT C).stepCall hs
  refine (le_big (n + 1)).1 _ _ _ _ ?_
  simp only [runC, over, hC]
  exact k n (Nat.le_refl _)
theorem big_round {b l a h r} (hs : stepRound (big FT C) b l a h = some r) : (big FT C).round b l a h = some r := by
  obtain ⟨n, k⟩ := (big_big FT C).stepRound hs
  exact (le_big (n + 1)).2.1 _ _ _ _ _ (k n (Nat.le_refl _))
theorem big_loop {cx c s r} (hs : stepLoop (big FT C) cx c s = some r) : (big FT C).loop cx c s = some r := by
  obtain ⟨n, k⟩ := (big_big FT C).stepLoop hs
  exact (le_big (n + 1)).2.2 _ _ _ _ (k n (Nat.le_refl _))
theorem loop_next {cx c s s' r} (h : exec (big FT C) cx c s = some (.normal, s')) (k : (big FT C).loop cx c s' = some r) : (big FT C).loop cx c s = some r := by
  refine big_loop ?_
  unfold stepLoop; rw [h]; exact k
theorem loop_exit {cx c s id s'} (h : exec (big FT C) cx c s = some (.exit id, s')) : (big FT C).loop cx c s = some (.exit id, s') := by
  refine big_loop ?_
  unfold stepLoop; rw [h]
theorem loop_ret {cx c s s'} (h : exec (big FT C) cx c s = some (.ret, s')) : (big FT C).loop cx c s = some (.ret, s') := by
  refine big_loop ?_
  unfold stepLoop; rw [h]

theorem big_ok {P : Program} (hmix : P.follows .mixedOrders = true) (hT : Tab P FT) (hC : ContractOK P C) : CallOK P (big FT C) := by
  intro B w0 f args h v h' d' m w args' hs
  obtain ⟨n, k⟩ := sup_some hs
  exact (soundC hmix hT hC n).call B w0 f args h v h' d' m w args' k

theorem always_big {P : Program} (hmix : P.follows .mixedOrders = true) (hT : Tab P FT) (hC : ContractOK P C) {f : FuncId} {args : List Value} {v : Value} {h' : SHeap} {d' : List Nat} (hs : (big FT C).call f args [] = some (v, h', d')) (ha : args.all (flat 3) = true) (hv : flat 3 v = true) :
    Known P f ∧ Always P f args v := by
  obtain ⟨n, k⟩ := sup_some hs
  exact always_of (soundC hmix hT hC n) k ha hv

end Go.Proofs.Ytecncmmkghmojaa.Sh
