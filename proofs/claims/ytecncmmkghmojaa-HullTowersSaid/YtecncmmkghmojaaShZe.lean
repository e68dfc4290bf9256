/- The shadow machine: a call; the machine is sound. -/
import Derived.Test.YtecncmmkghmojaaShZd
set_option linter.all false
namespace Go.Proofs.Ytecncmmkghmojaa.Sh
open Go Go.RowKit

theorem fill_deep {K : Nat} : ∀ (vs : List Value) (t : T) (i : Nat), t.deep K → (t.fill i vs).deep K
  | [], t, i, h => h
  | v :: vs, t, i, h => fill_deep vs _ _ (T.deep_set h i v)
theorem fill_get {K : Nat} : ∀ (vs : List Value) (t : T) (i j : Nat), t.deep K → i + vs.length < 2 ^ K → (t.fill i vs).get j = if i ≤ j ∧ j < i + vs.length then (vs[j - i]?).getD udf else t.get j
  | [], t, i, j, _, _ => by
    rw [if_neg (fun hc => by have h1 := hc.1; have h2 := hc.2; rw [List.length_nil] at h2; omega)]
    rfl
  | v :: vs, t, i, j, h, hl => by
    simp at hl
    show ((t.set i v).fill (i + 1) vs).get j = _
    rw [fill_get vs _ (i + 1) j (T.deep_set h i v) (by omega)]
    by_cases e : j = i
    · subst e
      rw [if_neg (by omega), if_pos (by simp), T.get_set_same v h (by omega)]
      simp
    · by_cases e2 : i + 1 ≤ j ∧ j < i + 1 + vs.length
      · rw [if_pos e2, if_pos (by simp; omega)]
        have : j - i = (j - (i + 1)) + 1 := by omega
        rw [this]; simp
      · rw [if_neg e2, if_neg (by simp; omega), T.get_set_ne v (fun k => e k.symm)]

theorem TR.args {nt dep : Nat} {m : Mp} {args args' : List Value} (hn : nt < 2 ^ dep) (ha : args.length < 2 ^ dep) (hl : LR m args args') :
    TR nt m ((T.blank dep).fill 0 args) (args'.toArray ++ Array.replicate (nt - args'.toArray.size) undef) := by
  refine ⟨by simp; omega, ⟨dep, fill_deep _ _ _ (T.deep_blank dep), hn⟩, fun i => ?_⟩
  rw [fill_get args (T.blank dep) 0 i (T.deep_blank dep) (by omega), T.get_blank]
  simp only [Nat.zero_le, true_and, Nat.zero_add, Nat.sub_zero]
  by_cases e : i < args.length
  · rw [if_pos e]
    have e' : i < args'.length := hl.1 ▸ e
    have h1 : args[i]? = some args[i] := by simp
    have h2 : args'[i]? = some args'[i] := by simp
    have hg : (args'.toArray ++ Array.replicate (nt - args'.toArray.size) undef).getD i undef = args'[i] := by
      rw [Array.getD_eq_getD_getElem?, Array.getElem?_append_left (by simpa using e')]
      simp [e']
    rw [hg, h1]
    exact hl.2 i _ _ h1 h2
  · rw [if_neg e]
    have e' : ¬ i < args'.length := hl.1 ▸ e
    have hg : (args'.toArray ++ Array.replicate (nt - args'.toArray.size) undef).getD i undef = undef := by
      rw [Array.getD_eq_getD_getElem?, Array.getElem?_append_right (by simpa using e')]
      by_cases e3 : i - args'.toArray.size < nt - args'.toArray.size
      · simp at e3; simp [e3]
      · simp at e3; simp [e3]
    rw [hg]
    exact VR.udf m

section
variable {P : Program} {B : Nat} {w0 : World} {R : Rec} {m : Mp}

def resF (tmps : Array Value) (rv : ResultVar) : Sem Value :=
  match rv with
  | .tmp t => pure (tmps.getD t undef)
  | .cell a t => do loadVar t (← asAddr (tmps.getD a undef))
theorem results_eq (fn : Func) (tmps : Array Value) : results fn tmps = (do let vs ← fn.results.mapM (resF tmps); pure (if h : vs.size = 1 then vs[0] else .tuple vs)) := rfl

theorem res_run {nt : Nat} {t : T} {tmps : Array Value} {h : SHeap} {w : World} (ht : TR nt m t tmps) (r : Rel ⟨P, B, w0⟩ m h w) : ∀ (rvs : List ResultVar) (rs : List SRes) (l : List Value), compRes P rvs = some rs → resS t h rs = some l →
    ∃ l', LR m l l' ∧ (rvs.mapM (resF tmps)).run P w = .ok l' w
  | [], rs, l, hc, hr => by
    cases hc; cases hr
    exact ⟨[], LR.nil m, by simp⟩
  | .tmp i :: rvs, rs, l, hc, hr => by
    obtain ⟨rs', h1, rfl⟩ := map_some' hc
    simp only [resS] at hr
    split at hr
    case h_2 => cases hr
    rename_i l0 hl0
    cases hr
    obtain ⟨l', h2, h3⟩ := res_run ht r rvs rs' l0 h1 hl0
    have h7 : (resF tmps (.tmp i)).run P w = .ok (tmps.getD i undef) w := rfl
    exact ⟨_, h2.cons (ht.get i), by rw [List.mapM_cons]; simp only [Sem.run_bind, h7, Result.andThen_ok, h3, Sem.run_pure]⟩
  | .cell i ty :: rvs, rs, l, hc, hr => by
    simp only [compRes] at hc
    split at hc
    case h_2 => cases hc
    rename_i g rs' hg h1
    cases hc
    simp only [resS] at hr
    split at hr
    case h_2 => cases hr
    rename_i v l0 hv hl0
    cases hr
    obtain ⟨l', h2, h3⟩ := res_run ht r rvs rs' l0 h1 hl0
    have hx := ht.get i
    obtain ⟨v', h4, h5⟩ := load_run (E := ⟨P, B, w0⟩) r hg hx hv
    obtain ⟨q, hq⟩ : ∃ q, tmps.getD i undef = .pointer (some q) := by
      unfold loadS at hv
      split at hv
      · rename_i hp
        unfold tget at hp
        rw [hp] at hx
        obtain ⟨A, δ, _, he⟩ := hx.ptr_inv
        exact ⟨_, he⟩
      · cases hv
    have h6 : (loadVar ty q).run P w = .ok v' w := by
      rw [hq] at h4
      have : (Instr.loadAt ty (.pointer (some q))).run P w = (loadVar ty q).run P w := by simp [Instr.loadAt, Instr.sureAddr]
      rw [← this]; exact h4
    have h7 : (resF tmps (.cell i ty)).run P w = .ok v' w := by
      unfold resF
      simp only [hq, asAddr, Sem.run_bind, Sem.run_pure, Result.andThen_ok, h6]
    exact ⟨_, h2.cons h5, by rw [List.mapM_cons]; simp only [Sem.run_bind, h7, Result.andThen_ok, h3, Sem.run_pure]⟩

theorem oneV_sim {l l' : List Value} (h : LR m l l') : VR m (oneV l) (if h : l'.toArray.size = 1 then l'.toArray[0] else .tuple l'.toArray) := by
  by_cases e : l'.toArray.size = 1
  · rw [dif_pos e]
    have e1 : l'.length = 1 := by simpa using e
    have e2 : l.length = 1 := h.1 ▸ e1
    obtain ⟨x, rfl⟩ := List.length_eq_one_iff.1 e2
    obtain ⟨y, r, rfl, h1, h2⟩ := h.cons_inv
    exact h1
  · rw [dif_neg e]
    have e2 : l.length ≠ 1 := by
      intro k; apply e; simp; rw [← h.1]; exact k
    have : oneV l = .tuple l.toArray := by
      unfold oneV
      split
      · rename_i x; exact absurd rfl e2
      · rfl
    rw [this]
    exact VR.tuple' h

/-- the marks are come to -/
theorem leaves_ok {fn : Func} {tmps : Array Value} {Post : Ending → World → Prop} {n : Nat} {m : Mp} : ∀ (ms : List Nat) (ds : List Deferred) (h h1 : SHeap) (w : World), DR m ms ds → shut h ms = some h1 → Rel ⟨P, B, w0⟩ m h w → 
    (∀ w1, Rel ⟨P, B, w0⟩ m h1 w1 → Ghost m h m h1 → LeavesIn Fence.wide n P fn tmps Post [] .returning w1) → LeavesInM Fence.wide n P fn tmps Post ds .returning w := by
  intro ms ds h h1 w hd
  induction hd generalizing h w with
  | nil =>
    intro hs r hk
    cases hs
    exact hk w r (Ghost.refl _ _)
  | @cons b A ms ds hb hd ih =>
    intro hs r hk
    unfold shut at hs
    split at hs
    case h_2 => cases hs
    rename_i hbd
    obtain ⟨_, hw⟩ := r.obj _ _ _ _ hbd hb
    refine ⟨(by intro e; cases e), .inl ⟨A, _, rfl, run_takeDeferred hw, ?_⟩⟩
    refine ih (h.set b .gone) _ hs (r.replace (o' := .gone) (ob' := .deferred none) hbd hb rfl (by intros; intro e; cases e) (by intros; intro e; cases e) hw (by intros; intro e; cases e) trivial) ?_
    intro w1 r1 g1
    exact hk w1 r1 ((Ghost.set hb).trans g1)

theorem shut_keep (base : Nat) (d : List Nat) : ∀ (ms : List Nat) (h h1 : SHeap), (∀ b ∈ ms, base ≤ b) → shut h ms = some h1 → Keep base h h1 d
  | [], h, h1, _, hs => by cases hs; exact Keep.refl _ _ _
  | b :: r, h, h1, hb, hs => by
    unfold shut at hs
    split at hs
    · exact (Keep.set_high (hb b (by simp)) _ _).trans (shut_keep base d r _ h1 (fun c hc => hb c (by simp [hc])) hs) (fun _ h => h)
    · cases hs

/-- the table stands for the program -/
def Tab (P : Program) (FT : FuncId → Option SFunc) : Prop := ∀ f sf, FT f = some sf → ∃ fn, P.funcs[f]? = some fn ∧ compFunc P fn = some sf

theorem fin_out {sf : SFunc} {base : Nat} {s : St} {v : Value} {h' : SHeap} {d' : List Nat} (hs : fin sf base s = some (v, h', d')) :
    ∃ h l, shut s.h s.ms = some h ∧ resS s.t h sf.res = some l ∧ ((s.d = [] ∧ d' = [] ∧ gcS base (oneV l) h = some (v, h')) ∨ (v = oneV l ∧ h' = h ∧ d' = s.d)) := by
  unfold fin at hs
  split at hs
  · cases hs
  · rename_i h hsh
    split at hs
    · cases hs
    · rename_i l hl
      split at hs
      · rename_i hd
        split at hs
        · rename_i v1 h1 hg
          simp only [fV_eq, fH_eq] at hs
          cases hs
          exact ⟨h, l, hsh, hl, .inl ⟨List.isEmpty_iff.1 hd, rfl, hg⟩⟩
        · cases hs
      · cases hs
        exact ⟨_, l, hsh, hl, .inr ⟨rfl, rfl, rfl⟩⟩

theorem stepCall_out {FT : FuncId → Option SFunc} {f : FuncId} {args : List Value} {h : SHeap} {v : Value} {h' : SHeap} {d' : List Nat} (hs : stepCall FT R f args h = some (v, h', d')) :
    ∃ sf ex s, FT f = some sf ∧ args.length < 2 ^ sf.dep ∧ exec R ⟨h.length, none, f⟩ sf.body ⟨(T.blank sf.dep).fill 0 args, [], h, []⟩ = some (ex, s) ∧ (ex = .normal ∨ ex = .ret) ∧ fin sf h.length s = some (v, h', d') := by
  unfold stepCall at hs
  split at hs
  · cases hs
  · rename_i sf hsf
    split at hs
    · rename_i hl
      simp only [fNat_eq, fFill_eq] at hs
      split at hs
      · rename_i s hex; exact ⟨sf, .normal, s, hsf, Nat.blt_eq ▸ hl, hex, .inl rfl, hs⟩
      · rename_i s hex; exact ⟨sf, .ret, s, hsf, Nat.blt_eq ▸ hl, hex, .inr rfl, hs⟩
      · cases hs
    · cases hs

theorem call_keep {FT : FuncId → Option SFunc} (hC : CallKeep R) (hRo : RoundKeep R) (hL : LoopKeep R) : CallKeep ⟨stepCall FT R, R.round, R.loop⟩ := by
  intro f args h v h' d' hs
  obtain ⟨sf, ex, s, _, _, hex, _, hf⟩ := stepCall_out hs
  have hk := exec_keep (cx := ⟨h.length, none, f⟩) hC hRo hL sf.body _ s ex (Nat.le_refl _) hex
  obtain ⟨h1, l, hsh, _, hcase⟩ := fin_out hf
  have hk2 : Keep h.length h h1 s.d := hk.1.2.trans (shut_keep h.length s.d s.ms s.h h1 (hk.2 (fun b hb => by simp at hb)) hsh) (fun _ h => h)
  rcases hcase with ⟨hd, rfl, hg⟩ | ⟨_, rfl, rfl⟩
  · rw [hd] at hk2
    unfold gcS at hg
    simp only at hg
    split at hg
    case h_2 => cases hg
    rename_i v2 kept _ _
    cases hg
    refine ⟨by have := hk2.1; simp; omega, fun b o hb ho => ?_⟩
    obtain ⟨o', q1, q2⟩ := hk2.2 b o hb ho
    refine ⟨o', ?_, q2⟩
    have := hk2.1
    rw [List.getElem?_append_left (by simp; omega), List.getElem?_take, if_pos hb]
    exact q1
  · exact hk2

theorem call_ok (hmix : P.follows .mixedOrders = true) {FT : FuncId → Option SFunc} (hT : Tab P FT) (hR : CallOK P R) (hRr : RoundOK P R) {k : Nat} (hRl : LoopOK P R k) (hC : CallKeep R) (hRo : RoundKeep R) (hL : LoopKeep R) : CallOK P ⟨stepCall FT R, R.round, R.loop⟩ := by
  intro B w0 f args h v h' d' m w args' hs r hl
  obtain ⟨sf, ex, s, hsf, hlen, hex, hexn, hf⟩ := stepCall_out hs
  obtain ⟨fn, hfn, hcomp⟩ := hT f sf hsf
  unfold compFunc at hcomp
  split at hcomp
  · cases hcomp
  rename_i c hbody
  split at hcomp
  case h_2 => cases hcomp
  rename_i sc rs hsc hrs
  split at hcomp
  case isFalse => cases hcomp
  rename_i hcond
  simp only [Bool.and_eq_true] at hcond
  have hname : fn.name ≠ "runtime.NumGoroutine" := by simpa using hcond.2
  cases hcomp
  refine ⟨⟨fn, hfn, hname, by rw [hbody]; rfl⟩, fun n => ?_⟩
  refine callsIn_of_wp_marks (F := Fence.wide) hfn hbody trivial ?_
  have hk := exec_keep (cx := ⟨h.length, none, f⟩) hC hRo hL sc _ s ex (Nat.le_refl _) hex
  obtain ⟨h1, l, hsh, hres, hcase⟩ := fin_out hf
  have hk2 : Keep h.length h h1 s.d := hk.1.2.trans (shut_keep h.length s.d s.ms s.h h1 (hk.2 (fun b hb => by simp at hb)) hsh) (fun _ h => h)
  refine exec_ok hmix hR hRr hRl c fn.ntmps ⟨h.length, none, f⟩ sc _ s ex m _ w Fence.wide n _ hsc hcond.1 hex ⟨TR.args (Nat.lt_log2_self) hlen hl, .nil, r⟩ (.inl ⟨rfl, rfl⟩) ?_
  intro e a' w' hx
  obtain ⟨he, m', q1, q2, q3⟩ := hx
  have done : LeavesInM Fence.wide n P fn a'.tmps (CallPost ⟨P, B, w0⟩ m h v h') a'.defers .returning w' := by
    refine leaves_ok s.ms a'.defers s.h h1 w' q3.ds hsh q3.rel ?_
    intro w1 r1 g1
    obtain ⟨l', hl1, hl2⟩ := res_run q3.tr r1 fn.results.toList rs l hrs hres
    refine ⟨(if hh : l'.toArray.size = 1 then l'.toArray[0] else .tuple l'.toArray), ?_, ?_⟩
    · rw [results_eq, Array.mapM_eq_mapM_toList]
      simp [hl2]
    · have hv := oneV_sim hl1
      rcases hcase with ⟨hd, _, hg⟩ | ⟨rfl, rfl, _⟩
      · rw [hd] at hk2
        obtain ⟨m2, p1, p2, p3, p4⟩ := gc_ok r r1 q1 (q2.trans g1) hk2 hv hg
        exact ⟨m2, p1, p2, p3, p4⟩
      · exact ⟨m', hv, q1, r1, q2.trans g1⟩
  subst he
  rcases hexn with rfl | rfl
  · exact done
  · exact done

theorem round_keep (hC : CallKeep R) (hRo : RoundKeep R) (hL : LoopKeep R) : RoundKeep ⟨R.call, stepRound R, R.loop⟩ := by
  intro base l args h v h' d' hb hs
  simp only [stepRound] at hs
  split at hs
  case h_2 => cases hs
  rename_i fn t ps as body pend df hhl
  split at hs
  case isFalse => cases hs
  rw [fZip_eq] at hs
  split at hs
  case h_2 => cases hs
  rename_i s1 hex1
  split at hs
  case h_2 => cases hs
  rename_i fn2 t2 ps2 as2 body2 pend2 df2 hl1
  rw [fH_eq] at hs
  split at hs
  case h_2 => cases hs
  rename_i ex s2 hex2
  split at hs
  case h_2 => cases hs
  cases hs
  have k1 := exec_keep (cx := ⟨base, some l, fn⟩) hC hRo hL as _ s1 _ hb hex1
  have k2 := setLoop_keep base s1.h l 1 pend2 s1.d
  have hb2 : base ≤ s1.h.length := Nat.le_trans hb k1.1.2.1
  have k3 := exec_keep (cx := ⟨base, some l, fn⟩) hC hRo hL body _ s2 ex (Nat.le_trans hb2 k2.1) hex2
  exact (((k1.1.2.trans k2 (fun _ h => h)).trans k3.1.2 k3.1.1)).trans (setLoop_keep _ _ _ _ _ _) (fun _ h => h)

theorem loop_keep (hC : CallKeep R) (hRo : RoundKeep R) (hL : LoopKeep R) : LoopKeep ⟨R.call, R.round, stepLoop R⟩ := by
  intro cx c s ex s' hb hs
  simp only [stepLoop] at hs
  cases hex : exec R cx c s with
  | none => rw [hex] at hs; cases hs
  | some r =>
    obtain ⟨ex1, s1⟩ := r
    rw [hex] at hs
    have h1 := exec_keep hC hRo hL c s s1 ex1 hb hex
    cases ex1 with
    | normal =>
      have h2 := hL cx c s1 ex s' (Nat.le_trans hb h1.1.2.1) hs
      exact ⟨h1.1.trans h2.1, fun h => h2.2 (h1.2 h)⟩
    | exit id => cases hs; exact h1
    | ret => cases hs; exact h1

structure Sound (P : Program) (R : Rec) (n : Nat) : Prop where
  call : CallOK P R
  round : RoundOK P R
  loop : LoopOK P R n
  ckeep : CallKeep R
  rkeep : RoundKeep R
  lkeep : LoopKeep R

theorem sound (hmix : P.follows .mixedOrders = true) {FT : FuncId → Option SFunc} (hT : Tab P FT) : ∀ n, Sound P (run FT n) n
  | 0 => ⟨fun _ _ _ _ _ _ _ _ _ _ _ h => (by cases h), fun _ _ _ _ _ _ _ _ _ _ _ _ _ h => (by cases h), fun _ _ _ _ _ _ _ _ _ _ _ _ _ _ _ _ _ h => (by cases h),
      fun _ _ _ _ _ _ h => (by cases h), fun _ _ _ _ _ _ _ _ h => (by cases h), fun _ _ _ _ _ _ h => (by cases h)⟩
  | n + 1 =>
    have S := sound hmix hT n
    ⟨call_ok hmix hT S.call S.round S.loop S.ckeep S.rkeep S.lkeep, round_ok hmix S.call S.round S.loop, loop_ok hmix S.call S.round S.loop,
     call_keep S.ckeep S.rkeep S.lkeep, round_keep S.ckeep S.rkeep S.lkeep, loop_keep S.ckeep S.rkeep S.lkeep⟩

end
end Go.Proofs.Ytecncmmkghmojaa.Sh
