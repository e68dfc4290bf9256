/- The shadow machine: what stays of the blocks that lay there before. -/
import Derived.Test.YtecncmmkghmojaaShZa
set_option linter.all false
namespace Go.Proofs.Ytecncmmkghmojaa.Sh
open Go Go.RowKit

def KO (d : List Nat) (b : Nat) : SO → SO → Prop
  | .cells cs el pf own old, .cells cs' el' pf' own' old' => el' = el ∧ pf' = pf ∧ (∀ c ∈ old', c ∈ old) ∧ (pf = false → b ∉ d → cs' = cs) ∧ (own = 2 → own' = 2)
  | .map pf es, .map pf' es' => pf' = pf ∧ (pf = false → b ∉ d → es' = es)
  | .loop _ fn t ps as body _ df, .loop _ fn' t' ps' as' body' _ df' => fn' = fn ∧ t' = t ∧ ps' = ps ∧ as' = as ∧ body' = body ∧ df' = df
  | .deferred, .deferred => True
  | .gone, .gone => True
  | _, _ => False

theorem KO.refl (d : List Nat) (b : Nat) (o : SO) : KO d b o o := by
  cases o <;> simp [KO]
theorem KO.trans {d1 d2 : List Nat} {b : Nat} {o1 o2 o3 : SO} (h : KO d1 b o1 o2) (k : KO d2 b o2 o3) (hd : ∀ c ∈ d1, c ∈ d2) : KO d2 b o1 o3 := by
  cases o1 <;> cases o2 <;> simp only [KO] at h <;> cases o3 <;> simp only [KO] at k ⊢
  · obtain ⟨rfl, rfl, h3, h4, h5⟩ := h
    obtain ⟨rfl, rfl, k3, k4, k5⟩ := k
    exact ⟨rfl, rfl, fun c hc => h3 c (k3 c hc), fun hp hb => (k4 hp hb).trans (h4 hp (fun hh => hb (hd _ hh))), fun h => k5 (h5 h)⟩
  · obtain ⟨rfl, rfl, rfl, rfl, rfl, rfl⟩ := h
    exact k
  · obtain ⟨rfl, h4⟩ := h
    obtain ⟨rfl, k4⟩ := k
    exact ⟨rfl, fun hp hb => (k4 hp hb).trans (h4 hp (fun hh => hb (hd _ hh)))⟩

def Keep (base : Nat) (h h' : SHeap) (d : List Nat) : Prop := h.length ≤ h'.length ∧ ∀ b o, b < base → h[b]? = some o → ∃ o', h'[b]? = some o' ∧ KO d b o o'

theorem Keep.refl (base : Nat) (h : SHeap) (d : List Nat) : Keep base h h d := ⟨Nat.le_refl _, fun b o _ hb => ⟨o, hb, KO.refl _ _ _⟩⟩
theorem Keep.trans {base : Nat} {h1 h2 h3 : SHeap} {d1 d2 : List Nat} (x : Keep base h1 h2 d1) (y : Keep base h2 h3 d2) (hd : ∀ c ∈ d1, c ∈ d2) : Keep base h1 h3 d2 :=
  ⟨Nat.le_trans x.1 y.1, fun b o hb ho => let ⟨o2, h2, k2⟩ := x.2 b o hb ho; let ⟨o3, h3, k3⟩ := y.2 b o2 hb h2; ⟨o3, h3, k2.trans k3 hd⟩⟩
theorem Keep.push (base : Nat) (h : SHeap) (l : List SO) (d : List Nat) : Keep base h (h ++ l) d :=
  ⟨by simp, fun b o _ hb => ⟨o, by rw [List.getElem?_append_left (List.getElem?_eq_some_iff.1 hb).1]; exact hb, KO.refl _ _ _⟩⟩
theorem Keep.set_high {base : Nat} {h : SHeap} {l : Nat} (hl : base ≤ l) (o : SO) (d : List Nat) : Keep base h (h.set l o) d :=
  ⟨by simp, fun b ob hb hob => ⟨ob, by rw [List.getElem?_set_ne (by omega)]; exact hob, KO.refl _ _ _⟩⟩
theorem Keep.more {base : Nat} {h h' : SHeap} {d d' : List Nat} (x : Keep base h h' d) (hd : ∀ c ∈ d, c < base → c ∈ d') : Keep base h h' d' := by
  refine ⟨x.1, fun b o hb ho => ?_⟩
  obtain ⟨o', h1, h2⟩ := x.2 b o hb ho
  refine ⟨o', h1, ?_⟩
  cases o <;> cases o' <;> simp only [KO] at h2 ⊢
  · exact ⟨h2.1, h2.2.1, h2.2.2.1, fun hp hn => h2.2.2.2.1 hp (fun hh => hn (hd b hh hb)), h2.2.2.2.2⟩
  · exact h2
  · exact ⟨h2.1, fun hp hn => h2.2 hp (fun hh => hn (hd b hh hb))⟩
theorem Keep.low {base base' : Nat} {h h' : SHeap} {d : List Nat} (x : Keep base h h' d) (hb : base' ≤ base) : Keep base' h h' d := ⟨x.1, fun b o k => x.2 b o (by omega)⟩

theorem KO.killed (d : List Nat) (b : Nat) (o : SO) : KO d b o (killed o) := by
  cases o <;> simp [KO, Sh.killed]
theorem Keep.killAll (base : Nat) (h : SHeap) (l : List Nat) (d : List Nat) : Keep base h (killAll h l) d := by
  refine ⟨by rw [killAll_len]; exact Nat.le_refl _, fun b o _ hb => ?_⟩
  rw [killAll_get, hb]
  split
  · exact ⟨_, rfl, KO.killed _ _ _⟩
  · exact ⟨_, rfl, KO.refl _ _ _⟩
theorem Keep.share (base : Nat) (h : SHeap) (c : Nat) (d : List Nat) {cs el pf old} (hc : h[c]? = some (.cells cs el pf 0 old)) : Keep base h (share h c) d := by
  refine ⟨by rw [share_len]; exact Nat.le_refl _, fun b o _ hb => ?_⟩
  rw [share_get', hb]
  split
  · rename_i e
    subst e
    rw [hc] at hb; cases hb
    exact ⟨_, rfl, rfl, rfl, fun _ h => h, fun _ _ => rfl, fun h => by cases h⟩
  · exact ⟨_, rfl, KO.refl _ _ _⟩

theorem dirty_sub (base b : Nat) (pf : Bool) (d : List Nat) : ∀ c ∈ d, c ∈ dirty base b pf d := by
  intro c hc; unfold dirty; split
  · exact hc
  · exact List.mem_cons_of_mem _ hc
theorem dirty_mem {base b : Nat} {pf : Bool} {d : List Nat} (hb : b < base) (hp : pf = false) : b ∈ dirty base b pf d := by
  unfold dirty
  rw [if_neg]
  · exact List.mem_cons_self
  · simp [hp]; omega

/-- what an operation leaves -/
def KeepD (base : Nat) (h : SHeap) (d : List Nat) (h' : SHeap) (d' : List Nat) : Prop := (∀ c ∈ d, c ∈ d') ∧ Keep base h h' d'
theorem KeepD.refl (base : Nat) (h : SHeap) (d : List Nat) : KeepD base h d h d := ⟨fun _ h => h, Keep.refl _ _ _⟩
theorem KeepD.trans {base : Nat} {h1 h2 h3 : SHeap} {d1 d2 d3 : List Nat} (x : KeepD base h1 d1 h2 d2) (y : KeepD base h2 d2 h3 d3) : KeepD base h1 d1 h3 d3 :=
  ⟨fun c hc => y.1 c (x.1 c hc), x.2.trans y.2 y.1⟩

theorem storeS_keep {base : Nat} {h h' : SHeap} {d d' : List Nat} {b o : Nat} {vs : List Value} (hs : storeS base h d b o vs = some (h', d')) : KeepD base h d h' d' := by
  unfold storeS at hs
  split at hs
  case h_2 => cases hs
  rename_i cs el pf own old hb
  split at hs
  case isFalse => cases hs
  cases hs
  refine ⟨dirty_sub _ _ _ _, by simp [killAll_len], fun c ob hc hob => ?_⟩
  by_cases e : b = c
  · subst e
    rw [hb] at hob; cases hob
    have hl : b < (killAll h old).length := by rw [killAll_len]; exact (List.getElem?_eq_some_iff.1 hb).1
    rw [List.getElem?_set_self hl]
    exact ⟨_, rfl, rfl, rfl, fun c hc => by simp at hc, fun hp hn => absurd (dirty_mem hc hp) hn, fun h2 => by rename_i hcc; simp [h2] at hcc⟩
  · rw [List.getElem?_set_ne e]
    exact (Keep.killAll base h old _).2 c ob hc hob

theorem newS_keep {base : Nat} {h h' : SHeap} {sl : Option Nat} {cs : List Value} {el : TypeId} {pf : Bool} {b : Nat} (hsl : ∀ s, sl = some s → base ≤ s) (hs : newS h sl cs el pf = some (b, h')) (d : List Nat) : KeepD base h d h' d := by
  obtain ⟨_, ⟨_, _, rfl⟩ | ⟨h1, _, rfl⟩⟩ := newS_some hs
  · exact ⟨fun _ h => h, Keep.push _ _ _ _⟩
  · exact ⟨fun _ h => h, Keep.set_high (hsl b h1) _ _⟩

theorem appendS_keep {base : Nat} {h h' : SHeap} {d d' : List Nat} {el : TypeId} {pf : Bool} {size bytes : Nat} {x y v : Value} (hs : appendS base h d el pf size bytes x y = some (v, h', d')) : KeepD base h d h' d' := by
  unfold appendS at hs
  split at hs
  case h_2 => cases hs
  split at hs
  · cases hs; exact KeepD.refl _ _ _
  split at hs
  case isFalse => cases hs
  split at hs
  case h_2 => cases hs
  split at hs
  case isFalse => cases hs
  simp only at hs
  split at hs
  · cases hs; exact ⟨fun _ h => h, Keep.push _ _ _ _⟩
  · split at hs
    · split at hs
      · rename_i hbb
        split at hs
        case isFalse => cases hs
        rename_i hcc
        simp only [Bool.and_eq_true, beq_iff_eq] at hcc
        rw [hcc.1.1.1] at hbb
        split at hs
        · cases hs; exact ⟨fun _ h => h, (Keep.share _ _ _ _ hbb).trans (Keep.push _ _ _ d) (fun _ h => h)⟩
        · cases hs; exact ⟨fun _ h => h, (Keep.killAll _ _ _ _).trans (Keep.push _ _ _ d) (fun _ h => h)⟩
      · cases hs
    · split at hs
      · split at hs
        · rename_i h2 d2 hst
          cases hs; exact storeS_keep hst
        · cases hs
      · cases hs; exact ⟨fun _ h => h, Keep.push _ _ _ _⟩
  · cases hs

theorem copyS_keep {base : Nat} {h h' : SHeap} {d d' : List Nat} {size : Nat} {x y v : Value} (hs : copyS base h d size x y = some (v, h', d')) : KeepD base h d h' d' := by
  unfold copyS at hs
  split at hs
  case h_2 => cases hs
  simp only at hs
  split at hs
  case h_2 => cases hs
  split at hs
  · cases hs; exact KeepD.refl _ _ _
  · split at hs
    · cases hs; exact KeepD.refl _ _ _
    · split at hs
      · rename_i h2 d2 hst
        cases hs; exact storeS_keep hst
      · cases hs
  · cases hs

def CallKeep (R : Rec) : Prop := ∀ f args h v h' d', R.call f args h = some (v, h', d') → Keep h.length h h' d'
def RoundKeep (R : Rec) : Prop := ∀ base l args h v h' d', base ≤ h.length → R.round base l args h = some (v, h', d') → Keep base h h' d'
def StKeep (cx : Cx) (s s' : St) : Prop := KeepD cx.base s.h s.d s'.h s'.d ∧ ((∀ b ∈ s.ms, cx.base ≤ b) → ∀ b ∈ s'.ms, cx.base ≤ b)
def LoopKeep (R : Rec) : Prop := ∀ cx c s ex s', cx.base ≤ s.h.length → R.loop cx c s = some (ex, s') → StKeep cx s s'

theorem dirts_keep {base : Nat} {h h' : SHeap} {d d' : List Nat} (hk : Keep h.length h h' d') (hb : base ≤ h.length) : KeepD base h d h' (dirts base d' d) := by
  refine ⟨fun c hc => List.mem_append_right _ hc, (hk.low hb).more (fun c hc hcb => List.mem_append_left _ ?_)⟩
  rw [List.mem_filter]
  refine ⟨hc, ?_⟩
  have : Nat.ble base c = false := by
    cases h : Nat.ble base c with
    | false => rfl
    | true => have := Nat.le_of_ble_eq_true h; omega
  rw [this]; rfl

section
variable {R : Rec}

theorem same_keep {v : Option Value} {x : Value} {h h' : SHeap} {d d' : List Nat} (base : Nat) (k : same v h d = some (x, h', d')) : KeepD base h d h' d' := by
  obtain ⟨_, rfl, rfl⟩ := same_some k
  exact KeepD.refl _ _ _

theorem op_keep (hC : CallKeep R) (hRo : RoundKeep R) {cx : Cx} {sl : Option Nat} (hsl : ∀ s, sl = some s → cx.base ≤ s) {o : SOp} {t : T} {h h' : SHeap} {d d' : List Nat} {v : Value} (hb : cx.base ≤ h.length) (hs : opRun R cx sl o t h d = some (v, h', d')) : KeepD cx.base h d h' d' := by
  cases o <;> simp only [opRun, o_mov, o_pick, o_alloc, o_box, o_build, o_buildSlice, o_load, o_store, o_nilCheck, o_bin, o_eq, o_un, o_conv, o_fieldAddr, o_field, o_idxArr, o_idxSl, o_idx, o_slice, o_sliceArr, o_makeFunc, o_extract, o_len, o_append, o_copy, o_maxi, o_mini, o_makeSlice, o_call, o_makeMap, o_lookup, o_mapUpdate, o_mapLen, o_idxStr, o_clear] at hs
  case call f args =>
    split at hs
    case h_2 => cases hs
    unfold callS at hs
    split at hs
    · split at hs
      · rename_i hc; cases hs; exact dirts_keep (hC _ _ _ _ _ _ hc) hb
      · cases hs
    · split at hs
      case isFalse => cases hs
      split at hs
      · rename_i hc
        cases hs
        exact ⟨fun c hc => List.mem_append_right _ hc, (hRo _ _ _ _ _ _ _ hb hc).more (fun c hc _ => List.mem_append_left _ hc)⟩
      · cases hs
    · cases hs
  case makeMap pf => cases hs; exact ⟨fun _ h => h, Keep.push _ _ _ _⟩
  case mapUpdate q m k v =>
    split at hs
    case h_2 => cases hs
    rename_i r _ _ _ _ _
    split at hs
    case h_2 => cases hs
    rename_i pf es hr
    split at hs
    case isFalse => cases hs
    split at hs
    case h_2 => cases hs
    cases hs
    refine ⟨dirty_sub _ _ _ _, by simp, fun c ob hc hob => ?_⟩
    by_cases e : r = c
    · subst e
      rw [hr] at hob; cases hob
      rw [List.getElem?_set_self (List.getElem?_eq_some_iff.1 hr).1]
      exact ⟨_, rfl, rfl, fun hp hn => absurd (dirty_mem hc hp) hn⟩
    · rw [List.getElem?_set_ne e]
      exact ⟨ob, hob, KO.refl _ _ _⟩
  all_goals
    (repeat' split at hs)
    all_goals first
      | (cases hs; done)
      | (cases hs; exact KeepD.refl _ _ _)
      | exact same_keep _ hs
      | exact appendS_keep hs
      | exact copyS_keep hs
      | (rename_i hn; cases hs; exact newS_keep hsl hn _)
      | (rename_i hn; cases hs; exact newS_keep (fun s e => by cases e) hn _)
      | (rename_i hst; cases hs; exact storeS_keep hst)
      | (rename_i hst _; cases hs; exact storeS_keep hst)
      | skip

theorem slotOf_le {rb base : Nat} (hb : base ≤ rb) (sl : Option Nat) : ∀ s, slotOf rb sl = some s → base ≤ s := by
  intro s hs
  cases sl with
  | none => cases hs
  | some k => cases hs; omega

theorem ops_keep (hC : CallKeep R) (hRo : RoundKeep R) {cx : Cx} {rb : Nat} (hrb : cx.base ≤ rb) : ∀ (l : List SOper) (lg : List LogE) (s s' : St), cx.base ≤ s.h.length → opsRun R cx rb l lg s = some s' → StKeep cx s s'
  | [], lg, s, s', _, hs => by cases hs; exact ⟨KeepD.refl _ _ _, fun h => h⟩
  | o :: l, lg, s, s', hb, hs => by
    rw [opsRun_cons] at hs
    split at hs
    case h_1 => cases hs
    rename_i lg1 s1 v1 hst
    unfold stepO at hst
    have h1 : StKeep cx s s1 := by
      split at hst
      · split at hst
        case h_1 => cases hst
        rename_i v h2 d2 hrun
        split at hst
        case isFalse => cases hst
        cases hst
        exact ⟨op_keep hC hRo (slotOf_le hrb _) hb hrun, fun h => h⟩
      · cases hst; exact ⟨KeepD.refl _ _ _, fun h => h⟩
    have h2 := ops_keep hC hRo hrb l lg1 s1 s' (Nat.le_trans hb h1.1.2.1) hs
    exact ⟨h1.1.trans h2.1, fun h => h2.2 (h1.2 h)⟩

theorem setLoop_keep (base : Nat) (h : SHeap) (l st : Nat) (pd : Option SCode) (d : List Nat) : Keep base h (setLoop h l st pd) d := by
  unfold setLoop
  split
  · rename_i hl
    refine ⟨by simp, fun b o _ hb => ?_⟩
    by_cases e : l = b
    · subst e
      rw [hl] at hb; cases hb
      rw [List.getElem?_set_self (List.getElem?_eq_some_iff.1 hl).1]
      exact ⟨_, rfl, rfl, rfl, rfl, rfl, rfl, rfl⟩
    · rw [List.getElem?_set_ne e]; exact ⟨o, hb, KO.refl _ _ _⟩
  · exact Keep.refl _ _ _

theorem exec_keep (hC : CallKeep R) (hRo : RoundKeep R) (hL : LoopKeep R) {cx : Cx} : ∀ (c : SCode) (s s' : St) (ex : Ex), cx.base ≤ s.h.length → exec R cx c s = some (ex, s') → StKeep cx s s' := by
  intro c
  induction c with
  | skip => intro s s' ex hb hs; cases hs; exact ⟨KeepD.refl _ _ _, fun h => h⟩
  | exit id => intro s s' ex hb hs; cases hs; exact ⟨KeepD.refl _ _ _, fun h => h⟩
  | ret => intro s s' ex hb hs; cases hs; exact ⟨KeepD.refl _ _ _, fun h => h⟩
  | region n ops =>
    intro s s' ex hb hs
    simp only [exec] at hs
    split at hs
    case h_2 => cases hs
    rename_i s1 hr
    cases hs
    have h1 := ops_keep hC hRo hb ops [] _ s' (by simp; omega) hr
    exact ⟨KeepD.trans ⟨fun _ h => h, Keep.push _ _ _ _⟩ h1.1, h1.2⟩
  | seq a b iha ihb =>
    intro s s' ex hb hs
    simp only [exec] at hs
    cases hex : exec R cx a s with
    | none => rw [hex] at hs; cases hs
    | some r =>
      obtain ⟨ex1, s1⟩ := r
      rw [hex] at hs
      have h1 := iha s s1 ex1 hb hex
      cases ex1 with
      | normal =>
        have h2 := ihb s1 s' ex (Nat.le_trans hb h1.1.2.1) hs
        exact ⟨h1.1.trans h2.1, fun h => h2.2 (h1.2 h)⟩
      | exit id => cases hs; exact h1
      | ret => cases hs; exact h1
  | cond c a b iha ihb =>
    intro s s' ex hb hs
    simp only [exec] at hs
    split at hs
    case h_2 => cases hs
    split at hs
    · exact iha s s' ex hb hs
    · exact ihb s s' ex hb hs
  | block id c ih =>
    intro s s' ex hb hs
    simp only [exec] at hs
    cases hex : exec R cx c s with
    | none => rw [hex] at hs; cases hs
    | some r =>
      obtain ⟨ex1, s1⟩ := r
      rw [hex] at hs
      have h1 := ih s s1 ex1 hb hex
      cases ex1 with
      | normal => cases hs; exact h1
      | ret => cases hs; exact h1
      | exit j =>
        simp only at hs
        split at hs <;> (cases hs; exact h1)
  | loop c ih => intro s s' ex hb hs; exact hL cx c s ex s' hb hs
  | rangeFunc f ps as body iha ihb =>
    intro s s' ex hb hs
    simp only [exec] at hs
    split at hs
    case h_2 => cases hs
    rename_i gf first cap hev
    have main : ∀ (h1 : SHeap) (mk : List Nat) (df : Nat), Keep cx.base s.h h1 s.d → ((∀ b ∈ s.ms, cx.base ≤ b) → ∀ b ∈ mk, cx.base ≤ b) →
      (match R.call gf (first.toList ++ [.func (.yield h1.length) #[] #[]] ++ cap.toList) (h1 ++ [.loop 0 cx.fn s.t ps as body none df]) with
        | none => none
        | some (_, h2, d2) =>
          match h2[h1.length]? with
          | some (.loop st _ _ _ _ _ pend _) =>
            if st == 1 then none
            else match pend with
              | none => some (Ex.normal, (⟨s.t, mk, Sh.setLoop h2 h1.length 3 none, dirts cx.base d2 s.d⟩ : St))
              | some .ret => some (.ret, ⟨s.t, mk, Sh.setLoop h2 h1.length 3 (some .ret), dirts cx.base d2 s.d⟩)
              | some (.exit id) => some (.exit id, ⟨s.t, mk, Sh.setLoop h2 h1.length 3 (some (.exit id)), dirts cx.base d2 s.d⟩)
              | _ => none
          | _ => none) = some (ex, s') → StKeep cx s s' := by
      intro h1 mk df hk hm hcall
      split at hcall
      case h_1 => cases hcall
      rename_i v2 h2 d2 hrc
      have hbl : cx.base ≤ h1.length := Nat.le_trans hb hk.1
      have h3 := dirts_keep (base := cx.base) (d := s.d) (hC _ _ _ _ _ _ hrc) (by simp; omega)
      have hall : ∀ pd, KeepD cx.base s.h s.d (Sh.setLoop h2 h1.length 3 pd) (dirts cx.base d2 s.d) := by
        intro pd
        refine ⟨h3.1, ?_⟩
        refine Keep.trans (Keep.trans (Keep.trans hk (Keep.push _ _ _ s.d) (fun _ h => h)) h3.2 h3.1) (setLoop_keep _ _ _ _ _ _) (fun _ h => h)
      split at hcall
      case h_2 => cases hcall
      split at hcall
      · cases hcall
      split at hcall
      · cases hcall; exact ⟨hall _, hm⟩
      · cases hcall; exact ⟨hall _, hm⟩
      · cases hcall; exact ⟨hall _, hm⟩
      · cases hcall
    cases hr : cx.rnd with
    | none =>
      rw [hr] at hs
      simp only at hs
      refine main _ _ _ (Keep.push _ _ _ _) ?_ hs
      intro h b hbm
      rcases List.mem_cons.1 hbm with rfl | hbm
      · exact hb
      · exact h b hbm
    | some l =>
      rw [hr] at hs
      simp only at hs
      split at hs
      case h_1 => cases hs
      rename_i h1 mk df hfind
      split at hfind
      case h_2 => cases hfind
      cases hfind
      exact main _ _ _ (Keep.refl _ _ _) (fun h => h) hs

end
end Go.Proofs.Ytecncmmkghmojaa.Sh
