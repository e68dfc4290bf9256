/- The shadow machine: stores; the model's own steps over cells. -/
import Derived.Test.YtecncmmkghmojaaShD
import Derived.Laws.Sem
import Derived.Laws.Cells
import Derived.Laws.IdiomCopy
set_option linter.all false
namespace Go.Proofs.Ytecncmmkghmojaa.Sh
open Go Go.RowKit

theorem addr_add (A o n : Nat) : (⟨A, o, none⟩ : Addr).add n = ⟨A, o + n, none⟩ := by
  unfold Addr.add; split <;> simp_all

theorem wsetL_eq (w : World) (A o : Nat) (vs : List Value) : wsetL w A o vs = w.setCells A o vs := by
  induction vs generalizing w o with
  | nil => rfl
  | cons v vs ih => rw [wsetL, World.setCells, ih]

theorem isRO_killed (o : SO) : isRO (killed o) = true → isRO o = true := by
  cases o <;> simp [killed, isRO]
theorem live_killed (o : SO) : live (killed o) = true → live o = true := by
  cases o <;> simp [killed, live]
theorem killed_dead {o : SO} (h : live (killed o) = true) : ∀ cs el pf own old, o ≠ .cells cs el pf own old := by
  intro cs el pf own old e
  subst e
  simp [killed, live] at h
theorem OR.killed {P : Program} {m : Mp} {o : SO} {A δ : Nat} {w : World} (h : OR P m o A δ w) : OR P m (killed o) A δ w := by
  cases o with
  | cells cs el pf own old => exact .inl rfl
  | _ => exact h

/-- killing some blocks -/
theorem Rel.killed_all {E : Env} {m : Mp} {h : SHeap} {w : World} (r : Rel E m h w) (l : List Nat) : Rel E m (killAll h l) w := by
  have key : ∀ (b : Nat) (o : SO), (Sh.killAll h l)[b]? = some o → ∃ o', h[b]? = some o' ∧ (o = o' ∨ o = killed o') := by
    intro b o hb
    rw [killAll_get] at hb
    split at hb
    · cases hh : h[b]? with
      | none => rw [hh] at hb; cases hb
      | some o' => rw [hh] at hb; cases hb; exact ⟨o', rfl, .inr rfl⟩
    · exact ⟨o, hb, .inl rfl⟩
  have key2 : ∀ (b : Nat) (o : SO), (Sh.killAll h l)[b]? = some o → live o = true → h[b]? = some o := by
    intro b o hb hl
    obtain ⟨o', h1, rfl | rfl⟩ := key b o hb
    · exact h1
    · cases o' with
      | cells cs el pf own old => simp [killed, live] at hl
      | _ => exact h1
  refine ⟨by rw [killAll_len]; exact r.len, r.lt, ?_, ?_, ?_, r.cap, ?_, r.below, r.bsz⟩
  · intro b o A δ hb hm
    obtain ⟨o', h1, rfl | rfl⟩ := key b o hb
    · exact r.obj _ _ _ _ h1 hm
    · exact (r.obj _ _ _ _ h1 hm).killed
  · intro b o A δ hb hm hl hro
    exact r.base _ _ _ _ (key2 b o hb hl) hm hl hro
  · intro b1 b2 o1 o2 A δ1 δ2 hne h1 h2 m1 m2 l1 l2
    exact r.sep b1 b2 o1 o2 A δ1 δ2 hne (key2 _ _ h1 l1) (key2 _ _ h2 l2) m1 m2 l1 l2
  · intro b K s cs el pf own old hb hc
    obtain ⟨o', h1, e | e⟩ := key b _ hb
    · subst e; exact r.csz _ _ _ _ _ _ _ _ h1 hc
    · cases o' with
      | cells cs' el' pf' own' old' => simp [killed] at e; rw [e.2.1]; exact r.csz _ _ _ _ _ _ _ _ h1 hc
      | _ => simp [killed] at e

theorem live_head (cs el pf old) : live (.cells cs el pf 0 old) = true := rfl
theorem isRO_head (cs el pf old) : isRO (.cells cs el pf 0 old) = false := rfl

/-- the others that lie in a head's block are older ones -/
theorem Rel.others {E : Env} {m : Mp} {h : SHeap} {w : World} (r : Rel E m h w) {b A δ : Nat} {cs el pf old} (hb : h[b]? = some (.cells cs el pf 0 old)) (hm : m.at b = some (A, δ))
    {b2 δ2 : Nat} {o2 : SO} (hne : b2 ≠ b) (h2 : h[b2]? = some o2) (m2 : m.at b2 = some (A, δ2)) (l2 : live o2 = true) :
    b2 ∈ old ∧ ∃ cs2 el2 pf2 old2, o2 = .cells cs2 el2 pf2 1 old2 ∧ δ2 + cs2.length ≤ δ + cs.length := by
  rcases r.sep b2 b o2 _ A δ2 δ hne h2 hb m2 hm l2 rfl with ⟨_, h⟩ | ⟨cs1, el1, pf1, old1, cs2, el2, pf2, own2, old2, e1, e2, h3, h4⟩ | ⟨cs1, el1, pf1, old1, cs2, el2, pf2, own2, old2, e1, e2, h3, h4⟩
  · simp [isRO] at h
  · cases e2
    exact ⟨h3, _, _, _, _, e1, h4⟩
  · cases e1

/-- a store -/
theorem Rel.store {E : Env} {m : Mp} {h : SHeap} {w : World} (r : Rel E m h w) {base b o : Nat} {d d' : List Nat} {vs vs' : List Value} {h' : SHeap} (hs : storeS base h d b o vs = some (h', d'))
    {A δ : Nat} (hm : m.at b = some (A, δ)) (hv : LR m vs vs') :
    Rel E m h' (w.setCells A (δ + o) vs') ∧ (∀ j, j < vs'.length → (w.cell? ⟨A, δ + o + j, none⟩).isSome = true) ∧ (∀ j, j < vs'.length → w.frozen? ⟨A, δ + o + j, none⟩ = false) ∧
      (∀ v ∈ vs', v.oneCell' = true) ∧ Ghost m h m h' ∧ h'.length = h.length := by
  unfold storeS at hs
  split at hs
  case h_2 => cases hs
  rename_i cs el pf own old hb
  split at hs
  case isFalse => cases hs
  rename_i hc
  cases hs
  simp only [Bool.and_eq_true, beq_iff_eq, Nat.ble_eq, Nat.blt_eq] at hc
  obtain ⟨⟨⟨⟨rfl, hlen⟩, hone⟩, hpf⟩, hpos⟩ := hc
  have hlb : b < h.length := (List.getElem?_eq_some_iff.1 hb).1
  obtain hd2 | ⟨rcs, rel, fr, hw, hcells, hfr, hsc, hold⟩ := r.obj _ _ _ _ hb hm
  · cases hd2
  obtain hfr | ⟨rfl, rfl⟩ := hfr
  · cases hfr
  have hin : ∀ i, i < cs.length → δ + i < rcs.size := by
    intro i hi
    obtain ⟨y, hy, _⟩ := hcells i cs[i] (by simp [hi])
    exact (Array.getElem?_eq_some_iff.1 hy).1
  have hrl : δ + o + vs'.length ≤ rcs.size := by
    rw [← hv.1]
    have := hin (o + vs.length - 1) (by omega); omega
  have hB : E.B ≤ A := r.base _ _ _ _ hb hm rfl rfl
  have hAt : (w.setCells A (δ + o) vs').heap[A]? = some (.cells (writeA rcs (δ + o) vs') rel (0, 0)) := by
    rw [← wsetL_eq]; exact wsetL_at w A (δ + o) vs' hw
  have hNe : ∀ k, k ≠ A → (w.setCells A (δ + o) vs').heap[k]? = w.heap[k]? := fun k hk => by
    rw [← wsetL_eq]; exact wsetL_ne w A (δ + o) k vs' hk
  have hSz : (w.setCells A (δ + o) vs').heap.size = w.heap.size := by rw [← wsetL_eq]; exact wsetL_size _ _ _ _
  have rk := r.killed_all old
  have hlen' : ((killAll h old).set b (.cells (writeAt cs o vs) rel pf 0 [])).length = h.length := by simp [killAll_len]
  -- what stands in the new heap
  have key : ∀ (c : Nat) (x : SO), ((killAll h old).set b (.cells (writeAt cs o vs) rel pf 0 []))[c]? = some x →
      (c = b ∧ x = .cells (writeAt cs o vs) rel pf 0 []) ∨ (c ≠ b ∧ (killAll h old)[c]? = some x) := by
    intro c x hx
    by_cases e : b = c
    · subst e
      rw [List.getElem?_set_self (by rw [killAll_len]; exact hlb)] at hx
      cases hx; exact .inl ⟨rfl, rfl⟩
    · rw [List.getElem?_set_ne e] at hx; exact .inr ⟨fun k => e k.symm, hx⟩
  -- nobody else lives in that block
  have alone : ∀ (c : Nat) (x : SO) (δ2 : Nat), c ≠ b → (killAll h old)[c]? = some x → m.at c = some (A, δ2) → live x = false := by
    intro c x δ2 hne hx hmc
    cases hl : live x with
    | false => rfl
    | true =>
      rw [killAll_get] at hx
      split at hx
      · rename_i hmem
        cases hh : h[c]? with
        | none => rw [hh] at hx; cases hx
        | some o' =>
          rw [hh] at hx; cases hx
          have l' := live_killed o' hl
          obtain ⟨_, cs2, el2, pf2, old2, rfl, _⟩ := r.others hb hm hne hh hmc l'
          simp [killed, live] at hl
      · rename_i hmem
        exact absurd (r.others hb hm hne hx hmc hl).1 hmem
  refine ⟨⟨by rw [hlen']; exact r.len, fun c A' δ' hc => by rw [hSz]; exact r.lt _ _ _ hc, ?_, ?_, ?_, ?_, ?_, ?_, by rw [hSz]; exact r.bsz⟩, ?_, ?_, ?_, ?_, hlen'⟩
  · intro c x A' δ' hx hmc
    rcases key c x hx with ⟨rfl, rfl⟩ | ⟨hne, hx⟩
    · rw [hm] at hmc; cases hmc
      refine .inr ⟨_, _, _, hAt, ?_, .inr ⟨rfl, rfl⟩, ?_, fun c hc => by simp at hc⟩
      · intro i y hy
        rw [writeAt_get cs o vs hlen] at hy
        rw [writeA_get rcs (δ + o) vs' hrl]
        by_cases e : o ≤ i ∧ i < o + vs.length
        · rw [if_pos e] at hy
          rw [if_pos (by rw [← hv.1]; omega)]
          have : δ + i - (δ + o) = i - o := by omega
          rw [this]
          exact hv.get hy
        · rw [if_neg e] at hy
          rw [if_neg (by rw [← hv.1]; omega)]
          exact hcells i y hy
      · intro hp
        rw [List.all_eq_true]
        intro y hy
        obtain ⟨i, hi⟩ := List.getElem?_of_mem hy
        rw [writeAt_get cs o vs hlen] at hi
        split at hi
        · rw [hp] at hpf
          simp at hpf
          exact hpf y (List.mem_of_getElem? hi)
        · exact List.all_eq_true.1 (hsc hp) y (List.mem_of_getElem? hi)
    · by_cases e : A' = A
      · subst e
        have hd := alone c x δ' hne hx hmc
        cases x with
        | cells cs2 el2 pf2 own2 old2 => simp [live] at hd; exact .inl hd
        | gone => trivial
        | _ => simp [live] at hd
      · exact (rk.obj _ _ _ _ hx hmc).heap (hNe _ e)
  · intro c x A' δ' hx hmc hl hro
    rcases key c x hx with ⟨rfl, rfl⟩ | ⟨hne, hx⟩
    · rw [hm] at hmc; cases hmc; exact hB
    · exact rk.base _ _ _ _ hx hmc hl hro
  · intro b1 b2 o1 o2 A' δ1 δ2 hne h1 h2 m1 m2 l1 l2
    rcases key b1 o1 h1 with ⟨rfl, rfl⟩ | ⟨n1, k1⟩ <;> rcases key b2 o2 h2 with ⟨rfl, rfl⟩ | ⟨n2, k2⟩
    · exact absurd rfl hne
    · rw [hm] at m1; cases m1
      rw [alone b2 o2 δ2 n2 k2 m2] at l2; cases l2
    · rw [hm] at m2; cases m2
      rw [alone b1 o1 δ1 n1 k1 m1] at l1; cases l1
    · exact rk.sep b1 b2 o1 o2 A' δ1 δ2 hne k1 k2 m1 m2 l1 l2
  · intro c A' δ' K s hmc hcp
    obtain ⟨rcs', rel', fr', h1, h2⟩ := r.cap _ _ _ _ _ hmc hcp
    by_cases e : A' = A
    · subst e
      rw [hw] at h1; cases h1
      exact ⟨_, _, _, hAt, by rw [writeA_size]; exact h2⟩
    · exact ⟨rcs', rel', fr', by rw [hNe _ e]; exact h1, h2⟩
  · intro c K s cs2 el2 pf2 own2 old2 hx hcp
    rcases key c _ hx with ⟨rfl, e⟩ | ⟨hne, hx⟩
    · cases e; exact r.csz _ _ _ _ _ _ _ _ hb hcp
    · exact rk.csz _ _ _ _ _ _ _ _ hx hcp
  · rw [← wsetL_eq]; exact wsetL_below r.below hB _ _
  · intro j hj
    rw [cell?_of hw]
    have : δ + o + j < rcs.size := by omega
    simp [this]
  · intro j hj
    unfold World.frozen?
    simp [hw]
  · intro v hvv
    obtain ⟨i, hi⟩ := List.getElem?_of_mem hvv
    obtain ⟨x, hx, hr⟩ := hv.get' hi
    have h1 := List.all_eq_true.1 hone x (List.mem_of_getElem? hx)
    obtain ⟨ha, hb⟩ := hr.oneC h1
    cases v <;> first | rfl | (exact absurd rfl (ha _)) | (exact absurd rfl (hb _))
  · intro c x hc hmc
    refine ⟨?_, hmc⟩
    have hne : b ≠ c := by intro e; subst e; rw [hm] at hmc; cases hmc
    rw [List.getElem?_set_ne hne, killAll_get]
    split
    · rename_i hmem
      obtain ⟨x', hx'⟩ := hold c hmem
      rw [hmc] at hx'; cases hx'
    · exact hc

end Go.Proofs.Ytecncmmkghmojaa.Sh
