/- The shadow machine: append. -/
import Derived.Test.YtecncmmkghmojaaShK
set_option linter.all false
namespace Go.Proofs.Ytecncmmkghmojaa.Sh
open Go Go.RowKit

section
variable {P : Program} {nt : Nat} {m : Mp} {t : T} {a : Act}

def shared : SO → SO
  | .cells cs el pf _ old => .cells cs el pf 1 old
  | o => o
theorem share_get' (h : SHeap) (b c : Nat) : (share h b)[c]? = if b = c then (h[c]?).map shared else h[c]? := by
  rw [share_get]; congr 1
theorem OR.shared {m : Mp} {cs el pf old} {A δ : Nat} {w : World} (h : OR P m (.cells cs el pf 0 old) A δ w) : OR P m (.cells cs el pf 1 old) A δ w := by
  rcases h with h | ⟨rcs, rel, fr, h1, h2, h3, h4, h5⟩
  · cases h
  · exact .inr ⟨rcs, rel, fr, h1, h2, .inr (h3.resolve_left (by omega)), h4, h5⟩

/-- a head becomes an older one -/
theorem Rel.share {E : Env} {h : SHeap} {w : World} (r : Rel E m h w) {b : Nat} {cs el pf old} (hb : h[b]? = some (.cells cs el pf 0 old)) : Rel E m (share h b) w := by
  have key : ∀ (c : Nat) (o : SO), (Sh.share h b)[c]? = some o → (c = b ∧ o = .cells cs el pf 1 old) ∨ (c ≠ b ∧ h[c]? = some o) := by
    intro c o hc
    rw [share_get'] at hc
    split at hc
    · rename_i e; subst e; rw [hb] at hc; cases hc; exact .inl ⟨rfl, rfl⟩
    · rename_i e; exact .inr ⟨fun k => e k.symm, hc⟩
  refine ⟨by rw [share_len]; exact r.len, r.lt, ?_, ?_, ?_, r.cap, ?_, r.below, r.bsz⟩
  · intro c o A δ hc hm
    rcases key c o hc with ⟨rfl, rfl⟩ | ⟨_, hc⟩
    · exact (r.obj _ _ _ _ hb hm).shared
    · exact r.obj _ _ _ _ hc hm
  · intro c o A δ hc hm hl hro
    rcases key c o hc with ⟨rfl, rfl⟩ | ⟨_, hc⟩
    · exact r.base _ _ _ _ hb hm rfl rfl
    · exact r.base _ _ _ _ hc hm hl hro
  · intro b1 b2 o1 o2 A δ1 δ2 hne h1 h2 m1 m2 l1 l2
    rcases key b1 o1 h1 with ⟨rfl, rfl⟩ | ⟨n1, k1⟩ <;> rcases key b2 o2 h2 with ⟨rfl, rfl⟩ | ⟨n2, k2⟩
    · exact absurd rfl hne
    · obtain ⟨h3, cs2, el2, pf2, old2, rfl, h4⟩ := r.others hb m1 (Ne.symm hne) k2 m2 l2
      exact .inr (.inr ⟨_, _, _, _, _, _, _, _, _, rfl, rfl, h3, h4⟩)
    · obtain ⟨h3, cs2, el2, pf2, old2, rfl, h4⟩ := r.others hb m2 hne k1 m1 l1
      exact .inr (.inl ⟨_, _, _, _, _, _, _, _, _, rfl, rfl, h3, h4⟩)
    · exact r.sep b1 b2 o1 o2 A δ1 δ2 hne k1 k2 m1 m2 l1 l2
  · intro c K s cs2 el2 pf2 own2 old2 hx hcp
    rcases key c _ hx with ⟨rfl, e⟩ | ⟨hne, hx⟩
    · cases e; exact r.csz _ _ _ _ _ _ _ _ hb hcp
    · exact r.csz _ _ _ _ _ _ _ _ hx hcp

/-- a write behind all that lives in a block -/
theorem Rel.above {E : Env} {h : SHeap} {w : World} (r : Rel E m h w) {A off : Nat} {rcs rel fr} (hw : w.heap[A]? = some (.cells rcs rel fr)) (hB : E.B ≤ A) {vs : List Value}
    (hfit : off + vs.length ≤ rcs.size) (hall : ∀ (c : Nat) (o : SO) (δ : Nat), h[c]? = some o → m.at c = some (A, δ) → live o = true → ∃ cs el pf own old, o = .cells cs el pf own old ∧ δ + cs.length ≤ off) :
    Rel E m h (w.setCells A off vs) := by
  have hAt : (w.setCells A off vs).heap[A]? = some (.cells (writeA rcs off vs) rel fr) := by
    rw [← wsetL_eq]; exact wsetL_at w A off vs hw
  have hNe : ∀ k, k ≠ A → (w.setCells A off vs).heap[k]? = w.heap[k]? := fun k hk => by
    rw [← wsetL_eq]; exact wsetL_ne w A off k vs hk
  have hSz : (w.setCells A off vs).heap.size = w.heap.size := by rw [← wsetL_eq]; exact wsetL_size _ _ _ _
  refine ⟨r.len, fun c A' δ' hc => by rw [hSz]; exact r.lt _ _ _ hc, ?_, r.base, r.sep, ?_, r.csz, ?_, by rw [hSz]; exact r.bsz⟩
  · intro c o A' δ' hc hmc
    by_cases e : A' = A
    · subst e
      cases hl : live o with
      | false =>
        cases o with
        | cells cs2 el2 pf2 own2 old2 => simp [live] at hl; exact .inl hl
        | gone => trivial
        | _ => simp [live] at hl
      | true =>
        obtain ⟨cs, el, pf, own, old, rfl, hle⟩ := hall c o δ' hc hmc hl
        rcases r.obj _ _ _ _ hc hmc with h2 | ⟨rcs', rel', fr', h1, h2, h3, h4, h5⟩
        · exact .inl h2
        · rw [hw] at h1; cases h1
          refine .inr ⟨_, _, _, hAt, fun i x hx => ?_, h3, h4, h5⟩
          have hi : i < cs.length := (List.getElem?_eq_some_iff.1 hx).1
          rw [writeA_get rcs off vs hfit, if_neg (by omega)]
          exact h2 i x hx
    · exact (r.obj _ _ _ _ hc hmc).heap (hNe _ e)
  · intro c A' δ' K s hmc hcp
    obtain ⟨rcs', rel', fr', h1, h2⟩ := r.cap _ _ _ _ _ hmc hcp
    by_cases e : A' = A
    · subst e
      rw [hw] at h1; cases h1
      exact ⟨_, _, _, hAt, by rw [writeA_size]; exact h2⟩
    · exact ⟨rcs', rel', fr', by rw [hNe _ e]; exact h1, h2⟩
  · rw [← wsetL_eq]; exact wsetL_below r.below hB _ _

/-- one more name for a part of a block -/
theorem Rel.alias {E : Env} {h : SHeap} {w : World} (r : Rel E m h w) {A δ : Nat} {cq : Option (Nat × Nat)} {cs el pf old}
    (k : OR E.P (m ++ [some ((A, δ), cq)]) (.cells cs el pf 0 old) A δ w) (hB : E.B ≤ A) (hA : A < w.heap.size)
    (hcap : ∀ K s, cq = some (K, s) → (∃ rcs rel fr, w.heap[A]? = some (.cells rcs rel fr) ∧ δ + K ≤ rcs.size) ∧ szOf E.P el = some s)
    (hsep : ∀ (c : Nat) (o : SO) (δ2 : Nat), h[c]? = some o → m.at c = some (A, δ2) → live o = true → ∃ cs2 el2 pf2 old2, o = .cells cs2 el2 pf2 1 old2 ∧ c ∈ old ∧ δ2 + cs2.length ≤ δ + cs.length) :
    Rel E (m ++ [some ((A, δ), cq)]) (h ++ [.cells cs el pf 0 old]) w := by
  have key : ∀ (b : Nat) (x : SO) (A' δ' : Nat), (h ++ [.cells cs el pf 0 old])[b]? = some x → Mp.at (m ++ [some ((A, δ), cq)]) b = some (A', δ') →
      (b < h.length ∧ h[b]? = some x ∧ m.at b = some (A', δ')) ∨ (b = h.length ∧ x = .cells cs el pf 0 old ∧ A' = A ∧ δ' = δ) := by
    intro b x A' δ' hx hb
    have hlt := Mp.at_lt hb
    simp at hlt
    by_cases e : b < h.length
    · rw [List.getElem?_append_left e] at hx
      rw [Mp.at_append_left (by rw [r.len]; exact e)] at hb
      exact .inl ⟨e, hx, hb⟩
    · have : b = h.length := by have := r.len; omega
      subst this
      rw [← r.len, Mp.at_snoc] at hb
      simp at hx hb
      exact .inr ⟨rfl, hx.symm, hb.1.symm, hb.2.symm⟩
  refine ⟨by simp [r.len], ?_, ?_, ?_, ?_, ?_, ?_, r.below, r.bsz⟩
  · intro b A' δ' hb
    have hlt := Mp.at_lt hb
    simp at hlt
    by_cases e : b < m.length
    · rw [Mp.at_append_left e] at hb
      exact r.lt _ _ _ hb
    · have : b = m.length := by omega
      subst this
      rw [Mp.at_snoc] at hb
      simp at hb; omega
  · intro b x A' δ' hx hb
    rcases key b x A' δ' hx hb with ⟨_, h1, h2⟩ | ⟨_, rfl, rfl, rfl⟩
    · exact (r.obj b x A' δ' h1 h2).mono (Mp.le_append _ _)
    · exact k
  · intro b x A' δ' hx hb hl hro
    rcases key b x A' δ' hx hb with ⟨_, h1, h2⟩ | ⟨_, rfl, rfl, rfl⟩
    · exact r.base b x A' δ' h1 h2 hl hro
    · exact hB
  · intro b1 b2 o1 o2 A' δ1 δ2 hne h1 h2 m1 m2 l1 l2
    rcases key b1 o1 A' δ1 h1 m1 with ⟨e1, a1, c1⟩ | ⟨e1, rfl, rfl, rfl⟩ <;> rcases key b2 o2 _ δ2 h2 m2 with ⟨e2, a2, c2⟩ | ⟨e2, rfl, k2, rfl⟩
    · exact r.sep b1 b2 o1 o2 A' δ1 δ2 hne a1 a2 c1 c2 l1 l2
    · subst k2
      obtain ⟨cs2, el2, pf2, old2, rfl, h3, h4⟩ := hsep _ _ _ a1 c1 l1
      exact .inr (.inl ⟨_, _, _, _, _, _, _, _, _, rfl, rfl, h3, h4⟩)
    · obtain ⟨cs2, el2, pf2, old2, rfl, h3, h4⟩ := hsep _ _ _ a2 c2 l2
      exact .inr (.inr ⟨_, _, _, _, _, _, _, _, _, rfl, rfl, h3, h4⟩)
    · omega
  · intro b A' δ' K s hb hc
    have hlt := Mp.at_lt hb
    simp at hlt
    by_cases e : b < m.length
    · rw [Mp.at_append_left e] at hb
      rw [Mp.cp_append_left e] at hc
      exact r.cap _ _ _ _ _ hb hc
    · have : b = m.length := by omega
      subst this
      rw [Mp.at_snoc] at hb
      rw [Mp.cp_snoc] at hc
      simp at hb hc
      rw [← hb.1, ← hb.2]
      exact (hcap K s hc).1
  · intro b K s cs' el' pf' own' old' hb hc
    have hlt : b < (h ++ [SO.cells cs el pf 0 old]).length := (List.getElem?_eq_some_iff.1 hb).1
    simp at hlt
    by_cases e : b < m.length
    · rw [Mp.cp_append_left e] at hc
      rw [List.getElem?_append_left (by rw [← r.len]; exact e)] at hb
      exact r.csz _ _ _ _ _ _ _ _ hb hc
    · have hbm : b = m.length := by have := r.len; omega
      subst hbm
      rw [Mp.cp_snoc] at hc
      simp at hc
      rw [r.len] at hb
      simp at hb
      rw [← hb.2.1]
      exact (hcap K s hc).2

theorem Ghost.push {h : SHeap} {x : Option ((Nat × Nat) × Option (Nat × Nat))} {o : SO} (hl : m.length = h.length) : Ghost m h (m ++ [x]) (h ++ [o]) := by
  intro b y hb hm
  have hlt : b < h.length := (List.getElem?_eq_some_iff.1 hb).1
  exact ⟨by rw [List.getElem?_append_left hlt]; exact hb, by rw [Mp.at_append_left (by omega)]; exact hm⟩
theorem Ghost.share {h : SHeap} {b : Nat} {p} (hb : m.at b = some p) : Ghost m h m (share h b) := by
  intro c o hc hm
  refine ⟨?_, hm⟩
  rw [share_get', if_neg (by intro e; subst e; rw [hb] at hm; cases hm)]
  exact hc
theorem Ghost.killAll {h : SHeap} {l : List Nat} (hl : ∀ b ∈ l, ∃ p, m.at b = some p) : Ghost m h m (killAll h l) := by
  intro c o hc hm
  refine ⟨?_, hm⟩
  rw [killAll_get, if_neg (by intro e; obtain ⟨p, hp⟩ := hl c e; rw [hp] at hm; cases hm)]
  exact hc

theorem mem_of_all {p : Value → Bool} {l : List Value} (h : l.all p = true) {i : Nat} {x : Value} (hx : l[i]? = some x) : p x = true := List.all_eq_true.1 h x (List.mem_of_getElem? hx)

/-- cells of a real block that are those of a list -/
theorem or_cells {m : Mp} {cs : List Value} {el : TypeId} {pf : Bool} {old : List Nat} {A δ : Nat} {w : World} {rcs : Array Value} {cs' : List Value} (hw : w.heap[A]? = some (.cells rcs el (0, 0)))
    (hc : LR m cs cs') (hr : ∀ (i : Nat) (y : Value), cs'[i]? = some y → rcs[δ + i]? = some y) (hp : pf = true → cs.all sc = true) (ho : ∀ c ∈ old, ∃ x, m.at c = some x) : OR P m (.cells cs el pf 0 old) A δ w :=
  .inr ⟨rcs, el, (0, 0), hw, fun i x hx => let ⟨y, hy, hv⟩ := hc.get hx; ⟨y, hr i y hy, hv⟩, .inr ⟨rfl, rfl⟩, hp, ho⟩

theorem mayPf {pf : Bool} {old new : List Value} (h : (!pf || (new.all sc && old.all sc)) = true) (hp : pf = true) : (old ++ new).all sc = true := by
  subst hp
  simp only [Bool.not_true, Bool.false_or, Bool.and_eq_true] at h
  rw [List.all_append, h.1, h.2]; rfl

end
end Go.Proofs.Ytecncmmkghmojaa.Sh
