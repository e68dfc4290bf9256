/- The shadow machine: the heap and the world; reading, laying and storing. -/
import Derived.Test.YtecncmmkghmojaaShC
set_option linter.all false
namespace Go.Proofs.Ytecncmmkghmojaa.Sh
open Go Go.RowKit

structure Env where
  P : Program
  B : Nat
  w0 : World

def stR : Nat → LoopState → Prop
  | 0, .ready | 1, .busy | 2, .done | 3, .exhausted => True
  | _, _ => False

inductive PendR : Option SCode → Option Code → Prop
  | none : PendR none none
  | ret : PendR (some .ret) (some .ret)
  | exit (id) : PendR (some (.exit id)) (some (.exit id))

structure LoopR (P : Program) (m : Mp) (st : Nat) (fn : FuncId) (t : T) (ps : List Nat) (as body : SCode) (pend : Option SCode) (df : Nat) (r : Loop) : Prop where
  hst : stR st r.state
  hps : r.params.toList = ps
  has : compCode P r.assign = some as
  hbody : compCode P r.body = some body
  hpend : PendR pend r.pending
  hdf : m.at df = some (r.defers, 0)
  htm : ∃ nt, TR nt m t r.tmps ∧ bounded nt as = true ∧ bounded nt body = true ∧ ps.all (fun d => Nat.blt d nt) = true

def OR (P : Program) (m : Mp) (o : SO) (A δ : Nat) (w : World) : Prop :=
  match o with
  | .cells cs el pf own old => own = 2 ∨ ∃ rcs rel fr, w.heap[A]? = some (.cells rcs rel fr) ∧
      (∀ (i : Nat) (x : Value), cs[i]? = some x → ∃ y, rcs[δ + i]? = some y ∧ VR m x y) ∧ (own = 3 ∨ (fr = (0, 0) ∧ rel = el)) ∧ (pf = true → cs.all sc = true) ∧ ∀ c ∈ old, ∃ x, m.at c = some x
  | .loop st fn t ps as body pend df => δ = 0 ∧ ∃ r, w.heap[A]? = some (.loop r) ∧ LoopR P m st fn t ps as body pend df r
  | .deferred => δ = 0 ∧ w.heap[A]? = some (.deferred (some []))
  | .map pf es => δ = 0 ∧ (∃ rs clock, w.heap[A]? = some (.map rs clock) ∧ LR m (es.map (·.1)) (rs.toList.map (·.key)) ∧ LR m (es.map (·.2)) (rs.toList.map (·.val)) ∧
      (∀ e ∈ rs.toList, e.born < clock)) ∧ (pf = true → es.all (fun e => (cellsL e.1).all sc && (cellsL e.2).all sc) = true)
  | .gone => True

def live : SO → Bool
  | .cells _ _ _ own _ => !(own == 2)
  | .gone => false
  | _ => true
def isRO : SO → Bool
  | .cells _ _ _ own _ => own == 3
  | _ => false

/-- b1 is older than the block o2 -/
def Chain (b1 : Nat) (o1 : SO) (δ1 : Nat) (o2 : SO) (δ2 : Nat) : Prop :=
  ∃ cs1 el1 pf1 old1 cs2 el2 pf2 own2 old2, o1 = .cells cs1 el1 pf1 1 old1 ∧ o2 = .cells cs2 el2 pf2 own2 old2 ∧ b1 ∈ old2 ∧ δ1 + cs1.length ≤ δ2 + cs2.length

structure Rel (E : Env) (m : Mp) (h : SHeap) (w : World) : Prop where
  len : m.length = h.length
  lt : ∀ (b A δ : Nat), m.at b = some (A, δ) → A < w.heap.size
  obj : ∀ (b : Nat) (o : SO) (A δ : Nat), h[b]? = some o → m.at b = some (A, δ) → OR E.P m o A δ w
  base : ∀ (b : Nat) (o : SO) (A δ : Nat), h[b]? = some o → m.at b = some (A, δ) → live o = true → isRO o = false → E.B ≤ A
  sep : ∀ (b1 b2 : Nat) (o1 o2 : SO) (A δ1 δ2 : Nat), b1 ≠ b2 → h[b1]? = some o1 → h[b2]? = some o2 → m.at b1 = some (A, δ1) → m.at b2 = some (A, δ2) →
    live o1 = true → live o2 = true → (isRO o1 = true ∧ isRO o2 = true) ∨ Chain b1 o1 δ1 o2 δ2 ∨ Chain b2 o2 δ2 o1 δ1
  cap : ∀ (b A δ K s : Nat), m.at b = some (A, δ) → m.cp b = some (K, s) → ∃ rcs rel fr, w.heap[A]? = some (.cells rcs rel fr) ∧ δ + K ≤ rcs.size
  csz : ∀ (b K s : Nat) (cs : List Value) (el : TypeId) (pf : Bool) (own : Nat) (old : List Nat), h[b]? = some (.cells cs el pf own old) → m.cp b = some (K, s) → szOf E.P el = some s
  below : Below E.B E.w0 w
  bsz : E.B ≤ w.heap.size

/-- what is not laid yet stays as it was -/
def Ghost (m : Mp) (h : SHeap) (m' : Mp) (h' : SHeap) : Prop := ∀ (b : Nat) (o : SO), h[b]? = some o → m.at b = none → h'[b]? = some o ∧ m'.at b = none
theorem Ghost.refl (m : Mp) (h : SHeap) : Ghost m h m h := fun _ _ a b => ⟨a, b⟩
theorem Ghost.trans {m h m' h' m'' h''} (x : Ghost m h m' h') (y : Ghost m' h' m'' h'') : Ghost m h m'' h'' := fun b o a c => let ⟨p, q⟩ := x b o a c; y b o p q

/-- a draw -/
theorem OR.heap {P : Program} {m : Mp} {o : SO} {A δ : Nat} {w w' : World} (h : OR P m o A δ w) (e : w'.heap[A]? = w.heap[A]?) : OR P m o A δ w' := by
  unfold OR at *
  rw [e]
  exact h
theorem OR.mono {P : Program} {m m' : Mp} (hm : m.le m') {o : SO} {A δ : Nat} {w : World} (h : OR P m o A δ w) : OR P m' o A δ w := by
  unfold OR at *
  split at h
  · rcases h with h | ⟨rcs, rel, fr, h1, h2, h3, h4, h5⟩
    · exact .inl h
    · exact .inr ⟨rcs, rel, fr, h1, fun i x hx => let ⟨y, a, b⟩ := h2 i x hx; ⟨y, a, b.mono hm⟩, h3, h4, fun c hc => let ⟨x, hx⟩ := h5 c hc; ⟨x, Mp.le_at hm hx⟩⟩
  · obtain ⟨h0, r, h1, h2⟩ := h
    obtain ⟨nt, t1, t2⟩ := h2.htm
    exact ⟨h0, r, h1, ⟨h2.hst, h2.hps, h2.has, h2.hbody, h2.hpend, Mp.le_at hm h2.hdf, nt, t1.mono hm, t2⟩⟩
  · exact h
  · obtain ⟨h0, ⟨rs, cl, h1, h2, h3, h4⟩, h5⟩ := h
    exact ⟨h0, ⟨rs, cl, h1, h2.mono hm, h3.mono hm, h4⟩, h5⟩
  · trivial

theorem Rel.drew {E : Env} {m : Mp} {h : SHeap} {w : World} (r : Rel E m h w) (n : Nat) : Rel E m h { w with drawn := n } :=
  ⟨r.len, r.lt, fun b o A δ x y => (r.obj b o A δ x y).heap rfl, r.base, r.sep, r.cap, r.csz, r.below.trans ⟨rfl, rfl, rfl, Nat.le_refl _, fun _ _ => rfl⟩, r.bsz⟩

theorem Rel.at_none_of {E : Env} {m : Mp} {h : SHeap} {w : World} (r : Rel E m h w) {b : Nat} {x} (hb : m.at b = some x) : ∃ o, h[b]? = some o := by
  have := Mp.at_lt hb
  rw [r.len] at this
  exact ⟨h[b], by simp [this]⟩

/-- a new block, behind all others -/
theorem Rel.push {E : Env} {m : Mp} {h : SHeap} {w : World} (r : Rel E m h w) {o : SO} {ob : Obj} (ho : isRO o = false) (cq : Option (Nat × Nat))
    (k : ∀ w' : World, w'.heap[w.heap.size]? = some ob → OR E.P (m ++ [some ((w.heap.size, 0), cq)]) o w.heap.size 0 w')
    (kc : ∀ K s, cq = some (K, s) → (∃ rcs rel fr, ob = .cells rcs rel fr ∧ K ≤ rcs.size) ∧ ∀ cs el pf own old, o = .cells cs el pf own old → szOf E.P el = some s) :
    Rel E (m ++ [some ((w.heap.size, 0), cq)]) (h ++ [o]) { w with heap := w.heap.push ob } := by
  have hnew : ({ w with heap := w.heap.push ob } : World).heap[w.heap.size]? = some ob := by simp
  have hold : ∀ A, A < w.heap.size → ({ w with heap := w.heap.push ob } : World).heap[A]? = w.heap[A]? := fun A hA => by
    show (w.heap.push ob)[A]? = _
    rw [Array.getElem?_push, if_neg (by omega)]
  have key : ∀ (b : Nat) (x : SO) (A δ : Nat), (h ++ [o])[b]? = some x → Mp.at (m ++ [some ((w.heap.size, 0), cq)]) b = some (A, δ) →
      (b < h.length ∧ h[b]? = some x ∧ m.at b = some (A, δ)) ∨ (b = h.length ∧ x = o ∧ A = w.heap.size ∧ δ = 0) := by
    intro b x A δ hx hb
    have hlt := Mp.at_lt hb
    simp at hlt
    by_cases e : b < h.length
    · rw [List.getElem?_append_left e] at hx
      rw [Mp.at_append_left (by rw [r.len]; exact e)] at hb
      exact .inl ⟨e, hx, hb⟩
    · have : b = h.length := by have := r.len; omega
      subst this
      rw [← r.len, Mp.at_snoc] at hb
      simp at hx hb
      exact .inr ⟨rfl, hx.symm, hb.1.symm, hb.2.symm⟩
  refine ⟨by simp [r.len], ?_, ?_, ?_, ?_, ?_, ?_, ?_, ?_⟩
  · intro b A δ hb
    show A < (w.heap.push ob).size
    rw [Array.size_push]
    have hlt := Mp.at_lt hb
    simp at hlt
    by_cases e : b < m.length
    · rw [Mp.at_append_left e] at hb
      have := r.lt _ _ _ hb; omega
    · have : b = m.length := by omega
      subst this
      rw [Mp.at_snoc] at hb
      simp at hb; omega
  · intro b x A δ hx hb
    rcases key b x A δ hx hb with ⟨_, h1, h2⟩ | ⟨_, rfl, rfl, rfl⟩
    · exact ((r.obj b x A δ h1 h2).mono (Mp.le_append _ _)).heap (hold A (r.lt _ _ _ h2))
    · exact k _ hnew
  · intro b x A δ hx hb hl hro
    rcases key b x A δ hx hb with ⟨_, h1, h2⟩ | ⟨_, rfl, rfl, rfl⟩
    · exact r.base b x A δ h1 h2 hl hro
    · exact r.bsz
  · intro b1 b2 o1 o2 A δ1 δ2 hne h1 h2 m1 m2 l1 l2
    rcases key b1 o1 A δ1 h1 m1 with ⟨e1, a1, c1⟩ | ⟨e1, rfl, rfl, rfl⟩ <;> rcases key b2 o2 _ δ2 h2 m2 with ⟨e2, a2, c2⟩ | ⟨e2, rfl, k2, rfl⟩
    · exact r.sep b1 b2 o1 o2 A δ1 δ2 hne a1 a2 c1 c2 l1 l2
    · subst k2; have := r.lt _ _ _ c1; omega
    · have := r.lt _ _ _ c2; omega
    · omega
  · intro b A δ K s hb hc
    have hlt := Mp.at_lt hb
    simp at hlt
    by_cases e : b < m.length
    · rw [Mp.at_append_left e] at hb
      rw [Mp.cp_append_left e] at hc
      obtain ⟨rcs, rel, fr, h1, h2⟩ := r.cap _ _ _ _ _ hb hc
      exact ⟨rcs, rel, fr, by rw [hold A (r.lt _ _ _ hb)]; exact h1, h2⟩
    · have : b = m.length := by omega
      subst this
      rw [Mp.at_snoc] at hb
      rw [Mp.cp_snoc] at hc
      simp at hb hc
      obtain ⟨⟨rcs, rel, fr, h1, h2⟩, _⟩ := kc K s hc
      rw [← hb.1, ← hb.2]
      exact ⟨rcs, rel, fr, by rw [hnew, h1], by omega⟩
  · intro b K s cs el pf own old hb hc
    have hlt : b < (h ++ [o]).length := (List.getElem?_eq_some_iff.1 hb).1
    simp at hlt
    by_cases e : b < m.length
    · rw [Mp.cp_append_left e] at hc
      rw [List.getElem?_append_left (by rw [← r.len]; exact e)] at hb
      exact r.csz _ _ _ _ _ _ _ _ hb hc
    · have hbm : b = m.length := by have := r.len; omega
      subst hbm
      rw [Mp.cp_snoc] at hc
      simp at hc
      rw [r.len] at hb
      simp at hb
      exact (kc K s hc).2 _ _ _ _ _ hb
  · exact r.below.alloc r.bsz ob
  · show E.B ≤ (w.heap.push ob).size
    rw [Array.size_push]; have := r.bsz; omega

/-- a new block, at the place that was kept for it -/
theorem Rel.place {E : Env} {m : Mp} {h : SHeap} {w : World} (r : Rel E m h w) {b0 : Nat} {o : SO} {ob : Obj} (hb0 : m.at b0 = none) (hlt0 : b0 < h.length) (ho : isRO o = false)
    (k : ∀ w' : World, w'.heap[w.heap.size]? = some ob → OR E.P (m.set b0 (some ((w.heap.size, 0), none))) o w.heap.size 0 w') :
    Rel E (m.set b0 (some ((w.heap.size, 0), none))) (h.set b0 o) { w with heap := w.heap.push ob } := by
  have hnew : ({ w with heap := w.heap.push ob } : World).heap[w.heap.size]? = some ob := by simp
  have hold : ∀ A, A < w.heap.size → ({ w with heap := w.heap.push ob } : World).heap[A]? = w.heap[A]? := fun A hA => by
    show (w.heap.push ob)[A]? = _
    rw [Array.getElem?_push, if_neg (by omega)]
  have hl0 : b0 < m.length := by rw [r.len]; exact hlt0
  have key : ∀ (b : Nat) (x : SO) (A δ : Nat), (h.set b0 o)[b]? = some x → Mp.at (m.set b0 (some ((w.heap.size, 0), none))) b = some (A, δ) →
      (b ≠ b0 ∧ h[b]? = some x ∧ m.at b = some (A, δ)) ∨ (b = b0 ∧ x = o ∧ A = w.heap.size ∧ δ = 0) := by
    intro b x A δ hx hb
    by_cases e : b0 = b
    · subst e
      rw [Mp.at_set_same hl0] at hb
      simp [hlt0] at hx hb
      exact .inr ⟨rfl, hx.symm, hb.1.symm, hb.2.symm⟩
    · rw [List.getElem?_set_ne e] at hx
      rw [Mp.at_set_ne e] at hb
      exact .inl ⟨fun c => e c.symm, hx, hb⟩
  refine ⟨by simp [r.len], ?_, ?_, ?_, ?_, ?_, ?_, ?_, ?_⟩
  · intro b A δ hb
    show A < (w.heap.push ob).size
    rw [Array.size_push]
    by_cases e : b0 = b
    · subst e; rw [Mp.at_set_same hl0] at hb; simp at hb; omega
    · rw [Mp.at_set_ne e] at hb; have := r.lt _ _ _ hb; omega
  · intro b x A δ hx hb
    rcases key b x A δ hx hb with ⟨_, h1, h2⟩ | ⟨_, rfl, rfl, rfl⟩
    · exact ((r.obj b x A δ h1 h2).mono (Mp.le_set hb0)).heap (hold A (r.lt _ _ _ h2))
    · exact k _ hnew
  · intro b x A δ hx hb hl hro
    rcases key b x A δ hx hb with ⟨_, h1, h2⟩ | ⟨_, rfl, rfl, rfl⟩
    · exact r.base b x A δ h1 h2 hl hro
    · exact r.bsz
  · intro b1 b2 o1 o2 A δ1 δ2 hne h1 h2 m1 m2 l1 l2
    rcases key b1 o1 A δ1 h1 m1 with ⟨e1, a1, c1⟩ | ⟨e1, rfl, rfl, rfl⟩ <;> rcases key b2 o2 _ δ2 h2 m2 with ⟨e2, a2, c2⟩ | ⟨e2, rfl, k2, rfl⟩
    · exact r.sep b1 b2 o1 o2 A δ1 δ2 hne a1 a2 c1 c2 l1 l2
    · subst k2; have := r.lt _ _ _ c1; omega
    · have := r.lt _ _ _ c2; omega
    · omega
  · intro b A δ K s hb hc
    by_cases e : b0 = b
    · subst e; rw [Mp.cp_set_same hl0] at hc; cases hc
    · rw [Mp.at_set_ne e] at hb
      rw [Mp.cp_set_ne e] at hc
      obtain ⟨rcs, rel, fr, h1, h2⟩ := r.cap _ _ _ _ _ hb hc
      exact ⟨rcs, rel, fr, by rw [hold A (r.lt _ _ _ hb)]; exact h1, h2⟩
  · intro b K s cs el pf own old hb hc
    by_cases e : b0 = b
    · subst e; rw [Mp.cp_set_same hl0] at hc; cases hc
    · rw [Mp.cp_set_ne e] at hc
      rw [List.getElem?_set_ne e] at hb
      exact r.csz _ _ _ _ _ _ _ _ hb hc
  · exact r.below.alloc r.bsz ob
  · show E.B ≤ (w.heap.push ob).size
    rw [Array.size_push]; have := r.bsz; omega

/-! ### reading -/
theorem cell?_of {w : World} {A o : Nat} {rcs rel fr} (h : w.heap[A]? = some (.cells rcs rel fr)) : w.cell? ⟨A, o, none⟩ = rcs[o]? := by
  unfold World.cell?; simp [h]
theorem Rel.rd1 {E : Env} {m : Mp} {h : SHeap} {w : World} (r : Rel E m h w) {b o A δ : Nat} {x : Value} (hx : rd1 h b o = some x) (hm : m.at b = some (A, δ)) :
    ∃ y, w.cell? ⟨A, δ + o, none⟩ = some y ∧ VR m x y := by
  unfold Sh.rd1 at hx
  split at hx
  · rename_i cs el pf own old hb
    split at hx
    · rename_i hr
      have := r.obj _ _ _ _ hb hm
      unfold OR at this
      rcases this with h2 | ⟨rcs, rel, fr, h1, h2, _⟩
      · simp [readable, h2] at hr
      · obtain ⟨y, hy, hv⟩ := h2 o x hx
        exact ⟨y, by rw [cell?_of h1]; exact hy, hv⟩
    · cases hx
  · cases hx
theorem Rel.rdN {E : Env} {m : Mp} {h : SHeap} {w : World} (r : Rel E m h w) {b o n A δ : Nat} {l : List Value} (hx : rdN h b o n = some l) (hm : m.at b = some (A, δ)) :
    l.length = n ∧ ∀ (i : Nat) (x : Value), l[i]? = some x → ∃ y, w.cell? ⟨A, δ + o + i, none⟩ = some y ∧ VR m x y := by
  unfold Sh.rdN at hx
  split at hx
  · rename_i cs el pf own old hb
    split at hx
    · rename_i hr
      simp only [Bool.and_eq_true, Nat.ble_eq] at hr
      have := r.obj _ _ _ _ hb hm
      unfold OR at this
      rcases this with h2 | ⟨rcs, rel, fr, h1, h2, _⟩
      · simp [readable, h2] at hr
      · cases hx
        refine ⟨by simp; omega, fun i x hi => ?_⟩
        rw [List.getElem?_take] at hi
        split at hi
        · rw [List.getElem?_drop] at hi
          obtain ⟨y, hy, hv⟩ := h2 _ x hi
          exact ⟨y, by rw [cell?_of h1, Nat.add_assoc]; exact hy, hv⟩
        · cases hi
    · cases hx
  · cases hx

/-! ### killing and writing -/
def killed : SO → SO
  | .cells cs el pf _ old => .cells cs el pf 2 old
  | o => o
theorem kill_get (h : SHeap) (b c : Nat) : (kill h b)[c]? = if b = c then (h[c]?).map killed else h[c]? := by
  unfold kill
  split
  · rename_i cs el pf own old hb
    by_cases e : b = c
    · subst e
      have hlt : b < h.length := (List.getElem?_eq_some_iff.1 hb).1
      simp [hlt, killed] at *
      rw [hb]
    · rw [List.getElem?_set_ne e, if_neg e]
  · rename_i hn
    by_cases e : b = c
    · subst e
      rw [if_pos rfl]
      cases hb : h[b]? with
      | none => rfl
      | some o => cases o with
        | cells cs el pf own old => exact absurd hb (hn cs el pf own old)
        | _ => rfl
    · rw [if_neg e]
theorem kill_len (h : SHeap) (b : Nat) : (kill h b).length = h.length := by
  unfold kill; split <;> simp
theorem killAll_len (h : SHeap) (l : List Nat) : (killAll h l).length = h.length := by
  unfold killAll
  induction l generalizing h with
  | nil => rfl
  | cons a r ih => rw [List.foldl_cons, ih, kill_len]
theorem killed_killed (o : SO) : killed (killed o) = killed o := by cases o <;> rfl
theorem killAll_get (h : SHeap) (l : List Nat) (c : Nat) : (killAll h l)[c]? = if c ∈ l then (h[c]?).map killed else h[c]? := by
  unfold killAll
  induction l generalizing h with
  | nil => simp
  | cons a r ih =>
    rw [List.foldl_cons, ih, kill_get]
    by_cases e : a = c
    · subst e
      by_cases e2 : a ∈ r
      · simp [e2, Function.comp_def, killed_killed]
      · simp [e2]
    · have : (c ∈ a :: r) ↔ c ∈ r := by simp; intro x; exact absurd x.symm e
      by_cases e2 : c ∈ r
      · rw [if_pos e2, if_pos (this.2 e2), if_neg e]
      · rw [if_neg e2, if_neg (fun k => e2 (this.1 k)), if_neg e]
theorem writeAt_len (cs : List Value) (o : Nat) (vs : List Value) : (writeAt cs o vs).length = cs.length := by
  induction vs generalizing cs o with
  | nil => rfl
  | cons v vs ih => rw [writeAt, ih]; simp
theorem writeAt_get (cs : List Value) (o : Nat) (vs : List Value) (hb : o + vs.length ≤ cs.length) (i : Nat) :
    (writeAt cs o vs)[i]? = if o ≤ i ∧ i < o + vs.length then vs[i - o]? else cs[i]? := by
  induction vs generalizing cs o with
  | nil =>
    rw [if_neg (fun k => by simp at k; omega)]; rfl
  | cons v vs ih =>
    simp at hb
    rw [writeAt, ih _ _ (by simp; omega)]
    by_cases e : i = o
    · subst e
      rw [if_neg (by omega), if_pos (by simp)]
      have : i < cs.length := by omega
      simp [this]
    · by_cases e2 : o + 1 ≤ i ∧ i < o + 1 + vs.length
      · rw [if_pos e2, if_pos (by simp; omega)]
        have : i - o = (i - (o + 1)) + 1 := by omega
        rw [this]; simp
      · rw [if_neg e2, if_neg (by simp; omega), List.getElem?_set_ne (by omega)]

/-- the model's stores, one cell behind the other -/
def wsetL (w : World) (A o : Nat) : List Value → World
  | [] => w
  | v :: vs => wsetL (w.setCell ⟨A, o, none⟩ v) A (o + 1) vs
theorem setCell_heap_ne (w : World) (A o k : Nat) (v : Value) (h : k ≠ A) : (w.setCell ⟨A, o, none⟩ v).heap[k]? = w.heap[k]? := Below.heap_setCell w _ v k h
theorem setCell_heap (w : World) (A o : Nat) (v : Value) {rcs rel fr} (h : w.heap[A]? = some (.cells rcs rel fr)) :
    (w.setCell ⟨A, o, none⟩ v).heap[A]? = some (.cells (rcs.setIfInBounds o v) rel fr) := by
  simp [World.setCell, Array.getElem?_modify, h]
theorem setCell_size (w : World) (a : Addr) (v : Value) : (w.setCell a v).heap.size = w.heap.size := by simp [World.setCell]
theorem wsetL_size (w : World) (A o : Nat) (vs : List Value) : (wsetL w A o vs).heap.size = w.heap.size := by
  induction vs generalizing w o with
  | nil => rfl
  | cons v vs ih => rw [wsetL, ih, setCell_size]
theorem wsetL_ne (w : World) (A o k : Nat) (vs : List Value) (h : k ≠ A) : (wsetL w A o vs).heap[k]? = w.heap[k]? := by
  induction vs generalizing w o with
  | nil => rfl
  | cons v vs ih => rw [wsetL, ih, setCell_heap_ne _ _ _ _ _ h]
def writeA (rcs : Array Value) (o : Nat) : List Value → Array Value
  | [] => rcs
  | v :: vs => writeA (rcs.setIfInBounds o v) (o + 1) vs
theorem writeA_size (rcs : Array Value) (o : Nat) (vs : List Value) : (writeA rcs o vs).size = rcs.size := by
  induction vs generalizing rcs o with
  | nil => rfl
  | cons v vs ih => rw [writeA, ih]; simp
theorem writeA_get (rcs : Array Value) (o : Nat) (vs : List Value) (hb : o + vs.length ≤ rcs.size) (i : Nat) :
    (writeA rcs o vs)[i]? = if o ≤ i ∧ i < o + vs.length then vs[i - o]? else rcs[i]? := by
  induction vs generalizing rcs o with
  | nil =>
    rw [if_neg (fun k => by simp at k; omega)]; rfl
  | cons v vs ih =>
    simp at hb
    rw [writeA, ih _ _ (by simp; omega)]
    by_cases e : i = o
    · subst e
      rw [if_neg (by omega), if_pos (by simp)]
      have : i < rcs.size := by omega
      simp [this]
    · by_cases e2 : o + 1 ≤ i ∧ i < o + 1 + vs.length
      · rw [if_pos e2, if_pos (by simp; omega)]
        have : i - o = (i - (o + 1)) + 1 := by omega
        rw [this]; simp
      · rw [if_neg e2, if_neg (by simp; omega), Array.getElem?_setIfInBounds_ne (by omega)]
theorem wsetL_at (w : World) (A o : Nat) (vs : List Value) {rcs rel fr} (h : w.heap[A]? = some (.cells rcs rel fr)) :
    (wsetL w A o vs).heap[A]? = some (.cells (writeA rcs o vs) rel fr) := by
  induction vs generalizing w o rcs with
  | nil => exact h
  | cons v vs ih => rw [wsetL, ih _ _ (setCell_heap w A o v h), writeA]
theorem wsetL_below {E : Nat} {a w : World} (h : Below E a w) {A : Nat} (hA : E ≤ A) (o : Nat) (vs : List Value) : Below E a (wsetL w A o vs) := by
  induction vs generalizing w o with
  | nil => exact h
  | cons v vs ih => exact ih (h.setCell (p := ⟨A, o, none⟩) hA v) _

end Go.Proofs.Ytecncmmkghmojaa.Sh
