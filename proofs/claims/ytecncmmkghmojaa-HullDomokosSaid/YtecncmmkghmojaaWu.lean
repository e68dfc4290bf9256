/- Wrapping points: the ring of corners is a hull. -/
import Derived.Test.YtecncmmkghmojaaWt
set_option linter.all false
namespace Go.Proofs.Ytecncmmkghmojaa.Geo

/-- comes before -/
def before (a b : Pt) : Bool := decide (a.1 < b.1 ∨ (a.1 = b.1 ∧ a.2 < b.2))
def leastStep (f p : Pt) : Pt := if before p f = true then p else f
def least (l : List Pt) (a : Pt) : Pt := l.foldl leastStep a
theorem before_trans {a b c : Pt} (h1 : before b a = false) (h2 : before c b = false) : before c a = false := by
  simp only [before, decide_eq_false_iff_not] at *
  omega
theorem least_spec : ∀ (l : List Pt) (a : Pt), (least l a = a ∨ least l a ∈ l) ∧ before a (least l a) = false ∧ ∀ q ∈ l, before q (least l a) = false
  | [], a => ⟨.inl rfl, by simp [least, before], fun q hq => by simp at hq⟩
  | p :: r, a => by
    obtain ⟨h1, h2, h3⟩ := least_spec r (leastStep a p)
    have e : least (p :: r) a = least r (leastStep a p) := rfl
    rw [e]
    unfold leastStep at h1 h2 h3 ⊢
    by_cases c : before p a = true
    · rw [if_pos c] at h1 h2 h3 ⊢
      have pa : before a p = false := by simp only [before, decide_eq_true_eq, decide_eq_false_iff_not] at *; omega
      refine ⟨.inr (by rcases h1 with z | z <;> simp [z]), before_trans h2 pa, fun q hq => ?_⟩
      rcases List.mem_cons.1 hq with rfl | hq
      · exact h2
      · exact h3 q hq
    · rw [if_neg c] at h1 h2 h3 ⊢
      refine ⟨by rcases h1 with z | z <;> simp [z], h2, fun q hq => ?_⟩
      rcases List.mem_cons.1 hq with rfl | hq
      · exact before_trans h2 (by simpa using c)
      · exact h3 q hq
/-- from the least point all others lie to one side -/
theorem least_hp {l : List Pt} {f : Pt} (h : ∀ q ∈ l, before q f = false) : ∀ q ∈ l, q ≠ f → HP (0, -1) (sub q f) := by
  intro q hq hqf
  have hb := h q hq
  simp only [before, decide_eq_false_iff_not] at hb
  have hne : ¬ (q.1 = f.1 ∧ q.2 = f.2) := fun e => hqf (Prod.ext e.1 e.2)
  simp only [HP, crs, dot, sub]
  omega

/-- corners in a row, each the next one of the one before -/
structure Ring (l : List Pt) (f : Pt) (acc : List Pt) (a : Pt) : Prop where
  head : acc[0]? = some f
  last : acc[acc.length - 1]? = some a
  mem : ∀ q ∈ acc, q ∈ l
  nodup : acc.Nodup
  sup : ∀ (i : Nat) (p q : Pt), acc[i]? = some p → acc[i + 1]? = some q → Sup l p q

theorem ring_one {l : List Pt} {f : Pt} (hf : f ∈ l) : Ring l f [f] f :=
  ⟨rfl, rfl, fun q hq => by simp at hq; rw [hq]; exact hf, by simp, fun i p q h1 h2 => by simp at h2⟩

/-- the way on from the last corner -/
theorem ring_hp {l : List Pt} {f a : Pt} {acc : List Pt} (hl : ∀ q ∈ l, before q f = false) (r : Ring l f acc a) : ∃ d, ∀ q ∈ l, q ≠ a → HP d (sub q a) := by
  have hlast := r.last
  have hpos : 0 < acc.length := (List.getElem?_eq_some_iff.1 r.head).1
  by_cases c : acc.length = 1
  · have hh := r.head
    rw [c] at hlast
    have : f = a := by
      have h0 : acc[0]? = some a := hlast
      rw [hh] at h0; exact Option.some.inj h0
    subst this
    exact ⟨_, least_hp hl⟩
  · obtain ⟨p, hp⟩ : ∃ p, acc[acc.length - 2]? = some p := ⟨_, List.getElem?_eq_getElem (by omega)⟩
    have s := r.sup (acc.length - 2) p a hp (by rw [show acc.length - 2 + 1 = acc.length - 1 by omega]; exact hlast)
    exact ⟨_, sup_hp s (r.mem p (List.mem_of_getElem? hp))⟩

theorem ring_next {l : List Pt} {f a n : Pt} {acc : List Pt} (r : Ring l f acc a) (hs : Sup l a n) (hn : n ≠ f) : Ring l f (acc ++ [n]) n := by
  have hpos : 0 < acc.length := (List.getElem?_eq_some_iff.1 r.head).1
  have hnot : n ∉ acc := by
    intro hin
    obtain ⟨j, hj⟩ := List.getElem?_of_mem hin
    have hjl := (List.getElem?_eq_some_iff.1 hj).1
    cases j with
    | zero => rw [r.head] at hj; exact hn (Option.some.inj hj).symm
    | succ j =>
      obtain ⟨p, hp⟩ : ∃ p, acc[j]? = some p := ⟨_, List.getElem?_eq_getElem (by omega)⟩
      have s := r.sup j p n hp hj
      have e := sup_inj s hs (r.mem p (List.mem_of_getElem? hp)) (r.mem a (List.mem_of_getElem? r.last))
      subst e
      have h1 := (List.getElem?_eq_some_iff.1 hp)
      have h2 := (List.getElem?_eq_some_iff.1 r.last)
      have := (List.getElem_inj r.nodup).1 (h1.2.trans h2.2.symm)
      omega
  refine ⟨?_, ?_, ?_, ?_, ?_⟩
  · rw [List.getElem?_append_left hpos]; exact r.head
  · simp
  · intro q hq
    rcases List.mem_append.1 hq with hq | hq
    · exact r.mem q hq
    · simp at hq; rw [hq]; exact hs.2.1
  · rw [List.nodup_append]
    refine ⟨r.nodup, by simp, fun x hx y hy => ?_⟩
    simp at hy
    subst hy
    intro e
    exact hnot (e ▸ hx)
  · intro i p q hp hq
    by_cases c : i + 1 < acc.length
    · rw [List.getElem?_append_left (by omega)] at hp
      rw [List.getElem?_append_left c] at hq
      exact r.sup i p q hp hq
    · have hil := (List.getElem?_eq_some_iff.1 hq).1
      simp at hil
      have ei : i = acc.length - 1 := by omega
      subst ei
      rw [List.getElem?_append_left (by omega), r.last] at hp
      rw [List.getElem?_append_right (by omega), show acc.length - 1 + 1 - acc.length = 0 by omega] at hq
      simp at hq
      cases hp
      subst hq
      exact hs

theorem nodup_len {l : List Pt} : ∀ {acc : List Pt}, acc.Nodup → (∀ q ∈ acc, q ∈ l) → acc.length ≤ l.length := by
  intro acc
  induction acc generalizing l with
  | nil => intro _ _; simp
  | cons p r ih =>
    intro hn hm
    rw [List.nodup_cons] at hn
    have hp := hm p (by simp)
    have := ih (l := l.erase p) hn.2 (fun q hq => (List.mem_erase_of_ne (show q ≠ p by rintro rfl; exact hn.1 hq)).2 (hm q (by simp [hq])))
    rw [List.length_erase_of_mem hp] at this
    have : 0 < l.length := List.length_pos_of_mem hp
    simp only [List.length_cons]
    omega

/-- each side has all other corners on its left -/
def HullP (o : List Pt) : Prop := ∀ (i k : Nat) (a b c : Pt), o[i]? = some a → o[(i + 1) % o.length]? = some b → o[k]? = some c → k ≠ i → k ≠ (i + 1) % o.length → 0 < turn a b c

theorem ring_closed {l : List Pt} {f a : Pt} {acc : List Pt} (r : Ring l f acc a) (hs : Sup l a f) : HullP acc := by
  have hpos : 0 < acc.length := (List.getElem?_eq_some_iff.1 r.head).1
  have all : ∀ (i : Nat) (p q : Pt), acc[i]? = some p → acc[(i + 1) % acc.length]? = some q → Sup l p q := by
    intro i p q hp hq
    have hil := (List.getElem?_eq_some_iff.1 hp).1
    by_cases c : i + 1 < acc.length
    · rw [Nat.mod_eq_of_lt c] at hq
      exact r.sup i p q hp hq
    · have ei : i + 1 = acc.length := by omega
      rw [ei, Nat.mod_self, r.head] at hq
      have : i = acc.length - 1 := by omega
      rw [this, r.last] at hp
      cases hp; cases hq
      exact hs
  intro i k a' b' c' ha hb hc h1 h2
  have hil := (List.getElem?_eq_some_iff.1 ha).1
  have hkl := (List.getElem?_eq_some_iff.1 hc).1
  have hml : (i + 1) % acc.length < acc.length := Nat.mod_lt _ hpos
  have s := all i a' b' ha hb
  obtain ⟨c2, hc2⟩ : ∃ q, acc[(k + 1) % acc.length]? = some q := ⟨_, List.getElem?_eq_getElem (Nat.mod_lt _ hpos)⟩
  have s2 := all k c' c2 hc hc2
  have inj : ∀ (x y : Nat) (p : Pt), acc[x]? = some p → acc[y]? = some p → x = y := by
    intro x y p hx hy
    exact (List.getElem_inj r.nodup).1 ((List.getElem?_eq_some_iff.1 hx).2.trans (List.getElem?_eq_some_iff.1 hy).2.symm)
  refine sup_strict s s2 (r.mem _ (List.mem_of_getElem? ha)) (r.mem _ (List.mem_of_getElem? hc)) ?_ ?_
  · intro e; subst e; exact h1 (inj _ _ _ hc ha)
  · intro e; subst e; exact h2 (inj _ _ _ hc hb)

/-- the corners, one after the other -/
def wrapGo (l : List Pt) (f : Pt) : Nat → List Pt → Pt → List Pt
  | 0, acc, _ => acc
  | k + 1, acc, a => if scan a l = f ∨ scan a l = a then acc else wrapGo l f k (acc ++ [scan a l]) (scan a l)
def wrap (l : List Pt) : List Pt := let f := least l (l.headD (0, 0)); wrapGo l f l.length [f] f

theorem wrapGo_spec {l : List Pt} {f : Pt} (hl : ∀ q ∈ l, before q f = false) : ∀ (k : Nat) (acc : List Pt) (a : Pt), l.length ≤ acc.length + k → Ring l f acc a → (∃ a', Ring l f (wrapGo l f k acc a) a') ∧ (3 ≤ (wrapGo l f k acc a).length → HullP (wrapGo l f k acc a))
  | 0, acc, a, hk, r => by
    refine ⟨⟨a, r⟩, fun h3 => ?_⟩
    obtain ⟨d, hd⟩ := ring_hp hl r
    rcases scan_sup hd with ⟨h1, h2⟩ | hs
    · exfalso
      have hpos : 1 < acc.length := by show 1 < (wrapGo l f 0 acc a).length; omega
      have e0 := h2 _ (r.mem _ (List.getElem_mem (show 0 < acc.length by omega)))
      have e1 := h2 _ (r.mem _ (List.getElem_mem hpos))
      have := (List.getElem_inj r.nodup).1 (e0.trans e1.symm)
      omega
    · by_cases e : scan a l = f
      · rw [e] at hs; exact ring_closed r hs
      · exfalso
        have r2 := ring_next r hs e
        have := nodup_len r2.nodup r2.mem
        simp at this
        omega
  | k + 1, acc, a, hk, r => by
    unfold wrapGo
    obtain ⟨d, hd⟩ := ring_hp hl r
    by_cases c : scan a l = f ∨ scan a l = a
    · rw [if_pos c]
      refine ⟨⟨a, r⟩, fun h3 => ?_⟩
      rcases scan_sup hd with ⟨h1, h2⟩ | hs
      · exfalso
        have e0 := h2 _ (r.mem _ (List.getElem_mem (show 0 < acc.length by omega)))
        have e1 := h2 _ (r.mem _ (List.getElem_mem (show 1 < acc.length by omega)))
        have := (List.getElem_inj r.nodup).1 (e0.trans e1.symm)
        omega
      · rcases c with c | c
        · rw [c] at hs; exact ring_closed r hs
        · exact (hs.1 c).elim
    · rw [if_neg c]
      have c1 : ¬ scan a l = f := fun x => c (.inl x)
      have c2 : ¬ scan a l = a := fun x => c (.inr x)
      rcases scan_sup hd with ⟨h1, _⟩ | hs
      · exact (c2 h1).elim
      · exact wrapGo_spec hl k _ _ (by simp; omega) (ring_next r hs c1)

theorem wrap_spec {l : List Pt} (hne : l ≠ []) : (∀ q ∈ wrap l, q ∈ l) ∧ (wrap l).length ≤ l.length ∧ 1 ≤ (wrap l).length ∧ (3 ≤ (wrap l).length → HullP (wrap l)) := by
  obtain ⟨p, r, rfl⟩ : ∃ p r, l = p :: r := by cases l with
    | nil => exact (hne rfl).elim
    | cons p r => exact ⟨p, r, rfl⟩
  obtain ⟨h1, h2, h3⟩ := least_spec (p :: r) p
  have hf : least (p :: r) p ∈ p :: r := by
    rcases h1 with z | z
    · rw [z]; simp
    · exact z
  obtain ⟨⟨a', ra⟩, hh⟩ := wrapGo_spec h3 (p :: r).length [least (p :: r) p] (least (p :: r) p) (by simp) (ring_one hf)
  have hpos : 0 < (wrap (p :: r)).length := (List.getElem?_eq_some_iff.1 ra.head).1
  exact ⟨ra.mem, nodup_len ra.nodup ra.mem, hpos, hh⟩
end Go.Proofs.Ytecncmmkghmojaa.Geo

