/- Water that runs over sills, drop by drop: where a drop ends, and that the order of drops does not matter. Plain. -/
import Init
set_option linter.all false
namespace Go.Proofs.Ytioijehbmgmgkaa.Sh
set_option maxRecDepth 100000
set_option maxHeartbeats 4000000
structure BS where
  n : Nat
  ar : Nat → Int
  fl : Nat → Int
  sl : List (Nat × Nat × Int)
structure WS where
  ro : Nat → Nat
  V : Nat → Int
  lost : Int
def outS (ro : Nat → Nat) (g : Nat) (s : Nat × Nat × Int) : Prop := ro s.1 ≠ ro s.2.1 ∧ (ro s.1 = g ∨ ro s.2.1 = g)
instance (ro : Nat → Nat) (g : Nat) (s : Nat × Nat × Int) : Decidable (outS ro g s) := by unfold outS; infer_instance
def IsLip (b : BS) (ro : Nat → Nat) (g : Nat) (s : Nat × Nat × Int) : Prop :=
  s ∈ b.sl ∧ outS ro g s ∧ ∀ s' ∈ b.sl, outS ro g s' → s.2.2 ≤ s'.2.2
def NoLip (b : BS) (ro : Nat → Nat) (g : Nat) : Prop := ∀ s ∈ b.sl, ¬ outS ro g s
def oth (ro : Nat → Nat) (g : Nat) (s : Nat × Nat × Int) : Nat := if ro s.1 = g then s.2.1 else s.1
def sumP (ro : Nat → Nat) (g : Nat) (f : Nat → Int) : Nat → Int
  | 0 => 0
  | n+1 => sumP ro g f n + (if ro n = g then f n else 0)
def rm (b : BS) (ro : Nat → Nat) (g : Nat) (h : Int) : Int := sumP ro g (fun i => b.ar i * (h - b.fl i)) b.n
structure GdB (b : BS) : Prop where
  lt : ∀ s ∈ b.sl, s.1 < s.2.1 ∧ s.2.1 ≤ b.n
  pos : ∀ s ∈ b.sl, 0 ≤ s.2.2
  dist : ∀ s ∈ b.sl, ∀ s' ∈ b.sl, s.2.2 = s'.2.2 → s = s'
  ar1 : ∀ i, i < b.n → 1 ≤ b.ar i
structure GdR (b : BS) (ro : Nat → Nat) : Prop where
  idem : ∀ k, ro (ro k) = ro k
  le : ∀ k, ro k ≤ k
  sea : ∀ k, k ≤ b.n → (ro k = b.n ↔ k = b.n)
structure Gd (b : BS) (w : WS) : Prop extends GdR b w.ro where
  stb : ∀ g s, g < b.n → w.ro g = g → IsLip b w.ro g s → w.V g ≤ rm b w.ro g s.2.2
theorem GdR.lt {b : BS} {ro : Nat → Nat} (G : GdR b ro) {i : Nat} (h : i < b.n) : ro i < b.n := Nat.lt_of_le_of_lt (G.le i) h
theorem lip_unique {b : BS} (B : GdB b) {ro : Nat → Nat} {g : Nat} {s s' : Nat × Nat × Int} (h : IsLip b ro g s) (h' : IsLip b ro g s') : s = s' :=
  B.dist s h.1 s' h'.1 (Int.le_antisymm (h.2.2 s' h'.1 h'.2.1) (h'.2.2 s h.1 h.2.1))
theorem lip_not_no {b : BS} {ro : Nat → Nat} {g : Nat} {s : Nat × Nat × Int} (h : IsLip b ro g s) (h' : NoLip b ro g) : False := h' s h.1 h.2.1
theorem lip_or (b : BS) (ro : Nat → Nat) (g : Nat) : (∃ s, IsLip b ro g s) ∨ NoLip b ro g := by
  have key : ∀ l : List (Nat × Nat × Int), (∃ s, s ∈ l ∧ outS ro g s ∧ ∀ s' ∈ l, outS ro g s' → s.2.2 ≤ s'.2.2) ∨ ∀ s ∈ l, ¬ outS ro g s := by
    intro l
    induction l with
    | nil => exact .inr (fun s h => by cases h)
    | cons a l ih =>
      by_cases ha : outS ro g a
      · left
        rcases ih with ⟨s, hs, ho, hm⟩ | hn
        · by_cases c : a.2.2 ≤ s.2.2
          · refine ⟨a, List.mem_cons_self .., ha, ?_⟩
            intro s' hs' ho'
            rcases List.mem_cons.1 hs' with rfl | hs'
            · exact Int.le_refl _
            · exact Int.le_trans c (hm s' hs' ho')
          · refine ⟨s, List.mem_cons_of_mem _ hs, ho, ?_⟩
            intro s' hs' ho'
            rcases List.mem_cons.1 hs' with rfl | hs'
            · omega
            · exact hm s' hs' ho'
        · refine ⟨a, List.mem_cons_self .., ha, ?_⟩
          intro s' hs' ho'
          rcases List.mem_cons.1 hs' with rfl | hs'
          · exact Int.le_refl _
          · exact (hn s' hs' ho').elim
      · rcases ih with ⟨s, hs, ho, hm⟩ | hn
        · left
          refine ⟨s, List.mem_cons_of_mem _ hs, ho, ?_⟩
          intro s' hs' ho'
          rcases List.mem_cons.1 hs' with rfl | hs'
          · exact (ha ho').elim
          · exact hm s' hs' ho'
        · right
          intro s' hs'
          rcases List.mem_cons.1 hs' with rfl | hs'
          · exact ha
          · exact hn s' hs'
  rcases key b.sl with h | h
  · obtain ⟨s, h⟩ := h
    exact .inl ⟨s, h⟩
  · exact .inr h
theorem oth_ro {ro : Nat → Nat} {g : Nat} {s : Nat × Nat × Int} (h : outS ro g s) : ro (oth ro g s) ≠ g ∧ outS ro (ro (oth ro g s)) s ∧ (oth ro g s = s.1 ∨ oth ro g s = s.2.1) := by
  obtain ⟨hn, ho⟩ := h
  unfold oth outS
  split
  · rename_i c
    exact ⟨fun e => hn (by rw [c, e]), ⟨hn, .inr rfl⟩, .inr rfl⟩
  · rename_i c
    rcases ho with ho | ho
    · exact (c ho).elim
    · exact ⟨fun e => c e, ⟨hn, .inl rfl⟩, .inl rfl⟩
theorem oth_le {b : BS} (B : GdB b) {ro : Nat → Nat} {g : Nat} {s : Nat × Nat × Int} (h : IsLip b ro g s) : oth ro g s ≤ b.n := by
  have hb := B.lt s h.1
  rcases (oth_ro h.2.1).2.2 with e | e <;> omega
theorem oth_oth {ro : Nat → Nat} {g : Nat} {s : Nat × Nat × Int} (h : outS ro g s) : ro (oth ro (ro (oth ro g s)) s) = g := by
  obtain ⟨hn, ho⟩ := h
  unfold oth
  by_cases c : ro s.1 = g
  · rw [if_pos c]
    rw [if_neg hn]
    exact c
  · rw [if_neg c, if_pos rfl]
    rcases ho with ho | ho
    · exact (c ho).elim
    · exact ho
inductive Stop
  | stay (g : Nat)
  | sea
  | join (p q : Nat)
def Mut (b : BS) (w : WS) (t : Nat) (s : Nat × Nat × Int) : Prop := t ≠ b.n ∧ IsLip b w.ro t s ∧ w.V t = rm b w.ro t s.2.2
inductive End (b : BS) (w : WS) : Nat → Stop → Prop
  | sea : End b w b.n .sea
  | free {i : Nat} : i < b.n → NoLip b w.ro (w.ro i) → End b w i (.stay (w.ro i))
  | stay {i : Nat} {s} : i < b.n → IsLip b w.ro (w.ro i) s → w.V (w.ro i) < rm b w.ro (w.ro i) s.2.2 → End b w i (.stay (w.ro i))
  | over {i : Nat} {s e} : i < b.n → IsLip b w.ro (w.ro i) s → w.V (w.ro i) = rm b w.ro (w.ro i) s.2.2 → ¬ Mut b w (w.ro (oth w.ro (w.ro i) s)) s → End b w (oth w.ro (w.ro i) s) e → End b w i e
  | join {i : Nat} {s} : i < b.n → IsLip b w.ro (w.ro i) s → w.V (w.ro i) = rm b w.ro (w.ro i) s.2.2 → Mut b w (w.ro (oth w.ro (w.ro i) s)) s →
      End b w i (.join (min (w.ro i) (w.ro (oth w.ro (w.ro i) s))) (max (w.ro i) (w.ro (oth w.ro (w.ro i) s))))
theorem End.det {b : BS} (B : GdB b) {w : WS} {i : Nat} {e e' : Stop} (h : End b w i e) : End b w i e' → e = e' := by
  induction h with
  | sea =>
    intro h'
    cases h' with
    | sea => rfl
    | free h _ => omega
    | stay h _ _ => omega
    | over h _ _ _ _ => omega
    | join h _ _ _ => omega
  | free h hn =>
    intro h'
    cases h' with
    | sea => omega
    | free _ _ => rfl
    | stay _ _ _ => rfl
    | over _ hl _ _ _ => exact (lip_not_no hl hn).elim
    | join _ hl _ _ => exact (lip_not_no hl hn).elim
  | stay h hl hv =>
    intro h'
    cases h' with
    | sea => omega
    | free _ _ => rfl
    | stay _ _ _ => rfl
    | over _ hl' hv' _ _ => have := lip_unique B hl hl'; subst this; omega
    | join _ hl' hv' _ => have := lip_unique B hl hl'; subst this; omega
  | over h hl hv hm _ ih =>
    intro h'
    cases h' with
    | sea => omega
    | free _ hn => exact (lip_not_no hl hn).elim
    | stay _ hl' hv' => have := lip_unique B hl hl'; subst this; omega
    | over _ hl' _ _ h2 => have := lip_unique B hl hl'; subst this; exact ih h2
    | join _ hl' _ hm' => have := lip_unique B hl hl'; subst this; exact (hm hm').elim
  | join h hl hv hm =>
    intro h'
    cases h' with
    | sea => omega
    | free _ hn => exact (lip_not_no hl hn).elim
    | stay _ hl' hv' => have := lip_unique B hl hl'; subst this; omega
    | over _ hl' _ hm' _ => have := lip_unique B hl hl'; subst this; exact (hm' hm).elim
    | join _ hl' _ _ => have := lip_unique B hl hl'; subst this; rfl
theorem End.pool {b : BS} {w : WS} {i j : Nat} {e : Stop} (hi : i < b.n) (hj : j < b.n) (r : w.ro i = w.ro j) (h : End b w i e) : End b w j e := by
  cases h with
  | sea => omega
  | free h hn => rw [r] at hn ⊢; exact .free hj hn
  | stay h hl hv => rw [r] at hl hv ⊢; exact .stay hj hl hv
  | over h hl hv hm h2 => rw [r] at hl hv hm h2; exact .over hj hl hv hm h2
  | join h hl hv hm => rw [r] at hl hv hm ⊢; exact .join hj hl hv hm
theorem End.via {b : BS} (B : GdB b) {w : WS} (G : GdR b w.ro) {i : Nat} {s e} (hi : i < b.n) (hl : IsLip b w.ro (w.ro i) s) (hv : w.V (w.ro i) = rm b w.ro (w.ro i) s.2.2)
    (h : End b w (oth w.ro (w.ro i) s) e) : End b w i e := by
  by_cases hm : Mut b w (w.ro (oth w.ro (w.ro i) s)) s
  · have ho := oth_le B hl
    have hlt : oth w.ro (w.ro i) s < b.n := by
      rcases Nat.lt_or_eq_of_le ho with h | h
      · exact h
      · exact (hm.1 ((G.sea _ ho).2 h)).elim
    have hoo := oth_oth hl.2.1
    have k : End b w (oth w.ro (w.ro i) s) _ := .join hlt hm.2.1 hm.2.2 (by rw [hoo]; exact ⟨fun e => by have := G.lt hi; omega, hl, hv⟩)
    have := End.det B h k
    subst this
    rw [hoo, Nat.min_comm, Nat.max_comm]
    exact .join hi hl hv hm
  · exact .over hi hl hv hm h
theorem End.ex {b : BS} (B : GdB b) {w : WS} (G : Gd b w) {i : Nat} (hi : i ≤ b.n) : ∃ e, End b w i e := by
  have key : ∀ (k : Nat) (i : Nat), i < b.n → (∀ s, IsLip b w.ro (w.ro i) s → s.2.2 < (k : Int)) → ∃ e, End b w i e := by
    intro k
    induction k with
    | zero =>
      intro i hi hk
      rcases lip_or b w.ro (w.ro i) with ⟨s, hs⟩ | hn
      · have := hk s hs
        have := B.pos s hs.1
        omega
      · exact ⟨_, .free hi hn⟩
    | succ k ih =>
      intro i hi hk
      rcases lip_or b w.ro (w.ro i) with ⟨s, hs⟩ | hn
      · have hst := G.stb (w.ro i) s (G.lt hi) (G.idem i) hs
        by_cases hv : w.V (w.ro i) < rm b w.ro (w.ro i) s.2.2
        · exact ⟨_, .stay hi hs hv⟩
        · have hv : w.V (w.ro i) = rm b w.ro (w.ro i) s.2.2 := by omega
          have ho := oth_le B hs
          have hor := oth_ro hs.2.1
          generalize ht : oth w.ro (w.ro i) s = t at *
          rcases Nat.lt_or_eq_of_le ho with hlt | heq
          · by_cases hm : Mut b w (w.ro t) s
            · exact ⟨_, .join hi hs hv (by rw [ht]; exact hm)⟩
            · have hex : ∃ e, End b w t e := by
                rcases lip_or b w.ro (w.ro t) with ⟨s2, hs2⟩ | hn2
                · have hle := hs2.2.2 s hs.1 hor.2.1
                  by_cases c : s2.2.2 = s.2.2
                  · have e2 := B.dist s2 hs2.1 s hs.1 c
                    subst e2
                    have hst2 := G.stb (w.ro t) s2 (G.lt hlt) (G.idem t) hs2
                    refine ⟨_, .stay hlt hs2 ?_⟩
                    by_cases c3 : w.V (w.ro t) = rm b w.ro (w.ro t) s2.2.2
                    · refine (hm ⟨?_, hs2, c3⟩).elim
                      have := G.lt hlt
                      omega
                    · omega
                  · refine ih t hlt ?_
                    intro s3 hs3
                    have e3 := lip_unique B hs2 hs3
                    subst e3
                    have := hk s hs
                    omega
                · exact ⟨_, .free hlt hn2⟩
              obtain ⟨e, he⟩ := hex
              exact ⟨e, .over hi hs hv (by rw [ht]; exact hm) (by rw [ht]; exact he)⟩
          · exact ⟨.sea, End.via B G.toGdR hi hs hv (by rw [ht, heq]; exact .sea)⟩
      · exact ⟨_, .free hi hn⟩
  rcases Nat.lt_or_eq_of_le hi with h | h
  · rcases lip_or b w.ro (w.ro i) with ⟨s, hs⟩ | hn
    · refine key (s.2.2.toNat + 1) i h ?_
      intro s2 hs2
      have e2 := lip_unique B hs hs2
      subst e2
      have := B.pos s hs.1
      omega
    · exact ⟨_, .free h hn⟩
  · subst h
    exact ⟨_, .sea⟩
end Go.Proofs.Ytioijehbmgmgkaa.Sh

namespace Go.Proofs.Ytioijehbmgmgkaa.Sh
set_option maxRecDepth 100000
set_option maxHeartbeats 4000000
def upV (f : Nat → Int) (k : Nat) (v : Int) : Nat → Int := fun x => if x = k then v else f x
def jr (ro : Nat → Nat) (p q : Nat) : Nat → Nat := fun k => if ro k = q then p else ro k
def app (w : WS) : Stop → WS
  | .stay g => ⟨w.ro, upV w.V g (w.V g + 1), w.lost⟩
  | .sea => ⟨w.ro, w.V, w.lost + 1⟩
  | .join p q => ⟨jr w.ro p q, upV w.V p (w.V p + w.V q + 1), w.lost⟩
theorem sumP_congr {ro ro' : Nat → Nat} {g g' : Nat} {f f' : Nat → Int} : ∀ {n : Nat}, (∀ i, i < n → (ro' i = g' ↔ ro i = g)) → (∀ i, i < n → f' i = f i) → sumP ro' g' f' n = sumP ro g f n
  | 0, _, _ => rfl
  | n+1, h, hf => by
    have ih := sumP_congr (n := n) (fun i hi => h i (by omega)) (fun i hi => hf i (by omega))
    unfold sumP
    rw [ih, hf n (by omega)]
    by_cases c : ro n = g
    · rw [if_pos c, if_pos ((h n (by omega)).2 c)]
    · rw [if_neg c, if_neg (fun k => c ((h n (by omega)).1 k))]
theorem sumP_join (ro : Nat → Nat) {p q : Nat} (hpq : p ≠ q) (f : Nat → Int) : ∀ n, sumP (jr ro p q) p f n = sumP ro p f n + sumP ro q f n
  | 0 => rfl
  | n+1 => by
    have ih := sumP_join ro hpq f n
    unfold sumP
    rw [ih]
    unfold jr
    by_cases c : ro n = q
    · rw [if_pos c, if_pos rfl, if_neg (by omega), if_pos c]; omega
    · rw [if_neg c, if_neg c]; omega
theorem sumP_le {ro : Nat → Nat} {g : Nat} {f f' : Nat → Int} : ∀ {n : Nat}, (∀ i, i < n → ro i = g → f i ≤ f' i) → sumP ro g f n ≤ sumP ro g f' n
  | 0, _ => Int.le_refl _
  | n+1, h => by
    have ih := sumP_le (n := n) (fun i hi => h i (by omega))
    unfold sumP
    split
    · rename_i c
      have := h n (by omega) c
      omega
    · omega
theorem sumP_lt {ro : Nat → Nat} {g : Nat} {f f' : Nat → Int} {k : Nat} : ∀ {n : Nat}, (∀ i, i < n → ro i = g → f i ≤ f' i) → k < n → ro k = g → f k < f' k → sumP ro g f n < sumP ro g f' n
  | 0, _, hk, _, _ => by omega
  | n+1, h, hk, hg, hf => by
    unfold sumP
    by_cases c : k = n
    · subst c
      have := sumP_le (n := k) (ro := ro) (g := g) (f := f) (f' := f') (fun i hi => h i (by omega))
      rw [if_pos hg, if_pos hg]
      omega
    · have ih := sumP_lt (n := n) (fun i hi => h i (by omega)) (by omega) hg hf
      split
      · rename_i c2
        have := h n (by omega) c2
        omega
      · omega
theorem rm_lt {b : BS} (B : GdB b) {ro : Nat → Nat} {g : Nat} {h h' : Int} (hg : g < b.n) (hr : ro g = g) (hh : h < h') : rm b ro g h < rm b ro g h' := by
  unfold rm
  refine sumP_lt (k := g) ?_ hg hr ?_
  · intro i hi _
    have := B.ar1 i hi
    exact Int.mul_le_mul_of_nonneg_left (by omega) (by omega)
  · have := B.ar1 g hg
    exact Int.mul_lt_mul_of_pos_left (by omega) (by omega)
theorem rm_congr {b : BS} {ro ro' : Nat → Nat} {g : Nat} {h : Int} (c : ∀ k, ro' k = g ↔ ro k = g) : rm b ro' g h = rm b ro g h := sumP_congr (fun i _ => c i) (fun _ _ => rfl)
theorem rm_join {b : BS} {ro : Nat → Nat} {p q : Nat} {h : Int} (hpq : p ≠ q) : rm b (jr ro p q) p h = rm b ro p h + rm b ro q h := sumP_join ro hpq _ _
theorem outS_congr {ro ro' : Nat → Nat} {g : Nat} (c : ∀ k, ro' k = g ↔ ro k = g) (s : Nat × Nat × Int) : outS ro' g s ↔ outS ro g s := by
  have c1 := c s.1
  have c2 := c s.2.1
  unfold outS
  constructor
  · rintro ⟨h1, h2 | h2⟩
    · have := c1.1 h2
      exact ⟨fun e => h1 (by rw [h2]; exact (c2.2 (by rw [← e]; exact this)).symm), .inl this⟩
    · have := c2.1 h2
      exact ⟨fun e => h1 (by rw [h2]; exact c1.2 (by rw [e]; exact this)), .inr this⟩
  · rintro ⟨h1, h2 | h2⟩
    · have := c1.2 h2
      exact ⟨fun e => h1 (by rw [h2]; exact (c2.1 (by rw [← e]; exact this)).symm), .inl this⟩
    · have := c2.2 h2
      exact ⟨fun e => h1 (by rw [h2]; exact c1.1 (by rw [e]; exact this)), .inr this⟩
theorem lip_congr {b : BS} {ro ro' : Nat → Nat} {g : Nat} (c : ∀ k, ro' k = g ↔ ro k = g) {s : Nat × Nat × Int} (h : IsLip b ro g s) : IsLip b ro' g s :=
  ⟨h.1, (outS_congr c s).2 h.2.1, fun s' h1 h2 => h.2.2 s' h1 ((outS_congr c s').1 h2)⟩
theorem nolip_congr {b : BS} {ro ro' : Nat → Nat} {g : Nat} (c : ∀ k, ro' k = g ↔ ro k = g) (h : NoLip b ro g) : NoLip b ro' g := fun s h1 h2 => h s h1 ((outS_congr c s).1 h2)
theorem oth_congr {ro ro' : Nat → Nat} {g : Nat} (c : ∀ k, ro' k = g ↔ ro k = g) (s : Nat × Nat × Int) : oth ro' g s = oth ro g s := by
  unfold oth
  by_cases h : ro s.1 = g
  · rw [if_pos h, if_pos ((c _).2 h)]
  · rw [if_neg h, if_neg (fun k => h ((c _).1 k))]
structure Same (w w' : WS) (g : Nat) : Prop where
  ro : ∀ k, w'.ro k = g ↔ w.ro k = g
  V : w'.V g = w.V g
structure JF (b : BS) (w : WS) (p q : Nat) (s : Nat × Nat × Int) : Prop where
  lt : p < q
  q_lt : q < b.n
  rp : w.ro p = p
  rq : w.ro q = q
  lp : IsLip b w.ro p s
  lq : IsLip b w.ro q s
  vp : w.V p = rm b w.ro p s.2.2
  vq : w.V q = rm b w.ro q s.2.2
theorem JF.ends {b : BS} {w : WS} {p q : Nat} {s : Nat × Nat × Int} (J : JF b w p q s) : (w.ro s.1 = p ∧ w.ro s.2.1 = q) ∨ (w.ro s.1 = q ∧ w.ro s.2.1 = p) := by
  have h1 := J.lp.2.1
  have h2 := J.lq.2.1
  have := J.lt
  unfold outS at h1 h2
  omega
theorem JF.op {b : BS} {w : WS} {p q : Nat} {s : Nat × Nat × Int} (J : JF b w p q s) : w.ro (oth w.ro p s) = q ∧ w.ro (oth w.ro q s) = p := by
  have := J.lt
  unfold oth
  rcases J.ends with ⟨h1, h2⟩ | ⟨h1, h2⟩
  · rw [if_pos h1, if_neg (by omega)]; exact ⟨h2, h1⟩
  · rw [if_neg (by omega), if_pos h1]; exact ⟨h1, h2⟩
theorem JF.mutq {b : BS} {w : WS} {p q : Nat} {s : Nat × Nat × Int} (J : JF b w p q s) : Mut b w q s := ⟨Nat.ne_of_lt J.q_lt, J.lq, J.vq⟩
theorem JF.mutp {b : BS} {w : WS} {p q : Nat} {s : Nat × Nat × Int} (J : JF b w p q s) : Mut b w p s := ⟨Nat.ne_of_lt (Nat.lt_trans J.lt J.q_lt), J.lp, J.vp⟩
def StopOK (b : BS) (w : WS) : Stop → Prop
  | .stay g => g < b.n ∧ w.ro g = g ∧ (NoLip b w.ro g ∨ ∃ s, IsLip b w.ro g s ∧ w.V g < rm b w.ro g s.2.2)
  | .sea => True
  | .join p q => ∃ s, JF b w p q s
theorem mut_jf {b : BS} (B : GdB b) {w : WS} (G : GdR b w.ro) {i : Nat} {s : Nat × Nat × Int} (h : i < b.n) (hl : IsLip b w.ro (w.ro i) s) (hv : w.V (w.ro i) = rm b w.ro (w.ro i) s.2.2)
    (hm : Mut b w (w.ro (oth w.ro (w.ro i) s)) s) : JF b w (min (w.ro i) (w.ro (oth w.ro (w.ro i) s))) (max (w.ro i) (w.ro (oth w.ro (w.ro i) s))) s := by
  have ho := oth_le B hl
  have hor := (oth_ro hl.2.1).1
  have hid := G.idem (oth w.ro (w.ro i) s)
  have hlt : w.ro (oth w.ro (w.ro i) s) < b.n := by
    have := G.le (oth w.ro (w.ro i) s)
    have := hm.1
    omega
  have hi := G.lt h
  have hii := G.idem i
  obtain ⟨_, m2, m3⟩ := hm
  generalize w.ro (oth w.ro (w.ro i) s) = t at *
  generalize w.ro i = g at *
  rcases Nat.lt_or_ge g t with c | c
  · rw [Nat.min_eq_left (Nat.le_of_lt c), Nat.max_eq_right (Nat.le_of_lt c)]
    exact ⟨c, hlt, hii, hid, hl, m2, hv, m3⟩
  · rw [Nat.min_eq_right c, Nat.max_eq_left c]
    exact ⟨by omega, hi, hid, hii, m2, hl, m3, hv⟩
theorem End.ok {b : BS} (B : GdB b) {w : WS} (G : GdR b w.ro) {i : Nat} {e : Stop} (h : End b w i e) : StopOK b w e := by
  induction h with
  | sea => trivial
  | free h hn => exact ⟨G.lt h, G.idem _, .inl hn⟩
  | stay h hl hv => exact ⟨G.lt h, G.idem _, .inr ⟨_, hl, hv⟩⟩
  | over _ _ _ _ _ ih => exact ih
  | join h hl hv hm => exact ⟨_, mut_jf B G h hl hv hm⟩
def affected : Stop → Nat → Prop
  | .stay g, x => x = g
  | .sea, _ => False
  | .join p q, x => x = p ∨ x = q
theorem wsame_of {w : WS} {e : Stop} {g : Nat} (h : ¬ affected e g) : Same w (app w e) g := by
  cases e with
  | stay k => exact ⟨fun _ => Iff.rfl, by show upV w.V k _ g = _; unfold upV; exact if_neg h⟩
  | sea => exact ⟨fun _ => Iff.rfl, rfl⟩
  | join p q =>
    have h1 : g ≠ p := fun e => h (.inl e)
    have h2 : g ≠ q := fun e => h (.inr e)
    refine ⟨fun k => ?_, by show upV w.V p _ g = _; unfold upV; exact if_neg h1⟩
    show jr w.ro p q k = g ↔ _
    unfold jr
    split <;> omega
theorem jr_gd {b : BS} {ro : Nat → Nat} (G : GdR b ro) {p q : Nat} (h1 : p < q) (h2 : q < b.n) (hp : ro p = p) (hq : ro q = q) : GdR b (jr ro p q) := by
  refine ⟨fun k => ?_, fun k => ?_, fun k hk => ?_⟩
  · have := G.idem k
    unfold jr
    by_cases c : ro k = q
    · rw [if_pos c, hp, if_neg (by omega)]
    · rw [if_neg c, this, if_neg c]
  · have := G.le k
    unfold jr
    split <;> omega
  · have := G.sea k hk
    unfold jr
    split <;> omega
theorem app_ro {b : BS} {w : WS} (G : GdR b w.ro) {e : Stop} (K : StopOK b w e) : GdR b (app w e).ro := by
  cases e with
  | stay k => exact G
  | sea => exact G
  | join p q => obtain ⟨s, J⟩ := K; exact jr_gd G J.lt J.q_lt J.rp J.rq
theorem jr_out {ro : Nat → Nat} {p q : Nat} {s : Nat × Nat × Int} (h : outS (jr ro p q) p s) : (outS ro p s ∨ outS ro q s) ∧ ¬ ((ro s.1 = p ∨ ro s.1 = q) ∧ (ro s.2.1 = p ∨ ro s.2.1 = q)) := by
  have k : ∀ x, (ro x = q ∧ jr ro p q x = p) ∨ (ro x ≠ q ∧ jr ro p q x = ro x) := by
    intro x
    unfold jr
    by_cases c : ro x = q
    · exact .inl ⟨c, if_pos c⟩
    · exact .inr ⟨c, if_neg c⟩
  have k1 := k s.1
  have k2 := k s.2.1
  unfold outS at *
  omega
theorem join_lip {b : BS} (B : GdB b) {w : WS} {p q : Nat} {s s' : Nat × Nat × Int} (J : JF b w p q s) (h : IsLip b (jr w.ro p q) p s') : s.2.2 < s'.2.2 := by
  obtain ⟨h1, h2⟩ := jr_out h.2.1
  have hle : s.2.2 ≤ s'.2.2 := by
    rcases h1 with h1 | h1
    · exact J.lp.2.2 s' h.1 h1
    · exact J.lq.2.2 s' h.1 h1
  by_cases c : s.2.2 = s'.2.2
  · have := B.dist s J.lp.1 s' h.1 c
    subst this
    refine (h2 ?_).elim
    rcases J.ends with ⟨e1, e2⟩ | ⟨e1, e2⟩
    · exact ⟨.inl e1, .inr e2⟩
    · exact ⟨.inr e1, .inl e2⟩
  · omega
theorem join_room {b : BS} (B : GdB b) {w : WS} {p q : Nat} {s s' : Nat × Nat × Int} (J : JF b w p q s) (h : IsLip b (jr w.ro p q) p s') : w.V p + w.V q < rm b (jr w.ro p q) p s'.2.2 := by
  have hl := join_lip B J h
  have h1 := J.lt
  have h2 := rm_lt B (Nat.lt_trans h1 J.q_lt) J.rp hl
  have h3 := rm_lt B J.q_lt J.rq hl
  rw [rm_join (by omega), J.vp, J.vq]
  omega
theorem app_gd {b : BS} (B : GdB b) {w : WS} (G : Gd b w) {e : Stop} (K : StopOK b w e) : Gd b (app w e) := by
  refine ⟨app_ro G.toGdR K, ?_⟩
  intro g s hg hr hl
  by_cases ha : affected e g
  · cases e with
    | stay k =>
      cases ha
      obtain ⟨k1, k2, k3⟩ := K
      show upV w.V g _ g ≤ rm b w.ro g _
      unfold upV
      rw [if_pos rfl]
      have hl : IsLip b w.ro g s := hl
      rcases k3 with k3 | ⟨s2, k3, k4⟩
      · exact (lip_not_no hl k3).elim
      · have := lip_unique B hl k3
        subst this
        omega
    | sea => exact ha.elim
    | join p q =>
      obtain ⟨s0, J⟩ := K
      have := J.lt
      have hp : g = p := by
        rcases ha with ha | ha
        · exact ha
        · subst ha
          have hr : jr w.ro p g g = g := hr
          unfold jr at hr
          rw [if_pos J.rq] at hr
          omega
      subst hp
      have := join_room B J hl
      show upV w.V g _ g ≤ rm b (jr w.ro g q) g _
      unfold upV
      rw [if_pos rfl]
      omega
  · have S := wsame_of (w := w) ha
    rw [S.V, rm_congr S.ro]
    refine G.stb g s hg ((S.ro g).1 hr) (lip_congr (fun k => (S.ro k).symm) hl)
theorem End.indep {b : BS} (B : GdB b) {w : WS} (G : Gd b w) {e : Stop} (K : StopOK b w e) {j : Nat} {e' : Stop} (h : End b w j e') (ne : e ≠ e') : End b (app w e) j e' := by
  have notaff : ∀ {j : Nat} {s : Nat × Nat × Int}, IsLip b w.ro (w.ro j) s → w.V (w.ro j) = rm b w.ro (w.ro j) s.2.2 → affected e (w.ro j) → ∃ p q, e = .join p q ∧ JF b w p q s ∧ (w.ro j = p ∨ w.ro j = q) := by
    intro j s hl hv ha
    cases e with
    | stay k =>
      have ha : w.ro j = k := ha
      subst ha
      rcases K.2.2 with k3 | ⟨s2, k3, k4⟩
      · exact (lip_not_no hl k3).elim
      · have := lip_unique B hl k3
        subst this
        omega
    | sea => exact ha.elim
    | join p q =>
      obtain ⟨s0, J⟩ := K
      refine ⟨p, q, rfl, ?_, ha⟩
      have : s = s0 := by
        rcases ha with ha | ha
        · rw [ha] at hl; exact lip_unique B hl J.lp
        · rw [ha] at hl; exact lip_unique B hl J.lq
      subst this
      exact J
  induction h with
  | sea => exact .sea
  | @free j h hn =>
    have ha : ¬ affected e (w.ro j) := by
      intro ha
      cases e with
      | stay k => exact ne (by rw [show w.ro j = k from ha])
      | sea => exact ha
      | join p q =>
        obtain ⟨s0, J⟩ := K
        rcases ha with ha | ha
        · rw [ha] at hn; exact lip_not_no J.lp hn
        · rw [ha] at hn; exact lip_not_no J.lq hn
    have S := wsame_of (w := w) ha
    have hr := (S.ro j).2 rfl
    have := End.free (w := app w e) h (by rw [hr]; exact nolip_congr S.ro hn)
    rw [hr] at this
    exact this
  | @stay j s h hl hv =>
    have ha : ¬ affected e (w.ro j) := by
      intro ha
      cases e with
      | stay k => exact ne (by rw [show w.ro j = k from ha])
      | sea => exact ha
      | join p q =>
        obtain ⟨s0, J⟩ := K
        rcases ha with ha | ha
        · rw [ha] at hl hv; have := lip_unique B hl J.lp; subst this; have := J.vp; omega
        · rw [ha] at hl hv; have := lip_unique B hl J.lq; subst this; have := J.vq; omega
    have S := wsame_of (w := w) ha
    have hr := (S.ro j).2 rfl
    have := End.stay (w := app w e) (s := s) h (by rw [hr]; exact lip_congr S.ro hl) (by rw [hr, S.V, rm_congr S.ro]; exact hv)
    rw [hr] at this
    exact this
  | @over j s e' h hl hv hm h2 ih =>
    have ha : ¬ affected e (w.ro j) := by
      intro ha
      obtain ⟨p, q, he, J, hj⟩ := notaff hl hv ha
      rcases hj with hj | hj
      · rw [hj, J.op.1] at hm; exact hm J.mutq
      · rw [hj, J.op.2] at hm; exact hm J.mutp
    have S := wsame_of (w := w) ha
    have hr := (S.ro j).2 rfl
    refine End.via B (app_ro G.toGdR K) (s := s) h (by rw [hr]; exact lip_congr S.ro hl) (by rw [hr, S.V, rm_congr S.ro]; exact hv) ?_
    rw [hr, oth_congr S.ro]
    exact ih ne
  | @join j s h hl hv hm =>
    have J1 := mut_jf B G.toGdR h hl hv hm
    have hoo := oth_oth hl.2.1
    have hal : ∀ {x : Nat}, affected e x → (x = w.ro j ∨ x = w.ro (oth w.ro (w.ro j) s)) → False := by
      intro x ha hx
      have hx2 : ∃ p q, e = .join p q ∧ JF b w p q s ∧ (x = p ∨ x = q) := by
        rcases hx with hx | hx
        · subst hx; exact notaff hl hv ha
        · subst hx; exact notaff hm.2.1 hm.2.2 ha
      obtain ⟨p, q, he, J, hj⟩ := hx2
      refine ne ?_
      rw [he]
      have c1 := J.ends
      have c2 := J1.ends
      have := J.lt
      have := J1.lt
      rcases c1 with ⟨a1, a2⟩ | ⟨a1, a2⟩ <;> rcases c2 with ⟨b1, b2⟩ | ⟨b1, b2⟩ <;> rw [a1] at b1 <;> rw [a2] at b2 <;> first | omega | (rw [← b1, ← b2])
    have ha1 : ¬ affected e (w.ro j) := fun ha => hal ha (.inl rfl)
    have ha2 : ¬ affected e (w.ro (oth w.ro (w.ro j) s)) := fun ha => hal ha (.inr rfl)
    have S := wsame_of (w := w) ha1
    have S2 := wsame_of (w := w) ha2
    have hr := (S.ro j).2 rfl
    have hr2 := (S2.ro (oth w.ro (w.ro j) s)).2 rfl
    have := End.join (w := app w e) (s := s) h (by rw [hr]; exact lip_congr S.ro hl) (by rw [hr, S.V, rm_congr S.ro]; exact hv)
      (by rw [hr, oth_congr S.ro, hr2]; exact ⟨hm.1, lip_congr S2.ro hm.2.1, by rw [S2.V, rm_congr S2.ro]; exact hm.2.2⟩)
    rw [hr, oth_congr S.ro, hr2] at this
    exact this
def rep (b : BS) : Stop → Nat
  | .stay g => g
  | .sea => b.n
  | .join p _ => p
theorem End.again {b : BS} (B : GdB b) {w : WS} (G : Gd b w) {e e2 : Stop} (K : StopOK b w e) {j : Nat} (h : End b w j e) (h2 : End b (app w e) (rep b e) e2) : End b (app w e) j e2 := by
  have G' := app_ro G.toGdR K
  induction h with
  | sea => exact h2
  | @free j h hn => exact End.pool (w := app w (.stay (w.ro j))) (G.lt h) h (G.idem j) h2
  | @stay j s h hl hv => exact End.pool (w := app w (.stay (w.ro j))) (G.lt h) h (G.idem j) h2
  | @over j s e h hl hv hm h3 ih =>
    have ha : ¬ affected e (w.ro j) := by
      intro ha
      cases e with
      | stay k =>
        have ha : w.ro j = k := ha
        subst ha
        rcases K.2.2 with k3 | ⟨s2, k3, k4⟩
        · exact (lip_not_no hl k3).elim
        · have := lip_unique B hl k3
          subst this
          omega
      | sea => exact ha
      | join p q =>
        obtain ⟨s0, J⟩ := K
        rcases ha with ha | ha
        · have : s = s0 := by rw [ha] at hl; exact lip_unique B hl J.lp
          subst this
          rw [ha, J.op.1] at hm
          exact hm J.mutq
        · have : s = s0 := by rw [ha] at hl; exact lip_unique B hl J.lq
          subst this
          rw [ha, J.op.2] at hm
          exact hm J.mutp
    have S := wsame_of (w := w) ha
    have hr := (S.ro j).2 rfl
    refine End.via B G' (s := s) h (by rw [hr]; exact lip_congr S.ro hl) (by rw [hr, S.V, rm_congr S.ro]; exact hv) ?_
    rw [hr, oth_congr S.ro]
    exact ih K h2 G'
  | @join j s h hl hv hm =>
    have J := mut_jf B G.toGdR h hl hv hm
    have hj : w.ro j = min (w.ro j) (w.ro (oth w.ro (w.ro j) s)) ∨ w.ro j = max (w.ro j) (w.ro (oth w.ro (w.ro j) s)) := by omega
    generalize hp : min (w.ro j) (w.ro (oth w.ro (w.ro j) s)) = p at *
    generalize hq : max (w.ro j) (w.ro (oth w.ro (w.ro j) s)) = q at *
    refine End.pool (w := app w (.join p q)) (Nat.lt_trans J.lt J.q_lt) h ?_ h2
    show jr w.ro p q p = jr w.ro p q j
    have := J.lt
    unfold jr
    rw [J.rp, if_neg (by omega)]
    rcases hj with hj | hj
    · rw [hj, if_neg (by omega)]
    · rw [hj, if_pos rfl]
end Go.Proofs.Ytioijehbmgmgkaa.Sh

namespace Go.Proofs.Ytioijehbmgmgkaa.Sh
set_option maxRecDepth 100000
set_option maxHeartbeats 4000000
theorem disj {b : BS} (B : GdB b) {w : WS} {e e' : Stop} (K : StopOK b w e) (K' : StopOK b w e') (ne : e ≠ e') {x : Nat} (h : affected e x) (h' : affected e' x) : False := by
  have sj : ∀ {k p q : Nat}, StopOK b w (.stay k) → StopOK b w (.join p q) → (k = p ∨ k = q) → False := by
    rintro k p q ⟨_, _, k3⟩ ⟨s, J⟩ hk
    rcases hk with rfl | rfl
    · rcases k3 with k3 | ⟨s2, k3, k4⟩
      · exact lip_not_no J.lp k3
      · have := lip_unique B k3 J.lp; subst this; have := J.vp; omega
    · rcases k3 with k3 | ⟨s2, k3, k4⟩
      · exact lip_not_no J.lq k3
      · have := lip_unique B k3 J.lq; subst this; have := J.vq; omega
  cases e with
  | sea => exact h
  | stay k =>
    cases e' with
    | sea => exact h'
    | stay k' => exact ne (by rw [show k = k' from Eq.trans (Eq.symm h) h'])
    | join p q => subst h; exact sj K K' h'
  | join p q =>
    cases e' with
    | sea => exact h'
    | stay k' => subst h'; exact sj K' K h
    | join p' q' =>
      obtain ⟨s, J⟩ := K
      obtain ⟨s', J'⟩ := K'
      have : s = s' := by
        rcases h with rfl | rfl <;> rcases h' with h' | h'
        · exact lip_unique B J.lp (h' ▸ J'.lp)
        · exact lip_unique B J.lp (h' ▸ J'.lq)
        · exact lip_unique B J.lq (h' ▸ J'.lp)
        · exact lip_unique B J.lq (h' ▸ J'.lq)
      subst this
      have c1 := J.ends
      have c2 := J'.ends
      have := J.lt
      have := J'.lt
      have : p = p' ∧ q = q' := by omega
      exact ne (by rw [this.1, this.2])
theorem WS.same {w w' : WS} (h1 : ∀ k, w.ro k = w'.ro k) (h2 : ∀ k, w.V k = w'.V k) (h3 : w.lost = w'.lost) : w = w' := by
  obtain ⟨a, c, d⟩ := w
  obtain ⟨a', c', d'⟩ := w'
  have k1 : a = a' := funext h1
  have k2 : c = c' := funext h2
  have k3 : d = d' := h3
  subst k1 k2 k3
  rfl
theorem app_comm {b : BS} (B : GdB b) {w : WS} {e e' : Stop} (K : StopOK b w e) (K' : StopOK b w e') (ne : e ≠ e') : app (app w e) e' = app (app w e') e := by
  have D : ∀ x, affected e x → affected e' x → False := fun x => disj B K K' ne
  cases e with
  | sea => cases e' <;> rfl
  | stay k =>
    cases e' with
    | sea => rfl
    | stay k' =>
      have hk : k ≠ k' := fun h => D k rfl h
      refine WS.same (fun _ => rfl) (fun x => ?_) rfl
      show upV (upV w.V k _) k' (upV w.V k _ k' + 1) x = upV (upV w.V k' _) k (upV w.V k' _ k + 1) x
      unfold upV
      rw [if_neg (Ne.symm hk), if_neg hk]
      by_cases c : x = k
      · subst c; rw [if_neg hk, if_pos rfl, if_pos rfl]
      · rw [if_neg c, if_neg c]
    | join p q =>
      have h1 : k ≠ p := fun h => D k rfl (.inl h)
      have h2 : k ≠ q := fun h => D k rfl (.inr h)
      refine WS.same (fun _ => rfl) (fun x => ?_) rfl
      show upV (upV w.V k _) p (upV w.V k _ p + upV w.V k _ q + 1) x = upV (upV w.V p _) k (upV w.V p _ k + 1) x
      unfold upV
      rw [if_neg (Ne.symm h1), if_neg (Ne.symm h2), if_neg h1]
      by_cases c : x = k
      · subst c; rw [if_neg h1, if_pos rfl, if_pos rfl]
      · rw [if_neg c, if_neg c]
  | join p q =>
    cases e' with
    | sea => rfl
    | stay k =>
      have h1 : k ≠ p := fun h => D k (.inl h) rfl
      have h2 : k ≠ q := fun h => D k (.inr h) rfl
      refine WS.same (fun _ => rfl) (fun x => ?_) rfl
      show upV (upV w.V p _) k (upV w.V p _ k + 1) x = upV (upV w.V k _) p (upV w.V k _ p + upV w.V k _ q + 1) x
      unfold upV
      rw [if_neg h1, if_neg (Ne.symm h1), if_neg (Ne.symm h2)]
      by_cases c : x = k
      · subst c; rw [if_pos rfl, if_neg h1, if_pos rfl]
      · rw [if_neg c, if_neg c]
    | join p' q' =>
      have h1 : p ≠ p' := fun h => D p (.inl rfl) (.inl h)
      have h2 : p ≠ q' := fun h => D p (.inl rfl) (.inr h)
      have h3 : q ≠ p' := fun h => D q (.inr rfl) (.inl h)
      have h4 : q ≠ q' := fun h => D q (.inr rfl) (.inr h)
      refine WS.same (fun x => ?_) (fun x => ?_) rfl
      · show jr (jr w.ro p q) p' q' x = jr (jr w.ro p' q') p q x
        unfold jr
        by_cases c : w.ro x = q
        · have c2 : w.ro x ≠ q' := fun h => h4 (c.symm.trans h)
          rw [if_pos c, if_neg h2, if_neg c2, if_pos c]
        · rw [if_neg c]
          by_cases c2 : w.ro x = q'
          · rw [if_pos c2, if_neg (Ne.symm h3)]
          · rw [if_neg c2, if_neg c]
      · show upV (upV w.V p _) p' (upV w.V p _ p' + upV w.V p _ q' + 1) x = upV (upV w.V p' _) p (upV w.V p' _ p + upV w.V p' _ q + 1) x
        unfold upV
        rw [if_neg (Ne.symm h1), if_neg (Ne.symm h2), if_neg h1, if_neg h3]
        by_cases c : x = p
        · subst c; rw [if_neg h1, if_pos rfl, if_pos rfl]
        · rw [if_neg c, if_neg c]
def Drop (b : BS) (w : WS) (i : Nat) (w' : WS) : Prop := ∃ e, End b w i e ∧ w' = app w e
def Pours (b : BS) : WS → List Nat → WS → Prop
  | w, [], w' => w' = w
  | w, i :: l, w' => ∃ w1, Drop b w i w1 ∧ Pours b w1 l w'
theorem Drop.gd {b : BS} (B : GdB b) {w w' : WS} (G : Gd b w) {i : Nat} (h : Drop b w i w') : Gd b w' := by
  obtain ⟨e, h, rfl⟩ := h
  exact app_gd B G (h.ok B G.toGdR)
theorem Drop.det {b : BS} (B : GdB b) {w w' w2 : WS} {i : Nat} (h : Drop b w i w') (h2 : Drop b w i w2) : w' = w2 := by
  obtain ⟨e, h, rfl⟩ := h
  obtain ⟨e2, h2, rfl⟩ := h2
  rw [End.det B h h2]
theorem Drop.swap {b : BS} (B : GdB b) {w w1 w2 : WS} (G : Gd b w) {i j : Nat} (hj : j ≤ b.n) (h : Drop b w i w1) (h2 : Drop b w1 j w2) :
    ∃ w1', Drop b w j w1' ∧ Drop b w1' i w2 := by
  obtain ⟨e, he, rfl⟩ := h
  obtain ⟨e2, he2, rfl⟩ := h2
  obtain ⟨e', he'⟩ := End.ex B G hj
  have K := he.ok B G.toGdR
  have K' := he'.ok B G.toGdR
  by_cases c : e = e'
  · subst c
    refine ⟨app w e, ⟨e, he', rfl⟩, ⟨e2, ?_, rfl⟩⟩
    have hr : rep b e ≤ b.n := by
      cases e with
      | sea => exact Nat.le_refl _
      | stay g => exact Nat.le_of_lt K.1
      | join p q => obtain ⟨s, J⟩ := K; exact Nat.le_of_lt (Nat.lt_trans J.lt J.q_lt)
    obtain ⟨e3, h3⟩ := End.ex B (app_gd B G K) hr
    have k1 := End.again B G K he' h3
    have k2 := End.again B G K he h3
    have := End.det B he2 k1
    subst this
    exact k2
  · have k1 := End.indep B G K he' c
    have k2 := End.indep B G K' he (Ne.symm c)
    have := End.det B he2 k1
    subst this
    exact ⟨app w e2, ⟨e2, he', rfl⟩, ⟨e, k2, app_comm B K K' c⟩⟩
theorem Pours.gd {b : BS} (B : GdB b) : ∀ {l : List Nat} {w w' : WS}, Gd b w → Pours b w l w' → Gd b w'
  | [], _, _, G, h => h ▸ G
  | _ :: _, _, _, G, ⟨_, h1, h2⟩ => Pours.gd B (h1.gd B G) h2
theorem Pours.det {b : BS} (B : GdB b) : ∀ {l : List Nat} {w w' w2 : WS}, Pours b w l w' → Pours b w l w2 → w' = w2
  | [], _, _, _, h, h2 => h.trans h2.symm
  | _ :: _, _, _, _, ⟨_, h1, h2⟩, ⟨_, k1, k2⟩ => by
    have := Drop.det B h1 k1
    subst this
    exact Pours.det B h2 k2
theorem Pours.ex {b : BS} (B : GdB b) : ∀ {l : List Nat} {w : WS}, Gd b w → (∀ i ∈ l, i ≤ b.n) → ∃ w', Pours b w l w'
  | [], w, _, _ => ⟨w, rfl⟩
  | i :: l, w, G, h => by
    obtain ⟨e, he⟩ := End.ex B G (h i (List.mem_cons_self ..))
    have D : Drop b w i (app w e) := ⟨e, he, rfl⟩
    obtain ⟨w', h'⟩ := Pours.ex B (l := l) (D.gd B G) (fun k hk => h k (List.mem_cons_of_mem _ hk))
    exact ⟨w', _, D, h'⟩
theorem Pours.append {b : BS} : ∀ {l l' : List Nat} {w w' : WS}, Pours b w (l ++ l') w' ↔ ∃ w1, Pours b w l w1 ∧ Pours b w1 l' w'
  | [], l', w, w' => ⟨fun h => ⟨w, rfl, h⟩, fun ⟨_, h, h'⟩ => by cases h; exact h'⟩
  | i :: l, l', w, w' => by
    constructor
    · rintro ⟨w1, h1, h2⟩
      obtain ⟨w2, h3, h4⟩ := Pours.append.1 h2
      exact ⟨w2, ⟨w1, h1, h3⟩, h4⟩
    · rintro ⟨w2, ⟨w1, h1, h3⟩, h4⟩
      exact ⟨w1, h1, Pours.append.2 ⟨w2, h3, h4⟩⟩
theorem Pours.perm {b : BS} (B : GdB b) {l l' : List Nat} (p : l.Perm l') : ∀ {w w' : WS}, Gd b w → (∀ i ∈ l, i ≤ b.n) → Pours b w l w' → Pours b w l' w' := by
  induction p with
  | nil => intro w w' _ _ h; exact h
  | cons x p ih =>
    rintro w w' G hl ⟨w1, h1, h2⟩
    exact ⟨w1, h1, ih (h1.gd B G) (fun i hi => hl i (List.mem_cons_of_mem _ hi)) h2⟩
  | swap x y l =>
    rintro w w' G hl ⟨w1, h1, w2, h2, h3⟩
    obtain ⟨w1', k1, k2⟩ := Drop.swap B G (hl x (List.mem_cons_of_mem _ (List.mem_cons_self ..))) h1 h2
    exact ⟨w1', k1, w2, k2, h3⟩
  | trans p1 p2 ih1 ih2 =>
    intro w w' G hl h
    exact ih2 G (fun i hi => hl i (p1.mem_iff.2 hi)) (ih1 G hl h)
def Near (b : BS) (w : WS) (i t : Nat) : Prop := i < b.n ∧ ((t < b.n ∧ w.ro i = w.ro t) ∨ ∃ s, IsLip b w.ro (w.ro i) s ∧ w.V (w.ro i) = rm b w.ro (w.ro i) s.2.2 ∧ w.ro t = w.ro (oth w.ro (w.ro i) s) ∧ t ≤ b.n)
theorem Near.end {b : BS} (B : GdB b) {w : WS} (G : GdR b w.ro) {i t : Nat} (h : Near b w i t) {e : Stop} (k : End b w t e) : End b w i e := by
  obtain ⟨hi, ⟨ht, h⟩ | ⟨s, h1, h2, h3, h4⟩⟩ := h
  · exact End.pool ht hi h.symm k
  · refine End.via B G hi h1 h2 ?_
    have ho := oth_le B h1
    have e1 := G.sea t h4
    have e2 := G.sea _ ho
    by_cases c : t = b.n
    · have : oth w.ro (w.ro i) s = b.n := e2.1 (by rw [← h3]; exact e1.2 c)
      rw [this, ← c]
      exact k
    · exact End.pool (by omega) (by have : oth w.ro (w.ro i) s ≠ b.n := fun e => c (e1.1 (by rw [h3]; exact e2.2 e)); omega) h3 k
theorem Near.app {b : BS} (B : GdB b) {w : WS} (G : GdR b w.ro) {i t : Nat} (h : Near b w i t) {e : Stop} (K : StopOK b w e) : Near b (app w e) i t := by
  obtain ⟨hi, ⟨ht, h⟩ | ⟨s, h1, h2, h3, h4⟩⟩ := h
  · refine ⟨hi, .inl ⟨ht, ?_⟩⟩
    cases e with
    | stay g => exact h
    | sea => exact h
    | join p q => show jr w.ro p q i = jr w.ro p q t; unfold jr; rw [h]
  · by_cases ha : affected e (w.ro i)
    · cases e with
      | sea => exact ha.elim
      | stay g =>
        have ha : w.ro i = g := ha
        subst ha
        rcases K.2.2 with k3 | ⟨s2, k3, k4⟩
        · exact (lip_not_no h1 k3).elim
        · have := lip_unique B h1 k3; subst this; omega
      | join p q =>
        obtain ⟨s0, J⟩ := K
        have hs : s = s0 := by
          rcases ha with ha | ha
          · rw [ha] at h1; exact lip_unique B h1 J.lp
          · rw [ha] at h1; exact lip_unique B h1 J.lq
        subst hs
        have := J.lt
        have := J.q_lt
        refine ⟨hi, .inl ?_⟩
        show t < b.n ∧ jr w.ro p q i = jr w.ro p q t
        unfold jr
        rcases ha with ha | ha
        · rw [ha, J.op.1] at h3
          refine ⟨?_, by rw [ha, h3, if_pos rfl, if_neg (by omega)]⟩
          rcases Nat.lt_or_eq_of_le h4 with c | c
          · exact c
          · have := (G.sea t h4).2 c
            omega
        · rw [ha, J.op.2] at h3
          refine ⟨?_, by rw [ha, h3, if_pos rfl, if_neg (by omega)]⟩
          rcases Nat.lt_or_eq_of_le h4 with c | c
          · exact c
          · have := (G.sea t h4).2 c
            omega
    · have S := wsame_of (w := w) ha
      have hr := (S.ro i).2 rfl
      refine ⟨hi, .inr ⟨s, by rw [hr]; exact lip_congr S.ro h1, by rw [hr, S.V, rm_congr S.ro]; exact h2, ?_, h4⟩⟩
      rw [hr, oth_congr S.ro]
      cases e with
      | stay g => exact h3
      | sea => exact h3
      | join p q => show jr w.ro p q t = jr w.ro p q _; unfold jr; rw [h3]
theorem Pours.stay {b : BS} : ∀ (k : Nat) {w : WS} {i : Nat}, i < b.n → w.ro (w.ro i) = w.ro i → (NoLip b w.ro (w.ro i) ∨ ∃ s, IsLip b w.ro (w.ro i) s ∧ w.V (w.ro i) + k ≤ rm b w.ro (w.ro i) s.2.2) →
    Pours b w (List.replicate k i) ⟨w.ro, upV w.V (w.ro i) (w.V (w.ro i) + k), w.lost⟩
  | 0, w, i, _, _, _ => by
    refine WS.same (fun _ => rfl) (fun x => ?_) rfl
    show upV w.V _ _ x = w.V x
    unfold upV
    split
    · rename_i c; subst c; omega
    · rfl
  | k+1, w, i, hi, hr, h => by
    have he : End b w i (.stay (w.ro i)) := by
      rcases h with h | ⟨s, h1, h2⟩
      · exact .free hi h
      · exact .stay hi h1 (by omega)
    refine ⟨_, ⟨_, he, rfl⟩, ?_⟩
    have hv : upV w.V (w.ro i) (w.V (w.ro i) + 1) (w.ro i) = w.V (w.ro i) + 1 := if_pos rfl
    have := Pours.stay k (w := app w (.stay (w.ro i))) (i := i) hi hr (by
      rcases h with h | ⟨s, h1, h2⟩
      · exact .inl h
      · refine .inr ⟨s, h1, ?_⟩
        show upV w.V (w.ro i) _ (w.ro i) + _ ≤ rm b w.ro (w.ro i) _
        rw [hv]
        omega)
    refine cast (congrArg _ ?_) this
    refine WS.same (fun _ => rfl) (fun x => ?_) rfl
    show upV (upV w.V _ _) (w.ro i) (upV w.V _ _ (w.ro i) + _) x = upV w.V _ _ x
    rw [hv]
    unfold upV
    by_cases c : x = w.ro i
    · rw [if_pos c, if_pos c]; omega
    · rw [if_neg c, if_neg c, if_neg c]
theorem Pours.sea {b : BS} : ∀ (k : Nat) {w : WS}, Pours b w (List.replicate k b.n) ⟨w.ro, w.V, w.lost + k⟩
  | 0, w => WS.same (fun _ => rfl) (fun _ => rfl) (by show w.lost + 0 = _; omega)
  | k+1, w => by
    refine ⟨_, ⟨_, .sea, rfl⟩, ?_⟩
    have := Pours.sea (b := b) k (w := app w .sea)
    have he : (⟨(app w .sea).ro, (app w .sea).V, (app w .sea).lost + k⟩ : WS) = ⟨w.ro, w.V, w.lost + ((k + 1 : Nat) : Int)⟩ := by
      refine WS.same (fun _ => rfl) (fun _ => rfl) ?_
      show w.lost + 1 + (k : Int) = w.lost + ((k + 1 : Nat) : Int)
      omega
    rw [he] at this
    exact this
def joined (w : WS) (p q : Nat) : WS := ⟨jr w.ro p q, upV w.V p (w.V p + w.V q), w.lost⟩
theorem JF.end {b : BS} {w : WS} {p q i : Nat} {s} (J : JF b w p q s) (hin : i < b.n) (hi : w.ro i = p ∨ w.ro i = q) : End b w i (.join p q) := by
  have := J.lt
  rcases hi with hi | hi
  · have := End.join (w := w) (s := s) hin (by rw [hi]; exact J.lp) (by rw [hi]; exact J.vp) (by rw [hi, J.op.1]; exact J.mutq)
    rw [hi, J.op.1, Nat.min_eq_left (by omega), Nat.max_eq_right (by omega)] at this
    exact this
  · have := End.join (w := w) (s := s) hin (by rw [hi]; exact J.lq) (by rw [hi]; exact J.vq) (by rw [hi, J.op.2]; exact J.mutp)
    rw [hi, J.op.2, Nat.min_eq_right (by omega), Nat.max_eq_left (by omega)] at this
    exact this
theorem Pours.join {b : BS} (B : GdB b) {w : WS} {p q i : Nat} {s} (J : JF b w p q s) (hin : i < b.n) (hi : w.ro i = p ∨ w.ro i = q) {l : List Nat} {w' : WS} (h : Pours b (joined w p q) (i :: l) w') :
    Pours b w (i :: l) w' := by
  have := J.lt
  have := J.q_lt
  obtain ⟨w1, ⟨e, he, h1⟩, h2⟩ := h
  have hr : (joined w p q).ro i = p := by
    show jr w.ro p q i = p
    unfold jr
    rcases hi with hi | hi
    · rw [hi, if_neg (by omega)]
    · rw [hi, if_pos rfl]
  have hv : (joined w p q).V p = w.V p + w.V q := if_pos rfl
  have k : End b (joined w p q) i (.stay p) := by
    rcases lip_or b (jr w.ro p q) p with ⟨s2, hl⟩ | hn
    · have := End.stay (b := b) (w := joined w p q) (i := i) (s := s2) hin (by rw [hr]; exact hl) (by rw [hr, hv]; exact join_room B J hl)
      rw [hr] at this
      exact this
    · have := End.free (b := b) (w := joined w p q) (i := i) hin (by rw [hr]; exact hn)
      rw [hr] at this
      exact this
  have := End.det B he k
  subst this
  refine ⟨w1, ⟨_, J.end hin hi, ?_⟩, h2⟩
  rw [h1]
  refine WS.same (fun _ => rfl) (fun x => ?_) rfl
  show upV (upV w.V p _) p (upV w.V p _ p + 1) x = upV w.V p _ x
  unfold upV
  rw [if_pos rfl]
  by_cases c : x = p
  · rw [if_pos c, if_pos c]
  · rw [if_neg c, if_neg c, if_neg c]
end Go.Proofs.Ytioijehbmgmgkaa.Sh

