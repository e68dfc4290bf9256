/- The hull round points holds them: plain laws. -/
import Derived.Test.YtecncmmkghmojaaH11
set_option linter.all false
namespace Go.Proofs.Ytecncmmkghmojaa.Geo
open Sh

theorem wrapGo_ring {l : List Pt} {f : Pt} (hl : ∀ q ∈ l, before q f = false) : ∀ (k : Nat) (acc : List Pt) (a : Pt), l.length ≤ acc.length + k → Ring l f acc a → 2 ≤ (wrapGo l f k acc a).length → ∃ a', Ring l f (wrapGo l f k acc a) a' ∧ Sup l a' f
  | 0, acc, a, hk, r, h2 => by
    refine ⟨a, r, ?_⟩
    obtain ⟨d, hd⟩ := ring_hp hl r
    rcases scan_sup hd with ⟨h1, h2'⟩ | hs
    · exfalso
      have hpos : 1 < acc.length := by show 1 < (wrapGo l f 0 acc a).length; omega
      have e0 := h2' _ (r.mem _ (List.getElem_mem (show 0 < acc.length by omega)))
      have e1 := h2' _ (r.mem _ (List.getElem_mem hpos))
      have := (List.getElem_inj r.nodup).1 (e0.trans e1.symm)
      omega
    · by_cases e : scan a l = f
      · rw [e] at hs; exact hs
      · exfalso
        have r2 := ring_next r hs e
        have := nodup_len r2.nodup r2.mem
        simp at this
        omega
  | k + 1, acc, a, hk, r, h2 => by
    unfold wrapGo at h2 ⊢
    obtain ⟨d, hd⟩ := ring_hp hl r
    by_cases c : scan a l = f ∨ scan a l = a
    · rw [if_pos c] at h2 ⊢
      refine ⟨a, r, ?_⟩
      rcases scan_sup hd with ⟨h1, h2'⟩ | hs
      · exfalso
        have e0 := h2' _ (r.mem _ (List.getElem_mem (show 0 < acc.length by omega)))
        have e1 := h2' _ (r.mem _ (List.getElem_mem (show 1 < acc.length by omega)))
        have := (List.getElem_inj r.nodup).1 (e0.trans e1.symm)
        omega
      · rcases c with c | c
        · rw [c] at hs; exact hs
        · exact (hs.1 c).elim
    · rw [if_neg c] at h2 ⊢
      have c1 : ¬ scan a l = f := fun x => c (.inl x)
      have c2 : ¬ scan a l = a := fun x => c (.inr x)
      rcases scan_sup hd with ⟨h1, _⟩ | hs
      · exact (c2 h1).elim
      · exact wrapGo_ring hl k _ _ (by simp; omega) (ring_next r hs c1) h2

theorem wrap_ring {l : List Pt} (hne : l ≠ []) (h2 : 2 ≤ (wrap l).length) : ∃ f a, (∀ q ∈ l, before q f = false) ∧ Ring l f (wrap l) a ∧ Sup l a f := by
  obtain ⟨p, r, rfl⟩ : ∃ p r, l = p :: r := by cases l with
    | nil => exact (hne rfl).elim
    | cons p r => exact ⟨p, r, rfl⟩
  obtain ⟨h1, _, h3⟩ := least_spec (p :: r) p
  have hf : least (p :: r) p ∈ p :: r := by
    rcases h1 with z | z
    · rw [z]; simp
    · exact z
  obtain ⟨a', ra, hs⟩ := wrapGo_ring h3 (p :: r).length [least (p :: r) p] (least (p :: r) p) (by simp) (ring_one hf) h2
  exact ⟨_, a', h3, ra, hs⟩

theorem sup_less {l l' : List Pt} {a b : Pt} (h : Sup l a b) (hm : ∀ q ∈ l', q ∈ l) (hb : b ∈ l') : Sup l' a b := ⟨h.1, hb, fun q hq hqa => h.2.2 q (hm q hq) hqa⟩
theorem chn_idx {l : List Pt} : ∀ {L : List Pt}, (∀ (i : Nat) (p q : Pt), L[i]? = some p → L[i + 1]? = some q → Sup l p q) → Chn l L
  | [], _ => trivial
  | [a], _ => trivial
  | a :: b :: r, h => ⟨h 0 a b rfl rfl, chn_idx (L := b :: r) (fun i p q h1 h2 => h (i + 1) p q (by simpa using h1) (by simpa using h2))⟩

/-- of its corners it is the same -/
theorem wrap_wrap {l : List Pt} (hne : l ≠ []) (h2 : 2 ≤ (wrap l).length) : wrap (wrap l) = wrap l := by
  obtain ⟨f, a, hl, r, hs⟩ := wrap_ring hne h2
  generalize wrap l = W at *
  have hfl : ∀ q ∈ W, before q f = false := fun q hq => hl q (r.mem q hq)
  obtain ⟨rest, rfl⟩ : ∃ rest, W = f :: rest := by
    cases W with
    | nil => simp at h2
    | cons x y => have := r.head; simp at this; subst this; exact ⟨_, rfl⟩
  have hfm : f ∈ f :: rest := by simp
  have hleast : least (f :: rest) f = f := by
    obtain ⟨s1, s2, s3⟩ := least_spec (f :: rest) f
    have hm : least (f :: rest) f ∈ f :: rest := by
      rcases s1 with s | s
      · rw [s]; simp
      · exact s
    rcases bf_total (s3 f hfm) with e | e
    · exact e.symm
    · rw [hfl _ hm] at e; cases e
  have cc : Chn (f :: rest) (f :: (rest ++ [f])) := by
    refine chn_idx fun i p q hp hq => ?_
    rw [show f :: (rest ++ [f]) = (f :: rest) ++ [f] from rfl] at hp hq
    by_cases c : i + 1 < (f :: rest).length
    · rw [List.getElem?_append_left (by omega)] at hp
      rw [List.getElem?_append_left c] at hq
      exact sup_less (r.sup i p q hp hq) r.mem (List.mem_of_getElem? hq)
    · have hil := (List.getElem?_eq_some_iff.1 hq).1
      rw [List.length_append] at hil
      simp only [List.length_cons, List.length_nil] at hil c
      have ei : i = (f :: rest).length - 1 := by simp only [List.length_cons]; omega
      subst ei
      rw [List.getElem?_append_left (by simp only [List.length_cons]; omega), r.last] at hp
      rw [List.getElem?_append_right (by simp only [List.length_cons]; omega), show (f :: rest).length - 1 + 1 - (f :: rest).length = 0 by simp only [List.length_cons]; omega] at hq
      simp at hq
      cases hp
      subst hq
      exact sup_less hs r.mem hfm
  have hnot : f ∉ rest := (List.nodup_cons.1 r.nodup).1
  show wrapGo (f :: rest) (least (f :: rest) f) (f :: rest).length [least (f :: rest) f] (least (f :: rest) f) = _
  rw [hleast, follow hfl rest _ [f] f (by simp) (ring_one hfm) cc hnot]
  rfl

/-- the points lie inside -/
def Inside (W : List Pt) (p : Pt) : Prop := ∀ k, k < W.length → 0 ≤ turn (cn W k) (cn W ((k + 1) % W.length)) p
theorem wrap_inside {l : List Pt} (hne : l ≠ []) (h2 : 2 ≤ (wrap l).length) : ∀ p ∈ l, Inside (wrap l) p := by
  obtain ⟨f, a, hl, r, hs⟩ := wrap_ring hne h2
  generalize wrap l = W at *
  intro p hp k hk
  have hm : (k + 1) % W.length < W.length := Nat.mod_lt _ (by omega)
  have s : Sup l (cn W k) (cn W ((k + 1) % W.length)) := by
    by_cases c : k + 1 < W.length
    · rw [Nat.mod_eq_of_lt c]
      exact r.sup k _ _ (cn_get hk) (cn_get c)
    · have e : k + 1 = W.length := by omega
      have h1 := cn_get hk
      have h0 := cn_get (l := W) (k := 0) (by omega)
      rw [show k = W.length - 1 by omega, r.last] at h1
      rw [r.head] at h0
      rw [e, Nat.mod_self, ← Option.some.inj h0, show k = W.length - 1 by omega, ← Option.some.inj h1]
      exact hs
  by_cases e : p = cn W k
  · rw [e]; simp only [turn]; grind
  · rw [turn_crs]
    rcases s.2.2 p hp e with h | h <;> omega
theorem wrap_first {l : List Pt} (hne : l ≠ []) (h2 : 2 ≤ (wrap l).length) : ∀ p ∈ l, before p (cn (wrap l) 0) = false := by
  obtain ⟨f, a, hl, r, hs⟩ := wrap_ring hne h2
  generalize wrap l = W at *
  have h0 := cn_get (l := W) (k := 0) (by omega)
  rw [r.head] at h0
  rw [← Option.some.inj h0]
  exact hl

theorem arg_max (g : Nat → Int) : ∀ n, 1 ≤ n → ∃ k, k < n ∧ ∀ m, m < n → g m ≤ g k := by
  intro n
  induction n with
  | zero => intro h; omega
  | succ n ih =>
    intro _
    by_cases hn : n = 0
    · subst hn; exact ⟨0, by omega, fun m hm => by rw [show m = 0 by omega]; exact Int.le_refl _⟩
    · obtain ⟨k, hk, hm⟩ := ih (by omega)
      by_cases c : g n ≤ g k
      · refine ⟨k, by omega, fun m h => ?_⟩
        by_cases e : m = n
        · rw [e]; exact c
        · exact hm m (by omega)
      · refine ⟨n, by omega, fun m h => ?_⟩
        by_cases e : m = n
        · rw [e]; exact Int.le_refl _
        · have := hm m (by omega); omega

/-- a corner that lies farthest to the left of a direction -/
theorem far_corner {W : List Pt} (hW : HullP W) (h3 : 3 ≤ W.length) (c : Pt) : ∃ k, k < W.length ∧ ∀ p, Inside W p → crs c (sub p (cn W k)) ≤ 0 := by
  obtain ⟨k, hk, hm⟩ := arg_max (fun k => crs c (cn W k)) W.length (by omega)
  refine ⟨k, hk, fun p hp => ?_⟩
  -- the corner before
  obtain ⟨j, hj, ej⟩ : ∃ j, j < W.length ∧ (j + 1) % W.length = k := by
    by_cases e : k = 0
    · exact ⟨W.length - 1, by omega, by rw [show W.length - 1 + 1 = W.length by omega, Nat.mod_self]; exact e.symm⟩
    · exact ⟨k - 1, by omega, by rw [show k - 1 + 1 = k by omega, Nat.mod_eq_of_lt hk]⟩
  have hn : (k + 1) % W.length < W.length := Nat.mod_lt _ (by omega)
  have hk1 : (k + 1) % W.length ≠ k := by
    by_cases e : k + 1 = W.length
    · rw [e, Nat.mod_self]; omega
    · rw [Nat.mod_eq_of_lt (by omega)]; omega
  have hkj : (k + 1) % W.length ≠ j := by
    by_cases e : k + 1 = W.length
    · rw [e, Nat.mod_self]
      intro e0
      rw [← e0, Nat.mod_eq_of_lt (by omega)] at ej
      omega
    · rw [Nat.mod_eq_of_lt (by omega)]
      intro e0
      rw [← e0] at ej
      by_cases e1 : k + 1 + 1 = W.length
      · rw [e1, Nat.mod_self] at ej; omega
      · rw [Nat.mod_eq_of_lt (by omega)] at ej; omega
  have t0 := hW j ((k + 1) % W.length) _ _ _ (cn_get hj) (by rw [ej]; exact cn_get hk) (cn_get hn) hkj (by rw [ej]; exact hk1)
  have t1 := hp j hj
  rw [ej] at t1
  have t2 := hp k hk
  have m1 := hm j hj
  have m2 := hm _ hn
  generalize cn W j = x at *
  generalize cn W ((k + 1) % W.length) = z at *
  generalize cn W k = y at *
  have id : turn x y z * crs c (sub p y) = turn x y p * crs c (sub z y) + turn y z p * crs c (sub x y) := by simp only [turn, crs, sub]; grind
  have a1 : crs c (sub z y) ≤ 0 := by have : crs c (sub z y) = crs c z - crs c y := by { simp only [crs, sub]; grind }; omega
  have a2 : crs c (sub x y) ≤ 0 := by have : crs c (sub x y) = crs c x - crs c y := by { simp only [crs, sub]; grind }; omega
  have b1 := Int.mul_nonneg t1 (show 0 ≤ - crs c (sub z y) by omega)
  have b2 := Int.mul_nonneg t2 (show 0 ≤ - crs c (sub x y) by omega)
  rw [Int.mul_neg] at b1 b2
  by_cases e : crs c (sub p y) ≤ 0
  · exact e
  · have := Int.mul_pos t0 (show 0 < crs c (sub p y) by omega)
    omega

theorem zf_turn (W : List Pt) (p : Pt) (k : Nat) : zf W p k = turn (cn W k) (cn W ((k + 1) % W.length)) p := by simp only [zf, turn, Sh.crs, sbt]; grind
theorem S_mono {n m : Nat} {f : Nat → Int} (h : ∀ k, k < n → 0 ≤ f k) (hm : m ≤ n) : S m f ≤ S n f := by
  obtain ⟨d, rfl⟩ : ∃ d, n = m + d := ⟨n - m, by omega⟩
  clear hm
  induction d with
  | zero => exact Int.le_refl _
  | succ d ih =>
    have := ih (fun k hk => h k (by omega))
    have := h (m + d) (by omega)
    rw [← Nat.add_assoc, S_succ]
    omega
/-- the triangle between a point and two corners -/
theorem tele (W : List Pt) (p : Pt) (j : Nat) : ∀ d, j + d < W.length → turn p (cn W j) (cn W (j + d)) = (S (j + d) (zf W p) - S j (zf W p)) - (S (j + d) (zf W (cn W j)) - S j (zf W (cn W j))) := by
  intro d
  induction d with
  | zero => intro _; simp only [Nat.add_zero, turn]; grind
  | succ d ih =>
    intro h
    have ih := ih (by omega)
    rw [← Nat.add_assoc, S_succ, S_succ]
    have e : turn p (cn W j) (cn W (j + d + 1)) = turn p (cn W j) (cn W (j + d)) + zf W p (j + d) - zf W (cn W j) (j + d) := by
      rw [zf_turn, zf_turn, Nat.mod_eq_of_lt (show j + d + 1 < W.length by omega)]
      simp only [turn]; grind
    rw [e, ih]
    omega
theorem corner_in {W : List Pt} (hW : HullP W) (h3 : 3 ≤ W.length) {j : Nat} (hj : j < W.length) : Inside W (cn W j) := by
  intro k hk
  have hm : (k + 1) % W.length < W.length := Nat.mod_lt _ (by omega)
  by_cases e1 : j = k
  · rw [e1]; simp only [turn]; grind
  · by_cases e2 : j = (k + 1) % W.length
    · rw [← e2]; simp only [turn]; grind
    · exact Int.le_of_lt (hW k j _ _ _ (cn_get hk) (cn_get hm) (cn_get hj) e1 e2)
theorem two_corners {W : List Pt} (hW : HullP W) (h3 : 3 ≤ W.length) {p : Pt} (hp : Inside W p) {j k : Nat} (hj : j < W.length) (hk : k < W.length) : turn p (cn W j) (cn W k) ≤ areaZ W := by
  have key : ∀ (a b : Nat), a ≤ b → b < W.length → turn p (cn W a) (cn W b) ≤ areaZ W ∧ - areaZ W ≤ turn p (cn W a) (cn W b) := by
    intro a b hab hb
    obtain ⟨d, rfl⟩ : ∃ d, b = a + d := ⟨b - a, by omega⟩
    rw [tele W p a d hb]
    have z1 : ∀ k, k < W.length → 0 ≤ zf W p k := fun k hk => by rw [zf_turn]; exact hp k hk
    have z2 : ∀ k, k < W.length → 0 ≤ zf W (cn W a) k := fun k hk => by rw [zf_turn]; exact corner_in hW h3 (by omega) k hk
    have m1 := S_mono z1 (show a + d ≤ W.length by omega)
    have m2 := S_mono z2 (show a + d ≤ W.length by omega)
    have n1 : S a (zf W p) ≤ S (a + d) (zf W p) := S_mono (fun k hk => z1 k (by omega)) (by omega)
    have n2 : S a (zf W (cn W a)) ≤ S (a + d) (zf W (cn W a)) := S_mono (fun k hk => z2 k (by omega)) (by omega)
    have o1 : 0 ≤ S a (zf W p) := S_nonneg (fun k hk => z1 k (by omega))
    have o2 : 0 ≤ S a (zf W (cn W a)) := S_nonneg (fun k hk => z2 k (by omega))
    have f1 := area_zf W p
    have f2 := area_zf W (cn W a)
    constructor <;> omega
  by_cases c : j ≤ k
  · exact (key j k c hk).1
  · have h := (key k j (by omega) hj).2
    have : turn p (cn W j) (cn W k) = - turn p (cn W k) (cn W j) := by simp only [turn]; grind
    omega
/-- no triangle of points inside is greater than the hull -/
theorem tri_area {W : List Pt} (hW : HullP W) (h3 : 3 ≤ W.length) {p q r : Pt} (hp : Inside W p) (hq : Inside W q) (hr : Inside W r) : turn p q r ≤ areaZ W := by
  obtain ⟨k, hk, fk⟩ := far_corner hW h3 (sub q p)
  have h1 := fk r hr
  obtain ⟨j, hj, fj⟩ := far_corner hW h3 (sub p (cn W k))
  have h2 := fj q hq
  have h3 := two_corners hW h3 hp hj hk
  have e1 : turn p q r = turn p q (cn W k) + crs (sub q p) (sub r (cn W k)) := by simp only [turn, crs, sub]; grind
  have e2 : turn p q (cn W k) = turn p (cn W j) (cn W k) + crs (sub p (cn W k)) (sub q (cn W j)) := by simp only [turn, crs, sub]; grind
  omega
end Go.Proofs.Ytecncmmkghmojaa.Geo

