/- The hull round points holds them: plain laws. -/
import Derived.Test.YtecncmmkghmojaaH11
set_option linter.all false
namespace Go.Proofs.Ytecncmmkghmojaa.Geo
open Sh

theorem wrapGo_ring {l : List Pt} {f : Pt} (hl : ∀ q ∈ l, before q f = false) : ∀ (k : Nat) (acc : List Pt) (a : Pt), l.length ≤ acc.length + k → Ring l f acc a → 2 ≤ (wrapGo l f k acc a).length → ∃ a', Ring l f (wrapGo l f k acc a) a' ∧ Sup l a' f
  | 0, acc, a, hk, r, h2 => by
    refine ⟨a, r, ?_⟩
    obtain ⟨d, hd⟩ := ring_hp hl r
    rcases scan_sup hd with ⟨h1, h2'⟩ | hs
    · exfalso
      have hpos : 1 < acc.length := by show 1 < (wrapGo l f 0 acc a).length; omega
      have e0 := h2' _ (r.mem _ (List.getElem_mem (show 0 < acc.length by omega)))
      have e1 := h2' _ (r.mem _ (List.getElem_mem hpos))
      have := (List.getElem_inj r.nodup).1 (e0.trans e1.symm)
      omega
    · by_cases e : scan a l = f
      · rw [e] at hs; exact hs
      · exfalso
        have r2 := ring_next r hs e
        have := nodup_len r2.nodup r2.mem
        simp at this
        omega
  | k + 1, acc, a, hk, r, h2 => by
    unfold wrapGo at h2 ⊢
    obtain ⟨d, hd⟩ := ring_hp hl r
    by_cases c : scan a l = f ∨ scan a l = a
    · rw [if_pos c] at h2 ⊢
      refine ⟨a, r, ?_⟩
      rcases scan_sup hd with ⟨h1, h2'⟩ | hs
      · exfalso
        have e0 := h2' _ (r.mem _ (List.getElem_mem (show 0 < acc.length by omega)))
        have e1 := h2' _ (r.mem _ (List.getElem_mem (show 1 < acc.length by omega)))
        have := (List.getElem_inj r.nodup).1 (e0.trans e1.symm)
        omega
      · rcases c with c | c
        · rw [c] at hs; exact hs
        · exact (hs.1 c).elim
    · rw [if_neg c] at h2 ⊢
      have c1 : ¬ scan a l = f := fun x => c (.inl x)
      have c2 : ¬ scan a l = a := fun x => c (.inr x)
      rcases scan_sup hd with ⟨h1, _⟩ | hs
      · exact (c2 h1).elim
      · exact wrapGo_ring hl k _ _ (by simp; omega) (ring_next r hs c1) h2

theorem wrap_ring {l : List Pt} (hne : l ≠ []) (h2 : 2 ≤ (wrap l).length) : ∃ f a, (∀ q ∈ l, before q f = false) ∧ Ring l f (wrap l) a ∧ Sup l a f := by
  obtain ⟨p, r, rfl⟩ : ∃ p r, l = p :: r := by cases l with
    | nil => exact (hne rfl).elim
    | cons p r => exact ⟨p, r, rfl⟩
  obtain ⟨h1, _, h3⟩ := least_spec (p :: r) p
  have hf : least (p :: r) p ∈ p :: r := by
    rcases h1 with z | z
    · rw [z]; simp
    · exact z
  obtain ⟨a', ra, hs⟩ := wrapGo_ring h3 (p :: r).length [least (p :: r) p] (least (p :: r) p) (by simp) (ring_one hf) h2
  exact ⟨_, a', h3, ra, hs⟩

end Go.Proofs.Ytecncmmkghmojaa.Geo

