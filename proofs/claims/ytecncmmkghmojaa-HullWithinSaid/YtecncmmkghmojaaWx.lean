/- Around of the document: what it returns. -/
import Derived.Test.YtecncmmkghmojaaWw
set_option linter.all false
namespace Go.Proofs.Ytecncmmkghmojaa.Sh
open Go Geo
set_option maxRecDepth 100000

/-- the list of corners so far: made by a literal, or grown -/
def OutS (lo : Nat) (h : SHeap) (v : Value) (cs : List Value) (n : Nat) : Prop :=
  (n ≠ 0 ∧ Acc lo h v cs n 2 53) ∨ (n = 1 ∧ ∃ b, v = .slice (some ⟨b, 0, none⟩) 1 1 ∧ h[b]? = some (.cells cs 53 true 0 []) ∧ lo ≤ b ∧ cs.all sc = true ∧ cs.length = 2)
theorem OutS.shape {lo : Nat} {h : SHeap} {v : Value} {cs : List Value} {n : Nat} (o : OutS lo h v cs n) : ∃ b c old, v = .slice (some ⟨b, 0, none⟩) n c ∧ h[b]? = some (.cells cs 53 true 0 old) ∧ lo ≤ b ∧ (∀ x ∈ old, lo ≤ x ∧ x < b) ∧ (n ≠ 1 → c = UNK + 2) := by
  rcases o with ⟨hn, h0 | ⟨b, old, rfl, h1, _, _, h4, _, h6⟩⟩ | ⟨rfl, b, rfl, h1, h2, _⟩
  · exact (hn h0.1).elim
  · exact ⟨b, _, old, rfl, h1, h4, h6, fun _ => rfl⟩
  · exact ⟨b, 1, [], rfl, h1, h2, fun x hx => by simp at hx, fun e => (e rfl).elim⟩
theorem OutS.keep {lo : Nat} {h h' : SHeap} {v : Value} {cs : List Value} {n : Nat} (o : OutS lo h v cs n) (k : ∀ b c, v = .slice (some ⟨b, 0, none⟩) n c → h'[b]? = h[b]?) : OutS lo h' v cs n := by
  rcases o with ⟨hn, a⟩ | ⟨rfl, b, rfl, h1, h2⟩
  · exact .inl ⟨hn, a.keep (fun b e => k b _ e)⟩
  · exact .inr ⟨rfl, b, rfl, by rw [k b 1 rfl]; exact h1, h2⟩

end Go.Proofs.Ytecncmmkghmojaa.Sh

