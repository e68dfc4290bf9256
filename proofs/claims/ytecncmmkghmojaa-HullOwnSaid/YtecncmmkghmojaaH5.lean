/- Towers of planks of one length: how far they hang over. -/
import Derived.Test.YtecncmmkghmojaaH3
import Derived.Test.YtecncmmkghmojaaH4
import Derived.ChangeSlices
set_option linter.all false
/- Towers of planks of one length: how far they hang over. -/
namespace Go.Proofs.Ytecncmmkghmojaa.Sh
open Go
set_option maxRecDepth 100000

end Go.Proofs.Ytecncmmkghmojaa.Sh


/- HullHangs on the shadow machine. -/
namespace Go.Proofs.Ytecncmmkghmojaa.Sh
open Go
set_option maxRecDepth 100000

/-- from offset o on, the block b holds these integers, and may be read -/
def IntsAt (h : SHeap) (b o : Nat) (l : List Int) : Prop := ∃ pre post el pf own old, h[b]? = some (.cells (pre ++ (l.map mkI ++ post)) el pf own old) ∧ readable own = true ∧ pre.length = o
theorem IntsAt.lt {h : SHeap} {b o : Nat} {l : List Int} (k : IntsAt h b o l) : b < h.length := by
  obtain ⟨pre, post, el, pf, own, old, h1, _⟩ := k
  exact (List.getElem?_eq_some_iff.1 h1).1
theorem IntsAt.same {h h' : SHeap} {b o : Nat} {l : List Int} (k : IntsAt h b o l) (e : h'[b]? = h[b]?) : IntsAt h' b o l := by
  obtain ⟨pre, post, el, pf, own, old, h1, h2⟩ := k
  exact ⟨pre, post, el, pf, own, old, by rw [e]; exact h1, h2⟩
theorem IntsAt.load {h : SHeap} {b o : Nat} {l : List Int} (k : IntsAt h b o l) {i : Nat} (hi : i < l.length) : loadS h none (.pointer (some ⟨b, o + i, none⟩)) = some (.int .i64 l[i]) := by
  obtain ⟨pre, post, el, pf, own, old, h1, h2, rfl⟩ := k
  rw [load_none, rd1_def, h1]
  dsimp only
  rw [if_pos h2, List.getElem?_append_right (by omega), Nat.add_sub_cancel_left, List.getElem?_append_left (by simpa using hi), List.getElem?_map, List.getElem?_eq_getElem hi]
  rfl
end Go.Proofs.Ytecncmmkghmojaa.Sh


/- Arguments that are slices of integers. -/
namespace Go.Proofs.Ytecncmmkghmojaa.Sh
open Go Go.RowKit
set_option maxRecDepth 100000

theorem mkI_sc : ∀ l : List Int, (l.map mkI).all sc = true
  | [] => rfl
  | x :: r => by simp [mkI, sc, mkI_sc r]

end Go.Proofs.Ytecncmmkghmojaa.Sh


