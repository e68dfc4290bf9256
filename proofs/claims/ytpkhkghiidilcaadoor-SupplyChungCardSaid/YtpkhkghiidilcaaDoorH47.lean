/- Arguments of the laws: slices that lie in the world. -/
import Derived.Test.YtpkhkghiidilcaaDoorH45
import Derived.Test.YtpkhkghiidilcaaDoorH44
set_option linter.all false
namespace Go.Proofs.YtpkhkghiidilcaaDoor.Sh
open Go Go.RowKit
set_option maxRecDepth 100000
def ISc (h : SHeap) (v : Value) (l : List Int) : Prop := ∃ a c, v = .slice a l.length c ∧ capOK l.length c 1 ∧ (a = none ∧ c < UNK ∧ l = [] ∨ ∃ b o, a = some ⟨b, o, none⟩ ∧ (l ≠ [] → b < h.length ∧ IL h b o l))
theorem ISc.is {h : SHeap} {v : Value} {l : List Int} (k : ISc h v l) : IS h v l := by
  obtain ⟨a, c, e, _, k⟩ := k
  refine ⟨a, c, e, fun hn => ?_⟩
  rcases k with ⟨_, _, rfl⟩ | ⟨b, o, rfl, k⟩
  · exact (hn rfl).elim
  · exact ⟨b, o, rfl, (k hn).1, (k hn).2⟩
theorem ro_at (pre b1 post : ROs) (x : (Nat × Nat) × List Value) : (pre ++ ([x] ++ post))[pre.length]? = some x := by
  rw [List.getElem?_append_right (Nat.le_refl _), Nat.sub_self]; rfl
theorem heap_at (pre post : ROs) (x : (Nat × Nat) × List Value) : (heapRO (pre ++ ([x] ++ post)))[pre.length]? = some (.cells x.2 0 true 3 []) := by
  unfold heapRO
  rw [List.getElem?_map, ro_at pre [] post x]; rfl
theorem prs_arg {W : World} {a : Option Addr} {len cap : Nat} {X : List (Int × Int)} (h : IsPrs W a len cap X) : X.length ≤ 9223372036854775807 ∧ ∃ b1 : ROs, ROin W b1 ∧ ∀ pre post : ROs, ∃ u, VR (mapRO (pre ++ (b1 ++ post))) u (.slice a len cap) ∧ PSc (heapRO (pre ++ (b1 ++ post))) u X := by
  rcases h with ⟨rfl, rfl, rfl, rfl⟩ | ⟨x, rfl, hsp, hlen, hle, hm, ⟨rcs, rel, fr, hA, hcs⟩, _⟩
  · exact ⟨Nat.zero_le _, [], (fun x hx => by cases hx), fun pre post => ⟨.slice none 0 0, .sl0, none, 0, rfl, .inl ⟨Nat.le_refl _, by decide⟩, .inl ⟨rfl, by decide, rfl⟩⟩⟩
  · have hlt : cap < UNK := Nat.lt_of_le_of_lt hm (by decide)
    have hmx : maxLen ≤ 9223372036854775807 := by decide
    refine ⟨by omega, [((x.block, x.off), prs X)], fun y hy => ?_, fun pre post => ⟨.slice (some ⟨pre.length, 0, none⟩) len cap, VR.ro (ro_at pre [] post _) hsp hle hlt, some ⟨pre.length, 0, none⟩, cap, by rw [hlen], .inl ⟨by omega, hlt⟩, .inr ⟨pre.length, 0, rfl, fun _ => Prs.mk0 (heap_at pre post _) rfl⟩⟩⟩
    rw [List.mem_singleton] at hy
    subst hy
    exact ⟨prs_sc X, rcs, rel, fr, hA, hcs⟩
theorem ROin.app {W : World} {a b : ROs} (h1 : ROin W a) (h2 : ROin W b) : ROin W (a ++ b) := fun x hx => by
  rw [List.mem_append] at hx
  exact hx.elim (h1 x) (h2 x)
end Go.Proofs.YtpkhkghiidilcaaDoor.Sh

