/- GaussSquares: the law. -/
import Derived.Test.YtdmfhdnpakgkpaaDoorGk
import Derived.Test.YtdmfhdnpakgkpaaDoorGd
set_option linter.all false
namespace Go.Proofs.YtdmfhdnpakgkpaaDoor.Sh
open Go
set_option maxRecDepth 100000

theorem topA_low {n c : Nat} (h : c < topA n) : 2 * c * c ≤ n := by
  unfold topA at h
  cases hf : (List.range (n + 2)).find? (fun a => decide (n < 2 * a * a)) with
  | none => rw [hf] at h; exact absurd h (by simp)
  | some x =>
    rw [hf] at h
    rw [List.find?_range_eq_some] at hf
    have := hf.2.2 c h
    simpa using this
theorem sqs_pos {n : Nat} : ∀ q ∈ sqs n, 0 ≤ q.1 ∧ q.1 ≤ q.2 := by
  intro q hq
  unfold sqs sqL at hq
  obtain ⟨a, ha, hq⟩ := List.mem_flatMap.1 hq
  have h2 := topA_low (List.mem_range.1 ha)
  unfold sqAt at hq
  split at hq
  · rename_i b hb
    simp only [List.mem_singleton] at hq
    subst hq
    have h3 := List.find?_some hb
    simp at h3
    refine ⟨by show (0 : Int) ≤ (a : Int); omega, ?_⟩
    show (a : Int) ≤ (b : Int)
    by_cases c : a ≤ b
    · omega
    · have h4 := sq_mono (show b < a by omega)
      have h5 : 2 * a * a = 2 * (a * a) := Nat.mul_assoc _ _ _
      omega
  · cases hq

end Go.Proofs.YtdmfhdnpakgkpaaDoor.Sh

