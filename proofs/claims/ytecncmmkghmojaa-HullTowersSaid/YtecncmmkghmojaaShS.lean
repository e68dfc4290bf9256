/- The shadow machine: what an operation looks at; places kept; regions in the order of the text. -/
import Derived.Test.YtecncmmkghmojaaShR
set_option linter.all false
namespace Go.Proofs.Ytecncmmkghmojaa.Sh
open Go Go.RowKit

theorem evs_congr {t t' : T} {xs : List Operand} (h : ∀ x ∈ xs, ev t x = ev t' x) : evs t xs = evs t' xs := by
  induction xs with
  | nil => rfl
  | cons x r ih => unfold evs; rw [h x (by simp), ih (fun y hy => h y (by simp [hy]))]
theorem evp_congr {t t' : T} {xs : List (Nat × Nat × Operand)} (h : ∀ x ∈ xs, ev t x.2.2 = ev t' x.2.2) : evp t xs = evp t' xs := by
  induction xs with
  | nil => rfl
  | cons x r ih =>
    obtain ⟨o, s, x⟩ := x
    unfold evp; rw [h (o, s, x) (by simp), ih (fun y hy => h y (by simp [hy]))]
theorem evo_congr {t t' : T} {x : Option Operand} (h : ∀ y ∈ x.toList, ev t y = ev t' y) : evo t x = evo t' x := by
  cases x with
  | none => rfl
  | some x =>
    have e := h x (by simp)
    simp only [evo, e]

theorem opRun_congr {R : Rec} {cx : Cx} {sl : Option Nat} {o : SOp} {t t' : T} {h : SHeap} {d : List Nat} (hh : ∀ x ∈ opnds o, ev t x = ev t' x) : opRun R cx sl o t h d = opRun R cx sl o t' h d := by
  cases o with
  | build z ps =>
    have : evp t ps = evp t' ps := evp_congr (fun x hx => hh x.2.2 (List.mem_map.2 ⟨x, hx, rfl⟩))
    simp only [opRun, o_build, this]
  | buildSlice el pf z n ps =>
    have : evp t ps = evp t' ps := evp_congr (fun x hx => hh x.2.2 (List.mem_map.2 ⟨x, hx, rfl⟩))
    simp only [opRun, o_buildSlice, this]
  | slice e s x lo hi mx =>
    have e0 := hh x (by simp [opnds])
    have e1 : evo t lo = evo t' lo := evo_congr (fun y hy => hh y (by simp only [opnds, List.mem_cons, List.mem_append]; exact .inr (.inl (.inl hy))))
    have e2 : evo t hi = evo t' hi := evo_congr (fun y hy => hh y (by simp only [opnds, List.mem_cons, List.mem_append]; exact .inr (.inl (.inr hy))))
    have e3 : evo t mx = evo t' mx := evo_congr (fun y hy => hh y (by simp only [opnds, List.mem_cons, List.mem_append]; exact .inr (.inr hy)))
    simp only [opRun, o_slice, e0, e1, e2, e3]
  | sliceArr e s x lo hi mx =>
    have e0 := hh x (by simp [opnds])
    have e1 : evo t lo = evo t' lo := evo_congr (fun y hy => hh y (by simp only [opnds, List.mem_cons, List.mem_append]; exact .inr (.inl (.inl hy))))
    have e2 : evo t hi = evo t' hi := evo_congr (fun y hy => hh y (by simp only [opnds, List.mem_cons, List.mem_append]; exact .inr (.inl (.inr hy))))
    have e3 : evo t mx = evo t' mx := evo_congr (fun y hy => hh y (by simp only [opnds, List.mem_cons, List.mem_append]; exact .inr (.inr hy)))
    simp only [opRun, o_sliceArr, e0, e1, e2, e3]
  | makeFunc f a b =>
    have e1 : evs t a = evs t' a := evs_congr (fun y hy => hh y (by simp only [opnds, List.mem_append]; exact .inl hy))
    have e2 : evs t b = evs t' b := evs_congr (fun y hy => hh y (by simp only [opnds, List.mem_append]; exact .inr hy))
    simp only [opRun, o_makeFunc, e1, e2]
  | maxi xs =>
    have e : evs t xs = evs t' xs := evs_congr hh
    simp only [opRun, o_maxi, e]
  | mini xs =>
    have e : evs t xs = evs t' xs := evs_congr hh
    simp only [opRun, o_mini, e]
  | call f xs =>
    have e0 := hh f (by simp [opnds])
    have e1 : evs t xs = evs t' xs := evs_congr (fun y hy => hh y (by simp [opnds, hy]))
    simp only [opRun, o_call, e0, e1]
  | _ =>
    simp only [opnds, List.mem_cons, List.not_mem_nil, or_false, forall_eq_or_imp, forall_eq, false_imp_iff, implies_true] at hh
    simp only [opRun, o_mov, o_pick, o_alloc, o_box, o_load, o_store, o_nilCheck, o_bin, o_eq, o_un, o_conv, o_fieldAddr, o_field, o_idxArr, o_idxSl, o_idx, o_extract, o_len, o_append, o_copy, o_makeSlice, o_makeMap, o_lookup, o_mapUpdate, o_mapLen, o_idxStr, o_clear, hh]

/-- reads a map -/
def isMp : SOp → Bool
  | .lookup .. | .mapLen .. => true
  | _ => false

theorem comp_nomap {P : Program} {op : Op} {so : SOp} (hc : compOp P op = some so) : isMp so = false := by
  cases hm : isMp so with
  | false => rfl
  | true =>
    exfalso
    unfold compOp at hc
    split at hc
    all_goals
      (try unfold compCall at hc)
      (try unfold ifO at hc)
      (repeat' split at hc)
      all_goals first
        | (cases hc; done)
        | (cases hc; cases hm; done)
        | (obtain ⟨_, _, rfl⟩ := map_some' hc; cases hm; done)

theorem same_of {v u : Value} {x : Option Value} {h h' : SHeap} {d d' : List Nat} (k : same x h d = some (v, h', d')) : h' = h ∧ d' = d ∧ ∀ h2 d2, same x h2 d2 = some (v, h2, d2) := by
  obtain ⟨rfl, rfl, rfl⟩ := same_some k
  exact ⟨rfl, rfl, fun _ _ => rfl⟩

/-- an operation that touches no memory -/
theorem pure_op {R : Rec} {cx : Cx} {sl : Option Nat} {o : SOp} {t : T} {h h' : SHeap} {d d' : List Nat} {v : Value} (h1 : isE o = false) (h2 : makes o = false) (h3 : isLd o = false) (h4 : isMp o = false)
    (hs : opRun R cx sl o t h d = some (v, h', d')) : h' = h ∧ d' = d ∧ ∀ sl2 k2 d2, opRun R cx sl2 o t k2 d2 = some (v, k2, d2) := by
  cases o <;> first
    | (cases h1; done)
    | (cases h2; done)
    | (cases h3; done)
    | (cases h4; done)
    | skip
  all_goals simp only [opRun, o_mov, o_pick, o_build, o_nilCheck, o_bin, o_eq, o_un, o_conv, o_fieldAddr, o_field, o_idxArr, o_idxSl, o_idx, o_slice, o_sliceArr, o_makeFunc, o_extract, o_len, o_maxi, o_mini, o_idxStr] at hs ⊢
  all_goals
    (repeat' split at hs)
    all_goals first
      | (cases hs; done)
      | (cases hs; exact ⟨rfl, rfl, fun _ _ _ => rfl⟩)
      | (obtain ⟨q1, q2, q3⟩ := same_some hs; subst q2 q3; simp_all [same]; done)
      | (cases hs; simp_all; done)

end Go.Proofs.Ytecncmmkghmojaa.Sh
