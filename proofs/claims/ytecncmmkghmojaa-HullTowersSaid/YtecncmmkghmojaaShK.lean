/- The shadow machine: operations, one by one, fourth part: len, append, copy, clear. -/
import Derived.Test.YtecncmmkghmojaaShJ
import Derived.Laws.Append
set_option linter.all false
namespace Go.Proofs.Ytecncmmkghmojaa.Sh
open Go Go.RowKit

section
variable {P : Program} {nt : Nat} {m : Mp} {t : T} {a : Act}

theorem cell?_heap {w w' : World} (h : w'.heap = w.heap) (p : Addr) : w'.cell? p = w.cell? p := by unfold World.cell?; rw [h]

/-- cells that the model reads where the shadow machine reads -/
theorem cells_run {E : Env} {h : SHeap} {w : World} (r : Rel E m h w) {b o n A δ : Nat} {l : List Value} (hx : rdN h b o n = some l) (hm : m.at b = some (A, δ)) :
    ∃ l' : List Value, LR m l l' ∧ l'.length = n ∧ (∀ j v, l'[j]? = some v → w.cell? ((⟨A, δ + o, none⟩ : Addr).add j) = some v) := by
  obtain ⟨hlen, hc⟩ := r.rdN hx hm
  have : ∀ (l : List Value) (k : Nat), (∀ (i : Nat) (x : Value), l[i]? = some x → ∃ y, w.cell? ⟨A, δ + o + (k + i), none⟩ = some y ∧ VR m x y) →
      ∃ l' : List Value, LR m l l' ∧ ∀ j v, l'[j]? = some v → w.cell? ⟨A, δ + o + (k + j), none⟩ = some v := by
    intro l
    induction l with
    | nil => intro k _; exact ⟨[], LR.nil m, fun j v hv => by simp at hv⟩
    | cons x l ih =>
      intro k hk
      obtain ⟨y, hy, hv⟩ := hk 0 x rfl
      obtain ⟨l', h1, h2⟩ := ih (k + 1) (fun i z hz => by
        have := hk (i + 1) z (by simpa using hz)
        rwa [show k + (i + 1) = k + 1 + i by omega] at this)
      refine ⟨y :: l', h1.cons hv, fun j v hj => ?_⟩
      cases j with
      | zero => simp at hj; subst hj; exact hy
      | succ j =>
        have := h2 j v (by simpa using hj)
        rwa [show k + (j + 1) = k + 1 + j by omega]
  obtain ⟨l', h3, h4⟩ := this l 0 (fun i x hx => by simpa using hc i x hx)
  exact ⟨l', h3, by rw [← h3.1, hlen], fun j v hv => by rw [addr_add]; simpa using h4 j v hv⟩

/-- the first n elements of a slice -/
theorem seen_run {E : Env} {h : SHeap} {w : World} (r : Rel E m h w) {size n : Nat} {x x' : Value} {l : List Value} (hv : VR m x x') (hs : seenS h size x n = some l) (hn : ∀ p c, x = .slice p 0 c → n = 0) :
    ∃ l' : List Value, LR m l l' ∧ l'.length = n * size ∧ ∀ w' : World, w'.heap = w.heap → (Builtin.firstCells size n x').run E.P w' = .ok l'.toArray w' := by
  unfold seenS at hs
  split at hs
  · split at hs
    · rename_i h0
      cases hs
      simp at h0; subst h0
      cases hv
      exact ⟨[], LR.nil m, by simp, fun w' _ => by simp [Builtin.firstCells]⟩
    · cases hs
  · rename_i b o len cap n'
    split at hs
    · rename_i h0
      cases hs
      simp at h0; subst h0
      refine ⟨[], LR.nil m, by simp, fun w' _ => ?_⟩
      cases hv <;> simp [Builtin.firstCells, loadCells, loadCellsFrom]
    · cases hv with
      | sl hm hle hc =>
        obtain ⟨l', h1, h2, h3⟩ := cells_run r hs hm
        refine ⟨l', h1, h2, fun w' hw => ?_⟩
        have := run_loadCells_list (P := E.P) w' _ l' (fun j v hv => by rw [cell?_heap hw]; exact h3 j v hv)
        rw [h2] at this
        simp [Builtin.firstCells, this]
      | slz => rename_i h0 _ _ _ _; simp [hn _ _ rfl] at h0
  · cases hs

/-- append, where there is room -/
theorem append_room {ts tx ty e ex : TypeId} {i : TypeInfo} (ht : P.underlying ts = some (.slice e)) (hu : P.underlying tx = some (.slice ex)) (hi : P.info? e = some i) {w : World}
    {A o len cap n : Nat} {y : Value} (hy : Builtin.lenOf y = pure n) {new : List Value} (hf : (Builtin.firstCells i.size n y).run P w = .ok new.toArray w) (hroom : len + n ≤ cap)
    (hc : ∀ j, j < new.length → (w.cell? ⟨A, o + len * i.size + j, none⟩).isSome = true) (hz : ∀ j, j < new.length → w.frozen? ⟨A, o + len * i.size + j, none⟩ = false) (h1 : ∀ v ∈ new, v.oneCell' = true) :
    (Builtin.append_ #[ts, tx] ty #[.slice (some ⟨A, o, none⟩) len cap, y]).run P w = .ok (.slice (some ⟨A, o, none⟩) (len + n) cap) (w.setCells A (o + len * i.size) new) := by
  have hst := run_storeCells_cells (P := P) A (o + len * i.size) new 0 w (by simpa using hc) (by simpa using hz) h1
  simp only [Nat.add_zero] at hst
  simp [Builtin.append_, run_underlying ht, run_underlying hu, sizeOf, typeInfo, hi, hy, hroom, hf, addr_add, hst]

/-- append, where there is none -/
theorem append_grow {ts tx ty e ex : TypeId} {i : TypeInfo} {z : Value} (ht : P.underlying ts = some (.slice e)) (hu : P.underlying tx = some (.slice ex)) (hi : P.info? e = some i) (hz : i.zero = some z) {w : World}
    {p : Option Addr} {len cap n : Nat} {y : Value} (hy : Builtin.lenOf y = pure n) {old new : List Value}
    (hf : ∀ w' : World, w'.heap = w.heap → (Builtin.firstCells i.size n y).run P w' = .ok new.toArray w') (ho : ∀ w' : World, w'.heap = w.heap → (Builtin.firstCells i.size len (.slice p len cap)).run P w' = .ok old.toArray w')
    (hno : cap < len + n) (hb : (len + n) * i.bytes ≤ 140737488355328) (hpos : 0 < i.bytes) :
    ∃ k rest, len + n ≤ k ∧ rest.length = (k - (len + n)) * z.cells.size ∧ (Builtin.append_ #[ts, tx] ty #[.slice p len cap, y]).run P w = .ok (.slice (some ⟨w.heap.size, 0, none⟩) (len + n) k) (w.drew.alloc (.cells (old ++ new ++ rest).toArray e)) := by
  have hn : ¬ (len + n ≤ cap) := by omega
  have hle : len + n ≤ (len + n) * i.bytes := Nat.le_mul_of_pos_right _ hpos
  have h63' : ¬ (9223372036854775807 < ((len : Int) + (n : Int))) := by omega
  have h48' : ¬ (281474976710656 < Builtin.nextslicecap (len + n) cap * i.bytes) := by have := growslice_fits hno hb; omega
  have hf' := hf w.drew rfl
  have ho' := ho w.drew rfl
  refine ⟨grownCap w (len + n) cap e, (Builtin.zeroCells z.cells (grownCap w (len + n) cap e - (len + n))).toList, by simp [grownCap, Question.cut], by simp [Builtin.zeroCells], ?_⟩
  simp [Builtin.append_, run_underlying ht, run_underlying hu, sizeOf, typeInfo, zeroValue, hi, hz, hy, hn, h63', h48', Question.forced, hf', ho', newRow, grownCap]
  congr 2
  apply Array.ext'
  simp [List.append_assoc]

theorem lenS_sim {y y' : Value} {n : Nat} (h : lenS y = some n) (hv : VR m y y') : Builtin.lenOf y' = pure n := by
  unfold lenS at h
  split at h
  · cases h; cases hv <;> rfl
  · cases h

theorem share_get (h : SHeap) (b c : Nat) : (share h b)[c]? = if b = c then (h[c]?).map (fun o => match o with | .cells cs el pf _ old => SO.cells cs el pf 1 old | o => o) else h[c]? := by
  unfold share
  split
  · rename_i cs el pf own old hb
    by_cases e : b = c
    · subst e
      have hlt : b < h.length := (List.getElem?_eq_some_iff.1 hb).1
      simp [hlt] at *
      rw [hb]
    · rw [List.getElem?_set_ne e, if_neg e]
  · rename_i hn
    by_cases e : b = c
    · subst e
      rw [if_pos rfl]
      cases hb : h[b]? with
      | none => rfl
      | some o => cases o with
        | cells cs el pf own old => exact absurd hb (hn cs el pf own old)
        | _ => rfl
    · rw [if_neg e]
theorem share_len (h : SHeap) (b : Nat) : (share h b).length = h.length := by unfold share; split <;> simp

end
end Go.Proofs.Ytecncmmkghmojaa.Sh
