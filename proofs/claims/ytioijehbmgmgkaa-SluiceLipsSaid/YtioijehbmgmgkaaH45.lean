/- The shadow machine: several arguments that lie in memory. -/
import Derived.Test.YtioijehbmgmgkaaM3
import Derived.Test.YtioijehbmgmgkaaH41
import Derived.ChangeSlices
set_option linter.all false
namespace Go.Proofs.Ytioijehbmgmgkaa.Sh
open Go Go.RowKit
abbrev ROs := List ((Nat × Nat) × List Value)
def mapRO (bs : ROs) : Mp := bs.map fun x => some (x.1, none)
def heapRO (bs : ROs) : SHeap := bs.map fun x => .cells x.2 0 true 3 []
def ROin (W : World) (bs : ROs) : Prop := ∀ x ∈ bs, x.2.all sc = true ∧ ∃ rcs rel fr, W.heap[x.1.1]? = some (.cells rcs rel fr) ∧ ∀ (i : Nat) (v : Value), x.2[i]? = some v → rcs[x.1.2 + i]? = some v
theorem mapRO_full {bs : ROs} {b : Nat} : (mapRO bs).full b = (bs[b]?).map fun x => (x.1, none) := by
  unfold mapRO Mp.full
  rw [List.getElem?_map]
  cases bs[b]? <;> rfl
theorem mapRO_at {bs : ROs} {b : Nat} {p : Nat × Nat} (h : (mapRO bs).at b = some p) : ∃ cs, bs[b]? = some (p, cs) := by
  unfold Mp.at at h
  rw [mapRO_full] at h
  cases e : bs[b]? with
  | none => rw [e] at h; cases h
  | some x =>
    rw [e] at h
    obtain ⟨p', cs⟩ := x
    simp at h
    subst h
    exact ⟨cs, rfl⟩
theorem mapRO_cp {bs : ROs} {b : Nat} {p : Nat × Nat} (h : (mapRO bs).cp b = some p) : False := by
  unfold Mp.cp at h
  rw [mapRO_full] at h
  cases e : bs[b]? with
  | none => rw [e] at h; cases h
  | some x => rw [e] at h; cases h
theorem heapRO_at {bs : ROs} {b : Nat} {o : SO} (h : (heapRO bs)[b]? = some o) : ∃ x, bs[b]? = some x ∧ o = .cells x.2 0 true 3 [] := by
  unfold heapRO at h
  rw [List.getElem?_map, Option.map_eq_some_iff] at h
  obtain ⟨x, h1, h2⟩ := h
  exact ⟨x, h1, h2.symm⟩
theorem Rel.ro {P : Program} {W : World} (hg : GlobW P W) {bs : ROs} (hb : ROin W bs) : Rel ⟨P, W.heap.size, W⟩ (mapRO bs) (heapRO bs) W := by
  refine ⟨by simp [mapRO, heapRO], ?_, ?_, ?_, ?_, ?_, ?_, Below.refl _ _, Nat.le_refl _, hg⟩
  · intro b A δ h
    obtain ⟨cs, e⟩ := mapRO_at h
    obtain ⟨_, rcs, rel, fr, hA, _⟩ := hb _ (List.mem_of_getElem? e)
    exact (Array.getElem?_eq_some_iff.1 hA).1
  · intro b o A δ ho h
    obtain ⟨cs, e⟩ := mapRO_at h
    obtain ⟨x, e2, rfl⟩ := heapRO_at ho
    rw [e] at e2
    cases e2
    obtain ⟨hsc, rcs, rel, fr, hA, hcs⟩ := hb _ (List.mem_of_getElem? e)
    refine .inr ⟨rcs, rel, fr, hA, ?_, .inl rfl, fun _ => hsc, fun c hc => by simp at hc⟩
    intro i v hv
    refine ⟨v, hcs i v hv, ?_⟩
    have : sc v = true := List.all_eq_true.1 hsc v (List.mem_of_getElem? hv)
    cases v <;> first | (cases this; done) | constructor
  · intro b o A δ ho h _ hro
    obtain ⟨x, _, rfl⟩ := heapRO_at ho
    simp [isRO] at hro
  · intro b1 b2 o1 o2 A δ1 δ2 hne h1 h2 _ _ _ _
    obtain ⟨x, _, rfl⟩ := heapRO_at h1
    obtain ⟨y, _, rfl⟩ := heapRO_at h2
    exact .inl ⟨rfl, rfl⟩
  · intro b A δ K s _ h
    exact (mapRO_cp h).elim
  · intro b K s cs el pf own old _ h
    exact (mapRO_cp h).elim
theorem VR.agg2 {m : Mp} {a b a' b' : Value} (h1 : VR m a a') (h2 : VR m b b') : VR m (.agg #[a, b]) (.agg #[a', b']) := by
  refine .agg rfl (fun i x y hx hy => ?_)
  match i with
  | 0 => cases hx; cases hy; exact h1
  | 1 => cases hx; cases hy; exact h2
  | i + 2 => simp at hx
theorem VR.agg3 {m : Mp} {a b c a' b' c' : Value} (h1 : VR m a a') (h2 : VR m b b') (h3 : VR m c c') : VR m (.agg #[a, b, c]) (.agg #[a', b', c']) := by
  refine .agg rfl (fun i x y hx hy => ?_)
  match i with
  | 0 => cases hx; cases hy; exact h1
  | 1 => cases hx; cases hy; exact h2
  | 2 => cases hx; cases hy; exact h3
  | i + 3 => simp at hx
theorem VR.ro {bs : ROs} {b : Nat} {x : Addr} {cs : List Value} (hb : bs[b]? = some ((x.block, x.off), cs)) (hs : x.spot = none) {n c : Nat} (hn : n ≤ c) (hc : c < UNK) : VR (mapRO bs) (.slice (some ⟨b, 0, none⟩) n c) (.slice (some x) n c) := by
  have hx : x = ⟨x.block, x.off + 0, none⟩ := by cases x; simp at hs; subst hs; rfl
  rw [hx]
  refine .sl ?_ hn (.inl ⟨rfl, hc⟩)
  unfold Mp.at
  rw [mapRO_full, hb]; rfl
def IsIntsW (W : World) (a : Option Addr) (len cap : Nat) (l : List Int) : Prop :=
  (a = none ∧ len = 0 ∧ cap = 0 ∧ l = []) ∨ ∃ x : Addr, a = some x ∧ x.spot = none ∧ l.length = len ∧ len ≤ cap ∧ cap ≤ maxLen ∧
    (∃ rcs rel fr, W.heap[x.block]? = some (.cells rcs rel fr) ∧ ∀ (i : Nat) (v : Value), (l.map mkI)[i]? = some v → rcs[x.off + i]? = some v)
theorem isInts_of {H : Type} {enc : TypeId × Value → H} {P : Program} {W : World} {base b0 : Nat} {spare : Nat → Bool} {held : Bool} {t e : TypeId} {a : Option Addr} {len cap : Nat} {d : DataW H} {ps : List MemPlace}
    (ht : P.underlying t = some (.slice e)) (he : P.underlying e = some (.int .i64)) (hc : P.cellsOf e = 1)
    (hval : Value.okWide P W .any b0 t (.slice a len cap)) (h : DataW.Trod enc P W base spare held t (.slice a len cap) d ps) : ∃ l, IsIntsW W a len cap l := by
  obtain ⟨fuel, hf⟩ := h
  have hf' : DataW.trod enc P W base spare held fuel t [.slice a len cap] = some (d, ps) := hf
  rcases ChangeShapes.open_ints ht he hc hf' with ⟨h1, _⟩ | ⟨x, len', cap', zs, h1, hb, hl, hm, hz, _, hcell, _⟩
  · simp at h1
    obtain ⟨rfl, rfl, rfl⟩ := h1
    exact ⟨[], .inl ⟨rfl, rfl, rfl, rfl⟩⟩
  · simp only [List.cons.injEq, Value.slice.injEq, and_true] at h1
    obtain ⟨rfl, rfl, rfl⟩ := h1
    have hk : x.spot = none ∧ ∃ row cells, W.shape? x.block = some (row, cells) := by
      simp only [Value.okWide, ht, Cell.okWide, Cell.ok, World.has] at hval
      obtain ⟨_, _, _, h2, row, cells, h3, _⟩ := hval
      exact ⟨h2, row, cells, h3⟩
    obtain ⟨hs, row, cells, hsh⟩ := hk
    obtain ⟨rcs, rel, fr, hA⟩ : ∃ rcs rel fr, W.heap[x.block]? = some (.cells rcs rel fr) := by
      unfold World.shape? at hsh
      split at hsh
      · rename_i c el fr hx; exact ⟨c, el, fr, hx⟩
      · cases hsh
    have hzl : len ≤ zs.length := by rw [hz]; split <;> omega
    refine ⟨zs.take len, .inr ⟨x, rfl, hs, by simp; omega, hl, hm, rcs, rel, fr, hA, ?_⟩⟩
    intro i v hv
    rw [List.getElem?_map, Option.map_eq_some_iff] at hv
    obtain ⟨z, hz1, rfl⟩ := hv
    have hi : i < len := by
      have := (List.getElem?_eq_some_iff.1 hz1).1
      simp at this; omega
    have h2 := hcell i (by omega)
    rw [add_at hs] at h2
    have h3 : zs.getD i 0 = z := by
      rw [List.getElem?_take, if_pos hi] at hz1
      rw [List.getD_eq_getElem?_getD, hz1]; rfl
    rw [h3] at h2
    simp only [World.cell?, hA] at h2
    exact h2
theorem mkI_sc : ∀ l : List Int, (l.map mkI).all sc = true
  | [] => rfl
  | x :: r => by simp [mkI, sc, mkI_sc r]
end Go.Proofs.Ytioijehbmgmgkaa.Sh

