/- The shadow machine: slices that grow in a call, and are returned. -/
import Derived.Test.YtdmfhdnpakgkpaaDoorM3
namespace Go.Proofs.YtdmfhdnpakgkpaaDoor.Sh
open Go
set_option linter.all false

/-- what a call has gathered so far; H0: the heap behind which all of it lies, and which stays -/
structure AccS (H0 h : SHeap) (v : Value) (cs : List Value) (n s : Nat) (el : TypeId) : Prop where
  acc : Acc H0.length h v cs n s el
  le : H0.length ≤ h.length
  same : ∀ j, j < H0.length → h[j]? = H0[j]?

theorem AccS.nil (H0 : SHeap) (g : SHeap) (s : Nat) (el : TypeId) : AccS H0 (H0 ++ g) (.slice none 0 0) [] 0 s el :=
  ⟨.inl ⟨rfl, rfl, rfl⟩, by simp, fun j hj => List.getElem?_append_left hj⟩
theorem AccS.app {H0 h : SHeap} {v : Value} {cs : List Value} {n s : Nat} {el : TypeId} (A : AccS H0 h v cs n s el) (g : SHeap) : AccS H0 (h ++ g) v cs n s el :=
  ⟨A.acc.keep (fun b e => by rw [List.getElem?_append_left (A.acc.lt e).2]), by have := A.le; simp; omega, fun j hj => by rw [List.getElem?_append_left (by have := A.le; omega)]; exact A.same j hj⟩
theorem AccS.prs {H0 h : SHeap} {v : Value} {cs : List Value} {n s : Nat} {el : TypeId} (A : AccS H0 h v cs n s el) {b o : Nat} {l : List (Int × Int)} (hp : Prs H0 b o l) : Prs h b o l := by
  have e := A.same b hp.lt
  obtain ⟨pre, post, el2, pf, own, old, h1, h2⟩ := hp
  exact ⟨pre, post, el2, pf, own, old, by rw [e]; exact h1, h2⟩

/-- one more element: the cells of a block behind -/
theorem AccS.push {H0 h : SHeap} {v : Value} {cs new : List Value} {n s bytes : Nat} {el : TypeId} (A : AccS H0 h v cs n s el) {bs : Nat} {el2 : TypeId} {pf2 : Bool} {own2 : Nat} {old2 : List Nat}
    (hs : h[bs]? = some (.cells new el2 pf2 own2 old2)) (hr : readable own2 = true) (hl : new.length = s) (hs0 : 0 < s) (hsc : new.all sc = true) (hb0 : 0 < bytes) (hb : (n + 1) * bytes ≤ 140737488355328) :
    ∃ H2 v2, (∀ (base : Nat) (d : List Nat), appendS base h d el true s bytes v (.slice (some ⟨bs, 0, none⟩) 1 1) = some (v2, H2, d)) ∧ (∃ b, v2 = .slice (some ⟨b, 0, none⟩) (n + 1) (UNK + s)) ∧ AccS H0 H2 v2 (cs ++ new) (n + 1) s el ∧ h.length < H2.length ∧
      (∀ j, j < h.length → (∀ b, v = .slice (some ⟨b, 0, none⟩) n (UNK + s) → j ≠ b) → H2[j]? = h[j]?) := by
  obtain ⟨old, ap, acc2, kp⟩ := acc_append (bytes := bytes) A.acc hs hr hl hs0 hsc hb0 hb A.le
  refine ⟨_, _, ap, ⟨_, rfl⟩, ⟨acc2, by have := A.le; simp [shv_len]; omega, fun j hj => ?_⟩, by simp [shv_len], kp⟩
  have := A.le
  rw [kp j (by omega) (fun b e => by have := A.acc.lt e; omega)]
  exact A.same j hj

/-- what a call that has gathered returns -/
def resV (h : SHeap) (n s : Nat) : Value := if n = 0 then .slice none 0 0 else .slice (some ⟨h.length, 0, none⟩) n (UNK + s)
def resH (h : SHeap) (cs : List Value) (n : Nat) (el : TypeId) : SHeap := if n = 0 then h else h ++ [.cells cs el true 0 []]
theorem ren_none' {h : SHeap} {b : Nat} {old : List Nat} (hold : ∀ c ∈ old, h.length ≤ c ∧ c < b) : old.filterMap (ren h.length [b]) = [] := by
  rw [List.filterMap_eq_nil_iff]
  intro a ha
  obtain ⟨a1, a2⟩ := hold a ha
  have e4 : Nat.ble h.length a = true := by rw [ble_dec]; simpa using a1
  have e5 : Nat.beq b a = false := by rw [nbeq_dec]; simp; omega
  simp [ren, e4, posOf, e5]
theorem AccS.shape {H0 h : SHeap} {v : Value} {cs : List Value} {n s : Nat} {el : TypeId} (A : AccS H0 h v cs n s el) : ∃ a c, v = .slice a n c := by
  rcases A.acc with ⟨rfl, rfl, _⟩ | ⟨b, old, rfl, _⟩
  · exact ⟨_, _, rfl⟩
  · exact ⟨_, _, rfl⟩
theorem AccS.take {H0 h : SHeap} {v : Value} {cs : List Value} {n s : Nat} {el : TypeId} (A : AccS H0 h v cs n s el) {H : SHeap} {g : SHeap} (e : H0 = H ++ g) : h.take H.length = H := by
  subst e
  have := A.le
  exact take_of_same (by simp at this; omega) (fun j hj => by rw [A.same j (by simp; omega), List.getElem?_append_left hj])

section
variable {H g h : SHeap} {v : Value} {cs : List Value} {n s : Nat} {el : TypeId}
theorem AccS.cellsAt (A : AccS (H ++ g) h v cs n s el) (hn : n ≠ 0) : ∃ b old, v = .slice (some ⟨b, 0, none⟩) n (UNK + s) ∧ h[b]? = some (.cells cs el true 0 old) ∧ H.length ≤ b ∧ ∀ c ∈ old, H.length ≤ c ∧ c < b := by
  rcases A.acc with ⟨e, _⟩ | ⟨b, old, rfl, h1, h2, h3, h4, h5, h6⟩
  · exact (hn e).elim
  · simp at h4
    exact ⟨b, old, rfl, h1, by omega, fun c hc => by have := h6 c hc; simp at this; omega⟩
/-- the gathered slice alone is returned -/
theorem AccS.gc (A : AccS (H ++ g) h v cs n s el) : gcS H.length v h = some (resV H n s, resH H cs n el) := by
  by_cases hn : n = 0
  · rcases A.acc with ⟨_, rfl, _⟩ | ⟨b, old, rfl, h1, h2, h3, _⟩
    · rw [gc_nil, A.take rfl]; simp [resV, resH, hn]
    · exact (h3 hn).elim
  · obtain ⟨b, old, rfl, h1, h2, h3⟩ := A.cellsAt hn
    have ht := A.take rfl
    have eb : Nat.ble H.length b = true := by rw [ble_dec]; simpa using h2
    have e1 : reach H.length h 1000000 [b] [] = [b] := by
      rw [show (1000000 : Nat) = 999998 + 1 + 1 from rfl, reach]
      simp only [eb, List.contains_nil, Bool.not_true, Bool.or_self, Bool.false_eq_true, if_false, h1, ptrsO, Bool.true_or, if_true, List.nil_append]
      rw [reach]
    have e2 : ren H.length [b] b = some H.length := by simp [ren, eb, posOf]
    have e0 : ((0 : Nat) == 2) = false := rfl
    unfold gcS
    simp only [ptrs, ptr1, e1, renV, e2, mapO, renO, h1, e0, Bool.false_eq_true, if_false, if_true, ht, ren_none' h3]
    simp [resV, resH, hn]
theorem AccS.gc2 (A : AccS (H ++ g) h v cs n s el) (w : Value) (hw : flat 1 w = true) : gcS H.length (.tuple #[v, w]) h = some (.tuple #[resV H n s, w], resH H cs n el) := by
  have hp : ptrs 2 w = [] ∧ ∀ K, renV H.length K 2 w = some w := ⟨ptrs_flat 2 w (flat_up _ _ hw), fun K => renV_flat 2 w (flat_up _ _ hw)⟩
  by_cases hn : n = 0
  · have ht := A.take rfl
    have e3 := hp.2 []
    rcases A.acc with ⟨_, rfl, _⟩ | ⟨b, old, rfl, h1, h2, h3, _⟩
    · have e1 : ptrs 3 (.tuple #[.slice none 0 0, w]) = [] := by
        show ptrs 2 (.slice none 0 0) ++ (ptrs 2 w ++ []) = []
        rw [hp.1]; rfl
      unfold gcS
      rw [e1]
      rw [show (1000000 : Nat) = 999999 + 1 from rfl, reach]
      simp [renV, mapO, e3, ht, resV, resH, hn]
    · exact (h3 hn).elim
  · obtain ⟨b, old, rfl, h1, h2, h3⟩ := A.cellsAt hn
    have ht := A.take rfl
    have eb : Nat.ble H.length b = true := by rw [ble_dec]; simpa using h2
    have e1 : reach H.length h 1000000 [b] [] = [b] := by
      rw [show (1000000 : Nat) = 999998 + 1 + 1 from rfl, reach]
      simp only [eb, List.contains_nil, Bool.not_true, Bool.or_self, Bool.false_eq_true, if_false, h1, ptrsO, Bool.true_or, if_true, List.nil_append]
      rw [reach]
    have e2 : ren H.length [b] b = some H.length := by simp [ren, eb, posOf]
    have e0 : ((0 : Nat) == 2) = false := rfl
    have e3 := hp.2 [b]
    have e4 : ptrs 3 (.tuple #[.slice (some ⟨b, 0, none⟩) n (UNK + s), w]) = [b] := by
      show ptrs 2 (.slice (some ⟨b, 0, none⟩) n (UNK + s)) ++ (ptrs 2 w ++ []) = [b]
      rw [hp.1]; rfl
    unfold gcS
    simp only [e4, e1, renV, e2, e3, mapO, renO, h1, e0, Bool.false_eq_true, if_false, if_true, ht, ren_none' h3]
    simp [resV, resH, hn]
theorem AccS.ret1 (A : AccS (H ++ g) h v cs n s el) {i : Nat} {ρ : Reg} (hv : ρ i = v) : callQ [.tmp i] H.length (resV H n s, resH H cs n el, []) .ret ρ [] h [] := by
  obtain ⟨a, c, rfl⟩ := A.shape
  refine ⟨rfl, ?_⟩
  show opn (ρ i) fun v' => endW H.length h [] (_, _, []) [v']
  rw [hv]
  exact ⟨_, _, A.gc, rfl⟩
theorem AccS.ret2 (A : AccS (H ++ g) h v cs n s el) {i j : Nat} {ρ : Reg} (w : Value) (hv : ρ i = v) (hw : ρ j = w) (hf : flat 1 w = true) : callQ [.tmp i, .tmp j] H.length (.tuple #[resV H n s, w], resH H cs n el, []) .ret ρ [] h [] := by
  obtain ⟨a, c, rfl⟩ := A.shape
  refine ⟨rfl, ?_⟩
  show opn (ρ i) fun v' => opn (ρ j) fun w' => endW H.length h [] (_, _, []) [v', w']
  rw [hv, hw]
  show opn w fun w' => endW H.length h [] (_, _, []) [.slice a n c, w']
  exact opn_of hf ⟨_, _, A.gc2 w hf, rfl⟩
theorem AccS.q1 (A : AccS (H ++ g) h v cs n s el) {i : Nat} {ρ : Reg} {r : Value} {H' : SHeap} (hr : r = resV H n s) (hH : H' = resH H cs n el) (hv : ρ i = v) : callQ [.tmp i] H.length (r, H', []) .ret ρ [] h [] := by
  subst hr hH; exact A.ret1 hv
theorem AccS.q2 (A : AccS (H ++ g) h v cs n s el) {i j : Nat} {ρ : Reg} {r : Value} {H' : SHeap} (w : Value) (hr : r = .tuple #[resV H n s, w]) (hH : H' = resH H cs n el) (hv : ρ i = v) (hw : ρ j = w) (hf : flat 1 w = true) : callQ [.tmp i, .tmp j] H.length (r, H', []) .ret ρ [] h [] := by
  subst hr hH; exact A.ret2 w hv hw hf
end

/-! ### slices of which the capacity is the length -/
section
variable {H0 H h : SHeap} {b n o c s : Nat} {cs : List Value} {el : TypeId} {own : Nat} {old : List Nat}
end
end Go.Proofs.YtdmfhdnpakgkpaaDoor.Sh

