/- All stocks that moves lead to. The walk. -/
import Derived.Test.YtpkhkghiidilcaaDoorH46
set_option linter.all false
namespace Go.Proofs.YtpkhkghiidilcaaDoor.Sh
section
open Go
set_option maxRecDepth 100000
set_option maxHeartbeats 4000000
structure RS (H : SHeap) (n : Nat) (L : List (Nat → Int)) (v : Value) (b : Nat) (h : SHeap) : Prop where
 low : ∀ j, j < H.length → h[j]? = H[j]?
 le : H.length + 1 < h.length
 mp : h[H.length]? = some (.map true (entK n L))
 els : ∃ cs, AccF (H.length + 1) h v cs 25 b ∧ cs.length = L.length ∧ ∀ (i : Nat) (hi : i < L.length), ∃ x, cs[i]? = some x ∧ LeafC H.length h x ∧ IS h x (lst n L[i])
theorem LeafC.keep {base : Nat} {h h' : SHeap} {x : Value} (k : LeafC base h x) (e : ∀ (j : Nat) (ds : List Value) (el : TypeId) (own : Nat) (old : List Nat), h[j]? = some (SO.cells ds el true own old) → h'[j]? = h[j]?) : LeafC base h' x := by
 obtain ⟨b, o, n, c, rfl, hb⟩ := k
 refine ⟨b, o, n, c, rfl, hb.imp id ?_⟩
 rintro ⟨h1, ds, el, own, old, h2, h3⟩
 exact ⟨h1, ds, el, own, old, by rw [e b ds el own old h2]; exact h2, h3⟩
theorem IS.keepL {base : Nat} {h h' : SHeap} {x : Value} {l : List Int} (i : IS h x l) (k : LeafC base h x) (low : ∀ j, j < base → h'[j]? = h[j]?) (hl : h.length ≤ h'.length) (e : ∀ (j : Nat) (ds : List Value) (el : TypeId) (own : Nat) (old : List Nat), h[j]? = some (SO.cells ds el true own old) → h'[j]? = h[j]?) : IS h' x l := by
 obtain ⟨b, o, n, c, rfl, hb⟩ := k
 obtain ⟨a, c', e1, hi⟩ := i
 refine ⟨a, c', e1, fun hne => ?_⟩
 obtain ⟨b0, o0, e2, h1, h2⟩ := hi hne
 subst e2
 simp at e1
 obtain ⟨⟨q1, q2⟩, q3, q4⟩ := e1
 subst q1 q2
 refine ⟨b, o, rfl, by omega, h2.fr ?_⟩
 rcases hb with hb | ⟨_, ds, el, own, old, h3, _⟩
 ·exact low b hb
 ·exact e b ds el own old h3
section
variable {H h h' : SHeap} {n : Nat} {L : List (Nat → Int)} {v : Value} {b : Nat}
theorem RS.grow (R : RS H n L v b h) (hl : h.length ≤ h'.length) (low : ∀ j, j < H.length → h'[j]? = h[j]?) (mp : h'[H.length]? = h[H.length]?) (hb : h'[b]? = h[b]?) (e : ∀ (j : Nat) (ds : List Value) (el : TypeId) (own : Nat) (old : List Nat), h[j]? = some (SO.cells ds el true own old) → h'[j]? = h[j]?) : RS H n L v b h' := by
 obtain ⟨cs, A, h1, h2⟩ := R.els
 have hle := R.le
 refine ⟨fun j hj => by rw [low j hj]; exact R.low j hj, by omega, by rw [mp]; exact R.mp, cs, A.keep hb, h1, fun i hi => ?_⟩
 obtain ⟨x, x1, x2, x3⟩ := h2 i hi
 exact ⟨x, x1, x2.keep e, x3.keepL x2 low hl e⟩
theorem RS.app (R : RS H n L v b h) (g : SHeap) : RS H n L v b (h ++ g) := by
 obtain ⟨cs, A, _⟩ := R.els
 have hle := R.le
 exact R.grow (by simp) (fun j hj => List.getElem?_append_left (by omega)) (List.getElem?_append_left (by omega)) (List.getElem?_append_left A.lt) (fun j ds el own old hj => List.getElem?_append_left (List.getElem?_eq_some_iff.1 hj).1)
theorem RS.shape (R : RS H n L v b h) : ∃ c, v = .slice (some ⟨b, 0, none⟩) L.length c := by
 obtain ⟨cs, A, h1, _⟩ := R.els
 obtain ⟨c, old, e, _⟩ := A.shp
 exact ⟨c, by rw [e, h1]⟩
theorem RS.el (R : RS H n L v b h) {i : Nat} (hi : i < L.length) : ∃ x, loadS h none (.pointer (some ⟨b, i, none⟩)) = some x ∧ IS h x (lst n L[i]) := by
 obtain ⟨cs, A, h1, h2⟩ := R.els
 obtain ⟨x, x1, x2, x3⟩ := h2 i hi
 obtain ⟨c, old, e, h3, _⟩ := A.shp
 have := load_cell (o := i) h3 rfl x1 []
 rw [List.append_nil] at this
 exact ⟨x, this, x3⟩
theorem RS.push (R : RS H n L v b h) {nb : Nat} {t : Nat → Int} (hn1 : 1 ≤ n) (hlen : L.length ≤ 1000000) (hnb : h[nb]? = some (.cells (iV n t) 3 true 0 [])) (hnl : H.length ≤ nb) (hky : ¬ ∃ u ∈ L, kyN n u = kyN n t) :
  ∃ H2, (∀ (base : Nat) (d : List Nat), appendS base (h.set H.length (.map true (entK n (L ++ [t]))) ++ [.cells [.slice (some ⟨nb, 0, none⟩) n (UNK + 1)] 25 false 0 []]) d 25 false 1 24 v (.slice (some ⟨h.length, 0, none⟩) 1 1) = some (.slice (some ⟨h.length + 1, 0, none⟩) (L.length + 1) (UNK + 1), H2, d)) ∧
   RS H n (L ++ [t]) (.slice (some ⟨h.length + 1, 0, none⟩) (L.length + 1) (UNK + 1)) (h.length + 1) H2 ∧ h.length < H2.length ∧ ∀ (j : Nat) (ds : List Value) (el : TypeId) (own : Nat) (old : List Nat), h[j]? = some (SO.cells ds el true own old) → H2[j]? = h[j]? := by
 obtain ⟨cs, A, h1, h2⟩ := R.els
 have hle := R.le
 have hbl := A.lt
 have hlo := A.low
 have gl : (h.set H.length (.map true (entK n (L ++ [t]))) ++ [.cells [.slice (some ⟨nb, 0, none⟩) n (UNK + 1)] 25 false 0 []] : SHeap).length = h.length + 1 := by simp
 have gj : ∀ j, j < h.length → j ≠ H.length → (h.set H.length (.map true (entK n (L ++ [t]))) ++ [.cells [.slice (some ⟨nb, 0, none⟩) n (UNK + 1)] 25 false 0 []] : SHeap)[j]? = h[j]? := fun j hj hne => by
  rw [List.getElem?_append_left (by simp; exact hj), List.getElem?_set_ne (by omega)]
 have gm : (h.set H.length (.map true (entK n (L ++ [t]))) ++ [.cells [.slice (some ⟨nb, 0, none⟩) n (UNK + 1)] 25 false 0 []] : SHeap)[H.length]? = some (.map true (entK n (L ++ [t]))) := by
  rw [List.getElem?_append_left (by simp; omega), List.getElem?_set_self (by omega)]
 have gt : (h.set H.length (.map true (entK n (L ++ [t]))) ++ [.cells [.slice (some ⟨nb, 0, none⟩) n (UNK + 1)] 25 false 0 []] : SHeap)[h.length]? = some (.cells [.slice (some ⟨nb, 0, none⟩) n (UNK + 1)] 25 false 0 []) := by
  rw [List.getElem?_append_right (by simp)]; simp
 generalize (h.set H.length (.map true (entK n (L ++ [t]))) ++ [.cells [.slice (some ⟨nb, 0, none⟩) n (UNK + 1)] 25 false 0 []] : SHeap) = G at *
 have A2 : AccF (H.length + 1) G v cs 25 b := A.keep (gj b hbl (by omega))
 obtain ⟨H2, ap, A3, l3, k3⟩ := A2.push (bytes := 24) gt rfl rfl (by decide) (by omega)
 rw [gl, h1] at ap A3
 rw [gl] at l3 k3
 have hk : ∀ j, j < h.length → j ≠ H.length → j ≠ b → H2[j]? = h[j]? := fun j hj h1 h2 => by rw [k3 j (by omega) h2, gj j hj h1]
 have hcell : ∀ (j : Nat) (ds : List Value) (el : TypeId) (own : Nat) (old : List Nat), h[j]? = some (SO.cells ds el true own old) → H2[j]? = h[j]? := fun j ds el own old hj => by
  refine hk j (List.getElem?_eq_some_iff.1 hj).1 (fun e => ?_) (fun e => ?_)
  ·rw [e, R.mp] at hj; cases hj
  ·obtain ⟨c, old', _, q, _⟩ := A.shp
   rw [e, q] at hj
   injection hj with hj
   injection hj with _ _ hj
   cases hj
 refine ⟨H2, ap, ⟨fun j hj => by rw [hk j (by omega) (by omega) (by omega)]; exact R.low j hj, by omega, by rw [k3 _ (by omega) (by omega)]; exact gm, cs ++ [.slice (some ⟨nb, 0, none⟩) n (UNK + 1)], A3, by simp [h1], fun i hi => ?_⟩, by omega, hcell⟩
 by_cases c : i < L.length
 ·obtain ⟨x, x1, x2, x3⟩ := h2 i c
  refine ⟨x, by rw [List.getElem?_append_left (by omega)]; exact x1, x2.keep hcell, ?_⟩
  rw [List.getElem_append_left c]
  exact x3.keepL x2 (fun j hj => hk j (by omega) (by omega) (by omega)) (by omega) hcell
 ·have hiL : i = L.length := by simp at hi; omega
  subst hiL
  have hnb2 := hcell _ _ _ _ _ hnb
  refine ⟨.slice (some ⟨nb, 0, none⟩) n (UNK + 1), by rw [List.getElem?_append_right (by omega), h1, Nat.sub_self]; rfl, ⟨nb, 0, n, UNK + 1, rfl, .inr ⟨hnl, _, _, _, _, by rw [hnb2]; exact hnb, rfl⟩⟩, ?_⟩
  have : (L ++ [t])[L.length]'hi = t := by simp
  rw [this]
  exact IS.lstAt (by rw [hnb2]; exact hnb) rfl
end
end
end Go.Proofs.YtpkhkghiidilcaaDoor.Sh
namespace Go.Proofs.YtpkhkghiidilcaaDoor.Sh
section
open Go
set_option maxRecDepth 100000
set_option maxHeartbeats 4000000
theorem load_pair {h : SHeap} {b : Nat} {L : List (Nat × Nat)} {el : TypeId} {pf : Bool} {own : Nat} {old : List Nat} (hb : h[b]? = some (.cells (prN L) el pf own old)) (hr : readable own = true) {j : Nat} (hj : j < L.length) : loadS h (some 2) (.pointer (some ⟨b, j * 2, none⟩)) = some (.agg #[.int .i64 (L[j].1 : Int), .int .i64 (L[j].2 : Int)]) := by
 have hp : Prs h b 0 (castE L) := Prs.mk0 (el := el) (pf := pf) (own := own) (old := old) (by rw [hb, prN_prs]) hr
 have := hp.loadN (i := j) (by rw [castE_len]; exact hj)
 rw [Nat.zero_add] at this
 rw [this]
 simp [castE]
section
variable {H : SHeap} {n : Nat} {E : List (Int × Int)} {s : Nat → Int} {ev : Value}
end
end
end Go.Proofs.YtpkhkghiidilcaaDoor.Sh
