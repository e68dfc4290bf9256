/- Slices of slices: how they grow, and what is kept of them. -/
import Derived.Test.YtpkhkghiidilcaaDoorH45
import Derived.Test.YtpkhkghiidilcaaDoorH41
set_option linter.all false
namespace Go.Proofs.YtpkhkghiidilcaaDoor.Sh
open Go
set_option maxRecDepth 100000
set_option maxHeartbeats 1000000
structure AccF (lo : Nat) (h : SHeap) (v : Value) (cs : List Value) (el : TypeId) (b : Nat) : Prop where
  ne : cs ≠ []
  one : cs.all oneC = true
  low : lo ≤ b
  shp : ∃ c old, v = .slice (some ⟨b, 0, none⟩) cs.length c ∧ h[b]? = some (.cells cs el false 0 old) ∧ ((c = UNK + 1 ∧ ∀ x ∈ old, lo ≤ x) ∨ (c = cs.length ∧ c < UNK ∧ old = []))
theorem AccF.lt {lo : Nat} {h : SHeap} {v : Value} {cs : List Value} {el : TypeId} {b : Nat} (A : AccF lo h v cs el b) : b < h.length := by
  obtain ⟨c, old, _, h1, _⟩ := A.shp
  exact (List.getElem?_eq_some_iff.1 h1).1
theorem AccF.keep {lo : Nat} {h h' : SHeap} {v : Value} {cs : List Value} {el : TypeId} {b : Nat} (A : AccF lo h v cs el b) (k : h'[b]? = h[b]?) : AccF lo h' v cs el b := by
  obtain ⟨c, old, e, h1, h2⟩ := A.shp
  exact ⟨A.ne, A.one, A.low, c, old, e, by rw [k]; exact h1, h2⟩
theorem AccF.push {lo : Nat} {h : SHeap} {v x : Value} {cs : List Value} {el : TypeId} {b bs bytes : Nat} (A : AccF lo h v cs el b) {el2 : TypeId} {pf2 : Bool} {own2 : Nat} {old2 : List Nat}
    (hs : h[bs]? = some (.cells [x] el2 pf2 own2 old2)) (hr : readable own2 = true) (hx : oneC x = true) (hb0 : 0 < bytes) (hb : (cs.length + 1) * bytes ≤ 140737488355328) :
    ∃ H2, (∀ (base : Nat) (d : List Nat), appendS base h d el false 1 bytes v (.slice (some ⟨bs, 0, none⟩) 1 1) = some (.slice (some ⟨h.length, 0, none⟩) (cs.length + 1) (UNK + 1), H2, d)) ∧
      AccF lo H2 (.slice (some ⟨h.length, 0, none⟩) (cs.length + 1) (UNK + 1)) (cs ++ [x]) el h.length ∧ H2.length = h.length + 1 ∧ ∀ j, j < h.length → j ≠ b → H2[j]? = h[j]? := by
  have hlt := A.lt
  obtain ⟨c, old, rfl, h1, h2⟩ := A.shp
  have hn0 : cs.length ≠ 0 := fun e => A.ne (List.length_eq_zero_iff.1 e)
  have hseen : rdN h bs 0 (1 * 1) = some [x] := by
    rw [rdN_def, hs]
    dsimp only
    rw [hr]; rfl
  have hsx : rdN h b 0 (cs.length * 1) = some cs := by
    rw [rdN_def, h1]
    dsimp only
    rw [readable_0, ble_dec, decide_eq_true (by omega), if_pos (by rfl), List.drop_zero, Nat.mul_one, List.take_length]
  have hn : (cs.length == 0) = false := beq_eq_false_iff_ne.2 hn0
  have e4 : Nat.ble ((cs.length + 1) * bytes) 140737488355328 = true := by rw [ble_dec]; simpa using hb
  have e5 : Nat.blt 0 bytes = true := by rw [blt_dec]; simpa using hb0
  have hone : [x].all oneC = true := by simp [hx]
  have hall : (cs ++ [x]).all oneC = true := by rw [List.all_append, A.one, hone]; rfl
  rcases h2 with ⟨rfl, hold⟩ | ⟨rfl, hu, rfl⟩
  · refine ⟨share h b ++ [.cells (cs ++ [x]) el false 0 (b :: old)], fun base d => ?_, ⟨by simp, hall, by have := A.low; omega, UNK + 1, b :: old, by rw [List.length_append, List.length_singleton], by rw [List.getElem?_append_right (by rw [share_ln]; omega), share_ln, Nat.sub_self]; rfl, .inl ⟨rfl, fun y hy => ?_⟩⟩, by simp [share_ln], fun j hj hne => by rw [List.getElem?_append_left (by rw [share_ln]; exact hj)]; exact share_gt h b j hne⟩
    · have e1 : Nat.ble UNK (UNK + 1) = true := by rw [ble_dec]; simp
      have e2 : Nat.beq (UNK + 1) (UNK + 1) = true := Nat.beq_refl _
      have e3 : Nat.beq (0 + cs.length * 1) cs.length = true := by rw [Nat.zero_add, Nat.mul_one]; exact Nat.beq_refl _
      unfold appendS
      simp only [lenS, seenS, hseen, hsx, hn, h1, e1, e2, e3, e4, e5, hone]
      simp [-List.all_eq_true, hone]
    · rcases List.mem_cons.1 hy with rfl | hy
      · exact A.low
      · exact hold y hy
  · refine ⟨h ++ [.cells (cs ++ [x]) el false 0 []], fun base d => ?_, ⟨by simp, hall, by have := A.low; omega, UNK + 1, [], by rw [List.length_append, List.length_singleton], by simp, .inl ⟨rfl, fun y hy => by cases hy⟩⟩, by simp, fun j hj _ => List.getElem?_append_left hj⟩
    have e1 : Nat.ble UNK cs.length = false := by rw [ble_dec]; exact decide_eq_false (by omega)
    have e2 : Nat.ble (cs.length + 1) cs.length = false := by rw [ble_dec]; exact decide_eq_false (by omega)
    unfold appendS
    simp only [lenS, seenS, hseen, hsx, hn, e1, e2, e4, e5, hone]
    simp [-List.all_eq_true, hone]
def LeafC (base : Nat) (h : SHeap) (x : Value) : Prop := ∃ b o n c, x = .slice (some ⟨b, o, none⟩) n c ∧ (b < base ∨ base ≤ b ∧ ∃ ds el own old, h[b]? = some (.cells ds el true own old) ∧ (own == 2) = false)
def SameC (h h' : SHeap) (x x' : Value) : Prop := ∃ b b' o n c, x = .slice (some ⟨b, o, none⟩) n c ∧ x' = .slice (some ⟨b', o, none⟩) n c ∧ ((b = b' ∧ h'[b']? = h[b]?) ∨ ∃ ds el own old old', h[b]? = some (.cells ds el true own old) ∧ h'[b']? = some (.cells ds el true own old'))
theorem SameC.is {h h' : SHeap} {x x' : Value} {l : List Int} (k : SameC h h' x x') (i : IS h x l) : IS h' x' l := by
  obtain ⟨b, b', o, n, c, rfl, rfl, hk⟩ := k
  obtain ⟨a, c', e, hi⟩ := i
  simp at e
  obtain ⟨e1, e2, e3⟩ := e
  subst e1 e2 e3
  refine ⟨some ⟨b', o, none⟩, c, rfl, fun hne => ?_⟩
  obtain ⟨b0, o0, e, h1, h2⟩ := hi hne
  simp at e
  obtain ⟨e1, e2⟩ := e
  subst e1 e2
  rcases hk with ⟨rfl, hk⟩ | ⟨ds, el, own, old, old', k1, k2⟩
  · refine ⟨b, o, rfl, ?_, h2.fr hk⟩
    rw [List.getElem?_eq_getElem h1] at hk
    exact (List.getElem?_eq_some_iff.1 hk).1
  · refine ⟨b', o, rfl, (List.getElem?_eq_some_iff.1 k2).1, fun j hj => ?_⟩
    have := h2 j hj
    rw [load_rdO, k1, rdO_cells] at this
    rw [load_rdO, k2, rdO_cells]; exact this
end Go.Proofs.YtpkhkghiidilcaaDoor.Sh

namespace Go.Proofs.YtpkhkghiidilcaaDoor.Sh
open Go
set_option maxRecDepth 100000
set_option maxHeartbeats 1000000
def kyN : Nat → (Nat → Int) → Int
  | 0, _ => 0
  | n + 1, s => kyN n s * 41 + s n
def entK (n : Nat) (L : List (Nat → Int)) : List (Value × Value) := L.map fun t => (.int .i64 (kyN n t), .bool true)
structure RQ (n : Nat) (E : List (Int × Int)) (s : Nat → Int) (L : List (Nat → Int)) (i k : Nat) : Prop where
  rg : ∀ t ∈ L, Rg n E n s t
  me : s ∈ L
  nd : L.Nodup
  st : ∀ t ∈ L, ST n t 12
  cl : ∀ (j : Nat) (hj : j < L.length), j < i → ∀ p ∈ MVL n E L[j], aft L[j] p.1 p.2 ∈ L
  cl2 : ∀ (hi : i < L.length) (j : Nat) (hj : j < (MVL n E L[i]).length), j < k → aft L[i] (MVL n E L[i])[j].1 (MVL n E L[i])[j].2 ∈ L
section
variable {n : Nat} {E : List (Int × Int)} {s : Nat → Int} {L : List (Nat → Int)} {i k : Nat}
theorem RQ.start (S : ST n s 12) : RQ n E s [s] 0 0 :=
  ⟨fun t ht => by rw [List.mem_singleton] at ht; subst ht; exact .refl _, by simp, by simp, fun t ht => by rw [List.mem_singleton] at ht; subst ht; exact S, fun j hj h => by omega, fun hi j hj h => by omega⟩
theorem RQ.next (Q : RQ n E s L i k) (hi : i < L.length) (hk : k = (MVL n E L[i]).length) : RQ n E s L (i + 1) 0 :=
  ⟨Q.rg, Q.me, Q.nd, Q.st, fun j hj h p hp => by
    by_cases e : j = i
    · subst e
      obtain ⟨q, hq, rfl⟩ := List.getElem_of_mem hp
      exact Q.cl2 hj q hq (by omega)
    · exact Q.cl j hj (by omega) p hp, fun hi j hj h => by omega⟩
theorem RQ.skip (Q : RQ n E s L i k) (hi : i < L.length) (hk : k < (MVL n E L[i]).length) (hm : aft L[i] (MVL n E L[i])[k].1 (MVL n E L[i])[k].2 ∈ L) : RQ n E s L i (k + 1) :=
  ⟨Q.rg, Q.me, Q.nd, Q.st, Q.cl, fun hi' j hj h => by
    by_cases e : j = k
    · subst e; exact hm
    · exact Q.cl2 hi' j hj (by omega)⟩
theorem RQ.push (hE : EOK n E) (hn : n ≤ 6) (Q : RQ n E s L i k) (hi : i < L.length) (hk : k < (MVL n E L[i]).length) (hm : aft L[i] (MVL n E L[i])[k].1 (MVL n E L[i])[k].2 ∉ L) : RQ n E s (L ++ [aft L[i] (MVL n E L[i])[k].1 (MVL n E L[i])[k].2]) i (k + 1) := by
  have hc : canM n E L[i] ((MVL n E L[i])[k].1 : Int) ((MVL n E L[i])[k].2 : Int) := MVb_mem (List.getElem_mem hk)
  obtain ⟨u1, u2, u3, u4⟩ := canM_iff.1 hc
  have hiL : (L ++ [aft L[i] (MVL n E L[i])[k].1 (MVL n E L[i])[k].2])[i]'(by simp; omega) = L[i] := by rw [List.getElem_append_left hi]
  refine ⟨fun t ht => ?_, by simp [Q.me], ?_, fun t ht => ?_, fun j hj h p hp => ?_, fun hi' j hj h => ?_⟩
  · rcases List.mem_append.1 ht with ht | ht
    · exact Q.rg t ht
    · rw [List.mem_singleton] at ht; subst ht
      exact (Q.rg L[i] (List.getElem_mem hi)).trans (.step _ _ u1 u2 u3 u4 (by omega) (.refl _))
  · rw [List.nodup_append]
    refine ⟨Q.nd, by simp, fun a ha b hb e => ?_⟩
    rw [List.mem_singleton] at hb
    subst hb e
    exact hm ha
  · rcases List.mem_append.1 ht with ht | ht
    · exact Q.st t ht
    · rw [List.mem_singleton] at ht; subst ht
      exact ((Q.st L[i] (List.getElem_mem hi)).aft hE hn u1 u2 u3 u4).mono (by omega)
  · have hjL : j < L.length := by omega
    rw [List.getElem_append_left hjL] at hp ⊢
    exact List.mem_append.2 (.inl (Q.cl j hjL h p hp))
  · rw [List.mem_append]
    simp only [hiL] at hj ⊢
    by_cases e : j = k
    · subst e; exact .inr (by simp)
    · exact .inl (Q.cl2 hi j hj (by omega))
theorem RQ.fin (hE : EOK n E) (Q : RQ n E s L i 0) (hi : i = L.length) (t : Nat → Int) : t ∈ L ↔ Rg n E n s t := by
  refine ⟨Q.rg t, fun h => ?_⟩
  have key : ∀ u w, Rg n E n u w → u ∈ L → w ∈ L := by
    intro u w h
    induction h with
    | refl u => exact id
    | step a b ha hb hadj h2 hg _ ih =>
      intro hu
      obtain ⟨j, hj, rfl⟩ := List.getElem_of_mem hu
      exact ih (Q.cl j hj (by omega) (a, b) (MVb_all ha hb (canM_iff.2 ⟨ha, hb, hadj, h2⟩)))
  exact key s t h Q.me
end
end Go.Proofs.YtpkhkghiidilcaaDoor.Sh

namespace Go.Proofs.YtpkhkghiidilcaaDoor.Sh
open Go
set_option maxRecDepth 100000
set_option maxHeartbeats 4000000
structure RS (H : SHeap) (n : Nat) (L : List (Nat → Int)) (v : Value) (b : Nat) (h : SHeap) : Prop where
  low : ∀ j, j < H.length → h[j]? = H[j]?
  le : H.length + 1 < h.length
  mp : h[H.length]? = some (.map true (entK n L))
  els : ∃ cs, AccF (H.length + 1) h v cs 25 b ∧ cs.length = L.length ∧ ∀ (i : Nat) (hi : i < L.length), ∃ x, cs[i]? = some x ∧ LeafC H.length h x ∧ IS h x (lst n L[i])
theorem LeafC.keep {base : Nat} {h h' : SHeap} {x : Value} (k : LeafC base h x) (e : ∀ (j : Nat) (ds : List Value) (el : TypeId) (own : Nat) (old : List Nat), h[j]? = some (SO.cells ds el true own old) → h'[j]? = h[j]?) : LeafC base h' x := by
  obtain ⟨b, o, n, c, rfl, hb⟩ := k
  refine ⟨b, o, n, c, rfl, hb.imp id ?_⟩
  rintro ⟨h1, ds, el, own, old, h2, h3⟩
  exact ⟨h1, ds, el, own, old, by rw [e b ds el own old h2]; exact h2, h3⟩
theorem IS.keepL {base : Nat} {h h' : SHeap} {x : Value} {l : List Int} (i : IS h x l) (k : LeafC base h x) (low : ∀ j, j < base → h'[j]? = h[j]?) (hl : h.length ≤ h'.length) (e : ∀ (j : Nat) (ds : List Value) (el : TypeId) (own : Nat) (old : List Nat), h[j]? = some (SO.cells ds el true own old) → h'[j]? = h[j]?) : IS h' x l := by
  obtain ⟨b, o, n, c, rfl, hb⟩ := k
  obtain ⟨a, c', e1, hi⟩ := i
  refine ⟨a, c', e1, fun hne => ?_⟩
  obtain ⟨b0, o0, e2, h1, h2⟩ := hi hne
  subst e2
  simp at e1
  obtain ⟨⟨q1, q2⟩, q3, q4⟩ := e1
  subst q1 q2
  refine ⟨b, o, rfl, by omega, h2.fr ?_⟩
  rcases hb with hb | ⟨_, ds, el, own, old, h3, _⟩
  · exact low b hb
  · exact e b ds el own old h3
section
variable {H h h' : SHeap} {n : Nat} {L : List (Nat → Int)} {v : Value} {b : Nat}
theorem RS.grow (R : RS H n L v b h) (hl : h.length ≤ h'.length) (low : ∀ j, j < H.length → h'[j]? = h[j]?) (mp : h'[H.length]? = h[H.length]?) (hb : h'[b]? = h[b]?) (e : ∀ (j : Nat) (ds : List Value) (el : TypeId) (own : Nat) (old : List Nat), h[j]? = some (SO.cells ds el true own old) → h'[j]? = h[j]?) : RS H n L v b h' := by
  obtain ⟨cs, A, h1, h2⟩ := R.els
  have hle := R.le
  refine ⟨fun j hj => by rw [low j hj]; exact R.low j hj, by omega, by rw [mp]; exact R.mp, cs, A.keep hb, h1, fun i hi => ?_⟩
  obtain ⟨x, x1, x2, x3⟩ := h2 i hi
  exact ⟨x, x1, x2.keep e, x3.keepL x2 low hl e⟩
theorem RS.app (R : RS H n L v b h) (g : SHeap) : RS H n L v b (h ++ g) := by
  obtain ⟨cs, A, _⟩ := R.els
  have hle := R.le
  exact R.grow (by simp) (fun j hj => List.getElem?_append_left (by omega)) (List.getElem?_append_left (by omega)) (List.getElem?_append_left A.lt) (fun j ds el own old hj => List.getElem?_append_left (List.getElem?_eq_some_iff.1 hj).1)
theorem RS.shape (R : RS H n L v b h) : ∃ c, v = .slice (some ⟨b, 0, none⟩) L.length c := by
  obtain ⟨cs, A, h1, _⟩ := R.els
  obtain ⟨c, old, e, _⟩ := A.shp
  exact ⟨c, by rw [e, h1]⟩
theorem RS.el (R : RS H n L v b h) {i : Nat} (hi : i < L.length) : ∃ x, loadS h none (.pointer (some ⟨b, i, none⟩)) = some x ∧ IS h x (lst n L[i]) := by
  obtain ⟨cs, A, h1, h2⟩ := R.els
  obtain ⟨x, x1, x2, x3⟩ := h2 i hi
  obtain ⟨c, old, e, h3, _⟩ := A.shp
  have := load_cell (o := i) h3 rfl x1 []
  rw [List.append_nil] at this
  exact ⟨x, this, x3⟩
theorem RS.push (R : RS H n L v b h) {nb : Nat} {t : Nat → Int} (hn1 : 1 ≤ n) (hlen : L.length ≤ 1000000) (hnb : h[nb]? = some (.cells (iV n t) 3 true 0 [])) (hnl : H.length ≤ nb) (hky : ¬ ∃ u ∈ L, kyN n u = kyN n t) :
    ∃ H2, (∀ (base : Nat) (d : List Nat), appendS base (h.set H.length (.map true (entK n (L ++ [t]))) ++ [.cells [.slice (some ⟨nb, 0, none⟩) n (UNK + 1)] 25 false 0 []]) d 25 false 1 24 v (.slice (some ⟨h.length, 0, none⟩) 1 1) = some (.slice (some ⟨h.length + 1, 0, none⟩) (L.length + 1) (UNK + 1), H2, d)) ∧
      RS H n (L ++ [t]) (.slice (some ⟨h.length + 1, 0, none⟩) (L.length + 1) (UNK + 1)) (h.length + 1) H2 ∧ h.length < H2.length ∧ ∀ (j : Nat) (ds : List Value) (el : TypeId) (own : Nat) (old : List Nat), h[j]? = some (SO.cells ds el true own old) → H2[j]? = h[j]? := by
  obtain ⟨cs, A, h1, h2⟩ := R.els
  have hle := R.le
  have hbl := A.lt
  have hlo := A.low
  have gl : (h.set H.length (.map true (entK n (L ++ [t]))) ++ [.cells [.slice (some ⟨nb, 0, none⟩) n (UNK + 1)] 25 false 0 []] : SHeap).length = h.length + 1 := by simp
  have gj : ∀ j, j < h.length → j ≠ H.length → (h.set H.length (.map true (entK n (L ++ [t]))) ++ [.cells [.slice (some ⟨nb, 0, none⟩) n (UNK + 1)] 25 false 0 []] : SHeap)[j]? = h[j]? := fun j hj hne => by
    rw [List.getElem?_append_left (by simp; exact hj), List.getElem?_set_ne (by omega)]
  have gm : (h.set H.length (.map true (entK n (L ++ [t]))) ++ [.cells [.slice (some ⟨nb, 0, none⟩) n (UNK + 1)] 25 false 0 []] : SHeap)[H.length]? = some (.map true (entK n (L ++ [t]))) := by
    rw [List.getElem?_append_left (by simp; omega), List.getElem?_set_self (by omega)]
  have gt : (h.set H.length (.map true (entK n (L ++ [t]))) ++ [.cells [.slice (some ⟨nb, 0, none⟩) n (UNK + 1)] 25 false 0 []] : SHeap)[h.length]? = some (.cells [.slice (some ⟨nb, 0, none⟩) n (UNK + 1)] 25 false 0 []) := by
    rw [List.getElem?_append_right (by simp)]; simp
  generalize (h.set H.length (.map true (entK n (L ++ [t]))) ++ [.cells [.slice (some ⟨nb, 0, none⟩) n (UNK + 1)] 25 false 0 []] : SHeap) = G at *
  have A2 : AccF (H.length + 1) G v cs 25 b := A.keep (gj b hbl (by omega))
  obtain ⟨H2, ap, A3, l3, k3⟩ := A2.push (bytes := 24) gt rfl rfl (by decide) (by omega)
  rw [gl, h1] at ap A3
  rw [gl] at l3 k3
  have hk : ∀ j, j < h.length → j ≠ H.length → j ≠ b → H2[j]? = h[j]? := fun j hj h1 h2 => by rw [k3 j (by omega) h2, gj j hj h1]
  have hcell : ∀ (j : Nat) (ds : List Value) (el : TypeId) (own : Nat) (old : List Nat), h[j]? = some (SO.cells ds el true own old) → H2[j]? = h[j]? := fun j ds el own old hj => by
    refine hk j (List.getElem?_eq_some_iff.1 hj).1 (fun e => ?_) (fun e => ?_)
    · rw [e, R.mp] at hj; cases hj
    · obtain ⟨c, old', _, q, _⟩ := A.shp
      rw [e, q] at hj
      injection hj with hj
      injection hj with _ _ hj
      cases hj
  refine ⟨H2, ap, ⟨fun j hj => by rw [hk j (by omega) (by omega) (by omega)]; exact R.low j hj, by omega, by rw [k3 _ (by omega) (by omega)]; exact gm, cs ++ [.slice (some ⟨nb, 0, none⟩) n (UNK + 1)], A3, by simp [h1], fun i hi => ?_⟩, by omega, hcell⟩
  by_cases c : i < L.length
  · obtain ⟨x, x1, x2, x3⟩ := h2 i c
    refine ⟨x, by rw [List.getElem?_append_left (by omega)]; exact x1, x2.keep hcell, ?_⟩
    rw [List.getElem_append_left c]
    exact x3.keepL x2 (fun j hj => hk j (by omega) (by omega) (by omega)) (by omega) hcell
  · have hiL : i = L.length := by simp at hi; omega
    subst hiL
    have hnb2 := hcell _ _ _ _ _ hnb
    refine ⟨.slice (some ⟨nb, 0, none⟩) n (UNK + 1), by rw [List.getElem?_append_right (by omega), h1, Nat.sub_self]; rfl, ⟨nb, 0, n, UNK + 1, rfl, .inr ⟨hnl, _, _, _, _, by rw [hnb2]; exact hnb, rfl⟩⟩, ?_⟩
    have : (L ++ [t])[L.length]'hi = t := by simp
    rw [this]
    exact IS.lstAt (by rw [hnb2]; exact hnb) rfl
end
end Go.Proofs.YtpkhkghiidilcaaDoor.Sh

namespace Go.Proofs.YtpkhkghiidilcaaDoor.Sh
open Go
set_option maxRecDepth 100000
set_option maxHeartbeats 4000000
theorem load_pair {h : SHeap} {b : Nat} {L : List (Nat × Nat)} {el : TypeId} {pf : Bool} {own : Nat} {old : List Nat} (hb : h[b]? = some (.cells (prN L) el pf own old)) (hr : readable own = true) {j : Nat} (hj : j < L.length) : loadS h (some 2) (.pointer (some ⟨b, j * 2, none⟩)) = some (.agg #[.int .i64 (L[j].1 : Int), .int .i64 (L[j].2 : Int)]) := by
  have hp : Prs h b 0 (castE L) := Prs.mk0 (el := el) (pf := pf) (own := own) (old := old) (by rw [hb, prN_prs]) hr
  have := hp.loadN (i := j) (by rw [castE_len]; exact hj)
  rw [Nat.zero_add] at this
  rw [this]
  simp [castE]
section
variable {H : SHeap} {n : Nat} {E : List (Int × Int)} {s : Nat → Int} {ev : Value}
end
end Go.Proofs.YtpkhkghiidilcaaDoor.Sh

namespace Go.Proofs.YtpkhkghiidilcaaDoor.Sh
open Go
set_option maxRecDepth 100000
set_option maxHeartbeats 4000000
structure PSt where
  b : Nat × Nat
  out : List Nat
  rest : List (Nat × Nat)
def pStep (adj : Nat → Nat → Bool) (rec : Nat → Int → Option (Nat × List Nat)) (v : Nat) (frm : Int) (S : PSt) (u : Nat) : Option PSt :=
  if (u : Int) = frm then some S
  else if adj v u = false then some S
  else match rec u v with
    | none => none
    | some r =>
      if 1000 < r.1 ∨ 1000 < S.out.length + r.2.length then none
      else if S.b.1 < r.1 + 1 then some ⟨(r.1 + 1, u), S.out ++ r.2, if S.b.1 = 0 then S.rest else S.rest ++ [S.b]⟩
      else some ⟨S.b, S.out ++ r.2, S.rest ++ [(r.1 + 1, u)]⟩
def pLoop (adj : Nat → Nat → Bool) (rec : Nat → Int → Option (Nat × List Nat)) (v : Nat) (frm : Int) : Nat → Nat → PSt → Option PSt
  | 0, _, S => some S
  | m + 1, u, S => match pStep adj rec v frm S u with
    | none => none
    | some S' => pLoop adj rec v frm m (u + 1) S'
def partsO (adj : Nat → Nat → Bool) (n : Nat) : Nat → Nat → Int → Option (Nat × List Nat)
  | 0, _, _ => none
  | k + 1, v, frm => match pLoop adj (partsO adj n k) v frm n 0 ⟨(0, 0), [], []⟩ with
    | none => none
    | some S => some (S.b.1, S.out ++ S.rest.map Prod.fst)
structure PT (H : SHeap) (S : PSt) (ov rv : Value) (h : SHeap) : Prop where
  le : H.length < h.length
  low : ∀ j, j < H.length → h[j]? = H[j]?
  bb : h[H.length]? = some (.cells [.int .i64 (S.b.1 : Nat), .int .i64 (S.b.2 : Nat)] 129 true 0 [])
  ao : Acc (H.length + 1) h ov (S.out.map nI) S.out.length 1 3
  ar : Acc (H.length + 1) h rv (prN S.rest) S.rest.length 2 129
  ne : ∀ (b m m' c c' : Nat), ov = .slice (some ⟨b, 0, none⟩) m c → rv ≠ .slice (some ⟨b, 0, none⟩) m' c'
section
variable {H h : SHeap} {S : PSt} {ov rv : Value}
theorem Acc.shape {lo : Nat} {h : SHeap} {v : Value} {cs : List Value} {n s : Nat} {el : TypeId} (a : Acc lo h v cs n s el) : ∃ a c, v = .slice a n c := by
  rcases a with ⟨rfl, rfl, _⟩ | ⟨b, old, rfl, _⟩
  · exact ⟨_, _, rfl⟩
  · exact ⟨_, _, rfl⟩
theorem PT.app (P : PT H S ov rv h) (g : SHeap) : PT H S ov rv (h ++ g) := by
  have hle := P.le
  exact ⟨by simp; omega, fun j hj => by rw [List.getElem?_append_left (by omega)]; exact P.low j hj, by rw [List.getElem?_append_left hle]; exact P.bb,
    P.ao.keep (fun b e => List.getElem?_append_left (P.ao.lt e).2), P.ar.keep (fun b e => List.getElem?_append_left (P.ar.lt e).2), P.ne⟩
theorem PT.setB (P : PT H S ov rv h) (k u : Nat) : (∀ base d, storeS base h d H.length 0 (cellsL (.agg #[.int .i64 (k : Nat), .int .i64 (u : Nat)])) = some (h.set H.length (.cells [.int .i64 (k : Nat), .int .i64 (u : Nat)] 129 true 0 []), d)) ∧ PT H ⟨(k, u), S.out, S.rest⟩ ov rv (h.set H.length (.cells [.int .i64 (k : Nat), .int .i64 (u : Nat)] 129 true 0 [])) := by
  have hle := P.le
  refine ⟨fun base d => ?_, by simp; omega, fun j hj => by rw [List.getElem?_set_ne (by omega)]; exact P.low j hj, by rw [List.getElem?_set_self hle], P.ao.keep (fun b e => List.getElem?_set_ne (by have := (P.ao.lt e).1; omega)), P.ar.keep (fun b e => List.getElem?_set_ne (by have := (P.ar.lt e).1; omega)), P.ne⟩
  have := store_at (h := h) (b := H.length) (base := base) (vs := [.int .i64 (k : Nat), .int .i64 (u : Nat)]) P.bb rfl (Nat.succ_pos _) rfl (fun _ => rfl) d
  rw [dirty_pf] at this
  exact this
theorem PT.pushO (P : PT H S ov rv h) (o : List Nat) (hl : S.out.length + o.length ≤ 1000) :
    ∃ G v2, (∀ (base : Nat) (d : List Nat), appendS base (resH h (o.map nI) o.length 3) d 3 true 1 8 ov (resV h o.length 1) = some (v2, G, d)) ∧ PT H ⟨S.b, S.out ++ o, S.rest⟩ v2 rv G := by
  have hle := P.le
  by_cases c : o.length = 0
  · have e : o = [] := List.length_eq_zero_iff.1 c
    subst e
    obtain ⟨a, cc, e⟩ := P.ao.shape
    refine ⟨h, ov, fun base d => ?_, ?_⟩
    · show appendS base h d 3 true 1 8 ov (.slice none 0 0) = _
      rw [e]
      unfold appendS
      simp [lenS]
    · rw [List.append_nil]; exact P
  · rw [← resV_pos h 1 c, ← resH_pos h _ 3 c]
    have P2 := P.app [.cells (o.map nI) 3 true 0 []]
    obtain ⟨old, ap, acc2, kp⟩ := acc_appendN (bytes := 8) (new := o.map nI) (m := o.length) (bs := h.length) (cb := UNK + 1) (el2 := 3) (pf2 := true) (own2 := 0) (old2 := []) P2.ao (by rw [app_get0]; rfl) rfl c (by simp) (by decide) (by rw [List.all_eq_true]; intro x hx; obtain ⟨y, _, rfl⟩ := List.mem_map.1 hx; rfl) (by decide) (by omega) (by simp; omega)
    refine ⟨_, _, ap, ?_, fun j hj => ?_, ?_, ?_, ?_, fun b m m' cc cc' e e2 => ?_⟩
    · simp [shv_len]; omega
    · rw [kp j (by simp; omega) (fun b e => by have := (P2.ao.lt e).1; omega)]; exact P2.low j hj
    · rw [kp _ (by simp; omega) (fun b e => by have := (P2.ao.lt e).1; omega)]; exact P2.bb
    · show Acc _ _ _ ((S.out ++ o).map nI) (S.out ++ o).length 1 3
      have e : (S.out ++ o).length = S.out.length + o.length := List.length_append
      rw [List.map_append, e]; exact acc2
    · exact P2.ar.keep (fun b e => kp b (P2.ar.lt e).2 (fun b' e' hb => by subst hb; exact P.ne _ _ _ _ _ e' e))
    · injection e with e _ _
      injection e with e
      injection e with e _ _
      rcases P.ar with ⟨_, h2, _⟩ | ⟨b', old', h2, h3, _⟩
      · rw [h2] at e2; simp at e2
      · rw [h2] at e2
        injection e2 with e2 _ _
        injection e2 with e2
        injection e2 with e2 _ _
        have := (List.getElem?_eq_some_iff.1 h3).1
        simp at e
        omega
theorem PT.pushR (P : PT H S ov rv h) (k u : Nat) (hl : S.rest.length ≤ 1000) :
    ∃ G v2, (∀ (base : Nat) (d : List Nat), appendS base (h ++ [.cells [.int .i64 (k : Nat), .int .i64 (u : Nat)] 129 true 0 []]) d 129 true 2 16 rv (.slice (some ⟨h.length, 0, none⟩) 1 1) = some (v2, G, d)) ∧ PT H ⟨S.b, S.out, S.rest ++ [(k, u)]⟩ ov v2 G := by
  have hle := P.le
  have P2 := P.app [.cells [.int .i64 (k : Nat), .int .i64 (u : Nat)] 129 true 0 []]
  obtain ⟨old, ap, acc2, kp⟩ := acc_append (bytes := 16) (new := [.int .i64 (k : Nat), .int .i64 (u : Nat)]) (bs := h.length) (el2 := 129) (pf2 := true) (own2 := 0) (old2 := []) P2.ar (by rw [app_get0]; rfl) rfl rfl (by decide) rfl (by decide) (by omega) (by simp; omega)
  refine ⟨_, _, ap, ?_, fun j hj => ?_, ?_, ?_, ?_, fun b m m' cc cc' e e2 => ?_⟩
  · simp [shv_len]; omega
  · rw [kp j (by simp; omega) (fun b e => by have := (P2.ar.lt e).1; omega)]; exact P2.low j hj
  · rw [kp _ (by simp; omega) (fun b e => by have := (P2.ar.lt e).1; omega)]; exact P2.bb
  · exact P2.ao.keep (fun b e => kp b (P2.ao.lt e).2 (fun b' e' hb => by subst hb; exact P.ne _ _ _ _ _ e e'))
  · show Acc _ _ _ (prN (S.rest ++ [(k, u)])) (S.rest ++ [(k, u)]).length 2 129
    have e : (S.rest ++ [(k, u)]).length = S.rest.length + 1 := by simp
    rw [prN_snoc, e]; exact acc2
  · injection e2 with e2 _ _
    injection e2 with e2
    injection e2 with e2 _ _
    rcases P.ao with ⟨_, h2, _⟩ | ⟨b', old', h2, h3, _⟩
    · rw [h2] at e; simp at e
    · rw [h2] at e
      injection e with e _ _
      injection e with e
      injection e with e _ _
      have := (List.getElem?_eq_some_iff.1 h3).1
      simp at e2
      omega
end
end Go.Proofs.YtpkhkghiidilcaaDoor.Sh

namespace Go.Proofs.YtpkhkghiidilcaaDoor.Sh
open Go
set_option maxRecDepth 100000
set_option maxHeartbeats 4000000
section
variable {adj : Nat → Nat → Bool} {rec : Nat → Int → Option (Nat × List Nat)} {v u m : Nat} {frm : Int} {S Sf S' : PSt}
theorem pLoop_succ (h : pLoop adj rec v frm (m + 1) u S = some Sf) : ∃ S', pStep adj rec v frm S u = some S' ∧ pLoop adj rec v frm m (u + 1) S' = some Sf := by
  rw [pLoop] at h
  cases hs : pStep adj rec v frm S u with
  | none => rw [hs] at h; cases h
  | some S' => rw [hs] at h; exact ⟨S', rfl, h⟩
theorem pStep_rec {b : Nat × Nat} {out : List Nat} {rest : List (Nat × Nat)} (h : pStep adj rec v frm ⟨b, out, rest⟩ u = some S') (h1 : ¬ (u : Int) = frm) (h2 : adj v u = true) :
    ∃ (k : Nat) (o : List Nat), rec u v = some (k, o) ∧ k ≤ 1000 ∧ out.length + o.length ≤ 1000 ∧ ((b.1 < k + 1 ∧ S' = ⟨(k + 1, u), out ++ o, if b.1 = 0 then rest else rest ++ [b]⟩) ∨ (¬ b.1 < k + 1 ∧ S' = ⟨b, out ++ o, rest ++ [(k + 1, u)]⟩)) := by
  unfold pStep at h
  rw [if_neg h1, h2, if_neg (by simp)] at h
  cases hr : rec u v with
  | none => rw [hr] at h; cases h
  | some r =>
    rw [hr] at h
    obtain ⟨k, o⟩ := r
    dsimp only at h
    by_cases c : 1000 < k ∨ 1000 < out.length + o.length
    · rw [if_pos c] at h; cases h
    · rw [if_neg c] at h
      refine ⟨k, o, rfl, by omega, by omega, ?_⟩
      by_cases c2 : b.1 < k + 1
      · rw [if_pos c2] at h; injection h with h; exact .inl ⟨c2, h.symm⟩
      · rw [if_neg c2] at h; injection h with h; exact .inr ⟨c2, h.symm⟩
theorem pLoop_out : ∀ {m u : Nat} {S : PSt}, pLoop adj rec v frm m u S = some Sf → S.out.length ≤ 1000 → Sf.out.length ≤ 1000
  | 0, u, S, h, h2 => by rw [pLoop] at h; injection h with h; rw [← h]; exact h2
  | m + 1, u, S, h, h2 => by
    obtain ⟨S', k1, k2⟩ := pLoop_succ h
    refine pLoop_out k2 ?_
    by_cases c1 : (u : Int) = frm
    · unfold pStep at k1; rw [if_pos c1] at k1; injection k1 with k1; rw [← k1]; exact h2
    · by_cases c2 : adj v u = true
      · obtain ⟨b, out, rest⟩ := S
        obtain ⟨k, o, _, _, h5, h6⟩ := pStep_rec k1 c1 c2
        rcases h6 with ⟨_, rfl⟩ | ⟨_, rfl⟩
        · dsimp only; rw [List.length_append]; exact h5
        · dsimp only; rw [List.length_append]; exact h5
      · unfold pStep at k1; rw [if_neg c1, if_pos (by simpa using c2)] at k1; injection k1 with k1; rw [← k1]; exact h2
end
section
variable {H : SHeap} {n gr v : Nat} {E : List (Int × Int)} {frm : Int} {rec : Nat → Int → Option (Nat × List Nat)} {Sf : PSt}
theorem p72_loop1 (cx : Cx) (hn : n ≤ 6) (hE : EOK n E) (hG : GAt H gr n E) (hv : v < n)
    (IH : ∀ (u : Nat) (f : Int) (k : Nat) (o : List Nat), u < n → rec u f = some (k, o) → ∀ h : SHeap, GAt h gr n E → M.call 72 [.pointer (some ⟨gr, 0, none⟩), .int .i64 u, .int .i64 f] h = some (.tuple #[.int .i64 (k : Nat), resV h o.length 1], resH h (o.map nI) o.length 3, [])) :
    ∀ k ρ ms h' d', (∃ (u : Nat) (S : PSt) (ov rv : Value), u + k = n ∧ pLoop (adjE E) rec v frm k u S = some Sf ∧ PT H S ov rv h' ∧ (S.b.1 = 0 → S.b.2 = 0) ∧ S.rest.length ≤ u ∧ ρ 0 = .pointer (some ⟨gr, 0, none⟩) ∧ ρ 1 = .int .i64 v ∧ ρ 2 = .int .i64 frm ∧ ρ 7 = ov ∧ ρ 8 = .pointer (some ⟨H.length, 0, none⟩) ∧ ρ 9 = rv ∧ ρ 20 = .int .i64 n ∧ ρ 21 = .int .i64 u ∧ ms = [] ∧ d' = []) →
    LoopW M cx 7 sf72L1 ρ ms h' d' (fun ex ρ' ms' h' d' => ms' = [] ∧ d' = [] ∧ ex = .exit 0 ∧ ∃ ov rv, PT H Sf ov rv h' ∧ Sf.rest.length ≤ n ∧ ρ' 7 = ov ∧ ρ' 8 = .pointer (some ⟨H.length, 0, none⟩) ∧ ρ' 9 = rv) := by
  refine loop_run _ ?_
  rintro k ρ ms h d' ⟨u, S, ov, rv, hk, hp, P, hb0, hrl, r0, r1, r2, r7, r8, r9, r20, r21, rfl, rfl⟩
  unfold sf72L1
  by_cases c0 : k = 0
  · subst c0
    have e1 : ¬ ((u : Int) < n) := by omega
    have e2 : S = Sf := by rw [pLoop] at hp; injection hp
    subst e2
    repeat (first | apply Z1 | apply Z2 | apply Z3 | apply Z4 | apply Z5 rfl | apply Z6 | apply Z7 | apply Z8 | apply Z9 | apply ZA | apply ZB | apply ZC | ((first | apply ZD (by decide) | apply ZN (by decide)); (simp (maxSteps := 9999999) only [go_sem, r20, r21, e1]; rfl)) | (refine ZE ?_ ?_; · simp only [go_sem]) | (refine ZF ?_ ?_; · simp only [go_sem]))
    exact end_nil ⟨rfl, rfl, rfl, ov, rv, P, by omega, by simp only [go_sem, r7], by simp only [go_sem, r8], by simp only [go_sem, r9]⟩
  · obtain ⟨m, rfl⟩ : ∃ m, k = m + 1 := ⟨k - 1, by omega⟩
    have e1 : ((u : Int) < n) := by omega
    have hu : u < n := by omega
    have hu6 : u < 6 := by omega
    have hv6 : v < 6 := by omega
    have ew : IntKind.i64.wrap ((u : Int) + 1) = ((u + 1 : Nat) : Int) := by rw [wrap64 (by omega) (by omega)]; rfl
    obtain ⟨S', hs, hp'⟩ := pLoop_succ hp
    have hgl : gr < H.length := (List.getElem?_eq_some_iff.1 hG).1
    have hGh : GAt h gr n E := by unfold GAt; rw [P.low gr hgl]; exact hG
    by_cases cu : (u : Int) = frm
    · have e2 : S' = S := by
        unfold pStep at hs
        rw [if_pos cu] at hs
        injection hs with hs
        exact hs.symm
      subst e2
      have eq1 : ((u : Int) = frm) = True := eq_true cu
      repeat (first | apply Z1 | apply Z2 | apply Z3 | apply Z4 | apply Z5 rfl | apply Z6 | apply Z7 | apply Z8 | apply Z9 | apply ZA | apply ZB | apply ZC | ((first | apply ZD (by decide) | apply ZN (by decide)); (simp (maxSteps := 9999999) only [go_sem, r0, r1, r2, r20, r21, e1, eq1, ew]; rfl)) | (refine ZE ?_ ?_; · simp only [go_sem]) | (refine ZF ?_ ?_; · simp only [go_sem]))
      exact end_nil ⟨m, by omega, u + 1, S', ov, rv, by omega, hp', P, hb0, by omega, by simp only [go_sem, r0], by simp only [go_sem, r1], by simp only [go_sem, r2], by simp only [go_sem, r7], by simp only [go_sem, r8], by simp only [go_sem, r9], by simp only [go_sem, r20], by simp only [go_sem, ew], rfl, rfl⟩
    · have eq1 : ((u : Int) = frm) = False := eq_false cu
      have z1 : (0 : Int) ≤ v := by omega
      have z2 : (v : Int) < 6 := by omega
      have wq : IntKind.u64.wrap (u : Int) = u := wrapU (by omega) (by omega)
      have hx := hGh.nx hv6
      have sh := shr_n (k := .u64) (a := nxE E v) (v := u) (by omega)
      have bv := bit_val (nxE E v) u
      have an := b_and (a := nxE E v / 2 ^ u) (b := 1) (by have := Nat.div_le_self (nxE E v) (2 ^ u); have := nxE_lt E v; omega) (by decide)
      rw [nxE_bit hE hn] at bv
      rw [bv] at an
      by_cases ca : adjE E v u = true
      · rw [if_pos ca] at an
        have an' : binS .and (.int .i64 ((nxE E v / 2 ^ u : Nat) : Int)) (.int .i64 1) = some (.int .i64 1) := an
        obtain ⟨⟨b1, b2⟩, out, rest⟩ := S
        obtain ⟨q, o, hr, hq, hl, hS'⟩ := pStep_rec hs cu ca
        dsimp only at hb0 hrl hS'
        have c72 := IH u v q o hu hr h hGh
        obtain ⟨G, ov2, ap, P2⟩ := P.pushO o hl
        have wr : IntKind.i64.wrap ((q : Int) + 1) = ((q + 1 : Nat) : Int) := by rw [wrap64 (by omega) (by omega)]; rfl
        obtain ⟨oa, oc, eov⟩ := P.ao.shape
        obtain ⟨ra, rc, erv⟩ := P.ar.shape
        have hle2 := P2.le
        have lb : ∀ x, loadS (G ++ [x]) none (.pointer (some ⟨H.length, 0, none⟩)) = some (.int .i64 (b1 : Nat)) := fun x => by
          have := load_cell (o := 0) (P2.app [x]).bb rfl rfl []; rw [List.append_nil] at this; exact this
        have lb2 : ∀ x, loadS (G ++ [x]) (some 2) (.pointer (some ⟨H.length, 0, none⟩)) = some (.agg #[.int .i64 (b1 : Nat), .int .i64 (b2 : Nat)]) := fun x => by
          have := load_all (n := 2) (P2.app [x]).bb rfl rfl []; rw [List.append_nil] at this; exact this
        have nq : ((((q + 1 : Nat) : Int)) = 0) = False := eq_false (by omega)
        rcases hS' with ⟨hlt, rfl⟩ | ⟨hlt, rfl⟩
        · have gt : (((q + 1 : Nat) : Int) > (b1 : Int)) := by omega
          obtain ⟨st, P3⟩ := (P2.app [SO.cells [.int .i64 (b1 : Nat), .int .i64 (b2 : Nat)] 129 true 0 []]).setB (q + 1) u
          have l3 : loadS ((G ++ [SO.cells [.int .i64 (b1 : Nat), .int .i64 (b2 : Nat)] 129 true 0 []]).set H.length (SO.cells [.int .i64 ((q + 1 : Nat) : Nat), .int .i64 (u : Nat)] 129 true 0 [])) (some 2) (.pointer (some ⟨G.length, 0, none⟩)) = some (.agg #[.int .i64 (b1 : Nat), .int .i64 (b2 : Nat)]) := by
            have := load_all (n := 2) (h := (G ++ [SO.cells [.int .i64 (b1 : Nat), .int .i64 (b2 : Nat)] 129 true 0 []]).set H.length (SO.cells [.int .i64 ((q + 1 : Nat) : Nat), .int .i64 (u : Nat)] 129 true 0 [])) (b := G.length) (cs := [.int .i64 (b1 : Nat), .int .i64 (b2 : Nat)]) (el := 129) (pf := true) (own := 0) (old := []) (by rw [List.getElem?_set_ne (by omega), app_get0]; rfl) rfl rfl []
            rw [List.append_nil] at this; exact this
          generalize (G ++ [SO.cells [.int .i64 (b1 : Nat), .int .i64 (b2 : Nat)] 129 true 0 []]).set H.length (SO.cells [.int .i64 ((q + 1 : Nat) : Nat), .int .i64 (u : Nat)] 129 true 0 []) = G3 at *
          by_cases cb : b1 = 0
          · have nb1 : ((b1 : Int) = 0) = True := eq_true (by omega)
            have nb2 : ((b2 : Int) = 0) = True := eq_true (by have := hb0 cb; omega)
            rw [if_pos cb] at hp'
            repeat (first | apply Z1 | apply Z2 | apply Z3 | apply Z4 | apply Z5 rfl | apply Z6 | apply Z7 | apply Z8 | apply Z9 | apply ZA | apply ZB | apply ZC | ((first | apply ZD (by decide) | apply ZN (by decide)); (simp (maxSteps := 9999999) only [go_sem, r0, r1, r2, r7, r8, r9, r20, r21, e1, eq1, z1, z2, wq, hx, sh, an', c72, ↓ap, wr, lb, lb2, gt, ↓st, l3, nb1, nb2, ew, Int.toNat_natCast]; rfl)) | (refine ZE ?_ ?_; · simp only [go_sem]) | (refine ZF ?_ ?_; · simp only [go_sem]))
            exact end_nil ⟨m, by omega, u + 1, _, ov2, rv, by omega, hp', P3, fun h => by dsimp only at h; omega, by dsimp only; omega, by simp only [go_sem, r0], by simp only [go_sem, r1], by simp only [go_sem, r2], by simp only [go_sem], by simp only [go_sem, r8], by simp only [go_sem, r9], by simp only [go_sem, r20], by simp only [go_sem, ew], rfl, rfl⟩
          · have nb : ((b1 : Int) = 0) = False := eq_false (by omega)
            obtain ⟨G4, rv2, ap2, P4⟩ := P3.pushR b1 b2 (by dsimp only; omega)
            rw [if_neg cb] at hp'
            repeat (first | apply Z1 | apply Z2 | apply Z3 | apply Z4 | apply Z5 rfl | apply Z6 | apply Z7 | apply Z8 | apply Z9 | apply ZA | apply ZB | apply ZC | ((first | apply ZD (by decide) | apply ZN (by decide)); (simp (maxSteps := 9999999) only [go_sem, r0, r1, r2, r7, r8, r9, r20, r21, e1, eq1, z1, z2, wq, hx, sh, an', c72, ↓ap, wr, lb, lb2, gt, ↓st, l3, nb, ↓ap2, ew, Int.toNat_natCast]; rfl)) | (refine ZE ?_ ?_; · simp only [go_sem]) | (refine ZF ?_ ?_; · simp only [go_sem]))
            exact end_nil ⟨m, by omega, u + 1, _, ov2, rv2, by omega, hp', P4, fun h => by dsimp only at h; omega, by simp; omega, by simp only [go_sem, r0], by simp only [go_sem, r1], by simp only [go_sem, r2], by simp only [go_sem], by simp only [go_sem, r8], by simp only [go_sem], by simp only [go_sem, r20], by simp only [go_sem, ew], rfl, rfl⟩
        · have gt : ¬ (((q + 1 : Nat) : Int) > (b1 : Int)) := by omega
          obtain ⟨G4, rv2, ap2, P4⟩ := (P2.app [SO.cells [.int .i64 ((q + 1 : Nat) : Nat), .int .i64 (u : Nat)] 129 true 0 []]).pushR (q + 1) u (by dsimp only; omega)
          simp only [List.append_assoc, List.cons_append, List.nil_append, List.length_append, List.length_cons, List.length_nil, Nat.zero_add] at ap2
          repeat (first | apply Z1 | apply Z2 | apply Z3 | apply Z4 | apply Z5 rfl | apply Z6 | apply Z7 | apply Z8 | apply Z9 | apply ZA | apply ZB | apply ZC | ((first | apply ZD (by decide) | apply ZN (by decide)); (simp (maxSteps := 9999999) only [go_sem, r0, r1, r2, r7, r8, r9, r20, r21, e1, eq1, z1, z2, wq, hx, sh, an', c72, ↓ap, wr, lb, gt, nq, ↓ap2, ew, Int.toNat_natCast]; rfl)) | (refine ZE ?_ ?_; · simp only [go_sem]) | (refine ZF ?_ ?_; · simp only [go_sem]))
          exact end_nil ⟨m, by omega, u + 1, _, ov2, rv2, by omega, hp', P4, hb0, by simp; omega, by simp only [go_sem, r0], by simp only [go_sem, r1], by simp only [go_sem, r2], by simp only [go_sem], by simp only [go_sem, r8], by simp only [go_sem], by simp only [go_sem, r20], by simp only [go_sem, ew], rfl, rfl⟩
      · rw [if_neg ca] at an
        have an' : binS .and (.int .i64 ((nxE E v / 2 ^ u : Nat) : Int)) (.int .i64 1) = some (.int .i64 0) := an
        have e2 : S' = S := by
          unfold pStep at hs
          rw [if_neg cu, if_pos (by simpa using ca)] at hs
          injection hs with hs
          exact hs.symm
        subst e2
        repeat (first | apply Z1 | apply Z2 | apply Z3 | apply Z4 | apply Z5 rfl | apply Z6 | apply Z7 | apply Z8 | apply Z9 | apply ZA | apply ZB | apply ZC | ((first | apply ZD (by decide) | apply ZN (by decide)); (simp (maxSteps := 9999999) only [go_sem, r0, r1, r2, r20, r21, e1, eq1, z1, z2, wq, hx, sh, an', ew, Int.toNat_natCast]; rfl)) | (refine ZE ?_ ?_; · simp only [go_sem]) | (refine ZF ?_ ?_; · simp only [go_sem]))
        exact end_nil ⟨m, by omega, u + 1, S', ov, rv, by omega, hp', P, hb0, by omega, by simp only [go_sem, r0], by simp only [go_sem, r1], by simp only [go_sem, r2], by simp only [go_sem, r7], by simp only [go_sem, r8], by simp only [go_sem, r9], by simp only [go_sem, r20], by simp only [go_sem, ew], rfl, rfl⟩
end
end Go.Proofs.YtpkhkghiidilcaaDoor.Sh

namespace Go.Proofs.YtpkhkghiidilcaaDoor.Sh
open Go
set_option maxRecDepth 100000
set_option maxHeartbeats 4000000
section
variable {H h : SHeap} {S : PSt} {ov rv : Value}
theorem PT.push1 (P : PT H S ov rv h) (k : Nat) (hl : S.out.length ≤ 10000) :
    ∃ G v2, (∀ (base : Nat) (d : List Nat), appendS base (h ++ [SO.cells [.int .i64 (k : Nat)] 3 true 0 []]) d 3 true 1 8 ov (.slice (some ⟨h.length, 0, none⟩) 1 1) = some (v2, G, d)) ∧ PT H ⟨S.b, S.out ++ [k], S.rest⟩ v2 rv G := by
  have hle := P.le
  have P2 := P.app [SO.cells [.int .i64 (k : Nat)] 3 true 0 []]
  obtain ⟨old, ap, acc2, kp⟩ := acc_append (bytes := 8) (new := [.int .i64 (k : Nat)]) (bs := h.length) (el2 := 3) (pf2 := true) (own2 := 0) (old2 := []) P2.ao (by rw [app_get0]; rfl) rfl rfl (by decide) rfl (by decide) (by omega) (by simp; omega)
  refine ⟨_, _, ap, ?_, fun j hj => ?_, ?_, ?_, ?_, fun b m m' cc cc' e e2 => ?_⟩
  · simp [shv_len]; omega
  · rw [kp j (by simp; omega) (fun b e => by have := (P2.ao.lt e).1; omega)]; exact P2.low j hj
  · rw [kp _ (by simp; omega) (fun b e => by have := (P2.ao.lt e).1; omega)]; exact P2.bb
  · show Acc _ _ _ ((S.out ++ [k]).map nI) (S.out ++ [k]).length 1 3
    have e : (S.out ++ [k]).length = S.out.length + 1 := by simp
    rw [List.map_append, e]; exact acc2
  · exact P2.ar.keep (fun b e => kp b (P2.ar.lt e).2 (fun b' e' hb => by subst hb; exact P.ne _ _ _ _ _ e' e))
  · injection e with e _ _
    injection e with e
    injection e with e _ _
    rcases P.ar with ⟨_, h2, _⟩ | ⟨b', old', h2, h3, _⟩
    · rw [h2] at e2; simp at e2
    · rw [h2] at e2
      injection e2 with e2 _ _
      injection e2 with e2
      injection e2 with e2 _ _
      have := (List.getElem?_eq_some_iff.1 h3).1
      simp at e
      omega
end
section
variable {H : SHeap} {n gr v : Nat} {E : List (Int × Int)} {frm : Int}
theorem p72_loop0 (cx : Cx) {b : Nat × Nat} {out : List Nat} {rest : List (Nat × Nat)} {rv : Value} (hr : rest.length ≤ 6) (ho : out.length ≤ 1000) :
    ∀ k ρ ms h' d', (∃ (i : Nat) (ov : Value), i + k = rest.length ∧ PT H ⟨b, out ++ (rest.take i).map Prod.fst, rest⟩ ov rv h' ∧ ρ 7 = ov ∧ ρ 8 = .pointer (some ⟨H.length, 0, none⟩) ∧ ρ 69 = rv ∧ ρ 70 = .int .i64 rest.length ∧ ρ 71 = .int .i64 i ∧ ms = [] ∧ d' = []) →
    LoopW M cx 7 sf72L0 ρ ms h' d' (fun ex ρ' ms' h' d' => ms' = [] ∧ d' = [] ∧ ex = .exit 2 ∧ ∃ ov, PT H ⟨b, out ++ rest.map Prod.fst, rest⟩ ov rv h' ∧ ρ' 7 = ov ∧ ρ' 8 = .pointer (some ⟨H.length, 0, none⟩)) := by
  refine loop_run _ ?_
  rintro k ρ ms h d' ⟨i, ov, hk, P, r7, r8, r69, r70, r71, rfl, rfl⟩
  unfold sf72L0
  by_cases c0 : k = 0
  · have e1 : ¬ ((i : Int) < rest.length) := by omega
    rw [List.take_of_length_le (by omega)] at P
    repeat (first | apply Z1 | apply Z2 | apply Z3 | apply Z4 | apply Z5 rfl | apply Z6 | apply Z7 | apply Z8 | apply Z9 | apply ZA | apply ZB | apply ZC | ((first | apply ZD (by decide) | apply ZN (by decide)); (simp (maxSteps := 9999999) only [go_sem, r70, r71, e1]; rfl)) | (refine ZE ?_ ?_; · simp only [go_sem]) | (refine ZF ?_ ?_; · simp only [go_sem]))
    exact end_nil ⟨rfl, rfl, rfl, ov, P, by simp only [go_sem, r7], by simp only [go_sem, r8]⟩
  · have e1 : ((i : Int) < rest.length) := by omega
    have hi : i < rest.length := by omega
    have z1 : (0 : Int) ≤ i := by omega
    have ew : IntKind.i64.wrap ((i : Int) + 1) = ((i + 1 : Nat) : Int) := by rw [wrap64 (by omega) (by omega)]; rfl
    obtain ⟨oa, oc, eov⟩ := P.ao.shape
    rcases P.ar with ⟨hz, _⟩ | ⟨rb, old, erv, hrb, _⟩
    · dsimp only at hz; omega
    · dsimp only at erv hrb
      have lp := load_pair hrb rfl hi
      have et : (rest.take (i + 1)).map Prod.fst = (rest.take i).map Prod.fst ++ [rest[i].1] := by rw [List.take_add_one, List.getElem?_eq_getElem hi, List.map_append]; rfl
      generalize rest[i] = p at *
      have tl : ((rest.take i).map Prod.fst).length ≤ 6 := by simp; omega
      obtain ⟨G, v2, ap, P2⟩ := (P.app [SO.cells [.int .i64 (p.1 : Nat), .int .i64 (p.2 : Nat)] 129 true 0 []]).push1 p.1 (by dsimp only; rw [List.length_append]; omega)
      dsimp only at P2
      rw [List.append_assoc, ← et] at P2
      simp only [List.append_assoc, List.cons_append, List.nil_append, List.length_append, List.length_cons, List.length_nil, Nat.zero_add] at ap
      subst erv
      repeat (first | apply Z1 | apply Z2 | apply Z3 | apply Z4 | apply Z5 rfl | apply Z6 | apply Z7 | apply Z8 | apply Z9 | apply ZA | apply ZB | apply ZC | ((first | apply ZD (by decide) | apply ZN (by decide)); (simp (maxSteps := 9999999) only [go_sem, r7, r69, r70, r71, e1, z1, lp, ↓ap, ew, Int.toNat_natCast]; rfl)) | (refine ZE ?_ ?_; · simp only [go_sem]) | (refine ZF ?_ ?_; · simp only [go_sem]))
      exact end_nil ⟨k - 1, by omega, i + 1, v2, by omega, P2, by simp only [go_sem], by simp only [go_sem, r8], by simp only [go_sem, r69], by simp only [go_sem, r70], by simp only [go_sem, ew], rfl, rfl⟩
theorem parts72 (hn : n ≤ 6) (hE : EOK n E) : ∀ (K v : Nat) (frm : Int) (k : Nat) (o : List Nat), v < n → partsO (adjE E) n K v frm = some (k, o) → ∀ h : SHeap, GAt h gr n E → M.call 72 [.pointer (some ⟨gr, 0, none⟩), .int .i64 v, .int .i64 frm] h = some (.tuple #[.int .i64 (k : Nat), resV h o.length 1], resH h (o.map nI) o.length 3, []) := by
  intro K
  induction K with
  | zero => intro v frm k o _ h; cases h
  | succ K ih =>
    intro v frm k o hv hp h hG
    rw [partsO] at hp
    cases hl : pLoop (adjE E) (partsO (adjE E) n K) v frm n 0 ⟨(0, 0), [], []⟩ with
    | none => rw [hl] at hp; cases hp
    | some Sf =>
      rw [hl] at hp
      dsimp only at hp
      injection hp with hp
      injection hp with hp1 hp2
      subst hp1 hp2
      refine call_run sf72 rfl rfl rfl ?_
      have P0 : PT h ⟨(0, 0), [], []⟩ (.slice none 0 0) (.slice none 0 0) (h ++ [SO.cells [.int .i64 0, .int .i64 0] 129 true 0 []]) :=
        ⟨by simp, fun j hj => List.getElem?_append_left hj, by rw [app_get0]; rfl, .inl ⟨rfl, rfl, rfl⟩, .inl ⟨rfl, rfl, rfl⟩, fun b m m' c c' e => by simp at e⟩
      have hgl : gr < h.length := (List.getElem?_eq_some_iff.1 hG).1
      have ln := (hG.app [SO.cells [.int .i64 0, .int .i64 0] 129 true 0 []]).n
      unfold sf72
      repeat (first | apply Z1 | apply Z2 | apply Z3 | apply Z4 | apply Z5 rfl | apply Z6 | apply Z7 | apply Z8 | apply Z9 | apply ZA | apply ZB | apply ZC | ((first | apply ZD (by decide) | apply ZN (by decide)); (simp (maxSteps := 9999999) only [go_sem, argR, ln]; rfl)) | (refine ZE ?_ ?_; · simp only [go_sem]) | (refine ZF ?_ ?_; · simp only [go_sem]))
      refine run_loop (p72_loop1 (H := h) (Sf := Sf) _ hn hE hG hv (fun u f k o hu hr h2 hG2 => ih u f k o hu hr h2 hG2) n _ _ _ _ ⟨0, ⟨(0, 0), [], []⟩, _, _, by omega, hl, P0, fun _ => rfl, by simp, by simp only [go_sem, argR], by simp only [go_sem, argR], by simp only [go_sem, argR], by simp only [go_sem], by simp only [go_sem], by simp only [go_sem], by simp only [go_sem], by simp only [go_sem] <;> rfl, rfl, rfl⟩) ?_
      rintro ex ρ1 ms1 h1 d1 ⟨rfl, rfl, rfl, ov, rv, P1, hr1, t7, t8, t9⟩
      obtain ⟨ra, rc, erv⟩ := P1.ar.shape
      have t9' := t9
      rw [erv] at t9'
      have ho : Sf.out.length ≤ 1000 := pLoop_out hl (by simp)
      obtain ⟨b, out, rest⟩ := Sf
      dsimp only at *
      have t0 : ((rest.take 0).map Prod.fst : List Nat) = [] := rfl
      repeat (first | apply Z1 | apply Z2 | apply Z3 | apply Z4 | apply Z5 rfl | apply Z6 | apply Z7 | apply Z8 | apply Z9 | apply ZA | apply ZB | apply ZC | ((first | apply ZD (by decide) | apply ZN (by decide)); (simp (maxSteps := 9999999) only [go_sem, t9']; rfl)) | (refine ZE ?_ ?_; · simp only [go_sem]) | (refine ZF ?_ ?_; · simp only [go_sem]))
      refine run_loop (p72_loop0 (H := h) (b := b) (out := out) (rest := rest) (rv := rv) _ (by omega) ho rest.length _ _ _ _ ⟨0, ov, by omega, by rw [t0, List.append_nil]; exact P1, by simp only [go_sem, t7], by simp only [go_sem, t8], by simp only [go_sem, t9'] <;> exact erv.symm, by simp only [go_sem], by simp only [go_sem] <;> rfl, rfl, rfl⟩) ?_
      rintro ex ρ2 ms2 h2 d2 ⟨rfl, rfl, rfl, ov2, P2, u7, u8⟩
      have lb : loadS h2 none (.pointer (some ⟨h.length, 0, none⟩)) = some (.int .i64 (b.1 : Nat)) := by
        have := load_cell (o := 0) P2.bb rfl rfl []; rw [List.append_nil] at this; exact this
      obtain ⟨oa, oc, eov⟩ := P2.ao.shape
      dsimp only at eov
      rw [eov] at u7
      have A : AccS (h ++ []) h2 ov2 ((out ++ rest.map Prod.fst).map nI) (out ++ rest.map Prod.fst).length 1 3 := by
        rw [List.append_nil]
        exact ⟨P2.ao.lo (by omega), by have := P2.le; omega, P2.low⟩
      have gc := A.gcR (.int .i64 (b.1 : Nat)) rfl
      rw [eov] at gc
      repeat (first | apply Z1 | apply Z2 | apply Z3 | apply Z4 | apply Z5 rfl | apply Z6 | apply Z7 | apply Z8 | apply Z9 | apply ZA | apply ZB | apply ZC | ((first | apply ZD (by decide) | apply ZN (by decide)); (simp (maxSteps := 9999999) only [go_sem, u7, u8, lb]; rfl)) | (refine ZE ?_ ?_; · simp only [go_sem]) | (refine ZF ?_ ?_; · simp only [go_sem]))
      exact end_nil (q_gc [.int .i64 (b.1 : Nat), .slice oa (out ++ rest.map Prod.fst).length oc] (by simp only [go_sem]) rfl gc rfl)
end
end Go.Proofs.YtpkhkghiidilcaaDoor.Sh

namespace Go.Proofs.YtpkhkghiidilcaaDoor.Sh
open Go
set_option maxRecDepth 100000
set_option maxHeartbeats 4000000
theorem E_idxStr (R : Rec) (cx : Cx) (e : Evl) (sl : Option Nat) (x i : Operand) (h : SHeap) (d : List Nat) : opE R cx e sl (.idxStr x i) h d = match e x, e i with
    | some (.string s), some (.int _ n) =>
      if decide (0 ≤ n) then match s.data.toList[n.toNat]? with
        | some b => some (.int .u8 b.toNat, h, d)
        | none => none
      else none
    | _, _ => none := (rfl)
attribute [go_sem ↓] E_idxStr
def lenTab : ByteArray := ⟨#[0, 1, 2, 2, 3, 3, 3, 3, 4, 4, 4, 4, 4, 4, 4, 4, 5, 5, 5, 5, 5, 5, 5, 5, 5, 5, 5, 5, 5, 5, 5, 5, 6, 6, 6, 6, 6, 6, 6, 6, 6, 6, 6, 6, 6, 6, 6, 6, 6, 6, 6, 6, 6, 6, 6, 6, 6, 6, 6, 6, 6, 6, 6, 6, 7, 7, 7, 7, 7, 7, 7, 7, 7, 7, 7, 7, 7, 7, 7, 7, 7, 7, 7, 7, 7, 7, 7, 7, 7, 7, 7, 7, 7, 7, 7, 7, 7, 7, 7, 7, 7, 7, 7, 7, 7, 7, 7, 7, 7, 7, 7, 7, 7, 7, 7, 7, 7, 7, 7, 7, 7, 7, 7, 7, 7, 7, 7, 7, 8, 8, 8, 8, 8, 8, 8, 8, 8, 8, 8, 8, 8, 8, 8, 8, 8, 8, 8, 8, 8, 8, 8, 8, 8, 8, 8, 8, 8, 8, 8, 8, 8, 8, 8, 8, 8, 8, 8, 8, 8, 8, 8, 8, 8, 8, 8, 8, 8, 8, 8, 8, 8, 8, 8, 8, 8, 8, 8, 8, 8, 8, 8, 8, 8, 8, 8, 8, 8, 8, 8, 8, 8, 8, 8, 8, 8, 8, 8, 8, 8, 8, 8, 8, 8, 8, 8, 8, 8, 8, 8, 8, 8, 8, 8, 8, 8, 8, 8, 8, 8, 8, 8, 8, 8, 8, 8, 8, 8, 8, 8, 8, 8, 8, 8, 8, 8, 8, 8, 8, 8, 8, 8, 8, 8, 8, 8, 8]⟩
theorem tab_at : ∀ n, n < 13 → ∃ m : UInt8, lenTab.data.toList[n]? = some m ∧ m.toNat ≤ 8 := by
  intro n hn
  have : ∀ n, n < 13 → (lenTab.data.toList[n]?).any (fun m => decide (m.toNat ≤ 8)) = true := by decide +kernel
  have := this n hn
  cases h : lenTab.data.toList[n]? with
  | none => rw [h] at this; cases this
  | some m => rw [h] at this; exact ⟨m, rfl, of_decide_eq_true this⟩
theorem len83 {n : Nat} (hn : n < 13) (h : SHeap) : ∃ m : Nat, m ≤ 8 ∧ M.call 83 [.int .u64 n] h = some (.int .i64 m, h, []) := by
  have e1 : ¬ ((n : Int) ≥ 4294967296) := by omega
  have e2 : ¬ ((n : Int) ≥ 65536) := by omega
  have e3 : ¬ ((n : Int) ≥ 256) := by omega
  have w1 : IntKind.u8.wrap (n : Int) = n := by
    have e1 : IntKind.u8.wrap (n : Int) = (n : Int) % 256 := by simp [IntKind.wrap, IntKind.signed, IntKind.bits]
    rw [e1]; omega
  obtain ⟨m, t1, hm⟩ := tab_at n hn
  unfold lenTab at t1
  dsimp only at t1
  have w2 : IntKind.i64.wrap ((m.toNat : Nat) : Int) = ((m.toNat : Nat) : Int) := wrap64 (by omega) (by omega)
  have p0 : (0 : Int) ≤ n := by omega
  have c96 : ∀ h, M.call 96 [.int .u64 n] h = some (.int .i64 ((m.toNat : Nat) : Int), h, []) := fun h => by
    refine call_run sf96 rfl rfl rfl ?_
    unfold sf96
    repeat (first | apply Z1 | apply Z2 | apply Z3 | apply Z4 | apply Z5 rfl | apply Z6 | apply Z7 | apply Z8 | apply Z9 | apply ZA | apply ZB | apply ZC | ((first | apply ZD (by decide) | apply ZN (by decide)); (simp (maxSteps := 9999999) only [go_sem, argR, e1, e2, e3, w1, p0, t1, w2, Int.toNat_natCast]; rfl)) | (refine ZE ?_ ?_; · simp only [go_sem]) | (refine ZF ?_ ?_; · simp only [go_sem]))
    exact end_nil (q_ret1 _ (by simp only [go_sem]) rfl (take_self _))
  refine ⟨m.toNat, hm, ?_⟩
  refine call_run sf83 rfl rfl rfl ?_
  unfold sf83
  repeat (first | apply Z1 | apply Z2 | apply Z3 | apply Z4 | apply Z5 rfl | apply Z6 | apply Z7 | apply Z8 | apply Z9 | apply ZA | apply ZB | apply ZC | ((first | apply ZD (by decide) | apply ZN (by decide)); (simp (maxSteps := 9999999) only [go_sem, argR, c96]; rfl)) | (refine ZE ?_ ?_; · simp only [go_sem]) | (refine ZF ?_ ?_; · simp only [go_sem]))
  exact end_nil (q_ret1 _ (by simp only [go_sem]) rfl (take_self _))
abbrev F2 := Fin 2000
def cel1 (x : F2) : List Value := [.int .i64 (x.val : Nat)]
theorem cel1_len (x : F2) : (cel1 x).length = 1 := rfl
theorem cel1_sc (x : F2) : (cel1 x).all sc = true := rfl
theorem call74 (x y : F2) (h : SHeap) : M.call 74 [.int .i64 (x.val : Nat), .int .i64 (y.val : Nat)] h = some (.int .i64 ((y.val : Int) - x.val), h, []) := by
  have hx := x.isLt
  have hy := y.isLt
  have ew : IntKind.i64.wrap ((y.val : Int) - x.val) = (y.val : Int) - x.val := wrap64 (by omega) (by omega)
  refine call_run sf74 rfl rfl rfl ?_
  unfold sf74
  repeat (first | apply Z1 | apply Z2 | apply Z3 | apply Z4 | apply Z5 rfl | apply Z6 | apply Z7 | apply Z8 | apply Z9 | apply ZA | apply ZB | apply ZC | ((first | apply ZD (by decide) | apply ZN (by decide)); (simp (maxSteps := 9999999) only [go_sem, argR, ew]; rfl)) | (refine ZE ?_ ?_; · simp only [go_sem]) | (refine ZF ?_ ?_; · simp only [go_sem]))
  exact end_nil (q_ret1 _ (by simp only [go_sem]) rfl (take_self _))
section
variable {n B cap : Nat} {el : TypeId} {h0 : SHeap} {old0 : List Nat}
theorem SA.load1 {h : SHeap} {f : Nat → F2} (S : SA cel1 n B el h0 old0 h f) {i : Nat} (hi : i < n) : loadS h none (.pointer (some ⟨B, i, none⟩)) = some (.int .i64 ((f i).val : Nat)) := by
  obtain ⟨old, _, e⟩ := S.at_
  have g := flF_get (cel := cel1) (s := 1) cel1_len f (n := n) (i := i) (k := 0) hi (by decide)
  rw [Nat.mul_one, Nat.add_zero] at g
  have := load_cell (o := i) e rfl (g.trans rfl) []
  rw [List.append_nil] at this; exact this
theorem SA.store1 {h : SHeap} {f g : Nat → F2} (S : SA cel1 n B el h0 old0 h f) {i : Nat} (hi : i < n) (hg : ∀ k, k ≠ i → g k = f k) :
    ∃ h1, (∀ base d, storeS base h d B i (cellsL (.int .i64 ((g i).val : Nat))) = some (h1, d)) ∧ SA cel1 n B el h0 old0 h1 g := by
  obtain ⟨h1, e1, S1⟩ := S.store cel1_len cel1_sc (by decide) hi hg
  rw [Nat.mul_one] at e1
  exact ⟨h1, e1, S1⟩
theorem SA.swap1 {h : SHeap} {f : Nat → F2} (S : SA cel1 n B el h0 old0 h f) {i j : Nat} (hi : i < n) (hj : j < n) :
    ∃ h1 h2, (∀ base d, storeS base h d B i (cellsL (.int .i64 ((f j).val : Nat))) = some (h1, d)) ∧ (∀ base d, storeS base h1 d B j (cellsL (.int .i64 ((f i).val : Nat))) = some (h2, d)) ∧ SA cel1 n B el h0 old0 h2 (swp f i j) := by
  obtain ⟨h1, e1, S1⟩ := S.store1 hi (g := fun k => if k = i then f j else f k) (fun k hk => by simp [hk])
  simp only [if_true] at e1
  obtain ⟨h2, e2, S2⟩ := S1.store1 hj (g := swp f i j) (fun k hk => by
    by_cases e : k = i
    · subst e; rw [swp_l]; simp
    · rw [swp_o f e hk]; simp [e])
  rw [swp_r] at e2
  exact ⟨h1, h2, e1, e2, S2⟩
def InsD (i j : Nat) (f : Nat → F2) : Prop := (∀ p q, p < q → q ≤ i → p ≠ j → q ≠ j → (f q).val ≤ (f p).val) ∧ ∀ q, j < q → q ≤ i → (f q).val < (f j).val
def OrdD (b : Nat) (f : Nat → F2) : Prop := ∀ p q, p < q → q < b → (f q).val ≤ (f p).val
theorem InsD.stop {i j : Nat} {f : Nat → F2} (h : InsD i j f) (h2 : j = 0 ∨ (f j).val ≤ (f (j - 1)).val) : OrdD (i + 1) f := by
  intro p q h3 h4
  by_cases e1 : p = j
  · subst e1; have := h.2 q h3 (by omega); omega
  · by_cases e2 : q = j
    · subst e2
      rcases h2 with h2 | h2
      · omega
      · by_cases e3 : p = q - 1
        · subst e3; exact h2
        · have := h.1 p (q - 1) (by omega) (by omega) e1 (by omega); omega
    · exact h.1 p q h3 (by omega) e1 e2
theorem InsD.step {i j : Nat} {f : Nat → F2} (h : InsD i j f) (hj : 0 < j) (hji : j ≤ i) (h2 : (f (j - 1)).val < (f j).val) : InsD i (j - 1) (swp f j (j - 1)) := by
  constructor
  · intro p q h4 h5 h6 h7
    by_cases e1 : p = j
    · subst e1
      rw [swp_l, swp_o f (by omega) (by omega)]
      exact h.1 (p - 1) q (by omega) h5 (by omega) (by omega)
    · by_cases e2 : q = j
      · subst e2
        rw [swp_l, swp_o f (by omega) (by omega)]
        exact h.1 p (q - 1) (by omega) (by omega) (by omega) (by omega)
      · rw [swp_o f e1 h6, swp_o f e2 h7]
        exact h.1 p q h4 h5 e1 e2
  · intro q h3 h4
    rw [swp_r]
    by_cases e : q = j
    · subst e; rw [swp_l]; exact h2
    · rw [swp_o f e (by omega)]; exact h.2 q (by omega) h4
theorem ins_loop (hn : n ≤ 12) {i : Nat} (hi : i < n) (cx : Cx) (f0 : Nat → F2) : ∀ k ρ ms h' d', (∃ (j : Nat) (f : Nat → F2), j = k ∧ j ≤ i ∧ SA cel1 n B el h0 old0 h' f ∧ Sw 0 (i + 1) f0 f ∧ InsD i j f ∧ ρ 0 = .slice (some ⟨B, 0, none⟩) n cap ∧ ρ 1 = .int .i64 0 ∧ ρ 2 = .int .i64 n ∧ ρ 3 = .func (.func 74) #[] #[] ∧ ρ 8 = .int .i64 i ∧ ρ 9 = .int .i64 j ∧ ms = [] ∧ d' = []) →
    LoopW M cx 6 sf87L0 ρ ms h' d' (fun ex ρ' ms' h' d' => ex = .exit 2 ∧ ms' = [] ∧ d' = [] ∧ ∃ f : Nat → F2, SA cel1 n B el h0 old0 h' f ∧ Sw 0 (i + 1) f0 f ∧ OrdD (i + 1) f ∧ ρ' 0 = .slice (some ⟨B, 0, none⟩) n cap ∧ ρ' 1 = .int .i64 0 ∧ ρ' 2 = .int .i64 n ∧ ρ' 3 = .func (.func 74) #[] #[] ∧ ρ' 8 = .int .i64 i) := by
  refine loop_run _ ?_
  rintro k ρ ms h' d' ⟨j, f, rfl, hji, S, W, I, r0, r1, r2, r3, r8, r9, rfl, rfl⟩
  unfold sf87L0
  by_cases hk : j = 0
  · have e1 : ¬ ((j : Int) > 0) := by omega
    repeat (first | apply Z1 | apply Z2 | apply Z3 | apply Z4 | apply Z5 rfl | apply Z6 | apply Z7 | apply Z8 | apply Z9 | apply ZA | apply ZB | apply ZC | ((first | apply ZD (by decide) | apply ZN (by decide)); (simp (maxSteps := 9999999) only [go_sem, r0, r1, r2, r3, r8, r9, e1]; rfl)) | (refine ZE ?_ ?_; · simp only [go_sem]) | (refine ZF ?_ ?_; · simp only [go_sem]))
    exact end_nil ⟨rfl, rfl, rfl, f, S, W, I.stop (.inl hk), by simp only [go_sem, r0], by simp only [go_sem, r1], by simp only [go_sem, r2], by simp only [go_sem, r3], by simp only [go_sem, r8]⟩
  · have e1 : ((j : Int) > 0) := by omega
    have e2 : (0 : Int) ≤ j := by omega
    have e3 : (j : Int) < n := by omega
    have e4 : (0 : Int) ≤ ((j - 1 : Nat) : Int) := by omega
    have e5 : ((j - 1 : Nat) : Int) < n := by omega
    have ew : IntKind.i64.wrap ((j : Int) - 1) = ((j - 1 : Nat) : Int) := by rw [wrap64 (by omega) (by omega)]; omega
    have l1 := S.load1 (show j < n by omega)
    have l2 := S.load1 (show j - 1 < n by omega)
    have cc := fun h => call74 (f j) (f (j - 1)) h
    by_cases hlt : (f (j - 1)).val < (f j).val
    · have hlt' : (((f (j - 1)).val : Int) - (f j).val) < 0 := by omega
      obtain ⟨h1, h2, st1, st2, S2⟩ := S.swap1 (show j < n by omega) (show j - 1 < n by omega)
      repeat (first | apply Z1 | apply Z2 | apply Z3 | apply Z4 | apply Z5 rfl | apply Z6 | apply Z7 | apply Z8 | apply Z9 | apply ZA | apply ZB | apply ZC | ((first | apply ZD (by decide) | apply ZN (by decide)); (simp (maxSteps := 9999999) only [go_sem, r0, r1, r2, r3, r8, r9, e1, e2, e3, e4, e5, ew, l1, l2, cc, hlt', ↓st1, ↓st2, Int.toNat_natCast]; rfl)) | (refine ZE ?_ ?_; · simp only [go_sem]) | (refine ZF ?_ ?_; · simp only [go_sem]))
      exact end_nil ⟨j - 1, by omega, j - 1, _, rfl, by omega, S2, W.step (by omega) (by omega) (by omega) (by omega), I.step (by omega) hji hlt, by simp only [go_sem, r0], by simp only [go_sem, r1], by simp only [go_sem, r2], by simp only [go_sem, r3], by simp only [go_sem, r8], by simp only [go_sem, ew], rfl, rfl⟩
    · have hlt' : ¬ (((f (j - 1)).val : Int) - (f j).val) < 0 := by omega
      repeat (first | apply Z1 | apply Z2 | apply Z3 | apply Z4 | apply Z5 rfl | apply Z6 | apply Z7 | apply Z8 | apply Z9 | apply ZA | apply ZB | apply ZC | ((first | apply ZD (by decide) | apply ZN (by decide)); (simp (maxSteps := 9999999) only [go_sem, r0, r1, r2, r3, r8, r9, e1, e2, e3, e4, e5, ew, l1, l2, cc, hlt', Int.toNat_natCast]; rfl)) | (refine ZE ?_ ?_; · simp only [go_sem]) | (refine ZF ?_ ?_; · simp only [go_sem]))
      exact end_nil ⟨rfl, rfl, rfl, f, S, W, I.stop (.inr (by omega)), by simp only [go_sem, r0], by simp only [go_sem, r1], by simp only [go_sem, r2], by simp only [go_sem, r3], by simp only [go_sem, r8]⟩
theorem insO_loop (hn : n ≤ 12) (cx : Cx) (f0 : Nat → F2) : ∀ k ρ ms h' d', (∃ (i : Nat) (f : Nat → F2), n - i = k ∧ SA cel1 n B el h0 old0 h' f ∧ Sw 0 n f0 f ∧ OrdD (min i n) f ∧ ρ 0 = .slice (some ⟨B, 0, none⟩) n cap ∧ ρ 1 = .int .i64 0 ∧ ρ 2 = .int .i64 n ∧ ρ 3 = .func (.func 74) #[] #[] ∧ ρ 8 = .int .i64 i ∧ ms = [] ∧ d' = []) →
    LoopW M cx 6 sf87L1 ρ ms h' d' (fun ex ρ' ms' h' d' => ex = .exit 0 ∧ ms' = [] ∧ d' = [] ∧ ∃ f : Nat → F2, SA cel1 n B el h0 old0 h' f ∧ Sw 0 n f0 f ∧ OrdD n f) := by
  refine loop_run _ ?_
  rintro k ρ ms h' d' ⟨i, f, hk, S, W, O, r0, r1, r2, r3, r8, rfl, rfl⟩
  unfold sf87L1
  by_cases hib : i < n
  · have e1 : (i : Int) < n := by omega
    have ew : IntKind.i64.wrap ((i : Int) + 1) = ((i + 1 : Nat) : Int) := by rw [wrap64 (by omega) (by omega)]; rfl
    rw [Nat.min_eq_left (by omega)] at O
    repeat (first | apply Z1 | apply Z2 | apply Z3 | apply Z4 | apply Z5 rfl | apply Z6 | apply Z7 | apply Z8 | apply Z9 | apply ZA | apply ZB | apply ZC | ((first | apply ZD (by decide) | apply ZN (by decide)); (simp (maxSteps := 9999999) only [go_sem, r0, r1, r2, r3, r8, e1]; rfl)) | (refine ZE ?_ ?_; · simp only [go_sem]) | (refine ZF ?_ ?_; · simp only [go_sem]))
    refine run_loop (ins_loop (cap := cap) hn hib cx f i _ _ _ _ ⟨i, f, rfl, by omega, S, .refl, ⟨fun p q h1 h2 h3 h4 => O p q h1 (by omega), fun q h1 h2 => by omega⟩, by simp only [go_sem, r0], by simp only [go_sem, r1], by simp only [go_sem, r2], by simp only [go_sem, r3], by simp only [go_sem, r8], by simp only [go_sem], rfl, rfl⟩) ?_
    rintro ex ρ' ms' h1 d1 ⟨rfl, rfl, rfl, f2, S2, W2, O2, k0, k1, k2, k3, k8⟩
    repeat (first | apply Z1 | apply Z2 | apply Z3 | apply Z4 | apply Z5 rfl | apply Z6 | apply Z7 | apply Z8 | apply Z9 | apply ZA | apply ZB | apply ZC | ((first | apply ZD (by decide) | apply ZN (by decide)); (simp (maxSteps := 9999999) only [go_sem, k0, k1, k2, k3, k8, ew]; rfl)) | (refine ZE ?_ ?_; · simp only [go_sem]) | (refine ZF ?_ ?_; · simp only [go_sem]))
    exact end_nil ⟨n - (i + 1), by omega, i + 1, f2, rfl, S2, W.trans (W2.mono (by omega) (by omega)), by rw [Nat.min_eq_left (by omega)]; exact O2, by simp only [go_sem, k0], by simp only [go_sem, k1], by simp only [go_sem, k2], by simp only [go_sem, k3], by simp only [go_sem, ew], rfl, rfl⟩
  · have e1 : ¬ (i : Int) < n := by omega
    repeat (first | apply Z1 | apply Z2 | apply Z3 | apply Z4 | apply Z5 rfl | apply Z6 | apply Z7 | apply Z8 | apply Z9 | apply ZA | apply ZB | apply ZC | ((first | apply ZD (by decide) | apply ZN (by decide)); (simp (maxSteps := 9999999) only [go_sem, r0, r1, r2, r3, r8, e1]; rfl)) | (refine ZE ?_ ?_; · simp only [go_sem]) | (refine ZF ?_ ?_; · simp only [go_sem]))
    exact end_nil ⟨rfl, rfl, rfl, f, S, W, by rw [Nat.min_eq_right (by omega)] at O; exact O⟩
theorem ins87 (hn : n ≤ 12) {h : SHeap} {f : Nat → F2} (S : SA cel1 n B el h0 old0 h f) :
    ∃ h' f', M.call 87 [.slice (some ⟨B, 0, none⟩) n cap, .int .i64 0, .int .i64 n, .func (.func 74) #[] #[]] h = some (.tuple #[], h', []) ∧ SA cel1 n B el h0 old0 h' f' ∧ Sw 0 n f f' ∧ OrdD n f' := by
  have key : ∃ r, (∃ h' f', r = (Value.tuple #[], h', ([] : List Nat)) ∧ SA cel1 n B el h0 old0 h' f' ∧ Sw 0 n f f' ∧ OrdD n f') ∧ M.call 87 [.slice (some ⟨B, 0, none⟩) n cap, .int .i64 0, .int .i64 n, .func (.func 74) #[] #[]] h = some r := by
    refine call_ex (f := 87) _ sf87 rfl rfl rfl ?_
    unfold sf87
    have ew : IntKind.i64.wrap 1 = 1 := rfl
    repeat (first | apply Z1 | apply Z2 | apply Z3 | apply Z4 | apply Z5 rfl | apply Z6 | apply Z7 | apply Z8 | apply Z9 | apply ZA | apply ZB | apply ZC | ((first | apply ZD (by decide) | apply ZN (by decide)); (simp (maxSteps := 9999999) only [go_sem, argR, ew]; rfl)) | (refine ZE ?_ ?_; · simp only [go_sem]) | (refine ZF ?_ ?_; · simp only [go_sem]))
    refine run_loop (insO_loop (n := n) (B := B) (cap := cap) (el := el) (h0 := h0) (old0 := old0) hn _ f (n - 1) _ _ _ _ ⟨1, f, rfl, S, .refl, fun p q h1 h2 => by omega, by simp only [go_sem, argR], by simp only [go_sem, argR], by simp only [go_sem, argR], by simp only [go_sem, argR], by simp only [go_sem] <;> rfl, rfl, rfl⟩) ?_
    rintro ex ρ' ms' h1 d1 ⟨rfl, rfl, rfl, f2, S2, W2, O2⟩
    repeat (first | apply Z1 | apply Z2 | apply Z3 | apply Z4 | apply Z5 rfl | apply Z6 | apply Z7 | apply Z8 | apply Z9 | apply ZA | apply ZB | apply ZC | ((first | apply ZD (by decide) | apply ZN (by decide)); (simp (maxSteps := 9999999) only [go_sem]; rfl)) | (refine ZE ?_ ?_; · simp only [go_sem]) | (refine ZF ?_ ?_; · simp only [go_sem]))
    exact end_nil ⟨_, ⟨h1, f2, rfl, S2, W2, O2⟩, q_free [] rfl rfl rfl rfl (fun _ => rfl) (by rw [List.take_of_length_le]; rw [S2.len, S.len]; exact Nat.le_refl _) rfl⟩
  obtain ⟨r, ⟨h', f', rfl, k⟩, e⟩ := key
  exact ⟨h', f', e, k⟩
end
end Go.Proofs.YtpkhkghiidilcaaDoor.Sh

namespace Go.Proofs.YtpkhkghiidilcaaDoor.Sh
open Go
set_option maxRecDepth 100000
set_option maxHeartbeats 4000000
section
variable {n B cap : Nat} {el : TypeId} {h0 : SHeap} {old0 : List Nat}
theorem pdq_loop (hn : n ≤ 12) (cx : Cx) {h : SHeap} {f : Nat → F2} (S : SA cel1 n B el h0 old0 h f) : ∀ (k : Nat) ρ ms h' d', (ρ 0 = .slice (some ⟨B, 0, none⟩) n cap ∧ ρ 1 = .int .i64 0 ∧ ρ 2 = .int .i64 n ∧ ρ 4 = .func (.func 74) #[] #[] ∧ ms = [] ∧ h' = h ∧ d' = []) →
    LoopW M cx 8 sf82L0 ρ ms h' d' (fun ex ρ' ms' h' d' => ex = .ret ∧ ms' = [] ∧ d' = [] ∧ ∃ f', SA cel1 n B el h0 old0 h' f' ∧ Sw 0 n f f' ∧ OrdD n f') := by
  refine loop_run _ ?_
  rintro k ρ ms h' d' ⟨r0, r1, r2, r4, rfl, rfl, rfl⟩
  unfold sf82L0
  obtain ⟨h2, f2, c, S2, W, O⟩ := ins87 (cap := cap) hn S
  have e1 : ((n : Int) ≤ 12) = True := eq_true (by omega)
  have e2 : (n : Int) - 0 = n := by omega
  have e3 : IntKind.i64.wrap (n : Int) = n := wrap64 (by omega) (by omega)
  repeat (first | apply Z1 | apply Z2 | apply Z3 | apply Z4 | apply Z5 rfl | apply Z6 | apply Z7 | apply Z8 | apply Z9 | apply ZA | apply ZB | apply ZC | ((first | apply ZD (by decide) | apply ZN (by decide)); (simp (maxSteps := 9999999) only [go_sem, r0, r1, r2, r4, e1, e2, e3, c]; rfl)) | (refine ZE ?_ ?_; · simp only [go_sem]) | (refine ZF ?_ ?_; · simp only [go_sem]))
  exact end_nil ⟨rfl, rfl, rfl, f2, S2, W, O⟩
theorem sort73 (hn : n ≤ 12) {h : SHeap} {f : Nat → F2} (S : SA cel1 n B el h0 old0 h f) :
    ∃ h' f', M.call 73 [.slice (some ⟨B, 0, none⟩) n cap, .func (.func 74) #[] #[]] h = some (.tuple #[], h', []) ∧ SA cel1 n B el h0 old0 h' f' ∧ Sw 0 n f f' ∧ OrdD n f' := by
  have key82 : ∀ lim : Int, ∃ r, (∃ h' f', r = (Value.tuple #[], h', ([] : List Nat)) ∧ SA cel1 n B el h0 old0 h' f' ∧ Sw 0 n f f' ∧ OrdD n f') ∧ M.call 82 [.slice (some ⟨B, 0, none⟩) n cap, .int .i64 0, .int .i64 n, .int .i64 lim, .func (.func 74) #[] #[]] h = some r := fun lim => by
    refine call_ex (f := 82) _ sf82 rfl rfl rfl ?_
    unfold sf82
    repeat (first | apply Z1 | apply Z2 | apply Z3 | apply Z4 | apply Z5 rfl | apply Z6 | apply Z7 | apply Z8 | apply Z9 | apply ZA | apply ZB | apply ZC | ((first | apply ZD (by decide) | apply ZN (by decide)); (simp (maxSteps := 9999999) only [go_sem, argR]; rfl)) | (refine ZE ?_ ?_; · simp only [go_sem]) | (refine ZF ?_ ?_; · simp only [go_sem]))
    refine run_loop (pdq_loop (cap := cap) hn _ S 0 _ _ _ _ ⟨by simp only [go_sem, argR], by simp only [go_sem, argR], by simp only [go_sem, argR], by simp only [go_sem, argR], rfl, rfl, rfl⟩) ?_
    rintro ex ρ' ms' h1 d1 ⟨rfl, rfl, rfl, f2, S2, W2, O2⟩
    repeat (first | apply Z1 | apply Z2 | apply Z3 | apply Z4 | apply Z5 rfl | apply Z6 | apply Z7 | apply Z8 | apply Z9 | apply ZA | apply ZB | apply ZC | ((first | apply ZD (by decide) | apply ZN (by decide)); (simp (maxSteps := 9999999) only [go_sem]; rfl)) | (refine ZE ?_ ?_; · simp only [go_sem]) | (refine ZF ?_ ?_; · simp only [go_sem]))
    exact end_nil ⟨_, ⟨h1, f2, rfl, S2, W2, O2⟩, q_free [] rfl rfl rfl rfl (fun _ => rfl) (by rw [List.take_of_length_le]; rw [S2.len, S.len]; exact Nat.le_refl _) rfl⟩
  obtain ⟨m, hm, c83⟩ := len83 (n := n) (by omega) h
  obtain ⟨r, ⟨h', f', rfl, S2, W2, O2⟩, c82⟩ := key82 m
  refine ⟨h', f', ?_, S2, W2, O2⟩
  refine call_run sf73 rfl rfl rfl ?_
  have e3 : IntKind.u64.wrap (n : Int) = n := wrapU (by omega) (by omega)
  unfold sf73
  repeat (first | apply Z1 | apply Z2 | apply Z3 | apply Z4 | apply Z5 rfl | apply Z6 | apply Z7 | apply Z8 | apply Z9 | apply ZA | apply ZB | apply ZC | ((first | apply ZD (by decide) | apply ZN (by decide)); (simp (maxSteps := 9999999) only [go_sem, argR, e3, c83, c82]; rfl)) | (refine ZE ?_ ?_; · simp only [go_sem]) | (refine ZF ?_ ?_; · simp only [go_sem]))
  exact end_nil (q_free [] rfl rfl rfl rfl (fun _ => rfl) (by rw [List.take_of_length_le]; rw [S2.len, S.len]; exact Nat.le_refl _) rfl)
end
def Srt (l l' : List Nat) : Prop := l'.Perm l ∧ l'.Pairwise (fun a b => b ≤ a)
theorem flF_nI (f : Nat → F2) : ∀ n, flF cel1 f n = ((List.range n).map fun i => (f i).val).map nI
  | 0 => rfl
  | n + 1 => by
    show flF cel1 f n ++ cel1 (f n) = _
    rw [flF_nI f n, List.range_succ, List.map_append, List.map_append]; rfl
theorem sort_acc {H h : SHeap} {v : Value} {l : List Nat} (A : AccS H h v (l.map nI) l.length 1 3) (hne : l.length ≠ 0) (hl : l.length ≤ 12) (hb : ∀ x ∈ l, x < 2000) :
    ∃ h' l', M.call 73 [v, .func (.func 74) #[] #[]] h = some (.tuple #[], h', []) ∧ Srt l l' ∧ AccS H h' v (l'.map nI) l'.length 1 3 := by
  rcases A.acc with ⟨e, _⟩ | ⟨b, old, rfl, h1, h2, h3, h4, h5, h6⟩
  · exact (hne e).elim
  · have e : l = (List.range l.length).map fun i => ((fun i => if h : i < l.length then (⟨l[i], hb _ (List.getElem_mem h)⟩ : F2) else (⟨0, by decide⟩ : F2)) i).val := by
      apply List.ext_getElem?
      intro i
      by_cases c : i < l.length
      · simp [c]
      · rw [List.getElem?_eq_none (by omega), List.getElem?_eq_none (by simp; omega)]
    generalize (fun i => if h : i < l.length then (⟨l[i], hb _ (List.getElem_mem h)⟩ : F2) else (⟨0, by decide⟩ : F2)) = f at e
    have hcl : l.map nI = flF cel1 f l.length := by rw [flF_nI, ← e]
    have S : SA cel1 l.length b 3 h old h f := ⟨rfl, fun j _ _ => rfl, old, fun c hc => hc, by rw [h1, hcl]⟩
    obtain ⟨h', f', c, S2, W, O⟩ := sort73 (cap := UNK + 1) hl S
    have hp := W.perm (Nat.le_refl _)
    obtain ⟨old2, o1, o2⟩ := S2.at_
    have hlen : ((List.range l.length).map fun i => (f' i).val).length = l.length := by simp
    refine ⟨h', (List.range l.length).map fun i => (f' i).val, c, ⟨?_, ?_⟩, ?_, ?_, ?_⟩
    · have := hp.map (fun x : F2 => x.val)
      rw [List.map_map, List.map_map] at this
      conv => rhs; rw [e]
      exact this
    · rw [List.pairwise_map]
      refine List.Pairwise.imp_of_mem ?_ List.pairwise_lt_range
      intro a b _ hb hab
      exact O a b hab (List.mem_range.1 hb)
    · rw [hlen]
      exact .inr ⟨b, old2, rfl, by rw [o2, flF_nI], by simp, hne, h4, by rw [List.all_eq_true]; intro x hx; obtain ⟨y, _, rfl⟩ := List.mem_map.1 hx; rfl, fun c hc => h6 c (o1 c hc)⟩
    · rw [S2.len]; exact A.le
    · intro j hj
      rw [S2.same j (by omega) (fun hj2 => by have := (h6 j hj2).1; omega)]
      exact A.same j hj
theorem Srt.uniq {l l1 l2 : List Nat} (h1 : Srt l l1) (h2 : Srt l l2) : l1 = l2 := by
  have hp : l1.Perm l2 := h1.1.trans h2.1.symm
  refine hp.eq_of_pairwise (le := fun a b => b ≤ a) ?_ h1.2 h2.2
  intro a b _ _ h3 h4
  omega
end Go.Proofs.YtpkhkghiidilcaaDoor.Sh

namespace Go.Proofs.YtpkhkghiidilcaaDoor.Sh
open Go
set_option maxRecDepth 100000
set_option maxHeartbeats 4000000
theorem ins0_loop (cx : Cx) (H : SHeap) : ∀ (k : Nat) ρ ms h' d', (ρ 2 = .int .i64 0 ∧ ρ 8 = .int .i64 1 ∧ ms = [] ∧ h' = H ∧ d' = []) →
    LoopW M cx 6 sf87L1 ρ ms h' d' (fun ex _ ms' h' d' => ex = .exit 0 ∧ ms' = [] ∧ h' = H ∧ d' = []) := by
  refine loop_run _ ?_
  rintro k ρ ms h' d' ⟨r2, r8, rfl, rfl, rfl⟩
  unfold sf87L1
  repeat (first | apply Z1 | apply Z2 | apply Z3 | apply Z4 | apply Z5 rfl | apply Z6 | apply Z7 | apply Z8 | apply Z9 | apply ZA | apply ZB | apply ZC | ((first | apply ZD (by decide) | apply ZN (by decide)); (simp (maxSteps := 9999999) only [go_sem, r2, r8]; rfl)) | (refine ZE ?_ ?_; · simp only [go_sem]) | (refine ZF ?_ ?_; · simp only [go_sem]))
  exact end_nil ⟨rfl, rfl, rfl, rfl⟩
theorem ins0 (g : FuncId) (h : SHeap) : M.call 87 [.slice none 0 0, .int .i64 0, .int .i64 0, .func (.func g) #[] #[]] h = some (.tuple #[], h, []) := by
  refine call_run sf87 rfl rfl rfl ?_
  have ew : IntKind.i64.wrap 1 = 1 := rfl
  unfold sf87
  repeat (first | apply Z1 | apply Z2 | apply Z3 | apply Z4 | apply Z5 rfl | apply Z6 | apply Z7 | apply Z8 | apply Z9 | apply ZA | apply ZB | apply ZC | ((first | apply ZD (by decide) | apply ZN (by decide)); (simp (maxSteps := 9999999) only [go_sem, argR, ew]; rfl)) | (refine ZE ?_ ?_; · simp only [go_sem]) | (refine ZF ?_ ?_; · simp only [go_sem]))
  refine run_loop (ins0_loop _ h 0 _ _ _ _ ⟨by simp only [go_sem, argR], by simp only [go_sem, argR] <;> rfl, rfl, rfl, rfl⟩) ?_
  rintro ex ρ' ms' h1 d1 ⟨rfl, rfl, rfl, rfl⟩
  repeat (first | apply Z1 | apply Z2 | apply Z3 | apply Z4 | apply Z5 rfl | apply Z6 | apply Z7 | apply Z8 | apply Z9 | apply ZA | apply ZB | apply ZC | ((first | apply ZD (by decide) | apply ZN (by decide)); (simp (maxSteps := 9999999) only [go_sem]; rfl)) | (refine ZE ?_ ?_; · simp only [go_sem]) | (refine ZF ?_ ?_; · simp only [go_sem]))
  exact end_nil (q_free [] rfl rfl rfl rfl (fun _ => rfl) (take_self _) rfl)
theorem pdq0_loop (cx : Cx) (g : FuncId) (H : SHeap) : ∀ (k : Nat) ρ ms h' d', (ρ 0 = .slice none 0 0 ∧ ρ 1 = .int .i64 0 ∧ ρ 2 = .int .i64 0 ∧ ρ 4 = .func (.func g) #[] #[] ∧ ms = [] ∧ h' = H ∧ d' = []) →
    LoopW M cx 8 sf82L0 ρ ms h' d' (fun ex _ ms' h' d' => ex = .ret ∧ ms' = [] ∧ h' = H ∧ d' = []) := by
  refine loop_run _ ?_
  rintro k ρ ms h' d' ⟨r0, r1, r2, r4, rfl, rfl, rfl⟩
  unfold sf82L0
  have c := ins0 g
  have e1 : ((0 : Int) ≤ 12) = True := by decide
  have e2 : (0 : Int) - 0 = 0 := rfl
  have e3 : IntKind.i64.wrap 0 = 0 := rfl
  repeat (first | apply Z1 | apply Z2 | apply Z3 | apply Z4 | apply Z5 rfl | apply Z6 | apply Z7 | apply Z8 | apply Z9 | apply ZA | apply ZB | apply ZC | ((first | apply ZD (by decide) | apply ZN (by decide)); (simp (maxSteps := 9999999) only [go_sem, r0, r1, r2, r4, e1, e2, e3, c]; rfl)) | (refine ZE ?_ ?_; · simp only [go_sem]) | (refine ZF ?_ ?_; · simp only [go_sem]))
  exact end_nil ⟨rfl, rfl, rfl, rfl⟩
theorem sort0 (g : FuncId) (h : SHeap) : M.call 73 [.slice none 0 0, .func (.func g) #[] #[]] h = some (.tuple #[], h, []) := by
  have c82 : ∀ lim : Int, M.call 82 [.slice none 0 0, .int .i64 0, .int .i64 0, .int .i64 lim, .func (.func g) #[] #[]] h = some (.tuple #[], h, []) := fun lim => by
    refine call_run sf82 rfl rfl rfl ?_
    unfold sf82
    repeat (first | apply Z1 | apply Z2 | apply Z3 | apply Z4 | apply Z5 rfl | apply Z6 | apply Z7 | apply Z8 | apply Z9 | apply ZA | apply ZB | apply ZC | ((first | apply ZD (by decide) | apply ZN (by decide)); (simp (maxSteps := 9999999) only [go_sem, argR]; rfl)) | (refine ZE ?_ ?_; · simp only [go_sem]) | (refine ZF ?_ ?_; · simp only [go_sem]))
    refine run_loop (pdq0_loop _ g h 0 _ _ _ _ ⟨by simp only [go_sem, argR], by simp only [go_sem, argR], by simp only [go_sem, argR], by simp only [go_sem, argR], rfl, rfl, rfl⟩) ?_
    rintro ex ρ' ms' h1 d1 ⟨rfl, rfl, rfl, rfl⟩
    repeat (first | apply Z1 | apply Z2 | apply Z3 | apply Z4 | apply Z5 rfl | apply Z6 | apply Z7 | apply Z8 | apply Z9 | apply ZA | apply ZB | apply ZC | ((first | apply ZD (by decide) | apply ZN (by decide)); (simp (maxSteps := 9999999) only [go_sem]; rfl)) | (refine ZE ?_ ?_; · simp only [go_sem]) | (refine ZF ?_ ?_; · simp only [go_sem]))
    exact end_nil (q_free [] rfl rfl rfl rfl (fun _ => rfl) (take_self _) rfl)
  obtain ⟨m, hm, c83⟩ := len83 (n := 0) (by omega) h
  rw [show ((0 : Nat) : Int) = 0 from rfl] at c83
  refine call_run sf73 rfl rfl rfl ?_
  have e3 : IntKind.u64.wrap 0 = 0 := rfl
  have e4 : ((0 : Nat) : Int) = 0 := rfl
  unfold sf73
  repeat (first | apply Z1 | apply Z2 | apply Z3 | apply Z4 | apply Z5 rfl | apply Z6 | apply Z7 | apply Z8 | apply Z9 | apply ZA | apply ZB | apply ZC | ((first | apply ZD (by decide) | apply ZN (by decide)); (simp (maxSteps := 9999999) only [go_sem, argR, e3, e4, c83, c82]; rfl)) | (refine ZE ?_ ?_; · simp only [go_sem]) | (refine ZF ?_ ?_; · simp only [go_sem]))
  exact end_nil (q_free [] rfl rfl rfl rfl (fun _ => rfl) (take_self _) rfl)
theorem AccS.resl {H h : SHeap} (hl : H.length ≤ h.length) (fr : ∀ j, j < H.length → h[j]? = H[j]?) (l : List Nat) : AccS H (resH h (l.map nI) l.length 3) (resV h l.length 1) (l.map nI) l.length 1 3 := by
  by_cases c : l.length = 0
  · have e : l = [] := List.length_eq_zero_iff.1 c
    subst e
    exact ⟨.inl ⟨rfl, rfl, rfl⟩, hl, fr⟩
  · rw [← resV_pos h 1 c, ← resH_pos h _ 3 c]
    exact ⟨.inr ⟨h.length, [], rfl, by rw [app_get0]; rfl, by simp, c, hl, by rw [List.all_eq_true]; intro x hx; obtain ⟨y, _, rfl⟩ := List.mem_map.1 hx; rfl, fun c hc => by cases hc⟩, by simp; omega, fun j hj => by rw [List.getElem?_append_left (by omega)]; exact fr j hj⟩
section
variable {H : SHeap} {n goal : Nat} {E : List (Int × Int)} {v : Value}
theorem parts56_no (hv : PS H v E) (hlen : E.length ≤ 1000000) (he : errG n E = 0) (hg : goal < n) (hne : E.length + 1 ≠ n) : M.call 56 [.int .i64 n, v, .int .i64 goal] H = some (.tuple #[.slice none 0 0, .int .i64 4], H, []) := by
  refine call_run sf56 rfl rfl rfl ?_
  have o := openGoal_ok hv hlen he hg
  obtain ⟨m, e, h1, h2, h3, h4⟩ := errG_ok he
  obtain ⟨va, vc, rfl, _⟩ := id hv
  have ew : IntKind.i64.wrap ((n : Int) - 1) = n - 1 := wrap64 (by omega) (by omega)
  have e1 : ((E.length : Int) = n - 1) = False := eq_false (by omega)
  unfold sf56
  repeat (first | apply Z1 | apply Z2 | apply Z3 | apply Z4 | apply Z5 rfl | apply Z6 | apply Z7 | apply Z8 | apply Z9 | apply ZA | apply ZB | apply ZC | ((first | apply ZD (by decide) | apply ZN (by decide)); (simp (maxSteps := 9999999) only [go_sem, argR, o, ew, e1]; rfl)) | (refine ZE ?_ ?_; · simp only [go_sem]) | (refine ZF ?_ ?_; · simp only [go_sem]))
  exact end_nil (q_free [.slice none 0 0, .int .i64 4] (by simp only [go_sem]) rfl rfl rfl (fun _ => rfl) (by simp) rfl)
def outL (k : Nat) (o : List Nat) : List Nat := if k = 0 then o else o ++ [k]
theorem parts56 (hv : PS H v E) (hlen : E.length ≤ 1000000) (he : errG n E = 0) (hg : goal < n) (hne : E.length + 1 = n) {k : Nat} {o : List Nat} (hp : partsO (adjE E) n 7 goal (-1) = some (k, o)) (hk0 : k = 0 → o = []) (hol : o.length ≤ 11) (hb : ∀ x ∈ outL k o, x < 2000) :
    ∃ l', Srt (outL k o) l' ∧ M.call 56 [.int .i64 n, v, .int .i64 goal] H = some (.tuple #[resV H l'.length 1, .int .i64 0], resH H (l'.map nI) l'.length 3, []) := by
  suffices key : ∃ r, (∃ l', r = ((Value.tuple #[resV H l'.length 1, .int .i64 0], resH H (l'.map nI) l'.length 3, []) : Value × SHeap × List Nat) ∧ Srt (outL k o) l') ∧ M.call 56 [.int .i64 n, v, .int .i64 goal] H = some r by
    obtain ⟨r, ⟨l', rfl, q1⟩, q⟩ := key
    exact ⟨l', q1, q⟩
  refine call_ex (f := 56) _ sf56 rfl rfl rfl ?_
  have o58 := openGoal_ok hv hlen he hg
  obtain ⟨m, e, h1, h2, h3, h4⟩ := errG_ok he
  obtain rfl : n = m := by omega
  obtain ⟨va, vc, rfl, _⟩ := id hv
  have ew : IntKind.i64.wrap ((n : Int) - 1) = n - 1 := wrap64 (by omega) (by omega)
  have e1 : ((E.length : Int) = n - 1) = True := eq_true (by omega)
  have c72 := parts72 (gr := H.length) h2 h3 7 goal (-1) k o hg hp (H ++ [gE n E]) (gEat H n E)
  have A := AccS.resl (H := H) (h := H ++ [gE n E]) (by simp) (fun j hj => List.getElem?_append_left hj) o
  obtain ⟨ra, rc, eov⟩ := A.shape
  generalize resH (H ++ [gE n E]) (o.map nI) o.length 3 = h2 at *
  generalize resV (H ++ [gE n E]) o.length 1 = ov at *
  subst eov
  unfold sf56
  by_cases c : k = 0
  · have ok : outL k o = [] := by unfold outL; rw [if_pos c, hk0 c]
    have eo := hk0 c
    rw [ok]
    subst c eo
    have gt : ¬ (((0 : Nat) : Int) > 0) := by decide
    rcases A.acc with ⟨_, e3, _⟩ | ⟨_, _, _, _, _, e3, _⟩
    · rw [e3] at c72 A
      have s0 := sort0 74 h2
      have A2 : AccS (H ++ []) h2 (.slice none 0 0) (([] : List Nat).map nI) ([] : List Nat).length 1 3 := by rw [List.append_nil]; exact A
      repeat (first | apply Z1 | apply Z2 | apply Z3 | apply Z4 | apply Z5 rfl | apply Z6 | apply Z7 | apply Z8 | apply Z9 | apply ZA | apply ZB | apply ZC | ((first | apply ZD (by decide) | apply ZN (by decide)); (simp (maxSteps := 9999999) only [go_sem, argR, o58, ew, e1, c72, gt, s0]; rfl)) | (refine ZE ?_ ?_; · simp only [go_sem]) | (refine ZF ?_ ?_; · simp only [go_sem]))
      exact end_nil ⟨_, ⟨[], rfl, .refl _, List.Pairwise.nil⟩, q_gc [.slice none 0 0, .int .i64 0] (by simp only [go_sem]) rfl (A2.gc2 (.int .i64 0) rfl) rfl⟩
    · exact (e3 rfl).elim
  · have gt : ((k : Int) > 0) := by omega
    have ok : outL k o = o ++ [k] := by unfold outL; rw [if_neg c]
    rw [ok] at hb ⊢
    obtain ⟨G, v2, ap, ⟨b, ev2⟩, A2, _⟩ := (A.app [SO.cells [.int .i64 (k : Nat)] 3 true 0 []]).push (bytes := 8) (new := [.int .i64 (k : Nat)]) (bs := h2.length) (el2 := 3) (pf2 := true) (own2 := 0) (old2 := []) (by rw [app_get0]; rfl) rfl rfl (by decide) rfl (by decide) (by omega)
    have A3 : AccS H G v2 ((o ++ [k]).map nI) (o ++ [k]).length 1 3 := by
      have e : (o ++ [k]).length = o.length + 1 := by simp
      rw [List.map_append, e]; exact A2
    obtain ⟨h', l', c73, hs, A4⟩ := sort_acc A3 (by simp) (by simp; omega) hb
    have A5 : AccS (H ++ []) h' v2 (l'.map nI) l'.length 1 3 := by rw [List.append_nil]; exact A4
    have gc := A5.gc2 (.int .i64 0) rfl
    subst ev2
    repeat (first | apply Z1 | apply Z2 | apply Z3 | apply Z4 | apply Z5 rfl | apply Z6 | apply Z7 | apply Z8 | apply Z9 | apply ZA | apply ZB | apply ZC | ((first | apply ZD (by decide) | apply ZN (by decide)); (simp (maxSteps := 9999999) only [go_sem, argR, o58, ew, e1, c72, gt, ↓ap, c73]; rfl)) | (refine ZE ?_ ?_; · simp only [go_sem]) | (refine ZF ?_ ?_; · simp only [go_sem]))
    exact end_nil ⟨_, ⟨l', rfl, hs⟩, q_gc [.slice (some ⟨b, 0, none⟩) (o.length + 1) (UNK + 1), .int .i64 0] (by simp only [go_sem]) rfl gc rfl⟩
end
end Go.Proofs.YtpkhkghiidilcaaDoor.Sh

namespace Go.Proofs.YtpkhkghiidilcaaDoor.Sh
open Go
set_option maxRecDepth 100000
set_option maxHeartbeats 4000000
def zL (l : List Nat) : List Int := l.map fun (x : Nat) => (x : Int)
theorem zL_len (l : List Nat) : (zL l).length = l.length := by simp [zL]
theorem zL_at (l : List Nat) {i : Nat} (h : i < l.length) : (zL l)[i]'(by rw [zL_len]; exact h) = (l[i] : Int) := by simp [zL]
def pw2 : List Nat → Nat
  | [] => 0
  | x :: l => 2 ^ x + pw2 l
theorem pw2_app : ∀ (l m : List Nat), pw2 (l ++ m) = pw2 l + pw2 m
  | [], m => by simp [pw2]
  | x :: l, m => by show 2 ^ x + pw2 (l ++ m) = 2 ^ x + pw2 l + pw2 m; rw [pw2_app l m]; omega
theorem pw2_take {l : List Nat} {i : Nat} (h : i < l.length) : pw2 (l.take (i + 1)) = pw2 (l.take i) + 2 ^ l[i] := by
  rw [List.take_add_one, List.getElem?_eq_getElem h, pw2_app]
  show _ + (2 ^ l[i] + 0) = _
  omega
theorem pw2_le : ∀ (l : List Nat), (∀ x ∈ l, x ≤ 20) → pw2 l ≤ 1048576 * l.length
  | [], _ => by simp [pw2]
  | x :: l, h => by
    have h1 := pw2_le l (fun y hy => h y (List.mem_cons_of_mem _ hy))
    have h2 : 2 ^ x ≤ 2 ^ 20 := Nat.pow_le_pow_right (by decide) (h x List.mem_cons_self)
    have e : 2 ^ 20 = 1048576 := rfl
    show 2 ^ x + pw2 l ≤ 1048576 * (l.length + 1)
    omega
theorem pw2_tk {l : List Nat} (hx : ∀ x ∈ l, x ≤ 20) (hl : l.length ≤ 12) (i : Nat) : pw2 (l.take i) ≤ 12582912 := by
  have h1 := pw2_le (l.take i) (fun x h => hx x (List.mem_of_mem_take h))
  have h2 : (l.take i).length ≤ 12 := by rw [List.length_take]; omega
  omega
theorem AccS.is {H h : SHeap} {v : Value} {l : List Nat} (A : AccS H h v (l.map nI) l.length 1 3) : IS h v (zL l) := by
  rcases A.acc with ⟨e, rfl, _⟩ | ⟨b, old, rfl, h1, _⟩
  · have : l = [] := List.length_eq_zero_iff.1 e
    subst this
    exact ⟨none, 0, rfl, fun h => (h rfl).elim⟩
  · refine ⟨_, UNK + 1, by rw [zL_len], fun _ => ⟨b, 0, rfl, (List.getElem?_eq_some_iff.1 h1).1, fun i hi => ?_⟩⟩
    rw [zL_len] at hi
    rw [zL_at l hi, Nat.zero_add]
    have := load_cell (o := i) (c := nI l[i]) h1 rfl (by rw [List.getElem?_map, List.getElem?_eq_getElem hi]; rfl) []
    rw [List.append_nil] at this; exact this
section
variable {H : SHeap} {n goal : Nat} {E : List (Int × Int)} {v : Value} {l : List Nat}
theorem loop21 (cx : Cx) (hv : IS H v (zL l)) (hx : ∀ x ∈ l, x ≤ 20) (hl : l.length ≤ 12) :
    ∀ k ρ ms h' d', (∃ i : Nat, i + k = l.length ∧ ρ 10 = .int .i64 (1 + (pw2 (l.take i) : Int) - i) ∧ ρ 23 = v ∧ ρ 24 = .int .i64 l.length ∧ ρ 25 = .int .i64 i ∧ ms = [] ∧ h' = H ∧ d' = []) →
    LoopW M cx 6 sf21L0 ρ ms h' d' (fun ex ρ' ms' h' d' => ex = .exit 0 ∧ ms' = [] ∧ h' = H ∧ d' = [] ∧ ρ' 10 = .int .i64 (1 + (pw2 l : Int) - l.length)) := by
  refine loop_run _ ?_
  rintro k ρ ms h' d' ⟨i, hk, r10, r23, r24, r25, rfl, rfl, rfl⟩
  unfold sf21L0
  by_cases c : k = 0
  · have e1 : ¬ ((i : Int) < l.length) := by omega
    obtain rfl : i = l.length := by omega
    rw [List.take_length] at r10
    repeat (first | apply Z1 | apply Z2 | apply Z3 | apply Z4 | apply Z5 rfl | apply Z6 | apply Z7 | apply Z8 | apply Z9 | apply ZA | apply ZB | apply ZC | ((first | apply ZD (by decide) | apply ZN (by decide)); (simp (maxSteps := 9999999) only [go_sem, r24, r25, e1]; rfl)) | (refine ZE ?_ ?_; · simp only [go_sem]) | (refine ZF ?_ ?_; · simp only [go_sem]))
    exact end_nil ⟨rfl, rfl, rfl, rfl, by simp only [go_sem, r10]⟩
  · have e1 : ((i : Int) < l.length) := by omega
    have hi : i < l.length := by omega
    have e2 : (0 : Int) ≤ i := by omega
    have ew : IntKind.i64.wrap ((i : Int) + 1) = ((i + 1 : Nat) : Int) := by rw [wrap64 (by omega) (by omega)]; rfl
    obtain ⟨b, o, cp, rfl, ld⟩ := hv.ld (by intro e; have := zL_len l; rw [e] at this; simp at this; omega)
    rw [zL_len] at r23
    have l1 := ld i (by rw [zL_len]; exact hi)
    rw [zL_at l hi] at l1
    have hx1 := hx _ (List.getElem_mem hi)
    have pt := pw2_take hi
    have p1 := pw2_tk hx hl i
    have p2 := pw2_tk hx hl (i + 1)
    have p3 := Nat.pow_pos (n := l[i]) (show 0 < 2 by decide)
    generalize l[i] = q at *
    have wq : IntKind.u64.wrap (q : Int) = q := wrapU (by omega) (by omega)
    have sh := shl_1 (k := .u64) (v := q) (by omega)
    have w1 : IntKind.i64.wrap (((2 ^ q : Nat) : Int) - 1) = ((2 ^ q : Nat) : Int) - 1 := wrap64 (by omega) (by omega)
    have w2 : IntKind.i64.wrap (1 + (pw2 (l.take i) : Int) - i + (((2 ^ q : Nat) : Int) - 1)) = 1 + (pw2 (l.take (i + 1)) : Int) - ((i + 1 : Nat) : Int) := by rw [wrap64 (by omega) (by omega)]; omega
    repeat (first | apply Z1 | apply Z2 | apply Z3 | apply Z4 | apply Z5 rfl | apply Z6 | apply Z7 | apply Z8 | apply Z9 | apply ZA | apply ZB | apply ZC | ((first | apply ZD (by decide) | apply ZN (by decide)); (simp (maxSteps := 9999999) only [go_sem, r10, r23, r24, r25, e1, e2, l1, wq, sh, w1, w2, ew, Int.toNat_natCast]; rfl)) | (refine ZE ?_ ?_; · simp only [go_sem]) | (refine ZF ?_ ?_; · simp only [go_sem]))
    exact end_nil ⟨k - 1, by omega, i + 1, by omega, by simp only [go_sem], by simp only [go_sem, r23, zL_len], by simp only [go_sem, r24], by simp only [go_sem, ew], rfl, rfl, rfl⟩
theorem loop25 (cx : Cx) (hv : IS H v (zL l)) (hx : ∀ x ∈ l, x ≤ 20) (hl : l.length ≤ 12) :
    ∀ k ρ ms h' d', (∃ i : Nat, i + k = l.length ∧ ρ 3 = .int .i64 (1 + (pw2 (l.take i) : Int) - l.length) ∧ ρ 0 = v ∧ ρ 4 = .int .i64 i ∧ ms = [] ∧ h' = H ∧ d' = []) →
    LoopW M cx 5 sf25L0 ρ ms h' d' (fun ex ρ' ms' h' d' => ex = .exit 0 ∧ ms' = [] ∧ h' = H ∧ d' = [] ∧ ρ' 3 = .int .i64 (1 + (pw2 l : Int) - l.length)) := by
  refine loop_run _ ?_
  rintro k ρ ms h' d' ⟨i, hk, r3, r0, r4, rfl, rfl, rfl⟩
  unfold sf25L0
  obtain ⟨va, vc, ev, _⟩ := id hv
  rw [zL_len] at ev
  by_cases c : k = 0
  · have e1 : ¬ ((i : Int) < l.length) := by omega
    obtain rfl : i = l.length := by omega
    rw [List.take_length] at r3
    subst ev
    repeat (first | apply Z1 | apply Z2 | apply Z3 | apply Z4 | apply Z5 rfl | apply Z6 | apply Z7 | apply Z8 | apply Z9 | apply ZA | apply ZB | apply ZC | ((first | apply ZD (by decide) | apply ZN (by decide)); (simp (maxSteps := 9999999) only [go_sem, r0, r4, e1]; rfl)) | (refine ZE ?_ ?_; · simp only [go_sem]) | (refine ZF ?_ ?_; · simp only [go_sem]))
    exact end_nil ⟨rfl, rfl, rfl, rfl, by simp only [go_sem, r3]⟩
  · have e1 : ((i : Int) < l.length) := by omega
    have hi : i < l.length := by omega
    have e2 : (0 : Int) ≤ i := by omega
    have ew : IntKind.i64.wrap ((i : Int) + 1) = ((i + 1 : Nat) : Int) := by rw [wrap64 (by omega) (by omega)]; rfl
    obtain ⟨b, o, cp, rfl, ld⟩ := hv.ld (by intro e; have := zL_len l; rw [e] at this; simp at this; omega)
    rw [zL_len] at r0
    have l1 := ld i (by rw [zL_len]; exact hi)
    rw [zL_at l hi] at l1
    have hx1 := hx _ (List.getElem_mem hi)
    have pt := pw2_take hi
    have p1 := pw2_tk hx hl i
    have p2 := pw2_tk hx hl (i + 1)
    have p3 := Nat.pow_pos (n := l[i]) (show 0 < 2 by decide)
    generalize l[i] = q at *
    have sh := shl_1 (k := .i64) (v := q) (by omega)
    have w2 : IntKind.i64.wrap (1 + (pw2 (l.take i) : Int) - l.length + ((2 ^ q : Nat) : Int)) = 1 + (pw2 (l.take (i + 1)) : Int) - l.length := by rw [wrap64 (by omega) (by omega)]; omega
    repeat (first | apply Z1 | apply Z2 | apply Z3 | apply Z4 | apply Z5 rfl | apply Z6 | apply Z7 | apply Z8 | apply Z9 | apply ZA | apply ZB | apply ZC | ((first | apply ZD (by decide) | apply ZN (by decide)); (simp (maxSteps := 9999999) only [go_sem, r0, r3, r4, e1, e2, l1, sh, w2, ew, Int.toNat_natCast]; rfl)) | (refine ZE ?_ ?_; · simp only [go_sem]) | (refine ZF ?_ ?_; · simp only [go_sem]))
    exact end_nil ⟨k - 1, by omega, i + 1, by omega, by simp only [go_sem], by simp only [go_sem, r0, zL_len], by simp only [go_sem, ew], rfl, rfl, rfl⟩
theorem tnum25 (hv : IS H v (zL l)) (hx : ∀ x ∈ l, x ≤ 20) (hl : l.length ≤ 12) : M.call 25 [v] H = some (.int .i64 (1 + (pw2 l : Int) - l.length), H, []) := by
  refine call_run sf25 rfl rfl rfl ?_
  obtain ⟨va, vc, ev, _⟩ := id hv
  rw [zL_len] at ev
  have w1 : IntKind.i64.wrap (1 - (l.length : Int)) = 1 - l.length := wrap64 (by omega) (by omega)
  have e0 : (1 + (pw2 (l.take 0) : Int) - l.length) = 1 - l.length := by show 1 + ((0 : Nat) : Int) - _ = _; omega
  have hv' := hv
  subst ev
  unfold sf25
  repeat (first | apply Z1 | apply Z2 | apply Z3 | apply Z4 | apply Z5 rfl | apply Z6 | apply Z7 | apply Z8 | apply Z9 | apply ZA | apply ZB | apply ZC | ((first | apply ZD (by decide) | apply ZN (by decide)); (simp (maxSteps := 9999999) only [go_sem, argR, w1]; rfl)) | (refine ZE ?_ ?_; · simp only [go_sem]) | (refine ZF ?_ ?_; · simp only [go_sem]))
  refine run_loop (loop25 _ hv' hx hl l.length _ _ _ _ ⟨0, by omega, by rw [e0]; simp only [go_sem], by simp only [go_sem, argR], by simp only [go_sem] <;> rfl, rfl, rfl, rfl⟩) ?_
  rintro ex ρ' ms' h1 d1 ⟨rfl, rfl, rfl, rfl, t3⟩
  repeat (first | apply Z1 | apply Z2 | apply Z3 | apply Z4 | apply Z5 rfl | apply Z6 | apply Z7 | apply Z8 | apply Z9 | apply ZA | apply ZB | apply ZC | ((first | apply ZD (by decide) | apply ZN (by decide)); (simp (maxSteps := 9999999) only [go_sem, t3]; rfl)) | (refine ZE ?_ ?_; · simp only [go_sem]) | (refine ZF ?_ ?_; · simp only [go_sem]))
  exact end_nil (q_ret1 _ (by simp only [go_sem]) rfl (take_self _))
theorem parts20_no (hv : PS H v E) (hlen : E.length ≤ 1000000) (he : errG n E = 0) (hg : goal < n) (hne : E.length + 1 ≠ n) : M.call 20 [.int .i64 n, v, .int .i64 goal] H = some (.tuple #[.slice none 0 0, .int .i64 4], H, []) := by
  have c := parts56_no hv hlen he hg hne
  refine call_run sf20 rfl rfl rfl ?_
  obtain ⟨va, vc, rfl, _⟩ := id hv
  unfold sf20
  repeat (first | apply Z1 | apply Z2 | apply Z3 | apply Z4 | apply Z5 rfl | apply Z6 | apply Z7 | apply Z8 | apply Z9 | apply ZA | apply ZB | apply ZC | ((first | apply ZD (by decide) | apply ZN (by decide)); (simp (maxSteps := 9999999) only [go_sem, argR, c]; rfl)) | (refine ZE ?_ ?_; · simp only [go_sem]) | (refine ZF ?_ ?_; · simp only [go_sem]))
  exact end_nil (q_free [.slice none 0 0, .int .i64 4] (by simp only [go_sem]) rfl rfl rfl (fun _ => rfl) (by simp) rfl)
theorem tnum21_no (hv : PS H v E) (hlen : E.length ≤ 1000000) (he : errG n E = 0) (hg : goal < n) (hne : E.length + 1 ≠ n) : M.call 21 [.int .i64 n, v, .int .i64 goal] H = some (.tuple #[.int .i64 0, .int .i64 4], H, []) := by
  have c := parts56_no hv hlen he hg hne
  refine call_run sf21 rfl rfl rfl ?_
  obtain ⟨va, vc, rfl, _⟩ := id hv
  unfold sf21
  repeat (first | apply Z1 | apply Z2 | apply Z3 | apply Z4 | apply Z5 rfl | apply Z6 | apply Z7 | apply Z8 | apply Z9 | apply ZA | apply ZB | apply ZC | ((first | apply ZD (by decide) | apply ZN (by decide)); (simp (maxSteps := 9999999) only [go_sem, argR, c]; rfl)) | (refine ZE ?_ ?_; · simp only [go_sem]) | (refine ZF ?_ ?_; · simp only [go_sem]))
  exact end_nil (q_free [.int .i64 0, .int .i64 4] (by simp only [go_sem]) rfl rfl rfl (fun _ => rfl) (by simp) rfl)
variable {k : Nat} {o : List Nat}
theorem parts20 (hv : PS H v E) (hlen : E.length ≤ 1000000) (he : errG n E = 0) (hg : goal < n) (hne : E.length + 1 = n) (hp : partsO (adjE E) n 7 goal (-1) = some (k, o)) (hk0 : k = 0 → o = []) (hol : o.length ≤ 11) (hb : ∀ x ∈ outL k o, x ≤ 20) :
    ∃ l', Srt (outL k o) l' ∧ M.call 20 [.int .i64 n, v, .int .i64 goal] H = some (.tuple #[resV H l'.length 1, .int .i64 0], resH H (l'.map nI) l'.length 3, []) ∧ M.call 21 [.int .i64 n, v, .int .i64 goal] H = some (.tuple #[.int .i64 (1 + (pw2 l' : Int) - l'.length), .int .i64 0], H, []) := by
  obtain ⟨l', hs, c⟩ := parts56 hv hlen he hg hne hp hk0 hol (fun x hx => by have := hb x hx; omega)
  have hx : ∀ x ∈ l', x ≤ 20 := fun x h => hb x (hs.1.mem_iff.1 h)
  have hl : l'.length ≤ 12 := by
    rw [hs.1.length_eq]; unfold outL
    by_cases c : k = 0
    · rw [if_pos c]; omega
    · rw [if_neg c, List.length_append, List.length_singleton]; omega
  have A := AccS.resl (H := H) (h := H) (Nat.le_refl _) (fun _ _ => rfl) l'
  obtain ⟨ra, rc, eov⟩ := A.shape
  obtain ⟨k1, k2⟩ := resH_fr H (l'.map nI) l'.length 3
  have Ai : AccS (H ++ []) (resH H (l'.map nI) l'.length 3) (resV H l'.length 1) (l'.map nI) l'.length 1 3 := by rw [List.append_nil]; exact A
  have gc := Ai.gc2 (.int .i64 0) rfl
  have I := A.is
  refine ⟨l', hs, ?_, ?_⟩
  · refine call_run sf20 rfl rfl rfl ?_
    obtain ⟨va, vc, rfl, _⟩ := id hv
    unfold sf20
    generalize hh2 : resH H (l'.map nI) l'.length 3 = h2 at *
    generalize hv2 : resV H l'.length 1 = v2 at *
    subst eov
    repeat (first | apply Z1 | apply Z2 | apply Z3 | apply Z4 | apply Z5 rfl | apply Z6 | apply Z7 | apply Z8 | apply Z9 | apply ZA | apply ZB | apply ZC | ((first | apply ZD (by decide) | apply ZN (by decide)); (simp (maxSteps := 9999999) only [go_sem, argR, c]; rfl)) | (refine ZE ?_ ?_; · simp only [go_sem]) | (refine ZF ?_ ?_; · simp only [go_sem]))
    exact end_nil (q_gc [.slice ra l'.length rc, .int .i64 0] (by simp only [go_sem]) rfl gc rfl)
  · refine call_run sf21 rfl rfl rfl ?_
    obtain ⟨va, vc, rfl, _⟩ := id hv
    unfold sf21
    generalize hh2 : resH H (l'.map nI) l'.length 3 = h2 at *
    generalize hv2 : resV H l'.length 1 = v2 at *
    subst eov
    repeat (first | apply Z1 | apply Z2 | apply Z3 | apply Z4 | apply Z5 rfl | apply Z6 | apply Z7 | apply Z8 | apply Z9 | apply ZA | apply ZB | apply ZC | ((first | apply ZD (by decide) | apply ZN (by decide)); (simp (maxSteps := 9999999) only [go_sem, argR, c]; rfl)) | (refine ZE ?_ ?_; · simp only [go_sem]) | (refine ZF ?_ ?_; · simp only [go_sem]))
    refine run_loop (loop21 _ I hx hl l'.length _ _ _ _ ⟨0, by omega, by simp only [go_sem] <;> rfl, by simp only [go_sem], by simp only [go_sem], by simp only [go_sem] <;> rfl, rfl, rfl, rfl⟩) ?_
    rintro ex ρ' ms' h1 d1 ⟨rfl, rfl, rfl, rfl, t3⟩
    repeat (first | apply Z1 | apply Z2 | apply Z3 | apply Z4 | apply Z5 rfl | apply Z6 | apply Z7 | apply Z8 | apply Z9 | apply ZA | apply ZB | apply ZC | ((first | apply ZD (by decide) | apply ZN (by decide)); (simp (maxSteps := 9999999) only [go_sem, t3]; rfl)) | (refine ZE ?_ ?_; · simp only [go_sem]) | (refine ZF ?_ ?_; · simp only [go_sem]))
    exact end_nil (q_free [.int .i64 (1 + (pw2 l' : Int) - l'.length), .int .i64 0] (by simp only [go_sem, t3]) rfl rfl rfl (fun _ => rfl) (take_of_same k1 k2) rfl)
end
end Go.Proofs.YtpkhkghiidilcaaDoor.Sh

