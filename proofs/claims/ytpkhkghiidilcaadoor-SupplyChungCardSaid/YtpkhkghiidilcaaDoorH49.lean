/- Parts of the document (23). The walk. -/
import Derived.Test.YtpkhkghiidilcaaDoorNh
import Derived.Test.YtpkhkghiidilcaaDoorH48
import Derived.Test.YtpkhkghiidilcaaDoorH46
set_option linter.all false
namespace Go.Proofs.YtpkhkghiidilcaaDoor.Sh
open Go
set_option maxRecDepth 100000
set_option maxHeartbeats 4000000
def wayO (adj : Nat → Nat → Bool) (far : Nat → Nat) (n : Nat) (rd : Nat → Bool) : Nat → Nat → List Nat → Option (List Nat)
  | 0, _, w => some w
  | m + 1, v, w => match backO adj far n rd 7 v with
    | none => none
    | some l => if 1000 < l.length then none else wayO adj far n rd m (v + 1) (if w.length < l.length then l else w)
def setT (rd : Nat → Bool) : List Nat → (Nat → Bool)
  | [] => rd
  | x :: l => setT (up rd x true) l
def partsR (adj : Nat → Nat → Bool) (far : Nat → Nat) (n : Nat) : Nat → (Nat → Bool) → List Nat → Option (List Nat)
  | 0, _, _ => none
  | k + 1, rd, out => match wayO adj far n rd n 0 [] with
    | none => none
    | some w => if w.length = 0 then some out else if (w.all fun x => decide (x < n)) = true ∧ out.length ≤ 1000 then partsR adj far n k (setT rd w) (out ++ [w.length]) else none
section
variable {H : SHeap} {n goal : Nat} {E : List (Int × Int)} {ev : Value}
structure RT (H : SHeap) (n : Nat) (rd : Nat → Bool) (out : List Nat) (ov : Value) (h : SHeap) : Prop where
  le : H.length < h.length
  low : ∀ j, j < H.length → h[j]? = H[j]?
  rb : h[H.length]? = some (.cells (bL n rd) 4 true 0 [])
  ao : Acc (H.length + 1) h ov (out.map nI) out.length 1 3
theorem RT.fr {h h' : SHeap} {rd : Nat → Bool} {out : List Nat} {ov : Value} (R : RT H n rd out ov h) (hl : h.length ≤ h'.length) (f : ∀ j, j < h.length → h'[j]? = h[j]?) : RT H n rd out ov h' := by
  have hle := R.le
  exact ⟨by omega, fun j hj => by rw [f j (by omega)]; exact R.low j hj, by rw [f _ hle]; exact R.rb, R.ao.keep (fun b e => f b (R.ao.lt e).2)⟩
theorem RT.set {h : SHeap} {rd : Nat → Bool} {out : List Nat} {ov : Value} (R : RT H n rd out ov h) {x : Nat} (hx : x < n) : (∀ base d, storeS base h d H.length x (cellsL (.bool true)) = some (h.set H.length (.cells (bL n (up rd x true)) 4 true 0 []), d)) ∧ RT H n (up rd x true) out ov (h.set H.length (.cells (bL n (up rd x true)) 4 true 0 [])) := by
  have hle := R.le
  refine ⟨fun base d => ?_, by simp; exact hle, fun j hj => by rw [List.getElem?_set_ne (by omega)]; exact R.low j hj, by rw [List.getElem?_set_self hle], R.ao.keep (fun b e => List.getElem?_set_ne (by have := (R.ao.lt e).1; omega))⟩
  have := store_cell (h := h) (base := base) (b := H.length) (o := x) (c := .bool true) R.rb (by rw [bL_len]; exact hx) rfl (fun _ => rfl) d
  rw [bL_set _ hx] at this
  exact this
theorem RT.push {h : SHeap} {rd : Nat → Bool} {out : List Nat} {ov : Value} (R : RT H n rd out ov h) (k : Nat) (hl : out.length ≤ 10000) :
    ∃ G v2, (∀ (base : Nat) (d : List Nat), appendS base (h ++ [SO.cells [.int .i64 (k : Nat)] 3 true 0 []]) d 3 true 1 8 ov (.slice (some ⟨h.length, 0, none⟩) 1 1) = some (v2, G, d)) ∧ RT H n rd (out ++ [k]) v2 G := by
  have hle := R.le
  have R2 := R.fr (h' := h ++ [SO.cells [.int .i64 (k : Nat)] 3 true 0 []]) (by simp) (fun j hj => List.getElem?_append_left hj)
  obtain ⟨old, ap, acc2, kp⟩ := acc_append (bytes := 8) (new := [.int .i64 (k : Nat)]) (bs := h.length) (el2 := 3) (pf2 := true) (own2 := 0) (old2 := []) R2.ao (by rw [app_get0]; rfl) rfl rfl (by decide) rfl (by decide) (by omega) (by simp; omega)
  refine ⟨_, _, ap, ?_, fun j hj => ?_, ?_, ?_⟩
  · simp [shv_len]; omega
  · rw [kp j (by simp; omega) (fun b e => by have := (R2.ao.lt e).1; omega)]; exact R2.low j hj
  · rw [kp _ (by simp; omega) (fun b e => by have := (R2.ao.lt e).1; omega)]; exact R2.rb
  · have e : (out ++ [k]).length = out.length + 1 := by simp
    rw [List.map_append, e]; exact acc2
end
end Go.Proofs.YtpkhkghiidilcaaDoor.Sh

namespace Go.Proofs.YtpkhkghiidilcaaDoor.Sh
open Go
set_option maxRecDepth 100000
set_option maxHeartbeats 4000000
def pfF (a b c d w : Nat) : Nat := match w with
  | 2 => a
  | 3 => b
  | 4 => c
  | 5 => d
  | _ => 0
def adjP (n : Nat) (pf : Nat → Nat) (u v : Nat) : Bool := (Nat.blt u n && Nat.blt v n) && ((Nat.ble 1 v && Nat.beq (pf v) u) || (Nat.ble 1 u && Nat.beq (pf u) v))
def dP (pf : Nat → Nat) : Nat → Nat → Nat → Nat
  | 0, _, _ => 0
  | k + 1, u, v => if Nat.beq u v then 0 else if Nat.blt v u then dP pf k (pf u) v + 1 else dP pf k u (pf v) + 1
def fP (n : Nat) (pf : Nat → Nat) (g v : Nat) : Nat := if v < n then dP pf 12 g v else 0
def gP (n : Nat) (pf : Nat → Nat) (i : Nat) : Bool := Nat.ble 1 (i % 6) && Nat.blt (i % 6) n && Nat.beq (pf (i % 6)) (i / 6)
def srtB : List Nat → Bool
  | [] => true
  | x :: l => (l.all fun y => Nat.ble y x) && srtB l
def chkP (n : Nat) (pf : Nat → Nat) (g : Nat) : Bool :=
  match partsO (adjP n pf) n 7 g (-1) with
  | none => false
  | some (k, o) => match partsR (adjP n pf) (fP n pf g) n 7 (up (fun _ => false) g true) [] with
    | none => false
    | some r => (Nat.ble 1 k || o.isEmpty) && Nat.ble o.length 11 && ((outL k o).all fun x => Nat.ble x 20) && srtB r && r.isPerm (outL k o)
def chkD (n : Nat) (pf : Nat → Nat) (g : Nat) : Bool :=
  Nat.beq (dP pf 12 g g) 0 && ((List.range n).all fun a => ((List.range n).all fun b => !adjP n pf a b || Nat.ble (dP pf 12 g b) (dP pf 12 g a + 1)) && (Nat.beq a g || (List.range n).any fun u => adjP n pf a u && Nat.beq (dP pf 12 g a) (dP pf 12 g u + 1)))
def chkT (n : Nat) (pf : Nat → Nat) : Bool := Nat.beq ((edg (gP n pf) 36).length + 1) n && (List.range n).all fun g => chkP n pf g && chkD n pf g
theorem chk_all : ((List.range 7).all fun n => Nat.blt n 1 || (List.range 2).all fun a => (List.range 3).all fun b => (List.range 4).all fun c => (List.range 5).all fun d => chkT n (pfF a b c d)) = true := by decide +kernel
end Go.Proofs.YtpkhkghiidilcaaDoor.Sh

namespace Go.Proofs.YtpkhkghiidilcaaDoor.Sh
open Go
set_option maxRecDepth 100000
set_option maxHeartbeats 4000000
theorem edg_eq {f g : Nat → Bool} : ∀ k, (∀ i, i < k → g i = true → f i = true) → (edg g k).length ≤ (edg f k).length ∧ ((edg f k).length ≤ (edg g k).length → ∀ i, i < k → f i = g i)
  | 0, _ => ⟨Nat.le_refl _, fun _ i hi => by omega⟩
  | k + 1, h => by
    obtain ⟨h1, h2⟩ := edg_eq k (fun i hi => h i (by omega))
    have hk := h k (by omega)
    show (edg g k ++ if g k = true then [(k / 6, k % 6)] else []).length ≤ (edg f k ++ if f k = true then [(k / 6, k % 6)] else []).length ∧ ((edg f k ++ if f k = true then [(k / 6, k % 6)] else []).length ≤ (edg g k ++ if g k = true then [(k / 6, k % 6)] else []).length → _)
    rw [List.length_append, List.length_append]
    cases hg : g k with
    | true =>
      have hf := hk hg
      rw [hf]
      simp only [if_true, List.length_singleton]
      refine ⟨by omega, fun h3 i hi => ?_⟩
      by_cases e : i = k
      · subst e; rw [hf, hg]
      · exact h2 (by omega) i (by omega)
    | false =>
      cases hf : f k with
      | true =>
        simp only [if_true, Bool.false_eq_true, if_false, List.length_singleton, List.length_nil]
        exact ⟨by omega, fun h3 => by omega⟩
      | false =>
        simp only [Bool.false_eq_true, if_false, List.length_nil]
        refine ⟨by omega, fun h3 i hi => ?_⟩
        by_cases e : i = k
        · subst e; rw [hf, hg]
        · exact h2 (by omega) i (by omega)
theorem srtB_ok : ∀ {l : List Nat}, srtB l = true → l.Pairwise (fun a b => b ≤ a)
  | [], _ => List.Pairwise.nil
  | x :: l, h => by
    unfold srtB at h
    rw [Bool.and_eq_true, List.all_eq_true] at h
    exact List.Pairwise.cons (fun y hy => Nat.le_of_ble_eq_true (h.1 y hy)) (srtB_ok h.2)
theorem blt_iff {a b : Nat} : Nat.blt a b = true ↔ a < b := by rw [blt_dec]; exact decide_eq_true_iff
theorem nbeq_iff {a b : Nat} : Nat.beq a b = true ↔ a = b := ⟨Nat.eq_of_beq_eq_true, fun h => by subst h; exact Nat.beq_refl _⟩
theorem nble_iff {a b : Nat} : Nat.ble a b = true ↔ a ≤ b := ⟨Nat.le_of_ble_eq_true, fun h => Nat.ble_eq_true_of_le h⟩
theorem adjP_iff {n : Nat} {pf : Nat → Nat} {u v : Nat} : adjP n pf u v = true ↔ (u < n ∧ v < n) ∧ ((1 ≤ v ∧ pf v = u) ∨ (1 ≤ u ∧ pf u = v)) := by
  unfold adjP
  simp only [Bool.and_eq_true, Bool.or_eq_true, blt_iff, nbeq_iff, nble_iff]
theorem gP_iff {n : Nat} {pf : Nat → Nat} {i : Nat} : gP n pf i = true ↔ (1 ≤ i % 6 ∧ i % 6 < n) ∧ pf (i % 6) = i / 6 := by
  unfold gP
  simp only [Bool.and_eq_true, blt_iff, nbeq_iff, nble_iff]
section
variable {most n : Nat} {tr : Bool} {f : Nat → Bool}
theorem tree_pf (T : TM most tr n f) (hm : most ≤ 6) (hlen : (edg f 36).length + 1 = n) : ∃ pf : Nat → Nat, chkT n pf = true ∧ (∀ w, 1 ≤ w → w < n → pf w < w) ∧ ∀ i, i < 36 → f i = gP n pf i := by
  have n1 := T.n1
  have n2 := T.n2
  obtain ⟨par, hpar, _⟩ := T.par
  have b : ∀ w, 1 ≤ w → (if w < n then par w else 0) < w := fun w h => by
    by_cases c : w < n
    · rw [if_pos c]; exact (hpar w h c).1
    · rw [if_neg c]; omega
  generalize hA : (if 2 < n then par 2 else 0) = a
  generalize hB : (if 3 < n then par 3 else 0) = b'
  generalize hC : (if 4 < n then par 4 else 0) = c
  generalize hD : (if 5 < n then par 5 else 0) = d
  have h2 := b 2 (by decide); have h3 := b 3 (by decide); have h4 := b 4 (by decide); have h5 := b 5 (by decide)
  rw [hA] at h2; rw [hB] at h3; rw [hC] at h4; rw [hD] at h5
  have hpf : ∀ w, 1 ≤ w → w < n → pfF a b' c d w = par w := fun w w1 w2 => by
    have : w = 1 ∨ w = 2 ∨ w = 3 ∨ w = 4 ∨ w = 5 := by omega
    rcases this with rfl | rfl | rfl | rfl | rfl
    · have := (hpar 1 w1 w2).1
      show 0 = par 1
      omega
    · show a = par 2
      rw [← hA, if_pos w2]
    · show b' = par 3
      rw [← hB, if_pos w2]
    · show c = par 4
      rw [← hC, if_pos w2]
    · show d = par 5
      rw [← hD, if_pos w2]
  have hck : chkT n (pfF a b' c d) = true := by
    have k := List.all_eq_true.1 chk_all n (List.mem_range.2 (by omega))
    rw [Bool.or_eq_true] at k
    rcases k with k | k
    · have := blt_iff.1 k; omega
    · exact List.all_eq_true.1 (List.all_eq_true.1 (List.all_eq_true.1 (List.all_eq_true.1 k a (List.mem_range.2 h2)) b' (List.mem_range.2 h3)) c (List.mem_range.2 h4)) d (List.mem_range.2 h5)
  have hl : (edg (gP n (pfF a b' c d)) 36).length + 1 = n := by
    unfold chkT at hck
    rw [Bool.and_eq_true] at hck
    exact nbeq_iff.1 hck.1
  refine ⟨pfF a b' c d, hck, fun w w1 w2 => by rw [hpf w w1 w2]; exact (hpar w w1 w2).1, ?_⟩
  refine (edg_eq 36 (fun i hi hg => ?_)).2 (by omega)
  obtain ⟨⟨g1, g2⟩, g3⟩ := gP_iff.1 hg
  rw [hpf _ g1 g2] at g3
  have := (hpar _ g1 g2).2
  rw [g3] at this
  rwa [show i / 6 * 6 + i % 6 = i by omega] at this
theorem tree_adj (T : TM most tr n f) (hm : most ≤ 6) {pf : Nat → Nat} (hp : ∀ w, 1 ≤ w → w < n → pf w < w) (hf : ∀ i, i < 36 → f i = gP n pf i) : adjE (castE (edg f 36)) = adjP n pf := by
  have n2 := T.n2
  have mem : ∀ u v : Nat, ((u : Int), (v : Int)) ∈ castE (edg f 36) ↔ (1 ≤ v ∧ v < n) ∧ pf v = u := fun u v => by
    unfold castE
    rw [List.mem_map]
    constructor
    · rintro ⟨p, h1, h2⟩
      obtain ⟨i, h3, h4, rfl⟩ := edg_mem.1 h1
      dsimp only at h2
      injection h2 with e1 e2
      rw [hf i h3] at h4
      obtain ⟨g1, g2⟩ := gP_iff.1 h4
      have e1' : i / 6 = u := by omega
      have e2' : i % 6 = v := by omega
      rw [e2', e1'] at g2
      rw [e2'] at g1
      exact ⟨g1, g2⟩
    · rintro ⟨g1, g2⟩
      have hlt := hp v g1.1 g1.2
      have q1 : (u * 6 + v) % 6 = v := by omega
      have q2 : (u * 6 + v) / 6 = u := by omega
      refine ⟨(u, v), edg_mem.2 ⟨u * 6 + v, by omega, ?_, by rw [q1, q2]⟩, rfl⟩
      rw [hf _ (by omega), gP_iff, q1, q2]
      exact ⟨g1, g2⟩
  funext u v
  rw [Bool.eq_iff_iff, adjE_mem, adjP_iff, mem, mem]
  constructor
  · rintro (⟨h1, h2⟩ | ⟨h1, h2⟩)
    · have := hp v h1.1 h1.2
      exact ⟨⟨by omega, h1.2⟩, .inl ⟨h1.1, h2⟩⟩
    · have := hp u h1.1 h1.2
      exact ⟨⟨h1.2, by omega⟩, .inr ⟨h1.1, h2⟩⟩
  · rintro ⟨⟨h1, h2⟩, h3 | h3⟩
    · exact .inl ⟨⟨h3.1, h2⟩, h3.2⟩
    · exact .inr ⟨⟨h3.1, h1⟩, h3.2⟩
theorem tree_parts (T : TM most tr n f) (hm : most ≤ 6) (hlen : (edg f 36).length + 1 = n) {g : Nat} (hg : g < n) :
    ∃ k o r, partsO (adjE (castE (edg f 36))) n 7 g (-1) = some (k, o) ∧ partsR (adjE (castE (edg f 36))) (farE n (castE (edg f 36)) g) n 7 (up (fun _ => false) g true) [] = some r ∧ (k = 0 → o = []) ∧ o.length ≤ 11 ∧ (∀ x ∈ outL k o, x ≤ 20) ∧ Srt (outL k o) r := by
  obtain ⟨pf, hck, hp, hf⟩ := tree_pf T hm hlen
  have hadj := tree_adj T hm hp hf
  unfold chkT at hck
  rw [Bool.and_eq_true] at hck
  have hgk := List.all_eq_true.1 hck.2 g (List.mem_range.2 hg)
  rw [Bool.and_eq_true] at hgk
  obtain ⟨kp, kd⟩ := hgk
  have hD : IsD n (adjE (castE (edg f 36))) g (fun v => (dP pf 12 g v : Int)) := by
    unfold chkD at kd
    rw [Bool.and_eq_true] at kd
    have all := fun a (ha : a < n) => (Bool.and_eq_true _ _ ▸ List.all_eq_true.1 kd.2 a (List.mem_range.2 ha) : _ ∧ _)
    refine ⟨by have := nbeq_iff.1 kd.1; show ((dP pf 12 g g : Nat) : Int) = 0; omega, fun v hv _ hne => ?_, fun u v hu hv _ ha => ⟨by show (0 : Int) ≤ ((dP pf 12 g v : Nat) : Int); omega, ?_⟩⟩
    · have k2 := (all v hv).2
      rw [Bool.or_eq_true] at k2
      rcases k2 with k2 | k2
      · exact (hne (nbeq_iff.1 k2)).elim
      · obtain ⟨u, hu, k3⟩ := List.any_eq_true.1 k2
        rw [Bool.and_eq_true] at k3
        have k4 := nbeq_iff.1 k3.2
        refine ⟨u, List.mem_range.1 hu, by rw [adjE_symm, hadj]; exact k3.1, by show (0 : Int) ≤ ((dP pf 12 g u : Nat) : Int); omega, by show ((dP pf 12 g v : Nat) : Int) = ((dP pf 12 g u : Nat) : Int) + 1; omega⟩
    · have k2 := List.all_eq_true.1 (all u hu).1 v (List.mem_range.2 hv)
      rw [hadj] at ha
      rw [ha] at k2
      have k3 := nble_iff.1 (by simpa using k2 : Nat.ble (dP pf 12 g v) (dP pf 12 g u + 1) = true)
      show ((dP pf 12 g v : Nat) : Int) ≤ ((dP pf 12 g u : Nat) : Int) + 1
      omega
  have hfar : farE n (castE (edg f 36)) g = fP n pf g := by
    funext v
    unfold fP
    by_cases c : v < n
    · rw [if_pos c]
      have := farE_eq hD hg c (by show (0 : Int) ≤ ((dP pf 12 g v : Nat) : Int); omega)
      exact Int.ofNat.inj this
    · rw [if_neg c]
      unfold farE
      rw [dif_neg (fun h => c h.2.1)]
  rw [hfar, hadj]
  unfold chkP at kp
  cases h1 : partsO (adjP n pf) n 7 g (-1) with
  | none => rw [h1] at kp; cases kp
  | some ko =>
    obtain ⟨k, o⟩ := ko
    rw [h1] at kp
    dsimp only at kp
    cases h2 : partsR (adjP n pf) (fP n pf g) n 7 (up (fun _ => false) g true) [] with
    | none => rw [h2] at kp; cases kp
    | some r =>
      rw [h2] at kp
      dsimp only at kp
      simp only [Bool.and_eq_true, Bool.or_eq_true, nble_iff, List.isEmpty_iff] at kp
      obtain ⟨⟨⟨⟨k1, k2⟩, k3⟩, k4⟩, k5⟩ := kp
      refine ⟨k, o, r, rfl, rfl, fun h => ?_, k2, fun x hx => nble_iff.1 (List.all_eq_true.1 k3 x hx), List.isPerm_iff.1 k5, srtB_ok k4⟩
      rcases k1 with k1 | k1
      · omega
      · exact k1
end
end Go.Proofs.YtpkhkghiidilcaaDoor.Sh

namespace Go.Proofs.YtpkhkghiidilcaaDoor.Sh
open Go
set_option maxRecDepth 100000
set_option maxHeartbeats 4000000
end Go.Proofs.YtpkhkghiidilcaaDoor.Sh

namespace Go.Proofs.YtpkhkghiidilcaaDoor.Sh
open Go
set_option maxRecDepth 100000
set_option maxHeartbeats 4000000
def stepA (s : Nat → Int) (q : Nat × Nat) : Nat → Int := up s q.2 (s q.2 + s q.1 / 2)
def foldA : List (Nat × Nat) → (Nat → Int) → (Nat → Int)
  | [], s => s
  | q :: L, s => foldA L (stepA s q)
def OrdL (adj : Nat → Nat → Bool) (g : Nat) : List (Nat × Nat) → List Nat → Prop
  | [], al => al = [g]
  | q :: L, al => (q.1 ∈ al ∧ q.2 ∈ al ∧ q.2 ≠ q.1 ∧ q.1 ≠ g ∧ g ∈ al) ∧ (adj q.1 q.2 = true ∧ ∀ u ∈ al, adj q.1 u = true → u = q.2) ∧ OrdL adj g L (al.filter fun x => !Nat.beq x q.1)
theorem mem_out {al : List Nat} {o x : Nat} : x ∈ al.filter (fun x => !Nat.beq x o) ↔ x ∈ al ∧ x ≠ o := by
  rw [List.mem_filter]
  constructor
  · rintro ⟨h1, h2⟩
    refine ⟨h1, fun e => ?_⟩
    subst e
    rw [Nat.beq_refl] at h2
    cases h2
  · rintro ⟨h1, h2⟩
    refine ⟨h1, ?_⟩
    cases h : Nat.beq x o with
    | false => rfl
    | true => exact (h2 (Nat.eq_of_beq_eq_true h)).elim
section
variable {adj : Nat → Nat → Bool} {g : Nat}
theorem foldA_mono : ∀ {L : List (Nat × Nat)} {al : List Nat} {s t : Nat → Int}, OrdL adj g L al → (∀ w ∈ al, s w ≤ t w) → foldA L s g ≤ foldA L t g
  | [], al, s, t, h, hst => hst g (by rw [show al = [g] from h]; exact List.mem_singleton.2 rfl)
  | q :: L, al, s, t, ⟨⟨h1, h2, h3, h4, h5⟩, h6, h7⟩, hst => by
    show foldA L (stepA s q) g ≤ foldA L (stepA t q) g
    refine foldA_mono h7 (fun w hw => ?_)
    obtain ⟨hw1, hw2⟩ := mem_out.1 hw
    have a := hst _ h1
    have b := hst _ h2
    have c := hst _ hw1
    unfold stepA up
    split <;> omega
theorem foldA_move (hs : ∀ a b, adj a b = adj b a) : ∀ {L : List (Nat × Nat)} {al : List Nat} {s t : Nat → Int} {u v : Nat}, OrdL adj g L al → u ∈ al → v ∈ al → u ≠ v → adj u v = true → (∀ w ∈ al, t w = aft s u v w) → (∀ w ∈ al, 0 ≤ s w) → 2 ≤ s u → foldA L t g ≤ foldA L s g
  | [], al, s, t, u, v, h, hu, hv, hne, _, _, _, _ => by
    rw [show al = [g] from h] at hu hv
    rw [List.mem_singleton] at hu hv
    exact (hne (by rw [hu, hv])).elim
  | q :: L, al, s, t, u, v, ⟨⟨h1, h2, h3, h4, h5⟩, ⟨h6, h6'⟩, h7⟩, hu, hv, hne, ha, ht, hnn, h2u => by
    show foldA L (stepA t q) g ≤ foldA L (stepA s q) g
    have tu := ht u hu
    have tv := ht v hv
    have to := ht _ h1
    have tp := ht _ h2
    have haft : ∀ w, aft s u v w = if w = v then s v + 1 else if w = u then s u - 2 else s w := fun w => by
      unfold aft up
      by_cases e1 : w = v
      · rw [if_pos e1, if_neg (fun e => hne e.symm), if_pos e1]
      · rw [if_neg e1, if_neg e1]
    by_cases c1 : u = q.1
    · have ev : v = q.2 := h6' v hv (by rw [← c1]; exact ha)
      subst ev c1
      refine foldA_mono h7 (fun w hw => ?_)
      obtain ⟨hw1, hw2⟩ := mem_out.1 hw
      have tw := ht w hw1
      rw [haft] at tw to tp
      rw [if_neg (fun e => h3 e.symm), if_pos rfl] at to
      rw [if_pos rfl] at tp
      unfold stepA up
      by_cases c : w = q.2
      · rw [if_pos c, if_pos c]; omega
      · rw [if_neg c, if_neg c]
        rw [if_neg c, if_neg hw2] at tw
        omega
    · by_cases c2 : v = q.1
      · have eu : u = q.2 := h6' u hu (by rw [← c2, hs]; exact ha)
        subst eu c2
        refine foldA_mono h7 (fun w hw => ?_)
        obtain ⟨hw1, hw2⟩ := mem_out.1 hw
        have tw := ht w hw1
        have so := hnn _ h1
        rw [haft] at tw to tp
        rw [if_pos rfl] at to
        rw [if_neg hne, if_pos rfl] at tp
        unfold stepA up
        by_cases c : w = q.2
        · rw [if_pos c, if_pos c]; omega
        · rw [if_neg c, if_neg c]
          rw [if_neg hw2, if_neg c] at tw
          omega
      · refine foldA_move hs h7 (mem_out.2 ⟨hu, c1⟩) (mem_out.2 ⟨hv, c2⟩) hne ha (s := stepA s q) (fun w hw => ?_) (fun w hw => ?_) ?_
        · obtain ⟨hw1, hw2⟩ := mem_out.1 hw
          have tw := ht w hw1
          rw [haft] at tw to tp
          rw [if_neg (fun e => c2 e.symm), if_neg (fun e => c1 e.symm)] at to
          unfold aft stepA up
          by_cases e1 : w = q.2
          · subst e1
            by_cases e2 : q.2 = v
            · subst e2
              simp only [if_true, if_neg (fun e : q.2 = u => hne e.symm)] at tp ⊢
              omega
            · by_cases e3 : q.2 = u
              · subst e3
                simp only [if_true, if_neg e2] at tp ⊢
                omega
              · simp only [if_true, if_neg e2, if_neg e3] at tp ⊢
                omega
          · by_cases e2 : w = v
            · subst e2
              simp only [if_true, if_neg e1, if_neg (fun e : w = u => hne e.symm)] at tw ⊢
              omega
            · by_cases e3 : w = u
              · subst e3
                simp only [if_true, if_neg e1, if_neg e2] at tw ⊢
                omega
              · simp only [if_neg e1, if_neg e2, if_neg e3] at tw ⊢
                omega
        · obtain ⟨hw1, hw2⟩ := mem_out.1 hw
          have a := hnn _ hw1
          have b := hnn _ h1
          have c := hnn _ h2
          unfold stepA up
          split <;> omega
        · have b := hnn _ h1
          have c := hnn _ h2
          unfold stepA up
          split
          · rename_i e; rw [e] at h2u; omega
          · exact h2u
end
section
variable {n g : Nat} {E : List (Int × Int)} {L : List (Nat × Nat)}
theorem foldA_rg (hE : EOK n E) (O : OrdL (adjE E) g L (List.range n)) {s t : Nat → Int} (h : Rg n E g s t) (hnn : ∀ v, 0 ≤ s v) : foldA L t g ≤ foldA L s g := by
  induction h with
  | refl => exact Int.le_refl _
  | @step s t a b ha hb hadj h2 hg h ih =>
    have h1 := foldA_move (adjE_symm E) O (List.mem_range.2 ha) (List.mem_range.2 hb) (hE.adj hadj).2.2 hadj (s := s) (t := aft s a b) (fun w _ => rfl) (fun w _ => hnn w) h2
    have h3 := ih (Rg.nn hE (.step a b ha hb hadj h2 hg (.refl _)) hnn)
    omega
theorem foldA_ge : ∀ {L : List (Nat × Nat)} {al : List Nat} {s : Nat → Int}, OrdL (adjE E) g L al → (∀ w ∈ al, 0 ≤ s w) → s g ≤ foldA L s g
  | [], _, _, _, _ => Int.le_refl _
  | q :: L, al, s, ⟨⟨h1, h2, h3, h4, h5⟩, h6, h7⟩, hnn => by
    have a := hnn _ h1
    have := foldA_ge (s := stepA s q) h7 (fun w hw => by
      obtain ⟨hw1, hw2⟩ := mem_out.1 hw
      have b := hnn _ hw1
      have c := hnn _ h2
      unfold stepA up
      split <;> omega)
    have e : s g ≤ stepA s q g := by
      unfold stepA up
      split
      · rename_i e; rw [e]; omega
      · exact Int.le_refl _
    show s g ≤ foldA L (stepA s q) g
    omega
theorem foldA_reach (hE : EOK n E) (hg : g < n) : ∀ {L : List (Nat × Nat)} {al : List Nat} {s : Nat → Int}, OrdL (adjE E) g L al → (∀ w ∈ al, w < n) → (∀ v, 0 ≤ s v) → ∃ t, Rg n E g s t ∧ foldA L s g ≤ t g
  | [], _, s, _, _, _ => ⟨s, .refl s, Int.le_refl _⟩
  | q :: L, al, s, ⟨⟨h1, h2, h3, h4, h5⟩, h6, h7⟩, hal, hnn => by
    have hm := Rg.many (g := g) hE (hal _ h1) (hal _ h2) h6.1 h4 (s q.1 / 2).toNat s (by have := hnn q.1; omega)
    have hk : (((s q.1 / 2).toNat : Nat) : Int) = s q.1 / 2 := by have := hnn q.1; omega
    obtain ⟨t, k1, k2⟩ := foldA_reach hE hg h7 (fun w hw => hal w (mem_out.1 hw).1) (Rg.nn hE hm hnn)
    refine ⟨t, hm.trans k1, ?_⟩
    show foldA L (stepA s q) g ≤ t g
    refine Int.le_trans (foldA_mono h7 (fun w hw => ?_)) k2
    obtain ⟨hw1, hw2⟩ := mem_out.1 hw
    rw [hk, pl_at, pl_at, if_neg hw2]
    unfold stepA up
    by_cases c : w = q.2
    · subst c; rw [if_pos rfl, if_pos rfl]; omega
    · rw [if_neg c, if_neg c]; omega
theorem mx_foldA (hE : EOK n E) (hn : n ≤ 6) (hg : g < n) (O : OrdL (adjE E) g L (List.range n)) {s : Nat → Int} {B : Int} (S : ST n s B) : mx n E g s = foldA L s g := by
  obtain ⟨t, h1, h2⟩ := foldA_reach hE hg O (fun w hw => List.mem_range.1 hw) S.nn
  have h3 := mx_ge hE hn S h1
  obtain ⟨⟨u, k1, k2⟩, _⟩ := mx_is (g := g) hE hn S
  have h4 := foldA_rg hE O k1 S.nn
  have h5 := foldA_ge (s := u) O (fun w _ => Rg.nn hE k1 S.nn w)
  omega
end
end Go.Proofs.YtpkhkghiidilcaaDoor.Sh

namespace Go.Proofs.YtpkhkghiidilcaaDoor.Sh
open Go
set_option maxRecDepth 100000
set_option maxHeartbeats 4000000
structure HS where
  h : Nat → Nat
  R : Nat → Nat
  e : Nat → Nat
  C : Nat → Nat
def stepH (S : HS) (q : Nat × Nat) : HS :=
  if Nat.ble (S.h q.2) (S.h q.1 + 1) then ⟨up S.h q.2 (S.h q.1 + 1), up S.R q.2 (S.R q.2 + S.R q.1 + (2 ^ S.h q.2 - 1)), up S.e q.2 (S.e q.1), up S.C (S.e q.1) (S.C (S.e q.1) + 2 ^ S.h q.1)⟩
  else ⟨S.h, up S.R q.2 (S.R q.2 + S.R q.1 + (2 ^ (S.h q.1 + 1) - 1)), S.e, up S.C (S.e q.1) (S.C (S.e q.1) + 2 ^ S.h q.1)⟩
def foldH : List (Nat × Nat) → HS → HS
  | [], S => S
  | q :: L, S => foldH L (stepH S q)
def initH : HS := ⟨fun _ => 0, fun _ => 0, fun v => v, fun _ => 0⟩
theorem sum_out {T : Nat → Int} {o : Nat} : ∀ {al : List Nat}, al.Nodup → o ∈ al → (al.map T).sum = T o + ((al.filter fun x => !Nat.beq x o).map T).sum
  | [], _, h => by cases h
  | x :: al, hn, h => by
    obtain ⟨n1, n2⟩ := List.nodup_cons.1 hn
    by_cases e : x = o
    · subst e
      have hf : al.filter (fun y => !Nat.beq y x) = al := by
        rw [List.filter_eq_self]
        intro y hy
        cases h : Nat.beq y x with
        | false => rfl
        | true => exact (n1 (by rw [← Nat.eq_of_beq_eq_true h]; exact hy)).elim
      rw [List.filter_cons_of_neg (by rw [Nat.beq_refl]; decide), hf, List.map_cons, List.sum_cons]
    · have ho : o ∈ al := by
        rcases List.mem_cons.1 h with h | h
        · exact (e h.symm).elim
        · exact h
      have hb : Nat.beq x o = false := by
        cases h : Nat.beq x o with
        | false => rfl
        | true => exact (e (Nat.eq_of_beq_eq_true h)).elim
      have ih := sum_out (T := T) n2 ho
      rw [List.filter_cons_of_pos (by rw [hb]; rfl), List.map_cons, List.map_cons, List.sum_cons, List.sum_cons]
      omega
theorem sum_up {T : Nat → Int} {p : Nat} {y : Int} : ∀ {al : List Nat}, al.Nodup → p ∈ al → (al.map (up T p y)).sum = (al.map T).sum + y - T p
  | [], _, h => by cases h
  | x :: al, hn, h => by
    obtain ⟨n1, n2⟩ := List.nodup_cons.1 hn
    by_cases e : x = p
    · subst e
      have : al.map (up T x y) = al.map T := List.map_congr_left (fun w hw => by unfold up; rw [if_neg (fun e => n1 (by rw [← e]; exact hw))])
      rw [List.map_cons, List.map_cons, List.sum_cons, List.sum_cons, this]
      have : up T x y x = y := if_pos rfl
      omega
    · have ho : p ∈ al := by
        rcases List.mem_cons.1 h with h | h
        · exact (e h.symm).elim
        · exact h
      have ih := sum_up (T := T) (y := y) n2 ho
      rw [List.map_cons, List.map_cons, List.sum_cons, List.sum_cons]
      have : up T p y x = T x := if_neg e
      omega
theorem merge_le {ap ao P Q Tp To Rp Ro : Int} (hap : 0 ≤ ap) (hao : 0 ≤ ao) (hQ : 1 ≤ Q) (hP : 1 ≤ P) (h1 : Tp ≤ (ap + 1) * P - 1 + Rp) (h2 : To ≤ (ao + 1) * Q - 1 + Ro) :
    (P ≤ 2 * Q → Tp + To ≤ (ap + ao / 2 + 1) * (2 * Q) - 1 + (Rp + Ro + (P - 1))) ∧ (2 * Q ≤ P → Tp + To ≤ (ap + ao / 2 + 1) * P - 1 + (Rp + Ro + (2 * Q - 1))) := by
  have k : ao + 1 ≤ 2 * (ao / 2) + 2 := by omega
  have k0 : 0 ≤ ao / 2 := by omega
  generalize ao / 2 = c at *
  have m1 := Int.mul_le_mul_of_nonneg_right k (show 0 ≤ Q by omega)
  have e0 : (2 * c + 2) * Q = 2 * (c * Q) + 2 * Q := by rw [Int.add_mul, Int.mul_assoc]
  have e3 : (ao + 1) * Q = ao * Q + Q := by rw [Int.add_mul, Int.one_mul]
  rw [e0, e3] at m1
  rw [e3] at h2
  rw [Int.add_mul, Int.one_mul] at h1
  constructor
  · intro h
    have m2 := Int.mul_le_mul_of_nonneg_left h hap
    have e : (ap + c + 1) * (2 * Q) = ap * (2 * Q) + 2 * (c * Q) + 2 * Q := by
      rw [Int.add_mul, Int.add_mul, Int.one_mul]
      have : c * (2 * Q) = 2 * (c * Q) := by rw [Int.mul_left_comm]
      omega
    rw [e]
    omega
  · intro h
    have m2 := Int.mul_le_mul_of_nonneg_left h k0
    have e : (ap + c + 1) * P = ap * P + c * P + P := by rw [Int.add_mul, Int.add_mul, Int.one_mul]
    have e2 : c * (2 * Q) = 2 * (c * Q) := by rw [Int.mul_left_comm]
    rw [e]
    omega
section
variable {adj : Nat → Nat → Bool} {g : Nat}
theorem foldU : ∀ {L : List (Nat × Nat)} {al : List Nat} {s T : Nat → Int} {S : HS}, OrdL adj g L al → al.Nodup → (∀ v ∈ al, 0 ≤ s v ∧ T v ≤ (s v + 1) * ((2 ^ S.h v : Nat) : Int) - 1 + S.R v) → (al.map T).sum ≤ (foldA L s g + 1) * ((2 ^ (foldH L S).h g : Nat) : Int) - 1 + (foldH L S).R g
  | [], al, s, T, S, h, _, hT => by
    rw [show al = [g] from h] at hT ⊢
    have := (hT g (List.mem_singleton.2 rfl)).2
    show T g + 0 ≤ _
    rw [Int.add_zero]; exact this
  | q :: L, al, s, T, S, ⟨⟨h1, h2, h3, h4, h5⟩, h6, h7⟩, hn, hT => by
    show _ ≤ (foldA L (stepA s q) g + 1) * ((2 ^ (foldH L (stepH S q)).h g : Nat) : Int) - 1 + (foldH L (stepH S q)).R g
    have hn' : (al.filter fun x => !Nat.beq x q.1).Nodup := hn.filter _
    have hp' : q.2 ∈ al.filter fun x => !Nat.beq x q.1 := mem_out.2 ⟨h2, h3⟩
    have e1 := sum_out (T := T) hn h1
    have e2 := sum_up (T := T) (y := T q.2 + T q.1) hn' hp'
    have hTp := hT _ h2
    have hTo := hT _ h1
    have pP := Nat.pow_pos (n := S.h q.2) (show 0 < 2 by decide)
    have pQ := Nat.pow_pos (n := S.h q.1) (show 0 < 2 by decide)
    have mg := merge_le hTp.1 hTo.1 (by omega) (by omega) hTp.2 hTo.2
    have hpow : 2 ^ (S.h q.1 + 1) = 2 * 2 ^ S.h q.1 := by rw [Nat.pow_succ, Nat.mul_comm]
    refine Int.le_trans (Int.le_of_eq (by omega)) (foldU (T := up T q.2 (T q.2 + T q.1)) h7 hn' (fun w hw => ?_))
    obtain ⟨hw1, hw2⟩ := mem_out.1 hw
    have hTw := hT _ hw1
    by_cases c : w = q.2
    · subst c
      refine ⟨by unfold stepA up; rw [if_pos rfl]; omega, ?_⟩
      have ea : stepA s q q.2 = s q.2 + s q.1 / 2 := if_pos rfl
      have eT : up T q.2 (T q.2 + T q.1) q.2 = T q.2 + T q.1 := if_pos rfl
      rw [ea, eT]
      unfold stepH
      by_cases cb : S.h q.2 ≤ S.h q.1 + 1
      · rw [if_pos (Nat.ble_eq_true_of_le cb)]
        dsimp only
        have u1 : up S.h q.2 (S.h q.1 + 1) q.2 = S.h q.1 + 1 := if_pos rfl
        have u2 : up S.R q.2 (S.R q.2 + S.R q.1 + (2 ^ S.h q.2 - 1)) q.2 = S.R q.2 + S.R q.1 + (2 ^ S.h q.2 - 1) := if_pos rfl
        rw [u1, u2, hpow]
        have hle : 2 ^ S.h q.2 ≤ 2 ^ (S.h q.1 + 1) := Nat.pow_le_pow_right (by decide) cb
        rw [hpow] at hle
        have := mg.1 (by omega)
        rw [show ((2 * 2 ^ S.h q.1 : Nat) : Int) = 2 * ((2 ^ S.h q.1 : Nat) : Int) by omega, show ((S.R q.2 + S.R q.1 + (2 ^ S.h q.2 - 1) : Nat) : Int) = (S.R q.2 : Int) + S.R q.1 + (((2 ^ S.h q.2 : Nat) : Int) - 1) by omega]
        exact this
      · rw [if_neg (fun h => cb (Nat.le_of_ble_eq_true h))]
        dsimp only
        have u2 : up S.R q.2 (S.R q.2 + S.R q.1 + (2 ^ (S.h q.1 + 1) - 1)) q.2 = S.R q.2 + S.R q.1 + (2 ^ (S.h q.1 + 1) - 1) := if_pos rfl
        rw [u2, hpow]
        have hle : 2 ^ (S.h q.1 + 1) ≤ 2 ^ S.h q.2 := Nat.pow_le_pow_right (by decide) (by omega)
        rw [hpow] at hle
        have := mg.2 (by omega)
        rw [show ((S.R q.2 + S.R q.1 + (2 * 2 ^ S.h q.1 - 1) : Nat) : Int) = (S.R q.2 : Int) + S.R q.1 + (2 * ((2 ^ S.h q.1 : Nat) : Int) - 1) by omega]
        exact this
    · have ea : stepA s q w = s w := if_neg c
      have eT : up T q.2 (T q.2 + T q.1) w = T w := if_neg c
      rw [ea, eT]
      have eh : (stepH S q).h w = S.h w := by
        unfold stepH
        by_cases cb : Nat.ble (S.h q.2) (S.h q.1 + 1) = true
        · rw [if_pos cb]; exact if_neg c
        · rw [if_neg cb]
      have eR : (stepH S q).R w = S.R w := by
        unfold stepH
        by_cases cb : Nat.ble (S.h q.2) (S.h q.1 + 1) = true
        · rw [if_pos cb]; exact if_neg c
        · rw [if_neg cb]; exact if_neg c
      rw [eh, eR]
      exact hTw
end
section
variable {n g : Nat} {E : List (Int × Int)} {L : List (Nat × Nat)}
theorem tree_num (hE : EOK n E) (hn : n ≤ 6) (hC : Conn n E) (hg : g < n) (O : OrdL (adjE E) g L (List.range n)) {s : Nat → Int} (S : ST n s 1000) (h0 : foldA L s g = 0) {k : Nat} (hk : 2 ^ (foldH L initH).h g + (foldH L initH).R g = k) (ht : tot s + 1 = k) : IsNum n E g k := by
  refine ⟨⟨s, ⟨S, by rw [mx_foldA hE hn hg O S, h0]; exact Int.le_refl 0⟩, ht⟩, fun x hx => ?_⟩
  have hm := hx.mx0
  rw [mx_foldA hE hn hg O hx.st] at hm
  have u := foldU (s := x) (T := x) (S := initH) O List.nodup_range (fun v _ => ⟨hx.st.nn v, by show x v ≤ (x v + 1) * ((2 ^ 0 : Nat) : Int) - 1 + ((0 : Nat) : Int); omega⟩)
  have hl : ((List.range n).map x).sum = tot x := lst_sum hn hx.st
  rw [hl] at u
  have hge := foldA_ge (s := x) O (fun w _ => hx.st.nn w)
  have hxg := hx.st.nn g
  have hz : foldA L x g = 0 := by omega
  rw [hz] at u
  omega
end
end Go.Proofs.YtpkhkghiidilcaaDoor.Sh

namespace Go.Proofs.YtpkhkghiidilcaaDoor.Sh
open Go
set_option maxRecDepth 100000
set_option maxHeartbeats 4000000
def inB (x : Nat) (al : List Nat) : Bool := al.any fun y => Nat.beq x y
theorem inB_ok {x : Nat} {al : List Nat} (h : inB x al = true) : x ∈ al := by
  obtain ⟨y, h1, h2⟩ := List.any_eq_true.1 h
  rw [Nat.eq_of_beq_eq_true h2]; exact h1
def ordB (adj : Nat → Nat → Bool) (g : Nat) : List (Nat × Nat) → List Nat → Bool
  | [], al => match al with
    | [x] => Nat.beq x g
    | _ => false
  | q :: L, al => (inB q.1 al && inB q.2 al && !Nat.beq q.2 q.1 && !Nat.beq q.1 g && inB g al) && (adj q.1 q.2 && al.all fun u => !adj q.1 u || Nat.beq u q.2) && ordB adj g L (al.filter fun x => !Nat.beq x q.1)
theorem nb_ne {a b : Nat} (h : (!Nat.beq a b) = true) : a ≠ b := fun e => by subst e; rw [Nat.beq_refl] at h; cases h
theorem ordB_ok {adj : Nat → Nat → Bool} {g : Nat} : ∀ {L : List (Nat × Nat)} {al : List Nat}, ordB adj g L al = true → OrdL adj g L al
  | [], [], h => by cases h
  | [], [x], h => by
    have : x = g := Nat.eq_of_beq_eq_true h
    rw [this]; exact rfl
  | [], _ :: _ :: _, h => by cases h
  | q :: L, al, h => by
    unfold ordB at h
    simp only [Bool.and_eq_true] at h
    obtain ⟨⟨⟨⟨⟨⟨h1, h2⟩, h3⟩, h4⟩, h5⟩, h6, h7⟩, h8⟩ := h
    refine ⟨⟨inB_ok h1, inB_ok h2, nb_ne h3, nb_ne h4, inB_ok h5⟩, ⟨h6, fun u hu ha => ?_⟩, ordB_ok h8⟩
    have := List.all_eq_true.1 h7 u hu
    rw [ha] at this
    exact Nat.eq_of_beq_eq_true (by simpa using this)
def lofP (n : Nat) (pf : Nat → Nat) (g : Nat) : List (Nat × Nat) :=
  ([6, 5, 4, 3, 2, 1].flatMap fun d => (List.range n).filter fun v => Nat.beq (dP pf 12 g v) d).map fun v => (v, nextU (adjP n pf) (dP pf 12 g) v n 0)
def cfP (n : Nat) (C : Nat → Nat) (v : Nat) : Int := if v < n then (C v : Int) else 0
def chkN (n : Nat) (pf : Nat → Nat) (g : Nat) : Bool :=
  ordB (adjP n pf) g (lofP n pf g) (List.range n) && (match partsO (adjP n pf) n 7 g (-1) with
  | none => false
  | some (k, o) => Nat.beq (2 ^ (foldH (lofP n pf g) initH).h g + (foldH (lofP n pf g) initH).R g + (outL k o).length) (1 + pw2 (outL k o)) &&
    decide (foldA (lofP n pf g) (cfP n (foldH (lofP n pf g) initH).C) g = 0) && decide (tot (cfP n (foldH (lofP n pf g) initH).C) + 1 = (2 ^ (foldH (lofP n pf g) initH).h g + (foldH (lofP n pf g) initH).R g : Nat)) && decide (tot (cfP n (foldH (lofP n pf g) initH).C) ≤ 1000))
theorem chkN_all : ((List.range 7).all fun n => Nat.blt n 1 || (List.range 2).all fun a => (List.range 3).all fun b => (List.range 4).all fun c => (List.range 5).all fun d => (List.range n).all fun g => chkN n (pfF a b c d) g) = true := by decide +kernel
end Go.Proofs.YtpkhkghiidilcaaDoor.Sh

namespace Go.Proofs.YtpkhkghiidilcaaDoor.Sh
open Go
set_option maxRecDepth 100000
set_option maxHeartbeats 4000000
theorem pw2_perm {l m : List Nat} (h : l.Perm m) : pw2 l = pw2 m := by
  induction h with
  | nil => rfl
  | cons x _ ih => show 2 ^ x + pw2 _ = 2 ^ x + pw2 _; rw [ih]
  | swap x y l => show 2 ^ y + (2 ^ x + pw2 l) = 2 ^ x + (2 ^ y + pw2 l); omega
  | trans _ _ h1 h2 => rw [h1, h2]
section
variable {most n : Nat} {tr : Bool} {f : Nat → Bool}
theorem tree_abcd (T : TM most tr n f) (hm : most ≤ 6) : ∃ a b c d : Nat, a < 2 ∧ b < 3 ∧ c < 4 ∧ d < 5 ∧ (∀ w, 1 ≤ w → w < n → pfF a b c d w < w ∧ f (pfF a b c d w * 6 + w) = true) ∧ (tr = true → ∀ i, f i = true → gP n (pfF a b c d) i = true) := by
  have n1 := T.n1
  have n2 := T.n2
  obtain ⟨par, hpar, ht⟩ := T.par
  have b : ∀ w, 1 ≤ w → (if w < n then par w else 0) < w := fun w h => by
    by_cases c : w < n
    · rw [if_pos c]; exact (hpar w h c).1
    · rw [if_neg c]; omega
  have h2 := b 2 (by decide); have h3 := b 3 (by decide); have h4 := b 4 (by decide); have h5 := b 5 (by decide)
  have hpf : ∀ w, 1 ≤ w → w < n → pfF (if 2 < n then par 2 else 0) (if 3 < n then par 3 else 0) (if 4 < n then par 4 else 0) (if 5 < n then par 5 else 0) w = par w := fun w w1 w2 => by
    have : w = 1 ∨ w = 2 ∨ w = 3 ∨ w = 4 ∨ w = 5 := by omega
    rcases this with rfl | rfl | rfl | rfl | rfl
    · have := (hpar 1 w1 w2).1
      show 0 = par 1
      omega
    · exact if_pos w2
    · exact if_pos w2
    · exact if_pos w2
    · exact if_pos w2
  refine ⟨_, _, _, _, h2, h3, h4, h5, fun w w1 w2 => by rw [hpf w w1 w2]; exact hpar w w1 w2, fun e i hi => ?_⟩
  obtain ⟨_, g1, g2, g3⟩ := (ht e i).1 hi
  rw [gP_iff, hpf _ g1 g2]
  exact ⟨⟨g1, g2⟩, g3⟩
theorem tree_len (T : TM most true n f) (hm : most ≤ 6) : (edg f 36).length + 1 = n := by
  have n1 := T.n1
  have n2 := T.n2
  obtain ⟨a, b, c, d, h2, h3, h4, h5, hp, ht⟩ := tree_abcd T hm
  have hck : chkT n (pfF a b c d) = true := by
    have k := List.all_eq_true.1 chk_all n (List.mem_range.2 (by omega))
    rw [Bool.or_eq_true] at k
    rcases k with k | k
    · have := blt_iff.1 k; omega
    · exact List.all_eq_true.1 (List.all_eq_true.1 (List.all_eq_true.1 (List.all_eq_true.1 k a (List.mem_range.2 h2)) b (List.mem_range.2 h3)) c (List.mem_range.2 h4)) d (List.mem_range.2 h5)
  have hl : (edg (gP n (pfF a b c d)) 36).length + 1 = n := by
    unfold chkT at hck
    rw [Bool.and_eq_true] at hck
    exact nbeq_iff.1 hck.1
  have k1 := (edg_eq (f := gP n (pfF a b c d)) (g := f) 36 (fun i _ hi => ht rfl i hi)).1
  have k2 := (edg_eq (f := f) (g := gP n (pfF a b c d)) 36 (fun i _ hi => by
    obtain ⟨⟨g1, g2⟩, g3⟩ := gP_iff.1 hi
    have := (hp _ g1 g2).2
    rw [g3] at this
    rwa [show i / 6 * 6 + i % 6 = i by omega] at this)).1
  omega
theorem tree_number (T : TM most tr n f) (hm : most ≤ 6) (hlen : (edg f 36).length + 1 = n) {g : Nat} (hg : g < n) :
    ∃ k o, partsO (adjE (castE (edg f 36))) n 7 g (-1) = some (k, o) ∧ (k = 0 → o = []) ∧ o.length ≤ 11 ∧ (∀ x ∈ outL k o, x ≤ 20) ∧ ∀ l', Srt (outL k o) l' → IsNum n (castE (edg f 36)) g (1 + (pw2 l' : Int) - l'.length) := by
  have n1 := T.n1
  have n2 := T.n2
  obtain ⟨k, o, r, t1, _, t3, t4, t5, _⟩ := tree_parts T hm hlen hg
  refine ⟨k, o, t1, t3, t4, t5, fun l' hs => ?_⟩
  obtain ⟨a, b, c, d, h2, h3, h4, h5, hp, _⟩ := tree_abcd T hm
  have hck : chkT n (pfF a b c d) = true := by
    have k := List.all_eq_true.1 chk_all n (List.mem_range.2 (by omega))
    rw [Bool.or_eq_true] at k
    rcases k with k | k
    · have := blt_iff.1 k; omega
    · exact List.all_eq_true.1 (List.all_eq_true.1 (List.all_eq_true.1 (List.all_eq_true.1 k a (List.mem_range.2 h2)) b (List.mem_range.2 h3)) c (List.mem_range.2 h4)) d (List.mem_range.2 h5)
  have hl : (edg (gP n (pfF a b c d)) 36).length + 1 = n := by
    unfold chkT at hck
    rw [Bool.and_eq_true] at hck
    exact nbeq_iff.1 hck.1
  have hf : ∀ i, i < 36 → f i = gP n (pfF a b c d) i := (edg_eq 36 (fun i _ hi => by
    obtain ⟨⟨g1, g2⟩, g3⟩ := gP_iff.1 hi
    have := (hp _ g1 g2).2
    rw [g3] at this
    rwa [show i / 6 * 6 + i % 6 = i by omega] at this)).2 (by omega)
  have hadj := tree_adj T hm (fun w w1 w2 => (hp w w1 w2).1) hf
  have hn : chkN n (pfF a b c d) g = true := by
    have k := List.all_eq_true.1 chkN_all n (List.mem_range.2 (by omega))
    rw [Bool.or_eq_true] at k
    rcases k with k | k
    · have := blt_iff.1 k; omega
    · exact List.all_eq_true.1 (List.all_eq_true.1 (List.all_eq_true.1 (List.all_eq_true.1 (List.all_eq_true.1 k a (List.mem_range.2 h2)) b (List.mem_range.2 h3)) c (List.mem_range.2 h4)) d (List.mem_range.2 h5)) g (List.mem_range.2 hg)
  rw [hadj] at t1
  unfold chkN at hn
  rw [t1] at hn
  simp only [Bool.and_eq_true, decide_eq_true_eq] at hn
  obtain ⟨h1, ⟨⟨k1, k2⟩, k3⟩, k4⟩ := hn
  have O := ordB_ok h1
  rw [← hadj] at O
  have k1' := nbeq_iff.1 k1
  have e1 : pw2 l' = pw2 (outL k o) := pw2_perm hs.1
  have e2 : l'.length = (outL k o).length := hs.1.length_eq
  generalize lofP n (pfF a b c d) g = L at *
  have S : ST n (cfP n (foldH L initH).C) 1000 := ⟨fun v => by unfold cfP; split <;> omega, fun v hv => by unfold cfP; rw [if_neg (by omega)], k4⟩
  have := tree_num T.eok (by omega) (T.conn hm) hg O S k2 rfl k3
  rw [e1, e2]
  rwa [show (1 + (pw2 (outL k o) : Int) - ((outL k o).length : Nat)) = ((2 ^ (foldH L initH).h g + (foldH L initH).R g : Nat) : Int) by omega]
end
end Go.Proofs.YtpkhkghiidilcaaDoor.Sh

namespace Go.Proofs.YtpkhkghiidilcaaDoor.Sh
open Go
set_option maxRecDepth 100000
set_option maxHeartbeats 4000000
section
variable {n g : Nat} {E : List (Int × Int)}
theorem full_num (hE : EOK n E) (hn : n ≤ 6) (hC : Conn n E) (hg : g < n) (hadj : ∀ u v, u < n → v < n → u ≠ v → adjE E u v = true) : IsNum n E g n := by
  have So := oneS_st (n := n) (g := g)
  have S1 : ST n (oneS n g) 1000 := So.mono (by decide)
  refine ⟨⟨oneS n g, ⟨S1, ?_⟩, by rw [oneS_tot hn hg]; omega⟩, fun x hx => ?_⟩
  · obtain ⟨⟨t, h1, h2⟩, _⟩ := mx_is (g := g) hE hn S1
    cases h1 with
    | refl => rw [oneS_g] at h2; omega
    | step a b ha hb hadj h2 hg h =>
      have := oneS_le (n := n) (g := g) a
      omega
  · have hx0 : ∀ v, x v ≤ oneS n g v := fun v => by
      by_cases c : v < n
      · have h1 := unsolv_box hE hn hC hg hx.st hx.mx0 c
        by_cases e : v = g
        · subst e
          rw [far_self hC hg] at h1
          rw [oneS_g]
          have : ((2 ^ 0 : Nat) : Int) = 1 := rfl
          omega
        · have h2 := far_adj hC hg hg c (hadj g v hg c (fun e2 => e e2.symm))
          rw [far_self hC hg] at h2
          have h3 : 2 ^ farE n E g v ≤ 2 ^ 1 := Nat.pow_le_pow_right (by decide) (by omega)
          have h4 : oneS n g v = 1 := if_pos ⟨c, e⟩
          have : (2 ^ 1 : Nat) = 2 := rfl
          omega
      · rw [hx.st.out v (by omega)]
        exact (oneS_le v).1
    have e := oneS_tot (n := n) (g := g) hn hg
    have h0 := hx0 0; have h1 := hx0 1; have h2 := hx0 2; have h3 := hx0 3; have h4 := hx0 4; have h5 := hx0 5
    unfold tot at *
    omega
end
def fA (n i : Nat) : Bool := Nat.blt (i / 6) (i % 6) && Nat.blt (i % 6) n
def fW (n i : Nat) : Bool := Nat.ble 1 (i % 6) && Nat.blt (i % 6) n && Nat.beq (i / 6 + 1) (i % 6)
def rI (i : Nat) : Nat → Nat → List (Nat × Nat)
  | 0, _ => []
  | m + 1, k => (i, k) :: rI i m (k + 1)
def rO (n : Nat) : Nat → Nat → List (Nat × Nat)
  | 0, _ => []
  | m + 1, i => rI i (n - (i + 1)) (i + 1) ++ rO n m (i + 1)
def rW (n : Nat) : Nat → Nat → List (Nat × Nat)
  | 0, _ => []
  | m + 1, i => if i + 1 < n then (i, i + 1) :: rW n m (i + 1) else rW n m (i + 1)
theorem rO_eq : ∀ n, n < 7 → rO n n 0 = edg (fA n) 36 := by decide +kernel
theorem rW_eq : ∀ n, n < 7 → rW n n 0 = edg (fW n) 36 := by decide +kernel
theorem fA_iff {n i : Nat} : fA n i = true ↔ i / 6 < i % 6 ∧ i % 6 < n := by
  unfold fA; simp only [Bool.and_eq_true, blt_iff]
theorem fW_iff {n i : Nat} : fW n i = true ↔ (1 ≤ i % 6 ∧ i % 6 < n) ∧ i / 6 + 1 = i % 6 := by
  unfold fW; simp only [Bool.and_eq_true, blt_iff, nbeq_iff, nble_iff]
section
variable {n : Nat}
theorem TM_A (h1 : 1 ≤ n) (h6 : n ≤ 6) : TM 6 false n (fA n) := by
  refine ⟨h1, h6, ?_, fun w => w - 1, fun w w1 w2 => ⟨by show w - 1 < w; omega, ?_⟩, (fun h => by cases h)⟩
  · constructor <;> intros <;> simp_all [fA_iff] <;> omega
  · show fA n ((w - 1) * 6 + w) = true
    rw [fA_iff]; omega
theorem TM_W (h1 : 1 ≤ n) (h6 : n ≤ 6) : TM 6 true n (fW n) := by
  refine ⟨h1, h6, ?_, fun w => w - 1, fun w w1 w2 => ⟨by show w - 1 < w; omega, ?_⟩, fun _ i => ?_⟩
  · constructor <;> intros <;> simp_all [fW_iff] <;> omega
  · show fW n ((w - 1) * 6 + w) = true
    rw [fW_iff]; omega
  · show fW n i = true ↔ i < 36 ∧ 1 ≤ i % 6 ∧ i % 6 < n ∧ i % 6 - 1 = i / 6
    rw [fW_iff]
    constructor
    · rintro ⟨⟨a, b⟩, c⟩; exact ⟨by omega, a, b, by omega⟩
    · rintro ⟨a, b, c, d⟩; exact ⟨⟨b, c⟩, by omega⟩
theorem all_num (h1 : 1 ≤ n) (h6 : n ≤ 6) {g : Nat} (hg : g < n) : IsNum n (castE (edg (fA n) 36)) g n := by
  have T := TM_A h1 h6
  refine full_num T.eok h6 (T.conn (by decide)) hg (fun u v hu hv hne => ?_)
  rw [adjE_mem]
  unfold castE
  by_cases c : u < v
  · left
    refine List.mem_map.2 ⟨(u, v), edg_mem.2 ⟨u * 6 + v, by omega, ?_, ?_⟩, rfl⟩
    · rw [fA_iff]; omega
    · refine Prod.ext ?_ ?_ <;> dsimp only <;> omega
  · right
    refine List.mem_map.2 ⟨(v, u), edg_mem.2 ⟨v * 6 + u, by omega, ?_, ?_⟩, rfl⟩
    · rw [fA_iff]; omega
    · refine Prod.ext ?_ ?_ <;> dsimp only <;> omega
theorem fW_gP : ∀ n, n < 7 → ∀ i, i < 36 → fW n i = gP n (pfF 1 2 3 4) i := by decide +kernel
theorem way_out : ∀ n, n < 7 → 1 ≤ n → (partsO (adjP n (pfF 1 2 3 4)) n 7 0 (-1)).map (fun r => outL r.1 r.2) = some (if n = 1 then [] else [n - 1]) ∧ (partsO (adjP n (pfF 1 2 3 4)) n 7 (n - 1) (-1)).map (fun r => outL r.1 r.2) = some (if n = 1 then [] else [n - 1]) := by decide +kernel
theorem way_num (h1 : 1 ≤ n) (h6 : n ≤ 6) {g : Nat} (hg : g = 0 ∨ g = n - 1) : IsNum n (castE (edg (fW n) 36)) g ((2 ^ (n - 1) : Nat) : Int) := by
  have T := TM_W h1 h6
  have hgn : g < n := by omega
  obtain ⟨k, o, t1, _, _, _, t5⟩ := tree_number T (by decide) (tree_len T (by decide)) hgn
  have hadj := tree_adj T (by decide) (pf := pfF 1 2 3 4) (fun w w1 w2 => by
    have : w = 1 ∨ w = 2 ∨ w = 3 ∨ w = 4 ∨ w = 5 := by omega
    rcases this with rfl | rfl | rfl | rfl | rfl <;> decide) (fW_gP n (by omega))
  rw [hadj] at t1
  have hw := way_out n (by omega) h1
  have ho : outL k o = if n = 1 then [] else [n - 1] := by
    rcases hg with rfl | rfl
    · have := hw.1; rw [t1] at this; injection this
    · have := hw.2; rw [t1] at this; injection this
  have hs : Srt (outL k o) (outL k o) := by
    refine ⟨.refl _, ?_⟩
    rw [ho]
    split
    · exact List.Pairwise.nil
    · exact List.pairwise_singleton _ _
  have := t5 _ hs
  rw [ho] at this
  by_cases c : n = 1
  · subst c; exact this
  · rw [if_neg c] at this
    rw [show (1 + (pw2 [n - 1] : Int) - ([n - 1] : List Nat).length) = ((2 ^ (n - 1) : Nat) : Int) by
      show 1 + (((2 ^ (n - 1) + 0 : Nat)) : Int) - ((1 : Nat) : Int) = _
      omega] at this
    exact this
end
end Go.Proofs.YtpkhkghiidilcaaDoor.Sh

namespace Go.Proofs.YtpkhkghiidilcaaDoor.Sh
open Go
set_option maxRecDepth 100000
set_option maxHeartbeats 4000000
structure W2 (H : SHeap) (X Y : List (Nat × Nat)) (av wv : Value) (h : SHeap) : Prop where
  le : H.length ≤ h.length
  low : ∀ j, j < H.length → h[j]? = H[j]?
  aa : Acc H.length h av (prN X) X.length 2 45
  aw : Acc H.length h wv (prN Y) Y.length 2 45
  ne : ∀ (b m m' c c' : Nat), av = .slice (some ⟨b, 0, none⟩) m c → wv ≠ .slice (some ⟨b, 0, none⟩) m' c'
section
variable {H h : SHeap} {X Y : List (Nat × Nat)} {av wv : Value}
theorem W2.sym (W : W2 H X Y av wv h) : W2 H Y X wv av h := ⟨W.le, W.low, W.aw, W.aa, fun b m m' c c' e e' => W.ne b m' m c' c e' e⟩
theorem W2.push (W : W2 H X Y av wv h) (k u : Nat) (hl : X.length ≤ 1000) :
    ∃ G v2, (∀ (base : Nat) (d : List Nat), appendS base (h ++ [SO.cells [.int .i64 (k : Nat), .int .i64 (u : Nat)] 45 true 0 []]) d 45 true 2 16 av (.slice (some ⟨h.length, 0, none⟩) 1 1) = some (v2, G, d)) ∧ W2 H (X ++ [(k, u)]) Y v2 wv G := by
  have hle := W.le
  have A2 : Acc H.length (h ++ [SO.cells [.int .i64 (k : Nat), .int .i64 (u : Nat)] 45 true 0 []]) av (prN X) X.length 2 45 := W.aa.keep (fun b e => List.getElem?_append_left (W.aa.lt e).2)
  have B2 : Acc H.length (h ++ [SO.cells [.int .i64 (k : Nat), .int .i64 (u : Nat)] 45 true 0 []]) wv (prN Y) Y.length 2 45 := W.aw.keep (fun b e => List.getElem?_append_left (W.aw.lt e).2)
  obtain ⟨old, ap, acc2, kp⟩ := acc_append (bytes := 16) (new := [.int .i64 (k : Nat), .int .i64 (u : Nat)]) (bs := h.length) (el2 := 45) (pf2 := true) (own2 := 0) (old2 := []) A2 (by rw [app_get0]; rfl) rfl rfl (by decide) rfl (by decide) (by omega) (by simp; omega)
  refine ⟨_, _, ap, ?_, fun j hj => ?_, ?_, ?_, fun b m m' cc cc' e e2 => ?_⟩
  · simp [shv_len]; omega
  · rw [kp j (by simp; omega) (fun b e => by have := (A2.lt e).1; omega), List.getElem?_append_left (by omega)]; exact W.low j hj
  · have e : (X ++ [(k, u)]).length = X.length + 1 := by simp
    rw [prN_snoc, e]; exact acc2
  · exact B2.keep (fun b e => kp b (B2.lt e).2 (fun b' e' hb => by subst hb; exact W.ne _ _ _ _ _ e' e))
  · injection e with e _ _
    injection e with e
    injection e with e _ _
    rcases W.aw with ⟨_, h2, _⟩ | ⟨b', old', h2, h3, _⟩
    · rw [h2] at e2; simp at e2
    · rw [h2] at e2
      injection e2 with e2 _ _
      injection e2 with e2
      injection e2 with e2 _ _
      have := (List.getElem?_eq_some_iff.1 h3).1
      simp at e
      omega
theorem W2.ps (W : W2 H X Y av wv h) : PS h av (castE X) := by
  rcases W.aa with ⟨e, rfl, _⟩ | ⟨b, old, rfl, h1, _⟩
  · have : X = [] := List.length_eq_zero_iff.1 e
    subst this
    exact ⟨none, 0, rfl, fun h => (h rfl).elim⟩
  · exact ⟨_, _, by rw [castE_len], fun _ => ⟨b, 0, rfl, Prs.mk0 (by rw [← prN_prs]; exact h1) rfl⟩⟩
end
section
variable {H : SHeap} {n : Nat}
theorem c5_in (cx : Cx) (hn : n ≤ 6) {i : Nat} {Y Z : List (Nat × Nat)} (hZ : Z.length ≤ 1000) {wv : Value} {ρ0 : Reg} :
    ∀ k ρ ms h' d', (∃ (j : Nat) (X : List (Nat × Nat)) (av : Value), j + k = n ∧ X ++ rI i k j = Z ∧ W2 H X Y av wv h' ∧ (∀ r, r < 11 → ρ r = ρ0 r) ∧ ρ 5 = .int .i64 n ∧ ρ 11 = av ∧ ρ 12 = wv ∧ ρ 13 = .int .i64 i ∧ ρ 14 = .int .i64 j ∧ ms = [] ∧ d' = []) →
    LoopW M cx 8 sf5L0 ρ ms h' d' (fun ex ρ' ms' h' d' => ex = .exit 2 ∧ ms' = [] ∧ d' = [] ∧ (∀ r, r < 11 → ρ' r = ρ0 r) ∧ ∃ av, W2 H Z Y av wv h' ∧ ρ' 11 = av ∧ ρ' 12 = wv ∧ ρ' 13 = .int .i64 i) := by
  refine loop_run _ ?_
  rintro k ρ ms h d' ⟨j, X, av, hk, hX, W, hreg, r5, r11, r12, r13, r14, rfl, rfl⟩
  unfold sf5L0
  cases k with
  | zero =>
    have e1 : ¬ ((j : Int) < n) := by omega
    rw [rI, List.append_nil] at hX
    subst hX
    repeat (first | apply Z1 | apply Z2 | apply Z3 | apply Z4 | apply Z5 rfl | apply Z6 | apply Z7 | apply Z8 | apply Z9 | apply ZA | apply ZB | apply ZC | ((first | apply ZD (by decide) | apply ZN (by decide)); (simp (maxSteps := 9999999) only [go_sem, r5, r14, e1]; rfl)) | (refine ZE ?_ ?_; · simp only [go_sem]) | (refine ZF ?_ ?_; · simp only [go_sem]))
    exact end_nil ⟨rfl, rfl, rfl, fun r hr => by simp only [upd_get]; (repeat rw [if_neg (by omega)]); exact hreg r hr, av, W, by simp only [go_sem, r11], by simp only [go_sem, r12], by simp only [go_sem, r13]⟩
  | succ m =>
    have e1 : ((j : Int) < n) := by omega
    have ew : IntKind.i64.wrap ((j : Int) + 1) = ((j + 1 : Nat) : Int) := by rw [wrap64 (by omega) (by omega)]; rfl
    have hXl : X.length ≤ 1000 := by rw [← hX, List.length_append] at hZ; omega
    obtain ⟨G, v2, ap, W'⟩ := W.push i j hXl
    obtain ⟨oa, oc, eov⟩ := W.aa.shape
    repeat (first | apply Z1 | apply Z2 | apply Z3 | apply Z4 | apply Z5 rfl | apply Z6 | apply Z7 | apply Z8 | apply Z9 | apply ZA | apply ZB | apply ZC | ((first | apply ZD (by decide) | apply ZN (by decide)); (simp (maxSteps := 9999999) only [go_sem, r5, r11, r13, r14, e1, ↓ap, ew]; rfl)) | (refine ZE ?_ ?_; · simp only [go_sem]) | (refine ZF ?_ ?_; · simp only [go_sem]))
    exact end_nil ⟨m, by omega, j + 1, X ++ [(i, j)], v2, by omega, by rw [← hX, List.append_assoc]; rfl, W', fun r hr => by simp only [upd_get]; (repeat rw [if_neg (by omega)]); exact hreg r hr, by simp only [go_sem, r5], by simp only [go_sem], by simp only [go_sem, r12], by simp only [go_sem, r13], by simp only [go_sem, ew], rfl, rfl⟩
theorem c5_out (cx : Cx) (hn : n ≤ 6) {A B : List (Nat × Nat)} (hA : A.length ≤ 1000) (hB : B.length ≤ 1000) {ρ0 : Reg} :
    ∀ k ρ ms h' d', (∃ (i : Nat) (X Y : List (Nat × Nat)) (av wv : Value), i + k = n ∧ X ++ rO n k i = A ∧ Y ++ rW n k i = B ∧ W2 H X Y av wv h' ∧ (∀ r, r < 11 → ρ r = ρ0 r) ∧ ρ 5 = .int .i64 n ∧ ρ 11 = av ∧ ρ 12 = wv ∧ ρ 13 = .int .i64 i ∧ ms = [] ∧ d' = []) →
    LoopW M cx 8 sf5L1 ρ ms h' d' (fun ex ρ' ms' h' d' => ex = .exit 0 ∧ ms' = [] ∧ d' = [] ∧ (∀ r, r < 11 → ρ' r = ρ0 r) ∧ ∃ av wv, W2 H A B av wv h' ∧ ρ' 11 = av ∧ ρ' 12 = wv) := by
  refine loop_run _ ?_
  rintro k ρ ms h d' ⟨i, X, Y, av, wv, hk, hX, hY, W, hreg, r5, r11, r12, r13, rfl, rfl⟩
  unfold sf5L1
  cases k with
  | zero =>
    have e1 : ¬ ((i : Int) < n) := by omega
    rw [rO, List.append_nil] at hX
    rw [rW, List.append_nil] at hY
    subst hX hY
    repeat (first | apply Z1 | apply Z2 | apply Z3 | apply Z4 | apply Z5 rfl | apply Z6 | apply Z7 | apply Z8 | apply Z9 | apply ZA | apply ZB | apply ZC | ((first | apply ZD (by decide) | apply ZN (by decide)); (simp (maxSteps := 9999999) only [go_sem, r5, r13, e1]; rfl)) | (refine ZE ?_ ?_; · simp only [go_sem]) | (refine ZF ?_ ?_; · simp only [go_sem]))
    exact end_nil ⟨rfl, rfl, rfl, fun r hr => by simp only [upd_get]; (repeat rw [if_neg (by omega)]); exact hreg r hr, av, wv, W, by simp only [go_sem, r11], by simp only [go_sem, r12]⟩
  | succ m =>
    have e1 : ((i : Int) < n) := by omega
    have ew : IntKind.i64.wrap ((i : Int) + 1) = ((i + 1 : Nat) : Int) := by rw [wrap64 (by omega) (by omega)]; rfl
    rw [rO, ← List.append_assoc] at hX
    have hZl : (X ++ rI i (n - (i + 1)) (i + 1)).length ≤ 1000 := by rw [← hX, List.length_append] at hA; omega
    repeat (first | apply Z1 | apply Z2 | apply Z3 | apply Z4 | apply Z5 rfl | apply Z6 | apply Z7 | apply Z8 | apply Z9 | apply ZA | apply ZB | apply ZC | ((first | apply ZD (by decide) | apply ZN (by decide)); (simp (maxSteps := 9999999) only [go_sem, r5, r13, e1, ew]; rfl)) | (refine ZE ?_ ?_; · simp only [go_sem]) | (refine ZF ?_ ?_; · simp only [go_sem]))
    refine run_loop (c5_in (H := H) (n := n) (i := i) (Y := Y) (Z := X ++ rI i (n - (i + 1)) (i + 1)) (wv := wv) _ hn hZl (n - (i + 1)) _ _ _ _ ⟨i + 1, X, av, by omega, rfl, W, fun r _ => rfl, by simp only [go_sem, r5], by simp only [go_sem, r11], by simp only [go_sem, r12], by simp only [go_sem, r13], by simp only [go_sem, ew], rfl, rfl⟩) ?_
    rintro ex ρ2 ms2 h2 d2 ⟨rfl, rfl, rfl, K, av2, W', t11, t12, t13⟩
    have K' : ∀ r, r < 11 → ρ2 r = ρ0 r := fun r hr => by
      rw [K r hr]; simp only [upd_get]; (repeat rw [if_neg (by omega)]); exact hreg r hr
    have a5 : ρ2 5 = .int .i64 n := (K 5 (by decide)).trans (by simp only [go_sem, r5])
    rw [rW] at hY
    by_cases c : i + 1 < n
    · rw [if_pos c] at hY
      have e2 : (((i + 1 : Nat) : Int) < n) := by omega
      have hYl : Y.length ≤ 1000 := by rw [← hY, List.length_append] at hB; omega
      obtain ⟨G, v2, ap, W3⟩ := W'.sym.push i (i + 1) hYl
      obtain ⟨oa, oc, eov⟩ := W'.aw.shape
      repeat (first | apply Z1 | apply Z2 | apply Z3 | apply Z4 | apply Z5 rfl | apply Z6 | apply Z7 | apply Z8 | apply Z9 | apply ZA | apply ZB | apply ZC | ((first | apply ZD (by decide) | apply ZN (by decide)); (simp (maxSteps := 9999999) only [go_sem, a5, t12, t13, e2, ew, ↓ap]; rfl)) | (refine ZE ?_ ?_; · simp only [go_sem]) | (refine ZF ?_ ?_; · simp only [go_sem]))
      exact end_nil ⟨m, by omega, i + 1, _, Y ++ [(i, i + 1)], av2, v2, by omega, hX, by rw [← hY, List.append_assoc]; rfl, W3.sym, fun r hr => by simp only [upd_get]; (repeat rw [if_neg (by omega)]); exact K' r hr, by simp only [go_sem, a5], by simp only [go_sem, t11], by simp only [go_sem], by simp only [go_sem, ew], rfl, rfl⟩
    · rw [if_neg c] at hY
      have e2 : ¬ (((i + 1 : Nat) : Int) < n) := by omega
      repeat (first | apply Z1 | apply Z2 | apply Z3 | apply Z4 | apply Z5 rfl | apply Z6 | apply Z7 | apply Z8 | apply Z9 | apply ZA | apply ZB | apply ZC | ((first | apply ZD (by decide) | apply ZN (by decide)); (simp (maxSteps := 9999999) only [go_sem, a5, t13, e2, ew]; rfl)) | (refine ZE ?_ ?_; · simp only [go_sem]) | (refine ZF ?_ ?_; · simp only [go_sem]))
      exact end_nil ⟨m, by omega, i + 1, _, Y, av2, wv, by omega, hX, hY, W', fun r hr => by simp only [upd_get]; (repeat rw [if_neg (by omega)]); exact K' r hr, by simp only [go_sem, a5], by simp only [go_sem, t11], by simp only [go_sem, t12], by simp only [go_sem, ew], rfl, rfl⟩
end
theorem law5M {H : SHeap} {N goal : Int} {ev : Value} {X : List (Int × Int)} (hv : PS H ev X) (hX : X.length ≤ 9223372036854775807) :
    M.call 5 [.agg #[.int .i64 N, ev], .int .i64 goal] H = some (.bool true, H, []) := by
  refine call_run sf5 rfl rfl rfl ?_
  obtain ⟨n, f, E, xv, H1, T, eE, hn1, hn, hE, hC, he, hEl, P1, ⟨xa, xc, exv⟩, G1, F1, c15⟩ := tameS (N := N) hv hX (most := 6) (by decide) (by decide) true [.cells [.int .i64 N, ev] 24 false 0 []]
  have hEl' : E.length ≤ 1000000 := by omega
  rw [List.length_append, List.length_singleton] at F1 G1
  have G1' : ∀ j, j < H.length → H1[j]? = H[j]? := fun j hj => by rw [G1 j (by omega), List.getElem?_append_left hj]
  have lx : loadS (H ++ [.cells [.int .i64 N, ev] 24 false 0 []]) (some 2) (.pointer (some ⟨H.length, 0, none⟩)) = some (.agg #[.int .i64 N, ev]) := by rw [load_appN0]; rfl
  rw [show ((6 : Nat) : Int) = 6 from rfl] at c15
  have hg := uR_lt goal (m := n) (by omega)
  have um := uR_eq goal (m := n) (by omega)
  have hwu : IntKind.u64.wrap (n : Int) = n := wrapU (by omega) (by omega)
  have hne : ¬ (n : Int) = 0 := by omega
  have w6 : IntKind.i64.wrap ((uR goal n : Nat) : Int) = ((uR goal n : Nat) : Int) := wrap64 (by omega) (by omega)
  generalize uR goal n = g at *
  obtain ⟨va, vc, rfl, _⟩ := id hv
  have hl := tree_len T (by decide)
  obtain ⟨k, o, t1, t3, t4, t5, t6⟩ := tree_number T (by decide) hl hg
  rw [← eE] at t1 t6
  obtain ⟨l', s1, _, c21⟩ := parts20 P1 hEl' he hg (by rw [eE, castE_len]; exact hl) t1 t3 t4 t5
  obtain ⟨kk, num, c26⟩ := number26 P1 hEl' he hg
  obtain rfl := num.uniq (t6 _ s1)
  generalize (1 + (pw2 l' : Int) - l'.length) = tn at *
  have W0 : W2 H1 [] [] (.slice none 0 0) (.slice none 0 0) H1 := ⟨Nat.le_refl _, fun _ _ => rfl, .inl ⟨rfl, rfl, rfl⟩, .inl ⟨rfl, rfl, rfl⟩, fun b m m' c c' e => by simp at e⟩
  have TA := TM_A hn1 hn
  have TW := TM_W hn1 hn
  have la := edg_len (fA n) 36
  have lw := edg_len (fW n) 36
  subst exv
  unfold sf5
  repeat (first | apply Z1 | apply Z2 | apply Z3 | apply Z4 | apply Z5 rfl | apply Z6 | apply Z7 | apply Z8 | apply Z9 | apply ZA | apply ZB | apply ZC | ((first | apply ZD (by decide) | apply ZN (by decide)); (simp (maxSteps := 9999999) only [go_sem, argR, lx, c15, um, hwu, w6, hne, c26, c21]; rfl)) | (refine ZE ?_ ?_; · simp only [go_sem]) | (refine ZF ?_ ?_; · simp only [go_sem]))
  refine run_loop (c5_out (H := H1) (A := edg (fA n) 36) (B := edg (fW n) 36) _ hn (by omega) (by omega) n _ _ _ _ ⟨0, [], [], _, _, by omega, rO_eq n (by omega), rW_eq n (by omega), W0, fun r _ => rfl, by simp only [go_sem], by simp only [go_sem], by simp only [go_sem], by simp only [go_sem] <;> rfl, rfl, rfl⟩) ?_
  rintro ex ρ2 ms2 h2 d2 ⟨rfl, rfl, rfl, K, av, wv, W, t11, t12⟩
  have a1 : ρ2 1 = .int .i64 g := (K 1 (by decide)).trans (by simp only [go_sem])
  have a5 : ρ2 5 = .int .i64 n := (K 5 (by decide)).trans (by simp only [go_sem])
  have a7 : ρ2 7 = .int .i64 tn := (K 7 (by decide)).trans (by simp only [go_sem])
  have a8 : ρ2 8 = .int .i64 0 := (K 8 (by decide)).trans (by simp only [go_sem])
  have a9 : ρ2 9 = .int .i64 tn := (K 9 (by decide)).trans (by simp only [go_sem])
  have a10 : ρ2 10 = .int .i64 0 := (K 10 (by decide)).trans (by simp only [go_sem])
  obtain ⟨k1, n1, b1⟩ := number26 (goal := g) W.ps (edgE_len _) (TA.err (by decide)) hg
  obtain rfl := n1.uniq (all_num hn1 hn hg)
  obtain ⟨k2, n2, b2⟩ := number26 (goal := 0) W.sym.ps (edgE_len _) (TW.err (by decide)) (by omega)
  obtain rfl := n2.uniq (way_num hn1 hn (.inl rfl))
  obtain ⟨k3, n3, b3⟩ := number26 (goal := n - 1) W.sym.ps (edgE_len _) (TW.err (by decide)) (by omega)
  obtain rfl := n3.uniq (way_num hn1 hn (.inr rfl))
  rw [show ((0 : Nat) : Int) = 0 from rfl] at b2
  have ws : IntKind.i64.wrap ((n : Int) - 1) = ((n - 1 : Nat) : Int) := by rw [wrap64 (by omega) (by omega)]; omega
  have sh := shl_1 (k := .i64) (v := n - 1) (by omega)
  have aw := awake_call h2
  obtain ⟨a', c', ea⟩ := W.aa.shape
  obtain ⟨a2', c2', ew⟩ := W.aw.shape
  generalize ((2 ^ (n - 1) : Nat) : Int) = pw at *
  repeat (first | apply Z1 | apply Z2 | apply Z3 | apply Z4 | apply Z5 rfl | apply Z6 | apply Z7 | apply Z8 | apply Z9 | apply ZA | apply ZB | apply ZC | ((first | apply ZD (by decide) | apply ZN (by decide)); (simp (maxSteps := 9999999) only [go_sem, a1, a5, a7, a8, a9, a10, t11, t12, b1, b2, ws, b3, sh, aw]; rfl)) | (refine ZE ?_ ?_; · simp only [go_sem]) | (refine ZF ?_ ?_; · simp only [go_sem]))
  exact end_nil (q_ret1 _ (by simp only [go_sem]) rfl (take_of_same (by have := W.le; omega) (fun j hj => by rw [W.low j (by omega)]; exact G1' j hj)))
end Go.Proofs.YtpkhkghiidilcaaDoor.Sh

namespace Go.Proofs.YtpkhkghiidilcaaDoor
open Go Go.RowKit Sh
set_option maxRecDepth 100000
theorem supplyChung.walk {a1 : Option Addr} {n1 c1 : Nat} {X1 : List (Int × Int)} {N0 : Int} (W : World) (hg : GlobW Tryd.prog W) (h1 : IsPrs W a1 n1 c1 X1) (z1 : Int) :
    Calls Tryd.prog 5 #[.agg #[.int .i64 N0, .slice a1 n1 c1], .int .i64 z1] W (fun e W' => e = .returned (.bool true) ∧ Below W.heap.size W W') := by
  obtain ⟨x1, b1, r1, k1⟩ := prs_arg h1
  obtain ⟨u1, v1, p1⟩ := k1 [] []
  simp only [List.nil_append, List.append_nil, List.append_assoc] at v1 p1
  exact walk_rel mixed tab (flatK_ok CA_ok) (Rel.ro hg r1) (LR.cons (VR.agg2 (.int _ _) v1) (LR.cons (.int _ _) (LR.nil _))) (law5M p1.ps x1) rfl
end Go.Proofs.YtpkhkghiidilcaaDoor

