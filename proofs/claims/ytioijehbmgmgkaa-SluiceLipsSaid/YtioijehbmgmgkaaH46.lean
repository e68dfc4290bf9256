/- few, given: basins are copied. The walk. -/
import Derived.Test.YtioijehbmgmgkaaH44
import Derived.Test.YtioijehbmgmgkaaH45
set_option linter.all false
namespace Go.Proofs.Ytioijehbmgmgkaa.Sh
open Go
set_option maxRecDepth 100000
set_option maxHeartbeats 1000000
theorem q_gc {rs : List SRes} {base : Nat} {ρ : Reg} {h h' : SHeap} {v : Value} {ex : Ex} (l : List Value) (he : resE ρ h rs = some l) (ho : l.all opnB = true) (hg : gcS base (oneV l) h = some (v, h')) (hx : isEnd ex = true) : callQ rs base (v, h', []) ex ρ [] h [] :=
  ⟨hx, resE_ok (K := fun l' => endW base h [] (v, h', []) l') he ho ⟨_, _, hg, rfl⟩⟩
structure Ext (H h : SHeap) : Prop where
  le : H.length ≤ h.length
  fr : ∀ j, j < H.length → h[j]? = H[j]?
theorem Ext.rfl' (H : SHeap) : Ext H H := ⟨Nat.le_refl _, fun _ _ => rfl⟩
theorem Ext.app (H g : SHeap) : Ext H (H ++ g) := ⟨by simp, fun _ hj => List.getElem?_append_left hj⟩
theorem Ext.trans {H h h2 : SHeap} (a : Ext H h) (b : Ext h h2) : Ext H h2 := ⟨Nat.le_trans a.le b.le, fun j hj => (b.fr j (Nat.lt_of_lt_of_le hj a.le)).trans (a.fr j hj)⟩
theorem Ext.take {H h : SHeap} (a : Ext H h) : h.take H.length = H := take_of_same a.le a.fr
theorem Ext.res (H : SHeap) (cs : List Value) (n : Nat) (el : TypeId) : Ext H (resH H cs n el) := by
  obtain ⟨g, e⟩ := resH_app H cs n el
  rw [e]; exact Ext.app H g
theorem Ext.of_app {H g h : SHeap} (a : Ext (H ++ g) h) : Ext H h := (Ext.app H g).trans a
theorem Ext.load {H h : SHeap} (a : Ext H h) {b o : Nat} (hb : b < H.length) (t : Option Nat) : loadS h t (.pointer (some ⟨b, o, none⟩)) = loadS H t (.pointer (some ⟨b, o, none⟩)) := load_same' (a.fr b hb) t
theorem few42 {H : SHeap} {v : Value} {l : List Int} (hv : IS H v l) (hlen : l.length ≤ 9223372036854775807) {most : Nat} (hm : most ≤ 1000) :
    M.call 42 [v, .int .i64 most] H = some (resV H (l.take most).length 1, resH H ((l.take most).map mkI) (l.take most).length 3, []) := by
  refine call_run sf42 rfl rfl rfl ?_
  obtain ⟨a, c, rfl⟩ := hv.shape
  have hmin : (if (most : Int) < l.length then (most : Int) else l.length) = (((l.take most).length : Nat) : Int) := by
    rw [List.length_take]; split <;> omega
  have hk : (l.take most).length ≤ l.length := by rw [List.length_take]; omega
  have hk2 : (l.take most).length ≤ 1000 := by rw [List.length_take]; omega
  have sl := SL.sl_to hv hk
  have htk : (l.map mkI).take ((l.take most).length * 1) = (l.take most).map mkI := by
    rw [Nat.mul_one, ← List.map_take]
    congr 1
    rw [List.length_take]
    by_cases c : most ≤ l.length
    · rw [Nat.min_eq_left c]
    · rw [Nat.min_eq_right (by omega), List.take_of_length_le (Nat.le_refl _), List.take_of_length_le (by omega)]
  have ap := SL.copy (el := 3) (bytes := 8) hv hk (mkI_sc l) (by decide) (by omega)
  rw [htk] at ap
  have A := AccS.ofRes H 3 (cs := (l.take most).map mkI) (n := (l.take most).length) (s := 1) (by simp) (mkI_sc _)
  generalize (l.take most).length = k at *
  generalize (l.take most).map mkI = cs at *
  unfold sf42
  obtain ⟨ra, rc, hr⟩ := A.shape
  rw [hr] at ap A ⊢
  repeat (first | apply Z1 | apply Z2 | apply Z3 | apply Z4 | apply Z5 rfl | apply Z6 | apply Z7 | apply Z8 | apply Z9 | apply ZA | apply ZB | apply ZC | ((first | apply ZD (by decide) | apply ZN (by decide)); (simp (maxSteps := 9999999) only [go_sem, argR, hmin, ↓sl, ↓ap]; rfl)) | (refine ZE ?_ ?_; · simp only [go_sem]) | (refine ZF ?_ ?_; · simp only [go_sem]))
  exact end_nil (A.at0.q1 hr.symm rfl (by simp only [go_sem]))
def BV (h : SHeap) (v : Value) (A F : List Int) (S : List T3) : Prop := ∃ va vf vs, v = .agg #[va, vf, vs] ∧ IS h va A ∧ IS h vf F ∧ ES h vs S
def BN (h : SHeap) (v : Value) (A F : List Int) (S : List T3) : Prop := ∃ va vf vs, v = .agg #[va, vf, vs] ∧ IS h va A ∧ IS h vf F ∧ ES h vs S ∧ (S.length = 0 → vs = .slice none 0 0)
theorem BN.bv {h : SHeap} {v : Value} {A F : List Int} {S : List T3} (k : BN h v A F S) : BV h v A F S := by
  obtain ⟨va, vf, vs, e, h1, h2, h3, _⟩ := k
  exact ⟨va, vf, vs, e, h1, h2, h3⟩
theorem BN.fr {H h : SHeap} {v : Value} {A F : List Int} {S : List T3} (k : BN H v A F S) (e : Ext H h) : BN h v A F S := by
  obtain ⟨va, vf, vs, rfl, h1, h2, h3, h4⟩ := k
  exact ⟨va, vf, vs, rfl, h1.fr e.fr, h2.fr e.fr, h3.fr e.fr, h4⟩
theorem BV.fr {H h : SHeap} {v : Value} {A F : List Int} {S : List T3} (k : BV H v A F S) (e : Ext H h) : BV h v A F S := by
  obtain ⟨va, vf, vs, rfl, h1, h2, h3⟩ := k
  exact ⟨va, vf, vs, rfl, h1.fr e.fr, h2.fr e.fr, h3.fr e.fr⟩
def NewV (base : Nat) (h : SHeap) (v : Value) (cs : List Value) (n s : Nat) : Prop := (n = 0 ∧ v = .slice none 0 0 ∧ cs = []) ∨ ∃ b el old, v = .slice (some ⟨b, 0, none⟩) n (UNK + s) ∧ h[b]? = some (.cells cs el true 0 old) ∧ cs.length = n * s ∧ base ≤ b ∧ n ≠ 0
theorem AccS.new {H h : SHeap} {v : Value} {cs : List Value} {n s : Nat} {el : TypeId} (A : AccS H h v cs n s el) {base : Nat} (hb : base ≤ H.length) : NewV base h v cs n s := by
  rcases A.acc with ⟨rfl, rfl, rfl⟩ | ⟨b, old, rfl, h1, h2, h3, h4, _⟩
  · exact .inl ⟨rfl, rfl, rfl⟩
  · exact .inr ⟨b, el, old, rfl, h1, h2, by omega, h3⟩
theorem NewV.mono {base base' : Nat} {h : SHeap} {v : Value} {cs : List Value} {n s : Nat} (k : NewV base h v cs n s) (hb : base' ≤ base) : NewV base' h v cs n s := by
  rcases k with k | ⟨b, el, old, e, h1, h2, h3, h4⟩
  · exact .inl k
  · exact .inr ⟨b, el, old, e, h1, h2, by omega, h4⟩
theorem NewV.shape {base : Nat} {h : SHeap} {v : Value} {cs : List Value} {n s : Nat} (k : NewV base h v cs n s) : ∃ a c, v = .slice a n c := by
  rcases k with ⟨rfl, rfl, _⟩ | ⟨b, el, old, rfl, _⟩
  · exact ⟨none, 0, rfl⟩
  · exact ⟨_, _, rfl⟩
theorem NewV.ofRes (h : SHeap) (el : TypeId) {cs : List Value} {n s : Nat} (hl : cs.length = n * s) (hsc : cs.all sc = true) : NewV h.length (resH h cs n el) (resV h n s) cs n s := (AccS.ofRes h el hl hsc).new (Nat.le_refl _)
theorem NewV.ext {base : Nat} {H h : SHeap} {v : Value} {cs : List Value} {n s : Nat} (k : NewV base H v cs n s) (e : Ext H h) : NewV base h v cs n s := by
  rcases k with k | ⟨b, el, old, e1, h1, h2, h3, h4⟩
  · exact .inl k
  · exact .inr ⟨b, el, old, e1, by rw [e.fr b (List.getElem?_eq_some_iff.1 h1).1]; exact h1, h2, h3, h4⟩
theorem NewV.fr {base : Nat} {H h : SHeap} {v : Value} {cs : List Value} {n s : Nat} (k : NewV base H v cs n s) (fr : ∀ b, base ≤ b → b < H.length → h[b]? = H[b]?) : NewV base h v cs n s := by
  rcases k with k | ⟨b, el, old, e, h1, h2, h3, h4⟩
  · exact .inl k
  · exact .inr ⟨b, el, old, e, by rw [fr b h3 (List.getElem?_eq_some_iff.1 h1).1]; exact h1, h2, h3, h4⟩
theorem NewV.leaf {base : Nat} {h : SHeap} {v : Value} {cs : List Value} {n s : Nat} (k : NewV base h v cs n s) (m : Nat) : okV m v = true ∧ (ptrs m v).length ≤ 1 ∧ ∀ b ∈ ptrs m v, ∃ cs el own old, h[b]? = some (.cells cs el true own old) ∧ (own == 2) = false := by
  rcases k with ⟨_, rfl, _⟩ | ⟨b, el, old, rfl, h1, _⟩
  · cases m <;> exact ⟨rfl, by simp [ptrs, ptr1], fun b hb => by simp [ptrs, ptr1] at hb⟩
  · refine ⟨by cases m <;> rfl, by cases m <;> simp [ptrs, ptr1], fun x hx => ?_⟩
    have : x = b := by cases m <;> simpa [ptrs, ptr1] using hx
    subst this
    exact ⟨cs, el, 0, old, h1, rfl⟩
theorem NewV.sl {base : Nat} {h : SHeap} {v : Value} {cs : List Value} {n s : Nat} (k : NewV base h v cs n s) : SL h v cs n s := by
  rcases k with ⟨rfl, rfl, rfl⟩ | ⟨b, el, old, rfl, h1, h2, _⟩
  · exact ⟨none, 0, rfl, .inl ⟨Nat.le_refl _, by decide⟩, by simp, .inl ⟨rfl, by decide, rfl⟩⟩
  · exact ⟨_, _, rfl, .inr rfl, h2, .inr ⟨b, 0, rfl, fun _ => Seg.mk0 h1 rfl⟩⟩
theorem NewV.nil {base : Nat} {h : SHeap} {v : Value} {cs : List Value} {n s : Nat} (k : NewV base h v cs n s) (hn : n = 0) : v = .slice none 0 0 := by
  rcases k with ⟨_, h, _⟩ | ⟨b, el, old, _, _, _, _, h⟩
  · exact h
  · exact (h hn).elim
theorem NewV.ren {base m : Nat} {h h' : SHeap} {v : Value} {cs : List Value} {n s : Nat} {g : Nat → Nat} (k : NewV base h v cs n s)
    (hg : ∀ b ∈ ptrs m v, base ≤ b → ∀ cs el own old, h[b]? = some (.cells cs el true own old) → base ≤ g b ∧ ∃ old', h'[g b]? = some (.cells cs el true own old')) : NewV base h' (rnV g m v) cs n s := by
  rcases k with ⟨rfl, rfl, rfl⟩ | ⟨b, el, old, rfl, h1, h2, h3, h4⟩
  · cases m <;> exact .inl ⟨rfl, rfl, rfl⟩
  · obtain ⟨k1, old', k2⟩ := hg b (by cases m <;> simp [ptrs, ptr1]) h3 cs el 0 old h1
    exact .inr ⟨g b, el, old', by cases m <;> rfl, k2, h2, k1, h4⟩
theorem gc_bv {H h : SHeap} (e : Ext H h) {va vf vs : Value} {c1 c2 c3' : List Value} {n1 n2 n3 s1 s2 s3 : Nat} (k1 : NewV H.length h va c1 n1 s1) (k2 : NewV H.length h vf c2 n2 s2) (k3 : NewV H.length h vs c3' n3 s3) :
    ∃ va' vf' vs' h', gcS H.length (.agg #[va, vf, vs]) h = some (.agg #[va', vf', vs'], h') ∧ Ext H h' ∧ NewV H.length h' va' c1 n1 s1 ∧ NewV H.length h' vf' c2 n2 s2 ∧ NewV H.length h' vs' c3' n3 s3 := by
  have hp : ptrs 3 (.agg #[va, vf, vs]) = ptrs 2 va ++ (ptrs 2 vf ++ (ptrs 2 vs ++ [])) := rfl
  obtain ⟨a1, a2, a3⟩ := k1.leaf 2
  obtain ⟨b1, b2, b3⟩ := k2.leaf 2
  obtain ⟨d1, d2, d3⟩ := k3.leaf 2
  obtain ⟨g, kept, g1, g2, g3⟩ := gc_new (base := H.length) (h := h) (v := .agg #[va, vf, vs]) (by show ([va, vf, vs].all (okV 2)) = true; simp [a1, b1, d1]) (by rw [hp]; simp; omega) (fun b hb _ => by
    rw [hp] at hb
    simp only [List.mem_append, List.append_nil] at hb
    rcases hb with hb | hb | hb
    · exact a3 b hb
    · exact b3 b hb
    · exact d3 b hb) e.le
  rw [e.take] at g1 g3
  refine ⟨rnV g 2 va, rnV g 2 vf, rnV g 2 vs, H ++ kept, g1, Ext.app H kept, k1.ren (m := 2) fun b hb => g3 b (by rw [hp]; simp [hb]), k2.ren (m := 2) fun b hb => g3 b (by rw [hp]; simp [hb]), k3.ren (m := 2) fun b hb => g3 b (by rw [hp]; simp [hb])⟩
theorem given17 {H : SHeap} {v : Value} {A F : List Int} {S : List T3} (hv : BV H v A F S) (ha : A.length ≤ 9) (hf : F.length ≤ 9) (hs : S.length ≤ 1000) :
    ∃ v' H', M.call 17 [v] H = some (v', H', []) ∧ Ext H H' ∧ BN H' v' A F S := by
  obtain ⟨va, vf, vs, rfl, h1, h2, h3⟩ := hv
  have key : ∃ r, (∃ v' H', r = (v', H', ([] : List Nat)) ∧ Ext H H' ∧ BN H' v' A F S) ∧ M.call 17 [.agg #[va, vf, vs]] H = some r := by
    refine call_ex (f := 17) _ sf17 rfl rfl rfl ?_
    have X0 : ∀ g, Ext H (H ++ g) := Ext.app H
    generalize hX : H ++ [SO.cells [va, vf, vs] 27 false 0 [], .cells [.slice none 0 0, .slice none 0 0, .slice none 0 0] 25 false 0 []] = X
    have eX : Ext H X := by rw [← hX]; exact X0 _
    have b1 : X[H.length]? = some (.cells [va, vf, vs] 27 false 0 []) := by rw [← hX, app_get0]; rfl
    have b2 : X[H.length + 1]? = some (.cells [.slice none 0 0, .slice none 0 0, .slice none 0 0] 25 false 0 []) := by rw [← hX, app_get]; rfl
    have lX : X.length = H.length + 2 := by rw [← hX]; simp
    have c1 : M.call 42 [va, .int .i64 9] X = _ := few42 (H := X) (h1.fr eX.fr) (by omega) (most := 9) (by decide)
    rw [List.take_of_length_le ha] at c1
    have n1 := NewV.ofRes X 3 (cs := A.map mkI) (n := A.length) (s := 1) (by simp) (mkI_sc _)
    have e1 := Ext.res X (A.map mkI) A.length 3
    generalize resH X (A.map mkI) A.length 3 = X1 at *
    generalize resV X A.length 1 = v1 at *
    have c2 : M.call 42 [vf, .int .i64 9] X1 = _ := few42 (H := X1) (h2.fr (eX.trans e1).fr) (by omega) (most := 9) (by decide)
    rw [List.take_of_length_le hf] at c2
    have n2 := NewV.ofRes X1 3 (cs := F.map mkI) (n := F.length) (s := 1) (by simp) (mkI_sc _)
    have e2 := Ext.res X1 (F.map mkI) F.length 3
    generalize resH X1 (F.map mkI) F.length 3 = X2 at *
    generalize resV X1 F.length 1 = v2 at *
    have k3 := h3.fr ((eX.trans e1).trans e2).fr
    obtain ⟨a3, cc3, rfl⟩ := k3.shape
    have ap := SL.copy (el := 78) (bytes := 24) k3 (Nat.le_refl _) (trs_sc S) (by decide) (by omega)
    rw [List.take_of_length_le (Nat.le_of_eq (trs_len S))] at ap
    have n3 := NewV.ofRes X2 78 (cs := trs S) (n := S.length) (s := 3) (trs_len S) (trs_sc _)
    have e3 := Ext.res X2 (trs S) S.length 78
    generalize resH X2 (trs S) S.length 78 = X3 at *
    generalize resV X2 S.length 3 = v3 at *
    have e23 := e2.trans e3
    have e13 := e1.trans e23
    have l0 : ∀ (o : Nat), loadS X none (.pointer (some ⟨H.length, o, none⟩)) = [va, vf, .slice a3 S.length cc3][o]? := fun o => by rw [load_rdO, b1]; rfl
    have l1 : ∀ (o : Nat), loadS X1 none (.pointer (some ⟨H.length, o, none⟩)) = [va, vf, .slice a3 S.length cc3][o]? := fun o => by rw [e1.load (by omega), l0]
    have l2 : ∀ (o : Nat), loadS X2 none (.pointer (some ⟨H.length, o, none⟩)) = [va, vf, .slice a3 S.length cc3][o]? := fun o => by rw [e2.load (by have := e1.le; omega), l1]
    obtain ⟨va1, va2, rfl⟩ := h1.shape
    obtain ⟨vf1, vf2, rfl⟩ := h2.shape
    have hb : X3[H.length + 1]? = some (.cells [.slice none 0 0, .slice none 0 0, .slice none 0 0] 25 false 0 []) := by rw [e13.fr _ (by omega)]; exact b2
    obtain ⟨x1, y1, rfl⟩ := n1.shape
    obtain ⟨x2, y2, rfl⟩ := n2.shape
    obtain ⟨x3, y3, rfl⟩ := n3.shape
    have st : ∀ d, storeS H.length X3 d (H.length + 1) 0 (cellsL (.agg #[.slice x1 A.length y1, .slice x2 F.length y2, .slice x3 S.length y3])) = _ := fun d => store_at (base := H.length) (vs := [.slice x1 A.length y1, .slice x2 F.length y2, .slice x3 S.length y3]) hb rfl (by simp) rfl (fun h => by cases h) d
    have dO : ∀ d, dirty H.length (H.length + 1) false d = d := fun d => dirty_own (by omega)
    simp only [dO] at st
    have ld : loadS (X3.set (H.length + 1) (.cells [.slice x1 A.length y1, .slice x2 F.length y2, .slice x3 S.length y3] 25 false 0 [])) (some 3) (.pointer (some ⟨H.length + 1, 0, none⟩)) = some (.agg #[.slice x1 A.length y1, .slice x2 F.length y2, .slice x3 S.length y3]) := by
      rw [load_rdON, List.getElem?_set_self (by have := e13.le; omega)]; rfl
    have fr4 : ∀ b, X.length ≤ b → b < X3.length → (X3.set (H.length + 1) (SO.cells [.slice x1 A.length y1, .slice x2 F.length y2, .slice x3 S.length y3] 25 false 0 []))[b]? = X3[b]? := fun b hb _ => List.getElem?_set_ne (by omega)
    have m1 := (((n1.ext e23).fr fr4).mono (base' := H.length) (by omega))
    have m2 := ((((n2.ext e3).mono (base' := X.length) (by have := e1.le; omega)).fr fr4).mono (base' := H.length) (by omega))
    have m3 := (((n3.mono (base' := X.length) (by have := e1.le; have := e2.le; omega)).fr fr4).mono (base' := H.length) (by omega))
    have eX4 : Ext H (X3.set (H.length + 1) (SO.cells [.slice x1 A.length y1, .slice x2 F.length y2, .slice x3 S.length y3] 25 false 0 [])) := by
      have q := eX.trans e13
      exact ⟨by rw [List.length_set]; exact q.le, fun j hj => by rw [List.getElem?_set_ne (by omega)]; exact q.fr j hj⟩
    obtain ⟨va', vf', vs', h', g1, g2, g3, g4, g5⟩ := gc_bv eX4 m1 m2 m3
    unfold sf17
    repeat (first | apply Z1 | apply Z2 | apply Z3 | apply Z4 | apply Z5 rfl | apply Z6 | apply Z7 | apply Z8 | apply Z9 | apply ZA | apply ZB | apply ZC | ((first | apply ZD (by decide) | apply ZN (by decide)); (simp (maxSteps := 9999999) only [go_sem, argR, hX, c1, c2, l0, l1, l2, ↓ap, vsame_slice, ↓st]; rfl)) | (refine ZE ?_ ?_; · simp only [go_sem]) | (refine ZF ?_ ?_; · simp only [go_sem]))
    exact end_nil ⟨_, ⟨_, _, rfl, g2, va', vf', vs', rfl, g3.sl, g4.sl, g5.sl, g5.nil⟩, q_gc [.agg #[.slice x1 A.length y1, .slice x2 F.length y2, .slice x3 S.length y3]] (by simp only [go_sem, ↓ld]) rfl g1 rfl⟩
  obtain ⟨r, ⟨v', H', rfl, k⟩, e⟩ := key
  exact ⟨v', H', e, k⟩
end Go.Proofs.Ytioijehbmgmgkaa.Sh

namespace Go.Proofs.Ytioijehbmgmgkaa.Sh
open Go
set_option maxRecDepth 100000
set_option maxHeartbeats 4000000
theorem t3_eq {x y : T3} : x = y ↔ x.1 = y.1 ∧ x.2.1 = y.2.1 ∧ x.2.2 = y.2.2 := by
  obtain ⟨a, b, c⟩ := x
  obtain ⟨a', b', c'⟩ := y
  simp
def lessT (x y : T3) : Prop := x.1 < y.1 ∨ x.1 = y.1 ∧ (x.2.1 < y.2.1 ∨ x.2.1 = y.2.1 ∧ x.2.2 < y.2.2)
instance (x y : T3) : Decidable (lessT x y) := by unfold lessT; infer_instance
theorem lessT.trans {x y z : T3} (h : lessT x y) (k : lessT y z) : lessT x z := by unfold lessT at *; omega
theorem wr_2 : IntKind.i64.wrap 2 = 2 := by decide
theorem wr_3 : IntKind.i64.wrap 3 = 3 := by decide
theorem less_loop (cx : Cx) {H X : SHeap} {x y : T3} (l1 : ∀ o, loadS X none (.pointer (some ⟨H.length, o, none⟩)) = (cel3 x)[o]?) (l2 : ∀ o, loadS X none (.pointer (some ⟨H.length + 1, o, none⟩)) = (cel3 y)[o]?) :
    ∀ k ρ ms h' d', (∃ i : Nat, i + k = 3 ∧ (0 < i → x.1 = y.1) ∧ (1 < i → x.2.1 = y.2.1) ∧ (2 < i → x.2.2 = y.2.2) ∧ ρ 2 = .pointer (some ⟨H.length, 0, none⟩) ∧ ρ 3 = .pointer (some ⟨H.length + 1, 0, none⟩) ∧ ρ 5 = .int .i64 i ∧ ms = [] ∧ h' = X ∧ d' = []) →
    LoopW M cx 5 sf76L0 ρ ms h' d' (fun ex ρ' ms' h' d' => ms' = [] ∧ h' = X ∧ d' = [] ∧ ((ex = .exit 0 ∧ x = y) ∨ (ex = .ret ∧ ρ' 4 = .bool (decide (lessT x y))))) := by
  refine loop_run _ ?_
  rintro k ρ ms h' d' ⟨i, hk, q0, q1, q2, r2, r3, r5, rfl, rfl, rfl⟩
  unfold sf76L0
  have hi : i = 0 ∨ i = 1 ∨ i = 2 ∨ i = 3 := by omega
  rcases hi with rfl | rfl | rfl | rfl
  · by_cases c : x.1 = y.1
    · repeat (first | apply Z1 | apply Z2 | apply Z3 | apply Z4 | apply Z5 rfl | apply Z6 | apply Z7 | apply Z8 | apply Z9 | apply ZA | apply ZB | apply ZC | ((first | apply ZD (by decide) | apply ZN (by decide)); (simp (maxSteps := 9999999) only [go_sem, r2, r3, r5, l1, l2, cel3, c, wr_2, wr_3]; rfl)) | (refine ZE ?_ ?_; · simp only [go_sem]) | (refine ZF ?_ ?_; · simp only [go_sem]))
      exact end_nil ⟨k - 1, by omega, 1, by omega, fun _ => c, by omega, by omega, by simp only [go_sem, r2], by simp only [go_sem, r3], by simp only [go_sem, wr_2, wr_3], rfl, rfl, rfl⟩
    · have hd : decide (lessT x y) = decide (x.1 < y.1) := decide_eq_decide.2 (by unfold lessT; omega)
      repeat (first | apply Z1 | apply Z2 | apply Z3 | apply Z4 | apply Z5 rfl | apply Z6 | apply Z7 | apply Z8 | apply Z9 | apply ZA | apply ZB | apply ZC | ((first | apply ZD (by decide) | apply ZN (by decide)); (simp (maxSteps := 9999999) only [go_sem, r2, r3, r5, l1, l2, cel3, c, wr_2, wr_3]; rfl)) | (refine ZE ?_ ?_; · simp only [go_sem]) | (refine ZF ?_ ?_; · simp only [go_sem]))
      exact end_nil ⟨rfl, rfl, rfl, .inr ⟨rfl, by simp only [go_sem, hd]⟩⟩
  · by_cases c : x.2.1 = y.2.1
    · repeat (first | apply Z1 | apply Z2 | apply Z3 | apply Z4 | apply Z5 rfl | apply Z6 | apply Z7 | apply Z8 | apply Z9 | apply ZA | apply ZB | apply ZC | ((first | apply ZD (by decide) | apply ZN (by decide)); (simp (maxSteps := 9999999) only [go_sem, r2, r3, r5, l1, l2, cel3, c, wr_2, wr_3]; rfl)) | (refine ZE ?_ ?_; · simp only [go_sem]) | (refine ZF ?_ ?_; · simp only [go_sem]))
      exact end_nil ⟨k - 1, by omega, 2, by omega, fun _ => q0 (by omega), fun _ => c, by omega, by simp only [go_sem, r2], by simp only [go_sem, r3], by simp only [go_sem, wr_2, wr_3], rfl, rfl, rfl⟩
    · have hd : decide (lessT x y) = decide (x.2.1 < y.2.1) := decide_eq_decide.2 (by have := q0 (by omega); unfold lessT; omega)
      repeat (first | apply Z1 | apply Z2 | apply Z3 | apply Z4 | apply Z5 rfl | apply Z6 | apply Z7 | apply Z8 | apply Z9 | apply ZA | apply ZB | apply ZC | ((first | apply ZD (by decide) | apply ZN (by decide)); (simp (maxSteps := 9999999) only [go_sem, r2, r3, r5, l1, l2, cel3, c, wr_2, wr_3]; rfl)) | (refine ZE ?_ ?_; · simp only [go_sem]) | (refine ZF ?_ ?_; · simp only [go_sem]))
      exact end_nil ⟨rfl, rfl, rfl, .inr ⟨rfl, by simp only [go_sem, hd]⟩⟩
  · by_cases c : x.2.2 = y.2.2
    · repeat (first | apply Z1 | apply Z2 | apply Z3 | apply Z4 | apply Z5 rfl | apply Z6 | apply Z7 | apply Z8 | apply Z9 | apply ZA | apply ZB | apply ZC | ((first | apply ZD (by decide) | apply ZN (by decide)); (simp (maxSteps := 9999999) only [go_sem, r2, r3, r5, l1, l2, cel3, c, wr_2, wr_3]; rfl)) | (refine ZE ?_ ?_; · simp only [go_sem]) | (refine ZF ?_ ?_; · simp only [go_sem]))
      exact end_nil ⟨k - 1, by omega, 3, by omega, fun _ => q0 (by omega), fun _ => q1 (by omega), fun _ => c, by simp only [go_sem, r2], by simp only [go_sem, r3], by simp only [go_sem, wr_2, wr_3], rfl, rfl, rfl⟩
    · have hd : decide (lessT x y) = decide (x.2.2 < y.2.2) := decide_eq_decide.2 (by have := q0 (by omega); have := q1 (by omega); unfold lessT; omega)
      repeat (first | apply Z1 | apply Z2 | apply Z3 | apply Z4 | apply Z5 rfl | apply Z6 | apply Z7 | apply Z8 | apply Z9 | apply ZA | apply ZB | apply ZC | ((first | apply ZD (by decide) | apply ZN (by decide)); (simp (maxSteps := 9999999) only [go_sem, r2, r3, r5, l1, l2, cel3, c, wr_2, wr_3]; rfl)) | (refine ZE ?_ ?_; · simp only [go_sem]) | (refine ZF ?_ ?_; · simp only [go_sem]))
      exact end_nil ⟨rfl, rfl, rfl, .inr ⟨rfl, by simp only [go_sem, hd]⟩⟩
  · repeat (first | apply Z1 | apply Z2 | apply Z3 | apply Z4 | apply Z5 rfl | apply Z6 | apply Z7 | apply Z8 | apply Z9 | apply ZA | apply ZB | apply ZC | ((first | apply ZD (by decide) | apply ZN (by decide)); (simp (maxSteps := 9999999) only [go_sem, r2, r3, r5]; rfl)) | (refine ZE ?_ ?_; · simp only [go_sem]) | (refine ZF ?_ ?_; · simp only [go_sem]))
    exact end_nil ⟨rfl, rfl, rfl, .inl ⟨rfl, t3_eq.2 ⟨q0 (by omega), q1 (by omega), q2 (by omega)⟩⟩⟩
theorem less76 {H : SHeap} (x y : T3) : M.call 76 [.agg #[.int .i64 x.1, .int .i64 x.2.1, .int .i64 x.2.2], .agg #[.int .i64 y.1, .int .i64 y.2.1, .int .i64 y.2.2]] H = some (.bool (decide (lessT x y)), H, []) := by
  refine call_run sf76 rfl rfl rfl ?_
  unfold sf76
  repeat (first | apply Z1 | apply Z2 | apply Z3 | apply Z4 | apply Z5 rfl | apply Z6 | apply Z7 | apply Z8 | apply Z9 | apply ZA | apply ZB | apply ZC | ((first | apply ZD (by decide) | apply ZN (by decide)); (simp (maxSteps := 9999999) only [go_sem, argR]; rfl)) | (refine ZE ?_ ?_; · simp only [go_sem]) | (refine ZF ?_ ?_; · simp only [go_sem]))
  refine run_loop (less_loop _ (H := H) (x := x) (y := y) (fun o => by rw [load_app0]; rfl) (fun o => by rw [load_app]; rfl) 3 _ _ _ _ ⟨0, by omega, by omega, by omega, by omega, by simp only [go_sem], by simp only [go_sem], by simp only [go_sem], rfl, rfl, rfl⟩) ?_
  rintro ex ρ2 ms2 h2 d2 ⟨rfl, rfl, rfl, h⟩
  rcases h with ⟨rfl, e⟩ | ⟨rfl, r4⟩
  · repeat (first | apply Z1 | apply Z2 | apply Z3 | apply Z4 | apply Z5 rfl | apply Z6 | apply Z7 | apply Z8 | apply Z9 | apply ZA | apply ZB | apply ZC | ((first | apply ZD (by decide) | apply ZN (by decide)); (simp (maxSteps := 9999999) only [go_sem]; rfl)) | (refine ZE ?_ ?_; · simp only [go_sem]) | (refine ZF ?_ ?_; · simp only [go_sem]))
    have : ¬ lessT x y := by subst e; unfold lessT; omega
    rw [decide_eq_false this]
    exact end_nil (q_ret1 _ (by simp only [go_sem]) rfl (take_app _ _))
  · repeat (first | apply Z1 | apply Z2 | apply Z3 | apply Z4 | apply Z5 rfl | apply Z6 | apply Z7 | apply Z8 | apply Z9 | apply ZA | apply ZB | apply ZC | ((first | apply ZD (by decide) | apply ZN (by decide)); (simp (maxSteps := 9999999) only [go_sem, r4]; rfl)) | (refine ZE ?_ ?_; · simp only [go_sem]) | (refine ZF ?_ ?_; · simp only [go_sem]))
    exact end_nil (q_ret1 _ (by simp only [go_sem, r4]) rfl (take_app _ _))
end Go.Proofs.Ytioijehbmgmgkaa.Sh

namespace Go.Proofs.Ytioijehbmgmgkaa.Sh
open Go
set_option maxRecDepth 100000
set_option maxHeartbeats 4000000
def gI (l : List Int) (i : Nat) : Int := l.getD i 0
def gT (l : List T3) (i : Nat) : T3 := l.getD i (0, 0, 0)
theorem gI_at {l : List Int} {i : Nat} (h : i < l.length) : l[i] = gI l i := by unfold gI; rw [List.getD_eq_getElem?_getD, List.getElem?_eq_getElem h]; rfl
theorem gT_at {l : List T3} {i : Nat} (h : i < l.length) : l[i] = gT l i := by unfold gT; rw [List.getD_eq_getElem?_getD, List.getElem?_eq_getElem h]; rfl
def okI (A F : List Int) (i : Nat) : Prop := 1 ≤ gI A i ∧ gI A i ≤ 100 ∧ 0 ≤ gI F i ∧ gI F i ≤ 100
def okS (n : Nat) (F : List Int) (S : List T3) (i : Nat) : Prop :=
  0 ≤ (gT S i).1 ∧ (gT S i).1 < (gT S i).2.1 ∧ (gT S i).2.1 ≤ n ∧ 1 ≤ (gT S i).2.2 ∧ (gT S i).2.2 ≤ 1000 ∧ gI F (gT S i).1.toNat ≤ (gT S i).2.2 ∧ ((gT S i).2.1 < n → gI F (gT S i).2.1.toNat ≤ (gT S i).2.2) ∧
  (0 < i → lessT (gT S (i - 1)) (gT S i)) ∧ ∀ k, k < i → (gT S k).2.2 ≠ (gT S i).2.2
structure ChkP (A F : List Int) (S : List T3) : Prop where
  n1 : 1 ≤ A.length
  n8 : A.length ≤ 8
  fl : F.length = A.length
  s20 : S.length ≤ 20
  ii : ∀ i, i < A.length → okI A F i
  ss : ∀ i, i < S.length → okS A.length F S i
theorem chk_dup (cx : Cx) {X : SHeap} {p : Nat} {vs : Value} {S : List T3} (hs : ES X vs S) (hlen : S.length ≤ 20) (l2 : loadS X none (.pointer (some ⟨p, 2, none⟩)) = some vs) {i : Nat} (hi : i < S.length) {z : Int} (ρ0 : Reg) :
    ∀ k ρ ms h' d', (∃ j : Nat, j + k = i ∧ (∀ m, m < j → (gT S m).2.2 ≠ z) ∧ ρ 1 = .pointer (some ⟨p, 0, none⟩) ∧ ρ 5 = .int .i64 i ∧ ρ 8 = .int .i64 z ∧ ρ 9 = .int .i64 j ∧ ρ 3 = ρ0 3 ∧ ms = [] ∧ h' = X ∧ d' = []) →
    LoopW M cx 8 sf40L0 ρ ms h' d' (fun ex ρ' ms' h' d' => ms' = [] ∧ h' = X ∧ d' = [] ∧ ((ex = .exit 4 ∧ (∀ m, m < i → (gT S m).2.2 ≠ z) ∧ ρ' 1 = .pointer (some ⟨p, 0, none⟩) ∧ ρ' 5 = .int .i64 i ∧ ρ' 3 = ρ0 3) ∨ (ex = .ret ∧ (¬ ∀ m, m < i → (gT S m).2.2 ≠ z) ∧ ρ' 2 = .bool false))) := by
  refine loop_run _ ?_
  rintro k ρ ms h' d' ⟨j, hk, hno, r1, r5, r8, r9, r3, rfl, rfl, rfl⟩
  unfold sf40L0
  by_cases c : k = 0
  · have e1 : ¬ ((j : Int) < i) := by omega
    obtain rfl : j = i := by omega
    repeat (first | apply Z1 | apply Z2 | apply Z3 | apply Z4 | apply Z5 rfl | apply Z6 | apply Z7 | apply Z8 | apply Z9 | apply ZA | apply ZB | apply ZC | ((first | apply ZD (by decide) | apply ZN (by decide)); (simp (maxSteps := 9999999) only [go_sem, r5, r9, e1]; rfl)) | (refine ZE ?_ ?_; · simp only [go_sem]) | (refine ZF ?_ ?_; · simp only [go_sem]))
    exact end_nil ⟨rfl, rfl, rfl, .inl ⟨rfl, hno, by simp only [go_sem, r1], by simp only [go_sem, r5], by simp only [go_sem, r3]⟩⟩
  · have e1 : ((j : Int) < i) := by omega
    have e2 : (0 : Int) ≤ j := by omega
    have hj : j < S.length := by omega
    have e3 : ((j : Int) < S.length) := by omega
    have ew : IntKind.i64.wrap ((j : Int) + 1) = ((j + 1 : Nat) : Int) := by rw [wrap64 (by omega) (by omega)]; rfl
    obtain ⟨b, o, cp, rfl, ld⟩ := hs.ld (by omega)
    have l4 := (ld j hj).2.2.2
    rw [gT_at hj] at l4
    by_cases cc : (gT S j).2.2 = z
    · repeat (first | apply Z1 | apply Z2 | apply Z3 | apply Z4 | apply Z5 rfl | apply Z6 | apply Z7 | apply Z8 | apply Z9 | apply ZA | apply ZB | apply ZC | ((first | apply ZD (by decide) | apply ZN (by decide)); (simp (maxSteps := 9999999) only [go_sem, r1, r5, r8, r9, r3, e1, e2, e3, l2, l4, cc, Int.toNat_natCast]; rfl)) | (refine ZE ?_ ?_; · simp only [go_sem]) | (refine ZF ?_ ?_; · simp only [go_sem]))
      exact end_nil ⟨rfl, rfl, rfl, .inr ⟨rfl, fun h => h j (by omega) cc, by simp only [go_sem]⟩⟩
    · have nx : ∀ m, m < j + 1 → (gT S m).2.2 ≠ z := fun m hm => by
        by_cases cm : m = j
        · subst cm; exact cc
        · exact hno m (by omega)
      repeat (first | apply Z1 | apply Z2 | apply Z3 | apply Z4 | apply Z5 rfl | apply Z6 | apply Z7 | apply Z8 | apply Z9 | apply ZA | apply ZB | apply ZC | ((first | apply ZD (by decide) | apply ZN (by decide)); (simp (maxSteps := 9999999) only [go_sem, r1, r5, r8, r9, r3, e1, e2, e3, l2, l4, cc, ew, Int.toNat_natCast]; rfl)) | (refine ZE ?_ ?_; · simp only [go_sem]) | (refine ZF ?_ ?_; · simp only [go_sem]))
      exact end_nil ⟨k - 1, by omega, j + 1, by omega, nx, by simp only [go_sem, r1], by simp only [go_sem, r5], by simp only [go_sem, r8], by simp only [go_sem, ew], by simp only [go_sem, r3], rfl, rfl, rfl⟩
theorem chk_sills (cx : Cx) {X : SHeap} {p : Nat} {va vf vs : Value} {A F : List Int} {S : List T3} (hf : IS X vf F) (hs : ES X vs S) (hlen : S.length ≤ 20) (hn : A.length ≤ 8) (hfl : F.length = A.length) (l0 : ∀ o, loadS X none (.pointer (some ⟨p, o, none⟩)) = [va, vf, vs][o]?) :
    ∀ k ρ ms h' d', (∃ i : Nat, i + k = S.length ∧ (∀ m, m < i → okS A.length F S m) ∧ ρ 1 = .pointer (some ⟨p, 0, none⟩) ∧ ρ 3 = .int .i64 A.length ∧ ρ 5 = .int .i64 i ∧ ms = [] ∧ h' = X ∧ d' = []) →
    LoopW M cx 8 sf40L1 ρ ms h' d' (fun ex ρ' ms' h' d' => ms' = [] ∧ h' = X ∧ d' = [] ∧ ((ex = .exit 2 ∧ (∀ m, m < S.length → okS A.length F S m)) ∨ (ex = .ret ∧ (¬ ∀ m, m < S.length → okS A.length F S m) ∧ ρ' 2 = .bool false))) := by
  refine loop_run _ ?_
  rintro k ρ ms h' d' ⟨i, hk, hok, r1, r3, r5, rfl, rfl, rfl⟩
  unfold sf40L1
  have l02 := l0 2
  by_cases c : k = 0
  · have e1 : ¬ ((i : Int) < S.length) := by omega
    obtain ⟨sa, sb, rfl⟩ := hs.shape
    repeat (first | apply Z1 | apply Z2 | apply Z3 | apply Z4 | apply Z5 rfl | apply Z6 | apply Z7 | apply Z8 | apply Z9 | apply ZA | apply ZB | apply ZC | ((first | apply ZD (by decide) | apply ZN (by decide)); (simp (maxSteps := 9999999) only [go_sem, r1, r5, l0, e1]; rfl)) | (refine ZE ?_ ?_; · simp only [go_sem]) | (refine ZF ?_ ?_; · simp only [go_sem]))
    have : i = S.length := by omega
    subst this
    exact end_nil ⟨rfl, rfl, rfl, .inl ⟨rfl, hok⟩⟩
  · have e1 : ((i : Int) < S.length) := by omega
    have e2 : (0 : Int) ≤ i := by omega
    have hi : i < S.length := by omega
    have ew : IntKind.i64.wrap ((i : Int) + 1) = ((i + 1 : Nat) : Int) := by rw [wrap64 (by omega) (by omega)]; rfl
    have ld0 := hs.ld (by omega)
    obtain ⟨b, o, cp, hvs, ld⟩ := ld0
    have la := (ld i hi).2.1
    have lb := (ld i hi).2.2.1
    have lc := (ld i hi).2.2.2
    have lg := (ld i hi).1
    rw [gT_at hi] at la lb lc lg
    have bad : ¬ okS A.length F S i → ¬ ∀ m, m < S.length → okS A.length F S m := fun h k => h (k i hi)
    have hprev : 0 < i → IntKind.i64.wrap ((i : Int) - 1) = ((i - 1 : Nat) : Int) ∧ (0 : Int) ≤ ((i - 1 : Nat) : Int) ∧ ((i - 1 : Nat) : Int) < S.length ∧ loadS h' (some 3) (.pointer (some ⟨b, o + (i - 1) * 3, none⟩)) = some (.agg #[.int .i64 (gT S (i - 1)).1, .int .i64 (gT S (i - 1)).2.1, .int .i64 (gT S (i - 1)).2.2]) := fun h => by
      have := (ld (i - 1) (by omega)).1
      rw [gT_at] at this
      exact ⟨by rw [wrap64 (by omega) (by omega)]; omega, by omega, by omega, this⟩
    have ls := less76 (H := h') (gT S (i - 1)) (gT S i)
    have hdup := fun (ρ1 : Reg) => chk_dup cx (X := h') (p := p) hs hlen l02 hi (z := (gT S i).2.2) ρ1
    have hnx : okS A.length F S i → ∀ m, m < i + 1 → okS A.length F S m := fun h m hm => by
      by_cases cm : m = i
      · subst cm; exact h
      · exact hok m (by omega)
    unfold okS at bad hnx
    subst hvs
    obtain ⟨fa, fb, hvf⟩ := hf.shape
    generalize gT S i = t at *
    generalize gT S (i - 1) = u at *
    obtain ⟨x, y, z⟩ := t
    obtain ⟨x', y', z'⟩ := u
    dsimp only at *
    by_cases c1 : x < 0
    · subst hvf
      repeat (first | apply Z1 | apply Z2 | apply Z3 | apply Z4 | apply Z5 rfl | apply Z6 | apply Z7 | apply Z8 | apply Z9 | apply ZA | apply ZB | apply ZC | ((first | apply ZD (by decide) | apply ZN (by decide)); (simp (maxSteps := 9999999) only [go_sem, r1, r3, r5, l0, e1, e2, la, lb, lc, c1, Int.toNat_natCast]; rfl)) | (refine ZE ?_ ?_; · simp only [go_sem]) | (refine ZF ?_ ?_; · simp only [go_sem]))
      exact end_nil ⟨rfl, rfl, rfl, .inr ⟨rfl, bad (by omega), by simp only [go_sem]⟩⟩
    by_cases c2 : x ≥ y
    · subst hvf
      repeat (first | apply Z1 | apply Z2 | apply Z3 | apply Z4 | apply Z5 rfl | apply Z6 | apply Z7 | apply Z8 | apply Z9 | apply ZA | apply ZB | apply ZC | ((first | apply ZD (by decide) | apply ZN (by decide)); (simp (maxSteps := 9999999) only [go_sem, r1, r3, r5, l0, e1, e2, la, lb, lc, c1, c2, Int.toNat_natCast]; rfl)) | (refine ZE ?_ ?_; · simp only [go_sem]) | (refine ZF ?_ ?_; · simp only [go_sem]))
      exact end_nil ⟨rfl, rfl, rfl, .inr ⟨rfl, bad (by omega), by simp only [go_sem]⟩⟩
    by_cases c3 : y > A.length
    · subst hvf
      repeat (first | apply Z1 | apply Z2 | apply Z3 | apply Z4 | apply Z5 rfl | apply Z6 | apply Z7 | apply Z8 | apply Z9 | apply ZA | apply ZB | apply ZC | ((first | apply ZD (by decide) | apply ZN (by decide)); (simp (maxSteps := 9999999) only [go_sem, r1, r3, r5, l0, e1, e2, la, lb, lc, c1, c2, c3, Int.toNat_natCast]; rfl)) | (refine ZE ?_ ?_; · simp only [go_sem]) | (refine ZF ?_ ?_; · simp only [go_sem]))
      exact end_nil ⟨rfl, rfl, rfl, .inr ⟨rfl, bad (by omega), by simp only [go_sem]⟩⟩
    by_cases c4 : z < 1
    · subst hvf
      repeat (first | apply Z1 | apply Z2 | apply Z3 | apply Z4 | apply Z5 rfl | apply Z6 | apply Z7 | apply Z8 | apply Z9 | apply ZA | apply ZB | apply ZC | ((first | apply ZD (by decide) | apply ZN (by decide)); (simp (maxSteps := 9999999) only [go_sem, r1, r3, r5, l0, e1, e2, la, lb, lc, c1, c2, c3, c4, Int.toNat_natCast]; rfl)) | (refine ZE ?_ ?_; · simp only [go_sem]) | (refine ZF ?_ ?_; · simp only [go_sem]))
      exact end_nil ⟨rfl, rfl, rfl, .inr ⟨rfl, bad (by omega), by simp only [go_sem]⟩⟩
    by_cases c5 : z > 1000
    · subst hvf
      repeat (first | apply Z1 | apply Z2 | apply Z3 | apply Z4 | apply Z5 rfl | apply Z6 | apply Z7 | apply Z8 | apply Z9 | apply ZA | apply ZB | apply ZC | ((first | apply ZD (by decide) | apply ZN (by decide)); (simp (maxSteps := 9999999) only [go_sem, r1, r3, r5, l0, e1, e2, la, lb, lc, c1, c2, c3, c4, c5, Int.toNat_natCast]; rfl)) | (refine ZE ?_ ?_; · simp only [go_sem]) | (refine ZF ?_ ?_; · simp only [go_sem]))
      exact end_nil ⟨rfl, rfl, rfl, .inr ⟨rfl, bad (by omega), by simp only [go_sem]⟩⟩
    obtain ⟨xn, rfl⟩ := Int.eq_ofNat_of_zero_le (show 0 ≤ x by omega)
    obtain ⟨yn, rfl⟩ := Int.eq_ofNat_of_zero_le (show 0 ≤ y by omega)
    obtain ⟨fb', fo, fc, hvf', ldf⟩ := hf.ld (by omega)
    rw [hvf'] at hvf
    have e4 : ((xn : Int) < F.length) := by omega
    have e5 : (0 : Int) ≤ xn := by omega
    have e6 : (0 : Int) ≤ yn := by omega
    have hxl : xn < F.length := by omega
    have lx := ldf xn hxl
    rw [gI_at hxl] at lx
    rw [Int.toNat_natCast, Int.toNat_natCast] at bad hnx
    subst hvf'
    by_cases c6 : z < gI F xn
    · repeat (first | apply Z1 | apply Z2 | apply Z3 | apply Z4 | apply Z5 rfl | apply Z6 | apply Z7 | apply Z8 | apply Z9 | apply ZA | apply ZB | apply ZC | ((first | apply ZD (by decide) | apply ZN (by decide)); (simp (maxSteps := 9999999) only [go_sem, r1, r3, r5, l0, e1, e2, la, lb, lc, c1, c2, c3, c4, c5, lx, e4, e5, c6, Int.toNat_natCast]; rfl)) | (refine ZE ?_ ?_; · simp only [go_sem]) | (refine ZF ?_ ?_; · simp only [go_sem]))
      exact end_nil ⟨rfl, rfl, rfl, .inr ⟨rfl, bad (by omega), by simp only [go_sem]⟩⟩
    by_cases c7 : (yn : Int) < A.length
    · have e7 : ((yn : Int) < F.length) := by omega
      have hyl : yn < F.length := by omega
      have ly := ldf yn hyl
      rw [gI_at hyl] at ly
      by_cases c8 : z < gI F yn
      · repeat (first | apply Z1 | apply Z2 | apply Z3 | apply Z4 | apply Z5 rfl | apply Z6 | apply Z7 | apply Z8 | apply Z9 | apply ZA | apply ZB | apply ZC | ((first | apply ZD (by decide) | apply ZN (by decide)); (simp (maxSteps := 9999999) only [go_sem, r1, r3, r5, l0, e1, e2, la, lb, lc, c1, c2, c3, c4, c5, lx, e4, e5, c6, c7, e6, e7, ly, c8, Int.toNat_natCast]; rfl)) | (refine ZE ?_ ?_; · simp only [go_sem]) | (refine ZF ?_ ?_; · simp only [go_sem]))
        exact end_nil ⟨rfl, rfl, rfl, .inr ⟨rfl, bad (fun h => by have := h.2.2.2.2.2.2.1 c7; omega), by simp only [go_sem]⟩⟩
      by_cases c9 : i = 0
      · skip
        have e9 : ¬ ((i : Int) > 0) := by omega
        repeat (first | apply Z1 | apply Z2 | apply Z3 | apply Z4 | apply Z5 rfl | apply Z6 | apply Z7 | apply Z8 | apply Z9 | apply ZA | apply ZB | apply ZC | ((first | apply ZD (by decide) | apply ZN (by decide)); (simp (maxSteps := 9999999) only [go_sem, r1, r3, r5, l0, e1, e2, la, lb, lc, c1, c2, c3, c4, c5, lx, e4, e5, c6, c7, e6, e7, ly, c8, e9, Int.toNat_natCast]; rfl)) | (refine ZE ?_ ?_; · simp only [go_sem]) | (refine ZF ?_ ?_; · simp only [go_sem]))
        refine run_loop (hdup (fun _ => .int .i64 A.length) i _ _ _ _ ⟨0, by omega, fun m hm => by omega, by simp only [go_sem, r1], by simp only [go_sem, r5], by simp only [go_sem], by simp only [go_sem], by simp only [go_sem, r3], rfl, rfl, rfl⟩) ?_
        rintro ex ρ2 ms2 h2 d2 ⟨rfl, rfl, rfl, h⟩
        rcases h with ⟨rfl, hno, t1, t5, t3⟩ | ⟨rfl, hno, t2⟩
        · repeat (first | apply Z1 | apply Z2 | apply Z3 | apply Z4 | apply Z5 rfl | apply Z6 | apply Z7 | apply Z8 | apply Z9 | apply ZA | apply ZB | apply ZC | ((first | apply ZD (by decide) | apply ZN (by decide)); (simp (maxSteps := 9999999) only [go_sem, t1, t5, t3, ew]; rfl)) | (refine ZE ?_ ?_; · simp only [go_sem]) | (refine ZF ?_ ?_; · simp only [go_sem]))
          exact end_nil ⟨k - 1, by omega, i + 1, by omega, hnx ⟨by omega, by omega, by omega, by omega, by omega, by omega, fun _ => by omega, fun h => by omega, hno⟩, by simp only [go_sem, t1], by simp only [go_sem, t3], by simp only [go_sem, ew], rfl, rfl, rfl⟩
        · repeat (first | apply Z1 | apply Z2 | apply Z3 | apply Z4 | apply Z5 rfl | apply Z6 | apply Z7 | apply Z8 | apply Z9 | apply ZA | apply ZB | apply ZC | ((first | apply ZD (by decide) | apply ZN (by decide)); (simp (maxSteps := 9999999) only [go_sem, t2]; rfl)) | (refine ZE ?_ ?_; · simp only [go_sem]) | (refine ZF ?_ ?_; · simp only [go_sem]))
          exact end_nil ⟨rfl, rfl, rfl, .inr ⟨rfl, bad (fun h => hno h.2.2.2.2.2.2.2.2), by simp only [go_sem, t2]⟩⟩
      · have e9 : ((i : Int) > 0) := by omega
        obtain ⟨p1, p2, p3, p4⟩ := hprev (by omega)
        by_cases c10 : lessT (x', y', z') ((xn : Int), (yn : Int), z)
        · rw [decide_eq_true c10] at ls
          repeat (first | apply Z1 | apply Z2 | apply Z3 | apply Z4 | apply Z5 rfl | apply Z6 | apply Z7 | apply Z8 | apply Z9 | apply ZA | apply ZB | apply ZC | ((first | apply ZD (by decide) | apply ZN (by decide)); (simp (maxSteps := 9999999) only [go_sem, r1, r3, r5, l0, e1, e2, la, lb, lc, c1, c2, c3, c4, c5, lx, e4, e5, c6, c7, e6, e7, ly, c8, e9, p1, p2, p3, p4, lg, ls, Int.toNat_natCast]; rfl)) | (refine ZE ?_ ?_; · simp only [go_sem]) | (refine ZF ?_ ?_; · simp only [go_sem]))
          refine run_loop (hdup (fun _ => .int .i64 A.length) i _ _ _ _ ⟨0, by omega, fun m hm => by omega, by simp only [go_sem, r1], by simp only [go_sem, r5], by simp only [go_sem], by simp only [go_sem], by simp only [go_sem, r3], rfl, rfl, rfl⟩) ?_
          rintro ex ρ2 ms2 h2 d2 ⟨rfl, rfl, rfl, h⟩
          rcases h with ⟨rfl, hno, t1, t5, t3⟩ | ⟨rfl, hno, t2⟩
          · repeat (first | apply Z1 | apply Z2 | apply Z3 | apply Z4 | apply Z5 rfl | apply Z6 | apply Z7 | apply Z8 | apply Z9 | apply ZA | apply ZB | apply ZC | ((first | apply ZD (by decide) | apply ZN (by decide)); (simp (maxSteps := 9999999) only [go_sem, t1, t5, t3, ew]; rfl)) | (refine ZE ?_ ?_; · simp only [go_sem]) | (refine ZF ?_ ?_; · simp only [go_sem]))
            exact end_nil ⟨k - 1, by omega, i + 1, by omega, hnx ⟨by omega, by omega, by omega, by omega, by omega, by omega, fun _ => by omega, fun _ => c10, hno⟩, by simp only [go_sem, t1], by simp only [go_sem, t3], by simp only [go_sem, ew], rfl, rfl, rfl⟩
          · repeat (first | apply Z1 | apply Z2 | apply Z3 | apply Z4 | apply Z5 rfl | apply Z6 | apply Z7 | apply Z8 | apply Z9 | apply ZA | apply ZB | apply ZC | ((first | apply ZD (by decide) | apply ZN (by decide)); (simp (maxSteps := 9999999) only [go_sem, t2]; rfl)) | (refine ZE ?_ ?_; · simp only [go_sem]) | (refine ZF ?_ ?_; · simp only [go_sem]))
            exact end_nil ⟨rfl, rfl, rfl, .inr ⟨rfl, bad (fun h => hno h.2.2.2.2.2.2.2.2), by simp only [go_sem, t2]⟩⟩
        · rw [decide_eq_false c10] at ls
          repeat (first | apply Z1 | apply Z2 | apply Z3 | apply Z4 | apply Z5 rfl | apply Z6 | apply Z7 | apply Z8 | apply Z9 | apply ZA | apply ZB | apply ZC | ((first | apply ZD (by decide) | apply ZN (by decide)); (simp (maxSteps := 9999999) only [go_sem, r1, r3, r5, l0, e1, e2, la, lb, lc, c1, c2, c3, c4, c5, lx, e4, e5, c6, c7, e6, e7, ly, c8, e9, p1, p2, p3, p4, lg, ls, Int.toNat_natCast]; rfl)) | (refine ZE ?_ ?_; · simp only [go_sem]) | (refine ZF ?_ ?_; · simp only [go_sem]))
          exact end_nil ⟨rfl, rfl, rfl, .inr ⟨rfl, bad (fun h => c10 (h.2.2.2.2.2.2.2.1 (by omega))), by simp only [go_sem]⟩⟩
    · skip
      by_cases c9 : i = 0
      · skip
        have e9 : ¬ ((i : Int) > 0) := by omega
        repeat (first | apply Z1 | apply Z2 | apply Z3 | apply Z4 | apply Z5 rfl | apply Z6 | apply Z7 | apply Z8 | apply Z9 | apply ZA | apply ZB | apply ZC | ((first | apply ZD (by decide) | apply ZN (by decide)); (simp (maxSteps := 9999999) only [go_sem, r1, r3, r5, l0, e1, e2, la, lb, lc, c1, c2, c3, c4, c5, lx, e4, e5, c6, c7, e9, Int.toNat_natCast]; rfl)) | (refine ZE ?_ ?_; · simp only [go_sem]) | (refine ZF ?_ ?_; · simp only [go_sem]))
        refine run_loop (hdup (fun _ => .int .i64 A.length) i _ _ _ _ ⟨0, by omega, fun m hm => by omega, by simp only [go_sem, r1], by simp only [go_sem, r5], by simp only [go_sem], by simp only [go_sem], by simp only [go_sem, r3], rfl, rfl, rfl⟩) ?_
        rintro ex ρ2 ms2 h2 d2 ⟨rfl, rfl, rfl, h⟩
        rcases h with ⟨rfl, hno, t1, t5, t3⟩ | ⟨rfl, hno, t2⟩
        · repeat (first | apply Z1 | apply Z2 | apply Z3 | apply Z4 | apply Z5 rfl | apply Z6 | apply Z7 | apply Z8 | apply Z9 | apply ZA | apply ZB | apply ZC | ((first | apply ZD (by decide) | apply ZN (by decide)); (simp (maxSteps := 9999999) only [go_sem, t1, t5, t3, ew]; rfl)) | (refine ZE ?_ ?_; · simp only [go_sem]) | (refine ZF ?_ ?_; · simp only [go_sem]))
          exact end_nil ⟨k - 1, by omega, i + 1, by omega, hnx ⟨by omega, by omega, by omega, by omega, by omega, by omega, fun h => by omega, fun h => by omega, hno⟩, by simp only [go_sem, t1], by simp only [go_sem, t3], by simp only [go_sem, ew], rfl, rfl, rfl⟩
        · repeat (first | apply Z1 | apply Z2 | apply Z3 | apply Z4 | apply Z5 rfl | apply Z6 | apply Z7 | apply Z8 | apply Z9 | apply ZA | apply ZB | apply ZC | ((first | apply ZD (by decide) | apply ZN (by decide)); (simp (maxSteps := 9999999) only [go_sem, t2]; rfl)) | (refine ZE ?_ ?_; · simp only [go_sem]) | (refine ZF ?_ ?_; · simp only [go_sem]))
          exact end_nil ⟨rfl, rfl, rfl, .inr ⟨rfl, bad (fun h => hno h.2.2.2.2.2.2.2.2), by simp only [go_sem, t2]⟩⟩
      · have e9 : ((i : Int) > 0) := by omega
        obtain ⟨p1, p2, p3, p4⟩ := hprev (by omega)
        by_cases c10 : lessT (x', y', z') ((xn : Int), (yn : Int), z)
        · rw [decide_eq_true c10] at ls
          repeat (first | apply Z1 | apply Z2 | apply Z3 | apply Z4 | apply Z5 rfl | apply Z6 | apply Z7 | apply Z8 | apply Z9 | apply ZA | apply ZB | apply ZC | ((first | apply ZD (by decide) | apply ZN (by decide)); (simp (maxSteps := 9999999) only [go_sem, r1, r3, r5, l0, e1, e2, la, lb, lc, c1, c2, c3, c4, c5, lx, e4, e5, c6, c7, e9, p1, p2, p3, p4, lg, ls, Int.toNat_natCast]; rfl)) | (refine ZE ?_ ?_; · simp only [go_sem]) | (refine ZF ?_ ?_; · simp only [go_sem]))
          refine run_loop (hdup (fun _ => .int .i64 A.length) i _ _ _ _ ⟨0, by omega, fun m hm => by omega, by simp only [go_sem, r1], by simp only [go_sem, r5], by simp only [go_sem], by simp only [go_sem], by simp only [go_sem, r3], rfl, rfl, rfl⟩) ?_
          rintro ex ρ2 ms2 h2 d2 ⟨rfl, rfl, rfl, h⟩
          rcases h with ⟨rfl, hno, t1, t5, t3⟩ | ⟨rfl, hno, t2⟩
          · repeat (first | apply Z1 | apply Z2 | apply Z3 | apply Z4 | apply Z5 rfl | apply Z6 | apply Z7 | apply Z8 | apply Z9 | apply ZA | apply ZB | apply ZC | ((first | apply ZD (by decide) | apply ZN (by decide)); (simp (maxSteps := 9999999) only [go_sem, t1, t5, t3, ew]; rfl)) | (refine ZE ?_ ?_; · simp only [go_sem]) | (refine ZF ?_ ?_; · simp only [go_sem]))
            exact end_nil ⟨k - 1, by omega, i + 1, by omega, hnx ⟨by omega, by omega, by omega, by omega, by omega, by omega, fun h => by omega, fun _ => c10, hno⟩, by simp only [go_sem, t1], by simp only [go_sem, t3], by simp only [go_sem, ew], rfl, rfl, rfl⟩
          · repeat (first | apply Z1 | apply Z2 | apply Z3 | apply Z4 | apply Z5 rfl | apply Z6 | apply Z7 | apply Z8 | apply Z9 | apply ZA | apply ZB | apply ZC | ((first | apply ZD (by decide) | apply ZN (by decide)); (simp (maxSteps := 9999999) only [go_sem, t2]; rfl)) | (refine ZE ?_ ?_; · simp only [go_sem]) | (refine ZF ?_ ?_; · simp only [go_sem]))
            exact end_nil ⟨rfl, rfl, rfl, .inr ⟨rfl, bad (fun h => hno h.2.2.2.2.2.2.2.2), by simp only [go_sem, t2]⟩⟩
        · rw [decide_eq_false c10] at ls
          repeat (first | apply Z1 | apply Z2 | apply Z3 | apply Z4 | apply Z5 rfl | apply Z6 | apply Z7 | apply Z8 | apply Z9 | apply ZA | apply ZB | apply ZC | ((first | apply ZD (by decide) | apply ZN (by decide)); (simp (maxSteps := 9999999) only [go_sem, r1, r3, r5, l0, e1, e2, la, lb, lc, c1, c2, c3, c4, c5, lx, e4, e5, c6, c7, e9, p1, p2, p3, p4, lg, ls, Int.toNat_natCast]; rfl)) | (refine ZE ?_ ?_; · simp only [go_sem]) | (refine ZF ?_ ?_; · simp only [go_sem]))
          exact end_nil ⟨rfl, rfl, rfl, .inr ⟨rfl, bad (fun h => c10 (h.2.2.2.2.2.2.2.1 (by omega))), by simp only [go_sem]⟩⟩
theorem chk_basins (cx : Cx) {X : SHeap} {p : Nat} {va vf vs : Value} {A F : List Int} (ha : IS X va A) (hf : IS X vf F) (hn : A.length ≤ 8) (hfl : F.length = A.length) (l0 : ∀ o, loadS X none (.pointer (some ⟨p, o, none⟩)) = [va, vf, vs][o]?) :
    ∀ k ρ ms h' d', (∃ i : Nat, i + k = A.length ∧ (∀ m, m < i → okI A F m) ∧ ρ 1 = .pointer (some ⟨p, 0, none⟩) ∧ ρ 3 = .int .i64 A.length ∧ ρ 4 = .int .i64 i ∧ ms = [] ∧ h' = X ∧ d' = []) →
    LoopW M cx 8 sf40L2 ρ ms h' d' (fun ex ρ' ms' h' d' => ms' = [] ∧ h' = X ∧ d' = [] ∧ ((ex = .exit 0 ∧ (∀ m, m < A.length → okI A F m) ∧ ρ' 1 = .pointer (some ⟨p, 0, none⟩) ∧ ρ' 3 = .int .i64 A.length) ∨ (ex = .ret ∧ (¬ ∀ m, m < A.length → okI A F m) ∧ ρ' 2 = .bool false))) := by
  refine loop_run _ ?_
  rintro k ρ ms h' d' ⟨i, hk, hok, r1, r3, r4, rfl, rfl, rfl⟩
  unfold sf40L2
  by_cases c : k = 0
  · have e1 : ¬ ((i : Int) < A.length) := by omega
    have : i = A.length := by omega
    subst this
    repeat (first | apply Z1 | apply Z2 | apply Z3 | apply Z4 | apply Z5 rfl | apply Z6 | apply Z7 | apply Z8 | apply Z9 | apply ZA | apply ZB | apply ZC | ((first | apply ZD (by decide) | apply ZN (by decide)); (simp (maxSteps := 9999999) only [go_sem, r1, r3, r4, e1]; rfl)) | (refine ZE ?_ ?_; · simp only [go_sem]) | (refine ZF ?_ ?_; · simp only [go_sem]))
    exact end_nil ⟨rfl, rfl, rfl, .inl ⟨rfl, hok, by simp only [go_sem, r1], by simp only [go_sem, r3]⟩⟩
  · have e1 : ((i : Int) < A.length) := by omega
    have e1' : ((i : Int) < F.length) := by omega
    have e2 : (0 : Int) ≤ i := by omega
    have hi : i < A.length := by omega
    have hi' : i < F.length := by omega
    have ew : IntKind.i64.wrap ((i : Int) + 1) = ((i + 1 : Nat) : Int) := by rw [wrap64 (by omega) (by omega)]; rfl
    obtain ⟨b1, o1, c1, rfl, ld1⟩ := ha.ld (by omega)
    obtain ⟨b2, o2, c2, rfl, ld2⟩ := hf.ld (by omega)
    have l1 := ld1 i hi
    have l2 := ld2 i hi'
    rw [gI_at hi] at l1
    rw [gI_at hi'] at l2
    have bad : ¬ okI A F i → ¬ ∀ m, m < A.length → okI A F m := fun h k => h (k i hi)
    have hnx : okI A F i → ∀ m, m < i + 1 → okI A F m := fun h m hm => by
      by_cases cm : m = i
      · subst cm; exact h
      · exact hok m (by omega)
    unfold okI at bad hnx
    by_cases d1 : gI A i < 1
    · repeat (first | apply Z1 | apply Z2 | apply Z3 | apply Z4 | apply Z5 rfl | apply Z6 | apply Z7 | apply Z8 | apply Z9 | apply ZA | apply ZB | apply ZC | ((first | apply ZD (by decide) | apply ZN (by decide)); (simp (maxSteps := 9999999) only [go_sem, r1, r3, r4, l0, e1, e1', e2, l1, l2, d1, Int.toNat_natCast]; rfl)) | (refine ZE ?_ ?_; · simp only [go_sem]) | (refine ZF ?_ ?_; · simp only [go_sem]))
      exact end_nil ⟨rfl, rfl, rfl, .inr ⟨rfl, bad (by omega), by simp only [go_sem]⟩⟩
    by_cases d2 : gI A i > 100
    · repeat (first | apply Z1 | apply Z2 | apply Z3 | apply Z4 | apply Z5 rfl | apply Z6 | apply Z7 | apply Z8 | apply Z9 | apply ZA | apply ZB | apply ZC | ((first | apply ZD (by decide) | apply ZN (by decide)); (simp (maxSteps := 9999999) only [go_sem, r1, r3, r4, l0, e1, e1', e2, l1, l2, d1, d2, Int.toNat_natCast]; rfl)) | (refine ZE ?_ ?_; · simp only [go_sem]) | (refine ZF ?_ ?_; · simp only [go_sem]))
      exact end_nil ⟨rfl, rfl, rfl, .inr ⟨rfl, bad (by omega), by simp only [go_sem]⟩⟩
    by_cases d3 : gI F i < 0
    · repeat (first | apply Z1 | apply Z2 | apply Z3 | apply Z4 | apply Z5 rfl | apply Z6 | apply Z7 | apply Z8 | apply Z9 | apply ZA | apply ZB | apply ZC | ((first | apply ZD (by decide) | apply ZN (by decide)); (simp (maxSteps := 9999999) only [go_sem, r1, r3, r4, l0, e1, e1', e2, l1, l2, d1, d2, d3, Int.toNat_natCast]; rfl)) | (refine ZE ?_ ?_; · simp only [go_sem]) | (refine ZF ?_ ?_; · simp only [go_sem]))
      exact end_nil ⟨rfl, rfl, rfl, .inr ⟨rfl, bad (by omega), by simp only [go_sem]⟩⟩
    by_cases d4 : gI F i > 100
    · repeat (first | apply Z1 | apply Z2 | apply Z3 | apply Z4 | apply Z5 rfl | apply Z6 | apply Z7 | apply Z8 | apply Z9 | apply ZA | apply ZB | apply ZC | ((first | apply ZD (by decide) | apply ZN (by decide)); (simp (maxSteps := 9999999) only [go_sem, r1, r3, r4, l0, e1, e1', e2, l1, l2, d1, d2, d3, d4, Int.toNat_natCast]; rfl)) | (refine ZE ?_ ?_; · simp only [go_sem]) | (refine ZF ?_ ?_; · simp only [go_sem]))
      exact end_nil ⟨rfl, rfl, rfl, .inr ⟨rfl, bad (by omega), by simp only [go_sem]⟩⟩
    repeat (first | apply Z1 | apply Z2 | apply Z3 | apply Z4 | apply Z5 rfl | apply Z6 | apply Z7 | apply Z8 | apply Z9 | apply ZA | apply ZB | apply ZC | ((first | apply ZD (by decide) | apply ZN (by decide)); (simp (maxSteps := 9999999) only [go_sem, r1, r3, r4, l0, e1, e1', e2, l1, l2, d1, d2, d3, d4, ew, Int.toNat_natCast]; rfl)) | (refine ZE ?_ ?_; · simp only [go_sem]) | (refine ZF ?_ ?_; · simp only [go_sem]))
    exact end_nil ⟨k - 1, by omega, i + 1, by omega, hnx (by omega), by simp only [go_sem, r1], by simp only [go_sem, r3], by simp only [go_sem, ew], rfl, rfl, rfl⟩
theorem chk40 {H : SHeap} {v : Value} {A F : List Int} {S : List T3} (hv : BV H v A F S) : ∃ r : Bool, (r = true ↔ ChkP A F S) ∧ M.call 40 [v] H = some (.bool r, H, []) := by
  obtain ⟨va, vf, vs, rfl, h1, h2, h3⟩ := hv
  have key : ∃ r, (∃ q : Bool, r = (Value.bool q, H, ([] : List Nat)) ∧ (q = true ↔ ChkP A F S)) ∧ M.call 40 [.agg #[va, vf, vs]] H = some r := by
    refine call_ex (f := 40) _ sf40 rfl rfl rfl ?_
    generalize hX : H ++ [SO.cells [va, vf, vs] 27 false 0 []] = X
    have eX : Ext H X := by rw [← hX]; exact Ext.app H _
    have k1 := h1.fr eX.fr
    have k2 := h2.fr eX.fr
    have k3 := h3.fr eX.fr
    have l0 : ∀ (o : Nat), loadS X none (.pointer (some ⟨H.length, o, none⟩)) = [va, vf, vs][o]? := fun o => by rw [← hX, load_app0]; rfl
    obtain ⟨a1, a2, rfl⟩ := h1.shape
    obtain ⟨f1, f2, rfl⟩ := h2.shape
    obtain ⟨s1, s2, rfl⟩ := h3.shape
    have tX := eX.take
    unfold sf40
    have fin0 : ∀ (ρ : Reg), ρ 2 = .bool false → ¬ ChkP A F S → ∃ r, (∃ q : Bool, r = (Value.bool q, H, ([] : List Nat)) ∧ (q = true ↔ ChkP A F S)) ∧ callQ sf40.res H.length r .ret ρ [] X [] := fun ρ h hn =>
      ⟨_, ⟨false, rfl, ⟨fun h => (by cases h), fun h => (hn h).elim⟩⟩, q_ret1 _ h rfl tX⟩
    by_cases c1 : (A.length : Int) < 1
    · repeat (first | apply Z1 | apply Z2 | apply Z3 | apply Z4 | apply Z5 rfl | apply Z6 | apply Z7 | apply Z8 | apply Z9 | apply ZA | apply ZB | apply ZC | ((first | apply ZD (by decide) | apply ZN (by decide)); (simp (maxSteps := 9999999) only [go_sem, argR, hX, l0, c1]; rfl)) | (refine ZE ?_ ?_; · simp only [go_sem]) | (refine ZF ?_ ?_; · simp only [go_sem]))
      exact end_nil (fin0 _ (by simp only [go_sem]) (fun h => by have := h.n1; omega))
    by_cases c2 : (A.length : Int) > 8
    · repeat (first | apply Z1 | apply Z2 | apply Z3 | apply Z4 | apply Z5 rfl | apply Z6 | apply Z7 | apply Z8 | apply Z9 | apply ZA | apply ZB | apply ZC | ((first | apply ZD (by decide) | apply ZN (by decide)); (simp (maxSteps := 9999999) only [go_sem, argR, hX, l0, c1, c2]; rfl)) | (refine ZE ?_ ?_; · simp only [go_sem]) | (refine ZF ?_ ?_; · simp only [go_sem]))
      exact end_nil (fin0 _ (by simp only [go_sem]) (fun h => by have := h.n8; omega))
    by_cases c3 : ¬ (F.length : Int) = A.length
    · repeat (first | apply Z1 | apply Z2 | apply Z3 | apply Z4 | apply Z5 rfl | apply Z6 | apply Z7 | apply Z8 | apply Z9 | apply ZA | apply ZB | apply ZC | ((first | apply ZD (by decide) | apply ZN (by decide)); (simp (maxSteps := 9999999) only [go_sem, argR, hX, l0, c1, c2, c3]; rfl)) | (refine ZE ?_ ?_; · simp only [go_sem]) | (refine ZF ?_ ?_; · simp only [go_sem]))
      exact end_nil (fin0 _ (by simp only [go_sem]) (fun h => by have := h.fl; omega))
    have c3 : (F.length : Int) = A.length := by omega
    by_cases c4 : (S.length : Int) > 20
    · repeat (first | apply Z1 | apply Z2 | apply Z3 | apply Z4 | apply Z5 rfl | apply Z6 | apply Z7 | apply Z8 | apply Z9 | apply ZA | apply ZB | apply ZC | ((first | apply ZD (by decide) | apply ZN (by decide)); (simp (maxSteps := 9999999) only [go_sem, argR, hX, l0, c1, c2, c3, c4]; rfl)) | (refine ZE ?_ ?_; · simp only [go_sem]) | (refine ZF ?_ ?_; · simp only [go_sem]))
      exact end_nil (fin0 _ (by simp only [go_sem]) (fun h => by have := h.s20; omega))
    repeat (first | apply Z1 | apply Z2 | apply Z3 | apply Z4 | apply Z5 rfl | apply Z6 | apply Z7 | apply Z8 | apply Z9 | apply ZA | apply ZB | apply ZC | ((first | apply ZD (by decide) | apply ZN (by decide)); (simp (maxSteps := 9999999) only [go_sem, argR, hX, l0, c1, c2, c3, c4]; rfl)) | (refine ZE ?_ ?_; · simp only [go_sem]) | (refine ZF ?_ ?_; · simp only [go_sem]))
    refine run_loop (chk_basins _ k1 k2 (by omega) (by omega) l0 A.length _ _ _ _ ⟨0, by omega, fun m hm => by omega, by simp only [go_sem], by simp only [go_sem], by simp only [go_sem], rfl, rfl, rfl⟩) ?_
    rintro ex ρ2 ms2 h2 d2 ⟨rfl, rfl, rfl, h⟩
    rcases h with ⟨rfl, hI, t1, t3⟩ | ⟨rfl, hI, t2⟩
    · repeat (first | apply Z1 | apply Z2 | apply Z3 | apply Z4 | apply Z5 rfl | apply Z6 | apply Z7 | apply Z8 | apply Z9 | apply ZA | apply ZB | apply ZC | ((first | apply ZD (by decide) | apply ZN (by decide)); (simp (maxSteps := 9999999) only [go_sem, t1, t3]; rfl)) | (refine ZE ?_ ?_; · simp only [go_sem]) | (refine ZF ?_ ?_; · simp only [go_sem]))
      refine run_loop (chk_sills (A := A) _ k2 k3 (by omega) (by omega) (by omega) l0 S.length _ _ _ _ ⟨0, by omega, fun m hm => by omega, by simp only [go_sem, t1], by simp only [go_sem, t3], by simp only [go_sem], rfl, rfl, rfl⟩) ?_
      rintro ex ρ3 ms3 h3 d3 ⟨rfl, rfl, rfl, h⟩
      rcases h with ⟨rfl, hS⟩ | ⟨rfl, hS, t2⟩
      · repeat (first | apply Z1 | apply Z2 | apply Z3 | apply Z4 | apply Z5 rfl | apply Z6 | apply Z7 | apply Z8 | apply Z9 | apply ZA | apply ZB | apply ZC | ((first | apply ZD (by decide) | apply ZN (by decide)); (simp (maxSteps := 9999999) only [go_sem]; rfl)) | (refine ZE ?_ ?_; · simp only [go_sem]) | (refine ZF ?_ ?_; · simp only [go_sem]))
        exact end_nil ⟨_, ⟨true, rfl, ⟨fun _ => ⟨by omega, by omega, by omega, by omega, hI, hS⟩, fun _ => rfl⟩⟩, q_ret1 _ (by simp only [go_sem]) rfl tX⟩
      · repeat (first | apply Z1 | apply Z2 | apply Z3 | apply Z4 | apply Z5 rfl | apply Z6 | apply Z7 | apply Z8 | apply Z9 | apply ZA | apply ZB | apply ZC | ((first | apply ZD (by decide) | apply ZN (by decide)); (simp (maxSteps := 9999999) only [go_sem, t2]; rfl)) | (refine ZE ?_ ?_; · simp only [go_sem]) | (refine ZF ?_ ?_; · simp only [go_sem]))
        exact end_nil (fin0 _ (by simp only [go_sem, t2]) (fun h => hS h.ss))
    · repeat (first | apply Z1 | apply Z2 | apply Z3 | apply Z4 | apply Z5 rfl | apply Z6 | apply Z7 | apply Z8 | apply Z9 | apply ZA | apply ZB | apply ZC | ((first | apply ZD (by decide) | apply ZN (by decide)); (simp (maxSteps := 9999999) only [go_sem, t2]; rfl)) | (refine ZE ?_ ?_; · simp only [go_sem]) | (refine ZF ?_ ?_; · simp only [go_sem]))
      exact end_nil (fin0 _ (by simp only [go_sem, t2]) (fun h => hI h.ii))
  obtain ⟨r, ⟨q, rfl, k⟩, e⟩ := key
  exact ⟨q, k, e⟩
end Go.Proofs.Ytioijehbmgmgkaa.Sh

namespace Go.Proofs.Ytioijehbmgmgkaa.Sh
open Go
set_option maxRecDepth 100000
set_option maxHeartbeats 4000000
theorem AccS.pushO {H0 h : SHeap} {v : Value} {cs new : List Value} {n m s bytes bs o cb : Nat} {el : TypeId} (A : AccS H0 h v cs n s el)
    (hseen : rdN h bs o (m * s) = some new) (hm : m ≠ 0) (hl : new.length = m * s) (hs0 : 0 < s) (hsc : new.all sc = true) (hb0 : 0 < bytes) (hb : (n + m) * bytes ≤ 140737488355328) :
    ∃ H2 v2, (∀ (base : Nat) (d : List Nat), appendS base h d el true s bytes v (.slice (some ⟨bs, o, none⟩) m cb) = some (v2, H2, d)) ∧ AccS H0 H2 v2 (cs ++ new) (n + m) s el := by
  have hm0 : (m == 0) = false := beq_eq_false_iff_ne.2 hm
  have hone := all_sc_one new hsc
  have e4 : Nat.ble ((n + m) * bytes) 140737488355328 = true := by rw [ble_dec]; simpa using hb
  have e5 : Nat.blt 0 bytes = true := by rw [blt_dec]; simpa using hb0
  have hlo := A.le
  have hfr : ∀ (b : Nat) (x : SHeap), H0.length ≤ b → ∀ j, j < H0.length → (share h b ++ x)[j]? = H0[j]? := fun b x hb j hj => by
    rw [List.getElem?_append_left (by rw [share_ln]; omega), share_gt h b j (by omega)]
    exact A.same j hj
  rcases A.acc with ⟨rfl, rfl, rfl⟩ | ⟨b, old, rfl, h1, h2, h3, h4, h5, h6⟩
  · refine ⟨h ++ [.cells ([] ++ new) el true 0 []], .slice (some ⟨h.length, 0, none⟩) (0 + m) (UNK + s), fun base d => ?_, ⟨.inr ⟨h.length, [], rfl, by simp, by simp [hl], by omega, hlo, by simpa using hsc, fun c hc => by simp at hc⟩, by simp; omega, fun j hj => by rw [List.getElem?_append_left (by omega)]; exact A.same j hj⟩⟩
    unfold appendS
    simp only [lenS, seenS, hseen, hm0, e4, e5, hone, hsc]
    simp [-List.all_eq_true, hone, hsc]
  · have hsx : rdN h b 0 (n * s) = some cs := by
      rw [rdN_def, h1]
      dsimp only
      rw [readable_0, ble_dec, decide_eq_true (by omega), if_pos (by rfl), List.drop_zero, ← h2, List.take_length]
    have hn : (n == 0) = false := beq_eq_false_iff_ne.2 h3
    have hbl : b < h.length := (List.getElem?_eq_some_iff.1 h1).1
    refine ⟨share h b ++ [.cells (cs ++ new) el true 0 (b :: old)], .slice (some ⟨h.length, 0, none⟩) (n + m) (UNK + s), fun base d => ?_, ⟨.inr ⟨h.length, b :: old, rfl, ?_, by simp [h2, hl, Nat.add_mul], by omega, hlo, by simp only [List.all_append, h5, hsc, Bool.and_self], ?_⟩, by simp [share_ln]; omega, hfr b _ h4⟩⟩
    · have e1 : Nat.ble UNK (UNK + s) = true := by rw [ble_dec]; simp
      have e2 : Nat.beq (UNK + s) (UNK + s) = true := Nat.beq_refl _
      have e3 : Nat.beq (0 + n * s) cs.length = true := by rw [h2, Nat.zero_add]; exact Nat.beq_refl _
      unfold appendS
      simp only [lenS, seenS, hseen, hsx, hn, hm0, h1, e1, e2, e3, e4, e5, hone, hsc, h5]
      simp [-List.all_eq_true, hone, hsc, h5]
    · rw [List.getElem?_append_right (by rw [share_ln]; omega), share_ln]
      simp
    · intro c hc
      rcases List.mem_cons.1 hc with rfl | hc
      · exact ⟨h4, hbl⟩
      · have := h6 c hc; exact ⟨this.1, by omega⟩
theorem append_none {h : SHeap} {el : TypeId} {pf : Bool} {s bytes a' n c k c' : Nat} {a b : Option Addr} (hk : k = 0) (base : Nat) (d : List Nat) : appendS base h d el pf s bytes (.slice a n c) (.slice b k c') = some (.slice a n c, h, d) := by
  subst hk
  unfold appendS
  simp [lenS]
theorem put_loop (cx : Cx) {X : SHeap} {p : Nat} {v : Value} {S : List T3} (hv : ES X v S) (hlen : S.length ≤ 1000) {x y z : Int} (l0 : ∀ o, loadS X none (.pointer (some ⟨p, o, none⟩)) = [Value.int .i64 x, .int .i64 y, .int .i64 z][o]?) :
    ∀ k ρ ms h' d', (∃ i : Nat, i + k = S.length ∧ ρ 0 = v ∧ ρ 3 = .pointer (some ⟨p, 0, none⟩) ∧ ρ 5 = .int .i64 i ∧ ms = [] ∧ h' = X ∧ d' = []) →
    LoopW M cx 7 sf53L0 ρ ms h' d' (fun ex ρ' ms' h' d' => ms' = [] ∧ X = h' ∧ d' = [] ∧ ex = .exit 0 ∧ ∃ i : Nat, i ≤ S.length ∧ ρ' 0 = v ∧ ρ' 3 = .pointer (some ⟨p, 0, none⟩) ∧ ρ' 5 = .int .i64 i) := by
  refine loop_run _ ?_
  rintro k ρ ms h' d' ⟨i, hk, r0, r3, r5, rfl, rfl, rfl⟩
  unfold sf53L0
  by_cases c : k = 0
  · have e1 : ¬ ((i : Int) < S.length) := by omega
    obtain ⟨a, b, rfl⟩ := hv.shape
    repeat (first | apply Z1 | apply Z2 | apply Z3 | apply Z4 | apply Z5 rfl | apply Z6 | apply Z7 | apply Z8 | apply Z9 | apply ZA | apply ZB | apply ZC | ((first | apply ZD (by decide) | apply ZN (by decide)); (simp (maxSteps := 9999999) only [go_sem, r0, r3, r5, e1]; rfl)) | (refine ZE ?_ ?_; · simp only [go_sem]) | (refine ZF ?_ ?_; · simp only [go_sem]))
    exact end_nil ⟨rfl, rfl, rfl, rfl, i, by omega, by simp only [go_sem, r0], by simp only [go_sem, r3], by simp only [go_sem, r5]⟩
  · have e1 : ((i : Int) < S.length) := by omega
    have e2 : (0 : Int) ≤ i := by omega
    have hi : i < S.length := by omega
    have ew : IntKind.i64.wrap ((i : Int) + 1) = ((i + 1 : Nat) : Int) := by rw [wrap64 (by omega) (by omega)]; rfl
    obtain ⟨b, o, cp, rfl, ld⟩ := hv.ld (by omega)
    have la := (ld i hi).2.1
    have lb := (ld i hi).2.2.1
    have lc := (ld i hi).2.2.2
    rw [gT_at hi] at la lb lc
    generalize gT S i = t at *
    obtain ⟨x', y', z'⟩ := t
    dsimp only at *
    by_cases c1 : x' < x
    · repeat (first | apply Z1 | apply Z2 | apply Z3 | apply Z4 | apply Z5 rfl | apply Z6 | apply Z7 | apply Z8 | apply Z9 | apply ZA | apply ZB | apply ZC | ((first | apply ZD (by decide) | apply ZN (by decide)); (simp (maxSteps := 9999999) only [go_sem, r0, r3, r5, e1, e2, la, lb, lc, l0, c1, ew, Int.toNat_natCast]; rfl)) | (refine ZE ?_ ?_; · simp only [go_sem]) | (refine ZF ?_ ?_; · simp only [go_sem]))
      exact end_nil ⟨k - 1, by omega, i + 1, by omega, by simp only [go_sem, r0], by simp only [go_sem, r3], by simp only [go_sem, ew], rfl, rfl, rfl⟩
    by_cases c2 : x' = x
    · subst c2
      by_cases c3 : y' < y
      · repeat (first | apply Z1 | apply Z2 | apply Z3 | apply Z4 | apply Z5 rfl | apply Z6 | apply Z7 | apply Z8 | apply Z9 | apply ZA | apply ZB | apply ZC | ((first | apply ZD (by decide) | apply ZN (by decide)); (simp (maxSteps := 9999999) only [go_sem, r0, r3, r5, e1, e2, la, lb, lc, l0, c1, c3, ew, Int.toNat_natCast]; rfl)) | (refine ZE ?_ ?_; · simp only [go_sem]) | (refine ZF ?_ ?_; · simp only [go_sem]))
        exact end_nil ⟨k - 1, by omega, i + 1, by omega, by simp only [go_sem, r0], by simp only [go_sem, r3], by simp only [go_sem, ew], rfl, rfl, rfl⟩
      by_cases c4 : y' = y
      · subst c4
        by_cases c5 : z' < z
        · repeat (first | apply Z1 | apply Z2 | apply Z3 | apply Z4 | apply Z5 rfl | apply Z6 | apply Z7 | apply Z8 | apply Z9 | apply ZA | apply ZB | apply ZC | ((first | apply ZD (by decide) | apply ZN (by decide)); (simp (maxSteps := 9999999) only [go_sem, r0, r3, r5, e1, e2, la, lb, lc, l0, c1, c3, c5, ew, Int.toNat_natCast]; rfl)) | (refine ZE ?_ ?_; · simp only [go_sem]) | (refine ZF ?_ ?_; · simp only [go_sem]))
          exact end_nil ⟨k - 1, by omega, i + 1, by omega, by simp only [go_sem, r0], by simp only [go_sem, r3], by simp only [go_sem, ew], rfl, rfl, rfl⟩
        · repeat (first | apply Z1 | apply Z2 | apply Z3 | apply Z4 | apply Z5 rfl | apply Z6 | apply Z7 | apply Z8 | apply Z9 | apply ZA | apply ZB | apply ZC | ((first | apply ZD (by decide) | apply ZN (by decide)); (simp (maxSteps := 9999999) only [go_sem, r0, r3, r5, e1, e2, la, lb, lc, l0, c1, c3, c5, Int.toNat_natCast]; rfl)) | (refine ZE ?_ ?_; · simp only [go_sem]) | (refine ZF ?_ ?_; · simp only [go_sem]))
          exact end_nil ⟨rfl, rfl, rfl, rfl, i, by omega, by simp only [go_sem, r0], by simp only [go_sem, r3], by simp only [go_sem, r5]⟩
      · repeat (first | apply Z1 | apply Z2 | apply Z3 | apply Z4 | apply Z5 rfl | apply Z6 | apply Z7 | apply Z8 | apply Z9 | apply ZA | apply ZB | apply ZC | ((first | apply ZD (by decide) | apply ZN (by decide)); (simp (maxSteps := 9999999) only [go_sem, r0, r3, r5, e1, e2, la, lb, lc, l0, c1, c3, c4, Int.toNat_natCast]; rfl)) | (refine ZE ?_ ?_; · simp only [go_sem]) | (refine ZF ?_ ?_; · simp only [go_sem]))
        exact end_nil ⟨rfl, rfl, rfl, rfl, i, by omega, by simp only [go_sem, r0], by simp only [go_sem, r3], by simp only [go_sem, r5]⟩
    · repeat (first | apply Z1 | apply Z2 | apply Z3 | apply Z4 | apply Z5 rfl | apply Z6 | apply Z7 | apply Z8 | apply Z9 | apply ZA | apply ZB | apply ZC | ((first | apply ZD (by decide) | apply ZN (by decide)); (simp (maxSteps := 9999999) only [go_sem, r0, r3, r5, e1, e2, la, lb, lc, l0, c1, c2, Int.toNat_natCast]; rfl)) | (refine ZE ?_ ?_; · simp only [go_sem]) | (refine ZF ?_ ?_; · simp only [go_sem]))
      exact end_nil ⟨rfl, rfl, rfl, rfl, i, by omega, by simp only [go_sem, r0], by simp only [go_sem, r3], by simp only [go_sem, r5]⟩
theorem put53 {H : SHeap} {v : Value} {S : List T3} {base : Nat} (hv : NewV base H v (trs S) S.length 3) (hlen : S.length ≤ 1000) (x y z : Int) :
    ∃ S' v' H', M.call 53 [v, .agg #[.int .i64 x, .int .i64 y, .int .i64 z]] H = some (v', H', []) ∧ S'.length = S.length + 1 ∧ Ext H H' ∧ NewV H.length H' v' (trs S') S'.length 3 := by
  have key : ∃ r, (∃ S' v' H', r = (v', H', ([] : List Nat)) ∧ S'.length = S.length + 1 ∧ Ext H H' ∧ NewV H.length H' v' (trs S') S'.length 3) ∧ M.call 53 [v, .agg #[.int .i64 x, .int .i64 y, .int .i64 z]] H = some r := by
    refine call_ex (f := 53) _ sf53 rfl rfl rfl ?_
    generalize hX : H ++ [SO.cells [Value.int .i64 x, .int .i64 y, .int .i64 z] 78 true 0 []] = X
    have eX : Ext H X := by rw [← hX]; exact Ext.app H _
    have bX : X[H.length]? = some (.cells [Value.int .i64 x, .int .i64 y, .int .i64 z] 78 true 0 []) := by rw [← hX, app_get0]; rfl
    have lX : X.length = H.length + 1 := by rw [← hX]; simp
    have l0 : ∀ (o : Nat), loadS X none (.pointer (some ⟨H.length, o, none⟩)) = [Value.int .i64 x, .int .i64 y, .int .i64 z][o]? := fun o => by rw [load_rdO, bX]; rfl
    have nX := hv.ext eX
    have sX : ES X v S := nX.sl
    unfold sf53
    repeat (first | apply Z1 | apply Z2 | apply Z3 | apply Z4 | apply Z5 rfl | apply Z6 | apply Z7 | apply Z8 | apply Z9 | apply ZA | apply ZB | apply ZC | ((first | apply ZD (by decide) | apply ZN (by decide)); (simp (maxSteps := 9999999) only [go_sem, argR, hX]; rfl)) | (refine ZE ?_ ?_; · simp only [go_sem]) | (refine ZF ?_ ?_; · simp only [go_sem]))
    refine run_loop (put_loop _ sX hlen l0 S.length _ _ _ _ ⟨0, by omega, by simp only [go_sem, argR], by simp only [go_sem], by simp only [go_sem], rfl, rfl, rfl⟩) ?_
    rintro ex ρ2 ms2 h2 d2 ⟨rfl, rfl, rfl, rfl, i, hi, r0, r3, r5⟩
    obtain ⟨a, c, rfl⟩ := hv.shape
    have sl := SL.sl_to sX hi
    have ap1 := SL.copy (el := 78) (bytes := 24) sX hi (trs_sc S) (by decide) (by omega)
    rw [trs_take] at ap1
    have htl : (S.take i).length = i := by rw [List.length_take]; omega
    have A1 := AccS.ofRes X 78 (cs := trs (S.take i)) (n := i) (s := 3) (by rw [trs_len, htl]) (trs_sc _)
    have e1 := Ext.res X (trs (S.take i)) i 78
    generalize resH X (trs (S.take i)) i 78 = X1 at *
    generalize resV X i 3 = v1 at *
    have l1 : loadS X1 (some 3) (.pointer (some ⟨H.length, 0, none⟩)) = some (.agg #[.int .i64 x, .int .i64 y, .int .i64 z]) := by
      rw [e1.load (by omega), load_rdON, bX]; rfl
    obtain ⟨H2, v2, ap2, ⟨b2, hv2⟩, A2, _, _⟩ := (A1.app [.cells [.int .i64 x, .int .i64 y, .int .i64 z] 78 true 0 []]).push (bs := X1.length) (bytes := 24) (new := [.int .i64 x, .int .i64 y, .int .i64 z]) (el2 := 78) (pf2 := true) (own2 := 0) (old2 := []) (by rw [app_get0]; rfl) rfl rfl (by decide) rfl (by decide) (by omega)
    obtain ⟨x1, y1, rfl⟩ := A1.shape
    have e2 : Ext X H2 := ⟨A2.le, A2.same⟩
    have hsl : ∃ a' c', sliceS 3 (.slice a S.length c) (some (.int .i64 (i : Int))) none none = some (.slice a' (S.length - i) c') ∧ (S.length - i ≠ 0 → ∃ b, a' = some ⟨b, i * 3, none⟩ ∧ Seg H2 b (i * 3) (trs (S.drop i))) := by
      rcases hv with ⟨h1, h2, h3⟩ | ⟨b, el, old, h1, h2, h3, h4⟩
      · obtain ⟨rfl, _, rfl⟩ : a = none ∧ S.length = 0 ∧ c = 0 := by simpa using h2
        refine ⟨none, 0, ?_, fun h => by omega⟩
        have hi0 : i = 0 := by omega
        subst hi0
        rw [h1]; rfl
      · cases h1
        refine ⟨some ⟨b, 0 + i * 3, none⟩, UNK + 3, ?_, fun _ => ⟨b, by rw [Nat.zero_add], ?_⟩⟩
        · have q1 : Nat.ble UNK (UNK + 3) = true := by rw [ble_dec]; simp
          have q3 : Nat.beq (UNK + 3) (UNK + 3) = true := Nat.beq_refl _
          unfold sliceS
          simp [bMx, bHi, bLo, bnd, q1, q3, hi]
        · have sg : Seg H2 b 0 (trs S) := Seg.mk0 (by rw [e2.fr b (by have := (List.getElem?_eq_some_iff.1 h2).1; omega), eX.fr b (List.getElem?_eq_some_iff.1 h2).1]; exact h2) rfl
          have := sg.dropN (k := i * 3) (by rw [trs_len]; omega)
          rw [Nat.zero_add, trs_drop] at this
          exact this
    obtain ⟨a', c', sl2, hsg⟩ := hsl
    have hfin : ∃ H3 v3, (∀ (base : Nat) (d : List Nat), appendS base H2 d 78 true 3 24 v2 (.slice a' (S.length - i) c') = some (v3, H3, d)) ∧ AccS X H3 v3 (trs (S.take i ++ (x, y, z) :: S.drop i)) (S.length + 1) 3 78 := by
      have hcs : trs (S.take i ++ (x, y, z) :: S.drop i) = trs (S.take i) ++ [.int .i64 x, .int .i64 y, .int .i64 z] ++ trs (S.drop i) := by rw [trs_app]; simp [trs, cel3]
      rw [hcs]
      by_cases c0 : S.length - i = 0
      · refine ⟨H2, v2, fun base d => by rw [hv2]; exact append_none (a' := 0) c0 base d, ?_⟩
        have : S.drop i = [] := List.drop_eq_nil_of_le (by omega)
        rw [this, trs, List.append_nil, show S.length + 1 = i + 1 from by omega]
        exact A2
      · obtain ⟨b, rfl, sg⟩ := hsg c0
        have hdl : (S.drop i).length = S.length - i := List.length_drop
        have hse := sg.seen (n := (S.length - i) * 3) (by rw [trs_len, hdl]; exact Nat.le_refl _)
        rw [List.take_of_length_le (by rw [trs_len, hdl]; exact Nat.le_refl _)] at hse
        obtain ⟨H3, v3, k1, k2⟩ := A2.pushO (bytes := 24) (cb := c') hse c0 (by rw [trs_len, hdl]) (by decide) (trs_sc _) (by decide) (by omega)
        rw [show i + 1 + (S.length - i) = S.length + 1 from by omega] at k2
        exact ⟨H3, v3, k1, k2⟩
    obtain ⟨H3, v3, ap3, A3⟩ := hfin
    subst hv2
    repeat (first | apply Z1 | apply Z2 | apply Z3 | apply Z4 | apply Z5 rfl | apply Z6 | apply Z7 | apply Z8 | apply Z9 | apply ZA | apply ZB | apply ZC | ((first | apply ZD (by decide) | apply ZN (by decide)); (simp (maxSteps := 9999999) only [go_sem, r0, r3, r5, ↓sl, ↓ap1, ↓l1, ↓ap2, ↓sl2, ↓ap3]; rfl)) | (refine ZE ?_ ?_; · simp only [go_sem]) | (refine ZF ?_ ?_; · simp only [go_sem]))
    have hSl : (S.take i ++ (x, y, z) :: S.drop i).length = S.length + 1 := by simp; omega
    have q3 : X.length = H.length + 1 := lX
    have A4 : AccS (H ++ [SO.cells [Value.int .i64 x, .int .i64 y, .int .i64 z] 78 true 0 []]) H3 v3 (trs (S.take i ++ (x, y, z) :: S.drop i)) (S.length + 1) 3 78 := by rw [hX]; exact A3
    refine end_nil ⟨_, ⟨S.take i ++ (x, y, z) :: S.drop i, resV H (S.length + 1) 3, resH H (trs (S.take i ++ (x, y, z) :: S.drop i)) (S.length + 1) 78, rfl, hSl, Ext.res _ _ _ _, by rw [hSl]; exact NewV.ofRes H 78 (by rw [trs_len, hSl]) (trs_sc _)⟩, A4.q1 rfl rfl (by simp only [go_sem])⟩
  obtain ⟨r, ⟨S', v', H', rfl, k⟩, e⟩ := key
  exact ⟨S', v', H', e, k⟩
end Go.Proofs.Ytioijehbmgmgkaa.Sh

namespace Go.Proofs.Ytioijehbmgmgkaa.Sh
open Go
set_option maxRecDepth 100000
set_option maxHeartbeats 4000000
theorem u64_mod' (z n : Int) (h0 : 0 < n) : 0 ≤ (IntKind.u64.wrap z).tmod n ∧ (IntKind.u64.wrap z).tmod n < n := by
  have hu : 0 ≤ IntKind.u64.wrap z := by
    have e1 : IntKind.u64.wrap z = z % 18446744073709551616 := by simp [IntKind.wrap, IntKind.signed, IntKind.bits]
    rw [e1]; exact Int.emod_nonneg _ (by decide)
  rw [Int.tmod_eq_emod_of_nonneg hu]
  exact ⟨Int.emod_nonneg _ (by omega), Int.emod_lt_of_pos _ h0⟩
def uR (x : Int) (m : Nat) : Nat := ((IntKind.u64.wrap x).tmod m).toNat
theorem uR_eq (x : Int) {m : Nat} (h : 0 < m) : (IntKind.u64.wrap x).tmod m = uR x m := by
  have := u64_mod' x m (by omega)
  unfold uR; omega
theorem uR_lt (x : Int) {m : Nat} (h : 0 < m) : uR x m < m := by
  have := u64_mod' x m (by omega)
  unfold uR; omega
structure Two (lo q : Nat) (H0 h : SHeap) (va vf : Value) (A F : List Int) : Prop where
  a : Acc lo h va (A.map mkI) A.length 1 3
  f : Acc lo h vf (F.map mkI) F.length 1 3
  ne : ∀ b b' c c' n m, va = .slice (some ⟨b, 0, none⟩) n c → vf = .slice (some ⟨b', 0, none⟩) m c' → b ≠ b'
  le : lo ≤ h.length
  q_lt : q < lo
  cell : h[q]? = some (.cells [va, vf, .slice none 0 0] 27 false 0 [])
  fr : ∀ j, j < lo → j ≠ q → h[j]? = H0[j]?
theorem Acc.cap {lo : Nat} {h : SHeap} {v : Value} {cs : List Value} {n s : Nat} {el : TypeId} (a : Acc lo h v cs n s el) : v = .slice none 0 0 ∧ n = 0 ∨ ∃ b, v = .slice (some ⟨b, 0, none⟩) n (UNK + s) ∧ lo ≤ b ∧ b < h.length := by
  rcases a with ⟨h1, h2, _⟩ | ⟨b, old, rfl, h1, _, _, h4, _⟩
  · exact .inl ⟨h2, h1⟩
  · exact .inr ⟨b, rfl, h4, (List.getElem?_eq_some_iff.1 h1).1⟩
theorem Acc.shp {lo : Nat} {h : SHeap} {v : Value} {cs : List Value} {n s : Nat} {el : TypeId} (a : Acc lo h v cs n s el) : ∃ a c, v = .slice a n c := by
  rcases a with ⟨rfl, rfl, _⟩ | ⟨b, old, rfl, _⟩
  · exact ⟨_, _, rfl⟩
  · exact ⟨_, _, rfl⟩
theorem Two.push {lo q : Nat} {H0 h : SHeap} {va vf : Value} {A F : List Int} (T : Two lo q H0 h va vf A F) (hl : A.length ≤ 100) (hlf : F.length ≤ 100) (x y : Int) (base : Nat) (hb : base ≤ q) :
    ∃ v2 H2 H3, (∀ d, appendS base (h ++ [.cells [.int .i64 x] 3 true 0 []]) d 3 true 1 8 va (.slice (some ⟨h.length, 0, none⟩) 1 1) = some (v2, H2, d)) ∧ (∀ d, storeS base H2 d q 0 (cellsL v2) = some (H3, d)) ∧
      ∃ v4 H4 H5, (∀ d, appendS base (H3 ++ [.cells [.int .i64 y] 3 true 0 []]) d 3 true 1 8 vf (.slice (some ⟨H3.length, 0, none⟩) 1 1) = some (v4, H4, d)) ∧ (∀ d, storeS base H4 d q 1 (cellsL v4) = some (H5, d)) ∧
      Two lo q H0 H5 v2 v4 (A ++ [x]) (F ++ [y]) ∧ (∃ a c, v2 = .slice a (A.length + 1) c) ∧ (∃ a c, v4 = .slice a (F.length + 1) c) := by
  have hq := T.q_lt
  have hle := T.le
  have app1 : ∀ (x : SO) (j : Nat), j < h.length → (h ++ [x])[j]? = h[j]? := fun x j hj => List.getElem?_append_left hj
  have A1 : Acc lo (h ++ [.cells [.int .i64 x] 3 true 0 []]) va (A.map mkI) A.length 1 3 := T.a.keep (fun b e => app1 _ b (T.a.lt e).2)
  obtain ⟨old1, ap1, B1, k1⟩ := acc_append (bytes := 8) A1 (bs := h.length) (new := [.int .i64 x]) (el2 := 3) (pf2 := true) (own2 := 0) (old2 := []) (by simp) rfl rfl (by decide) rfl (by decide) (by omega) (by simp; omega)
  generalize hH2 : shv (h ++ [.cells [.int .i64 x] 3 true 0 []]) va ++ [.cells (A.map mkI ++ [.int .i64 x]) 3 true 0 old1] = H2 at *
  have lH2 : H2.length = h.length + 2 := by rw [← hH2]; simp [shv_len]
  have capA := T.a.cap
  have capF := T.f.cap
  have fr1 : ∀ j, j < h.length → (∀ b, va = .slice (some ⟨b, 0, none⟩) A.length (UNK + 1) → j ≠ b) → H2[j]? = h[j]? := fun j hj hne => by
    rw [k1 j (by simp; omega) hne, app1 _ j hj]
  have q2 : H2[q]? = some (.cells [va, vf, .slice none 0 0] 27 false 0 []) := by
    rw [fr1 q (by omega) (fun b e => by have := (T.a.lt e).1; omega)]; exact T.cell
  have F2 : Acc lo H2 vf (F.map mkI) F.length 1 3 := T.f.keep (fun b e => fr1 b (T.f.lt e).2 (fun b' e' => fun e2 => T.ne b' b _ _ _ _ e' e e2.symm))
  have l1 : (h ++ [SO.cells [.int .i64 x] 3 true 0 []]).length = h.length + 1 := by simp
  rw [l1] at ap1 B1
  have st1 := fun d => store_cell (h := H2) (base := base) (b := q) (o := 0) (c := .slice (some ⟨h.length + 1, 0, none⟩) (A.length + 1) (UNK + 1)) q2 (by simp) rfl (fun h => by cases h) d
  have dO : ∀ d, dirty base q false d = d := fun d => dirty_own hb
  simp only [dO, List.set_cons_zero] at st1
  generalize hH3 : H2.set q (.cells [.slice (some ⟨h.length + 1, 0, none⟩) (A.length + 1) (UNK + 1), vf, .slice none 0 0] 27 false 0 []) = H3 at *
  have lH3 : H3.length = h.length + 2 := by rw [← hH3, List.length_set]; exact lH2
  have fr3 : ∀ j, j ≠ q → H3[j]? = H2[j]? := fun j hj => by rw [← hH3]; exact List.getElem?_set_ne (fun e => hj e.symm)
  have q3 : H3[q]? = some (.cells [.slice (some ⟨h.length + 1, 0, none⟩) (A.length + 1) (UNK + 1), vf, .slice none 0 0] 27 false 0 []) := by rw [← hH3]; exact List.getElem?_set_self (by omega)
  have F3 : Acc lo H3 vf (F.map mkI) F.length 1 3 := F2.keep (fun b e => fr3 b (by have := (F2.lt e).1; omega))
  have B3 : Acc lo H3 (.slice (some ⟨h.length + 1, 0, none⟩) (A.length + 1) (UNK + 1)) (A.map mkI ++ [.int .i64 x]) (A.length + 1) 1 3 := B1.keep (fun b e => fr3 b (by have := (B1.lt e).1; omega))
  have F3' : Acc lo (H3 ++ [.cells [.int .i64 y] 3 true 0 []]) vf (F.map mkI) F.length 1 3 := F3.keep (fun b e => List.getElem?_append_left (F3.lt e).2)
  obtain ⟨old2, ap2, B4, k2⟩ := acc_append (bytes := 8) F3' (bs := H3.length) (new := [.int .i64 y]) (el2 := 3) (pf2 := true) (own2 := 0) (old2 := []) (by simp) rfl rfl (by decide) rfl (by decide) (by omega) (by simp; omega)
  have l3 : (H3 ++ [SO.cells [.int .i64 y] 3 true 0 []]).length = h.length + 3 := by simp [lH3]
  rw [l3] at ap2 B4
  generalize hH4 : shv (H3 ++ [.cells [.int .i64 y] 3 true 0 []]) vf ++ [.cells (F.map mkI ++ [.int .i64 y]) 3 true 0 old2] = H4 at *
  have lH4 : H4.length = h.length + 4 := by rw [← hH4]; simp [shv_len, lH3]
  have fr4 : ∀ j, j < H3.length → (∀ b, vf = .slice (some ⟨b, 0, none⟩) F.length (UNK + 1) → j ≠ b) → H4[j]? = H3[j]? := fun j hj hne => by
    rw [k2 j (by omega) hne, List.getElem?_append_left hj]
  have q4 : H4[q]? = some (.cells [.slice (some ⟨h.length + 1, 0, none⟩) (A.length + 1) (UNK + 1), vf, .slice none 0 0] 27 false 0 []) := by
    rw [fr4 q (by omega) (fun b e => by have := (F3.lt e).1; omega)]; exact q3
  have B5 : Acc lo H4 (.slice (some ⟨h.length + 1, 0, none⟩) (A.length + 1) (UNK + 1)) (A.map mkI ++ [.int .i64 x]) (A.length + 1) 1 3 := B3.keep (fun b e => by
    have : b = h.length + 1 := by injection e with e1; injection e1 with e1; injection e1 with e1; exact e1.symm
    subst this
    exact fr4 _ (by omega) (fun b' e' => by have := (T.f.lt e').2; omega))
  have st2 := fun d => store_cell (h := H4) (base := base) (b := q) (o := 1) (c := .slice (some ⟨h.length + 3, 0, none⟩) (F.length + 1) (UNK + 1)) q4 (by simp) rfl (fun h => by cases h) d
  simp only [dO, List.set_cons_succ, List.set_cons_zero] at st2
  refine ⟨_, H2, H3, fun d => ap1 base d, st1, .slice (some ⟨h.length + 3, 0, none⟩) (F.length + 1) (UNK + 1), H4, _, fun d => by rw [lH3] at ap2 ⊢; exact ap2 base d, st2, ?_, ⟨_, _, rfl⟩, ⟨_, _, rfl⟩⟩
  have fr5 : ∀ (X : SO) (j : Nat), j ≠ q → (H4.set q X)[j]? = H4[j]? := fun X j hj => List.getElem?_set_ne (fun e => hj e.symm)
  refine ⟨?_, ?_, fun b b' c c' n m e e' => ?_, by rw [List.length_set]; omega, hq, List.getElem?_set_self (by omega), fun j hj hne => ?_⟩
  · have := B5.keep (h' := H4.set q (SO.cells [.slice (some ⟨h.length + 1, 0, none⟩) (A.length + 1) (UNK + 1), .slice (some ⟨h.length + 3, 0, none⟩) (F.length + 1) (UNK + 1), .slice none 0 0] 27 false 0 [])) (fun b e => fr5 _ b (by have := (B5.lt e).1; omega))
    simpa [mkI] using this
  · have := B4.keep (h' := H4.set q (SO.cells [.slice (some ⟨h.length + 1, 0, none⟩) (A.length + 1) (UNK + 1), .slice (some ⟨h.length + 3, 0, none⟩) (F.length + 1) (UNK + 1), .slice none 0 0] 27 false 0 [])) (fun b e => fr5 _ b (by have := (B4.lt e).1; omega))
    simpa [mkI] using this
  · injection e with e1; injection e1 with e1; injection e1 with e1
    injection e' with e2; injection e2 with e2; injection e2 with e2
    omega
  · rw [fr5 _ j hne, fr4 j (by omega) (fun b e => by have := (F3.lt e).1; omega), fr3 j hne, fr1 j (by omega) (fun b e => by have := (T.a.lt e).1; omega)]
    exact T.fr j hj hne
theorem tame_basins (cx : Cx) {H0 : SHeap} {p lo : Nat} {a0 f0 s0 : Value} {A0 F0 : List Int} {H : SHeap} (hH : H.length = p) (hE : ∀ j, j < p → H0[j]? = H[j]?) (hp : p + 2 < lo) (hbase : cx.base ≤ p) (ha : IS H a0 A0) (hf : IS H f0 F0) (hal : A0.length ≤ 9223372036854775807) (hfl : F0.length ≤ 9223372036854775807)
    (hB : H0[p]? = some (.cells [a0, f0, s0] 25 false 0 [])) {n : Nat} (hn1 : 1 ≤ n) (hn : n ≤ 8) :
    ∀ k ρ ms h' d', (∃ (i : Nat) (va vf : Value) (A F : List Int), i + k = n ∧ A.length = i ∧ F.length = i ∧ (∀ x ∈ A, 1 ≤ x ∧ x ≤ 100) ∧ (∀ x ∈ F, 0 ≤ x ∧ x ≤ 100) ∧ Two lo (p + 2) H0 h' va vf A F ∧
      ρ 2 = .pointer (some ⟨p, 0, none⟩) ∧ ρ 4 = .pointer (some ⟨p + 1, 0, none⟩) ∧ ρ 5 = .pointer (some ⟨p + 2, 0, none⟩) ∧ ρ 6 = .int .i64 n ∧ ρ 7 = .int .i64 i ∧ ms = [] ∧ d' = []) →
    LoopW M cx 8 sf16L1 ρ ms h' d' (fun ex ρ' ms' h' d' => ms' = [] ∧ d' = [] ∧ ex = .exit 0 ∧ ∃ (va vf : Value) (A F : List Int), A.length = n ∧ F.length = n ∧ (∀ x ∈ A, 1 ≤ x ∧ x ≤ 100) ∧ (∀ x ∈ F, 0 ≤ x ∧ x ≤ 100) ∧ Two lo (p + 2) H0 h' va vf A F ∧
      ρ' 2 = .pointer (some ⟨p, 0, none⟩) ∧ ρ' 4 = .pointer (some ⟨p + 1, 0, none⟩) ∧ ρ' 5 = .pointer (some ⟨p + 2, 0, none⟩) ∧ ρ' 6 = .int .i64 n) := by
  refine loop_run _ ?_
  rintro k ρ ms h' d' ⟨i, va, vf, A, F, hk, hA, hF, hxA, hxF, T, r2, r4, r5, r6, r7, rfl, rfl⟩
  unfold sf16L1
  by_cases c : k = 0
  · have e1 : ¬ ((i : Int) < n) := by omega
    repeat (first | apply Z1 | apply Z2 | apply Z3 | apply Z4 | apply Z5 rfl | apply Z6 | apply Z7 | apply Z8 | apply Z9 | apply ZA | apply ZB | apply ZC | ((first | apply ZD (by decide) | apply ZN (by decide)); (simp (maxSteps := 9999999) only [go_sem, r6, r7, e1]; rfl)) | (refine ZE ?_ ?_; · simp only [go_sem]) | (refine ZF ?_ ?_; · simp only [go_sem]))
    exact end_nil ⟨rfl, rfl, rfl, va, vf, A, F, by omega, by omega, hxA, hxF, T, by simp only [go_sem, r2], by simp only [go_sem, r4], by simp only [go_sem, r5], by simp only [go_sem, r6]⟩
  · have e1 : ((i : Int) < n) := by omega
    have e2 : (0 : Int) ≤ i := by omega
    have ew : IntKind.i64.wrap ((i : Int) + 1) = ((i + 1 : Nat) : Int) := by rw [wrap64 (by omega) (by omega)]; rfl
    have bB : h'[p]? = some (.cells [a0, f0, s0] 25 false 0 []) := by rw [T.fr p (by omega) (by omega)]; exact hB
    have l0 : ∀ o, loadS h' none (.pointer (some ⟨p, o, none⟩)) = [a0, f0, s0][o]? := fun o => by rw [load_rdO, bB]; rfl
    have l5 : ∀ o, loadS h' none (.pointer (some ⟨p + 2, o, none⟩)) = [va, vf, .slice none 0 0][o]? := fun o => by rw [load_rdO, T.cell]; rfl
    have post : ∀ (a f : Int), 1 ≤ a → a ≤ 100 → 0 ≤ f → f ≤ 100 → (∀ x ∈ A ++ [a], 1 ≤ x ∧ x ≤ 100) ∧ (∀ x ∈ F ++ [f], 0 ≤ x ∧ x ≤ 100) := fun a f h1 h2 h3 h4 =>
      ⟨fun x hx => by rcases List.mem_append.1 hx with hx | hx; exact hxA x hx; rw [List.mem_singleton.1 hx]; exact ⟨h1, h2⟩, fun x hx => by rcases List.mem_append.1 hx with hx | hx; exact hxF x hx; rw [List.mem_singleton.1 hx]; exact ⟨h3, h4⟩⟩
    have psh := fun (x y : Int) => T.push (by omega) (by omega) x y cx.base (by omega)
    have ia : IS h' a0 A0 := ha.fr (fun j hj => by rw [T.fr j (by omega) (by omega), hE j (by omega)])
    have iff : IS h' f0 F0 := hf.fr (fun j hj => by rw [T.fr j (by omega) (by omega), hE j (by omega)])
    by_cases cA : i < A0.length
    · by_cases cF : i < F0.length
      · skip
        have cA' : ((i : Int) < A0.length) := by omega
        obtain ⟨ab, ao, ac, ea, la⟩ := ia.ld (by omega)
        have la := la i cA
        have ua : (IntKind.u64.wrap A0[i]).tmod 100 = uR A0[i] 100 := uR_eq A0[i] (m := 100) (by decide)
        have va' := uR_lt A0[i] (m := 100) (by decide)
        generalize A0[i] = x at *
        generalize uR x 100 = a at *
        have wa : IntKind.i64.wrap ((a : Nat) : Int) = a := wrap64 (by omega) (by omega)
        have wa1 : IntKind.i64.wrap (1 + (a : Int)) = ((1 + a : Nat) : Int) := by rw [wrap64 (by omega) (by omega)]; omega
        subst ea
        have cF' : ((i : Int) < F0.length) := by omega
        obtain ⟨fb, fo, fc, ef, lf⟩ := iff.ld (by omega)
        have lf := lf i cF
        have uf : (IntKind.u64.wrap F0[i]).tmod 101 = uR F0[i] 101 := uR_eq F0[i] (m := 101) (by decide)
        have vf' := uR_lt F0[i] (m := 101) (by decide)
        generalize F0[i] = y at *
        generalize uR y 101 = f at *
        have wf : IntKind.i64.wrap ((f : Nat) : Int) = f := wrap64 (by omega) (by omega)
        subst ef
        obtain ⟨v2, H2, H3, g1, g2, v4, H4, H5, g3, g4, T5, ⟨z1, z2, rfl⟩, ⟨z3, z4, rfl⟩⟩ := psh ((1 + a : Nat) : Int) ((f : Nat) : Int)
        obtain ⟨q1, q2⟩ := post ((1 + a : Nat) : Int) ((f : Nat) : Int) (by omega) (by omega) (by omega) (by omega)
        obtain ⟨y1, y2, rfl⟩ := Acc.shp T.a
        obtain ⟨y3, y4, rfl⟩ := Acc.shp T.f
        repeat (first | apply Z1 | apply Z2 | apply Z3 | apply Z4 | apply Z5 rfl | apply Z6 | apply Z7 | apply Z8 | apply Z9 | apply ZA | apply ZB | apply ZC | ((first | apply ZD (by decide) | apply ZN (by decide)); (simp (maxSteps := 9999999) only [go_sem, r2, r4, r5, r6, r7, e1, e2, l0, l5, cA', la, ua, wa, wa1, cF', lf, uf, wf, ↓g1, ↓g2, ↓g3, ↓g4, ew, Int.toNat_natCast]; rfl)) | (refine ZE ?_ ?_; · simp only [go_sem]) | (refine ZF ?_ ?_; · simp only [go_sem]))
        exact end_nil ⟨k - 1, by omega, i + 1, _, _, A ++ [((1 + a : Nat) : Int)], F ++ [((f : Nat) : Int)], by omega, by simp [hA], by simp [hF], q1, q2, T5, by simp only [go_sem, r2], by simp only [go_sem, r4], by simp only [go_sem, r5], by simp only [go_sem, r6], by simp only [go_sem, ew], rfl, rfl⟩
      · skip
        have cA' : ((i : Int) < A0.length) := by omega
        obtain ⟨ab, ao, ac, ea, la⟩ := ia.ld (by omega)
        have la := la i cA
        have ua : (IntKind.u64.wrap A0[i]).tmod 100 = uR A0[i] 100 := uR_eq A0[i] (m := 100) (by decide)
        have va' := uR_lt A0[i] (m := 100) (by decide)
        generalize A0[i] = x at *
        generalize uR x 100 = a at *
        have wa : IntKind.i64.wrap ((a : Nat) : Int) = a := wrap64 (by omega) (by omega)
        have wa1 : IntKind.i64.wrap (1 + (a : Int)) = ((1 + a : Nat) : Int) := by rw [wrap64 (by omega) (by omega)]; omega
        subst ea
        have cF' : ¬ ((i : Int) < F0.length) := by omega
        obtain ⟨fb, fc, rfl⟩ := hf.shape
        obtain ⟨v2, H2, H3, g1, g2, v4, H4, H5, g3, g4, T5, ⟨z1, z2, rfl⟩, ⟨z3, z4, rfl⟩⟩ := psh ((1 + a : Nat) : Int) 0
        obtain ⟨q1, q2⟩ := post ((1 + a : Nat) : Int) 0 (by omega) (by omega) (by omega) (by omega)
        obtain ⟨y1, y2, rfl⟩ := Acc.shp T.a
        obtain ⟨y3, y4, rfl⟩ := Acc.shp T.f
        repeat (first | apply Z1 | apply Z2 | apply Z3 | apply Z4 | apply Z5 rfl | apply Z6 | apply Z7 | apply Z8 | apply Z9 | apply ZA | apply ZB | apply ZC | ((first | apply ZD (by decide) | apply ZN (by decide)); (simp (maxSteps := 9999999) only [go_sem, r2, r4, r5, r6, r7, e1, e2, l0, l5, cA', la, ua, wa, wa1, cF', ↓g1, ↓g2, ↓g3, ↓g4, ew, Int.toNat_natCast]; rfl)) | (refine ZE ?_ ?_; · simp only [go_sem]) | (refine ZF ?_ ?_; · simp only [go_sem]))
        exact end_nil ⟨k - 1, by omega, i + 1, _, _, A ++ [((1 + a : Nat) : Int)], F ++ [0], by omega, by simp [hA], by simp [hF], q1, q2, T5, by simp only [go_sem, r2], by simp only [go_sem, r4], by simp only [go_sem, r5], by simp only [go_sem, r6], by simp only [go_sem, ew], rfl, rfl⟩
    · by_cases cF : i < F0.length
      · skip
        have cA' : ¬ ((i : Int) < A0.length) := by omega
        obtain ⟨ab, ac, rfl⟩ := ha.shape
        have cF' : ((i : Int) < F0.length) := by omega
        obtain ⟨fb, fo, fc, ef, lf⟩ := iff.ld (by omega)
        have lf := lf i cF
        have uf : (IntKind.u64.wrap F0[i]).tmod 101 = uR F0[i] 101 := uR_eq F0[i] (m := 101) (by decide)
        have vf' := uR_lt F0[i] (m := 101) (by decide)
        generalize F0[i] = y at *
        generalize uR y 101 = f at *
        have wf : IntKind.i64.wrap ((f : Nat) : Int) = f := wrap64 (by omega) (by omega)
        subst ef
        obtain ⟨v2, H2, H3, g1, g2, v4, H4, H5, g3, g4, T5, ⟨z1, z2, rfl⟩, ⟨z3, z4, rfl⟩⟩ := psh 1 ((f : Nat) : Int)
        obtain ⟨q1, q2⟩ := post 1 ((f : Nat) : Int) (by omega) (by omega) (by omega) (by omega)
        obtain ⟨y1, y2, rfl⟩ := Acc.shp T.a
        obtain ⟨y3, y4, rfl⟩ := Acc.shp T.f
        repeat (first | apply Z1 | apply Z2 | apply Z3 | apply Z4 | apply Z5 rfl | apply Z6 | apply Z7 | apply Z8 | apply Z9 | apply ZA | apply ZB | apply ZC | ((first | apply ZD (by decide) | apply ZN (by decide)); (simp (maxSteps := 9999999) only [go_sem, r2, r4, r5, r6, r7, e1, e2, l0, l5, cA', cF', lf, uf, wf, ↓g1, ↓g2, ↓g3, ↓g4, ew, Int.toNat_natCast]; rfl)) | (refine ZE ?_ ?_; · simp only [go_sem]) | (refine ZF ?_ ?_; · simp only [go_sem]))
        exact end_nil ⟨k - 1, by omega, i + 1, _, _, A ++ [1], F ++ [((f : Nat) : Int)], by omega, by simp [hA], by simp [hF], q1, q2, T5, by simp only [go_sem, r2], by simp only [go_sem, r4], by simp only [go_sem, r5], by simp only [go_sem, r6], by simp only [go_sem, ew], rfl, rfl⟩
      · skip
        have cA' : ¬ ((i : Int) < A0.length) := by omega
        obtain ⟨ab, ac, rfl⟩ := ha.shape
        have cF' : ¬ ((i : Int) < F0.length) := by omega
        obtain ⟨fb, fc, rfl⟩ := hf.shape
        obtain ⟨v2, H2, H3, g1, g2, v4, H4, H5, g3, g4, T5, ⟨z1, z2, rfl⟩, ⟨z3, z4, rfl⟩⟩ := psh 1 0
        obtain ⟨q1, q2⟩ := post 1 0 (by omega) (by omega) (by omega) (by omega)
        obtain ⟨y1, y2, rfl⟩ := Acc.shp T.a
        obtain ⟨y3, y4, rfl⟩ := Acc.shp T.f
        repeat (first | apply Z1 | apply Z2 | apply Z3 | apply Z4 | apply Z5 rfl | apply Z6 | apply Z7 | apply Z8 | apply Z9 | apply ZA | apply ZB | apply ZC | ((first | apply ZD (by decide) | apply ZN (by decide)); (simp (maxSteps := 9999999) only [go_sem, r2, r4, r5, r6, r7, e1, e2, l0, l5, cA', cF', ↓g1, ↓g2, ↓g3, ↓g4, ew, Int.toNat_natCast]; rfl)) | (refine ZE ?_ ?_; · simp only [go_sem]) | (refine ZF ?_ ?_; · simp only [go_sem]))
        exact end_nil ⟨k - 1, by omega, i + 1, _, _, A ++ [1], F ++ [0], by omega, by simp [hA], by simp [hF], q1, q2, T5, by simp only [go_sem, r2], by simp only [go_sem, r4], by simp only [go_sem, r5], by simp only [go_sem, r6], by simp only [go_sem, ew], rfl, rfl⟩
end Go.Proofs.Ytioijehbmgmgkaa.Sh

namespace Go.Proofs.Ytioijehbmgmgkaa.Sh
open Go
set_option maxRecDepth 100000
set_option maxHeartbeats 4000000
structure TM (p : Nat) (H0 h : SHeap) (va vf vs : Value) (A F : List Int) (S : List T3) : Prop where
  fr : ∀ j, j < p + 2 → h[j]? = H0[j]?
  le : p + 3 ≤ h.length
  cell : h[p + 2]? = some (.cells [va, vf, vs] 27 false 0 [])
  a : NewV (p + 3) h va (A.map mkI) A.length 1
  f : NewV (p + 3) h vf (F.map mkI) F.length 1
  s : NewV (p + 3) h vs (trs S) S.length 3
  ok : ChkP A F S
theorem tame_sills (cx : Cx) {H H0 : SHeap} {p : Nat} {a0 f0 s0 : Value} {S0 : List T3} (hH : H.length = p) (hE : ∀ j, j < p → H0[j]? = H[j]?) (hbase : cx.base ≤ p) (hs : ES H s0 S0) (hsl : S0.length ≤ 9223372036854775807)
    (hB : H0[p]? = some (.cells [a0, f0, s0] 25 false 0 [])) {n : Nat} (hn1 : 1 ≤ n) (hn : n ≤ 8) {A F : List Int} :
    ∀ k ρ ms h' d', (∃ (i : Nat) (va vf vs : Value) (S : List T3), i + k = min S0.length 20 ∧ TM p H0 h' va vf vs A F S ∧
      ρ 2 = .pointer (some ⟨p, 0, none⟩) ∧ ρ 4 = .pointer (some ⟨p + 1, 0, none⟩) ∧ ρ 5 = .pointer (some ⟨p + 2, 0, none⟩) ∧ ρ 6 = .int .i64 n ∧ ρ 12 = .int .i64 i ∧ ms = [] ∧ d' = []) →
    LoopW M cx 8 sf16L0 ρ ms h' d' (fun ex ρ' ms' h' d' => ms' = [] ∧ d' = [] ∧ ex = .exit 2 ∧ ∃ (va vf vs : Value) (S : List T3), TM p H0 h' va vf vs A F S ∧
      ρ' 4 = .pointer (some ⟨p + 1, 0, none⟩) ∧ ρ' 5 = .pointer (some ⟨p + 2, 0, none⟩)) := by
  refine loop_run _ ?_
  rintro k ρ ms h' d' ⟨i, va, vf, vs, S, hk, T, r2, r4, r5, r6, r12, rfl, rfl⟩
  unfold sf16L0
  have hle := T.le
  have bB : h'[p]? = some (.cells [a0, f0, s0] 25 false 0 []) := by rw [T.fr p (by omega)]; exact hB
  have l0 : ∀ o, loadS h' none (.pointer (some ⟨p, o, none⟩)) = [a0, f0, s0][o]? := fun o => by rw [load_rdO, bB]; rfl
  have is : ES h' s0 S0 := hs.fr (fun j hj => by rw [T.fr j (by omega), hE j (by omega)])
  by_cases c : k = 0
  · obtain ⟨b1, b2, rfl⟩ := hs.shape
    by_cases c1 : (i : Int) < S0.length
    · have c2 : ¬ ((i : Int) < 20) := by omega
      repeat (first | apply Z1 | apply Z2 | apply Z3 | apply Z4 | apply Z5 rfl | apply Z6 | apply Z7 | apply Z8 | apply Z9 | apply ZA | apply ZB | apply ZC | ((first | apply ZD (by decide) | apply ZN (by decide)); (simp (maxSteps := 9999999) only [go_sem, r2, r4, r5, r6, r12, l0, c1, c2]; rfl)) | (refine ZE ?_ ?_; · simp only [go_sem]) | (refine ZF ?_ ?_; · simp only [go_sem]))
      exact end_nil ⟨rfl, rfl, rfl, va, vf, vs, S, T, by simp only [go_sem, r4], by simp only [go_sem, r5]⟩
    · repeat (first | apply Z1 | apply Z2 | apply Z3 | apply Z4 | apply Z5 rfl | apply Z6 | apply Z7 | apply Z8 | apply Z9 | apply ZA | apply ZB | apply ZC | ((first | apply ZD (by decide) | apply ZN (by decide)); (simp (maxSteps := 9999999) only [go_sem, r2, r4, r5, r6, r12, l0, c1]; rfl)) | (refine ZE ?_ ?_; · simp only [go_sem]) | (refine ZF ?_ ?_; · simp only [go_sem]))
      exact end_nil ⟨rfl, rfl, rfl, va, vf, vs, S, T, by simp only [go_sem, r4], by simp only [go_sem, r5]⟩
  · have c1 : (i : Int) < S0.length := by omega
    have c2 : (i : Int) < 20 := by omega
    have e2 : (0 : Int) ≤ i := by omega
    have hi : i < S0.length := by omega
    have ew : IntKind.i64.wrap ((i : Int) + 1) = ((i + 1 : Nat) : Int) := by rw [wrap64 (by omega) (by omega)]; rfl
    obtain ⟨b, o, cp, rfl, ld⟩ := is.ld (by omega)
    have la := (ld i hi).2.1
    have lb := (ld i hi).2.2.1
    have lc := (ld i hi).2.2.2
    rw [gT_at hi] at la lb lc
    generalize gT S0 i = t at *
    obtain ⟨x0, y0, z0⟩ := t
    dsimp only at *
    have wn : IntKind.i64.wrap ((n : Int) + 1) = ((n + 1 : Nat) : Int) := by rw [wrap64 (by omega) (by omega)]; rfl
    have wun : IntKind.u64.wrap ((n + 1 : Nat) : Int) = ((n + 1 : Nat) : Int) := wrapU (by omega) (by omega)
    have nz : ¬ ((n + 1 : Nat) : Int) = 0 := by omega
    have ux := uR_eq x0 (m := n + 1) (by omega)
    have uy := uR_eq y0 (m := n + 1) (by omega)
    have uz : (IntKind.u64.wrap z0).tmod 1000 = uR z0 1000 := uR_eq z0 (m := 1000) (by omega)
    have hx := uR_lt x0 (m := n + 1) (by omega)
    have hy := uR_lt y0 (m := n + 1) (by omega)
    have hz := uR_lt z0 (m := 1000) (by omega)
    generalize uR x0 (n + 1) = x at *
    generalize uR y0 (n + 1) = y at *
    generalize uR z0 1000 = z at *
    have wx : IntKind.i64.wrap ((x : Nat) : Int) = x := wrap64 (by omega) (by omega)
    have wy : IntKind.i64.wrap ((y : Nat) : Int) = y := wrap64 (by omega) (by omega)
    have wz : IntKind.i64.wrap ((z : Nat) : Int) = z := wrap64 (by omega) (by omega)
    have wz1 : IntKind.i64.wrap (1 + (z : Int)) = ((1 + z : Nat) : Int) := by rw [wrap64 (by omega) (by omega)]; omega
    have m1 : (if (y : Int) < x then (y : Int) else x) = ((min x y : Nat) : Int) := by split <;> omega
    have m2 : (if (y : Int) > x then (y : Int) else x) = ((max x y : Nat) : Int) := by split <;> omega
    generalize min x y = u at *
    generalize max x y = v at *
    generalize 1 + z = w at *
    generalize hn' : n + 1 = n' at *
    generalize hX1 : h' ++ [SO.cells [Value.int .i64 (u : Int), .int .i64 (v : Int), .int .i64 (w : Int)] 78 true 0 []] = X1
    have eX1 : Ext h' X1 := by rw [← hX1]; exact Ext.app h' _
    have lX1 : X1.length = h'.length + 1 := by rw [← hX1]; simp
    have l5 : loadS X1 (some 3) (.pointer (some ⟨p + 2, 0, none⟩)) = some (.agg #[va, vf, vs]) := by rw [eX1.load (by omega), load_rdON, T.cell]; rfl
    generalize hX2 : X1 ++ [SO.cells [va, vf, vs] 27 false 0 []] = X2
    have eX2 : Ext X1 X2 := by rw [← hX2]; exact Ext.app X1 _
    have lX2 : X2.length = h'.length + 2 := by rw [← hX2]; simp [lX1]
    have e12 := eX1.trans eX2
    have l6 : loadS X2 none (.pointer (some ⟨p + 2, 2, none⟩)) = some vs := by rw [e12.load (by omega), load_rdO, T.cell]; rfl
    have l7 : loadS X2 (some 3) (.pointer (some ⟨h'.length, 0, none⟩)) = some (.agg #[.int .i64 (u : Int), .int .i64 (v : Int), .int .i64 (w : Int)]) := by
      rw [eX2.load (by omega), ← hX1, load_appN0]; rfl
    have hSl := T.ok.s20
    obtain ⟨S', v', X3, c53, hS', e3, n3⟩ := put53 (H := X2) (T.s.ext e12) (by omega) (u : Int) (v : Int) (w : Int)
    have b16 : X3[X1.length]? = some (.cells [va, vf, vs] 27 false 0 []) := by rw [e3.fr _ (by omega), ← hX2, app_get0]; rfl
    obtain ⟨z1, z2, rfl⟩ := n3.shape
    have st1 : ∀ d, storeS cx.base X3 d X1.length 2 (cellsL (.slice z1 S'.length z2)) = _ := fun d => store_cell (h := X3) (base := cx.base) (b := X1.length) (o := 2) (c := .slice z1 S'.length z2) b16 (by simp) rfl (fun h => by cases h) d
    have dO : ∀ d, dirty cx.base X1.length false d = d := fun d => dirty_own (by omega)
    simp only [dO, List.set_cons_succ, List.set_cons_zero] at st1
    have l3le := e3.le
    have m4le : (X3.set X1.length (SO.cells [va, vf, .slice z1 S'.length z2] 27 false 0 [])).length = X3.length := List.length_set
    generalize hX4 : X3.set X1.length (SO.cells [va, vf, .slice z1 S'.length z2] 27 false 0 []) = X4 at *
    have f4 : ∀ j, j ≠ X1.length → X4[j]? = X3[j]? := fun j hj => by rw [← hX4]; exact List.getElem?_set_ne (fun e => hj e.symm)
    have e4 : Ext h' X4 := ⟨by omega, fun j hj => by rw [f4 j (by omega), e3.fr j (by omega), e12.fr j hj]⟩
    have l8 : loadS X4 (some 3) (.pointer (some ⟨X1.length, 0, none⟩)) = some (.agg #[va, vf, .slice z1 S'.length z2]) := by rw [load_rdON, ← hX4, List.getElem?_set_self (by omega)]; rfl
    have na := T.a.ext e4
    have nf := T.f.ext e4
    have ns : NewV (p + 3) X4 (.slice z1 S'.length z2) (trs S') S'.length 3 := (n3.fr (fun b hb hb2 => f4 b (by omega))).mono (by omega)
    obtain ⟨r, hr, c40⟩ := chk40 (H := X4) (v := .agg #[va, vf, .slice z1 S'.length z2]) ⟨va, vf, _, rfl, na.sl, nf.sl, ns.sl⟩
    have c4 : X4[p + 2]? = some (.cells [va, vf, vs] 27 false 0 []) := by rw [e4.fr _ (by omega)]; exact T.cell
    obtain ⟨q1, q2, rfl⟩ := T.a.shape
    obtain ⟨q3, q4, rfl⟩ := T.f.shape
    obtain ⟨q5, q6, rfl⟩ := T.s.shape
    cases r with
    | false =>
      repeat (first | apply Z1 | apply Z2 | apply Z3 | apply Z4 | apply Z5 rfl | apply Z6 | apply Z7 | apply Z8 | apply Z9 | apply ZA | apply ZB | apply ZC | ((first | apply ZD (by decide) | apply ZN (by decide)); (simp (maxSteps := 9999999) only [go_sem, r2, r4, r5, r6, r12, l0, c1, c2, e2, la, lb, lc, wn, wun, nz, ux, uy, uz, wx, wy, wz, wz1, m1, m2, hX1, ↓l5, hX2, ↓l6, ↓l7, dO, c53, ↓st1, ↓l8, c40, hn', ew, Int.toNat_natCast]; rfl)) | (refine ZE ?_ ?_; · simp only [go_sem]) | (refine ZF ?_ ?_; · simp only [go_sem]))
      exact end_nil ⟨k - 1, by omega, i + 1, _, _, _, S, by omega, ⟨fun j hj => by rw [e4.fr j (by omega)]; exact T.fr j hj, by omega, c4, na, nf, T.s.ext e4, T.ok⟩, by simp only [go_sem, r2], by simp only [go_sem, r4], by simp only [go_sem, r5], by simp only [go_sem, r6], by simp only [go_sem, ew], rfl, rfl⟩
    | true =>
      have dO2 : ∀ d, dirty cx.base (p + 2) false d = d := fun d => dirty_own (by omega)
      have st2 : ∀ d, storeS cx.base X4 d (p + 2) 0 (cellsL (.agg #[.slice q1 A.length q2, .slice q3 F.length q4, .slice z1 S'.length z2])) = _ := fun d => store_at (base := cx.base) (vs := [.slice q1 A.length q2, .slice q3 F.length q4, .slice z1 S'.length z2]) c4 rfl (by simp) rfl (fun h => by cases h) d
      simp only [dO2] at st2
      repeat (first | apply Z1 | apply Z2 | apply Z3 | apply Z4 | apply Z5 rfl | apply Z6 | apply Z7 | apply Z8 | apply Z9 | apply ZA | apply ZB | apply ZC | ((first | apply ZD (by decide) | apply ZN (by decide)); (simp (maxSteps := 9999999) only [go_sem, r2, r4, r5, r6, r12, l0, c1, c2, e2, la, lb, lc, wn, wun, nz, ux, uy, uz, wx, wy, wz, wz1, m1, m2, hX1, ↓l5, hX2, ↓l6, ↓l7, dO, c53, ↓st1, ↓l8, c40, hn', ↓st2, ew, Int.toNat_natCast]; rfl)) | (refine ZE ?_ ?_; · simp only [go_sem]) | (refine ZF ?_ ?_; · simp only [go_sem]))
      have f5 : ∀ (Z : SO) (j : Nat), j ≠ p + 2 → (X4.set (p + 2) Z)[j]? = X4[j]? := fun Z j hj => List.getElem?_set_ne (fun e => hj e.symm)
      exact end_nil ⟨k - 1, by omega, i + 1, _, _, _, S', by omega, ⟨fun j hj => by rw [f5 _ j (by omega), e4.fr j (by omega)]; exact T.fr j hj, by rw [List.length_set]; omega, List.getElem?_set_self (by omega), na.fr (fun b hb _ => f5 _ b (by omega)), nf.fr (fun b hb _ => f5 _ b (by omega)), ns.fr (fun b hb _ => f5 _ b (by omega)), hr.1 rfl⟩, by simp only [go_sem, r2], by simp only [go_sem, r4], by simp only [go_sem, r5], by simp only [go_sem, r6], by simp only [go_sem, ew], rfl, rfl⟩
theorem tame16 {H : SHeap} {v : Value} {A0 F0 : List Int} {S0 : List T3} (hv : BV H v A0 F0 S0) (h1 : A0.length ≤ 9223372036854775807) (h2 : F0.length ≤ 9223372036854775807) (h3 : S0.length ≤ 9223372036854775807) :
    ∃ A F S v' H', M.call 16 [v, .int .i64 8] H = some (v', H', []) ∧ ChkP A F S ∧ Ext H H' ∧ BN H' v' A F S := by
  obtain ⟨a0, f0, s0, rfl, k1, k2, k3⟩ := hv
  have key : ∃ r, (∃ A F S v' H', r = (v', H', ([] : List Nat)) ∧ ChkP A F S ∧ Ext H H' ∧ BN H' v' A F S) ∧ M.call 16 [.agg #[a0, f0, s0], .int .i64 8] H = some r := by
    refine call_ex (f := 16) _ sf16 rfl rfl rfl ?_
    generalize hX : H ++ [SO.cells [a0, f0, s0] 25 false 0 [], .cells [.slice none 0 0, .slice none 0 0, .slice none 0 0] 27 false 0 [], .cells [.slice none 0 0, .slice none 0 0, .slice none 0 0] 27 false 0 []] = X
    have eX : Ext H X := by rw [← hX]; exact Ext.app H _
    have bX : X[H.length]? = some (.cells [a0, f0, s0] 25 false 0 []) := by rw [← hX, app_get0]; rfl
    have b1 : X[H.length + 1]? = some (.cells [.slice none 0 0, .slice none 0 0, .slice none 0 0] 27 false 0 []) := by rw [← hX, app_get]; rfl
    have b2 : X[H.length + 2]? = some (.cells [.slice none 0 0, .slice none 0 0, .slice none 0 0] 27 false 0 []) := by rw [← hX, app_get]; rfl
    have lX : X.length = H.length + 3 := by rw [← hX]; simp
    have l0 : ∀ o, loadS X none (.pointer (some ⟨H.length, o, none⟩)) = [a0, f0, s0][o]? := fun o => by rw [load_rdO, bX]; rfl
    obtain ⟨n, hn1, hn8, hmm⟩ : ∃ n : Nat, 1 ≤ n ∧ n ≤ 8 ∧ (if (if (8 : Int) < A0.length then (8 : Int) else A0.length) > 1 then (if (8 : Int) < A0.length then (8 : Int) else A0.length) else 1) = n := by
      refine ⟨max 1 (min A0.length 8), by omega, by omega, ?_⟩
      split <;> split <;> omega
    obtain ⟨a1, a2, rfl⟩ := k1.shape
    have T0 : Two (H.length + 3) (H.length + 2) X X (.slice none 0 0) (.slice none 0 0) [] [] :=
      ⟨.inl ⟨rfl, rfl, rfl⟩, .inl ⟨rfl, rfl, rfl⟩, (fun _ _ _ _ _ _ h => by cases h), by omega, by omega, b2, fun _ _ _ => rfl⟩
    unfold sf16
    repeat (first | apply Z1 | apply Z2 | apply Z3 | apply Z4 | apply Z5 rfl | apply Z6 | apply Z7 | apply Z8 | apply Z9 | apply ZA | apply ZB | apply ZC | ((first | apply ZD (by decide) | apply ZN (by decide)); (simp (maxSteps := 9999999) only [go_sem, argR, hX, l0, hmm]; rfl)) | (refine ZE ?_ ?_; · simp only [go_sem]) | (refine ZF ?_ ?_; · simp only [go_sem]))
    refine run_loop (tame_basins _ (H := H) (H0 := X) (p := H.length) (lo := H.length + 3) rfl eX.fr (by omega) (Nat.le_refl _) k1 k2 h1 h2 bX hn1 hn8 n _ _ _ _ ⟨0, _, _, [], [], by omega, rfl, rfl, (fun x hx => by cases hx), (fun x hx => by cases hx), T0, by simp only [go_sem], by simp only [go_sem], by simp only [go_sem], by simp only [go_sem], by simp only [go_sem], rfl, rfl⟩) ?_
    rintro ex ρ2 ms2 h4 d2 ⟨rfl, rfl, rfl, va, vf, A, F, hA, hF, hxA, hxF, T, r2, r4, r5, r6⟩
    have hcA : ∀ i, i < A.length → 1 ≤ gI A i ∧ gI A i ≤ 100 := fun i hi => by rw [← gI_at hi]; exact hxA _ (List.getElem_mem hi)
    have hcF : ∀ i, i < F.length → 0 ≤ gI F i ∧ gI F i ≤ 100 := fun i hi => by rw [← gI_at hi]; exact hxF _ (List.getElem_mem hi)
    have nw : ∀ {v : Value} {cs : List Value} {n s : Nat}, Acc (H.length + 3) h4 v cs n s 3 → NewV (H.length + 3) h4 v cs n s := fun {v cs n s} a => by
      rcases a with a | ⟨b, old, rfl, g1, g2, g3, g4, _⟩
      · exact .inl a
      · exact .inr ⟨b, 3, old, rfl, g1, g2, g4, g3⟩
    have TM0 : TM H.length X h4 va vf (.slice none 0 0) A F [] := ⟨fun j hj => T.fr j (by omega) (by omega), T.le, T.cell, nw T.a, nw T.f, .inl ⟨rfl, rfl, rfl⟩,
      ⟨by omega, by omega, by omega, by simp, fun i hi => ⟨(hcA i hi).1, (hcA i hi).2, hcF i (by omega)⟩, fun i hi => by simp at hi⟩⟩
    repeat (first | apply Z1 | apply Z2 | apply Z3 | apply Z4 | apply Z5 rfl | apply Z6 | apply Z7 | apply Z8 | apply Z9 | apply ZA | apply ZB | apply ZC | ((first | apply ZD (by decide) | apply ZN (by decide)); (simp (maxSteps := 9999999) only [go_sem, r2, r4, r5, r6]; rfl)) | (refine ZE ?_ ?_; · simp only [go_sem]) | (refine ZF ?_ ?_; · simp only [go_sem]))
    refine run_loop (tame_sills _ (H := H) (H0 := X) (p := H.length) (a0 := .slice a1 A0.length a2) (f0 := f0) rfl eX.fr (Nat.le_refl _) k3 h3 bX hn1 hn8 (A := A) (F := F) (min S0.length 20) _ _ _ _ ⟨0, va, vf, _, [], by omega, TM0, by simp only [go_sem, r2], by simp only [go_sem, r4], by simp only [go_sem, r5], by simp only [go_sem, r6], by simp only [go_sem], rfl, rfl⟩) ?_
    rintro ex ρ3 ms3 h5 d3 ⟨rfl, rfl, rfl, va, vf, vs, S, T, s4, s5⟩
    obtain ⟨q1, q2, rfl⟩ := T.a.shape
    obtain ⟨q3, q4, rfl⟩ := T.f.shape
    obtain ⟨q5, q6, rfl⟩ := T.s.shape
    have hle := T.le
    have l5 : loadS h5 (some 3) (.pointer (some ⟨H.length + 2, 0, none⟩)) = some (.agg #[.slice q1 A.length q2, .slice q3 F.length q4, .slice q5 S.length q6]) := by rw [load_rdON, T.cell]; rfl
    have c1 : h5[H.length + 1]? = some (.cells [.slice none 0 0, .slice none 0 0, .slice none 0 0] 27 false 0 []) := by rw [T.fr _ (by omega)]; exact b1
    have st : ∀ d, storeS H.length h5 d (H.length + 1) 0 (cellsL (.agg #[.slice q1 A.length q2, .slice q3 F.length q4, .slice q5 S.length q6])) = _ := fun d => store_at (base := H.length) (vs := [.slice q1 A.length q2, .slice q3 F.length q4, .slice q5 S.length q6]) c1 rfl (by simp) rfl (fun h => by cases h) d
    have dO : ∀ d, dirty H.length (H.length + 1) false d = d := fun d => dirty_own (by omega)
    simp only [dO] at st
    have f6 : ∀ (Z : SO) (j : Nat), j ≠ H.length + 1 → (h5.set (H.length + 1) Z)[j]? = h5[j]? := fun Z j hj => List.getElem?_set_ne (fun e => hj e.symm)
    have ld : loadS (h5.set (H.length + 1) (.cells [.slice q1 A.length q2, .slice q3 F.length q4, .slice q5 S.length q6] 27 false 0 [])) (some 3) (.pointer (some ⟨H.length + 1, 0, none⟩)) = some (.agg #[.slice q1 A.length q2, .slice q3 F.length q4, .slice q5 S.length q6]) := by
      rw [load_rdON, List.getElem?_set_self (by omega)]; rfl
    have e6 : ∀ Z, Ext H (h5.set (H.length + 1) Z) := fun Z => ⟨by rw [List.length_set]; omega, fun j hj => by rw [f6 _ j (by omega), T.fr j (by omega), eX.fr j hj]⟩
    obtain ⟨va', vf', vs', h', g1, g2, g3, g4, g5⟩ := gc_bv (e6 (.cells [.slice q1 A.length q2, .slice q3 F.length q4, .slice q5 S.length q6] 27 false 0 [])) ((T.a.fr (fun b hb _ => f6 _ b (by omega))).mono (base' := H.length) (by omega)) ((T.f.fr (fun b hb _ => f6 _ b (by omega))).mono (base' := H.length) (by omega)) ((T.s.fr (fun b hb _ => f6 _ b (by omega))).mono (base' := H.length) (by omega))
    repeat (first | apply Z1 | apply Z2 | apply Z3 | apply Z4 | apply Z5 rfl | apply Z6 | apply Z7 | apply Z8 | apply Z9 | apply ZA | apply ZB | apply ZC | ((first | apply ZD (by decide) | apply ZN (by decide)); (simp (maxSteps := 9999999) only [go_sem, s4, s5, ↓l5, ↓st]; rfl)) | (refine ZE ?_ ?_; · simp only [go_sem]) | (refine ZF ?_ ?_; · simp only [go_sem]))
    exact end_nil ⟨_, ⟨A, F, S, _, _, rfl, T.ok, g2, va', vf', vs', rfl, g3.sl, g4.sl, g5.sl, g5.nil⟩, q_gc [.agg #[.slice q1 A.length q2, .slice q3 F.length q4, .slice q5 S.length q6]] (by simp only [go_sem, s4, ↓ld]) rfl g1 rfl⟩
  obtain ⟨r, ⟨A, F, S, v', H', rfl, k⟩, e⟩ := key
  exact ⟨A, F, S, v', H', e, k⟩
end Go.Proofs.Ytioijehbmgmgkaa.Sh

namespace Go.Proofs.Ytioijehbmgmgkaa.Sh
open Go
set_option maxRecDepth 100000
set_option maxHeartbeats 4000000
theorem sa_three (b o : Nat) : sliceArrS 3 1 (.pointer (some ⟨b, o, none⟩)) none none none = some (.slice (some ⟨b, o, none⟩) 3 3) := (rfl)
attribute [go_sem ↓] sa_three
def cmpI (x y : Int) : Int := if x < y then -1 else if y < x then 1 else 0
def lexC : List Int → List Int → Int
  | [], [] => 0
  | [], _ :: _ => -1
  | _ :: _, [] => 1
  | x :: xs, y :: ys => if cmpI x y = 0 then lexC xs ys else cmpI x y
theorem cmpI_0 {x y : Int} : cmpI x y = 0 ↔ x = y := by
  unfold cmpI; split
  · omega
  · split <;> omega
theorem cmpI_lt {x y : Int} : cmpI x y < 0 ↔ x < y := by
  unfold cmpI; split
  · omega
  · split <;> omega
theorem lexC_lt : ∀ (x y : Int) (xs ys : List Int), lexC (x :: xs) (y :: ys) < 0 ↔ x < y ∨ (x = y ∧ lexC xs ys < 0) := by
  intro x y xs ys
  show (if cmpI x y = 0 then lexC xs ys else cmpI x y) < 0 ↔ _
  by_cases e : x = y
  · rw [if_pos (cmpI_0.2 e)]
    constructor
    · intro h; exact .inr ⟨e, h⟩
    · rintro (h | h)
      · omega
      · exact h.2
  · rw [if_neg (fun h => e (cmpI_0.1 h)), cmpI_lt]
    constructor
    · intro h; exact .inl h
    · rintro (h | h)
      · exact h
      · exact (e h.1).elim
theorem nan105 (x : Int) (h : SHeap) : M.call 105 [.int .i64 x] h = some (.bool false, h, []) := by
  refine call_run sf105 rfl rfl rfl ?_
  unfold sf105
  repeat (first | apply Z1 | apply Z2 | apply Z3 | apply Z4 | apply Z5 rfl | apply Z6 | apply Z7 | apply Z8 | apply Z9 | apply ZA | apply ZB | apply ZC | ((first | apply ZD (by decide) | apply ZN (by decide)); (simp (maxSteps := 9999999) only [go_sem, argR]; rfl)) | (refine ZE ?_ ?_; · simp only [go_sem]) | (refine ZF ?_ ?_; · simp only [go_sem]))
  exact end_nil (q_ret1 _ (by simp only [go_sem]) rfl (take_self _))
theorem cmp91 (x y : Int) (h : SHeap) : M.call 91 [.int .i64 x, .int .i64 y] h = some (.int .i64 (cmpI x y), h, []) := by
  refine call_run sf91 rfl rfl rfl ?_
  unfold sf91
  unfold cmpI
  by_cases e1 : x < y
  · rw [if_pos e1]
    repeat (first | apply Z1 | apply Z2 | apply Z3 | apply Z4 | apply Z5 rfl | apply Z6 | apply Z7 | apply Z8 | apply Z9 | apply ZA | apply ZB | apply ZC | ((first | apply ZD (by decide) | apply ZN (by decide)); (simp (maxSteps := 9999999) only [go_sem, argR, nan105, e1]; rfl)) | (refine ZE ?_ ?_; · simp only [go_sem]) | (refine ZF ?_ ?_; · simp only [go_sem]))
    exact end_nil (q_ret1 _ (by simp only [go_sem]) rfl (take_self _))
  · rw [if_neg e1]
    by_cases e2 : y < x
    · rw [if_pos e2]
      repeat (first | apply Z1 | apply Z2 | apply Z3 | apply Z4 | apply Z5 rfl | apply Z6 | apply Z7 | apply Z8 | apply Z9 | apply ZA | apply ZB | apply ZC | ((first | apply ZD (by decide) | apply ZN (by decide)); (simp (maxSteps := 9999999) only [go_sem, argR, nan105, e1, e2]; rfl)) | (refine ZE ?_ ?_; · simp only [go_sem]) | (refine ZF ?_ ?_; · simp only [go_sem]))
      exact end_nil (q_ret1 _ (by simp only [go_sem]) rfl (take_self _))
    · rw [if_neg e2]
      repeat (first | apply Z1 | apply Z2 | apply Z3 | apply Z4 | apply Z5 rfl | apply Z6 | apply Z7 | apply Z8 | apply Z9 | apply ZA | apply ZB | apply ZC | ((first | apply ZD (by decide) | apply ZN (by decide)); (simp (maxSteps := 9999999) only [go_sem, argR, nan105, e1, e2]; rfl)) | (refine ZE ?_ ?_; · simp only [go_sem]) | (refine ZF ?_ ?_; · simp only [go_sem]))
      exact end_nil (q_ret1 _ (by simp only [go_sem]) rfl (take_self _))
def IL (h : SHeap) (b o : Nat) (l : List Int) : Prop := ∀ (i : Nat) (hi : i < l.length), loadS h none (.pointer (some ⟨b, o + i, none⟩)) = some (.int .i64 l[i])
theorem lex_loop (cx : Cx) {h : SHeap} {ba oa bb ob ca cb : Nat} {a b : List Int} (ha : IL h ba oa a) (hb : IL h bb ob b) (hl : a.length ≤ 1000000) (hl2 : b.length ≤ 1000000) : ∀ k ρ ms h' d', (∃ i : Nat, i + k = a.length ∧ lexC a b = lexC (a.drop i) (b.drop i) ∧ ρ 0 = .slice (some ⟨ba, oa, none⟩) a.length ca ∧ ρ 1 = .slice (some ⟨bb, ob, none⟩) b.length cb ∧ ρ 9 = .slice (some ⟨ba, oa, none⟩) a.length ca ∧ ρ 10 = .int .i64 a.length ∧ ρ 11 = .int .i64 i ∧ ms = [] ∧ h' = h ∧ d' = []) →
    LoopW M cx 6 sf74L0 ρ ms h' d' (fun ex ρ' ms' h' d' => ms' = [] ∧ h' = h ∧ d' = [] ∧ ((ex = .exit 0 ∧ lexC a b = (if a.length < b.length then -1 else 0) ∧ ρ' 0 = .slice (some ⟨ba, oa, none⟩) a.length ca ∧ ρ' 1 = .slice (some ⟨bb, ob, none⟩) b.length cb) ∨ (ex = .ret ∧ ρ' 4 = .int .i64 (lexC a b)))) := by
  refine loop_run _ ?_
  rintro k ρ ms h' d' ⟨i, hi, he, r0, r1, r9, r10, r11, rfl, rfl, rfl⟩
  unfold sf74L0
  by_cases hk : k = 0
  · have e1 : ¬ ((i : Int) < a.length) := by omega
    repeat (first | apply Z1 | apply Z2 | apply Z3 | apply Z4 | apply Z5 rfl | apply Z6 | apply Z7 | apply Z8 | apply Z9 | apply ZA | apply ZB | apply ZC | ((first | apply ZD (by decide) | apply ZN (by decide)); (simp (maxSteps := 9999999) only [go_sem, r9, r10, r11, e1]; rfl)) | (refine ZE ?_ ?_; · simp only [go_sem]) | (refine ZF ?_ ?_; · simp only [go_sem]))
    refine end_nil ⟨rfl, rfl, rfl, .inl ⟨rfl, ?_, by simp only [go_sem, r0], by simp only [go_sem, r1]⟩⟩
    rw [he, List.drop_eq_nil_of_le (by omega)]
    by_cases c : a.length < b.length
    · rw [if_pos c]
      obtain ⟨y, ys, e⟩ : ∃ y ys, b.drop i = y :: ys := by
        cases e : b.drop i with
        | nil => have := congrArg List.length e; simp at this; omega
        | cons y ys => exact ⟨y, ys, rfl⟩
      rw [e]; rfl
    · rw [if_neg c, List.drop_eq_nil_of_le (by omega)]; rfl
  · have e1 : ((i : Int) < a.length) := by omega
    have hia : i < a.length := by omega
    have p1 : (0 : Int) ≤ (i : Int) := by omega
    have l1 := ha i hia
    have da : a.drop i = a[i] :: a.drop (i + 1) := by simp
    by_cases c : i < b.length
    · have e2 : ¬ ((b.length : Int) ≤ i) := by omega
      have p2 : (i : Int) < b.length := by omega
      have l2 := hb i c
      have db : b.drop i = b[i] :: b.drop (i + 1) := by simp
      have ew : IntKind.i64.wrap ((i : Int) + 1) = ((i + 1 : Nat) : Int) := by rw [wrap64 (by omega) (by omega)]; rfl
      rw [da, db] at he
      generalize a[i] = x at *
      generalize b[i] = y at *
      have he' : lexC a b = (if cmpI x y = 0 then lexC (a.drop (i + 1)) (b.drop (i + 1)) else cmpI x y) := he
      by_cases z : cmpI x y = 0
      · rw [if_pos z] at he'
        repeat (first | apply Z1 | apply Z2 | apply Z3 | apply Z4 | apply Z5 rfl | apply Z6 | apply Z7 | apply Z8 | apply Z9 | apply ZA | apply ZB | apply ZC | ((first | apply ZD (by decide) | apply ZN (by decide)); (simp (maxSteps := 9999999) only [go_sem, r0, r1, r9, r10, r11, e1, p1, l1, e2, p2, l2, cmp91, z, ew]; rfl)) | (refine ZE ?_ ?_; · simp only [go_sem]) | (refine ZF ?_ ?_; · simp only [go_sem]))
        exact end_nil ⟨k - 1, by omega, i + 1, by omega, he', by simp only [go_sem, r0], by simp only [go_sem, r1], by simp only [go_sem, r9], by simp only [go_sem, r10], by simp only [go_sem, ew], rfl, rfl, rfl⟩
      · rw [if_neg z] at he'
        repeat (first | apply Z1 | apply Z2 | apply Z3 | apply Z4 | apply Z5 rfl | apply Z6 | apply Z7 | apply Z8 | apply Z9 | apply ZA | apply ZB | apply ZC | ((first | apply ZD (by decide) | apply ZN (by decide)); (simp (maxSteps := 9999999) only [go_sem, r0, r1, r9, r10, r11, e1, p1, l1, e2, p2, l2, cmp91, z]; rfl)) | (refine ZE ?_ ?_; · simp only [go_sem]) | (refine ZF ?_ ?_; · simp only [go_sem]))
        exact end_nil ⟨rfl, rfl, rfl, .inr ⟨rfl, by rw [he']; simp only [go_sem]⟩⟩
    · have e2 : ((b.length : Int) ≤ i) := by omega
      repeat (first | apply Z1 | apply Z2 | apply Z3 | apply Z4 | apply Z5 rfl | apply Z6 | apply Z7 | apply Z8 | apply Z9 | apply ZA | apply ZB | apply ZC | ((first | apply ZD (by decide) | apply ZN (by decide)); (simp (maxSteps := 9999999) only [go_sem, r0, r1, r9, r10, r11, e1, p1, l1, e2]; rfl)) | (refine ZE ?_ ?_; · simp only [go_sem]) | (refine ZF ?_ ?_; · simp only [go_sem]))
      refine end_nil ⟨rfl, rfl, rfl, .inr ⟨rfl, ?_⟩⟩
      rw [he, da, List.drop_eq_nil_of_le (show b.length ≤ i by omega)]
      simp only [go_sem]
      rfl
theorem lex74 {h : SHeap} {ba oa bb ob ca cb : Nat} {a b : List Int} (ha : IL h ba oa a) (hb : IL h bb ob b) (hl : a.length ≤ 1000000) (hl2 : b.length ≤ 1000000) {na nb : Nat} (hna : na = a.length) (hnb : nb = b.length) : M.call 74 [.slice (some ⟨ba, oa, none⟩) na ca, .slice (some ⟨bb, ob, none⟩) nb cb] h = some (.int .i64 (lexC a b), h, []) := by
  subst hna hnb
  refine call_run sf74 rfl rfl rfl ?_
  unfold sf74
  repeat (first | apply Z1 | apply Z2 | apply Z3 | apply Z4 | apply Z5 rfl | apply Z6 | apply Z7 | apply Z8 | apply Z9 | apply ZA | apply ZB | apply ZC | ((first | apply ZD (by decide) | apply ZN (by decide)); (simp (maxSteps := 9999999) only [go_sem, argR]; rfl)) | (refine ZE ?_ ?_; · simp only [go_sem]) | (refine ZF ?_ ?_; · simp only [go_sem]))
  refine run_loop (lex_loop (ca := ca) (cb := cb) _ ha hb hl hl2 a.length _ _ _ _ ⟨0, by omega, by simp, by simp only [go_sem, argR], by simp only [go_sem, argR], by simp only [go_sem, argR], by simp only [go_sem, argR], by (simp only [go_sem]) <;> rfl, rfl, rfl, rfl⟩) ?_
  rintro ex ρ' ms' h1 d1 ⟨rfl, rfl, rfl, ⟨rfl, he, k0, k1⟩ | ⟨rfl, k4⟩⟩
  · by_cases c : a.length < b.length
    · have e1 : (a.length : Int) < b.length := by omega
      rw [if_pos c] at he
      rw [he]
      repeat (first | apply Z1 | apply Z2 | apply Z3 | apply Z4 | apply Z5 rfl | apply Z6 | apply Z7 | apply Z8 | apply Z9 | apply ZA | apply ZB | apply ZC | ((first | apply ZD (by decide) | apply ZN (by decide)); (simp (maxSteps := 9999999) only [go_sem, k0, k1, e1]; rfl)) | (refine ZE ?_ ?_; · simp only [go_sem]) | (refine ZF ?_ ?_; · simp only [go_sem]))
      exact end_nil (q_ret1 _ (by simp only [go_sem]) rfl (take_self _))
    · have e1 : ¬ (a.length : Int) < b.length := by omega
      rw [if_neg c] at he
      rw [he]
      repeat (first | apply Z1 | apply Z2 | apply Z3 | apply Z4 | apply Z5 rfl | apply Z6 | apply Z7 | apply Z8 | apply Z9 | apply ZA | apply ZB | apply ZC | ((first | apply ZD (by decide) | apply ZN (by decide)); (simp (maxSteps := 9999999) only [go_sem, k0, k1, e1]; rfl)) | (refine ZE ?_ ?_; · simp only [go_sem]) | (refine ZF ?_ ?_; · simp only [go_sem]))
      exact end_nil (q_ret1 _ (by simp only [go_sem]) rfl (take_self _))
  · repeat (first | apply Z1 | apply Z2 | apply Z3 | apply Z4 | apply Z5 rfl | apply Z6 | apply Z7 | apply Z8 | apply Z9 | apply ZA | apply ZB | apply ZC | ((first | apply ZD (by decide) | apply ZN (by decide)); (simp (maxSteps := 9999999) only [go_sem]; rfl)) | (refine ZE ?_ ?_; · simp only [go_sem]) | (refine ZF ?_ ?_; · simp only [go_sem]))
    exact end_nil (q_ret1 _ (by simp only [go_sem, k4]) rfl (take_self _))
def l3 (x : T3) : List Int := [x.1, x.2.1, x.2.2]
theorem lex3 (x y : T3) : lexC (l3 x) (l3 y) < 0 ↔ lessT x y := by
  unfold l3 lessT
  rw [lexC_lt, lexC_lt, lexC_lt]
  have : ¬ lexC [] [] < 0 := by decide
  simp [this]
theorem IL.of3 {h : SHeap} {b o : Nat} {x y z : Int} (h0 : loadS h none (.pointer (some ⟨b, o, none⟩)) = some (.int .i64 x)) (h1 : loadS h none (.pointer (some ⟨b, o + 1, none⟩)) = some (.int .i64 y)) (h2 : loadS h none (.pointer (some ⟨b, o + 2, none⟩)) = some (.int .i64 z)) : IL h b o (l3 (x, y, z)) := by
  intro i hi
  have hi : i < 3 := hi
  have : i = 0 ∨ i = 1 ∨ i = 2 := by omega
  rcases this with rfl | rfl | rfl
  · exact h0
  · exact h1
  · exact h2
def rngB (lo hi x : Int) : Bool := decide (x < lo) || decide (x > hi)
theorem out94 {h : SHeap} {b1 b2 : Nat} {lo hi x : Int} (l1 : loadS h none (.pointer (some ⟨b1, 0, none⟩)) = some (.int .i64 lo)) (l2 : loadS h none (.pointer (some ⟨b2, 0, none⟩)) = some (.int .i64 hi)) :
    M.call 94 [.int .i64 x, .pointer (some ⟨b1, 0, none⟩), .pointer (some ⟨b2, 0, none⟩)] h = some (.bool (rngB lo hi x), h, []) := by
  refine call_run sf94 rfl rfl rfl ?_
  unfold sf94
  by_cases c1 : x < lo
  · have : rngB lo hi x = true := by unfold rngB; rw [decide_eq_true c1]; rfl
    rw [this]
    repeat (first | apply Z1 | apply Z2 | apply Z3 | apply Z4 | apply Z5 rfl | apply Z6 | apply Z7 | apply Z8 | apply Z9 | apply ZA | apply ZB | apply ZC | ((first | apply ZD (by decide) | apply ZN (by decide)); (simp (maxSteps := 9999999) only [go_sem, argR, l1, l2, c1]; rfl)) | (refine ZE ?_ ?_; · simp only [go_sem]) | (refine ZF ?_ ?_; · simp only [go_sem]))
    exact end_nil (q_ret1 _ (by simp only [go_sem]) rfl (take_self _))
  · by_cases c2 : x > hi
    · have : rngB lo hi x = true := by unfold rngB; rw [decide_eq_true c2, Bool.or_true]
      rw [this]
      repeat (first | apply Z1 | apply Z2 | apply Z3 | apply Z4 | apply Z5 rfl | apply Z6 | apply Z7 | apply Z8 | apply Z9 | apply ZA | apply ZB | apply ZC | ((first | apply ZD (by decide) | apply ZN (by decide)); (simp (maxSteps := 9999999) only [go_sem, argR, l1, l2, c1, c2]; rfl)) | (refine ZE ?_ ?_; · simp only [go_sem]) | (refine ZF ?_ ?_; · simp only [go_sem]))
      exact end_nil (q_ret1 _ (by simp only [go_sem]) rfl (take_self _))
    · have : rngB lo hi x = false := by unfold rngB; rw [decide_eq_false c1, decide_eq_false c2]; rfl
      rw [this]
      repeat (first | apply Z1 | apply Z2 | apply Z3 | apply Z4 | apply Z5 rfl | apply Z6 | apply Z7 | apply Z8 | apply Z9 | apply ZA | apply ZB | apply ZC | ((first | apply ZD (by decide) | apply ZN (by decide)); (simp (maxSteps := 9999999) only [go_sem, argR, l1, l2, c1, c2]; rfl)) | (refine ZE ?_ ?_; · simp only [go_sem]) | (refine ZF ?_ ?_; · simp only [go_sem]))
      exact end_nil (q_ret1 _ (by simp only [go_sem]) rfl (take_self _))
theorem idx_loop (cx : Cx) {h : SHeap} {b1 b2 : Nat} {lo hi : Int} (l1 : loadS h none (.pointer (some ⟨b1, 0, none⟩)) = some (.int .i64 lo)) (l2 : loadS h none (.pointer (some ⟨b2, 0, none⟩)) = some (.int .i64 hi)) {v : Value} {l : List Int} (hv : IS h v l) (hlen : l.length ≤ 9223372036854775807) :
    ∀ k ρ ms h' d', (∃ i : Nat, i + k = l.length ∧ (∀ m, m < i → rngB lo hi (gI l m) = false) ∧ ρ 0 = v ∧ ρ 1 = .func (.func 94) #[] #[.pointer (some ⟨b1, 0, none⟩), .pointer (some ⟨b2, 0, none⟩)] ∧ ρ 7 = .int .i64 l.length ∧ ρ 8 = .int .i64 i ∧ ms = [] ∧ h' = h ∧ d' = []) →
    LoopW M cx 5 sf106L0 ρ ms h' d' (fun ex ρ' ms' h' d' => ms' = [] ∧ h = h' ∧ d' = [] ∧ ((ex = .exit 0 ∧ ∀ m, m < l.length → rngB lo hi (gI l m) = false) ∨ (ex = .ret ∧ ∃ i : Nat, i < l.length ∧ rngB lo hi (gI l i) = true ∧ ρ' 4 = .int .i64 i))) := by
  refine loop_run _ ?_
  rintro k ρ ms h' d' ⟨i, hk, hno, r0, r1, r7, r8, rfl, rfl, rfl⟩
  unfold sf106L0
  by_cases c : k = 0
  · have e1 : ¬ ((i : Int) < l.length) := by omega
    repeat (first | apply Z1 | apply Z2 | apply Z3 | apply Z4 | apply Z5 rfl | apply Z6 | apply Z7 | apply Z8 | apply Z9 | apply ZA | apply ZB | apply ZC | ((first | apply ZD (by decide) | apply ZN (by decide)); (simp (maxSteps := 9999999) only [go_sem, r0, r1, r7, r8, e1]; rfl)) | (refine ZE ?_ ?_; · simp only [go_sem]) | (refine ZF ?_ ?_; · simp only [go_sem]))
    exact end_nil ⟨rfl, rfl, rfl, .inl ⟨rfl, fun m hm => hno m (by omega)⟩⟩
  · have e1 : ((i : Int) < l.length) := by omega
    have e2 : (0 : Int) ≤ i := by omega
    have hil : i < l.length := by omega
    have ew : IntKind.i64.wrap ((i : Int) + 1) = ((i + 1 : Nat) : Int) := by rw [wrap64 (by omega) (by omega)]; rfl
    obtain ⟨b, o, cp, rfl, ld⟩ := hv.ld (by omega)
    have lp := ld i hil
    rw [gI_at hil] at lp
    have cl := out94 (x := gI l i) l1 l2
    cases cc : rngB lo hi (gI l i) with
    | true =>
      rw [cc] at cl
      repeat (first | apply Z1 | apply Z2 | apply Z3 | apply Z4 | apply Z5 rfl | apply Z6 | apply Z7 | apply Z8 | apply Z9 | apply ZA | apply ZB | apply ZC | ((first | apply ZD (by decide) | apply ZN (by decide)); (simp (maxSteps := 9999999) only [go_sem, r0, r1, r7, r8, e1, e2, lp, cl, Int.toNat_natCast]; rfl)) | (refine ZE ?_ ?_; · simp only [go_sem]) | (refine ZF ?_ ?_; · simp only [go_sem]))
      exact end_nil ⟨rfl, rfl, rfl, .inr ⟨rfl, i, hil, cc, by simp only [go_sem]⟩⟩
    | false =>
      rw [cc] at cl
      repeat (first | apply Z1 | apply Z2 | apply Z3 | apply Z4 | apply Z5 rfl | apply Z6 | apply Z7 | apply Z8 | apply Z9 | apply ZA | apply ZB | apply ZC | ((first | apply ZD (by decide) | apply ZN (by decide)); (simp (maxSteps := 9999999) only [go_sem, r0, r1, r7, r8, e1, e2, lp, cl, ew, Int.toNat_natCast]; rfl)) | (refine ZE ?_ ?_; · simp only [go_sem]) | (refine ZF ?_ ?_; · simp only [go_sem]))
      exact end_nil ⟨k - 1, by omega, i + 1, by omega, fun m hm => by
        by_cases cm : m = i
        · subst cm; exact cc
        · exact hno m (by omega), by simp only [go_sem, r0], by simp only [go_sem, r1], by simp only [go_sem, r7], by simp only [go_sem, ew], rfl, rfl, rfl⟩
theorem has93 {h : SHeap} {b1 b2 : Nat} {lo hi : Int} (l1 : loadS h none (.pointer (some ⟨b1, 0, none⟩)) = some (.int .i64 lo)) (l2 : loadS h none (.pointer (some ⟨b2, 0, none⟩)) = some (.int .i64 hi)) {v : Value} {l : List Int} (hv : IS h v l) (hlen : l.length ≤ 9223372036854775807) :
    ∃ r : Bool, (r = true ↔ ∃ m, m < l.length ∧ rngB lo hi (gI l m) = true) ∧ M.call 93 [v, .func (.func 94) #[] #[.pointer (some ⟨b1, 0, none⟩), .pointer (some ⟨b2, 0, none⟩)]] h = some (.bool r, h, []) := by
  have key : ∃ q, (∃ z : Int, q = (Value.int .i64 z, h, ([] : List Nat)) ∧ (z ≥ 0 ↔ ∃ m, m < l.length ∧ rngB lo hi (gI l m) = true)) ∧ M.call 106 [v, .func (.func 94) #[] #[.pointer (some ⟨b1, 0, none⟩), .pointer (some ⟨b2, 0, none⟩)]] h = some q := by
    refine call_ex (f := 106) _ sf106 rfl rfl rfl ?_
    obtain ⟨a, c, rfl⟩ := hv.shape
    unfold sf106
    repeat (first | apply Z1 | apply Z2 | apply Z3 | apply Z4 | apply Z5 rfl | apply Z6 | apply Z7 | apply Z8 | apply Z9 | apply ZA | apply ZB | apply ZC | ((first | apply ZD (by decide) | apply ZN (by decide)); (simp (maxSteps := 9999999) only [go_sem, argR]; rfl)) | (refine ZE ?_ ?_; · simp only [go_sem]) | (refine ZF ?_ ?_; · simp only [go_sem]))
    refine run_loop (idx_loop _ l1 l2 hv hlen l.length _ _ _ _ ⟨0, by omega, fun m hm => by omega, by simp only [go_sem, argR], by simp only [go_sem, argR], by simp only [go_sem], by simp only [go_sem], rfl, rfl, rfl⟩) ?_
    rintro ex ρ2 ms2 h2 d2 ⟨rfl, rfl, rfl, ⟨rfl, hn⟩ | ⟨rfl, i, hi, hy, r4⟩⟩
    · repeat (first | apply Z1 | apply Z2 | apply Z3 | apply Z4 | apply Z5 rfl | apply Z6 | apply Z7 | apply Z8 | apply Z9 | apply ZA | apply ZB | apply ZC | ((first | apply ZD (by decide) | apply ZN (by decide)); (simp (maxSteps := 9999999) only [go_sem]; rfl)) | (refine ZE ?_ ?_; · simp only [go_sem]) | (refine ZF ?_ ?_; · simp only [go_sem]))
      exact end_nil ⟨_, ⟨-1, rfl, ⟨fun h => by omega, fun ⟨m, hm, hx⟩ => by rw [hn m hm] at hx; cases hx⟩⟩, q_ret1 _ (by simp only [go_sem]) rfl (take_self _)⟩
    · repeat (first | apply Z1 | apply Z2 | apply Z3 | apply Z4 | apply Z5 rfl | apply Z6 | apply Z7 | apply Z8 | apply Z9 | apply ZA | apply ZB | apply ZC | ((first | apply ZD (by decide) | apply ZN (by decide)); (simp (maxSteps := 9999999) only [go_sem]; rfl)) | (refine ZE ?_ ?_; · simp only [go_sem]) | (refine ZF ?_ ?_; · simp only [go_sem]))
      exact end_nil ⟨_, ⟨i, rfl, ⟨fun _ => ⟨i, hi, hy⟩, fun _ => by omega⟩⟩, q_ret1 _ (by simp only [go_sem, r4]) rfl (take_self _)⟩
  obtain ⟨q, ⟨z, rfl, hz⟩, e⟩ := key
  by_cases c : z ≥ 0
  · refine ⟨true, ⟨fun _ => hz.1 c, fun _ => rfl⟩, ?_⟩
    refine call_run sf93 rfl rfl rfl ?_
    unfold sf93
    repeat (first | apply Z1 | apply Z2 | apply Z3 | apply Z4 | apply Z5 rfl | apply Z6 | apply Z7 | apply Z8 | apply Z9 | apply ZA | apply ZB | apply ZC | ((first | apply ZD (by decide) | apply ZN (by decide)); (simp (maxSteps := 9999999) only [go_sem, argR, e, c]; rfl)) | (refine ZE ?_ ?_; · simp only [go_sem]) | (refine ZF ?_ ?_; · simp only [go_sem]))
    exact end_nil (q_ret1 _ (by simp only [go_sem]) rfl (take_self _))
  · refine ⟨false, ⟨fun h => (by cases h), fun h => (c (hz.2 h)).elim⟩, ?_⟩
    refine call_run sf93 rfl rfl rfl ?_
    unfold sf93
    repeat (first | apply Z1 | apply Z2 | apply Z3 | apply Z4 | apply Z5 rfl | apply Z6 | apply Z7 | apply Z8 | apply Z9 | apply ZA | apply ZB | apply ZC | ((first | apply ZD (by decide) | apply ZN (by decide)); (simp (maxSteps := 9999999) only [go_sem, argR, e, c]; rfl)) | (refine ZE ?_ ?_; · simp only [go_sem]) | (refine ZF ?_ ?_; · simp only [go_sem]))
    exact end_nil (q_ret1 _ (by simp only [go_sem]) rfl (take_self _))
theorem are80 {H : SHeap} {v : Value} {l : List Int} (hv : IS H v l) (hlen : l.length ≤ 9223372036854775807) (lo hi : Int) : ∃ r : Bool, (r = true ↔ ∀ m, m < l.length → lo ≤ gI l m ∧ gI l m ≤ hi) ∧ M.call 80 [v, .int .i64 lo, .int .i64 hi] H = some (.bool r, H, []) := by
  generalize hX : H ++ [SO.cells [Value.int .i64 lo] 3 true 0 [], .cells [.int .i64 hi] 3 true 0 []] = X
  have eX : Ext H X := by rw [← hX]; exact Ext.app H _
  obtain ⟨r, hr, c⟩ := has93 (h := X) (b1 := H.length) (b2 := H.length + 1) (lo := lo) (hi := hi) (by rw [← hX, load_app0]; rfl) (by rw [← hX, load_app]; rfl) (hv.fr eX.fr) hlen
  refine ⟨!r, ?_, ?_⟩
  · have e : (!r) = true ↔ ¬ r = true := by cases r <;> simp
    rw [e, hr]
    constructor
    · intro h m hm
      by_cases k : rngB lo hi (gI l m) = true
      · exact (h ⟨m, hm, k⟩).elim
      · unfold rngB at k
        simp at k
        exact k
    · rintro h ⟨m, hm, k⟩
      have := h m hm
      unfold rngB at k
      simp at k
      omega
  · have tX := eX.take
    refine call_run sf80 rfl rfl rfl ?_
    unfold sf80
    cases r with
    | true =>
      repeat (first | apply Z1 | apply Z2 | apply Z3 | apply Z4 | apply Z5 rfl | apply Z6 | apply Z7 | apply Z8 | apply Z9 | apply ZA | apply ZB | apply ZC | ((first | apply ZD (by decide) | apply ZN (by decide)); (simp (maxSteps := 9999999) only [go_sem, argR, hX, c]; rfl)) | (refine ZE ?_ ?_; · simp only [go_sem]) | (refine ZF ?_ ?_; · simp only [go_sem]))
      exact end_nil (q_ret1 _ (by simp only [go_sem]) rfl tX)
    | false =>
      repeat (first | apply Z1 | apply Z2 | apply Z3 | apply Z4 | apply Z5 rfl | apply Z6 | apply Z7 | apply Z8 | apply Z9 | apply ZA | apply ZB | apply ZC | ((first | apply ZD (by decide) | apply ZN (by decide)); (simp (maxSteps := 9999999) only [go_sem, argR, hX, c]; rfl)) | (refine ZE ?_ ?_; · simp only [go_sem]) | (refine ZF ?_ ?_; · simp only [go_sem]))
      exact end_nil (q_ret1 _ (by simp only [go_sem]) rfl tX)
end Go.Proofs.Ytioijehbmgmgkaa.Sh

namespace Go.Proofs.Ytioijehbmgmgkaa.Sh
open Go
set_option maxRecDepth 100000
set_option maxHeartbeats 4000000
def seenM : List T3 → List (Value × Value)
  | [] => []
  | s :: l => (.int .i64 s.2.2, .bool true) :: seenM l
theorem seenM_app : ∀ l m : List T3, seenM (l ++ m) = seenM l ++ seenM m
  | [], _ => rfl
  | s :: l, m => by simp [seenM, seenM_app l m]
theorem eqI (a b : Int) : eqS .int (.int .i64 a) (.int .i64 b) = some (decide (a = b)) := by
  show some (a == b) = _
  by_cases c : a = b
  · subst c; simp
  · rw [decide_eq_false c, beq_eq_false_iff_ne.2 c]
theorem seen_find (z : Int) : ∀ l : List T3, findS .int (.int .i64 z) (seenM l) = some (if (∃ s ∈ l, s.2.2 = z) then some (.bool true) else none)
  | [] => by simp [seenM, findS]
  | s :: l => by
    have ih := seen_find z l
    show (match eqS .int (.int .i64 z) (.int .i64 s.2.2) with | some true => some (some (Value.bool true)) | some false => findS .int (.int .i64 z) (seenM l) | none => none) = _
    rw [eqI]
    by_cases c : z = s.2.2
    · rw [decide_eq_true c, if_pos ⟨s, List.mem_cons_self .., c.symm⟩]
    · rw [decide_eq_false c]
      show findS _ _ _ = _
      rw [ih]
      congr 1
      have : (∃ x ∈ l, x.2.2 = z) ↔ ∃ x ∈ s :: l, x.2.2 = z := by
        constructor
        · rintro ⟨x, h1, h2⟩; exact ⟨x, List.mem_cons_of_mem _ h1, h2⟩
        · rintro ⟨x, h1, h2⟩
          rcases List.mem_cons.1 h1 with rfl | h1
          · exact (c h2.symm).elim
          · exact ⟨x, h1, h2⟩
      simp only [this]
theorem seen_upd (z : Int) : ∀ l : List T3, (¬ ∃ s ∈ l, s.2.2 = z) → updS .int (.int .i64 z) (.bool true) (seenM l) = some (seenM l ++ [(.int .i64 z, .bool true)])
  | [], _ => by simp [seenM, updS]
  | s :: l, h => by
    have ih := seen_upd z l (fun ⟨x, h1, h2⟩ => h ⟨x, List.mem_cons_of_mem _ h1, h2⟩)
    have c : ¬ z = s.2.2 := fun e => h ⟨s, List.mem_cons_self .., e.symm⟩
    show (match eqS .int (.int .i64 z) (.int .i64 s.2.2) with | some true => some ((Value.int .i64 z, Value.bool true) :: seenM l) | some false => (match updS .int (.int .i64 z) (.bool true) (seenM l) with | some r => some ((.int .i64 s.2.2, .bool true) :: r) | none => none) | none => none) = _
    rw [eqI, decide_eq_false c, ih]
    rfl
theorem seen_take {S : List T3} {i : Nat} (hi : i ≤ S.length) {z : Int} : (∃ s ∈ S.take i, s.2.2 = z) ↔ ¬ ∀ k, k < i → (gT S k).2.2 ≠ z := by
  constructor
  · rintro ⟨s, h1, h2⟩ h
    obtain ⟨k, hk, e⟩ := List.mem_iff_getElem.1 h1
    rw [List.length_take] at hk
    have := h k (by omega)
    rw [List.getElem_take, gT_at] at e
    exact this (by rw [e]; exact h2)
  · intro h
    by_cases c : ∃ k, k < i ∧ (gT S k).2.2 = z
    · obtain ⟨k, hk, e⟩ := c
      have hl : k < S.length := by omega
      refine ⟨gT S k, ?_, e⟩
      rw [← gT_at hl]
      exact List.mem_iff_getElem.2 ⟨k, by rw [List.length_take]; omega, by rw [List.getElem_take]⟩
    · exact (h fun k hk e => c ⟨k, hk, e⟩).elim
theorem check_loop (cx : Cx) {H : SHeap} {va vf vs : Value} {A F : List Int} {S : List T3} (hb : cx.base = H.length) (hf : IS H vf F) (hs : ES H vs S) (hlen : S.length ≤ 20) (hn1 : 1 ≤ A.length) (hn : A.length ≤ 8) (hfl : F.length = A.length) :
    ∀ k ρ ms h' d', (∃ i : Nat, i + k = S.length ∧ (∀ m, m < i → okS A.length F S m) ∧ Ext (H ++ [.cells [va, vf, vs] 25 false 0 []]) h' ∧ h'[H.length + 1]? = some (.map true (seenM (S.take i))) ∧
      ρ 1 = .pointer (some ⟨H.length, 0, none⟩) ∧ ρ 3 = .int .i64 A.length ∧ ρ 4 = .map (some (H.length + 1)) ∧ ρ 43 = vs ∧ ρ 44 = .int .i64 S.length ∧ ρ 45 = .int .i64 i ∧ ms = [] ∧ d' = []) →
    LoopW M cx 7 sf51L0 ρ ms h' d' (fun ex ρ' ms' h' d' => ms' = [] ∧ d' = [] ∧ Ext H h' ∧ ((ex = .exit 0 ∧ ∀ m, m < S.length → okS A.length F S m) ∨ (ex = .ret ∧ ρ' 2 = .int .i64 90 ∧ ¬ ∀ m, m < S.length → okS A.length F S m))) := by
  refine loop_run _ ?_
  rintro k ρ ms h' d' ⟨i, hk, hok, E, hmap, r1, r3, r4, r43, r44, r45, rfl, rfl⟩
  unfold sf51L0
  have E0 := Ext.of_app E
  by_cases c : k = 0
  · have e1 : ¬ ((i : Int) < S.length) := by omega
    repeat (first | apply Z1 | apply Z2 | apply Z3 | apply Z4 | apply Z5 rfl | apply Z6 | apply Z7 | apply Z8 | apply Z9 | apply ZA | apply ZB | apply ZC | ((first | apply ZD (by decide) | apply ZN (by decide)); (simp (maxSteps := 9999999) only [go_sem, r1, r3, r4, r43, r44, r45, e1]; rfl)) | (refine ZE ?_ ?_; · simp only [go_sem]) | (refine ZF ?_ ?_; · simp only [go_sem]))
    have : i = S.length := by omega
    subst this
    exact end_nil ⟨rfl, rfl, E0, .inl ⟨rfl, hok⟩⟩
  · have e1 : ((i : Int) < S.length) := by omega
    have e2 : (0 : Int) ≤ i := by omega
    have hi : i < S.length := by omega
    have ew : IntKind.i64.wrap ((i : Int) + 1) = ((i + 1 : Nat) : Int) := by rw [wrap64 (by omega) (by omega)]; rfl
    have hs' := hs.fr E0.fr
    obtain ⟨b, o, cp, hvs, ld⟩ := hs'.ld (by omega)
    have lg := (ld i hi).1
    have hle := E.le
    have hle : H.length + 1 ≤ h'.length := by simpa using hle
    have hml : H.length + 1 < h'.length := (List.getElem?_eq_some_iff.1 hmap).1
    have bB : h'[H.length]? = some (.cells [va, vf, vs] 25 false 0 []) := by rw [E.fr _ (by simp), app_get0]; rfl
    have hdup := seen_take (S := S) (i := i) (by omega) (z := (gT S i).2.2)
    have hfind := seen_find (gT S i).2.2 (S.take i)
    have hupd := seen_upd (gT S i).2.2 (S.take i)
    have htk : S.take (i + 1) = S.take i ++ [gT S i] := by rw [List.take_add_one, List.getElem?_eq_getElem hi, gT_at hi]; rfl
    have hsn : seenM (S.take (i + 1)) = seenM (S.take i) ++ [(.int .i64 (gT S i).2.2, .bool true)] := by rw [htk, seenM_app]; rfl
    rw [gT_at hi] at lg
    have bad : ¬ okS A.length F S i → ¬ ∀ m, m < S.length → okS A.length F S m := fun h k => h (k i hi)
    generalize hX : h' ++ [SO.cells [Value.int .i64 (gT S i).1, .int .i64 (gT S i).2.1, .int .i64 (gT S i).2.2] 78 true 0 []] = X
    have eX : Ext h' X := by rw [← hX]; exact Ext.app h' _
    have l6 : ∀ o, loadS X none (.pointer (some ⟨h'.length, o, none⟩)) = [Value.int .i64 (gT S i).1, .int .i64 (gT S i).2.1, .int .i64 (gT S i).2.2][o]? := fun o => by rw [← hX, load_app0]; rfl
    have E1 : Ext H X := E0.trans eX
    have hm : X[H.length + 1]? = some (.map true (seenM (S.take i))) := by rw [eX.fr _ hml]; exact hmap
    obtain ⟨b2, o2, cp2, hvs2, ld2⟩ := (hs.fr E1.fr).ld (by omega)
    obtain ⟨fb', fo, fc, hvf', ldf⟩ := (hf.fr E1.fr).ld (by omega)
    subst hvs hvf'
    cases hvs2
    have hprev : 0 < i → IntKind.i64.wrap ((i : Int) - 1) = ((i - 1 : Nat) : Int) ∧ (0 : Int) ≤ ((i - 1 : Nat) : Int) ∧ ((i - 1 : Nat) : Int) < S.length ∧ IL X b (o + (i - 1) * 3) (l3 (gT S (i - 1))) := fun h => by
      have := ld2 (i - 1) (by omega)
      rw [gT_at (show i - 1 < S.length by omega)] at this
      exact ⟨by rw [wrap64 (by omega) (by omega)]; omega, by omega, by omega, IL.of3 this.2.1 this.2.2.1 this.2.2.2⟩
    have IL6 : IL X h'.length 0 (l3 (gT S i)) := IL.of3 (by rw [l6]; rfl) (by rw [l6]; rfl) (by rw [l6]; rfl)
    have hnx : okS A.length F S i → ∀ m, m < i + 1 → okS A.length F S m := fun h m hm => by
      by_cases cm : m = i
      · subst cm; exact h
      · exact hok m (by omega)
    have hless := lex3 (gT S (i - 1)) (gT S i)
    unfold okS at bad hnx
    have lB1 : loadS X none (.pointer (some ⟨H.length, 1, none⟩)) = some (.slice (some ⟨fb', fo, none⟩) F.length fc) := by rw [eX.load (by omega), load_rdO, bB]; rfl
    have lB2 : loadS X none (.pointer (some ⟨H.length, 2, none⟩)) = some (.slice (some ⟨b, o, none⟩) S.length cp) := by rw [eX.load (by omega), load_rdO, bB]; rfl
    have lx6 : 0 < i → M.call 74 [.slice (some ⟨b, o + (i - 1) * 3, none⟩) 3 3, .slice (some ⟨h'.length, 0, none⟩) 3 3] X = some (.int .i64 (lexC (l3 (gT S (i - 1))) (l3 (gT S i))), X, []) := fun h =>
      lex74 (hprev h).2.2.2 IL6 (by simp [l3]) (by simp [l3]) rfl rfl
    have hnd0 : (¬ ∃ s ∈ S.take i, s.2.2 = (gT S i).2.2) → ∀ k, k < i → (gT S k).2.2 ≠ (gT S i).2.2 := fun c6 k hk e => c6 (hdup.2 (fun h => h k hk e))
    have hpre : 0 < i → IntKind.i64.wrap ((i : Int) - 1) = ((i - 1 : Nat) : Int) ∧ (0 : Int) ≤ ((i - 1 : Nat) : Int) ∧ ((i - 1 : Nat) : Int) < S.length := fun h => ⟨(hprev h).1, (hprev h).2.1, (hprev h).2.2.1⟩
    clear hprev ld ld2 IL6
    generalize lexC (l3 (gT S (i - 1))) (l3 (gT S i)) = q at *
    generalize gT S i = t at *
    generalize gT S (i - 1) = u at *
    obtain ⟨x, y, z⟩ := t
    obtain ⟨x', y', z'⟩ := u
    dsimp only at *
    by_cases c1 : x < 0
    · skip
      repeat (first | apply Z1 | apply Z2 | apply Z3 | apply Z4 | apply Z5 rfl | apply Z6 | apply Z7 | apply Z8 | apply Z9 | apply ZA | apply ZB | apply ZC | ((first | apply ZD (by decide) | apply ZN (by decide)); (simp (maxSteps := 9999999) only [go_sem, r1, r3, r4, r43, r44, r45, e1, e2, lg, hX, l6, lB1, lB2, c1, Int.toNat_natCast]; rfl)) | (refine ZE ?_ ?_; · simp only [go_sem]) | (refine ZF ?_ ?_; · simp only [go_sem]))
      exact end_nil ⟨rfl, rfl, E1, .inr ⟨rfl, by simp only [go_sem], bad (by omega)⟩⟩
    by_cases c2 : x ≥ y
    · skip
      repeat (first | apply Z1 | apply Z2 | apply Z3 | apply Z4 | apply Z5 rfl | apply Z6 | apply Z7 | apply Z8 | apply Z9 | apply ZA | apply ZB | apply ZC | ((first | apply ZD (by decide) | apply ZN (by decide)); (simp (maxSteps := 9999999) only [go_sem, r1, r3, r4, r43, r44, r45, e1, e2, lg, hX, l6, lB1, lB2, c1, c2, Int.toNat_natCast]; rfl)) | (refine ZE ?_ ?_; · simp only [go_sem]) | (refine ZF ?_ ?_; · simp only [go_sem]))
      exact end_nil ⟨rfl, rfl, E1, .inr ⟨rfl, by simp only [go_sem], bad (by omega)⟩⟩
    by_cases c3 : y > A.length
    · skip
      repeat (first | apply Z1 | apply Z2 | apply Z3 | apply Z4 | apply Z5 rfl | apply Z6 | apply Z7 | apply Z8 | apply Z9 | apply ZA | apply ZB | apply ZC | ((first | apply ZD (by decide) | apply ZN (by decide)); (simp (maxSteps := 9999999) only [go_sem, r1, r3, r4, r43, r44, r45, e1, e2, lg, hX, l6, lB1, lB2, c1, c2, c3, Int.toNat_natCast]; rfl)) | (refine ZE ?_ ?_; · simp only [go_sem]) | (refine ZF ?_ ?_; · simp only [go_sem]))
      exact end_nil ⟨rfl, rfl, E1, .inr ⟨rfl, by simp only [go_sem], bad (by omega)⟩⟩
    by_cases c4 : z < 1
    · skip
      repeat (first | apply Z1 | apply Z2 | apply Z3 | apply Z4 | apply Z5 rfl | apply Z6 | apply Z7 | apply Z8 | apply Z9 | apply ZA | apply ZB | apply ZC | ((first | apply ZD (by decide) | apply ZN (by decide)); (simp (maxSteps := 9999999) only [go_sem, r1, r3, r4, r43, r44, r45, e1, e2, lg, hX, l6, lB1, lB2, c1, c2, c3, c4, Int.toNat_natCast]; rfl)) | (refine ZE ?_ ?_; · simp only [go_sem]) | (refine ZF ?_ ?_; · simp only [go_sem]))
      exact end_nil ⟨rfl, rfl, E1, .inr ⟨rfl, by simp only [go_sem], bad (by omega)⟩⟩
    by_cases c5 : z > 1000
    · skip
      repeat (first | apply Z1 | apply Z2 | apply Z3 | apply Z4 | apply Z5 rfl | apply Z6 | apply Z7 | apply Z8 | apply Z9 | apply ZA | apply ZB | apply ZC | ((first | apply ZD (by decide) | apply ZN (by decide)); (simp (maxSteps := 9999999) only [go_sem, r1, r3, r4, r43, r44, r45, e1, e2, lg, hX, l6, lB1, lB2, c1, c2, c3, c4, c5, Int.toNat_natCast]; rfl)) | (refine ZE ?_ ?_; · simp only [go_sem]) | (refine ZF ?_ ?_; · simp only [go_sem]))
      exact end_nil ⟨rfl, rfl, E1, .inr ⟨rfl, by simp only [go_sem], bad (by omega)⟩⟩
    have lk := fun (d : List Nat) => lookV_ok (q := .int) (zero := .bool false) (ok := false) (k := .int .i64 z) d rfl hm hfind
    by_cases c6 : ∃ s ∈ S.take i, s.2.2 = z
    · simp only [if_pos c6, lkR, Bool.false_eq_true, if_false] at lk
      repeat (first | apply Z1 | apply Z2 | apply Z3 | apply Z4 | apply Z5 rfl | apply Z6 | apply Z7 | apply Z8 | apply Z9 | apply ZA | apply ZB | apply ZC | ((first | apply ZD (by decide) | apply ZN (by decide)); (simp (maxSteps := 9999999) only [go_sem, r1, r3, r4, r43, r44, r45, e1, e2, lg, hX, l6, lB1, lB2, c1, c2, c3, c4, c5, lk, Int.toNat_natCast]; rfl)) | (refine ZE ?_ ?_; · simp only [go_sem]) | (refine ZF ?_ ?_; · simp only [go_sem]))
      exact end_nil ⟨rfl, rfl, E1, .inr ⟨rfl, by simp only [go_sem], bad (fun h => (hdup.1 c6) h.2.2.2.2.2.2.2.2)⟩⟩
    simp only [if_neg c6, lkR, Bool.false_eq_true, if_false] at lk
    have hnd := hnd0 c6
    have up := fun (d : List Nat) => updV_ok cx (q := .int) (r := H.length + 1) (k := .int .i64 z) (v := .bool true) (h := X) d rfl hm rfl (hupd c6)
    have dM : ∀ d, dirty cx.base (H.length + 1) true d = d := fun d => dirty_own (by omega)
    have Enx : Ext (H ++ [.cells [va, .slice (some ⟨fb', fo, none⟩) F.length fc, .slice (some ⟨b, o, none⟩) S.length cp] 25 false 0 []]) (X.set (H.length + 1) (.map true (seenM (S.take i) ++ [(.int .i64 z, .bool true)]))) := by
      have q := E.trans eX
      refine ⟨by rw [List.length_set]; exact q.le, fun j hj => ?_⟩
      rw [List.length_append, List.length_singleton] at hj
      rw [List.getElem?_set_ne (by omega)]
      exact q.fr j (by simp; omega)
    have Mnx : (X.set (H.length + 1) (SO.map true (seenM (S.take i) ++ [(.int .i64 z, .bool true)])))[H.length + 1]? = some (.map true (seenM (S.take (i + 1)))) := by
      rw [hsn]
      exact List.getElem?_set_self (by have := eX.le; omega)
    obtain ⟨xn, rfl⟩ := Int.eq_ofNat_of_zero_le (show 0 ≤ x by omega)
    obtain ⟨yn, rfl⟩ := Int.eq_ofNat_of_zero_le (show 0 ≤ y by omega)
    have e4 : ((xn : Int) < F.length) := by omega
    have e5 : (0 : Int) ≤ xn := by omega
    have e6 : (0 : Int) ≤ yn := by omega
    have hxl : xn < F.length := by omega
    have lx := ldf xn hxl
    rw [gI_at hxl] at lx
    rw [Int.toNat_natCast, Int.toNat_natCast] at bad hnx
    by_cases c0 : i = 0
    · have e0 : ¬ ((i : Int) > 0) := by omega
      by_cases c8 : z < gI F xn
      · skip
        repeat (first | apply Z1 | apply Z2 | apply Z3 | apply Z4 | apply Z5 rfl | apply Z6 | apply Z7 | apply Z8 | apply Z9 | apply ZA | apply ZB | apply ZC | ((first | apply ZD (by decide) | apply ZN (by decide)); (simp (maxSteps := 9999999) only [go_sem, r1, r3, r4, r43, r44, r45, e1, e2, lg, hX, l6, lB1, lB2, c1, c2, c3, c4, c5, lk, lx, e4, e5, e0, c8, Int.toNat_natCast]; rfl)) | (refine ZE ?_ ?_; · simp only [go_sem]) | (refine ZF ?_ ?_; · simp only [go_sem]))
        exact end_nil ⟨rfl, rfl, E1, .inr ⟨rfl, by simp only [go_sem], bad (by omega)⟩⟩
      by_cases c9 : (yn : Int) < A.length
      · have e9 : ((yn : Int) < F.length) := by omega
        have hyl : yn < F.length := by omega
        have ly := ldf yn hyl
        rw [gI_at hyl] at ly
        by_cases c10 : z < gI F yn
        · skip
          repeat (first | apply Z1 | apply Z2 | apply Z3 | apply Z4 | apply Z5 rfl | apply Z6 | apply Z7 | apply Z8 | apply Z9 | apply ZA | apply ZB | apply ZC | ((first | apply ZD (by decide) | apply ZN (by decide)); (simp (maxSteps := 9999999) only [go_sem, r1, r3, r4, r43, r44, r45, e1, e2, lg, hX, l6, lB1, lB2, c1, c2, c3, c4, c5, lk, lx, e4, e5, e0, c8, c9, e6, e9, ly, c10, Int.toNat_natCast]; rfl)) | (refine ZE ?_ ?_; · simp only [go_sem]) | (refine ZF ?_ ?_; · simp only [go_sem]))
          exact end_nil ⟨rfl, rfl, E1, .inr ⟨rfl, by simp only [go_sem], bad (fun h => by have := h.2.2.2.2.2.2.1 c9; omega)⟩⟩
        · skip
          repeat (first | apply Z1 | apply Z2 | apply Z3 | apply Z4 | apply Z5 rfl | apply Z6 | apply Z7 | apply Z8 | apply Z9 | apply ZA | apply ZB | apply ZC | ((first | apply ZD (by decide) | apply ZN (by decide)); (simp (maxSteps := 9999999) only [go_sem, r1, r3, r4, r43, r44, r45, e1, e2, lg, hX, l6, lB1, lB2, c1, c2, c3, c4, c5, lk, lx, e4, e5, e0, c8, c9, e6, e9, ly, c10, up, dM, ew, Int.toNat_natCast]; rfl)) | (refine ZE ?_ ?_; · simp only [go_sem]) | (refine ZF ?_ ?_; · simp only [go_sem]))
          exact end_nil ⟨k - 1, by omega, i + 1, by omega, hnx ⟨by omega, by omega, by omega, by omega, by omega, by omega, fun _ => by omega, fun h => by omega, hnd⟩, Enx, Mnx, by simp only [go_sem, r1], by simp only [go_sem, r3], by simp only [go_sem, r4], by simp only [go_sem, r43], by simp only [go_sem, r44], by simp only [go_sem, ew], rfl, rfl⟩
      · skip
        repeat (first | apply Z1 | apply Z2 | apply Z3 | apply Z4 | apply Z5 rfl | apply Z6 | apply Z7 | apply Z8 | apply Z9 | apply ZA | apply ZB | apply ZC | ((first | apply ZD (by decide) | apply ZN (by decide)); (simp (maxSteps := 9999999) only [go_sem, r1, r3, r4, r43, r44, r45, e1, e2, lg, hX, l6, lB1, lB2, c1, c2, c3, c4, c5, lk, lx, e4, e5, e0, c8, c9, up, dM, ew, Int.toNat_natCast]; rfl)) | (refine ZE ?_ ?_; · simp only [go_sem]) | (refine ZF ?_ ?_; · simp only [go_sem]))
        exact end_nil ⟨k - 1, by omega, i + 1, by omega, hnx ⟨by omega, by omega, by omega, by omega, by omega, by omega, fun h => (c9 h).elim, fun h => by omega, hnd⟩, Enx, Mnx, by simp only [go_sem, r1], by simp only [go_sem, r3], by simp only [go_sem, r4], by simp only [go_sem, r43], by simp only [go_sem, r44], by simp only [go_sem, ew], rfl, rfl⟩
    · have e0 : ((i : Int) > 0) := by omega
      obtain ⟨p1, p2, p3⟩ := hpre (by omega)
      have lx7 := lx6 (by omega)
      by_cases c7 : q ≥ 0
      · skip
        repeat (first | apply Z1 | apply Z2 | apply Z3 | apply Z4 | apply Z5 rfl | apply Z6 | apply Z7 | apply Z8 | apply Z9 | apply ZA | apply ZB | apply ZC | ((first | apply ZD (by decide) | apply ZN (by decide)); (simp (maxSteps := 9999999) only [go_sem, r1, r3, r4, r43, r44, r45, e1, e2, lg, hX, l6, lB1, lB2, c1, c2, c3, c4, c5, lk, lx, e4, e5, e0, p1, p2, p3, lx7, c7, Int.toNat_natCast]; rfl)) | (refine ZE ?_ ?_; · simp only [go_sem]) | (refine ZF ?_ ?_; · simp only [go_sem]))
        exact end_nil ⟨rfl, rfl, E1, .inr ⟨rfl, by simp only [go_sem], bad (fun h => by have := hless.2 (h.2.2.2.2.2.2.2.1 (by omega)); omega)⟩⟩
      by_cases c8 : z < gI F xn
      · skip
        repeat (first | apply Z1 | apply Z2 | apply Z3 | apply Z4 | apply Z5 rfl | apply Z6 | apply Z7 | apply Z8 | apply Z9 | apply ZA | apply ZB | apply ZC | ((first | apply ZD (by decide) | apply ZN (by decide)); (simp (maxSteps := 9999999) only [go_sem, r1, r3, r4, r43, r44, r45, e1, e2, lg, hX, l6, lB1, lB2, c1, c2, c3, c4, c5, lk, lx, e4, e5, e0, p1, p2, p3, lx7, c7, c8, Int.toNat_natCast]; rfl)) | (refine ZE ?_ ?_; · simp only [go_sem]) | (refine ZF ?_ ?_; · simp only [go_sem]))
        exact end_nil ⟨rfl, rfl, E1, .inr ⟨rfl, by simp only [go_sem], bad (by omega)⟩⟩
      by_cases c9 : (yn : Int) < A.length
      · have e9 : ((yn : Int) < F.length) := by omega
        have hyl : yn < F.length := by omega
        have ly := ldf yn hyl
        rw [gI_at hyl] at ly
        by_cases c10 : z < gI F yn
        · skip
          repeat (first | apply Z1 | apply Z2 | apply Z3 | apply Z4 | apply Z5 rfl | apply Z6 | apply Z7 | apply Z8 | apply Z9 | apply ZA | apply ZB | apply ZC | ((first | apply ZD (by decide) | apply ZN (by decide)); (simp (maxSteps := 9999999) only [go_sem, r1, r3, r4, r43, r44, r45, e1, e2, lg, hX, l6, lB1, lB2, c1, c2, c3, c4, c5, lk, lx, e4, e5, e0, p1, p2, p3, lx7, c7, c8, c9, e6, e9, ly, c10, Int.toNat_natCast]; rfl)) | (refine ZE ?_ ?_; · simp only [go_sem]) | (refine ZF ?_ ?_; · simp only [go_sem]))
          exact end_nil ⟨rfl, rfl, E1, .inr ⟨rfl, by simp only [go_sem], bad (fun h => by have := h.2.2.2.2.2.2.1 c9; omega)⟩⟩
        · skip
          repeat (first | apply Z1 | apply Z2 | apply Z3 | apply Z4 | apply Z5 rfl | apply Z6 | apply Z7 | apply Z8 | apply Z9 | apply ZA | apply ZB | apply ZC | ((first | apply ZD (by decide) | apply ZN (by decide)); (simp (maxSteps := 9999999) only [go_sem, r1, r3, r4, r43, r44, r45, e1, e2, lg, hX, l6, lB1, lB2, c1, c2, c3, c4, c5, lk, lx, e4, e5, e0, p1, p2, p3, lx7, c7, c8, c9, e6, e9, ly, c10, up, dM, ew, Int.toNat_natCast]; rfl)) | (refine ZE ?_ ?_; · simp only [go_sem]) | (refine ZF ?_ ?_; · simp only [go_sem]))
          exact end_nil ⟨k - 1, by omega, i + 1, by omega, hnx ⟨by omega, by omega, by omega, by omega, by omega, by omega, fun _ => by omega, fun _ => hless.1 (by omega), hnd⟩, Enx, Mnx, by simp only [go_sem, r1], by simp only [go_sem, r3], by simp only [go_sem, r4], by simp only [go_sem, r43], by simp only [go_sem, r44], by simp only [go_sem, ew], rfl, rfl⟩
      · skip
        repeat (first | apply Z1 | apply Z2 | apply Z3 | apply Z4 | apply Z5 rfl | apply Z6 | apply Z7 | apply Z8 | apply Z9 | apply ZA | apply ZB | apply ZC | ((first | apply ZD (by decide) | apply ZN (by decide)); (simp (maxSteps := 9999999) only [go_sem, r1, r3, r4, r43, r44, r45, e1, e2, lg, hX, l6, lB1, lB2, c1, c2, c3, c4, c5, lk, lx, e4, e5, e0, p1, p2, p3, lx7, c7, c8, c9, up, dM, ew, Int.toNat_natCast]; rfl)) | (refine ZE ?_ ?_; · simp only [go_sem]) | (refine ZF ?_ ?_; · simp only [go_sem]))
        exact end_nil ⟨k - 1, by omega, i + 1, by omega, hnx ⟨by omega, by omega, by omega, by omega, by omega, by omega, fun h => (c9 h).elim, fun _ => hless.1 (by omega), hnd⟩, Enx, Mnx, by simp only [go_sem, r1], by simp only [go_sem, r3], by simp only [go_sem, r4], by simp only [go_sem, r43], by simp only [go_sem, r44], by simp only [go_sem, ew], rfl, rfl⟩
theorem check51 {H : SHeap} {v : Value} {A F : List Int} {S : List T3} (hv : BV H v A F S) (ha1 : A.length ≤ 9223372036854775807) (hf1 : F.length ≤ 9223372036854775807) : ∃ r : Int, (r = 0 ∧ ChkP A F S ∨ r = 90 ∧ ¬ ChkP A F S) ∧ M.call 51 [v] H = some (.int .i64 r, H, []) := by
  obtain ⟨va, vf, vs, rfl, h1, h2, h3⟩ := hv
  have key : ∃ q, (∃ r : Int, q = (Value.int .i64 r, H, ([] : List Nat)) ∧ (r = 0 ∧ ChkP A F S ∨ r = 90 ∧ ¬ ChkP A F S)) ∧ M.call 51 [.agg #[va, vf, vs]] H = some q := by
    refine call_ex (f := 51) _ sf51 rfl rfl rfl ?_
    generalize hX : H ++ [SO.cells [va, vf, vs] 25 false 0 []] = X
    have eX : Ext H X := by rw [← hX]; exact Ext.app H _
    have lX : X.length = H.length + 1 := by rw [← hX]; simp
    have l0 : ∀ (o : Nat), loadS X none (.pointer (some ⟨H.length, o, none⟩)) = [va, vf, vs][o]? := fun o => by rw [← hX, load_app0]; rfl
    have bX : X[H.length]? = some (.cells [va, vf, vs] 25 false 0 []) := by rw [← hX, app_get0]; rfl
    obtain ⟨ra, hra, ca⟩ := are80 (h1.fr eX.fr) ha1 1 100
    obtain ⟨rf, hrf, cf⟩ := are80 (h2.fr eX.fr) hf1 0 100
    obtain ⟨a1, a2, rfl⟩ := h1.shape
    obtain ⟨f1, f2, rfl⟩ := h2.shape
    obtain ⟨s1, s2, rfl⟩ := h3.shape
    have fin0 : ∀ (ρ : Reg) (h : SHeap), Ext H h → ρ 2 = .int .i64 90 → ¬ ChkP A F S → ∃ q, (∃ r : Int, q = (Value.int .i64 r, H, ([] : List Nat)) ∧ (r = 0 ∧ ChkP A F S ∨ r = 90 ∧ ¬ ChkP A F S)) ∧ callQ sf51.res H.length q .ret ρ [] h [] := fun ρ h eh hr hn =>
      ⟨_, ⟨90, rfl, .inr ⟨rfl, hn⟩⟩, q_ret1 _ hr rfl eh.take⟩
    unfold sf51
    by_cases c1 : (A.length : Int) < 1
    · repeat (first | apply Z1 | apply Z2 | apply Z3 | apply Z4 | apply Z5 rfl | apply Z6 | apply Z7 | apply Z8 | apply Z9 | apply ZA | apply ZB | apply ZC | ((first | apply ZD (by decide) | apply ZN (by decide)); (simp (maxSteps := 9999999) only [go_sem, argR, hX, l0, c1]; rfl)) | (refine ZE ?_ ?_; · simp only [go_sem]) | (refine ZF ?_ ?_; · simp only [go_sem]))
      exact end_nil (fin0 _ _ eX (by simp only [go_sem]) (fun h => by have := h.n1; omega))
    by_cases c2 : (A.length : Int) > 8
    · repeat (first | apply Z1 | apply Z2 | apply Z3 | apply Z4 | apply Z5 rfl | apply Z6 | apply Z7 | apply Z8 | apply Z9 | apply ZA | apply ZB | apply ZC | ((first | apply ZD (by decide) | apply ZN (by decide)); (simp (maxSteps := 9999999) only [go_sem, argR, hX, l0, c1, c2]; rfl)) | (refine ZE ?_ ?_; · simp only [go_sem]) | (refine ZF ?_ ?_; · simp only [go_sem]))
      exact end_nil (fin0 _ _ eX (by simp only [go_sem]) (fun h => by have := h.n8; omega))
    by_cases c3 : ¬ (F.length : Int) = A.length
    · repeat (first | apply Z1 | apply Z2 | apply Z3 | apply Z4 | apply Z5 rfl | apply Z6 | apply Z7 | apply Z8 | apply Z9 | apply ZA | apply ZB | apply ZC | ((first | apply ZD (by decide) | apply ZN (by decide)); (simp (maxSteps := 9999999) only [go_sem, argR, hX, l0, c1, c2, c3]; rfl)) | (refine ZE ?_ ?_; · simp only [go_sem]) | (refine ZF ?_ ?_; · simp only [go_sem]))
      exact end_nil (fin0 _ _ eX (by simp only [go_sem]) (fun h => by have := h.fl; omega))
    have c3 : (F.length : Int) = A.length := by omega
    cases ra with
    | false =>
      repeat (first | apply Z1 | apply Z2 | apply Z3 | apply Z4 | apply Z5 rfl | apply Z6 | apply Z7 | apply Z8 | apply Z9 | apply ZA | apply ZB | apply ZC | ((first | apply ZD (by decide) | apply ZN (by decide)); (simp (maxSteps := 9999999) only [go_sem, argR, hX, l0, c1, c2, c3, ca]; rfl)) | (refine ZE ?_ ?_; · simp only [go_sem]) | (refine ZF ?_ ?_; · simp only [go_sem]))
      exact end_nil (fin0 _ _ eX (by simp only [go_sem]) (fun h => by have := hra.2 (fun m hm => ⟨(h.ii m hm).1, (h.ii m hm).2.1⟩); cases this))
    | true =>
      cases rf with
      | false =>
        repeat (first | apply Z1 | apply Z2 | apply Z3 | apply Z4 | apply Z5 rfl | apply Z6 | apply Z7 | apply Z8 | apply Z9 | apply ZA | apply ZB | apply ZC | ((first | apply ZD (by decide) | apply ZN (by decide)); (simp (maxSteps := 9999999) only [go_sem, argR, hX, l0, c1, c2, c3, ca, cf]; rfl)) | (refine ZE ?_ ?_; · simp only [go_sem]) | (refine ZF ?_ ?_; · simp only [go_sem]))
        exact end_nil (fin0 _ _ eX (by simp only [go_sem]) (fun h => by have := hrf.2 (fun m hm => ⟨(h.ii m (by omega)).2.2.1, (h.ii m (by omega)).2.2.2⟩); cases this))
      | true =>
        by_cases c4 : (S.length : Int) > 20
        · repeat (first | apply Z1 | apply Z2 | apply Z3 | apply Z4 | apply Z5 rfl | apply Z6 | apply Z7 | apply Z8 | apply Z9 | apply ZA | apply ZB | apply ZC | ((first | apply ZD (by decide) | apply ZN (by decide)); (simp (maxSteps := 9999999) only [go_sem, argR, hX, l0, c1, c2, c3, ca, cf, c4]; rfl)) | (refine ZE ?_ ?_; · simp only [go_sem]) | (refine ZF ?_ ?_; · simp only [go_sem]))
          exact end_nil (fin0 _ _ eX (by simp only [go_sem]) (fun h => by have := h.s20; omega))
        generalize hX2 : X ++ [SO.map true []] = X2
        have eX2 : Ext X X2 := by rw [← hX2]; exact Ext.app X _
        have m2 : X2[H.length + 1]? = some (.map true (seenM (S.take 0))) := by rw [← hX2, ← lX, app_get0]; rfl
        have l2 : ∀ (o : Nat), loadS X2 none (.pointer (some ⟨H.length, o, none⟩)) = [Value.slice a1 A.length a2, .slice f1 F.length f2, .slice s1 S.length s2][o]? := fun o => by rw [eX2.load (by omega), l0]
        repeat (first | apply Z1 | apply Z2 | apply Z3 | apply Z4 | apply Z5 rfl | apply Z6 | apply Z7 | apply Z8 | apply Z9 | apply ZA | apply ZB | apply ZC | ((first | apply ZD (by decide) | apply ZN (by decide)); (simp (maxSteps := 9999999) only [go_sem, argR, hX, l0, c1, c2, c3, ca, cf, c4, hX2, l2, lX]; rfl)) | (refine ZE ?_ ?_; · simp only [go_sem]) | (refine ZF ?_ ?_; · simp only [go_sem]))
        refine run_loop (check_loop (A := A) _ rfl h2 h3 (by omega) (by omega) (by omega) (by omega) S.length _ _ _ _ ⟨0, by omega, fun m hm => by omega, by rw [hX]; exact eX2, m2, by simp only [go_sem], by simp only [go_sem], by simp only [go_sem], by simp only [go_sem], by simp only [go_sem], by simp only [go_sem], rfl, rfl⟩) ?_
        rintro ex ρ2 ms2 h5 d2 ⟨rfl, rfl, E5, h⟩
        rcases h with ⟨rfl, hS⟩ | ⟨rfl, t2, hS⟩
        · repeat (first | apply Z1 | apply Z2 | apply Z3 | apply Z4 | apply Z5 rfl | apply Z6 | apply Z7 | apply Z8 | apply Z9 | apply ZA | apply ZB | apply ZC | ((first | apply ZD (by decide) | apply ZN (by decide)); (simp (maxSteps := 9999999) only [go_sem]; rfl)) | (refine ZE ?_ ?_; · simp only [go_sem]) | (refine ZF ?_ ?_; · simp only [go_sem]))
          exact end_nil ⟨_, ⟨0, rfl, .inl ⟨rfl, ⟨by omega, by omega, by omega, by omega, fun i hi => ⟨(hra.1 rfl i hi).1, (hra.1 rfl i hi).2, hrf.1 rfl i (by omega)⟩, hS⟩⟩⟩, q_ret1 _ (by simp only [go_sem]) rfl E5.take⟩
        · repeat (first | apply Z1 | apply Z2 | apply Z3 | apply Z4 | apply Z5 rfl | apply Z6 | apply Z7 | apply Z8 | apply Z9 | apply ZA | apply ZB | apply ZC | ((first | apply ZD (by decide) | apply ZN (by decide)); (simp (maxSteps := 9999999) only [go_sem, t2]; rfl)) | (refine ZE ?_ ?_; · simp only [go_sem]) | (refine ZF ?_ ?_; · simp only [go_sem]))
          exact end_nil (fin0 _ _ E5 (by simp only [go_sem, t2]) (fun h => hS h.ss))
  obtain ⟨q, ⟨r, rfl, k⟩, e⟩ := key
  exact ⟨r, k, e⟩
end Go.Proofs.Ytioijehbmgmgkaa.Sh

namespace Go.Proofs.Ytioijehbmgmgkaa.Sh
open Go
set_option maxRecDepth 100000
set_option maxHeartbeats 4000000
abbrev E3 := {t : T3 // 0 ≤ t.2.2 ∧ t.2.2 ≤ 1000}
def celE (x : E3) : List Value := cel3 x.1
def cH (x y : E3) : Int := x.1.2.2 - y.1.2.2
theorem dif83 (x y z x' y' z' : Int) (h1 : 0 ≤ z ∧ z ≤ 1000) (h2 : 0 ≤ z' ∧ z' ≤ 1000) (H : SHeap) : M.call 83 [.agg #[.int .i64 x, .int .i64 y, .int .i64 z], .agg #[.int .i64 x', .int .i64 y', .int .i64 z']] H = some (.int .i64 (z - z'), H, []) := by
  refine call_run sf83 rfl rfl rfl ?_
  have w : IntKind.i64.wrap (z - z') = z - z' := wrap64 (by omega) (by omega)
  unfold sf83
  repeat (first | apply Z1 | apply Z2 | apply Z3 | apply Z4 | apply Z5 rfl | apply Z6 | apply Z7 | apply Z8 | apply Z9 | apply ZA | apply ZB | apply ZC | ((first | apply ZD (by decide) | apply ZN (by decide)); (simp (maxSteps := 9999999) only [go_sem, argR, w]; rfl)) | (refine ZE ?_ ?_; · simp only [go_sem]) | (refine ZF ?_ ?_; · simp only [go_sem]))
  exact end_nil (q_ret1 _ (by simp only [go_sem, w]) rfl (take_app _ _))
theorem cmpH : Cmp M 83 celE cH where
  call x y h := dif83 _ _ _ _ _ _ x.2 y.2 h
  irr x := by unfold cH; omega
  asym x y h := by unfold cH at *; omega
  ntr x y z h1 h2 := by unfold cH at *; omega
theorem celE_len (x : E3) : (celE x).length = 3 := rfl
theorem celE_sc (x : E3) : (celE x).all sc = true := rfl
def fnE (S : List T3) (hS : ∀ x ∈ S, 0 ≤ x.2.2 ∧ x.2.2 ≤ 1000) (i : Nat) : E3 := ⟨gT S i, by
  unfold gT
  rw [List.getD_eq_getElem?_getD]
  by_cases c : i < S.length
  · rw [List.getElem?_eq_getElem c]; exact hS _ (List.getElem_mem c)
  · rw [List.getElem?_eq_none (by omega)]; exact ⟨Int.le_refl _, by decide⟩⟩
def lsE (f : Nat → E3) (n : Nat) : List T3 := (List.range n).map fun i => (f i).1
theorem lsE_len (f : Nat → E3) (n : Nat) : (lsE f n).length = n := by simp [lsE]
theorem lsE_at (f : Nat → E3) {n i : Nat} (h : i < n) : gT (lsE f n) i = (f i).1 := by
  unfold gT lsE
  rw [List.getD_eq_getElem?_getD]
  simp [h]
theorem lsE_fn (S : List T3) (hS : ∀ x ∈ S, 0 ≤ x.2.2 ∧ x.2.2 ≤ 1000) : lsE (fnE S hS) S.length = S := by
  apply List.ext_getElem?
  intro i
  unfold lsE fnE
  by_cases c : i < S.length
  · rw [List.getElem?_map, List.getElem?_range c, Option.map_some, List.getElem?_eq_getElem c, gT_at c]
  · rw [List.getElem?_eq_none (by simp; omega), List.getElem?_eq_none (by omega)]
theorem flE (f : Nat → E3) : ∀ n, flF celE f n = trs (lsE f n)
  | 0 => rfl
  | n + 1 => by
    have ih := flE f n
    show flF celE f n ++ celE (f n) = _
    rw [ih]
    unfold lsE
    rw [List.range_succ, List.map_append, trs_app]
    simp [trs, celE]
theorem sortE {c : E3 → E3 → Int} {g : FuncId} (C : Cmp M g celE c) {H : SHeap} {b cap : Nat} {S : List T3} {el : TypeId} {old : List Nat} (hS : ∀ x ∈ S, 0 ≤ x.2.2 ∧ x.2.2 ≤ 1000) (hn : S.length ≤ 1000) (hb : H[b]? = some (.cells (trs S) el true 0 old)) (ho : ∀ c ∈ old, c < H.length) :
    ∃ H' f, M.call 72 [.slice (some ⟨b, 0, none⟩) S.length cap, .func (.func g) #[] #[]] H = some (.tuple #[], H', []) ∧ H'.length = H.length ∧ (∀ j, j ≠ b → j ∉ old → H'[j]? = H[j]?) ∧ (∃ old', (∀ c ∈ old', c ∈ old) ∧ H'[b]? = some (.cells (trs (lsE f S.length)) el true 0 old')) ∧
      (lsE f S.length).Perm S ∧ ∀ i j, i < j → j < S.length → ¬ c (f j) (f i) < 0 := by
  have S0 : SA celE S.length b el H old H (fnE S hS) := ⟨rfl, fun _ _ _ => rfl, old, fun _ h => h, by rw [flE, lsE_fn]; exact hb⟩
  obtain ⟨H', f, e, S1, W, O⟩ := sortT (cap := cap) C celE_len celE_sc (by omega) ho S0
  refine ⟨H', f, e, S1.len, S1.same, ?_, ?_, fun i j h1 h2 => O i j (Nat.zero_le _) h1 h2⟩
  · obtain ⟨o, h1, h2⟩ := S1.at_
    exact ⟨o, h1, by rw [← flE]; exact h2⟩
  · have := (W.perm (Nat.le_refl _)).map (fun x : E3 => x.1)
    have e2 : ((List.range S.length).map (fnE S hS)).map (fun x : E3 => x.1) = S := by
      have := lsE_fn S hS
      unfold lsE at this
      rw [List.map_map]; exact this
    rw [e2, List.map_map] at this
    exact this
theorem eq_sl_nil : eqS .slice (.slice none 0 0) (.slice none 0 0) = some true := rfl
theorem eq_sl_some (x : Addr) (n c : Nat) : eqS .slice (.slice (some x) n c) (.slice none 0 0) = some false := rfl
theorem clone82 {H : SHeap} {v : Value} {S : List T3} (hv : ES H v S) (hnil : S.length = 0 → v = .slice none 0 0) (hn : S.length ≤ 1000) :
    M.call 82 [v] H = some (resV H S.length 3, resH H (trs S) S.length 78, []) := by
  refine call_run sf82 rfl rfl rfl ?_
  unfold sf82
  by_cases c0 : S.length = 0
  · rw [hnil c0, c0]
    repeat (first | apply Z1 | apply Z2 | apply Z3 | apply Z4 | apply Z5 rfl | apply Z6 | apply Z7 | apply Z8 | apply Z9 | apply ZA | apply ZB | apply ZC | ((first | apply ZD (by decide) | apply ZN (by decide)); (simp (maxSteps := 9999999) only [go_sem, argR, ↓eq_sl_nil]; rfl)) | (refine ZE ?_ ?_; · simp only [go_sem]) | (refine ZF ?_ ?_; · simp only [go_sem]))
    exact end_nil (q_free [.slice none 0 0] (by simp only [go_sem]) rfl rfl rfl (fun _ => rfl) (take_self _) rfl)
  · obtain ⟨b, o, c, rfl, sg⟩ := SL.ld hv c0
    have hse := sg.seen (n := S.length * 3) (by rw [trs_len]; exact Nat.le_refl _)
    rw [List.take_of_length_le (by rw [trs_len]; exact Nat.le_refl _)] at hse
    generalize hX : H ++ [SO.cells [] 78 true 0 []] = X
    have eX : Ext H X := by rw [← hX]; exact Ext.app H _
    have hsX : rdN X b o (S.length * 3) = some (trs S) := by
      rw [rdN_def, eX.fr b sg.lt, ← rdN_def]; exact hse
    have ap : ∀ (base : Nat) (d : List Nat), appendS base X d 78 true 3 24 (.slice (some ⟨H.length, 0, none⟩) 0 0) (.slice (some ⟨b, o, none⟩) S.length c) = some (.slice (some ⟨X.length, 0, none⟩) S.length (UNK + 3), X ++ [.cells (trs S) 78 true 0 []], d) := fun base d => by
      have hn0 : (S.length == 0) = false := beq_eq_false_iff_ne.2 c0
      have e4 : Nat.ble ((0 + S.length) * 24) 140737488355328 = true := by rw [ble_dec]; exact decide_eq_true (by omega)
      have e5 : Nat.blt 0 24 = true := rfl
      have hone := all_sc_one _ (trs_sc S)
      have hsc := trs_sc S
      have e6 : rdN X H.length 0 (0 * 3) = some [] := by rw [← hX, rdN_def, app_get0]; rfl
      have e7 : Nat.ble UNK 0 = false := rfl
      have e8 : Nat.ble (0 + S.length) 0 = false := by rw [ble_dec]; exact decide_eq_false (by omega)
      unfold appendS
      simp only [lenS, seenS, hsX, hn0, e4, e5, hone, hsc]
      simp [-List.all_eq_true, hone, hsc, e6, e7, e8]
      intro e
      rw [e] at c0
      exact (c0 rfl).elim
    have A : AccS X (X ++ [.cells (trs S) 78 true 0 []]) (.slice (some ⟨X.length, 0, none⟩) S.length (UNK + 3)) (trs S) S.length 3 78 := by
      have := AccS.ofRes X 78 (trs_len S) (trs_sc S)
      rw [← resH_pos X _ 78 c0, ← resV_pos X 3 c0] at this
      exact this
    rw [← hX] at A
    repeat (first | apply Z1 | apply Z2 | apply Z3 | apply Z4 | apply Z5 rfl | apply Z6 | apply Z7 | apply Z8 | apply Z9 | apply ZA | apply ZB | apply ZC | ((first | apply ZD (by decide) | apply ZN (by decide)); (simp (maxSteps := 9999999) only [go_sem, argR, ↓eq_sl_some, hX, ↓ap]; rfl)) | (refine ZE ?_ ?_; · simp only [go_sem]) | (refine ZF ?_ ?_; · simp only [go_sem]))
    subst hX
    exact end_nil (A.q1 rfl rfl (by simp only [go_sem]))
end Go.Proofs.Ytioijehbmgmgkaa.Sh

namespace Go.Proofs.Ytioijehbmgmgkaa.Sh
open Go
set_option maxRecDepth 100000
set_option maxHeartbeats 4000000
def OldV (n : Nat) (v : Value) : Prop := (∃ k c, v = .slice none k c) ∨ ∃ b o k c, v = .slice (some ⟨b, o, none⟩) k c ∧ b < n
theorem SL.old {H : SHeap} {v : Value} {cs : List Value} {n s : Nat} (k : SL H v cs n s) (h0 : n = 0 → v = .slice none 0 0) : OldV H.length v := by
  by_cases c : n = 0
  · exact .inl ⟨0, 0, h0 c⟩
  · obtain ⟨b, o, cc, e, sg⟩ := k.ld c
    exact .inr ⟨b, o, n, cc, e, sg.lt⟩
theorem OldV.ptrs {n : Nat} {v : Value} (k : OldV n v) (m : Nat) : ∀ b ∈ ptrs m v, b < n := by
  rcases k with ⟨k, c, rfl⟩ | ⟨b, o, k, c, rfl, h⟩
  · intro b hb; cases m <;> simp [Sh.ptrs, ptr1] at hb
  · intro x hx
    have : x = b := by cases m <;> simpa [Sh.ptrs, ptr1] using hx
    omega
theorem OldV.ren {n : Nat} {v : Value} (k : OldV n v) (K : List Nat) (m : Nat) : renV n K m v = some v := by
  rcases k with ⟨k, c, rfl⟩ | ⟨b, o, k, c, rfl, h⟩
  · cases m <;> rfl
  · cases m <;> simp [renV, ren_old' h]
theorem OldV.shape {n : Nat} {v : Value} (k : OldV n v) : ∃ a n c, v = .slice a n c := by
  rcases k with ⟨k, c, rfl⟩ | ⟨b, o, k, c, rfl, h⟩
  · exact ⟨_, _, _, rfl⟩
  · exact ⟨_, _, _, rfl⟩
theorem reach_olds {base : Nat} {h : SHeap} : ∀ (todo : List Nat) (n : Nat) (seen : List Nat), todo.length < n → (∀ b ∈ todo, b < base) → reach base h n todo seen = seen
  | [], n, seen, hn, _ => by cases n with | zero => omega | succ n => simp [reach]
  | b :: todo, 0, seen, hn, _ => by omega
  | b :: todo, n + 1, seen, hn, h => by
    rw [reach_old' (h b (by simp))]
    exact reach_olds todo n seen (by simp at hn; omega) (fun x hx => h x (by simp [hx]))
theorem rise55 {H : SHeap} {va vf vs : Value} (ha : OldV H.length va) (hf : OldV H.length vf) (hs : OldV H.length vs) :
    M.call 55 [.agg #[va, vf, vs]] H = some (.func (.func 81) #[] #[.pointer (some ⟨H.length, 0, none⟩)], H ++ [.cells [va, vf, vs] 25 false 0 []], []) := by
  refine call_run sf55 rfl rfl rfl ?_
  obtain ⟨a1, a2, a3, rfl⟩ := ha.shape
  obtain ⟨f1, f2, f3, rfl⟩ := hf.shape
  obtain ⟨s1, s2, s3, rfl⟩ := hs.shape
  unfold sf55
  repeat (first | apply Z1 | apply Z2 | apply Z3 | apply Z4 | apply Z5 rfl | apply Z6 | apply Z7 | apply Z8 | apply Z9 | apply ZA | apply ZB | apply ZC | ((first | apply ZD (by decide) | apply ZN (by decide)); (simp (maxSteps := 9999999) only [go_sem, argR]; rfl)) | (refine ZE ?_ ?_; · simp only [go_sem]) | (refine ZF ?_ ?_; · simp only [go_sem]))
  refine end_nil (q_gc [.func (.func 81) #[] #[.pointer (some ⟨H.length, 0, none⟩)]] (by simp only [go_sem]) rfl ?_ rfl)
  have h0 : (H ++ [SO.cells [.slice a1 a2 a3, .slice f1 f2 f3, .slice s1 s2 s3] 25 false 0 []])[H.length]? = some (.cells [.slice a1 a2 a3, .slice f1 f2 f3, .slice s1 s2 s3] 25 false 0 []) := by rw [app_get0]; rfl
  have ht : (H ++ [SO.cells [.slice a1 a2 a3, .slice f1 f2 f3, .slice s1 s2 s3] 25 false 0 []]).take H.length = H := take_app _ _
  generalize hhh : (H ++ [SO.cells [.slice a1 a2 a3, .slice f1 f2 f3, .slice s1 s2 s3] 25 false 0 []]) = hh at *
  have hp : ptrsO (some (SO.cells [.slice a1 a2 a3, .slice f1 f2 f3, .slice s1 s2 s3] 25 false 0 [])) = ptrs 3 (.slice a1 a2 a3) ++ (ptrs 3 (.slice f1 f2 f3) ++ (ptrs 3 (.slice s1 s2 s3) ++ [])) := rfl
  have hl : ∀ v, OldV H.length v → (ptrs 3 v).length ≤ 1 := by
    rintro v (⟨k, c, rfl⟩ | ⟨b, o, k, c, rfl, h⟩) <;> simp [ptrs, ptr1]
  have e1 : reach H.length hh 1000000 [H.length] [] = [H.length] := by
    rw [show (1000000 : Nat) = 999999 + 1 from rfl, reach_new' (Nat.le_refl _) (by simp), h0, hp, List.append_nil]
    refine reach_olds _ _ _ ?_ ?_
    · have := hl _ ha
      have := hl _ hf
      have := hl _ hs
      simp only [List.length_append, List.length_nil]
      omega
    · intro b hb
      simp only [List.mem_append, List.append_nil] at hb
      rcases hb with hb | hb | hb
      · exact ha.ptrs 3 b hb
      · exact hf.ptrs 3 b hb
      · exact hs.ptrs 3 b hb
  have p1 : posOf H.length [H.length] = some 0 := by simp [posOf]
  have r0 : ren H.length [H.length] H.length = some H.length := ren_at' (Nat.le_refl _) p1
  have ra := ha.ren [H.length] 3
  have rf := hf.ren [H.length] 3
  have rs := hs.ren [H.length] 3
  have e2 : ptrs 3 (.func (.func 81) #[] #[.pointer (some ⟨H.length, 0, none⟩)]) = [H.length] := rfl
  have e3 : renO H.length [H.length] hh[H.length]? = some (.cells [.slice a1 a2 a3, .slice f1 f2 f3, .slice s1 s2 s3] 25 false 0 []) := by
    rw [h0]
    simp [renO, mapO, ra, rf, rs]
  unfold gcS
  simp only [oneV, e2, e1]
  simp [renV, r0, mapO, e3, ht]
  exact hhh
def finD (B : Nat) (h : SHeap) (d : List Nat) : SHeap := match d with
  | [] => h.take B
  | _ => h
theorem q_dirty {base : Nat} {ρ : Reg} {h : SHeap} {d : List Nat} {ex : Ex} (hx : isEnd ex = true) : callQ [] base (.tuple #[], finD base h d, d) ex ρ [] h d := by
  refine ⟨hx, ?_⟩
  show endW base h d (.tuple #[], finD base h d, d) []
  cases d with
  | nil => exact ⟨_, _, gc_free (v := .tuple #[]) rfl (fun _ => rfl), rfl⟩
  | cons a d => rfl
structure ItJ (J : Nat → SHeap → List Nat → Prop) (q B : Nat) (L : List T3) (i : Nat) (h : SHeap) (d : List Nat) : Prop where
  j : J i h d
  lt : q ≤ h.length
  arr : L.length ≠ 0 → ∃ b old, B ≤ b ∧ b < q ∧ h[b]? = some (.cells (trs L) 78 true 0 old)
theorem rise_loop {B L0 fn : Nat} {L : List T3} (hL : L.length ≤ 1000) {J X : Nat → SHeap → List Nat → Prop} {q : Nat}
    (hA : ∀ i h d x, J i h d → J i (h ++ x) d)
    (hY : ∀ i h d, i < L.length → J i h d → q ≤ h.length → ∃ r h2 d2, M.round B L0 [.agg #[.int .i64 (gT L i).1, .int .i64 (gT L i).2.1, .int .i64 (gT L i).2.2]] h = some (.bool r, h2, d2) ∧ q ≤ h2.length ∧ (∀ j, B ≤ j → j < q → h2[j]? = h[j]?) ∧
      (r = true → J (i + 1) h2 (d2 ++ d)) ∧ (r = false → X (i + 1) h2 (d2 ++ d))) {b : Nat} {vb : Value} (hvb : L.length ≠ 0 → ∃ cp, vb = .slice (some ⟨b, 0, none⟩) L.length cp ∧ B ≤ b ∧ b < q) :
    ∀ k ρ ms h' d', (∃ i : Nat, i + k = L.length ∧ J i h' d' ∧ q ≤ h'.length ∧ (L.length ≠ 0 → ∃ old, h'[b]? = some (.cells (trs L) 78 true 0 old)) ∧ ρ 0 = .func (.yield L0) #[] #[] ∧ ρ 11 = vb ∧ ρ 12 = .int .i64 L.length ∧ ρ 13 = .int .i64 i ∧ ms = []) →
    LoopW M ⟨B, none, fn⟩ 5 sf81L0 ρ ms h' d' (fun ex ρ' ms' h' d' => ms' = [] ∧ ((ex = .exit 0 ∧ J L.length h' d') ∨ (ex = .ret ∧ ∃ i, i < L.length ∧ X (i + 1) h' d'))) := by
  refine loop_run _ ?_
  rintro k ρ ms h' d' ⟨i, hk, hJ, hq, hb, r0, r11, r12, r13, rfl⟩
  unfold sf81L0
  by_cases c : k = 0
  · have e1 : ¬ ((i : Int) < L.length) := by omega
    have : i = L.length := by omega
    subst this
    repeat (first | apply Z1 | apply Z2 | apply Z3 | apply Z4 | apply Z5 rfl | apply Z6 | apply Z7 | apply Z8 | apply Z9 | apply ZA | apply ZB | apply ZC | ((first | apply ZD (by decide) | apply ZN (by decide)); (simp (maxSteps := 9999999) only [go_sem, r0, r11, r12, r13, e1]; rfl)) | (refine ZE ?_ ?_; · simp only [go_sem]) | (refine ZF ?_ ?_; · simp only [go_sem]))
    exact end_nil ⟨rfl, .inl ⟨rfl, hJ⟩⟩
  · have e1 : ((i : Int) < L.length) := by omega
    have e2 : (0 : Int) ≤ i := by omega
    have hi : i < L.length := by omega
    have ew : IntKind.i64.wrap ((i : Int) + 1) = ((i + 1 : Nat) : Int) := by rw [wrap64 (by omega) (by omega)]; rfl
    obtain ⟨old, hb⟩ := hb (by omega)
    obtain ⟨cp, rfl, hb1, hb2⟩ := hvb (by omega)
    have sg : ES h' (.slice (some ⟨b, 0, none⟩) L.length (UNK + 3)) L := ⟨_, _, rfl, .inr rfl, trs_len L, .inr ⟨b, 0, rfl, fun _ => Seg.mk0 hb rfl⟩⟩
    obtain ⟨b', o', c', hv, ld⟩ := sg.ld (by omega)
    cases hv
    have lg := (ld i hi).1
    rw [gT_at hi] at lg
    obtain ⟨r, h2, d2, hr, hq2, fr2, y1, y2⟩ := hY i (h' ++ [.cells [.int .i64 (gT L i).1, .int .i64 (gT L i).2.1, .int .i64 (gT L i).2.2] 78 true 0 []]) d' hi (hA _ _ _ _ hJ) (by simp; omega)
    generalize gT L i = t at *
    have l2 : loadS (h' ++ [SO.cells [.int .i64 t.1, .int .i64 t.2.1, .int .i64 t.2.2] 78 true 0 []]) (some 3) (.pointer (some ⟨h'.length, 0, none⟩)) = some (.agg #[.int .i64 t.1, .int .i64 t.2.1, .int .i64 t.2.2]) := by rw [load_appN0]; rfl
    rw [Nat.zero_add] at lg
    cases r with
    | true =>
      repeat (first | apply Z1 | apply Z2 | apply Z3 | apply Z4 | apply Z5 rfl | apply Z6 | apply Z7 | apply Z8 | apply Z9 | apply ZA | apply ZB | apply ZC | ((first | apply ZD (by decide) | apply ZN (by decide)); (simp (maxSteps := 9999999) only [go_sem, r0, r11, r12, r13, e1, e2, lg, l2, hr, ew, Int.toNat_natCast]; rfl)) | (refine ZE ?_ ?_; · simp only [go_sem]) | (refine ZF ?_ ?_; · simp only [go_sem]))
      exact end_nil ⟨k - 1, by omega, i + 1, by omega, y1 rfl, hq2, fun _ => ⟨old, by rw [fr2 b hb1 hb2, List.getElem?_append_left (by omega)]; exact hb⟩, by simp only [go_sem, r0], by simp only [go_sem, r11], by simp only [go_sem, r12], by simp only [go_sem, ew], rfl⟩
    | false =>
      repeat (first | apply Z1 | apply Z2 | apply Z3 | apply Z4 | apply Z5 rfl | apply Z6 | apply Z7 | apply Z8 | apply Z9 | apply ZA | apply ZB | apply ZC | ((first | apply ZD (by decide) | apply ZN (by decide)); (simp (maxSteps := 9999999) only [go_sem, r0, r11, r12, r13, e1, e2, lg, l2, hr, ew, Int.toNat_natCast]; rfl)) | (refine ZE ?_ ?_; · simp only [go_sem]) | (refine ZF ?_ ?_; · simp only [go_sem]))
      exact end_nil ⟨rfl, .inr ⟨rfl, i, hi, y2 rfl⟩⟩
structure Rise (L S : List T3) : Prop where
  perm : L.Perm S
  ord : ∀ i j, i < j → j < L.length → (gT L i).2.2 ≤ (gT L j).2.2
theorem iter81 {H : SHeap} {L0 c1 : Nat} {va vf vs : Value} {S : List T3} (hc : H[c1]? = some (.cells [va, vf, vs] 25 false 0 [])) (hs : ES H vs S) (hnil : S.length = 0 → vs = .slice none 0 0) (hn : S.length ≤ 1000) (hS : ∀ x ∈ S, 0 ≤ x.2.2 ∧ x.2.2 ≤ 1000) :
    ∃ L q, Rise L S ∧ H.length ≤ q ∧ ∀ (J X : Nat → SHeap → List Nat → Prop), (∀ i h d x, J i h d → J i (h ++ x) d) → (∀ h, h.length = q → Ext H h → J 0 h []) →
      (∀ i h d, i < L.length → J i h d → q ≤ h.length → ∃ r h2 d2, M.round H.length L0 [.agg #[.int .i64 (gT L i).1, .int .i64 (gT L i).2.1, .int .i64 (gT L i).2.2]] h = some (.bool r, h2, d2) ∧ q ≤ h2.length ∧ (∀ j, H.length ≤ j → j < q → h2[j]? = h[j]?) ∧
        (r = true → J (i + 1) h2 (d2 ++ d)) ∧ (r = false → X (i + 1) h2 (d2 ++ d))) →
      ∃ h d, M.call 81 [.func (.yield L0) #[] #[], .pointer (some ⟨c1, 0, none⟩)] H = some (.tuple #[], finD H.length h d, d) ∧ (J L.length h d ∨ ∃ i, i < L.length ∧ X (i + 1) h d) := by
  have hlt : c1 < H.length := (List.getElem?_eq_some_iff.1 hc).1
  have l0 : loadS H none (.pointer (some ⟨c1, 2, none⟩)) = some vs := by rw [load_rdO, hc]; rfl
  have cl := clone82 hs hnil hn
  obtain ⟨s1, s2, rfl⟩ := hs.shape
  by_cases c0 : S.length = 0
  · refine ⟨S, H.length, ⟨List.Perm.refl _, fun i j _ h => by omega⟩, Nat.le_refl _, fun J X hA h0 hY => ?_⟩
    have key : ∃ r, (∃ h d, r = (Value.tuple #[], finD H.length h d, d) ∧ (J S.length h d ∨ ∃ i, i < S.length ∧ X (i + 1) h d)) ∧ M.call 81 [.func (.yield L0) #[] #[], .pointer (some ⟨c1, 0, none⟩)] H = some r := by
      refine call_ex (f := 81) _ sf81 rfl rfl rfl ?_
      have st := sort0T 83 H
      have e1 : (resV H S.length 3) = .slice none 0 0 := by simp [resV, c0]
      have e2 : (resH H (trs S) S.length 78) = H := by simp [resH, c0]
      rw [e1, e2] at cl
      unfold sf81
      repeat (first | apply Z1 | apply Z2 | apply Z3 | apply Z4 | apply Z5 rfl | apply Z6 | apply Z7 | apply Z8 | apply Z9 | apply ZA | apply ZB | apply ZC | ((first | apply ZD (by decide) | apply ZN (by decide)); (simp (maxSteps := 9999999) only [go_sem, argR, l0, cl, st]; rfl)) | (refine ZE ?_ ?_; · simp only [go_sem]) | (refine ZF ?_ ?_; · simp only [go_sem]))
      refine run_loop (rise_loop (L := S) hn (q := H.length) hA hY (b := 0) (vb := .slice none 0 0) (fun h => (h c0).elim) 0 _ _ _ _ ⟨0, by omega, h0 H rfl (Ext.rfl' H), Nat.le_refl _, fun h => (h c0).elim, by simp only [go_sem, argR], by simp only [go_sem], by rw [c0]; simp only [go_sem], by simp only [go_sem], rfl⟩) ?_
      rintro ex ρ2 ms2 h2 d2 ⟨rfl, ⟨rfl, hJ⟩ | ⟨rfl, i, hi, hX⟩⟩
      · repeat (first | apply Z1 | apply Z2 | apply Z3 | apply Z4 | apply Z5 rfl | apply Z6 | apply Z7 | apply Z8 | apply Z9 | apply ZA | apply ZB | apply ZC | ((first | apply ZD (by decide) | apply ZN (by decide)); (simp (maxSteps := 9999999) only [go_sem]; rfl)) | (refine ZE ?_ ?_; · simp only [go_sem]) | (refine ZF ?_ ?_; · simp only [go_sem]))
        exact end_nil ⟨_, ⟨h2, d2, rfl, .inl hJ⟩, q_dirty rfl⟩
      · omega
    obtain ⟨r, ⟨h, d, rfl, k⟩, e⟩ := key
    exact ⟨h, d, e, k⟩
  · have eX : Ext H (H ++ [SO.cells (trs S) 78 true 0 []]) := Ext.app H _
    rw [← resV_pos H 3 c0, ← resH_pos H (trs S) 78 c0] at cl
    obtain ⟨H1, f, st, l1, fr1, ⟨old', _, hb⟩, hp, ho⟩ := sortE (cap := UNK + 3) cmpH (H := H ++ [SO.cells (trs S) 78 true 0 []]) (b := H.length) (S := S) (el := 78) (old := []) hS hn (by rw [app_get0]; rfl) (fun c h => by cases h)
    have hLl : (lsE f S.length).length = S.length := lsE_len f _
    refine ⟨lsE f S.length, H.length + 1, ⟨hp, fun i j hij hj => ?_⟩, by omega, fun J X hA h0 hY => ?_⟩
    · rw [hLl] at hj
      rw [lsE_at f (by omega), lsE_at f hj]
      have := ho i j hij hj
      unfold cH at this
      omega
    · have lH1 : H1.length = H.length + 1 := by rw [l1]; simp
      have e1 : Ext H H1 := ⟨by omega, fun j hj => by rw [fr1 j (by omega) (by simp)]; exact eX.fr j hj⟩
      have key : ∃ r, (∃ h d, r = (Value.tuple #[], finD H.length h d, d) ∧ (J (lsE f S.length).length h d ∨ ∃ i, i < (lsE f S.length).length ∧ X (i + 1) h d)) ∧ M.call 81 [.func (.yield L0) #[] #[], .pointer (some ⟨c1, 0, none⟩)] H = some r := by
        refine call_ex (f := 81) _ sf81 rfl rfl rfl ?_
        unfold sf81
        repeat (first | apply Z1 | apply Z2 | apply Z3 | apply Z4 | apply Z5 rfl | apply Z6 | apply Z7 | apply Z8 | apply Z9 | apply ZA | apply ZB | apply ZC | ((first | apply ZD (by decide) | apply ZN (by decide)); (simp (maxSteps := 9999999) only [go_sem, argR, l0, cl, st]; rfl)) | (refine ZE ?_ ?_; · simp only [go_sem]) | (refine ZF ?_ ?_; · simp only [go_sem]))
        refine run_loop (rise_loop (L := lsE f S.length) (by omega) (q := H.length + 1) hA hY (b := H.length) (vb := .slice (some ⟨H.length, 0, none⟩) S.length (UNK + 3)) (fun h => ⟨_, by rw [hLl], Nat.le_refl _, by omega⟩) S.length _ _ _ _ ⟨0, by omega, h0 H1 lH1 e1, by omega, fun h => ⟨_, hb⟩, by simp only [go_sem, argR], by simp only [go_sem], by simp only [go_sem, hLl], by simp only [go_sem], rfl⟩) ?_
        rintro ex ρ2 ms2 h2 d2 ⟨rfl, ⟨rfl, hJ⟩ | ⟨rfl, i, hi, hX⟩⟩
        · repeat (first | apply Z1 | apply Z2 | apply Z3 | apply Z4 | apply Z5 rfl | apply Z6 | apply Z7 | apply Z8 | apply Z9 | apply ZA | apply ZB | apply ZC | ((first | apply ZD (by decide) | apply ZN (by decide)); (simp (maxSteps := 9999999) only [go_sem]; rfl)) | (refine ZE ?_ ?_; · simp only [go_sem]) | (refine ZF ?_ ?_; · simp only [go_sem]))
          exact end_nil ⟨_, ⟨h2, d2, rfl, .inl hJ⟩, q_dirty rfl⟩
        · repeat (first | apply Z1 | apply Z2 | apply Z3 | apply Z4 | apply Z5 rfl | apply Z6 | apply Z7 | apply Z8 | apply Z9 | apply ZA | apply ZB | apply ZC | ((first | apply ZD (by decide) | apply ZN (by decide)); (simp (maxSteps := 9999999) only [go_sem]; rfl)) | (refine ZE ?_ ?_; · simp only [go_sem]) | (refine ZF ?_ ?_; · simp only [go_sem]))
          exact end_nil ⟨_, ⟨h2, d2, rfl, .inr ⟨i, hi, hX⟩⟩, q_dirty rfl⟩
      obtain ⟨r, ⟨h, d, rfl, k⟩, e⟩ := key
      exact ⟨h, d, e, k⟩
end Go.Proofs.Ytioijehbmgmgkaa.Sh

