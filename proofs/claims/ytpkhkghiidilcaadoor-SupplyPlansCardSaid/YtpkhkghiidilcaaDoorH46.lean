/- Moves are made, one after the other. -/
import Derived.Test.YtpkhkghiidilcaaDoorH45
set_option linter.all false
namespace Go.Proofs.YtpkhkghiidilcaaDoor.Sh
section
open Go
set_option maxRecDepth 100000
set_option maxHeartbeats 4000000
def tot (s : Nat → Int) : Int := s 0 + s 1 + s 2 + s 3 + s 4 + s 5
theorem tot_up (s : Nat → Int) {a : Nat} (ha : a < 6) (x : Int) : tot (up s a x) = tot s + (x - s a) := by
 have : a = 0 ∨ a = 1 ∨ a = 2 ∨ a = 3 ∨ a = 4 ∨ a = 5 := by omega
 unfold tot up
 rcases this with rfl | rfl | rfl | rfl | rfl | rfl <;> simp <;> omega
structure ST (n : Nat) (s : Nat → Int) (B : Int) : Prop where
 nn : ∀ v, 0 ≤ s v
 out : ∀ v, n ≤ v → s v = 0
 le : tot s ≤ B
theorem ST.bnd {n : Nat} {s : Nat → Int} {B : Int} (S : ST n s B) (hn : n ≤ 6) (v : Nat) : 0 ≤ s v ∧ s v ≤ B := by
 have h := S.le
 have n0 := S.nn 0
 have n1 := S.nn 1
 have n2 := S.nn 2
 have n3 := S.nn 3
 have n4 := S.nn 4
 have n5 := S.nn 5
 unfold tot at h
 refine ⟨S.nn v, ?_⟩
 by_cases c : v < 6
 ·have : v = 0 ∨ v = 1 ∨ v = 2 ∨ v = 3 ∨ v = 4 ∨ v = 5 := by omega
  rcases this with rfl | rfl | rfl | rfl | rfl | rfl <;> omega
 ·rw [S.out v (by omega)]; omega
theorem canM_nat {n : Nat} {E : List (Int × Int)} {s : Nat → Int} {a b : Int} (h : canM n E s a b) : ∃ p q : Nat, a = p ∧ b = q ∧ p < n ∧ q < n ∧ adjE E p q = true ∧ 2 ≤ s p := by
 obtain ⟨h1, h2, h3, h4⟩ := h
 refine ⟨a.toNat, b.toNat, by omega, by omega, by omega, by omega, h3, h4⟩
theorem aft_at {s : Nat → Int} {a b : Nat} (h : a ≠ b) (v : Nat) : aft s a b v = if v = b then s b + 1 else if v = a then s a - 2 else s v := by
 unfold aft up
 by_cases c : v = b
 ·rw [if_pos c, if_pos c, if_neg (fun e => h e.symm)]
 ·rw [if_neg c, if_neg c]
theorem aft_tot {s : Nat → Int} {a b : Nat} (ha : a < 6) (hb : b < 6) : tot (aft s a b) = tot s - 1 := by
 unfold aft
 rw [tot_up _ hb, tot_up _ ha]; omega
theorem ST.aft {n : Nat} {E : List (Int × Int)} {s : Nat → Int} {B : Int} (S : ST n s B) (hE : EOK n E) (hn : n ≤ 6) {p q : Nat} (hp : p < n) (hq : q < n) (ha : adjE E p q = true) (h2 : 2 ≤ s p) : ST n (aft s p q) (B - 1) := by
 have hne := (hE.adj ha).2.2
 refine ⟨fun v => ?_, fun v hv => ?_, ?_⟩
 ·rw [aft_at hne]
  have := S.nn v
  have := S.nn q
  split
  ·omega
  ·split
   ·omega
   ·omega
 ·rw [aft_at hne, if_neg (by omega), if_neg (by omega)]; exact S.out v hv
 ·rw [aft_tot (by omega) (by omega)]; have := S.le; omega
theorem ST.mono {n : Nat} {s : Nat → Int} {B B' : Int} (S : ST n s B) (h : B ≤ B') : ST n s B' := ⟨S.nn, S.out, by have := S.le; omega⟩
def doM (n : Nat) (E : List (Int × Int)) : (Nat → Int) → List (Int × Int) → (Nat → Int) × Nat
 | s, [] => (s, 0)
 | s, m :: ms => if canM n E s m.1 m.2 then ((doM n E (aft s m.1.toNat m.2.toNat) ms).1, (doM n E (aft s m.1.toNat m.2.toNat) ms).2 + 1) else (s, 0)
theorem doM_cons {n : Nat} {E : List (Int × Int)} {s : Nat → Int} {w : List (Int × Int)} {i : Nat} (hi : i < w.length) : doM n E s (w.drop i) = if canM n E s w[i].1 w[i].2 then ((doM n E (aft s w[i].1.toNat w[i].2.toNat) (w.drop (i + 1))).1, (doM n E (aft s w[i].1.toNat w[i].2.toNat) (w.drop (i + 1))).2 + 1) else (s, 0) := by
 rw [List.drop_eq_getElem_cons hi]; rfl
theorem doM_nil {n : Nat} {E : List (Int × Int)} {s : Nat → Int} {w : List (Int × Int)} {i : Nat} (hi : w.length ≤ i) : doM n E s (w.drop i) = (s, 0) := by
 rw [List.drop_eq_nil_of_le hi]; rfl
theorem mem_bnd {n : Nat} {s : Nat → Int} {B : Int} (S : ST n s B) (hn : n ≤ 6) (hB : B ≤ 500) : ∀ x ∈ lst n s, -500 ≤ x ∧ x ≤ 500 := fun x hx => by
 unfold lst at hx
 obtain ⟨v, _, rfl⟩ := List.mem_map.1 hx
 have := S.bnd hn v
 omega
theorem aft_congr {n : Nat} {s s' : Nat → Int} (h : ∀ v, v < n → s v = s' v) {a b : Nat} (ha : a < n) (hb : b < n) : ∀ v, v < n → aft s a b v = aft s' a b v := fun v hv => by
 have h1 := h a ha
 have h2 := h b hb
 have h3 := h v hv
 unfold aft up
 split
 ·split
  ·rw [h1]
  ·rw [h2]
 ·split
  ·rw [h1]
  ·exact h3
theorem canM_congr {n : Nat} {E : List (Int × Int)} {s s' : Nat → Int} (h : ∀ v, v < n → s v = s' v) {a b : Int} : canM n E s a b ↔ canM n E s' a b := by
 unfold canM
 constructor
 ·rintro ⟨h1, h2, h3, h4⟩; exact ⟨h1, h2, h3, by rw [← h _ (by omega)]; exact h4⟩
 ·rintro ⟨h1, h2, h3, h4⟩; exact ⟨h1, h2, h3, by rw [h _ (by omega)]; exact h4⟩
theorem IS.lstAt {h : SHeap} {b n c : Nat} {s : Nat → Int} {el : TypeId} {pf : Bool} {own : Nat} {old : List Nat} (hb : h[b]? = some (.cells (iV n s) el pf own old)) (hr : readable own = true) : IS h (.slice (some ⟨b, 0, none⟩) n c) (lst n s) := by
 refine ⟨some ⟨b, 0, none⟩, c, by rw [lst_len], fun _ => ⟨b, 0, rfl, (List.getElem?_eq_some_iff.1 hb).1, fun i hi => ?_⟩⟩
 rw [lst_len] at hi
 have := load_cell (h := h) (o := i) hb hr (iV_get s hi) []
 rw [List.append_nil] at this
 rw [Nat.zero_add, this]
 simp [lst]
def DV (H h : SHeap) (lv v : Value) (n i : Nat) (s : Nat → Int) : Prop := (i = 0 ∧ v = lv) ∨ (0 < i ∧ ∃ b, v = .slice (some ⟨b, 0, none⟩) n (UNK + 1) ∧ H.length ≤ b ∧ h[b]? = some (.cells (iV n s) 3 true 0 []))
theorem do46_loop (cx : Cx) {H : SHeap} {n : Nat} (hn : n ≤ 6) (hn1 : 1 ≤ n) {ev lv wv : Value} {E w : List (Int × Int)} {l : List Int} (hE : EOK n E) (hv : PS H ev E) (hlen : E.length ≤ 1000000) (hs : IS H lv l) (hl : l.length = n) (hw : PS H wv w) (hwl : w.length ≤ 1000000) :
  ∀ k ρ ms h' d', (∃ (i : Nat) (s : Nat → Int) (v : Value), i + k = w.length ∧ ST n s 40 ∧ (i = 0 → s = stk l) ∧ doM n E (stk l) w = ((doM n E s (w.drop i)).1, (doM n E s (w.drop i)).2 + i) ∧ H.length ≤ h'.length ∧ (∀ j, j < H.length → h'[j]? = H[j]?) ∧ DV H h' lv v n i s ∧ ρ 0 = .int .i64 n ∧ ρ 1 = ev ∧ ρ 2 = v ∧ ρ 3 = wv ∧ ρ 10 = .int .i64 i ∧ ms = [] ∧ d' = []) →
  LoopW M cx 6 sf46L0 ρ ms h' d' (fun ex ρ' ms' h' d' => ms' = [] ∧ d' = [] ∧ H.length ≤ h'.length ∧ (∀ j, j < H.length → h'[j]? = H[j]?) ∧ ∃ v, DV H h' lv v n (doM n E (stk l) w).2 (doM n E (stk l) w).1 ∧ ((ex = .exit 0 ∧ (doM n E (stk l) w).2 = w.length ∧ ρ' 2 = v ∧ ρ' 3 = wv) ∨ (ex = .ret ∧ ρ' 8 = v ∧ ρ' 9 = .int .i64 (doM n E (stk l) w).2))) := by
 refine loop_run _ ?_
 rintro k ρ ms h' d' ⟨i, s, v, hk, S, hs0, hd, hle, fr, D, r0, r1, r2, r3, r10, rfl, rfl⟩
 unfold sf46L0
 by_cases c : k = 0
 ·have e1 : ¬ ((i : Int) < w.length) := by omega
  obtain ⟨wa, wc, rfl, _⟩ := id hw
  rw [doM_nil (by omega)] at hd
  repeat (first | apply Z1 | apply Z2 | apply Z3 | apply Z4 | apply Z5 rfl | apply Z6 | apply Z7 | apply Z8 | apply Z9 | apply ZA | apply ZB | apply ZC | ((first | apply ZD (by decide) | apply ZN (by decide)); (simp (maxSteps := 9999999) only [go_sem, r3, r10, e1]; rfl)) | (refine ZE ?_ ?_; · simp only [go_sem]) | (refine ZF ?_ ?_; · simp only [go_sem]))
  refine end_nil ⟨rfl, rfl, hle, fr, v, ?_, .inl ⟨rfl, ?_, by simp only [go_sem, r2], by simp only [go_sem, r3]⟩⟩
  ·rw [hd]; dsimp only; rw [Nat.zero_add]; exact D
  ·rw [hd]; dsimp only; omega
 ·have e1 : ((i : Int) < w.length) := by omega
  have hi : i < w.length := by omega
  have z1 : (0 : Int) ≤ i := by omega
  have ew : IntKind.i64.wrap ((i : Int) + 1) = ((i + 1 : Nat) : Int) := by rw [wrap64 (by omega) (by omega)]; rfl
  rw [doM_cons hi] at hd
  obtain ⟨bw, ow, cw, rfl, hp⟩ := (hw.fr fr).ld (by intro e; rw [e] at hi; simp at hi)
  have lp := hp.loadN hi
  have hsl : IS h' v (lst n s) := by
   rcases D with ⟨h0, rfl⟩ | ⟨_, b, rfl, _, hb⟩
   ·rw [hs0 h0, lst_stk hl]; exact hs.fr hle fr
   ·exact IS.lstAt hb rfl
  have cm := move47 hn (hv.fr fr) hlen hsl (lst_len _ _) (mem_bnd S hn (by omega)) hn1 w[i].1 w[i].2
  have hcc : canM n E (stk (lst n s)) w[i].1 w[i].2 ↔ canM n E s w[i].1 w[i].2 := canM_congr (fun v hv => lst_at s hv)
  generalize w[i] = m at *
  by_cases cc : canM n E s m.1 m.2
  ·rw [if_pos (hcc.2 cc)] at cm
   rw [if_pos cc] at hd
   obtain ⟨p, q, h1, h2, h3, h4, h5, h6⟩ := canM_nat cc
   rw [h1, h2, Int.toNat_natCast, Int.toNat_natCast] at cm hd
   rw [h1, h2] at lp
   rw [iV_congr (aft_congr (fun v hv => lst_at s hv) h3 h4)] at cm
   repeat (first | apply Z1 | apply Z2 | apply Z3 | apply Z4 | apply Z5 rfl | apply Z6 | apply Z7 | apply Z8 | apply Z9 | apply ZA | apply ZB | apply ZC | ((first | apply ZD (by decide) | apply ZN (by decide)); (simp (maxSteps := 9999999) only [go_sem, r0, r1, r2, r3, r10, e1, z1, lp, cm, ew, Int.toNat_natCast]; rfl)) | (refine ZE ?_ ?_; · simp only [go_sem]) | (refine ZF ?_ ?_; · simp only [go_sem]))
   refine end_nil ⟨k - 1, by omega, i + 1, aft s p q, _, by omega, (S.aft hE hn h3 h4 h5 h6).mono (by omega), fun h => by omega, ?_, by simp; omega, fun j hj => by rw [List.getElem?_append_left (by omega)]; exact fr j hj, .inr ⟨by omega, h'.length, rfl, hle, by simp⟩, by simp only [go_sem, r0], by simp only [go_sem, r1], by simp only [go_sem], by simp only [go_sem, r3], by simp only [go_sem, ew], rfl, rfl⟩
   rw [hd]; dsimp only; rw [Nat.add_assoc, Nat.add_comm 1 i]
  ·rw [if_neg (fun h => cc (hcc.1 h))] at cm
   rw [if_neg cc] at hd
   repeat (first | apply Z1 | apply Z2 | apply Z3 | apply Z4 | apply Z5 rfl | apply Z6 | apply Z7 | apply Z8 | apply Z9 | apply ZA | apply ZB | apply ZC | ((first | apply ZD (by decide) | apply ZN (by decide)); (simp (maxSteps := 9999999) only [go_sem, r0, r1, r2, r3, r10, e1, z1, lp, cm, Int.toNat_natCast]; rfl)) | (refine ZE ?_ ?_; · simp only [go_sem]) | (refine ZF ?_ ?_; · simp only [go_sem]))
   refine end_nil ⟨rfl, rfl, hle, fr, v, ?_, .inr ⟨rfl, by simp only [go_sem, r2], ?_⟩⟩
   ·rw [hd]; dsimp only; rw [Nat.zero_add]; exact D
   ·rw [hd]; dsimp only; rw [Nat.zero_add]; simp only [go_sem, r10]
theorem do46 {H : SHeap} {n : Nat} (hn : n ≤ 6) (hn1 : 1 ≤ n) {ev lv wv : Value} {E w : List (Int × Int)} {l : List Int} (hE : EOK n E) (hv : PS H ev E) (hlen : E.length ≤ 1000000) (hs : IS H lv l) (hl : l.length = n) (hS : ST n (stk l) 40) (hw : PS H wv w) (hwl : w.length ≤ 1000000) :
  M.call 46 [.int .i64 n, ev, lv, wv] H = some (if (doM n E (stk l) w).2 = 0 then (.tuple #[lv, .int .i64 0], H, []) else (.tuple #[.slice (some ⟨H.length, 0, none⟩) n (UNK + 1), .int .i64 (doM n E (stk l) w).2], H ++ [.cells (iV n (doM n E (stk l) w).1) 3 true 0 []], [])) := by
 refine call_run sf46 rfl rfl rfl ?_
 have hne : l ≠ [] := fun e => by subst e; simp at hl; omega
 obtain ⟨va, vc, rfl, _⟩ := id hv
 obtain ⟨wa, wc, rfl, _⟩ := id hw
 obtain ⟨sa, sc', rfl, hs2⟩ := id hs
 obtain ⟨bs, os, rfl, hbs, il⟩ := hs2 hne
 have done : ∀ (ρ : Reg) (h : SHeap) (v : Value) (k : Nat) (s : Nat → Int), h.take H.length = H → DV H h (.slice (some ⟨bs, os, none⟩) l.length sc') v n k s → ρ 8 = v → ρ 9 = .int .i64 k → callQ [.tmp 8, .tmp 9] H.length (if k = 0 then (.tuple #[.slice (some ⟨bs, os, none⟩) l.length sc', .int .i64 0], H, []) else (.tuple #[.slice (some ⟨H.length, 0, none⟩) n (UNK + 1), .int .i64 k], H ++ [.cells (iV n s) 3 true 0 []], [])) .ret ρ [] h [] := fun ρ h v k s ht D e1 e2 => by
  rcases D with ⟨rfl, rfl⟩ | ⟨h0, b, rfl, hb1, hb2⟩
  ·rw [if_pos rfl]
   exact q_gc [.slice (some ⟨bs, os, none⟩) l.length sc', .int .i64 0] (by simp only [go_sem, e1, e2]) rfl (gc_old2 rfl hbs ht) rfl
  ·rw [if_neg (by omega)]
   exact q_own2 (b := b) (old := []) (own := 0) (w := .int .i64 k) e1 e2 rfl ht hb2 rfl hb1
 unfold sf46
 repeat (first | apply Z1 | apply Z2 | apply Z3 | apply Z4 | apply Z5 rfl | apply Z6 | apply Z7 | apply Z8 | apply Z9 | apply ZA | apply ZB | apply ZC | ((first | apply ZD (by decide) | apply ZN (by decide)); (simp (maxSteps := 9999999) only [go_sem, argR]; rfl)) | (refine ZE ?_ ?_; · simp only [go_sem]) | (refine ZF ?_ ?_; · simp only [go_sem]))
 refine run_loop (do46_loop _ hn hn1 hE hv hlen hs hl hw hwl w.length _ _ _ _ ⟨0, stk l, _, by omega, hS, fun _ => rfl, rfl, Nat.le_refl _, fun j _ => rfl, .inl ⟨rfl, rfl⟩, by simp only [go_sem, argR], by simp only [go_sem, argR], by simp only [go_sem, argR], by simp only [go_sem, argR], by simp only [go_sem], rfl, rfl⟩) ?_
 rintro ex ρ2 ms2 h2 d2 ⟨rfl, rfl, hle, fr, v, D, h⟩
 have ht := take_of_same hle fr
 rcases h with ⟨rfl, hk, r2, r3⟩ | ⟨rfl, r8, r9⟩
 ·repeat (first | apply Z1 | apply Z2 | apply Z3 | apply Z4 | apply Z5 rfl | apply Z6 | apply Z7 | apply Z8 | apply Z9 | apply ZA | apply ZB | apply ZC | ((first | apply ZD (by decide) | apply ZN (by decide)); (simp (maxSteps := 9999999) only [go_sem, r2, r3]; rfl)) | (refine ZE ?_ ?_; · simp only [go_sem]) | (refine ZF ?_ ?_; · simp only [go_sem]))
  exact end_nil (done _ _ v _ _ ht D (by simp only [go_sem]) (by simp only [go_sem]; rw [hk]))
 ·repeat (first | apply Z1 | apply Z2 | apply Z3 | apply Z4 | apply Z5 rfl | apply Z6 | apply Z7 | apply Z8 | apply Z9 | apply ZA | apply ZB | apply ZC | ((first | apply ZD (by decide) | apply ZN (by decide)); (simp (maxSteps := 9999999) only [go_sem, r8, r9]; rfl)) | (refine ZE ?_ ?_; · simp only [go_sem]) | (refine ZF ?_ ?_; · simp only [go_sem]))
  exact end_nil (done _ _ v _ _ ht D (by simp only [go_sem, r8]) (by simp only [go_sem, r9]))
theorem done_loop (cx : Cx) {H : SHeap} {n g : Nat} (hn : n ≤ 6) {wv : Value} {E w : List (Int × Int)} {s0 : Nat → Int} (hE : EOK n E) (hg : GAt H g n E) (hw : PS H wv w) (hwl : w.length ≤ 1000000) {x5 : SO} :
  ∀ k ρ ms h' d', (∃ (i : Nat) (s : Nat → Int), i + k = w.length ∧ ST n s 40 ∧ doM n E s0 w = ((doM n E s (w.drop i)).1, (doM n E s (w.drop i)).2 + i) ∧ H.length + 2 ≤ h'.length ∧ (∀ j, j < H.length → h'[j]? = H[j]?) ∧ h'[H.length]? = some (.cells (iV 6 s) 87 true 0 []) ∧ h'[H.length + 1]? = some x5 ∧ ρ 0 = .pointer (some ⟨g, 0, none⟩) ∧ ρ 4 = .pointer (some ⟨H.length, 0, none⟩) ∧ ρ 6 = .pointer (some ⟨H.length + 1, 0, none⟩) ∧ ρ 8 = .int .i64 i ∧ ρ 12 = wv ∧ ρ 13 = .int .i64 w.length ∧ ρ 14 = .int .i64 i ∧ ms = [] ∧ d' = []) →
  LoopW M cx 6 sf65L0 ρ ms h' d' (fun ex ρ' ms' h' d' => ex = .exit 0 ∧ ms' = [] ∧ d' = [] ∧ H.length + 2 ≤ h'.length ∧ (∀ j, j < H.length → h'[j]? = H[j]?) ∧ h'[H.length]? = some (.cells (iV 6 (doM n E s0 w).1) 87 true 0 []) ∧ h'[H.length + 1]? = some x5 ∧ ρ' 4 = .pointer (some ⟨H.length, 0, none⟩) ∧ ρ' 6 = .pointer (some ⟨H.length + 1, 0, none⟩) ∧ ρ' 8 = .int .i64 (doM n E s0 w).2) := by
 refine loop_run _ ?_
 rintro k ρ ms h' d' ⟨i, s, hk, S, hd, hle, fr, hb, h5, r0, r4, r6, r8, r12, r13, r14, rfl, rfl⟩
 unfold sf65L0
 by_cases c : k = 0
 ·have e1 : ¬ ((i : Int) < w.length) := by omega
  rw [doM_nil (by omega)] at hd
  repeat (first | apply Z1 | apply Z2 | apply Z3 | apply Z4 | apply Z5 rfl | apply Z6 | apply Z7 | apply Z8 | apply Z9 | apply ZA | apply ZB | apply ZC | ((first | apply ZD (by decide) | apply ZN (by decide)); (simp (maxSteps := 9999999) only [go_sem, r13, r14, e1]; rfl)) | (refine ZE ?_ ?_; · simp only [go_sem]) | (refine ZF ?_ ?_; · simp only [go_sem]))
  exact end_nil ⟨rfl, rfl, rfl, hle, fr, by rw [hd]; exact hb, h5, by simp only [go_sem, r4], by simp only [go_sem, r6], by rw [hd]; dsimp only; rw [Nat.zero_add]; simp only [go_sem, r8]⟩
 ·have e1 : ((i : Int) < w.length) := by omega
  have hi : i < w.length := by omega
  have z1 : (0 : Int) ≤ i := by omega
  have ew : IntKind.i64.wrap ((i : Int) + 1) = ((i + 1 : Nat) : Int) := by rw [wrap64 (by omega) (by omega)]; rfl
  rw [doM_cons hi] at hd
  obtain ⟨bw, ow, cw, rfl, hp⟩ := (hw.fr fr).ld (by intro e; rw [e] at hi; simp at hi)
  have lp := hp.loadN hi
  have hgl := (List.getElem?_eq_some_iff.1 hg).1
  have hg' : GAt h' g n E := by unfold GAt; rw [fr g hgl]; exact hg
  generalize w[i] = m at *
  have l4 : ∀ x, loadS (h' ++ x) (some 6) (.pointer (some ⟨H.length, 0, none⟩)) = some (stV s) := fun x => load_all hb rfl (iV_len _ _) x
  have l10 : ∀ x, loadS (h' ++ SO.cells [.int .i64 m.1, .int .i64 m.2] 45 true 0 [] :: x) none (.pointer (some ⟨h'.length, 0, none⟩)) = some (.int .i64 m.1) := fun x => (two_ld h' m.1 m.2 x).1
  have l11 : ∀ x, loadS (h' ++ SO.cells [.int .i64 m.1, .int .i64 m.2] 45 true 0 [] :: x) none (.pointer (some ⟨h'.length, 1, none⟩)) = some (.int .i64 m.2) := fun x => (two_ld h' m.1 m.2 x).2
  have cn := can78 hE hn (hg'.app [SO.cells [.int .i64 m.1, .int .i64 m.2] 45 true 0 [], SO.cells [.int .i64 m.1, .int .i64 m.2] 106 true 0 []]) s m.1 m.2
  by_cases cc : canM n E s m.1 m.2
  ·simp only [decide_eq_true cc] at cn
   rw [if_pos cc] at hd
   obtain ⟨p, q, h1, h2, h3, h4, h5', h6⟩ := canM_nat cc
   have bp := S.bnd hn p
   have bq := S.bnd hn q
   rw [h1, h2, Int.toNat_natCast, Int.toNat_natCast] at hd
   rw [h1, h2] at lp cn l10 l11
   have ca := aft79 (h := h' ++ [SO.cells [.int .i64 p, .int .i64 q] 45 true 0 [], SO.cells [.int .i64 p, .int .i64 q] 106 true 0 []]) (s := s) (a := p) (b := q) (by omega) (by omega) (by omega) (by omega)
   have hst : ∀ base d, storeS base (h' ++ [SO.cells [.int .i64 p, .int .i64 q] 45 true 0 [], SO.cells [.int .i64 p, .int .i64 q] 106 true 0 []]) d H.length 0 (cellsL (stV (aft s p q))) = some ((h' ++ [SO.cells [.int .i64 p, .int .i64 q] 45 true 0 [], SO.cells [.int .i64 p, .int .i64 q] 106 true 0 []]).set H.length (SO.cells (iV 6 (aft s p q)) 87 true 0 []), d) := fun base d =>
    store_at (b := H.length) (cs := iV 6 s) (vs := iV 6 (aft s p q)) (pf := true) (by rw [List.getElem?_append_left (by omega)]; exact hb) rfl (by rw [iV_len]; decide) rfl (fun _ => rfl) d
   repeat (first | apply Z1 | apply Z2 | apply Z3 | apply Z4 | apply Z5 rfl | apply Z6 | apply Z7 | apply Z8 | apply Z9 | apply ZA | apply ZB | apply ZC | ((first | apply ZD (by decide) | apply ZN (by decide)); (simp (maxSteps := 9999999) only [go_sem, r0, r4, r6, r8, r12, r13, r14, e1, z1, lp, ↓l4, cn, ca, ↓hst, ew, Int.toNat_natCast]; rfl)) | (refine ZE ?_ ?_; · simp only [go_sem]) | (refine ZF ?_ ?_; · simp only [go_sem]))
   refine end_nil ⟨k - 1, by omega, i + 1, aft s p q, by omega, (S.aft hE hn h3 h4 h5' h6).mono (by omega), ?_, by simp; omega, fun j hj => by rw [List.getElem?_set_ne (by omega), List.getElem?_append_left (by omega)]; exact fr j hj, by rw [List.getElem?_set_self (by simp; omega)], by rw [List.getElem?_set_ne (by omega), List.getElem?_append_left (by omega)]; exact h5, by simp only [go_sem, r0], by simp only [go_sem, r4], by simp only [go_sem, r6], by simp only [go_sem, ew], by simp only [go_sem, r12], by simp only [go_sem, r13], by simp only [go_sem, ew], rfl, rfl⟩
   rw [hd]; dsimp only; rw [Nat.add_assoc, Nat.add_comm 1 i]
  ·simp only [decide_eq_false cc] at cn
   rw [if_neg cc] at hd
   repeat (first | apply Z1 | apply Z2 | apply Z3 | apply Z4 | apply Z5 rfl | apply Z6 | apply Z7 | apply Z8 | apply Z9 | apply ZA | apply ZB | apply ZC | ((first | apply ZD (by decide) | apply ZN (by decide)); (simp (maxSteps := 9999999) only [go_sem, r0, r4, r6, r8, r12, r13, r14, e1, z1, lp, ↓l4, cn, Int.toNat_natCast]; rfl)) | (refine ZE ?_ ?_; · simp only [go_sem]) | (refine ZF ?_ ?_; · simp only [go_sem]))
   refine end_nil ⟨rfl, rfl, rfl, by simp; omega, fun j hj => by rw [List.getElem?_append_left (by omega)]; exact fr j hj, by rw [hd, List.getElem?_append_left (by omega)]; exact hb, by rw [List.getElem?_append_left (by omega)]; exact h5, by simp only [go_sem, r4], by simp only [go_sem, r6], by rw [hd]; dsimp only; rw [Nat.zero_add]; simp only [go_sem, r8]⟩
theorem done65 {H : SHeap} {n g : Nat} (hn : n ≤ 6) {wv : Value} {E w : List (Int × Int)} {s : Nat → Int} (hE : EOK n E) (hg : GAt H g n E) (hw : PS H wv w) (hwl : w.length ≤ 1000000) (hS : ST n s 40) :
  M.call 65 [.pointer (some ⟨g, 0, none⟩), stV s, wv] H = some (.tuple #[stV (doM n E s w).1, .int .i64 (doM n E s w).2], H, []) := by
 refine call_run sf65 rfl rfl rfl ?_
 obtain ⟨wa, wc, rfl, _⟩ := id hw
 unfold sf65
 rw [stV_def s]
 repeat (first | apply Z1 | apply Z2 | apply Z3 | apply Z4 | apply Z5 rfl | apply Z6 | apply Z7 | apply Z8 | apply Z9 | apply ZA | apply ZB | apply ZC | ((first | apply ZD (by decide) | apply ZN (by decide)); (simp (maxSteps := 9999999) only [go_sem, argR]; rfl)) | (refine ZE ?_ ?_; · simp only [go_sem]) | (refine ZF ?_ ?_; · simp only [go_sem]))
 refine run_loop (done_loop _ hn hE hg hw hwl (s0 := s) (x5 := .cells (iV 6 (fun _ => 0)) 87 true 0 []) w.length _ _ _ _ ⟨0, s, by omega, hS, rfl, by simp, fun j hj => List.getElem?_append_left hj, by rw [app_get0]; rfl, by rw [app_get]; rfl, by simp only [go_sem, argR], by simp only [go_sem], by simp only [go_sem], by simp only [go_sem], by simp only [go_sem], by simp only [go_sem], by simp only [go_sem], rfl, rfl⟩) ?_
 rintro ex ρ2 ms2 h2 d2 ⟨rfl, rfl, rfl, hle, fr, hb, h5, r4, r6, r8⟩
 generalize (doM n E s w).1 = t at *
 generalize (doM n E s w).2 = k at *
 have l4 : loadS h2 (some 6) (.pointer (some ⟨H.length, 0, none⟩)) = some (stV t) := by
  have := load_all hb rfl (iV_len _ _) []
  rw [List.append_nil] at this; exact this
 have hst : ∀ base d, storeS base h2 d (H.length + 1) 0 (cellsL (stV t)) = some (h2.set (H.length + 1) (SO.cells (iV 6 t) 87 true 0 []), d) := fun base d =>
  store_at (b := H.length + 1) (cs := iV 6 (fun _ => 0)) (vs := iV 6 t) (pf := true) h5 rfl (by rw [iV_len]; decide) rfl (fun _ => rfl) d
 repeat (first | apply Z1 | apply Z2 | apply Z3 | apply Z4 | apply Z5 rfl | apply Z6 | apply Z7 | apply Z8 | apply Z9 | apply ZA | apply ZB | apply ZC | ((first | apply ZD (by decide) | apply ZN (by decide)); (simp (maxSteps := 9999999) only [go_sem, r4, r6, r8, l4, ↓hst]; rfl)) | (refine ZE ?_ ?_; · simp only [go_sem]) | (refine ZF ?_ ?_; · simp only [go_sem]))
 have l6 : loadS (h2.set (H.length + 1) (SO.cells (iV 6 t) 87 true 0 [])) (some 6) (.pointer (some ⟨H.length + 1, 0, none⟩)) = some (stV t) := by
  have := load_all (h := h2.set (H.length + 1) (SO.cells (iV 6 t) 87 true 0 [])) (b := H.length + 1) (n := 6) (cs := iV 6 t) (el := 87) (pf := true) (own := 0) (old := []) (by rw [List.getElem?_set_self (by omega)]) rfl (iV_len _ _) []
  rw [List.append_nil] at this; exact this
 exact end_nil (q_free [stV t, .int .i64 k] (by simp only [go_sem, r6, l6]) rfl rfl rfl (fun _ => rfl) (take_of_same (by simp; omega) (fun j hj => by rw [List.getElem?_set_ne (by omega)]; exact fr j hj)) rfl)
theorem SupOK.st {n : Nat} {l : List Int} (h : SupOK n l) (hn : n ≤ 6) : ST n (stk l) 40 := by
 have hl : l.length = n := by have := h.1; omega
 refine ⟨fun v => (stk_bnd h v).1, fun v hv => stk_out (by omega), ?_⟩
 have h3 := h.2.2
 have key : ∀ (l : List Int), l.length ≤ 6 → tot (stk l) = l.sum := fun l hl => by
  unfold tot
  match l, hl with
  | [], _ => rfl
  | [a], _ => simp [stk]
  | [a, b], _ => simp [stk]
  | [a, b, c], _ => simp [stk]; omega
  | [a, b, c, d], _ => simp [stk]; omega
  | [a, b, c, d, e], _ => simp [stk]; omega
  | [a, b, c, d, e, f], _ => simp [stk]; omega
 rw [key l (by omega)]; exact h3
end
end Go.Proofs.YtpkhkghiidilcaaDoor.Sh
namespace Go.Proofs.YtpkhkghiidilcaaDoor.Sh
section
open Go
set_option maxRecDepth 100000
set_option maxHeartbeats 4000000
theorem gc_own3 {H h : SHeap} {b o n c : Nat} {cs : List Value} {el : TypeId} {own : Nat} {old : List Nat} {w w2 : Value} (hw : flat 1 w = true) (hw2 : flat 1 w2 = true) (ht : h.take H.length = H) (hb : h[b]? = some (.cells cs el true own old)) (h2 : (own == 2) = false) (hle : H.length ≤ b) :
  gcS H.length (.tuple #[.slice (some ⟨b, o, none⟩) n c, w, w2]) h = some (.tuple #[.slice (some ⟨H.length, o, none⟩) n c, w, w2], H ++ [.cells cs el true own (old.filterMap (ren H.length [b]))]) := by
 have eb : Nat.ble H.length b = true := by rw [ble_dec]; simpa using hle
 have e1 : reach H.length h 1000000 [b] [] = [b] := by
  rw [show (1000000 : Nat) = 999998 + 1 + 1 from rfl, reach]
  simp only [eb, List.contains_nil, Bool.not_true, Bool.or_self, Bool.false_eq_true, if_false, hb, ptrsO, Bool.true_or, if_true, List.nil_append]
  rw [reach]
 have e2 : ren H.length [b] b = some H.length := by simp [ren, eb, posOf]
 have hp : ∀ {w}, flat 1 w = true → ptrs 2 w = [] ∧ ∀ K, renV H.length K 2 w = some w := fun {w} hw => ⟨ptrs_flat 2 w (flat_up _ _ hw), fun K => renV_flat 2 w (flat_up _ _ hw)⟩
 have e4 : ptrs 3 (.tuple #[.slice (some ⟨b, o, none⟩) n c, w, w2]) = [b] := by
  show ptrs 2 (.slice (some ⟨b, o, none⟩) n c) ++ (ptrs 2 w ++ (ptrs 2 w2 ++ [])) = [b]
  rw [(hp hw).1, (hp hw2).1]; rfl
 have e3 := (hp hw).2 [b]
 have e5 := (hp hw2).2 [b]
 unfold gcS
 simp only [e4, e1, renV, e2, e3, e5, mapO, renO, hb, h2, Bool.false_eq_true, if_false, if_true, ht]
section
variable {H : SHeap} {v sv wv : Value} {E w : List (Int × Int)} {l : List Int}
end
end
end Go.Proofs.YtpkhkghiidilcaaDoor.Sh
namespace Go.Proofs.YtpkhkghiidilcaaDoor.Sh
section
open Go
set_option maxRecDepth 100000
set_option maxHeartbeats 4000000
theorem u64_mod' (z n : Int) (h0 : 0 < n) : 0 ≤ (IntKind.u64.wrap z).tmod n ∧ (IntKind.u64.wrap z).tmod n < n := by
 have hu : 0 ≤ IntKind.u64.wrap z := by
  have e1 : IntKind.u64.wrap z = z % 18446744073709551616 := by simp [IntKind.wrap, IntKind.signed, IntKind.bits]
  rw [e1]; exact Int.emod_nonneg _ (by decide)
 rw [Int.tmod_eq_emod_of_nonneg hu]
 exact ⟨Int.emod_nonneg _ (by omega), Int.emod_lt_of_pos _ h0⟩
def uR (x : Int) (m : Nat) : Nat := ((IntKind.u64.wrap x).tmod m).toNat
theorem uR_eq (x : Int) {m : Nat} (h : 0 < m) : (IntKind.u64.wrap x).tmod m = uR x m := by
 have := u64_mod' x m (by omega)
 unfold uR; omega
theorem uR_lt (x : Int) {m : Nat} (h : 0 < m) : uR x m < m := by
 have := u64_mod' x m (by omega)
 unfold uR; omega
def bV (f : Nat → Bool) : List Value := (List.range 36).map (fun i => Value.bool (f i))
theorem bV_len (f : Nat → Bool) : (bV f).length = 36 := by simp [bV]
theorem bV_get (f : Nat → Bool) {i : Nat} (h : i < 36) : (bV f)[i]? = some (.bool (f i)) := by simp [bV, h]
theorem bV_set (f : Nat → Bool) {i : Nat} (h : i < 36) (x : Bool) : (bV f).set i (.bool x) = bV (up f i x) := by
 apply List.ext_getElem?
 intro j
 by_cases e : j = i
 ·subst e
  rw [List.getElem?_set_self (by rw [bV_len]; exact h), bV_get _ h]; simp [up]
 ·rw [List.getElem?_set_ne (fun k => e k.symm)]
  by_cases c : j < 36
  ·rw [bV_get _ c, bV_get _ c]; simp [up, e]
  ·rw [List.getElem?_eq_none (by rw [bV_len]; omega), List.getElem?_eq_none (by rw [bV_len]; omega)]
abbrev tH (H : SHeap) (x : SO) (f : Nat → Bool) : SHeap := H ++ [x, .cells (bV f) 83 true 0 []]
theorem tH_st (H : SHeap) (x : SO) (f : Nat → Bool) {i : Nat} (h : i < 36) (base : Nat) (d : List Nat) : storeS base (tH H x f) d (H.length + 1) i (cellsL (.bool true)) = some (tH H x (up f i true), d) := by
 have := store_cell (h := tH H x f) (base := base) (b := H.length + 1) (o := i) (c := .bool true) (cs := bV f) (el := 83) (pf := true) (by rw [app_get]; rfl) (by rw [bV_len]; exact h) rfl (fun _ => rfl) d
 rw [bV_set f h, List.set_append_right _ _ (by omega), Nat.add_sub_cancel_left] at this
 exact this
structure T1 (n : Nat) (f : Nat → Bool) : Prop where
 lt : ∀ i, f i = true → i < 36 ∧ i / 6 < i % 6 ∧ i % 6 < n
theorem tame_par (cx : Cx) {H : SHeap} {N : Int} {ev : Value} {X : List (Int × Int)} (hv : PS H ev X) (hlen : X.length ≤ 9223372036854775807) {n : Nat} (hn : n ≤ 6) {most tree : Value} {g : Value} :
  ∀ k ρ ms h' d', (∃ (v : Nat) (f : Nat → Bool) (par : Nat → Nat), v + k = n + (if n = 0 then 1 else 0) ∧ 1 ≤ v ∧ (∀ w, 1 ≤ w → w < v → par w < w) ∧ (∀ i, f i = true ↔ i < 36 ∧ 1 ≤ i % 6 ∧ i % 6 < v ∧ par (i % 6) = i / 6) ∧ h' = tH H (.cells [.int .i64 N, ev] 24 false 0 []) f ∧
   ρ 1 = most ∧ ρ 2 = tree ∧ ρ 3 = .pointer (some ⟨H.length, 0, none⟩) ∧ ρ 8 = .int .i64 n ∧ ρ 9 = .pointer (some ⟨H.length + 1, 0, none⟩) ∧ ρ 10 = .int .i64 v ∧ ms = [] ∧ d' = []) →
  LoopW M cx 7 sf15L2 ρ ms h' d' (fun ex ρ' ms' h' d' => ex = .exit 0 ∧ ms' = [] ∧ d' = [] ∧ ∃ (f : Nat → Bool) (par : Nat → Nat), (∀ w, 1 ≤ w → w < n → par w < w) ∧ (∀ i, f i = true ↔ i < 36 ∧ 1 ≤ i % 6 ∧ i % 6 < n ∧ par (i % 6) = i / 6) ∧ h' = tH H (.cells [.int .i64 N, ev] 24 false 0 []) f ∧
   ρ' 2 = tree ∧ ρ' 3 = .pointer (some ⟨H.length, 0, none⟩) ∧ ρ' 8 = .int .i64 n ∧ ρ' 9 = .pointer (some ⟨H.length + 1, 0, none⟩)) := by
 refine loop_run _ ?_
 rintro k ρ ms h' d' ⟨v, f, par, hk, hv1, hpar, hf, rfl, r1, r2, r3, r8, r9, r10, rfl, rfl⟩
 unfold sf15L2
 by_cases c : v < n
 ·have e1 : ((v : Int) < n) := by omega
  have ew : IntKind.i64.wrap ((v : Int) + 1) = ((v + 1 : Nat) : Int) := by rw [wrap64 (by omega) (by omega)]; rfl
  have wm : IntKind.i64.wrap ((v : Int) - 1) = ((v - 1 : Nat) : Int) := by rw [wrap64 (by omega) (by omega)]; omega
  have wu : IntKind.u64.wrap (v : Int) = v := wrapU (by omega) (by omega)
  have hne : ¬ (v : Int) = 0 := by omega
  have lx : loadS (tH H (.cells [.int .i64 N, ev] 24 false 0 []) f) none (.pointer (some ⟨H.length, 1, none⟩)) = some ev := by rw [load_app0]; rfl
  have step : ∀ u, u < v → ∀ (par' : Nat → Nat), par' = up par v u → (∀ w, 1 ≤ w → w < v + 1 → par' w < w) ∧ (∀ i, up f (u * 6 + v) true i = true ↔ i < 36 ∧ 1 ≤ i % 6 ∧ i % 6 < v + 1 ∧ par' (i % 6) = i / 6) := fun u hu par' hp => by
   subst hp
   refine ⟨fun w h1 h2 => ?_, fun i => ?_⟩
   ·unfold up
    by_cases cw : w = v
    ·rw [if_pos cw]; omega
    ·rw [if_neg cw]; exact hpar w h1 (by omega)
   ·unfold up
    by_cases ci : i = u * 6 + v
    ·rw [if_pos ci]
     have h1 : i % 6 = v := by omega
     have h2 : i / 6 = u := by omega
     rw [if_pos h1]
     exact ⟨fun _ => ⟨by omega, by omega, by omega, h2.symm⟩, fun _ => rfl⟩
    ·rw [if_neg ci, hf]
     by_cases cv : i % 6 = v
     ·rw [if_pos cv]
      constructor
      ·rintro ⟨_, _, h, _⟩; omega
      ·rintro ⟨_, _, _, h⟩; omega
     ·rw [if_neg cv]
      constructor
      ·rintro ⟨h1, h2, h3, h4⟩; exact ⟨h1, h2, by omega, h4⟩
      ·rintro ⟨h1, h2, h3, h4⟩; exact ⟨h1, h2, by omega, h4⟩
  have mulw : ∀ u, u < v → IntKind.i64.wrap ((u : Int) * 6) = ((u * 6 : Nat) : Int) := fun u hu => by rw [wrap64 (by omega) (by omega)]; omega
  have addw : ∀ u, u < v → IntKind.i64.wrap (((u * 6 : Nat) : Int) + v) = ((u * 6 + v : Nat) : Int) := fun u hu => by rw [wrap64 (by omega) (by omega)]; omega
  have z1 : ∀ u, u < v → (0 : Int) ≤ ((u * 6 + v : Nat) : Int) := fun u hu => by omega
  have z2 : ∀ u, u < v → ((u * 6 + v : Nat) : Int) < 36 := fun u hu => by omega
  have st := fun u (hu : u < v) => tH_st H (.cells [.int .i64 N, ev] 24 false 0 []) f (i := u * 6 + v) (by omega)
  obtain ⟨va, vc, rfl, _⟩ := id hv
  by_cases c2 : v - 1 < X.length
  ·have e2 : ((v - 1 : Nat) : Int) < X.length := by omega
   have e3 : (0 : Int) ≤ ((v - 1 : Nat) : Int) := by omega
   obtain ⟨b, o, cp, he, hp⟩ := (hv.app [.cells [.int .i64 N, .slice va X.length vc] 24 false 0 [], .cells (bV f) 83 true 0 []]).ld (by intro e; rw [e] at c2; simp at c2)
   cases he
   have l1 := hp.load1 c2
   have um := uR_eq X[v - 1].1 (m := v) (by omega)
   have ul := uR_lt X[v - 1].1 (m := v) (by omega)
   generalize X[v - 1].1 = y at *
   have w6 : IntKind.i64.wrap ((uR y v : Nat) : Int) = ((uR y v : Nat) : Int) := wrap64 (by omega) (by omega)
   generalize uR y v = u at *
   have m1 := mulw u ul
   have m2 := addw u ul
   have m3 := z1 u ul
   have m4 := z2 u ul
   have m5 := st u ul
   obtain ⟨s1, s2⟩ := step u ul _ rfl
   generalize hj : u * 6 + v = j at *
   generalize u * 6 = j2 at *
   repeat (first | apply Z1 | apply Z2 | apply Z3 | apply Z4 | apply Z5 rfl | apply Z6 | apply Z7 | apply Z8 | apply Z9 | apply ZA | apply ZB | apply ZC | ((first | apply ZD (by decide) | apply ZN (by decide)); (simp (maxSteps := 9999999) only [go_sem, r1, r2, r3, r8, r9, r10, e1, e2, e3, wm, lx, l1, wu, um, w6, hne, m1, m2, m3, m4, ↓m5, ew, Int.toNat_natCast]; rfl)) | (refine ZE ?_ ?_; · simp only [go_sem]) | (refine ZF ?_ ?_; · simp only [go_sem]))
   exact end_nil ⟨k - 1, by split at hk <;> omega, v + 1, _, _, by split at hk <;> (try split) <;> omega, by omega, s1, s2, rfl, by simp only [go_sem, r1], by simp only [go_sem, r2], by simp only [go_sem, r3], by simp only [go_sem, r8], by simp only [go_sem, r9], by simp only [go_sem, ew], rfl, rfl⟩
  ·have e2 : ¬ ((v - 1 : Nat) : Int) < X.length := by omega
   have ul : v - 1 < v := by omega
   generalize hu : v - 1 = u at *
   have m1 := mulw u ul
   have m2 := addw u ul
   have m3 := z1 u ul
   have m4 := z2 u ul
   have m5 := st u ul
   obtain ⟨s1, s2⟩ := step u ul _ rfl
   generalize hj : u * 6 + v = j at *
   generalize u * 6 = j2 at *
   repeat (first | apply Z1 | apply Z2 | apply Z3 | apply Z4 | apply Z5 rfl | apply Z6 | apply Z7 | apply Z8 | apply Z9 | apply ZA | apply ZB | apply ZC | ((first | apply ZD (by decide) | apply ZN (by decide)); (simp (maxSteps := 9999999) only [go_sem, r1, r2, r3, r8, r9, r10, e1, e2, wm, lx, m1, m2, m3, m4, ↓m5, ew, Int.toNat_natCast]; rfl)) | (refine ZE ?_ ?_; · simp only [go_sem]) | (refine ZF ?_ ?_; · simp only [go_sem]))
   exact end_nil ⟨k - 1, by split at hk <;> omega, v + 1, _, _, by split at hk <;> (try split) <;> omega, by omega, s1, s2, rfl, by simp only [go_sem, r1], by simp only [go_sem, r2], by simp only [go_sem, r3], by simp only [go_sem, r8], by simp only [go_sem, r9], by simp only [go_sem, ew], rfl, rfl⟩
 ·have e1 : ¬ ((v : Int) < n) := by omega
  repeat (first | apply Z1 | apply Z2 | apply Z3 | apply Z4 | apply Z5 rfl | apply Z6 | apply Z7 | apply Z8 | apply Z9 | apply ZA | apply ZB | apply ZC | ((first | apply ZD (by decide) | apply ZN (by decide)); (simp (maxSteps := 9999999) only [go_sem, r8, r10, e1]; rfl)) | (refine ZE ?_ ?_; · simp only [go_sem]) | (refine ZF ?_ ?_; · simp only [go_sem]))
  refine end_nil ⟨rfl, rfl, rfl, f, par, fun w h1 h2 => hpar w h1 (by omega), fun i => ?_, rfl, by simp only [go_sem, r2], by simp only [go_sem, r3], by simp only [go_sem, r8], by simp only [go_sem, r9]⟩
  rw [hf]
  constructor
  ·rintro ⟨h1, h2, h3, h4⟩
   refine ⟨h1, h2, ?_, h4⟩
   split at hk <;> omega
  ·rintro ⟨h1, h2, h3, h4⟩; exact ⟨h1, h2, by omega, h4⟩
end
end Go.Proofs.YtpkhkghiidilcaaDoor.Sh
namespace Go.Proofs.YtpkhkghiidilcaaDoor.Sh
section
open Go
set_option maxRecDepth 100000
set_option maxHeartbeats 4000000
theorem tame_more (cx : Cx) {H : SHeap} {N : Int} {ev : Value} {X : List (Int × Int)} (hv : PS H ev X) (hlen : X.length ≤ 9223372036854775807) {n : Nat} (hn1 : 1 ≤ n) (hn : n ≤ 6) {tr : Bool} {f0 : Nat → Bool} :
  ∀ k ρ ms h' d', (∃ (i : Nat) (f : Nat → Bool), i + k = 20 ∧ T1 n f ∧ (∀ i, f0 i = true → f i = true) ∧ (tr = true → f = f0) ∧ h' = tH H (.cells [.int .i64 N, ev] 24 false 0 []) f ∧
   ρ 2 = .bool tr ∧ ρ 3 = .pointer (some ⟨H.length, 0, none⟩) ∧ ρ 8 = .int .i64 n ∧ ρ 9 = .pointer (some ⟨H.length + 1, 0, none⟩) ∧ ρ 12 = .int .i64 i ∧ ms = [] ∧ d' = []) →
  LoopW M cx 7 sf15L1 ρ ms h' d' (fun ex ρ' ms' h' d' => ex = .exit 2 ∧ ms' = [] ∧ d' = [] ∧ ∃ (f : Nat → Bool), T1 n f ∧ (∀ i, f0 i = true → f i = true) ∧ (tr = true → f = f0) ∧ h' = tH H (.cells [.int .i64 N, ev] 24 false 0 []) f ∧
   ρ' 8 = .int .i64 n ∧ ρ' 9 = .pointer (some ⟨H.length + 1, 0, none⟩)) := by
 refine loop_run _ ?_
 rintro k ρ ms h' d' ⟨i, f, hk, hT, hsub, htr, rfl, r2, r3, r8, r9, r12, rfl, rfl⟩
 unfold sf15L1
 have lx : loadS (tH H (.cells [.int .i64 N, ev] 24 false 0 []) f) none (.pointer (some ⟨H.length, 1, none⟩)) = some ev := by rw [load_app0]; rfl
 obtain ⟨va, vc, rfl, _⟩ := id hv
 by_cases c1 : (i : Int) < X.length
 ·by_cases c2 : (i : Int) < 20
  ·cases tr with
   | true =>
    repeat (first | apply Z1 | apply Z2 | apply Z3 | apply Z4 | apply Z5 rfl | apply Z6 | apply Z7 | apply Z8 | apply Z9 | apply ZA | apply ZB | apply ZC | ((first | apply ZD (by decide) | apply ZN (by decide)); (simp (maxSteps := 9999999) only [go_sem, r2, r3, r12, lx, c1, c2]; rfl)) | (refine ZE ?_ ?_; · simp only [go_sem]) | (refine ZF ?_ ?_; · simp only [go_sem]))
    exact end_nil ⟨rfl, rfl, rfl, f, hT, hsub, htr, rfl, by simp only [go_sem, r8], by simp only [go_sem, r9]⟩
   | false =>
    have hi : i < X.length := by omega
    have ew : IntKind.i64.wrap ((i : Int) + 1) = ((i + 1 : Nat) : Int) := by rw [wrap64 (by omega) (by omega)]; rfl
    have wn : IntKind.u64.wrap (n : Int) = n := wrapU (by omega) (by omega)
    have hne : ¬ (n : Int) = 0 := by omega
    have z0 : (0 : Int) ≤ i := by omega
    obtain ⟨b, o, cp, he, hp⟩ := (hv.app [.cells [.int .i64 N, .slice va X.length vc] 24 false 0 [], .cells (bV f) 83 true 0 []]).ld (by intro e; rw [e] at hi; simp at hi)
    cases he
    have l1 := hp.load1 hi
    have l2 := hp.load2 hi
    have ua := uR_eq X[i].1 (m := n) (by omega)
    have la := uR_lt X[i].1 (m := n) (by omega)
    have ub := uR_eq X[i].2 (m := n) (by omega)
    have lb := uR_lt X[i].2 (m := n) (by omega)
    generalize X[i] = y at *
    have w6 : IntKind.i64.wrap ((uR y.1 n : Nat) : Int) = ((uR y.1 n : Nat) : Int) := wrap64 (by omega) (by omega)
    have w7 : IntKind.i64.wrap ((uR y.2 n : Nat) : Int) = ((uR y.2 n : Nat) : Int) := wrap64 (by omega) (by omega)
    generalize uR y.1 n = a at *
    generalize uR y.2 n = b2 at *
    have key : ∀ p q : Nat, p < q → q < n → T1 n (up f (p * 6 + q) true) ∧ (∀ i, f0 i = true → up f (p * 6 + q) true i = true) := fun p q hpq hq => by
     refine ⟨⟨fun i hi => ?_⟩, fun i hi => ?_⟩
     ·unfold up at hi
      by_cases ci : i = p * 6 + q
      ·subst ci
       have h1 : (p * 6 + q) % 6 = q := by omega
       have h2 : (p * 6 + q) / 6 = p := by omega
       rw [h1, h2]
       exact ⟨by omega, hpq, hq⟩
      ·rw [if_neg ci] at hi; exact hT.lt i hi
     ·unfold up
      split
      ·rfl
      ·exact hsub i hi
    rcases Nat.lt_trichotomy a b2 with h | h | h
    ·have q1 : ¬ ((b2 : Int) < a) := by omega
     have q2 : ((b2 : Int) > a) := by omega
     have q2' : ((a : Int) < b2) := by omega
     have q3 : ¬ ((a : Int) = b2) := by omega
     have m1 : IntKind.i64.wrap ((a : Int) * 6) = ((a * 6 : Nat) : Int) := by rw [wrap64 (by omega) (by omega)]; omega
     have m2 : IntKind.i64.wrap (((a * 6 : Nat) : Int) + b2) = ((a * 6 + b2 : Nat) : Int) := by rw [wrap64 (by omega) (by omega)]; omega
     have m3 : (0 : Int) ≤ ((a * 6 + b2 : Nat) : Int) := by omega
     have m4 : ((a * 6 + b2 : Nat) : Int) < 36 := by omega
     have m5 := tH_st H (.cells [.int .i64 N, .slice (some ⟨b, o, none⟩) X.length vc] 24 false 0 []) f (i := a * 6 + b2) (by omega)
     obtain ⟨k1, k2⟩ := key a b2 h lb
     generalize hj : a * 6 + b2 = j at *
     generalize a * 6 = j2 at *
     repeat (first | apply Z1 | apply Z2 | apply Z3 | apply Z4 | apply Z5 rfl | apply Z6 | apply Z7 | apply Z8 | apply Z9 | apply ZA | apply ZB | apply ZC | ((first | apply ZD (by decide) | apply ZN (by decide)); (simp (maxSteps := 9999999) only [go_sem, r2, r3, r8, r9, r12, lx, c1, c2, z0, l1, l2, wn, hne, ua, ub, w6, w7, q1, q2, q2', q3, m1, m2, m3, m4, ↓m5, ew, Int.toNat_natCast]; rfl)) | (refine ZE ?_ ?_; · simp only [go_sem]) | (refine ZF ?_ ?_; · simp only [go_sem]))
     exact end_nil ⟨k - 1, by omega, i + 1, _, by omega, k1, k2, (fun h => by cases h), rfl, by simp only [go_sem, r2], by simp only [go_sem, r3], by simp only [go_sem, r8], by simp only [go_sem, r9], by simp only [go_sem, ew], rfl, rfl⟩
    ·subst h
     repeat (first | apply Z1 | apply Z2 | apply Z3 | apply Z4 | apply Z5 rfl | apply Z6 | apply Z7 | apply Z8 | apply Z9 | apply ZA | apply ZB | apply ZC | ((first | apply ZD (by decide) | apply ZN (by decide)); (simp (maxSteps := 9999999) only [go_sem, r2, r3, r8, r9, r12, lx, c1, c2, z0, l1, l2, wn, hne, ua, ub, w6, w7, ew, Int.toNat_natCast]; rfl)) | (refine ZE ?_ ?_; · simp only [go_sem]) | (refine ZF ?_ ?_; · simp only [go_sem]))
     exact end_nil ⟨k - 1, by omega, i + 1, f, by omega, hT, hsub, htr, rfl, by simp only [go_sem, r2], by simp only [go_sem, r3], by simp only [go_sem, r8], by simp only [go_sem, r9], by simp only [go_sem, ew], rfl, rfl⟩
    ·have q1 : ((b2 : Int) < a) := by omega
     have q2 : ¬ ((b2 : Int) > a) := by omega
     have q2' : ¬ ((a : Int) < b2) := by omega
     have q3 : ¬ ((a : Int) = b2) := by omega
     have m1 : IntKind.i64.wrap ((b2 : Int) * 6) = ((b2 * 6 : Nat) : Int) := by rw [wrap64 (by omega) (by omega)]; omega
     have m2 : IntKind.i64.wrap (((b2 * 6 : Nat) : Int) + a) = ((b2 * 6 + a : Nat) : Int) := by rw [wrap64 (by omega) (by omega)]; omega
     have m3 : (0 : Int) ≤ ((b2 * 6 + a : Nat) : Int) := by omega
     have m4 : ((b2 * 6 + a : Nat) : Int) < 36 := by omega
     have m5 := tH_st H (.cells [.int .i64 N, .slice (some ⟨b, o, none⟩) X.length vc] 24 false 0 []) f (i := b2 * 6 + a) (by omega)
     obtain ⟨k1, k2⟩ := key b2 a h la
     generalize hj : b2 * 6 + a = j at *
     generalize b2 * 6 = j2 at *
     repeat (first | apply Z1 | apply Z2 | apply Z3 | apply Z4 | apply Z5 rfl | apply Z6 | apply Z7 | apply Z8 | apply Z9 | apply ZA | apply ZB | apply ZC | ((first | apply ZD (by decide) | apply ZN (by decide)); (simp (maxSteps := 9999999) only [go_sem, r2, r3, r8, r9, r12, lx, c1, c2, z0, l1, l2, wn, hne, ua, ub, w6, w7, q1, q2, q2', q3, m1, m2, m3, m4, ↓m5, ew, Int.toNat_natCast]; rfl)) | (refine ZE ?_ ?_; · simp only [go_sem]) | (refine ZF ?_ ?_; · simp only [go_sem]))
     exact end_nil ⟨k - 1, by omega, i + 1, _, by omega, k1, k2, (fun h => by cases h), rfl, by simp only [go_sem, r2], by simp only [go_sem, r3], by simp only [go_sem, r8], by simp only [go_sem, r9], by simp only [go_sem, ew], rfl, rfl⟩
  ·repeat (first | apply Z1 | apply Z2 | apply Z3 | apply Z4 | apply Z5 rfl | apply Z6 | apply Z7 | apply Z8 | apply Z9 | apply ZA | apply ZB | apply ZC | ((first | apply ZD (by decide) | apply ZN (by decide)); (simp (maxSteps := 9999999) only [go_sem, r2, r3, r12, lx, c1, c2]; rfl)) | (refine ZE ?_ ?_; · simp only [go_sem]) | (refine ZF ?_ ?_; · simp only [go_sem]))
   exact end_nil ⟨rfl, rfl, rfl, f, hT, hsub, htr, rfl, by simp only [go_sem, r8], by simp only [go_sem, r9]⟩
 ·repeat (first | apply Z1 | apply Z2 | apply Z3 | apply Z4 | apply Z5 rfl | apply Z6 | apply Z7 | apply Z8 | apply Z9 | apply ZA | apply ZB | apply ZC | ((first | apply ZD (by decide) | apply ZN (by decide)); (simp (maxSteps := 9999999) only [go_sem, r2, r3, r12, lx, c1]; rfl)) | (refine ZE ?_ ?_; · simp only [go_sem]) | (refine ZF ?_ ?_; · simp only [go_sem]))
  exact end_nil ⟨rfl, rfl, rfl, f, hT, hsub, htr, rfl, by simp only [go_sem, r8], by simp only [go_sem, r9]⟩
end
end Go.Proofs.YtpkhkghiidilcaaDoor.Sh
namespace Go.Proofs.YtpkhkghiidilcaaDoor.Sh
section
open Go
set_option maxRecDepth 100000
set_option maxHeartbeats 4000000
def edg (f : Nat → Bool) : Nat → List (Nat × Nat)
 | 0 => []
 | i + 1 => edg f i ++ if f i = true then [(i / 6, i % 6)] else []
theorem edg_len (f : Nat → Bool) : ∀ i, (edg f i).length ≤ i
 | 0 => Nat.le_refl _
 | i + 1 => by
  have := edg_len f i
  show (_ ++ _ : List _).length ≤ i + 1
  rw [List.length_append]
  split <;> simp <;> omega
theorem tame_list (cx : Cx) {H0 : SHeap} {H : SHeap} {x : SO} {f : Nat → Bool} {n : Nat} (hH : H0 = tH H x f) :
  ∀ k ρ ms h' d', (∃ (i : Nat) (qv : Value), i + k = 36 ∧ AccS H0 h' qv (prN (edg f i)) (edg f i).length 2 45 ∧ ρ 8 = .int .i64 n ∧ ρ 9 = .pointer (some ⟨H.length + 1, 0, none⟩) ∧ ρ 15 = qv ∧ ρ 16 = .int .i64 i ∧ ms = [] ∧ d' = []) →
  LoopW M cx 7 sf15L0 ρ ms h' d' (fun ex ρ' ms' h' d' => ex = .exit 4 ∧ ms' = [] ∧ d' = [] ∧ ∃ qv : Value, AccS H0 h' qv (prN (edg f 36)) (edg f 36).length 2 45 ∧ ρ' 8 = .int .i64 n ∧ ρ' 15 = qv) := by
 refine loop_run _ ?_
 rintro k ρ ms h' d' ⟨i, qv, hk, A, r8, r9, r15, r16, rfl, rfl⟩
 unfold sf15L0
 by_cases c : k = 0
 ·have e1 : ¬ ((i : Int) < 36) := by omega
  obtain rfl : i = 36 := by omega
  repeat (first | apply Z1 | apply Z2 | apply Z3 | apply Z4 | apply Z5 rfl | apply Z6 | apply Z7 | apply Z8 | apply Z9 | apply ZA | apply ZB | apply ZC | ((first | apply ZD (by decide) | apply ZN (by decide)); (simp (maxSteps := 9999999) only [go_sem, r16, e1]; rfl)) | (refine ZE ?_ ?_; · simp only [go_sem]) | (refine ZF ?_ ?_; · simp only [go_sem]))
  exact end_nil ⟨rfl, rfl, rfl, qv, A, by simp only [go_sem, r8], by simp only [go_sem, r15]⟩
 ·have e1 : ((i : Int) < 36) := by omega
  have hi : i < 36 := by omega
  have z1 : (0 : Int) ≤ i := by omega
  have ew : IntKind.i64.wrap ((i : Int) + 1) = ((i + 1 : Nat) : Int) := by rw [wrap64 (by omega) (by omega)]; rfl
  have hb : h'[H.length + 1]? = some (.cells (bV f) 83 true 0 []) := by
   rw [A.same _ (by rw [hH]; simp), hH, app_get]; rfl
  have l1 : loadS h' none (.pointer (some ⟨H.length + 1, i, none⟩)) = some (.bool (f i)) := by
   have := load_cell (h := h') (o := i) hb rfl (bV_get f hi) []
   rw [List.append_nil] at this; exact this
  have hll := edg_len f i
  by_cases cf : f i = true
  ·rw [cf] at l1
   have q1 : (i : Int).tdiv 6 = ((i / 6 : Nat) : Int) := by rw [Int.tdiv_eq_ediv_of_nonneg (by omega)]; rfl
   have q2 : (i : Int).tmod 6 = ((i % 6 : Nat) : Int) := by rw [Int.tmod_eq_emod_of_nonneg (by omega)]; rfl
   have w1 : IntKind.i64.wrap ((i / 6 : Nat) : Int) = ((i / 6 : Nat) : Int) := wrap64 (by omega) (by omega)
   have A1 := A.app [.cells [.int .i64 ((i / 6 : Nat) : Int), .int .i64 ((i % 6 : Nat) : Int)] 45 true 0 []]
   obtain ⟨H2, v2, ap, ⟨b2, hv2⟩, A3, _, _⟩ := A1.push (bs := h'.length) (bytes := 16) (new := [.int .i64 ((i / 6 : Nat) : Int), .int .i64 ((i % 6 : Nat) : Int)]) (el2 := 45) (pf2 := true) (own2 := 0) (old2 := []) (by rw [app_get0]; rfl) rfl rfl (by decide) rfl (by decide) (by omega)
   have hsn : edg f (i + 1) = edg f i ++ [(i / 6, i % 6)] := by show _ ++ _ = _; rw [if_pos cf]
   generalize i / 6 = a at *
   generalize i % 6 = b at *
   repeat (first | apply Z1 | apply Z2 | apply Z3 | apply Z4 | apply Z5 rfl | apply Z6 | apply Z7 | apply Z8 | apply Z9 | apply ZA | apply ZB | apply ZC | ((first | apply ZD (by decide) | apply ZN (by decide)); (simp (maxSteps := 9999999) only [go_sem, r8, r9, r15, r16, e1, z1, l1, q1, q2, w1, ap, ew, Int.toNat_natCast]; rfl)) | (refine ZE ?_ ?_; · simp only [go_sem]) | (refine ZF ?_ ?_; · simp only [go_sem]))
   refine end_nil ⟨k - 1, by omega, i + 1, v2, by omega, ?_, by simp only [go_sem, r8], by simp only [go_sem, r9], by simp only [go_sem], by simp only [go_sem, ew], rfl, rfl⟩
   rw [hsn, prN_snoc, List.length_append]
   exact A3
  ·have hsn : edg f (i + 1) = edg f i := by show _ ++ _ = _; rw [if_neg cf, List.append_nil]
   rw [Bool.not_eq_true] at cf
   rw [cf] at l1
   repeat (first | apply Z1 | apply Z2 | apply Z3 | apply Z4 | apply Z5 rfl | apply Z6 | apply Z7 | apply Z8 | apply Z9 | apply ZA | apply ZB | apply ZC | ((first | apply ZD (by decide) | apply ZN (by decide)); (simp (maxSteps := 9999999) only [go_sem, r8, r9, r15, r16, e1, z1, l1, ew, Int.toNat_natCast]; rfl)) | (refine ZE ?_ ?_; · simp only [go_sem]) | (refine ZF ?_ ?_; · simp only [go_sem]))
   refine end_nil ⟨k - 1, by omega, i + 1, qv, by omega, ?_, by simp only [go_sem, r8], by simp only [go_sem, r9], by simp only [go_sem, r15], by simp only [go_sem, ew], rfl, rfl⟩
   rw [hsn]; exact A
theorem AccS.gcR {H g h : SHeap} {v : Value} {cs : List Value} {n s : Nat} {el : TypeId} (A : AccS (H ++ g) h v cs n s el) (w : Value) (hw : flat 1 w = true) : gcS H.length (.tuple #[w, v]) h = some (.tuple #[w, resV H n s], resH H cs n el) := by
 have hp : ptrs 2 w = [] ∧ ∀ K, renV H.length K 2 w = some w := ⟨ptrs_flat 2 w (flat_up _ _ hw), fun K => renV_flat 2 w (flat_up _ _ hw)⟩
 by_cases hn : n = 0
 ·have ht := A.take rfl
  have e3 := hp.2 []
  rcases A.acc with ⟨_, rfl, _⟩ | ⟨b, old, rfl, h1, h2, h3, _⟩
  ·have e1 : ptrs 3 (.tuple #[w, .slice none 0 0]) = [] := by
    show ptrs 2 w ++ (ptrs 2 (.slice none 0 0) ++ []) = []
    rw [hp.1]; rfl
   unfold gcS
   rw [e1]
   rw [show (1000000 : Nat) = 999999 + 1 from rfl, reach]
   simp [renV, mapO, e3, ht, resV, resH, hn]
  ·exact (h3 hn).elim
 ·obtain ⟨b, old, rfl, h1, h2, h3⟩ := A.cellsAt hn
  have ht := A.take rfl
  have eb : Nat.ble H.length b = true := by rw [ble_dec]; simpa using h2
  have e1 : reach H.length h 1000000 [b] [] = [b] := by
   rw [show (1000000 : Nat) = 999998 + 1 + 1 from rfl, reach]
   simp only [eb, List.contains_nil, Bool.not_true, Bool.or_self, Bool.false_eq_true, if_false, h1, ptrsO, Bool.true_or, if_true, List.nil_append]
   rw [reach]
  have e2 : ren H.length [b] b = some H.length := by simp [ren, eb, posOf]
  have e0 : ((0 : Nat) == 2) = false := rfl
  have e3 := hp.2 [b]
  have e4 : ptrs 3 (.tuple #[w, .slice (some ⟨b, 0, none⟩) n (UNK + s)]) = [b] := by
   show ptrs 2 w ++ (ptrs 2 (.slice (some ⟨b, 0, none⟩) n (UNK + s)) ++ []) = [b]
   rw [hp.1]; rfl
  unfold gcS
  simp only [e4, e1, renV, e2, e3, mapO, renO, h1, e0, Bool.false_eq_true, if_false, if_true, ht, ren_none' h3]
  simp [resV, resH, hn]
structure TM (most : Nat) (tr : Bool) (n : Nat) (f : Nat → Bool) : Prop where
 n1 : 1 ≤ n
 n2 : n ≤ most
 t1 : T1 n f
 par : ∃ par : Nat → Nat, (∀ w, 1 ≤ w → w < n → par w < w ∧ f (par w * 6 + w) = true) ∧ (tr = true → ∀ i, f i = true ↔ i < 36 ∧ 1 ≤ i % 6 ∧ i % 6 < n ∧ par (i % 6) = i / 6)
theorem tame15 {H : SHeap} {N : Int} {ev : Value} {X : List (Int × Int)} (hv : PS H ev X) (hlen : X.length ≤ 9223372036854775807) {most : Nat} (hm1 : 1 ≤ most) (hm : most ≤ 6) (tr : Bool) :
  ∃ (n : Nat) (f : Nat → Bool), TM most tr n f ∧ M.call 15 [.agg #[.int .i64 N, ev], .int .i64 most, .bool tr] H = some (.tuple #[.int .i64 n, resV H (edg f 36).length 2], resH H (prN (edg f 36)) (edg f 36).length 45, []) := by
 have key : ∃ r, (∃ (n : Nat) (f : Nat → Bool), r = (Value.tuple #[.int .i64 n, resV H (edg f 36).length 2], resH H (prN (edg f 36)) (edg f 36).length 45, ([] : List Nat)) ∧ TM most tr n f) ∧ M.call 15 [.agg #[.int .i64 N, ev], .int .i64 most, .bool tr] H = some r := by
  refine call_ex (f := 15) _ sf15 rfl rfl rfl ?_
  have wm : IntKind.u64.wrap (most : Int) = most := wrapU (by omega) (by omega)
  have hne : ¬ (most : Int) = 0 := by omega
  have un := uR_eq N (m := most) (by omega)
  have ul := uR_lt N (m := most) (by omega)
  have w6 : IntKind.i64.wrap ((uR N most : Nat) : Int) = ((uR N most : Nat) : Int) := wrap64 (by omega) (by omega)
  generalize uR N most = r at *
  have w7 : IntKind.i64.wrap (1 + (r : Int)) = ((r + 1 : Nat) : Int) := by rw [wrap64 (by omega) (by omega)]; omega
  have w8 : IntKind.i64.wrap (((r + 1 : Nat) : Int) - 1) = ((r : Nat) : Int) := by rw [wrap64 (by omega) (by omega)]; omega
  obtain ⟨va, vc, rfl, _⟩ := id hv
  unfold sf15
  repeat (first | apply Z1 | apply Z2 | apply Z3 | apply Z4 | apply Z5 rfl | apply Z6 | apply Z7 | apply Z8 | apply Z9 | apply ZA | apply ZB | apply ZC | ((first | apply ZD (by decide) | apply ZN (by decide)); (simp (maxSteps := 9999999) only [go_sem, argR, wm, hne, un, w6, w7]; rfl)) | (refine ZE ?_ ?_; · simp only [go_sem]) | (refine ZF ?_ ?_; · simp only [go_sem]))
  refine run_loop (tame_par _ hv hlen (n := r + 1) (by omega) (N := N) (most := .int .i64 most) (tree := .bool tr) (g := .bool tr) r _ _ _ _ ⟨1, fun _ => false, fun _ => 0, by rw [if_neg (by omega)]; omega, Nat.le_refl _, fun w h1 h2 => by omega, fun i => ⟨(fun h => by cases h), (fun h => by omega)⟩, rfl, by simp only [go_sem, argR], by simp only [go_sem, argR], by simp only [go_sem], by simp only [go_sem], by simp only [go_sem], by simp only [go_sem], rfl, rfl⟩) ?_
  rintro ex ρ2 ms2 h2 d2 ⟨rfl, rfl, rfl, f, par, hpar, hf, rfl, r2, r3, r8, r9⟩
  repeat (first | apply Z1 | apply Z2 | apply Z3 | apply Z4 | apply Z5 rfl | apply Z6 | apply Z7 | apply Z8 | apply Z9 | apply ZA | apply ZB | apply ZC | ((first | apply ZD (by decide) | apply ZN (by decide)); (simp (maxSteps := 9999999) only [go_sem, r2, r3, r8, r9, w8]; rfl)) | (refine ZE ?_ ?_; · simp only [go_sem]) | (refine ZF ?_ ?_; · simp only [go_sem]))
  refine run_loop (tame_more _ hv hlen (n := r + 1) (by omega) (by omega) (N := N) (tr := tr) (f0 := f) (20 - r) _ _ _ _ ⟨r, f, by omega, ⟨fun i hi => ?_⟩, fun i h => h, fun _ => rfl, rfl, by simp only [go_sem, r2], by simp only [go_sem, r3], by simp only [go_sem, r8], by simp only [go_sem, r9], by simp only [go_sem, w8], rfl, rfl⟩) ?_
  ·have := (hf i).1 hi
   have := hpar (i % 6) this.2.1 this.2.2.1
   omega
  rintro ex ρ3 ms3 h3 d3 ⟨rfl, rfl, rfl, f3, hT, hsub, htr, rfl, s8, s9⟩
  repeat (first | apply Z1 | apply Z2 | apply Z3 | apply Z4 | apply Z5 rfl | apply Z6 | apply Z7 | apply Z8 | apply Z9 | apply ZA | apply ZB | apply ZC | ((first | apply ZD (by decide) | apply ZN (by decide)); (simp (maxSteps := 9999999) only [go_sem, s8, s9]; rfl)) | (refine ZE ?_ ?_; · simp only [go_sem]) | (refine ZF ?_ ?_; · simp only [go_sem]))
  refine run_loop (tame_list _ (H := H) (f := f3) (n := r + 1) rfl 36 _ _ _ _ ⟨0, .slice none 0 0, by omega, AccS.nil0 _ 2 45, by simp only [go_sem, s8], by simp only [go_sem, s9], by simp only [go_sem], by simp only [go_sem], rfl, rfl⟩) ?_
  rintro ex ρ4 ms4 h4 d4 ⟨rfl, rfl, rfl, qv, A, t8, t15⟩
  obtain ⟨qa, qc, rfl⟩ := A.shape
  repeat (first | apply Z1 | apply Z2 | apply Z3 | apply Z4 | apply Z5 rfl | apply Z6 | apply Z7 | apply Z8 | apply Z9 | apply ZA | apply ZB | apply ZC | ((first | apply ZD (by decide) | apply ZN (by decide)); (simp (maxSteps := 9999999) only [go_sem, t8, t15]; rfl)) | (refine ZE ?_ ?_; · simp only [go_sem]) | (refine ZF ?_ ?_; · simp only [go_sem]))
  refine end_nil ⟨_, ⟨r + 1, f3, rfl, by omega, by omega, hT, par, fun w h1 h2 => ⟨hpar w h1 h2, hsub _ ((hf _).2 ?_)⟩, fun h => by rw [htr h]; exact hf⟩, ?_⟩
  ·have := hpar w h1 h2
   have e1 : (par w * 6 + w) % 6 = w := by omega
   have e2 : (par w * 6 + w) / 6 = par w := by omega
   rw [e1, e2]; exact ⟨by omega, h1, h2, rfl⟩
  ·exact q_gc [.int .i64 ((r + 1 : Nat) : Int), .slice qa (edg f3 36).length qc] (by simp only [go_sem]) rfl (A.gcR _ rfl) rfl
 obtain ⟨r, ⟨n, f, rfl, k⟩, e⟩ := key
 exact ⟨n, f, k, e⟩
end
end Go.Proofs.YtpkhkghiidilcaaDoor.Sh
namespace Go.Proofs.YtpkhkghiidilcaaDoor.Sh
section
open Go
set_option maxRecDepth 100000
set_option maxHeartbeats 1000000
def castE (l : List (Nat × Nat)) : List (Int × Int) := l.map fun p => ((p.1 : Int), (p.2 : Int))
theorem castE_len (l : List (Nat × Nat)) : (castE l).length = l.length := by simp [castE]
theorem prN_prs (l : List (Nat × Nat)) : prN l = prs (castE l) := by
 induction l with
 | nil => rfl
 | cons p l ih =>
  show [_, _] ++ prN l = _
  rw [ih]; rfl
theorem PS_res (H : SHeap) (l : List (Nat × Nat)) (el : TypeId) : PS (resH H (prN l) l.length el) (resV H l.length 2) (castE l) := by
 by_cases c : l.length = 0
 ·have : l = [] := List.length_eq_zero_iff.1 c
  subst this
  exact ⟨none, 0, rfl, fun h => (h rfl).elim⟩
 ·unfold resH resV
  rw [if_neg c, if_neg c]
  refine ⟨_, _, by rw [castE_len], fun _ => ⟨_, _, rfl, Prs.mk0 (el := el) (pf := true) (own := 0) (old := []) ?_ rfl⟩⟩
  rw [List.getElem?_append_right (Nat.le_refl _), Nat.sub_self, prN_prs]; rfl
def keyP (p : Nat × Nat) : Nat := 6 * p.1 + p.2
theorem edg_mem {f : Nat → Bool} : ∀ {k : Nat} {p : Nat × Nat}, p ∈ edg f k ↔ ∃ i, i < k ∧ f i = true ∧ p = (i / 6, i % 6)
 | 0, p => by simp [edg]
 | k + 1, p => by
  show p ∈ _ ++ _ ↔ _
  rw [List.mem_append, edg_mem]
  constructor
  ·rintro (⟨i, h1, h2, h3⟩ | h)
   ·exact ⟨i, by omega, h2, h3⟩
   ·split at h
    ·rename_i hf
     exact ⟨k, by omega, hf, List.mem_singleton.1 h⟩
    ·cases h
  ·rintro ⟨i, h1, h2, h3⟩
   by_cases c : i = k
   ·subst c; right; rw [if_pos h2]; exact List.mem_singleton.2 h3
   ·exact .inl ⟨i, by omega, h2, h3⟩
theorem edg_sorted (f : Nat → Bool) : ∀ k, (edg f k).Pairwise (fun p q => keyP p < keyP q)
 | 0 => List.Pairwise.nil
 | k + 1 => by
  show (_ ++ _ : List _).Pairwise _
  rw [List.pairwise_append]
  refine ⟨edg_sorted f k, ?_, fun p hp q hq => ?_⟩
  ·split
   ·exact List.pairwise_singleton _ _
   ·exact List.Pairwise.nil
  ·split at hq
   ·obtain ⟨i, h1, _, rfl⟩ := edg_mem.1 hp
    rw [List.mem_singleton] at hq
    subst hq
    unfold keyP
    dsimp only
    omega
   ·cases hq
theorem TM.eok {most : Nat} {tr : Bool} {n : Nat} {f : Nat → Bool} (T : TM most tr n f) : EOK n (castE (edg f 36)) := by
 intro i hi
 rw [castE_len] at hi
 have at' : ∀ j (hj : j < (edg f 36).length), eAt (castE (edg f 36)) j = (((edg f 36)[j].1 : Int), ((edg f 36)[j].2 : Int)) := fun j hj => by
  rw [eAt_get (by rw [castE_len]; exact hj)]; simp [castE]
 have pr : ∀ j (hj : j < (edg f 36).length), (edg f 36)[j].1 < (edg f 36)[j].2 ∧ (edg f 36)[j].2 < n ∧ (edg f 36)[j].2 < 6 := fun j hj => by
  obtain ⟨k, h1, h2, h3⟩ := edg_mem.1 (List.getElem_mem hj)
  have := T.t1.lt k h2
  rw [h3]
  dsimp only
  omega
 have hp := pr i hi
 unfold okAt
 rw [at' i hi]
 dsimp only
 refine ⟨by omega, by omega, by omega, fun h0 => ?_⟩
 have hq := pr (i - 1) (by omega)
 rw [at' (i - 1) (by omega)]
 dsimp only
 have hs := List.pairwise_iff_getElem.1 (edg_sorted f 36) (i - 1) i (by omega) hi (by omega)
 unfold keyP at hs
 omega
theorem TM.conn {most : Nat} {tr : Bool} {n : Nat} {f : Nat → Bool} (T : TM most tr n f) (hm : most ≤ 6) : Conn n (castE (edg f 36)) := by
 have n1 := T.n1
 have n2 := T.n2
 obtain ⟨par, hpar, _⟩ := T.par
 rw [conn_iff n1]
 obtain ⟨F, hF, hk⟩ := farI_spec (n := n) (E := castE (edg f 36)) (s := 0) (by omega)
 have key : ∀ v, v < n → 0 ≤ F v := by
  intro v
  induction v using Nat.strongRecOn with
  | _ v ih =>
   intro hv
   by_cases c : v = 0
   ·subst c; rw [hF.src]; exact Int.le_refl _
   ·obtain ⟨h1, h2⟩ := hpar v (by omega) hv
    have h3 := ih (par v) h1 (by omega)
    refine (hF.nxt (par v) v (by omega) hv h3 ?_).1
    rw [adjE_mem]
    left
    unfold castE
    refine List.mem_map.2 ⟨(par v, v), edg_mem.2 ⟨par v * 6 + v, by omega, h2, ?_⟩, rfl⟩
    refine Prod.ext ?_ ?_ <;> dsimp only <;> omega
 intro v hv
 rw [(hk v hv).1 (key v hv)]; exact key v hv
theorem TM.err {most : Nat} {tr : Bool} {n : Nat} {f : Nat → Bool} (T : TM most tr n f) (hm : most ≤ 6) : errG n (castE (edg f 36)) = 0 := errG_of T.n1 (by have := T.n2; omega) T.eok (T.conn hm)
end
end Go.Proofs.YtpkhkghiidilcaaDoor.Sh
namespace Go.Proofs.YtpkhkghiidilcaaDoor.Sh
section
open Go
set_option maxRecDepth 100000
set_option maxHeartbeats 4000000
theorem iV_snoc (v : Nat) (s : Nat → Int) (x : Int) : iV (v + 1) (up s v x) = iV v s ++ [.int .i64 x] := by
 unfold iV
 rw [List.range_succ, List.map_append]
 congr 1
 ·exact List.map_congr_left (fun w hw => by have := List.mem_range.1 hw; unfold up; rw [if_neg (by omega)])
 ·simp [up]
theorem brought_loop (cx : Cx) {H : SHeap} {n : Nat} (hn : n ≤ 6) {lv : Value} {l : List Int} (hv : IS H lv l) (hlen : l.length ≤ 9223372036854775807) {most : Nat} (hm : most ≤ 1000) :
  ∀ k ρ ms h' d', (∃ (v left : Nat) (s : Nat → Int) (qv : Value), v + k = n ∧ (∀ w, 0 ≤ s w) ∧ (∀ w, v ≤ w → s w = 0) ∧ tot s + left = most ∧ AccS H h' qv (iV v s) v 1 3 ∧ ρ 0 = lv ∧ ρ 1 = .int .i64 n ∧ ρ 7 = qv ∧ ρ 8 = .int .i64 left ∧ ρ 9 = .int .i64 v ∧ ms = [] ∧ d' = []) →
  LoopW M cx 6 sf16L0 ρ ms h' d' (fun ex ρ' ms' h' d' => ex = .exit 0 ∧ ms' = [] ∧ d' = [] ∧ ∃ (s : Nat → Int) (qv : Value), ST n s most ∧ AccS H h' qv (iV n s) n 1 3 ∧ ρ' 7 = qv) := by
 refine loop_run _ ?_
 rintro k ρ ms h' d' ⟨v, left, s, qv, hk, hs0, hz, ht, A, r0, r1, r7, r8, r9, rfl, rfl⟩
 unfold sf16L0
 by_cases c : k = 0
 ·have e1 : ¬ ((v : Int) < n) := by omega
  obtain rfl : v = n := by omega
  repeat (first | apply Z1 | apply Z2 | apply Z3 | apply Z4 | apply Z5 rfl | apply Z6 | apply Z7 | apply Z8 | apply Z9 | apply ZA | apply ZB | apply ZC | ((first | apply ZD (by decide) | apply ZN (by decide)); (simp (maxSteps := 9999999) only [go_sem, r1, r9, e1]; rfl)) | (refine ZE ?_ ?_; · simp only [go_sem]) | (refine ZF ?_ ?_; · simp only [go_sem]))
  exact end_nil ⟨rfl, rfl, rfl, s, qv, ⟨hs0, hz, by omega⟩, A, by simp only [go_sem, r7]⟩
 ·have e1 : ((v : Int) < n) := by omega
  have z1 : (0 : Int) ≤ v := by omega
  have ew : IntKind.i64.wrap ((v : Int) + 1) = ((v + 1 : Nat) : Int) := by rw [wrap64 (by omega) (by omega)]; rfl
  have tn : 0 ≤ tot s := by
   have n0 := hs0 0
   have n1 := hs0 1
   have n2 := hs0 2
   have n3 := hs0 3
   have n4 := hs0 4
   have n5 := hs0 5
   unfold tot; omega
  have fin : ∀ (x : Nat), x ≤ left → ∃ (left' : Nat), (left' : Int) = (left : Int) - x ∧ (∀ w, 0 ≤ up s v x w) ∧ (∀ w, v + 1 ≤ w → up s v (x : Int) w = 0) ∧ tot (up s v x) + left' = most := fun x hx => by
   refine ⟨left - x, by omega, fun w => ?_, fun w hw => ?_, ?_⟩
   ·unfold up; split
    ·omega
    ·exact hs0 w
   ·unfold up; rw [if_neg (by omega)]; exact hz w (by omega)
   ·rw [tot_up s (by omega), hz v (Nat.le_refl _)]; omega
  obtain ⟨va, vc, rfl, hva⟩ := id hv
  by_cases c2 : v < l.length
  ·have e2 : ((v : Int) < l.length) := by omega
   obtain ⟨b, o, rfl, hbl, il⟩ := hva (by intro e; rw [e] at c2; simp at c2)
   have l1 := (il.fr (A.same b hbl)) v c2
   have w1 : IntKind.i64.wrap ((left : Int) + 1) = ((left + 1 : Nat) : Int) := by rw [wrap64 (by omega) (by omega)]; rfl
   have w2 : IntKind.u64.wrap ((left + 1 : Nat) : Int) = ((left + 1 : Nat) : Int) := wrapU (by omega) (by omega)
   have hne : ¬ ((left + 1 : Nat) : Int) = 0 := by omega
   have um := uR_eq l[v] (m := left + 1) (by omega)
   have ul := uR_lt l[v] (m := left + 1) (by omega)
   generalize l[v] = y at *
   have w6 : IntKind.i64.wrap ((uR y (left + 1) : Nat) : Int) = ((uR y (left + 1) : Nat) : Int) := wrap64 (by omega) (by omega)
   generalize uR y (left + 1) = x at *
   generalize hlp : left + 1 = lp at *
   obtain ⟨left', f1, f2, f3, f4⟩ := fin x (by omega)
   have w3 : IntKind.i64.wrap ((left : Int) - x) = left' := by rw [wrap64 (by omega) (by omega)]; omega
   have A1 := A.app [.cells [.int .i64 (x : Int)] 3 true 0 []]
   obtain ⟨H2, v2, ap, ⟨b2, hv2⟩, A3, _, _⟩ := A1.push (bs := h'.length) (bytes := 8) (new := [.int .i64 (x : Int)]) (el2 := 3) (pf2 := true) (own2 := 0) (old2 := []) (by rw [app_get0]; rfl) rfl rfl (by decide) rfl (by decide) (by omega)
   repeat (first | apply Z1 | apply Z2 | apply Z3 | apply Z4 | apply Z5 rfl | apply Z6 | apply Z7 | apply Z8 | apply Z9 | apply ZA | apply ZB | apply ZC | ((first | apply ZD (by decide) | apply ZN (by decide)); (simp (maxSteps := 9999999) only [go_sem, r0, r1, r7, r8, r9, e1, e2, z1, l1, w1, w2, hne, um, w6, w3, ap, ew, Int.toNat_natCast]; rfl)) | (refine ZE ?_ ?_; · simp only [go_sem]) | (refine ZF ?_ ?_; · simp only [go_sem]))
   exact end_nil ⟨k - 1, by omega, v + 1, left', up s v x, v2, by omega, f2, f3, f4, by rw [iV_snoc]; exact A3, by simp only [go_sem, r0], by simp only [go_sem, r1], by simp only [go_sem], by simp only [go_sem, w3], by simp only [go_sem, ew], rfl, rfl⟩
  ·have e2 : ¬ ((v : Int) < l.length) := by omega
   obtain ⟨left', f1, f2, f3, f4⟩ := fin 0 (by omega)
   have w3 : IntKind.i64.wrap ((left : Int) - 0) = left' := by rw [wrap64 (by omega) (by omega)]; omega
   have w3' : IntKind.i64.wrap (left : Int) = left' := by rw [wrap64 (by omega) (by omega)]; omega
   have A1 := A.app [.cells [.int .i64 0] 3 true 0 []]
   obtain ⟨H2, v2, ap, ⟨b2, hv2⟩, A3, _, _⟩ := A1.push (bs := h'.length) (bytes := 8) (new := [.int .i64 0]) (el2 := 3) (pf2 := true) (own2 := 0) (old2 := []) (by rw [app_get0]; rfl) rfl rfl (by decide) rfl (by decide) (by omega)
   repeat (first | apply Z1 | apply Z2 | apply Z3 | apply Z4 | apply Z5 rfl | apply Z6 | apply Z7 | apply Z8 | apply Z9 | apply ZA | apply ZB | apply ZC | ((first | apply ZD (by decide) | apply ZN (by decide)); (simp (maxSteps := 9999999) only [go_sem, r0, r1, r7, r8, r9, e1, e2, w3, w3', Int.sub_zero, ap, ew, Int.toNat_natCast]; rfl)) | (refine ZE ?_ ?_; · simp only [go_sem]) | (refine ZF ?_ ?_; · simp only [go_sem]))
   exact end_nil ⟨k - 1, by omega, v + 1, left', up s v 0, v2, by omega, f2, f3, f4, by rw [iV_snoc]; exact A3, by simp only [go_sem, r0], by simp only [go_sem, r1], by simp only [go_sem], by simp only [go_sem, w3], by simp only [go_sem, ew], rfl, rfl⟩
theorem brought16 {H : SHeap} {n : Nat} (hn : n ≤ 6) {lv : Value} {l : List Int} (hv : IS H lv l) (hlen : l.length ≤ 9223372036854775807) {most : Nat} (hm : most ≤ 1000) :
  ∃ s : Nat → Int, ST n s most ∧ M.call 16 [lv, .int .i64 n, .int .i64 most] H = some (resV H n 1, resH H (iV n s) n 3, []) := by
 have key : ∃ r, (∃ s : Nat → Int, r = (resV H n 1, resH H (iV n s) n 3, ([] : List Nat)) ∧ ST n s most) ∧ M.call 16 [lv, .int .i64 n, .int .i64 most] H = some r := by
  refine call_ex (f := 16) _ sf16 rfl rfl rfl ?_
  obtain ⟨va, vc, rfl, _⟩ := id hv
  unfold sf16
  repeat (first | apply Z1 | apply Z2 | apply Z3 | apply Z4 | apply Z5 rfl | apply Z6 | apply Z7 | apply Z8 | apply Z9 | apply ZA | apply ZB | apply ZC | ((first | apply ZD (by decide) | apply ZN (by decide)); (simp (maxSteps := 9999999) only [go_sem, argR]; rfl)) | (refine ZE ?_ ?_; · simp only [go_sem]) | (refine ZF ?_ ?_; · simp only [go_sem]))
  refine run_loop (brought_loop _ hn hv hlen hm n _ _ _ _ ⟨0, most, fun _ => 0, .slice none 0 0, by omega, fun _ => Int.le_refl _, fun _ _ => rfl, by show (0 : Int) + most = most; omega, AccS.nil0 _ 1 3, by simp only [go_sem, argR], by simp only [go_sem, argR], by simp only [go_sem], by simp only [go_sem, argR], by simp only [go_sem], rfl, rfl⟩) ?_
  rintro ex ρ2 ms2 h2 d2 ⟨rfl, rfl, rfl, s, qv, S, A, r7⟩
  have A0 := A.at0
  obtain ⟨qa, qc, rfl⟩ := A.shape
  repeat (first | apply Z1 | apply Z2 | apply Z3 | apply Z4 | apply Z5 rfl | apply Z6 | apply Z7 | apply Z8 | apply Z9 | apply ZA | apply ZB | apply ZC | ((first | apply ZD (by decide) | apply ZN (by decide)); (simp (maxSteps := 9999999) only [go_sem, r7]; rfl)) | (refine ZE ?_ ?_; · simp only [go_sem]) | (refine ZF ?_ ?_; · simp only [go_sem]))
  exact end_nil ⟨_, ⟨s, rfl, S⟩, A0.ret1 (by simp only [go_sem, r7])⟩
 obtain ⟨r, ⟨s, rfl, k⟩, e⟩ := key
 exact ⟨s, k, e⟩
end
end Go.Proofs.YtpkhkghiidilcaaDoor.Sh
namespace Go.Proofs.YtpkhkghiidilcaaDoor.Sh
section
open Go
set_option maxRecDepth 100000
set_option maxHeartbeats 4000000
def capOK (n c s : Nat) : Prop := (n ≤ c ∧ c < UNK) ∨ c = UNK + s
theorem slice_to' {a : Option Addr} {n c s k : Nat} (hk : k ≤ n) (hc : capOK n c s) (ha : a = none ∧ c < UNK ∨ ∃ b o, a = some ⟨b, o, none⟩) : sliceS s (.slice a n c) none (some (.int .i64 (k : Int))) none = some (.slice a k c) := by
 unfold sliceS
 rcases hc with ⟨h1, h2⟩ | rfl
 ·have e1 : Nat.ble UNK c = false := by rw [ble_dec]; exact decide_eq_false (by omega)
  have e2 : Nat.blt c UNK = true := by rw [blt_dec]; simpa using h2
  have hkc : k ≤ c := by omega
  rcases ha with ⟨rfl, _⟩ | ⟨b, o, rfl⟩
  ·simp [bMx, bHi, bLo, bnd, e1, hkc]
  ·simp [bMx, bHi, bLo, bnd, e1, e2, hkc]
 ·have e1 : Nat.ble UNK (UNK + s) = true := by rw [ble_dec]; simp
  have e3 : Nat.beq (UNK + s) (UNK + s) = true := Nat.beq_refl _
  rcases ha with ⟨_, h⟩ | ⟨b, o, rfl⟩
  ·omega
  ·simp [bMx, bHi, bLo, bnd, e1, e3, hk]
theorem append_nilS {h : SHeap} {b o k c s bytes : Nat} {el : TypeId} {cs : List Value} (hn : k ≠ 0) (hr : rdN h b o (k * s) = some cs) (hsc : cs.all sc = true) (hb0 : 0 < bytes) (hb : k * bytes ≤ 140737488355328) (base : Nat) (d : List Nat) : appendS base h d el true s bytes (.slice none 0 0) (.slice (some ⟨b, o, none⟩) k c) = some (.slice (some ⟨h.length, 0, none⟩) k (UNK + s), h ++ [.cells cs el true 0 []], d) := by
 have hn0 : (k == 0) = false := beq_eq_false_iff_ne.2 hn
 have e4 : Nat.ble ((0 + k) * bytes) 140737488355328 = true := by rw [ble_dec, Nat.zero_add]; simpa using hb
 have e5 : Nat.blt 0 bytes = true := by rw [blt_dec]; simpa using hb0
 have hone := all_sc_one cs hsc
 unfold appendS
 simp only [lenS, seenS, hr, hn0, e4, e5, hone, hsc]
 simp [-List.all_eq_true, hone, hsc]
theorem append_nil0 {h : SHeap} {a : Option Addr} {k c s bytes : Nat} {el : TypeId} (hk : k = 0) (base : Nat) (d : List Nat) : appendS base h d el true s bytes (.slice none 0 0) (.slice a k c) = some (.slice none 0 0, h, d) := by
 subst hk
 unfold appendS
 simp [lenS]
def PSc (h : SHeap) (v : Value) (X : List (Int × Int)) : Prop := ∃ a c, v = .slice a X.length c ∧ capOK X.length c 2 ∧ (a = none ∧ c < UNK ∧ X = [] ∨ ∃ b o, a = some ⟨b, o, none⟩ ∧ (X ≠ [] → Prs h b o X))
theorem PSc.ps {h : SHeap} {v : Value} {X : List (Int × Int)} (k : PSc h v X) : PS h v X := by
 obtain ⟨a, c, e, _, k⟩ := k
 refine ⟨a, c, e, fun hn => ?_⟩
 rcases k with ⟨_, _, rfl⟩ | ⟨b, o, rfl, k⟩
 ·exact (hn rfl).elim
 ·exact ⟨b, o, rfl, k hn⟩
theorem pairs35 {H : SHeap} {v : Value} {X : List (Int × Int)} (hv : PSc H v X) (hlen : X.length ≤ 9223372036854775807) {most : Nat} (hm : most ≤ 1000) :
  M.call 35 [v, .int .i64 most] H = some (resV H (X.take most).length 2, resH H (prs (X.take most)) (X.take most).length 45, []) := by
 refine call_run sf35 rfl rfl rfl ?_
 obtain ⟨a, c, rfl, hc, ha⟩ := hv
 have hmin : (if (most : Int) < X.length then (most : Int) else X.length) = (((X.take most).length : Nat) : Int) := by
  rw [List.length_take]; split <;> omega
 have hk : (X.take most).length ≤ X.length := by rw [List.length_take]; omega
 have hk2 : (X.take most).length ≤ 1000 := by rw [List.length_take]; omega
 have sl := slice_to' (a := a) hk hc (by rcases ha with ⟨h1, h2, _⟩ | ⟨b, o, h1, _⟩; exact .inl ⟨h1, h2⟩; exact .inr ⟨b, o, h1⟩)
 have htk : X.take (X.take most).length = X.take most := by
  rw [List.length_take]
  by_cases c : most ≤ X.length
  ·rw [Nat.min_eq_left c]
  ·rw [Nat.min_eq_right (by omega), List.take_of_length_le (Nat.le_refl _), List.take_of_length_le (by omega)]
 unfold sf35
 by_cases c0 : (X.take most).length = 0
 ·have ap := fun base d => append_nil0 (h := H) (a := a) (c := c) (s := 2) (bytes := 16) (el := 45) c0 base d
  have e : X.take most = [] := List.length_eq_zero_iff.1 c0
  generalize (X.take most).length = k at *
  repeat (first | apply Z1 | apply Z2 | apply Z3 | apply Z4 | apply Z5 rfl | apply Z6 | apply Z7 | apply Z8 | apply Z9 | apply ZA | apply ZB | apply ZC | ((first | apply ZD (by decide) | apply ZN (by decide)); (simp (maxSteps := 9999999) only [go_sem, argR, hmin, ↓sl, ↓ap]; rfl)) | (refine ZE ?_ ?_; · simp only [go_sem]) | (refine ZF ?_ ?_; · simp only [go_sem]))
  rw [e, c0]
  exact end_nil (q_free [.slice none 0 0] (by simp only [go_sem]) rfl rfl rfl (fun _ => rfl) (take_self _) rfl)
 ·rcases ha with ⟨_, _, rfl⟩ | ⟨b, o, rfl, hp⟩
  ·simp at c0
  ·have hne : X ≠ [] := fun e => by rw [e] at c0; simp at c0
   have hr := (hp hne).seen hk
   rw [htk] at hr
   have ap := fun base d => append_nilS (bytes := 16) (el := 45) (c := c) c0 hr (prs_sc _) (by decide) (by omega) base d
   rw [← resV_pos H 2 c0, ← resH_pos H (prs (X.take most)) 45 c0]
   generalize (X.take most).length = k at *
   generalize prs (X.take most) = cs at *
   repeat (first | apply Z1 | apply Z2 | apply Z3 | apply Z4 | apply Z5 rfl | apply Z6 | apply Z7 | apply Z8 | apply Z9 | apply ZA | apply ZB | apply ZC | ((first | apply ZD (by decide) | apply ZN (by decide)); (simp (maxSteps := 9999999) only [go_sem, argR, hmin, ↓sl, ↓ap]; rfl)) | (refine ZE ?_ ?_; · simp only [go_sem]) | (refine ZF ?_ ?_; · simp only [go_sem]))
   exact end_nil (q_own1 (b := H.length) (old := []) (own := 0) (by simp only [go_sem]) (by simp) (by rw [app_get0]; rfl) rfl (Nat.le_refl _))
end
end Go.Proofs.YtpkhkghiidilcaaDoor.Sh
namespace Go.Proofs.YtpkhkghiidilcaaDoor.Sh
section
open Go
set_option maxRecDepth 100000
set_option maxHeartbeats 4000000
theorem stk_lst {n : Nat} {s : Nat → Int} {B : Int} (S : ST n s B) : stk (lst n s) = s := by
 funext v
 by_cases c : v < n
 ·exact lst_at s c
 ·rw [stk_out (by rw [lst_len]; omega), S.out v (by omega)]
theorem doM_zero {n : Nat} {E : List (Int × Int)} {s : Nat → Int} {w : List (Int × Int)} (h : (doM n E s w).2 = 0) : (doM n E s w).1 = s := by
 cases w with
 | nil => rfl
 | cons m w =>
  unfold doM at h ⊢
  split at h
  ·simp at h
  ·rename_i hc; rw [if_neg hc]
theorem ST.sup {n : Nat} {s : Nat → Int} (S : ST n s 40) (hn : n ≤ 6) : SupOK n (lst n s) := by
 refine ⟨by rw [lst_len], fun x hx => ?_, ?_⟩
 ·unfold lst at hx
  obtain ⟨v, _, rfl⟩ := List.mem_map.1 hx
  exact S.bnd hn v
 ·have h := S.le
  have o := S.out
  have : (lst n s).sum = tot s := by
   unfold tot
   have : n = 0 ∨ n = 1 ∨ n = 2 ∨ n = 3 ∨ n = 4 ∨ n = 5 ∨ n = 6 := by omega
   rcases this with rfl | rfl | rfl | rfl | rfl | rfl | rfl
   ·rw [o 0 (by omega), o 1 (by omega), o 2 (by omega), o 3 (by omega), o 4 (by omega), o 5 (by omega)]; rfl
   ·rw [o 1 (by omega), o 2 (by omega), o 3 (by omega), o 4 (by omega), o 5 (by omega)]; simp [lst, List.range_succ]
   ·rw [o 2 (by omega), o 3 (by omega), o 4 (by omega), o 5 (by omega)]; simp [lst, List.range_succ]
   ·rw [o 3 (by omega), o 4 (by omega), o 5 (by omega)]; simp [lst, List.range_succ]; omega
   ·rw [o 4 (by omega), o 5 (by omega)]; simp [lst, List.range_succ]; omega
   ·rw [o 5 (by omega)]; simp [lst, List.range_succ]; omega
   ·simp [lst, List.range_succ]; omega
  rw [this]; exact h
end
end Go.Proofs.YtpkhkghiidilcaaDoor.Sh
namespace Go.Proofs.YtpkhkghiidilcaaDoor.Sh
section
open Go
set_option maxRecDepth 100000
set_option maxHeartbeats 4000000
theorem rowM_mem {n : Nat} {E : List (Int × Int)} {s : Nat → Int} {a : Nat} {p : Nat × Nat} : ∀ {b : Nat}, p ∈ rowM n E s a b → p.1 = a ∧ canM n E s p.1 p.2
 | 0, h => by cases h
 | b + 1, h => by
  have h : p ∈ _ ++ _ := h
  rw [List.mem_append] at h
  rcases h with h | h
  ·exact rowM_mem h
  ·split at h
   ·rename_i hc; rw [List.mem_singleton] at h; subst h; exact ⟨rfl, hc⟩
   ·cases h
theorem MVb_mem {n : Nat} {E : List (Int × Int)} {s : Nat → Int} {p : Nat × Nat} : ∀ {a : Nat}, p ∈ MVb n E s a → canM n E s p.1 p.2
 | 0, h => by cases h
 | a + 1, h => by
  have h : p ∈ _ ++ _ := h
  rw [List.mem_append] at h
  rcases h with h | h
  ·exact MVb_mem h
  ·exact (rowM_mem h).2
theorem DV.is {H h : SHeap} {lv v : Value} {n i : Nat} {s s0 : Nat → Int} (D : DV H h lv v n i s) (hl : IS H lv (lst n s0)) (h0 : i = 0 → s = s0) (hle : H.length ≤ h.length) (fr : ∀ j, j < H.length → h[j]? = H[j]?) : IS h v (lst n s) := by
 rcases D with ⟨e, rfl⟩ | ⟨_, b, rfl, _, hb⟩
 ·rw [h0 e]; exact hl.fr hle fr
 ·exact IS.lstAt hb rfl
theorem DV.keep {H h h' : SHeap} {lv v : Value} {n i : Nat} {s : Nat → Int} (D : DV H h lv v n i s) (k : ∀ b cs own old, H.length ≤ b → h[b]? = some (.cells cs 3 true own old) → h'[b]? = h[b]?) : DV H h' lv v n i s := by
 rcases D with ⟨e, rfl⟩ | ⟨e, b, rfl, hb, hc⟩
 ·exact .inl ⟨e, rfl⟩
 ·exact .inr ⟨e, b, rfl, hb, by rw [k b _ _ _ hb hc]; exact hc⟩
end
end Go.Proofs.YtpkhkghiidilcaaDoor.Sh
namespace Go.Proofs.YtpkhkghiidilcaaDoor.Sh
section
open Go
set_option maxRecDepth 100000
set_option maxHeartbeats 4000000
theorem AccS.pairs {H h : SHeap} {v : Value} {l : List (Nat × Nat)} (A : AccS H h v (prN l) l.length 2 45) : PS h v (castE l) := by
 rcases A.acc with ⟨h0, rfl, _⟩ | ⟨b, old, rfl, hb, _⟩
 ·have : l = [] := List.length_eq_zero_iff.1 h0
  subst this
  exact ⟨none, 0, rfl, fun h => (h rfl).elim⟩
 ·exact ⟨_, _, by rw [castE_len], fun _ => ⟨b, 0, rfl, Prs.mk0 (by rw [← prN_prs]; exact hb) rfl⟩⟩
theorem do46' {H : SHeap} {n : Nat} (hn : n ≤ 6) (hn1 : 1 ≤ n) {ev lv wv : Value} {E w : List (Int × Int)} {s : Nat → Int} (hE : EOK n E) (hv : PS H ev E) (hlen : E.length ≤ 1000000) (hs : IS H lv (lst n s)) (S : ST n s 40) (hw : PS H wv w) (hwl : w.length ≤ 1000000) :
  ∃ (ov : Value) (g : SHeap), M.call 46 [.int .i64 n, ev, lv, wv] H = some (.tuple #[ov, .int .i64 (doM n E s w).2], H ++ g, []) ∧ IS (H ++ g) ov (lst n (doM n E s w).1) := by
 have e := do46 hn hn1 hE hv hlen hs (lst_len _ _) (by rw [stk_lst S]; exact S) hw hwl
 rw [stk_lst S] at e
 by_cases c : (doM n E s w).2 = 0
 ·rw [if_pos c] at e
  refine ⟨lv, [], by rw [e, c, List.append_nil]; rfl, ?_⟩
  rw [doM_zero c, List.append_nil]; exact hs
 ·rw [if_neg c] at e
  exact ⟨_, _, e, IS.lstAt (by rw [List.getElem?_append_right (Nat.le_refl _), Nat.sub_self]; rfl) rfl⟩
end
end Go.Proofs.YtpkhkghiidilcaaDoor.Sh
namespace Go.Proofs.YtpkhkghiidilcaaDoor.Sh
section
open Go
set_option maxRecDepth 100000
set_option maxHeartbeats 4000000
theorem resH_fr (h : SHeap) (cs : List Value) (n : Nat) (el : TypeId) : h.length ≤ (resH h cs n el).length ∧ ∀ j, j < h.length → (resH h cs n el)[j]? = h[j]? := by
 unfold resH
 split
 ·exact ⟨Nat.le_refl _, fun _ _ => rfl⟩
 ·exact ⟨by simp, fun j hj => List.getElem?_append_left hj⟩
theorem PS_resI (H : SHeap) (l : List (Int × Int)) (el : TypeId) : PS (resH H (prs l) l.length el) (resV H l.length 2) l := by
 by_cases c : l.length = 0
 ·have : l = [] := List.length_eq_zero_iff.1 c
  subst this
  exact ⟨none, 0, rfl, fun h => (h rfl).elim⟩
 ·unfold resH resV
  rw [if_neg c, if_neg c]
  refine ⟨_, _, rfl, fun _ => ⟨_, _, rfl, Prs.mk0 (el := el) (pf := true) (own := 0) (old := []) ?_ rfl⟩⟩
  rw [List.getElem?_append_right (Nat.le_refl _), Nat.sub_self]; rfl
theorem Prs.fr {H h : SHeap} {b o : Nat} {X : List (Int × Int)} (k : Prs H b o X) (fr : ∀ j, j < H.length → h[j]? = H[j]?) : Prs h b o X := by
 have e := fr b k.lt
 obtain ⟨pre, post, el2, pf, own, old, h1, h2⟩ := k
 exact ⟨pre, post, el2, pf, own, old, by rw [e]; exact h1, h2⟩
theorem PSc.fr {H h : SHeap} {v : Value} {X : List (Int × Int)} (k : PSc H v X) (fr : ∀ j, j < H.length → h[j]? = H[j]?) : PSc h v X := by
 obtain ⟨a, c, e, hc, k⟩ := k
 refine ⟨a, c, e, hc, k.imp id ?_⟩
 rintro ⟨b, o, e, k⟩
 exact ⟨b, o, e, fun hn => (k hn).fr fr⟩
end
end Go.Proofs.YtpkhkghiidilcaaDoor.Sh
namespace Go.Proofs.YtpkhkghiidilcaaDoor.Sh
section
open Go
set_option maxRecDepth 100000
set_option maxHeartbeats 1000000
def pl (s : Nat → Int) (u : Nat) (k : Int) : Nat → Int := fun v => if v = u then s u + k else s v
theorem pl_same (s : Nat → Int) (u : Nat) (k : Int) : pl s u k u = s u + k := by unfold pl; rw [if_pos rfl]
theorem pl_ne (s : Nat → Int) {u v : Nat} (k : Int) (h : v ≠ u) : pl s u k v = s v := by unfold pl; rw [if_neg h]
theorem pl_back (s : Nat → Int) (u : Nat) (k : Int) : pl (pl s u (-k)) u k = s := by
 funext v
 unfold pl
 by_cases c : v = u
 ·subst c; simp; omega
 ·simp [c]
theorem pl_at (s : Nat → Int) (u : Nat) (k : Int) (v : Nat) : pl s u k v = s v + if v = u then k else 0 := by
 unfold pl; split
 ·rename_i e; subst e; rfl
 ·omega
theorem aft_v {s : Nat → Int} {a b : Nat} (h : a ≠ b) (v : Nat) : aft s a b v = s v + (if v = a then -2 else 0) + (if v = b then 1 else 0) := by
 rw [aft_at h]
 by_cases c1 : v = b
 ·subst c1; rw [if_pos rfl, if_pos rfl, if_neg (fun e => h e.symm)]; omega
 ·rw [if_neg c1, if_neg c1]
  by_cases c2 : v = a
  ·subst c2; rw [if_pos rfl, if_pos rfl]; omega
  ·rw [if_neg c2, if_neg c2]; omega
theorem aft_pl {s : Nat → Int} {a b u : Nat} {k : Int} (h : a ≠ b) : aft (pl s u k) a b = pl (aft s a b) u k := by
 funext v
 rw [aft_v h, pl_at, pl_at, aft_v h]; omega
theorem aft_pl2 {s : Nat → Int} {a b : Nat} (h : a ≠ b) : aft s a b = pl (pl s a (-2)) b 1 := by
 funext v
 rw [pl_at, pl_at, aft_v h]
inductive Rg (n : Nat) (E : List (Int × Int)) (g : Nat) : (Nat → Int) → (Nat → Int) → Prop
 | refl (s : Nat → Int) : Rg n E g s s
 | step {s t : Nat → Int} (a b : Nat) (ha : a < n) (hb : b < n) (hadj : adjE E a b = true) (h2 : 2 ≤ s a) (hg : a ≠ g) : Rg n E g (aft s a b) t → Rg n E g s t
theorem canM_iff {n : Nat} {E : List (Int × Int)} {s : Nat → Int} {a b : Nat} : canM n E s (a : Int) (b : Int) ↔ a < n ∧ b < n ∧ adjE E a b = true ∧ 2 ≤ s a := by
 unfold canM
 rw [Int.toNat_natCast, Int.toNat_natCast]
 constructor
 ·rintro ⟨h1, h2, h3, h4⟩; exact ⟨by omega, by omega, h3, h4⟩
 ·rintro ⟨h1, h2, h3, h4⟩; exact ⟨by omega, by omega, h3, h4⟩
section
variable {n : Nat} {E : List (Int × Int)} {g : Nat} {s t : Nat → Int}
theorem Rg.trans {w : Nat → Int} (h1 : Rg n E g s t) (h2 : Rg n E g t w) : Rg n E g s w := by
 induction h1 with
 | refl s => exact h2
 | step a b ha hb hadj h2' hg _ ih => exact .step a b ha hb hadj h2' hg (ih h2)
theorem aft_nn {a b : Nat} (h : a ≠ b) (hs : ∀ v, 0 ≤ s v) (h2 : 2 ≤ s a) : ∀ v, 0 ≤ aft s a b v := fun v => by
 rw [aft_at h]
 have := hs v
 have := hs b
 split
 ·omega
 ·split <;> omega
theorem Rg.nn (hE : EOK n E) (h : Rg n E g s t) (hs : ∀ v, 0 ≤ s v) : ∀ v, 0 ≤ t v := by
 induction h with
 | refl s => exact hs
 | step a b ha hb hadj h2 hg _ ih => exact ih (aft_nn (hE.adj hadj).2.2 hs h2)
theorem Rg.st (hE : EOK n E) (hn : n ≤ 6) {B : Int} (h : Rg n E g s t) (S : ST n s B) : ST n t B := by
 induction h with
 | refl s => exact S
 | step a b ha hb hadj h2 hg _ ih => exact ih ((S.aft hE hn ha hb hadj h2).mono (by omega))
theorem Rg.more (hE : EOK n E) (h : Rg n E g s t) {u : Nat} {k : Int} (hk : 0 ≤ k ∨ u = g) : Rg n E g (pl s u k) (pl t u k) := by
 induction h with
 | refl s => exact .refl _
 | @step s t a b ha hb hadj h2 hg _ ih =>
  have hne := (hE.adj hadj).2.2
  refine .step a b ha hb hadj ?_ hg (by rw [aft_pl hne]; exact ih)
  unfold pl
  split
  ·rename_i e; subst e; rcases hk with hk | hk
   ·omega
   ·exact (hg hk).elim
  ·exact h2
theorem Rg.less (hE : EOK n E) {s0 : Nat → Int} (h : Rg n E g s0 t) : ∀ (s : Nat → Int) (u : Nat), s0 = pl s u 1 → (∀ v, 0 ≤ s v) → ∃ t', Rg n E g s t' ∧ t g - 1 ≤ t' g := by
 induction h with
 | refl s0 =>
  rintro s u rfl hs
  refine ⟨s, .refl s, ?_⟩
  unfold pl; split
  ·rename_i e; subst e; omega
  ·omega
 | @step s0 t a b ha hb hadj h2 hg _ ih =>
  rintro s u rfl hs
  have hne := (hE.adj hadj).2.2
  by_cases c : 2 ≤ s a
  ·obtain ⟨t', h1, h3⟩ := ih (aft s a b) u (aft_pl hne) (aft_nn hne hs c)
   exact ⟨t', .step a b ha hb hadj c hg h1, h3⟩
  ·have hau : a = u := by
    apply Decidable.byContradiction
    intro e; rw [pl_ne _ _ e] at h2; exact c h2
   subst hau
   rw [pl_same] at h2
   have h1 : s a = 1 := by omega
   have e1 : aft (pl s a 1) a b = pl (pl s a (-1)) b 1 := by
    funext v
    rw [pl_at, pl_at, aft_v hne, pl_at]
    by_cases c2 : v = a
    ·rw [if_pos c2, if_pos c2, if_pos c2]; omega
    ·rw [if_neg c2, if_neg c2, if_neg c2]; omega
   obtain ⟨t', k1, k2⟩ := ih (pl s a (-1)) b e1 (fun v => by
    have := hs v
    unfold pl; split <;> omega)
   have k3 := k1.more hE (u := a) (k := 1) (.inl (by omega))
   rw [pl_back] at k3
   refine ⟨_, k3, ?_⟩
   unfold pl; split
   ·rename_i e; subst e; omega
   ·exact k2
theorem Rg.not_from (hE : EOK n E) (h : Rg n E n s t) (hs : ∀ v, 0 ≤ s v) : ∃ t', Rg n E g s t' ∧ t g ≤ t' g := by
 induction h with
 | refl s => exact ⟨s, .refl s, Int.le_refl _⟩
 | @step s t a b ha hb hadj h2 hg _ ih =>
  have hne := (hE.adj hadj).2.2
  obtain ⟨t1, k1, k2⟩ := ih (aft_nn hne hs h2)
  by_cases c : a = g
  ·subst c
   have hs2 : ∀ v, 0 ≤ pl s a (-2) v := fun v => by
    have := hs v
    unfold pl; split <;> omega
   obtain ⟨t', k3, k4⟩ := k1.less hE _ b (aft_pl2 hne) hs2
   have k5 := k3.more hE (u := a) (k := 2) (.inr rfl)
   rw [pl_back] at k5
   exact ⟨_, k5, by rw [pl_same]; omega⟩
  ·exact ⟨t1, .step a b ha hb hadj h2 c k1, k2⟩
theorem Rg.any (h : Rg n E g s t) : Rg n E n s t := by
 induction h with
 | refl s => exact .refl s
 | step a b ha hb hadj h2 hg _ ih => exact .step a b ha hb hadj h2 (by omega) ih
def IsM (n : Nat) (E : List (Int × Int)) (g : Nat) (s : Nat → Int) (m : Int) : Prop := (∃ t, Rg n E g s t ∧ t g = m) ∧ ∀ t, Rg n E g s t → t g ≤ m
theorem IsM.uniq {m m' : Int} (h : IsM n E g s m) (h' : IsM n E g s m') : m = m' := by
 obtain ⟨⟨t, h1, rfl⟩, h2⟩ := h
 obtain ⟨⟨t', h3, rfl⟩, h4⟩ := h'
 have := h2 _ h3
 have := h4 _ h1
 omega
theorem IsM.ex (hE : EOK n E) (hn : n ≤ 6) {B : Int} (S : ST n s B) : ∃ m, IsM n E g s m := by
 have hb : ∀ t, Rg n E g s t → t g ≤ B := fun t h => ((h.st hE hn S).bnd hn g).2
 obtain ⟨j, ⟨t, h1, h2⟩, h3⟩ := least (P := fun j => ∃ t, Rg n E g s t ∧ (B - t g).toNat = j) _ ⟨s, .refl s, rfl⟩
 refine ⟨t g, ⟨t, h1, rfl⟩, fun t' h' => ?_⟩
 have k1 := hb t h1
 have k2 := hb t' h'
 apply Decidable.byContradiction
 intro hlt
 exact h3 (B - t' g).toNat (by omega) ⟨t', h', rfl⟩
open Classical in
noncomputable def mx (n : Nat) (E : List (Int × Int)) (g : Nat) (s : Nat → Int) : Int := if h : ∃ m, IsM n E g s m then Classical.choose h else 0
theorem mx_is (hE : EOK n E) (hn : n ≤ 6) {B : Int} (S : ST n s B) : IsM n E g s (mx n E g s) := by
 unfold mx
 rw [dif_pos (IsM.ex hE hn S)]
 exact Classical.choose_spec (IsM.ex (g := g) hE hn S)
theorem mx_eq (hE : EOK n E) (hn : n ≤ 6) {B : Int} (S : ST n s B) {m : Int} (h : IsM n E g s m) : mx n E g s = m := (mx_is hE hn S).uniq h
theorem mx_ge (hE : EOK n E) (hn : n ≤ 6) {B : Int} (S : ST n s B) (h : Rg n E g s t) : t g ≤ mx n E g s := (mx_is hE hn S).2 t h
theorem mx_any (hE : EOK n E) (hn : n ≤ 6) {B : Int} (S : ST n s B) (h : Rg n E n s t) : t g ≤ mx n E g s := by
 obtain ⟨t', h1, h2⟩ := h.not_from (g := g) hE S.nn
 have := mx_ge hE hn S h1
 omega
theorem mx_bnd (hE : EOK n E) (hn : n ≤ 6) {B : Int} (S : ST n s B) : 0 ≤ mx n E g s ∧ mx n E g s ≤ B := by
 obtain ⟨⟨t, h1, h2⟩, _⟩ := mx_is (g := g) hE hn S
 rw [← h2]
 exact (h1.st hE hn S).bnd hn g
theorem mx_any_le (hE : EOK n E) (hn : n ≤ 6) {B : Int} (S : ST n s B) (h : Rg n E n s t) : mx n E g t ≤ mx n E g s := by
 obtain ⟨⟨w, h1, h2⟩, _⟩ := mx_is (g := g) hE hn (h.st hE hn S)
 rw [← h2]
 exact mx_any hE hn S (h.trans h1.any)
theorem mx_aft (hE : EOK n E) (hn : n ≤ 6) {B : Int} (S : ST n s B) {a b : Nat} (hc : canM n E s a b) : mx n E g (aft s a b) ≤ mx n E g s := by
 obtain ⟨h1, h2, h3, h4⟩ := canM_iff.1 hc
 exact mx_any_le hE hn S (.step a b h1 h2 h3 h4 (by omega) (.refl _))
def lin : Nat → (Nat → Int) → (Nat → Int) → Int
 | 0, _, _ => 0
 | n + 1, c, s => lin n c s + c n * s n
theorem lin_out {c : Nat → Int} {a : Nat} {x : Int} : ∀ {n : Nat}, n ≤ a → lin n c (up s a x) = lin n c s
 | 0, _ => rfl
 | n + 1, h => by
  show lin n c _ + c n * up s a x n = lin n c s + c n * s n
  rw [lin_out (by omega)]
  unfold up; rw [if_neg (by omega)]
theorem lin_up {c : Nat → Int} {a : Nat} {x : Int} : ∀ {n : Nat}, a < n → lin n c (up s a x) = lin n c s + c a * (x - s a)
 | 0, h => by omega
 | n + 1, h => by
  show lin n c _ + c n * up s a x n = lin n c s + c n * s n + _
  by_cases e : a = n
  ·subst e
   rw [lin_out (Nat.le_refl _)]
   unfold up; rw [if_pos rfl, Int.mul_sub]; omega
  ·rw [lin_up (by omega)]
   unfold up; rw [if_neg (by omega)]; omega
theorem lin_aft {c : Nat → Int} {a b : Nat} (ha : a < n) (hb : b < n) : lin n c (aft s a b) = lin n c s - 2 * c a + c b := by
 unfold aft
 rw [lin_up hb, lin_up ha]
 have e1 : s a - 2 - s a = -2 := by omega
 have e2 : ∀ x : Int, x + 1 - x = 1 := fun x => by omega
 rw [e1, e2]; omega
theorem lin_nn {c : Nat → Int} (hc : ∀ v, 0 ≤ c v) (hs : ∀ v, 0 ≤ s v) : ∀ n, 0 ≤ lin n c s
 | 0 => Int.le_refl 0
 | n + 1 => by
  have := lin_nn hc hs n
  have := Int.mul_nonneg (hc n) (hs n)
  show 0 ≤ lin n c s + c n * s n
  omega
theorem lin_ge {c : Nat → Int} (hc : ∀ v, 0 ≤ c v) (hs : ∀ v, 0 ≤ s v) {a : Nat} : ∀ {n : Nat}, a < n → c a * s a ≤ lin n c s
 | 0, h => by omega
 | n + 1, h => by
  show _ ≤ lin n c s + c n * s n
  by_cases e : a = n
  ·subst e; have := lin_nn hc hs a; omega
  ·have := lin_ge hc hs (a := a) (n := n) (by omega)
   have := Int.mul_nonneg (hc n) (hs n)
   omega
theorem Rg.lin_le {c : Nat → Int} (hc : ∀ a b, a < n → b < n → adjE E a b = true → a ≠ g → c b ≤ 2 * c a) (h : Rg n E g s t) : lin n c t ≤ lin n c s := by
 induction h with
 | refl s => exact Int.le_refl _
 | step a b ha hb hadj h2 hg _ ih =>
  rw [lin_aft ha hb] at ih
  have := hc a b ha hb hadj hg
  omega
end
end
end Go.Proofs.YtpkhkghiidilcaaDoor.Sh
namespace Go.Proofs.YtpkhkghiidilcaaDoor.Sh
section
open Go
set_option maxRecDepth 100000
set_option maxHeartbeats 1000000
section
variable {n : Nat} {E : List (Int × Int)} {g : Nat}
theorem far_self (hc : Conn n E) (hg : g < n) : farE n E g g = 0 := by
 obtain ⟨F, hF, h0⟩ := hc g hg
 have := farE_eq hF hg hg (h0 g hg)
 have := hF.src
 omega
theorem far_adj (hc : Conn n E) (hg : g < n) {a b : Nat} (ha : a < n) (hb : b < n) (h : adjE E a b = true) : farE n E g b ≤ farE n E g a + 1 := by
 obtain ⟨F, hF, h0⟩ := hc g hg
 have h1 := farE_eq hF hg ha (h0 a ha)
 have h2 := farE_eq hF hg hb (h0 b hb)
 have := (hF.nxt a b ha hb (h0 a ha) h).2
 omega
theorem far_prev (hc : Conn n E) (hg : g < n) {v : Nat} (hv : v < n) (hne : v ≠ g) : ∃ u, u < n ∧ adjE E v u = true ∧ farE n E g v = farE n E g u + 1 := by
 obtain ⟨F, hF, h0⟩ := hc g hg
 obtain ⟨u, hu, ha, k1, k2⟩ := hF.prv v hv (h0 v hv) hne
 refine ⟨u, hu, by rw [adjE_symm]; exact ha, ?_⟩
 have h1 := farE_eq hF hg hv (h0 v hv)
 have h2 := farE_eq hF hg hu k1
 omega
theorem far_pos (hc : Conn n E) (hg : g < n) {v : Nat} (hv : v < n) (hne : v ≠ g) : 1 ≤ farE n E g v := by
 obtain ⟨u, _, _, h⟩ := far_prev hc hg hv hne
 omega
theorem cnt_mono {f f' : Nat → Int} (h : ∀ v, f' v ≤ f v) : ∀ n, cnt n f ≤ cnt n f'
 | 0 => Nat.le_refl _
 | n + 1 => by
  have := cnt_mono h n
  have := h n
  show (cnt n f + if f n < 0 then 1 else 0) ≤ cnt n f' + if f' n < 0 then 1 else 0
  split <;> split <;> omega
theorem cnt_lt {f f' : Nat → Int} (h : ∀ v, f' v ≤ f v) {u : Nat} (h1 : 0 ≤ f u) (h2 : f' u < 0) : ∀ n, u < n → cnt n f + 1 ≤ cnt n f'
 | 0, hu => by omega
 | n + 1, hu => by
  have h3 := h n
  show (cnt n f + if f n < 0 then 1 else 0) + 1 ≤ cnt n f' + if f' n < 0 then 1 else 0
  by_cases e : u = n
  ·subst e
   have := cnt_mono h u
   rw [if_neg (by omega), if_pos h2]; omega
  ·have := cnt_lt h h1 h2 n (by omega)
   split <;> split <;> omega
theorem far_lt (hc : Conn n E) (hg : g < n) {v : Nat} (hv : v < n) : farE n E g v < n := by
 have lv : ∀ d v, v < n → farE n E g v = d → ∀ k, k ≤ d → ∃ u, u < n ∧ farE n E g u = k := by
  intro d
  induction d with
  | zero => intro v hv h k hk; exact ⟨v, hv, by omega⟩
  | succ d ih =>
   intro v hv h k hk
   by_cases e : k = d + 1
   ·exact ⟨v, hv, by omega⟩
   ·have hne : v ≠ g := fun e => by subst e; have := far_self hc hv; omega
    obtain ⟨u, hu, _, h1⟩ := far_prev hc hg hv hne
    exact ih u hu (by omega) k (by omega)
 have key : ∀ k, k ≤ farE n E g v + 1 → k ≤ cnt n (fun w => (farE n E g w : Int) - k) := by
  intro k
  induction k with
  | zero => intro _; omega
  | succ k ih =>
   intro hk
   have h1 := ih (by omega)
   obtain ⟨u, hu, h2⟩ := lv _ v hv rfl k (by omega)
   have := cnt_lt (f := fun w => (farE n E g w : Int) - k) (f' := fun w => (farE n E g w : Int) - (k + 1 : Nat)) (fun w => by show (farE n E g w : Int) - (k + 1 : Nat) ≤ (farE n E g w : Int) - k; omega) (u := u) (by show 0 ≤ (farE n E g u : Int) - k; omega) (by show (farE n E g u : Int) - (k + 1 : Nat) < 0; omega) n hu
   omega
 have := key _ (Nat.le_refl _)
 have := cnt_le (fun w => (farE n E g w : Int) - (farE n E g v + 1 : Nat)) n
 omega
noncomputable def wg (n : Nat) (E : List (Int × Int)) (g v : Nat) : Int := ((2 ^ (6 - farE n E g v) : Nat) : Int)
theorem wg_nn (v : Nat) : 0 ≤ wg n E g v := Int.natCast_nonneg _
theorem wg_adj (hn : n ≤ 6) (hc : Conn n E) (hg : g < n) : ∀ a b, a < n → b < n → adjE E a b = true → a ≠ g → wg n E g b ≤ 2 * wg n E g a := by
 intro a b ha hb h _
 have h1 := far_adj hc hg hb ha (by rw [adjE_symm]; exact h)
 have h2 := far_lt hc hg ha
 unfold wg
 have : 2 ^ (6 - farE n E g b) ≤ 2 ^ (6 - farE n E g a + 1) := Nat.pow_le_pow_right (by decide) (by omega)
 rw [Nat.pow_succ] at this
 omega
theorem Rg.weight {s t : Nat → Int} (hE : EOK n E) (hn : n ≤ 6) (hc : Conn n E) (hg : g < n) (hs : ∀ v, 0 ≤ s v) (h : Rg n E g s t) : 64 * t g ≤ lin n (wg n E g) s := by
 have h1 := h.lin_le (wg_adj hn hc hg)
 have h2 := lin_ge (c := wg n E g) wg_nn (h.nn hE hs) (a := g) hg
 have : wg n E g g = 64 := by unfold wg; rw [far_self hc hg]; rfl
 rw [this] at h2
 omega
theorem Rg.many (hE : EOK n E) {a b : Nat} (ha : a < n) (hb : b < n) (hadj : adjE E a b = true) (hag : a ≠ g) : ∀ (k : Nat) (s : Nat → Int), 2 * (k : Int) ≤ s a → Rg n E g s (pl (pl s a (-(2 * (k : Int)))) b k)
 | 0, s, _ => by
  have : pl (pl s a (-(2 * ((0 : Nat) : Int)))) b ((0 : Nat) : Int) = s := by
   funext v
   rw [pl_at, pl_at]
   split <;> split <;> omega
  rw [this]; exact .refl s
 | k + 1, s, h => by
  have hne := (hE.adj hadj).2.2
  refine .step a b ha hb hadj (by omega) hag ?_
  have ih := Rg.many hE ha hb hadj hag k (aft s a b) (by rw [aft_at hne, if_neg hne, if_pos rfl]; omega)
  have : pl (pl (aft s a b) a (-(2 * (k : Int)))) b k = pl (pl s a (-(2 * ((k + 1 : Nat) : Int)))) b ((k + 1 : Nat) : Int) := by
   funext v
   by_cases c : v = b
   ·subst c
    rw [pl_same, pl_ne _ _ (fun e => hne e.symm), pl_same, pl_ne _ _ (fun e => hne e.symm), aft_at hne, if_pos rfl]; omega
   ·rw [pl_ne _ _ c, pl_ne _ _ c]
    by_cases c2 : v = a
    ·subst c2; rw [pl_same, pl_same, aft_at hne, if_neg hne, if_pos rfl]; omega
    ·rw [pl_ne _ _ c2, pl_ne _ _ c2, aft_at hne, if_neg c, if_neg c2]
  rw [this] at ih
  exact ih
theorem bring (hE : EOK n E) (hc : Conn n E) (hg : g < n) : ∀ (d : Nat) (v : Nat) (s : Nat → Int), (∀ w, 0 ≤ s w) → v < n → farE n E g v = d → ((2 ^ d : Nat) : Int) ≤ s v → ∃ t, Rg n E g s t ∧ 1 ≤ t g := by
 intro d
 induction d with
 | zero =>
  intro v s hnn hv h hs
  by_cases e : v = g
  ·subst e; exact ⟨s, .refl s, by simpa using hs⟩
  ·have := far_pos hc hg hv e; omega
 | succ d ih =>
  intro v s hnn hv h hs
  have hne : v ≠ g := fun e => by subst e; have := far_self hc hv; omega
  obtain ⟨u, hu, ha, h1⟩ := far_prev hc hg hv hne
  have h2 := (hE.adj ha).2.2
  have h3 : 2 ^ (d + 1) = 2 ^ d * 2 := Nat.pow_succ ..
  have k1 := Rg.many (g := g) hE hv hu ha hne (2 ^ d) s (by omega)
  have h5 := hnn u
  obtain ⟨t, k2, k3⟩ := ih u (pl (pl s v (-(2 * ((2 ^ d : Nat) : Int)))) u ((2 ^ d : Nat) : Int)) (k1.nn hE hnn) hu (by omega) (by rw [pl_same, pl_ne _ _ (fun e => h2 e.symm)]; omega)
  exact ⟨t, k1.trans k2, k3⟩
end
end
end Go.Proofs.YtpkhkghiidilcaaDoor.Sh
namespace Go.Proofs.YtpkhkghiidilcaaDoor.Sh
section
open Go
set_option maxRecDepth 100000
set_option maxHeartbeats 1000000
section
variable {n : Nat} {E : List (Int × Int)} {g : Nat} {s : Nat → Int} {B : Int}
theorem unsolv_box (hE : EOK n E) (hn : n ≤ 6) (hc : Conn n E) (hg : g < n) (S : ST n s B) (h : mx n E g s ≤ 0) {v : Nat} (hv : v < n) : s v < ((2 ^ farE n E g v : Nat) : Int) := by
 apply Decidable.byContradiction
 intro hlt
 obtain ⟨t, k1, k2⟩ := bring hE hc hg _ v s S.nn hv rfl (by omega)
 have := mx_ge hE hn S k1
 omega
theorem p1 {x k : Nat} (h : x = k) : 2 ^ x = 2 ^ k := by rw [h]
end
end
end Go.Proofs.YtpkhkghiidilcaaDoor.Sh
namespace Go.Proofs.YtpkhkghiidilcaaDoor.Sh
section
open Go
set_option maxRecDepth 100000
set_option maxHeartbeats 1000000
section
variable {n : Nat} {E : List (Int × Int)} {s : Nat → Int}
def full (n : Nat) (s : Nat → Int) : Prop := ∀ v, v < n → 1 ≤ s v
def Cov (n : Nat) (E : List (Int × Int)) (s : Nat → Int) : Prop := ∃ t, Rg n E n s t ∧ full n t
theorem lin_one_le {c : Nat → Int} (hc : ∀ v, 0 ≤ c v) : ∀ {n : Nat} {s s' : Nat → Int}, (∀ v, v < n → s v ≤ s' v) → lin n c s ≤ lin n c s'
 | 0, _, _, _ => Int.le_refl 0
 | n + 1, s, s', h => by
  have := lin_one_le hc (n := n) (s := s) (s' := s') (fun v hv => h v (by omega))
  have := Int.mul_le_mul_of_nonneg_left (h n (by omega)) (hc n)
  show lin n c s + c n * s n ≤ lin n c s' + c n * s' n
  omega
theorem lin_ones : ∀ n, lin n (fun _ => 1) (fun _ => 1) = n
 | 0 => rfl
 | n + 1 => by
  show lin n _ _ + 1 * 1 = _
  rw [lin_ones n]; omega
theorem tot_lin {B : Int} (hn : n ≤ 6) (S : ST n s B) : lin n (fun _ => 1) s = tot s := by
 have key : ∀ k, k ≤ 6 → n ≤ k → lin k (fun _ => 1) s = lin n (fun _ => 1) s := by
  intro k
  induction k with
  | zero => intro _ h; rw [show n = 0 by omega]
  | succ k ih =>
   intro h1 h2
   by_cases e : n = k + 1
   ·rw [e]
   ·show lin k _ s + 1 * s k = _
    rw [ih (by omega) (by omega), S.out k (by omega)]; omega
 rw [← key 6 (by omega) hn]
 show ((((((0 + 1 * s 0) + 1 * s 1) + 1 * s 2) + 1 * s 3) + 1 * s 4) + 1 * s 5) = s 0 + s 1 + s 2 + s 3 + s 4 + s 5
 omega
theorem Rg.tot_le {g : Nat} (hE : EOK n E) (hn : n ≤ 6) {t : Nat → Int} (h : Rg n E g s t) : tot t ≤ tot s := by
 induction h with
 | refl s => exact Int.le_refl _
 | step a b ha hb hadj h2 hg _ ih => rw [aft_tot (by omega) (by omega)] at ih; omega
theorem Cov.tot {B : Int} (hE : EOK n E) (hn : n ≤ 6) (S : ST n s B) (h : Cov n E s) : (n : Int) ≤ tot s := by
 obtain ⟨t, h1, h2⟩ := h
 have k1 := h1.tot_le hE hn
 have k2 := tot_lin hn (h1.st hE hn S)
 have k3 := lin_one_le (c := fun _ => 1) (fun _ => by decide) (n := n) (s := fun _ => 1) (s' := t) h2
 rw [lin_ones] at k3
 omega
noncomputable def pw (n : Nat) (E : List (Int × Int)) (a v : Nat) : Int := ((2 ^ farE n E a v : Nat) : Int)
noncomputable def cvS (n : Nat) (E : List (Int × Int)) (a : Nat) : Int := lin n (pw n E a) (fun _ => 1)
end
end
end Go.Proofs.YtpkhkghiidilcaaDoor.Sh
namespace Go.Proofs.YtpkhkghiidilcaaDoor.Sh
section
open Go
set_option maxRecDepth 100000
set_option maxHeartbeats 1000000
def q6 : EqK := .agg [.int, .int, .int, .int, .int, .int]
def zout (s : Nat → Int) : Prop := ∀ v, 6 ≤ v → s v = 0
theorem eqL_ints : ∀ (l l' : List Int), l.length = l'.length → eqList (l.map fun _ => CK.int) (l.map mkI) (l'.map mkI) = some (decide (l = l'))
 | [], [], _ => rfl
 | a :: l, b :: l', h => by
  have ih := eqL_ints l l' (by simpa using h)
  show (match eqCell .int (.int .i64 a) (.int .i64 b) with
   | some true => eqList _ (l.map mkI) (l'.map mkI)
   | some false => some false
   | none => none) = _
  have e : eqCell .int (.int .i64 a) (.int .i64 b) = some (a == b) := by simp [eqCell]
  rw [e, ih]
  by_cases c : a = b
  ·subst c; simp
  ·have : (a == b) = false := beq_eq_false_iff_ne.2 c
   rw [this]; simp [c]
theorem st_lst (s : Nat → Int) : iV 6 s = (lst 6 s).map mkI := by simp [iV, lst, mkI]
theorem eq6 {s t : Nat → Int} (hs : zout s) (ht : zout t) : eqS q6 (stV s) (stV t) = some true ∧ s = t ∨ eqS q6 (stV s) (stV t) = some false ∧ s ≠ t := by
 have e : eqS q6 (stV s) (stV t) = some (decide (lst 6 s = lst 6 t)) := by
  show eqList _ (iV 6 s) (iV 6 t) = _
  rw [st_lst, st_lst]
  exact eqL_ints (lst 6 s) (lst 6 t) rfl
 rw [e]
 by_cases c : lst 6 s = lst 6 t
 ·refine .inl ⟨by rw [decide_eq_true c], funext fun v => ?_⟩
  by_cases cv : v < 6
  ·rw [← lst_at s cv, ← lst_at t cv, c]
  ·rw [hs v (by omega), ht v (by omega)]
 ·exact .inr ⟨by rw [decide_eq_false c], fun h => c (by rw [h])⟩
def ents (S : List ((Nat → Int) × Value)) : List (Value × Value) := S.map fun e => (stV e.1, e.2)
theorem find6 {t : Nat → Int} (ht : zout t) : ∀ S : List ((Nat → Int) × Value), (∀ e ∈ S, zout e.1) → (findS q6 (stV t) (ents S) = some none ∧ ∀ e ∈ S, e.1 ≠ t) ∨ ∃ v, findS q6 (stV t) (ents S) = some (some v) ∧ (t, v) ∈ S
 | [], _ => .inl ⟨rfl, fun e he => by cases he⟩
 | (s, w) :: S, h => by
  have hs : zout s := h (s, w) (by simp)
  show (match eqS q6 (stV t) (stV s) with | some true => some (some w) | some false => findS q6 (stV t) (ents S) | none => none) = _ ∧ _ ∨ ∃ v, (match eqS q6 (stV t) (stV s) with | some true => some (some w) | some false => findS q6 (stV t) (ents S) | none => none) = _ ∧ _
  rcases eq6 ht hs with ⟨e, rfl⟩ | ⟨e, hne⟩
  ·rw [e]; exact .inr ⟨w, rfl, by simp⟩
  ·rw [e]
   rcases find6 ht S (fun e he => h e (by simp [he])) with ⟨h1, h2⟩ | ⟨v, h1, h2⟩
   ·refine .inl ⟨h1, fun e he => ?_⟩
    rcases List.mem_cons.1 he with rfl | he
    ·exact fun k => hne k.symm
    ·exact h2 e he
   ·exact .inr ⟨v, h1, by simp [h2]⟩
theorem upd6 {t : Nat → Int} (ht : zout t) (w : Value) : ∀ S : List ((Nat → Int) × Value), (∀ e ∈ S, zout e.1) → ∃ S', updS q6 (stV t) w (ents S) = some (ents S') ∧ ∀ e ∈ S', e ∈ S ∨ e = (t, w)
 | [], _ => ⟨[(t, w)], rfl, fun e he => .inr (by simpa using he)⟩
 | (s, x) :: S, h => by
  have hs : zout s := h (s, x) (by simp)
  have un : updS q6 (stV t) w (ents ((s, x) :: S)) = (match eqS q6 (stV t) (stV s) with | some true => some ((stV t, w) :: ents S) | some false => (match updS q6 (stV t) w (ents S) with | some r => some ((stV s, x) :: r) | none => none) | none => none) := rfl
  rcases eq6 ht hs with ⟨e, rfl⟩ | ⟨e, hne⟩
  ·exact ⟨(t, w) :: S, by rw [un, e]; rfl, fun e he => by
    rcases List.mem_cons.1 he with rfl | he
    ·exact .inr rfl
    ·exact .inl (by simp [he])⟩
  ·obtain ⟨S', h1, h2⟩ := upd6 ht w S (fun e he => h e (by simp [he]))
   exact ⟨(s, x) :: S', by rw [un, e, h1]; rfl, fun e he => by
    rcases List.mem_cons.1 he with rfl | he
    ·exact .inl (by simp)
    ·rcases h2 e he with h3 | h3
     ·exact .inl (by simp [h3])
     ·exact .inr h3⟩
theorem ST.zout {n : Nat} {s : Nat → Int} {B : Int} (S : ST n s B) (hn : n ≤ 6) : Sh.zout s := fun v hv => S.out v (by omega)
theorem key6 (s : Nat → Int) : keyS q6 (stV s) = true := rfl
theorem sc6 (s : Nat → Int) (w : Value) (h : (cellsL w).all sc = true) : ((cellsL (stV s)).all sc && (cellsL w).all sc) = true := by
 rw [h, Bool.and_true]
 exact iV_sc 6 s
theorem run_rangeX {R : Rec} {cx : Cx} {dep : Nat} {f : Operand} {ps : List Nat} {as_ body : SCode} {st : List Fr} {ρ : Reg} {ms : List Nat} {h : SHeap} {d : List Nat} {Q : Post} {g : FuncId} {caps : Array Value}
    (hrnd : cx.rnd = none) (hv : evR ρ f = some (.func (.func g) #[] caps))
    (hw : ∀ t : T, Full dep t → t.get = ρ → ∃ v2 h2 d2, R.call g (.func (.yield (h.length + 1)) #[] #[] :: caps.toList) (h ++ [.deferred, .loop 0 cx.fn t ps as_ body none h.length]) = some (v2, h2, d2) ∧
      ∃ lst fn' t' ps' as' body' pend df, h2[h.length + 1]? = some (.loop lst fn' t' ps' as' body' pend df) ∧ (lst == 1) = false ∧
        ((pend = none ∧ Ends R cx dep .normal st ρ (h.length :: ms) (setLoop h2 (h.length + 1) 3 none) (dirts cx.base d2 d) Q) ∨
         (pend = some .ret ∧ Ends R cx dep .ret st ρ (h.length :: ms) (setLoop h2 (h.length + 1) 3 (some .ret)) (dirts cx.base d2 d) Q) ∨
         (∃ id, pend = some (.exit id) ∧ Ends R cx dep (.exit id) st ρ (h.length :: ms) (setLoop h2 (h.length + 1) 3 (some (.exit id))) (dirts cx.base d2 d) Q))) :
    Run R cx dep (.rangeFunc f ps as_ body) st ρ ms h d Q := by
  unfold Run
  intro t hf ht
  obtain ⟨v2, h2, d2, e1, lst, fn', t', ps', as', body', pend, df, e2, e3, e4⟩ := hw t hf ht
  have hv' : ev t f = some (.func (.func g) #[] caps) := by rw [ev_evR, ht]; exact hv
  have a1 : (h ++ [SO.deferred]).length = h.length + 1 := by simp
  have a2 : h ++ [SO.deferred] ++ [.loop 0 cx.fn t ps as_ body none h.length] = h ++ [.deferred, .loop 0 cx.fn t ps as_ body none h.length] := by simp
  have e1' : R.call g ((#[] : Array Value).toList ++ [.func (.yield (h.length + 1)) #[] #[]] ++ caps.toList) (h ++ [.deferred, .loop 0 cx.fn t ps as_ body none h.length]) = some (v2, h2, d2) := by
    simpa using e1
  rcases e4 with ⟨rfl, k⟩ | ⟨rfl, k⟩ | ⟨id, rfl, k⟩
  · refine ⟨.normal, t, h.length :: ms, setLoop h2 (h.length + 1) 3 none, dirts cx.base d2 d, ?_, hf, by rw [ht]; exact k⟩
    unfold exec
    simp only [hv', hrnd]
    simp only [a1, a2]
    rw [e1']
    simp only [e2, e3, if_false, Bool.false_eq_true]
  · refine ⟨.ret, t, h.length :: ms, setLoop h2 (h.length + 1) 3 (some .ret), dirts cx.base d2 d, ?_, hf, by rw [ht]; exact k⟩
    unfold exec
    simp only [hv', hrnd]
    simp only [a1, a2]
    rw [e1']
    simp only [e2, e3, if_false, Bool.false_eq_true]
  · refine ⟨.exit id, t, h.length :: ms, setLoop h2 (h.length + 1) 3 (some (.exit id)), dirts cx.base d2 d, ?_, hf, by rw [ht]; exact k⟩
    unfold exec
    simp only [hv', hrnd]
    simp only [a1, a2]
    rw [e1']
    simp only [e2, e3, if_false, Bool.false_eq_true]
end
end Go.Proofs.YtpkhkghiidilcaaDoor.Sh
namespace Go.Proofs.YtpkhkghiidilcaaDoor.Sh
section
open Go
set_option maxRecDepth 100000
set_option maxHeartbeats 4000000
theorem shlI {a : Int} {v : Nat} (h0 : 0 ≤ a) (h1 : a ≤ 1000) (hv : v ≤ 6) : binS .shl (.int .i64 a) (.int .u64 (v : Int)) = some (.int .i64 (a * ((2 ^ v : Nat) : Int))) := by
 obtain ⟨m, rfl⟩ : ∃ m : Nat, a = m := ⟨a.toNat, by omega⟩
 have := Nat.pow_le_pow_right (n := 2) (by decide) hv
 have h2 : m * 2 ^ v ≤ 1000 * 2 ^ 6 := Nat.mul_le_mul (by omega) this
 rw [shl_n (k := .u64) (by omega) (by omega)]
 simp
theorem lin_bnd {c s : Nat → Int} (hc : ∀ v, 0 ≤ c v ∧ c v ≤ 64) (hs : ∀ v, 0 ≤ s v ∧ s v ≤ 1000) : ∀ i : Nat, 0 ≤ lin i c s ∧ lin i c s ≤ 64000 * i
 | 0 => ⟨Int.le_refl 0, Int.le_refl 0⟩
 | i + 1 => by
  have := lin_bnd hc hs i
  have h1 := Int.mul_nonneg (hc i).1 (hs i).1
  have h2 : c i * s i ≤ 64 * 1000 := Int.mul_le_mul (hc i).2 (hs i).2 (hs i).1 (by decide)
  show 0 ≤ lin i c s + c i * s i ∧ lin i c s + c i * s i ≤ _
  omega
theorem wg_le {n : Nat} {E : List (Int × Int)} {g : Nat} (v : Nat) : 0 ≤ wg n E g v ∧ wg n E g v ≤ 64 := by
 refine ⟨wg_nn v, ?_⟩
 unfold wg
 have : 2 ^ (6 - farE n E g v) ≤ 2 ^ 6 := Nat.pow_le_pow_right (by decide) (by omega)
 omega
structure Srch (h : SHeap) (xs gr n : Nat) (E : List (Int × Int)) (goal : Nat) : Prop where
 l0 : loadS h none (.pointer (some ⟨xs, 0, none⟩)) = some (.pointer (some ⟨gr, 0, none⟩))
 l1 : loadS h none (.pointer (some ⟨xs, 1, none⟩)) = some (.int .i64 goal)
 gr : GAt h gr n E
section
variable {H : SHeap} {xs gr n goal : Nat} {E : List (Int × Int)} {s : Nat → Int}
theorem bound71_loop (cx : Cx) (hn : n ≤ 6) (hg : goal < n) (hc : Conn n E) (hs : ∀ v, 0 ≤ s v ∧ s v ≤ 1000) (X : Srch (H ++ [.cells (iV 6 s) 87 true 0 []]) xs gr n E goal) :
  ∀ k ρ ms h' d', (∃ i : Nat, i + k = n ∧ ρ 0 = .pointer (some ⟨xs, 0, none⟩) ∧ ρ 5 = .int .i64 (lin i (wg n E goal) s) ∧ ρ 15 = .slice (some ⟨H.length, 0, none⟩) n 6 ∧ ρ 16 = .int .i64 n ∧ ρ 17 = .int .i64 i ∧ ms = [] ∧ h' = H ++ [.cells (iV 6 s) 87 true 0 []] ∧ d' = []) →
  LoopW M cx 6 sf71L0 ρ ms h' d' (fun ex ρ' ms' h' d' => ms' = [] ∧ h' = H ++ [.cells (iV 6 s) 87 true 0 []] ∧ d' = [] ∧ ex = .exit 0 ∧ ρ' 5 = .int .i64 (lin n (wg n E goal) s)) := by
 refine loop_run _ ?_
 rintro k ρ ms h' d' ⟨i, hk, r0, r5, r15, r16, r17, rfl, rfl, rfl⟩
 unfold sf71L0
 by_cases c : k = 0
 ·have e1 : ¬ ((i : Int) < n) := by omega
  obtain rfl : i = n := by omega
  repeat (first | apply Z1 | apply Z2 | apply Z3 | apply Z4 | apply Z5 rfl | apply Z6 | apply Z7 | apply Z8 | apply Z9 | apply ZA | apply ZB | apply ZC | ((first | apply ZD (by decide) | apply ZN (by decide)); (simp (maxSteps := 9999999) only [go_sem, r16, r17, e1]; rfl)) | (refine ZE ?_ ?_; · simp only [go_sem]) | (refine ZF ?_ ?_; · simp only [go_sem]))
  exact end_nil ⟨rfl, rfl, rfl, rfl, by simp only [go_sem, r5]⟩
 ·have e1 : ((i : Int) < n) := by omega
  have hi : i < n := by omega
  have e2 : (0 : Int) ≤ i := by omega
  have z1 : (i : Int) < 6 := by omega
  have z2 : (0 : Int) ≤ goal := by omega
  have z3 : (goal : Int) < 6 := by omega
  have ew : IntKind.i64.wrap ((i : Int) + 1) = ((i + 1 : Nat) : Int) := by rw [wrap64 (by omega) (by omega)]; rfl
  have l0 := X.l0
  have l1 := X.l1
  have l2 := X.gr.far (f := goal) (v := i) (by omega) (by omega)
  have ls : loadS (H ++ [.cells (iV 6 s) 87 true 0 []]) none (.pointer (some ⟨H.length, i, none⟩)) = some (.int .i64 (s i)) := st_load (s := s) (el := 87) (pf := true) (own := 0) (old := []) (by rw [app_get0]; rfl) rfl (by omega)
  have fl := far_lt hc hg hi
  have ws : IntKind.i64.wrap (6 - (farE n E goal i : Int)) = ((6 - farE n E goal i : Nat) : Int) := by rw [wrap64 (by omega) (by omega)]; omega
  have wu : IntKind.u64.wrap (((6 - farE n E goal i : Nat) : Nat) : Int) = ((6 - farE n E goal i : Nat) : Int) := wrapU (by omega) (by omega)
  have sh := shlI (v := 6 - farE n E goal i) (hs i).1 (hs i).2 (by omega)
  have eq1 : lin i (wg n E goal) s + s i * ((2 ^ (6 - farE n E goal i) : Nat) : Int) = lin (i + 1) (wg n E goal) s := by
   show _ = lin i _ s + wg n E goal i * s i
   unfold wg; rw [Int.mul_comm]
  have bn := lin_bnd (c := wg n E goal) (s := s) wg_le hs (i + 1)
  have wl : IntKind.i64.wrap (lin i (wg n E goal) s + s i * ((2 ^ (6 - farE n E goal i) : Nat) : Int)) = lin (i + 1) (wg n E goal) s := by rw [eq1, wrap64 (by omega) (by omega)]
  repeat (first | apply Z1 | apply Z2 | apply Z3 | apply Z4 | apply Z5 rfl | apply Z6 | apply Z7 | apply Z8 | apply Z9 | apply ZA | apply ZB | apply ZC | ((first | apply ZD (by decide) | apply ZN (by decide)); (simp (maxSteps := 9999999) only [go_sem, r0, r5, r15, r16, r17, e1, e2, z1, z2, z3, ls, l0, l1, l2, ws, wu, sh, wl, ew, Int.toNat_natCast]; rfl)) | (refine ZE ?_ ?_; · simp only [go_sem]) | (refine ZF ?_ ?_; · simp only [go_sem]))
  exact end_nil ⟨k - 1, by omega, i + 1, by omega, by simp only [go_sem, r0], by simp only [go_sem], by simp only [go_sem, r15], by simp only [go_sem, r16], by simp only [go_sem, ew], rfl, rfl, rfl⟩
theorem Srch.app (X : Srch H xs gr n E goal) (hx : xs < H.length) (g : SHeap) : Srch (H ++ g) xs gr n E goal := by
 have e : (H ++ g)[xs]? = H[xs]? := List.getElem?_append_left hx
 exact ⟨by rw [load_same' e]; exact X.l0, by rw [load_same' e]; exact X.l1, X.gr.app g⟩
theorem bound71 (hn : n ≤ 6) (hg : goal < n) (hc : Conn n E) (hs : ∀ v, 0 ≤ s v ∧ s v ≤ 1000) (X : Srch H xs gr n E goal) (hx : xs < H.length) :
  M.call 71 [.pointer (some ⟨xs, 0, none⟩), stV s] H = some (.int .i64 (lin n (wg n E goal) s / 64), H, []) := by
 refine call_run sf71 rfl rfl rfl ?_
 have X1 := X.app hx [.cells (iV 6 s) 87 true 0 []]
 have l0 := X1.l0
 have l1 := X1.l1
 have l2 := X1.gr.n
 have sl := sliceArr_hi (b := H.length) (o := 0) (n := n) (m := 6) (size := 1) hn (by decide) (by decide)
 have bn := lin_bnd (c := wg n E goal) (s := s) wg_le hs n
 obtain ⟨m, hm⟩ : ∃ m : Nat, lin n (wg n E goal) s = m := ⟨(lin n (wg n E goal) s).toNat, by omega⟩
 have shr := shr_n (k := .u64) (a := m) (v := 6) (by decide)
 have ed : ((m / 2 ^ 6 : Nat) : Int) = lin n (wg n E goal) s / 64 := by rw [hm]; omega
 rw [ed] at shr
 unfold sf71
 rw [stV_def]
 rw [iV6] at *
 repeat (first | apply Z1 | apply Z2 | apply Z3 | apply Z4 | apply Z5 rfl | apply Z6 | apply Z7 | apply Z8 | apply Z9 | apply ZA | apply ZB | apply ZC | ((first | apply ZD (by decide) | apply ZN (by decide)); (simp (maxSteps := 9999999) only [go_sem, argR, l0, l1, l2, ↓sl]; rfl)) | (refine ZE ?_ ?_; · simp only [go_sem]) | (refine ZF ?_ ?_; · simp only [go_sem]))
 rw [← iV6]
 refine run_loop (bound71_loop _ hn hg hc hs (by rw [iV6]; exact X1) n _ _ _ _ ⟨0, by omega, by simp only [go_sem, argR], by simp only [go_sem]; rfl, by simp only [go_sem], by simp only [go_sem], by simp only [go_sem], rfl, rfl, rfl⟩) ?_
 rintro ex ρ2 ms2 h2 d2 ⟨rfl, rfl, rfl, rfl, r5⟩
 rw [hm] at r5
 have shr' : binS .shr (.int .i64 (m : Int)) (.int .u64 6) = some (.int .i64 (lin n (wg n E goal) s / 64)) := shr
 repeat (first | apply Z1 | apply Z2 | apply Z3 | apply Z4 | apply Z5 rfl | apply Z6 | apply Z7 | apply Z8 | apply Z9 | apply ZA | apply ZB | apply ZC | ((first | apply ZD (by decide) | apply ZN (by decide)); (simp (maxSteps := 9999999) only [go_sem, r5, shr']; rfl)) | (refine ZE ?_ ?_; · simp only [go_sem]) | (refine ZF ?_ ?_; · simp only [go_sem]))
 exact end_nil (q_free [.int .i64 (lin n (wg n E goal) s / 64)] (by simp only [go_sem]) rfl rfl rfl (fun _ => rfl) (by simp) rfl)
end
end
end Go.Proofs.YtpkhkghiidilcaaDoor.Sh
namespace Go.Proofs.YtpkhkghiidilcaaDoor.Sh
section
open Go
set_option maxRecDepth 100000
set_option maxHeartbeats 4000000
def rfA55_0 : SCode := (.seq (.region 0 [ ⟨(some 9), none, .alloc 106 true [(.int .i64 0), (.int .i64 0)], none, 0, false, []⟩, ⟨none, none, .store 2 (.tmp 9) (.tmp 37), none, 1, false, []⟩]) (.region 0 [ ⟨(some 10), none, .alloc 87 true [(.int .i64 0), (.int .i64 0), (.int .i64 0), (.int .i64 0), (.int .i64 0), (.int .i64 0)], none, 0, false, []⟩, ⟨none, none, .store 6 (.tmp 10) (.tmp 38), none, 1, false, []⟩]))
def rfB55_0 : SCode := (.block 1 (.seq (.seq (.region 0 [ ⟨(some 39), none, .load none (.tmp 7), none, 0, false, []⟩, ⟨(some 40), none, .load none (.tmp 8), none, 1, false, []⟩, ⟨(some 41), none, .eq .int false (.tmp 39) (.tmp 40), none, 2, false, []⟩]) (.cond (.tmp 41) (.exit 0) (.skip))) (.seq (.region 0 [ ⟨(some 42), none, .fieldAddr 0 (.tmp 9), none, 0, false, []⟩, ⟨(some 43), none, .load none (.tmp 42), none, 1, true, []⟩, ⟨(some 44), none, .load none (.tmp 2), none, 2, true, []⟩, ⟨(some 45), none, .nilCheck (.tmp 44), none, 3, false, []⟩, ⟨(some 46), none, .fieldAddr 1 (.tmp 45), none, 4, false, []⟩, ⟨(some 47), none, .load none (.tmp 46), none, 5, true, []⟩, ⟨(some 48), none, .eq .int true (.tmp 43) (.tmp 47), none, 6, false, []⟩]) (.cond (.tmp 48) (.region 0 [ ⟨(some 49), none, .load none (.tmp 7), none, 0, true, []⟩, ⟨(some 50), none, .load none (.tmp 2), none, 1, true, []⟩, ⟨(some 51), none, .load (some 6) (.tmp 10), none, 2, true, []⟩, ⟨(some 52), none, .call (.func 55) [(.tmp 50), (.tmp 51)], none, 3, false, [0]⟩, ⟨(some 53), none, .maxi [(.tmp 49), (.tmp 52)], none, 4, false, []⟩, ⟨none, none, .store 1 (.tmp 7) (.tmp 53), none, 5, false, []⟩]) (.skip)))))
def KnM (n : Nat) (E : List (Int × Int)) (goal : Nat) (S : List ((Nat → Int) × Value)) : Prop := ∀ e ∈ S, (∃ B, ST n e.1 B) ∧ e.2 = .int .i64 (mx n E goal e.1)
theorem KnM.z {n : Nat} {E : List (Int × Int)} {goal : Nat} {S : List ((Nat → Int) × Value)} (hn : n ≤ 6) (k : KnM n E goal S) : ∀ e ∈ S, zout e.1 := fun e he => by
 obtain ⟨⟨B, h⟩, _⟩ := k e he
 exact h.zout hn
def Bst (n : Nat) (E : List (Int × Int)) (goal : Nat) (s : Nat → Int) (l : List (Nat × Nat)) (m : Int) : Prop := (∃ w, Rg n E goal s w ∧ w goal = m) ∧ s goal ≤ m ∧ ∀ p ∈ l, p.1 ≠ goal → mx n E goal (aft s p.1 p.2) ≤ m
structure JT (N mb xs gr n : Nat) (E : List (Int × Int)) (goal : Nat) (s : Nat → Int) (bd : Int) (H : SHeap) (Q : Int → Prop) (lo : SO) (h : SHeap) : Prop where
 len : N + 8 ≤ h.length
 low : ∀ j, j < N → j ≠ mb → h[j]? = H[j]?
 mem : ∃ S, h[mb]? = some (.map true (ents S)) ∧ KnM n E goal S
 bx : h[N]? = some (.cells [.pointer (some ⟨xs, 0, none⟩)] 90 false 0 [])
 bs : h[N + 1]? = some (.cells (iV 6 s) 87 true 0 [])
 best : ∃ m, h[N + 2]? = some (.cells [.int .i64 m] 3 true 0 []) ∧ Q m
 bnd : h[N + 3]? = some (.cells [.int .i64 bd] 3 true 0 [])
 cap : Caps h (N + 4) (N + 5) gr n E s
 df : h[N + 6]? = some .deferred
 lp : h[N + 7]? = some lo
section
variable {N mb xs gr n : Nat} {E : List (Int × Int)} {goal : Nat} {s : Nat → Int} {bd : Int} {H : SHeap} {Q Q' : Int → Prop} {lo lo' : SO} {h h' : SHeap}
theorem JT.chg (J : JT N mb xs gr n E goal s bd H Q lo h) (hm : mb < N) (hg : gr < N) (hgm : gr ≠ mb) (hl : N + 8 ≤ h'.length) (k : ∀ j, j < N + 8 → j ≠ mb → j ≠ N + 2 → j ≠ N + 7 → h'[j]? = h[j]?)
  (mem : ∃ S, h'[mb]? = some (.map true (ents S)) ∧ KnM n E goal S) (best : ∃ m, h'[N + 2]? = some (.cells [.int .i64 m] 3 true 0 []) ∧ Q' m) (lp : h'[N + 7]? = some lo') : JT N mb xs gr n E goal s bd H Q' lo' h' :=
 ⟨hl, fun j hj hne => by rw [k j (by omega) hne (by omega) (by omega)]; exact J.low j hj hne, mem, by rw [k _ (by omega) (by omega) (by omega) (by omega)]; exact J.bx, by rw [k _ (by omega) (by omega) (by omega) (by omega)]; exact J.bs, best, by rw [k _ (by omega) (by omega) (by omega) (by omega)]; exact J.bnd,
  J.cap.same (fun j hj => k j (by omega) (by omega) (by omega) (by omega)), by rw [k _ (by omega) (by omega) (by omega) (by omega)]; exact J.df, lp⟩
theorem JT.same (J : JT N mb xs gr n E goal s bd H Q lo h) (hm : mb < N) (hg : gr < N) (hl : N + 8 ≤ h'.length) (k : ∀ j, j < N + 8 → h'[j]? = h[j]?) : JT N mb xs gr n E goal s bd H Q lo h' := by
 obtain ⟨S, m1, m2⟩ := J.mem
 obtain ⟨m, b1, b2⟩ := J.best
 exact ⟨hl, fun j hj hne => by rw [k j (by omega)]; exact J.low j hj hne, ⟨S, by rw [k _ (by omega)]; exact m1, m2⟩, by rw [k _ (by omega)]; exact J.bx, by rw [k _ (by omega)]; exact J.bs, ⟨m, by rw [k _ (by omega)]; exact b1, b2⟩, by rw [k _ (by omega)]; exact J.bnd,
  J.cap.same (fun j hj => k j (by omega)), by rw [k _ (by omega)]; exact J.df, by rw [k _ (by omega)]; exact J.lp⟩
theorem JT.app (J : JT N mb xs gr n E goal s bd H Q lo h) (hm : mb < N) (hg : gr < N) (x : SHeap) : JT N mb xs gr n E goal s bd H Q lo (h ++ x) :=
 J.same hm hg (by have := J.len; simp; omega) (fun j hj => List.getElem?_append_left (by have := J.len; omega))
theorem JT.setLp (J : JT N mb xs gr n E goal s bd H Q lo h) (hm : mb < N) (hg : gr < N) (hgm : gr ≠ mb) (lo' : SO) : JT N mb xs gr n E goal s bd H Q lo' (h.set (N + 7) lo') := by
 obtain ⟨S, m1, m2⟩ := J.mem
 obtain ⟨m, b1, b2⟩ := J.best
 have hl := J.len
 exact J.chg hm hg hgm (by simp; omega) (fun j hj h1 h2 h3 => by rw [List.getElem?_set_ne (by omega)]) ⟨S, by rw [List.getElem?_set_ne (by omega)]; exact m1, m2⟩ ⟨m, by rw [List.getElem?_set_ne (by omega)]; exact b1, b2⟩ (by rw [List.getElem?_set_self (by omega)])
def But (mb : Nat) (H h : SHeap) : Prop := h.length = H.length ∧ ∀ j, j ≠ mb → h[j]? = H[j]?
def MostR (xs mb n : Nat) (E : List (Int × Int)) (goal : Nat) (s : Nat → Int) (H : SHeap) : Prop :=
 ∃ H', M.call 55 [.pointer (some ⟨xs, 0, none⟩), stV s] H = some (.int .i64 (mx n E goal s), H', []) ∧ But mb H H' ∧ ∃ S, H'[mb]? = some (.map true (ents S)) ∧ KnM n E goal S
theorem most_round {t : T} (hn : n ≤ 6) (hE : EOK n E) (hgn : goal < n) (hm : mb < N) (hg : gr < N) (hgm : gr ≠ mb) (hx : xs < N) (hxm : xs ≠ mb) {B : Int} (S0 : ST n s B) (X : Srch H xs gr n E goal) (hHN : H.length = N)
  (hf : Full 6 t) (t2 : t.get 2 = .pointer (some ⟨N, 0, none⟩)) (t7 : t.get 7 = .pointer (some ⟨N + 2, 0, none⟩)) (t8 : t.get 8 = .pointer (some ⟨N + 3, 0, none⟩))
  {l : List (Nat × Nat)} {hh : SHeap} {a b : Nat} (ha : a < n) (hb : b < n) (hc : canM n E s a b)
  (ih : a ≠ goal → ∀ G : SHeap, xs < G.length → gr < G.length → mb < G.length → Srch G xs gr n E goal → (∃ S, G[mb]? = some (.map true (ents S)) ∧ KnM n E goal S) → (∃ c, G[xs]? = some (.cells [.pointer (some ⟨gr, 0, none⟩), .int .i64 goal, .map (some mb)] c false 0 [])) → MostR xs mb n E goal (aft s a b) G)
  (hxs : ∃ c, H[xs]? = some (.cells [.pointer (some ⟨gr, 0, none⟩), .int .i64 goal, .map (some mb)] c false 0 []))
  (J : JT N mb xs gr n E goal s bd H (Bst n E goal s l) (.loop 0 55 t [37, 38] rfA55_0 rfB55_0 none (N + 6)) hh) :
  ∃ r h2, M.round (N + 8) (N + 7) [.agg #[.int .i64 a, .int .i64 b], stV (aft s a b)] hh = some (.bool r, h2, []) ∧
   (r = true → JT N mb xs gr n E goal s bd H (Bst n E goal s (l ++ [(a, b)])) (.loop 0 55 t [37, 38] rfA55_0 rfB55_0 none (N + 6)) h2) ∧
   (r = false → JT N mb xs gr n E goal s bd H (fun m => m = bd ∧ ∃ w, Rg n E goal s w ∧ w goal = m) (.loop 2 55 t [37, 38] rfA55_0 rfB55_0 (some (.exit 0)) (N + 6)) h2) := by
 have jl := J.len
 obtain ⟨r, ⟨r1, h2, rfl, hP⟩, e⟩ := round_rule (FT := FT) (C := flatK CA) (base := N + 8) (args := [.agg #[.int .i64 a, .int .i64 b], stV (aft s a b)]) (fun r => ∃ r1 h2, r = (.bool r1, h2, []) ∧ (r1 = true → JT N mb xs gr n E goal s bd H (Bst n E goal s (l ++ [(a, b)])) (.loop 0 55 t [37, 38] rfA55_0 rfB55_0 none (N + 6)) h2) ∧
   (r1 = false → JT N mb xs gr n E goal s bd H (fun m => m = bd ∧ ∃ w, Rg n E goal s w ∧ w goal = m) (.loop 2 55 t [37, 38] rfA55_0 rfB55_0 (some (.exit 0)) (N + 6)) h2)) J.lp hf rfl (by decide) rfl (by
  unfold rfA55_0
  generalize hw : aft s a b = w at *
  have ws := wst w
  repeat (first | apply Z1 | apply Z2 | apply Z3 | apply Z4 | apply Z5 rfl | apply Z6 | apply Z7 | apply Z8 | apply Z9 | apply ZA | apply ZB | apply ZC | ((first | apply ZD (by decide) | apply ZN (by decide)); (simp (maxSteps := 9999999) only [go_sem, ws]; rfl)) | (refine ZE ?_ ?_; · simp only [go_sem]) | (refine ZF ?_ ?_; · simp only [go_sem]))
  have J1 := J.app hm hg [.cells [.int .i64 a, .int .i64 b] 106 true 0 [], .cells (iV 6 w) 87 true 0 []]
  refine end_nil ⟨rfl, ⟨55, t, [37, 38], _, _, N + 6, J1.lp⟩, ?_⟩
  rw [setLoop_eq J1.lp]
  have J2 := J1.setLp hm hg hgm (.loop 1 55 t [37, 38] rfA55_0 rfB55_0 none (N + 6))
  have g8 : ((hh ++ [.cells [.int .i64 a, .int .i64 b] 106 true 0 [], .cells (iV 6 w) 87 true 0 []] : SHeap).set (N + 7) (.loop 1 55 t [37, 38] rfA55_0 rfB55_0 none (N + 6)))[hh.length]? = some (.cells [.int .i64 a, .int .i64 b] 106 true 0 []) := by
   rw [List.getElem?_set_ne (by omega), app_get0]; rfl
  have g9 : ((hh ++ [.cells [.int .i64 a, .int .i64 b] 106 true 0 [], .cells (iV 6 w) 87 true 0 []] : SHeap).set (N + 7) (.loop 1 55 t [37, 38] rfA55_0 rfB55_0 none (N + 6)))[hh.length + 1]? = some (.cells (iV 6 w) 87 true 0 []) := by
   rw [List.getElem?_set_ne (by omega), app_get]; rfl
  generalize (hh ++ [.cells [.int .i64 a, .int .i64 b] 106 true 0 [], .cells (iV 6 w) 87 true 0 []] : SHeap).set (N + 7) (.loop 1 55 t [37, 38] rfA55_0 rfB55_0 none (N + 6)) = G at *
  have jl2 := J2.len
  obtain ⟨m, b1, b2⟩ := J2.best
  have lb : loadS G none (.pointer (some ⟨N + 2, 0, none⟩)) = some (.int .i64 m) := by
   have := load_cell (o := 0) b1 rfl rfl []; rw [List.append_nil] at this; exact this
  have ld : loadS G none (.pointer (some ⟨N + 3, 0, none⟩)) = some (.int .i64 bd) := by
   have := load_cell (o := 0) J2.bnd rfl rfl []; rw [List.append_nil] at this; exact this
  have lx : loadS G none (.pointer (some ⟨N, 0, none⟩)) = some (.pointer (some ⟨xs, 0, none⟩)) := by
   have := load_cell (o := 0) J2.bx rfl rfl []; rw [List.append_nil] at this; exact this
  have la : loadS G none (.pointer (some ⟨hh.length, 0, none⟩)) = some (.int .i64 a) := by
   have := load_cell (o := 0) g8 rfl rfl []; rw [List.append_nil] at this; exact this
  have lw : loadS G (some 6) (.pointer (some ⟨hh.length + 1, 0, none⟩)) = some (stV w) := by
   have := load_all (n := 6) g9 rfl (iV_len _ _) []; rw [List.append_nil] at this; exact this
  have xG : Srch G xs gr n E goal := ⟨by rw [load_same' (J2.low xs hx hxm)]; exact X.l0, by rw [load_same' (J2.low xs hx hxm)]; exact X.l1, J2.cap.gr⟩
  have lg := xG.l1
  unfold rfB55_0
  by_cases c1 : m = bd
  ·subst c1
   repeat (first | apply Z1 | apply Z2 | apply Z3 | apply Z4 | apply Z5 rfl | apply Z6 | apply Z7 | apply Z8 | apply Z9 | apply ZA | apply ZB | apply ZC | ((first | apply ZD (by decide) | apply ZN (by decide)); (simp (maxSteps := 9999999) only [go_sem, t7, t8, lb, ld]; rfl)) | (refine ZE ?_ ?_; · simp only [go_sem]) | (refine ZF ?_ ?_; · simp only [go_sem]))
   refine end_nil ⟨⟨_, _, _, _, _, _, _, _, J2.lp⟩, _, _, rfl, fun h => (by cases h), fun _ => ?_⟩
   show JT _ _ _ _ _ _ _ _ _ _ _ _ (setLoop G (N + 7) 2 (some (.exit 0)))
   rw [setLoop_eq J2.lp]
   have J3 := J2.setLp hm hg hgm (.loop 2 55 t [37, 38] rfA55_0 rfB55_0 (some (.exit 0)) (N + 6))
   obtain ⟨S, m1, m2⟩ := J3.mem
   exact J3.chg hm hg hgm J3.len (fun _ _ _ _ _ => rfl) ⟨S, m1, m2⟩ ⟨m, by rw [List.getElem?_set_ne (by omega)]; exact b1, rfl, b2.1⟩ J3.lp
  ·by_cases c2 : (a : Int) = goal
   ·have hag : a = goal := by omega
    repeat (first | apply Z1 | apply Z2 | apply Z3 | apply Z4 | apply Z5 rfl | apply Z6 | apply Z7 | apply Z8 | apply Z9 | apply ZA | apply ZB | apply ZC | ((first | apply ZD (by decide) | apply ZN (by decide)); (simp (maxSteps := 9999999) only [go_sem, t7, t8, lb, ld, c1, t2, la, lx, lg, c2]; rfl)) | (refine ZE ?_ ?_; · simp only [go_sem]) | (refine ZF ?_ ?_; · simp only [go_sem]))
    refine end_nil ⟨⟨_, _, _, _, _, _, _, _, J2.lp⟩, _, _, rfl, fun _ => ?_, fun h => (by cases h)⟩
    show JT _ _ _ _ _ _ _ _ _ _ _ _ (setLoop G (N + 7) 0 none)
    rw [setLoop_eq J2.lp]
    have J3 := J2.setLp hm hg hgm (.loop 0 55 t [37, 38] rfA55_0 rfB55_0 none (N + 6))
    obtain ⟨S, m1, m2⟩ := J3.mem
    refine J3.chg hm hg hgm J3.len (fun _ _ _ _ _ => rfl) ⟨S, m1, m2⟩ ⟨m, by rw [List.getElem?_set_ne (by omega)]; exact b1, b2.1, b2.2.1, fun p hp hpg => ?_⟩ J3.lp
    rcases List.mem_append.1 hp with hp | hp
    ·exact b2.2.2 p hp hpg
    ·rw [List.mem_singleton] at hp; subst hp; exact (hpg hag).elim
   ·have hag : a ≠ goal := fun e => c2 (by rw [e])
    obtain ⟨xc, hxc⟩ := hxs
    obtain ⟨H', k1, ⟨k2, k3⟩, S, k4, k5⟩ := ih hag G (by omega) (by omega) (by omega) xG J2.mem ⟨xc, by rw [J2.low xs hx hxm]; exact hxc⟩
    have hb2 : H'[N + 2]? = some (.cells [.int .i64 m] 3 true 0 []) := by rw [k3 _ (by omega)]; exact b1
    have lb2 : loadS H' none (.pointer (some ⟨N + 2, 0, none⟩)) = some (.int .i64 m) := by
     have := load_cell (o := 0) hb2 rfl rfl []; rw [List.append_nil] at this; exact this
    have mxv : (if m < mx n E goal w then mx n E goal w else m) = max m (mx n E goal w) := by
     rw [Int.max_def]; split <;> split <;> omega
    have st : storeS (N + 8) H' [] (N + 2) 0 (cellsL (.int .i64 (max m (mx n E goal w)))) = some (H'.set (N + 2) (.cells [.int .i64 (max m (mx n E goal w))] 3 true 0 []), []) := by
     have := store_cell (h := H') (base := N + 8) (b := N + 2) (o := 0) (c := .int .i64 (max m (mx n E goal w))) hb2 (by simp) rfl (fun _ => rfl) []
     rw [cells_int, this]; rfl
    repeat (first | apply Z1 | apply Z2 | apply Z3 | apply Z4 | apply Z5 rfl | apply Z6 | apply Z7 | apply Z8 | apply Z9 | apply ZA | apply ZB | apply ZC | ((first | apply ZD (by decide) | apply ZN (by decide)); (simp (maxSteps := 9999999) only [go_sem, t7, t8, lb, ld, c1, t2, la, lx, lg, c2, lw, k1, lb2, mxv, ↓st]; rfl)) | (refine ZE ?_ ?_; · simp only [go_sem]) | (refine ZF ?_ ?_; · simp only [go_sem]))
    have J3 : JT N mb xs gr n E goal s bd H (Bst n E goal s (l ++ [(a, b)])) (.loop 1 55 t [37, 38] rfA55_0 rfB55_0 none (N + 6)) (H'.set (N + 2) (.cells [.int .i64 (max m (mx n E goal w))] 3 true 0 [])) := by
     refine J2.chg hm hg hgm (by simp; omega) (fun j hj h1 h2 h3 => by rw [List.getElem?_set_ne (by omega), k3 j h1]) ⟨S, by rw [List.getElem?_set_ne (by omega)]; exact k4, k5⟩ ⟨_, by rw [List.getElem?_set_self (by omega)], ?_, ?_, fun p hp hpg => ?_⟩ (by rw [List.getElem?_set_ne (by omega), k3 _ (by omega)]; exact J2.lp)
     ·obtain ⟨u1, u2, u3, u4⟩ := canM_iff.1 hc
      obtain ⟨⟨v, v1, v2⟩, _⟩ := mx_is (g := goal) hE hn (S0.aft hE hn u1 u2 u3 u4)
      rw [hw] at v1 v2
      by_cases cm : m ≤ mx n E goal w
      ·exact ⟨v, .step a b u1 u2 u3 u4 hag (by rw [hw]; exact v1), by omega⟩
      ·obtain ⟨w0, w1, w2⟩ := b2.1
       exact ⟨w0, w1, by omega⟩
     ·have := b2.2.1; omega
     ·rcases List.mem_append.1 hp with hp | hp
      ·have := b2.2.2 p hp hpg; omega
      ·rw [List.mem_singleton] at hp; subst hp
       dsimp only
       rw [hw]; omega
    refine end_nil ⟨⟨_, _, _, _, _, _, _, _, J3.lp⟩, _, _, rfl, fun _ => ?_, fun h => (by cases h)⟩
    show JT _ _ _ _ _ _ _ _ _ _ _ _ (setLoop _ (N + 7) 0 none)
    rw [setLoop_eq J3.lp]
    exact J3.setLp hm hg hgm _)
 exact ⟨r1, h2, e, hP⟩
end
end
end Go.Proofs.YtpkhkghiidilcaaDoor.Sh
namespace Go.Proofs.YtpkhkghiidilcaaDoor.Sh
section
open Go
set_option maxRecDepth 100000
set_option maxHeartbeats 4000000
theorem MVb_all {n : Nat} {E : List (Int × Int)} {s : Nat → Int} {a b : Nat} (ha : a < n) (hb : b < n) (h : canM n E s a b) : (a, b) ∈ MVb n E s n := by
 have row : ∀ k, b < k → (a, b) ∈ rowM n E s a k := by
  intro k
  induction k with
  | zero => intro h; omega
  | succ k ih =>
   intro hk
   show (a, b) ∈ _ ++ _
   rw [List.mem_append]
   by_cases e : b = k
   ·subst e; rw [if_pos h]; exact .inr (by simp)
   ·exact .inl (ih (by omega))
 have all : ∀ k, a < k → (a, b) ∈ MVb n E s k := by
  intro k
  induction k with
  | zero => intro h; omega
  | succ k ih =>
   intro hk
   show (a, b) ∈ _ ++ _
   rw [List.mem_append]
   by_cases e : a = k
   ·subst e; exact .inr (row n hb)
   ·exact .inl (ih (by omega))
 exact all n ha
section
variable {n : Nat} {E : List (Int × Int)} {goal : Nat} {s : Nat → Int}
theorem Bst.all (hE : EOK n E) (hn : n ≤ 6) {B : Int} (S : ST n s B) {m : Int} (h : Bst n E goal s (MVb n E s n) m) : mx n E goal s = m := by
 refine mx_eq hE hn S ⟨h.1, fun t ht => ?_⟩
 cases ht with
 | refl => exact h.2.1
 | step a b ha hb hadj h2 hg k =>
  have k1 := h.2.2 (a, b) (MVb_all ha hb (canM_iff.2 ⟨ha, hb, hadj, h2⟩)) hg
  have k2 := mx_ge hE hn (S.aft hE hn ha hb hadj h2) k
  dsimp only at k1
  omega
theorem bound_eq (hE : EOK n E) (hn : n ≤ 6) (hc : Conn n E) (hg : goal < n) {B : Int} (S : ST n s B) {m : Int} (h : m = lin n (wg n E goal) s / 64 ∧ ∃ w, Rg n E goal s w ∧ w goal = m) : mx n E goal s = m := by
 refine mx_eq hE hn S ⟨h.2, fun t ht => ?_⟩
 have := ht.weight hE hn hc hg S.nn
 omega
end
section
variable {xs gr mb n : Nat} {E : List (Int × Int)} {goal : Nat}
theorem cells_st (s : Nat → Int) : cellsL (stV s) = iV 6 s := rfl
theorem take_but {H G : SHeap} {N : Nat} (hN : H.length = N) (hl : N ≤ G.length) (k : ∀ j, j < N → j ≠ mb → G[j]? = H[j]?) : But mb H (G.take N) := by
 refine ⟨by rw [List.length_take]; omega, fun j hj => ?_⟩
 by_cases c : j < N
 ·rw [List.getElem?_take, if_pos c]; exact k j c hj
 ·rw [List.getElem?_eq_none (by rw [List.length_take]; omega), List.getElem?_eq_none (by omega)]
theorem JT.take {N : Nat} {s : Nat → Int} {bd : Int} {H : SHeap} {Q : Int → Prop} {lo : SO} {h : SHeap} (J : JT N mb xs gr n E goal s bd H Q lo h) (hm : mb < N) (hg : gr < N) : JT N mb xs gr n E goal s bd H Q lo (h.take (N + 8)) :=
 J.same hm hg (by have := J.len; rw [List.length_take]; omega) (fun j hj => by rw [List.getElem?_take, if_pos hj])
theorem most55 (hn : n ≤ 6) (hE : EOK n E) (hc : Conn n E) (hgn : goal < n) (hgm : gr ≠ mb) (hxm : xs ≠ mb) :
  ∀ (k : Nat) (s : Nat → Int) (H : SHeap), tot s < k → ST n s 1000 → xs < H.length → gr < H.length → mb < H.length → Srch H xs gr n E goal → (∃ S, H[mb]? = some (.map true (ents S)) ∧ KnM n E goal S) → (∃ c, H[xs]? = some (.cells [.pointer (some ⟨gr, 0, none⟩), .int .i64 goal, .map (some mb)] c false 0 [])) → MostR xs mb n E goal s H := by
 intro k
 induction k with
 | zero =>
  intro s H hk S0
  have h0 := S0.nn 0
  have h1 := S0.nn 1
  have h2 := S0.nn 2
  have h3 := S0.nn 3
  have h4 := S0.nn 4
  have h5 := S0.nn 5
  unfold tot at hk
  omega
 | succ k ih =>
  intro s H hk S0 hx hg hm X hmem hxs
  obtain ⟨S, m1, m2⟩ := hmem
  obtain ⟨xc, hxc⟩ := hxs
  have hz := S0.zout hn
  have hs := fun v => S0.bnd hn v
  suffices key : ∃ r, (∃ H', r = (Value.int .i64 (mx n E goal s), H', ([] : List Nat)) ∧ But mb H H' ∧ ∃ S, H'[mb]? = some (.map true (ents S)) ∧ KnM n E goal S) ∧ M.call 55 [.pointer (some ⟨xs, 0, none⟩), stV s] H = some r by
   obtain ⟨r, ⟨H', rfl, k2, k3⟩, k1⟩ := key
   exact ⟨H', k1, k2, k3⟩
  refine call_ex (f := 55) _ sf55 rfl rfl rfl ?_
  have cs := cells_st s
  have isc := iV_sc 6 s
  have lm : ∀ x, loadS (H ++ x) none (.pointer (some ⟨xs, 2, none⟩)) = some (.map (some mb)) := fun x => load_cell (o := 2) hxc rfl rfl x
  have l0 : ∀ x, loadS (H ++ x) none (.pointer (some ⟨xs, 0, none⟩)) = some (.pointer (some ⟨gr, 0, none⟩)) := fun x => load_cell (o := 0) hxc rfl rfl x
  have l1 : ∀ x, loadS (H ++ x) none (.pointer (some ⟨xs, 1, none⟩)) = some (.int .i64 goal) := fun x => load_cell (o := 1) hxc rfl rfl x
  have l6 : ∀ x y, loadS (H ++ (x :: .cells (iV 6 s) 87 true 0 [] :: y)) (some 6) (.pointer (some ⟨H.length + 1, 0, none⟩)) = some (stV s) := fun x y => by
   have := load_all (h := H ++ (x :: .cells (iV 6 s) 87 true 0 [] :: y)) (b := H.length + 1) (n := 6) (cs := iV 6 s) (el := 87) (pf := true) (own := 0) (old := []) (by rw [app_get]; rfl) rfl (iV_len _ _) []
   rw [List.append_nil] at this; exact this
  unfold sf55
  rcases find6 hz S (m2.z hn) with ⟨f1, f2⟩ | ⟨v, f1, f2⟩
  ·have lk : ∀ x d, lookV (.agg [.int, .int, .int, .int, .int, .int]) (.int .i64 0) true (some (.map (some mb))) (some (stV s)) (H ++ x) d = some (.tuple #[.int .i64 0, .bool false], H ++ x, d) := fun x d => lookV_ok (q := q6) d (key6 s) (by rw [List.getElem?_append_left (by omega)]; exact m1) f1
   have ld2 : ∀ x y : SO, loadS (H ++ [.cells [.pointer (some ⟨xs, 0, none⟩)] 90 false 0 [], .cells (iV 6 s) 87 true 0 [], x, y]) none (.pointer (some ⟨H.length + 1, goal, none⟩)) = some (.int .i64 (s goal)) := fun x y => st_load (s := s) (el := 87) (pf := true) (own := 0) (old := []) (by rw [app_get]; rfl) rfl (by omega)
   have z2 : (0 : Int) ≤ goal := by omega
   have z3 : (goal : Int) < 6 := by omega
   have b71 := fun x y : SO => bound71 (H := H ++ [.cells [.pointer (some ⟨xs, 0, none⟩)] 90 false 0 [], .cells (iV 6 s) 87 true 0 [], x, y]) hn hgn hc hs (X.app hx _) (by simp; omega)
   generalize hbd : lin n (wg n E goal) s / 64 = bd at *
   have mk := mk62 (h := H ++ [.cells [.pointer (some ⟨xs, 0, none⟩)] 90 false 0 [], .cells (iV 6 s) 87 true 0 [], .cells [.int .i64 (s goal)] 3 true 0 [], .cells [.int .i64 bd] 3 true 0 []]) (g := gr) (by simp; omega) s
   rw [List.append_assoc, List.length_append] at mk
   have mk' : M.call 62 [.pointer (some ⟨gr, 0, none⟩), stV s] (H ++ [.cells [.pointer (some ⟨xs, 0, none⟩)] 90 false 0 [], .cells (iV 6 s) 87 true 0 [], .cells [.int .i64 (s goal)] 3 true 0 [], .cells [.int .i64 bd] 3 true 0 []]) = some (.func (.func 77) #[] #[.pointer (some ⟨H.length + 4, 0, none⟩), .pointer (some ⟨H.length + 5, 0, none⟩)], H ++ [.cells [.pointer (some ⟨xs, 0, none⟩)] 90 false 0 [], .cells (iV 6 s) 87 true 0 [], .cells [.int .i64 (s goal)] 3 true 0 [], .cells [.int .i64 bd] 3 true 0 [], .cells [.pointer (some ⟨gr, 0, none⟩)] 85 false 0 [], .cells (iV 6 s) 87 true 0 []], []) := mk
   repeat (first | apply Z1 | apply Z2 | apply Z3 | apply Z4 | apply Z5 rfl | apply Z6 | apply Z7 | apply Z8 | apply Z9 | apply ZA | apply ZB | apply ZC | ((first | apply ZD (by decide) | apply ZN (by decide)); (simp (maxSteps := 9999999) only [go_sem, argR, ↓cs, isc, lm, ↓l6, lk, l0, l1, z2, z3, ↓ld2, b71, mk', Nat.add_assoc, Int.toNat_natCast]; rfl)) | (refine ZE ?_ ?_; · simp only [go_sem]) | (refine ZF ?_ ?_; · simp only [go_sem]))
   show Run M _ 6 (.rangeFunc (.tmp 36) [37, 38] rfA55_0 rfB55_0) _ _ _ _ _ _
   refine run_rangeX (g := 77) (caps := #[.pointer (some ⟨H.length + 4, 0, none⟩), .pointer (some ⟨H.length + 5, 0, none⟩)]) rfl (by simp only [go_sem]) ?_
   intro t hf ht
   have t2 : t.get 2 = .pointer (some ⟨H.length, 0, none⟩) := by rw [ht]; simp only [go_sem]
   have t3 : t.get 3 = .pointer (some ⟨H.length + 1, 0, none⟩) := by rw [ht]; simp only [go_sem]
   have t7 : t.get 7 = .pointer (some ⟨H.length + 2, 0, none⟩) := by rw [ht]; simp only [go_sem]
   have t8 : t.get 8 = .pointer (some ⟨H.length + 3, 0, none⟩) := by rw [ht]; simp only [go_sem]
   rw [← ht]
   have hlen5 : (H ++ [.cells [.pointer (some ⟨xs, 0, none⟩)] 90 false 0 [], .cells (iV 6 s) 87 true 0 [], .cells [.int .i64 (s goal)] 3 true 0 [], .cells [.int .i64 bd] 3 true 0 [], .cells [.pointer (some ⟨gr, 0, none⟩)] 85 false 0 [], .cells (iV 6 s) 87 true 0 []] : SHeap).length = H.length + 6 := by simp
   have J0 : JT H.length mb xs gr n E goal s bd H (Bst n E goal s []) (.loop 0 55 t [37, 38] rfA55_0 rfB55_0 none (H.length + 6)) (H ++ [.cells [.pointer (some ⟨xs, 0, none⟩)] 90 false 0 [], .cells (iV 6 s) 87 true 0 [], .cells [.int .i64 (s goal)] 3 true 0 [], .cells [.int .i64 bd] 3 true 0 [], .cells [.pointer (some ⟨gr, 0, none⟩)] 85 false 0 [], .cells (iV 6 s) 87 true 0 []] ++ [.deferred, .loop 0 55 t [37, 38] rfA55_0 rfB55_0 none (H.length + 6)]) := by
    rw [List.append_assoc]
    exact ⟨by simp, fun j hj _ => List.getElem?_append_left hj, ⟨S, by rw [List.getElem?_append_left (by omega)]; exact m1, m2⟩, by rw [app_get0]; rfl, by rw [app_get]; rfl, ⟨_, by rw [app_get]; rfl, ⟨s, .refl s, rfl⟩, Int.le_refl _, fun p hp => by cases hp⟩, by rw [app_get]; rfl, ⟨by rw [app_get]; rfl, by rw [app_get]; rfl, X.gr.app _⟩, by rw [app_get]; rfl, by rw [app_get]; rfl⟩
   obtain ⟨hF, dF, eF, k⟩ := iter77 (J := fun l h d => d = [] ∧ JT H.length mb xs gr n E goal s bd H (Bst n E goal s l) (.loop 0 55 t [37, 38] rfA55_0 rfB55_0 none (H.length + 6)) h)
    (X := fun _ h d => d = [] ∧ JT H.length mb xs gr n E goal s bd H (fun m => m = bd ∧ ∃ w, Rg n E goal s w ∧ w goal = m) (.loop 2 55 t [37, 38] rfA55_0 rfB55_0 (some (.exit 0)) (H.length + 6)) h) (B := H.length + 8) (L := H.length + 7) (c1 := H.length + 4) (c2 := H.length + 5) (g := gr) (H := H ++ [.cells [.pointer (some ⟨xs, 0, none⟩)] 90 false 0 [], .cells (iV 6 s) 87 true 0 [], .cells [.int .i64 (s goal)] 3 true 0 [], .cells [.int .i64 bd] 3 true 0 [], .cells [.pointer (some ⟨gr, 0, none⟩)] 85 false 0 [], .cells (iV 6 s) 87 true 0 []] ++ [.deferred, .loop 0 55 t [37, 38] rfA55_0 rfB55_0 none (H.length + 6)]) (by simp) hE hn (fun v _ => by have := hs v; omega) (fun l h d J => J.2.cap) (fun l h d x J => ⟨J.1, J.2.app hm hg x⟩)
    (fun a b h d ha hb hcm J => by
     obtain ⟨u1, u2, u3, u4⟩ := canM_iff.1 hcm
     obtain ⟨r, h2, e, q1, q2⟩ := most_round hn hE hgn hm hg hgm hx hxm S0 X rfl hf t2 t7 t8 ha hb hcm (fun hag G g1 g2 g3 g4 g5 g6 => ih (aft s a b) G (by rw [aft_tot (by omega) (by omega)]; omega) ((S0.aft hE hn u1 u2 u3 u4).mono (by omega)) g1 g2 g3 g4 g5 g6) ⟨xc, hxc⟩ J.2
     refine ⟨r, h2, [], e, fun hr => ⟨J.1, ?_⟩, fun hr => ⟨J.1, q2 hr⟩⟩
     rw [MVrow_if, if_pos hcm]
     exact q1 hr) ⟨rfl, J0⟩
   rw [hlen5]
   rcases k with ⟨rfl, k⟩ | ⟨_, _, _, _, rfl, k⟩
   ·have JF : JT H.length mb xs gr n E goal s bd H (Bst n E goal s (MVb n E s n)) (.loop 0 55 t [37, 38] rfA55_0 rfB55_0 none (H.length + 6)) (finD (H.length + 8) hF []) := k.take hm hg
    refine ⟨_, _, _, eF, _, _, _, _, _, _, _, _, JF.lp, rfl, .inl ⟨rfl, ?_⟩⟩
    rw [setLoop_eq JF.lp, dirts_own (fun x hx => by cases hx)]
    have JG := JF.setLp hm hg hgm (.loop 3 55 t [37, 38] rfA55_0 rfB55_0 none (H.length + 6))
    generalize (finD (H.length + 8) hF []).set (H.length + 7) (.loop 3 55 t [37, 38] rfA55_0 rfB55_0 none (H.length + 6)) = G at *
    have jl := JG.len
    obtain ⟨m, b1, b2⟩ := JG.best
    have hmx : mx n E goal s = m := b2.all hE hn S0
    obtain ⟨S2, k4, k5⟩ := JG.mem
    obtain ⟨S3, u1, u2⟩ := upd6 hz (.int .i64 m) S2 (k5.z hn)
    have lx : loadS G none (.pointer (some ⟨H.length, 0, none⟩)) = some (.pointer (some ⟨xs, 0, none⟩)) := by
     have := load_cell (o := 0) JG.bx rfl rfl []; rw [List.append_nil] at this; exact this
    have lmG : loadS G none (.pointer (some ⟨xs, 2, none⟩)) = some (.map (some mb)) := by
     have := lm []; rw [List.append_nil] at this; rw [load_same' (JG.low xs hx hxm)]; exact this
    have l6G : loadS G (some 6) (.pointer (some ⟨H.length + 1, 0, none⟩)) = some (stV s) := by
     have := load_all (n := 6) JG.bs rfl (iV_len _ _) []; rw [List.append_nil] at this; exact this
    have lb : loadS G none (.pointer (some ⟨H.length + 2, 0, none⟩)) = some (.int .i64 m) := by
     have := load_cell (o := 0) b1 rfl rfl []; rw [List.append_nil] at this; exact this
    have up := fun (cx : Cx) => updV_ok cx (q := q6) (r := mb) (k := stV s) (v := .int .i64 m) (es := ents S2) (es' := ents S3) (h := G) [] (key6 s) k4 (sc6 s _ rfl) u1
    have up' : ∀ cx : Cx, updV cx (.agg [.int, .int, .int, .int, .int, .int]) (some (.map (some mb))) (some (stV s)) (some (.int .i64 m)) G [] = some (udf, G.set mb (.map true (ents S3)), []) := up
    have lb2 : loadS (G.set mb (.map true (ents S3))) none (.pointer (some ⟨H.length + 2, 0, none⟩)) = some (.int .i64 m) := by
     rw [load_same' (h := G) (List.getElem?_set_ne (by omega))]; exact lb
    have sh : shut (G.set mb (.map true (ents S3))) [H.length + 6] = some ((G.set mb (.map true (ents S3))).set (H.length + 6) .gone) := by
     simp only [shut]
     rw [List.getElem?_set_ne (by omega), JG.df]
    repeat (first | apply Z1 | apply Z2 | apply Z3 | apply Z4 | apply Z5 rfl | apply Z6 | apply Z7 | apply Z8 | apply Z9 | apply ZA | apply ZB | apply ZC | ((first | apply ZD (by decide) | apply ZN (by decide)); (simp (maxSteps := 9999999) only [go_sem, t2, t3, t7, lx, lmG, ↓l6G, lb, up', lb2]; rfl)) | (refine ZE ?_ ?_; · simp only [go_sem]) | (refine ZF ?_ ?_; · simp only [go_sem]))
    refine end_nil ⟨_, ⟨_, rfl, take_but rfl (by simp; omega) (fun j hj hne => ?_), S3, ?_, fun e he => ?_⟩, q_any [.int .i64 (mx n E goal s)] sh (by simp only [go_sem, hmx]) rfl rfl rfl (fun _ => rfl) rfl rfl⟩
    ·rw [List.getElem?_set_ne (by omega), List.getElem?_set_ne (by omega)]; exact JG.low j hj hne
    ·rw [List.getElem?_take, if_pos hm, List.getElem?_set_ne (by omega), List.getElem?_set_self (by omega)]
    ·rcases u2 e he with h | rfl
     ·exact k5 e h
     ·exact ⟨⟨_, S0⟩, by dsimp only; rw [hmx]⟩
   ·have JF : JT H.length mb xs gr n E goal s bd H (fun m => m = bd ∧ ∃ w, Rg n E goal s w ∧ w goal = m) (.loop 2 55 t [37, 38] rfA55_0 rfB55_0 (some (.exit 0)) (H.length + 6)) (finD (H.length + 8) hF []) := k.take hm hg
    refine ⟨_, _, _, eF, _, _, _, _, _, _, _, _, JF.lp, rfl, .inr (.inr ⟨0, rfl, ?_⟩)⟩
    rw [setLoop_eq JF.lp, dirts_own (fun x hx => by cases hx)]
    have JG := JF.setLp hm hg hgm (.loop 3 55 t [37, 38] rfA55_0 rfB55_0 (some (.exit 0)) (H.length + 6))
    generalize (finD (H.length + 8) hF []).set (H.length + 7) (.loop 3 55 t [37, 38] rfA55_0 rfB55_0 (some (.exit 0)) (H.length + 6)) = G at *
    have jl := JG.len
    obtain ⟨m, b1, b2⟩ := JG.best
    have hmx : mx n E goal s = m := bound_eq hE hn hc hgn S0 (by rw [hbd]; exact b2)
    obtain ⟨S2, k4, k5⟩ := JG.mem
    obtain ⟨S3, u1, u2⟩ := upd6 hz (.int .i64 m) S2 (k5.z hn)
    have lx : loadS G none (.pointer (some ⟨H.length, 0, none⟩)) = some (.pointer (some ⟨xs, 0, none⟩)) := by
     have := load_cell (o := 0) JG.bx rfl rfl []; rw [List.append_nil] at this; exact this
    have lmG : loadS G none (.pointer (some ⟨xs, 2, none⟩)) = some (.map (some mb)) := by
     have := lm []; rw [List.append_nil] at this; rw [load_same' (JG.low xs hx hxm)]; exact this
    have l6G : loadS G (some 6) (.pointer (some ⟨H.length + 1, 0, none⟩)) = some (stV s) := by
     have := load_all (n := 6) JG.bs rfl (iV_len _ _) []; rw [List.append_nil] at this; exact this
    have lb : loadS G none (.pointer (some ⟨H.length + 2, 0, none⟩)) = some (.int .i64 m) := by
     have := load_cell (o := 0) b1 rfl rfl []; rw [List.append_nil] at this; exact this
    have up := fun (cx : Cx) => updV_ok cx (q := q6) (r := mb) (k := stV s) (v := .int .i64 m) (es := ents S2) (es' := ents S3) (h := G) [] (key6 s) k4 (sc6 s _ rfl) u1
    have up' : ∀ cx : Cx, updV cx (.agg [.int, .int, .int, .int, .int, .int]) (some (.map (some mb))) (some (stV s)) (some (.int .i64 m)) G [] = some (udf, G.set mb (.map true (ents S3)), []) := up
    have lb2 : loadS (G.set mb (.map true (ents S3))) none (.pointer (some ⟨H.length + 2, 0, none⟩)) = some (.int .i64 m) := by
     rw [load_same' (h := G) (List.getElem?_set_ne (by omega))]; exact lb
    have sh : shut (G.set mb (.map true (ents S3))) [H.length + 6] = some ((G.set mb (.map true (ents S3))).set (H.length + 6) .gone) := by
     simp only [shut]
     rw [List.getElem?_set_ne (by omega), JG.df]
    repeat (first | apply Z1 | apply Z2 | apply Z3 | apply Z4 | apply Z5 rfl | apply Z6 | apply Z7 | apply Z8 | apply Z9 | apply ZA | apply ZB | apply ZC | ((first | apply ZD (by decide) | apply ZN (by decide)); (simp (maxSteps := 9999999) only [go_sem, t2, t3, t7, lx, lmG, ↓l6G, lb, up', lb2]; rfl)) | (refine ZE ?_ ?_; · simp only [go_sem]) | (refine ZF ?_ ?_; · simp only [go_sem]))
    refine end_nil ⟨_, ⟨_, rfl, take_but rfl (by simp; omega) (fun j hj hne => ?_), S3, ?_, fun e he => ?_⟩, q_any [.int .i64 (mx n E goal s)] sh (by simp only [go_sem, hmx]) rfl rfl rfl (fun _ => rfl) rfl rfl⟩
    ·rw [List.getElem?_set_ne (by omega), List.getElem?_set_ne (by omega)]; exact JG.low j hj hne
    ·rw [List.getElem?_take, if_pos hm, List.getElem?_set_ne (by omega), List.getElem?_set_self (by omega)]
    ·rcases u2 e he with h | rfl
     ·exact k5 e h
     ·exact ⟨⟨_, S0⟩, by dsimp only; rw [hmx]⟩
  ·have hv := (m2 _ f2).2
   dsimp only at hv
   subst hv
   have lk : ∀ x d, lookV (.agg [.int, .int, .int, .int, .int, .int]) (.int .i64 0) true (some (.map (some mb))) (some (stV s)) (H ++ x) d = some (.tuple #[.int .i64 (mx n E goal s), .bool true], H ++ x, d) := fun x d => lookV_ok (q := q6) d (key6 s) (by rw [List.getElem?_append_left (by omega)]; exact m1) f1
   repeat (first | apply Z1 | apply Z2 | apply Z3 | apply Z4 | apply Z5 rfl | apply Z6 | apply Z7 | apply Z8 | apply Z9 | apply ZA | apply ZB | apply ZC | ((first | apply ZD (by decide) | apply ZN (by decide)); (simp (maxSteps := 9999999) only [go_sem, argR, ↓cs, isc, lm, ↓l6, lk]; rfl)) | (refine ZE ?_ ?_; · simp only [go_sem]) | (refine ZF ?_ ?_; · simp only [go_sem]))
   refine end_nil ⟨_, ⟨H, rfl, ⟨rfl, fun j _ => rfl⟩, S, m1, m2⟩, q_free [.int .i64 (mx n E goal s)] (by simp only [go_sem]) rfl rfl rfl (fun _ => rfl) (by simp) rfl⟩
end
end
end Go.Proofs.YtpkhkghiidilcaaDoor.Sh
namespace Go.Proofs.YtpkhkghiidilcaaDoor.Sh
section
open Go
set_option maxRecDepth 100000
set_option maxHeartbeats 4000000
abbrev sB (gr goal mb : Nat) : SO := .cells [.pointer (some ⟨gr, 0, none⟩), .int .i64 goal, .map (some mb)] 117 false 0 []
abbrev mB (S : List ((Nat → Int) × Value)) : SO := .map true (ents S)
section
variable {n : Nat} {E : List (Int × Int)} {goal : Nat}
theorem new54 {h : SHeap} {gr : Nat} (hg : gr < h.length) : M.call 54 [.pointer (some ⟨gr, 0, none⟩), .int .i64 goal] h = some (.pointer (some ⟨h.length, 0, none⟩), h ++ [sB gr goal (h.length + 1), mB []], []) := by
 refine call_run sf54 rfl rfl rfl ?_
 unfold sf54
 repeat (first | apply Z1 | apply Z2 | apply Z3 | apply Z4 | apply Z5 rfl | apply Z6 | apply Z7 | apply Z8 | apply Z9 | apply ZA | apply ZB | apply ZC | ((first | apply ZD (by decide) | apply ZN (by decide)); (simp (maxSteps := 9999999) only [go_sem, argR, cells_map, one_map]; rfl)) | (refine ZE ?_ ?_; · simp only [go_sem]) | (refine ZF ?_ ?_; · simp only [go_sem]))
 refine end_nil (q_gc [.pointer (some ⟨h.length + 1, 0, none⟩)] (by simp only [go_sem]) rfl ?_ rfl)
 have h0 : (h ++ [.map true [], .cells [.pointer (some ⟨gr, 0, none⟩), .int .i64 goal, .map (some h.length)] 117 false 0 []] : SHeap)[h.length]? = some (.map true []) := by rw [app_get0]; rfl
 have h1 : (h ++ [.map true [], .cells [.pointer (some ⟨gr, 0, none⟩), .int .i64 goal, .map (some h.length)] 117 false 0 []] : SHeap)[h.length + 1]? = some (.cells [.pointer (some ⟨gr, 0, none⟩), .int .i64 goal, .map (some h.length)] 117 false 0 []) := by rw [app_get]; rfl
 have ht : (h ++ [.map true [], .cells [.pointer (some ⟨gr, 0, none⟩), .int .i64 goal, .map (some h.length)] 117 false 0 []] : SHeap).take h.length = h := by simp
 generalize (h ++ [.map true [], .cells [.pointer (some ⟨gr, 0, none⟩), .int .i64 goal, .map (some h.length)] 117 false 0 []] : SHeap) = hh at *
 have e1 : reach h.length hh 1000000 [h.length + 1] [] = [h.length + 1, h.length] := by
  rw [show (1000000 : Nat) = 999996 + 1 + 1 + 1 + 1 from rfl, reach_new (by omega) (by simp), h1]
  show reach h.length hh (999996 + 1 + 1 + 1) (gr :: [h.length]) [h.length + 1] = _
  rw [reach_old hg, reach_new (by omega) (by simp), h0]
  show reach h.length hh (999996 + 1) [] _ = _
  rw [reach]; rfl
 have p0 : posOf (h.length + 1) [h.length + 1, h.length] = some 0 := by simp [posOf]
 have p1 : posOf h.length [h.length + 1, h.length] = some 1 := by simp [posOf]
 have r0 := ren_at (base := h.length) (b := h.length + 1) (K := [h.length + 1, h.length]) (by omega) p0
 have r1 := ren_at (base := h.length) (b := h.length) (K := [h.length + 1, h.length]) (by omega) p1
 have r2 := ren_old (base := h.length) (b := gr) (K := [h.length + 1, h.length]) hg
 have e3 : ptrs 3 (.pointer (some ⟨h.length + 1, 0, none⟩)) = [h.length + 1] := rfl
 have e0 : ((0 : Nat) == 2) = false := rfl
 unfold gcS
 simp only [oneV, e3, e1, renV, r0, r1, r2, mapO, renO, h0, h1, ht, e0, Bool.false_eq_true, if_false, if_true, Nat.add_zero, List.filterMap_nil]
 rfl
theorem Srch.mk' {h : SHeap} {xs gr mb : Nat} {c : TypeId} (hx : h[xs]? = some (.cells [.pointer (some ⟨gr, 0, none⟩), .int .i64 goal, .map (some mb)] c false 0 [])) (hg : GAt h gr n E) : Srch h xs gr n E goal := by
 have k0 := load_cell (o := 0) hx rfl rfl []
 have k1 := load_cell (o := 1) hx rfl rfl []
 rw [List.append_nil] at k0 k1
 exact ⟨k0, k1, hg⟩
theorem KnM.nil : KnM n E goal [] := fun e he => by cases he
theorem But.app {mb : Nat} {H h x : SHeap} (hb : But mb (H ++ x) h) (hm : H.length ≤ mb) : h.take H.length = H := by
 have e := hb.1
 rw [List.length_append] at e
 refine take_of_same (by omega) (fun j hj => ?_)
 rw [hb.2 j (by omega), List.getElem?_append_left hj]
end
end
end Go.Proofs.YtpkhkghiidilcaaDoor.Sh
namespace Go.Proofs.YtpkhkghiidilcaaDoor.Sh
section
open Go
set_option maxRecDepth 100000
set_option maxHeartbeats 4000000
def rfA28L0_0 : SCode := (.seq (.region 0 [ ⟨(some 16), none, .alloc 106 true [(.int .i64 0), (.int .i64 0)], none, 0, false, []⟩, ⟨none, none, .store 2 (.tmp 16) (.tmp 45), none, 1, false, []⟩]) (.region 0 [ ⟨(some 17), none, .alloc 87 true [(.int .i64 0), (.int .i64 0), (.int .i64 0), (.int .i64 0), (.int .i64 0), (.int .i64 0)], none, 0, false, []⟩, ⟨none, none, .store 6 (.tmp 17) (.tmp 46), none, 1, false, []⟩]))
def rfB28L0_0 : SCode := (.block 3 (.seq (.region 0 [ ⟨(some 47), none, .load none (.tmp 14), none, 0, false, []⟩, ⟨(some 48), none, .load (some 6) (.tmp 17), none, 1, false, []⟩, ⟨(some 49), none, .call (.tmp 47) [(.tmp 48)], none, 2, false, []⟩, ⟨(some 50), none, .bin .gtr (.tmp 49) (.const (.int .i64 0)), none, 3, false, []⟩]) (.cond (.tmp 50) (.seq (.region 0 [ ⟨(some 51), none, .load none (.tmp 15), none, 0, false, []⟩, ⟨(some 52), none, .fieldAddr 0 (.tmp 16), none, 1, false, []⟩, ⟨(some 53), none, .load none (.tmp 52), none, 2, false, []⟩, ⟨(some 54), none, .fieldAddr 1 (.tmp 16), none, 3, false, []⟩, ⟨(some 55), none, .load none (.tmp 54), none, 4, false, []⟩, ⟨(some 56), none, .build [(.int .i64 0), (.int .i64 0)] [(0, 1, (.tmp 53)), (1, 1, (.tmp 55))], none, 5, false, []⟩, ⟨(some 57), none, .buildSlice 45 true [(.int .i64 0), (.int .i64 0)] 1 [(0, 2, (.tmp 56))], none, 6, false, []⟩, ⟨(some 58), none, .append 45 true 2 16 (.tmp 51) (.tmp 57), none, 7, false, []⟩, ⟨none, none, .store 1 (.tmp 15) (.tmp 58), none, 8, false, []⟩]) (.seq (.region 0 [ ⟨(some 59), none, .load (some 6) (.tmp 17), none, 0, false, []⟩, ⟨none, none, .store 6 (.tmp 12) (.tmp 59), none, 1, false, []⟩]) (.exit 1))) (.skip))))
abbrev fB (xs : Nat) : SO := .cells [.func (.func 55) #[.pointer (some ⟨xs, 0, none⟩)] #[]] 92 false 0 []
structure PL (N n : Nat) (E : List (Int × Int)) (goal : Nat) (H : SHeap) (st : Nat → Int) (P : List (Nat × Nat)) (h : SHeap) : Prop where
 len : N + 6 ≤ h.length
 low : ∀ j, j < N → h[j]? = H[j]?
 gr : GAt h N n E
 bs : h[N + 1]? = some (.cells (iV 6 st) 87 true 0 [])
 sr : h[N + 2]? = some (sB N goal (N + 3))
 mem : ∃ S, h[N + 3]? = some (mB S) ∧ KnM n E goal S
 fn : h[N + 4]? = some (fB (N + 2))
 out : ∃ qv, h[N + 5]? = some (.cells [qv] 22 false 0 []) ∧ Acc (N + 6) h qv (prN P) P.length 2 45
structure JP (N n : Nat) (E : List (Int × Int)) (goal : Nat) (H : SHeap) (L0 : Nat) (ms : List Nat) (st0 st : Nat → Int) (P : List (Nat × Nat)) (lo : SO) (h : SHeap) : Prop where
 pl : PL N n E goal H st P h
 len : L0 + 4 ≤ h.length
 cap : Caps h L0 (L0 + 1) N n E st0
 df : h[L0 + 2]? = some .deferred
 dk : ∀ x ∈ ms, h[x]? = some .deferred
 lp : h[L0 + 3]? = some lo
section
variable {N n : Nat} {E : List (Int × Int)} {goal : Nat} {H : SHeap} {L0 : Nat} {ms : List Nat} {st0 st : Nat → Int} {P : List (Nat × Nat)} {lo : SO} {h h' : SHeap}
theorem PL.chg (J : PL N n E goal H st P h) (hl : h.length ≤ h'.length) (k : ∀ j, j < h.length → j ≠ N + 3 → h'[j]? = h[j]?) (mem : ∃ S, h'[N + 3]? = some (mB S) ∧ KnM n E goal S) : PL N n E goal H st P h' := by
 have jl := J.len
 obtain ⟨qv, o1, o2⟩ := J.out
 exact ⟨by omega, fun j hj => by rw [k j (by omega) (by omega)]; exact J.low j hj, by have := J.gr; unfold GAt at *; rw [k _ (by omega) (by omega)]; exact this, by rw [k _ (by omega) (by omega)]; exact J.bs, by rw [k _ (by omega) (by omega)]; exact J.sr, mem, by rw [k _ (by omega) (by omega)]; exact J.fn, qv, by rw [k _ (by omega) (by omega)]; exact o1,
  o2.keep (fun b e => k b (o2.lt e).2 (by have := (o2.lt e).1; omega))⟩
theorem PL.app (J : PL N n E goal H st P h) (x : SHeap) : PL N n E goal H st P (h ++ x) := by
 have jl := J.len
 obtain ⟨S, m1, m2⟩ := J.mem
 exact J.chg (by simp) (fun j hj _ => List.getElem?_append_left hj) ⟨S, by rw [List.getElem?_append_left (by omega)]; exact m1, m2⟩
theorem PL.setO (J : PL N n E goal H st P h) {j : Nat} (hj : N + 6 ≤ j) (hc : ∀ cs el pf own old, h[j]? ≠ some (.cells cs el pf own old)) (o : SO) : PL N n E goal H st P (h.set j o) := by
 have jl := J.len
 obtain ⟨S, m1, m2⟩ := J.mem
 obtain ⟨qv, o1, o2⟩ := J.out
 have k : ∀ i, i ≠ j → (h.set j o)[i]? = h[i]? := fun i hi => List.getElem?_set_ne (by omega)
 exact ⟨by simp; omega, fun i hi => by rw [k i (by omega)]; exact J.low i hi, by have := J.gr; unfold GAt at *; rw [k _ (by omega)]; exact this, by rw [k _ (by omega)]; exact J.bs, by rw [k _ (by omega)]; exact J.sr, ⟨S, by rw [k _ (by omega)]; exact m1, m2⟩, by rw [k _ (by omega)]; exact J.fn, qv, by rw [k _ (by omega)]; exact o1,
  o2.keep (fun b e => k b (fun e2 => by
   subst e2
   rcases o2 with ⟨_, e3, _⟩ | ⟨b', old, e3, h1, _⟩
   ·rw [e3] at e; simp at e
   ·rw [e3] at e
    simp at e
    rw [e] at h1
    exact hc _ _ _ _ _ h1))⟩
theorem JP.app (J : JP N n E goal H L0 ms st0 st P lo h) (x : SHeap) : JP N n E goal H L0 ms st0 st P lo (h ++ x) := by
 have jl := J.len
 have k : ∀ j, j < h.length → (h ++ x)[j]? = h[j]? := fun j hj => List.getElem?_append_left hj
 have lt := J.cap.lt
 exact ⟨J.pl.app x, by simp; omega, J.cap.same (fun j hj => k j (by omega)), by rw [k _ (by omega)]; exact J.df, fun y hy => by rw [k y (List.getElem?_eq_some_iff.1 (J.dk y hy)).1]; exact J.dk y hy, by rw [k _ (by omega)]; exact J.lp⟩
theorem JP.setLp {a1 : Nat} {a2 : FuncId} {a3 : T} {a4 : List Nat} {a5 a6 : SCode} {a7 : Option SCode} {a8 : Nat} (J : JP N n E goal H L0 ms st0 st P (.loop a1 a2 a3 a4 a5 a6 a7 a8) h) (hL : N + 6 ≤ L0) (o : SO) : JP N n E goal H L0 ms st0 st P o (h.set (L0 + 3) o) := by
 have jl := J.len
 have k : ∀ i, i ≠ L0 + 3 → (h.set (L0 + 3) o)[i]? = h[i]? := fun i hi => List.getElem?_set_ne (by omega)
 have lp := J.lp
 exact ⟨J.pl.setO (by omega) (fun cs el pf own old e => by rw [lp] at e; cases e) o, by simp; omega, J.cap.same (fun j hj => k j (by omega)), by rw [k _ (by omega)]; exact J.df, fun y hy => by
  rw [k y (fun e => by have := J.dk y hy; rw [e, lp] at this; cases this)]; exact J.dk y hy, by rw [List.getElem?_set_self (by omega)]⟩
theorem JP.fin (J : JP N n E goal H L0 ms st st P lo h) (hL : N + 6 ≤ L0) (hms : ∀ x ∈ ms, x < L0) (hq : ∀ qv, h[N + 5]? = some (.cells [qv] 22 false 0 []) → ∀ b, qv = .slice (some ⟨b, 0, none⟩) P.length (UNK + 2) → b < L0 + 4) : JP N n E goal H L0 ms st st P lo (h.take (L0 + 4)) := by
 have jl := J.len
 have k : ∀ j, j < L0 + 4 → (h.take (L0 + 4))[j]? = h[j]? := fun j hj => by rw [List.getElem?_take, if_pos hj]
 obtain ⟨S, m1, m2⟩ := J.pl.mem
 obtain ⟨qv, o1, o2⟩ := J.pl.out
 have lt := J.cap.lt
 refine ⟨⟨by rw [List.length_take]; omega, fun i hi => by rw [k i (by omega)]; exact J.pl.low i hi, by have := J.pl.gr; unfold GAt at *; rw [k _ (by omega)]; exact this, by rw [k _ (by omega)]; exact J.pl.bs, by rw [k _ (by omega)]; exact J.pl.sr, ⟨S, by rw [k _ (by omega)]; exact m1, m2⟩, by rw [k _ (by omega)]; exact J.pl.fn, qv, by rw [k _ (by omega)]; exact o1,
  o2.keep (fun b e => k b (hq qv o1 b e))⟩, by rw [List.length_take]; omega, J.cap.same (fun j hj => k j (by omega)), by rw [k _ (by omega)]; exact J.df, fun y hy => by rw [k y (by have := hms y hy; omega)]; exact J.dk y hy, by rw [k _ (by omega)]; exact J.lp⟩
theorem plan_round {t : T} (hn : n ≤ 6) (hE : EOK n E) (hcn : Conn n E) (hgn : goal < n) (hL : N + 6 ≤ L0) {B : Int} (hB : B ≤ 500) (S0 : ST n st B) (hPl : P.length ≤ 1000)
  (hf : Full 6 t) (t12 : t.get 12 = .pointer (some ⟨N + 1, 0, none⟩)) (t14 : t.get 14 = .pointer (some ⟨N + 4, 0, none⟩)) (t15 : t.get 15 = .pointer (some ⟨N + 5, 0, none⟩))
  {hh : SHeap} {a b : Nat} (ha : a < n) (hb : b < n) (hc : canM n E st a b)
  (J : JP N n E goal H L0 ms st st P (.loop 0 28 t [45, 46] rfA28L0_0 rfB28L0_0 none (L0 + 2)) hh) :
  ∃ r h2 d2, M.round (L0 + 4) (L0 + 3) [.agg #[.int .i64 a, .int .i64 b], stV (aft st a b)] hh = some (.bool r, h2, d2) ∧
   (r = true → mx n E goal (aft st a b) ≤ 0 ∧ d2 = [] ∧ JP N n E goal H L0 ms st st P (.loop 0 28 t [45, 46] rfA28L0_0 rfB28L0_0 none (L0 + 2)) h2 ∧ h2[N + 5]? = hh[N + 5]?) ∧
   (r = false → 0 < mx n E goal (aft st a b) ∧ d2 = [N + 5] ∧ PL N n E goal H (aft st a b) (P ++ [(a, b)]) h2 ∧ L0 + 4 ≤ h2.length ∧ h2[L0 + 2]? = some .deferred ∧ (∀ x ∈ ms, h2[x]? = some .deferred) ∧ h2[L0 + 3]? = some (.loop 2 28 t [45, 46] rfA28L0_0 rfB28L0_0 (some (.exit 1)) (L0 + 2))) := by
 have jl := J.len
 obtain ⟨r, ⟨r1, h2, d2, rfl, hP⟩, e⟩ := round_rule (FT := FT) (C := flatK CA) (base := L0 + 4) (args := [.agg #[.int .i64 a, .int .i64 b], stV (aft st a b)]) (fun r => ∃ r1 h2 d2, r = (.bool r1, h2, d2) ∧ (r1 = true → mx n E goal (aft st a b) ≤ 0 ∧ d2 = [] ∧ JP N n E goal H L0 ms st st P (.loop 0 28 t [45, 46] rfA28L0_0 rfB28L0_0 none (L0 + 2)) h2 ∧ h2[N + 5]? = hh[N + 5]?) ∧
   (r1 = false → 0 < mx n E goal (aft st a b) ∧ d2 = [N + 5] ∧ PL N n E goal H (aft st a b) (P ++ [(a, b)]) h2 ∧ L0 + 4 ≤ h2.length ∧ h2[L0 + 2]? = some .deferred ∧ (∀ x ∈ ms, h2[x]? = some .deferred) ∧ h2[L0 + 3]? = some (.loop 2 28 t [45, 46] rfA28L0_0 rfB28L0_0 (some (.exit 1)) (L0 + 2)))) J.lp hf rfl (by decide) rfl (by
  unfold rfA28L0_0
  have Sw : ST n (aft st a b) 1000 := by
   obtain ⟨u1, u2, u3, u4⟩ := canM_iff.1 hc
   exact (S0.aft hE hn u1 u2 u3 u4).mono (by omega)
  generalize hw : aft st a b = w at *
  have ws := wst w
  repeat (first | apply Z1 | apply Z2 | apply Z3 | apply Z4 | apply Z5 rfl | apply Z6 | apply Z7 | apply Z8 | apply Z9 | apply ZA | apply ZB | apply ZC | ((first | apply ZD (by decide) | apply ZN (by decide)); (simp (maxSteps := 9999999) only [go_sem, ws]; rfl)) | (refine ZE ?_ ?_; · simp only [go_sem]) | (refine ZF ?_ ?_; · simp only [go_sem]))
  have J1 := J.app [.cells [.int .i64 a, .int .i64 b] 106 true 0 [], .cells (iV 6 w) 87 true 0 []]
  refine end_nil ⟨rfl, ⟨28, t, [45, 46], _, _, L0 + 2, J1.lp⟩, ?_⟩
  rw [setLoop_eq J1.lp]
  have J2 := J1.setLp hL (.loop 1 28 t [45, 46] rfA28L0_0 rfB28L0_0 none (L0 + 2))
  have g5 : ((hh ++ [.cells [.int .i64 a, .int .i64 b] 106 true 0 [], .cells (iV 6 w) 87 true 0 []] : SHeap).set (L0 + 3) (.loop 1 28 t [45, 46] rfA28L0_0 rfB28L0_0 none (L0 + 2)))[N + 5]? = hh[N + 5]? := by
   rw [List.getElem?_set_ne (by omega), List.getElem?_append_left (by omega)]
  have g8 : ((hh ++ [.cells [.int .i64 a, .int .i64 b] 106 true 0 [], .cells (iV 6 w) 87 true 0 []] : SHeap).set (L0 + 3) (.loop 1 28 t [45, 46] rfA28L0_0 rfB28L0_0 none (L0 + 2)))[hh.length]? = some (.cells [.int .i64 a, .int .i64 b] 106 true 0 []) := by
   rw [List.getElem?_set_ne (by omega), app_get0]; rfl
  have g9 : ((hh ++ [.cells [.int .i64 a, .int .i64 b] 106 true 0 [], .cells (iV 6 w) 87 true 0 []] : SHeap).set (L0 + 3) (.loop 1 28 t [45, 46] rfA28L0_0 rfB28L0_0 none (L0 + 2)))[hh.length + 1]? = some (.cells (iV 6 w) 87 true 0 []) := by
   rw [List.getElem?_set_ne (by omega), app_get]; rfl
  have gl : ((hh ++ [.cells [.int .i64 a, .int .i64 b] 106 true 0 [], .cells (iV 6 w) 87 true 0 []] : SHeap).set (L0 + 3) (.loop 1 28 t [45, 46] rfA28L0_0 rfB28L0_0 none (L0 + 2))).length = hh.length + 2 := by simp
  generalize (hh ++ [.cells [.int .i64 a, .int .i64 b] 106 true 0 [], .cells (iV 6 w) 87 true 0 []] : SHeap).set (L0 + 3) (.loop 1 28 t [45, 46] rfA28L0_0 rfB28L0_0 none (L0 + 2)) = G at *
  have jl2 := J2.len
  have lf : loadS G none (.pointer (some ⟨N + 4, 0, none⟩)) = some (.func (.func 55) #[.pointer (some ⟨N + 2, 0, none⟩)] #[]) := by
   have := load_cell (o := 0) J2.pl.fn rfl rfl []; rw [List.append_nil] at this; exact this
  have lw : loadS G (some 6) (.pointer (some ⟨hh.length + 1, 0, none⟩)) = some (stV w) := by
   have := load_all (n := 6) g9 rfl (iV_len _ _) []; rw [List.append_nil] at this; exact this
  obtain ⟨H', k1, ⟨k2, k3⟩, S, k4, k5⟩ := most55 (xs := N + 2) (gr := N) (mb := N + 3) hn hE hcn hgn (by omega) (by omega) (tot w + 1).toNat w G (by have := Sw.le; omega) Sw (by omega) (by omega) (by omega) (Srch.mk' J2.pl.sr J2.pl.gr) J2.pl.mem ⟨_, J2.pl.sr⟩
  have P3 : PL N n E goal H st P H' := J2.pl.chg (by omega) (fun j hj hne => k3 j hne) ⟨S, k4, k5⟩
  unfold rfB28L0_0
  by_cases c1 : mx n E goal w > 0
  ·obtain ⟨qv, o1, o2⟩ := P3.out
   have lq : loadS H' none (.pointer (some ⟨N + 5, 0, none⟩)) = some qv := by
    have := load_cell (o := 0) o1 rfl rfl []; rw [List.append_nil] at this; exact this
   have la : loadS H' none (.pointer (some ⟨hh.length, 0, none⟩)) = some (.int .i64 a) := by
    have := load_cell (h := H') (b := hh.length) (o := 0) (by rw [k3 _ (by omega)]; exact g8) rfl rfl []; rw [List.append_nil] at this; exact this
   have lb : loadS H' none (.pointer (some ⟨hh.length, 1, none⟩)) = some (.int .i64 b) := by
    have := load_cell (h := H') (b := hh.length) (o := 1) (by rw [k3 _ (by omega)]; exact g8) rfl rfl []; rw [List.append_nil] at this; exact this
   have P4 : PL N n E goal H st P (H' ++ [.cells [.int .i64 a, .int .i64 b] 45 true 0 []]) := P3.app _
   have oG2 : Acc (N + 6) (H' ++ [.cells [.int .i64 a, .int .i64 b] 45 true 0 []]) qv (prN P) P.length 2 45 := o2.keep (fun b e => List.getElem?_append_left (o2.lt e).2)
   obtain ⟨old, ap, acc2, kp⟩ := acc_append (bytes := 16) (new := [.int .i64 a, .int .i64 b]) (bs := H'.length) (el2 := 45) (pf2 := true) (own2 := 0) (old2 := []) oG2 (by rw [app_get0]; rfl) rfl rfl (by decide) rfl (by decide) (by omega) (by simp; omega)
   have hlG : (H' ++ [SO.cells [.int .i64 a, .int .i64 b] 45 true 0 []]).length = H'.length + 1 := by simp
   rw [hlG] at ap acc2 kp
   have key : ∀ j, j < H'.length → (∀ b, qv = .slice (some ⟨b, 0, none⟩) P.length (UNK + 2) → j ≠ b) → (shv (H' ++ [.cells [.int .i64 a, .int .i64 b] 45 true 0 []]) qv ++ [SO.cells (prN P ++ [.int .i64 a, .int .i64 b]) 45 true 0 old])[j]? = H'[j]? := fun j hj hne => by
    rw [kp j (by omega) hne, List.getElem?_append_left hj]
   have hlen2 : (shv (H' ++ [.cells [.int .i64 a, .int .i64 b] 45 true 0 []]) qv ++ [SO.cells (prN P ++ [.int .i64 a, .int .i64 b]) 45 true 0 old]).length = H'.length + 2 := by simp [shv_len]
   generalize (shv (H' ++ [.cells [.int .i64 a, .int .i64 b] 45 true 0 []]) qv ++ [SO.cells (prN P ++ [.int .i64 a, .int .i64 b]) 45 true 0 old]) = G3 at *
   have kN : ∀ j, j < N + 6 → G3[j]? = H'[j]? := fun j hj => key j (by omega) (fun b e => by have := (o2.lt e).1; omega)
   have kX : ∀ j, j < H'.length → (∀ cs el pf own old, H'[j]? ≠ some (.cells cs el pf own old)) → G3[j]? = H'[j]? := fun j hj hc => key j hj (fun b e => by
    rintro rfl
    rcases o2 with ⟨_, e3, _⟩ | ⟨b', old', e3, h1, _⟩
    ·rw [e3] at e; simp at e
    ·rw [e3] at e
     simp at e
     rw [e] at h1
     exact hc _ _ _ _ _ h1)
   have s1 : storeS (L0 + 4) G3 [] (N + 5) 0 (cellsL (.slice (some ⟨H'.length + 1, 0, none⟩) (P.length + 1) (UNK + 2))) = some (G3.set (N + 5) (.cells [.slice (some ⟨H'.length + 1, 0, none⟩) (P.length + 1) (UNK + 2)] 22 false 0 []), [N + 5]) := by
    have := store_cell (h := G3) (base := L0 + 4) (b := N + 5) (o := 0) (c := .slice (some ⟨H'.length + 1, 0, none⟩) (P.length + 1) (UNK + 2)) (cs := [qv]) (el := 22) (pf := false) (by rw [kN _ (by omega)]; exact o1) (Nat.zero_lt_succ _) rfl (fun h => by cases h) []
    have e : Nat.ble (L0 + 4) (N + 5) = false := by rw [ble_dec]; exact decide_eq_false (by omega)
    show storeS (L0 + 4) G3 [] (N + 5) 0 [_] = _
    rw [this]
    unfold dirty
    rw [e]; rfl
   have lw2 : loadS (G3.set (N + 5) (.cells [.slice (some ⟨H'.length + 1, 0, none⟩) (P.length + 1) (UNK + 2)] 22 false 0 [])) (some 6) (.pointer (some ⟨hh.length + 1, 0, none⟩)) = some (stV w) := by
    have hne : ∀ b, qv = .slice (some ⟨b, 0, none⟩) P.length (UNK + 2) → hh.length + 1 ≠ b := fun b e => by
     rintro rfl
     rcases o2 with ⟨_, e3, _⟩ | ⟨b', old', e3, h1, _⟩
     ·rw [e3] at e; simp at e
     ·rw [e3] at e
      simp at e
      rw [e, k3 _ (by omega), g9] at h1
      injection h1 with h1
      injection h1 with _ h1
      exact absurd h1 (by decide)
    have := load_all (h := G3.set (N + 5) (.cells [.slice (some ⟨H'.length + 1, 0, none⟩) (P.length + 1) (UNK + 2)] 22 false 0 [])) (b := hh.length + 1) (n := 6) (cs := iV 6 w) (el := 87) (pf := true) (own := 0) (old := []) (by
     rw [List.getElem?_set_ne (by omega), key _ (by omega) hne, k3 _ (by omega)]; exact g9) rfl (iV_len _ _) []
    rw [List.append_nil] at this; exact this
   have s2 : storeS (L0 + 4) (G3.set (N + 5) (.cells [.slice (some ⟨H'.length + 1, 0, none⟩) (P.length + 1) (UNK + 2)] 22 false 0 [])) [N + 5] (N + 1) 0 (cellsL (stV w)) = some ((G3.set (N + 5) (.cells [.slice (some ⟨H'.length + 1, 0, none⟩) (P.length + 1) (UNK + 2)] 22 false 0 [])).set (N + 1) (.cells (iV 6 w) 87 true 0 []), [N + 5]) := by
    have := store_at (h := G3.set (N + 5) (.cells [.slice (some ⟨H'.length + 1, 0, none⟩) (P.length + 1) (UNK + 2)] 22 false 0 [])) (b := N + 1) (base := L0 + 4) (cs := iV 6 st) (vs := iV 6 w) (el := 87) (pf := true) (by rw [List.getElem?_set_ne (by omega), kN _ (by omega)]; exact P3.bs) (by rw [iV_len, iV_len]) (by rw [iV_len]; decide) (all_sc_one _ (iV_sc 6 w)) (fun _ => iV_sc 6 w) [N + 5]
    rw [cells_st, this]; rfl
   have cs := cells_st w
   have cl6 := iV_len 6 w
   repeat (first | apply Z1 | apply Z2 | apply Z3 | apply Z4 | apply Z5 rfl | apply Z6 | apply Z7 | apply Z8 | apply Z9 | apply ZA | apply ZB | apply ZC | ((first | apply ZD (by decide) | apply ZN (by decide)); (simp (maxSteps := 9999999) only [go_sem, t12, t14, t15, lf, lw, k1, c1, lq, la, lb, ap, ↓s1, ↓lw2, ↓s2, cs, cl6]; rfl)) | (refine ZE ?_ ?_; · simp only [go_sem]) | (refine ZF ?_ ?_; · simp only [go_sem]))
   have hL3 : ((G3.set (N + 5) (.cells [.slice (some ⟨H'.length + 1, 0, none⟩) (P.length + 1) (UNK + 2)] 22 false 0 [])).set (N + 1) (.cells (iV 6 w) 87 true 0 []))[L0 + 3]? = some (.loop 1 28 t [45, 46] rfA28L0_0 rfB28L0_0 none (L0 + 2)) := by
    rw [List.getElem?_set_ne (by omega), List.getElem?_set_ne (by omega), kX _ (by omega) (fun cs el pf own old e => by rw [k3 _ (by omega), J2.lp] at e; cases e), k3 _ (by omega)]; exact J2.lp
   refine end_nil ⟨⟨_, _, _, _, _, _, _, _, hL3⟩, false, _, _, rfl, fun h => (by cases h), fun _ => ?_⟩
   have e0 : setLoop ((G3.set (N + 5) (.cells [.slice (some ⟨H'.length + 1, 0, none⟩) (P.length + 1) (UNK + 2)] 22 false 0 [])).set (N + 1) (.cells (iV 6 w) 87 true 0 [])) (L0 + 3) 2 (some (.exit 1)) = ((G3.set (N + 5) (.cells [.slice (some ⟨H'.length + 1, 0, none⟩) (P.length + 1) (UNK + 2)] 22 false 0 [])).set (N + 1) (.cells (iV 6 w) 87 true 0 [])).set (L0 + 3) (.loop 2 28 t [45, 46] rfA28L0_0 rfB28L0_0 (some (.exit 1)) (L0 + 2)) := setLoop_eq hL3
   show _ ∧ _ ∧ PL N n E goal H w (P ++ [(a, b)]) (setLoop _ (L0 + 3) 2 (some (.exit 1))) ∧ L0 + 4 ≤ (setLoop _ (L0 + 3) 2 (some (.exit 1))).length ∧ (setLoop _ (L0 + 3) 2 (some (.exit 1)))[L0 + 2]? = _ ∧ (∀ x ∈ ms, (setLoop _ (L0 + 3) 2 (some (.exit 1)))[x]? = _) ∧ (setLoop _ (L0 + 3) 2 (some (.exit 1)))[L0 + 3]? = _
   rw [e0]
   have gk : ∀ j, j ≠ N + 5 → j ≠ N + 1 → j ≠ L0 + 3 → (((G3.set (N + 5) (.cells [.slice (some ⟨H'.length + 1, 0, none⟩) (P.length + 1) (UNK + 2)] 22 false 0 [])).set (N + 1) (.cells (iV 6 w) 87 true 0 [])).set (L0 + 3) (.loop 2 28 t [45, 46] rfA28L0_0 rfB28L0_0 (some (.exit 1)) (L0 + 2)))[j]? = G3[j]? := fun j h1 h2 h3 => by
    rw [List.getElem?_set_ne (by omega), List.getElem?_set_ne (by omega), List.getElem?_set_ne (by omega)]
   have gd : ∀ x : Nat, H'[x]? = some SO.deferred → (((G3.set (N + 5) (.cells [.slice (some ⟨H'.length + 1, 0, none⟩) (P.length + 1) (UNK + 2)] 22 false 0 [])).set (N + 1) (.cells (iV 6 w) 87 true 0 [])).set (L0 + 3) (.loop 2 28 t [45, 46] rfA28L0_0 rfB28L0_0 (some (.exit 1)) (L0 + 2)))[x]? = some SO.deferred := fun x hx => by
    rw [gk x (fun e => by rw [e, o1] at hx; cases hx) (fun e => by rw [e, P3.bs] at hx; cases hx) (fun e => by rw [e, k3 _ (by omega), J2.lp] at hx; cases hx), kX x (List.getElem?_eq_some_iff.1 hx).1 (fun cs el pf own old e => by rw [hx] at e; cases e)]; exact hx
   refine ⟨c1, rfl, ⟨by simp; omega, fun j hj => by rw [gk j (by omega) (by omega) (by omega), kN j (by omega)]; exact P3.low j hj, by have := P3.gr; unfold GAt at *; rw [gk _ (by omega) (by omega) (by omega), kN _ (by omega)]; exact this, by rw [List.getElem?_set_ne (by omega), List.getElem?_set_self (by simp; omega)], by rw [gk _ (by omega) (by omega) (by omega), kN _ (by omega)]; exact P3.sr, ⟨S, by rw [gk _ (by omega) (by omega) (by omega), kN _ (by omega)]; exact k4, k5⟩, by rw [gk _ (by omega) (by omega) (by omega), kN _ (by omega)]; exact P3.fn, _, by rw [List.getElem?_set_ne (by omega), List.getElem?_set_ne (by omega), List.getElem?_set_self (by omega)], ?_⟩, by simp; omega, gd _ (by rw [k3 _ (by omega)]; exact J2.df), fun x hx => gd x (by
    have := J2.dk x hx
    rw [k3 x (fun e => by rw [e] at this; obtain ⟨S', q, _⟩ := J2.pl.mem; rw [q] at this; cases this)]; exact this), by rw [List.getElem?_set_self (by simp; omega)]; rfl⟩
   rw [prN_snoc, List.length_append, List.length_singleton]
   exact acc2.keep (fun b e => by
    simp at e
    subst e
    exact gk _ (by omega) (by omega) (by omega))
  ·repeat (first | apply Z1 | apply Z2 | apply Z3 | apply Z4 | apply Z5 rfl | apply Z6 | apply Z7 | apply Z8 | apply Z9 | apply ZA | apply ZB | apply ZC | ((first | apply ZD (by decide) | apply ZN (by decide)); (simp (maxSteps := 9999999) only [go_sem, t12, t14, t15, lf, lw, k1, c1]; rfl)) | (refine ZE ?_ ?_; · simp only [go_sem]) | (refine ZF ?_ ?_; · simp only [go_sem]))
   have J3 : JP N n E goal H L0 ms st st P (.loop 1 28 t [45, 46] rfA28L0_0 rfB28L0_0 none (L0 + 2)) H' := ⟨P3, by omega, J2.cap.same (fun j hj => k3 j (by omega)), by rw [k3 _ (by omega)]; exact J2.df, fun x hx => by
    have := J2.dk x hx
    rw [k3 x (fun e => by rw [e] at this; obtain ⟨S', q, _⟩ := J2.pl.mem; rw [q] at this; cases this)]; exact this, by rw [k3 _ (by omega)]; exact J2.lp⟩
   refine end_nil ⟨⟨_, _, _, _, _, _, _, _, J3.lp⟩, true, _, _, rfl, fun _ => ⟨by omega, rfl, ?_⟩, fun h => (by cases h)⟩
   show JP _ _ _ _ _ _ _ _ _ _ _ (setLoop H' (L0 + 3) 0 none) ∧ (setLoop H' (L0 + 3) 0 none)[N + 5]? = _
   rw [setLoop_eq J3.lp]
   exact ⟨J3.setLp hL _, by rw [List.getElem?_set_ne (by omega), k3 _ (by omega)]; exact g5⟩)
 exact ⟨r1, h2, d2, e, hP⟩
end
end
end Go.Proofs.YtpkhkghiidilcaaDoor.Sh
namespace Go.Proofs.YtpkhkghiidilcaaDoor.Sh
section
open Go
set_option maxRecDepth 100000
set_option maxHeartbeats 4000000
theorem shut_ok : ∀ (ms : List Nat) (h : SHeap), (∀ x ∈ ms, h[x]? = some SO.deferred) → ms.Nodup → ∃ h2, shut h ms = some h2 ∧ h2.length = h.length ∧ ∀ j, j ∉ ms → h2[j]? = h[j]?
 | [], h, _, _ => ⟨h, rfl, rfl, fun _ _ => rfl⟩
 | b :: r, h, hd, hn => by
  obtain ⟨n1, n2⟩ := List.nodup_cons.1 hn
  have hb := hd b (by simp)
  obtain ⟨h2, e1, e2, e3⟩ := shut_ok r (h.set b SO.gone) (fun x hx => by
   rw [List.getElem?_set_ne (fun e => n1 (by rw [e]; exact hx))]; exact hd x (by simp [hx])) n2
  refine ⟨h2, by simp only [shut, hb]; exact e1, by rw [e2]; simp, fun j hj => ?_⟩
  rw [e3 j (fun h => hj (by simp [h])), List.getElem?_set_ne (fun e => hj (by simp [e]))]
theorem AccS.gc3 {H g h : SHeap} {v : Value} {cs : List Value} {n s : Nat} {el : TypeId} (A : AccS (H ++ g) h v cs n s el) (w w2 : Value) (hw : flat 1 w = true) (hw2 : flat 1 w2 = true) : gcS H.length (.tuple #[v, w, w2]) h = some (.tuple #[resV H n s, w, w2], resH H cs n el) := by
 by_cases hn : n = 0
 ·have ht := A.take rfl
  rcases A.acc with ⟨_, rfl, _⟩ | ⟨b, old, rfl, h1, h2, h3, _⟩
  ·have e1 : ptrs 3 (.tuple #[.slice none 0 0, w, w2]) = [] := by
    show ptrs 2 (.slice none 0 0) ++ (ptrs 2 w ++ (ptrs 2 w2 ++ [])) = []
    rw [ptrs_flat 2 w (flat_up _ _ hw), ptrs_flat 2 w2 (flat_up _ _ hw2)]; rfl
   rw [gc_free e1 (fun K => by
    have e3 : renV H.length K 2 w = some w := renV_flat 2 w (flat_up _ _ hw)
    have e4 : renV H.length K 2 w2 = some w2 := renV_flat 2 w2 (flat_up _ _ hw2)
    simp [renV, mapO, e3, e4]), ht]
   simp [resV, resH, hn]
  ·exact (h3 hn).elim
 ·obtain ⟨b, old, rfl, h1, h2, h3⟩ := A.cellsAt hn
  rw [gc_own3 hw hw2 (A.take rfl) h1 rfl h2, ren_none' h3]
  simp [resV, resH, hn]
theorem doM_snoc {n : Nat} {E : List (Int × Int)} : ∀ (P : List (Nat × Nat)) (s t : Nat → Int) (a b : Nat), doM n E s (castE P) = (t, P.length) → canM n E t a b → doM n E s (castE (P ++ [(a, b)])) = (aft t a b, (P ++ [(a, b)]).length)
 | [], s, t, a, b, h, hc => by
  have e : s = t := congrArg Prod.fst h
  subst e
  show doM n E s [((a : Int), (b : Int))] = _
  simp only [doM]
  rw [if_pos hc]
  simp [Int.toNat_natCast]
 | (x, y) :: P, s, t, a, b, h, hc => by
  have un : ∀ Q, doM n E s (castE ((x, y) :: Q)) = if canM n E s x y then ((doM n E (aft s x y) (castE Q)).1, (doM n E (aft s x y) (castE Q)).2 + 1) else (s, 0) := fun Q => by
   show doM n E s (((x : Int), (y : Int)) :: castE Q) = _
   simp only [doM, Int.toNat_natCast]
  rw [un] at h
  by_cases c : canM n E s x y
  ·rw [if_pos c] at h
   have h1 : doM n E (aft s x y) (castE P) = (t, P.length) := by
    have e1 := congrArg Prod.fst h
    have e2 := congrArg Prod.snd h
    simp at e1 e2
    exact Prod.ext e1 e2
   have ih := doM_snoc P _ t a b h1 hc
   rw [List.cons_append, un, if_pos c, ih]
   simp
  ·rw [if_neg c] at h
   have := congrArg Prod.snd h
   simp at this
section
variable {n : Nat} {E : List (Int × Int)} {goal : Nat} {st : Nat → Int}
theorem mx_move (hE : EOK n E) (hn : n ≤ 6) {B : Int} (S : ST n st B) (h0 : st goal = 0) (hp : 0 < mx n E goal st) : ∃ p ∈ MVb n E st n, 0 < mx n E goal (aft st p.1 p.2) := by
 obtain ⟨⟨t, h1, h2⟩, _⟩ := mx_is (g := goal) hE hn S
 cases h1 with
 | refl => omega
 | step a b ha hb hadj h3 hg k =>
  have k2 := mx_ge hE hn (S.aft hE hn ha hb hadj h3) k
  exact ⟨(a, b), MVb_all ha hb (canM_iff.2 ⟨ha, hb, hadj, h3⟩), by dsimp only; omega⟩
end
structure PI (N n : Nat) (E : List (Int × Int)) (goal : Nat) (H : SHeap) (s0 st : Nat → Int) (P : List (Nat × Nat)) (ms : List Nat) (h : SHeap) : Prop where
 pl : PL N n E goal H st P h
 mk1 : ∀ x ∈ ms, h[x]? = some SO.deferred
 mk2 : ms.Nodup
 mk3 : ∀ x ∈ ms, N + 6 ≤ x
 run : doM n E s0 (castE P) = (st, P.length)
 pos : 0 < mx n E goal st
 st0 : ST n st 40
 sum : tot st + P.length ≤ 40
section
variable {N n : Nat} {E : List (Int × Int)} {goal : Nat} {H : SHeap} {s0 : Nat → Int}
theorem plan_loop (hn : n ≤ 6) (hE : EOK n E) (hcn : Conn n E) (hgn : goal < n) :
  ∀ k ρ ms h' d', (∃ (st : Nat → Int) (P : List (Nat × Nat)), tot st = (k : Nat) ∧ PI N n E goal H s0 st P ms h' ∧ ρ 3 = .int .i64 goal ∧ ρ 11 = .pointer (some ⟨N, 0, none⟩) ∧ ρ 12 = .pointer (some ⟨N + 1, 0, none⟩) ∧ ρ 14 = .pointer (some ⟨N + 4, 0, none⟩) ∧ ρ 15 = .pointer (some ⟨N + 5, 0, none⟩) ∧ d' = []) →
  LoopW M ⟨N, none, 28⟩ 6 sf28L0 ρ ms h' d' (fun ex ρ' ms' h' d' => d' = [] ∧ ex = .exit 0 ∧ ∃ st P, PI N n E goal H s0 st P ms' h' ∧ 0 < st goal ∧ ρ' 15 = .pointer (some ⟨N + 5, 0, none⟩)) := by
 refine loop_run _ ?_
 rintro k ρ ms h' d' ⟨st, P, hk, J, r3, r11, r12, r14, r15, rfl⟩
 have z1 : (0 : Int) ≤ goal := by omega
 have z2 : (goal : Int) < 6 := by omega
 have jl := J.pl.len
 have lg : loadS h' none (.pointer (some ⟨N + 1, goal, none⟩)) = some (.int .i64 (st goal)) := st_load (s := st) J.pl.bs rfl (by omega)
 have S0 := J.st0
 have hs := fun v => S0.bnd hn v
 unfold sf28L0
 by_cases c : st goal = 0
 ·have c' : ((st goal : Int) = 0) = True := eq_true c
  have l6 : loadS h' (some 6) (.pointer (some ⟨N + 1, 0, none⟩)) = some (stV st) := by
   have := load_all (n := 6) J.pl.bs rfl (iV_len _ _) []; rw [List.append_nil] at this; exact this
  have mk := mk62 (h := h') (g := N) (by omega) st
  rw [c] at lg
  repeat (first | apply Z1 | apply Z2 | apply Z3 | apply Z4 | apply Z5 rfl | apply Z6 | apply Z7 | apply Z8 | apply Z9 | apply ZA | apply ZB | apply ZC | ((first | apply ZD (by decide) | apply ZN (by decide)); (simp (maxSteps := 9999999) only [go_sem, r3, r11, r12, r14, r15, z1, z2, lg, l6, mk, Int.toNat_natCast]; rfl)) | (refine ZE ?_ ?_; · simp only [go_sem]) | (refine ZF ?_ ?_; · simp only [go_sem]))
  show Run M _ 6 (.rangeFunc (.tmp 44) [45, 46] rfA28L0_0 rfB28L0_0) _ _ _ _ _ _
  refine run_rangeX (g := 77) (caps := #[.pointer (some ⟨h'.length, 0, none⟩), .pointer (some ⟨h'.length + 1, 0, none⟩)]) rfl (by simp only [go_sem]) ?_
  intro t hf ht
  have t3 : t.get 3 = .int .i64 goal := by rw [ht]; simp only [go_sem, r3]
  have t11 : t.get 11 = .pointer (some ⟨N, 0, none⟩) := by rw [ht]; simp only [go_sem, r11]
  have t12 : t.get 12 = .pointer (some ⟨N + 1, 0, none⟩) := by rw [ht]; simp only [go_sem, r12]
  have t14 : t.get 14 = .pointer (some ⟨N + 4, 0, none⟩) := by rw [ht]; simp only [go_sem, r14]
  have t15 : t.get 15 = .pointer (some ⟨N + 5, 0, none⟩) := by rw [ht]; simp only [go_sem, r15]
  rw [← ht]
  have hlen2 : (h' ++ [.cells [.pointer (some ⟨N, 0, none⟩)] 85 false 0 [], .cells (iV 6 st) 87 true 0 []] : SHeap).length = h'.length + 2 := by simp
  have J0 : JP N n E goal H h'.length ms st st P (.loop 0 28 t [45, 46] rfA28L0_0 rfB28L0_0 none (h'.length + 2)) (h' ++ [.cells [.pointer (some ⟨N, 0, none⟩)] 85 false 0 [], .cells (iV 6 st) 87 true 0 []] ++ [.deferred, .loop 0 28 t [45, 46] rfA28L0_0 rfB28L0_0 none (h'.length + 2)]) := by
   rw [List.append_assoc]
   exact ⟨J.pl.app _, by simp, ⟨by rw [app_get0]; rfl, by rw [app_get]; rfl, J.pl.gr.app _⟩, by rw [app_get]; rfl, fun x hx => by rw [List.getElem?_append_left (List.getElem?_eq_some_iff.1 (J.mk1 x hx)).1]; exact J.mk1 x hx, by rw [app_get]; rfl⟩
  obtain ⟨hF, dF, eF, q⟩ := iter77 (J := fun l h d => d = [] ∧ JP N n E goal H h'.length ms st st P (.loop 0 28 t [45, 46] rfA28L0_0 rfB28L0_0 none (h'.length + 2)) h ∧ ∀ p ∈ l, mx n E goal (aft st p.1 p.2) ≤ 0)
   (X := fun _ h d => ∃ a b : Nat, a < n ∧ b < n ∧ canM n E st a b ∧ 0 < mx n E goal (aft st a b) ∧ d = [N + 5] ∧ PL N n E goal H (aft st a b) (P ++ [(a, b)]) h ∧ h'.length + 4 ≤ h.length ∧ h[h'.length + 2]? = some SO.deferred ∧ (∀ x ∈ ms, h[x]? = some SO.deferred) ∧ h[h'.length + 3]? = some (.loop 2 28 t [45, 46] rfA28L0_0 rfB28L0_0 (some (.exit 1)) (h'.length + 2)))
   (B := h'.length + 4) (L := h'.length + 3) (c1 := h'.length) (c2 := h'.length + 1) (g := N) (H := h' ++ [.cells [.pointer (some ⟨N, 0, none⟩)] 85 false 0 [], .cells (iV 6 st) 87 true 0 []] ++ [.deferred, .loop 0 28 t [45, 46] rfA28L0_0 rfB28L0_0 none (h'.length + 2)]) (by simp) hE hn (fun v _ => by have := hs v; omega) (fun l h d J => J.2.1.cap) (fun l h d x J => ⟨J.1, J.2.1.app x, J.2.2⟩)
   (fun a b h d ha hb hcm J2 => by
    have hPl : P.length ≤ 1000 := by
     have := J.sum
     have := tot_lin hn S0
     have := lin_nn (c := fun _ => 1) (fun _ => by decide) S0.nn n
     omega
    obtain ⟨r, h2, d2, e, q1, q2⟩ := plan_round hn hE hcn hgn (by omega) (B := 40) (by decide) S0 hPl hf t12 t14 t15 ha hb hcm J2.2.1
    refine ⟨r, h2, d2, e, fun hr => ?_, fun hr => ?_⟩
    ·obtain ⟨u1, u2, u3, _⟩ := q1 hr
     refine ⟨by rw [u2, J2.1]; rfl, u3, fun p hp => ?_⟩
     rw [MVrow_if, if_pos hcm] at hp
     rcases List.mem_append.1 hp with hp | hp
     ·exact J2.2.2 p hp
     ·rw [List.mem_singleton] at hp; subst hp; exact u1
    ·obtain ⟨u1, u2, u3⟩ := q2 hr
     exact ⟨a, b, ha, hb, hcm, u1, by rw [u2, J2.1]; rfl, u3⟩) ⟨rfl, J0, fun p hp => by cases hp⟩
  rw [hlen2]
  rcases q with ⟨rfl, q, qall⟩ | ⟨_, _, _, _, a, b, ha, hb, hcm, hpos, rfl, u3, u4, u5, u6, u7⟩
  ·obtain ⟨p, hp, hpp⟩ := mx_move hE hn S0 c J.pos
   have := qall p hp
   omega
  ·refine ⟨_, _, _, eF, _, _, _, _, _, _, _, _, u7, rfl, .inr (.inr ⟨1, rfl, ?_⟩)⟩
   have u7' : (finD (h'.length + 4) hF [N + 5])[h'.length + 2 + 1]? = some (.loop 2 28 t [45, 46] rfA28L0_0 rfB28L0_0 (some (.exit 1)) (h'.length + 2)) := u7
   rw [setLoop_eq u7', dirts_own (fun x hx => by rw [List.mem_singleton] at hx; subst hx; exact Nat.le_add_right _ _)]
   have P5 : PL N n E goal H (aft st a b) (P ++ [(a, b)]) (hF.set (h'.length + 3) (.loop 3 28 t [45, 46] rfA28L0_0 rfB28L0_0 (some (.exit 1)) (h'.length + 2))) := u3.setO (by omega) (fun cs el pf own old e => by rw [u7] at e; cases e) _
   have P6 : ∀ x : Nat, hF[x]? = some SO.deferred → (hF.set (h'.length + 3) (.loop 3 28 t [45, 46] rfA28L0_0 rfB28L0_0 (some (.exit 1)) (h'.length + 2)))[x]? = some SO.deferred := fun x hx => by
    rw [List.getElem?_set_ne (fun e => by subst e; rw [u7] at hx; cases hx)]; exact hx
   show Ends M _ _ _ _ _ _ (hF.set (h'.length + 3) _) _ _
   generalize hF.set (h'.length + 3) (.loop 3 28 t [45, 46] rfA28L0_0 rfB28L0_0 (some (.exit 1)) (h'.length + 2)) = G at *
   repeat (first | apply Z1 | apply Z2 | apply Z3 | apply Z4 | apply Z5 rfl | apply Z6 | apply Z7 | apply Z8 | apply Z9 | apply ZA | apply ZB | apply ZC | ((first | apply ZD (by decide) | apply ZN (by decide)); (simp (maxSteps := 9999999) only [go_sem]; rfl)) | (refine ZE ?_ ?_; · simp only [go_sem]) | (refine ZF ?_ ?_; · simp only [go_sem]))
   obtain ⟨v1, v2, v3, v4⟩ := canM_iff.1 hcm
   have S1 := S0.aft hE hn v1 v2 v3 v4
   have tt := aft_tot (s := st) (a := a) (b := b) (by omega) (by omega)
   have tn : 0 ≤ tot (aft st a b) := by
    have := tot_lin hn S1
    have := lin_nn (c := fun _ => 1) (fun _ => by decide) S1.nn n
    omega
   refine end_nil ⟨k - 1, by omega, aft st a b, P ++ [(a, b)], by omega, ⟨P5, fun x hx => ?_, ?_, fun x hx => ?_, doM_snoc P _ _ a b J.run hcm, hpos, S1.mono (by omega), ?_⟩, t3, t11, t12, t14, t15, rfl⟩
   ·rcases List.mem_cons.1 hx with rfl | hx
    ·exact P6 _ u5
    ·exact P6 _ (u6 x hx)
   ·refine List.nodup_cons.2 ⟨fun h => ?_, J.mk2⟩
    have := (List.getElem?_eq_some_iff.1 (J.mk1 _ h)).1
    omega
   ·rcases List.mem_cons.1 hx with rfl | hx
    ·omega
    ·exact J.mk3 x hx
   ·have := J.sum
    rw [List.length_append, List.length_singleton]; omega
 ·have c' : ((st goal : Int) = 0) = False := eq_false c
  repeat (first | apply Z1 | apply Z2 | apply Z3 | apply Z4 | apply Z5 rfl | apply Z6 | apply Z7 | apply Z8 | apply Z9 | apply ZA | apply ZB | apply ZC | ((first | apply ZD (by decide) | apply ZN (by decide)); (simp (maxSteps := 9999999) only [go_sem, r3, r11, r12, r14, r15, z1, z2, lg, c', Int.toNat_natCast]; rfl)) | (refine ZE ?_ ?_; · simp only [go_sem]) | (refine ZF ?_ ?_; · simp only [go_sem]))
  exact end_nil ⟨rfl, rfl, st, P, J, by have := (hs goal).1; omega, by simp only [go_sem, r15]⟩
section
variable {v sv : Value} {l : List Int}
theorem plan_start (hl : SupOK n l) {s : Nat → Int} (hs : stk l = s) (hN : H.length = N) (hp : 0 < mx n E goal s) (h2 : n ≤ 6) {S : List ((Nat → Int) × Value)} (kS : KnM n E goal S) :
  PI N n E goal H s s [] [] (H ++ [gE n E, .cells (iV 6 s) 87 true 0 [], sB N goal (N + 3), mB S, fB (N + 2), .cells [.slice none 0 0] 22 false 0 []]) := by
 subst hN hs
 have S0 := hl.st h2
 refine ⟨⟨by simp, fun j hj => List.getElem?_append_left hj, by unfold GAt; rw [app_get0]; rfl, by rw [app_get]; rfl, by rw [app_get]; rfl, ⟨S, by rw [app_get]; rfl, kS⟩, by rw [app_get]; rfl, _, by rw [app_get]; rfl, .inl ⟨rfl, rfl, rfl⟩⟩, (fun x hx => by cases hx), List.nodup_nil, (fun x hx => by cases hx), rfl, hp, S0, by have := S0.le; simpa using this⟩
theorem plan28 {H : SHeap} (hv : PS H v E) (hlen : E.length ≤ 1000000) (he : errG n E = 0) (hs : IS H sv l) (hsl : l.length ≤ 1000000) (hl : SupOK n l) (hp : goal < n) :
  (mx n E goal (stk l) ≤ 0 ∧ M.call 28 [.int .i64 n, v, sv, .int .i64 goal] H = some (.tuple #[.slice none 0 0, .bool false, .int .i64 0], H, [])) ∨
  (0 < mx n E goal (stk l) ∧ ∃ (P : List (Nat × Nat)) (t : Nat → Int), doM n E (stk l) (castE P) = (t, P.length) ∧ 0 < t goal ∧ P.length ≤ 40 ∧ M.call 28 [.int .i64 n, v, sv, .int .i64 goal] H = some (.tuple #[resV H P.length 2, .bool true, .int .i64 0], resH H (prN P) P.length 45, [])) := by
 obtain ⟨m, e, h1, h2, h3, h4⟩ := errG_ok he
 obtain rfl : n = m := by omega
 have S0 := (hl.st h2).mono (B' := 1000) (by omega)
 have o := openAt_ok hv hlen he hs hsl hl (place := goal) hp
 generalize hst : stk l = s at *
 have nw := new54 (h := H ++ [gE n E, .cells (iV 6 s) 87 true 0 []]) (gr := H.length) (goal := goal) (by simp)
 rw [List.append_assoc, List.length_append] at nw
 have nw' : M.call 54 [.pointer (some ⟨H.length, 0, none⟩), .int .i64 goal] (H ++ [gE n E, .cells (iV 6 s) 87 true 0 []]) = some (.pointer (some ⟨H.length + 2, 0, none⟩), H ++ [gE n E, .cells (iV 6 s) 87 true 0 [], sB H.length goal (H.length + 3), mB []], []) := nw
 have l6 : ∀ y, loadS (H ++ (gE n E :: .cells (iV 6 s) 87 true 0 [] :: y)) (some 6) (.pointer (some ⟨H.length + 1, 0, none⟩)) = some (stV s) := fun y => by
  have := load_all (h := H ++ (gE n E :: .cells (iV 6 s) 87 true 0 [] :: y)) (b := H.length + 1) (n := 6) (cs := iV 6 s) (el := 87) (pf := true) (own := 0) (old := []) (by rw [app_get]; rfl) rfl (iV_len _ _) []
  rw [List.append_nil] at this; exact this
 have hx3 : (H ++ [gE n E, .cells (iV 6 s) 87 true 0 [], sB H.length goal (H.length + 3), mB [], fB (H.length + 2)] : SHeap)[H.length + 2]? = some (sB H.length goal (H.length + 3)) := by rw [app_get]; rfl
 obtain ⟨H', k1, k2, S, k4, k5⟩ := most55 (xs := H.length + 2) (gr := H.length) (mb := H.length + 3) h2 h3 h4 hp (by omega) (by omega) (tot s + 1).toNat s (H ++ [gE n E, .cells (iV 6 s) 87 true 0 [], sB H.length goal (H.length + 3), mB [], fB (H.length + 2)]) (by have := S0.le; omega) S0 (by simp) (by simp) (by simp) (Srch.mk' hx3 (by unfold GAt; rw [app_get0]; rfl)) ⟨[], by rw [app_get]; rfl, KnM.nil⟩ ⟨_, hx3⟩
 have hH' : H' = H ++ [gE n E, .cells (iV 6 s) 87 true 0 [], sB H.length goal (H.length + 3), mB S, fB (H.length + 2)] := by
  obtain ⟨k2, k3⟩ := k2
  apply List.ext_getElem?
  intro j
  by_cases c : j = H.length + 3
  ·subst c; rw [k4, app_get]; rfl
  ·rw [k3 j c]
   by_cases c2 : j < H.length
   ·rw [List.getElem?_append_left c2, List.getElem?_append_left c2]
   ·obtain ⟨i, rfl⟩ : ∃ i, j = H.length + i := ⟨j - H.length, by omega⟩
    rw [app_get, app_get]
    have : i ≠ 3 := by omega
    match i, this with
    | 0, _ => rfl
    | 1, _ => rfl
    | 2, _ => rfl
    | 4, _ => rfl
    | i + 5, _ => rfl
 subst hH'
 have dw : ∀ d, dirty H.length (H.length + 4) false d = d := fun d => dirty_own (by omega)
 obtain ⟨va, vc, rfl, _⟩ := id hv
 obtain ⟨sa, sc, rfl, _⟩ := id hs
 by_cases c : mx n E goal s = 0
 ·refine .inl ⟨by omega, ?_⟩
  refine call_run sf28 rfl rfl rfl ?_
  rw [c] at k1
  unfold sf28
  repeat (first | apply Z1 | apply Z2 | apply Z3 | apply Z4 | apply Z5 rfl | apply Z6 | apply Z7 | apply Z8 | apply Z9 | apply ZA | apply ZB | apply ZC | ((first | apply ZD (by decide) | apply ZN (by decide)); (simp (maxSteps := 9999999) only [go_sem, argR, o, wst, ↓l6, nw', dw, k1]; rfl)) | (refine ZE ?_ ?_; · simp only [go_sem]) | (refine ZF ?_ ?_; · simp only [go_sem]))
  exact end_nil (q_free [.slice none 0 0, .bool false, .int .i64 0] (by simp only [go_sem]) rfl rfl rfl (fun _ => rfl) (by simp) rfl)
 ·have hpos : 0 < mx n E goal s := by have := (mx_bnd (g := goal) h3 h2 S0).1; omega
  refine .inr ⟨hpos, ?_⟩
  suffices key : ∃ r, (∃ (P : List (Nat × Nat)) (t : Nat → Int), r = (Value.tuple #[resV H P.length 2, .bool true, .int .i64 0], resH H (prN P) P.length 45, ([] : List Nat)) ∧ doM n E s (castE P) = (t, P.length) ∧ 0 < t goal ∧ P.length ≤ 40) ∧ M.call 28 [.int .i64 n, .slice va E.length vc, .slice sa l.length sc, .int .i64 goal] H = some r by
   obtain ⟨r, ⟨P, t, rfl, q1, q2, q3⟩, q4⟩ := key
   exact ⟨P, t, q1, q2, q3, q4⟩
  refine call_ex (f := 28) _ sf28 rfl rfl rfl ?_
  unfold sf28
  repeat (first | apply Z1 | apply Z2 | apply Z3 | apply Z4 | apply Z5 rfl | apply Z6 | apply Z7 | apply Z8 | apply Z9 | apply ZA | apply ZB | apply ZC | ((first | apply ZD (by decide) | apply ZN (by decide)); (simp (maxSteps := 9999999) only [go_sem, argR, o, wst, ↓l6, nw', dw, k1, c]; rfl)) | (refine ZE ?_ ?_; · simp only [go_sem]) | (refine ZF ?_ ?_; · simp only [go_sem]))
  have PI0 := plan_start (E := E) (goal := goal) hl hst (N := H.length) rfl hpos h2 k5
  refine run_loop (plan_loop h2 h3 h4 hp (tot s).toNat _ _ _ _ ⟨s, [], by have := (mx_bnd (g := goal) h3 h2 S0).2; have := tot_lin h2 S0; have := lin_nn (c := fun _ => 1) (fun _ => by decide) S0.nn n; omega, PI0, by simp only [go_sem, argR], by simp only [go_sem], by simp only [go_sem], by simp only [go_sem], by simp only [go_sem], rfl⟩) ?_
  rintro ex ρ2 ms2 h2' d2 ⟨rfl, rfl, st, P, J, hgt, t15⟩
  obtain ⟨qv, o1, o2⟩ := J.pl.out
  have jl := J.pl.len
  have lq : loadS h2' none (.pointer (some ⟨H.length + 5, 0, none⟩)) = some qv := by
   have := load_cell (o := 0) o1 rfl rfl []; rw [List.append_nil] at this; exact this
  obtain ⟨h3', sh1, sh2, sh3⟩ := shut_ok ms2 h2' J.mk1 J.mk2
  have keep : ∀ j : Nat, h2'[j]? ≠ some SO.deferred → h3'[j]? = h2'[j]? := fun j hj => sh3 j (fun hm => hj (J.mk1 j hm))
  have A : AccS (H ++ []) h3' qv (prN P) P.length 2 45 := by
   rw [List.append_nil]
   refine ⟨(o2.keep (fun b e => keep b (fun hd => ?_))).lo (by omega), by rw [sh2]; omega, fun j hj => ?_⟩
   ·rcases o2 with ⟨_, e3, _⟩ | ⟨b', old', e3, h1, _⟩
    ·rw [e3] at e; simp at e
    ·rw [e3] at e
     simp at e
     rw [e, hd] at h1
     cases h1
   ·rw [sh3 j (fun hm => by have := J.mk3 j hm; omega)]; exact J.pl.low j hj
  obtain ⟨qa, qc, rfl⟩ := A.shape
  repeat (first | apply Z1 | apply Z2 | apply Z3 | apply Z4 | apply Z5 rfl | apply Z6 | apply Z7 | apply Z8 | apply Z9 | apply ZA | apply ZB | apply ZC | ((first | apply ZD (by decide) | apply ZN (by decide)); (simp (maxSteps := 9999999) only [go_sem, t15, lq]; rfl)) | (refine ZE ?_ ?_; · simp only [go_sem]) | (refine ZF ?_ ?_; · simp only [go_sem]))
  refine end_nil ⟨_, ⟨P, st, rfl, J.run, hgt, ?_⟩, q_gcM [.slice qa P.length qc, .bool true, .int .i64 0] sh1 (by simp only [go_sem]) rfl (A.gc3 (.bool true) (.int .i64 0) rfl rfl) rfl⟩
  have := J.sum
  have := tot_lin h2 J.st0
  have := lin_nn (c := fun _ => 1) (fun _ => by decide) J.st0.nn n
  omega
end
end
end
end Go.Proofs.YtpkhkghiidilcaaDoor.Sh
namespace Go.Proofs.YtpkhkghiidilcaaDoor.Sh
section
open Go
set_option maxRecDepth 100000
set_option maxHeartbeats 4000000
section
variable {n : Nat} {E : List (Int × Int)} {g : Nat} {s t x : Nat → Int}
theorem Rg.shift (hE : EOK n E) (h : Rg n E g s t) {δ : Nat → Int} (hδ : ∀ v, 0 ≤ δ v) : Rg n E g (fun v => s v + δ v) (fun v => t v + δ v) := by
 induction h with
 | refl s => exact .refl _
 | @step s t a b ha hb hadj h2 hg _ ih =>
  have hne := (hE.adj hadj).2.2
  refine .step a b ha hb hadj (by have := hδ a; show 2 ≤ s a + δ a; omega) hg ?_
  have e : aft (fun v => s v + δ v) a b = fun v => aft s a b v + δ v := by
   funext v
   rw [aft_v hne, aft_v hne]; omega
  rw [e]; exact ih
structure Un (n : Nat) (E : List (Int × Int)) (g : Nat) (s : Nat → Int) : Prop where
 st : ST n s 1000
 mx0 : mx n E g s ≤ 0
end
abbrev wB (N : Nat) : SO := .cells [.func (.func 76) #[] #[.pointer (some ⟨N, 0, none⟩), .pointer (some ⟨N + 8, 0, none⟩), .pointer (some ⟨N + 7, 0, none⟩), .pointer (some ⟨N + 6, 0, none⟩), .pointer (some ⟨N + 1, 0, none⟩), .pointer (some ⟨N + 9, 0, none⟩), .pointer (some ⟨N + 5, 0, none⟩)]] 122 false 0 []
structure GW (N gr n : Nat) (E : List (Int × Int)) (goal : Nat) (w b : Nat → Int) (h : SHeap) : Prop where
 c0 : h[N]? = some (.cells [.pointer (some ⟨gr, 0, none⟩)] 85 false 0 [])
 c1 : h[N + 1]? = some (.cells [.int .i64 goal] 3 true 0 [])
 sr : h[N + 3]? = some (sB gr goal (N + 4))
 mem : ∃ S, h[N + 4]? = some (mB S) ∧ KnM n E goal S
 fn : h[N + 5]? = some (fB (N + 3))
 bst : h[N + 6]? = some (.cells (iV 6 b) 87 true 0 [])
 now : h[N + 7]? = some (.cells (iV 6 w) 87 true 0 [])
 mn : h[N + 8]? = some (.cells [.func (.func 75) #[] #[]] 92 false 0 [])
 gw : h[N + 9]? = some (wB N)
 ga : GAt h gr n E
section
variable {N gr n : Nat} {E : List (Int × Int)} {goal : Nat} {w w' b b' : Nat → Int} {h h' : SHeap}
theorem GW.chg (J : GW N gr n E goal w b h) (hg : gr < N) (k : ∀ j, j ≠ N + 4 → j ≠ N + 6 → j ≠ N + 7 → h'[j]? = h[j]?) (mem : ∃ S, h'[N + 4]? = some (mB S) ∧ KnM n E goal S) (bst : h'[N + 6]? = some (.cells (iV 6 b') 87 true 0 [])) (now : h'[N + 7]? = some (.cells (iV 6 w') 87 true 0 [])) : GW N gr n E goal w' b' h' :=
 ⟨by rw [k _ (by omega) (by omega) (by omega)]; exact J.c0, by rw [k _ (by omega) (by omega) (by omega)]; exact J.c1, by rw [k _ (by omega) (by omega) (by omega)]; exact J.sr, mem, by rw [k _ (by omega) (by omega) (by omega)]; exact J.fn, bst, now, by rw [k _ (by omega) (by omega) (by omega)]; exact J.mn, by rw [k _ (by omega) (by omega) (by omega)]; exact J.gw, by have := J.ga; unfold GAt at *; rw [k _ (by omega) (by omega) (by omega)]; exact this⟩
theorem GW.len (J : GW N gr n E goal w b h) : N + 9 < h.length := (List.getElem?_eq_some_iff.1 J.gw).1
theorem ld1 {b : Nat} {c : Value} {el : TypeId} {pf : Bool} (k : h[b]? = some (.cells [c] el pf 0 [])) : loadS h none (.pointer (some ⟨b, 0, none⟩)) = some c := by
 have := load_cell (o := 0) k rfl rfl []; rw [List.append_nil] at this; exact this
end
end
end Go.Proofs.YtpkhkghiidilcaaDoor.Sh
namespace Go.Proofs.YtpkhkghiidilcaaDoor.Sh
section
open Go
set_option maxRecDepth 100000
set_option maxHeartbeats 4000000
def IsNum (n : Nat) (E : List (Int × Int)) (goal : Nat) (k : Int) : Prop := (∃ p, Un n E goal p ∧ tot p + 1 = k) ∧ ∀ x, Un n E goal x → tot x + 1 ≤ k
section
variable {n : Nat} {E : List (Int × Int)} {goal : Nat} {H : SHeap} {v sv wv : Value} {l : List Int} {w : List (Int × Int)}
theorem IsNum.uniq {k k' : Int} (h : IsNum n E goal k) (h' : IsNum n E goal k') : k = k' := by
 obtain ⟨⟨p, h1, h2⟩, h3⟩ := h
 obtain ⟨⟨q, h4, h5⟩, h6⟩ := h'
 have := h3 q h4
 have := h6 p h1
 omega
def plB (n : Nat) (E : List (Int × Int)) (s : Nat → Int) (goal : Nat) (w : List (Int × Int)) : Bool := decide ((doM n E s w).2 = w.length ∧ 0 < (doM n E s w).1 goal)
theorem isPlan36 (hv : PS H v E) (hlen : E.length ≤ 1000000) (he : errG n E = 0) (hs : IS H sv l) (hsl : l.length ≤ 1000000) (hl : SupOK n l) (hp : goal < n) (hw : PS H wv w) (hwl : w.length ≤ 1000000) :
  M.call 36 [.int .i64 n, v, sv, .int .i64 goal, wv] H = some (.tuple #[.bool (plB n E (stk l) goal w), .int .i64 0], H, []) := by
 refine call_run sf36 rfl rfl rfl ?_
 obtain ⟨m, e, h1, h2, h3, h4⟩ := errG_ok he
 obtain rfl : n = m := by omega
 have S0 := hl.st h2
 have o := openAt_ok hv hlen he hs hsl hl (place := goal) hp
 generalize stk l = s at *
 have dn := done65 (H := H ++ [gE n E, .cells (iV 6 s) 87 true 0 []]) (g := H.length) h2 h3 (by unfold GAt; rw [app_get0]; rfl) (hw.app _) hwl S0
 have l6 : ∀ y, loadS (H ++ (gE n E :: .cells (iV 6 s) 87 true 0 [] :: y)) (some 6) (.pointer (some ⟨H.length + 1, 0, none⟩)) = some (stV s) := fun y => by
  have := load_all (h := H ++ (gE n E :: .cells (iV 6 s) 87 true 0 [] :: y)) (b := H.length + 1) (n := 6) (cs := iV 6 s) (el := 87) (pf := true) (own := 0) (old := []) (by rw [app_get]; rfl) rfl (iV_len _ _) []
  rw [List.append_nil] at this; exact this
 unfold plB
 generalize (doM n E s w).1 = t at *
 generalize (doM n E s w).2 = k at *
 have st : ∀ base, storeS base (H ++ [gE n E, .cells (iV 6 s) 87 true 0 []]) [] (H.length + 1) 0 (cellsL (stV t)) = some (H ++ [gE n E, .cells (iV 6 t) 87 true 0 []], []) := fun base => by
  have := store_at (h := H ++ [gE n E, .cells (iV 6 s) 87 true 0 []]) (b := H.length + 1) (base := base) (cs := iV 6 s) (vs := iV 6 t) (el := 87) (pf := true) (by rw [app_get]; rfl) (by rw [iV_len, iV_len]) (by rw [iV_len]; decide) (all_sc_one _ (iV_sc 6 t)) (fun _ => iV_sc 6 t) []
  rw [cells_st, this, List.set_append_right _ _ (by omega), Nat.add_sub_cancel_left]; rfl
 have lt : loadS (H ++ [gE n E, .cells (iV 6 t) 87 true 0 []]) none (.pointer (some ⟨H.length + 1, goal, none⟩)) = some (.int .i64 (t goal)) := st_load (s := t) (el := 87) (pf := true) (own := 0) (old := []) (by rw [app_get]; rfl) rfl (by omega)
 have cs := cells_st t
 have cl6 := iV_len 6 t
 have z1 : (0 : Int) ≤ goal := by omega
 have z2 : (goal : Int) < 6 := by omega
 obtain ⟨va, vc, rfl, _⟩ := id hv
 obtain ⟨sa, sc, rfl, _⟩ := id hs
 obtain ⟨wa, wc, rfl, _⟩ := id hw
 unfold sf36
 by_cases c1 : (k : Int) = w.length
 ·have c1' : k = w.length := by omega
  by_cases c2 : t goal > 0
  ·repeat (first | apply Z1 | apply Z2 | apply Z3 | apply Z4 | apply Z5 rfl | apply Z6 | apply Z7 | apply Z8 | apply Z9 | apply ZA | apply ZB | apply ZC | ((first | apply ZD (by decide) | apply ZN (by decide)); (simp (maxSteps := 9999999) only [go_sem, argR, o, wst, ↓l6, dn, ↓st, cs, cl6, c1, lt, c2, z1, z2, Int.toNat_natCast]; rfl)) | (refine ZE ?_ ?_; · simp only [go_sem]) | (refine ZF ?_ ?_; · simp only [go_sem]))
   rw [decide_eq_true ⟨c1', c2⟩]
   exact end_nil (q_free [.bool true, .int .i64 0] (by simp only [go_sem]) rfl rfl rfl (fun _ => rfl) (by simp) rfl)
  ·repeat (first | apply Z1 | apply Z2 | apply Z3 | apply Z4 | apply Z5 rfl | apply Z6 | apply Z7 | apply Z8 | apply Z9 | apply ZA | apply ZB | apply ZC | ((first | apply ZD (by decide) | apply ZN (by decide)); (simp (maxSteps := 9999999) only [go_sem, argR, o, wst, ↓l6, dn, ↓st, cs, cl6, c1, lt, c2, z1, z2, Int.toNat_natCast]; rfl)) | (refine ZE ?_ ?_; · simp only [go_sem]) | (refine ZF ?_ ?_; · simp only [go_sem]))
   rw [decide_eq_false (fun h => c2 h.2)]
   exact end_nil (q_free [.bool false, .int .i64 0] (by simp only [go_sem]) rfl rfl rfl (fun _ => rfl) (by simp) rfl)
 ·repeat (first | apply Z1 | apply Z2 | apply Z3 | apply Z4 | apply Z5 rfl | apply Z6 | apply Z7 | apply Z8 | apply Z9 | apply ZA | apply ZB | apply ZC | ((first | apply ZD (by decide) | apply ZN (by decide)); (simp (maxSteps := 9999999) only [go_sem, argR, o, wst, ↓l6, dn, ↓st, cs, cl6, c1, lt, z1, z2, Int.toNat_natCast]; rfl)) | (refine ZE ?_ ?_; · simp only [go_sem]) | (refine ZF ?_ ?_; · simp only [go_sem]))
  rw [decide_eq_false (fun h => c1 (by rw [h.1]))]
  exact end_nil (q_free [.bool false, .int .i64 0] (by simp only [go_sem]) rfl rfl rfl (fun _ => rfl) (by simp) rfl)
end
end
end Go.Proofs.YtpkhkghiidilcaaDoor.Sh
namespace Go.Proofs.YtpkhkghiidilcaaDoor.Sh
section
open Go
set_option maxRecDepth 100000
set_option maxHeartbeats 4000000
def KC (n : Nat) (E : List (Int × Int)) (A : List (Nat → Int)) (S : List ((Nat → Int) × Value)) : Prop := ∀ e ∈ S, (∃ B, ST n e.1 B) ∧ e.2 = .bool true ∧ (¬ Cov n E e.1 ∨ e.1 ∈ A)
theorem KC.z {n : Nat} {E : List (Int × Int)} {A : List (Nat → Int)} {S : List ((Nat → Int) × Value)} (hn : n ≤ 6) (k : KC n E A S) : ∀ e ∈ S, zout e.1 := fun e he => by
 obtain ⟨⟨B, h⟩, _⟩ := k e he
 exact h.zout hn
structure JV (N mb gr n : Nat) (E : List (Int × Int)) (s : Nat → Int) (H : SHeap) (QS : List ((Nat → Int) × Value) → Prop) (r : Bool) (lo : SO) (h : SHeap) : Prop where
 len : N + 8 ≤ h.length
 low : ∀ j, j < N → j ≠ mb → h[j]? = H[j]?
 mem : ∃ S, h[mb]? = some (.map true (ents S)) ∧ QS S
 bx : h[N]? = some (.cells [.pointer (some ⟨gr, 0, none⟩)] 85 false 0 [])
 bs : h[N + 1]? = some (.cells (iV 6 s) 87 true 0 [])
 bm : h[N + 2]? = some (.cells [.map (some mb)] 113 false 0 [])
 res : h[N + 3]? = some (.cells [.bool r] 4 true 0 [])
 cap : Caps h (N + 4) (N + 5) gr n E s
 df : h[N + 6]? = some .deferred
 lp : h[N + 7]? = some lo
section
variable {N mb gr n : Nat} {E : List (Int × Int)} {s : Nat → Int} {H : SHeap} {QS QS' : List ((Nat → Int) × Value) → Prop} {r r' : Bool} {lo lo' : SO} {h h' : SHeap}
theorem JV.chg (J : JV N mb gr n E s H QS r lo h) (hm : mb < N) (hg : gr < N) (hgm : gr ≠ mb) (hl : N + 8 ≤ h'.length) (k : ∀ j, j < N + 8 → j ≠ mb → j ≠ N + 3 → j ≠ N + 7 → h'[j]? = h[j]?)
  (mem : ∃ S, h'[mb]? = some (.map true (ents S)) ∧ QS' S) (res : h'[N + 3]? = some (.cells [.bool r'] 4 true 0 [])) (lp : h'[N + 7]? = some lo') : JV N mb gr n E s H QS' r' lo' h' :=
 ⟨hl, fun j hj hne => by rw [k j (by omega) hne (by omega) (by omega)]; exact J.low j hj hne, mem, by rw [k _ (by omega) (by omega) (by omega) (by omega)]; exact J.bx, by rw [k _ (by omega) (by omega) (by omega) (by omega)]; exact J.bs, by rw [k _ (by omega) (by omega) (by omega) (by omega)]; exact J.bm, res,
  J.cap.same (fun j hj => k j (by omega) (by omega) (by omega) (by omega)), by rw [k _ (by omega) (by omega) (by omega) (by omega)]; exact J.df, lp⟩
theorem JV.same (J : JV N mb gr n E s H QS r lo h) (hm : mb < N) (hg : gr < N) (hl : N + 8 ≤ h'.length) (k : ∀ j, j < N + 8 → h'[j]? = h[j]?) : JV N mb gr n E s H QS r lo h' := by
 obtain ⟨S, m1, m2⟩ := J.mem
 exact ⟨hl, fun j hj hne => by rw [k j (by omega)]; exact J.low j hj hne, ⟨S, by rw [k _ (by omega)]; exact m1, m2⟩, by rw [k _ (by omega)]; exact J.bx, by rw [k _ (by omega)]; exact J.bs, by rw [k _ (by omega)]; exact J.bm, by rw [k _ (by omega)]; exact J.res, J.cap.same (fun j hj => k j (by omega)), by rw [k _ (by omega)]; exact J.df, by rw [k _ (by omega)]; exact J.lp⟩
theorem JV.app (J : JV N mb gr n E s H QS r lo h) (hm : mb < N) (hg : gr < N) (x : SHeap) : JV N mb gr n E s H QS r lo (h ++ x) :=
 J.same hm hg (by have := J.len; simp; omega) (fun j hj => List.getElem?_append_left (by have := J.len; omega))
theorem JV.setLp (J : JV N mb gr n E s H QS r lo h) (hm : mb < N) (hg : gr < N) (hgm : gr ≠ mb) (lo' : SO) : JV N mb gr n E s H QS r lo' (h.set (N + 7) lo') := by
 obtain ⟨S, m1, m2⟩ := J.mem
 have hl := J.len
 exact J.chg hm hg hgm (by simp; omega) (fun j hj h1 h2 h3 => by rw [List.getElem?_set_ne (by omega)]) ⟨S, by rw [List.getElem?_set_ne (by omega)]; exact m1, m2⟩ (by rw [List.getElem?_set_ne (by omega)]; exact J.res) (by rw [List.getElem?_set_self (by omega)])
end
end
end Go.Proofs.YtpkhkghiidilcaaDoor.Sh
namespace Go.Proofs.YtpkhkghiidilcaaDoor.Sh
section
open Go
set_option maxRecDepth 100000
set_option maxHeartbeats 4000000
section
variable {gr mb n : Nat} {E : List (Int × Int)}
theorem JV.take {N : Nat} {s : Nat → Int} {H : SHeap} {QS : List ((Nat → Int) × Value) → Prop} {r : Bool} {lo : SO} {h : SHeap} (J : JV N mb gr n E s H QS r lo h) (hm : mb < N) (hg : gr < N) : JV N mb gr n E s H QS r lo (h.take (N + 8)) :=
 J.same hm hg (by have := J.len; rw [List.length_take]; omega) (fun j hj => by rw [List.getElem?_take, if_pos hj])
end
end
end Go.Proofs.YtpkhkghiidilcaaDoor.Sh
namespace Go.Proofs.YtpkhkghiidilcaaDoor.Sh
section
open Go
set_option maxRecDepth 100000
set_option maxHeartbeats 1000000
structure AccF (lo : Nat) (h : SHeap) (v : Value) (cs : List Value) (el : TypeId) (b : Nat) : Prop where
 ne : cs ≠ []
 one : cs.all oneC = true
 low : lo ≤ b
 shp : ∃ c old, v = .slice (some ⟨b, 0, none⟩) cs.length c ∧ h[b]? = some (.cells cs el false 0 old) ∧ ((c = UNK + 1 ∧ ∀ x ∈ old, lo ≤ x) ∨ (c = cs.length ∧ c < UNK ∧ old = []))
theorem AccF.lt {lo : Nat} {h : SHeap} {v : Value} {cs : List Value} {el : TypeId} {b : Nat} (A : AccF lo h v cs el b) : b < h.length := by
 obtain ⟨c, old, _, h1, _⟩ := A.shp
 exact (List.getElem?_eq_some_iff.1 h1).1
theorem AccF.keep {lo : Nat} {h h' : SHeap} {v : Value} {cs : List Value} {el : TypeId} {b : Nat} (A : AccF lo h v cs el b) (k : h'[b]? = h[b]?) : AccF lo h' v cs el b := by
 obtain ⟨c, old, e, h1, h2⟩ := A.shp
 exact ⟨A.ne, A.one, A.low, c, old, e, by rw [k]; exact h1, h2⟩
theorem AccF.push {lo : Nat} {h : SHeap} {v x : Value} {cs : List Value} {el : TypeId} {b bs bytes : Nat} (A : AccF lo h v cs el b) {el2 : TypeId} {pf2 : Bool} {own2 : Nat} {old2 : List Nat}
  (hs : h[bs]? = some (.cells [x] el2 pf2 own2 old2)) (hr : readable own2 = true) (hx : oneC x = true) (hb0 : 0 < bytes) (hb : (cs.length + 1) * bytes ≤ 140737488355328) :
  ∃ H2, (∀ (base : Nat) (d : List Nat), appendS base h d el false 1 bytes v (.slice (some ⟨bs, 0, none⟩) 1 1) = some (.slice (some ⟨h.length, 0, none⟩) (cs.length + 1) (UNK + 1), H2, d)) ∧
   AccF lo H2 (.slice (some ⟨h.length, 0, none⟩) (cs.length + 1) (UNK + 1)) (cs ++ [x]) el h.length ∧ H2.length = h.length + 1 ∧ ∀ j, j < h.length → j ≠ b → H2[j]? = h[j]? := by
 have hlt := A.lt
 obtain ⟨c, old, rfl, h1, h2⟩ := A.shp
 have hn0 : cs.length ≠ 0 := fun e => A.ne (List.length_eq_zero_iff.1 e)
 have hseen : rdN h bs 0 (1 * 1) = some [x] := by
  rw [rdN_def, hs]
  dsimp only
  rw [hr]; rfl
 have hsx : rdN h b 0 (cs.length * 1) = some cs := by
  rw [rdN_def, h1]
  dsimp only
  rw [readable_0, ble_dec, decide_eq_true (by omega), if_pos (by rfl), List.drop_zero, Nat.mul_one, List.take_length]
 have hn : (cs.length == 0) = false := beq_eq_false_iff_ne.2 hn0
 have e4 : Nat.ble ((cs.length + 1) * bytes) 140737488355328 = true := by rw [ble_dec]; simpa using hb
 have e5 : Nat.blt 0 bytes = true := by rw [blt_dec]; simpa using hb0
 have hone : [x].all oneC = true := by simp [hx]
 have hall : (cs ++ [x]).all oneC = true := by rw [List.all_append, A.one, hone]; rfl
 rcases h2 with ⟨rfl, hold⟩ | ⟨rfl, hu, rfl⟩
 ·refine ⟨share h b ++ [.cells (cs ++ [x]) el false 0 (b :: old)], fun base d => ?_, ⟨by simp, hall, by have := A.low; omega, UNK + 1, b :: old, by rw [List.length_append, List.length_singleton], by rw [List.getElem?_append_right (by rw [share_ln]; omega), share_ln, Nat.sub_self]; rfl, .inl ⟨rfl, fun y hy => ?_⟩⟩, by simp [share_ln], fun j hj hne => by rw [List.getElem?_append_left (by rw [share_ln]; exact hj)]; exact share_gt h b j hne⟩
  ·have e1 : Nat.ble UNK (UNK + 1) = true := by rw [ble_dec]; simp
   have e2 : Nat.beq (UNK + 1) (UNK + 1) = true := Nat.beq_refl _
   have e3 : Nat.beq (0 + cs.length * 1) cs.length = true := by rw [Nat.zero_add, Nat.mul_one]; exact Nat.beq_refl _
   unfold appendS
   simp only [lenS, seenS, hseen, hsx, hn, h1, e1, e2, e3, e4, e5, hone]
   simp [-List.all_eq_true, hone]
  ·rcases List.mem_cons.1 hy with rfl | hy
   ·exact A.low
   ·exact hold y hy
 ·refine ⟨h ++ [.cells (cs ++ [x]) el false 0 []], fun base d => ?_, ⟨by simp, hall, by have := A.low; omega, UNK + 1, [], by rw [List.length_append, List.length_singleton], by simp, .inl ⟨rfl, fun y hy => by cases hy⟩⟩, by simp, fun j hj _ => List.getElem?_append_left hj⟩
  have e1 : Nat.ble UNK cs.length = false := by rw [ble_dec]; exact decide_eq_false (by omega)
  have e2 : Nat.ble (cs.length + 1) cs.length = false := by rw [ble_dec]; exact decide_eq_false (by omega)
  unfold appendS
  simp only [lenS, seenS, hseen, hsx, hn, e1, e2, e4, e5, hone]
  simp [-List.all_eq_true, hone]
theorem reach_leaf {base : Nat} {h : SHeap} : ∀ (todo : List Nat) (n : Nat) (seen : List Nat), todo.length < n → (∀ x ∈ todo, base ≤ x → ptrsO h[x]? = []) →
  ∃ K, reach base h n todo seen = seen ++ K ∧ (∀ x ∈ todo, base ≤ x → x ∈ seen ++ K) ∧ ∀ x ∈ K, x ∈ todo ∧ base ≤ x
 | [], n, seen, hn, _ => ⟨[], by cases n with | zero => omega | succ n => simp [reach], (fun x hx => by cases hx), (fun x hx => by cases hx)⟩
 | b :: todo, 0, seen, hn, _ => by omega
 | b :: todo, n + 1, seen, hn, hl => by
  have hl' : ∀ x ∈ todo, base ≤ x → ptrsO h[x]? = [] := fun x hx => hl x (by simp [hx])
  have hn' : todo.length < n := by simp at hn; omega
  by_cases c : base ≤ b
  ·by_cases c2 : b ∈ seen
   ·obtain ⟨K, h1, h2, h3⟩ := reach_leaf todo n seen hn' hl'
    refine ⟨K, ?_, fun x hx hb => ?_, fun x hx => ⟨by simp [(h3 x hx).1], (h3 x hx).2⟩⟩
    ·have e2 : seen.contains b = true := List.contains_iff_mem.2 c2
     rw [reach, e2, Bool.or_true, if_pos rfl]; exact h1
    ·rcases List.mem_cons.1 hx with rfl | hx
     ·simp [c2]
     ·exact h2 x hx hb
   ·obtain ⟨K, h1, h2, h3⟩ := reach_leaf todo n (seen ++ [b]) hn' hl'
    refine ⟨b :: K, ?_, fun x hx hb => ?_, fun x hx => ?_⟩
    ·rw [reach_new c c2, hl b (by simp) c, List.nil_append, h1]; simp
    ·rcases List.mem_cons.1 hx with rfl | hx
     ·simp
     ·have := h2 x hx hb
      simpa using this
    ·rcases List.mem_cons.1 hx with rfl | hx
     ·exact ⟨by simp, c⟩
     ·exact ⟨by simp [(h3 x hx).1], (h3 x hx).2⟩
  ·obtain ⟨K, h1, h2, h3⟩ := reach_leaf todo n seen hn' hl'
   refine ⟨K, by rw [reach_old (by omega)]; exact h1, fun x hx hb => ?_, fun x hx => ⟨by simp [(h3 x hx).1], (h3 x hx).2⟩⟩
   rcases List.mem_cons.1 hx with rfl | hx
   ·omega
   ·exact h2 x hx hb
theorem pos_mem : ∀ (K : List Nat) (x : Nat), x ∈ K → ∃ i, posOf x K = some i ∧ K[i]? = some x
 | a :: r, x, h => by
  by_cases c : x = a
  ·subst c; exact ⟨0, by simp [posOf], rfl⟩
  ·have hx : x ∈ r := by rcases List.mem_cons.1 h with e | e; exact (c e).elim; exact e
   obtain ⟨i, h1, h2⟩ := pos_mem r x hx
   have e : Nat.beq a x = false := by rw [nbeq_dec]; exact decide_eq_false (fun e => c e.symm)
   exact ⟨i + 1, by simp [posOf, e, h1], by simpa using h2⟩
theorem mapO_all {α β : Type} {f : α → Option β} : ∀ (l : List α), (∀ a ∈ l, ∃ b, f a = some b) → ∃ bs, mapO f l = some bs ∧ bs.length = l.length ∧ ∀ (i : Nat) (a : α), l[i]? = some a → ∃ b, f a = some b ∧ bs[i]? = some b
 | [], _ => ⟨[], rfl, rfl, fun i a h => by simp at h⟩
 | a :: l, h => by
  obtain ⟨b, hb⟩ := h a (by simp)
  obtain ⟨bs, h1, h2, h3⟩ := mapO_all l (fun x hx => h x (by simp [hx]))
  refine ⟨b :: bs, by simp [mapO, hb, h1], by simp [h2], fun i x hx => ?_⟩
  cases i with
  | zero => simp at hx; subst hx; exact ⟨b, hb, rfl⟩
  | succ i => simpa using h3 i x (by simpa using hx)
def LeafC (base : Nat) (h : SHeap) (x : Value) : Prop := ∃ b o n c, x = .slice (some ⟨b, o, none⟩) n c ∧ (b < base ∨ base ≤ b ∧ ∃ ds el own old, h[b]? = some (.cells ds el true own old) ∧ (own == 2) = false)
def SameC (h h' : SHeap) (x x' : Value) : Prop := ∃ b b' o n c, x = .slice (some ⟨b, o, none⟩) n c ∧ x' = .slice (some ⟨b', o, none⟩) n c ∧ ((b = b' ∧ h'[b']? = h[b]?) ∨ ∃ ds el own old old', h[b]? = some (.cells ds el true own old) ∧ h'[b']? = some (.cells ds el true own old'))
theorem ptrs_leaf {base : Nat} {h : SHeap} : ∀ (cs : List Value), (∀ x ∈ cs, LeafC base h x) → (cs.flatMap (ptrs 3)).length = cs.length ∧ (∀ y ∈ cs.flatMap (ptrs 3), base ≤ y → ptrsO h[y]? = []) ∧ ∀ b o n c, Value.slice (some ⟨b, o, none⟩) n c ∈ cs → b ∈ cs.flatMap (ptrs 3)
 | [], _ => ⟨rfl, (fun y hy => by cases hy), (fun b o n c h => by cases h)⟩
 | x :: cs, hx => by
  obtain ⟨h1, h2, h3⟩ := ptrs_leaf cs (fun y hy => hx y (by simp [hy]))
  obtain ⟨b, o, n, c, rfl, hb⟩ := hx x (by simp)
  have e : ptrs 3 (.slice (some ⟨b, o, none⟩) n c) = [b] := rfl
  rw [List.flatMap_cons, e]
  refine ⟨by simp [h1], fun y hy hy2 => ?_, fun b' o' n' c' hm => ?_⟩
  ·rcases List.mem_cons.1 hy with rfl | hy
   ·rcases hb with hb | ⟨_, ds, el, own, old, hb, _⟩
    ·omega
    ·rw [hb]; simp [ptrsO]
   ·exact h2 y hy hy2
  ·rcases List.mem_cons.1 hm with hm | hm
   ·simp at hm
    simp [hm.1.1]
   ·have := h3 b' o' n' c' hm
    simp [this]
theorem SameC.is {h h' : SHeap} {x x' : Value} {l : List Int} (k : SameC h h' x x') (i : IS h x l) : IS h' x' l := by
 obtain ⟨b, b', o, n, c, rfl, rfl, hk⟩ := k
 obtain ⟨a, c', e, hi⟩ := i
 simp at e
 obtain ⟨e1, e2, e3⟩ := e
 subst e1 e2 e3
 refine ⟨some ⟨b', o, none⟩, c, rfl, fun hne => ?_⟩
 obtain ⟨b0, o0, e, h1, h2⟩ := hi hne
 simp at e
 obtain ⟨e1, e2⟩ := e
 subst e1 e2
 rcases hk with ⟨rfl, hk⟩ | ⟨ds, el, own, old, old', k1, k2⟩
 ·refine ⟨b, o, rfl, ?_, h2.fr hk⟩
  rw [List.getElem?_eq_getElem h1] at hk
  exact (List.getElem?_eq_some_iff.1 hk).1
 ·refine ⟨b', o, rfl, (List.getElem?_eq_some_iff.1 k2).1, fun j hj => ?_⟩
  have := h2 j hj
  rw [load_rdO, k1, rdO_cells] at this
  rw [load_rdO, k2, rdO_cells]; exact this
end
end Go.Proofs.YtpkhkghiidilcaaDoor.Sh
namespace Go.Proofs.YtpkhkghiidilcaaDoor.Sh
section
open Go
set_option maxRecDepth 100000
set_option maxHeartbeats 1000000
def kyN : Nat → (Nat → Int) → Int
 | 0, _ => 0
 | n + 1, s => kyN n s * 41 + s n
def entK (n : Nat) (L : List (Nat → Int)) : List (Value × Value) := L.map fun t => (.int .i64 (kyN n t), .bool true)
structure RQ (n : Nat) (E : List (Int × Int)) (s : Nat → Int) (L : List (Nat → Int)) (i k : Nat) : Prop where
 rg : ∀ t ∈ L, Rg n E n s t
 me : s ∈ L
 nd : L.Nodup
 st : ∀ t ∈ L, ST n t 12
 cl : ∀ (j : Nat) (hj : j < L.length), j < i → ∀ p ∈ MVL n E L[j], aft L[j] p.1 p.2 ∈ L
 cl2 : ∀ (hi : i < L.length) (j : Nat) (hj : j < (MVL n E L[i]).length), j < k → aft L[i] (MVL n E L[i])[j].1 (MVL n E L[i])[j].2 ∈ L
section
variable {n : Nat} {E : List (Int × Int)} {s : Nat → Int} {L : List (Nat → Int)} {i k : Nat}
theorem RQ.start (S : ST n s 12) : RQ n E s [s] 0 0 :=
 ⟨fun t ht => by rw [List.mem_singleton] at ht; subst ht; exact .refl _, by simp, by simp, fun t ht => by rw [List.mem_singleton] at ht; subst ht; exact S, fun j hj h => by omega, fun hi j hj h => by omega⟩
theorem RQ.next (Q : RQ n E s L i k) (hi : i < L.length) (hk : k = (MVL n E L[i]).length) : RQ n E s L (i + 1) 0 :=
 ⟨Q.rg, Q.me, Q.nd, Q.st, fun j hj h p hp => by
  by_cases e : j = i
  ·subst e
   obtain ⟨q, hq, rfl⟩ := List.getElem_of_mem hp
   exact Q.cl2 hj q hq (by omega)
  ·exact Q.cl j hj (by omega) p hp, fun hi j hj h => by omega⟩
theorem RQ.skip (Q : RQ n E s L i k) (hi : i < L.length) (hk : k < (MVL n E L[i]).length) (hm : aft L[i] (MVL n E L[i])[k].1 (MVL n E L[i])[k].2 ∈ L) : RQ n E s L i (k + 1) :=
 ⟨Q.rg, Q.me, Q.nd, Q.st, Q.cl, fun hi' j hj h => by
  by_cases e : j = k
  ·subst e; exact hm
  ·exact Q.cl2 hi' j hj (by omega)⟩
theorem RQ.push (hE : EOK n E) (hn : n ≤ 6) (Q : RQ n E s L i k) (hi : i < L.length) (hk : k < (MVL n E L[i]).length) (hm : aft L[i] (MVL n E L[i])[k].1 (MVL n E L[i])[k].2 ∉ L) : RQ n E s (L ++ [aft L[i] (MVL n E L[i])[k].1 (MVL n E L[i])[k].2]) i (k + 1) := by
 have hc : canM n E L[i] ((MVL n E L[i])[k].1 : Int) ((MVL n E L[i])[k].2 : Int) := MVb_mem (List.getElem_mem hk)
 obtain ⟨u1, u2, u3, u4⟩ := canM_iff.1 hc
 have hiL : (L ++ [aft L[i] (MVL n E L[i])[k].1 (MVL n E L[i])[k].2])[i]'(by simp; omega) = L[i] := by rw [List.getElem_append_left hi]
 refine ⟨fun t ht => ?_, by simp [Q.me], ?_, fun t ht => ?_, fun j hj h p hp => ?_, fun hi' j hj h => ?_⟩
 ·rcases List.mem_append.1 ht with ht | ht
  ·exact Q.rg t ht
  ·rw [List.mem_singleton] at ht; subst ht
   exact (Q.rg L[i] (List.getElem_mem hi)).trans (.step _ _ u1 u2 u3 u4 (by omega) (.refl _))
 ·rw [List.nodup_append]
  refine ⟨Q.nd, by simp, fun a ha b hb e => ?_⟩
  rw [List.mem_singleton] at hb
  subst hb e
  exact hm ha
 ·rcases List.mem_append.1 ht with ht | ht
  ·exact Q.st t ht
  ·rw [List.mem_singleton] at ht; subst ht
   exact ((Q.st L[i] (List.getElem_mem hi)).aft hE hn u1 u2 u3 u4).mono (by omega)
 ·have hjL : j < L.length := by omega
  rw [List.getElem_append_left hjL] at hp ⊢
  exact List.mem_append.2 (.inl (Q.cl j hjL h p hp))
 ·rw [List.mem_append]
  simp only [hiL] at hj ⊢
  by_cases e : j = k
  ·subst e; exact .inr (by simp)
  ·exact .inl (Q.cl2 hi j hj (by omega))
theorem RQ.fin (hE : EOK n E) (Q : RQ n E s L i 0) (hi : i = L.length) (t : Nat → Int) : t ∈ L ↔ Rg n E n s t := by
 refine ⟨Q.rg t, fun h => ?_⟩
 have key : ∀ u w, Rg n E n u w → u ∈ L → w ∈ L := by
  intro u w h
  induction h with
  | refl u => exact id
  | step a b ha hb hadj h2 hg _ ih =>
   intro hu
   obtain ⟨j, hj, rfl⟩ := List.getElem_of_mem hu
   exact ih (Q.cl j hj (by omega) (a, b) (MVb_all ha hb (canM_iff.2 ⟨ha, hb, hadj, h2⟩)))
 exact key s t h Q.me
end
end
end Go.Proofs.YtpkhkghiidilcaaDoor.Sh
