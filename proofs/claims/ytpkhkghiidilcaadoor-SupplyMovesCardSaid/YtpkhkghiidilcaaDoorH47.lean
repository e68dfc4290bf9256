/- Moves are made, one after the other. -/
import Derived.Test.YtpkhkghiidilcaaDoorH46
set_option linter.all false
namespace Go.Proofs.YtpkhkghiidilcaaDoor.Sh
open Go
set_option maxRecDepth 100000
set_option maxHeartbeats 4000000
def tot (s : Nat → Int) : Int := s 0 + s 1 + s 2 + s 3 + s 4 + s 5
theorem tot_up (s : Nat → Int) {a : Nat} (ha : a < 6) (x : Int) : tot (up s a x) = tot s + (x - s a) := by
  have : a = 0 ∨ a = 1 ∨ a = 2 ∨ a = 3 ∨ a = 4 ∨ a = 5 := by omega
  unfold tot up
  rcases this with rfl | rfl | rfl | rfl | rfl | rfl <;> simp <;> omega
structure ST (n : Nat) (s : Nat → Int) (B : Int) : Prop where
  nn : ∀ v, 0 ≤ s v
  out : ∀ v, n ≤ v → s v = 0
  le : tot s ≤ B
theorem ST.bnd {n : Nat} {s : Nat → Int} {B : Int} (S : ST n s B) (hn : n ≤ 6) (v : Nat) : 0 ≤ s v ∧ s v ≤ B := by
  have h := S.le
  have n0 := S.nn 0
  have n1 := S.nn 1
  have n2 := S.nn 2
  have n3 := S.nn 3
  have n4 := S.nn 4
  have n5 := S.nn 5
  unfold tot at h
  refine ⟨S.nn v, ?_⟩
  by_cases c : v < 6
  · have : v = 0 ∨ v = 1 ∨ v = 2 ∨ v = 3 ∨ v = 4 ∨ v = 5 := by omega
    rcases this with rfl | rfl | rfl | rfl | rfl | rfl <;> omega
  · rw [S.out v (by omega)]; omega
theorem canM_nat {n : Nat} {E : List (Int × Int)} {s : Nat → Int} {a b : Int} (h : canM n E s a b) : ∃ p q : Nat, a = p ∧ b = q ∧ p < n ∧ q < n ∧ adjE E p q = true ∧ 2 ≤ s p := by
  obtain ⟨h1, h2, h3, h4⟩ := h
  refine ⟨a.toNat, b.toNat, by omega, by omega, by omega, by omega, h3, h4⟩
theorem aft_at {s : Nat → Int} {a b : Nat} (h : a ≠ b) (v : Nat) : aft s a b v = if v = b then s b + 1 else if v = a then s a - 2 else s v := by
  unfold aft up
  by_cases c : v = b
  · rw [if_pos c, if_pos c, if_neg (fun e => h e.symm)]
  · rw [if_neg c, if_neg c]
theorem aft_tot {s : Nat → Int} {a b : Nat} (ha : a < 6) (hb : b < 6) : tot (aft s a b) = tot s - 1 := by
  unfold aft
  rw [tot_up _ hb, tot_up _ ha]; omega
theorem ST.aft {n : Nat} {E : List (Int × Int)} {s : Nat → Int} {B : Int} (S : ST n s B) (hE : EOK n E) (hn : n ≤ 6) {p q : Nat} (hp : p < n) (hq : q < n) (ha : adjE E p q = true) (h2 : 2 ≤ s p) : ST n (aft s p q) (B - 1) := by
  have hne := (hE.adj ha).2.2
  refine ⟨fun v => ?_, fun v hv => ?_, ?_⟩
  · rw [aft_at hne]
    have := S.nn v
    have := S.nn q
    split
    · omega
    · split
      · omega
      · omega
  · rw [aft_at hne, if_neg (by omega), if_neg (by omega)]; exact S.out v hv
  · rw [aft_tot (by omega) (by omega)]; have := S.le; omega
theorem ST.mono {n : Nat} {s : Nat → Int} {B B' : Int} (S : ST n s B) (h : B ≤ B') : ST n s B' := ⟨S.nn, S.out, by have := S.le; omega⟩
def doM (n : Nat) (E : List (Int × Int)) : (Nat → Int) → List (Int × Int) → (Nat → Int) × Nat
  | s, [] => (s, 0)
  | s, m :: ms => if canM n E s m.1 m.2 then ((doM n E (aft s m.1.toNat m.2.toNat) ms).1, (doM n E (aft s m.1.toNat m.2.toNat) ms).2 + 1) else (s, 0)
theorem doM_cons {n : Nat} {E : List (Int × Int)} {s : Nat → Int} {w : List (Int × Int)} {i : Nat} (hi : i < w.length) : doM n E s (w.drop i) = if canM n E s w[i].1 w[i].2 then ((doM n E (aft s w[i].1.toNat w[i].2.toNat) (w.drop (i + 1))).1, (doM n E (aft s w[i].1.toNat w[i].2.toNat) (w.drop (i + 1))).2 + 1) else (s, 0) := by
  rw [List.drop_eq_getElem_cons hi]; rfl
theorem doM_nil {n : Nat} {E : List (Int × Int)} {s : Nat → Int} {w : List (Int × Int)} {i : Nat} (hi : w.length ≤ i) : doM n E s (w.drop i) = (s, 0) := by
  rw [List.drop_eq_nil_of_le hi]; rfl
theorem mem_bnd {n : Nat} {s : Nat → Int} {B : Int} (S : ST n s B) (hn : n ≤ 6) (hB : B ≤ 500) : ∀ x ∈ lst n s, -500 ≤ x ∧ x ≤ 500 := fun x hx => by
  unfold lst at hx
  obtain ⟨v, _, rfl⟩ := List.mem_map.1 hx
  have := S.bnd hn v
  omega
theorem aft_congr {n : Nat} {s s' : Nat → Int} (h : ∀ v, v < n → s v = s' v) {a b : Nat} (ha : a < n) (hb : b < n) : ∀ v, v < n → aft s a b v = aft s' a b v := fun v hv => by
  have h1 := h a ha
  have h2 := h b hb
  have h3 := h v hv
  unfold aft up
  split
  · split
    · rw [h1]
    · rw [h2]
  · split
    · rw [h1]
    · exact h3
theorem canM_congr {n : Nat} {E : List (Int × Int)} {s s' : Nat → Int} (h : ∀ v, v < n → s v = s' v) {a b : Int} : canM n E s a b ↔ canM n E s' a b := by
  unfold canM
  constructor
  · rintro ⟨h1, h2, h3, h4⟩; exact ⟨h1, h2, h3, by rw [← h _ (by omega)]; exact h4⟩
  · rintro ⟨h1, h2, h3, h4⟩; exact ⟨h1, h2, h3, by rw [h _ (by omega)]; exact h4⟩
theorem IS.lstAt {h : SHeap} {b n c : Nat} {s : Nat → Int} {el : TypeId} {pf : Bool} {own : Nat} {old : List Nat} (hb : h[b]? = some (.cells (iV n s) el pf own old)) (hr : readable own = true) : IS h (.slice (some ⟨b, 0, none⟩) n c) (lst n s) := by
  refine ⟨some ⟨b, 0, none⟩, c, by rw [lst_len], fun _ => ⟨b, 0, rfl, (List.getElem?_eq_some_iff.1 hb).1, fun i hi => ?_⟩⟩
  rw [lst_len] at hi
  have := load_cell (h := h) (o := i) hb hr (iV_get s hi) []
  rw [List.append_nil] at this
  rw [Nat.zero_add, this]
  simp [lst]
def DV (H h : SHeap) (lv v : Value) (n i : Nat) (s : Nat → Int) : Prop := (i = 0 ∧ v = lv) ∨ (0 < i ∧ ∃ b, v = .slice (some ⟨b, 0, none⟩) n (UNK + 1) ∧ H.length ≤ b ∧ h[b]? = some (.cells (iV n s) 3 true 0 []))
theorem do46_loop (cx : Cx) {H : SHeap} {n : Nat} (hn : n ≤ 6) (hn1 : 1 ≤ n) {ev lv wv : Value} {E w : List (Int × Int)} {l : List Int} (hE : EOK n E) (hv : PS H ev E) (hlen : E.length ≤ 1000000) (hs : IS H lv l) (hl : l.length = n) (hw : PS H wv w) (hwl : w.length ≤ 1000000) :
    ∀ k ρ ms h' d', (∃ (i : Nat) (s : Nat → Int) (v : Value), i + k = w.length ∧ ST n s 40 ∧ (i = 0 → s = stk l) ∧ doM n E (stk l) w = ((doM n E s (w.drop i)).1, (doM n E s (w.drop i)).2 + i) ∧ H.length ≤ h'.length ∧ (∀ j, j < H.length → h'[j]? = H[j]?) ∧ DV H h' lv v n i s ∧ ρ 0 = .int .i64 n ∧ ρ 1 = ev ∧ ρ 2 = v ∧ ρ 3 = wv ∧ ρ 10 = .int .i64 i ∧ ms = [] ∧ d' = []) →
    LoopW M cx 6 sf46L0 ρ ms h' d' (fun ex ρ' ms' h' d' => ms' = [] ∧ d' = [] ∧ H.length ≤ h'.length ∧ (∀ j, j < H.length → h'[j]? = H[j]?) ∧ ∃ v, DV H h' lv v n (doM n E (stk l) w).2 (doM n E (stk l) w).1 ∧ ((ex = .exit 0 ∧ (doM n E (stk l) w).2 = w.length ∧ ρ' 2 = v ∧ ρ' 3 = wv) ∨ (ex = .ret ∧ ρ' 8 = v ∧ ρ' 9 = .int .i64 (doM n E (stk l) w).2))) := by
  refine loop_run _ ?_
  rintro k ρ ms h' d' ⟨i, s, v, hk, S, hs0, hd, hle, fr, D, r0, r1, r2, r3, r10, rfl, rfl⟩
  unfold sf46L0
  by_cases c : k = 0
  · have e1 : ¬ ((i : Int) < w.length) := by omega
    obtain ⟨wa, wc, rfl, _⟩ := id hw
    rw [doM_nil (by omega)] at hd
    repeat (first | apply Z1 | apply Z2 | apply Z3 | apply Z4 | apply Z5 rfl | apply Z6 | apply Z7 | apply Z8 | apply Z9 | apply ZA | apply ZB | apply ZC | ((first | apply ZD (by decide) | apply ZN (by decide)); (simp (maxSteps := 9999999) only [go_sem, r3, r10, e1]; rfl)) | (refine ZE ?_ ?_; · simp only [go_sem]) | (refine ZF ?_ ?_; · simp only [go_sem]))
    refine end_nil ⟨rfl, rfl, hle, fr, v, ?_, .inl ⟨rfl, ?_, by simp only [go_sem, r2], by simp only [go_sem, r3]⟩⟩
    · rw [hd]; dsimp only; rw [Nat.zero_add]; exact D
    · rw [hd]; dsimp only; omega
  · have e1 : ((i : Int) < w.length) := by omega
    have hi : i < w.length := by omega
    have z1 : (0 : Int) ≤ i := by omega
    have ew : IntKind.i64.wrap ((i : Int) + 1) = ((i + 1 : Nat) : Int) := by rw [wrap64 (by omega) (by omega)]; rfl
    rw [doM_cons hi] at hd
    obtain ⟨bw, ow, cw, rfl, hp⟩ := (hw.fr fr).ld (by intro e; rw [e] at hi; simp at hi)
    have lp := hp.loadN hi
    have hsl : IS h' v (lst n s) := by
      rcases D with ⟨h0, rfl⟩ | ⟨_, b, rfl, _, hb⟩
      · rw [hs0 h0, lst_stk hl]; exact hs.fr hle fr
      · exact IS.lstAt hb rfl
    have cm := move47 hn (hv.fr fr) hlen hsl (lst_len _ _) (mem_bnd S hn (by omega)) hn1 w[i].1 w[i].2
    have hcc : canM n E (stk (lst n s)) w[i].1 w[i].2 ↔ canM n E s w[i].1 w[i].2 := canM_congr (fun v hv => lst_at s hv)
    generalize w[i] = m at *
    by_cases cc : canM n E s m.1 m.2
    · rw [if_pos (hcc.2 cc)] at cm
      rw [if_pos cc] at hd
      obtain ⟨p, q, h1, h2, h3, h4, h5, h6⟩ := canM_nat cc
      rw [h1, h2, Int.toNat_natCast, Int.toNat_natCast] at cm hd
      rw [h1, h2] at lp
      rw [iV_congr (aft_congr (fun v hv => lst_at s hv) h3 h4)] at cm
      repeat (first | apply Z1 | apply Z2 | apply Z3 | apply Z4 | apply Z5 rfl | apply Z6 | apply Z7 | apply Z8 | apply Z9 | apply ZA | apply ZB | apply ZC | ((first | apply ZD (by decide) | apply ZN (by decide)); (simp (maxSteps := 9999999) only [go_sem, r0, r1, r2, r3, r10, e1, z1, lp, cm, ew, Int.toNat_natCast]; rfl)) | (refine ZE ?_ ?_; · simp only [go_sem]) | (refine ZF ?_ ?_; · simp only [go_sem]))
      refine end_nil ⟨k - 1, by omega, i + 1, aft s p q, _, by omega, (S.aft hE hn h3 h4 h5 h6).mono (by omega), fun h => by omega, ?_, by simp; omega, fun j hj => by rw [List.getElem?_append_left (by omega)]; exact fr j hj, .inr ⟨by omega, h'.length, rfl, hle, by simp⟩, by simp only [go_sem, r0], by simp only [go_sem, r1], by simp only [go_sem], by simp only [go_sem, r3], by simp only [go_sem, ew], rfl, rfl⟩
      rw [hd]; dsimp only; rw [Nat.add_assoc, Nat.add_comm 1 i]
    · rw [if_neg (fun h => cc (hcc.1 h))] at cm
      rw [if_neg cc] at hd
      repeat (first | apply Z1 | apply Z2 | apply Z3 | apply Z4 | apply Z5 rfl | apply Z6 | apply Z7 | apply Z8 | apply Z9 | apply ZA | apply ZB | apply ZC | ((first | apply ZD (by decide) | apply ZN (by decide)); (simp (maxSteps := 9999999) only [go_sem, r0, r1, r2, r3, r10, e1, z1, lp, cm, Int.toNat_natCast]; rfl)) | (refine ZE ?_ ?_; · simp only [go_sem]) | (refine ZF ?_ ?_; · simp only [go_sem]))
      refine end_nil ⟨rfl, rfl, hle, fr, v, ?_, .inr ⟨rfl, by simp only [go_sem, r2], ?_⟩⟩
      · rw [hd]; dsimp only; rw [Nat.zero_add]; exact D
      · rw [hd]; dsimp only; rw [Nat.zero_add]; simp only [go_sem, r10]
theorem do46 {H : SHeap} {n : Nat} (hn : n ≤ 6) (hn1 : 1 ≤ n) {ev lv wv : Value} {E w : List (Int × Int)} {l : List Int} (hE : EOK n E) (hv : PS H ev E) (hlen : E.length ≤ 1000000) (hs : IS H lv l) (hl : l.length = n) (hS : ST n (stk l) 40) (hw : PS H wv w) (hwl : w.length ≤ 1000000) :
    M.call 46 [.int .i64 n, ev, lv, wv] H = some (if (doM n E (stk l) w).2 = 0 then (.tuple #[lv, .int .i64 0], H, []) else (.tuple #[.slice (some ⟨H.length, 0, none⟩) n (UNK + 1), .int .i64 (doM n E (stk l) w).2], H ++ [.cells (iV n (doM n E (stk l) w).1) 3 true 0 []], [])) := by
  refine call_run sf46 rfl rfl rfl ?_
  have hne : l ≠ [] := fun e => by subst e; simp at hl; omega
  obtain ⟨va, vc, rfl, _⟩ := id hv
  obtain ⟨wa, wc, rfl, _⟩ := id hw
  obtain ⟨sa, sc', rfl, hs2⟩ := id hs
  obtain ⟨bs, os, rfl, hbs, il⟩ := hs2 hne
  have done : ∀ (ρ : Reg) (h : SHeap) (v : Value) (k : Nat) (s : Nat → Int), h.take H.length = H → DV H h (.slice (some ⟨bs, os, none⟩) l.length sc') v n k s → ρ 8 = v → ρ 9 = .int .i64 k → callQ [.tmp 8, .tmp 9] H.length (if k = 0 then (.tuple #[.slice (some ⟨bs, os, none⟩) l.length sc', .int .i64 0], H, []) else (.tuple #[.slice (some ⟨H.length, 0, none⟩) n (UNK + 1), .int .i64 k], H ++ [.cells (iV n s) 3 true 0 []], [])) .ret ρ [] h [] := fun ρ h v k s ht D e1 e2 => by
    rcases D with ⟨rfl, rfl⟩ | ⟨h0, b, rfl, hb1, hb2⟩
    · rw [if_pos rfl]
      exact q_gc [.slice (some ⟨bs, os, none⟩) l.length sc', .int .i64 0] (by simp only [go_sem, e1, e2]) rfl (gc_old2 rfl hbs ht) rfl
    · rw [if_neg (by omega)]
      exact q_own2 (b := b) (old := []) (own := 0) (w := .int .i64 k) e1 e2 rfl ht hb2 rfl hb1
  unfold sf46
  repeat (first | apply Z1 | apply Z2 | apply Z3 | apply Z4 | apply Z5 rfl | apply Z6 | apply Z7 | apply Z8 | apply Z9 | apply ZA | apply ZB | apply ZC | ((first | apply ZD (by decide) | apply ZN (by decide)); (simp (maxSteps := 9999999) only [go_sem, argR]; rfl)) | (refine ZE ?_ ?_; · simp only [go_sem]) | (refine ZF ?_ ?_; · simp only [go_sem]))
  refine run_loop (do46_loop _ hn hn1 hE hv hlen hs hl hw hwl w.length _ _ _ _ ⟨0, stk l, _, by omega, hS, fun _ => rfl, rfl, Nat.le_refl _, fun j _ => rfl, .inl ⟨rfl, rfl⟩, by simp only [go_sem, argR], by simp only [go_sem, argR], by simp only [go_sem, argR], by simp only [go_sem, argR], by simp only [go_sem], rfl, rfl⟩) ?_
  rintro ex ρ2 ms2 h2 d2 ⟨rfl, rfl, hle, fr, v, D, h⟩
  have ht := take_of_same hle fr
  rcases h with ⟨rfl, hk, r2, r3⟩ | ⟨rfl, r8, r9⟩
  · repeat (first | apply Z1 | apply Z2 | apply Z3 | apply Z4 | apply Z5 rfl | apply Z6 | apply Z7 | apply Z8 | apply Z9 | apply ZA | apply ZB | apply ZC | ((first | apply ZD (by decide) | apply ZN (by decide)); (simp (maxSteps := 9999999) only [go_sem, r2, r3]; rfl)) | (refine ZE ?_ ?_; · simp only [go_sem]) | (refine ZF ?_ ?_; · simp only [go_sem]))
    exact end_nil (done _ _ v _ _ ht D (by simp only [go_sem]) (by simp only [go_sem]; rw [hk]))
  · repeat (first | apply Z1 | apply Z2 | apply Z3 | apply Z4 | apply Z5 rfl | apply Z6 | apply Z7 | apply Z8 | apply Z9 | apply ZA | apply ZB | apply ZC | ((first | apply ZD (by decide) | apply ZN (by decide)); (simp (maxSteps := 9999999) only [go_sem, r8, r9]; rfl)) | (refine ZE ?_ ?_; · simp only [go_sem]) | (refine ZF ?_ ?_; · simp only [go_sem]))
    exact end_nil (done _ _ v _ _ ht D (by simp only [go_sem, r8]) (by simp only [go_sem, r9]))
theorem done_loop (cx : Cx) {H : SHeap} {n g : Nat} (hn : n ≤ 6) {wv : Value} {E w : List (Int × Int)} {s0 : Nat → Int} (hE : EOK n E) (hg : GAt H g n E) (hw : PS H wv w) (hwl : w.length ≤ 1000000) {x5 : SO} :
    ∀ k ρ ms h' d', (∃ (i : Nat) (s : Nat → Int), i + k = w.length ∧ ST n s 40 ∧ doM n E s0 w = ((doM n E s (w.drop i)).1, (doM n E s (w.drop i)).2 + i) ∧ H.length + 2 ≤ h'.length ∧ (∀ j, j < H.length → h'[j]? = H[j]?) ∧ h'[H.length]? = some (.cells (iV 6 s) 87 true 0 []) ∧ h'[H.length + 1]? = some x5 ∧ ρ 0 = .pointer (some ⟨g, 0, none⟩) ∧ ρ 4 = .pointer (some ⟨H.length, 0, none⟩) ∧ ρ 6 = .pointer (some ⟨H.length + 1, 0, none⟩) ∧ ρ 8 = .int .i64 i ∧ ρ 12 = wv ∧ ρ 13 = .int .i64 w.length ∧ ρ 14 = .int .i64 i ∧ ms = [] ∧ d' = []) →
    LoopW M cx 6 sf65L0 ρ ms h' d' (fun ex ρ' ms' h' d' => ex = .exit 0 ∧ ms' = [] ∧ d' = [] ∧ H.length + 2 ≤ h'.length ∧ (∀ j, j < H.length → h'[j]? = H[j]?) ∧ h'[H.length]? = some (.cells (iV 6 (doM n E s0 w).1) 87 true 0 []) ∧ h'[H.length + 1]? = some x5 ∧ ρ' 4 = .pointer (some ⟨H.length, 0, none⟩) ∧ ρ' 6 = .pointer (some ⟨H.length + 1, 0, none⟩) ∧ ρ' 8 = .int .i64 (doM n E s0 w).2) := by
  refine loop_run _ ?_
  rintro k ρ ms h' d' ⟨i, s, hk, S, hd, hle, fr, hb, h5, r0, r4, r6, r8, r12, r13, r14, rfl, rfl⟩
  unfold sf65L0
  by_cases c : k = 0
  · have e1 : ¬ ((i : Int) < w.length) := by omega
    rw [doM_nil (by omega)] at hd
    repeat (first | apply Z1 | apply Z2 | apply Z3 | apply Z4 | apply Z5 rfl | apply Z6 | apply Z7 | apply Z8 | apply Z9 | apply ZA | apply ZB | apply ZC | ((first | apply ZD (by decide) | apply ZN (by decide)); (simp (maxSteps := 9999999) only [go_sem, r13, r14, e1]; rfl)) | (refine ZE ?_ ?_; · simp only [go_sem]) | (refine ZF ?_ ?_; · simp only [go_sem]))
    exact end_nil ⟨rfl, rfl, rfl, hle, fr, by rw [hd]; exact hb, h5, by simp only [go_sem, r4], by simp only [go_sem, r6], by rw [hd]; dsimp only; rw [Nat.zero_add]; simp only [go_sem, r8]⟩
  · have e1 : ((i : Int) < w.length) := by omega
    have hi : i < w.length := by omega
    have z1 : (0 : Int) ≤ i := by omega
    have ew : IntKind.i64.wrap ((i : Int) + 1) = ((i + 1 : Nat) : Int) := by rw [wrap64 (by omega) (by omega)]; rfl
    rw [doM_cons hi] at hd
    obtain ⟨bw, ow, cw, rfl, hp⟩ := (hw.fr fr).ld (by intro e; rw [e] at hi; simp at hi)
    have lp := hp.loadN hi
    have hgl := (List.getElem?_eq_some_iff.1 hg).1
    have hg' : GAt h' g n E := by unfold GAt; rw [fr g hgl]; exact hg
    generalize w[i] = m at *
    have l4 : ∀ x, loadS (h' ++ x) (some 6) (.pointer (some ⟨H.length, 0, none⟩)) = some (stV s) := fun x => load_all hb rfl (iV_len _ _) x
    have l10 : ∀ x, loadS (h' ++ SO.cells [.int .i64 m.1, .int .i64 m.2] 45 true 0 [] :: x) none (.pointer (some ⟨h'.length, 0, none⟩)) = some (.int .i64 m.1) := fun x => (two_ld h' m.1 m.2 x).1
    have l11 : ∀ x, loadS (h' ++ SO.cells [.int .i64 m.1, .int .i64 m.2] 45 true 0 [] :: x) none (.pointer (some ⟨h'.length, 1, none⟩)) = some (.int .i64 m.2) := fun x => (two_ld h' m.1 m.2 x).2
    have cn := can78 hE hn (hg'.app [SO.cells [.int .i64 m.1, .int .i64 m.2] 45 true 0 [], SO.cells [.int .i64 m.1, .int .i64 m.2] 106 true 0 []]) s m.1 m.2
    by_cases cc : canM n E s m.1 m.2
    · simp only [decide_eq_true cc] at cn
      rw [if_pos cc] at hd
      obtain ⟨p, q, h1, h2, h3, h4, h5', h6⟩ := canM_nat cc
      have bp := S.bnd hn p
      have bq := S.bnd hn q
      rw [h1, h2, Int.toNat_natCast, Int.toNat_natCast] at hd
      rw [h1, h2] at lp cn l10 l11
      have ca := aft79 (h := h' ++ [SO.cells [.int .i64 p, .int .i64 q] 45 true 0 [], SO.cells [.int .i64 p, .int .i64 q] 106 true 0 []]) (s := s) (a := p) (b := q) (by omega) (by omega) (by omega) (by omega)
      have hst : ∀ base d, storeS base (h' ++ [SO.cells [.int .i64 p, .int .i64 q] 45 true 0 [], SO.cells [.int .i64 p, .int .i64 q] 106 true 0 []]) d H.length 0 (cellsL (stV (aft s p q))) = some ((h' ++ [SO.cells [.int .i64 p, .int .i64 q] 45 true 0 [], SO.cells [.int .i64 p, .int .i64 q] 106 true 0 []]).set H.length (SO.cells (iV 6 (aft s p q)) 87 true 0 []), d) := fun base d =>
        store_at (b := H.length) (cs := iV 6 s) (vs := iV 6 (aft s p q)) (pf := true) (by rw [List.getElem?_append_left (by omega)]; exact hb) rfl (by rw [iV_len]; decide) rfl (fun _ => rfl) d
      repeat (first | apply Z1 | apply Z2 | apply Z3 | apply Z4 | apply Z5 rfl | apply Z6 | apply Z7 | apply Z8 | apply Z9 | apply ZA | apply ZB | apply ZC | ((first | apply ZD (by decide) | apply ZN (by decide)); (simp (maxSteps := 9999999) only [go_sem, r0, r4, r6, r8, r12, r13, r14, e1, z1, lp, ↓l4, cn, ca, ↓hst, ew, Int.toNat_natCast]; rfl)) | (refine ZE ?_ ?_; · simp only [go_sem]) | (refine ZF ?_ ?_; · simp only [go_sem]))
      refine end_nil ⟨k - 1, by omega, i + 1, aft s p q, by omega, (S.aft hE hn h3 h4 h5' h6).mono (by omega), ?_, by simp; omega, fun j hj => by rw [List.getElem?_set_ne (by omega), List.getElem?_append_left (by omega)]; exact fr j hj, by rw [List.getElem?_set_self (by simp; omega)], by rw [List.getElem?_set_ne (by omega), List.getElem?_append_left (by omega)]; exact h5, by simp only [go_sem, r0], by simp only [go_sem, r4], by simp only [go_sem, r6], by simp only [go_sem, ew], by simp only [go_sem, r12], by simp only [go_sem, r13], by simp only [go_sem, ew], rfl, rfl⟩
      rw [hd]; dsimp only; rw [Nat.add_assoc, Nat.add_comm 1 i]
    · simp only [decide_eq_false cc] at cn
      rw [if_neg cc] at hd
      repeat (first | apply Z1 | apply Z2 | apply Z3 | apply Z4 | apply Z5 rfl | apply Z6 | apply Z7 | apply Z8 | apply Z9 | apply ZA | apply ZB | apply ZC | ((first | apply ZD (by decide) | apply ZN (by decide)); (simp (maxSteps := 9999999) only [go_sem, r0, r4, r6, r8, r12, r13, r14, e1, z1, lp, ↓l4, cn, Int.toNat_natCast]; rfl)) | (refine ZE ?_ ?_; · simp only [go_sem]) | (refine ZF ?_ ?_; · simp only [go_sem]))
      refine end_nil ⟨rfl, rfl, rfl, by simp; omega, fun j hj => by rw [List.getElem?_append_left (by omega)]; exact fr j hj, by rw [hd, List.getElem?_append_left (by omega)]; exact hb, by rw [List.getElem?_append_left (by omega)]; exact h5, by simp only [go_sem, r4], by simp only [go_sem, r6], by rw [hd]; dsimp only; rw [Nat.zero_add]; simp only [go_sem, r8]⟩
theorem done65 {H : SHeap} {n g : Nat} (hn : n ≤ 6) {wv : Value} {E w : List (Int × Int)} {s : Nat → Int} (hE : EOK n E) (hg : GAt H g n E) (hw : PS H wv w) (hwl : w.length ≤ 1000000) (hS : ST n s 40) :
    M.call 65 [.pointer (some ⟨g, 0, none⟩), stV s, wv] H = some (.tuple #[stV (doM n E s w).1, .int .i64 (doM n E s w).2], H, []) := by
  refine call_run sf65 rfl rfl rfl ?_
  obtain ⟨wa, wc, rfl, _⟩ := id hw
  unfold sf65
  rw [stV_def s]
  repeat (first | apply Z1 | apply Z2 | apply Z3 | apply Z4 | apply Z5 rfl | apply Z6 | apply Z7 | apply Z8 | apply Z9 | apply ZA | apply ZB | apply ZC | ((first | apply ZD (by decide) | apply ZN (by decide)); (simp (maxSteps := 9999999) only [go_sem, argR]; rfl)) | (refine ZE ?_ ?_; · simp only [go_sem]) | (refine ZF ?_ ?_; · simp only [go_sem]))
  refine run_loop (done_loop _ hn hE hg hw hwl (s0 := s) (x5 := .cells (iV 6 (fun _ => 0)) 87 true 0 []) w.length _ _ _ _ ⟨0, s, by omega, hS, rfl, by simp, fun j hj => List.getElem?_append_left hj, by rw [app_get0]; rfl, by rw [app_get]; rfl, by simp only [go_sem, argR], by simp only [go_sem], by simp only [go_sem], by simp only [go_sem], by simp only [go_sem], by simp only [go_sem], by simp only [go_sem], rfl, rfl⟩) ?_
  rintro ex ρ2 ms2 h2 d2 ⟨rfl, rfl, rfl, hle, fr, hb, h5, r4, r6, r8⟩
  generalize (doM n E s w).1 = t at *
  generalize (doM n E s w).2 = k at *
  have l4 : loadS h2 (some 6) (.pointer (some ⟨H.length, 0, none⟩)) = some (stV t) := by
    have := load_all hb rfl (iV_len _ _) []
    rw [List.append_nil] at this; exact this
  have hst : ∀ base d, storeS base h2 d (H.length + 1) 0 (cellsL (stV t)) = some (h2.set (H.length + 1) (SO.cells (iV 6 t) 87 true 0 []), d) := fun base d =>
    store_at (b := H.length + 1) (cs := iV 6 (fun _ => 0)) (vs := iV 6 t) (pf := true) h5 rfl (by rw [iV_len]; decide) rfl (fun _ => rfl) d
  repeat (first | apply Z1 | apply Z2 | apply Z3 | apply Z4 | apply Z5 rfl | apply Z6 | apply Z7 | apply Z8 | apply Z9 | apply ZA | apply ZB | apply ZC | ((first | apply ZD (by decide) | apply ZN (by decide)); (simp (maxSteps := 9999999) only [go_sem, r4, r6, r8, l4, ↓hst]; rfl)) | (refine ZE ?_ ?_; · simp only [go_sem]) | (refine ZF ?_ ?_; · simp only [go_sem]))
  have l6 : loadS (h2.set (H.length + 1) (SO.cells (iV 6 t) 87 true 0 [])) (some 6) (.pointer (some ⟨H.length + 1, 0, none⟩)) = some (stV t) := by
    have := load_all (h := h2.set (H.length + 1) (SO.cells (iV 6 t) 87 true 0 [])) (b := H.length + 1) (n := 6) (cs := iV 6 t) (el := 87) (pf := true) (own := 0) (old := []) (by rw [List.getElem?_set_self (by omega)]) rfl (iV_len _ _) []
    rw [List.append_nil] at this; exact this
  exact end_nil (q_free [stV t, .int .i64 k] (by simp only [go_sem, r6, l6]) rfl rfl rfl (fun _ => rfl) (take_of_same (by simp; omega) (fun j hj => by rw [List.getElem?_set_ne (by omega)]; exact fr j hj)) rfl)
theorem SupOK.st {n : Nat} {l : List Int} (h : SupOK n l) (hn : n ≤ 6) : ST n (stk l) 40 := by
  have hl : l.length = n := by have := h.1; omega
  refine ⟨fun v => (stk_bnd h v).1, fun v hv => stk_out (by omega), ?_⟩
  have h3 := h.2.2
  have key : ∀ (l : List Int), l.length ≤ 6 → tot (stk l) = l.sum := fun l hl => by
    unfold tot
    match l, hl with
    | [], _ => rfl
    | [a], _ => simp [stk]
    | [a, b], _ => simp [stk]
    | [a, b, c], _ => simp [stk]; omega
    | [a, b, c, d], _ => simp [stk]; omega
    | [a, b, c, d, e], _ => simp [stk]; omega
    | [a, b, c, d, e, f], _ => simp [stk]; omega
  rw [key l (by omega)]; exact h3
end Go.Proofs.YtpkhkghiidilcaaDoor.Sh

namespace Go.Proofs.YtpkhkghiidilcaaDoor.Sh
open Go
set_option maxRecDepth 100000
set_option maxHeartbeats 4000000
theorem gc_own3 {H h : SHeap} {b o n c : Nat} {cs : List Value} {el : TypeId} {own : Nat} {old : List Nat} {w w2 : Value} (hw : flat 1 w = true) (hw2 : flat 1 w2 = true) (ht : h.take H.length = H) (hb : h[b]? = some (.cells cs el true own old)) (h2 : (own == 2) = false) (hle : H.length ≤ b) :
    gcS H.length (.tuple #[.slice (some ⟨b, o, none⟩) n c, w, w2]) h = some (.tuple #[.slice (some ⟨H.length, o, none⟩) n c, w, w2], H ++ [.cells cs el true own (old.filterMap (ren H.length [b]))]) := by
  have eb : Nat.ble H.length b = true := by rw [ble_dec]; simpa using hle
  have e1 : reach H.length h 1000000 [b] [] = [b] := by
    rw [show (1000000 : Nat) = 999998 + 1 + 1 from rfl, reach]
    simp only [eb, List.contains_nil, Bool.not_true, Bool.or_self, Bool.false_eq_true, if_false, hb, ptrsO, Bool.true_or, if_true, List.nil_append]
    rw [reach]
  have e2 : ren H.length [b] b = some H.length := by simp [ren, eb, posOf]
  have hp : ∀ {w}, flat 1 w = true → ptrs 2 w = [] ∧ ∀ K, renV H.length K 2 w = some w := fun {w} hw => ⟨ptrs_flat 2 w (flat_up _ _ hw), fun K => renV_flat 2 w (flat_up _ _ hw)⟩
  have e4 : ptrs 3 (.tuple #[.slice (some ⟨b, o, none⟩) n c, w, w2]) = [b] := by
    show ptrs 2 (.slice (some ⟨b, o, none⟩) n c) ++ (ptrs 2 w ++ (ptrs 2 w2 ++ [])) = [b]
    rw [(hp hw).1, (hp hw2).1]; rfl
  have e3 := (hp hw).2 [b]
  have e5 := (hp hw2).2 [b]
  unfold gcS
  simp only [e4, e1, renV, e2, e3, e5, mapO, renO, hb, h2, Bool.false_eq_true, if_false, if_true, ht]
section
variable {H : SHeap} {v sv wv : Value} {E w : List (Int × Int)} {l : List Int}
theorem do45 {n : Nat} (hv : PS H v E) (hlen : E.length ≤ 1000000) (he : errG n E = 0) (hs : IS H sv l) (hsl : l.length ≤ 1000000) (hl : SupOK n l) (hw : PS H wv w) (hwl : w.length ≤ 1000000) :
    M.call 45 [.int .i64 n, v, sv, wv] H = some (.tuple #[.slice (some ⟨H.length, 0, none⟩) n (UNK + 1), .int .i64 (doM n E (stk l) w).2, .int .i64 0], H ++ [.cells (iV n (doM n E (stk l) w).1) 3 true 0 []], []) := by
  refine call_run sf45 rfl rfl rfl ?_
  obtain ⟨m, e, h1, h2, h3, h4⟩ := errG_ok he
  obtain rfl : n = m := by omega
  have o := openAt_ok hv hlen he hs hsl hl (place := 0) (by omega)
  have o' : M.call 53 [.int .i64 n, v, sv, .int .i64 0] H = some (.tuple #[.pointer (some ⟨H.length, 0, none⟩), stV (stk l), .int .i64 0], H ++ [gE n E], []) := o
  obtain ⟨va, vc, rfl, _⟩ := id hv
  obtain ⟨wa, wc, rfl, _⟩ := id hw
  obtain ⟨sa, sc, rfl, _⟩ := id hs
  have S := hl.st h2
  generalize stk l = s at *
  have l9 : loadS (H ++ [gE n E, .cells (iV 6 s) 87 true 0 []]) (some 6) (.pointer (some ⟨H.length + 1, 0, none⟩)) = some (stV s) := by
    have := load_all (h := H ++ [gE n E, .cells (iV 6 s) 87 true 0 []]) (b := H.length + 1) (n := 6) (cs := iV 6 s) (el := 87) (pf := true) (own := 0) (old := []) (by rw [app_get]; rfl) rfl (iV_len _ _) []
    rw [List.append_nil] at this; exact this
  have dn := done65 (H := H ++ [gE n E, .cells (iV 6 s) 87 true 0 []]) (g := H.length) h2 (w := w) h3 (by unfold GAt; rw [app_get0]; rfl) (hw.app _) hwl S
  generalize (doM n E s w).1 = t at *
  generalize (doM n E s w).2 = k at *
  have hst : ∀ base d, storeS base (H ++ [gE n E, .cells (iV 6 s) 87 true 0 []]) d (H.length + 1) 0 (cellsL (stV t)) = some (H ++ [gE n E, .cells (iV 6 t) 87 true 0 []], d) := fun base d => by
    have := store_at (h := H ++ [gE n E, .cells (iV 6 s) 87 true 0 []]) (base := base) (b := H.length + 1) (cs := iV 6 s) (vs := iV 6 t) (el := 87) (pf := true) (by rw [app_get]; rfl) rfl (by rw [iV_len]; decide) rfl (fun _ => rfl) d
    rw [List.set_append_right _ _ (by omega), Nat.add_sub_cancel_left] at this
    exact this
  have sa2 := sliceArr_hi (b := H.length + 1) (o := 0) (m := 6) (n := n) (size := 1) h2 (by decide) (by decide)
  have cl := clone61 (H := H ++ [gE n E, .cells (iV 6 t) 87 true 0 []]) (b := H.length + 1) (o := 0) (n := n) (c := 6) (cs := iV n t) (by omega) (by
    rw [rdN_at (cs := iV 6 t) (el := 87) (pf := true) (own := 0) (old := []) (by rw [app_get]; rfl) rfl (by rw [iV_len]; omega)]
    congr 1
    apply List.ext_getElem?
    intro i
    by_cases c : i < n
    · rw [List.getElem?_take_of_lt c, List.drop_zero, iV_get _ (by omega), iV_get _ c]
    · rw [List.getElem?_eq_none (by rw [List.length_take]; omega), List.getElem?_eq_none (by rw [iV_len]; omega)]) (iV_len _ _) (iV_sc _ _) (by omega) (by simp)
  rw [List.append_assoc, List.length_append] at cl
  have cl' : M.call 61 [.slice (some ⟨H.length + 1, 0, none⟩) n 6] (H ++ [gE n E, .cells (iV 6 t) 87 true 0 []]) = some (.slice (some ⟨H.length + 2, 0, none⟩) n (UNK + 1), H ++ [gE n E, .cells (iV 6 t) 87 true 0 [], .cells (iV n t) 3 true 0 []], []) := cl
  unfold sf45
  repeat (first | apply Z1 | apply Z2 | apply Z3 | apply Z4 | apply Z5 rfl | apply Z6 | apply Z7 | apply Z8 | apply Z9 | apply ZA | apply ZB | apply ZC | ((first | apply ZD (by decide) | apply ZN (by decide)); (simp (maxSteps := 9999999) only [go_sem, argR, o', wst, l9, dn, ↓hst, ↓sa2, cl']; rfl)) | (refine ZE ?_ ?_; · simp only [go_sem]) | (refine ZF ?_ ?_; · simp only [go_sem]))
  exact end_nil (q_gc [.slice (some ⟨H.length + 2, 0, none⟩) n (UNK + 1), .int .i64 k, .int .i64 0] (by simp only [go_sem]) rfl (gc_own3 (b := H.length + 2) (old := []) (own := 0) rfl rfl (by simp) (by rw [app_get]; rfl) rfl (by omega)) rfl)
end
end Go.Proofs.YtpkhkghiidilcaaDoor.Sh

namespace Go.Proofs.YtpkhkghiidilcaaDoor.Sh
open Go
set_option maxRecDepth 100000
set_option maxHeartbeats 4000000
theorem u64_mod' (z n : Int) (h0 : 0 < n) : 0 ≤ (IntKind.u64.wrap z).tmod n ∧ (IntKind.u64.wrap z).tmod n < n := by
  have hu : 0 ≤ IntKind.u64.wrap z := by
    have e1 : IntKind.u64.wrap z = z % 18446744073709551616 := by simp [IntKind.wrap, IntKind.signed, IntKind.bits]
    rw [e1]; exact Int.emod_nonneg _ (by decide)
  rw [Int.tmod_eq_emod_of_nonneg hu]
  exact ⟨Int.emod_nonneg _ (by omega), Int.emod_lt_of_pos _ h0⟩
def uR (x : Int) (m : Nat) : Nat := ((IntKind.u64.wrap x).tmod m).toNat
theorem uR_eq (x : Int) {m : Nat} (h : 0 < m) : (IntKind.u64.wrap x).tmod m = uR x m := by
  have := u64_mod' x m (by omega)
  unfold uR; omega
theorem uR_lt (x : Int) {m : Nat} (h : 0 < m) : uR x m < m := by
  have := u64_mod' x m (by omega)
  unfold uR; omega
def bV (f : Nat → Bool) : List Value := (List.range 36).map (fun i => Value.bool (f i))
theorem bV_len (f : Nat → Bool) : (bV f).length = 36 := by simp [bV]
theorem bV_get (f : Nat → Bool) {i : Nat} (h : i < 36) : (bV f)[i]? = some (.bool (f i)) := by simp [bV, h]
theorem bV_set (f : Nat → Bool) {i : Nat} (h : i < 36) (x : Bool) : (bV f).set i (.bool x) = bV (up f i x) := by
  apply List.ext_getElem?
  intro j
  by_cases e : j = i
  · subst e
    rw [List.getElem?_set_self (by rw [bV_len]; exact h), bV_get _ h]; simp [up]
  · rw [List.getElem?_set_ne (fun k => e k.symm)]
    by_cases c : j < 36
    · rw [bV_get _ c, bV_get _ c]; simp [up, e]
    · rw [List.getElem?_eq_none (by rw [bV_len]; omega), List.getElem?_eq_none (by rw [bV_len]; omega)]
abbrev tH (H : SHeap) (x : SO) (f : Nat → Bool) : SHeap := H ++ [x, .cells (bV f) 83 true 0 []]
theorem tH_st (H : SHeap) (x : SO) (f : Nat → Bool) {i : Nat} (h : i < 36) (base : Nat) (d : List Nat) : storeS base (tH H x f) d (H.length + 1) i (cellsL (.bool true)) = some (tH H x (up f i true), d) := by
  have := store_cell (h := tH H x f) (base := base) (b := H.length + 1) (o := i) (c := .bool true) (cs := bV f) (el := 83) (pf := true) (by rw [app_get]; rfl) (by rw [bV_len]; exact h) rfl (fun _ => rfl) d
  rw [bV_set f h, List.set_append_right _ _ (by omega), Nat.add_sub_cancel_left] at this
  exact this
structure T1 (n : Nat) (f : Nat → Bool) : Prop where
  lt : ∀ i, f i = true → i < 36 ∧ i / 6 < i % 6 ∧ i % 6 < n
theorem tame_par (cx : Cx) {H : SHeap} {N : Int} {ev : Value} {X : List (Int × Int)} (hv : PS H ev X) (hlen : X.length ≤ 9223372036854775807) {n : Nat} (hn : n ≤ 6) {most tree : Value} {g : Value} :
    ∀ k ρ ms h' d', (∃ (v : Nat) (f : Nat → Bool) (par : Nat → Nat), v + k = n + (if n = 0 then 1 else 0) ∧ 1 ≤ v ∧ (∀ w, 1 ≤ w → w < v → par w < w) ∧ (∀ i, f i = true ↔ i < 36 ∧ 1 ≤ i % 6 ∧ i % 6 < v ∧ par (i % 6) = i / 6) ∧ h' = tH H (.cells [.int .i64 N, ev] 24 false 0 []) f ∧
      ρ 1 = most ∧ ρ 2 = tree ∧ ρ 3 = .pointer (some ⟨H.length, 0, none⟩) ∧ ρ 8 = .int .i64 n ∧ ρ 9 = .pointer (some ⟨H.length + 1, 0, none⟩) ∧ ρ 10 = .int .i64 v ∧ ms = [] ∧ d' = []) →
    LoopW M cx 7 sf15L2 ρ ms h' d' (fun ex ρ' ms' h' d' => ex = .exit 0 ∧ ms' = [] ∧ d' = [] ∧ ∃ (f : Nat → Bool) (par : Nat → Nat), (∀ w, 1 ≤ w → w < n → par w < w) ∧ (∀ i, f i = true ↔ i < 36 ∧ 1 ≤ i % 6 ∧ i % 6 < n ∧ par (i % 6) = i / 6) ∧ h' = tH H (.cells [.int .i64 N, ev] 24 false 0 []) f ∧
      ρ' 2 = tree ∧ ρ' 3 = .pointer (some ⟨H.length, 0, none⟩) ∧ ρ' 8 = .int .i64 n ∧ ρ' 9 = .pointer (some ⟨H.length + 1, 0, none⟩)) := by
  refine loop_run _ ?_
  rintro k ρ ms h' d' ⟨v, f, par, hk, hv1, hpar, hf, rfl, r1, r2, r3, r8, r9, r10, rfl, rfl⟩
  unfold sf15L2
  by_cases c : v < n
  · have e1 : ((v : Int) < n) := by omega
    have ew : IntKind.i64.wrap ((v : Int) + 1) = ((v + 1 : Nat) : Int) := by rw [wrap64 (by omega) (by omega)]; rfl
    have wm : IntKind.i64.wrap ((v : Int) - 1) = ((v - 1 : Nat) : Int) := by rw [wrap64 (by omega) (by omega)]; omega
    have wu : IntKind.u64.wrap (v : Int) = v := wrapU (by omega) (by omega)
    have hne : ¬ (v : Int) = 0 := by omega
    have lx : loadS (tH H (.cells [.int .i64 N, ev] 24 false 0 []) f) none (.pointer (some ⟨H.length, 1, none⟩)) = some ev := by rw [load_app0]; rfl
    have step : ∀ u, u < v → ∀ (par' : Nat → Nat), par' = up par v u → (∀ w, 1 ≤ w → w < v + 1 → par' w < w) ∧ (∀ i, up f (u * 6 + v) true i = true ↔ i < 36 ∧ 1 ≤ i % 6 ∧ i % 6 < v + 1 ∧ par' (i % 6) = i / 6) := fun u hu par' hp => by
      subst hp
      refine ⟨fun w h1 h2 => ?_, fun i => ?_⟩
      · unfold up
        by_cases cw : w = v
        · rw [if_pos cw]; omega
        · rw [if_neg cw]; exact hpar w h1 (by omega)
      · unfold up
        by_cases ci : i = u * 6 + v
        · rw [if_pos ci]
          have h1 : i % 6 = v := by omega
          have h2 : i / 6 = u := by omega
          rw [if_pos h1]
          exact ⟨fun _ => ⟨by omega, by omega, by omega, h2.symm⟩, fun _ => rfl⟩
        · rw [if_neg ci, hf]
          by_cases cv : i % 6 = v
          · rw [if_pos cv]
            constructor
            · rintro ⟨_, _, h, _⟩; omega
            · rintro ⟨_, _, _, h⟩; omega
          · rw [if_neg cv]
            constructor
            · rintro ⟨h1, h2, h3, h4⟩; exact ⟨h1, h2, by omega, h4⟩
            · rintro ⟨h1, h2, h3, h4⟩; exact ⟨h1, h2, by omega, h4⟩
    have mulw : ∀ u, u < v → IntKind.i64.wrap ((u : Int) * 6) = ((u * 6 : Nat) : Int) := fun u hu => by rw [wrap64 (by omega) (by omega)]; omega
    have addw : ∀ u, u < v → IntKind.i64.wrap (((u * 6 : Nat) : Int) + v) = ((u * 6 + v : Nat) : Int) := fun u hu => by rw [wrap64 (by omega) (by omega)]; omega
    have z1 : ∀ u, u < v → (0 : Int) ≤ ((u * 6 + v : Nat) : Int) := fun u hu => by omega
    have z2 : ∀ u, u < v → ((u * 6 + v : Nat) : Int) < 36 := fun u hu => by omega
    have st := fun u (hu : u < v) => tH_st H (.cells [.int .i64 N, ev] 24 false 0 []) f (i := u * 6 + v) (by omega)
    obtain ⟨va, vc, rfl, _⟩ := id hv
    by_cases c2 : v - 1 < X.length
    · have e2 : ((v - 1 : Nat) : Int) < X.length := by omega
      have e3 : (0 : Int) ≤ ((v - 1 : Nat) : Int) := by omega
      obtain ⟨b, o, cp, he, hp⟩ := (hv.app [.cells [.int .i64 N, .slice va X.length vc] 24 false 0 [], .cells (bV f) 83 true 0 []]).ld (by intro e; rw [e] at c2; simp at c2)
      cases he
      have l1 := hp.load1 c2
      have um := uR_eq X[v - 1].1 (m := v) (by omega)
      have ul := uR_lt X[v - 1].1 (m := v) (by omega)
      generalize X[v - 1].1 = y at *
      have w6 : IntKind.i64.wrap ((uR y v : Nat) : Int) = ((uR y v : Nat) : Int) := wrap64 (by omega) (by omega)
      generalize uR y v = u at *
      have m1 := mulw u ul
      have m2 := addw u ul
      have m3 := z1 u ul
      have m4 := z2 u ul
      have m5 := st u ul
      obtain ⟨s1, s2⟩ := step u ul _ rfl
      generalize hj : u * 6 + v = j at *
      generalize u * 6 = j2 at *
      repeat (first | apply Z1 | apply Z2 | apply Z3 | apply Z4 | apply Z5 rfl | apply Z6 | apply Z7 | apply Z8 | apply Z9 | apply ZA | apply ZB | apply ZC | ((first | apply ZD (by decide) | apply ZN (by decide)); (simp (maxSteps := 9999999) only [go_sem, r1, r2, r3, r8, r9, r10, e1, e2, e3, wm, lx, l1, wu, um, w6, hne, m1, m2, m3, m4, ↓m5, ew, Int.toNat_natCast]; rfl)) | (refine ZE ?_ ?_; · simp only [go_sem]) | (refine ZF ?_ ?_; · simp only [go_sem]))
      exact end_nil ⟨k - 1, by split at hk <;> omega, v + 1, _, _, by split at hk <;> (try split) <;> omega, by omega, s1, s2, rfl, by simp only [go_sem, r1], by simp only [go_sem, r2], by simp only [go_sem, r3], by simp only [go_sem, r8], by simp only [go_sem, r9], by simp only [go_sem, ew], rfl, rfl⟩
    · have e2 : ¬ ((v - 1 : Nat) : Int) < X.length := by omega
      have ul : v - 1 < v := by omega
      generalize hu : v - 1 = u at *
      have m1 := mulw u ul
      have m2 := addw u ul
      have m3 := z1 u ul
      have m4 := z2 u ul
      have m5 := st u ul
      obtain ⟨s1, s2⟩ := step u ul _ rfl
      generalize hj : u * 6 + v = j at *
      generalize u * 6 = j2 at *
      repeat (first | apply Z1 | apply Z2 | apply Z3 | apply Z4 | apply Z5 rfl | apply Z6 | apply Z7 | apply Z8 | apply Z9 | apply ZA | apply ZB | apply ZC | ((first | apply ZD (by decide) | apply ZN (by decide)); (simp (maxSteps := 9999999) only [go_sem, r1, r2, r3, r8, r9, r10, e1, e2, wm, lx, m1, m2, m3, m4, ↓m5, ew, Int.toNat_natCast]; rfl)) | (refine ZE ?_ ?_; · simp only [go_sem]) | (refine ZF ?_ ?_; · simp only [go_sem]))
      exact end_nil ⟨k - 1, by split at hk <;> omega, v + 1, _, _, by split at hk <;> (try split) <;> omega, by omega, s1, s2, rfl, by simp only [go_sem, r1], by simp only [go_sem, r2], by simp only [go_sem, r3], by simp only [go_sem, r8], by simp only [go_sem, r9], by simp only [go_sem, ew], rfl, rfl⟩
  · have e1 : ¬ ((v : Int) < n) := by omega
    repeat (first | apply Z1 | apply Z2 | apply Z3 | apply Z4 | apply Z5 rfl | apply Z6 | apply Z7 | apply Z8 | apply Z9 | apply ZA | apply ZB | apply ZC | ((first | apply ZD (by decide) | apply ZN (by decide)); (simp (maxSteps := 9999999) only [go_sem, r8, r10, e1]; rfl)) | (refine ZE ?_ ?_; · simp only [go_sem]) | (refine ZF ?_ ?_; · simp only [go_sem]))
    refine end_nil ⟨rfl, rfl, rfl, f, par, fun w h1 h2 => hpar w h1 (by omega), fun i => ?_, rfl, by simp only [go_sem, r2], by simp only [go_sem, r3], by simp only [go_sem, r8], by simp only [go_sem, r9]⟩
    rw [hf]
    constructor
    · rintro ⟨h1, h2, h3, h4⟩
      refine ⟨h1, h2, ?_, h4⟩
      split at hk <;> omega
    · rintro ⟨h1, h2, h3, h4⟩; exact ⟨h1, h2, by omega, h4⟩
end Go.Proofs.YtpkhkghiidilcaaDoor.Sh

namespace Go.Proofs.YtpkhkghiidilcaaDoor.Sh
open Go
set_option maxRecDepth 100000
set_option maxHeartbeats 4000000
theorem tame_more (cx : Cx) {H : SHeap} {N : Int} {ev : Value} {X : List (Int × Int)} (hv : PS H ev X) (hlen : X.length ≤ 9223372036854775807) {n : Nat} (hn1 : 1 ≤ n) (hn : n ≤ 6) {tr : Bool} {f0 : Nat → Bool} :
    ∀ k ρ ms h' d', (∃ (i : Nat) (f : Nat → Bool), i + k = 20 ∧ T1 n f ∧ (∀ i, f0 i = true → f i = true) ∧ (tr = true → f = f0) ∧ h' = tH H (.cells [.int .i64 N, ev] 24 false 0 []) f ∧
      ρ 2 = .bool tr ∧ ρ 3 = .pointer (some ⟨H.length, 0, none⟩) ∧ ρ 8 = .int .i64 n ∧ ρ 9 = .pointer (some ⟨H.length + 1, 0, none⟩) ∧ ρ 12 = .int .i64 i ∧ ms = [] ∧ d' = []) →
    LoopW M cx 7 sf15L1 ρ ms h' d' (fun ex ρ' ms' h' d' => ex = .exit 2 ∧ ms' = [] ∧ d' = [] ∧ ∃ (f : Nat → Bool), T1 n f ∧ (∀ i, f0 i = true → f i = true) ∧ (tr = true → f = f0) ∧ h' = tH H (.cells [.int .i64 N, ev] 24 false 0 []) f ∧
      ρ' 8 = .int .i64 n ∧ ρ' 9 = .pointer (some ⟨H.length + 1, 0, none⟩)) := by
  refine loop_run _ ?_
  rintro k ρ ms h' d' ⟨i, f, hk, hT, hsub, htr, rfl, r2, r3, r8, r9, r12, rfl, rfl⟩
  unfold sf15L1
  have lx : loadS (tH H (.cells [.int .i64 N, ev] 24 false 0 []) f) none (.pointer (some ⟨H.length, 1, none⟩)) = some ev := by rw [load_app0]; rfl
  obtain ⟨va, vc, rfl, _⟩ := id hv
  by_cases c1 : (i : Int) < X.length
  · by_cases c2 : (i : Int) < 20
    · cases tr with
      | true =>
        repeat (first | apply Z1 | apply Z2 | apply Z3 | apply Z4 | apply Z5 rfl | apply Z6 | apply Z7 | apply Z8 | apply Z9 | apply ZA | apply ZB | apply ZC | ((first | apply ZD (by decide) | apply ZN (by decide)); (simp (maxSteps := 9999999) only [go_sem, r2, r3, r12, lx, c1, c2]; rfl)) | (refine ZE ?_ ?_; · simp only [go_sem]) | (refine ZF ?_ ?_; · simp only [go_sem]))
        exact end_nil ⟨rfl, rfl, rfl, f, hT, hsub, htr, rfl, by simp only [go_sem, r8], by simp only [go_sem, r9]⟩
      | false =>
        have hi : i < X.length := by omega
        have ew : IntKind.i64.wrap ((i : Int) + 1) = ((i + 1 : Nat) : Int) := by rw [wrap64 (by omega) (by omega)]; rfl
        have wn : IntKind.u64.wrap (n : Int) = n := wrapU (by omega) (by omega)
        have hne : ¬ (n : Int) = 0 := by omega
        have z0 : (0 : Int) ≤ i := by omega
        obtain ⟨b, o, cp, he, hp⟩ := (hv.app [.cells [.int .i64 N, .slice va X.length vc] 24 false 0 [], .cells (bV f) 83 true 0 []]).ld (by intro e; rw [e] at hi; simp at hi)
        cases he
        have l1 := hp.load1 hi
        have l2 := hp.load2 hi
        have ua := uR_eq X[i].1 (m := n) (by omega)
        have la := uR_lt X[i].1 (m := n) (by omega)
        have ub := uR_eq X[i].2 (m := n) (by omega)
        have lb := uR_lt X[i].2 (m := n) (by omega)
        generalize X[i] = y at *
        have w6 : IntKind.i64.wrap ((uR y.1 n : Nat) : Int) = ((uR y.1 n : Nat) : Int) := wrap64 (by omega) (by omega)
        have w7 : IntKind.i64.wrap ((uR y.2 n : Nat) : Int) = ((uR y.2 n : Nat) : Int) := wrap64 (by omega) (by omega)
        generalize uR y.1 n = a at *
        generalize uR y.2 n = b2 at *
        have key : ∀ p q : Nat, p < q → q < n → T1 n (up f (p * 6 + q) true) ∧ (∀ i, f0 i = true → up f (p * 6 + q) true i = true) := fun p q hpq hq => by
          refine ⟨⟨fun i hi => ?_⟩, fun i hi => ?_⟩
          · unfold up at hi
            by_cases ci : i = p * 6 + q
            · subst ci
              have h1 : (p * 6 + q) % 6 = q := by omega
              have h2 : (p * 6 + q) / 6 = p := by omega
              rw [h1, h2]
              exact ⟨by omega, hpq, hq⟩
            · rw [if_neg ci] at hi; exact hT.lt i hi
          · unfold up
            split
            · rfl
            · exact hsub i hi
        rcases Nat.lt_trichotomy a b2 with h | h | h
        · have q1 : ¬ ((b2 : Int) < a) := by omega
          have q2 : ((b2 : Int) > a) := by omega
          have q2' : ((a : Int) < b2) := by omega
          have q3 : ¬ ((a : Int) = b2) := by omega
          have m1 : IntKind.i64.wrap ((a : Int) * 6) = ((a * 6 : Nat) : Int) := by rw [wrap64 (by omega) (by omega)]; omega
          have m2 : IntKind.i64.wrap (((a * 6 : Nat) : Int) + b2) = ((a * 6 + b2 : Nat) : Int) := by rw [wrap64 (by omega) (by omega)]; omega
          have m3 : (0 : Int) ≤ ((a * 6 + b2 : Nat) : Int) := by omega
          have m4 : ((a * 6 + b2 : Nat) : Int) < 36 := by omega
          have m5 := tH_st H (.cells [.int .i64 N, .slice (some ⟨b, o, none⟩) X.length vc] 24 false 0 []) f (i := a * 6 + b2) (by omega)
          obtain ⟨k1, k2⟩ := key a b2 h lb
          generalize hj : a * 6 + b2 = j at *
          generalize a * 6 = j2 at *
          repeat (first | apply Z1 | apply Z2 | apply Z3 | apply Z4 | apply Z5 rfl | apply Z6 | apply Z7 | apply Z8 | apply Z9 | apply ZA | apply ZB | apply ZC | ((first | apply ZD (by decide) | apply ZN (by decide)); (simp (maxSteps := 9999999) only [go_sem, r2, r3, r8, r9, r12, lx, c1, c2, z0, l1, l2, wn, hne, ua, ub, w6, w7, q1, q2, q2', q3, m1, m2, m3, m4, ↓m5, ew, Int.toNat_natCast]; rfl)) | (refine ZE ?_ ?_; · simp only [go_sem]) | (refine ZF ?_ ?_; · simp only [go_sem]))
          exact end_nil ⟨k - 1, by omega, i + 1, _, by omega, k1, k2, (fun h => by cases h), rfl, by simp only [go_sem, r2], by simp only [go_sem, r3], by simp only [go_sem, r8], by simp only [go_sem, r9], by simp only [go_sem, ew], rfl, rfl⟩
        · subst h
          repeat (first | apply Z1 | apply Z2 | apply Z3 | apply Z4 | apply Z5 rfl | apply Z6 | apply Z7 | apply Z8 | apply Z9 | apply ZA | apply ZB | apply ZC | ((first | apply ZD (by decide) | apply ZN (by decide)); (simp (maxSteps := 9999999) only [go_sem, r2, r3, r8, r9, r12, lx, c1, c2, z0, l1, l2, wn, hne, ua, ub, w6, w7, ew, Int.toNat_natCast]; rfl)) | (refine ZE ?_ ?_; · simp only [go_sem]) | (refine ZF ?_ ?_; · simp only [go_sem]))
          exact end_nil ⟨k - 1, by omega, i + 1, f, by omega, hT, hsub, htr, rfl, by simp only [go_sem, r2], by simp only [go_sem, r3], by simp only [go_sem, r8], by simp only [go_sem, r9], by simp only [go_sem, ew], rfl, rfl⟩
        · have q1 : ((b2 : Int) < a) := by omega
          have q2 : ¬ ((b2 : Int) > a) := by omega
          have q2' : ¬ ((a : Int) < b2) := by omega
          have q3 : ¬ ((a : Int) = b2) := by omega
          have m1 : IntKind.i64.wrap ((b2 : Int) * 6) = ((b2 * 6 : Nat) : Int) := by rw [wrap64 (by omega) (by omega)]; omega
          have m2 : IntKind.i64.wrap (((b2 * 6 : Nat) : Int) + a) = ((b2 * 6 + a : Nat) : Int) := by rw [wrap64 (by omega) (by omega)]; omega
          have m3 : (0 : Int) ≤ ((b2 * 6 + a : Nat) : Int) := by omega
          have m4 : ((b2 * 6 + a : Nat) : Int) < 36 := by omega
          have m5 := tH_st H (.cells [.int .i64 N, .slice (some ⟨b, o, none⟩) X.length vc] 24 false 0 []) f (i := b2 * 6 + a) (by omega)
          obtain ⟨k1, k2⟩ := key b2 a h la
          generalize hj : b2 * 6 + a = j at *
          generalize b2 * 6 = j2 at *
          repeat (first | apply Z1 | apply Z2 | apply Z3 | apply Z4 | apply Z5 rfl | apply Z6 | apply Z7 | apply Z8 | apply Z9 | apply ZA | apply ZB | apply ZC | ((first | apply ZD (by decide) | apply ZN (by decide)); (simp (maxSteps := 9999999) only [go_sem, r2, r3, r8, r9, r12, lx, c1, c2, z0, l1, l2, wn, hne, ua, ub, w6, w7, q1, q2, q2', q3, m1, m2, m3, m4, ↓m5, ew, Int.toNat_natCast]; rfl)) | (refine ZE ?_ ?_; · simp only [go_sem]) | (refine ZF ?_ ?_; · simp only [go_sem]))
          exact end_nil ⟨k - 1, by omega, i + 1, _, by omega, k1, k2, (fun h => by cases h), rfl, by simp only [go_sem, r2], by simp only [go_sem, r3], by simp only [go_sem, r8], by simp only [go_sem, r9], by simp only [go_sem, ew], rfl, rfl⟩
    · repeat (first | apply Z1 | apply Z2 | apply Z3 | apply Z4 | apply Z5 rfl | apply Z6 | apply Z7 | apply Z8 | apply Z9 | apply ZA | apply ZB | apply ZC | ((first | apply ZD (by decide) | apply ZN (by decide)); (simp (maxSteps := 9999999) only [go_sem, r2, r3, r12, lx, c1, c2]; rfl)) | (refine ZE ?_ ?_; · simp only [go_sem]) | (refine ZF ?_ ?_; · simp only [go_sem]))
      exact end_nil ⟨rfl, rfl, rfl, f, hT, hsub, htr, rfl, by simp only [go_sem, r8], by simp only [go_sem, r9]⟩
  · repeat (first | apply Z1 | apply Z2 | apply Z3 | apply Z4 | apply Z5 rfl | apply Z6 | apply Z7 | apply Z8 | apply Z9 | apply ZA | apply ZB | apply ZC | ((first | apply ZD (by decide) | apply ZN (by decide)); (simp (maxSteps := 9999999) only [go_sem, r2, r3, r12, lx, c1]; rfl)) | (refine ZE ?_ ?_; · simp only [go_sem]) | (refine ZF ?_ ?_; · simp only [go_sem]))
    exact end_nil ⟨rfl, rfl, rfl, f, hT, hsub, htr, rfl, by simp only [go_sem, r8], by simp only [go_sem, r9]⟩
end Go.Proofs.YtpkhkghiidilcaaDoor.Sh

namespace Go.Proofs.YtpkhkghiidilcaaDoor.Sh
open Go
set_option maxRecDepth 100000
set_option maxHeartbeats 4000000
def edg (f : Nat → Bool) : Nat → List (Nat × Nat)
  | 0 => []
  | i + 1 => edg f i ++ if f i = true then [(i / 6, i % 6)] else []
theorem edg_len (f : Nat → Bool) : ∀ i, (edg f i).length ≤ i
  | 0 => Nat.le_refl _
  | i + 1 => by
    have := edg_len f i
    show (_ ++ _ : List _).length ≤ i + 1
    rw [List.length_append]
    split <;> simp <;> omega
theorem tame_list (cx : Cx) {H0 : SHeap} {H : SHeap} {x : SO} {f : Nat → Bool} {n : Nat} (hH : H0 = tH H x f) :
    ∀ k ρ ms h' d', (∃ (i : Nat) (qv : Value), i + k = 36 ∧ AccS H0 h' qv (prN (edg f i)) (edg f i).length 2 45 ∧ ρ 8 = .int .i64 n ∧ ρ 9 = .pointer (some ⟨H.length + 1, 0, none⟩) ∧ ρ 15 = qv ∧ ρ 16 = .int .i64 i ∧ ms = [] ∧ d' = []) →
    LoopW M cx 7 sf15L0 ρ ms h' d' (fun ex ρ' ms' h' d' => ex = .exit 4 ∧ ms' = [] ∧ d' = [] ∧ ∃ qv : Value, AccS H0 h' qv (prN (edg f 36)) (edg f 36).length 2 45 ∧ ρ' 8 = .int .i64 n ∧ ρ' 15 = qv) := by
  refine loop_run _ ?_
  rintro k ρ ms h' d' ⟨i, qv, hk, A, r8, r9, r15, r16, rfl, rfl⟩
  unfold sf15L0
  by_cases c : k = 0
  · have e1 : ¬ ((i : Int) < 36) := by omega
    obtain rfl : i = 36 := by omega
    repeat (first | apply Z1 | apply Z2 | apply Z3 | apply Z4 | apply Z5 rfl | apply Z6 | apply Z7 | apply Z8 | apply Z9 | apply ZA | apply ZB | apply ZC | ((first | apply ZD (by decide) | apply ZN (by decide)); (simp (maxSteps := 9999999) only [go_sem, r16, e1]; rfl)) | (refine ZE ?_ ?_; · simp only [go_sem]) | (refine ZF ?_ ?_; · simp only [go_sem]))
    exact end_nil ⟨rfl, rfl, rfl, qv, A, by simp only [go_sem, r8], by simp only [go_sem, r15]⟩
  · have e1 : ((i : Int) < 36) := by omega
    have hi : i < 36 := by omega
    have z1 : (0 : Int) ≤ i := by omega
    have ew : IntKind.i64.wrap ((i : Int) + 1) = ((i + 1 : Nat) : Int) := by rw [wrap64 (by omega) (by omega)]; rfl
    have hb : h'[H.length + 1]? = some (.cells (bV f) 83 true 0 []) := by
      rw [A.same _ (by rw [hH]; simp), hH, app_get]; rfl
    have l1 : loadS h' none (.pointer (some ⟨H.length + 1, i, none⟩)) = some (.bool (f i)) := by
      have := load_cell (h := h') (o := i) hb rfl (bV_get f hi) []
      rw [List.append_nil] at this; exact this
    have hll := edg_len f i
    by_cases cf : f i = true
    · rw [cf] at l1
      have q1 : (i : Int).tdiv 6 = ((i / 6 : Nat) : Int) := by rw [Int.tdiv_eq_ediv_of_nonneg (by omega)]; rfl
      have q2 : (i : Int).tmod 6 = ((i % 6 : Nat) : Int) := by rw [Int.tmod_eq_emod_of_nonneg (by omega)]; rfl
      have w1 : IntKind.i64.wrap ((i / 6 : Nat) : Int) = ((i / 6 : Nat) : Int) := wrap64 (by omega) (by omega)
      have A1 := A.app [.cells [.int .i64 ((i / 6 : Nat) : Int), .int .i64 ((i % 6 : Nat) : Int)] 45 true 0 []]
      obtain ⟨H2, v2, ap, ⟨b2, hv2⟩, A3, _, _⟩ := A1.push (bs := h'.length) (bytes := 16) (new := [.int .i64 ((i / 6 : Nat) : Int), .int .i64 ((i % 6 : Nat) : Int)]) (el2 := 45) (pf2 := true) (own2 := 0) (old2 := []) (by rw [app_get0]; rfl) rfl rfl (by decide) rfl (by decide) (by omega)
      have hsn : edg f (i + 1) = edg f i ++ [(i / 6, i % 6)] := by show _ ++ _ = _; rw [if_pos cf]
      generalize i / 6 = a at *
      generalize i % 6 = b at *
      repeat (first | apply Z1 | apply Z2 | apply Z3 | apply Z4 | apply Z5 rfl | apply Z6 | apply Z7 | apply Z8 | apply Z9 | apply ZA | apply ZB | apply ZC | ((first | apply ZD (by decide) | apply ZN (by decide)); (simp (maxSteps := 9999999) only [go_sem, r8, r9, r15, r16, e1, z1, l1, q1, q2, w1, ap, ew, Int.toNat_natCast]; rfl)) | (refine ZE ?_ ?_; · simp only [go_sem]) | (refine ZF ?_ ?_; · simp only [go_sem]))
      refine end_nil ⟨k - 1, by omega, i + 1, v2, by omega, ?_, by simp only [go_sem, r8], by simp only [go_sem, r9], by simp only [go_sem], by simp only [go_sem, ew], rfl, rfl⟩
      rw [hsn, prN_snoc, List.length_append]
      exact A3
    · have hsn : edg f (i + 1) = edg f i := by show _ ++ _ = _; rw [if_neg cf, List.append_nil]
      rw [Bool.not_eq_true] at cf
      rw [cf] at l1
      repeat (first | apply Z1 | apply Z2 | apply Z3 | apply Z4 | apply Z5 rfl | apply Z6 | apply Z7 | apply Z8 | apply Z9 | apply ZA | apply ZB | apply ZC | ((first | apply ZD (by decide) | apply ZN (by decide)); (simp (maxSteps := 9999999) only [go_sem, r8, r9, r15, r16, e1, z1, l1, ew, Int.toNat_natCast]; rfl)) | (refine ZE ?_ ?_; · simp only [go_sem]) | (refine ZF ?_ ?_; · simp only [go_sem]))
      refine end_nil ⟨k - 1, by omega, i + 1, qv, by omega, ?_, by simp only [go_sem, r8], by simp only [go_sem, r9], by simp only [go_sem, r15], by simp only [go_sem, ew], rfl, rfl⟩
      rw [hsn]; exact A
theorem AccS.gcR {H g h : SHeap} {v : Value} {cs : List Value} {n s : Nat} {el : TypeId} (A : AccS (H ++ g) h v cs n s el) (w : Value) (hw : flat 1 w = true) : gcS H.length (.tuple #[w, v]) h = some (.tuple #[w, resV H n s], resH H cs n el) := by
  have hp : ptrs 2 w = [] ∧ ∀ K, renV H.length K 2 w = some w := ⟨ptrs_flat 2 w (flat_up _ _ hw), fun K => renV_flat 2 w (flat_up _ _ hw)⟩
  by_cases hn : n = 0
  · have ht := A.take rfl
    have e3 := hp.2 []
    rcases A.acc with ⟨_, rfl, _⟩ | ⟨b, old, rfl, h1, h2, h3, _⟩
    · have e1 : ptrs 3 (.tuple #[w, .slice none 0 0]) = [] := by
        show ptrs 2 w ++ (ptrs 2 (.slice none 0 0) ++ []) = []
        rw [hp.1]; rfl
      unfold gcS
      rw [e1]
      rw [show (1000000 : Nat) = 999999 + 1 from rfl, reach]
      simp [renV, mapO, e3, ht, resV, resH, hn]
    · exact (h3 hn).elim
  · obtain ⟨b, old, rfl, h1, h2, h3⟩ := A.cellsAt hn
    have ht := A.take rfl
    have eb : Nat.ble H.length b = true := by rw [ble_dec]; simpa using h2
    have e1 : reach H.length h 1000000 [b] [] = [b] := by
      rw [show (1000000 : Nat) = 999998 + 1 + 1 from rfl, reach]
      simp only [eb, List.contains_nil, Bool.not_true, Bool.or_self, Bool.false_eq_true, if_false, h1, ptrsO, Bool.true_or, if_true, List.nil_append]
      rw [reach]
    have e2 : ren H.length [b] b = some H.length := by simp [ren, eb, posOf]
    have e0 : ((0 : Nat) == 2) = false := rfl
    have e3 := hp.2 [b]
    have e4 : ptrs 3 (.tuple #[w, .slice (some ⟨b, 0, none⟩) n (UNK + s)]) = [b] := by
      show ptrs 2 w ++ (ptrs 2 (.slice (some ⟨b, 0, none⟩) n (UNK + s)) ++ []) = [b]
      rw [hp.1]; rfl
    unfold gcS
    simp only [e4, e1, renV, e2, e3, mapO, renO, h1, e0, Bool.false_eq_true, if_false, if_true, ht, ren_none' h3]
    simp [resV, resH, hn]
structure TM (most : Nat) (tr : Bool) (n : Nat) (f : Nat → Bool) : Prop where
  n1 : 1 ≤ n
  n2 : n ≤ most
  t1 : T1 n f
  par : ∃ par : Nat → Nat, (∀ w, 1 ≤ w → w < n → par w < w ∧ f (par w * 6 + w) = true) ∧ (tr = true → ∀ i, f i = true ↔ i < 36 ∧ 1 ≤ i % 6 ∧ i % 6 < n ∧ par (i % 6) = i / 6)
theorem tame15 {H : SHeap} {N : Int} {ev : Value} {X : List (Int × Int)} (hv : PS H ev X) (hlen : X.length ≤ 9223372036854775807) {most : Nat} (hm1 : 1 ≤ most) (hm : most ≤ 6) (tr : Bool) :
    ∃ (n : Nat) (f : Nat → Bool), TM most tr n f ∧ M.call 15 [.agg #[.int .i64 N, ev], .int .i64 most, .bool tr] H = some (.tuple #[.int .i64 n, resV H (edg f 36).length 2], resH H (prN (edg f 36)) (edg f 36).length 45, []) := by
  have key : ∃ r, (∃ (n : Nat) (f : Nat → Bool), r = (Value.tuple #[.int .i64 n, resV H (edg f 36).length 2], resH H (prN (edg f 36)) (edg f 36).length 45, ([] : List Nat)) ∧ TM most tr n f) ∧ M.call 15 [.agg #[.int .i64 N, ev], .int .i64 most, .bool tr] H = some r := by
    refine call_ex (f := 15) _ sf15 rfl rfl rfl ?_
    have wm : IntKind.u64.wrap (most : Int) = most := wrapU (by omega) (by omega)
    have hne : ¬ (most : Int) = 0 := by omega
    have un := uR_eq N (m := most) (by omega)
    have ul := uR_lt N (m := most) (by omega)
    have w6 : IntKind.i64.wrap ((uR N most : Nat) : Int) = ((uR N most : Nat) : Int) := wrap64 (by omega) (by omega)
    generalize uR N most = r at *
    have w7 : IntKind.i64.wrap (1 + (r : Int)) = ((r + 1 : Nat) : Int) := by rw [wrap64 (by omega) (by omega)]; omega
    have w8 : IntKind.i64.wrap (((r + 1 : Nat) : Int) - 1) = ((r : Nat) : Int) := by rw [wrap64 (by omega) (by omega)]; omega
    obtain ⟨va, vc, rfl, _⟩ := id hv
    unfold sf15
    repeat (first | apply Z1 | apply Z2 | apply Z3 | apply Z4 | apply Z5 rfl | apply Z6 | apply Z7 | apply Z8 | apply Z9 | apply ZA | apply ZB | apply ZC | ((first | apply ZD (by decide) | apply ZN (by decide)); (simp (maxSteps := 9999999) only [go_sem, argR, wm, hne, un, w6, w7]; rfl)) | (refine ZE ?_ ?_; · simp only [go_sem]) | (refine ZF ?_ ?_; · simp only [go_sem]))
    refine run_loop (tame_par _ hv hlen (n := r + 1) (by omega) (N := N) (most := .int .i64 most) (tree := .bool tr) (g := .bool tr) r _ _ _ _ ⟨1, fun _ => false, fun _ => 0, by rw [if_neg (by omega)]; omega, Nat.le_refl _, fun w h1 h2 => by omega, fun i => ⟨(fun h => by cases h), (fun h => by omega)⟩, rfl, by simp only [go_sem, argR], by simp only [go_sem, argR], by simp only [go_sem], by simp only [go_sem], by simp only [go_sem], by simp only [go_sem], rfl, rfl⟩) ?_
    rintro ex ρ2 ms2 h2 d2 ⟨rfl, rfl, rfl, f, par, hpar, hf, rfl, r2, r3, r8, r9⟩
    repeat (first | apply Z1 | apply Z2 | apply Z3 | apply Z4 | apply Z5 rfl | apply Z6 | apply Z7 | apply Z8 | apply Z9 | apply ZA | apply ZB | apply ZC | ((first | apply ZD (by decide) | apply ZN (by decide)); (simp (maxSteps := 9999999) only [go_sem, r2, r3, r8, r9, w8]; rfl)) | (refine ZE ?_ ?_; · simp only [go_sem]) | (refine ZF ?_ ?_; · simp only [go_sem]))
    refine run_loop (tame_more _ hv hlen (n := r + 1) (by omega) (by omega) (N := N) (tr := tr) (f0 := f) (20 - r) _ _ _ _ ⟨r, f, by omega, ⟨fun i hi => ?_⟩, fun i h => h, fun _ => rfl, rfl, by simp only [go_sem, r2], by simp only [go_sem, r3], by simp only [go_sem, r8], by simp only [go_sem, r9], by simp only [go_sem, w8], rfl, rfl⟩) ?_
    · have := (hf i).1 hi
      have := hpar (i % 6) this.2.1 this.2.2.1
      omega
    rintro ex ρ3 ms3 h3 d3 ⟨rfl, rfl, rfl, f3, hT, hsub, htr, rfl, s8, s9⟩
    repeat (first | apply Z1 | apply Z2 | apply Z3 | apply Z4 | apply Z5 rfl | apply Z6 | apply Z7 | apply Z8 | apply Z9 | apply ZA | apply ZB | apply ZC | ((first | apply ZD (by decide) | apply ZN (by decide)); (simp (maxSteps := 9999999) only [go_sem, s8, s9]; rfl)) | (refine ZE ?_ ?_; · simp only [go_sem]) | (refine ZF ?_ ?_; · simp only [go_sem]))
    refine run_loop (tame_list _ (H := H) (f := f3) (n := r + 1) rfl 36 _ _ _ _ ⟨0, .slice none 0 0, by omega, AccS.nil0 _ 2 45, by simp only [go_sem, s8], by simp only [go_sem, s9], by simp only [go_sem], by simp only [go_sem], rfl, rfl⟩) ?_
    rintro ex ρ4 ms4 h4 d4 ⟨rfl, rfl, rfl, qv, A, t8, t15⟩
    obtain ⟨qa, qc, rfl⟩ := A.shape
    repeat (first | apply Z1 | apply Z2 | apply Z3 | apply Z4 | apply Z5 rfl | apply Z6 | apply Z7 | apply Z8 | apply Z9 | apply ZA | apply ZB | apply ZC | ((first | apply ZD (by decide) | apply ZN (by decide)); (simp (maxSteps := 9999999) only [go_sem, t8, t15]; rfl)) | (refine ZE ?_ ?_; · simp only [go_sem]) | (refine ZF ?_ ?_; · simp only [go_sem]))
    refine end_nil ⟨_, ⟨r + 1, f3, rfl, by omega, by omega, hT, par, fun w h1 h2 => ⟨hpar w h1 h2, hsub _ ((hf _).2 ?_)⟩, fun h => by rw [htr h]; exact hf⟩, ?_⟩
    · have := hpar w h1 h2
      have e1 : (par w * 6 + w) % 6 = w := by omega
      have e2 : (par w * 6 + w) / 6 = par w := by omega
      rw [e1, e2]; exact ⟨by omega, h1, h2, rfl⟩
    · exact q_gc [.int .i64 ((r + 1 : Nat) : Int), .slice qa (edg f3 36).length qc] (by simp only [go_sem]) rfl (A.gcR _ rfl) rfl
  obtain ⟨r, ⟨n, f, rfl, k⟩, e⟩ := key
  exact ⟨n, f, k, e⟩
end Go.Proofs.YtpkhkghiidilcaaDoor.Sh

namespace Go.Proofs.YtpkhkghiidilcaaDoor.Sh
open Go
set_option maxRecDepth 100000
set_option maxHeartbeats 1000000
def castE (l : List (Nat × Nat)) : List (Int × Int) := l.map fun p => ((p.1 : Int), (p.2 : Int))
theorem castE_len (l : List (Nat × Nat)) : (castE l).length = l.length := by simp [castE]
theorem prN_prs (l : List (Nat × Nat)) : prN l = prs (castE l) := by
  induction l with
  | nil => rfl
  | cons p l ih =>
    show [_, _] ++ prN l = _
    rw [ih]; rfl
theorem PS_res (H : SHeap) (l : List (Nat × Nat)) (el : TypeId) : PS (resH H (prN l) l.length el) (resV H l.length 2) (castE l) := by
  by_cases c : l.length = 0
  · have : l = [] := List.length_eq_zero_iff.1 c
    subst this
    exact ⟨none, 0, rfl, fun h => (h rfl).elim⟩
  · unfold resH resV
    rw [if_neg c, if_neg c]
    refine ⟨_, _, by rw [castE_len], fun _ => ⟨_, _, rfl, Prs.mk0 (el := el) (pf := true) (own := 0) (old := []) ?_ rfl⟩⟩
    rw [List.getElem?_append_right (Nat.le_refl _), Nat.sub_self, prN_prs]; rfl
def keyP (p : Nat × Nat) : Nat := 6 * p.1 + p.2
theorem edg_mem {f : Nat → Bool} : ∀ {k : Nat} {p : Nat × Nat}, p ∈ edg f k ↔ ∃ i, i < k ∧ f i = true ∧ p = (i / 6, i % 6)
  | 0, p => by simp [edg]
  | k + 1, p => by
    show p ∈ _ ++ _ ↔ _
    rw [List.mem_append, edg_mem]
    constructor
    · rintro (⟨i, h1, h2, h3⟩ | h)
      · exact ⟨i, by omega, h2, h3⟩
      · split at h
        · rename_i hf
          exact ⟨k, by omega, hf, List.mem_singleton.1 h⟩
        · cases h
    · rintro ⟨i, h1, h2, h3⟩
      by_cases c : i = k
      · subst c; right; rw [if_pos h2]; exact List.mem_singleton.2 h3
      · exact .inl ⟨i, by omega, h2, h3⟩
theorem edg_sorted (f : Nat → Bool) : ∀ k, (edg f k).Pairwise (fun p q => keyP p < keyP q)
  | 0 => List.Pairwise.nil
  | k + 1 => by
    show (_ ++ _ : List _).Pairwise _
    rw [List.pairwise_append]
    refine ⟨edg_sorted f k, ?_, fun p hp q hq => ?_⟩
    · split
      · exact List.pairwise_singleton _ _
      · exact List.Pairwise.nil
    · split at hq
      · obtain ⟨i, h1, _, rfl⟩ := edg_mem.1 hp
        rw [List.mem_singleton] at hq
        subst hq
        unfold keyP
        dsimp only
        omega
      · cases hq
theorem TM.eok {most : Nat} {tr : Bool} {n : Nat} {f : Nat → Bool} (T : TM most tr n f) : EOK n (castE (edg f 36)) := by
  intro i hi
  rw [castE_len] at hi
  have at' : ∀ j (hj : j < (edg f 36).length), eAt (castE (edg f 36)) j = (((edg f 36)[j].1 : Int), ((edg f 36)[j].2 : Int)) := fun j hj => by
    rw [eAt_get (by rw [castE_len]; exact hj)]; simp [castE]
  have pr : ∀ j (hj : j < (edg f 36).length), (edg f 36)[j].1 < (edg f 36)[j].2 ∧ (edg f 36)[j].2 < n ∧ (edg f 36)[j].2 < 6 := fun j hj => by
    obtain ⟨k, h1, h2, h3⟩ := edg_mem.1 (List.getElem_mem hj)
    have := T.t1.lt k h2
    rw [h3]
    dsimp only
    omega
  have hp := pr i hi
  unfold okAt
  rw [at' i hi]
  dsimp only
  refine ⟨by omega, by omega, by omega, fun h0 => ?_⟩
  have hq := pr (i - 1) (by omega)
  rw [at' (i - 1) (by omega)]
  dsimp only
  have hs := List.pairwise_iff_getElem.1 (edg_sorted f 36) (i - 1) i (by omega) hi (by omega)
  unfold keyP at hs
  omega
theorem TM.conn {most : Nat} {tr : Bool} {n : Nat} {f : Nat → Bool} (T : TM most tr n f) (hm : most ≤ 6) : Conn n (castE (edg f 36)) := by
  have n1 := T.n1
  have n2 := T.n2
  obtain ⟨par, hpar, _⟩ := T.par
  rw [conn_iff n1]
  obtain ⟨F, hF, hk⟩ := farI_spec (n := n) (E := castE (edg f 36)) (s := 0) (by omega)
  have key : ∀ v, v < n → 0 ≤ F v := by
    intro v
    induction v using Nat.strongRecOn with
    | _ v ih =>
      intro hv
      by_cases c : v = 0
      · subst c; rw [hF.src]; exact Int.le_refl _
      · obtain ⟨h1, h2⟩ := hpar v (by omega) hv
        have h3 := ih (par v) h1 (by omega)
        refine (hF.nxt (par v) v (by omega) hv h3 ?_).1
        rw [adjE_mem]
        left
        unfold castE
        refine List.mem_map.2 ⟨(par v, v), edg_mem.2 ⟨par v * 6 + v, by omega, h2, ?_⟩, rfl⟩
        refine Prod.ext ?_ ?_ <;> dsimp only <;> omega
  intro v hv
  rw [(hk v hv).1 (key v hv)]; exact key v hv
theorem TM.err {most : Nat} {tr : Bool} {n : Nat} {f : Nat → Bool} (T : TM most tr n f) (hm : most ≤ 6) : errG n (castE (edg f 36)) = 0 := errG_of T.n1 (by have := T.n2; omega) T.eok (T.conn hm)
theorem edgE_len (f : Nat → Bool) : (castE (edg f 36)).length ≤ 1000000 := by
  rw [castE_len]; have := edg_len f 36; omega
end Go.Proofs.YtpkhkghiidilcaaDoor.Sh

namespace Go.Proofs.YtpkhkghiidilcaaDoor.Sh
open Go
set_option maxRecDepth 100000
set_option maxHeartbeats 4000000
theorem iV_snoc (v : Nat) (s : Nat → Int) (x : Int) : iV (v + 1) (up s v x) = iV v s ++ [.int .i64 x] := by
  unfold iV
  rw [List.range_succ, List.map_append]
  congr 1
  · exact List.map_congr_left (fun w hw => by have := List.mem_range.1 hw; unfold up; rw [if_neg (by omega)])
  · simp [up]
theorem brought_loop (cx : Cx) {H : SHeap} {n : Nat} (hn : n ≤ 6) {lv : Value} {l : List Int} (hv : IS H lv l) (hlen : l.length ≤ 9223372036854775807) {most : Nat} (hm : most ≤ 1000) :
    ∀ k ρ ms h' d', (∃ (v left : Nat) (s : Nat → Int) (qv : Value), v + k = n ∧ (∀ w, 0 ≤ s w) ∧ (∀ w, v ≤ w → s w = 0) ∧ tot s + left = most ∧ AccS H h' qv (iV v s) v 1 3 ∧ ρ 0 = lv ∧ ρ 1 = .int .i64 n ∧ ρ 7 = qv ∧ ρ 8 = .int .i64 left ∧ ρ 9 = .int .i64 v ∧ ms = [] ∧ d' = []) →
    LoopW M cx 6 sf16L0 ρ ms h' d' (fun ex ρ' ms' h' d' => ex = .exit 0 ∧ ms' = [] ∧ d' = [] ∧ ∃ (s : Nat → Int) (qv : Value), ST n s most ∧ AccS H h' qv (iV n s) n 1 3 ∧ ρ' 7 = qv) := by
  refine loop_run _ ?_
  rintro k ρ ms h' d' ⟨v, left, s, qv, hk, hs0, hz, ht, A, r0, r1, r7, r8, r9, rfl, rfl⟩
  unfold sf16L0
  by_cases c : k = 0
  · have e1 : ¬ ((v : Int) < n) := by omega
    obtain rfl : v = n := by omega
    repeat (first | apply Z1 | apply Z2 | apply Z3 | apply Z4 | apply Z5 rfl | apply Z6 | apply Z7 | apply Z8 | apply Z9 | apply ZA | apply ZB | apply ZC | ((first | apply ZD (by decide) | apply ZN (by decide)); (simp (maxSteps := 9999999) only [go_sem, r1, r9, e1]; rfl)) | (refine ZE ?_ ?_; · simp only [go_sem]) | (refine ZF ?_ ?_; · simp only [go_sem]))
    exact end_nil ⟨rfl, rfl, rfl, s, qv, ⟨hs0, hz, by omega⟩, A, by simp only [go_sem, r7]⟩
  · have e1 : ((v : Int) < n) := by omega
    have z1 : (0 : Int) ≤ v := by omega
    have ew : IntKind.i64.wrap ((v : Int) + 1) = ((v + 1 : Nat) : Int) := by rw [wrap64 (by omega) (by omega)]; rfl
    have tn : 0 ≤ tot s := by
      have n0 := hs0 0
      have n1 := hs0 1
      have n2 := hs0 2
      have n3 := hs0 3
      have n4 := hs0 4
      have n5 := hs0 5
      unfold tot; omega
    have fin : ∀ (x : Nat), x ≤ left → ∃ (left' : Nat), (left' : Int) = (left : Int) - x ∧ (∀ w, 0 ≤ up s v x w) ∧ (∀ w, v + 1 ≤ w → up s v (x : Int) w = 0) ∧ tot (up s v x) + left' = most := fun x hx => by
      refine ⟨left - x, by omega, fun w => ?_, fun w hw => ?_, ?_⟩
      · unfold up; split
        · omega
        · exact hs0 w
      · unfold up; rw [if_neg (by omega)]; exact hz w (by omega)
      · rw [tot_up s (by omega), hz v (Nat.le_refl _)]; omega
    obtain ⟨va, vc, rfl, hva⟩ := id hv
    by_cases c2 : v < l.length
    · have e2 : ((v : Int) < l.length) := by omega
      obtain ⟨b, o, rfl, hbl, il⟩ := hva (by intro e; rw [e] at c2; simp at c2)
      have l1 := (il.fr (A.same b hbl)) v c2
      have w1 : IntKind.i64.wrap ((left : Int) + 1) = ((left + 1 : Nat) : Int) := by rw [wrap64 (by omega) (by omega)]; rfl
      have w2 : IntKind.u64.wrap ((left + 1 : Nat) : Int) = ((left + 1 : Nat) : Int) := wrapU (by omega) (by omega)
      have hne : ¬ ((left + 1 : Nat) : Int) = 0 := by omega
      have um := uR_eq l[v] (m := left + 1) (by omega)
      have ul := uR_lt l[v] (m := left + 1) (by omega)
      generalize l[v] = y at *
      have w6 : IntKind.i64.wrap ((uR y (left + 1) : Nat) : Int) = ((uR y (left + 1) : Nat) : Int) := wrap64 (by omega) (by omega)
      generalize uR y (left + 1) = x at *
      generalize hlp : left + 1 = lp at *
      obtain ⟨left', f1, f2, f3, f4⟩ := fin x (by omega)
      have w3 : IntKind.i64.wrap ((left : Int) - x) = left' := by rw [wrap64 (by omega) (by omega)]; omega
      have A1 := A.app [.cells [.int .i64 (x : Int)] 3 true 0 []]
      obtain ⟨H2, v2, ap, ⟨b2, hv2⟩, A3, _, _⟩ := A1.push (bs := h'.length) (bytes := 8) (new := [.int .i64 (x : Int)]) (el2 := 3) (pf2 := true) (own2 := 0) (old2 := []) (by rw [app_get0]; rfl) rfl rfl (by decide) rfl (by decide) (by omega)
      repeat (first | apply Z1 | apply Z2 | apply Z3 | apply Z4 | apply Z5 rfl | apply Z6 | apply Z7 | apply Z8 | apply Z9 | apply ZA | apply ZB | apply ZC | ((first | apply ZD (by decide) | apply ZN (by decide)); (simp (maxSteps := 9999999) only [go_sem, r0, r1, r7, r8, r9, e1, e2, z1, l1, w1, w2, hne, um, w6, w3, ap, ew, Int.toNat_natCast]; rfl)) | (refine ZE ?_ ?_; · simp only [go_sem]) | (refine ZF ?_ ?_; · simp only [go_sem]))
      exact end_nil ⟨k - 1, by omega, v + 1, left', up s v x, v2, by omega, f2, f3, f4, by rw [iV_snoc]; exact A3, by simp only [go_sem, r0], by simp only [go_sem, r1], by simp only [go_sem], by simp only [go_sem, w3], by simp only [go_sem, ew], rfl, rfl⟩
    · have e2 : ¬ ((v : Int) < l.length) := by omega
      obtain ⟨left', f1, f2, f3, f4⟩ := fin 0 (by omega)
      have w3 : IntKind.i64.wrap ((left : Int) - 0) = left' := by rw [wrap64 (by omega) (by omega)]; omega
      have w3' : IntKind.i64.wrap (left : Int) = left' := by rw [wrap64 (by omega) (by omega)]; omega
      have A1 := A.app [.cells [.int .i64 0] 3 true 0 []]
      obtain ⟨H2, v2, ap, ⟨b2, hv2⟩, A3, _, _⟩ := A1.push (bs := h'.length) (bytes := 8) (new := [.int .i64 0]) (el2 := 3) (pf2 := true) (own2 := 0) (old2 := []) (by rw [app_get0]; rfl) rfl rfl (by decide) rfl (by decide) (by omega)
      repeat (first | apply Z1 | apply Z2 | apply Z3 | apply Z4 | apply Z5 rfl | apply Z6 | apply Z7 | apply Z8 | apply Z9 | apply ZA | apply ZB | apply ZC | ((first | apply ZD (by decide) | apply ZN (by decide)); (simp (maxSteps := 9999999) only [go_sem, r0, r1, r7, r8, r9, e1, e2, w3, w3', Int.sub_zero, ap, ew, Int.toNat_natCast]; rfl)) | (refine ZE ?_ ?_; · simp only [go_sem]) | (refine ZF ?_ ?_; · simp only [go_sem]))
      exact end_nil ⟨k - 1, by omega, v + 1, left', up s v 0, v2, by omega, f2, f3, f4, by rw [iV_snoc]; exact A3, by simp only [go_sem, r0], by simp only [go_sem, r1], by simp only [go_sem], by simp only [go_sem, w3], by simp only [go_sem, ew], rfl, rfl⟩
theorem brought16 {H : SHeap} {n : Nat} (hn : n ≤ 6) {lv : Value} {l : List Int} (hv : IS H lv l) (hlen : l.length ≤ 9223372036854775807) {most : Nat} (hm : most ≤ 1000) :
    ∃ s : Nat → Int, ST n s most ∧ M.call 16 [lv, .int .i64 n, .int .i64 most] H = some (resV H n 1, resH H (iV n s) n 3, []) := by
  have key : ∃ r, (∃ s : Nat → Int, r = (resV H n 1, resH H (iV n s) n 3, ([] : List Nat)) ∧ ST n s most) ∧ M.call 16 [lv, .int .i64 n, .int .i64 most] H = some r := by
    refine call_ex (f := 16) _ sf16 rfl rfl rfl ?_
    obtain ⟨va, vc, rfl, _⟩ := id hv
    unfold sf16
    repeat (first | apply Z1 | apply Z2 | apply Z3 | apply Z4 | apply Z5 rfl | apply Z6 | apply Z7 | apply Z8 | apply Z9 | apply ZA | apply ZB | apply ZC | ((first | apply ZD (by decide) | apply ZN (by decide)); (simp (maxSteps := 9999999) only [go_sem, argR]; rfl)) | (refine ZE ?_ ?_; · simp only [go_sem]) | (refine ZF ?_ ?_; · simp only [go_sem]))
    refine run_loop (brought_loop _ hn hv hlen hm n _ _ _ _ ⟨0, most, fun _ => 0, .slice none 0 0, by omega, fun _ => Int.le_refl _, fun _ _ => rfl, by show (0 : Int) + most = most; omega, AccS.nil0 _ 1 3, by simp only [go_sem, argR], by simp only [go_sem, argR], by simp only [go_sem], by simp only [go_sem, argR], by simp only [go_sem], rfl, rfl⟩) ?_
    rintro ex ρ2 ms2 h2 d2 ⟨rfl, rfl, rfl, s, qv, S, A, r7⟩
    have A0 := A.at0
    obtain ⟨qa, qc, rfl⟩ := A.shape
    repeat (first | apply Z1 | apply Z2 | apply Z3 | apply Z4 | apply Z5 rfl | apply Z6 | apply Z7 | apply Z8 | apply Z9 | apply ZA | apply ZB | apply ZC | ((first | apply ZD (by decide) | apply ZN (by decide)); (simp (maxSteps := 9999999) only [go_sem, r7]; rfl)) | (refine ZE ?_ ?_; · simp only [go_sem]) | (refine ZF ?_ ?_; · simp only [go_sem]))
    exact end_nil ⟨_, ⟨s, rfl, S⟩, A0.ret1 (by simp only [go_sem, r7])⟩
  obtain ⟨r, ⟨s, rfl, k⟩, e⟩ := key
  exact ⟨s, k, e⟩
end Go.Proofs.YtpkhkghiidilcaaDoor.Sh

namespace Go.Proofs.YtpkhkghiidilcaaDoor.Sh
open Go
set_option maxRecDepth 100000
set_option maxHeartbeats 4000000
theorem ints_loop (cx : Cx) {H : SHeap} {av bv : Value} {a b : List Int} (ha : IS H av a) (hb : IS H bv b) (hl : a.length = b.length) (hlen : a.length ≤ 1000000) :
    ∀ k ρ ms h' d', (∃ i : Nat, i + k = a.length ∧ (∀ j, j < i → a[j]? = b[j]?) ∧ ρ 0 = av ∧ ρ 1 = bv ∧ ρ 5 = .int .i64 i ∧ ms = [] ∧ h' = H ∧ d' = []) →
    LoopW M cx 5 sf24L0 ρ ms h' d' (fun ex ρ' ms' h' d' => ms' = [] ∧ h' = H ∧ d' = [] ∧ ((ex = .exit 0 ∧ a = b) ∨ (ex = .ret ∧ a ≠ b ∧ ρ' 4 = .bool false))) := by
  refine loop_run _ ?_
  rintro k ρ ms h' d' ⟨i, hk, heq, r0, r1, r5, rfl, rfl, rfl⟩
  unfold sf24L0
  by_cases c : k = 0
  · have e1 : ¬ ((i : Int) < a.length) := by omega
    obtain ⟨va, vc, rfl, _⟩ := id ha
    repeat (first | apply Z1 | apply Z2 | apply Z3 | apply Z4 | apply Z5 rfl | apply Z6 | apply Z7 | apply Z8 | apply Z9 | apply ZA | apply ZB | apply ZC | ((first | apply ZD (by decide) | apply ZN (by decide)); (simp (maxSteps := 9999999) only [go_sem, r0, r5, e1]; rfl)) | (refine ZE ?_ ?_; · simp only [go_sem]) | (refine ZF ?_ ?_; · simp only [go_sem]))
    refine end_nil ⟨rfl, rfl, rfl, .inl ⟨rfl, List.ext_getElem? fun j => ?_⟩⟩
    by_cases cj : j < a.length
    · exact heq j (by omega)
    · rw [List.getElem?_eq_none (by omega), List.getElem?_eq_none (by omega)]
  · have e1 : ((i : Int) < a.length) := by omega
    have e1' : ((i : Int) < b.length) := by omega
    have e2 : (0 : Int) ≤ i := by omega
    have hi : i < a.length := by omega
    have hi' : i < b.length := by omega
    have ew : IntKind.i64.wrap ((i : Int) + 1) = ((i + 1 : Nat) : Int) := by rw [wrap64 (by omega) (by omega)]; rfl
    obtain ⟨b1, o1, cp1, rfl, ld1⟩ := ha.ld (by intro e; rw [e] at hi; simp at hi)
    obtain ⟨b2, o2, cp2, rfl, ld2⟩ := hb.ld (by intro e; rw [e] at hi'; simp at hi')
    have l1 := ld1 i hi
    have l2 := ld2 i hi'
    by_cases cc : a[i] = b[i]
    · have nx : ∀ j, j < i + 1 → a[j]? = b[j]? := fun j hj => by
        by_cases cj : j = i
        · subst cj; rw [List.getElem?_eq_getElem hi, List.getElem?_eq_getElem hi', cc]
        · exact heq j (by omega)
      rw [cc] at l1
      generalize b[i] = y at *
      repeat (first | apply Z1 | apply Z2 | apply Z3 | apply Z4 | apply Z5 rfl | apply Z6 | apply Z7 | apply Z8 | apply Z9 | apply ZA | apply ZB | apply ZC | ((first | apply ZD (by decide) | apply ZN (by decide)); (simp (maxSteps := 9999999) only [go_sem, r0, r1, r5, e1, e1', e2, l1, l2, ew, Int.toNat_natCast]; rfl)) | (refine ZE ?_ ?_; · simp only [go_sem]) | (refine ZF ?_ ?_; · simp only [go_sem]))
      exact end_nil ⟨k - 1, by omega, i + 1, by omega, nx, by simp only [go_sem, r0], by simp only [go_sem, r1], by simp only [go_sem, ew], rfl, rfl, rfl⟩
    · have hne : a ≠ b := fun e => by subst e; exact cc rfl
      repeat (first | apply Z1 | apply Z2 | apply Z3 | apply Z4 | apply Z5 rfl | apply Z6 | apply Z7 | apply Z8 | apply Z9 | apply ZA | apply ZB | apply ZC | ((first | apply ZD (by decide) | apply ZN (by decide)); (simp (maxSteps := 9999999) only [go_sem, r0, r1, r5, e1, e1', e2, l1, l2, cc, Int.toNat_natCast]; rfl)) | (refine ZE ?_ ?_; · simp only [go_sem]) | (refine ZF ?_ ?_; · simp only [go_sem]))
      exact end_nil ⟨rfl, rfl, rfl, .inr ⟨rfl, hne, by simp only [go_sem]⟩⟩
theorem ints24 {H : SHeap} {av bv : Value} {a b : List Int} (ha : IS H av a) (hb : IS H bv b) (hlen : a.length ≤ 1000000) : M.call 24 [av, bv] H = some (.bool (decide (a = b)), H, []) := by
  refine call_run sf24 rfl rfl rfl ?_
  obtain ⟨va, vc, rfl, _⟩ := id ha
  obtain ⟨vb, vd, rfl, _⟩ := id hb
  unfold sf24
  by_cases c : (a.length : Int) = b.length
  · repeat (first | apply Z1 | apply Z2 | apply Z3 | apply Z4 | apply Z5 rfl | apply Z6 | apply Z7 | apply Z8 | apply Z9 | apply ZA | apply ZB | apply ZC | ((first | apply ZD (by decide) | apply ZN (by decide)); (simp (maxSteps := 9999999) only [go_sem, argR, c]; rfl)) | (refine ZE ?_ ?_; · simp only [go_sem]) | (refine ZF ?_ ?_; · simp only [go_sem]))
    refine run_loop (ints_loop _ ha hb (by omega) hlen a.length _ _ _ _ ⟨0, by omega, fun j hj => by omega, by simp only [go_sem, argR], by simp only [go_sem, argR], by simp only [go_sem], rfl, rfl, rfl⟩) ?_
    rintro ex ρ2 ms2 h2 d2 ⟨rfl, rfl, rfl, h⟩
    rcases h with ⟨rfl, e⟩ | ⟨rfl, e, r4⟩
    · repeat (first | apply Z1 | apply Z2 | apply Z3 | apply Z4 | apply Z5 rfl | apply Z6 | apply Z7 | apply Z8 | apply Z9 | apply ZA | apply ZB | apply ZC | ((first | apply ZD (by decide) | apply ZN (by decide)); (simp (maxSteps := 9999999) only [go_sem]; rfl)) | (refine ZE ?_ ?_; · simp only [go_sem]) | (refine ZF ?_ ?_; · simp only [go_sem]))
      rw [decide_eq_true e]
      exact end_nil (q_ret1 _ (by simp only [go_sem]) rfl (take_self _))
    · repeat (first | apply Z1 | apply Z2 | apply Z3 | apply Z4 | apply Z5 rfl | apply Z6 | apply Z7 | apply Z8 | apply Z9 | apply ZA | apply ZB | apply ZC | ((first | apply ZD (by decide) | apply ZN (by decide)); (simp (maxSteps := 9999999) only [go_sem, r4]; rfl)) | (refine ZE ?_ ?_; · simp only [go_sem]) | (refine ZF ?_ ?_; · simp only [go_sem]))
      rw [decide_eq_false e]
      exact end_nil (q_ret1 _ (by simp only [go_sem, r4]) rfl (take_self _))
  · repeat (first | apply Z1 | apply Z2 | apply Z3 | apply Z4 | apply Z5 rfl | apply Z6 | apply Z7 | apply Z8 | apply Z9 | apply ZA | apply ZB | apply ZC | ((first | apply ZD (by decide) | apply ZN (by decide)); (simp (maxSteps := 9999999) only [go_sem, argR, c]; rfl)) | (refine ZE ?_ ?_; · simp only [go_sem]) | (refine ZF ?_ ?_; · simp only [go_sem]))
    rw [decide_eq_false (fun e => c (by rw [e]))]
    exact end_nil (q_ret1 _ (by simp only [go_sem]) rfl (take_self _))
def capOK (n c s : Nat) : Prop := (n ≤ c ∧ c < UNK) ∨ c = UNK + s
theorem slice_to' {a : Option Addr} {n c s k : Nat} (hk : k ≤ n) (hc : capOK n c s) (ha : a = none ∧ c < UNK ∨ ∃ b o, a = some ⟨b, o, none⟩) : sliceS s (.slice a n c) none (some (.int .i64 (k : Int))) none = some (.slice a k c) := by
  unfold sliceS
  rcases hc with ⟨h1, h2⟩ | rfl
  · have e1 : Nat.ble UNK c = false := by rw [ble_dec]; exact decide_eq_false (by omega)
    have e2 : Nat.blt c UNK = true := by rw [blt_dec]; simpa using h2
    have hkc : k ≤ c := by omega
    rcases ha with ⟨rfl, _⟩ | ⟨b, o, rfl⟩
    · simp [bMx, bHi, bLo, bnd, e1, hkc]
    · simp [bMx, bHi, bLo, bnd, e1, e2, hkc]
  · have e1 : Nat.ble UNK (UNK + s) = true := by rw [ble_dec]; simp
    have e3 : Nat.beq (UNK + s) (UNK + s) = true := Nat.beq_refl _
    rcases ha with ⟨_, h⟩ | ⟨b, o, rfl⟩
    · omega
    · simp [bMx, bHi, bLo, bnd, e1, e3, hk]
theorem append_nilS {h : SHeap} {b o k c s bytes : Nat} {el : TypeId} {cs : List Value} (hn : k ≠ 0) (hr : rdN h b o (k * s) = some cs) (hsc : cs.all sc = true) (hb0 : 0 < bytes) (hb : k * bytes ≤ 140737488355328) (base : Nat) (d : List Nat) : appendS base h d el true s bytes (.slice none 0 0) (.slice (some ⟨b, o, none⟩) k c) = some (.slice (some ⟨h.length, 0, none⟩) k (UNK + s), h ++ [.cells cs el true 0 []], d) := by
  have hn0 : (k == 0) = false := beq_eq_false_iff_ne.2 hn
  have e4 : Nat.ble ((0 + k) * bytes) 140737488355328 = true := by rw [ble_dec, Nat.zero_add]; simpa using hb
  have e5 : Nat.blt 0 bytes = true := by rw [blt_dec]; simpa using hb0
  have hone := all_sc_one cs hsc
  unfold appendS
  simp only [lenS, seenS, hr, hn0, e4, e5, hone, hsc]
  simp [-List.all_eq_true, hone, hsc]
theorem append_nil0 {h : SHeap} {a : Option Addr} {k c s bytes : Nat} {el : TypeId} (hk : k = 0) (base : Nat) (d : List Nat) : appendS base h d el true s bytes (.slice none 0 0) (.slice a k c) = some (.slice none 0 0, h, d) := by
  subst hk
  unfold appendS
  simp [lenS]
def PSc (h : SHeap) (v : Value) (X : List (Int × Int)) : Prop := ∃ a c, v = .slice a X.length c ∧ capOK X.length c 2 ∧ (a = none ∧ c < UNK ∧ X = [] ∨ ∃ b o, a = some ⟨b, o, none⟩ ∧ (X ≠ [] → Prs h b o X))
theorem PSc.ps {h : SHeap} {v : Value} {X : List (Int × Int)} (k : PSc h v X) : PS h v X := by
  obtain ⟨a, c, e, _, k⟩ := k
  refine ⟨a, c, e, fun hn => ?_⟩
  rcases k with ⟨_, _, rfl⟩ | ⟨b, o, rfl, k⟩
  · exact (hn rfl).elim
  · exact ⟨b, o, rfl, k hn⟩
theorem pairs35 {H : SHeap} {v : Value} {X : List (Int × Int)} (hv : PSc H v X) (hlen : X.length ≤ 9223372036854775807) {most : Nat} (hm : most ≤ 1000) :
    M.call 35 [v, .int .i64 most] H = some (resV H (X.take most).length 2, resH H (prs (X.take most)) (X.take most).length 45, []) := by
  refine call_run sf35 rfl rfl rfl ?_
  obtain ⟨a, c, rfl, hc, ha⟩ := hv
  have hmin : (if (most : Int) < X.length then (most : Int) else X.length) = (((X.take most).length : Nat) : Int) := by
    rw [List.length_take]; split <;> omega
  have hk : (X.take most).length ≤ X.length := by rw [List.length_take]; omega
  have hk2 : (X.take most).length ≤ 1000 := by rw [List.length_take]; omega
  have sl := slice_to' (a := a) hk hc (by rcases ha with ⟨h1, h2, _⟩ | ⟨b, o, h1, _⟩; exact .inl ⟨h1, h2⟩; exact .inr ⟨b, o, h1⟩)
  have htk : X.take (X.take most).length = X.take most := by
    rw [List.length_take]
    by_cases c : most ≤ X.length
    · rw [Nat.min_eq_left c]
    · rw [Nat.min_eq_right (by omega), List.take_of_length_le (Nat.le_refl _), List.take_of_length_le (by omega)]
  unfold sf35
  by_cases c0 : (X.take most).length = 0
  · have ap := fun base d => append_nil0 (h := H) (a := a) (c := c) (s := 2) (bytes := 16) (el := 45) c0 base d
    have e : X.take most = [] := List.length_eq_zero_iff.1 c0
    generalize (X.take most).length = k at *
    repeat (first | apply Z1 | apply Z2 | apply Z3 | apply Z4 | apply Z5 rfl | apply Z6 | apply Z7 | apply Z8 | apply Z9 | apply ZA | apply ZB | apply ZC | ((first | apply ZD (by decide) | apply ZN (by decide)); (simp (maxSteps := 9999999) only [go_sem, argR, hmin, ↓sl, ↓ap]; rfl)) | (refine ZE ?_ ?_; · simp only [go_sem]) | (refine ZF ?_ ?_; · simp only [go_sem]))
    rw [e, c0]
    exact end_nil (q_free [.slice none 0 0] (by simp only [go_sem]) rfl rfl rfl (fun _ => rfl) (take_self _) rfl)
  · rcases ha with ⟨_, _, rfl⟩ | ⟨b, o, rfl, hp⟩
    · simp at c0
    · have hne : X ≠ [] := fun e => by rw [e] at c0; simp at c0
      have hr := (hp hne).seen hk
      rw [htk] at hr
      have ap := fun base d => append_nilS (bytes := 16) (el := 45) (c := c) c0 hr (prs_sc _) (by decide) (by omega) base d
      rw [← resV_pos H 2 c0, ← resH_pos H (prs (X.take most)) 45 c0]
      generalize (X.take most).length = k at *
      generalize prs (X.take most) = cs at *
      repeat (first | apply Z1 | apply Z2 | apply Z3 | apply Z4 | apply Z5 rfl | apply Z6 | apply Z7 | apply Z8 | apply Z9 | apply ZA | apply ZB | apply ZC | ((first | apply ZD (by decide) | apply ZN (by decide)); (simp (maxSteps := 9999999) only [go_sem, argR, hmin, ↓sl, ↓ap]; rfl)) | (refine ZE ?_ ?_; · simp only [go_sem]) | (refine ZF ?_ ?_; · simp only [go_sem]))
      exact end_nil (q_own1 (b := H.length) (old := []) (own := 0) (by simp only [go_sem]) (by simp) (by rw [app_get0]; rfl) rfl (Nat.le_refl _))
end Go.Proofs.YtpkhkghiidilcaaDoor.Sh

namespace Go.Proofs.YtpkhkghiidilcaaDoor.Sh
open Go
set_option maxRecDepth 100000
set_option maxHeartbeats 4000000
theorem stk_lst {n : Nat} {s : Nat → Int} {B : Int} (S : ST n s B) : stk (lst n s) = s := by
  funext v
  by_cases c : v < n
  · exact lst_at s c
  · rw [stk_out (by rw [lst_len]; omega), S.out v (by omega)]
theorem doM_zero {n : Nat} {E : List (Int × Int)} {s : Nat → Int} {w : List (Int × Int)} (h : (doM n E s w).2 = 0) : (doM n E s w).1 = s := by
  cases w with
  | nil => rfl
  | cons m w =>
    unfold doM at h ⊢
    split at h
    · simp at h
    · rename_i hc; rw [if_neg hc]
theorem ST.sup {n : Nat} {s : Nat → Int} (S : ST n s 40) (hn : n ≤ 6) : SupOK n (lst n s) := by
  refine ⟨by rw [lst_len], fun x hx => ?_, ?_⟩
  · unfold lst at hx
    obtain ⟨v, _, rfl⟩ := List.mem_map.1 hx
    exact S.bnd hn v
  · have h := S.le
    have o := S.out
    have : (lst n s).sum = tot s := by
      unfold tot
      have : n = 0 ∨ n = 1 ∨ n = 2 ∨ n = 3 ∨ n = 4 ∨ n = 5 ∨ n = 6 := by omega
      rcases this with rfl | rfl | rfl | rfl | rfl | rfl | rfl
      · rw [o 0 (by omega), o 1 (by omega), o 2 (by omega), o 3 (by omega), o 4 (by omega), o 5 (by omega)]; rfl
      · rw [o 1 (by omega), o 2 (by omega), o 3 (by omega), o 4 (by omega), o 5 (by omega)]; simp [lst, List.range_succ]
      · rw [o 2 (by omega), o 3 (by omega), o 4 (by omega), o 5 (by omega)]; simp [lst, List.range_succ]
      · rw [o 3 (by omega), o 4 (by omega), o 5 (by omega)]; simp [lst, List.range_succ]; omega
      · rw [o 4 (by omega), o 5 (by omega)]; simp [lst, List.range_succ]; omega
      · rw [o 5 (by omega)]; simp [lst, List.range_succ]; omega
      · simp [lst, List.range_succ]; omega
    rw [this]; exact h
theorem eqP (x : Int × Int) : eqS (.agg [.int, .int]) (.agg #[.int .i64 x.1, .int .i64 x.2]) (.agg #[.int .i64 x.1, .int .i64 x.2]) = some true := by
  rw [eq2]; simp
theorem same_loop (cx : Cx) {H : SHeap} {av bv : Value} {X : List (Int × Int)} (ha : PS H av X) (hb : PS H bv X) (hlen : X.length ≤ 1000000) {R7 R8 R9 R2 : Value} :
    ∀ k ρ ms h' d', (∃ i : Nat, i + k = X.length ∧ ρ 10 = av ∧ ρ 12 = bv ∧ ρ 13 = .int .i64 i ∧ ρ 7 = R7 ∧ ρ 8 = R8 ∧ ρ 9 = R9 ∧ ρ 2 = R2 ∧ ms = [] ∧ h' = H ∧ d' = []) →
    LoopW M cx 8 sf10L2 ρ ms h' d' (fun ex ρ' ms' h' d' => ex = .exit 0 ∧ ms' = [] ∧ h' = H ∧ d' = [] ∧ ρ' 7 = R7 ∧ ρ' 8 = R8 ∧ ρ' 9 = R9 ∧ ρ' 2 = R2) := by
  refine loop_run _ ?_
  rintro k ρ ms h' d' ⟨i, hk, r10, r12, r13, r7, r8, r9, r2, rfl, rfl, rfl⟩
  unfold sf10L2
  by_cases c : k = 0
  · have e1 : ¬ ((i : Int) < X.length) := by omega
    obtain ⟨va, vc, rfl, _⟩ := id ha
    repeat (first | apply Z1 | apply Z2 | apply Z3 | apply Z4 | apply Z5 rfl | apply Z6 | apply Z7 | apply Z8 | apply Z9 | apply ZA | apply ZB | apply ZC | ((first | apply ZD (by decide) | apply ZN (by decide)); (simp (maxSteps := 9999999) only [go_sem, r10, r13, e1]; rfl)) | (refine ZE ?_ ?_; · simp only [go_sem]) | (refine ZF ?_ ?_; · simp only [go_sem]))
    exact end_nil ⟨rfl, rfl, rfl, rfl, by simp only [go_sem, r7], by simp only [go_sem, r8], by simp only [go_sem, r9], by simp only [go_sem, r2]⟩
  · have e1 : ((i : Int) < X.length) := by omega
    have e2 : (0 : Int) ≤ i := by omega
    have hi : i < X.length := by omega
    have hne : X ≠ [] := by intro e; rw [e] at hi; simp at hi
    have ew : IntKind.i64.wrap ((i : Int) + 1) = ((i + 1 : Nat) : Int) := by rw [wrap64 (by omega) (by omega)]; rfl
    obtain ⟨b1, o1, cp1, rfl, p1⟩ := ha.ld hne
    obtain ⟨b2, o2, cp2, rfl, p2⟩ := hb.ld hne
    have l1 := p1.loadN hi
    have l2 := p2.loadN hi
    have q := eqP X[i]
    generalize X[i] = y at *
    repeat (first | apply Z1 | apply Z2 | apply Z3 | apply Z4 | apply Z5 rfl | apply Z6 | apply Z7 | apply Z8 | apply Z9 | apply ZA | apply ZB | apply ZC | ((first | apply ZD (by decide) | apply ZN (by decide)); (simp (maxSteps := 9999999) only [go_sem, r10, r12, r13, e1, e2, l1, l2, ↓q, ew, Int.toNat_natCast]; rfl)) | (refine ZE ?_ ?_; · simp only [go_sem]) | (refine ZF ?_ ?_; · simp only [go_sem]))
    exact end_nil ⟨k - 1, by omega, i + 1, by omega, by simp only [go_sem, r10], by simp only [go_sem, r12], by simp only [go_sem, ew], by simp only [go_sem, r7], by simp only [go_sem, r8], by simp only [go_sem, r9], by simp only [go_sem, r2], rfl, rfl, rfl⟩
end Go.Proofs.YtpkhkghiidilcaaDoor.Sh

namespace Go.Proofs.YtpkhkghiidilcaaDoor.Sh
open Go
set_option maxRecDepth 100000
set_option maxHeartbeats 4000000
theorem rowM_mem {n : Nat} {E : List (Int × Int)} {s : Nat → Int} {a : Nat} {p : Nat × Nat} : ∀ {b : Nat}, p ∈ rowM n E s a b → p.1 = a ∧ canM n E s p.1 p.2
  | 0, h => by cases h
  | b + 1, h => by
    have h : p ∈ _ ++ _ := h
    rw [List.mem_append] at h
    rcases h with h | h
    · exact rowM_mem h
    · split at h
      · rename_i hc; rw [List.mem_singleton] at h; subst h; exact ⟨rfl, hc⟩
      · cases h
theorem MVb_mem {n : Nat} {E : List (Int × Int)} {s : Nat → Int} {p : Nat × Nat} : ∀ {a : Nat}, p ∈ MVb n E s a → canM n E s p.1 p.2
  | 0, h => by cases h
  | a + 1, h => by
    have h : p ∈ _ ++ _ := h
    rw [List.mem_append] at h
    rcases h with h | h
    · exact MVb_mem h
    · exact (rowM_mem h).2
theorem resV_ld {h : SHeap} {L : List (Nat × Nat)} {el : TypeId} {j : Nat} (hj : j < L.length) (g : SHeap) : loadS (h ++ SO.cells (prN L) el true 0 [] :: g) (some 2) (.pointer (some ⟨h.length, j * 2, none⟩)) = some (.agg #[.int .i64 (L[j].1 : Int), .int .i64 (L[j].2 : Int)]) := by
  have hp : Prs (h ++ SO.cells (prN L) el true 0 [] :: g) h.length 0 (castE L) := Prs.mk0 (el := el) (pf := true) (own := 0) (old := []) (by rw [List.getElem?_append_right (Nat.le_refl _), Nat.sub_self, prN_prs]; rfl) rfl
  have := hp.loadN (i := j) (by rw [castE_len]; exact hj)
  rw [Nat.zero_add] at this
  rw [this]
  simp [castE]
theorem DV.is {H h : SHeap} {lv v : Value} {n i : Nat} {s s0 : Nat → Int} (D : DV H h lv v n i s) (hl : IS H lv (lst n s0)) (h0 : i = 0 → s = s0) (hle : H.length ≤ h.length) (fr : ∀ j, j < H.length → h[j]? = H[j]?) : IS h v (lst n s) := by
  rcases D with ⟨e, rfl⟩ | ⟨_, b, rfl, _, hb⟩
  · rw [h0 e]; exact hl.fr hle fr
  · exact IS.lstAt hb rfl
theorem DV.keep {H h h' : SHeap} {lv v : Value} {n i : Nat} {s : Nat → Int} (D : DV H h lv v n i s) (k : ∀ b cs own old, H.length ≤ b → h[b]? = some (.cells cs 3 true own old) → h'[b]? = h[b]?) : DV H h' lv v n i s := by
  rcases D with ⟨e, rfl⟩ | ⟨e, b, rfl, hb, hc⟩
  · exact .inl ⟨e, rfl⟩
  · exact .inr ⟨e, b, rfl, hb, by rw [k b _ _ _ hb hc]; exact hc⟩
theorem pick_loop (cx : Cx) {H : SHeap} {n : Nat} (hn : n ≤ 6) (hn1 : 1 ≤ n) {ev lv wv : Value} {E w : List (Int × Int)} {s0 : Nat → Int} (hE : EOK n E) (hv : PS H ev E) (hlen : E.length ≤ 1000000) (hs : IS H lv (lst n s0)) (hw : PS H wv w) (hwl : w.length ≤ 1000) {R15 : Value} :
    ∀ k ρ ms h' d', (∃ (i : Nat) (s : Nat → Int) (v qv : Value) (nl : List (Nat × Nat)), i + k = w.length ∧ nl.length = i ∧ ST n s 40 ∧ (i = 0 → s = s0) ∧ AccS H h' qv (prN nl) nl.length 2 45 ∧ DV H h' lv v n i s ∧ ρ 7 = .int .i64 n ∧ ρ 8 = ev ∧ ρ 9 = lv ∧ ρ 14 = wv ∧ ρ 15 = R15 ∧ ρ 21 = v ∧ ρ 22 = qv ∧ ρ 23 = .int .i64 i ∧ ms = [] ∧ d' = []) →
    LoopW M cx 8 sf10L0 ρ ms h' d' (fun ex ρ' ms' h' d' => ex = .exit 4 ∧ ms' = [] ∧ d' = [] ∧ ∃ (qv : Value) (nl : List (Nat × Nat)), nl.length ≤ w.length ∧ AccS H h' qv (prN nl) nl.length 2 45 ∧ ρ' 7 = .int .i64 n ∧ ρ' 8 = ev ∧ ρ' 9 = lv ∧ ρ' 15 = R15 ∧ ρ' 22 = qv) := by
  refine loop_run _ ?_
  rintro k ρ ms h' d' ⟨i, s, v, qv, nl, hk, hnl, S, h0, A, D, r7, r8, r9, r14, r15, r21, r22, r23, rfl, rfl⟩
  unfold sf10L0
  by_cases c : k = 0
  · have e1 : ¬ ((i : Int) < w.length) := by omega
    obtain ⟨wa, wc, rfl, _⟩ := id hw
    repeat (first | apply Z1 | apply Z2 | apply Z3 | apply Z4 | apply Z5 rfl | apply Z6 | apply Z7 | apply Z8 | apply Z9 | apply ZA | apply ZB | apply ZC | ((first | apply ZD (by decide) | apply ZN (by decide)); (simp (maxSteps := 9999999) only [go_sem, r14, r23, e1]; rfl)) | (refine ZE ?_ ?_; · simp only [go_sem]) | (refine ZF ?_ ?_; · simp only [go_sem]))
    exact end_nil ⟨rfl, rfl, rfl, qv, nl, by omega, A, by simp only [go_sem, r7], by simp only [go_sem, r8], by simp only [go_sem, r9], by simp only [go_sem, r15], by simp only [go_sem, r22]⟩
  · have e1 : ((i : Int) < w.length) := by omega
    have e2 : (0 : Int) ≤ i := by omega
    have hi : i < w.length := by omega
    have hwn : w ≠ [] := by intro e; rw [e] at hi; simp at hi
    have ew : IntKind.i64.wrap ((i : Int) + 1) = ((i + 1 : Nat) : Int) := by rw [wrap64 (by omega) (by omega)]; rfl
    have hsl := D.is hs h0 A.le A.same
    have cm := moves44 hn hn1 (hv.fr A.same) hlen hsl (lst_len _ _) (mem_bnd S hn (by omega))
    rw [stk_lst S] at cm
    have hmem : ∀ p ∈ MVL n E s, canM n E s p.1 p.2 := fun p hp => MVb_mem hp
    have hml := MVL_len hn E s
    by_cases c0 : (MVL n E s).length = 0
    · rw [c0] at cm
      have cm' : M.call 44 [.int .i64 n, ev, v] h' = some (.slice none 0 0, h', []) := cm
      obtain ⟨wa, wc, rfl, _⟩ := id hw
      repeat (first | apply Z1 | apply Z2 | apply Z3 | apply Z4 | apply Z5 rfl | apply Z6 | apply Z7 | apply Z8 | apply Z9 | apply ZA | apply ZB | apply ZC | ((first | apply ZD (by decide) | apply ZN (by decide)); (simp (maxSteps := 9999999) only [go_sem, r7, r8, r9, r14, r21, r23, e1, cm']; rfl)) | (refine ZE ?_ ?_; · simp only [go_sem]) | (refine ZF ?_ ?_; · simp only [go_sem]))
      exact end_nil ⟨rfl, rfl, rfl, qv, nl, by omega, A, by simp only [go_sem, r7], by simp only [go_sem, r8], by simp only [go_sem, r9], by simp only [go_sem, r15], by simp only [go_sem, r22]⟩
    · rw [← resV_pos h' 2 c0, ← resH_pos h' _ 45 c0] at cm
      obtain ⟨bw, ow, cw, rfl, pw⟩ := (hw.fr A.same).ld hwn
      have l1 := (pw.app [.cells (prN (MVL n E s)) 45 true 0 [], .gone]).load1 hi
      have l2 := (pw.app [.cells (prN (MVL n E s)) 45 true 0 [], .gone]).load2 hi
      rw [Nat.add_assoc] at l2
      generalize w[i] = y at *
      generalize hL : MVL n E s = L at *
      have hm0 : 0 < L.length := by omega
      have um := uR_eq (IntKind.i64.wrap (y.1 + y.2)) hm0
      have ul := uR_lt (IntKind.i64.wrap (y.1 + y.2)) hm0
      have wl : IntKind.u64.wrap (L.length : Int) = L.length := wrapU (by omega) (by omega)
      have hne : ¬ (L.length : Int) = 0 := by omega
      have e0 : ¬ ((L.length : Nat) : Int) = 0 := hne
      have w6 : IntKind.i64.wrap ((uR (IntKind.i64.wrap (y.1 + y.2)) L.length : Nat) : Int) = ((uR (IntKind.i64.wrap (y.1 + y.2)) L.length : Nat) : Int) := wrap64 (by omega) (by omega)
      generalize uR (IntKind.i64.wrap (y.1 + y.2)) L.length = j at *
      have j1 : (0 : Int) ≤ j := by omega
      have j2 : (j : Int) < L.length := by omega
      have lj := fun g => resV_ld (h := h') (L := L) (el := 45) ul g
      have hcj := hmem L[j] (List.getElem_mem ul)
      generalize L[j] = p at *
      obtain ⟨p1, p2⟩ := p
      dsimp only at lj hcj
      obtain ⟨a', b', q1, q2, q3, q4, q5, q6⟩ := canM_nat hcj
      obtain rfl : p1 = a' := by omega
      obtain rfl : p2 = b' := by omega
      have A1 := A.app [.cells (prN L) 45 true 0 [], .cells [.int .i64 p1, .int .i64 p2] 45 true 0 [], .cells [.int .i64 p1, .int .i64 p2] 45 true 0 []]
      obtain ⟨H2, v2, ap, ⟨b2, hv2⟩, A3, hlt, kp⟩ := A1.push (bs := h'.length + 2) (bytes := 16) (new := [.int .i64 p1, .int .i64 p2]) (el2 := 45) (pf2 := true) (own2 := 0) (old2 := []) (by rw [app_get]; rfl) rfl rfl (by decide) rfl (by decide) (by omega)
      have hl3 : (h' ++ [SO.cells (prN L) 45 true 0 [], SO.cells [.int .i64 p1, .int .i64 p2] 45 true 0 [], SO.cells [.int .i64 p1, .int .i64 p2] 45 true 0 []]).length = h'.length + 3 := by simp
      rw [hl3] at hlt kp
      have k1 : H2[h'.length + 1]? = some (.cells [.int .i64 p1, .int .i64 p2] 45 true 0 []) := by
        rw [kp _ (by omega) (fun b e => by have := (A.acc.lt e).2; omega), app_get]; rfl
      have lq : loadS H2 (some 2) (.pointer (some ⟨h'.length + 1, 0, none⟩)) = some (.agg #[.int .i64 p1, .int .i64 p2]) := by
        have := load_all (h := H2) (b := h'.length + 1) (n := 2) (cs := [.int .i64 p1, .int .i64 p2]) k1 rfl rfl []
        rw [List.append_nil] at this; exact this
      have D2 : DV H H2 lv v n i s := D.keep (fun b cs own old hb hc => by
        have hbl := (List.getElem?_eq_some_iff.1 hc).1
        rw [kp b (by omega) (fun b' e hbb => ?_), List.getElem?_append_left hbl]
        subst hbb
        obtain ⟨b3, old3, e3, hc3, _⟩ := (A.at0).cellsAt (by
          intro h0
          rcases A.acc with ⟨_, e4, _⟩ | ⟨_, _, _, _, _, h5, _⟩
          · rw [e4] at e; cases e
          · exact h5 h0)
        rw [e3] at e
        cases e
        rw [hc] at hc3
        cases hc3)
      have fr2 := A3.same
      have hsl2 := D2.is hs h0 A3.le fr2
      have c47 := move47 hn (hv.fr fr2) hlen hsl2 (lst_len _ _) (mem_bnd S hn (by omega)) hn1 (p1 : Int) (p2 : Int)
      rw [stk_lst S, if_pos hcj, Int.toNat_natCast, Int.toNat_natCast] at c47
      repeat (first | apply Z1 | apply Z2 | apply Z3 | apply Z4 | apply Z5 rfl | apply Z6 | apply Z7 | apply Z8 | apply Z9 | apply ZA | apply ZB | apply ZC | ((first | apply ZD (by decide) | apply ZN (by decide)); (simp (maxSteps := 9999999) only [go_sem, r7, r8, r9, r14, r21, r22, r23, e1, e2, cm, e0, l1, l2, um, wl, hne, w6, j1, j2, lj, ap, lq, c47, ew, Int.toNat_natCast, Nat.add_assoc]; rfl)) | (refine ZE ?_ ?_; · simp only [go_sem]) | (refine ZF ?_ ?_; · simp only [go_sem]))
      have hle3 := A3.le
      refine end_nil ⟨k - 1, by omega, i + 1, aft s p1 p2, _, v2, nl ++ [(p1, p2)], by omega, by simp; omega, (S.aft hE hn q3 q4 q5 q6).mono (by omega), fun h => by omega, ?_, .inr ⟨by omega, H2.length, rfl, hle3, by simp⟩, by simp only [go_sem, r7], by simp only [go_sem, r8], by simp only [go_sem, r9], by simp only [go_sem, r14], by simp only [go_sem, r15], by simp only [go_sem], by simp only [go_sem], by simp only [go_sem, ew], rfl, rfl⟩
      rw [prN_snoc, List.length_append]
      exact A3.app _
end Go.Proofs.YtpkhkghiidilcaaDoor.Sh

namespace Go.Proofs.YtpkhkghiidilcaaDoor.Sh
open Go
set_option maxRecDepth 100000
set_option maxHeartbeats 4000000
theorem AccS.pairs {H h : SHeap} {v : Value} {l : List (Nat × Nat)} (A : AccS H h v (prN l) l.length 2 45) : PS h v (castE l) := by
  rcases A.acc with ⟨h0, rfl, _⟩ | ⟨b, old, rfl, hb, _⟩
  · have : l = [] := List.length_eq_zero_iff.1 h0
    subst this
    exact ⟨none, 0, rfl, fun h => (h rfl).elim⟩
  · exact ⟨_, _, by rw [castE_len], fun _ => ⟨b, 0, rfl, Prs.mk0 (by rw [← prN_prs]; exact hb) rfl⟩⟩
theorem do46' {H : SHeap} {n : Nat} (hn : n ≤ 6) (hn1 : 1 ≤ n) {ev lv wv : Value} {E w : List (Int × Int)} {s : Nat → Int} (hE : EOK n E) (hv : PS H ev E) (hlen : E.length ≤ 1000000) (hs : IS H lv (lst n s)) (S : ST n s 40) (hw : PS H wv w) (hwl : w.length ≤ 1000000) :
    ∃ (ov : Value) (g : SHeap), M.call 46 [.int .i64 n, ev, lv, wv] H = some (.tuple #[ov, .int .i64 (doM n E s w).2], H ++ g, []) ∧ IS (H ++ g) ov (lst n (doM n E s w).1) := by
  have e := do46 hn hn1 hE hv hlen hs (lst_len _ _) (by rw [stk_lst S]; exact S) hw hwl
  rw [stk_lst S] at e
  by_cases c : (doM n E s w).2 = 0
  · rw [if_pos c] at e
    refine ⟨lv, [], by rw [e, c, List.append_nil]; rfl, ?_⟩
    rw [doM_zero c, List.append_nil]; exact hs
  · rw [if_neg c] at e
    exact ⟨_, _, e, IS.lstAt (by rw [List.getElem?_append_right (Nat.le_refl _), Nat.sub_self]; rfl) rfl⟩
theorem rounds_loop (cx : Cx) {H : SHeap} {n : Nat} {ev lv : Value} {E : List (Int × Int)} {s : Nat → Int} (he : errG n E = 0) (hv : PS H ev E) (hlen : E.length ≤ 1000000) (hs : IS H lv (lst n s)) (S : ST n s 40) :
    ∀ k ρ ms h' d', (∃ (i : Nat) (wv : Value) (w : List (Int × Int)), i + k = 2 ∧ H.length ≤ h'.length ∧ (∀ j, j < H.length → h'[j]? = H[j]?) ∧ PS h' wv w ∧ w.length ≤ 1000 ∧ ρ 7 = .int .i64 n ∧ ρ 8 = ev ∧ ρ 9 = lv ∧ ρ 14 = wv ∧ ρ 15 = .int .i64 i ∧ ms = [] ∧ d' = []) →
    LoopW M cx 8 sf10L1 ρ ms h' d' (fun ex ρ' ms' h' d' => ex = .exit 2 ∧ ms' = [] ∧ d' = [] ∧ H.length ≤ h'.length ∧ (∀ j, j < H.length → h'[j]? = H[j]?)) := by
  obtain ⟨m, e, hn1, hn, hE, hC⟩ := errG_ok he
  obtain rfl : n = m := by omega
  refine loop_run _ ?_
  rintro k ρ ms h' d' ⟨i, wv, w, hk, hle, fr, hw, hwl, r7, r8, r9, r14, r15, rfl, rfl⟩
  unfold sf10L1
  by_cases c : k = 0
  · have e1 : ¬ ((i : Int) < 2) := by omega
    repeat (first | apply Z1 | apply Z2 | apply Z3 | apply Z4 | apply Z5 rfl | apply Z6 | apply Z7 | apply Z8 | apply Z9 | apply ZA | apply ZB | apply ZC | ((first | apply ZD (by decide) | apply ZN (by decide)); (simp (maxSteps := 9999999) only [go_sem, r15, e1]; rfl)) | (refine ZE ?_ ?_; · simp only [go_sem]) | (refine ZF ?_ ?_; · simp only [go_sem]))
    exact end_nil ⟨rfl, rfl, rfl, hle, fr⟩
  · have e1 : ((i : Int) < 2) := by omega
    have ew : IntKind.i64.wrap ((i : Int) + 1) = ((i + 1 : Nat) : Int) := by rw [wrap64 (by omega) (by omega)]; rfl
    have hv1 := hv.fr fr
    have hs1 := hs.fr hle fr
    have c45 := do45 hv1 hlen he hs1 (by rw [lst_len]; omega) (S.sup hn) hw (by omega)
    rw [stk_lst S] at c45
    have x1 : ∀ g : SHeap, PS (h' ++ g) ev E := fun g => hv1.app g
    obtain ⟨ov, g, c46, ho⟩ := do46' (H := h' ++ [.cells (iV n (doM n E s w).1) 3 true 0 []]) hn hn1 hE (hv1.app _) hlen (hs1.app _) S (hw.app _) (by omega)
    have hd : IS ((h' ++ [.cells (iV n (doM n E s w).1) 3 true 0 []]) ++ g) (.slice (some ⟨h'.length, 0, none⟩) n (UNK + 1)) (lst n (doM n E s w).1) := IS.app (IS.lstAt (by rw [List.getElem?_append_right (Nat.le_refl _), Nat.sub_self]; rfl) rfl) g
    have c24 := ints24 hd ho (by rw [lst_len]; omega)
    rw [decide_eq_true rfl] at c24
    have hH : H.length ≤ ((h' ++ [.cells (iV n (doM n E s w).1) 3 true 0 []]) ++ g : SHeap).length := by simp; omega
    have hfr : ∀ j, j < H.length → ((h' ++ [.cells (iV n (doM n E s w).1) 3 true 0 []]) ++ g : SHeap)[j]? = H[j]? := fun j hj => by
      rw [List.append_assoc, List.getElem?_append_left (by omega)]; exact fr j hj
    have hw2 := (hw.app [.cells (iV n (doM n E s w).1) 3 true 0 []]).app g
    rw [List.append_assoc, List.singleton_append] at c46 c24 hH hfr hw2
    generalize (doM n E s w).2 = kk at *
    have hv2 : PS (h' ++ SO.cells (iV n (doM n E s w).1) 3 true 0 [] :: g) ev E := hv.fr hfr
    have hs2 : IS (h' ++ SO.cells (iV n (doM n E s w).1) 3 true 0 [] :: g) lv (lst n s) := hs.fr hH hfr
    repeat (first | apply Z1 | apply Z2 | apply Z3 | apply Z4 | apply Z5 rfl | apply Z6 | apply Z7 | apply Z8 | apply Z9 | apply ZA | apply ZB | apply ZC | ((first | apply ZD (by decide) | apply ZN (by decide)); (simp (maxSteps := 9999999) only [go_sem, r7, r8, r9, r14, r15, e1, c45, c46, c24]; rfl)) | (refine ZE ?_ ?_; · simp only [go_sem]) | (refine ZF ?_ ?_; · simp only [go_sem]))
    generalize h' ++ SO.cells (iV n (doM n E s w).1) 3 true 0 [] :: g = h2 at *
    refine run_loop (pick_loop cx (H := h2) hn hn1 hE hv2 hlen hs2 hw2 hwl (R15 := .int .i64 i) w.length _ _ _ _ ⟨0, s, lv, .slice none 0 0, [], by omega, rfl, S, fun _ => rfl, AccS.nil0 _ 2 45, .inl ⟨rfl, rfl⟩, by simp only [go_sem, r7], by simp only [go_sem, r8], by simp only [go_sem, r9], by simp only [go_sem, r14], by simp only [go_sem, r15], by simp only [go_sem, r9], by simp only [go_sem], by simp only [go_sem], rfl, rfl⟩) ?_
    rintro ex ρ2 ms2 h3 d3 ⟨rfl, rfl, rfl, qv, nl, hnl, A, t7, t8, t9, t15, t22⟩
    have ale := A.le
    have asm := A.same
    repeat (first | apply Z1 | apply Z2 | apply Z3 | apply Z4 | apply Z5 rfl | apply Z6 | apply Z7 | apply Z8 | apply Z9 | apply ZA | apply ZB | apply ZC | ((first | apply ZD (by decide) | apply ZN (by decide)); (simp (maxSteps := 9999999) only [go_sem, t7, t8, t9, t15, t22, ew]; rfl)) | (refine ZE ?_ ?_; · simp only [go_sem]) | (refine ZF ?_ ?_; · simp only [go_sem]))
    exact end_nil ⟨k - 1, by omega, i + 1, qv, castE nl, by omega, by omega, fun j hj => by rw [asm j (by omega)]; exact hfr j hj, A.pairs, by rw [castE_len]; omega, by simp only [go_sem, t7], by simp only [go_sem, t8], by simp only [go_sem, t9], by simp only [go_sem, t22], by simp only [go_sem, ew], rfl, rfl⟩
end Go.Proofs.YtpkhkghiidilcaaDoor.Sh

namespace Go.Proofs.YtpkhkghiidilcaaDoor.Sh
open Go
set_option maxRecDepth 100000
set_option maxHeartbeats 4000000
theorem resH_fr (h : SHeap) (cs : List Value) (n : Nat) (el : TypeId) : h.length ≤ (resH h cs n el).length ∧ ∀ j, j < h.length → (resH h cs n el)[j]? = h[j]? := by
  unfold resH
  split
  · exact ⟨Nat.le_refl _, fun _ _ => rfl⟩
  · exact ⟨by simp, fun j hj => List.getElem?_append_left hj⟩
theorem PS_resI (H : SHeap) (l : List (Int × Int)) (el : TypeId) : PS (resH H (prs l) l.length el) (resV H l.length 2) l := by
  by_cases c : l.length = 0
  · have : l = [] := List.length_eq_zero_iff.1 c
    subst this
    exact ⟨none, 0, rfl, fun h => (h rfl).elim⟩
  · unfold resH resV
    rw [if_neg c, if_neg c]
    refine ⟨_, _, rfl, fun _ => ⟨_, _, rfl, Prs.mk0 (el := el) (pf := true) (own := 0) (old := []) ?_ rfl⟩⟩
    rw [List.getElem?_append_right (Nat.le_refl _), Nat.sub_self]; rfl
theorem Prs.fr {H h : SHeap} {b o : Nat} {X : List (Int × Int)} (k : Prs H b o X) (fr : ∀ j, j < H.length → h[j]? = H[j]?) : Prs h b o X := by
  have e := fr b k.lt
  obtain ⟨pre, post, el2, pf, own, old, h1, h2⟩ := k
  exact ⟨pre, post, el2, pf, own, old, by rw [e]; exact h1, h2⟩
theorem PSc.fr {H h : SHeap} {v : Value} {X : List (Int × Int)} (k : PSc H v X) (fr : ∀ j, j < H.length → h[j]? = H[j]?) : PSc h v X := by
  obtain ⟨a, c, e, hc, k⟩ := k
  refine ⟨a, c, e, hc, k.imp id ?_⟩
  rintro ⟨b, o, e, k⟩
  exact ⟨b, o, e, fun hn => (k hn).fr fr⟩
theorem law10M {H : SHeap} {N : Int} {ev lv mv : Value} {X W : List (Int × Int)} {l : List Int} (hv : PS H ev X) (hX : X.length ≤ 9223372036854775807) (hl : IS H lv l) (hll : l.length ≤ 9223372036854775807) (hm : PSc H mv W) (hW : W.length ≤ 9223372036854775807) :
    M.call 10 [.agg #[.int .i64 N, ev], lv, mv] H = some (.bool true, H, []) := by
  refine call_run sf10 rfl rfl rfl ?_
  obtain ⟨n, f, T, c15⟩ := tame15 (H := H ++ [.cells [.int .i64 N, ev] 24 false 0 []]) (N := N) (hv.app _) hX (most := 6) (by decide) (by decide) false
  have he := T.err (by decide)
  have hEl := edgE_len f
  have P1 := PS_res (H ++ [.cells [.int .i64 N, ev] 24 false 0 []]) (edg f 36) 45
  obtain ⟨k1, k2⟩ := resH_fr (H ++ [.cells [.int .i64 N, ev] 24 false 0 []]) (prN (edg f 36)) (edg f 36).length 45
  have F1 : H.length ≤ (resH (H ++ [.cells [.int .i64 N, ev] 24 false 0 []]) (prN (edg f 36)) (edg f 36).length 45).length := by simp at k1; omega
  have G1 : ∀ j, j < H.length → (resH (H ++ [.cells [.int .i64 N, ev] 24 false 0 []]) (prN (edg f 36)) (edg f 36).length 45)[j]? = H[j]? := fun j hj => by rw [k2 j (by simp; omega), List.getElem?_append_left hj]
  clear k1 k2
  generalize resH (H ++ [.cells [.int .i64 N, ev] 24 false 0 []]) (prN (edg f 36)) (edg f 36).length 45 = H1 at *
  generalize resV (H ++ [.cells [.int .i64 N, ev] 24 false 0 []]) (edg f 36).length 2 = xv at *
  generalize castE (edg f 36) = E at *
  obtain ⟨m, em, hn1, hn, hE, hC⟩ := errG_ok he
  obtain rfl : n = m := by omega
  obtain ⟨s, S, c16⟩ := brought16 (H := H1) hn (hl.fr F1 G1) hll (most := 40) (by decide)
  rw [← resV_pos H1 1 (show n ≠ 0 by omega), ← resH_pos H1 _ 3 (show n ≠ 0 by omega)] at c16
  have I2 : IS (H1 ++ [.cells (iV n s) 3 true 0 []]) (.slice (some ⟨H1.length, 0, none⟩) n (UNK + 1)) (lst n s) := IS.lstAt (by rw [List.getElem?_append_right (Nat.le_refl _), Nat.sub_self]; rfl) rfl
  have P2 := P1.app [.cells (iV n s) 3 true 0 []]
  have F2 : H.length ≤ (H1 ++ [.cells (iV n s) 3 true 0 []] : SHeap).length := by simp; omega
  have G2 : ∀ j, j < H.length → (H1 ++ [.cells (iV n s) 3 true 0 []] : SHeap)[j]? = H[j]? := fun j hj => by rw [List.getElem?_append_left (by omega)]; exact G1 j hj
  have S' : ST n s 40 := S
  generalize H1 ++ [.cells (iV n s) 3 true 0 []] = H2 at *
  generalize Value.slice (some ⟨H1.length, 0, none⟩) n (UNK + 1) = sv at *
  have c43 := moves43 P2 hEl he I2 (by rw [lst_len]; omega) (S'.sup hn)
  rw [stk_lst S'] at c43
  have P3 := PS_res H2 (MVL n E s) 45
  obtain ⟨k1, k2⟩ := resH_fr H2 (prN (MVL n E s)) (MVL n E s).length 45
  generalize resH H2 (prN (MVL n E s)) (MVL n E s).length 45 = H3 at *
  generalize resV H2 (MVL n E s).length 2 = av at *
  have c44 := moves44 hn hn1 (P2.fr k2) hEl (I2.fr k1 k2) (lst_len _ _) (mem_bnd S' hn (by decide))
  rw [stk_lst S'] at c44
  have P4 := PS_res H3 (MVL n E s) 45
  obtain ⟨k3, k4⟩ := resH_fr H3 (prN (MVL n E s)) (MVL n E s).length 45
  generalize resH H3 (prN (MVL n E s)) (MVL n E s).length 45 = H4 at *
  generalize resV H3 (MVL n E s).length 2 = bv at *
  have hML : (castE (MVL n E s)).length ≤ 1000000 := by rw [castE_len]; have := MVL_len hn E s; omega
  generalize castE (MVL n E s) = L at *
  have A4 := P3.fr k4
  have F4 : H2.length ≤ H4.length := by omega
  have G4 : ∀ j, j < H2.length → H4[j]? = H2[j]? := fun j hj => by rw [k4 j (by omega)]; exact k2 j hj
  have c35 := pairs35 (H := H4) (hm.fr (fun j hj => by rw [G4 j (by omega)]; exact G2 j hj)) hW (most := 50) (by decide)
  have P5 := PS_resI H4 (W.take 50) 45
  obtain ⟨k5, k6⟩ := resH_fr H4 (prs (W.take 50)) (W.take 50).length 45
  generalize resH H4 (prs (W.take 50)) (W.take 50).length 45 = H5 at *
  generalize resV H4 (W.take 50).length 2 = wv at *
  have F5 : H2.length ≤ H5.length := by omega
  have G5 : ∀ j, j < H2.length → H5[j]? = H2[j]? := fun j hj => by rw [k6 j (by omega)]; exact G4 j hj
  obtain ⟨aa, ac, ea, _⟩ := id A4
  obtain ⟨ba, bc, eb, _⟩ := id P4
  obtain ⟨va, vc, evv, _⟩ := id hv
  subst ea eb evv
  rw [show ((6 : Nat) : Int) = 6 from rfl] at c15
  rw [show ((40 : Nat) : Int) = 40 from rfl] at c16
  rw [show ((50 : Nat) : Int) = 50 from rfl] at c35
  unfold sf10
  repeat (first | apply Z1 | apply Z2 | apply Z3 | apply Z4 | apply Z5 rfl | apply Z6 | apply Z7 | apply Z8 | apply Z9 | apply ZA | apply ZB | apply ZC | ((first | apply ZD (by decide) | apply ZN (by decide)); (simp (maxSteps := 9999999) only [go_sem, argR, c15, c16, c43, c44]; rfl)) | (refine ZE ?_ ?_; · simp only [go_sem]) | (refine ZF ?_ ?_; · simp only [go_sem]))
  refine run_loop (same_loop _ A4 P4 hML (R7 := .int .i64 n) (R8 := xv) (R9 := sv) (R2 := mv) L.length _ _ _ _ ⟨0, by omega, by simp only [go_sem], by simp only [go_sem], by simp only [go_sem], by simp only [go_sem], by simp only [go_sem], by simp only [go_sem], by simp only [go_sem, argR], rfl, rfl, rfl⟩) ?_
  rintro ex ρ2 ms2 h2 d2 ⟨rfl, rfl, rfl, rfl, r7, r8, r9, r2⟩
  repeat (first | apply Z1 | apply Z2 | apply Z3 | apply Z4 | apply Z5 rfl | apply Z6 | apply Z7 | apply Z8 | apply Z9 | apply ZA | apply ZB | apply ZC | ((first | apply ZD (by decide) | apply ZN (by decide)); (simp (maxSteps := 9999999) only [go_sem, r7, r8, r9, r2, c35]; rfl)) | (refine ZE ?_ ?_; · simp only [go_sem]) | (refine ZF ?_ ?_; · simp only [go_sem]))
  refine run_loop (rounds_loop _ (H := H2) he P2 hEl I2 S' 2 _ _ _ _ ⟨0, wv, W.take 50, by omega, F5, G5, P5, by rw [List.length_take]; omega, by simp only [go_sem, r7], by simp only [go_sem, r8], by simp only [go_sem, r9], by simp only [go_sem], by simp only [go_sem], rfl, rfl⟩) ?_
  rintro ex ρ3 ms3 h3 d3 ⟨rfl, rfl, rfl, F6, G6⟩
  have aw := awake_call
  repeat (first | apply Z1 | apply Z2 | apply Z3 | apply Z4 | apply Z5 rfl | apply Z6 | apply Z7 | apply Z8 | apply Z9 | apply ZA | apply ZB | apply ZC | ((first | apply ZD (by decide) | apply ZN (by decide)); (simp (maxSteps := 9999999) only [go_sem, aw]; rfl)) | (refine ZE ?_ ?_; · simp only [go_sem]) | (refine ZF ?_ ?_; · simp only [go_sem]))
  exact end_nil (q_ret1 _ (by simp only [go_sem]) rfl (take_of_same (by omega) (fun j hj => by rw [G6 j (by omega)]; exact G2 j hj)))
end Go.Proofs.YtpkhkghiidilcaaDoor.Sh

