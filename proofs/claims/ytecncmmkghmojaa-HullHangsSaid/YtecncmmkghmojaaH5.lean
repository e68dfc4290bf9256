/- Towers of planks of one length: how far they hang over. -/
import Derived.Test.YtecncmmkghmojaaH3
import Derived.Test.YtecncmmkghmojaaH4
import Derived.ChangeSlices
set_option linter.all false
/- Towers of planks of one length: how far they hang over. -/
namespace Go.Proofs.Ytecncmmkghmojaa.Sh
open Go
set_option maxRecDepth 100000

/-- 27720 times the sum of 1/1 to 1/n -/
def eH : Nat → Int
  | 0 => 0
  | n + 1 => eH n + 27720 / (n + 1 : Nat)

theorem eH_0 : eH 0 = 0 := by decide
theorem eH_1 : eH 1 = 27720 := by decide
theorem eH_2 : eH 2 = 41580 := by decide
theorem eH_3 : eH 3 = 50820 := by decide
theorem eH_4 : eH 4 = 57750 := by decide
theorem eH_5 : eH 5 = 63294 := by decide
theorem eH_6 : eH 6 = 67914 := by decide
theorem eH_7 : eH 7 = 71874 := by decide
theorem eH_8 : eH 8 = 75339 := by decide
theorem eH_9 : eH 9 = 78419 := by decide
theorem eH_10 : eH 10 = 81191 := by decide
theorem eH_11 : eH 11 = 83711 := by decide
theorem eH_12 : eH 12 = 86021 := by decide
theorem hs_1 : hs 1 = (1, 1) := by decide
theorem hs_2 : hs 2 = (3, 2) := by decide
theorem hs_3 : hs 3 = (11, 6) := by decide
theorem hs_4 : hs 4 = (25, 12) := by decide
theorem hs_5 : hs 5 = (137, 60) := by decide
theorem hs_6 : hs 6 = (49, 20) := by decide
theorem hs_7 : hs 7 = (363, 140) := by decide
theorem hs_8 : hs 8 = (761, 280) := by decide
theorem hs_9 : hs 9 = (7129, 2520) := by decide
theorem hs_10 : hs 10 = (7381, 2520) := by decide
theorem hs_11 : hs 11 = (83711, 27720) := by decide
theorem hs_12 : hs 12 = (86021, 27720) := by decide

theorem hang_step (m : Nat) (h1 : 1 ≤ m) (h2 : m ≤ 11) (S S' a L Y : Int) (hL : 0 ≤ L) (e1 : S = a + S') (e2 : S' ≤ (a + L) * m) (e3 : 27720 * S ≤ ((m + 1 : Nat) : Int) * (Y - L * eH (m + 1))) : 27720 * S' ≤ (m : Int) * (Y - L * eH m) := by
  have hm : m = 1 ∨ m = 2 ∨ m = 3 ∨ m = 4 ∨ m = 5 ∨ m = 6 ∨ m = 7 ∨ m = 8 ∨ m = 9 ∨ m = 10 ∨ m = 11 := by omega
  rcases hm with rfl | rfl | rfl | rfl | rfl | rfl | rfl | rfl | rfl | rfl | rfl
  · rw [eH_1]; rw [show 1 + 1 = 2 from rfl, eH_2] at e3; simp only [Int.add_mul, Int.sub_mul] at e2 ⊢; omega
  · rw [eH_2]; rw [show 2 + 1 = 3 from rfl, eH_3] at e3; simp only [Int.add_mul, Int.sub_mul] at e2 ⊢; omega
  · rw [eH_3]; rw [show 3 + 1 = 4 from rfl, eH_4] at e3; simp only [Int.add_mul, Int.sub_mul] at e2 ⊢; omega
  · rw [eH_4]; rw [show 4 + 1 = 5 from rfl, eH_5] at e3; simp only [Int.add_mul, Int.sub_mul] at e2 ⊢; omega
  · rw [eH_5]; rw [show 5 + 1 = 6 from rfl, eH_6] at e3; simp only [Int.add_mul, Int.sub_mul] at e2 ⊢; omega
  · rw [eH_6]; rw [show 6 + 1 = 7 from rfl, eH_7] at e3; simp only [Int.add_mul, Int.sub_mul] at e2 ⊢; omega
  · rw [eH_7]; rw [show 7 + 1 = 8 from rfl, eH_8] at e3; simp only [Int.add_mul, Int.sub_mul] at e2 ⊢; omega
  · rw [eH_8]; rw [show 8 + 1 = 9 from rfl, eH_9] at e3; simp only [Int.add_mul, Int.sub_mul] at e2 ⊢; omega
  · rw [eH_9]; rw [show 9 + 1 = 10 from rfl, eH_10] at e3; simp only [Int.add_mul, Int.sub_mul] at e2 ⊢; omega
  · rw [eH_10]; rw [show 10 + 1 = 11 from rfl, eH_11] at e3; simp only [Int.add_mul, Int.sub_mul] at e2 ⊢; omega
  · rw [eH_11]; rw [show 11 + 1 = 12 from rfl, eH_12] at e3; simp only [Int.add_mul, Int.sub_mul] at e2 ⊢; omega
theorem hang_end (m : Nat) (h1 : 1 ≤ m) (h2 : m ≤ 12) (S a L Y : Int) (hL : 0 ≤ L) (e1 : a * m ≤ S + L * ((m : Int) - 1)) (e3 : 27720 * S ≤ (m : Int) * (Y - L * eH m)) : 27720 * (a + L) ≤ Y := by
  have hm : m = 1 ∨ m = 2 ∨ m = 3 ∨ m = 4 ∨ m = 5 ∨ m = 6 ∨ m = 7 ∨ m = 8 ∨ m = 9 ∨ m = 10 ∨ m = 11 ∨ m = 12 := by omega
  rcases hm with rfl | rfl | rfl | rfl | rfl | rfl | rfl | rfl | rfl | rfl | rfl | rfl
  · rw [eH_1] at e3; omega
  · rw [eH_2] at e3; omega
  · rw [eH_3] at e3; omega
  · rw [eH_4] at e3; omega
  · rw [eH_5] at e3; omega
  · rw [eH_6] at e3; omega
  · rw [eH_7] at e3; omega
  · rw [eH_8] at e3; omega
  · rw [eH_9] at e3; omega
  · rw [eH_10] at e3; omega
  · rw [eH_11] at e3; omega
  · rw [eH_12] at e3; omega
theorem hang_frac (n : Nat) (h1 : 1 ≤ n) (h2 : n ≤ 12) (R L : Int) (e : 27720 * (2 * R) ≤ L * eH n) : 2 * R * (hs n).2 ≤ L * (hs n).1 := by
  have hm : n = 1 ∨ n = 2 ∨ n = 3 ∨ n = 4 ∨ n = 5 ∨ n = 6 ∨ n = 7 ∨ n = 8 ∨ n = 9 ∨ n = 10 ∨ n = 11 ∨ n = 12 := by omega
  rcases hm with rfl | rfl | rfl | rfl | rfl | rfl | rfl | rfl | rfl | rfl | rfl | rfl
  · rw [eH_1] at e; rw [hs_1]; dsimp only; omega
  · rw [eH_2] at e; rw [hs_2]; dsimp only; omega
  · rw [eH_3] at e; rw [hs_3]; dsimp only; omega
  · rw [eH_4] at e; rw [hs_4]; dsimp only; omega
  · rw [eH_5] at e; rw [hs_5]; dsimp only; omega
  · rw [eH_6] at e; rw [hs_6]; dsimp only; omega
  · rw [eH_7] at e; rw [hs_7]; dsimp only; omega
  · rw [eH_8] at e; rw [hs_8]; dsimp only; omega
  · rw [eH_9] at e; rw [hs_9]; dsimp only; omega
  · rw [eH_10] at e; rw [hs_10]; dsimp only; omega
  · rw [eH_11] at e; rw [hs_11]; dsimp only; omega
  · rw [eH_12] at e; rw [hs_12]; dsimp only; omega

def sS (l : List (Int × Int)) : Int := isum (l.map (fun q => 2 * q.1 + q.2))
theorem sT_eq (L : Int) : ∀ (l : List (Int × Int)), (∀ q ∈ l, q.2 = L) → sT l = L * sS l
  | [], _ => by simp [sT, sS, isum]
  | q :: r, h => by
    have h1 := h q (by simp)
    have ih := sT_eq L r (fun x hx => h x (by simp [hx]))
    simp only [sT, sS, List.map_cons, isum] at ih ⊢
    rw [ih, tw, h1]
    exact (Int.mul_add _ _ _).symm
theorem sW_eq (L : Int) : ∀ (l : List (Int × Int)), (∀ q ∈ l, q.2 = L) → sW l = L * (2 * l.length)
  | [], _ => by simp [sW, isum]
  | q :: r, h => by
    have h1 := h q (by simp)
    have ih := sW_eq L r (fun x hx => h x (by simp [hx]))
    simp only [sW, List.map_cons, isum, List.length_cons] at ih ⊢
    rw [ih, ww, h1, Int.natCast_add, Int.mul_add 2, Int.mul_add L]
    simp only [Int.natCast_one, Int.mul_one]
    rw [Int.mul_comm L 2]
    omega
theorem sS_drop (l : List (Int × Int)) (i : Nat) (hi : i < l.length) : sS (l.drop i) = (2 * l[i].1 + l[i].2) + sS (l.drop (i + 1)) := by
  rw [drop_cons l i hi]; rfl

theorem bal_mul {l : List (Int × Int)} (hok : l.all okP = true) (hl : l ≠ []) : ∃ g : Int, 0 < g ∧ (bal l).1 * g = sT l ∧ (bal l).2 * g = sW l := by
  refine ⟨Int.gcd (sT l) (sW l), ?_, Int.tdiv_mul_cancel (Int.gcd_dvd_left _ _), Int.tdiv_mul_cancel (Int.gcd_dvd_right _ _)⟩
  have := gcd_ne hok hl
  omega

theorem standS_all {l : List (Int × Int)} (h : standS l = (0, true)) : ∀ j, j < l.length → badS l j = false := by
  have hn : firstS l = none := by
    cases e : firstS l with
    | none => rfl
    | some i => rw [standS, e] at h; simp at h
  rw [firstS, List.find?_range_eq_none] at hn
  intro j hj
  have := hn j hj
  simpa using this

theorem drop_ne {α : Type} {l : List α} {i : Nat} (hi : i < l.length) : l.drop i ≠ [] := by
  intro e
  have := congrArg List.length e
  simp at this
  omega

theorem hang_law {l : List (Int × Int)} {L : Int} (hL : 0 < L) (ht : towerB l = true) (hl : ∀ q ∈ l, q.2 = L) (hst : standS l = (0, true)) : ∀ k, (hk : k < l.length) → 2 * (l[k].1 + l[k].2) * (hs l.length).2 ≤ L * (hs l.length).1 := by
  obtain ⟨hok, hn1, hn⟩ := towerB_of ht
  have hall := standS_all hst
  have hS : ∀ i, sT (l.drop i) = L * sS (l.drop i) := fun i => sT_eq L _ (fun q hq => hl q (List.mem_of_mem_drop hq))
  have hW : ∀ i, sW (l.drop i) = L * (2 * ((l.length - i : Nat) : Int)) := fun i => by
    rw [sW_eq L _ (fun q hq => hl q (List.mem_of_mem_drop hq)), List.length_drop]
  have hLk : ∀ i, (hi : i < l.length) → l[i].2 = L := fun i hi => hl _ (List.getElem_mem hi)
  have h0 : sS l ≤ 0 := by
    have hb := hall 0 (by omega)
    have hne : l ≠ [] := by intro e; rw [e] at hn1; simp at hn1
    obtain ⟨g, g1, g2, g3⟩ := bal_mul hok hne
    have hb' : ¬ 0 < (bal l).1 := of_decide_eq_false hb
    have h1 : sT l ≤ 0 := by
      rw [← g2]
      have := Int.mul_le_mul_of_nonneg_right (show (bal l).1 ≤ 0 by omega) (Int.le_of_lt g1)
      simpa using this
    have h2 := hS 0
    rw [List.drop_zero] at h2
    rw [h2] at h1
    by_cases c : sS l ≤ 0
    · exact c
    · have := Int.mul_pos hL (show 0 < sS l by omega)
      omega
  have hc : ∀ j, (hj : j + 1 < l.length) → (2 * l[j].1) * ((l.length - (j + 1) : Nat) : Int) ≤ sS (l.drop (j + 1)) ∧ sS (l.drop (j + 1)) ≤ (2 * (l[j].1 + L)) * ((l.length - (j + 1) : Nat) : Int) := by
    intro j hj
    have hb := hall (j + 1) hj
    obtain ⟨g, g1, g2, g3⟩ := bal_mul (all_drop hok (j + 1)) (drop_ne hj)
    have hgd : l.getD j (0, 0) = l[j] := by rw [List.getD_eq_getElem?_getD, List.getElem?_eq_getElem (by omega)]; rfl
    simp only [badS, hgd, Bool.or_eq_false_iff, decide_eq_false_iff_not] at hb
    obtain ⟨b1, b2⟩ := hb
    rw [hLk j (by omega)] at b2
    have c1 := Int.mul_le_mul_of_nonneg_right (Int.not_lt.1 b1) (Int.le_of_lt g1)
    have c2 := Int.mul_le_mul_of_nonneg_right (Int.not_lt.1 b2) (Int.le_of_lt g1)
    rw [Int.mul_assoc, g2, g3, hS, hW] at c1
    rw [Int.mul_assoc, g2, g3, hS, hW] at c2
    generalize ((l.length - (j + 1) : Nat) : Int) = m at *
    constructor
    · refine Int.le_of_mul_le_mul_left (a := L) ?_ hL
      rw [show L * (2 * l[j].1 * m) = l[j].1 * (L * (2 * m)) by
        rw [Int.mul_comm 2, Int.mul_assoc, ← Int.mul_assoc L, Int.mul_comm L, Int.mul_assoc]]
      exact c1
    · refine Int.le_of_mul_le_mul_left (a := L) ?_ hL
      rw [show L * (2 * (l[j].1 + L) * m) = (l[j].1 + L) * (L * (2 * m)) by
        rw [Int.mul_comm 2, Int.mul_assoc, ← Int.mul_assoc L, Int.mul_comm L, Int.mul_assoc]]
      exact c2
  have hP : ∀ i, i < l.length → 27720 * sS (l.drop i) ≤ ((l.length - i : Nat) : Int) * (L * eH l.length - L * eH (l.length - i)) := by
    intro i
    induction i with
    | zero =>
      intro _
      rw [List.drop_zero, Nat.sub_zero, Int.sub_self, Int.mul_zero]
      omega
    | succ i ih =>
      intro hi
      have h1 := ih (by omega)
      obtain ⟨_, h3⟩ := hc i hi
      have h4 := sS_drop l i (by omega)
      rw [hLk i (by omega)] at h4
      rw [show l.length - i = (l.length - (i + 1)) + 1 by omega] at h1
      refine hang_step (l.length - (i + 1)) (by omega) (by omega) _ _ (2 * l[i].1 + L) L _ (by omega) h4 ?_ h1
      rw [show 2 * l[i].1 + L + L = 2 * (l[i].1 + L) by omega]
      exact h3
  intro k hk
  refine hang_frac l.length hn1 hn _ L ?_
  have h1 := hP k hk
  have h4 := sS_drop l k hk
  rw [hLk k hk] at h4 ⊢
  have h5 : (2 * l[k].1 + L) * ((l.length - k : Nat) : Int) ≤ sS (l.drop k) + L * (((l.length - k : Nat) : Int) - 1) := by
    by_cases e : k + 1 < l.length
    · obtain ⟨h2, _⟩ := hc k e
      have e1 : ((l.length - k : Nat) : Int) = ((l.length - (k + 1) : Nat) : Int) + 1 := by omega
      rw [h4, e1]
      generalize ((l.length - (k + 1) : Nat) : Int) = m at *
      rw [Int.add_mul, Int.mul_add (2 * l[k].1), Int.mul_add L, Int.mul_one, Int.mul_one, Int.add_sub_cancel]
      omega
    · have e1 : ((l.length - k : Nat) : Int) = 1 := by omega
      have e2 : l.drop (k + 1) = [] := List.drop_eq_nil_of_le (by omega)
      rw [h4, e1, e2]
      simp [sS, isum]
  have h6 := hang_end (l.length - k) (by omega) (by omega) _ (2 * l[k].1 + L) L _ (by omega) h5 h1
  rw [show 2 * (l[k].1 + L) = 2 * l[k].1 + L + L by omega]
  exact h6

theorem rch_mem : ∀ (l : List (Int × Int)) (a : Int), rch l a = a ∨ ∃ k, ∃ hk : k < l.length, rch l a = l[k].1 + l[k].2
  | [], a => .inl rfl
  | q :: r, a => by
    rcases rch_mem r (if q.1 + q.2 > a then q.1 + q.2 else a) with h | ⟨k, hk, h⟩
    · by_cases c : q.1 + q.2 > a
      · rw [if_pos c] at h
        exact .inr ⟨0, by simp, by show rch r (if q.1 + q.2 > a then q.1 + q.2 else a) = _; rw [if_pos c]; exact h⟩
      · rw [if_neg c] at h
        exact .inl (by show rch r (if q.1 + q.2 > a then q.1 + q.2 else a) = _; rw [if_neg c]; exact h)
    · exact .inr ⟨k + 1, by simpa using hk, h⟩
theorem reachF_mem {l : List (Int × Int)} (h : 1 ≤ l.length) : ∃ k, ∃ hk : k < l.length, reachF l = l[k].1 + l[k].2 := by
  have hgd : l.getD 0 (0, 0) = l[0] := by rw [List.getD_eq_getElem?_getD, List.getElem?_eq_getElem (by omega)]; rfl
  rcases rch_mem l (l[0].1 + l[0].2) with e | ⟨k, hk, e⟩
  · exact ⟨0, by omega, by rw [reachF, hgd]; exact e⟩
  · exact ⟨k, hk, by rw [reachF, hgd]; exact e⟩
end Go.Proofs.Ytecncmmkghmojaa.Sh

/- HullHangs on the shadow machine. -/
namespace Go.Proofs.Ytecncmmkghmojaa.Sh
open Go
set_option maxRecDepth 100000

/-- from offset o on, the block b holds these integers, and may be read -/
def IntsAt (h : SHeap) (b o : Nat) (l : List Int) : Prop := ∃ pre post el pf own old, h[b]? = some (.cells (pre ++ (l.map mkI ++ post)) el pf own old) ∧ readable own = true ∧ pre.length = o
theorem IntsAt.lt {h : SHeap} {b o : Nat} {l : List Int} (k : IntsAt h b o l) : b < h.length := by
  obtain ⟨pre, post, el, pf, own, old, h1, _⟩ := k
  exact (List.getElem?_eq_some_iff.1 h1).1
theorem IntsAt.same {h h' : SHeap} {b o : Nat} {l : List Int} (k : IntsAt h b o l) (e : h'[b]? = h[b]?) : IntsAt h' b o l := by
  obtain ⟨pre, post, el, pf, own, old, h1, h2⟩ := k
  exact ⟨pre, post, el, pf, own, old, by rw [e]; exact h1, h2⟩
theorem IntsAt.load {h : SHeap} {b o : Nat} {l : List Int} (k : IntsAt h b o l) {i : Nat} (hi : i < l.length) : loadS h none (.pointer (some ⟨b, o + i, none⟩)) = some (.int .i64 l[i]) := by
  obtain ⟨pre, post, el, pf, own, old, h1, h2, rfl⟩ := k
  rw [load_none, rd1_def, h1]
  dsimp only
  rw [if_pos h2, List.getElem?_append_right (by omega), Nat.add_sub_cancel_left, List.getElem?_append_left (by simpa using hi), List.getElem?_map, List.getElem?_eq_getElem hi]
  rfl
/-- a slice of integers that came from outside -/
def ArgI (h : SHeap) (v : Value) (l : List Int) : Prop := ∃ a c, v = .slice a l.length c ∧ l.length ≤ c ∧ c < UNK ∧ ((a = none ∧ l = []) ∨ ∃ b o, a = some ⟨b, o, none⟩ ∧ (l ≠ [] → IntsAt h b o l))

def Hung (L : Int) (y : List (Int × Int)) : Prop := ∀ j, (hj : j < y.length) → y[j].2 = L ∧ y[j].1.natAbs ≤ 100 + 60 * (j + 1)
theorem hung_snoc {L : Int} (hL1 : 1 ≤ L) (hL2 : L ≤ 100) {y : List (Int × Int)} (hy : Hung L y) (x below : Int) (hb : (y = [] ∧ below = -L) ∨ ∃ hj : y.length - 1 < y.length, below = y[y.length - 1].1) (h1 : below - 60 ≤ x) (h2 : x ≤ below + 60) : Hung L (y ++ [(x, L)]) := by
  intro j hj
  by_cases e : j < y.length
  · rw [List.getElem_append_left e]
    exact hy j e
  · have ej : j = y.length := by simp at hj; omega
    subst ej
    rw [List.getElem_append_right (by omega)]
    simp only [Nat.sub_self, List.getElem_cons_zero]
    refine ⟨trivial, ?_⟩
    rcases hb with ⟨rfl, rfl⟩ | ⟨hk, rfl⟩
    · simp only [List.length_nil]; omega
    · have := (hy _ hk).2
      omega

theorem hang_loop (cx : Cx) {h : SHeap} {v : Value} {l : List Int} (hv : ArgI h v l) (L : Int) (hL1 : 1 ≤ L) (hL2 : L ≤ 100) : ∀ k ρ ms h' d', (∃ (i : Nat) (v5 : Value) (y : List (Int × Int)), i + k = min l.length 12 ∧ y.length = i ∧ Hung L y ∧ ρ 0 = v ∧ ρ 1 = .int .i64 L ∧ ρ 5 = v5 ∧ ρ 6 = .int .i64 i ∧ Acc h.length h' v5 (prs y) i 2 53 ∧ h.length ≤ h'.length ∧ (∀ j, j < h.length → h'[j]? = h[j]?) ∧ ms = [] ∧ d' = []) →
    LoopW M cx 8 sf7L0 ρ ms h' d' (fun ex ρ' ms' h' d' => ex = .exit 0 ∧ ∃ (v5 : Value) (y : List (Int × Int)), y.length = min l.length 12 ∧ Hung L y ∧ ρ' 1 = .int .i64 L ∧ ρ' 5 = v5 ∧ Acc h.length h' v5 (prs y) y.length 2 53 ∧ h.length ≤ h'.length ∧ (∀ j, j < h.length → h'[j]? = h[j]?) ∧ ms' = [] ∧ d' = []) := by
  obtain ⟨a, c, rfl, k1, k2, kv⟩ := hv
  refine loop_run _ ?_
  rintro k ρ ms h' d' ⟨i, v5, y, hi, hyl, hy, h0, h1, h5, h6, acc, hle, hsame, rfl, rfl⟩
  unfold sf7L0
  by_cases hk : k = 0
  · have ei : i = min l.length 12 := by omega
    rw [← hyl] at acc
    by_cases c1 : (i : Int) < l.length
    · have c2 : ¬ ((i : Int) < 12) := by omega
      repeat (first | apply run_seq | apply run_block | apply end_seq | apply end_blk_hit | apply end_blk_miss rfl | apply end_blk | apply end_seq_exit | apply end_seq_ret | apply end_blk_ret | apply run_skip | apply run_ret | apply run_exit | (apply run_region (by decide); (simp only [go_sem, ↓reduceIte, Int.reduceAdd, Int.reduceEq, Int.reduceLE, Int.reduceLT, Int.reduceMul, Int.reduceNeg, Int.reduceSub, Int.reduceToNat, Nat.reduceAdd, Nat.reduceBEq, Nat.reduceEqDiff, Nat.reduceLT, Nat.reduceLeDiff, Nat.reduceMul, Nat.reduceSub, h0, h1, h5, h6, c1, c2]; rfl)) | (refine run_cond_t ?_ ?_; · simp only [go_sem, ↓reduceIte, Nat.reduceEqDiff]) | (refine run_cond_f ?_ ?_; · simp only [go_sem, ↓reduceIte, Nat.reduceEqDiff]))
      refine end_nil ⟨rfl, v5, y, by omega, hy, ?_, ?_, acc, hle, hsame, rfl, rfl⟩
      · simp only [go_sem, ↓reduceIte, Int.reduceAdd, Int.reduceEq, Int.reduceLE, Int.reduceLT, Int.reduceMul, Int.reduceNeg, Int.reduceSub, Int.reduceToNat, Nat.reduceAdd, Nat.reduceBEq, Nat.reduceEqDiff, Nat.reduceLT, Nat.reduceLeDiff, Nat.reduceMul, Nat.reduceSub, h1]
      · simp only [go_sem, ↓reduceIte, Int.reduceAdd, Int.reduceEq, Int.reduceLE, Int.reduceLT, Int.reduceMul, Int.reduceNeg, Int.reduceSub, Int.reduceToNat, Nat.reduceAdd, Nat.reduceBEq, Nat.reduceEqDiff, Nat.reduceLT, Nat.reduceLeDiff, Nat.reduceMul, Nat.reduceSub, h5]
    · repeat (first | apply run_seq | apply run_block | apply end_seq | apply end_blk_hit | apply end_blk_miss rfl | apply end_blk | apply end_seq_exit | apply end_seq_ret | apply end_blk_ret | apply run_skip | apply run_ret | apply run_exit | (apply run_region (by decide); (simp only [go_sem, ↓reduceIte, Int.reduceAdd, Int.reduceEq, Int.reduceLE, Int.reduceLT, Int.reduceMul, Int.reduceNeg, Int.reduceSub, Int.reduceToNat, Nat.reduceAdd, Nat.reduceBEq, Nat.reduceEqDiff, Nat.reduceLT, Nat.reduceLeDiff, Nat.reduceMul, Nat.reduceSub, h0, h1, h5, h6, c1]; rfl)) | (refine run_cond_t ?_ ?_; · simp only [go_sem, ↓reduceIte, Nat.reduceEqDiff]) | (refine run_cond_f ?_ ?_; · simp only [go_sem, ↓reduceIte, Nat.reduceEqDiff]))
      refine end_nil ⟨rfl, v5, y, by omega, hy, ?_, ?_, acc, hle, hsame, rfl, rfl⟩
      · simp only [go_sem, ↓reduceIte, Int.reduceAdd, Int.reduceEq, Int.reduceLE, Int.reduceLT, Int.reduceMul, Int.reduceNeg, Int.reduceSub, Int.reduceToNat, Nat.reduceAdd, Nat.reduceBEq, Nat.reduceEqDiff, Nat.reduceLT, Nat.reduceLeDiff, Nat.reduceMul, Nat.reduceSub, h1]
      · simp only [go_sem, ↓reduceIte, Int.reduceAdd, Int.reduceEq, Int.reduceLE, Int.reduceLT, Int.reduceMul, Int.reduceNeg, Int.reduceSub, Int.reduceToNat, Nat.reduceAdd, Nat.reduceBEq, Nat.reduceEqDiff, Nat.reduceLT, Nat.reduceLeDiff, Nat.reduceMul, Nat.reduceSub, h5]
  · have c1 : (i : Int) < l.length := by omega
    have c2 : (i : Int) < 12 := by omega
    have hil : i < l.length := by omega
    have e2 : (0 : Int) ≤ i := by omega
    have ew : IntKind.i64.wrap ((i : Int) + 1) = ((i + 1 : Nat) : Int) := by rw [wrap64 (by omega) (by omega)]; rfl
    obtain ⟨b, o, rfl, hpp⟩ : ∃ b o, a = some ⟨b, o, none⟩ ∧ IntsAt h b o l := by
      rcases kv with ⟨_, rfl⟩ | ⟨b, o, e, p⟩
      · simp at hil
      · exact ⟨b, o, e, p (by intro e; rw [e] at hil; simp at hil)⟩
    have hp' : IntsAt h' b o l := hpp.same (hsame b hpp.lt)
    have l1 := hp'.load hil
    generalize hz : l[i] = z at *
    have wL : IntKind.i64.wrap (-L) = -L := wrap64 (by omega) (by omega)
    have wL1 : IntKind.i64.wrap (L + 1) = L + 1 := wrap64 (by omega) (by omega)
    have wL2 : IntKind.u64.wrap (L + 1) = L + 1 := by
      have : IntKind.u64.wrap (L + 1) = (L + 1) % 18446744073709551616 := by simp [IntKind.wrap, IntKind.signed, IntKind.bits]
      rw [this]; omega
    have hL0 : ¬ (L + 1 = 0) := by omega
    have hr := u64_mod z (L + 1) (by omega) (by omega)
    obtain ⟨R, hR⟩ : ∃ R, R = IntKind.i64.wrap ((IntKind.u64.wrap z).tmod (L + 1)) := ⟨_, rfl⟩
    have hR' : 0 ≤ R ∧ R ≤ L := by rw [hR, wrap64 (by omega) (by omega)]; omega
    have hq : L.tdiv 2 = L / 2 := Int.tdiv_eq_ediv_of_nonneg (by omega)
    have wQ : IntKind.i64.wrap (L.tdiv 2) = L / 2 := by rw [hq, wrap64 (by omega) (by omega)]
    have htwo : ¬ ((2 : Int) = 0) := by omega
    cases i with
    | zero =>
      have hy0 : y = [] := List.length_eq_zero_iff.1 hyl
      have h6' : ρ 6 = .int .i64 0 := h6
      have c1' : (0 : Int) < l.length := c1
      rw [Nat.add_zero] at l1
      have w1 : IntKind.i64.wrap (-L + R) = -L + R := wrap64 (by omega) (by omega)
      have w2 : IntKind.i64.wrap (-L + R - L / 2) = -L + R - L / 2 := wrap64 (by omega) (by omega)
      have hy' : Hung L (y ++ [(-L + R - L / 2, L)]) := hung_snoc hL1 hL2 hy _ (-L) (.inl ⟨hy0, rfl⟩) (by omega) (by omega)
      have acc' : Acc h.length (h' ++ [SO.cells [.int .i64 (-L + R - L / 2), .int .i64 L] 53 true 0 []]) v5 (prs y) 0 2 53 :=
        acc.keep (fun b e => by rw [List.getElem?_append_left (acc.lt e).2])
      obtain ⟨old, ap, acc2, kp⟩ := acc_append (bytes := 16) acc' (bs := h'.length) (el2 := 53) (pf2 := true) (own2 := 0) (old2 := []) (new := [.int .i64 (-L + R - L / 2), .int .i64 L]) (by rw [app_get0]; rfl) rfl rfl (by decide) rfl (by decide) (by omega) (by simp; omega)
      have ap' := fun base d => ap base d
      have hsrc : (h' ++ [SO.cells [.int .i64 (-L + R - L / 2), .int .i64 L] 53 true 0 []]).length = h'.length + 1 := by simp
      rw [hsrc] at acc2 kp
      have hl2 : (shv (h' ++ [SO.cells [.int .i64 (-L + R - L / 2), .int .i64 L] 53 true 0 []]) v5 ++ [SO.cells (prs y ++ [.int .i64 (-L + R - L / 2), .int .i64 L]) 53 true 0 old]).length = h'.length + 2 := by simp [shv_len]
      have k2' : ∀ j, j < h.length → (shv (h' ++ [SO.cells [.int .i64 (-L + R - L / 2), .int .i64 L] 53 true 0 []]) v5 ++ [SO.cells (prs y ++ [.int .i64 (-L + R - L / 2), .int .i64 L]) 53 true 0 old])[j]? = h[j]? := by
        intro j hj
        rw [kp j (by omega) (fun b e => by have := acc.lt e; omega), List.getElem?_append_left (by omega)]
        exact hsame j hj
      have hprs : prs (y ++ [(-L + R - L / 2, L)]) = prs y ++ [.int .i64 (-L + R - L / 2), .int .i64 L] := by rw [prs_app]; rfl
      rw [← hprs] at acc2
      repeat (first | apply run_seq | apply run_block | apply end_seq | apply end_blk_hit | apply end_blk_miss rfl | apply end_blk | apply end_seq_exit | apply end_seq_ret | apply end_blk_ret | apply run_skip | apply run_ret | apply run_exit | (apply run_region (by decide); (simp only [go_sem, ↓reduceIte, Int.reduceAdd, Int.reduceEq, Int.reduceLE, Int.reduceLT, Int.reduceMul, Int.reduceNeg, Int.reduceSub, Int.reduceToNat, Nat.reduceAdd, Nat.reduceBEq, Nat.reduceEqDiff, Nat.reduceLT, Nat.reduceLeDiff, Nat.reduceMul, Nat.reduceSub, h0, h1, h5, h6', c1', l1, wL, wL1, wL2, hL0, hR.symm, wQ, htwo, w1, w2, ap', Int.toNat_natCast, ew]; rfl)) | (refine run_cond_t ?_ ?_; · simp only [go_sem, ↓reduceIte, Nat.reduceEqDiff]) | (refine run_cond_f ?_ ?_; · simp only [go_sem, ↓reduceIte, Nat.reduceEqDiff]))
      refine end_nil ⟨k - 1, by omega, 0 + 1, .slice (some ⟨h'.length + 1, 0, none⟩) (0 + 1) (UNK + 2), y ++ [(-L + R - L / 2, L)], by omega, by simp [hyl], hy', ?_, ?_, ?_, ?_, ?_, by omega, k2', rfl, rfl⟩
      · simp only [go_sem, ↓reduceIte, Int.reduceAdd, Int.reduceEq, Int.reduceLE, Int.reduceLT, Int.reduceMul, Int.reduceNeg, Int.reduceSub, Int.reduceToNat, Nat.reduceAdd, Nat.reduceBEq, Nat.reduceEqDiff, Nat.reduceLT, Nat.reduceLeDiff, Nat.reduceMul, Nat.reduceSub, h0]
      · simp only [go_sem, ↓reduceIte, Int.reduceAdd, Int.reduceEq, Int.reduceLE, Int.reduceLT, Int.reduceMul, Int.reduceNeg, Int.reduceSub, Int.reduceToNat, Nat.reduceAdd, Nat.reduceBEq, Nat.reduceEqDiff, Nat.reduceLT, Nat.reduceLeDiff, Nat.reduceMul, Nat.reduceSub, h1]
      · (simp only [go_sem, ↓reduceIte, Int.reduceAdd, Int.reduceEq, Int.reduceLE, Int.reduceLT, Int.reduceMul, Int.reduceNeg, Int.reduceSub, Int.reduceToNat, Nat.reduceAdd, Nat.reduceBEq, Nat.reduceEqDiff, Nat.reduceLT, Nat.reduceLeDiff, Nat.reduceMul, Nat.reduceSub]) <;> rfl
      · (simp only [go_sem, ↓reduceIte, Int.reduceAdd, Int.reduceEq, Int.reduceLE, Int.reduceLT, Int.reduceMul, Int.reduceNeg, Int.reduceSub, Int.reduceToNat, Nat.reduceAdd, Nat.reduceBEq, Nat.reduceEqDiff, Nat.reduceLT, Nat.reduceLeDiff, Nat.reduceMul, Nat.reduceSub, ew]) <;> rfl
      · rw [hprs]; rw [hprs] at acc2; exact acc2
    | succ p =>
      have hjy : p < y.length := by omega
      have hjl : y.length - 1 = p := by omega
      have yb := (hy p hjy).2
      have hz' : (0 : Int) < ((p + 1 : Nat) : Int) := by omega
      have hsub : IntKind.i64.wrap (((p + 1 : Nat) : Int) - 1) = (p : Int) := by rw [wrap64 (by omega) (by omega)]; omega
      have ej : (0 : Int) ≤ p := by omega
      have ejn : (p : Int) < ((p + 1 : Nat) : Int) := by omega
      obtain ⟨bx, oldx, rfl, hbx, _, _, _, _, _⟩ := acc.resolve_left (by omega)
      have hpx : Prs h' bx 0 y := Prs.mk0 hbx rfl
      have lj1 := hpx.load1 hjy
      rw [Nat.zero_add] at lj1
      generalize hB : y[p].1 = B at *
      have hb2 : ∃ hj : y.length - 1 < y.length, B = y[y.length - 1].1 := ⟨by omega, by rw [← hB]; congr 2; omega⟩
      have w1 : IntKind.i64.wrap (B + R) = B + R := wrap64 (by omega) (by omega)
      have w2 : IntKind.i64.wrap (B + R - L / 2) = B + R - L / 2 := wrap64 (by omega) (by omega)
      have hy' : Hung L (y ++ [(B + R - L / 2, L)]) := hung_snoc hL1 hL2 hy _ (B) (.inr hb2) (by omega) (by omega)
      have acc' : Acc h.length (h' ++ [SO.cells [.int .i64 (B + R - L / 2), .int .i64 L] 53 true 0 []]) (.slice (some ⟨bx, 0, none⟩) (p + 1) (UNK + 2)) (prs y) (p + 1) 2 53 :=
        acc.keep (fun b e => by rw [List.getElem?_append_left (acc.lt e).2])
      obtain ⟨old, ap, acc2, kp⟩ := acc_append (bytes := 16) acc' (bs := h'.length) (el2 := 53) (pf2 := true) (own2 := 0) (old2 := []) (new := [.int .i64 (B + R - L / 2), .int .i64 L]) (by rw [app_get0]; rfl) rfl rfl (by decide) rfl (by decide) (by omega) (by simp; omega)
      have ap' := fun base d => ap base d
      have hsrc : (h' ++ [SO.cells [.int .i64 (B + R - L / 2), .int .i64 L] 53 true 0 []]).length = h'.length + 1 := by simp
      rw [hsrc] at acc2 kp
      have hl2 : (shv (h' ++ [SO.cells [.int .i64 (B + R - L / 2), .int .i64 L] 53 true 0 []]) (.slice (some ⟨bx, 0, none⟩) (p + 1) (UNK + 2)) ++ [SO.cells (prs y ++ [.int .i64 (B + R - L / 2), .int .i64 L]) 53 true 0 old]).length = h'.length + 2 := by simp [shv_len]
      have k2' : ∀ j, j < h.length → (shv (h' ++ [SO.cells [.int .i64 (B + R - L / 2), .int .i64 L] 53 true 0 []]) (.slice (some ⟨bx, 0, none⟩) (p + 1) (UNK + 2)) ++ [SO.cells (prs y ++ [.int .i64 (B + R - L / 2), .int .i64 L]) 53 true 0 old])[j]? = h[j]? := by
        intro j hj
        rw [kp j (by omega) (fun b e => by have := acc.lt e; omega), List.getElem?_append_left (by omega)]
        exact hsame j hj
      have hprs : prs (y ++ [(B + R - L / 2, L)]) = prs y ++ [.int .i64 (B + R - L / 2), .int .i64 L] := by rw [prs_app]; rfl
      rw [← hprs] at acc2
      repeat (first | apply run_seq | apply run_block | apply end_seq | apply end_blk_hit | apply end_blk_miss rfl | apply end_blk | apply end_seq_exit | apply end_seq_ret | apply end_blk_ret | apply run_skip | apply run_ret | apply run_exit | (apply run_region (by decide); (simp only [go_sem, ↓reduceIte, Int.reduceAdd, Int.reduceEq, Int.reduceLE, Int.reduceLT, Int.reduceMul, Int.reduceNeg, Int.reduceSub, Int.reduceToNat, Nat.reduceAdd, Nat.reduceBEq, Nat.reduceEqDiff, Nat.reduceLT, Nat.reduceLeDiff, Nat.reduceMul, Nat.reduceSub, h0, h1, h5, h6, c1, c2, e2, hz', hsub, ej, ejn, lj1, l1, wL, wL1, wL2, hL0, hR.symm, wQ, htwo, w1, w2, ap', Int.toNat_natCast, ew]; rfl)) | (refine run_cond_t ?_ ?_; · simp only [go_sem, ↓reduceIte, Nat.reduceEqDiff]) | (refine run_cond_f ?_ ?_; · simp only [go_sem, ↓reduceIte, Nat.reduceEqDiff]))
      refine end_nil ⟨k - 1, by omega, (p + 1) + 1, .slice (some ⟨h'.length + 1, 0, none⟩) ((p + 1) + 1) (UNK + 2), y ++ [(B + R - L / 2, L)], by omega, by simp [hyl], hy', ?_, ?_, ?_, ?_, ?_, by omega, k2', rfl, rfl⟩
      · simp only [go_sem, ↓reduceIte, Int.reduceAdd, Int.reduceEq, Int.reduceLE, Int.reduceLT, Int.reduceMul, Int.reduceNeg, Int.reduceSub, Int.reduceToNat, Nat.reduceAdd, Nat.reduceBEq, Nat.reduceEqDiff, Nat.reduceLT, Nat.reduceLeDiff, Nat.reduceMul, Nat.reduceSub, h0]
      · simp only [go_sem, ↓reduceIte, Int.reduceAdd, Int.reduceEq, Int.reduceLE, Int.reduceLT, Int.reduceMul, Int.reduceNeg, Int.reduceSub, Int.reduceToNat, Nat.reduceAdd, Nat.reduceBEq, Nat.reduceEqDiff, Nat.reduceLT, Nat.reduceLeDiff, Nat.reduceMul, Nat.reduceSub, h1]
      · (simp only [go_sem, ↓reduceIte, Int.reduceAdd, Int.reduceEq, Int.reduceLE, Int.reduceLT, Int.reduceMul, Int.reduceNeg, Int.reduceSub, Int.reduceToNat, Nat.reduceAdd, Nat.reduceBEq, Nat.reduceEqDiff, Nat.reduceLT, Nat.reduceLeDiff, Nat.reduceMul, Nat.reduceSub]) <;> rfl
      · (simp only [go_sem, ↓reduceIte, Int.reduceAdd, Int.reduceEq, Int.reduceLE, Int.reduceLT, Int.reduceMul, Int.reduceNeg, Int.reduceSub, Int.reduceToNat, Nat.reduceAdd, Nat.reduceBEq, Nat.reduceEqDiff, Nat.reduceLT, Nat.reduceLeDiff, Nat.reduceMul, Nat.reduceSub, ew]) <;> rfl
      · rw [hprs]; rw [hprs] at acc2; exact acc2
end Go.Proofs.Ytecncmmkghmojaa.Sh

/- HullHangs on the shadow machine: the law itself. -/
namespace Go.Proofs.Ytecncmmkghmojaa.Sh
open Go
set_option maxRecDepth 100000

def smallH (n : Nat) : Bool := decide (1 ≤ (hs (n + 1)).1 ∧ (hs (n + 1)).1 ≤ 1000000 ∧ 1 ≤ (hs (n + 1)).2 ∧ (hs (n + 1)).2 ≤ 1000000)
theorem hs_small (n : Nat) (h1 : 1 ≤ n) (h2 : n ≤ 12) : 1 ≤ (hs n).1 ∧ (hs n).1 ≤ 1000000 ∧ 1 ≤ (hs n).2 ∧ (hs n).2 ≤ 1000000 := by
  have : (List.range 12).all smallH = true := by decide +kernel
  obtain ⟨m, rfl⟩ : ∃ m, n = m + 1 := ⟨n - 1, by omega⟩
  exact of_decide_eq_true (List.all_eq_true.1 this m (List.mem_range.2 (by omega)))

theorem hung_tower {L : Int} (hL1 : 1 ≤ L) (hL2 : L ≤ 100) {y : List (Int × Int)} (hy : Hung L y) (h1 : 1 ≤ y.length) (h2 : y.length ≤ 12) : towerB y = true ∧ ∀ q ∈ y, q.2 = L := by
  have each : ∀ q ∈ y, okP q = true ∧ q.2 = L := by
    intro q hq
    obtain ⟨j, hj, rfl⟩ := List.getElem_of_mem hq
    have := hy j hj
    refine ⟨decide_eq_true ?_, this.1⟩
    omega
  refine ⟨?_, fun q hq => (each q hq).2⟩
  simp only [towerB, Bool.and_eq_true, decide_eq_true_eq]
  exact ⟨⟨List.all_eq_true.2 fun q hq => (each q hq).1, h1⟩, h2⟩

def far1 : List (Int × Int) := [(-21, 24), (-17, 24), (-11, 24), (1, 24)]
def far2 : List (Int × Int) := [(-21, 24), (-17, 24), (-11, 24), (2, 24)]
theorem far1_stands : standS far1 = (0, true) := by decide +kernel
theorem far2_stands : (standS far2).2 = false := by decide +kernel
theorem far1_tower : towerB far1 = true := by decide
theorem far2_tower : towerB far2 = true := by decide

theorem stands_far {h : SHeap} {x : List (Int × Int)} {b : Nat} (hx : towerB x = true) (hb : h[b]? = some (.cells (prs x) 53 true 0 [])) : M.call 35 [.slice (some ⟨b, 0, none⟩) x.length x.length] h = some (.tuple #[.int .i64 (standS x).1, .bool (standS x).2, .int .i64 0], h, []) := by
  have := (towerB_of hx).2.2
  refine stands35 ⟨b, x.length, rfl, Prs.mk0 hb rfl, .inr ⟨?_, Nat.le_refl _⟩⟩ hx
  exact Nat.lt_of_le_of_lt this (by decide)

/-- HullHangs on the shadow machine -/
theorem law7 {h : SHeap} {v : Value} {l : List Int} (hv : ArgI h v l) (z : Int) : M.call 7 [v, .int .i64 z] h = some (.bool true, h, []) := by
  have aw := fun h => awake_call h
  have hz := u64_mod z 100 (by decide) (by decide)
  obtain ⟨L, hL⟩ : ∃ L, L = IntKind.i64.wrap (1 + IntKind.i64.wrap ((IntKind.u64.wrap z).tmod 100)) := ⟨_, rfl⟩
  have hLr : 1 ≤ L ∧ L ≤ 100 := by
    rw [hL, wrap64 (x := (IntKind.u64.wrap z).tmod 100) (by omega) (by omega), wrap64 (by omega) (by omega)]
    omega
  refine call_run sf7 rfl rfl rfl ?_
  unfold sf7
  repeat (first | apply run_seq | apply run_block | apply end_seq | apply end_blk_hit | apply end_blk_miss rfl | apply end_blk | apply end_seq_exit | apply end_seq_ret | apply end_blk_ret | apply run_skip | apply run_ret | apply run_exit | (apply run_region (by decide); (simp only [go_sem, ↓reduceIte, Int.reduceAdd, Int.reduceEq, Int.reduceLE, Int.reduceLT, Int.reduceMul, Int.reduceNeg, Int.reduceSub, Int.reduceToNat, Nat.reduceAdd, Nat.reduceBEq, Nat.reduceEqDiff, Nat.reduceLT, Nat.reduceLeDiff, Nat.reduceMul, Nat.reduceSub, argR, hL.symm]; rfl)) | (refine run_cond_t ?_ ?_; · simp only [go_sem, ↓reduceIte, Nat.reduceEqDiff]) | (refine run_cond_f ?_ ?_; · simp only [go_sem, ↓reduceIte, Nat.reduceEqDiff]))
  refine run_loop (hang_loop _ hv L hLr.1 hLr.2 (min l.length 12) _ _ _ _ ⟨0, .slice none 0 0, [], by omega, rfl, fun j hj => by simp at hj, ?_, ?_, ?_, ?_, .inl ⟨rfl, rfl, rfl⟩, Nat.le_refl _, fun j hj => rfl, rfl, rfl⟩) ?_
  · simp only [go_sem, ↓reduceIte, Int.reduceAdd, Int.reduceEq, Int.reduceLE, Int.reduceLT, Int.reduceMul, Int.reduceNeg, Int.reduceSub, Int.reduceToNat, Nat.reduceAdd, Nat.reduceBEq, Nat.reduceEqDiff, Nat.reduceLT, Nat.reduceLeDiff, Nat.reduceMul, Nat.reduceSub, argR]
  · simp only [go_sem, ↓reduceIte, Int.reduceAdd, Int.reduceEq, Int.reduceLE, Int.reduceLT, Int.reduceMul, Int.reduceNeg, Int.reduceSub, Int.reduceToNat, Nat.reduceAdd, Nat.reduceBEq, Nat.reduceEqDiff, Nat.reduceLT, Nat.reduceLeDiff, Nat.reduceMul, Nat.reduceSub]
  · simp only [go_sem, ↓reduceIte, Int.reduceAdd, Int.reduceEq, Int.reduceLE, Int.reduceLT, Int.reduceMul, Int.reduceNeg, Int.reduceSub, Int.reduceToNat, Nat.reduceAdd, Nat.reduceBEq, Nat.reduceEqDiff, Nat.reduceLT, Nat.reduceLeDiff, Nat.reduceMul, Nat.reduceSub]
  · (simp only [go_sem, ↓reduceIte, Int.reduceAdd, Int.reduceEq, Int.reduceLE, Int.reduceLT, Int.reduceMul, Int.reduceNeg, Int.reduceSub, Int.reduceToNat, Nat.reduceAdd, Nat.reduceBEq, Nat.reduceEqDiff, Nat.reduceLT, Nat.reduceLeDiff, Nat.reduceMul, Nat.reduceSub]) <;> rfl
  · rintro ex ρ' ms' h1 d1 ⟨rfl, v5, y, hyl, hy, k1, k5, acc, hle, hsame, rfl, rfl⟩
    have tk : ∀ g : List SO, (h1 ++ g).take h.length = h := fun g => take_of_same (by simp; omega) (fun j hj => by rw [List.getElem?_append_left (by omega)]; exact hsame j hj)
    have tk0 : h1.take h.length = h := take_of_same hle hsame
    rcases acc with ⟨e0, rfl, _⟩ | ⟨b, old, rfl, hb, _, hn, _, _, _⟩
    · repeat (first | apply run_seq | apply run_block | apply end_seq | apply end_blk_hit | apply end_blk_miss rfl | apply end_blk | apply end_seq_exit | apply end_seq_ret | apply end_blk_ret | apply run_skip | apply run_ret | apply run_exit | (apply run_region (by decide); (simp only [go_sem, ↓reduceIte, Int.reduceAdd, Int.reduceEq, Int.reduceLE, Int.reduceLT, Int.reduceMul, Int.reduceNeg, Int.reduceSub, Int.reduceToNat, Nat.reduceAdd, Nat.reduceBEq, Nat.reduceEqDiff, Nat.reduceLT, Nat.reduceLeDiff, Nat.reduceMul, Nat.reduceSub, k5, aw]; rfl)) | (refine run_cond_t ?_ ?_; · simp only [go_sem, ↓reduceIte, Nat.reduceEqDiff]) | (refine run_cond_f ?_ ?_; · simp only [go_sem, ↓reduceIte, Nat.reduceEqDiff]))
      exact end_nil (q_ret1 _ (by simp only [go_sem, ↓reduceIte, Int.reduceAdd, Int.reduceEq, Int.reduceLE, Int.reduceLT, Int.reduceMul, Int.reduceNeg, Int.reduceSub, Int.reduceToNat, Nat.reduceAdd, Nat.reduceBEq, Nat.reduceEqDiff, Nat.reduceLT, Nat.reduceLeDiff, Nat.reduceMul, Nat.reduceSub]) rfl tk0)
    · obtain ⟨ht, hq⟩ := hung_tower hLr.1 hLr.2 hy (by omega) (by omega)
      obtain ⟨hok, hn1, hn12⟩ := towerB_of ht
      have hts : TSl h1 (.slice (some ⟨b, 0, none⟩) y.length (UNK + 2)) y := ⟨b, UNK + 2, rfl, Prs.mk0 hb rfl, .inl rfl⟩
      have c24 := harmonic y.length hn1 (by omega) h1
      have c35 := fun g => stands35 (hts.app g) ht
      have c36 := fun g => reach36 (hts.app g) ht
      have hz0 : ¬ ((y.length : Int) = 0) := by omega
      obtain ⟨s1, s2, s3, s4⟩ := hs_small y.length hn1 hn12
      obtain ⟨kk, hkk, hrk⟩ := reachF_mem hn1
      have rg := okP_ranges (List.all_eq_true.1 hok y[kk] (List.getElem_mem hkk))
      have r1 : ¬ (reachF y < -2000) := by omega
      have r2 : ¬ ((2000 : Int) < reachF y) := by omega
      have n1 : ¬ ((hs y.length).1 < 1) := by omega
      have n2 : ¬ ((hs y.length).2 < 1) := by omega
      have n3 : ¬ ((1000000 : Int) < (hs y.length).1) := by omega
      have n4 : ¬ ((1000000 : Int) < (hs y.length).2) := by omega
      have w1 : IntKind.i64.wrap (2 * reachF y) = 2 * reachF y := wrap64 (by omega) (by omega)
      have w2 : IntKind.i64.wrap (2 * reachF y * (hs y.length).2) = 2 * reachF y * (hs y.length).2 := wrap_abs (Nat.le_trans (mul_bound (m := 4000) (n := 1000000) (by omega) (by omega)) (by decide))
      have w3 : IntKind.i64.wrap (L * (hs y.length).1) = L * (hs y.length).1 := wrap_abs (Nat.le_trans (mul_bound (m := 100) (n := 1000000) (by omega) (by omega)) (by decide))
      have f1 := stands_far (h := h1 ++ [SO.cells [.int .i64 (hs y.length).1, .int .i64 (hs y.length).2] 34 true 0 [], .cells (prs far1) 53 true 0 []]) (b := h1.length + 1) far1_tower (by rw [app_get]; rfl)
      have f2 := stands_far (h := h1 ++ [SO.cells [.int .i64 (hs y.length).1, .int .i64 (hs y.length).2] 34 true 0 [], .cells (prs far1) 53 true 0 [], .cells (prs far2) 53 true 0 []]) (b := h1.length + 2) far2_tower (by rw [app_get]; rfl)
      rw [far1_stands] at f1
      have f2s := far2_stands
      generalize standS far2 = p2 at *
      obtain ⟨i2, b2⟩ := p2
      dsimp only at f2s
      subst f2s
      simp only [far1, far2, prs, List.length_cons, List.length_nil, Nat.zero_add, Nat.reduceAdd] at f1 f2
      have hlaw : (standS y).2 = true → ¬ (L * (hs y.length).1 < 2 * reachF y * (hs y.length).2) := by
        intro e
        have e' : standS y = (0, true) := by
          unfold standS at e ⊢
          cases hf : firstS y with
          | none => rfl
          | some i => rw [hf] at e; cases e
        have := hang_law (show 0 < L by omega) ht hq e' kk hkk
        rw [hrk]
        omega
      cases hst : (standS y).2 with
      | true =>
        have hl := hlaw hst
        rw [hst] at c35
        repeat (first | apply run_seq | apply run_block | apply end_seq | apply end_blk_hit | apply end_blk_miss rfl | apply end_blk | apply end_seq_exit | apply end_seq_ret | apply end_blk_ret | apply run_skip | apply run_ret | apply run_exit | (apply run_region (by decide); (simp only [go_sem, ↓reduceIte, Int.reduceAdd, Int.reduceEq, Int.reduceLE, Int.reduceLT, Int.reduceMul, Int.reduceNeg, Int.reduceSub, Int.reduceToNat, Nat.reduceAdd, Nat.reduceBEq, Nat.reduceEqDiff, Nat.reduceLT, Nat.reduceLeDiff, Nat.reduceMul, Nat.reduceSub, k1, k5, hz0, c24, c35, c36, r1, r2, n1, n2, n3, n4, w1, w2, w3, hl, f1, f2, aw]; rfl)) | (refine run_cond_t ?_ ?_; · simp only [go_sem, ↓reduceIte, Nat.reduceEqDiff]) | (refine run_cond_f ?_ ?_; · simp only [go_sem, ↓reduceIte, Nat.reduceEqDiff]))
        exact end_nil (q_ret1 _ (by simp only [go_sem, ↓reduceIte, Int.reduceAdd, Int.reduceEq, Int.reduceLE, Int.reduceLT, Int.reduceMul, Int.reduceNeg, Int.reduceSub, Int.reduceToNat, Nat.reduceAdd, Nat.reduceBEq, Nat.reduceEqDiff, Nat.reduceLT, Nat.reduceLeDiff, Nat.reduceMul, Nat.reduceSub]) rfl (tk _))
      | false =>
        rw [hst] at c35
        repeat (first | apply run_seq | apply run_block | apply end_seq | apply end_blk_hit | apply end_blk_miss rfl | apply end_blk | apply end_seq_exit | apply end_seq_ret | apply end_blk_ret | apply run_skip | apply run_ret | apply run_exit | (apply run_region (by decide); (simp only [go_sem, ↓reduceIte, Int.reduceAdd, Int.reduceEq, Int.reduceLE, Int.reduceLT, Int.reduceMul, Int.reduceNeg, Int.reduceSub, Int.reduceToNat, Nat.reduceAdd, Nat.reduceBEq, Nat.reduceEqDiff, Nat.reduceLT, Nat.reduceLeDiff, Nat.reduceMul, Nat.reduceSub, k1, k5, hz0, c24, c35, c36, r1, r2, n1, n2, n3, n4, w1, w2, w3, f1, f2, aw]; rfl)) | (refine run_cond_t ?_ ?_; · simp only [go_sem, ↓reduceIte, Nat.reduceEqDiff]) | (refine run_cond_f ?_ ?_; · simp only [go_sem, ↓reduceIte, Nat.reduceEqDiff]))
        exact end_nil (q_ret1 _ (by simp only [go_sem, ↓reduceIte, Int.reduceAdd, Int.reduceEq, Int.reduceLE, Int.reduceLT, Int.reduceMul, Int.reduceNeg, Int.reduceSub, Int.reduceToNat, Nat.reduceAdd, Nat.reduceBEq, Nat.reduceEqDiff, Nat.reduceLT, Nat.reduceLeDiff, Nat.reduceMul, Nat.reduceSub]) rfl (tk _))
end Go.Proofs.Ytecncmmkghmojaa.Sh

/- Arguments that are slices of integers. -/
namespace Go.Proofs.Ytecncmmkghmojaa.Sh
open Go Go.RowKit
set_option maxRecDepth 100000

/-- how a slice of integers lies in the world -/
def IsIntsW (W : World) (a : Option Addr) (len cap : Nat) (l : List Int) : Prop :=
  (a = none ∧ len = 0 ∧ cap = 0 ∧ l = []) ∨ ∃ x : Addr, a = some x ∧ x.spot = none ∧ l.length = len ∧ len ≤ cap ∧ cap ≤ maxLen ∧
    (∃ rcs rel fr, W.heap[x.block]? = some (.cells rcs rel fr) ∧ ∀ (i : Nat) (v : Value), (l.map mkI)[i]? = some v → rcs[x.off + i]? = some v)

theorem isInts_of {H : Type} {enc : TypeId × Value → H} {P : Program} {W : World} {base b0 : Nat} {spare : Nat → Bool} {held : Bool} {t e : TypeId} {a : Option Addr} {len cap : Nat} {d : DataW H} {ps : List MemPlace}
    (ht : P.underlying t = some (.slice e)) (he : P.underlying e = some (.int .i64)) (hc : P.cellsOf e = 1)
    (hval : Value.okWide P W .any b0 t (.slice a len cap)) (h : DataW.Trod enc P W base spare held t (.slice a len cap) d ps) : ∃ l, IsIntsW W a len cap l := by
  obtain ⟨fuel, hf⟩ := h
  have hf' : DataW.trod enc P W base spare held fuel t [.slice a len cap] = some (d, ps) := hf
  rcases ChangeShapes.open_ints ht he hc hf' with ⟨h1, _⟩ | ⟨x, len', cap', zs, h1, hb, hl, hm, hz, _, hcell, _⟩
  · simp at h1
    obtain ⟨rfl, rfl, rfl⟩ := h1
    exact ⟨[], .inl ⟨rfl, rfl, rfl, rfl⟩⟩
  · simp only [List.cons.injEq, Value.slice.injEq, and_true] at h1
    obtain ⟨rfl, rfl, rfl⟩ := h1
    have hk : x.spot = none ∧ ∃ row cells, W.shape? x.block = some (row, cells) := by
      simp only [Value.okWide, ht, Cell.okWide, Cell.ok, World.has] at hval
      obtain ⟨_, _, _, h2, row, cells, h3, _⟩ := hval
      exact ⟨h2, row, cells, h3⟩
    obtain ⟨hs, row, cells, hsh⟩ := hk
    obtain ⟨rcs, rel, fr, hA⟩ : ∃ rcs rel fr, W.heap[x.block]? = some (.cells rcs rel fr) := by
      unfold World.shape? at hsh
      split at hsh
      · rename_i c el fr hx; exact ⟨c, el, fr, hx⟩
      · cases hsh
    have hzl : len ≤ zs.length := by rw [hz]; split <;> omega
    refine ⟨zs.take len, .inr ⟨x, rfl, hs, by simp; omega, hl, hm, rcs, rel, fr, hA, ?_⟩⟩
    intro i v hv
    rw [List.getElem?_map, Option.map_eq_some_iff] at hv
    obtain ⟨z, hz1, rfl⟩ := hv
    have hi : i < len := by
      have := (List.getElem?_eq_some_iff.1 hz1).1
      simp at this; omega
    have h2 := hcell i (by omega)
    rw [add_at hs] at h2
    have h3 : zs.getD i 0 = z := by
      rw [List.getElem?_take, if_pos hi] at hz1
      rw [List.getD_eq_getElem?_getD, hz1]; rfl
    rw [h3] at h2
    simp only [World.cell?, hA] at h2
    exact h2

theorem mkI_sc : ∀ l : List Int, (l.map mkI).all sc = true
  | [] => rfl
  | x :: r => by simp [mkI, sc, mkI_sc r]

/-- from the machine to the world: the first argument a slice of integers, the others without addresses -/
theorem walk_ints {P : Program} {FT : FuncId → Option SFunc} {C : FuncId → List Value → Option Value} (hmix : P.follows .mixedOrders = true) (hT : Tab P FT) (hC : ContractOK P C) {W : World} {a : Option Addr} {len cap : Nat} {l : List Int}
    (hl : IsIntsW W a len cap l) {f : FuncId} {rest : List Value} (hr : rest.all (flat 3) = true) {v : Value} (hv : flat 3 v = true)
    (hs : ∀ (h : SHeap) (u : Value), ArgI h u l → ∃ h' d', (big FT C).call f (u :: rest) h = some (v, h', d')) :
    Calls P f (Value.slice a len cap :: rest).toArray W (fun e W' => e = .returned v ∧ Below W.heap.size W W') := by
  have hrest : ∀ (m : Mp) (u u' : Value), VR m u u' → LR m (u :: rest) (u' :: rest) := by
    intro m u u' hu
    refine ⟨rfl, fun i x y hx hy => ?_⟩
    cases i with
    | zero => cases hx; cases hy; exact hu
    | succ i =>
      simp only [List.getElem?_cons_succ] at hx hy
      rw [hx] at hy; cases hy
      exact flat_VR 3 x (List.all_eq_true.1 hr x (List.mem_of_getElem? hx))
  rcases hl with ⟨rfl, rfl, rfl, rfl⟩ | ⟨x, rfl, hsp, hlen, hle, hm, ⟨rcs, rel, fr, hA, hcs⟩⟩
  · obtain ⟨h', d', e⟩ := hs [] (.slice none 0 0) ⟨none, 0, rfl, by simp, by decide, .inl ⟨rfl, rfl⟩⟩
    exact walk_rel hmix hT hC (Rel.empty P W) (hrest _ _ _ .sl0) e hv
  · have hlt : cap < UNK := Nat.lt_of_le_of_lt hm (by decide)
    obtain ⟨h', d', e⟩ := hs [.cells (l.map mkI) 0 true 3 []] (.slice (some ⟨0, 0, none⟩) len cap) ⟨_, cap, by rw [hlen], by omega, hlt, .inr ⟨0, 0, rfl, fun _ => ⟨[], [], 0, true, 3, [], by simp, rfl, rfl⟩⟩⟩
    have hx : x = ⟨x.block, x.off + 0, none⟩ := by cases x; simp at hsp; subst hsp; rfl
    refine walk_rel hmix hT hC (Rel.one hA (mkI_sc l) 0 hcs) (hrest _ _ _ ?_) e hv
    rw [hx]
    exact .sl rfl hle (.inl ⟨rfl, hlt⟩)
end Go.Proofs.Ytecncmmkghmojaa.Sh

