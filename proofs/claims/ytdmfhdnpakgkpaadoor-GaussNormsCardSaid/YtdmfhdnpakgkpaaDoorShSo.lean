/- Sorting in place: arrays as functions, swaps, and how they lie in a block. -/
import Derived.Test.YtdmfhdnpakgkpaaDoorShZw
namespace Go.Proofs.YtdmfhdnpakgkpaaDoor.Sh
open Go
set_option linter.all false
set_option maxRecDepth 100000

section
variable {E : Type}
/-- two places change what they hold -/
def swp (f : Nat → E) (i j : Nat) : Nat → E := fun k => if k = i then f j else if k = j then f i else f k
theorem swp_l (f : Nat → E) (i j : Nat) : swp f i j i = f j := by simp [swp]
theorem swp_r (f : Nat → E) (i j : Nat) : swp f i j j = f i := by
  unfold swp; by_cases e : j = i
  · rw [if_pos e, e]
  · rw [if_neg e, if_pos rfl]
theorem swp_o (f : Nat → E) {i j k : Nat} (h1 : k ≠ i) (h2 : k ≠ j) : swp f i j k = f k := by simp [swp, h1, h2]
/-- what swaps within a segment make of an array -/
inductive Sw (a b : Nat) (f : Nat → E) : (Nat → E) → Prop
  | refl : Sw a b f f
  | step {g : Nat → E} {i j : Nat} : Sw a b f g → a ≤ i → i < b → a ≤ j → j < b → Sw a b f (swp g i j)
theorem Sw.trans {a b : Nat} {f g k : Nat → E} (h : Sw a b f g) (h2 : Sw a b g k) : Sw a b f k := by
  induction h2 with
  | refl => exact h
  | step _ a1 a2 a3 a4 ih => exact ih.step a1 a2 a3 a4
theorem Sw.mono {a b a' b' : Nat} {f g : Nat → E} (h : Sw a b f g) (ha : a' ≤ a) (hb : b ≤ b') : Sw a' b' f g := by
  induction h with
  | refl => exact .refl
  | step _ a1 a2 a3 a4 ih => exact ih.step (by omega) (by omega) (by omega) (by omega)
theorem Sw.out {a b : Nat} {f g : Nat → E} (h : Sw a b f g) {i : Nat} (hi : i < a ∨ b ≤ i) : g i = f i := by
  induction h with
  | refl => rfl
  | step _ a1 a2 a3 a4 ih => rw [swp_o _ (by omega) (by omega), ih]
theorem Sw.all {a b : Nat} {f g : Nat → E} (h : Sw a b f g) {P : E → Prop} (hp : ∀ i, a ≤ i → i < b → P (f i)) : ∀ i, a ≤ i → i < b → P (g i) := by
  induction h with
  | refl => exact hp
  | @step g i j _ a1 a2 a3 a4 ih =>
    intro k k1 k2
    by_cases e1 : k = i
    · subst e1; rw [swp_l]; exact ih j a3 a4
    · by_cases e2 : k = j
      · subst e2; rw [swp_r]; exact ih i a1 a2
      · rw [swp_o _ e1 e2]; exact ih k k1 k2
theorem Sw.one {a b i j : Nat} (f : Nat → E) (a1 : a ≤ i) (a2 : i < b) (a3 : a ≤ j) (a4 : j < b) : Sw a b f (swp f i j) := Sw.refl.step a1 a2 a3 a4

theorem perm_swap_range {n i j : Nat} (f : Nat → E) (hi : i < n) (hj : j < n) : ((List.range n).map (swp f i j)).Perm ((List.range n).map f) := by
  have key : ∀ (i j : Nat) (f : Nat → E), i < j → j < n → ((List.range n).map (swp f i j)).Perm ((List.range n).map f) := by
    intro i j f hij hj
    have e1 : List.range n = List.range i ++ (i :: ((List.range (j - i - 1)).map (· + (i + 1)) ++ (j :: (List.range (n - j - 1)).map (· + (j + 1))))) := by
      apply List.ext_getElem?
      intro k
      by_cases k1 : k < i
      · rw [List.getElem?_append_left (by simpa using k1)]
        simp [k1, show k < n by omega]
      · rw [List.getElem?_append_right (by simp; omega)]
        simp only [List.length_range]
        by_cases k2 : k = i
        · subst k2; rw [Nat.sub_self, List.getElem?_range (by omega)]; rfl
        · obtain ⟨m, rfl⟩ : ∃ m, k = i + 1 + m := ⟨k - i - 1, by omega⟩
          rw [show i + 1 + m - i = m + 1 by omega, List.getElem?_cons_succ]
          by_cases k3 : m < j - i - 1
          · rw [List.getElem?_append_left (by simpa using k3)]
            simp [k3, show i + 1 + m < n by omega]; omega
          · rw [List.getElem?_append_right (by simp; omega)]
            simp only [List.length_map, List.length_range]
            by_cases k4 : m = j - i - 1
            · subst k4; rw [Nat.sub_self, List.getElem?_range (by omega)]; show some _ = some _; congr 1; omega
            · obtain ⟨q, hq⟩ : ∃ q, m - (j - i - 1) = q + 1 := ⟨m - (j - i - 1) - 1, by omega⟩
              rw [hq, List.getElem?_cons_succ]
              by_cases k5 : q < n - j - 1
              · simp [k5, show i + 1 + m < n by omega]; omega
              · rw [List.getElem?_eq_none (by simp; omega), List.getElem?_eq_none (by simp; omega)]
    rw [e1]
    simp only [List.map_append, List.map_cons, List.map_map]
    have m1 : (List.range i).map (swp f i j) = (List.range i).map f := List.map_congr_left (fun k hk => swp_o f (by have := List.mem_range.1 hk; omega) (by have := List.mem_range.1 hk; omega))
    have m2 : (List.range (j - i - 1)).map (swp f i j ∘ (· + (i + 1))) = (List.range (j - i - 1)).map (f ∘ (· + (i + 1))) := List.map_congr_left (fun k hk => swp_o f (by show k + (i + 1) ≠ i; omega) (by have := List.mem_range.1 hk; show k + (i + 1) ≠ j; omega))
    have m3 : (List.range (n - j - 1)).map (swp f i j ∘ (· + (j + 1))) = (List.range (n - j - 1)).map (f ∘ (· + (j + 1))) := List.map_congr_left (fun k hk => swp_o f (by show k + (j + 1) ≠ i; omega) (by show k + (j + 1) ≠ j; omega))
    rw [m1, m2, m3, swp_l, swp_r]
    refine List.Perm.append_left _ ?_
    -- f j :: m ++ f i :: r  ~  f i :: m ++ f j :: r
    have p1 : (f j :: (((List.range (j - i - 1)).map (f ∘ (· + (i + 1)))) ++ (f i :: (List.range (n - j - 1)).map (f ∘ (· + (j + 1)))))).Perm (f j :: f i :: (((List.range (j - i - 1)).map (f ∘ (· + (i + 1)))) ++ (List.range (n - j - 1)).map (f ∘ (· + (j + 1))))) := List.Perm.cons _ List.perm_middle
    have p2 : (f i :: (((List.range (j - i - 1)).map (f ∘ (· + (i + 1)))) ++ (f j :: (List.range (n - j - 1)).map (f ∘ (· + (j + 1)))))).Perm (f i :: f j :: (((List.range (j - i - 1)).map (f ∘ (· + (i + 1)))) ++ (List.range (n - j - 1)).map (f ∘ (· + (j + 1))))) := List.Perm.cons _ List.perm_middle
    exact p1.trans ((List.Perm.swap _ _ _).trans p2.symm)
  by_cases c : i < j
  · exact key i j f c hj
  · by_cases c2 : i = j
    · subst c2
      have : swp f i i = f := by
        funext k
        by_cases e : k = i
        · subst e; rw [swp_l]
        · rw [swp_o f e e]
      rw [this]
    · have : swp f i j = swp f j i := by
        funext k
        unfold swp
        by_cases e1 : k = i
        · by_cases e2 : k = j
          · omega
          · rw [if_pos e1, if_neg e2, if_pos e1]
        · by_cases e2 : k = j
          · rw [if_neg e1, if_pos e2, if_pos e2]
          · rw [if_neg e1, if_neg e2, if_neg e2, if_neg e1]
      rw [this]
      exact key j i f (by omega) hi
theorem Sw.perm {a b n : Nat} {f g : Nat → E} (h : Sw a b f g) (hb : b ≤ n) : ((List.range n).map g).Perm ((List.range n).map f) := by
  induction h with
  | refl => exact .refl _
  | step _ a1 a2 a3 a4 ih => exact (perm_swap_range _ (by omega) (by omega)).trans ih

/-! ### the cells of an array -/
variable (cel : E → List Value) (s : Nat)
def flF (f : Nat → E) : Nat → List Value
  | 0 => []
  | n + 1 => flF f n ++ cel (f n)
variable {cel s}
theorem flF_len (hl : ∀ x, (cel x).length = s) (f : Nat → E) : ∀ n, (flF cel f n).length = n * s
  | 0 => by simp [flF]
  | n + 1 => by simp [flF, flF_len hl f n, hl, Nat.add_mul]
theorem flF_at (hl : ∀ x, (cel x).length = s) (f : Nat → E) : ∀ {n i : Nat}, i < n → ((flF cel f n).drop (i * s)).take s = cel (f i)
  | 0, i, h => by omega
  | n + 1, i, h => by
    have h1 := flF_len hl f n
    show ((flF cel f n ++ cel (f n)).drop (i * s)).take s = cel (f i)
    by_cases e : i = n
    · subst e
      rw [List.drop_append, List.drop_eq_nil_of_le (by omega), List.nil_append, h1, Nat.sub_self, List.drop_zero, List.take_of_length_le (by rw [hl]; exact Nat.le_refl _)]
    · have h2 : i * s + s ≤ n * s := by
        have := Nat.mul_le_mul_right s (show i + 1 ≤ n by omega)
        rw [Nat.add_mul] at this; omega
      rw [List.drop_append_of_le_length (by omega), List.take_append_of_le_length (by simp; omega)]
      exact flF_at hl f (by omega)
theorem write_get : ∀ (v cs : List Value) (o k : Nat), o + v.length ≤ cs.length → (writeAt cs o v)[k]? = if o ≤ k ∧ k < o + v.length then v[k - o]? else cs[k]?
  | [], cs, o, k, h => by
    rw [write_nil, if_neg (by simp)]
  | x :: v, cs, o, k, h => by
    simp only [List.length_cons] at h
    rw [write_cons, write_get v _ _ _ (by simp; omega)]
    simp only [List.length_cons]
    by_cases c1 : o + 1 ≤ k ∧ k < o + 1 + v.length
    · rw [if_pos c1, if_pos (by omega), show k - o = (k - (o + 1)) + 1 by omega, List.getElem?_cons_succ]
    · rw [if_neg c1]
      by_cases c2 : k = o
      · subst c2
        rw [if_pos (by omega), List.getElem?_set_self (by omega), Nat.sub_self]; rfl
      · rw [if_neg (by omega), List.getElem?_set_ne (by omega)]
theorem flF_get (hl : ∀ x, (cel x).length = s) (f : Nat → E) : ∀ {n i k : Nat}, i < n → k < s → (flF cel f n)[i * s + k]? = (cel (f i))[k]? := by
  intro n i k hi hk
  rw [← flF_at hl f hi, List.getElem?_take, if_pos hk, List.getElem?_drop]
theorem flF_write (hl : ∀ x, (cel x).length = s) (hs : 0 < s) {f g : Nat → E} {n i : Nat} (hi : i < n) (hg : ∀ k, k ≠ i → g k = f k) : writeAt (flF cel f n) (i * s) (cel (g i)) = flF cel g n := by
  have hfit : i * s + s ≤ n * s := by
    have := Nat.mul_le_mul_right s (show i + 1 ≤ n by omega)
    rw [Nat.add_mul] at this; omega
  apply List.ext_getElem?
  intro k
  rw [write_get _ _ _ _ (by rw [flF_len hl, hl]; exact hfit), hl]
  by_cases hk : k < n * s
  · have hd : k = k / s * s + k % s := by rw [Nat.mul_comm]; exact (Nat.div_add_mod k s).symm
    have hq : k / s < n := Nat.div_lt_of_lt_mul (by rw [Nat.mul_comm]; exact hk)
    have hr : k % s < s := Nat.mod_lt _ hs
    by_cases e : k / s = i
    · rw [if_pos (by rw [← e]; omega)]
      have h2 : k - i * s = k % s := by rw [← e]; omega
      rw [h2]
      conv => rhs; rw [hd]
      rw [flF_get hl g hq hr, e]
    · rw [if_neg]
      · conv => lhs; rw [hd]
        conv => rhs; rw [hd]
        rw [flF_get hl f hq hr, flF_get hl g hq hr, hg _ e]
      · rintro ⟨h1, h2⟩
        apply e
        exact Nat.div_eq_of_lt_le h1 (by rw [Nat.succ_mul]; exact h2)
  · rw [if_neg (by omega), List.getElem?_eq_none (by rw [flF_len hl]; omega), List.getElem?_eq_none (by rw [flF_len hl]; omega)]
/-! ### an array in a block that is the call's own -/
/-- h is h0 but for the block B, which holds the array f of n elements, and for older blocks that may be gone -/
structure SA (cel : E → List Value) (n B : Nat) (el : TypeId) (h0 : SHeap) (old0 : List Nat) (h : SHeap) (f : Nat → E) : Prop where
  len : h.length = h0.length
  same : ∀ j, j ≠ B → j ∉ old0 → h[j]? = h0[j]?
  at_ : ∃ old, (∀ c ∈ old, c ∈ old0) ∧ h[B]? = some (.cells (flF cel f n) el true 0 old)
theorem killAll_same : ∀ (l : List Nat) (h : SHeap) {j : Nat}, j ∉ l → (killAll h l)[j]? = h[j]? := by
  intro l
  induction l with
  | nil => intro h j _; rfl
  | cons b l ih =>
    intro h j hj
    unfold killAll
    rw [List.foldl_cons]
    have := ih (kill h b) (j := j) (fun e => hj (List.mem_cons_of_mem _ e))
    unfold killAll at this
    rw [this]
    unfold kill
    split
    · rw [List.getElem?_set_ne (fun e => hj (by rw [e]; exact List.mem_cons_self))]
    · rfl

variable {n B : Nat} {el : TypeId} {h0 h : SHeap} {old0 : List Nat} {f : Nat → E}
theorem SA.lt (S : SA cel n B el h0 old0 h f) : B < h.length := by
  obtain ⟨old, _, e⟩ := S.at_
  exact (List.getElem?_eq_some_iff.1 e).1
/-- an element, read -/
theorem SA.load (S : SA cel n B el h0 old0 h f) (hl : ∀ x, (cel x).length = s) {i : Nat} (hi : i < n) : loadS h (some s) (.pointer (some ⟨B, i * s, none⟩)) = some (.agg (cel (f i)).toArray) := by
  obtain ⟨old, _, e⟩ := S.at_
  have hfit : i * s + s ≤ n * s := by
    have := Nat.mul_le_mul_right s (show i + 1 ≤ n by omega)
    rw [Nat.add_mul] at this; omega
  rw [load_rdON, e, rdON_cells, readable_0, ble_dec, decide_eq_true (by rw [flF_len hl]; exact hfit), Bool.and_self, if_pos rfl, flF_at hl f hi]
/-- an element, written -/
theorem SA.store (S : SA cel n B el h0 old0 h f) (hl : ∀ x, (cel x).length = s) (hc : ∀ x, (cel x).all sc = true) (hs : 0 < s) {i : Nat} (hi : i < n) {g : Nat → E} (hg : ∀ k, k ≠ i → g k = f k) :
    ∃ h1, (∀ base d, storeS base h d B (i * s) (cel (g i)) = some (h1, d)) ∧ SA cel n B el h0 old0 h1 g := by
  obtain ⟨old, ho, e⟩ := S.at_
  have hfit : i * s + s ≤ n * s := by
    have := Nat.mul_le_mul_right s (show i + 1 ≤ n by omega)
    rw [Nat.add_mul] at this; omega
  have hB := S.lt
  refine ⟨(killAll h old).set B (.cells (flF cel g n) el true 0 []), fun base d => ?_, ?_⟩
  · have c1 := hc (g i)
    have c2 := all_sc_one _ c1
    have c3 : (cel (g i)).length = s := hl _
    rw [store_def, e]
    dsimp only
    rw [if_pos (by rw [c2, c1, ble_dec, blt_dec, c3, decide_eq_true (by rw [flF_len hl]; exact hfit), decide_eq_true hs]; rfl), flF_write hl hs hi hg, dirty_pf]
  · refine ⟨by simp [killAll_len _ _, S.len], fun j hj hjo => ?_, [], fun c hc => by simp at hc, ?_⟩
    · rw [List.getElem?_set_ne (fun e => hj e.symm), killAll_same _ _ (fun e => hjo (ho j e))]
      exact S.same j hj hjo
    · rw [List.getElem?_set_self (by rw [killAll_len]; exact hB)]
/-- two elements change places: how the program does it -/
theorem SA.swap (S : SA cel n B el h0 old0 h f) (hl : ∀ x, (cel x).length = s) (hc : ∀ x, (cel x).all sc = true) (hs : 0 < s) {i j : Nat} (hi : i < n) (hj : j < n) :
    ∃ h1 h2, (∀ base d, storeS base h d B (i * s) (cellsL (.agg (cel (f j)).toArray)) = some (h1, d)) ∧ (∀ base d, storeS base h1 d B (j * s) (cellsL (.agg (cel (f i)).toArray)) = some (h2, d)) ∧ SA cel n B el h0 old0 h2 (swp f i j) := by
  obtain ⟨h1, e1, S1⟩ := S.store hl hc hs hi (g := fun k => if k = i then f j else f k) (fun k hk => by simp [hk])
  simp only [if_true] at e1
  obtain ⟨h2, e2, S2⟩ := S1.store hl hc hs hj (g := swp f i j) (fun k hk => by
    by_cases e : k = i
    · subst e; rw [swp_l]; simp
    · rw [swp_o f e hk]; simp [e])
  rw [swp_r] at e2
  exact ⟨h1, h2, e1, e2, S2⟩
theorem SA.trans {h1 h2 : SHeap} {old1 : List Nat} {g k : Nat → E} (S : SA cel n B el h0 old0 h1 g) (S2 : SA cel n B el h1 old1 h2 k) (ho : ∀ c ∈ old1, c ∈ old0) : SA cel n B el h0 old0 h2 k :=
  ⟨by rw [S2.len, S.len], fun j a b => by rw [S2.same j a (fun e => b (ho j e)), S.same j a b], let ⟨o, p, q⟩ := S2.at_; ⟨o, fun c hc => ho c (p c hc), q⟩⟩
theorem SA.take (S : SA cel n B el h0 old0 h f) : h.take h0.length = h := List.take_of_length_le (by rw [S.len]; exact Nat.le_refl _)
end

/-! ### the order -/
/-- a comparison that is called: its answers, and that they are an order -/
structure Cmp {E : Type} (M : Rec) (g : FuncId) (cel : E → List Value) (c : E → E → Int) : Prop where
  call : ∀ x y h, M.call g [.agg (cel x).toArray, .agg (cel y).toArray] h = some (.int .i64 (c x y), h, [])
  irr : ∀ x, ¬ c x x < 0
  asym : ∀ x y, c x y < 0 → ¬ c y x < 0
  ntr : ∀ x y z, ¬ c x y < 0 → ¬ c y z < 0 → ¬ c x z < 0
section
variable {E : Type} {M : Rec} {g : FuncId} {cel : E → List Value} {c : E → E → Int}
theorem Cmp.trans (C : Cmp M g cel c) {x y z : E} (h1 : c x y < 0) (h2 : ¬ c z y < 0) : c x z < 0 := by
  by_cases e : c x z < 0
  · exact e
  · exact (C.ntr _ _ _ e h2 h1).elim
/-- in order from a to b -/
def Ord (c : E → E → Int) (a b : Nat) (f : Nat → E) : Prop := ∀ i j, a ≤ i → i < j → j < b → ¬ c (f j) (f i) < 0
theorem Ord.nil (c : E → E → Int) {a b : Nat} (h : b ≤ a + 1) (f : Nat → E) : Ord c a b f := fun i j h1 h2 h3 => by omega
theorem Ord.congr {a b : Nat} {f k : Nat → E} (h : Ord c a b f) (e : ∀ i, a ≤ i → i < b → k i = f i) : Ord c a b k := fun i j h1 h2 h3 => by
  rw [e i h1 (by omega), e j (by omega) h3]; exact h i j h1 h2 h3
theorem Ord.mono {a b a' b' : Nat} {f : Nat → E} (h : Ord c a b f) (ha : a ≤ a') (hb : b' ≤ b) : Ord c a' b' f := fun i j h1 h2 h3 => h i j (by omega) h2 (by omega)
/-- one more at the end -/
theorem Ord.snoc (C : Cmp M g cel c) {a b : Nat} {f : Nat → E} (h : Ord c a b f) (hl : a < b → ¬ c (f b) (f (b - 1)) < 0) : Ord c a (b + 1) f := by
  intro i j h1 h2 h3
  by_cases e : j = b
  · subst e
    by_cases e2 : i = j - 1
    · subst e2; exact hl (by omega)
    · exact C.ntr _ _ _ (hl (by omega)) (h i (j - 1) h1 (by omega) (by omega))
  · exact h i j h1 h2 (by omega)
end
end Go.Proofs.YtdmfhdnpakgkpaaDoor.Sh

