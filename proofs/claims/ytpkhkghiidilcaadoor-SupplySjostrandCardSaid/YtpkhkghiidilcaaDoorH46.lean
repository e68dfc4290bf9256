/- The greatest number of supplies at a goal: plain laws. -/
import Derived.Test.YtpkhkghiidilcaaDoorH45
set_option linter.all false
namespace Go.Proofs.YtpkhkghiidilcaaDoor.Sh
open Go
set_option maxRecDepth 100000
set_option maxHeartbeats 1000000
def pl (s : Nat → Int) (u : Nat) (k : Int) : Nat → Int := fun v => if v = u then s u + k else s v
theorem pl_same (s : Nat → Int) (u : Nat) (k : Int) : pl s u k u = s u + k := by unfold pl; rw [if_pos rfl]
theorem pl_ne (s : Nat → Int) {u v : Nat} (k : Int) (h : v ≠ u) : pl s u k v = s v := by unfold pl; rw [if_neg h]
theorem pl_back (s : Nat → Int) (u : Nat) (k : Int) : pl (pl s u (-k)) u k = s := by
  funext v
  unfold pl
  by_cases c : v = u
  · subst c; simp; omega
  · simp [c]
theorem pl_at (s : Nat → Int) (u : Nat) (k : Int) (v : Nat) : pl s u k v = s v + if v = u then k else 0 := by
  unfold pl; split
  · rename_i e; subst e; rfl
  · omega
theorem aft_v {s : Nat → Int} {a b : Nat} (h : a ≠ b) (v : Nat) : aft s a b v = s v + (if v = a then -2 else 0) + (if v = b then 1 else 0) := by
  rw [aft_at h]
  by_cases c1 : v = b
  · subst c1; rw [if_pos rfl, if_pos rfl, if_neg (fun e => h e.symm)]; omega
  · rw [if_neg c1, if_neg c1]
    by_cases c2 : v = a
    · subst c2; rw [if_pos rfl, if_pos rfl]; omega
    · rw [if_neg c2, if_neg c2]; omega
theorem aft_pl {s : Nat → Int} {a b u : Nat} {k : Int} (h : a ≠ b) : aft (pl s u k) a b = pl (aft s a b) u k := by
  funext v
  rw [aft_v h, pl_at, pl_at, aft_v h]; omega
inductive Rg (n : Nat) (E : List (Int × Int)) (g : Nat) : (Nat → Int) → (Nat → Int) → Prop
  | refl (s : Nat → Int) : Rg n E g s s
  | step {s t : Nat → Int} (a b : Nat) (ha : a < n) (hb : b < n) (hadj : adjE E a b = true) (h2 : 2 ≤ s a) (hg : a ≠ g) : Rg n E g (aft s a b) t → Rg n E g s t
theorem canM_iff {n : Nat} {E : List (Int × Int)} {s : Nat → Int} {a b : Nat} : canM n E s (a : Int) (b : Int) ↔ a < n ∧ b < n ∧ adjE E a b = true ∧ 2 ≤ s a := by
  unfold canM
  rw [Int.toNat_natCast, Int.toNat_natCast]
  constructor
  · rintro ⟨h1, h2, h3, h4⟩; exact ⟨by omega, by omega, h3, h4⟩
  · rintro ⟨h1, h2, h3, h4⟩; exact ⟨by omega, by omega, h3, h4⟩
section
variable {n : Nat} {E : List (Int × Int)} {g : Nat} {s t : Nat → Int}
theorem Rg.trans {w : Nat → Int} (h1 : Rg n E g s t) (h2 : Rg n E g t w) : Rg n E g s w := by
  induction h1 with
  | refl s => exact h2
  | step a b ha hb hadj h2' hg _ ih => exact .step a b ha hb hadj h2' hg (ih h2)
theorem aft_nn {a b : Nat} (h : a ≠ b) (hs : ∀ v, 0 ≤ s v) (h2 : 2 ≤ s a) : ∀ v, 0 ≤ aft s a b v := fun v => by
  rw [aft_at h]
  have := hs v
  have := hs b
  split
  · omega
  · split <;> omega
theorem Rg.nn (hE : EOK n E) (h : Rg n E g s t) (hs : ∀ v, 0 ≤ s v) : ∀ v, 0 ≤ t v := by
  induction h with
  | refl s => exact hs
  | step a b ha hb hadj h2 hg _ ih => exact ih (aft_nn (hE.adj hadj).2.2 hs h2)
theorem Rg.st (hE : EOK n E) (hn : n ≤ 6) {B : Int} (h : Rg n E g s t) (S : ST n s B) : ST n t B := by
  induction h with
  | refl s => exact S
  | step a b ha hb hadj h2 hg _ ih => exact ih ((S.aft hE hn ha hb hadj h2).mono (by omega))
theorem Rg.more (hE : EOK n E) (h : Rg n E g s t) {u : Nat} {k : Int} (hk : 0 ≤ k ∨ u = g) : Rg n E g (pl s u k) (pl t u k) := by
  induction h with
  | refl s => exact .refl _
  | @step s t a b ha hb hadj h2 hg _ ih =>
    have hne := (hE.adj hadj).2.2
    refine .step a b ha hb hadj ?_ hg (by rw [aft_pl hne]; exact ih)
    unfold pl
    split
    · rename_i e; subst e; rcases hk with hk | hk
      · omega
      · exact (hg hk).elim
    · exact h2
theorem Rg.less (hE : EOK n E) {s0 : Nat → Int} (h : Rg n E g s0 t) : ∀ (s : Nat → Int) (u : Nat), s0 = pl s u 1 → (∀ v, 0 ≤ s v) → ∃ t', Rg n E g s t' ∧ t g - 1 ≤ t' g := by
  induction h with
  | refl s0 =>
    rintro s u rfl hs
    refine ⟨s, .refl s, ?_⟩
    unfold pl; split
    · rename_i e; subst e; omega
    · omega
  | @step s0 t a b ha hb hadj h2 hg _ ih =>
    rintro s u rfl hs
    have hne := (hE.adj hadj).2.2
    by_cases c : 2 ≤ s a
    · obtain ⟨t', h1, h3⟩ := ih (aft s a b) u (aft_pl hne) (aft_nn hne hs c)
      exact ⟨t', .step a b ha hb hadj c hg h1, h3⟩
    · have hau : a = u := by
        apply Decidable.byContradiction
        intro e; rw [pl_ne _ _ e] at h2; exact c h2
      subst hau
      rw [pl_same] at h2
      have h1 : s a = 1 := by omega
      have e1 : aft (pl s a 1) a b = pl (pl s a (-1)) b 1 := by
        funext v
        rw [pl_at, pl_at, aft_v hne, pl_at]
        by_cases c2 : v = a
        · rw [if_pos c2, if_pos c2, if_pos c2]; omega
        · rw [if_neg c2, if_neg c2, if_neg c2]; omega
      obtain ⟨t', k1, k2⟩ := ih (pl s a (-1)) b e1 (fun v => by
        have := hs v
        unfold pl; split <;> omega)
      have k3 := k1.more hE (u := a) (k := 1) (.inl (by omega))
      rw [pl_back] at k3
      refine ⟨_, k3, ?_⟩
      unfold pl; split
      · rename_i e; subst e; omega
      · exact k2
theorem Rg.any (h : Rg n E g s t) : Rg n E n s t := by
  induction h with
  | refl s => exact .refl s
  | step a b ha hb hadj h2 hg _ ih => exact .step a b ha hb hadj h2 (by omega) ih
def IsM (n : Nat) (E : List (Int × Int)) (g : Nat) (s : Nat → Int) (m : Int) : Prop := (∃ t, Rg n E g s t ∧ t g = m) ∧ ∀ t, Rg n E g s t → t g ≤ m
theorem IsM.uniq {m m' : Int} (h : IsM n E g s m) (h' : IsM n E g s m') : m = m' := by
  obtain ⟨⟨t, h1, rfl⟩, h2⟩ := h
  obtain ⟨⟨t', h3, rfl⟩, h4⟩ := h'
  have := h2 _ h3
  have := h4 _ h1
  omega
theorem IsM.ex (hE : EOK n E) (hn : n ≤ 6) {B : Int} (S : ST n s B) : ∃ m, IsM n E g s m := by
  have hb : ∀ t, Rg n E g s t → t g ≤ B := fun t h => ((h.st hE hn S).bnd hn g).2
  obtain ⟨j, ⟨t, h1, h2⟩, h3⟩ := least (P := fun j => ∃ t, Rg n E g s t ∧ (B - t g).toNat = j) _ ⟨s, .refl s, rfl⟩
  refine ⟨t g, ⟨t, h1, rfl⟩, fun t' h' => ?_⟩
  have k1 := hb t h1
  have k2 := hb t' h'
  apply Decidable.byContradiction
  intro hlt
  exact h3 (B - t' g).toNat (by omega) ⟨t', h', rfl⟩
open Classical in
noncomputable def mx (n : Nat) (E : List (Int × Int)) (g : Nat) (s : Nat → Int) : Int := if h : ∃ m, IsM n E g s m then Classical.choose h else 0
theorem mx_is (hE : EOK n E) (hn : n ≤ 6) {B : Int} (S : ST n s B) : IsM n E g s (mx n E g s) := by
  unfold mx
  rw [dif_pos (IsM.ex hE hn S)]
  exact Classical.choose_spec (IsM.ex (g := g) hE hn S)
theorem mx_eq (hE : EOK n E) (hn : n ≤ 6) {B : Int} (S : ST n s B) {m : Int} (h : IsM n E g s m) : mx n E g s = m := (mx_is hE hn S).uniq h
theorem mx_ge (hE : EOK n E) (hn : n ≤ 6) {B : Int} (S : ST n s B) (h : Rg n E g s t) : t g ≤ mx n E g s := (mx_is hE hn S).2 t h
def lin : Nat → (Nat → Int) → (Nat → Int) → Int
  | 0, _, _ => 0
  | n + 1, c, s => lin n c s + c n * s n
theorem lin_out {c : Nat → Int} {a : Nat} {x : Int} : ∀ {n : Nat}, n ≤ a → lin n c (up s a x) = lin n c s
  | 0, _ => rfl
  | n + 1, h => by
    show lin n c _ + c n * up s a x n = lin n c s + c n * s n
    rw [lin_out (by omega)]
    unfold up; rw [if_neg (by omega)]
theorem lin_up {c : Nat → Int} {a : Nat} {x : Int} : ∀ {n : Nat}, a < n → lin n c (up s a x) = lin n c s + c a * (x - s a)
  | 0, h => by omega
  | n + 1, h => by
    show lin n c _ + c n * up s a x n = lin n c s + c n * s n + _
    by_cases e : a = n
    · subst e
      rw [lin_out (Nat.le_refl _)]
      unfold up; rw [if_pos rfl, Int.mul_sub]; omega
    · rw [lin_up (by omega)]
      unfold up; rw [if_neg (by omega)]; omega
theorem lin_aft {c : Nat → Int} {a b : Nat} (ha : a < n) (hb : b < n) : lin n c (aft s a b) = lin n c s - 2 * c a + c b := by
  unfold aft
  rw [lin_up hb, lin_up ha]
  have e1 : s a - 2 - s a = -2 := by omega
  have e2 : ∀ x : Int, x + 1 - x = 1 := fun x => by omega
  rw [e1, e2]; omega
theorem lin_nn {c : Nat → Int} (hc : ∀ v, 0 ≤ c v) (hs : ∀ v, 0 ≤ s v) : ∀ n, 0 ≤ lin n c s
  | 0 => Int.le_refl 0
  | n + 1 => by
    have := lin_nn hc hs n
    have := Int.mul_nonneg (hc n) (hs n)
    show 0 ≤ lin n c s + c n * s n
    omega
theorem lin_ge {c : Nat → Int} (hc : ∀ v, 0 ≤ c v) (hs : ∀ v, 0 ≤ s v) {a : Nat} : ∀ {n : Nat}, a < n → c a * s a ≤ lin n c s
  | 0, h => by omega
  | n + 1, h => by
    show _ ≤ lin n c s + c n * s n
    by_cases e : a = n
    · subst e; have := lin_nn hc hs a; omega
    · have := lin_ge hc hs (a := a) (n := n) (by omega)
      have := Int.mul_nonneg (hc n) (hs n)
      omega
theorem Rg.lin_le {c : Nat → Int} (hc : ∀ a b, a < n → b < n → adjE E a b = true → a ≠ g → c b ≤ 2 * c a) (h : Rg n E g s t) : lin n c t ≤ lin n c s := by
  induction h with
  | refl s => exact Int.le_refl _
  | step a b ha hb hadj h2 hg _ ih =>
    rw [lin_aft ha hb] at ih
    have := hc a b ha hb hadj hg
    omega
end
end Go.Proofs.YtpkhkghiidilcaaDoor.Sh

namespace Go.Proofs.YtpkhkghiidilcaaDoor.Sh
open Go
set_option maxRecDepth 100000
set_option maxHeartbeats 1000000
section
variable {n : Nat} {E : List (Int × Int)} {g : Nat}
theorem far_self (hc : Conn n E) (hg : g < n) : farE n E g g = 0 := by
  obtain ⟨F, hF, h0⟩ := hc g hg
  have := farE_eq hF hg hg (h0 g hg)
  have := hF.src
  omega
theorem far_adj (hc : Conn n E) (hg : g < n) {a b : Nat} (ha : a < n) (hb : b < n) (h : adjE E a b = true) : farE n E g b ≤ farE n E g a + 1 := by
  obtain ⟨F, hF, h0⟩ := hc g hg
  have h1 := farE_eq hF hg ha (h0 a ha)
  have h2 := farE_eq hF hg hb (h0 b hb)
  have := (hF.nxt a b ha hb (h0 a ha) h).2
  omega
theorem far_prev (hc : Conn n E) (hg : g < n) {v : Nat} (hv : v < n) (hne : v ≠ g) : ∃ u, u < n ∧ adjE E v u = true ∧ farE n E g v = farE n E g u + 1 := by
  obtain ⟨F, hF, h0⟩ := hc g hg
  obtain ⟨u, hu, ha, k1, k2⟩ := hF.prv v hv (h0 v hv) hne
  refine ⟨u, hu, by rw [adjE_symm]; exact ha, ?_⟩
  have h1 := farE_eq hF hg hv (h0 v hv)
  have h2 := farE_eq hF hg hu k1
  omega
theorem far_pos (hc : Conn n E) (hg : g < n) {v : Nat} (hv : v < n) (hne : v ≠ g) : 1 ≤ farE n E g v := by
  obtain ⟨u, _, _, h⟩ := far_prev hc hg hv hne
  omega
theorem cnt_mono {f f' : Nat → Int} (h : ∀ v, f' v ≤ f v) : ∀ n, cnt n f ≤ cnt n f'
  | 0 => Nat.le_refl _
  | n + 1 => by
    have := cnt_mono h n
    have := h n
    show (cnt n f + if f n < 0 then 1 else 0) ≤ cnt n f' + if f' n < 0 then 1 else 0
    split <;> split <;> omega
theorem cnt_lt {f f' : Nat → Int} (h : ∀ v, f' v ≤ f v) {u : Nat} (h1 : 0 ≤ f u) (h2 : f' u < 0) : ∀ n, u < n → cnt n f + 1 ≤ cnt n f'
  | 0, hu => by omega
  | n + 1, hu => by
    have h3 := h n
    show (cnt n f + if f n < 0 then 1 else 0) + 1 ≤ cnt n f' + if f' n < 0 then 1 else 0
    by_cases e : u = n
    · subst e
      have := cnt_mono h u
      rw [if_neg (by omega), if_pos h2]; omega
    · have := cnt_lt h h1 h2 n (by omega)
      split <;> split <;> omega
theorem far_lt (hc : Conn n E) (hg : g < n) {v : Nat} (hv : v < n) : farE n E g v < n := by
  have lv : ∀ d v, v < n → farE n E g v = d → ∀ k, k ≤ d → ∃ u, u < n ∧ farE n E g u = k := by
    intro d
    induction d with
    | zero => intro v hv h k hk; exact ⟨v, hv, by omega⟩
    | succ d ih =>
      intro v hv h k hk
      by_cases e : k = d + 1
      · exact ⟨v, hv, by omega⟩
      · have hne : v ≠ g := fun e => by subst e; have := far_self hc hv; omega
        obtain ⟨u, hu, _, h1⟩ := far_prev hc hg hv hne
        exact ih u hu (by omega) k (by omega)
  have key : ∀ k, k ≤ farE n E g v + 1 → k ≤ cnt n (fun w => (farE n E g w : Int) - k) := by
    intro k
    induction k with
    | zero => intro _; omega
    | succ k ih =>
      intro hk
      have h1 := ih (by omega)
      obtain ⟨u, hu, h2⟩ := lv _ v hv rfl k (by omega)
      have := cnt_lt (f := fun w => (farE n E g w : Int) - k) (f' := fun w => (farE n E g w : Int) - (k + 1 : Nat)) (fun w => by show (farE n E g w : Int) - (k + 1 : Nat) ≤ (farE n E g w : Int) - k; omega) (u := u) (by show 0 ≤ (farE n E g u : Int) - k; omega) (by show (farE n E g u : Int) - (k + 1 : Nat) < 0; omega) n hu
      omega
  have := key _ (Nat.le_refl _)
  have := cnt_le (fun w => (farE n E g w : Int) - (farE n E g v + 1 : Nat)) n
  omega
theorem Rg.many (hE : EOK n E) {a b : Nat} (ha : a < n) (hb : b < n) (hadj : adjE E a b = true) (hag : a ≠ g) : ∀ (k : Nat) (s : Nat → Int), 2 * (k : Int) ≤ s a → Rg n E g s (pl (pl s a (-(2 * (k : Int)))) b k)
  | 0, s, _ => by
    have : pl (pl s a (-(2 * ((0 : Nat) : Int)))) b ((0 : Nat) : Int) = s := by
      funext v
      rw [pl_at, pl_at]
      split <;> split <;> omega
    rw [this]; exact .refl s
  | k + 1, s, h => by
    have hne := (hE.adj hadj).2.2
    refine .step a b ha hb hadj (by omega) hag ?_
    have ih := Rg.many hE ha hb hadj hag k (aft s a b) (by rw [aft_at hne, if_neg hne, if_pos rfl]; omega)
    have : pl (pl (aft s a b) a (-(2 * (k : Int)))) b k = pl (pl s a (-(2 * ((k + 1 : Nat) : Int)))) b ((k + 1 : Nat) : Int) := by
      funext v
      by_cases c : v = b
      · subst c
        rw [pl_same, pl_ne _ _ (fun e => hne e.symm), pl_same, pl_ne _ _ (fun e => hne e.symm), aft_at hne, if_pos rfl]; omega
      · rw [pl_ne _ _ c, pl_ne _ _ c]
        by_cases c2 : v = a
        · subst c2; rw [pl_same, pl_same, aft_at hne, if_neg hne, if_pos rfl]; omega
        · rw [pl_ne _ _ c2, pl_ne _ _ c2, aft_at hne, if_neg c, if_neg c2]
    rw [this] at ih
    exact ih
end
end Go.Proofs.YtpkhkghiidilcaaDoor.Sh

namespace Go.Proofs.YtpkhkghiidilcaaDoor.Sh
open Go
set_option maxRecDepth 100000
set_option maxHeartbeats 1000000
section
variable {n : Nat} {E : List (Int × Int)} {g : Nat} {s : Nat → Int} {B : Int}
theorem p1 {x k : Nat} (h : x = k) : 2 ^ x = 2 ^ k := by rw [h]
def farS (v : Nat) (k : Int) : Nat → Int := fun w => if w = v then k else 0
theorem farS_st {v : Nat} {k : Int} (hv : v < 6) (hvn : v < n) (hk : 0 ≤ k) : ST n (farS v k) k := by
  refine ⟨fun w => by unfold farS; split <;> omega, fun w hw => if_neg (by omega), ?_⟩
  have : v = 0 ∨ v = 1 ∨ v = 2 ∨ v = 3 ∨ v = 4 ∨ v = 5 := by omega
  unfold tot farS
  rcases this with rfl | rfl | rfl | rfl | rfl | rfl <;> simp
end
end Go.Proofs.YtpkhkghiidilcaaDoor.Sh

namespace Go.Proofs.YtpkhkghiidilcaaDoor.Sh
open Go
set_option maxRecDepth 100000
set_option maxHeartbeats 1000000
section
variable {n : Nat} {E : List (Int × Int)} {s : Nat → Int}
def full (n : Nat) (s : Nat → Int) : Prop := ∀ v, v < n → 1 ≤ s v
def Cov (n : Nat) (E : List (Int × Int)) (s : Nat → Int) : Prop := ∃ t, Rg n E n s t ∧ full n t
theorem Cov.iff : Cov n E s ↔ full n s ∨ ∃ a b : Nat, canM n E s a b ∧ Cov n E (aft s a b) := by
  constructor
  · rintro ⟨t, h, hf⟩
    cases h with
    | refl => exact .inl hf
    | step a b ha hb hadj h2 hg h => exact .inr ⟨a, b, canM_iff.2 ⟨ha, hb, hadj, h2⟩, t, h, hf⟩
  · rintro (h | ⟨a, b, hc, t, h, hf⟩)
    · exact ⟨s, .refl s, h⟩
    · obtain ⟨h1, h2, h3, h4⟩ := canM_iff.1 hc
      exact ⟨t, .step a b h1 h2 h3 h4 (by omega) h, hf⟩
theorem lin_one_le {c : Nat → Int} (hc : ∀ v, 0 ≤ c v) : ∀ {n : Nat} {s s' : Nat → Int}, (∀ v, v < n → s v ≤ s' v) → lin n c s ≤ lin n c s'
  | 0, _, _, _ => Int.le_refl 0
  | n + 1, s, s', h => by
    have := lin_one_le hc (n := n) (s := s) (s' := s') (fun v hv => h v (by omega))
    have := Int.mul_le_mul_of_nonneg_left (h n (by omega)) (hc n)
    show lin n c s + c n * s n ≤ lin n c s' + c n * s' n
    omega
theorem lin_ones : ∀ n, lin n (fun _ => 1) (fun _ => 1) = n
  | 0 => rfl
  | n + 1 => by
    show lin n _ _ + 1 * 1 = _
    rw [lin_ones n]; omega
theorem tot_lin {B : Int} (hn : n ≤ 6) (S : ST n s B) : lin n (fun _ => 1) s = tot s := by
  have key : ∀ k, k ≤ 6 → n ≤ k → lin k (fun _ => 1) s = lin n (fun _ => 1) s := by
    intro k
    induction k with
    | zero => intro _ h; rw [show n = 0 by omega]
    | succ k ih =>
      intro h1 h2
      by_cases e : n = k + 1
      · rw [e]
      · show lin k _ s + 1 * s k = _
        rw [ih (by omega) (by omega), S.out k (by omega)]; omega
  rw [← key 6 (by omega) hn]
  show ((((((0 + 1 * s 0) + 1 * s 1) + 1 * s 2) + 1 * s 3) + 1 * s 4) + 1 * s 5) = s 0 + s 1 + s 2 + s 3 + s 4 + s 5
  omega
theorem Rg.tot_le {g : Nat} (hE : EOK n E) (hn : n ≤ 6) {t : Nat → Int} (h : Rg n E g s t) : tot t ≤ tot s := by
  induction h with
  | refl s => exact Int.le_refl _
  | step a b ha hb hadj h2 hg _ ih => rw [aft_tot (by omega) (by omega)] at ih; omega
theorem Cov.tot {B : Int} (hE : EOK n E) (hn : n ≤ 6) (S : ST n s B) (h : Cov n E s) : (n : Int) ≤ tot s := by
  obtain ⟨t, h1, h2⟩ := h
  have k1 := h1.tot_le hE hn
  have k2 := tot_lin hn (h1.st hE hn S)
  have k3 := lin_one_le (c := fun _ => 1) (fun _ => by decide) (n := n) (s := fun _ => 1) (s' := t) h2
  rw [lin_ones] at k3
  omega
noncomputable def pw (n : Nat) (E : List (Int × Int)) (a v : Nat) : Int := ((2 ^ farE n E a v : Nat) : Int)
noncomputable def cvS (n : Nat) (E : List (Int × Int)) (a : Nat) : Int := lin n (pw n E a) (fun _ => 1)
theorem pw_nn {a v : Nat} : 0 ≤ pw n E a v := Int.natCast_nonneg _
theorem pw_adj (hc : Conn n E) {p : Nat} (hp : p < n) : ∀ a b, a < n → b < n → adjE E a b = true → a ≠ n → pw n E p b ≤ 2 * pw n E p a := by
  intro a b ha hb h _
  have h1 := far_adj hc hp ha hb h
  have h2 := Nat.pow_le_pow_right (n := 2) (by decide) h1
  rw [Nat.pow_succ] at h2
  unfold pw; omega
theorem lin_single {c : Nat → Int} {p : Nat} {x : Int} : ∀ {n : Nat}, p < n → lin n c (fun v => if v = p then x else 0) = c p * x := by
  have z : ∀ {n : Nat}, n ≤ p → lin n c (fun v => if v = p then x else 0) = 0 := by
    intro n
    induction n with
    | zero => intro _; rfl
    | succ n ih =>
      intro h
      show lin n c _ + c n * (if n = p then x else 0) = 0
      rw [ih (by omega), if_neg (by omega)]; simp
  intro n
  induction n with
  | zero => intro h; omega
  | succ n ih =>
    intro h
    show lin n c _ + c n * (if n = p then x else 0) = _
    by_cases e : n = p
    · subst e; rw [z (Nat.le_refl _), if_pos rfl]; omega
    · rw [ih (by omega), if_neg e]; simp
theorem cov_no (hc : Conn n E) {p : Nat} (hp : p < n) {x : Int} (hx : x < cvS n E p) : ¬ Cov n E (fun v => if v = p then x else 0) := by
  rintro ⟨t, h1, h2⟩
  have k1 := h1.lin_le (pw_adj hc hp)
  have k2 := lin_one_le (c := pw n E p) (fun _ => pw_nn) (n := n) (s := fun _ => 1) (s' := t) h2
  rw [lin_single hp] at k1
  have : pw n E p p = 1 := by unfold pw; rw [far_self hc hp]; rfl
  rw [this] at k1
  unfold cvS at hx
  omega
theorem deliver (hE : EOK n E) (hc : Conn n E) {p : Nat} (hp : p < n) : ∀ (d u k : Nat) (s : Nat → Int), (∀ v, 0 ≤ s v) → u < n → farE n E p u = d → ((k * 2 ^ d : Nat) : Int) ≤ s p → Rg n E n s (pl (pl s p (-((k * 2 ^ d : Nat) : Int))) u k) := by
  intro d
  induction d with
  | zero =>
    intro u k s hs hu h hk
    have e : u = p := Decidable.byContradiction fun e => by have := far_pos hc hp hu e; omega
    subst e
    have : pl (pl s u (-((k * 2 ^ 0 : Nat) : Int))) u k = s := by
      have := pl_back s u (k : Int)
      simpa using this
    rw [this]; exact .refl s
  | succ d ih =>
    intro u k s hs hu h hk
    have hne : u ≠ p := fun e => by subst e; have := far_self hc hp; omega
    obtain ⟨w, hw, ha, h1⟩ := far_prev hc hp hu hne
    have h2 := (hE.adj ha).2.2
    have e1 : k * 2 ^ (d + 1) = 2 * k * 2 ^ d := by rw [Nat.pow_succ, ← Nat.mul_assoc, Nat.mul_comm (k * 2 ^ d) 2, Nat.mul_assoc]
    rw [e1] at hk ⊢
    have k1 := ih w (2 * k) s hs hw (by omega) hk
    have hw0 := hs w
    have e2 : ((2 * k * 2 ^ d : Nat) : Int) ≥ ((2 * k : Nat) : Int) := by
      have : 2 * k * 1 ≤ 2 * k * 2 ^ d := Nat.mul_le_mul_left _ (Nat.pow_pos (by decide))
      omega
    have k2 := Rg.many (g := n) hE hw hu (by rw [adjE_symm]; exact ha) (by omega) k (pl (pl s p (-((2 * k * 2 ^ d : Nat) : Int))) w ((2 * k : Nat) : Int)) (by
      rw [pl_same]
      have : 0 ≤ pl s p (-((2 * k * 2 ^ d : Nat) : Int)) w := by
        unfold pl; split
        · omega
        · exact hw0
      omega)
    have e3 : pl (pl (pl (pl s p (-((2 * k * 2 ^ d : Nat) : Int))) w ((2 * k : Nat) : Int)) w (-(2 * (k : Int)))) u k = pl (pl s p (-((2 * k * 2 ^ d : Nat) : Int))) u k := by
      congr 1
      funext v
      by_cases c : v = w
      · subst c; rw [pl_same, pl_same]; omega
      · rw [pl_ne _ _ c, pl_ne _ _ c]
    rw [e3] at k2
    exact k1.trans k2
theorem cov_yes (hE : EOK n E) (hc : Conn n E) {p : Nat} (hp : p < n) (hs : ∀ v, 0 ≤ s v) (h : cvS n E p ≤ s p) : Cov n E s := by
  have key : ∀ k, k ≤ n → ∃ t, Rg n E n s t ∧ (∀ v, 0 ≤ t v) ∧ (∀ v, v < k → v ≠ p → 1 ≤ t v) ∧ cvS n E p - lin k (pw n E p) (fun _ => 1) + (if p < k then 1 else 0) ≤ t p := by
    intro k
    induction k with
    | zero => intro _; exact ⟨s, .refl s, hs, fun v hv => by omega, by rw [if_neg (by omega)]; show _ - 0 + 0 ≤ _; omega⟩
    | succ k ih =>
      intro hk
      obtain ⟨t, h1, h2, h3, h4⟩ := ih (by omega)
      have e1 : lin (k + 1) (pw n E p) (fun _ => 1) = lin k (pw n E p) (fun _ => 1) + pw n E p k * 1 := rfl
      by_cases c : k = p
      · subst c
        refine ⟨t, h1, h2, fun v hv hne => h3 v (by omega) hne, ?_⟩
        rw [if_neg (by omega)] at h4
        rw [if_pos (by omega), e1]
        have : pw n E k k = 1 := by unfold pw; rw [far_self hc hp]; rfl
        rw [this]; omega
      · have mono : lin (k + 1) (pw n E p) (fun _ => 1) ≤ cvS n E p := by
          have : ∀ m, k + 1 ≤ m → lin (k + 1) (pw n E p) (fun _ => 1) ≤ lin m (pw n E p) (fun _ => 1) := by
            intro m
            induction m with
            | zero => intro h; omega
            | succ m ihm =>
              intro h
              by_cases e : k + 1 = m + 1
              · rw [e]; exact Int.le_refl _
              · have := ihm (by omega)
                have e2 : lin (m + 1) (pw n E p) (fun _ => 1) = lin m (pw n E p) (fun _ => 1) + pw n E p m * 1 := rfl
                have := pw_nn (n := n) (E := E) (a := p) (v := m)
                omega
          exact this n hk
        have ek : pw n E p k = ((1 * 2 ^ farE n E p k : Nat) : Int) := by unfold pw; rw [Nat.one_mul]
        have h5 : ((1 * 2 ^ farE n E p k : Nat) : Int) ≤ t p := by
          rw [← ek]; split at h4 <;> omega
        have k1 := deliver hE hc hp _ k 1 t h2 hk rfl h5
        refine ⟨_, h1.trans k1, k1.nn hE h2, fun v hv hne => ?_, ?_⟩
        · by_cases e : v = k
          · subst e; rw [pl_same, pl_ne _ _ c]; have := h2 v; omega
          · rw [pl_ne _ _ e, pl_ne _ _ hne]; exact h3 v (by omega) hne
        · rw [pl_ne _ _ (fun e => c e.symm), pl_same, e1, ← ek]
          by_cases e : p < k
          · rw [if_pos e] at h4; rw [if_pos (by omega)]; omega
          · rw [if_neg e] at h4; rw [if_neg (by omega)]; omega
  obtain ⟨t, h1, h2, h3, h4⟩ := key n (Nat.le_refl _)
  rw [if_pos hp] at h4
  refine ⟨t, h1, fun v hv => ?_⟩
  by_cases e : v = p
  · subst e; unfold cvS at h4; omega
  · exact h3 v hv e
end
end Go.Proofs.YtpkhkghiidilcaaDoor.Sh

namespace Go.Proofs.YtpkhkghiidilcaaDoor.Sh
open Go
set_option maxRecDepth 100000
set_option maxHeartbeats 1000000
def q6 : EqK := .agg [.int, .int, .int, .int, .int, .int]
def zout (s : Nat → Int) : Prop := ∀ v, 6 ≤ v → s v = 0
theorem eqL_ints : ∀ (l l' : List Int), l.length = l'.length → eqList (l.map fun _ => CK.int) (l.map mkI) (l'.map mkI) = some (decide (l = l'))
  | [], [], _ => rfl
  | a :: l, b :: l', h => by
    have ih := eqL_ints l l' (by simpa using h)
    show (match eqCell .int (.int .i64 a) (.int .i64 b) with
      | some true => eqList _ (l.map mkI) (l'.map mkI)
      | some false => some false
      | none => none) = _
    have e : eqCell .int (.int .i64 a) (.int .i64 b) = some (a == b) := by simp [eqCell]
    rw [e, ih]
    by_cases c : a = b
    · subst c; simp
    · have : (a == b) = false := beq_eq_false_iff_ne.2 c
      rw [this]; simp [c]
theorem st_lst (s : Nat → Int) : iV 6 s = (lst 6 s).map mkI := by simp [iV, lst, mkI]
theorem eq6 {s t : Nat → Int} (hs : zout s) (ht : zout t) : eqS q6 (stV s) (stV t) = some true ∧ s = t ∨ eqS q6 (stV s) (stV t) = some false ∧ s ≠ t := by
  have e : eqS q6 (stV s) (stV t) = some (decide (lst 6 s = lst 6 t)) := by
    show eqList _ (iV 6 s) (iV 6 t) = _
    rw [st_lst, st_lst]
    exact eqL_ints (lst 6 s) (lst 6 t) rfl
  rw [e]
  by_cases c : lst 6 s = lst 6 t
  · refine .inl ⟨by rw [decide_eq_true c], funext fun v => ?_⟩
    by_cases cv : v < 6
    · rw [← lst_at s cv, ← lst_at t cv, c]
    · rw [hs v (by omega), ht v (by omega)]
  · exact .inr ⟨by rw [decide_eq_false c], fun h => c (by rw [h])⟩
def ents (S : List ((Nat → Int) × Value)) : List (Value × Value) := S.map fun e => (stV e.1, e.2)
theorem find6 {t : Nat → Int} (ht : zout t) : ∀ S : List ((Nat → Int) × Value), (∀ e ∈ S, zout e.1) → (findS q6 (stV t) (ents S) = some none ∧ ∀ e ∈ S, e.1 ≠ t) ∨ ∃ v, findS q6 (stV t) (ents S) = some (some v) ∧ (t, v) ∈ S
  | [], _ => .inl ⟨rfl, fun e he => by cases he⟩
  | (s, w) :: S, h => by
    have hs : zout s := h (s, w) (by simp)
    show (match eqS q6 (stV t) (stV s) with | some true => some (some w) | some false => findS q6 (stV t) (ents S) | none => none) = _ ∧ _ ∨ ∃ v, (match eqS q6 (stV t) (stV s) with | some true => some (some w) | some false => findS q6 (stV t) (ents S) | none => none) = _ ∧ _
    rcases eq6 ht hs with ⟨e, rfl⟩ | ⟨e, hne⟩
    · rw [e]; exact .inr ⟨w, rfl, by simp⟩
    · rw [e]
      rcases find6 ht S (fun e he => h e (by simp [he])) with ⟨h1, h2⟩ | ⟨v, h1, h2⟩
      · refine .inl ⟨h1, fun e he => ?_⟩
        rcases List.mem_cons.1 he with rfl | he
        · exact fun k => hne k.symm
        · exact h2 e he
      · exact .inr ⟨v, h1, by simp [h2]⟩
theorem upd6 {t : Nat → Int} (ht : zout t) (w : Value) : ∀ S : List ((Nat → Int) × Value), (∀ e ∈ S, zout e.1) → ∃ S', updS q6 (stV t) w (ents S) = some (ents S') ∧ ∀ e ∈ S', e ∈ S ∨ e = (t, w)
  | [], _ => ⟨[(t, w)], rfl, fun e he => .inr (by simpa using he)⟩
  | (s, x) :: S, h => by
    have hs : zout s := h (s, x) (by simp)
    have un : updS q6 (stV t) w (ents ((s, x) :: S)) = (match eqS q6 (stV t) (stV s) with | some true => some ((stV t, w) :: ents S) | some false => (match updS q6 (stV t) w (ents S) with | some r => some ((stV s, x) :: r) | none => none) | none => none) := rfl
    rcases eq6 ht hs with ⟨e, rfl⟩ | ⟨e, hne⟩
    · exact ⟨(t, w) :: S, by rw [un, e]; rfl, fun e he => by
        rcases List.mem_cons.1 he with rfl | he
        · exact .inr rfl
        · exact .inl (by simp [he])⟩
    · obtain ⟨S', h1, h2⟩ := upd6 ht w S (fun e he => h e (by simp [he]))
      exact ⟨(s, x) :: S', by rw [un, e, h1]; rfl, fun e he => by
        rcases List.mem_cons.1 he with rfl | he
        · exact .inl (by simp)
        · rcases h2 e he with h3 | h3
          · exact .inl (by simp [h3])
          · exact .inr h3⟩
theorem ST.zout {n : Nat} {s : Nat → Int} {B : Int} (S : ST n s B) (hn : n ≤ 6) : Sh.zout s := fun v hv => S.out v (by omega)
theorem key6 (s : Nat → Int) : keyS q6 (stV s) = true := rfl
theorem sc6 (s : Nat → Int) (w : Value) (h : (cellsL w).all sc = true) : ((cellsL (stV s)).all sc && (cellsL w).all sc) = true := by
  rw [h, Bool.and_true]
  exact iV_sc 6 s
theorem run_rangeX {R : Rec} {cx : Cx} {dep : Nat} {f : Operand} {ps : List Nat} {as_ body : SCode} {st : List Fr} {ρ : Reg} {ms : List Nat} {h : SHeap} {d : List Nat} {Q : Post} {g : FuncId} {caps : Array Value}
    (hrnd : cx.rnd = none) (hv : evR ρ f = some (.func (.func g) #[] caps))
    (hw : ∀ t : T, Full dep t → t.get = ρ → ∃ v2 h2 d2, R.call g (.func (.yield (h.length + 1)) #[] #[] :: caps.toList) (h ++ [.deferred, .loop 0 cx.fn t ps as_ body none h.length]) = some (v2, h2, d2) ∧
      ∃ lst fn' t' ps' as' body' pend df, h2[h.length + 1]? = some (.loop lst fn' t' ps' as' body' pend df) ∧ (lst == 1) = false ∧
        ((pend = none ∧ Ends R cx dep .normal st ρ (h.length :: ms) (setLoop h2 (h.length + 1) 3 none) (dirts cx.base d2 d) Q) ∨
         (pend = some .ret ∧ Ends R cx dep .ret st ρ (h.length :: ms) (setLoop h2 (h.length + 1) 3 (some .ret)) (dirts cx.base d2 d) Q) ∨
         (∃ id, pend = some (.exit id) ∧ Ends R cx dep (.exit id) st ρ (h.length :: ms) (setLoop h2 (h.length + 1) 3 (some (.exit id))) (dirts cx.base d2 d) Q))) :
    Run R cx dep (.rangeFunc f ps as_ body) st ρ ms h d Q := by
  unfold Run
  intro t hf ht
  obtain ⟨v2, h2, d2, e1, lst, fn', t', ps', as', body', pend, df, e2, e3, e4⟩ := hw t hf ht
  have hv' : ev t f = some (.func (.func g) #[] caps) := by rw [ev_evR, ht]; exact hv
  have a1 : (h ++ [SO.deferred]).length = h.length + 1 := by simp
  have a2 : h ++ [SO.deferred] ++ [.loop 0 cx.fn t ps as_ body none h.length] = h ++ [.deferred, .loop 0 cx.fn t ps as_ body none h.length] := by simp
  have e1' : R.call g ((#[] : Array Value).toList ++ [.func (.yield (h.length + 1)) #[] #[]] ++ caps.toList) (h ++ [.deferred, .loop 0 cx.fn t ps as_ body none h.length]) = some (v2, h2, d2) := by
    simpa using e1
  rcases e4 with ⟨rfl, k⟩ | ⟨rfl, k⟩ | ⟨id, rfl, k⟩
  · refine ⟨.normal, t, h.length :: ms, setLoop h2 (h.length + 1) 3 none, dirts cx.base d2 d, ?_, hf, by rw [ht]; exact k⟩
    unfold exec
    simp only [hv', hrnd]
    simp only [a1, a2]
    rw [e1']
    simp only [e2, e3, if_false, Bool.false_eq_true]
  · refine ⟨.ret, t, h.length :: ms, setLoop h2 (h.length + 1) 3 (some .ret), dirts cx.base d2 d, ?_, hf, by rw [ht]; exact k⟩
    unfold exec
    simp only [hv', hrnd]
    simp only [a1, a2]
    rw [e1']
    simp only [e2, e3, if_false, Bool.false_eq_true]
  · refine ⟨.exit id, t, h.length :: ms, setLoop h2 (h.length + 1) 3 (some (.exit id)), dirts cx.base d2 d, ?_, hf, by rw [ht]; exact k⟩
    unfold exec
    simp only [hv', hrnd]
    simp only [a1, a2]
    rw [e1']
    simp only [e2, e3, if_false, Bool.false_eq_true]
end Go.Proofs.YtpkhkghiidilcaaDoor.Sh

namespace Go.Proofs.YtpkhkghiidilcaaDoor.Sh
open Go
set_option maxRecDepth 100000
set_option maxHeartbeats 4000000
structure Srch (h : SHeap) (xs gr n : Nat) (E : List (Int × Int)) (goal : Nat) : Prop where
  l0 : loadS h none (.pointer (some ⟨xs, 0, none⟩)) = some (.pointer (some ⟨gr, 0, none⟩))
  l1 : loadS h none (.pointer (some ⟨xs, 1, none⟩)) = some (.int .i64 goal)
  gr : GAt h gr n E
section
variable {H : SHeap} {xs gr n goal : Nat} {E : List (Int × Int)} {s : Nat → Int}
theorem Srch.app (X : Srch H xs gr n E goal) (hx : xs < H.length) (g : SHeap) : Srch (H ++ g) xs gr n E goal := by
  have e : (H ++ g)[xs]? = H[xs]? := List.getElem?_append_left hx
  exact ⟨by rw [load_same' e]; exact X.l0, by rw [load_same' e]; exact X.l1, X.gr.app g⟩
end
end Go.Proofs.YtpkhkghiidilcaaDoor.Sh

namespace Go.Proofs.YtpkhkghiidilcaaDoor.Sh
open Go
set_option maxRecDepth 100000
set_option maxHeartbeats 4000000
def KnM (n : Nat) (E : List (Int × Int)) (goal : Nat) (S : List ((Nat → Int) × Value)) : Prop := ∀ e ∈ S, (∃ B, ST n e.1 B) ∧ e.2 = .int .i64 (mx n E goal e.1)
theorem KnM.z {n : Nat} {E : List (Int × Int)} {goal : Nat} {S : List ((Nat → Int) × Value)} (hn : n ≤ 6) (k : KnM n E goal S) : ∀ e ∈ S, zout e.1 := fun e he => by
  obtain ⟨⟨B, h⟩, _⟩ := k e he
  exact h.zout hn
def Bst (n : Nat) (E : List (Int × Int)) (goal : Nat) (s : Nat → Int) (l : List (Nat × Nat)) (m : Int) : Prop := (∃ w, Rg n E goal s w ∧ w goal = m) ∧ s goal ≤ m ∧ ∀ p ∈ l, p.1 ≠ goal → mx n E goal (aft s p.1 p.2) ≤ m
structure JT (N mb xs gr n : Nat) (E : List (Int × Int)) (goal : Nat) (s : Nat → Int) (bd : Int) (H : SHeap) (Q : Int → Prop) (lo : SO) (h : SHeap) : Prop where
  len : N + 8 ≤ h.length
  low : ∀ j, j < N → j ≠ mb → h[j]? = H[j]?
  mem : ∃ S, h[mb]? = some (.map true (ents S)) ∧ KnM n E goal S
  bx : h[N]? = some (.cells [.pointer (some ⟨xs, 0, none⟩)] 90 false 0 [])
  bs : h[N + 1]? = some (.cells (iV 6 s) 87 true 0 [])
  best : ∃ m, h[N + 2]? = some (.cells [.int .i64 m] 3 true 0 []) ∧ Q m
  bnd : h[N + 3]? = some (.cells [.int .i64 bd] 3 true 0 [])
  cap : Caps h (N + 4) (N + 5) gr n E s
  df : h[N + 6]? = some .deferred
  lp : h[N + 7]? = some lo
section
variable {N mb xs gr n : Nat} {E : List (Int × Int)} {goal : Nat} {s : Nat → Int} {bd : Int} {H : SHeap} {Q Q' : Int → Prop} {lo lo' : SO} {h h' : SHeap}
theorem JT.chg (J : JT N mb xs gr n E goal s bd H Q lo h) (hm : mb < N) (hg : gr < N) (hgm : gr ≠ mb) (hl : N + 8 ≤ h'.length) (k : ∀ j, j < N + 8 → j ≠ mb → j ≠ N + 2 → j ≠ N + 7 → h'[j]? = h[j]?)
    (mem : ∃ S, h'[mb]? = some (.map true (ents S)) ∧ KnM n E goal S) (best : ∃ m, h'[N + 2]? = some (.cells [.int .i64 m] 3 true 0 []) ∧ Q' m) (lp : h'[N + 7]? = some lo') : JT N mb xs gr n E goal s bd H Q' lo' h' :=
  ⟨hl, fun j hj hne => by rw [k j (by omega) hne (by omega) (by omega)]; exact J.low j hj hne, mem, by rw [k _ (by omega) (by omega) (by omega) (by omega)]; exact J.bx, by rw [k _ (by omega) (by omega) (by omega) (by omega)]; exact J.bs, best, by rw [k _ (by omega) (by omega) (by omega) (by omega)]; exact J.bnd,
    J.cap.same (fun j hj => k j (by omega) (by omega) (by omega) (by omega)), by rw [k _ (by omega) (by omega) (by omega) (by omega)]; exact J.df, lp⟩
theorem JT.same (J : JT N mb xs gr n E goal s bd H Q lo h) (hm : mb < N) (hg : gr < N) (hl : N + 8 ≤ h'.length) (k : ∀ j, j < N + 8 → h'[j]? = h[j]?) : JT N mb xs gr n E goal s bd H Q lo h' := by
  obtain ⟨S, m1, m2⟩ := J.mem
  obtain ⟨m, b1, b2⟩ := J.best
  exact ⟨hl, fun j hj hne => by rw [k j (by omega)]; exact J.low j hj hne, ⟨S, by rw [k _ (by omega)]; exact m1, m2⟩, by rw [k _ (by omega)]; exact J.bx, by rw [k _ (by omega)]; exact J.bs, ⟨m, by rw [k _ (by omega)]; exact b1, b2⟩, by rw [k _ (by omega)]; exact J.bnd,
    J.cap.same (fun j hj => k j (by omega)), by rw [k _ (by omega)]; exact J.df, by rw [k _ (by omega)]; exact J.lp⟩
theorem JT.app (J : JT N mb xs gr n E goal s bd H Q lo h) (hm : mb < N) (hg : gr < N) (x : SHeap) : JT N mb xs gr n E goal s bd H Q lo (h ++ x) :=
  J.same hm hg (by have := J.len; simp; omega) (fun j hj => List.getElem?_append_left (by have := J.len; omega))
theorem JT.setLp (J : JT N mb xs gr n E goal s bd H Q lo h) (hm : mb < N) (hg : gr < N) (hgm : gr ≠ mb) (lo' : SO) : JT N mb xs gr n E goal s bd H Q lo' (h.set (N + 7) lo') := by
  obtain ⟨S, m1, m2⟩ := J.mem
  obtain ⟨m, b1, b2⟩ := J.best
  have hl := J.len
  exact J.chg hm hg hgm (by simp; omega) (fun j hj h1 h2 h3 => by rw [List.getElem?_set_ne (by omega)]) ⟨S, by rw [List.getElem?_set_ne (by omega)]; exact m1, m2⟩ ⟨m, by rw [List.getElem?_set_ne (by omega)]; exact b1, b2⟩ (by rw [List.getElem?_set_self (by omega)])
def But (mb : Nat) (H h : SHeap) : Prop := h.length = H.length ∧ ∀ j, j ≠ mb → h[j]? = H[j]?
end
end Go.Proofs.YtpkhkghiidilcaaDoor.Sh

namespace Go.Proofs.YtpkhkghiidilcaaDoor.Sh
open Go
set_option maxRecDepth 100000
set_option maxHeartbeats 4000000
theorem MVb_all {n : Nat} {E : List (Int × Int)} {s : Nat → Int} {a b : Nat} (ha : a < n) (hb : b < n) (h : canM n E s a b) : (a, b) ∈ MVb n E s n := by
  have row : ∀ k, b < k → (a, b) ∈ rowM n E s a k := by
    intro k
    induction k with
    | zero => intro h; omega
    | succ k ih =>
      intro hk
      show (a, b) ∈ _ ++ _
      rw [List.mem_append]
      by_cases e : b = k
      · subst e; rw [if_pos h]; exact .inr (by simp)
      · exact .inl (ih (by omega))
  have all : ∀ k, a < k → (a, b) ∈ MVb n E s k := by
    intro k
    induction k with
    | zero => intro h; omega
    | succ k ih =>
      intro hk
      show (a, b) ∈ _ ++ _
      rw [List.mem_append]
      by_cases e : a = k
      · subst e; exact .inr (row n hb)
      · exact .inl (ih (by omega))
  exact all n ha
section
variable {n : Nat} {E : List (Int × Int)} {goal : Nat} {s : Nat → Int}
theorem Bst.all (hE : EOK n E) (hn : n ≤ 6) {B : Int} (S : ST n s B) {m : Int} (h : Bst n E goal s (MVb n E s n) m) : mx n E goal s = m := by
  refine mx_eq hE hn S ⟨h.1, fun t ht => ?_⟩
  cases ht with
  | refl => exact h.2.1
  | step a b ha hb hadj h2 hg k =>
    have k1 := h.2.2 (a, b) (MVb_all ha hb (canM_iff.2 ⟨ha, hb, hadj, h2⟩)) hg
    have k2 := mx_ge hE hn (S.aft hE hn ha hb hadj h2) k
    dsimp only at k1
    omega
end
section
variable {xs gr mb n : Nat} {E : List (Int × Int)} {goal : Nat}
theorem cells_st (s : Nat → Int) : cellsL (stV s) = iV 6 s := rfl
theorem take_but {H G : SHeap} {N : Nat} (hN : H.length = N) (hl : N ≤ G.length) (k : ∀ j, j < N → j ≠ mb → G[j]? = H[j]?) : But mb H (G.take N) := by
  refine ⟨by rw [List.length_take]; omega, fun j hj => ?_⟩
  by_cases c : j < N
  · rw [List.getElem?_take, if_pos c]; exact k j c hj
  · rw [List.getElem?_eq_none (by rw [List.length_take]; omega), List.getElem?_eq_none (by omega)]
theorem JT.take {N : Nat} {s : Nat → Int} {bd : Int} {H : SHeap} {Q : Int → Prop} {lo : SO} {h : SHeap} (J : JT N mb xs gr n E goal s bd H Q lo h) (hm : mb < N) (hg : gr < N) : JT N mb xs gr n E goal s bd H Q lo (h.take (N + 8)) :=
  J.same hm hg (by have := J.len; rw [List.length_take]; omega) (fun j hj => by rw [List.getElem?_take, if_pos hj])
end
end Go.Proofs.YtpkhkghiidilcaaDoor.Sh

namespace Go.Proofs.YtpkhkghiidilcaaDoor.Sh
open Go
set_option maxRecDepth 100000
set_option maxHeartbeats 4000000
abbrev sB (gr goal mb : Nat) : SO := .cells [.pointer (some ⟨gr, 0, none⟩), .int .i64 goal, .map (some mb)] 117 false 0 []
abbrev mB (S : List ((Nat → Int) × Value)) : SO := .map true (ents S)
theorem vsame_st (s : Nat → Int) : vsame (stV s) (stV s) = true := by
  show vsL (iV 6 s) (iV 6 s) = true
  rw [iV6]
  simp [vsL, vs1, vs0]
section
variable {n : Nat} {E : List (Int × Int)} {goal : Nat}
theorem Srch.mk' {h : SHeap} {xs gr mb : Nat} {c : TypeId} (hx : h[xs]? = some (.cells [.pointer (some ⟨gr, 0, none⟩), .int .i64 goal, .map (some mb)] c false 0 [])) (hg : GAt h gr n E) : Srch h xs gr n E goal := by
  have k0 := load_cell (o := 0) hx rfl rfl []
  have k1 := load_cell (o := 1) hx rfl rfl []
  rw [List.append_nil] at k0 k1
  exact ⟨k0, k1, hg⟩
theorem KnM.nil : KnM n E goal [] := fun e he => by cases he
theorem But.app {mb : Nat} {H h x : SHeap} (hb : But mb (H ++ x) h) (hm : H.length ≤ mb) : h.take H.length = H := by
  have e := hb.1
  rw [List.length_append] at e
  refine take_of_same (by omega) (fun j hj => ?_)
  rw [hb.2 j (by omega), List.getElem?_append_left hj]
end
end Go.Proofs.YtpkhkghiidilcaaDoor.Sh

namespace Go.Proofs.YtpkhkghiidilcaaDoor.Sh
open Go
set_option maxRecDepth 100000
set_option maxHeartbeats 4000000
abbrev fB (xs : Nat) : SO := .cells [.func (.func 55) #[.pointer (some ⟨xs, 0, none⟩)] #[]] 92 false 0 []
structure PL (N n : Nat) (E : List (Int × Int)) (goal : Nat) (H : SHeap) (st : Nat → Int) (P : List (Nat × Nat)) (h : SHeap) : Prop where
  len : N + 6 ≤ h.length
  low : ∀ j, j < N → h[j]? = H[j]?
  gr : GAt h N n E
  bs : h[N + 1]? = some (.cells (iV 6 st) 87 true 0 [])
  sr : h[N + 2]? = some (sB N goal (N + 3))
  mem : ∃ S, h[N + 3]? = some (mB S) ∧ KnM n E goal S
  fn : h[N + 4]? = some (fB (N + 2))
  out : ∃ qv, h[N + 5]? = some (.cells [qv] 22 false 0 []) ∧ Acc (N + 6) h qv (prN P) P.length 2 45
structure JP (N n : Nat) (E : List (Int × Int)) (goal : Nat) (H : SHeap) (L0 : Nat) (ms : List Nat) (st0 st : Nat → Int) (P : List (Nat × Nat)) (lo : SO) (h : SHeap) : Prop where
  pl : PL N n E goal H st P h
  len : L0 + 4 ≤ h.length
  cap : Caps h L0 (L0 + 1) N n E st0
  df : h[L0 + 2]? = some .deferred
  dk : ∀ x ∈ ms, h[x]? = some .deferred
  lp : h[L0 + 3]? = some lo
section
variable {N n : Nat} {E : List (Int × Int)} {goal : Nat} {H : SHeap} {L0 : Nat} {ms : List Nat} {st0 st : Nat → Int} {P : List (Nat × Nat)} {lo : SO} {h h' : SHeap}
theorem PL.chg (J : PL N n E goal H st P h) (hl : h.length ≤ h'.length) (k : ∀ j, j < h.length → j ≠ N + 3 → h'[j]? = h[j]?) (mem : ∃ S, h'[N + 3]? = some (mB S) ∧ KnM n E goal S) : PL N n E goal H st P h' := by
  have jl := J.len
  obtain ⟨qv, o1, o2⟩ := J.out
  exact ⟨by omega, fun j hj => by rw [k j (by omega) (by omega)]; exact J.low j hj, by have := J.gr; unfold GAt at *; rw [k _ (by omega) (by omega)]; exact this, by rw [k _ (by omega) (by omega)]; exact J.bs, by rw [k _ (by omega) (by omega)]; exact J.sr, mem, by rw [k _ (by omega) (by omega)]; exact J.fn, qv, by rw [k _ (by omega) (by omega)]; exact o1,
    o2.keep (fun b e => k b (o2.lt e).2 (by have := (o2.lt e).1; omega))⟩
theorem PL.app (J : PL N n E goal H st P h) (x : SHeap) : PL N n E goal H st P (h ++ x) := by
  have jl := J.len
  obtain ⟨S, m1, m2⟩ := J.mem
  exact J.chg (by simp) (fun j hj _ => List.getElem?_append_left hj) ⟨S, by rw [List.getElem?_append_left (by omega)]; exact m1, m2⟩
theorem PL.setO (J : PL N n E goal H st P h) {j : Nat} (hj : N + 6 ≤ j) (hc : ∀ cs el pf own old, h[j]? ≠ some (.cells cs el pf own old)) (o : SO) : PL N n E goal H st P (h.set j o) := by
  have jl := J.len
  obtain ⟨S, m1, m2⟩ := J.mem
  obtain ⟨qv, o1, o2⟩ := J.out
  have k : ∀ i, i ≠ j → (h.set j o)[i]? = h[i]? := fun i hi => List.getElem?_set_ne (by omega)
  exact ⟨by simp; omega, fun i hi => by rw [k i (by omega)]; exact J.low i hi, by have := J.gr; unfold GAt at *; rw [k _ (by omega)]; exact this, by rw [k _ (by omega)]; exact J.bs, by rw [k _ (by omega)]; exact J.sr, ⟨S, by rw [k _ (by omega)]; exact m1, m2⟩, by rw [k _ (by omega)]; exact J.fn, qv, by rw [k _ (by omega)]; exact o1,
    o2.keep (fun b e => k b (fun e2 => by
      subst e2
      rcases o2 with ⟨_, e3, _⟩ | ⟨b', old, e3, h1, _⟩
      · rw [e3] at e; simp at e
      · rw [e3] at e
        simp at e
        rw [e] at h1
        exact hc _ _ _ _ _ h1))⟩
theorem JP.app (J : JP N n E goal H L0 ms st0 st P lo h) (x : SHeap) : JP N n E goal H L0 ms st0 st P lo (h ++ x) := by
  have jl := J.len
  have k : ∀ j, j < h.length → (h ++ x)[j]? = h[j]? := fun j hj => List.getElem?_append_left hj
  have lt := J.cap.lt
  exact ⟨J.pl.app x, by simp; omega, J.cap.same (fun j hj => k j (by omega)), by rw [k _ (by omega)]; exact J.df, fun y hy => by rw [k y (List.getElem?_eq_some_iff.1 (J.dk y hy)).1]; exact J.dk y hy, by rw [k _ (by omega)]; exact J.lp⟩
theorem JP.setLp {a1 : Nat} {a2 : FuncId} {a3 : T} {a4 : List Nat} {a5 a6 : SCode} {a7 : Option SCode} {a8 : Nat} (J : JP N n E goal H L0 ms st0 st P (.loop a1 a2 a3 a4 a5 a6 a7 a8) h) (hL : N + 6 ≤ L0) (o : SO) : JP N n E goal H L0 ms st0 st P o (h.set (L0 + 3) o) := by
  have jl := J.len
  have k : ∀ i, i ≠ L0 + 3 → (h.set (L0 + 3) o)[i]? = h[i]? := fun i hi => List.getElem?_set_ne (by omega)
  have lp := J.lp
  exact ⟨J.pl.setO (by omega) (fun cs el pf own old e => by rw [lp] at e; cases e) o, by simp; omega, J.cap.same (fun j hj => k j (by omega)), by rw [k _ (by omega)]; exact J.df, fun y hy => by
    rw [k y (fun e => by have := J.dk y hy; rw [e, lp] at this; cases this)]; exact J.dk y hy, by rw [List.getElem?_set_self (by omega)]⟩
theorem JP.fin (J : JP N n E goal H L0 ms st st P lo h) (hL : N + 6 ≤ L0) (hms : ∀ x ∈ ms, x < L0) (hq : ∀ qv, h[N + 5]? = some (.cells [qv] 22 false 0 []) → ∀ b, qv = .slice (some ⟨b, 0, none⟩) P.length (UNK + 2) → b < L0 + 4) : JP N n E goal H L0 ms st st P lo (h.take (L0 + 4)) := by
  have jl := J.len
  have k : ∀ j, j < L0 + 4 → (h.take (L0 + 4))[j]? = h[j]? := fun j hj => by rw [List.getElem?_take, if_pos hj]
  obtain ⟨S, m1, m2⟩ := J.pl.mem
  obtain ⟨qv, o1, o2⟩ := J.pl.out
  have lt := J.cap.lt
  refine ⟨⟨by rw [List.length_take]; omega, fun i hi => by rw [k i (by omega)]; exact J.pl.low i hi, by have := J.pl.gr; unfold GAt at *; rw [k _ (by omega)]; exact this, by rw [k _ (by omega)]; exact J.pl.bs, by rw [k _ (by omega)]; exact J.pl.sr, ⟨S, by rw [k _ (by omega)]; exact m1, m2⟩, by rw [k _ (by omega)]; exact J.pl.fn, qv, by rw [k _ (by omega)]; exact o1,
    o2.keep (fun b e => k b (hq qv o1 b e))⟩, by rw [List.length_take]; omega, J.cap.same (fun j hj => k j (by omega)), by rw [k _ (by omega)]; exact J.df, fun y hy => by rw [k y (by have := hms y hy; omega)]; exact J.dk y hy, by rw [k _ (by omega)]; exact J.lp⟩
end
end Go.Proofs.YtpkhkghiidilcaaDoor.Sh

namespace Go.Proofs.YtpkhkghiidilcaaDoor.Sh
open Go
set_option maxRecDepth 100000
set_option maxHeartbeats 4000000
section
variable {n : Nat} {E : List (Int × Int)} {goal : Nat} {st : Nat → Int}
end
structure PI (N n : Nat) (E : List (Int × Int)) (goal : Nat) (H : SHeap) (s0 st : Nat → Int) (P : List (Nat × Nat)) (ms : List Nat) (h : SHeap) : Prop where
  pl : PL N n E goal H st P h
  mk1 : ∀ x ∈ ms, h[x]? = some SO.deferred
  mk2 : ms.Nodup
  mk3 : ∀ x ∈ ms, N + 6 ≤ x
  run : doM n E s0 (castE P) = (st, P.length)
  pos : 0 < mx n E goal st
  st0 : ST n st 40
  sum : tot st + P.length ≤ 40
section
variable {N n : Nat} {E : List (Int × Int)} {goal : Nat} {H : SHeap} {s0 : Nat → Int}
section
variable {v sv : Value} {l : List Int}
end
end
end Go.Proofs.YtpkhkghiidilcaaDoor.Sh

namespace Go.Proofs.YtpkhkghiidilcaaDoor.Sh
open Go
set_option maxRecDepth 100000
set_option maxHeartbeats 4000000
section
variable {n : Nat} {E : List (Int × Int)} {g : Nat} {s t x : Nat → Int}
theorem Rg.shift (hE : EOK n E) (h : Rg n E g s t) {δ : Nat → Int} (hδ : ∀ v, 0 ≤ δ v) : Rg n E g (fun v => s v + δ v) (fun v => t v + δ v) := by
  induction h with
  | refl s => exact .refl _
  | @step s t a b ha hb hadj h2 hg _ ih =>
    have hne := (hE.adj hadj).2.2
    refine .step a b ha hb hadj (by have := hδ a; show 2 ≤ s a + δ a; omega) hg ?_
    have e : aft (fun v => s v + δ v) a b = fun v => aft s a b v + δ v := by
      funext v
      rw [aft_v hne, aft_v hne]; omega
    rw [e]; exact ih
structure Un (n : Nat) (E : List (Int × Int)) (g : Nat) (s : Nat → Int) : Prop where
  st : ST n s 1000
  mx0 : mx n E g s ≤ 0
theorem lst6_sum (s : Nat → Int) : (lst 6 s).sum = tot s := by
  show List.sum [s 0, s 1, s 2, s 3, s 4, s 5] = _
  simp [tot]; omega
theorem mem6 {B : Int} (hn : n ≤ 6) (S : ST n s B) (hB : B ≤ 1000) : ∀ x ∈ lst 6 s, 0 ≤ x ∧ x ≤ 1000 := fun x hx => by
  unfold lst at hx
  obtain ⟨v, _, rfl⟩ := List.mem_map.1 hx
  have := S.bnd hn v
  omega
end
abbrev wB (N : Nat) : SO := .cells [.func (.func 76) #[] #[.pointer (some ⟨N, 0, none⟩), .pointer (some ⟨N + 8, 0, none⟩), .pointer (some ⟨N + 7, 0, none⟩), .pointer (some ⟨N + 6, 0, none⟩), .pointer (some ⟨N + 1, 0, none⟩), .pointer (some ⟨N + 9, 0, none⟩), .pointer (some ⟨N + 5, 0, none⟩)]] 122 false 0 []
structure GW (N gr n : Nat) (E : List (Int × Int)) (goal : Nat) (w b : Nat → Int) (h : SHeap) : Prop where
  c0 : h[N]? = some (.cells [.pointer (some ⟨gr, 0, none⟩)] 85 false 0 [])
  c1 : h[N + 1]? = some (.cells [.int .i64 goal] 3 true 0 [])
  sr : h[N + 3]? = some (sB gr goal (N + 4))
  mem : ∃ S, h[N + 4]? = some (mB S) ∧ KnM n E goal S
  fn : h[N + 5]? = some (fB (N + 3))
  bst : h[N + 6]? = some (.cells (iV 6 b) 87 true 0 [])
  now : h[N + 7]? = some (.cells (iV 6 w) 87 true 0 [])
  mn : h[N + 8]? = some (.cells [.func (.func 75) #[] #[]] 92 false 0 [])
  gw : h[N + 9]? = some (wB N)
  ga : GAt h gr n E
section
variable {N gr n : Nat} {E : List (Int × Int)} {goal : Nat} {w w' b b' : Nat → Int} {h h' : SHeap}
theorem GW.chg (J : GW N gr n E goal w b h) (hg : gr < N) (k : ∀ j, j ≠ N + 4 → j ≠ N + 6 → j ≠ N + 7 → h'[j]? = h[j]?) (mem : ∃ S, h'[N + 4]? = some (mB S) ∧ KnM n E goal S) (bst : h'[N + 6]? = some (.cells (iV 6 b') 87 true 0 [])) (now : h'[N + 7]? = some (.cells (iV 6 w') 87 true 0 [])) : GW N gr n E goal w' b' h' :=
  ⟨by rw [k _ (by omega) (by omega) (by omega)]; exact J.c0, by rw [k _ (by omega) (by omega) (by omega)]; exact J.c1, by rw [k _ (by omega) (by omega) (by omega)]; exact J.sr, mem, by rw [k _ (by omega) (by omega) (by omega)]; exact J.fn, bst, now, by rw [k _ (by omega) (by omega) (by omega)]; exact J.mn, by rw [k _ (by omega) (by omega) (by omega)]; exact J.gw, by have := J.ga; unfold GAt at *; rw [k _ (by omega) (by omega) (by omega)]; exact this⟩
theorem GW.len (J : GW N gr n E goal w b h) : N + 9 < h.length := (List.getElem?_eq_some_iff.1 J.gw).1
theorem ld1 {b : Nat} {c : Value} {el : TypeId} {pf : Bool} (k : h[b]? = some (.cells [c] el pf 0 [])) : loadS h none (.pointer (some ⟨b, 0, none⟩)) = some c := by
  have := load_cell (o := 0) k rfl rfl []; rw [List.append_nil] at this; exact this
end
end Go.Proofs.YtpkhkghiidilcaaDoor.Sh

namespace Go.Proofs.YtpkhkghiidilcaaDoor.Sh
open Go
set_option maxRecDepth 100000
set_option maxHeartbeats 4000000
def IsNum (n : Nat) (E : List (Int × Int)) (goal : Nat) (k : Int) : Prop := (∃ p, Un n E goal p ∧ tot p + 1 = k) ∧ ∀ x, Un n E goal x → tot x + 1 ≤ k
section
variable {n : Nat} {E : List (Int × Int)} {goal : Nat} {H : SHeap} {v sv wv : Value} {l : List Int} {w : List (Int × Int)}
theorem IsNum.uniq {k k' : Int} (h : IsNum n E goal k) (h' : IsNum n E goal k') : k = k' := by
  obtain ⟨⟨p, h1, h2⟩, h3⟩ := h
  obtain ⟨⟨q, h4, h5⟩, h6⟩ := h'
  have := h3 q h4
  have := h6 p h1
  omega
end
end Go.Proofs.YtpkhkghiidilcaaDoor.Sh

namespace Go.Proofs.YtpkhkghiidilcaaDoor.Sh
open Go
set_option maxRecDepth 100000
set_option maxHeartbeats 4000000
theorem IS.lst6 {h : SHeap} {b n c : Nat} {s : Nat → Int} {el : TypeId} {pf : Bool} {own : Nat} {old : List Nat} (hn : n ≤ 6) (hb : h[b]? = some (.cells (iV 6 s) el pf own old)) (hr : readable own = true) : IS h (.slice (some ⟨b, 0, none⟩) n c) (lst n s) := by
  have ll := lst_len n s
  refine ⟨some ⟨b, 0, none⟩, c, by rw [ll], fun _ => ⟨b, 0, rfl, (List.getElem?_eq_some_iff.1 hb).1, fun i hi => ?_⟩⟩
  have hi' : i < n := by omega
  have := load_cell (h := h) (b := b) (o := 0 + i) (c := .int .i64 (s i)) hb hr (by rw [Nat.zero_add]; exact iV_get _ (by omega)) []
  rw [List.append_nil] at this
  rw [this]
  congr 2
  rw [← stk_at hi, lst_at _ hi']
theorem index_loop (cx : Cx) {h : SHeap} {v : Value} {x : Int} {l : List Int} (hv : IS h v l) (hlen : l.length ≤ 1000000) :
    ∀ k ρ ms h' d', (∃ i : Nat, i + k = l.length ∧ (∀ j (hj : j < l.length), j < i → l[j] ≠ x) ∧ ρ 0 = v ∧ ρ 1 = .int .i64 x ∧ ρ 7 = .int .i64 l.length ∧ ρ 8 = .int .i64 i ∧ ms = [] ∧ h' = h ∧ d' = []) →
    LoopW M cx 5 sf85L0 ρ ms h' d' (fun ex ρ' ms' h' d' => ms' = [] ∧ h' = h ∧ d' = [] ∧ ((ex = .exit 0 ∧ x ∉ l) ∨ (ex = .ret ∧ x ∈ l ∧ ∃ i : Nat, ρ' 4 = .int .i64 i))) := by
  refine loop_run _ ?_
  rintro k ρ ms h' d' ⟨i, hk, hno, r0, r1, r7, r8, rfl, rfl, rfl⟩
  unfold sf85L0
  by_cases c : k = 0
  · have e1 : ¬ ((i : Int) < l.length) := by omega
    repeat (first | apply Z1 | apply Z2 | apply Z3 | apply Z4 | apply Z5 rfl | apply Z6 | apply Z7 | apply Z8 | apply Z9 | apply ZA | apply ZB | apply ZC | ((first | apply ZD (by decide) | apply ZN (by decide)); (simp (maxSteps := 9999999) only [go_sem, r7, r8, e1]; rfl)) | (refine ZE ?_ ?_; · simp only [go_sem]) | (refine ZF ?_ ?_; · simp only [go_sem]))
    refine end_nil ⟨rfl, rfl, rfl, .inl ⟨rfl, fun hm => ?_⟩⟩
    obtain ⟨j, hj, e⟩ := List.getElem_of_mem hm
    exact hno j hj (by omega) e
  · have e1 : ((i : Int) < l.length) := by omega
    have e2 : (0 : Int) ≤ i := by omega
    have hi : i < l.length := by omega
    have ew : IntKind.i64.wrap ((i : Int) + 1) = ((i + 1 : Nat) : Int) := by rw [wrap64 (by omega) (by omega)]; rfl
    obtain ⟨b1, o1, cp1, rfl, ld1⟩ := hv.ld (by intro e; rw [e] at hi; simp at hi)
    have l1 := ld1 i hi
    by_cases c2 : x = l[i]
    · have c2' : (x = l[i]) = True := eq_true c2
      repeat (first | apply Z1 | apply Z2 | apply Z3 | apply Z4 | apply Z5 rfl | apply Z6 | apply Z7 | apply Z8 | apply Z9 | apply ZA | apply ZB | apply ZC | ((first | apply ZD (by decide) | apply ZN (by decide)); (simp (maxSteps := 9999999) only [go_sem, r0, r1, r7, r8, e1, e2, l1, c2', Int.toNat_natCast]; rfl)) | (refine ZE ?_ ?_; · simp only [go_sem]) | (refine ZF ?_ ?_; · simp only [go_sem]))
      exact end_nil ⟨rfl, rfl, rfl, .inr ⟨rfl, by rw [c2]; exact List.getElem_mem hi, i, by simp only [go_sem]⟩⟩
    · have c2' : (x = l[i]) = False := eq_false c2
      repeat (first | apply Z1 | apply Z2 | apply Z3 | apply Z4 | apply Z5 rfl | apply Z6 | apply Z7 | apply Z8 | apply Z9 | apply ZA | apply ZB | apply ZC | ((first | apply ZD (by decide) | apply ZN (by decide)); (simp (maxSteps := 9999999) only [go_sem, r0, r1, r7, r8, e1, e2, l1, c2', ew, Int.toNat_natCast]; rfl)) | (refine ZE ?_ ?_; · simp only [go_sem]) | (refine ZF ?_ ?_; · simp only [go_sem]))
      refine end_nil ⟨k - 1, by omega, i + 1, by omega, fun j hj hji => ?_, by simp only [go_sem, r0], by simp only [go_sem, r1], by simp only [go_sem, r7], by simp only [go_sem, ew], rfl, rfl, rfl⟩
      by_cases e : j = i
      · subst e; exact fun h => c2 h.symm
      · exact hno j hj (by omega)
theorem contains80 {h : SHeap} {v : Value} {x : Int} {l : List Int} (hv : IS h v l) (hlen : l.length ≤ 1000000) : M.call 80 [v, .int .i64 x] h = some (.bool (decide (x ∈ l)), h, []) := by
  have idx : ∃ r : Int, (0 ≤ r ↔ x ∈ l) ∧ M.call 85 [v, .int .i64 x] h = some (.int .i64 r, h, []) := by
    suffices key : ∃ r, (∃ z : Int, r = (Value.int .i64 z, h, ([] : List Nat)) ∧ (0 ≤ z ↔ x ∈ l)) ∧ M.call 85 [v, .int .i64 x] h = some r by
      obtain ⟨r, ⟨z, rfl, h1⟩, h2⟩ := key
      exact ⟨z, h1, h2⟩
    refine call_ex (f := 85) _ sf85 rfl rfl rfl ?_
    obtain ⟨va, vc, rfl, _⟩ := id hv
    unfold sf85
    repeat (first | apply Z1 | apply Z2 | apply Z3 | apply Z4 | apply Z5 rfl | apply Z6 | apply Z7 | apply Z8 | apply Z9 | apply ZA | apply ZB | apply ZC | ((first | apply ZD (by decide) | apply ZN (by decide)); (simp (maxSteps := 9999999) only [go_sem, argR]; rfl)) | (refine ZE ?_ ?_; · simp only [go_sem]) | (refine ZF ?_ ?_; · simp only [go_sem]))
    refine run_loop (index_loop (x := x) _ hv hlen l.length _ _ _ _ ⟨0, by omega, fun j _ hj => by omega, by simp only [go_sem, argR], by simp only [go_sem, argR], by simp only [go_sem], by simp only [go_sem], rfl, rfl, rfl⟩) ?_
    rintro ex ρ2 ms2 h2 d2 ⟨rfl, rfl, rfl, hx⟩
    rcases hx with ⟨rfl, hx⟩ | ⟨rfl, hx, i, r4⟩
    · repeat (first | apply Z1 | apply Z2 | apply Z3 | apply Z4 | apply Z5 rfl | apply Z6 | apply Z7 | apply Z8 | apply Z9 | apply ZA | apply ZB | apply ZC | ((first | apply ZD (by decide) | apply ZN (by decide)); (simp (maxSteps := 9999999) only [go_sem]; rfl)) | (refine ZE ?_ ?_; · simp only [go_sem]) | (refine ZF ?_ ?_; · simp only [go_sem]))
      exact end_nil ⟨_, ⟨-1, rfl, ⟨fun h => by omega, fun h => (hx h).elim⟩⟩, q_ret1 _ (by simp only [go_sem]) rfl (take_self _)⟩
    · repeat (first | apply Z1 | apply Z2 | apply Z3 | apply Z4 | apply Z5 rfl | apply Z6 | apply Z7 | apply Z8 | apply Z9 | apply ZA | apply ZB | apply ZC | ((first | apply ZD (by decide) | apply ZN (by decide)); (simp (maxSteps := 9999999) only [go_sem]; rfl)) | (refine ZE ?_ ?_; · simp only [go_sem]) | (refine ZF ?_ ?_; · simp only [go_sem]))
      exact end_nil ⟨_, ⟨i, rfl, ⟨fun _ => hx, fun _ => by omega⟩⟩, q_ret1 _ (by simp only [go_sem, r4]) rfl (take_self _)⟩
  obtain ⟨r, h1, h2⟩ := idx
  refine call_run sf80 rfl rfl rfl ?_
  unfold sf80
  by_cases c : 0 ≤ r
  · have c' : r ≥ 0 := c
    repeat (first | apply Z1 | apply Z2 | apply Z3 | apply Z4 | apply Z5 rfl | apply Z6 | apply Z7 | apply Z8 | apply Z9 | apply ZA | apply ZB | apply ZC | ((first | apply ZD (by decide) | apply ZN (by decide)); (simp (maxSteps := 9999999) only [go_sem, argR, h2, c']; rfl)) | (refine ZE ?_ ?_; · simp only [go_sem]) | (refine ZF ?_ ?_; · simp only [go_sem]))
    rw [decide_eq_true (h1.1 c)]
    exact end_nil (q_ret1 _ (by simp only [go_sem]) rfl (take_self _))
  · have c' : ¬ r ≥ 0 := c
    repeat (first | apply Z1 | apply Z2 | apply Z3 | apply Z4 | apply Z5 rfl | apply Z6 | apply Z7 | apply Z8 | apply Z9 | apply ZA | apply ZB | apply ZC | ((first | apply ZD (by decide) | apply ZN (by decide)); (simp (maxSteps := 9999999) only [go_sem, argR, h2, c']; rfl)) | (refine ZE ?_ ?_; · simp only [go_sem]) | (refine ZF ?_ ?_; · simp only [go_sem]))
    rw [decide_eq_false (fun h => c (h1.2 h))]
    exact end_nil (q_ret1 _ (by simp only [go_sem]) rfl (take_self _))
theorem full_iff {n : Nat} {s : Nat → Int} (hs : ∀ v, 0 ≤ s v) : full n s ↔ (0 : Int) ∉ lst n s := by
  unfold lst
  constructor
  · intro h hm
    obtain ⟨v, hv, e⟩ := List.mem_map.1 hm
    have := h v (List.mem_range.1 hv)
    omega
  · intro h v hv
    have := hs v
    have : s v ≠ 0 := fun e => h (List.mem_map.2 ⟨v, List.mem_range.2 hv, e⟩)
    omega
def rfA67_0 : SCode := (.region 0 [ ⟨(some 8), none, .alloc 87 true [(.int .i64 0), (.int .i64 0), (.int .i64 0), (.int .i64 0), (.int .i64 0), (.int .i64 0)], none, 0, false, []⟩, ⟨none, none, .store 6 (.tmp 8) (.tmp 34), none, 1, false, []⟩])
def rfB67_0 : SCode := (.block 1 (.seq (.region 0 [ ⟨(some 35), none, .load none (.tmp 3), none, 0, false, []⟩, ⟨(some 36), none, .load (some 6) (.tmp 8), none, 1, false, []⟩, ⟨(some 37), none, .load none (.tmp 5), none, 2, false, []⟩, ⟨(some 38), none, .call (.func 67) [(.tmp 35), (.tmp 36), (.tmp 37)], none, 3, false, []⟩]) (.cond (.tmp 38) (.seq (.region 0 [ ⟨none, none, .store 1 (.tmp 6) (.const (.bool true)), none, 0, false, []⟩]) (.ret)) (.skip))))
def KC (n : Nat) (E : List (Int × Int)) (A : List (Nat → Int)) (S : List ((Nat → Int) × Value)) : Prop := ∀ e ∈ S, (∃ B, ST n e.1 B) ∧ e.2 = .bool true ∧ (¬ Cov n E e.1 ∨ e.1 ∈ A)
theorem KC.z {n : Nat} {E : List (Int × Int)} {A : List (Nat → Int)} {S : List ((Nat → Int) × Value)} (hn : n ≤ 6) (k : KC n E A S) : ∀ e ∈ S, zout e.1 := fun e he => by
  obtain ⟨⟨B, h⟩, _⟩ := k e he
  exact h.zout hn
structure JV (N mb gr n : Nat) (E : List (Int × Int)) (s : Nat → Int) (H : SHeap) (QS : List ((Nat → Int) × Value) → Prop) (r : Bool) (lo : SO) (h : SHeap) : Prop where
  len : N + 8 ≤ h.length
  low : ∀ j, j < N → j ≠ mb → h[j]? = H[j]?
  mem : ∃ S, h[mb]? = some (.map true (ents S)) ∧ QS S
  bx : h[N]? = some (.cells [.pointer (some ⟨gr, 0, none⟩)] 85 false 0 [])
  bs : h[N + 1]? = some (.cells (iV 6 s) 87 true 0 [])
  bm : h[N + 2]? = some (.cells [.map (some mb)] 113 false 0 [])
  res : h[N + 3]? = some (.cells [.bool r] 4 true 0 [])
  cap : Caps h (N + 4) (N + 5) gr n E s
  df : h[N + 6]? = some .deferred
  lp : h[N + 7]? = some lo
section
variable {N mb gr n : Nat} {E : List (Int × Int)} {s : Nat → Int} {H : SHeap} {QS QS' : List ((Nat → Int) × Value) → Prop} {r r' : Bool} {lo lo' : SO} {h h' : SHeap}
theorem JV.chg (J : JV N mb gr n E s H QS r lo h) (hm : mb < N) (hg : gr < N) (hgm : gr ≠ mb) (hl : N + 8 ≤ h'.length) (k : ∀ j, j < N + 8 → j ≠ mb → j ≠ N + 3 → j ≠ N + 7 → h'[j]? = h[j]?)
    (mem : ∃ S, h'[mb]? = some (.map true (ents S)) ∧ QS' S) (res : h'[N + 3]? = some (.cells [.bool r'] 4 true 0 [])) (lp : h'[N + 7]? = some lo') : JV N mb gr n E s H QS' r' lo' h' :=
  ⟨hl, fun j hj hne => by rw [k j (by omega) hne (by omega) (by omega)]; exact J.low j hj hne, mem, by rw [k _ (by omega) (by omega) (by omega) (by omega)]; exact J.bx, by rw [k _ (by omega) (by omega) (by omega) (by omega)]; exact J.bs, by rw [k _ (by omega) (by omega) (by omega) (by omega)]; exact J.bm, res,
    J.cap.same (fun j hj => k j (by omega) (by omega) (by omega) (by omega)), by rw [k _ (by omega) (by omega) (by omega) (by omega)]; exact J.df, lp⟩
theorem JV.same (J : JV N mb gr n E s H QS r lo h) (hm : mb < N) (hg : gr < N) (hl : N + 8 ≤ h'.length) (k : ∀ j, j < N + 8 → h'[j]? = h[j]?) : JV N mb gr n E s H QS r lo h' := by
  obtain ⟨S, m1, m2⟩ := J.mem
  exact ⟨hl, fun j hj hne => by rw [k j (by omega)]; exact J.low j hj hne, ⟨S, by rw [k _ (by omega)]; exact m1, m2⟩, by rw [k _ (by omega)]; exact J.bx, by rw [k _ (by omega)]; exact J.bs, by rw [k _ (by omega)]; exact J.bm, by rw [k _ (by omega)]; exact J.res, J.cap.same (fun j hj => k j (by omega)), by rw [k _ (by omega)]; exact J.df, by rw [k _ (by omega)]; exact J.lp⟩
theorem JV.app (J : JV N mb gr n E s H QS r lo h) (hm : mb < N) (hg : gr < N) (x : SHeap) : JV N mb gr n E s H QS r lo (h ++ x) :=
  J.same hm hg (by have := J.len; simp; omega) (fun j hj => List.getElem?_append_left (by have := J.len; omega))
theorem JV.setLp (J : JV N mb gr n E s H QS r lo h) (hm : mb < N) (hg : gr < N) (hgm : gr ≠ mb) (lo' : SO) : JV N mb gr n E s H QS r lo' (h.set (N + 7) lo') := by
  obtain ⟨S, m1, m2⟩ := J.mem
  have hl := J.len
  exact J.chg hm hg hgm (by simp; omega) (fun j hj h1 h2 h3 => by rw [List.getElem?_set_ne (by omega)]) ⟨S, by rw [List.getElem?_set_ne (by omega)]; exact m1, m2⟩ (by rw [List.getElem?_set_ne (by omega)]; exact J.res) (by rw [List.getElem?_set_self (by omega)])
def CovR (gr mb n : Nat) (E : List (Int × Int)) (A : List (Nat → Int)) (s : Nat → Int) (H : SHeap) : Prop :=
  ∃ (b : Bool) (H' : SHeap), M.call 67 [.pointer (some ⟨gr, 0, none⟩), stV s, .map (some mb)] H = some (.bool b, H', []) ∧ (b = true ↔ Cov n E s) ∧ But mb H H' ∧ ∃ S, H'[mb]? = some (.map true (ents S)) ∧ (b = false → KC n E A S)
theorem cover_round {t : T} {A : List (Nat → Int)} (hn : n ≤ 6) (hE : EOK n E) (hm : mb < N) (hg : gr < N) (hgm : gr ≠ mb) {B : Int} (S0 : ST n s B) (hf : Full 6 t) (t3 : t.get 3 = .pointer (some ⟨N, 0, none⟩)) (t5 : t.get 5 = .pointer (some ⟨N + 2, 0, none⟩)) (t6 : t.get 6 = .pointer (some ⟨N + 3, 0, none⟩))
    {hh : SHeap} {a b : Nat} (hc : canM n E s a b)
    (ih : ∀ G : SHeap, gr < G.length → mb < G.length → GAt G gr n E → (∃ S, G[mb]? = some (.map true (ents S)) ∧ KC n E A S) → CovR gr mb n E A (aft s a b) G)
    (J : JV N mb gr n E s H (KC n E A) false (.loop 0 67 t [33, 34] rfA67_0 rfB67_0 none (N + 6)) hh) :
    ∃ r h2, M.round (N + 8) (N + 7) [.agg #[.int .i64 a, .int .i64 b], stV (aft s a b)] hh = some (.bool r, h2, []) ∧
      (r = true → ¬ Cov n E (aft s a b) ∧ JV N mb gr n E s H (KC n E A) false (.loop 0 67 t [33, 34] rfA67_0 rfB67_0 none (N + 6)) h2) ∧
      (r = false → Cov n E (aft s a b) ∧ JV N mb gr n E s H (fun _ => True) true (.loop 2 67 t [33, 34] rfA67_0 rfB67_0 (some .ret) (N + 6)) h2) := by
  have jl := J.len
  obtain ⟨r, ⟨r1, h2, rfl, hP⟩, e⟩ := round_rule (FT := FT) (C := flatK CA) (base := N + 8) (args := [.agg #[.int .i64 a, .int .i64 b], stV (aft s a b)]) (fun r => ∃ r1 h2, r = (.bool r1, h2, []) ∧ (r1 = true → ¬ Cov n E (aft s a b) ∧ JV N mb gr n E s H (KC n E A) false (.loop 0 67 t [33, 34] rfA67_0 rfB67_0 none (N + 6)) h2) ∧
      (r1 = false → Cov n E (aft s a b) ∧ JV N mb gr n E s H (fun _ => True) true (.loop 2 67 t [33, 34] rfA67_0 rfB67_0 (some .ret) (N + 6)) h2)) J.lp hf rfl (by decide) rfl (by
    unfold rfA67_0
    generalize hw : aft s a b = w at *
    have ws := wst w
    repeat (first | apply Z1 | apply Z2 | apply Z3 | apply Z4 | apply Z5 rfl | apply Z6 | apply Z7 | apply Z8 | apply Z9 | apply ZA | apply ZB | apply ZC | ((first | apply ZD (by decide) | apply ZN (by decide)); (simp (maxSteps := 9999999) only [go_sem, ws]; rfl)) | (refine ZE ?_ ?_; · simp only [go_sem]) | (refine ZF ?_ ?_; · simp only [go_sem]))
    have J1 := J.app hm hg [.cells (iV 6 w) 87 true 0 []]
    refine end_nil ⟨rfl, ⟨67, t, [33, 34], _, _, N + 6, J1.lp⟩, ?_⟩
    rw [setLoop_eq J1.lp]
    have J2 := J1.setLp hm hg hgm (.loop 1 67 t [33, 34] rfA67_0 rfB67_0 none (N + 6))
    have g9 : ((hh ++ [.cells (iV 6 w) 87 true 0 []] : SHeap).set (N + 7) (.loop 1 67 t [33, 34] rfA67_0 rfB67_0 none (N + 6)))[hh.length]? = some (.cells (iV 6 w) 87 true 0 []) := by
      rw [List.getElem?_set_ne (by omega), app_get0]; rfl
    generalize (hh ++ [.cells (iV 6 w) 87 true 0 []] : SHeap).set (N + 7) (.loop 1 67 t [33, 34] rfA67_0 rfB67_0 none (N + 6)) = G at *
    have jl2 := J2.len
    have lx : loadS G none (.pointer (some ⟨N, 0, none⟩)) = some (.pointer (some ⟨gr, 0, none⟩)) := by
      have := load_cell (o := 0) J2.bx rfl rfl []; rw [List.append_nil] at this; exact this
    have lm : loadS G none (.pointer (some ⟨N + 2, 0, none⟩)) = some (.map (some mb)) := by
      have := load_cell (o := 0) J2.bm rfl rfl []; rw [List.append_nil] at this; exact this
    have lw : loadS G (some 6) (.pointer (some ⟨hh.length, 0, none⟩)) = some (stV w) := by
      have := load_all (n := 6) g9 rfl (iV_len _ _) []; rw [List.append_nil] at this; exact this
    obtain ⟨bb, H', k1, k0, ⟨k2, k3⟩, S, k4, k5⟩ := ih G (by omega) (by omega) J2.cap.gr J2.mem
    have J3 : JV N mb gr n E s H (fun S => bb = false → KC n E A S) false (.loop 1 67 t [33, 34] rfA67_0 rfB67_0 none (N + 6)) H' := J2.chg hm hg hgm (by omega) (fun j hj h1 h2 h3 => k3 j h1) ⟨S, k4, k5⟩ (by rw [k3 _ (by omega)]; exact J2.res) (by rw [k3 _ (by omega)]; exact J2.lp)
    unfold rfB67_0
    cases bb with
    | true =>
      have st : storeS (N + 8) H' [] (N + 3) 0 (cellsL (.bool true)) = some (H'.set (N + 3) (.cells [.bool true] 4 true 0 []), []) := by
        have := store_cell (h := H') (base := N + 8) (b := N + 3) (o := 0) (c := .bool true) J3.res (by simp) rfl (fun _ => rfl) []
        rw [cells_bool, this]; rfl
      repeat (first | apply Z1 | apply Z2 | apply Z3 | apply Z4 | apply Z5 rfl | apply Z6 | apply Z7 | apply Z8 | apply Z9 | apply ZA | apply ZB | apply ZC | ((first | apply ZD (by decide) | apply ZN (by decide)); (simp (maxSteps := 9999999) only [go_sem, t3, t5, t6, lx, lm, lw, k1, ↓st]; rfl)) | (refine ZE ?_ ?_; · simp only [go_sem]) | (refine ZF ?_ ?_; · simp only [go_sem]))
      have J4 : JV N mb gr n E s H (fun _ => True) true (.loop 1 67 t [33, 34] rfA67_0 rfB67_0 none (N + 6)) (H'.set (N + 3) (.cells [.bool true] 4 true 0 [])) := J3.chg hm hg hgm (by simp; omega) (fun j hj h1 h2 h3 => List.getElem?_set_ne (by omega)) ⟨S, by rw [List.getElem?_set_ne (by omega)]; exact k4, trivial⟩ (by rw [List.getElem?_set_self (by omega)]) (by rw [List.getElem?_set_ne (by omega)]; exact J3.lp)
      refine end_nil ⟨⟨_, _, _, _, _, _, _, _, J4.lp⟩, _, _, rfl, fun h => (by cases h), fun _ => ⟨k0.1 rfl, ?_⟩⟩
      show JV _ _ _ _ _ _ _ _ _ _ (setLoop _ (N + 7) 2 (some .ret))
      rw [setLoop_eq J4.lp]
      exact J4.setLp hm hg hgm _
    | false =>
      repeat (first | apply Z1 | apply Z2 | apply Z3 | apply Z4 | apply Z5 rfl | apply Z6 | apply Z7 | apply Z8 | apply Z9 | apply ZA | apply ZB | apply ZC | ((first | apply ZD (by decide) | apply ZN (by decide)); (simp (maxSteps := 9999999) only [go_sem, t3, t5, t6, lx, lm, lw, k1]; rfl)) | (refine ZE ?_ ?_; · simp only [go_sem]) | (refine ZF ?_ ?_; · simp only [go_sem]))
      refine end_nil ⟨⟨_, _, _, _, _, _, _, _, J3.lp⟩, _, _, rfl, fun _ => ⟨(fun h => by have := k0.2 h; cases this), ?_⟩, fun h => (by cases h)⟩
      show JV _ _ _ _ _ _ _ _ _ _ (setLoop _ (N + 7) 0 none)
      rw [setLoop_eq J3.lp]
      have J4 := J3.setLp hm hg hgm (.loop 0 67 t [33, 34] rfA67_0 rfB67_0 none (N + 6))
      exact J4.chg hm hg hgm J4.len (fun _ _ _ _ _ => rfl) (by obtain ⟨S', q1, q2⟩ := J4.mem; exact ⟨S', q1, q2 rfl⟩) J4.res J4.lp)
  exact ⟨r1, h2, e, hP⟩
end
end Go.Proofs.YtpkhkghiidilcaaDoor.Sh

namespace Go.Proofs.YtpkhkghiidilcaaDoor.Sh
open Go
set_option maxRecDepth 100000
set_option maxHeartbeats 4000000
section
variable {gr mb n : Nat} {E : List (Int × Int)}
theorem JV.take {N : Nat} {s : Nat → Int} {H : SHeap} {QS : List ((Nat → Int) × Value) → Prop} {r : Bool} {lo : SO} {h : SHeap} (J : JV N mb gr n E s H QS r lo h) (hm : mb < N) (hg : gr < N) : JV N mb gr n E s H QS r lo (h.take (N + 8)) :=
  J.same hm hg (by have := J.len; rw [List.length_take]; omega) (fun j hj => by rw [List.getElem?_take, if_pos hj])
theorem cover67 (hn1 : 1 ≤ n) (hn : n ≤ 6) (hE : EOK n E) (hgm : gr ≠ mb) :
    ∀ (k : Nat) (A : List (Nat → Int)) (s : Nat → Int) (H : SHeap), tot s < k → ST n s 1000 → (∀ a ∈ A, tot s < tot a) → gr < H.length → mb < H.length → GAt H gr n E → (∃ S, H[mb]? = some (.map true (ents S)) ∧ KC n E A S) → CovR gr mb n E A s H := by
  intro k
  induction k with
  | zero =>
    intro A s H hk S0
    have := tot_lin hn S0
    have := lin_nn (c := fun _ => 1) (fun _ => by decide) S0.nn n
    omega
  | succ k ih =>
    intro A s H hk S0 hA hg hm X hmem
    obtain ⟨S, m1, m2⟩ := hmem
    have hz := S0.zout hn
    have hs := fun v => S0.bnd hn v
    suffices key : ∃ r, (∃ (b : Bool) (H' : SHeap), r = (Value.bool b, H', ([] : List Nat)) ∧ (b = true ↔ Cov n E s) ∧ But mb H H' ∧ ∃ S, H'[mb]? = some (.map true (ents S)) ∧ (b = false → KC n E A S)) ∧ M.call 67 [.pointer (some ⟨gr, 0, none⟩), stV s, .map (some mb)] H = some r by
      obtain ⟨r, ⟨b, H', rfl, k2⟩, k1⟩ := key
      exact ⟨b, H', k1, k2⟩
    refine call_ex (f := 67) _ sf67 rfl rfl rfl ?_
    have cs := cells_st s
    have isc := iV_sc 6 s
    have vs := vsame_st s
    have ln := fun x => (X.app x).n
    have l6 : ∀ x y, loadS (H ++ (x :: .cells (iV 6 s) 87 true 0 [] :: y)) (some 6) (.pointer (some ⟨H.length + 1, 0, none⟩)) = some (stV s) := fun x y => by
      have := load_all (h := H ++ (x :: .cells (iV 6 s) 87 true 0 [] :: y)) (b := H.length + 1) (n := 6) (cs := iV 6 s) (el := 87) (pf := true) (own := 0) (old := []) (by rw [app_get]; rfl) rfl (iV_len _ _) []
      rw [List.append_nil] at this; exact this
    have sl := sliceArr_hi (b := H.length + 1) (o := 0) (n := n) (m := 6) (size := 1) hn (by decide) (by decide)
    have ct := fun y => contains80 (x := 0) (IS.lst6 (h := H ++ (.cells [.pointer (some ⟨gr, 0, none⟩)] 85 false 0 [] :: .cells (iV 6 s) 87 true 0 [] :: y)) (b := H.length + 1) (c := 6) (s := s) (el := 87) (pf := true) (own := 0) (old := []) hn (by rw [app_get]; rfl) rfl) (by rw [lst_len]; omega)
    have sm := fun y => sum60 (IS.lst6 (h := H ++ (.cells [.pointer (some ⟨gr, 0, none⟩)] 85 false 0 [] :: .cells (iV 6 s) 87 true 0 [] :: y)) (b := H.length + 1) (n := 6) (c := 6) (s := s) (el := 87) (pf := true) (own := 0) (old := []) (Nat.le_refl 6) (by rw [app_get]; rfl) rfl) (mem6 hn S0 (by decide)) (by rw [lst_len]; decide)
    rw [lst6_sum] at sm
    unfold sf67
    by_cases c1 : full n s
    · rw [decide_eq_false ((full_iff S0.nn).1 c1)] at ct
      repeat (first | apply Z1 | apply Z2 | apply Z3 | apply Z4 | apply Z5 rfl | apply Z6 | apply Z7 | apply Z8 | apply Z9 | apply ZA | apply ZB | apply ZC | ((first | apply ZD (by decide) | apply ZN (by decide)); (simp (maxSteps := 9999999) only [go_sem, argR, cells_map, one_map, ↓cs, isc, ln, ↓sl, ct]; rfl)) | (refine ZE ?_ ?_; · simp only [go_sem]) | (refine ZF ?_ ?_; · simp only [go_sem]))
      refine end_nil ⟨_, ⟨true, H, rfl, ⟨fun _ => Cov.iff.2 (.inl c1), fun _ => rfl⟩, ⟨rfl, fun j _ => rfl⟩, S, m1, (fun h => by cases h)⟩, q_free [.bool true] (by simp only [go_sem]) rfl rfl rfl (fun _ => rfl) (by simp) rfl⟩
    · have c1' : (0 : Int) ∈ lst n s := Decidable.byContradiction fun h => c1 ((full_iff S0.nn).2 h)
      rw [decide_eq_true c1'] at ct
      rcases find6 hz S (m2.z hn) with ⟨f1, f2⟩ | ⟨v, f1, f2⟩
      · have lk : ∀ x d, lookV (.agg [.int, .int, .int, .int, .int, .int]) (.bool false) false (some (.map (some mb))) (some (stV s)) (H ++ x) d = some (.bool false, H ++ x, d) := fun x d => lookV_ok (q := q6) d (key6 s) (by rw [List.getElem?_append_left (by omega)]; exact m1) f1
        by_cases c2 : tot s < n
        · repeat (first | apply Z1 | apply Z2 | apply Z3 | apply Z4 | apply Z5 rfl | apply Z6 | apply Z7 | apply Z8 | apply Z9 | apply ZA | apply ZB | apply ZC | ((first | apply ZD (by decide) | apply ZN (by decide)); (simp (maxSteps := 9999999) only [go_sem, argR, cells_map, one_map, ↓cs, isc, ln, ↓sl, ct, ↓l6, lk, ↓sliceArr_6, sm, c2, vs]; rfl)) | (refine ZE ?_ ?_; · simp only [go_sem]) | (refine ZF ?_ ?_; · simp only [go_sem]))
          refine end_nil ⟨_, ⟨false, H, rfl, ⟨(fun h => by cases h), fun h => by have := h.tot hE hn S0; omega⟩, ⟨rfl, fun j _ => rfl⟩, S, m1, fun _ => m2⟩, q_free [.bool false] (by simp only [go_sem]) rfl rfl rfl (fun _ => rfl) (by simp) rfl⟩
        · obtain ⟨S3, u1, u2⟩ := upd6 hz (.bool true) S (m2.z hn)
          have up : ∀ cx x d, updV cx (.agg [.int, .int, .int, .int, .int, .int]) (some (.map (some mb))) (some (stV s)) (some (.bool true)) (H ++ x) d = some (udf, H.set mb (.map true (ents S3)) ++ x, d) := fun cx x d => by
            have := updV_ok cx (q := q6) (r := mb) (k := stV s) (v := .bool true) (es := ents S) (es' := ents S3) (h := H ++ x) d (key6 s) (by rw [List.getElem?_append_left hm]; exact m1) (sc6 s _ rfl) u1
            rw [List.set_append_left _ _ hm] at this
            exact this
          repeat (first | apply Z1 | apply Z2 | apply Z3 | apply Z4 | apply Z5 rfl | apply Z6 | apply Z7 | apply Z8 | apply Z9 | apply ZA | apply ZB | apply ZC | ((first | apply ZD (by decide) | apply ZN (by decide)); (simp (maxSteps := 9999999) only [go_sem, argR, cells_map, one_map, ↓cs, isc, ln, ↓sl, ct, ↓l6, lk, ↓sliceArr_6, sm, c2, vs, up]; rfl)) | (refine ZE ?_ ?_; · simp only [go_sem]) | (refine ZF ?_ ?_; · simp only [go_sem]))
          have hl : H.length = (H.set mb (.map true (ents S3))).length := by simp
          have hsame : ∀ j, j ≠ mb → (H.set mb (.map true (ents S3)))[j]? = H[j]? := fun j hj => List.getElem?_set_ne (by omega)
          have hat : (H.set mb (.map true (ents S3)))[mb]? = some (.map true (ents S3)) := by rw [List.getElem?_set_self hm]
          have X2 : GAt (H.set mb (.map true (ents S3))) gr n E := by unfold GAt at *; rw [hsame _ hgm]; exact X
          have hK : KC n E (s :: A) S3 := fun e he => by
            rcases u2 e he with h | rfl
            · obtain ⟨h1, h2, h3⟩ := m2 e h
              exact ⟨h1, h2, h3.imp id (fun h => by simp [h])⟩
            · exact ⟨⟨_, S0⟩, rfl, .inr (by simp)⟩
          have bk : ∀ G : SHeap, But mb (H.set mb (.map true (ents S3))) G → But mb H G := fun G h => ⟨by rw [h.1, ← hl], fun j hj => by rw [h.2 j hj, hsame j hj]⟩
          rw [hl] at hg hm
          rw [hl]
          clear ln l6 sl ct sm lk up
          generalize H.set mb (.map true (ents S3)) = K at *
          have mk := mk62 (h := K ++ [.cells [.pointer (some ⟨gr, 0, none⟩)] 85 false 0 [], .cells (iV 6 s) 87 true 0 [], .cells [.map (some mb)] 113 false 0 [], .cells [.bool false] 4 true 0 []]) (g := gr) (by simp; omega) s
          rw [List.append_assoc, List.length_append] at mk
          have mk' : M.call 62 [.pointer (some ⟨gr, 0, none⟩), stV s] (K ++ [.cells [.pointer (some ⟨gr, 0, none⟩)] 85 false 0 [], .cells (iV 6 s) 87 true 0 [], .cells [.map (some mb)] 113 false 0 [], .cells [.bool false] 4 true 0 []]) = some (.func (.func 77) #[] #[.pointer (some ⟨K.length + 4, 0, none⟩), .pointer (some ⟨K.length + 5, 0, none⟩)], K ++ [.cells [.pointer (some ⟨gr, 0, none⟩)] 85 false 0 [], .cells (iV 6 s) 87 true 0 [], .cells [.map (some mb)] 113 false 0 [], .cells [.bool false] 4 true 0 [], .cells [.pointer (some ⟨gr, 0, none⟩)] 85 false 0 [], .cells (iV 6 s) 87 true 0 []], []) := mk
          have l6 : ∀ x y, loadS (K ++ (x :: .cells (iV 6 s) 87 true 0 [] :: y)) (some 6) (.pointer (some ⟨K.length + 1, 0, none⟩)) = some (stV s) := fun x y => by
            have := load_all (h := K ++ (x :: .cells (iV 6 s) 87 true 0 [] :: y)) (b := K.length + 1) (n := 6) (cs := iV 6 s) (el := 87) (pf := true) (own := 0) (old := []) (by rw [app_get]; rfl) rfl (iV_len _ _) []
            rw [List.append_nil] at this; exact this
          repeat (first | apply Z1 | apply Z2 | apply Z3 | apply Z4 | apply Z5 rfl | apply Z6 | apply Z7 | apply Z8 | apply Z9 | apply ZA | apply ZB | apply ZC | ((first | apply ZD (by decide) | apply ZN (by decide)); (simp (maxSteps := 9999999) only [go_sem, ↓l6, mk']; rfl)) | (refine ZE ?_ ?_; · simp only [go_sem]) | (refine ZF ?_ ?_; · simp only [go_sem]))
          show Run M _ 6 (.rangeFunc (.tmp 32) [33, 34] rfA67_0 rfB67_0) _ _ _ _ _ _
          refine run_rangeX (g := 77) (caps := #[.pointer (some ⟨K.length + 4, 0, none⟩), .pointer (some ⟨K.length + 5, 0, none⟩)]) rfl (by simp only [go_sem]) ?_
          intro t hf ht
          have t3 : t.get 3 = .pointer (some ⟨K.length, 0, none⟩) := by rw [ht]; simp only [go_sem]
          have t5 : t.get 5 = .pointer (some ⟨K.length + 2, 0, none⟩) := by rw [ht]; simp only [go_sem]
          have t6 : t.get 6 = .pointer (some ⟨K.length + 3, 0, none⟩) := by rw [ht]; simp only [go_sem]
          rw [← ht]
          have hlen5 : (K ++ [.cells [.pointer (some ⟨gr, 0, none⟩)] 85 false 0 [], .cells (iV 6 s) 87 true 0 [], .cells [.map (some mb)] 113 false 0 [], .cells [.bool false] 4 true 0 [], .cells [.pointer (some ⟨gr, 0, none⟩)] 85 false 0 [], .cells (iV 6 s) 87 true 0 []] : SHeap).length = K.length + 6 := by simp
          have J0 : JV K.length mb gr n E s K (KC n E (s :: A)) false (.loop 0 67 t [33, 34] rfA67_0 rfB67_0 none (K.length + 6)) (K ++ [.cells [.pointer (some ⟨gr, 0, none⟩)] 85 false 0 [], .cells (iV 6 s) 87 true 0 [], .cells [.map (some mb)] 113 false 0 [], .cells [.bool false] 4 true 0 [], .cells [.pointer (some ⟨gr, 0, none⟩)] 85 false 0 [], .cells (iV 6 s) 87 true 0 []] ++ [.deferred, .loop 0 67 t [33, 34] rfA67_0 rfB67_0 none (K.length + 6)]) := by
            rw [List.append_assoc]
            exact ⟨by simp, fun j hj _ => List.getElem?_append_left hj, ⟨S3, by rw [List.getElem?_append_left (by omega)]; exact hat, hK⟩, by rw [app_get0]; rfl, by rw [app_get]; rfl, by rw [app_get]; rfl, by rw [app_get]; rfl, ⟨by rw [app_get]; rfl, by rw [app_get]; rfl, X2.app _⟩, by rw [app_get]; rfl, by rw [app_get]; rfl⟩
          obtain ⟨hF, dF, eF, q⟩ := iter77 (J := fun l h d => d = [] ∧ JV K.length mb gr n E s K (KC n E (s :: A)) false (.loop 0 67 t [33, 34] rfA67_0 rfB67_0 none (K.length + 6)) h ∧ ∀ p ∈ l, ¬ Cov n E (aft s p.1 p.2))
            (X := fun _ h d => d = [] ∧ Cov n E s ∧ JV K.length mb gr n E s K (fun _ => True) true (.loop 2 67 t [33, 34] rfA67_0 rfB67_0 (some .ret) (K.length + 6)) h) (B := K.length + 8) (L := K.length + 7) (c1 := K.length + 4) (c2 := K.length + 5) (g := gr) (H := K ++ [.cells [.pointer (some ⟨gr, 0, none⟩)] 85 false 0 [], .cells (iV 6 s) 87 true 0 [], .cells [.map (some mb)] 113 false 0 [], .cells [.bool false] 4 true 0 [], .cells [.pointer (some ⟨gr, 0, none⟩)] 85 false 0 [], .cells (iV 6 s) 87 true 0 []] ++ [.deferred, .loop 0 67 t [33, 34] rfA67_0 rfB67_0 none (K.length + 6)]) (by simp) hE hn (fun v _ => by have := hs v; omega) (fun l h d J => J.2.1.cap) (fun l h d x J => ⟨J.1, J.2.1.app hm hg x, J.2.2⟩)
            (fun a b h d ha hb hcm J => by
              obtain ⟨v1, v2, v3, v4⟩ := canM_iff.1 hcm
              have at1 := aft_tot (s := s) (a := a) (b := b) (by omega) (by omega)
              obtain ⟨r, h2, e, q1, q2⟩ := cover_round hn hE hm hg hgm S0 hf t3 t5 t6 hcm (fun G g1 g2 g3 g4 => ih (s :: A) (aft s a b) G (by omega) ((S0.aft hE hn v1 v2 v3 v4).mono (by omega)) (fun x hx => by
                rcases List.mem_cons.1 hx with rfl | hx
                · omega
                · have := hA x hx; omega) g1 g2 g3 g4) J.2.1
              refine ⟨r, h2, [], e, fun hr => ?_, fun hr => ?_⟩
              · obtain ⟨w1, w2⟩ := q1 hr
                refine ⟨J.1, w2, fun p hp => ?_⟩
                rw [MVrow_if, if_pos hcm] at hp
                rcases List.mem_append.1 hp with hp | hp
                · exact J.2.2 p hp
                · rw [List.mem_singleton] at hp; subst hp; exact w1
              · obtain ⟨w1, w2⟩ := q2 hr
                exact ⟨J.1, Cov.iff.2 (.inr ⟨a, b, hcm, w1⟩), w2⟩) ⟨rfl, J0, fun p hp => by cases hp⟩
          rw [hlen5]
          rcases q with ⟨rfl, q, qall⟩ | ⟨_, _, _, _, rfl, hcov, q⟩
          · have JF : JV K.length mb gr n E s K (KC n E (s :: A)) false (.loop 0 67 t [33, 34] rfA67_0 rfB67_0 none (K.length + 6)) (finD (K.length + 8) hF []) := q.take hm hg
            refine ⟨_, _, _, eF, _, _, _, _, _, _, _, _, JF.lp, rfl, .inl ⟨rfl, ?_⟩⟩
            rw [setLoop_eq JF.lp, dirts_own (fun x hx => by cases hx)]
            have JG := JF.setLp hm hg hgm (.loop 3 67 t [33, 34] rfA67_0 rfB67_0 none (K.length + 6))
            generalize (finD (K.length + 8) hF []).set (K.length + 7) (.loop 3 67 t [33, 34] rfA67_0 rfB67_0 none (K.length + 6)) = G at *
            have jl := JG.len
            have hncov : ¬ Cov n E s := fun h => by
              rcases Cov.iff.1 h with h | ⟨a, b, hcm, h⟩
              · exact c1 h
              · obtain ⟨v1, v2, _⟩ := canM_iff.1 hcm
                exact qall (a, b) (MVb_all v1 v2 hcm) h
            obtain ⟨S4, k4, k5⟩ := JG.mem
            have st : storeS K.length G [] (K.length + 3) 0 (cellsL (.bool false)) = some (G.set (K.length + 3) (.cells [.bool false] 4 true 0 []), []) := by
              have := store_cell (h := G) (base := K.length) (b := K.length + 3) (o := 0) (c := .bool false) JG.res (by simp) rfl (fun _ => rfl) []
              rw [cells_bool, this]; rfl
            have lr : loadS ((G.set (K.length + 3) (.cells [.bool false] 4 true 0 [])).set (K.length + 6) .gone) none (.pointer (some ⟨K.length + 3, 0, none⟩)) = some (.bool false) := by
              have := load_cell (h := (G.set (K.length + 3) (.cells [.bool false] 4 true 0 [])).set (K.length + 6) .gone) (b := K.length + 3) (o := 0) (c := .bool false) (cs := [.bool false]) (el := 4) (pf := true) (own := 0) (old := []) (by rw [List.getElem?_set_ne (by omega), List.getElem?_set_self (by omega)]) rfl rfl []
              rw [List.append_nil] at this; exact this
            have sh : shut (G.set (K.length + 3) (.cells [.bool false] 4 true 0 [])) [K.length + 6] = some ((G.set (K.length + 3) (.cells [.bool false] 4 true 0 [])).set (K.length + 6) .gone) := by
              simp only [shut]
              rw [List.getElem?_set_ne (by omega), JG.df]
            repeat (first | apply Z1 | apply Z2 | apply Z3 | apply Z4 | apply Z5 rfl | apply Z6 | apply Z7 | apply Z8 | apply Z9 | apply ZA | apply ZB | apply ZC | ((first | apply ZD (by decide) | apply ZN (by decide)); (simp (maxSteps := 9999999) only [go_sem, t6, ↓st]; rfl)) | (refine ZE ?_ ?_; · simp only [go_sem]) | (refine ZF ?_ ?_; · simp only [go_sem]))
            refine end_nil ⟨_, ⟨false, _, rfl, ⟨(fun h => by cases h), fun h => (hncov h).elim⟩, bk _ (take_but (G := (G.set (K.length + 3) (.cells [.bool false] 4 true 0 [])).set (K.length + 6) .gone) rfl (by simp; omega) (fun j hj hne => ?_)), S4, ?_, fun _ e he => ?_⟩, q_any [.bool false] sh (by simp only [go_sem, t6, lr]) rfl rfl rfl (fun _ => rfl) rfl rfl⟩
            · rw [List.getElem?_set_ne (by omega), List.getElem?_set_ne (by omega)]; exact JG.low j hj hne
            · rw [List.getElem?_take, if_pos hm, List.getElem?_set_ne (by omega), List.getElem?_set_ne (by omega)]; exact k4
            · obtain ⟨h1, h2, h3⟩ := k5 e he
              refine ⟨h1, h2, ?_⟩
              rcases h3 with h3 | h3
              · exact .inl h3
              · rcases List.mem_cons.1 h3 with h3 | h3
                · exact .inl (by rw [h3]; exact hncov)
                · exact .inr h3
          · have JF : JV K.length mb gr n E s K (fun _ => True) true (.loop 2 67 t [33, 34] rfA67_0 rfB67_0 (some .ret) (K.length + 6)) (finD (K.length + 8) hF []) := q.take hm hg
            refine ⟨_, _, _, eF, _, _, _, _, _, _, _, _, JF.lp, rfl, .inr (.inl ⟨rfl, ?_⟩)⟩
            rw [setLoop_eq JF.lp, dirts_own (fun x hx => by cases hx)]
            have JG := JF.setLp hm hg hgm (.loop 3 67 t [33, 34] rfA67_0 rfB67_0 (some .ret) (K.length + 6))
            generalize (finD (K.length + 8) hF []).set (K.length + 7) (.loop 3 67 t [33, 34] rfA67_0 rfB67_0 (some .ret) (K.length + 6)) = G at *
            have jl := JG.len
            obtain ⟨S4, k4, _⟩ := JG.mem
            have lr : loadS (G.set (K.length + 6) .gone) none (.pointer (some ⟨K.length + 3, 0, none⟩)) = some (.bool true) := by
              have := load_cell (h := G.set (K.length + 6) .gone) (b := K.length + 3) (o := 0) (c := .bool true) (cs := [.bool true]) (el := 4) (pf := true) (own := 0) (old := []) (by rw [List.getElem?_set_ne (by omega)]; exact JG.res) rfl rfl []
              rw [List.append_nil] at this; exact this
            have sh : shut G [K.length + 6] = some (G.set (K.length + 6) .gone) := by
              simp only [shut]
              rw [JG.df]
            repeat (first | apply Z1 | apply Z2 | apply Z3 | apply Z4 | apply Z5 rfl | apply Z6 | apply Z7 | apply Z8 | apply Z9 | apply ZA | apply ZB | apply ZC | ((first | apply ZD (by decide) | apply ZN (by decide)); (simp (maxSteps := 9999999) only [go_sem, t6]; rfl)) | (refine ZE ?_ ?_; · simp only [go_sem]) | (refine ZF ?_ ?_; · simp only [go_sem]))
            refine end_nil ⟨_, ⟨true, _, rfl, ⟨fun _ => hcov, fun _ => rfl⟩, bk _ (take_but (G := G.set (K.length + 6) .gone) rfl (by simp; omega) (fun j hj hne => ?_)), S4, ?_, (fun h => by cases h)⟩, q_any [.bool true] sh (by simp only [go_sem, t6, lr]) rfl rfl rfl (fun _ => rfl) rfl rfl⟩
            · rw [List.getElem?_set_ne (by omega)]; exact JG.low j hj hne
            · rw [List.getElem?_take, if_pos hm, List.getElem?_set_ne (by omega)]; exact k4
      · have hv := (m2 _ f2).2
        dsimp only at hv
        obtain ⟨hv1, hv2⟩ := hv
        subst hv1
        have hncov : ¬ Cov n E s := by
          rcases hv2 with h | h
          · exact h
          · have := hA s h; omega
        have lk : ∀ x d, lookV (.agg [.int, .int, .int, .int, .int, .int]) (.bool false) false (some (.map (some mb))) (some (stV s)) (H ++ x) d = some (.bool true, H ++ x, d) := fun x d => lookV_ok (q := q6) d (key6 s) (by rw [List.getElem?_append_left (by omega)]; exact m1) f1
        repeat (first | apply Z1 | apply Z2 | apply Z3 | apply Z4 | apply Z5 rfl | apply Z6 | apply Z7 | apply Z8 | apply Z9 | apply ZA | apply ZB | apply ZC | ((first | apply ZD (by decide) | apply ZN (by decide)); (simp (maxSteps := 9999999) only [go_sem, argR, cells_map, one_map, ↓cs, isc, ln, ↓sl, ct, ↓l6, lk, vs]; rfl)) | (refine ZE ?_ ?_; · simp only [go_sem]) | (refine ZF ?_ ?_; · simp only [go_sem]))
        refine end_nil ⟨_, ⟨false, H, rfl, ⟨(fun h => by cases h), fun h => (hncov h).elim⟩, ⟨rfl, fun j _ => rfl⟩, S, m1, fun _ => m2⟩, q_free [.bool false] (by simp only [go_sem]) rfl rfl rfl (fun _ => rfl) (by simp) rfl⟩
theorem covers42 {H : SHeap} {v sv : Value} {l : List Int} (hv : PS H v E) (hlen : E.length ≤ 1000000) (he : errG n E = 0) (hs : IS H sv l) (hsl : l.length ≤ 1000000) (hl : SupOK n l) :
    ∃ b : Bool, (b = true ↔ Cov n E (stk l)) ∧ M.call 42 [.int .i64 n, v, sv] H = some (.tuple #[.bool b, .int .i64 0], H, []) := by
  obtain ⟨m, e, h1, h2, h3, h4⟩ := errG_ok he
  obtain rfl : n = m := by omega
  have S0 := (hl.st h2).mono (B' := 1000) (by omega)
  have o := openAt_ok hv hlen he hs hsl hl (place := 0) (by omega)
  have o' : M.call 53 [.int .i64 n, v, sv, .int .i64 0] H = some (.tuple #[.pointer (some ⟨H.length, 0, none⟩), stV (stk l), .int .i64 0], H ++ [gE n E], []) := o
  generalize stk l = s at *
  have l6 : ∀ y, loadS (H ++ (gE n E :: .cells (iV 6 s) 87 true 0 [] :: y)) (some 6) (.pointer (some ⟨H.length + 1, 0, none⟩)) = some (stV s) := fun y => by
    have := load_all (h := H ++ (gE n E :: .cells (iV 6 s) 87 true 0 [] :: y)) (b := H.length + 1) (n := 6) (cs := iV 6 s) (el := 87) (pf := true) (own := 0) (old := []) (by rw [app_get]; rfl) rfl (iV_len _ _) []
    rw [List.append_nil] at this; exact this
  obtain ⟨b, H', k1, k2, k3, _⟩ := cover67 (gr := H.length) (mb := H.length + 2) h1 h2 h3 (by omega) (tot s + 1).toNat [] s (H ++ [gE n E, .cells (iV 6 s) 87 true 0 [], .map true []]) (by have := S0.le; omega) S0 (fun a ha => by cases ha) (by simp) (by simp) (by unfold GAt; rw [app_get0]; rfl) ⟨[], by rw [app_get]; rfl, fun e he => by cases he⟩
  have ht := k3.app (by omega)
  refine ⟨b, k2, ?_⟩
  refine call_run sf42 rfl rfl rfl ?_
  obtain ⟨va, vc, rfl, _⟩ := id hv
  obtain ⟨sa, sc, rfl, _⟩ := id hs
  unfold sf42
  repeat (first | apply Z1 | apply Z2 | apply Z3 | apply Z4 | apply Z5 rfl | apply Z6 | apply Z7 | apply Z8 | apply Z9 | apply ZA | apply ZB | apply ZC | ((first | apply ZD (by decide) | apply ZN (by decide)); (simp (maxSteps := 9999999) only [go_sem, argR, o', wst, ↓l6, k1]; rfl)) | (refine ZE ?_ ?_; · simp only [go_sem]) | (refine ZF ?_ ?_; · simp only [go_sem]))
  exact end_nil (q_free [.bool b, .int .i64 0] (by simp only [go_sem]) rfl rfl rfl (fun _ => rfl) ht rfl)
end
end Go.Proofs.YtpkhkghiidilcaaDoor.Sh

