/- Each prime number that leaves 1 by 4 is a sum of two squares (with Zagier's involution). -/

set_option linter.all false
namespace Go.Proofs.YtdmfhdnpakgkpaaDoor.Sh
section
theorem inv_parity {α : Type} [DecidableEq α] (f : α → α) : ∀ (n : Nat) (L : List α), L.length = n → L.Nodup → (∀ a ∈ L, f a ∈ L ∧ f (f a) = a) → L.length % 2 = (L.filter (fun a => decide (f a = a))).length % 2 := by
 intro n
 induction n using Nat.strongRecOn with
 | _ n ih =>
  intro L hn hd hc
  cases L with
  | nil => rfl
  | cons a t =>
   have hd' := List.nodup_cons.1 hd
   by_cases e : f a = a
   ·have k := ih t.length (by rw [← hn]; simp) t rfl hd'.2 (fun b hb => by
     obtain ⟨h1, h2⟩ := hc b (List.mem_cons_of_mem _ hb)
     refine ⟨?_, h2⟩
     rcases List.mem_cons.1 h1 with h1 | h1
     ·rw [h1, e] at h2; subst h2; exact (hd'.1 hb).elim
     ·exact h1)
    rw [List.filter_cons_of_pos (by simpa using e)]
    simp only [List.length_cons]
    omega
   ·have h1 : f a ∈ t := by
     rcases List.mem_cons.1 (hc a (by simp)).1 with h | h
     ·exact (e h).elim
     ·exact h
    have h2 : f (f a) = a := (hc a (by simp)).2
    have hp := List.perm_cons_erase h1
    have hde : (f a :: t.erase (f a)).Nodup := hp.nodup_iff.1 hd'.2
    have hde' := List.nodup_cons.1 hde
    have hl : t.length = (t.erase (f a)).length + 1 := by rw [hp.length_eq]; rfl
    have k := ih (t.erase (f a)).length (by rw [← hn, List.length_cons, hl]; omega) _ rfl hde'.2 (fun b hb => by
     have hbt : b ∈ t := List.mem_of_mem_erase hb
     have hbn : b ≠ f a := fun h => hde'.1 (h ▸ hb)
     obtain ⟨g1, g2⟩ := hc b (List.mem_cons_of_mem _ hbt)
     refine ⟨?_, g2⟩
     have n1 : f b ≠ a := fun h => hbn (by rw [← g2, h])
     have n2 : f b ≠ f a := fun h => by
      rw [← g2, h, h2] at hbt
      exact hd'.1 hbt
     rcases List.mem_cons.1 g1 with g1 | g1
     ·exact (n1 g1).elim
     ·exact (List.mem_erase_of_ne n2).2 g1)
    rw [List.filter_cons_of_neg (by simpa using e)]
    have hf : (t.filter (fun a => decide (f a = a))).length = ((t.erase (f a)).filter (fun a => decide (f a = a))).length := by
     rw [(hp.filter _).length_eq, List.filter_cons_of_neg]
     simp only [decide_eq_true_eq]
     rw [h2]; exact fun h => e h.symm
    rw [hf, List.length_cons, hl]
    omega
abbrev T3 := Nat × Nat × Nat
def zg (a : T3) : T3 :=
 if a.1 + a.2.2 < a.2.1 then (a.1 + 2 * a.2.2, a.2.2, a.2.1 - a.1 - a.2.2)
 else if a.1 < 2 * a.2.1 then (2 * a.2.1 - a.1, a.2.1, a.1 + a.2.2 - a.2.1)
 else (a.1 - 2 * a.2.1, a.1 + a.2.2 - a.2.1, a.2.1)
def sw3 (a : T3) : T3 := (a.1, a.2.2, a.2.1)
def val3 (a : T3) : Nat := a.1 * a.1 + 4 * (a.2.1 * a.2.2)
def inZ (p : Nat) (a : T3) : Prop := val3 a = p ∧ 1 ≤ a.1 ∧ 1 ≤ a.2.1 ∧ 1 ≤ a.2.2
structure P41 (p : Nat) : Prop where
 two : 2 ≤ p
 div : ∀ d e, d * e = p → d = 1 ∨ e = 1
 one : p % 4 = 1
theorem sq_bad {p s : Nat} (h : P41 p) : s * s ≠ p := by
 intro e
 have := h.two
 rcases h.div s s e with k | k <;> (subst k; omega)
theorem zg_in {p : Nat} (h : P41 p) {a : T3} (ha : inZ p a) : inZ p (zg a) ∧ zg (zg a) = a := by
 obtain ⟨x, y, z⟩ := a
 obtain ⟨h0, h1, h2, h3⟩ := ha
 simp only [val3] at h0
 dsimp only at h1 h2 h3
 have n1 : x + z ≠ y := by
  intro e
  subst e
  refine sq_bad h (s := x + 2 * z) ?_
  rw [← h0]; grind
 have n2 : x ≠ 2 * y := by
  intro e
  subst e
  have := h.one
  have e2 : p = 4 * (y * y + y * z) := by rw [← h0]; grind
  omega
 have zgd : ∀ x y z : Nat, zg (x, y, z) = if x + z < y then (x + 2 * z, z, y - x - z) else if x < 2 * y then (2 * y - x, y, x + z - y) else (x - 2 * y, x + z - y, y) := fun _ _ _ => rfl
 by_cases c1 : x + z < y
 ·obtain ⟨k, rfl⟩ : ∃ k, y = x + z + k := ⟨y - x - z, by omega⟩
  have e1 : zg (x, x + z + k, z) = (x + 2 * z, z, k) := by
   rw [zgd, if_pos c1]; refine Prod.ext rfl (Prod.ext rfl ?_); dsimp only; omega
  refine ⟨?_, ?_⟩
  ·rw [e1]; refine ⟨?_, ?_, ?_, ?_⟩
   ·rw [← h0]; simp only [val3]; grind
   ·dsimp only; omega
   ·dsimp only; omega
   ·dsimp only; omega
  ·rw [e1, zgd, if_neg (by omega), if_neg (by omega)]
   refine Prod.ext ?_ (Prod.ext ?_ rfl) <;> dsimp only <;> omega
 ·by_cases c2 : x < 2 * y
  ·obtain ⟨k, hk⟩ : ∃ k, 2 * y = x + k := ⟨2 * y - x, by omega⟩
   obtain ⟨m, hm⟩ : ∃ m, x + z = y + m := ⟨x + z - y, by omega⟩
   have e1 : zg (x, y, z) = (k, y, m) := by
    rw [zgd, if_neg c1, if_pos c2]; refine Prod.ext ?_ (Prod.ext rfl ?_) <;> dsimp only <;> omega
   refine ⟨?_, ?_⟩
   ·rw [e1]; refine ⟨?_, ?_, ?_, ?_⟩
    ·rw [← h0]; simp only [val3]
     have i1 : (k : Int) = 2 * y - x := by omega
     have i2 : (m : Int) = x + z - y := by omega
     have : ((k * k + 4 * (y * m) : Nat) : Int) = ((x * x + 4 * (y * z) : Nat) : Int) := by
      simp only [Int.natCast_add, Int.natCast_mul]
      rw [i1, i2]; grind
     exact Int.ofNat.inj this
    ·dsimp only; omega
    ·dsimp only; omega
    ·dsimp only; omega
   ·rw [e1, zgd, if_neg (by omega), if_pos (by omega)]
    refine Prod.ext ?_ (Prod.ext rfl ?_) <;> dsimp only <;> omega
  ·obtain ⟨k, rfl⟩ : ∃ k, x = 2 * y + k := ⟨x - 2 * y, by omega⟩
   have e1 : zg (2 * y + k, y, z) = (k, y + k + z, y) := by
    rw [zgd, if_neg c1, if_neg c2]; refine Prod.ext ?_ (Prod.ext ?_ rfl) <;> dsimp only <;> omega
   refine ⟨?_, ?_⟩
   ·rw [e1]; refine ⟨?_, ?_, ?_, ?_⟩
    ·rw [← h0]; simp only [val3]; grind
    ·dsimp only; omega
    ·dsimp only; omega
    ·dsimp only; omega
   ·rw [e1, zgd, if_pos (by omega)]
    refine Prod.ext ?_ (Prod.ext rfl ?_) <;> dsimp only <;> omega
theorem sw_in {p : Nat} {a : T3} (ha : inZ p a) : inZ p (sw3 a) ∧ sw3 (sw3 a) = a := by
 obtain ⟨h0, h1, h2, h3⟩ := ha
 refine ⟨⟨?_, h1, h3, h2⟩, rfl⟩
 rw [← h0]
 simp only [val3, sw3]; grind
theorem zg_fix {p : Nat} (h : P41 p) {a : T3} (ha : inZ p a) : zg a = a ↔ a = (1, 1, p / 4) := by
 obtain ⟨x, y, z⟩ := a
 obtain ⟨h0, h1, h2, h3⟩ := ha
 simp only [val3] at h0
 dsimp only at h1 h2 h3
 have zgd : ∀ x y z : Nat, zg (x, y, z) = if x + z < y then (x + 2 * z, z, y - x - z) else if x < 2 * y then (2 * y - x, y, x + z - y) else (x - 2 * y, x + z - y, y) := fun _ _ _ => rfl
 constructor
 ·intro e
  rw [zgd] at e
  split at e
  ·have := congrArg Prod.fst e; dsimp only at this; omega
  ·split at e
   ·have e1 := congrArg Prod.fst e; dsimp only at e1
    have hxy : x = y := by omega
    subst hxy
    rcases h.div x (x + 4 * z) (by rw [← h0]; grind) with k | k
    ·subst k
     have : z = p / 4 := by omega
     rw [this]
    ·omega
   ·have := congrArg Prod.fst e; dsimp only at this; omega
 ·intro e
  cases e
  rw [zgd, if_neg (by omega), if_pos (by omega)]
  refine Prod.ext rfl (Prod.ext rfl ?_)
  show 1 + p / 4 - 1 = p / 4
  omega
def zL (p : Nat) : List T3 := (List.range (p + 1)).flatMap fun x => (List.range (p + 1)).flatMap fun y => (List.range (p + 1)).flatMap fun z => if val3 (x, y, z) = p ∧ 1 ≤ x ∧ 1 ≤ y ∧ 1 ≤ z then [(x, y, z)] else []
theorem mem_zL {p : Nat} {a : T3} : a ∈ zL p ↔ inZ p a := by
 obtain ⟨x, y, z⟩ := a
 unfold zL inZ
 simp only [List.mem_flatMap, List.mem_range]
 constructor
 ·rintro ⟨x', _, y', _, z', _, hm⟩
  split at hm
  ·rename_i hc
   cases List.mem_singleton.1 hm
   exact hc
  ·cases hm
 ·intro hc
  have h0 := hc.1
  have h1 := hc.2.1
  have h2 := hc.2.2.1
  have h3 := hc.2.2.2
  simp only [val3] at h0
  have b1 : x ≤ x * x := Nat.le_mul_of_pos_left x h1
  have b2 : y ≤ y * z := Nat.le_mul_of_pos_right y h3
  have b3 : z ≤ y * z := Nat.le_mul_of_pos_left z h2
  exact ⟨x, by omega, y, by omega, z, by omega, by rw [if_pos hc]; simp⟩
theorem nodup_zL (p : Nat) : (zL p).Nodup := by
 have key : ∀ (F : Nat → List T3) (g : T3 → Nat) (n : Nat), (∀ i, (F i).Nodup) → (∀ i, ∀ a ∈ F i, g a = i) → ((List.range n).flatMap F).Nodup := by
  intro F g n h1 h2
  unfold List.Nodup
  rw [List.pairwise_flatMap]
  refine ⟨fun i _ => h1 i, ?_⟩
  refine List.Pairwise.imp ?_ (@List.pairwise_lt_range n)
  intro i j hij x hx y hy e
  subst e
  have a1 := h2 i x hx
  have a2 := h2 j x hy
  omega
 have lx : ∀ x y z (a : T3), a ∈ (if val3 (x, y, z) = p ∧ 1 ≤ x ∧ 1 ≤ y ∧ 1 ≤ z then [(x, y, z)] else [] : List T3) → a = (x, y, z) := by
  intro x y z a ha
  split at ha
  ·exact List.mem_singleton.1 ha
  ·cases ha
 refine key _ (fun a => a.1) _ (fun x => key _ (fun a => a.2.1) _ (fun y => key _ (fun a => a.2.2) _ (fun z => ?_) ?_) ?_) ?_
 ·split <;> simp
 ·intro z a ha; rw [lx _ _ _ a ha]
 ·intro y a ha
  simp only [List.mem_flatMap] at ha
  obtain ⟨z, _, ha⟩ := ha
  rw [lx _ _ _ a ha]
 ·intro x a ha
  simp only [List.mem_flatMap] at ha
  obtain ⟨y, _, z, _, ha⟩ := ha
  rw [lx _ _ _ a ha]
theorem two_squares {p : Nat} (h : P41 p) : ∃ a b : Nat, a * a + b * b = p := by
 have hp := h.one
 have h2 := h.two
 have m0 : (1, 1, p / 4) ∈ zL p := mem_zL.2 ⟨by simp only [val3]; omega, by simp, by simp, by dsimp only; omega⟩
 have k1 := inv_parity zg _ (zL p) rfl (nodup_zL p) (fun a ha => by
  have := zg_in h (mem_zL.1 ha)
  exact ⟨mem_zL.2 this.1, this.2⟩)
 have e1 : (zL p).filter (fun a => decide (zg a = a)) = [(1, 1, p / 4)] := by
  have hn : ((zL p).filter (fun a => decide (zg a = a))).Nodup := (nodup_zL p).filter _
  have hm : ∀ a, a ∈ (zL p).filter (fun a => decide (zg a = a)) ↔ a = (1, 1, p / 4) := by
   intro a
   rw [List.mem_filter]
   constructor
   ·rintro ⟨q1, q2⟩
    exact (zg_fix h (mem_zL.1 q1)).1 (by simpa using q2)
   ·rintro rfl
    exact ⟨m0, by simpa using (zg_fix h (mem_zL.1 m0)).2 rfl⟩
  generalize (zL p).filter (fun a => decide (zg a = a)) = l at hn hm
  cases l with
  | nil => exact absurd ((hm _).2 rfl) (by simp)
  | cons a t =>
   have ha := (hm a).1 (by simp)
   cases t with
   | nil => rw [ha]
   | cons b t =>
    have hb := (hm b).1 (by simp)
    rw [ha, hb] at hn
    simp at hn
 rw [e1] at k1
 have k2 := inv_parity sw3 _ (zL p) rfl (nodup_zL p) (fun a ha => by
  have := sw_in (mem_zL.1 ha)
  exact ⟨mem_zL.2 this.1, this.2⟩)
 rw [k1] at k2
 cases e : (zL p).filter (fun a => decide (sw3 a = a)) with
 | nil => rw [e] at k2; simp at k2
 | cons a t =>
  have ha : a ∈ (zL p).filter (fun a => decide (sw3 a = a)) := by rw [e]; simp
  obtain ⟨q1, q2⟩ := List.mem_filter.1 ha
  have q2 : sw3 a = a := by simpa using q2
  have q3 := (mem_zL.1 q1).1
  obtain ⟨x, y, z⟩ := a
  have hyz : z = y := congrArg (fun a : T3 => a.2.1) q2
  subst hyz
  refine ⟨x, 2 * z, ?_⟩
  rw [← q3]; simp only [val3]; grind
end
end Go.Proofs.YtdmfhdnpakgkpaaDoor.Sh
