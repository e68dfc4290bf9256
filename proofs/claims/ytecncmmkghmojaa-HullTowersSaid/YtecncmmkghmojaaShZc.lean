/- The shadow machine: what no value leads to is dropped, and the rest gets new numbers. -/
import Derived.Test.YtecncmmkghmojaaShZb
set_option linter.all false
namespace Go.Proofs.Ytecncmmkghmojaa.Sh
open Go Go.RowKit

theorem reach_ok {base : Nat} {h : SHeap} : ∀ (n : Nat) (todo seen : List Nat), seen.Nodup → (∀ b ∈ seen, base ≤ b) → (reach base h n todo seen).Nodup ∧ ∀ b ∈ reach base h n todo seen, base ≤ b
  | 0, _, seen, h1, h2 => ⟨h1, h2⟩
  | _ + 1, [], seen, h1, h2 => ⟨h1, h2⟩
  | n + 1, b :: todo, seen, h1, h2 => by
    unfold reach
    split
    · exact reach_ok n todo seen h1 h2
    · rename_i hc
      simp only [Bool.or_eq_true, Bool.not_eq_true', not_or, Bool.not_eq_false] at hc
      refine reach_ok n _ _ ?_ ?_
      · rw [List.nodup_append]
        refine ⟨h1, by simp, ?_⟩
        intro x hx y hy e
        simp at hy
        subst hy e
        exact hc.2 (by simpa using hx)
      · intro c hc2
        rcases List.mem_append.1 hc2 with h | h
        · exact h2 c h
        · simp at h; subst h; exact Nat.le_of_ble_eq_true hc.1

theorem posOf_some {b : Nat} : ∀ {K : List Nat} {i : Nat}, posOf b K = some i → K[i]? = some b
  | [], i, h => by cases h
  | a :: r, i, h => by
    unfold posOf at h
    split at h
    · rename_i e; cases h; simp [Nat.eq_of_beq_eq_true e]
    · split at h
      · rename_i j hj; cases h; simpa using posOf_some hj
      · cases h
theorem posOf_get {b : Nat} : ∀ {K : List Nat} {i : Nat}, K.Nodup → K[i]? = some b → posOf b K = some i
  | [], i, _, h => by simp at h
  | a :: r, i, hn, h => by
    rw [List.nodup_cons] at hn
    unfold posOf
    cases i with
    | zero => simp at h; subst h; simp
    | succ i =>
      simp at h
      have : Nat.beq a b = false := by
        cases hb : Nat.beq a b with
        | false => rfl
        | true => exact absurd (List.mem_of_getElem? h) (by rw [← Nat.eq_of_beq_eq_true hb]; exact hn.1)
      rw [this, posOf_get hn.2 h]; rfl

theorem notble {a b : Nat} : (!(Nat.ble a b)) = true ↔ b < a := by
  cases h : Nat.ble a b with
  | false =>
    have : ¬ a ≤ b := fun hh => by rw [Nat.ble_eq_true_of_le hh] at h; cases h
    simp; omega
  | true =>
    have := Nat.le_of_ble_eq_true h
    simp; omega

theorem ren_some {base : Nat} {K : List Nat} {b b' : Nat} (h : ren base K b = some b') : (b < base ∧ b' = b) ∨ (base ≤ b ∧ ∃ i, K[i]? = some b ∧ b' = base + i) := by
  unfold ren at h
  split at h
  · rename_i hc
    cases h
    refine .inl ⟨?_, rfl⟩
    exact notble.1 hc
  · rename_i hc
    rw [notble] at hc
    split at h
    · rename_i i hi
      cases h
      refine .inr ⟨by omega, i, posOf_some hi, rfl⟩
    · cases h
theorem ren_low {base : Nat} {K : List Nat} {b : Nat} (h : b < base) : ren base K b = some b := by
  unfold ren; rw [if_pos (notble.2 h)]
theorem ren_get {base : Nat} {K : List Nat} {b i : Nat} (hn : K.Nodup) (hb : base ≤ b) (h : K[i]? = some b) : ren base K b = some (base + i) := by
  unfold ren; rw [if_neg (fun hh => by have := notble.1 hh; omega), posOf_get hn h]

/-- the new names -/
def gcM (base : Nat) (K : List Nat) (m : Mp) : Mp := m.take base ++ K.map (fun k => m.full k)

section
variable {base : Nat} {K : List Nat} {m mi : Mp}

theorem gcM_low (hb : base ≤ m.length) {b : Nat} (h : b < base) : (gcM base K m).full b = m.full b := by
  unfold gcM Mp.full
  rw [List.getElem?_append_left (by simp; omega), List.getElem?_take, if_pos h]
theorem gcM_new (hb : base ≤ m.length) {b i : Nat} (h : K[i]? = some b) : (gcM base K m).full (base + i) = m.full b := by
  unfold gcM
  show ((m.take base ++ K.map (fun k => m.full k))[base + i]?).join = _
  have hl : (m.take base).length = base := by simp; omega
  rw [List.getElem?_append_right (by omega), hl, show base + i - base = i by omega, List.getElem?_map, h]
  rfl
theorem gcM_ren (hb : base ≤ m.length) {b b' : Nat} (h : ren base K b = some b') : (gcM base K m).full b' = m.full b := by
  rcases ren_some h with ⟨h1, rfl⟩ | ⟨_, i, h1, rfl⟩
  · exact gcM_low hb h1
  · exact gcM_new hb h1
theorem gcM_at (hb : base ≤ m.length) {b b' : Nat} (h : ren base K b = some b') : (gcM base K m).at b' = m.at b := by
  unfold Mp.at; rw [gcM_ren hb h]
theorem gcM_cp (hb : base ≤ m.length) {b b' : Nat} (h : ren base K b = some b') : (gcM base K m).cp b' = m.cp b := by
  unfold Mp.cp; rw [gcM_ren hb h]

theorem mapO_len {α β : Type} {f : α → Option β} : ∀ {l : List α} {r : List β}, mapO f l = some r → r.length = l.length
  | [], r, h => by cases h; rfl
  | a :: as, r, h => by
    unfold mapO at h
    split at h
    · rename_i b bs h1 h2; cases h; simp [mapO_len h2]
    · cases h

theorem LR.ren {f : Value → Option Value} {l l' r : List Value} (h : LR m l l') {m' : Mp} (hm : mapO f l = some r) (hf : ∀ (i : Nat) (x y x' : Value), l[i]? = some x → l'[i]? = some y → f x = some x' → VR m' x' y) : LR m' r l' := by
  refine ⟨by rw [mapO_len hm, h.1], fun i x' y hx hy => ?_⟩
  obtain ⟨x, h1, h2⟩ := mapO_get hm i x' hx
  exact hf i x y x' h1 hy h2

theorem renV_ok (hb : base ≤ m.length) {x y : Value} (h : VR m x y) : ∀ (n : Nat) (x' : Value), renV base K n x = some x' → VR (gcM base K m) x' y := by
  induction h with
  | bool b => intro n x' hx; cases n <;> (simp only [renV, Option.some.injEq] at hx; subst hx; exact .bool _)
  | int k z => intro n x' hx; cases n <;> (simp only [renV, Option.some.injEq] at hx; subst hx; exact .int _ _)
  | string s => intro n x' hx; cases n <;> (simp only [renV, Option.some.injEq] at hx; subst hx; exact .string _)
  | nilFunc => intro n x' hx; cases n <;> (simp only [renV, Option.some.injEq] at hx; subst hx; exact .nilFunc)
  | nilIface => intro n x' hx; cases n <;> (simp only [renV, Option.some.injEq] at hx; subst hx; exact .nilIface)
  | ptr0 => intro n x' hx; cases n <;> (simp only [renV, Option.some.injEq] at hx; subst hx; exact .ptr0)
  | ptr hm =>
    intro n x' hx
    cases n <;>
    · simp only [renV] at hx
      split at hx
      · rename_i b' hr; cases hx; exact .ptr (by rw [gcM_at hb hr]; exact hm)
      · cases hx
  | sl0 => intro n x' hx; cases n <;> (simp only [renV, Option.some.injEq] at hx; subst hx; exact .sl0)
  | sl hm hn hc =>
    intro n x' hx
    cases n <;>
    · simp only [renV] at hx
      split at hx
      · rename_i b' hr
        cases hx
        exact .sl (by rw [gcM_at hb hr]; exact hm) hn (hc.imp id (fun ⟨q1, K', s, q2, q3⟩ => ⟨q1, K', s, by rw [gcM_cp hb hr]; exact q2, q3⟩))
      · cases hx
  | slz hm hc =>
    intro n x' hx
    cases n <;>
    · simp only [renV] at hx
      split at hx
      · rename_i b' hr; cases hx; exact .slz (by rw [gcM_at hb hr]; exact hm) hc
      · cases hx
  | map0 => intro n x' hx; cases n <;> (simp only [renV, Option.some.injEq] at hx; subst hx; exact .map0)
  | map hm =>
    intro n x' hx
    cases n <;>
    · simp only [renV] at hx
      split at hx
      · rename_i b' hr; cases hx; exact .map (by rw [gcM_at hb hr]; exact hm)
      · cases hx
  | func ha hbb _ _ iha ihb =>
    intro n x' hx
    cases n with
    | zero => simp only [renV] at hx; cases hx
    | succ n =>
      simp only [renV] at hx
      split at hx
      · rename_i u v h1 h2
        cases hx
        refine .func (by simp [mapO_len h1]; simpa using ha) (by simp [mapO_len h2]; simpa using hbb) ?_ ?_
        · intro i p q hp hq
          obtain ⟨z, hz, hf⟩ := mapO_get h1 i p (by simpa using hp)
          exact iha i z q hz hq n p hf
        · intro i p q hp hq
          obtain ⟨z, hz, hf⟩ := mapO_get h2 i p (by simpa using hp)
          exact ihb i z q hz hq n p hf
      · cases hx
  | yield hm => intro n x' hx; cases n <;> (simp only [renV] at hx; cases hx)
  | agg ha _ iha =>
    intro n x' hx
    cases n with
    | zero => simp only [renV] at hx; cases hx
    | succ n =>
      simp only [renV] at hx
      split at hx
      · rename_i u h1
        cases hx
        refine .agg (by simp [mapO_len h1]; simpa using ha) ?_
        intro i p q hp hq
        obtain ⟨z, hz, hf⟩ := mapO_get h1 i p (by simpa using hp)
        exact iha i z q hz hq n p hf
      · cases hx
  | tuple ha _ iha =>
    intro n x' hx
    cases n with
    | zero => simp only [renV] at hx; cases hx
    | succ n =>
      simp only [renV] at hx
      split at hx
      · rename_i u h1
        cases hx
        refine .tuple (by simp [mapO_len h1]; simpa using ha) ?_
        intro i p q hp hq
        obtain ⟨z, hz, hf⟩ := mapO_get h1 i p (by simpa using hp)
        exact iha i z q hz hq n p hf
      · cases hx

/-- values that lay there before the call keep their names -/
theorem low_ok {m' : Mp} (hlow : ∀ b, b < mi.length → m'.full b = m.full b) {x y0 : Value} (h : VR mi x y0) : ∀ y, VR m x y → VR m' x y := by
  have hat : ∀ {b p}, mi.at b = some p → m'.at b = m.at b := fun hb => by unfold Mp.at; rw [hlow _ (Mp.at_lt hb)]
  have hcp : ∀ {b p}, mi.at b = some p → m'.cp b = m.cp b := fun hb => by unfold Mp.cp; rw [hlow _ (Mp.at_lt hb)]
  induction h with
  | bool b => intro y hy; cases hy; exact .bool _
  | int k z => intro y hy; cases hy; exact .int _ _
  | string s => intro y hy; cases hy; exact .string _
  | nilFunc => intro y hy; cases hy; exact .nilFunc
  | nilIface => intro y hy; cases hy; exact .nilIface
  | ptr0 => intro y hy; cases hy; exact .ptr0
  | ptr hm => intro y hy; cases hy with | ptr h2 => exact .ptr (by rw [hat hm]; exact h2)
  | sl0 => intro y hy; cases hy; exact .sl0
  | sl hm hn hc =>
    intro y hy
    cases hy with
    | sl h2 hn2 hc2 => exact .sl (by rw [hat hm]; exact h2) hn2 (hc2.imp id (fun ⟨q1, K', s, q2, q3⟩ => ⟨q1, K', s, by rw [hcp hm]; exact q2, q3⟩))
    | slz h2 hc2 => exact .slz (by rw [hat hm]; exact h2) hc2
  | slz hm hc =>
    intro y hy
    cases hy with
    | sl h2 hn2 hc2 => exact .sl (by rw [hat hm]; exact h2) hn2 (hc2.imp id (fun ⟨q1, K', s, q2, q3⟩ => ⟨q1, K', s, by rw [hcp hm]; exact q2, q3⟩))
    | slz h2 hc2 => exact .slz (by rw [hat hm]; exact h2) hc2
  | map0 => intro y hy; cases hy; exact .map0
  | map hm => intro y hy; cases hy with | map h2 => exact .map (by rw [hat hm]; exact h2)
  | @func f as bs as' bs' ha hbb _ _ iha ihb =>
    intro y hy
    cases hy with
    | func ha2 hb2 ka kb =>
      refine .func ha2 hb2 ?_ ?_
      · intro i p q hp hq
        obtain ⟨z, hz⟩ : ∃ z, as'.toList[i]? = some z := by
          have : i < as'.toList.length := by rw [← ha]; exact (List.getElem?_eq_some_iff.1 hp).1
          exact ⟨_, List.getElem?_eq_getElem this⟩
        exact iha i p z hp hz q (ka i p q hp hq)
      · intro i p q hp hq
        obtain ⟨z, hz⟩ : ∃ z, bs'.toList[i]? = some z := by
          have : i < bs'.toList.length := by rw [← hbb]; exact (List.getElem?_eq_some_iff.1 hp).1
          exact ⟨_, List.getElem?_eq_getElem this⟩
        exact ihb i p z hp hz q (kb i p q hp hq)
  | yield hm => intro y hy; cases hy with | yield h2 => exact .yield (by rw [hat hm]; exact h2)
  | @agg as as' ha _ iha =>
    intro y hy
    cases hy with
    | agg ha2 ka =>
      refine .agg ha2 ?_
      intro i p q hp hq
      obtain ⟨z, hz⟩ : ∃ z, as'.toList[i]? = some z := by
        have : i < as'.toList.length := by rw [← ha]; exact (List.getElem?_eq_some_iff.1 hp).1
        exact ⟨_, List.getElem?_eq_getElem this⟩
      exact iha i p z hp hz q (ka i p q hp hq)
  | @tuple as as' ha _ iha =>
    intro y hy
    cases hy with
    | tuple ha2 ka =>
      refine .tuple ha2 ?_
      intro i p q hp hq
      obtain ⟨z, hz⟩ : ∃ z, as'.toList[i]? = some z := by
        have : i < as'.toList.length := by rw [← ha]; exact (List.getElem?_eq_some_iff.1 hp).1
        exact ⟨_, List.getElem?_eq_getElem this⟩
      exact iha i p z hp hz q (ka i p q hp hq)

theorem sc_ok {m' : Mp} {x y : Value} (hx : sc x = true) (h : VR m x y) : VR m' x y := by
  cases h <;> first | (cases hx; done) | constructor

end
end Go.Proofs.Ytecncmmkghmojaa.Sh
