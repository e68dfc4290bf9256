/- The shadow machine: calls of functions with iterators over maps. -/
import Derived.Test.YtdmfhdnpakgkpaaDoorShZs
import Derived.Test.YtdmfhdnpakgkpaaDoorM3
set_option linter.all false
namespace Go.Proofs.YtdmfhdnpakgkpaaDoor.Sh
open Go Go.RowKit

section
variable {R : Rec}
theorem opL_keep (hC : CallKeep R) (hRo : RoundKeep R) {cx : Cx} {o : SOp} {t : T} {h : SHeap} {d : List Nat} {L : List (Value × SHeap × List Nat)} (hb : cx.base ≤ h.length) (hs : opL R cx o t h d = some L) : ∀ x ∈ L, KeepD cx.base h d x.2.1 x.2.2 := by
  by_cases hi : isIter o = true
  · cases o <;> first | (cases hi; done) | skip
    · -- range
      simp only [opL] at hs
      split at hs
      · split at hs
        · cases hs
          intro x hx
          simp only [List.mem_singleton] at hx
          subst hx
          exact ⟨fun _ h => h, Keep.push _ _ _ _⟩
        · cases hs
      · cases hs
    · -- next
      simp only [opL] at hs
      split at hs
      · rename_i b _
        split at hs
        · rename_i mb seen n hbb
          split at hs
          · split at hs
            · split at hs
              · cases hs
                intro x hx
                simp only [List.mem_singleton] at hx
                subst hx
                exact KeepD.refl _ _ _
              · intro x hx
                have : ∀ (es : List (Value × Value)) (l : List Nat) (L : List (Value × SHeap × List Nat)), mapO (fun i => match es[i]? with
                    | some e => some ((.tuple #[.bool true, e.1, e.2] : Value), h.set b (.iter mb (seen ++ [i]) n), d)
                    | none => none) l = some L → ∀ x ∈ L, ∃ i, x.2.1 = h.set b (.iter mb (seen ++ [i]) n) ∧ x.2.2 = d := by
                  intro es l
                  induction l with
                  | nil => intro L hL x hx; cases hL; cases hx
                  | cons y l ih =>
                    intro L hL x hx
                    unfold mapO at hL
                    split at hL
                    · rename_i z zs q1 q2
                      cases hL
                      rcases List.mem_cons.1 hx with rfl | hx
                      · split at q1
                        · cases q1; exact ⟨y, rfl, rfl⟩
                        · cases q1
                      · exact ih zs q2 x hx
                    · cases hL
                obtain ⟨i, e1, e2⟩ := this _ _ _ hs x hx
                rw [e1, e2]
                refine ⟨fun _ h => h, by simp, fun c ob hc hob => ?_⟩
                by_cases e : b = c
                · subst e
                  rw [hbb] at hob; cases hob
                  rw [List.getElem?_set_self (List.getElem?_eq_some_iff.1 hbb).1]
                  exact ⟨_, rfl, rfl, rfl⟩
                · rw [List.getElem?_set_ne e]
                  exact ⟨ob, hob, KO.refl _ _ _⟩
            · cases hs
          · cases hs
        · cases hs
      · cases hs
    · -- entry
      simp only [opL] at hs
      (repeat' split at hs) <;> first
        | (cases hs; done)
        | (cases hs
           intro x hx
           simp only [List.mem_singleton] at hx
           subst hx
           exact KeepD.refl _ _ _)
  · have : ∃ r, opRun R cx none o t h d = some r ∧ L = [r] := by
      cases o <;> first
        | (exact absurd rfl hi)
        | (simp only [opL] at hs
           split at hs
           · rename_i r0 hr0; cases hs; exact ⟨_, hr0, rfl⟩
           · cases hs)
    obtain ⟨r, h1, rfl⟩ := this
    intro x hx
    simp only [List.mem_singleton] at hx
    subst hx
    exact op_keep hC hRo (fun s e => by cases e) hb (v := x.1) (h' := x.2.1) (d' := x.2.2) h1

theorem opsL_keep (hC : CallKeep R) (hRo : RoundKeep R) {cx : Cx} : ∀ (l : List SOper) (s : St) (L : List St), cx.base ≤ s.h.length → opsL R cx l s = some L → ∀ s' ∈ L, StKeep cx s s'
  | [], s, L, _, hs => by
    cases hs
    intro s' hs'
    simp only [List.mem_singleton] at hs'
    subst hs'
    exact ⟨KeepD.refl _ _ _, fun h => h⟩
  | o :: l, s, L, hb, hs => by
    intro s' hs'
    simp only [opsL] at hs
    split at hs
    · unfold bindL at hs
      split at hs
      · cases hs
      rename_i l0 hl0
      split at hs
      case h_2 => cases hs
      rename_i r hr
      cases hs
      obtain ⟨L', hL', hs'⟩ := List.mem_flatten.1 hs'
      obtain ⟨i, hi⟩ := List.getElem?_of_mem hL'
      obtain ⟨x, hx, hfx⟩ := mapO_get hr i L' hi
      have k1 := opL_keep hC hRo hb hl0 x (List.mem_of_getElem? hx)
      have k2 := opsL_keep hC hRo l ⟨sput s.t o.dst x.1, s.ms, x.2.1, x.2.2⟩ L' (Nat.le_trans hb k1.2.1) hfx s' hs'
      exact ⟨k1.trans k2.1, k2.2⟩
    · exact opsL_keep hC hRo l ⟨sput s.t o.dst udf, s.ms, s.h, s.d⟩ L hb hs s' hs'

theorem bindL_mem {α β : Type} {x : Option (List α)} {f : α → Option (List β)} {L : List β} (h : bindL x f = some L) {b : β} (hb : b ∈ L) : ∃ l a r, x = some l ∧ a ∈ l ∧ f a = some r ∧ b ∈ r := by
  unfold bindL at h
  split at h
  · cases h
  rename_i l
  split at h
  case h_2 => cases h
  rename_i r hr
  cases h
  obtain ⟨L', hL', hs'⟩ := List.mem_flatten.1 hb
  obtain ⟨i, hi⟩ := List.getElem?_of_mem hL'
  obtain ⟨x, hx, hfx⟩ := mapO_get hr i L' hi
  exact ⟨l, x, L', rfl, List.mem_of_getElem? hx, hfx, hs'⟩

theorem StKeep.trans {cx : Cx} {s s1 s2 : St} (h1 : StKeep cx s s1) (h2 : StKeep cx s1 s2) : StKeep cx s s2 := ⟨h1.1.trans h2.1, fun h => h2.2 (h1.2 h)⟩

theorem execL_keep (hC : CallKeep R) (hRo : RoundKeep R) (hL : LoopKeep R) {cx : Cx} : ∀ (c : SCode) (s : St) (L : List (Ex × St)), cx.base ≤ s.h.length → execL R cx c s = some L → ∀ x ∈ L, StKeep cx s x.2 := by
  have plain : ∀ (c : SCode) (s : St) (L : List (Ex × St)), cx.base ≤ s.h.length → oneL (exec R cx c s) = some L → ∀ x ∈ L, StKeep cx s x.2 := by
    intro c s L hb hs x hx
    obtain ⟨ex, s', hex, rfl⟩ := oneL_some hs
    simp only [List.mem_singleton] at hx
    subst hx
    exact exec_keep hC hRo hL c s s' ex hb hex
  intro c
  induction c with
  | skip => intro s L hb hs; exact plain _ s L hb hs
  | exit id => intro s L hb hs; exact plain _ s L hb hs
  | ret => intro s L hb hs; exact plain _ s L hb hs
  | rangeFunc g ps x y ihx ihy => intro s L hb hs; exact plain _ s L hb hs
  | region n ops =>
    intro s L hb hs
    simp only [execL] at hs
    split at hs
    · split at hs
      · split at hs
        · rename_i l hl
          cases hs
          intro x hx
          obtain ⟨s', h1, rfl⟩ := List.mem_map.1 hx
          exact opsL_keep hC hRo ops s l hb hl s' h1
        · cases hs
      · cases hs
    · exact plain _ s L hb hs
  | seq a b iha ihb =>
    intro s L hb hs x hx
    simp only [execL] at hs
    obtain ⟨l, y, r, h1, h2, h3, h4⟩ := bindL_mem hs hx
    have k1 := iha s l hb h1 y h2
    split at h3
    · exact k1.trans (ihb y.2 r (Nat.le_trans hb k1.1.2.1) h3 x h4)
    · cases h3
      simp only [List.mem_singleton] at h4
      subst h4
      exact k1
  | cond c0 a b iha ihb =>
    intro s L hb hs
    simp only [execL] at hs
    split at hs
    · split at hs
      · exact iha s L hb hs
      · exact ihb s L hb hs
    · cases hs
  | block id c0 ih =>
    intro s L hb hs x hx
    simp only [execL] at hs
    obtain ⟨l, y, r, h1, h2, h3, h4⟩ := bindL_mem hs hx
    have k1 := ih s l hb h1 y h2
    split at h3
    · cases h3
      simp only [List.mem_singleton] at h4
      subst h4
      exact k1
    · cases h3
      simp only [List.mem_singleton] at h4
      subst h4
      exact k1
  | loop c0 ih =>
    intro s L hb hs
    simp only [execL] at hs
    split at hs
    · have rounds : ∀ (j : Nat) (s : St) (L : List (Ex × St)), cx.base ≤ s.h.length → loopL (execL R cx c0) j s = some L → ∀ x ∈ L, StKeep cx s x.2 := by
        intro j
        induction j with
        | zero => intro s L _ hs; cases hs
        | succ j ihj =>
          intro s L hb hs x hx
          simp only [loopL] at hs
          obtain ⟨l, y, r, h1, h2, h3, h4⟩ := bindL_mem hs hx
          have k1 := ih s l hb h1 y h2
          split at h3
          · exact k1.trans (ihj y.2 r (Nat.le_trans hb k1.1.2.1) h3 x h4)
          · cases h3
            simp only [List.mem_singleton] at h4
            subst h4
            exact k1
      exact rounds LOOPS s L hb hs
    · exact plain _ s L hb hs
end
end Go.Proofs.YtdmfhdnpakgkpaaDoor.Sh

