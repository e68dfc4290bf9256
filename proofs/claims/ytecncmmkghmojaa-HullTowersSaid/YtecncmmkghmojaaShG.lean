/- The shadow machine: comparisons, loads and stores, addresses, parts. -/
import Derived.Test.YtecncmmkghmojaaShF
import Derived.Laws.StructEq
set_option linter.all false
namespace Go.Proofs.Ytecncmmkghmojaa.Sh
open Go Go.RowKit

section
variable {P : Program} {nt : Nat} {m : Mp} {t : T} {a : Act}

theorem flatT_inv {e : TypeId} {k : CK} (h : flatT P e = some k) : (∃ i, P.info? e = some i ∧ i.size = 1) ∧
    (match k with | .int => ∃ k', P.underlying e = some (.int k') | .bool => P.underlying e = some .bool | .string => P.underlying e = some .string) := by
  unfold flatT at h
  split at h
  · cases h
  · rename_i i hi
    split at h
    · rename_i hs
      refine ⟨⟨i, hi, by simpa using hs⟩, ?_⟩
      split at h
      · rename_i k' hk; cases h; exact ⟨_, hk⟩
      · rename_i hk; cases h; exact hk
      · rename_i hk; cases h; exact hk
      · cases h
    · cases h

theorem eqCell_flat {k : CK} {x y : Value} {b : Bool} (h : eqCell k x y = some b) {e : TypeId} (hf : flatT P e = some k) {x' y' : Value} (hx : VR m x x') (hy : VR m y y') (d : Nat) (w : World) :
    (Op.equalIn (d + 1) e x' y').run P w = .ok b w := by
  have hu := (flatT_inv hf).2
  unfold eqCell at h
  split at h
  · rename_i p q
    cases h
    rw [hx.bool_inv, hy.bool_inv]
    exact run_equalIn_bool' w d e p q hu
  · rename_i k p k' q
    split at h
    · cases h
      rename_i e1; subst e1
      rw [hx.int_inv, hy.int_inv]
      obtain ⟨k', hk⟩ := hu
      exact run_equalIn_int w d e k k' p q hk
    · cases h
  · rename_i p q
    cases h
    rw [hx.string_inv, hy.string_inv]
    rw [run_equalIn_string w d e p q hu, beq_toListBytes]
  · cases h

theorem flat_part {e : TypeId} {k : CK} (h : flatT P e = some k) {xs : Array Value} {o : Nat} {v : Value} (hv : xs[o]? = some v) (w : World) : (part e xs o).run P w = .ok v w := by
  have hu := (flatT_inv h).2
  have hd : ∃ d, P.underlying e = some d ∧ (match d with | .struct _ | .array _ _ => true | _ => false) = false := by
    cases k with
    | int => obtain ⟨k', hk⟩ := hu; exact ⟨_, hk, rfl⟩
    | bool => exact ⟨_, hu, rfl⟩
    | string => exact ⟨_, hu, rfl⟩
  obtain ⟨d, hd, hp⟩ := hd
  unfold part isAgg
  simp only [bind_assoc, Sem.run_bind, run_underlying hd, Result.andThen_ok]
  cases d <;> simp_all

theorem eqList_items {k : CK} {n : Nat} {b : Bool} {e : TypeId} (hf : flatT P e = some k) (d : Nat) (w : World) (ax ay : Array Value) :
    ∀ (j : Nat) (xs ys : List Value), eqList (List.replicate n k) xs ys = some b → (∀ (i : Nat) (x : Value), xs[i]? = some x → ∃ x', ax[j + i]? = some x' ∧ VR m x x') →
      (∀ (i : Nat) (x : Value), ys[i]? = some x → ∃ x', ay[j + i]? = some x' ∧ VR m x x') → (Op.eqItems (d + 1) e 1 ax ay (List.range' j n)).run P w = .ok b w := by
  induction n with
  | zero =>
    intro j xs ys h hx hy
    cases xs <;> cases ys <;> simp [eqList] at h
    subst h
    simp [Op.eqItems]
  | succ n ih =>
    intro j xs ys h hx hy
    cases xs with
    | nil => simp [List.replicate, eqList] at h
    | cons x xs =>
      cases ys with
      | nil => simp [List.replicate, eqList] at h
      | cons y ys =>
        simp only [List.replicate, eqList] at h
        obtain ⟨x', hx1, hx2⟩ := hx 0 x rfl
        obtain ⟨y', hy1, hy2⟩ := hy 0 y rfl
        have p1 := flat_part (P := P) hf (xs := ax) (o := j * 1) (v := x') (by simpa using hx1) w
        have p2 := flat_part (P := P) hf (xs := ay) (o := j * 1) (v := y') (by simpa using hy1) w
        rw [List.range'_succ]
        simp only [Op.eqItems, Sem.run_bind, p1, p2, Result.andThen_ok]
        split at h
        · rename_i hc
          rw [eqCell_flat hc hf hx2 hy2 d w]
          simp only [Result.andThen_ok, Bool.not_true, Bool.false_eq_true, if_false]
          exact ih (j + 1) xs ys h (fun i z hz => by have := hx (i + 1) z (by simpa using hz); rwa [show j + 1 + i = j + (i + 1) by omega]) (fun i z hz => by have := hy (i + 1) z (by simpa using hz); rwa [show j + 1 + i = j + (i + 1) by omega])
        · rename_i hc
          rw [eqCell_flat hc hf hx2 hy2 d w]
          cases h
          simp
        · cases h

theorem eqList_fields (d : Nat) (w : World) (ax ay : Array Value) {b : Bool} :
    ∀ (fs : List Field) (j : Nat) (ks : List CK) (xs ys : List Value), flatFields P j fs = some ks → eqList ks xs ys = some b → (∀ (i : Nat) (x : Value), xs[i]? = some x → ∃ x', ax[j + i]? = some x' ∧ VR m x x') →
      (∀ (i : Nat) (x : Value), ys[i]? = some x → ∃ x', ay[j + i]? = some x' ∧ VR m x x') → (Op.eqFields (d + 1) ax ay fs).run P w = .ok b w := by
  intro fs
  induction fs with
  | nil =>
    intro j ks xs ys hf h hx hy
    cases hf
    cases xs <;> cases ys <;> simp [eqList] at h
    subst h
    simp [Op.eqFields]
  | cons f fs ih =>
    intro j ks xs ys hf h hx hy
    unfold flatFields at hf
    split at hf
    case isFalse => cases hf
    rename_i hn
    simp only [Bool.and_eq_true, bne_iff_ne, ne_eq, beq_iff_eq] at hn
    split at hf
    case h_2 => cases hf
    rename_i k l h1 h2
    cases hf
    cases xs with
    | nil => simp [eqList] at h
    | cons x xs =>
      cases ys with
      | nil => simp [eqList] at h
      | cons y ys =>
        simp only [eqList] at h
        obtain ⟨x', hx1, hx2⟩ := hx 0 x rfl
        obtain ⟨y', hy1, hy2⟩ := hy 0 y rfl
        have p1 := flat_part (P := P) h1 (xs := ax) (o := f.offset) (v := x') (by rw [hn.2]; simpa using hx1) w
        have p2 := flat_part (P := P) h1 (xs := ay) (o := f.offset) (v := y') (by rw [hn.2]; simpa using hy1) w
        simp only [Op.eqFields, ne_eq, hn.1, not_false_eq_true, if_true, Sem.run_bind, p1, p2, Result.andThen_ok]
        split at h
        · rename_i hc
          rw [eqCell_flat hc h1 hx2 hy2 d w]
          simp only [Result.andThen_ok, Bool.not_true, Bool.false_eq_true, if_false]
          exact ih (j + 1) l xs ys h2 h (fun i z hz => by have := hx (i + 1) z (by simpa using hz); rwa [show j + 1 + i = j + (i + 1) by omega]) (fun i z hz => by have := hy (i + 1) z (by simpa using hz); rwa [show j + 1 + i = j + (i + 1) by omega])
        · rename_i hc
          rw [eqCell_flat hc h1 hx2 hy2 d w]
          cases h
          simp
        · cases h

theorem LR.cell {m : Mp} {x x' : Array Value} (h : LR m x.toList x'.toList) (i : Nat) (v : Value) (hv : x.toList[i]? = some v) : ∃ v', x'[0 + i]? = some v' ∧ VR m v v' := by
  obtain ⟨y, h1, h2⟩ := h.get hv
  exact ⟨y, by simpa using h1, h2⟩

theorem eqS_ptr {x y x' y' : Value} {b : Bool} (h : eqS .ptr x y = some b) (hx : VR m x x') (hy : VR m y y') (w : World) (d : Nat) {ty e : TypeId} (hu : P.underlying ty = some (.pointer e)) :
    (Op.equalIn (d + 1) ty x' y').run P w = .ok b w := by
  cases x <;> first | (simp [eqS] at h; done) | skip
  rename_i p
  cases y <;> first | (cases p <;> simp [eqS] at h; done) | skip
  rename_i q
  cases p <;> cases q <;> simp [eqS] at h <;> subst h <;> cases hx <;> cases hy <;> simp [Op.equalIn, run_underlying hu]
theorem eqS_slice {x y x' y' : Value} {b : Bool} (h : eqS .slice x y = some b) (hx : VR m x x') (hy : VR m y y') (w : World) (d : Nat) {ty e : TypeId} (hu : P.underlying ty = some (.slice e)) :
    (Op.equalIn (d + 1) ty x' y').run P w = .ok b w := by
  cases x <;> first | (simp [eqS] at h; done) | skip
  rename_i p n c
  cases y <;> first | (cases p <;> simp [eqS] at h; done) | skip
  rename_i q n' c'
  cases p <;> cases q <;> simp [eqS] at h <;> subst h <;> cases hx <;> cases hy <;> simp [Op.equalIn, run_underlying hu]
theorem eqS_func {x y x' y' : Value} {b : Bool} (h : eqS .func x y = some b) (hx : VR m x x') (hy : VR m y y') (w : World) (d : Nat) {ty : TypeId} {e1 e2 e3} (hu : P.underlying ty = some (.func e1 e2 e3)) :
    (Op.equalIn (d + 1) ty x' y').run P w = .ok b w := by
  cases x <;> first | (simp [eqS] at h; done) | skip
  all_goals (cases y <;> first | (simp [eqS] at h; done) | skip)
  all_goals (simp [eqS] at h; subst h; cases hx <;> cases hy <;> simp [Op.equalIn, run_underlying hu])
theorem eqS_agg {l : List CK} {x y : Value} {b : Bool} (h : eqS (.agg l) x y = some b) : ∃ p q, x = .agg p ∧ y = .agg q ∧ eqList l p.toList q.toList = some b := by
  cases x <;> first | (simp [eqS] at h; done) | skip
  cases y <;> first | (simp [eqS] at h; done) | skip
  exact ⟨_, _, rfl, rfl, h⟩
theorem eqS_int {x y : Value} {b : Bool} (h : eqS .int x y = some b) : ∃ k p q, x = .int k p ∧ y = .int k q ∧ b = (p == q) := by
  cases x <;> first | (simp [eqS] at h; done) | skip
  cases y <;> first | (simp [eqS] at h; done) | skip
  simp only [eqS] at h
  split at h
  · rename_i e; subst e; cases h; exact ⟨_, _, _, rfl, rfl, rfl⟩
  · cases h
theorem eqS_bool {x y : Value} {b : Bool} (h : eqS .bool x y = some b) : ∃ p q, x = .bool p ∧ y = .bool q ∧ b = (p == q) := by
  cases x <;> first | (simp [eqS] at h; done) | skip
  cases y <;> first | (simp [eqS] at h; done) | skip
  simp only [eqS] at h; cases h; exact ⟨_, _, rfl, rfl, rfl⟩
theorem eqS_string {x y : Value} {b : Bool} (h : eqS .string x y = some b) : ∃ p q, x = .string p ∧ y = .string q ∧ b = (p == q) := by
  cases x <;> first | (simp [eqS] at h; done) | skip
  cases y <;> first | (simp [eqS] at h; done) | skip
  simp only [eqS] at h; cases h; exact ⟨_, _, rfl, rfl, rfl⟩

theorem eqS_run {k : EqK} {ty : TypeId} (hk : eqKind P ty = some k) {x y x' y' : Value} {b : Bool} (h : eqS k x y = some b) (hx : VR m x x') (hy : VR m y y') (w : World) (d : Nat) :
    (Op.equalIn (d + 2) ty x' y').run P w = .ok b w := by
  unfold eqKind at hk
  split at hk
  · rename_i hu; cases hk
    obtain ⟨k, p, q, rfl, rfl, rfl⟩ := eqS_int h
    rw [hx.int_inv, hy.int_inv]; exact run_equalIn_int w _ ty _ _ _ _ hu
  · rename_i hu; cases hk
    obtain ⟨p, q, rfl, rfl, rfl⟩ := eqS_bool h
    rw [hx.bool_inv, hy.bool_inv]; exact run_equalIn_bool' w _ ty _ _ hu
  · rename_i hu; cases hk
    obtain ⟨p, q, rfl, rfl, rfl⟩ := eqS_string h
    rw [hx.string_inv, hy.string_inv, run_equalIn_string w _ ty _ _ hu, beq_toListBytes]
  · rename_i e hu; cases hk
    exact eqS_ptr h hx hy w _ hu
  · rename_i e hu; cases hk
    exact eqS_slice h hx hy w _ hu
  · rename_i e1 e2 e3 hu; cases hk
    exact eqS_func h hx hy w _ hu
  · rename_i n e hu
    split at hk
    case isFalse => cases hk
    cases hf : flatT P e with
    | none => simp [hf] at hk
    | some c =>
      simp [hf] at hk
      subst hk
      obtain ⟨p, q, rfl, rfl, h⟩ := eqS_agg h
      obtain ⟨x', rfl, h1⟩ := hx.agg_inv
      obtain ⟨y', rfl, h2⟩ := hy.agg_inv
      obtain ⟨⟨i, hi, hs⟩, _⟩ := flatT_inv hf
      rw [run_equalIn_array w _ x' y' hu hi]
      have : P.cellsOf e = 1 := by simp [Program.cellsOf, hi, hs]
      rw [this, List.range_eq_range']
      exact eqList_items hf d w x' y' 0 _ _ h h1.cell h2.cell
  · rename_i fs hu
    split at hk
    case isFalse => cases hk
    rename_i hc
    simp only [Bool.and_eq_true, Bool.not_eq_true'] at hc
    cases hf : flatFields P 0 fs.toList with
    | none => simp [hf] at hk
    | some l =>
      simp [hf] at hk
      subst hk
      obtain ⟨p, q, rfl, rfl, h⟩ := eqS_agg h
      obtain ⟨x', rfl, h1⟩ := hx.agg_inv
      obtain ⟨y', rfl, h2⟩ := hy.agg_inv
      have hfo : P.fieldsOf ty = fs := by simp [Program.fieldsOf, hu]
      rw [run_equalIn_struct w _ ty x' y' (by rw [hfo]; exact hu) hc.2, hfo]
      exact eqList_fields d w x' y' fs.toList 0 l _ _ hf h h1.cell h2.cell
  · cases hk

theorem equal_run {k : EqK} {ty : TypeId} (hk : eqKind P ty = some k) {x y x' y' : Value} {b : Bool} (h : eqS k x y = some b) (hx : VR m x x') (hy : VR m y y') (w : World) :
    (Op.equal ty x' y').run P w = .ok b w := eqS_run hk h hx hy w 9998

end
end Go.Proofs.Ytecncmmkghmojaa.Sh
