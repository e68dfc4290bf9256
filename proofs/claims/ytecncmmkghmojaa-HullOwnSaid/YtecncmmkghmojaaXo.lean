/- Rests, Firm and Tips of the program. -/
import Derived.Test.YtecncmmkghmojaaXn
set_option linter.all false
namespace Go.Proofs.Ytecncmmkghmojaa.Sh
open Go Geo
set_option maxRecDepth 100000

theorem call_first (R : Rec) (base : Nat) (h : SHeap) (d : List Nat) (g : FuncId) (x : Value) (args : List Value) : callS R base h d (.func (.func g) #[x] #[]) args = match R.call g (x :: args) h with
    | some (v, h', d') => some (v, h', dirts base d' d)
    | none => none := by simp [callS]; rfl
attribute [go_sem ↓] call_first

/-- a method's value -/
theorem q_bound {base : Nat} {i b : Nat} {ρ : Reg} {h : SHeap} {g : FuncId} (hv : ρ i = .func (.func g) #[.pointer (some ⟨b, 0, none⟩)] #[]) (hb : b < base) : callQ [.tmp i] base (.func (.func g) #[.pointer (some ⟨b, 0, none⟩)] #[], h.take base, []) .ret ρ [] h [] := by
  refine q_gcf hv ?_
  have ec : Nat.ble base b = false := by rw [ble_dec]; simpa using hb
  have ep : ptrs 3 (.func (.func g) #[.pointer (some ⟨b, 0, none⟩)] #[]) = [b] := rfl
  have e1 : reach base h 1000000 [b] [] = [] := by
    rw [show (1000000 : Nat) = 999998 + 1 + 1 from rfl, reach]
    simp only [ec, List.contains_nil, Bool.not_false, Bool.true_or, if_true]
    rw [reach]
  have e3 : ren base [] b = some b := by simp [ren, ec]
  unfold gcS
  simp only [ep, e1, mapO]
  simp [renV, mapO, e3]
theorem bound70 {h : SHeap} {b : Nat} (hb : b < h.length) : M.call 70 [.pointer (some ⟨b, 0, none⟩)] h = some (.func (.func 71) #[.pointer (some ⟨b, 0, none⟩)] #[], h, []) := by
  have : M.call 70 [.pointer (some ⟨b, 0, none⟩)] h = some (.func (.func 71) #[.pointer (some ⟨b, 0, none⟩)] #[], h.take h.length, []) := by
    refine call_run sf70 rfl rfl rfl ?_
    unfold sf70
    repeat (first | apply run_seq | apply run_block | apply end_seq | apply end_blk_hit | apply end_blk_miss rfl | apply end_blk | apply end_seq_exit | apply end_seq_ret | apply end_blk_ret | apply run_skip | apply run_ret | apply run_exit | (apply run_region (by decide); (simp only [go_sem, argR]; rfl)) | (refine run_cond_t ?_ ?_; · simp only [go_sem]) | (refine run_cond_f ?_ ?_; · simp only [go_sem]))
    exact end_nil (q_bound (by simp only [go_sem]) hb)
  rw [take_self] at this; exact this
/-- numbers from 0 on, as cells -/
def natV (L : List Nat) : List Value := (L.map fun (i : Nat) => (i : Int)).map mkI
theorem natV_app (L K : List Nat) : natV (L ++ K) = natV L ++ natV K := by simp [natV]
theorem natV_one (i : Nat) : natV [i] = [.int .i64 i] := rfl
theorem filter_succ (f : Nat → Bool) (i : Nat) : (List.range (i + 1)).filter f = (List.range i).filter f ++ (if f i = true then [i] else []) := by
  rw [List.range_succ, List.filter_append]
  congr 1
  by_cases e : f i = true <;> simp [e]
theorem filter_le (f : Nat → Bool) (i : Nat) : ((List.range i).filter f).length ≤ i := by
  have := List.length_filter_le f (List.range i)
  rwa [List.length_range] at this

theorem AccS.body {H0 h : SHeap} {v : Value} {cs : List Value} {n s : Nat} {el : TypeId} (A : AccS H0 h v cs n s el) {b cb c : Nat} {l : List (Int × Int)} {X Y D : Int} (hb : Body H0 b cb c l X Y D) : Body h b cb c l X Y D :=
  ⟨by rw [A.same b hb.lt]; exact hb.1, A.prs hb.2⟩

theorem those_loop (cx : Cx) {H : SHeap} {b cb c : Nat} {l : List (Int × Int)} {X Y D : Int} (hb : Body H b cb c l X Y D) (hn : l.length ≤ 12) (B : FuncId) (test : Nat → Bool)
    (hB : ∀ h i, Body h b cb c l X Y D → i < l.length → M.call B [.pointer (some ⟨b, 0, none⟩), .int .i64 (i : Nat)] h = some (.bool (test i), h, [])) :
    ∀ k ρ ms h' d', (∃ (i : Nat) (v : Value), i + k = l.length ∧ ρ 8 = .func (.func B) #[.pointer (some ⟨b, 0, none⟩)] #[] ∧ ρ 9 = v ∧ ρ 26 = .int .i64 l.length ∧ ρ 27 = .int .i64 i ∧ AccS H h' v (natV ((List.range i).filter test)) ((List.range i).filter test).length 1 3 ∧ ms = [] ∧ d' = []) →
    LoopW M cx 6 sf69L0 ρ ms h' d' (fun ex ρ' ms' h' d' => ex = .exit 0 ∧ ∃ v : Value, ρ' 9 = v ∧ AccS H h' v (natV ((List.range l.length).filter test)) ((List.range l.length).filter test).length 1 3 ∧ ms' = [] ∧ d' = []) := by
  refine loop_run _ ?_
  rintro k ρ ms h' d' ⟨i, v, hi, h8, h9, h26, h27, A, rfl, rfl⟩
  unfold sf69L0
  by_cases hk : k = 0
  · have e1 : ¬ ((i : Int) < l.length) := by omega
    have ei : i = l.length := by omega
    repeat (first | apply run_seq | apply run_block | apply end_seq | apply end_blk_hit | apply end_blk_miss rfl | apply end_blk | apply end_seq_exit | apply end_seq_ret | apply end_blk_ret | apply run_skip | apply run_ret | apply run_exit | (apply run_region (by decide); (simp only [go_sem, h26, h27, e1]; rfl)) | (refine run_cond_t ?_ ?_; · simp only [go_sem]) | (refine run_cond_f ?_ ?_; · simp only [go_sem]))
    refine end_nil ⟨rfl, v, ?_, ?_, rfl, rfl⟩
    · simp only [go_sem, h9]
    · rw [ei] at A; exact A
  · have e1 : (i : Int) < l.length := by omega
    have hil : i < l.length := by omega
    have ew : IntKind.i64.wrap ((i : Int) + 1) = ((i + 1 : Nat) : Int) := by rw [wrap64 (by omega) (by omega)]; rfl
    have cB := hB h' i (A.body hb) hil
    have hfs := filter_succ test i
    have hfl := filter_le test i
    cases ht : test i
    · rw [ht] at cB
      simp only [ht, Bool.false_eq_true, if_false, List.append_nil] at hfs
      repeat (first | apply run_seq | apply run_block | apply end_seq | apply end_blk_hit | apply end_blk_miss rfl | apply end_blk | apply end_seq_exit | apply end_seq_ret | apply end_blk_ret | apply run_skip | apply run_ret | apply run_exit | (apply run_region (by decide); (simp only [go_sem, h8, h9, h26, h27, e1, cB, ew]; rfl)) | (refine run_cond_t ?_ ?_; · simp only [go_sem]) | (refine run_cond_f ?_ ?_; · simp only [go_sem]))
      refine end_nil ⟨k - 1, by omega, i + 1, v, by omega, ?_, ?_, ?_, ?_, ?_, rfl, rfl⟩
      · simp only [go_sem, h8]
      · simp only [go_sem, h9]
      · simp only [go_sem, h26]
      · simp only [go_sem, ew]
      · rw [hfs]; exact A
    · rw [ht] at cB
      simp only [ht, if_true] at hfs
      have A2 := A.app [SO.cells [.int .i64 (i : Int)] 3 true 0 []]
      obtain ⟨H2, v2, ap, -, A3, -, -⟩ := A2.push (bytes := 8) (bs := h'.length) (el2 := 3) (pf2 := true) (own2 := 0) (old2 := []) (new := [.int .i64 (i : Int)]) (by rw [app_get0]; rfl) rfl rfl (by decide) rfl (by decide) (by omega)
      repeat (first | apply run_seq | apply run_block | apply end_seq | apply end_blk_hit | apply end_blk_miss rfl | apply end_blk | apply end_seq_exit | apply end_seq_ret | apply end_blk_ret | apply run_skip | apply run_ret | apply run_exit | (apply run_region (by decide); (simp only [go_sem, h8, h9, h26, h27, e1, cB, ap, ew]; rfl)) | (refine run_cond_t ?_ ?_; · simp only [go_sem]) | (refine run_cond_f ?_ ?_; · simp only [go_sem]))
      refine end_nil ⟨k - 1, by omega, i + 1, v2, by omega, ?_, ?_, ?_, ?_, ?_, rfl, rfl⟩
      · simp only [go_sem, h8]
      · simp only [go_sem]
      · simp only [go_sem, h26]
      · simp only [go_sem, ew]
      · rw [hfs, natV_app, natV_one, List.length_append]; exact A3

/-- those -/
theorem those69 {h : SHeap} {v : Value} {l : List (Int × Int)} (hv : PS h v l) (T : Tame l) (g B : FuncId) (test : Nat → Bool)
    (hg : ∀ h b, b < h.length → M.call g [.pointer (some ⟨b, 0, none⟩)] h = some (.func (.func B) #[.pointer (some ⟨b, 0, none⟩)] #[], h, []))
    (hB : ∀ h b cb c i, Body h b cb c l (mX l) (mY l) (mD l) → i < l.length → M.call B [.pointer (some ⟨b, 0, none⟩), .int .i64 (i : Nat)] h = some (.bool (test i), h, [])) :
    M.call 69 [v, .func (.func g) #[] #[]] h = some (.tuple #[resV h ((List.range l.length).filter test).length 1, .int .i64 0], resH h (natV ((List.range l.length).filter test)) ((List.range l.length).filter test).length 3, []) := by
  have c62 := open62' hv T
  have hb := opened_body h l
  have cg := hg (opened h l) h.length hb.lt
  have lb := hb.load
  refine call_run sf69 rfl rfl rfl ?_
  unfold sf69
  repeat (first | apply run_seq | apply run_block | apply end_seq | apply end_blk_hit | apply end_blk_miss rfl | apply end_blk | apply end_seq_exit | apply end_seq_ret | apply end_blk_ret | apply run_skip | apply run_ret | apply run_exit | (apply run_region (by decide); (simp only [go_sem, argR, c62, cg, lb]; rfl)) | (refine run_cond_t ?_ ?_; · simp only [go_sem]) | (refine run_cond_f ?_ ?_; · simp only [go_sem]))
  refine run_loop (those_loop _ hb T.hi B test (fun h' i h1 h2 => hB h' _ _ _ i h1 h2) l.length _ _ _ _ ⟨0, .slice none 0 0, by omega, by simp only [go_sem], by simp only [go_sem], by simp only [go_sem], by simp only [go_sem], AccS.nil0 (opened h l) 1 3, rfl, rfl⟩) ?_
  rintro ex ρ' ms' h1 d1 ⟨rfl, v5, k5, A, rfl, rfl⟩
  unfold opened at A
  repeat (first | apply run_seq | apply run_block | apply end_seq | apply end_blk_hit | apply end_blk_miss rfl | apply end_blk | apply end_seq_exit | apply end_seq_ret | apply end_blk_ret | apply run_skip | apply run_ret | apply run_exit | (apply run_region (by decide); (simp only [go_sem, k5]; rfl)) | (refine run_cond_t ?_ ?_; · simp only [go_sem]) | (refine run_cond_f ?_ ?_; · simp only [go_sem]))
  refine end_nil (A.q2 (.int .i64 0) rfl rfl ?_ ?_ rfl)
  · simp only [go_sem, k5]
  · simp only [go_sem]
end Go.Proofs.Ytecncmmkghmojaa.Sh

