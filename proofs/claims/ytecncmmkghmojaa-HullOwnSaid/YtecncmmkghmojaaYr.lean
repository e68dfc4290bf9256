/- HullOwn: the law. -/
import Derived.Test.YtecncmmkghmojaaYq
set_option linter.all false
namespace Go.Proofs.Ytecncmmkghmojaa.Geo
open Sh
theorem wrapGo_len (l : List Pt) (f : Pt) : ∀ (k : Nat) (acc : List Pt) (a : Pt), acc.length ≤ (wrapGo l f k acc a).length
  | 0, acc, a => Nat.le_refl _
  | k + 1, acc, a => by
    unfold wrapGo
    split
    · exact Nat.le_refl _
    · have := wrapGo_len l f k (acc ++ [scan a l]) (scan a l)
      simp at this
      omega
theorem para_tri {u v w : Pt} (h : u ≠ (0, 0)) (h1 : crs u v = 0) (h2 : crs u w = 0) : crs v w = 0 := by
  have id : dot u u * crs v w = dot u v * crs u w - dot u w * crs u v := by simp only [crs, dot]; grind
  rw [h1, h2, Int.mul_zero, Int.mul_zero] at id
  have := dot_pos h
  rcases Int.mul_eq_zero.1 (show dot u u * crs v w = 0 by omega) with e | e
  · omega
  · exact e
/-- a hull wrapped is a hull -/
theorem hull_wrap {l : List Pt} (hW : HullP l) (h3 : 3 ≤ l.length) : 3 ≤ (wrap l).length := by
  have hne : l ≠ [] := by intro e; rw [e] at h3; simp at h3
  have t := hW 0 2 _ _ _ (cn_get (by omega)) (by rw [Nat.mod_eq_of_lt (by omega)]; exact cn_get (by omega)) (cn_get (by omega)) (by omega) (by rw [Nat.mod_eq_of_lt (by omega)]; omega)
  have m0 : cn l 0 ∈ l := List.mem_of_getElem? (cn_get (by omega))
  have m1 : cn l 1 ∈ l := List.mem_of_getElem? (cn_get (by omega))
  have m2 : cn l 2 ∈ l := List.mem_of_getElem? (cn_get (by omega))
  rw [show 0 + 1 = 1 from rfl] at t
  generalize cn l 0 = p at *
  generalize cn l 1 = q at *
  generalize cn l 2 = r at *
  obtain ⟨f, hff⟩ : ∃ f, f = least l (l.headD (0, 0)) := ⟨_, rfl⟩
  have hw : wrap l = wrapGo l f l.length [f] f := by rw [hff]; rfl
  obtain ⟨s1, s2, s3⟩ := least_spec l (l.headD (0, 0))
  rw [← hff] at s1 s2 s3
  have hfm : f ∈ l := by
    rcases s1 with s | s
    · rw [s]
      cases l with
      | nil => exact (hne rfl).elim
      | cons x y => simp
    · exact s
  have h2 : 2 ≤ (wrap l).length := by
    rw [hw]
    obtain ⟨n, hn⟩ : ∃ n, l.length = n + 1 := ⟨l.length - 1, by omega⟩
    rw [hn, wrapGo]
    by_cases c : scan f l = f
    · exfalso
      obtain ⟨d, hd⟩ := ring_hp s3 (ring_one hfm)
      rcases scan_sup hd with ⟨_, h2⟩ | hs
      · rw [h2 p m0, h2 q m1, h2 r m2] at t
        simp [turn] at t
      · exact hs.1 c
    · rw [if_neg (fun h => by rcases h with h | h <;> exact c h)]
      have := wrapGo_len l f n ([f] ++ [scan f l]) (scan f l)
      simp at this ⊢
      omega
  by_cases h : 3 ≤ (wrap l).length
  · exact h
  · exfalso
    obtain ⟨f', a, hl, R, hs⟩ := wrap_ring hne h2
    have hlen : (wrap l).length = 2 := by omega
    generalize wrap l = W at *
    obtain ⟨x, y, rfl⟩ : ∃ x y, W = [x, y] := by
      cases W with
      | nil => simp at hlen
      | cons x W =>
        cases W with
        | nil => simp at hlen
        | cons y W =>
          cases W with
          | nil => exact ⟨x, y, rfl⟩
          | cons z W => simp at hlen
    have e1 := R.head
    have e2 := R.last
    simp at e1 e2
    subst e1 e2
    have s0 := R.sup 0 x y rfl rfl
    have key : ∀ z ∈ l, crs (sub y x) (sub z x) = 0 := by
      intro z hz
      have a1 : 0 ≤ crs (sub y x) (sub z x) := by
        by_cases e : z = x
        · rw [e]; simp only [crs, sub]; grind
        · rcases s0.2.2 z hz e with h | h <;> omega
      have a2 : 0 ≤ crs (sub x y) (sub z y) := by
        by_cases e : z = y
        · rw [e]; simp only [crs, sub]; grind
        · rcases hs.2.2 z hz e with h | h <;> omega
      have : crs (sub x y) (sub z y) = - crs (sub y x) (sub z x) := by simp only [crs, sub]; grind
      omega
    have hu := sub_ne s0.1
    have z1 := key p m0
    have z2 := key q m1
    have z3 := key r m2
    have c1 : crs (sub y x) (sub q p) = 0 := by have : crs (sub y x) (sub q p) = crs (sub y x) (sub q x) - crs (sub y x) (sub p x) := by { simp only [crs, sub]; grind }; omega
    have c2 : crs (sub y x) (sub r p) = 0 := by have : crs (sub y x) (sub r p) = crs (sub y x) (sub r x) - crs (sub y x) (sub p x) := by { simp only [crs, sub]; grind }; omega
    have := para_tri hu c1 c2
    rw [turn_crs] at t
    omega
end Go.Proofs.Ytecncmmkghmojaa.Geo
namespace Go.Proofs.Ytecncmmkghmojaa.Sh
open Go Geo
set_option maxRecDepth 100000

theorem set_same {H : SHeap} {b : Nat} {z : SO} (h : H[b]? = some z) : H.set b z = H := by
  apply List.ext_getElem?
  intro j
  by_cases e : j = b
  · subst e; rw [List.getElem?_set_self (List.getElem?_eq_some_iff.1 h).1, h]
  · rw [List.getElem?_set_ne (by omega)]

theorem own_loop1 (cx : Cx) {H : SHeap} {b c n : Nat} (hb : b < H.length) (hn : n ≤ 1000) (ρ0 : Reg) (hr : ρ0 7 = .slice (some ⟨b, 0, none⟩) n c) :
    ∀ k ρ ms h' d', (∃ (i : Nat) (Y : List Value), i + k = n ∧ ρ 13 = .int .i64 i ∧ Y.length = n * 2 ∧ h' = H.set b (.cells Y 53 true 0 []) ∧ (∀ r, r < 13 → ρ r = ρ0 r) ∧ ms = [] ∧ d' = []) →
    LoopW M cx 7 sf17L2 ρ ms h' d' (fun ex ρ' ms' h' d' => ex = .exit 0 ∧ (∀ r, r < 13 → ρ' r = ρ0 r) ∧ (∃ Y : List Value, h' = H.set b (.cells Y 53 true 0 [])) ∧ ms' = [] ∧ d' = []) := by
  refine loop_run _ ?_
  rintro k ρ ms h' d' ⟨i, Y, hi, h13, hY, rfl, K, rfl, rfl⟩
  unfold sf17L2
  have h7 : ρ 7 = _ := (K 7 (by omega)).trans hr
  by_cases hk : k = 0
  · have e1 : ¬ ((i : Int) < n) := by omega
    repeat (first | apply run_seq | apply run_block | apply end_seq | apply end_blk_hit | apply end_blk_miss rfl | apply end_blk | apply end_seq_exit | apply end_seq_ret | apply end_blk_ret | apply run_skip | apply run_ret | apply run_exit | (apply run_region (by decide); (simp only [go_sem, h7, h13, e1]; rfl)) | (refine run_cond_t ?_ ?_; · simp only [go_sem]) | (refine run_cond_f ?_ ?_; · simp only [go_sem]))
    refine end_nil ⟨rfl, fun r hr => ?_, ⟨Y, rfl⟩, rfl, rfl⟩
    repeat rw [upd_ne _ _ (by omega)]
    exact K r hr
  · have e1 : (i : Int) < n := by omega
    have e0 : (0 : Int) ≤ i := by omega
    have ew : IntKind.i64.wrap ((i : Int) + 1) = ((i + 1 : Nat) : Int) := by rw [wrap64 (by omega) (by omega)]; rfl
    have hset : ∀ z : SO, (H.set b z)[b]? = some z := fun z => List.getElem?_set_self hb
    have e6 : i * 2 + 2 ≤ Y.length := by omega
    repeat (first | apply run_seq | apply run_block | apply end_seq | apply end_blk_hit | apply end_blk_miss rfl | apply end_blk | apply end_seq_exit | apply end_seq_ret | apply end_blk_ret | apply run_skip | apply run_ret | apply run_exit | (apply run_region (by decide); (simp only [go_sem, h7, h13, e0, e1, hset, List.set_set, e6, Int.toNat_natCast, ew]; rfl)) | (refine run_cond_t ?_ ?_; · simp only [go_sem]) | (refine run_cond_f ?_ ?_; · simp only [go_sem]))
    refine end_nil ⟨k - 1, by omega, i + 1, (Y.set (i * 2) (.int .i64 99)).set (i * 2 + 1) (.int .i64 99), by omega, ?_, by simp [hY], ?_, fun r hr => ?_, rfl, rfl⟩
    · simp only [go_sem, ew]
    · rfl
    · repeat rw [upd_ne _ _ (by omega)]
      exact K r hr
theorem own_loop3 (cx : Cx) {H : SHeap} {b c n : Nat} (hb : b < H.length) (hn : n ≤ 1000) (ρ0 : Reg) (hr : ρ0 11 = .slice (some ⟨b, 0, none⟩) n c) :
    ∀ k ρ ms h' d', (∃ (i : Nat) (Y : List Value), i + k = n ∧ ρ 15 = .int .i64 i ∧ Y.length = n * 2 ∧ h' = H.set b (.cells Y 53 true 0 []) ∧ (∀ r, r < 13 → ρ r = ρ0 r) ∧ ms = [] ∧ d' = []) →
    LoopW M cx 7 sf17L0 ρ ms h' d' (fun ex ρ' ms' h' d' => ex = .exit 4 ∧ (∀ r, r < 13 → ρ' r = ρ0 r) ∧ (∃ Y : List Value, h' = H.set b (.cells Y 53 true 0 [])) ∧ ms' = [] ∧ d' = []) := by
  refine loop_run _ ?_
  rintro k ρ ms h' d' ⟨i, Y, hi, h13, hY, rfl, K, rfl, rfl⟩
  unfold sf17L0
  have h7 : ρ 11 = _ := (K 11 (by omega)).trans hr
  by_cases hk : k = 0
  · have e1 : ¬ ((i : Int) < n) := by omega
    repeat (first | apply run_seq | apply run_block | apply end_seq | apply end_blk_hit | apply end_blk_miss rfl | apply end_blk | apply end_seq_exit | apply end_seq_ret | apply end_blk_ret | apply run_skip | apply run_ret | apply run_exit | (apply run_region (by decide); (simp only [go_sem, h7, h13, e1]; rfl)) | (refine run_cond_t ?_ ?_; · simp only [go_sem]) | (refine run_cond_f ?_ ?_; · simp only [go_sem]))
    refine end_nil ⟨rfl, fun r hr => ?_, ⟨Y, rfl⟩, rfl, rfl⟩
    repeat rw [upd_ne _ _ (by omega)]
    exact K r hr
  · have e1 : (i : Int) < n := by omega
    have e0 : (0 : Int) ≤ i := by omega
    have ew : IntKind.i64.wrap ((i : Int) + 1) = ((i + 1 : Nat) : Int) := by rw [wrap64 (by omega) (by omega)]; rfl
    have hset : ∀ z : SO, (H.set b z)[b]? = some z := fun z => List.getElem?_set_self hb
    have e6 : i * 2 + 2 ≤ Y.length := by omega
    repeat (first | apply run_seq | apply run_block | apply end_seq | apply end_blk_hit | apply end_blk_miss rfl | apply end_blk | apply end_seq_exit | apply end_seq_ret | apply end_blk_ret | apply run_skip | apply run_ret | apply run_exit | (apply run_region (by decide); (simp only [go_sem, h7, h13, e0, e1, hset, List.set_set, e6, Int.toNat_natCast, ew]; rfl)) | (refine run_cond_t ?_ ?_; · simp only [go_sem]) | (refine run_cond_f ?_ ?_; · simp only [go_sem]))
    refine end_nil ⟨k - 1, by omega, i + 1, (Y.set (i * 2) (.int .i64 99)).set (i * 2 + 1) (.int .i64 99), by omega, ?_, by simp [hY], ?_, fun r hr => ?_, rfl, rfl⟩
    · simp only [go_sem, ew]
    · rfl
    · repeat rw [upd_ne _ _ (by omega)]
      exact K r hr
theorem own_loop2 (cx : Cx) {H : SHeap} {b c n : Nat} (hb : b < H.length) (hn : n ≤ 1000) (ρ0 : Reg) (hr : ρ0 9 = .slice (some ⟨b, 0, none⟩) n c) :
    ∀ k ρ ms h' d', (∃ (i : Nat) (Y : List Value), i + k = n ∧ ρ 14 = .int .i64 i ∧ Y.length = n ∧ h' = H.set b (.cells Y 3 true 0 []) ∧ (∀ r, r < 13 → ρ r = ρ0 r) ∧ ms = [] ∧ d' = []) →
    LoopW M cx 7 sf17L1 ρ ms h' d' (fun ex ρ' ms' h' d' => ex = .exit 2 ∧ (∀ r, r < 13 → ρ' r = ρ0 r) ∧ (∃ Y : List Value, h' = H.set b (.cells Y 3 true 0 [])) ∧ ms' = [] ∧ d' = []) := by
  refine loop_run _ ?_
  rintro k ρ ms h' d' ⟨i, Y, hi, h13, hY, rfl, K, rfl, rfl⟩
  unfold sf17L1
  have h7 : ρ 9 = _ := (K 9 (by omega)).trans hr
  by_cases hk : k = 0
  · have e1 : ¬ ((i : Int) < n) := by omega
    repeat (first | apply run_seq | apply run_block | apply end_seq | apply end_blk_hit | apply end_blk_miss rfl | apply end_blk | apply end_seq_exit | apply end_seq_ret | apply end_blk_ret | apply run_skip | apply run_ret | apply run_exit | (apply run_region (by decide); (simp only [go_sem, h7, h13, e1]; rfl)) | (refine run_cond_t ?_ ?_; · simp only [go_sem]) | (refine run_cond_f ?_ ?_; · simp only [go_sem]))
    refine end_nil ⟨rfl, fun r hr => ?_, ⟨Y, rfl⟩, rfl, rfl⟩
    repeat rw [upd_ne _ _ (by omega)]
    exact K r hr
  · have e1 : (i : Int) < n := by omega
    have e0 : (0 : Int) ≤ i := by omega
    have ew : IntKind.i64.wrap ((i : Int) + 1) = ((i + 1 : Nat) : Int) := by rw [wrap64 (by omega) (by omega)]; rfl
    have hset : ∀ z : SO, (H.set b z)[b]? = some z := fun z => List.getElem?_set_self hb
    have e6 : i + 1 ≤ Y.length := by omega
    repeat (first | apply run_seq | apply run_block | apply end_seq | apply end_blk_hit | apply end_blk_miss rfl | apply end_blk | apply end_seq_exit | apply end_seq_ret | apply end_blk_ret | apply run_skip | apply run_ret | apply run_exit | (apply run_region (by decide); (simp only [go_sem, h7, h13, e0, e1, hset, List.set_set, e6, Int.toNat_natCast, ew]; rfl)) | (refine run_cond_t ?_ ?_; · simp only [go_sem]) | (refine run_cond_f ?_ ?_; · simp only [go_sem]))
    refine end_nil ⟨k - 1, by omega, i + 1, Y.set i (.int .i64 (-7)), by omega, ?_, by simp [hY], ?_, fun r hr => ?_, rfl, rfl⟩
    · simp only [go_sem, ew]
    · rfl
    · repeat rw [upd_ne _ _ (by omega)]
      exact K r hr

/-- own of the law's chapter, of a hull -/
theorem own46t {h : SHeap} {b c : Nat} {T : List (Int × Int)} (hp : Prs h b 0 T) (h1 : 1 ≤ T.length) (h2 : T.length ≤ 12) (hc : c = UNK + 2 ∨ (c < UNK ∧ T.length ≤ c)) :
    M.call 46 [.slice (some ⟨b, 0, none⟩) T.length c] h = some (.slice (some ⟨h.length, 0, none⟩) T.length (UNK + 2), h ++ [blk T], []) := by
  have hs : sliceS 2 (.slice (some ⟨b, 0, none⟩) T.length c) none (some (.int .i64 (T.length : Int))) none = some (.slice (some ⟨b, 0, none⟩) T.length c) := by
    rcases hc with rfl | ⟨k1, k2⟩
    · exact slice_to (Nat.le_refl _)
    · exact slice_from0 (Nat.le_refl _) k2 k1 (.inr ⟨_, _, rfl⟩)
  have hap : ∀ (base : Nat) (d : List Nat), appendS base h d 53 true 2 16 (.slice none 0 0) (.slice (some ⟨b, 0, none⟩) T.length c) = some (.slice (some ⟨h.length, 0, none⟩) T.length (UNK + 2), h ++ [.cells (prs (T.take T.length)) 53 true 0 []], d) :=
    fun base d => append_prs hp (Nat.le_refl _) (by omega) (by omega)
  rw [List.take_length] at hap
  have m1 : ¬ ((13 : Int) < (T.length : Int)) := by omega
  have m2 : (T.length : Int) < 13 := by omega
  refine call_run sf46 rfl rfl rfl ?_
  generalize T.length = n at *
  unfold sf46
  repeat (first | apply run_seq | apply run_block | apply end_seq | apply end_blk_hit | apply end_blk_miss rfl | apply end_blk | apply end_seq_exit | apply end_seq_ret | apply end_blk_ret | apply run_skip | apply run_ret | apply run_exit | (apply run_region (by decide); (simp only [go_sem, argR, m1, m2, hs, hap]; rfl)) | (refine run_cond_t ?_ ?_; · simp only [go_sem]) | (refine run_cond_f ?_ ?_; · simp only [go_sem]))
  refine end_nil (q_gc1 (by (simp only [go_sem]) <;> rfl) ?_)
  exact gc_block (j := 0) (own := 0) (old := []) rfl rfl

theorem set_app2 (h : SHeap) (a b c x : SO) (r : SHeap) : (h ++ a :: b :: c :: r).set (h.length + 2) x = h ++ a :: b :: x :: r := by
  rw [List.set_append_right _ _ (by omega), Nat.add_sub_cancel_left]; rfl
theorem set_app3 (h : SHeap) (a b c e x : SO) (r : SHeap) : (h ++ a :: b :: c :: e :: r).set (h.length + 3) x = h ++ a :: b :: c :: x :: r := by
  rw [List.set_append_right _ _ (by omega), Nat.add_sub_cancel_left]; rfl
theorem set_app4 (h : SHeap) (a b c e f x : SO) (r : SHeap) : (h ++ a :: b :: c :: e :: f :: r).set (h.length + 4) x = h ++ a :: b :: c :: e :: x :: r := by
  rw [List.set_append_right _ _ (by omega), Nat.add_sub_cancel_left]; rfl

/-- HullOwn on the shadow machine -/
theorem law17 {h : SHeap} {v : Value} {l : List (Int × Int)} (hv : ArgS h v l) (z : Int) : M.call 17 [v, .int .i64 z] h = some (.bool true, h, []) := by
  obtain ⟨T, c, tm, hc, c18⟩ := tame18 hv z
  have hlo := tm.lo
  have hhi := tm.hi
  have len : ∀ g : List SO, (h ++ g).length = h.length + g.length := fun g => List.length_append
  have px : ∀ g, PS (h ++ blk T :: g) (.slice (some ⟨h.length, 0, none⟩) T.length c) T := fun g => ⟨_, _, rfl, fun _ => ⟨_, _, rfl, Prs.mk0 (by rw [app_get0]; rfl) rfl⟩⟩
  have py : ∀ a g, PS (h ++ a :: blk T :: g) (.slice (some ⟨h.length + 1, 0, none⟩) T.length (UNK + 2)) T := fun a g => PS.mk0 (el := 53) (by rw [app_get]; rfl) rfl
  have c46 := own46t (h := h ++ [blk T]) (b := h.length) (c := c) (T := T) (Prs.mk0 (by rw [app_get0]; rfl) rfl) (by omega) hhi hc
  rw [len, List.append_assoc] at c46
  have c32 := turned32 (px [blk T]) tm
  rw [len, List.append_assoc] at c32
  -- rests are there
  have hR2 : 2 ≤ (those T (tRest T)).length := by
    have n1 := tm.two_firm
    have n3 : (those T (tFirm T)).length ≤ (those T (tRest T)).length := (filter_lt (List.range T.length) (fun x _ hf => firm_rest T x hf)).1
    omega
  have hRl := those_len T (tRest T)
  have r27 : ∀ g, M.call 27 [.slice (some ⟨h.length, 0, none⟩) T.length c] (h ++ blk T :: g) = some (.tuple #[.slice (some ⟨h.length + (g.length + 1), 0, none⟩) (those T (tRest T)).length (UNK + 1), .int .i64 0], h ++ blk T :: (g ++ [.cells (natV (those T (tRest T))) 3 true 0 []]), []) := by
    intro g
    have := rests27 (px g) tm (tRest T) (fun _ => rfl)
    change M.call 27 _ _ = some (.tuple #[resV _ (those T (tRest T)).length 1, .int .i64 0], resH _ (natV (those T (tRest T))) (those T (tRest T)).length 3, []) at this
    rw [resV, resH, if_neg (by omega), if_neg (by omega), len, List.append_assoc] at this
    exact this
  have c56 : ∀ g, M.call 56 [.slice (some ⟨h.length, 0, none⟩) T.length c] (h ++ blk T :: g) = some (.tuple #[.slice (some ⟨h.length + (g.length + 1), 0, none⟩) (wrap T).length (UNK + 2), .int .i64 0], h ++ blk T :: (g ++ [blk (wrap T)]), []) := by
    intro g
    have := around56 (px g) (tame_B tm)
    rw [if_pos (hull_wrap tm.hull hlo), len, List.append_assoc] at this
    exact this
  have hwl : (wrap T).length ≤ 1000 := by have := (wrap_spec (l := T) (by intro e; rw [e] at hlo; simp at hlo)).2.1; omega
  have r32 : ∀ g, M.call 32 [.slice (some ⟨h.length, 0, none⟩) T.length c] (h ++ blk T :: g) = some (.tuple #[.slice (some ⟨h.length + (g.length + 1), 0, none⟩) T.length (UNK + 2), .int .i64 0], h ++ blk T :: (g ++ [blk (T.map trn)]), []) := by
    intro g
    have := turned32 (px g) tm
    rw [len, List.append_assoc] at this
    exact this
  have r34 : ∀ a g, M.call 34 [.slice (some ⟨h.length + 1, 0, none⟩) T.length (UNK + 2)] (h ++ a :: blk T :: g) = some (.slice (some ⟨h.length + (g.length + 1 + 1), 0, none⟩) T.length (UNK + 2), h ++ a :: blk T :: (g ++ [blk (T.map trn)]), []) := by
    intro a g
    have := turnedR34 (py a g) tm
    rw [len, List.append_assoc] at this
    exact this
  have r40 : ∀ a g, M.call 40 [.slice (some ⟨h.length + 1, 0, none⟩) T.length (UNK + 2), .bool false] (h ++ a :: blk T :: g) = some (.slice (some ⟨h.length + (g.length + 1 + 1), 0, none⟩) (those T (tRest T)).length (UNK + 1), h ++ a :: blk T :: (g ++ [.cells (natV (those T (tRest T))) 3 true 0 []]), []) := by
    intro a g
    have := restsR40 (py a g) tm false (tRest T) (fun _ => rfl)
    change M.call 40 _ _ = some (resV _ (those T (tRest T)).length 1, resH _ (natV (those T (tRest T))) (those T (tRest T)).length 3, []) at this
    rw [resV, resH, if_neg (by omega), if_neg (by omega), len, List.append_assoc] at this
    exact this
  have isR : ∀ (pre g : SHeap), IS (pre ++ .cells (natV (those T (tRest T))) 3 true 0 [] :: g) (.slice (some ⟨pre.length, 0, none⟩) (those T (tRest T)).length (UNK + 1)) ((those T (tRest T)).map fun (i : Nat) => (i : Int)) := by
    intro pre g
    have := IS.ofRes pre g (those T (tRest T)) 3
    rw [resH, resV, if_neg (by omega), if_neg (by omega), List.append_assoc] at this
    exact this
  have hRm : ((those T (tRest T)).map fun (i : Nat) => (i : Int)).length < 4611686018427387904 := by rw [List.length_map]; omega
  have hnv : (natV (those T (tRest T))).length = (those T (tRest T)).length := by simp [natV]
  have htr : (T.map trn).length = T.length := List.length_map ..
  have hpt : (prs (T.map trn)).length = T.length * 2 := by rw [prs_len, htr]; omega
  have hpw : (prs (wrap T)).length = (wrap T).length * 2 := by rw [prs_len]; omega
  generalize hV : (those T (tRest T)).map (fun (i : Nat) => (i : Int)) = V at *
  generalize natV (those T (tRest T)) = R at *
  generalize (those T (tRest T)).length = nr at *
  generalize hU : T.map trn = U at *
  have e1 : M.call 46 [.slice (some ⟨h.length, 0, none⟩) T.length c] (h ++ [blk T]) = some (.slice (some ⟨h.length + 1, 0, none⟩) T.length (UNK + 2), h ++ [blk T, blk T], []) := c46
  have e2 : M.call 32 [.slice (some ⟨h.length, 0, none⟩) T.length c] (h ++ [blk T, blk T]) = some (.tuple #[.slice (some ⟨h.length + 2, 0, none⟩) T.length (UNK + 2), .int .i64 0], h ++ [blk T, blk T, blk U], []) := r32 [blk T]
  have e3 : M.call 27 [.slice (some ⟨h.length, 0, none⟩) T.length c] (h ++ [blk T, blk T, blk U]) = some (.tuple #[.slice (some ⟨h.length + 3, 0, none⟩) nr (UNK + 1), .int .i64 0], h ++ [blk T, blk T, blk U, .cells R 3 true 0 []], []) := r27 [blk T, blk U]
  have e4 : M.call 56 [.slice (some ⟨h.length, 0, none⟩) T.length c] (h ++ [blk T, blk T, blk U, .cells R 3 true 0 []]) = some (.tuple #[.slice (some ⟨h.length + 4, 0, none⟩) (wrap T).length (UNK + 2), .int .i64 0], h ++ [blk T, blk T, blk U, .cells R 3 true 0 [], blk (wrap T)], []) := c56 [blk T, blk U, .cells R 3 true 0 []]
  generalize hw : wrap T = W at *
  refine call_run sf17 rfl rfl rfl ?_
  unfold sf17
  repeat (first | apply run_seq | apply run_block | apply end_seq | apply end_blk_hit | apply end_blk_miss rfl | apply end_blk | apply end_seq_exit | apply end_seq_ret | apply end_blk_ret | apply run_skip | apply run_ret | apply run_exit | (apply run_region (by decide); (simp only [go_sem, argR, c18, e1, e2, e3, e4]; rfl)) | (refine run_cond_t ?_ ?_; · simp only [go_sem]) | (refine run_cond_f ?_ ?_; · simp only [go_sem]))
  refine run_loop (own_loop1 _ (H := h ++ [blk T, blk T, blk U, .cells R 3 true 0 [], blk W]) (b := h.length + 2) (c := UNK + 2) (n := T.length) (by rw [len]; simp) (by omega) _ (by simp only [go_sem]) T.length _ _ _ _ ⟨0, prs U, by omega, by (simp only [go_sem]) <;> rfl, hpt, (set_same (by rw [app_get]; rfl)).symm, fun _ _ => rfl, rfl, rfl⟩) ?_
  rintro ex ρ1 ms1 h1 d1 ⟨rfl, K1, ⟨Y1, rfl⟩, rfl, rfl⟩
  have k5 := K1 5 (by omega)
  have k6 := K1 6 (by omega)
  have k8 := K1 8 (by omega)
  have k9 := K1 9 (by omega)
  have k10 := K1 10 (by omega)
  have k11 := K1 11 (by omega)
  have k12 := K1 12 (by omega)
  simp only [go_sem] at k5 k6 k8 k9 k10 k11 k12
  clear K1
  rw [set_app2]
  repeat (first | apply run_seq | apply run_block | apply end_seq | apply end_blk_hit | apply end_blk_miss rfl | apply end_blk | apply end_seq_exit | apply end_seq_ret | apply end_blk_ret | apply run_skip | apply run_ret | apply run_exit | (apply run_region (by decide); (simp only [go_sem]; rfl)) | (refine run_cond_t ?_ ?_; · simp only [go_sem]) | (refine run_cond_f ?_ ?_; · simp only [go_sem]))
  refine run_loop (own_loop2 _ (H := h ++ [blk T, blk T, .cells Y1 53 true 0 [], .cells R 3 true 0 [], blk W]) (b := h.length + 3) (c := UNK + 1) (n := nr) (by rw [len]; simp) (by omega) _ (by simp only [go_sem, k9]) nr _ _ _ _ ⟨0, R, by omega, by (simp only [go_sem]) <;> rfl, hnv, (set_same (by rw [app_get]; rfl)).symm, fun _ _ => rfl, rfl, rfl⟩) ?_
  rintro ex ρ2 ms2 h2 d2 ⟨rfl, K2, ⟨Y2, rfl⟩, rfl, rfl⟩
  have j5 := K2 5 (by omega)
  have j6 := K2 6 (by omega)
  have j8 := K2 8 (by omega)
  have j10 := K2 10 (by omega)
  have j11 := K2 11 (by omega)
  have j12 := K2 12 (by omega)
  simp only [go_sem, k5, k6, k8, k10, k11, k12] at j5 j6 j8 j10 j11 j12
  clear K2 k5 k6 k8 k9 k10 k11 k12
  rw [set_app3]
  repeat (first | apply run_seq | apply run_block | apply end_seq | apply end_blk_hit | apply end_blk_miss rfl | apply end_blk | apply end_seq_exit | apply end_seq_ret | apply end_blk_ret | apply run_skip | apply run_ret | apply run_exit | (apply run_region (by decide); (simp only [go_sem]; rfl)) | (refine run_cond_t ?_ ?_; · simp only [go_sem]) | (refine run_cond_f ?_ ?_; · simp only [go_sem]))
  refine run_loop (own_loop3 _ (H := h ++ [blk T, blk T, .cells Y1 53 true 0 [], .cells Y2 3 true 0 [], blk W]) (b := h.length + 4) (c := UNK + 2) (n := W.length) (by rw [len]; simp) hwl _ (by simp only [go_sem, j11]) W.length _ _ _ _ ⟨0, prs W, by omega, by (simp only [go_sem]) <;> rfl, hpw, (set_same (by rw [app_get]; rfl)).symm, fun _ _ => rfl, rfl, rfl⟩) ?_
  rintro ex ρ3 ms3 h3 d3 ⟨rfl, K3, ⟨Y3, rfl⟩, rfl, rfl⟩
  have i5 := K3 5 (by omega)
  have i6 := K3 6 (by omega)
  have i8 := K3 8 (by omega)
  have i10 := K3 10 (by omega)
  have i12 := K3 12 (by omega)
  simp only [go_sem, j5, j6, j8, j10, j12] at i5 i6 i8 i10 i12
  clear K3 j5 j6 j8 j10 j11 j12
  rw [set_app4]
  generalize SO.cells Y1 53 true 0 [] = A1 at *
  generalize SO.cells Y2 3 true 0 [] = A2 at *
  generalize SO.cells Y3 53 true 0 [] = A3 at *
  have f1 : M.call 27 [.slice (some ⟨h.length, 0, none⟩) T.length c] (h ++ [blk T, blk T, A1, A2, A3]) = some (.tuple #[.slice (some ⟨h.length + 5, 0, none⟩) nr (UNK + 1), .int .i64 0], h ++ [blk T, blk T, A1, A2, A3, .cells R 3 true 0 []], []) := r27 [blk T, A1, A2, A3]
  have f2 : M.call 32 [.slice (some ⟨h.length, 0, none⟩) T.length c] (h ++ [blk T, blk T, A1, A2, A3, .cells R 3 true 0 []]) = some (.tuple #[.slice (some ⟨h.length + 6, 0, none⟩) T.length (UNK + 2), .int .i64 0], h ++ [blk T, blk T, A1, A2, A3, .cells R 3 true 0 [], blk U], []) := r32 [blk T, A1, A2, A3, .cells R 3 true 0 []]
  have f3 := pairs33 (px [blk T, A1, A2, A3, .cells R 3 true 0 [], blk U]) (py (blk T) [A1, A2, A3, .cells R 3 true 0 [], blk U]) (by omega)
  have f4 : M.call 40 [.slice (some ⟨h.length + 1, 0, none⟩) T.length (UNK + 2), .bool false] (h ++ [blk T, blk T, A1, A2, A3, .cells R 3 true 0 [], blk U]) = some (.slice (some ⟨h.length + 7, 0, none⟩) nr (UNK + 1), h ++ [blk T, blk T, A1, A2, A3, .cells R 3 true 0 [], blk U, .cells R 3 true 0 []], []) := r40 (blk T) [A1, A2, A3, .cells R 3 true 0 [], blk U]
  have i1 : IS (h ++ [blk T, blk T, A1, A2, A3, .cells R 3 true 0 [], blk U, .cells R 3 true 0 []]) (.slice (some ⟨h.length + 5, 0, none⟩) nr (UNK + 1)) V := by
    have := isR (h ++ [blk T, blk T, A1, A2, A3]) [blk U, .cells R 3 true 0 []]
    rw [len, List.append_assoc] at this
    exact this
  have i2 : IS (h ++ [blk T, blk T, A1, A2, A3, .cells R 3 true 0 [], blk U, .cells R 3 true 0 []]) (.slice (some ⟨h.length + 7, 0, none⟩) nr (UNK + 1)) V := by
    have := isR (h ++ [blk T, blk T, A1, A2, A3, .cells R 3 true 0 [], blk U]) []
    rw [len, List.append_assoc] at this
    exact this
  have f5 := ints39 i1 i2 hRm
  have f6 : M.call 34 [.slice (some ⟨h.length + 1, 0, none⟩) T.length (UNK + 2)] (h ++ [blk T, blk T, A1, A2, A3, .cells R 3 true 0 [], blk U, .cells R 3 true 0 []]) = some (.slice (some ⟨h.length + 8, 0, none⟩) T.length (UNK + 2), h ++ [blk T, blk T, A1, A2, A3, .cells R 3 true 0 [], blk U, .cells R 3 true 0 [], blk U], []) := r34 (blk T) [A1, A2, A3, .cells R 3 true 0 [], blk U, .cells R 3 true 0 []]
  have f7 := pairs33 (h := h ++ [blk T, blk T, A1, A2, A3, .cells R 3 true 0 [], blk U, .cells R 3 true 0 [], blk U]) (v := .slice (some ⟨h.length + 6, 0, none⟩) T.length (UNK + 2)) (w := .slice (some ⟨h.length + 8, 0, none⟩) T.length (UNK + 2)) (a := U) (b := U) (PS.mk0 (el := 53) (by rw [app_get]; rfl) htr.symm) (PS.mk0 (el := 53) (by rw [app_get]; rfl) htr.symm) (by omega)
  rw [decide_eq_true rfl] at f3 f5 f7
  generalize SO.cells R 3 true 0 [] = B at *
  repeat (first | apply run_seq | apply run_block | apply end_seq | apply end_blk_hit | apply end_blk_miss rfl | apply end_blk | apply end_seq_exit | apply end_seq_ret | apply end_blk_ret | apply run_skip | apply run_ret | apply run_exit | (apply run_region (by decide); (simp only [go_sem, i5, i6, i8, i10, i12, f1, f2, f3, f4, f5, f6, f7, awake_call]; rfl)) | (refine run_cond_t ?_ ?_; · simp only [go_sem]) | (refine run_cond_f ?_ ?_; · simp only [go_sem]))
  exact end_nil (q_ret1 _ (by simp only [go_sem]) rfl (take_app _ _))
end Go.Proofs.Ytecncmmkghmojaa.Sh

