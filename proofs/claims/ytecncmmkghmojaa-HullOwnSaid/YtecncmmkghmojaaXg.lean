/- open: the turns at the corners, the fan. -/
import Derived.Test.YtecncmmkghmojaaXf
set_option linter.all false
namespace Go.Proofs.Ytecncmmkghmojaa.Sh
open Go Geo
set_option maxRecDepth 100000

def rfA62_0 : SCode := (.region 0 [ ⟨(some 8), none, .alloc 110 true [(.int .i64 0), (.int .i64 0), (.int .i64 0), (.int .i64 0), (.int .i64 0), (.int .i64 0)], none, 0, false, []⟩, ⟨none, none, .store 6 (.tmp 8) (.tmp 54), none, 1, false, []⟩])
def rfB62_0 : SCode := (.block 3 (.seq (.region 0 [ ⟨(some 55), none, .fieldAddr 2 (.tmp 8), none, 0, false, []⟩, ⟨(some 56), none, .load (some 2) (.tmp 55), none, 1, true, []⟩, ⟨(some 57), none, .fieldAddr 0 (.tmp 8), none, 2, false, []⟩, ⟨(some 58), none, .load (some 2) (.tmp 57), none, 3, true, []⟩, ⟨(some 60), none, .fieldAddr 4 (.tmp 8), none, 5, false, []⟩, ⟨(some 61), none, .load (some 2) (.tmp 60), none, 6, true, []⟩, ⟨(some 62), none, .fieldAddr 2 (.tmp 8), none, 7, false, []⟩, ⟨(some 63), none, .load (some 2) (.tmp 62), none, 8, true, []⟩, ⟨(some 59), none, .call (.func 80) [(.tmp 56), (.tmp 58)], none, 4, false, [8, 6]⟩, ⟨(some 64), none, .call (.func 80) [(.tmp 61), (.tmp 63)], none, 9, false, []⟩, ⟨(some 65), none, .call (.func 95) [(.tmp 59), (.tmp 64)], none, 10, false, []⟩, ⟨(some 66), none, .bin .leq (.tmp 65) (.const (.int .i64 0)), none, 11, false, []⟩]) (.cond (.tmp 66) (.seq (.region 0 [ ⟨none, none, .store 1 (.tmp 2) (.const (.pointer none)), none, 0, false, []⟩, ⟨none, none, .store 1 (.tmp 3) (.const (.int .i64 30)), none, 1, false, []⟩]) (.ret)) (.skip))))

theorem sbt_sm {p q : Int × Int} (hp : inR p) (hq : inR q) : sm (sbt p q) := by
  obtain ⟨a, b, c, d⟩ := hp
  obtain ⟨e, f, g, i⟩ := hq
  exact ⟨by simp only [sbt]; omega, by simp only [sbt]; omega⟩

/-- after k corners: only garbage is new -/
structure JC (H0 : SHeap) (k : Nat) (hh : SHeap) (dd : List Nat) : Prop where
  len : H0.length ≤ hh.length
  same : ∀ j, j < H0.length → hh[j]? = H0[j]?
  none : dd = []
theorem JC.app {H0 : SHeap} {k : Nat} {hh : SHeap} {dd : List Nat} (g : SHeap) (J : JC H0 k hh dd) : JC H0 k (hh ++ g) dd := by
  have e := J.len
  exact ⟨by simp; omega, fun j a => by rw [List.getElem?_append_left (by omega)]; exact J.same j a, J.none⟩

theorem corner_round {H0 : SHeap} {L fn df : Nat} {t : T} {l : List (Int × Int)} (hL : H0[L]? = some (.loop 0 fn t [53, 54] rfA62_0 rfB62_0 none df)) (hl : ∀ q ∈ l, inR q) (hf : Full 8 t)
    (k : Nat) (hk : k < 12) (htr : 0 < turn (l.getD ((k + l.length - 1) % l.length) (0, 0)) (l.getD k (0, 0)) (l.getD ((k + 1) % l.length) (0, 0))) (hh : SHeap) (dd : List Nat) (J : JC H0 k hh dd) :
    ∃ hh' d', M.round H0.length L [.int .i64 k, .agg (nbr l k).toArray] hh = some (.bool true, hh', d') ∧ JC H0 (k + 1) hh' (d' ++ dd) := by
  have jl := J.len
  have hLl : L < H0.length := (List.getElem?_eq_some_iff.1 hL).1
  have hp := inR_getD hl ((k + l.length - 1) % l.length)
  have hq := inR_getD hl k
  have hr := inR_getD hl ((k + 1) % l.length)
  have c1 := fun h => minus80 _ _ h (inR_sm hq) (inR_sm hp)
  have c2 := fun h => minus80 _ _ h (inR_sm hr) (inR_sm hq)
  have c3 := fun h => cross95 _ _ h (sbt_sm hq hp) (sbt_sm hr hq)
  have hnb : (nbr l k).toArray = #[.int .i64 (l.getD ((k + l.length - 1) % l.length) (0, 0)).1, .int .i64 (l.getD ((k + l.length - 1) % l.length) (0, 0)).2, .int .i64 (l.getD k (0, 0)).1, .int .i64 (l.getD k (0, 0)).2, .int .i64 (l.getD ((k + 1) % l.length) (0, 0)).1, .int .i64 (l.getD ((k + 1) % l.length) (0, 0)).2] := rfl
  have htr' : 0 < crs (sbt (l.getD k (0, 0)) (l.getD ((k + l.length - 1) % l.length) (0, 0))) (sbt (l.getD ((k + 1) % l.length) (0, 0)) (l.getD k (0, 0))) := htr
  clear htr
  rw [hnb]
  have hJL : hh[L]? = some (.loop 0 fn t [53, 54] rfA62_0 rfB62_0 none df) := by rw [J.same L hLl]; exact hL
  generalize l.getD k (0, 0) = q at *
  generalize l.getD ((k + 1) % l.length) (0, 0) = r at *
  generalize l.getD ((k + l.length - 1) % l.length) (0, 0) = p at *
  generalize sbt q p = u at *
  generalize sbt r q = w at *
  generalize hz : crs u w = z at *
  have hz0 : ¬ (z ≤ 0) := by omega
  obtain ⟨r, ⟨hh', d', rfl, hP⟩, e⟩ := round_rule (FT := FT) (C := CA) (base := H0.length) (args := [.int .i64 k, .agg #[.int .i64 p.1, .int .i64 p.2, .int .i64 q.1, .int .i64 q.2, .int .i64 r.1, .int .i64 r.2]])
    (fun r => ∃ hh' d', r = (.bool true, hh', d') ∧ JC H0 (k + 1) hh' (d' ++ dd)) hJL hf rfl (by decide) rfl (by
      unfold rfA62_0
      repeat (first | apply run_seq | apply run_block | apply end_seq | apply end_blk_hit | apply end_blk_miss rfl | apply end_blk | apply end_seq_exit | apply end_seq_ret | apply end_blk_ret | apply run_skip | apply run_ret | apply run_exit | (apply run_region (by decide); (simp only [go_sem, zipR]; rfl)) | (refine run_cond_t ?_ ?_; · simp only [go_sem]) | (refine run_cond_f ?_ ?_; · simp only [go_sem]))
      have hl1 : (hh ++ [SO.cells [.int .i64 p.1, .int .i64 p.2, .int .i64 q.1, .int .i64 q.2, .int .i64 r.1, .int .i64 r.2] 110 true 0 []])[L]? = some (.loop 0 fn t [53, 54] rfA62_0 rfB62_0 none df) := by rw [List.getElem?_append_left (by omega)]; exact hJL
      refine end_nil ⟨rfl, ⟨_, _, _, _, _, _, hl1⟩, ?_⟩
      rw [setLoop_eq hl1]
      have g1 : ∀ j, j < hh.length → j ≠ L → ((hh ++ [SO.cells [.int .i64 p.1, .int .i64 p.2, .int .i64 q.1, .int .i64 q.2, .int .i64 r.1, .int .i64 r.2] 110 true 0 []]).set L (.loop 1 fn t [53, 54] rfA62_0 rfB62_0 none df))[j]? = hh[j]? := by
        intro j hj hne
        rw [List.getElem?_set_ne (by omega), List.getElem?_append_left hj]
      have g2 : ((hh ++ [SO.cells [.int .i64 p.1, .int .i64 p.2, .int .i64 q.1, .int .i64 q.2, .int .i64 r.1, .int .i64 r.2] 110 true 0 []]).set L (.loop 1 fn t [53, 54] rfA62_0 rfB62_0 none df))[hh.length]? = some (.cells [.int .i64 p.1, .int .i64 p.2, .int .i64 q.1, .int .i64 q.2, .int .i64 r.1, .int .i64 r.2] 110 true 0 []) := by
        rw [List.getElem?_set_ne (by omega), app_get0]; rfl
      have g3 : ((hh ++ [SO.cells [.int .i64 p.1, .int .i64 p.2, .int .i64 q.1, .int .i64 q.2, .int .i64 r.1, .int .i64 r.2] 110 true 0 []]).set L (.loop 1 fn t [53, 54] rfA62_0 rfB62_0 none df))[L]? = some (.loop 1 fn t [53, 54] rfA62_0 rfB62_0 none df) := by
        rw [List.getElem?_set_self (by simp; omega)]
      have g4 : ((hh ++ [SO.cells [.int .i64 p.1, .int .i64 p.2, .int .i64 q.1, .int .i64 q.2, .int .i64 r.1, .int .i64 r.2] 110 true 0 []]).set L (.loop 1 fn t [53, 54] rfA62_0 rfB62_0 none df)).length = hh.length + 1 := by simp
      generalize (hh ++ [SO.cells [.int .i64 p.1, .int .i64 p.2, .int .i64 q.1, .int .i64 q.2, .int .i64 r.1, .int .i64 r.2] 110 true 0 []]).set L (.loop 1 fn t [53, 54] rfA62_0 rfB62_0 none df) = G at *
      have b0 : loadS G (some 2) (.pointer (some ⟨hh.length, 0, none⟩)) = some (.agg #[.int .i64 p.1, .int .i64 p.2]) := by rw [load_rdON, g2]; rfl
      have b2 : loadS G (some 2) (.pointer (some ⟨hh.length, 2, none⟩)) = some (.agg #[.int .i64 q.1, .int .i64 q.2]) := by rw [load_rdON, g2]; rfl
      have b4 : loadS G (some 2) (.pointer (some ⟨hh.length, 4, none⟩)) = some (.agg #[.int .i64 r.1, .int .i64 r.2]) := by rw [load_rdON, g2]; rfl
      unfold rfB62_0
      repeat (first | apply run_seq | apply run_block | apply end_seq | apply end_blk_hit | apply end_blk_miss rfl | apply end_blk | apply end_seq_exit | apply end_seq_ret | apply end_blk_ret | apply run_skip | apply run_ret | apply run_exit | (apply run_region (by decide); (simp only [go_sem, b0, b2, b4, c1, c2, c3, hz0]; rfl)) | (refine run_cond_t ?_ ?_; · simp only [go_sem]) | (refine run_cond_f ?_ ?_; · simp only [go_sem]))
      refine end_nil ⟨⟨_, _, _, _, _, _, _, _, g3⟩, _, _, rfl, ?_⟩
      show JC H0 (k + 1) (setLoop G L 0 none) ([] ++ dd)
      rw [setLoop_eq g3]
      refine ⟨by simp; omega, fun j hj => ?_, J.none⟩
      by_cases e : j = L
      · subst e; rw [List.getElem?_set_self (by omega), hL]
      · rw [List.getElem?_set_ne (by omega), g1 j (by omega) e]; exact J.same j hj)
  exact ⟨hh', d', e, hP⟩

theorem fan_loop (cx : Cx) {H : SHeap} {b cb c f0 : Nat} {l : List (Int × Int)} {x y D : Int} (hB : Body H b cb c l x y D) (hl : ∀ q ∈ l, inR q) (h1 : 1 ≤ l.length) (hn : l.length ≤ 12) (hf0 : loadS H (some 2) (.pointer (some ⟨f0, 0, none⟩)) = some (.agg #[.int .i64 (l.getD 0 (0, 0)).1, .int .i64 (l.getD 0 (0, 0)).2]))
    (htr : ∀ i, 1 ≤ i → i + 1 < l.length → 0 < crs (sbt (l.getD i (0, 0)) (l.getD 0 (0, 0))) (sbt (l.getD (i + 1) (0, 0)) (l.getD 0 (0, 0)))) (ρ0 : Reg) (ms0 : List Nat) (h4 : ρ0 4 = .pointer (some ⟨b, 0, none⟩)) (h9 : ρ0 9 = .pointer (some ⟨f0, 0, none⟩)) :
    ∀ k ρ ms h' d', (∃ i : Nat, 1 ≤ i ∧ i + k = l.length ∧ ρ 2 = ρ0 2 ∧ ρ 3 = ρ0 3 ∧ ρ 4 = ρ0 4 ∧ ρ 9 = ρ0 9 ∧ ρ 10 = .int .i64 i ∧ h' = H ∧ ms = ms0 ∧ d' = []) →
    LoopW M cx 8 sf62L0 ρ ms h' d' (fun ex ρ' ms' h' d' => ex = .exit 4 ∧ ρ' 2 = ρ0 2 ∧ ρ' 3 = ρ0 3 ∧ ρ' 4 = ρ0 4 ∧ h' = H ∧ ms' = ms0 ∧ d' = []) := by
  refine loop_run _ ?_
  rintro k ρ ms h' d' ⟨i, hi1, hi, g2, g3, g4, g9, g10, rfl, rfl, rfl⟩
  rw [h4] at g4 
  rw [h9] at g9
  have ew : IntKind.i64.wrap ((i : Int) + 1) = ((i + 1 : Nat) : Int) := by rw [wrap64 (by omega) (by omega)]; rfl
  have lb := hB.load
  unfold sf62L0
  by_cases hk : i + 1 < l.length
  · have e1 : (((i + 1 : Nat) : Int)) < l.length := by omega
    have e2 : (0 : Int) ≤ i := by omega
    have e3 : (i : Int) < l.length := by omega
    have e4 : (0 : Int) ≤ ((i + 1 : Nat) : Int) := by omega
    have l1 := hB.2.loadN (i := i) (by omega)
    have l2 := hB.2.loadN hk
    rw [Nat.zero_add] at l1 l2
    have gd : ∀ j, (hj : j < l.length) → l[j] = l.getD j (0, 0) := fun j hj => by rw [List.getD_eq_getElem?_getD, List.getElem?_eq_getElem hj]; rfl
    rw [gd] at l1 l2
    have tr := htr i hi1 hk
    have hp := inR_getD hl i
    have hq := inR_getD hl (i + 1)
    have hr := inR_getD hl 0
    have c1 := fun h => minus80 _ _ h (inR_sm hp) (inR_sm hr)
    have c2 := fun h => minus80 _ _ h (inR_sm hq) (inR_sm hr)
    have c3 := fun h => cross95 _ _ h (sbt_sm hp hr) (sbt_sm hq hr)
    clear htr gd
    generalize l.getD i (0, 0) = p at *
    generalize l.getD (i + 1) (0, 0) = q at *
    generalize l.getD 0 (0, 0) = r at *
    generalize sbt p r = u at *
    generalize sbt q r = w at *
    generalize crs u w = z at *
    have hz0 : ¬ (z ≤ 0) := by omega
    repeat (first | apply run_seq | apply run_block | apply end_seq | apply end_blk_hit | apply end_blk_miss rfl | apply end_blk | apply end_seq_exit | apply end_seq_ret | apply end_blk_ret | apply run_skip | apply run_ret | apply run_exit | (apply run_region (by decide); (simp only [go_sem, g4, g9, g10, lb, ew, e1, e2, e3, e4, l1, l2, hf0, c1, c2, c3, hz0, Int.toNat_natCast]; rfl)) | (refine run_cond_t ?_ ?_; · simp only [go_sem]) | (refine run_cond_f ?_ ?_; · simp only [go_sem]))
    refine end_nil ⟨k - 1, by omega, i + 1, by omega, by omega, ?_, ?_, ?_, ?_, ?_, rfl, rfl, rfl⟩
    · simp only [go_sem, g2]
    · simp only [go_sem, g3]
    · simp only [go_sem, g4, h4]
    · simp only [go_sem, g9, h9]
    · simp only [go_sem, ew]
  · have e1 : ¬ ((((i + 1 : Nat) : Int)) < l.length) := by omega
    repeat (first | apply run_seq | apply run_block | apply end_seq | apply end_blk_hit | apply end_blk_miss rfl | apply end_blk | apply end_seq_exit | apply end_seq_ret | apply end_blk_ret | apply run_skip | apply run_ret | apply run_exit | (apply run_region (by decide); (simp only [go_sem, g4, g9, g10, lb, ew, e1]; rfl)) | (refine run_cond_t ?_ ?_; · simp only [go_sem]) | (refine run_cond_f ?_ ?_; · simp only [go_sem]))
    refine end_nil ⟨rfl, ?_, ?_, ?_, rfl, rfl, rfl⟩
    · simp only [go_sem, g2]
    · simp only [go_sem, g3]
    · simp only [go_sem, g4, h4]
end Go.Proofs.Ytecncmmkghmojaa.Sh

