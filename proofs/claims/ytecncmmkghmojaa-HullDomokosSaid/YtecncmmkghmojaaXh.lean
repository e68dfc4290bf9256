/- open: the sums for the middle. -/
import Derived.Test.YtecncmmkghmojaaXg
set_option linter.all false
namespace Go.Proofs.Ytecncmmkghmojaa.Sh
open Go Geo
set_option maxRecDepth 100000

def rfA62_1 : SCode := (.region 0 [ ⟨(some 14), none, .alloc 110 true [(.int .i64 0), (.int .i64 0), (.int .i64 0), (.int .i64 0), (.int .i64 0), (.int .i64 0)], none, 0, false, []⟩, ⟨none, none, .store 6 (.tmp 14) (.tmp 110), none, 1, false, []⟩])
def rfB62_1 : SCode := (.block 7 (.seq (.region 0 [ ⟨(some 111), none, .fieldAddr 2 (.tmp 14), none, 0, false, []⟩, ⟨(some 112), none, .load (some 2) (.tmp 111), none, 1, false, []⟩, ⟨(some 113), none, .fieldAddr 4 (.tmp 14), none, 2, false, []⟩, ⟨(some 114), none, .load (some 2) (.tmp 113), none, 3, false, []⟩, ⟨(some 115), none, .call (.func 95) [(.tmp 112), (.tmp 114)], none, 4, false, []⟩, ⟨(some 15), none, .mov (.tmp 115), none, 5, false, []⟩]) (.region 2 [ ⟨(some 116), none, .load none (.tmp 11), none, 0, true, []⟩, ⟨(some 117), none, .fieldAddr 2 (.tmp 14), none, 1, false, []⟩, ⟨(some 118), none, .idxArr 2 1 (.tmp 117) (.const (.int .i64 0)), none, 2, false, []⟩, ⟨(some 119), none, .load none (.tmp 118), none, 3, true, []⟩, ⟨(some 120), none, .fieldAddr 4 (.tmp 14), none, 4, false, []⟩, ⟨(some 121), none, .idxArr 2 1 (.tmp 120) (.const (.int .i64 0)), none, 5, false, []⟩, ⟨(some 122), none, .load none (.tmp 121), none, 6, true, []⟩, ⟨(some 123), none, .bin .add (.tmp 119) (.tmp 122), none, 7, false, []⟩, ⟨(some 124), none, .mov (.tmp 15), none, 8, false, []⟩, ⟨(some 125), none, .bin .mul (.tmp 123) (.tmp 124), none, 9, false, []⟩, ⟨(some 126), (some 0), .buildSlice 3 true [(.int .i64 0)] 1 [(0, 1, (.tmp 125))], none, 10, false, []⟩, ⟨(some 128), none, .load none (.tmp 12), none, 12, true, []⟩, ⟨(some 129), none, .fieldAddr 2 (.tmp 14), none, 13, false, []⟩, ⟨(some 130), none, .idxArr 2 1 (.tmp 129) (.const (.int .i64 1)), none, 14, false, []⟩, ⟨(some 131), none, .load none (.tmp 130), none, 15, true, []⟩, ⟨(some 132), none, .fieldAddr 4 (.tmp 14), none, 16, false, []⟩, ⟨(some 133), none, .idxArr 2 1 (.tmp 132) (.const (.int .i64 1)), none, 17, false, []⟩, ⟨(some 134), none, .load none (.tmp 133), none, 18, true, []⟩, ⟨(some 135), none, .bin .add (.tmp 131) (.tmp 134), none, 19, false, []⟩, ⟨(some 136), none, .mov (.tmp 15), none, 20, false, []⟩, ⟨(some 137), none, .bin .mul (.tmp 135) (.tmp 136), none, 21, false, []⟩, ⟨(some 138), (some 1), .buildSlice 3 true [(.int .i64 0)] 1 [(0, 1, (.tmp 137))], none, 22, false, []⟩, ⟨(some 127), none, .append 3 true 1 8 (.tmp 116) (.tmp 126), none, 11, false, [18, 15, 12]⟩, ⟨(some 139), none, .append 3 true 1 8 (.tmp 128) (.tmp 138), none, 23, false, []⟩, ⟨none, none, .store 1 (.tmp 11) (.tmp 127), none, 24, false, []⟩, ⟨none, none, .store 1 (.tmp 12) (.tmp 139), none, 25, false, []⟩])))

/-- the summands of the middle -/
def fX (l : List (Int × Int)) (k : Nat) : Int := ((l.getD k (0, 0)).1 + (l.getD ((k + 1) % l.length) (0, 0)).1) * cz l k
def fY (l : List (Int × Int)) (k : Nat) : Int := ((l.getD k (0, 0)).2 + (l.getD ((k + 1) % l.length) (0, 0)).2) * cz l k
theorem f_bound {a b z : Int} (ha : -20 ≤ a ∧ a ≤ 20) (hb : -20 ≤ b ∧ b ≤ 20) (hz : z.natAbs ≤ 800) : ((a + b) * z).natAbs ≤ 32000 :=
  Nat.le_trans (mul_bound (m := 40) (n := 800) (by omega) hz) (by decide)
theorem fX_bound {l : List (Int × Int)} (hl : ∀ q ∈ l, inR q) (k : Nat) : (fX l k).natAbs ≤ 32000 := by
  have a := inR_getD hl k
  have b := inR_getD hl ((k + 1) % l.length)
  exact f_bound ⟨a.1, a.2.1⟩ ⟨b.1, b.2.1⟩ (cz_bound hl k)
theorem fY_bound {l : List (Int × Int)} (hl : ∀ q ∈ l, inR q) (k : Nat) : (fY l k).natAbs ≤ 32000 := by
  have a := inR_getD hl k
  have b := inR_getD hl ((k + 1) % l.length)
  exact f_bound ⟨a.2.2.1, a.2.2.2⟩ ⟨b.2.2.1, b.2.2.2⟩ (cz_bound hl k)

/-- after k corners -/
structure JM (H0 : SHeap) (B L fn df : Nat) (t : T) (ps : List Nat) (as body : SCode) (f g : Nat → Int) (k : Nat) (hh : SHeap) (dd : List Nat) : Prop where
  len : H0.length ≤ hh.length
  same : ∀ j, j < H0.length → j ≠ B → j ≠ B + 1 → j ≠ L → hh[j]? = H0[j]?
  loop : hh[L]? = some (.loop 0 fn t ps as body none df)
  acc : ∃ v w, hh[B]? = some (.cells [v] 40 false 0 []) ∧ hh[B + 1]? = some (.cells [w] 40 false 0 []) ∧ Acc H0.length hh v (vals f k) k 1 3 ∧ Acc H0.length hh w (vals g k) k 1 3 ∧ sepV k 1 v w
  all : ∀ x ∈ dd, x = B ∨ x = B + 1
  some : k ≠ 0 → dd ≠ []

theorem JM.app {H0 : SHeap} {B L fn df : Nat} {t : T} {ps : List Nat} {as body : SCode} {f f2 : Nat → Int} (hB : B + 1 < H0.length) (hL : L < H0.length) {k : Nat} {hh : SHeap} {dd : List Nat} (g : SHeap) (J : JM H0 B L fn df t ps as body f f2 k hh dd) : JM H0 B L fn df t ps as body f f2 k (hh ++ g) dd := by
  have e := J.len
  have same' : ∀ j, j < hh.length → (hh ++ g)[j]? = hh[j]? := fun j hj => List.getElem?_append_left hj
  obtain ⟨v, w, h1, h2, h3, h4, h5⟩ := J.acc
  exact ⟨by simp; omega, fun j a b c d => by rw [same' j (by omega)]; exact J.same j a b c d, by rw [same' L (by omega)]; exact J.loop,
    ⟨v, w, by rw [same' B (by omega)]; exact h1, by rw [same' (B + 1) (by omega)]; exact h2, h3.keep (fun b e => by have := h3.lt e; rw [same' b this.2]), h4.keep (fun b e => by have := h4.lt e; rw [same' b this.2]), h5⟩, J.all, J.some⟩

def JM62 (H0 : SHeap) (B L fn df : Nat) (t : T) (l : List (Int × Int)) (k : Nat) (hh : SHeap) (dd : List Nat) : Prop := JM H0 B L fn df t [109, 110] rfA62_1 rfB62_1 (fX l) (fY l) k hh dd

theorem middle_round {H0 : SHeap} {B L fn df : Nat} {t : T} {l : List (Int × Int)} (hB : B + 1 < L) (hL : L < H0.length) (hl : ∀ q ∈ l, inR q) (hf : Full 8 t) (h11 : t.get 11 = .pointer (some ⟨B, 0, none⟩)) (h12 : t.get 12 = .pointer (some ⟨B + 1, 0, none⟩))
    (k : Nat) (hk : k < 12) (hh : SHeap) (dd : List Nat) (J : JM62 H0 B L fn df t l k hh dd) :
    ∃ hh' d', M.round H0.length L [.int .i64 k, .agg (nbr l k).toArray] hh = some (.bool true, hh', d') ∧ JM62 H0 B L fn df t l (k + 1) hh' (d' ++ dd) := by
  have jl := J.len
  obtain ⟨v, w, jB, jC, jacc, jacc2, jsep⟩ := J.acc
  have hq := inR_getD hl k
  have hr := inR_getD hl ((k + 1) % l.length)
  have hc95 := fun h => cross95 _ _ h (inR_sm hq) (inR_sm hr)
  have hv1 := acc_vsame jacc
  obtain ⟨hv2, hv3, hv4⟩ := acc_cells jacc
  have hw1 := acc_vsame jacc2
  obtain ⟨hw2, hw3, hw4⟩ := acc_cells jacc2
  have hcz : crs (l.getD k (0, 0)) (l.getD ((k + 1) % l.length) (0, 0)) = cz l k := rfl
  have bX := fX_bound hl k
  have bY := fY_bound hl k
  have eX : fX l k = ((l.getD k (0, 0)).1 + (l.getD ((k + 1) % l.length) (0, 0)).1) * cz l k := rfl
  have eY : fY l k = ((l.getD k (0, 0)).2 + (l.getD ((k + 1) % l.length) (0, 0)).2) * cz l k := rfl
  rw [hcz] at hc95
  have hnb : (nbr l k).toArray = #[.int .i64 (l.getD ((k + l.length - 1) % l.length) (0, 0)).1, .int .i64 (l.getD ((k + l.length - 1) % l.length) (0, 0)).2, .int .i64 (l.getD k (0, 0)).1, .int .i64 (l.getD k (0, 0)).2, .int .i64 (l.getD ((k + 1) % l.length) (0, 0)).1, .int .i64 (l.getD ((k + 1) % l.length) (0, 0)).2] := rfl
  have hvs := vals_succ (fX l) k
  have hvs2 := vals_succ (fY l) k
  rw [hnb]
  have wXa : IntKind.i64.wrap ((l.getD k (0, 0)).1 + (l.getD ((k + 1) % l.length) (0, 0)).1) = (l.getD k (0, 0)).1 + (l.getD ((k + 1) % l.length) (0, 0)).1 := by
    obtain ⟨a, b, c, d⟩ := hq
    obtain ⟨e, f, g, i⟩ := hr
    exact wrap64 (by omega) (by omega)
  have wYa : IntKind.i64.wrap ((l.getD k (0, 0)).2 + (l.getD ((k + 1) % l.length) (0, 0)).2) = (l.getD k (0, 0)).2 + (l.getD ((k + 1) % l.length) (0, 0)).2 := by
    obtain ⟨a, b, c, d⟩ := hq
    obtain ⟨e, f, g, i⟩ := hr
    exact wrap64 (by omega) (by omega)
  have wX : IntKind.i64.wrap (((l.getD k (0, 0)).1 + (l.getD ((k + 1) % l.length) (0, 0)).1) * cz l k) = fX l k := wrap_abs (Nat.le_trans bX (by decide))
  have wY : IntKind.i64.wrap (((l.getD k (0, 0)).2 + (l.getD ((k + 1) % l.length) (0, 0)).2) * cz l k) = fY l k := wrap_abs (Nat.le_trans bY (by decide))
  clear eX eY
  generalize l.getD k (0, 0) = q at *
  generalize l.getD ((k + 1) % l.length) (0, 0) = r at *
  generalize l.getD ((k + l.length - 1) % l.length) (0, 0) = p at *
  generalize cz l k = z at *
  generalize fX l k = X at *
  generalize fY l k = Y at *
  obtain ⟨r, ⟨hh', d', rfl, hP⟩, e⟩ := round_rule (FT := FT) (C := CA) (base := H0.length) (args := [.int .i64 k, .agg #[.int .i64 p.1, .int .i64 p.2, .int .i64 q.1, .int .i64 q.2, .int .i64 r.1, .int .i64 r.2]])
    (fun r => ∃ hh' d', r = (.bool true, hh', d') ∧ JM62 H0 B L fn df t l (k + 1) hh' (d' ++ dd)) J.loop hf rfl (by decide) rfl (by
      unfold rfA62_1
      repeat (first | apply run_seq | apply run_block | apply end_seq | apply end_blk_hit | apply end_blk_miss rfl | apply end_blk | apply end_seq_exit | apply end_seq_ret | apply end_blk_ret | apply run_skip | apply run_ret | apply run_exit | (apply run_region (by decide); (simp only [go_sem, ↓reduceIte, Int.reduceAdd, Int.reduceEq, Int.reduceLE, Int.reduceLT, Int.reduceMul, Int.reduceNeg, Int.reduceSub, Int.reduceToNat, Nat.reduceAdd, Nat.reduceBEq, Nat.reduceEqDiff, Nat.reduceLT, Nat.reduceLeDiff, Nat.reduceMul, Nat.reduceSub, zipR]; rfl)) | (refine run_cond_t ?_ ?_; · simp only [go_sem, ↓reduceIte, Nat.reduceEqDiff]) | (refine run_cond_f ?_ ?_; · simp only [go_sem, ↓reduceIte, Nat.reduceEqDiff]))
      have hl1 : (hh ++ [SO.cells [.int .i64 p.1, .int .i64 p.2, .int .i64 q.1, .int .i64 q.2, .int .i64 r.1, .int .i64 r.2] 110 true 0 []])[L]? = some (.loop 0 fn t [109, 110] rfA62_1 rfB62_1 none df) := by rw [List.getElem?_append_left (by omega)]; exact J.loop
      refine end_nil ⟨rfl, ⟨_, _, _, _, _, _, hl1⟩, ?_⟩
      rw [setLoop_eq hl1]
      have g1 : ∀ j, j < hh.length → j ≠ L → ((hh ++ [SO.cells [.int .i64 p.1, .int .i64 p.2, .int .i64 q.1, .int .i64 q.2, .int .i64 r.1, .int .i64 r.2] 110 true 0 []]).set L (.loop 1 fn t [109, 110] rfA62_1 rfB62_1 none df))[j]? = hh[j]? := by
        intro j hj hne
        rw [List.getElem?_set_ne (by omega), List.getElem?_append_left hj]
      have g2 : ((hh ++ [SO.cells [.int .i64 p.1, .int .i64 p.2, .int .i64 q.1, .int .i64 q.2, .int .i64 r.1, .int .i64 r.2] 110 true 0 []]).set L (.loop 1 fn t [109, 110] rfA62_1 rfB62_1 none df))[hh.length]? = some (.cells [.int .i64 p.1, .int .i64 p.2, .int .i64 q.1, .int .i64 q.2, .int .i64 r.1, .int .i64 r.2] 110 true 0 []) := by
        rw [List.getElem?_set_ne (by omega), app_get0]; rfl
      have g3 : ((hh ++ [SO.cells [.int .i64 p.1, .int .i64 p.2, .int .i64 q.1, .int .i64 q.2, .int .i64 r.1, .int .i64 r.2] 110 true 0 []]).set L (.loop 1 fn t [109, 110] rfA62_1 rfB62_1 none df))[L]? = some (.loop 1 fn t [109, 110] rfA62_1 rfB62_1 none df) := by
        rw [List.getElem?_set_self (by simp; omega)]
      have g4 : ((hh ++ [SO.cells [.int .i64 p.1, .int .i64 p.2, .int .i64 q.1, .int .i64 q.2, .int .i64 r.1, .int .i64 r.2] 110 true 0 []]).set L (.loop 1 fn t [109, 110] rfA62_1 rfB62_1 none df)).length = hh.length + 1 := by simp
      generalize ((hh ++ [SO.cells [.int .i64 p.1, .int .i64 p.2, .int .i64 q.1, .int .i64 q.2, .int .i64 r.1, .int .i64 r.2] 110 true 0 []]).set L (.loop 1 fn t [109, 110] rfA62_1 rfB62_1 none df)) = G at *
      have gB : G[B]? = some (.cells [v] 40 false 0 []) := by rw [g1 B (by omega) (by omega)]; exact jB
      have gC : G[B + 1]? = some (.cells [w] 40 false 0 []) := by rw [g1 (B + 1) (by omega) (by omega)]; exact jC
      have r2 : loadS G (some 2) (.pointer (some ⟨hh.length, 2, none⟩)) = some (.agg #[.int .i64 q.1, .int .i64 q.2]) := by rw [load_rdON, g2]; rfl
      have r4 : loadS G (some 2) (.pointer (some ⟨hh.length, 4, none⟩)) = some (.agg #[.int .i64 r.1, .int .i64 r.2]) := by rw [load_rdON, g2]; rfl
      have old' : ∀ (e : List SO) j, j < hh.length + 1 → (G ++ e)[j]? = G[j]? := fun e j hj => List.getElem?_append_left (by omega)
      have b0 : ∀ e, loadS (G ++ e) none (.pointer (some ⟨B, 0, none⟩)) = some v := fun e => by rw [load_rdO, old' e _ (by omega), gB]; rfl
      have b1 : ∀ e, loadS (G ++ e) none (.pointer (some ⟨B + 1, 0, none⟩)) = some w := fun e => by rw [load_rdO, old' e _ (by omega), gC]; rfl
      have b2 : ∀ e, loadS (G ++ e) none (.pointer (some ⟨hh.length, 2, none⟩)) = some (.int .i64 q.1) := fun e => by rw [load_rdO, old' e _ (by omega), g2]; rfl
      have b3 : ∀ e, loadS (G ++ e) none (.pointer (some ⟨hh.length, 3, none⟩)) = some (.int .i64 q.2) := fun e => by rw [load_rdO, old' e _ (by omega), g2]; rfl
      have b4 : ∀ e, loadS (G ++ e) none (.pointer (some ⟨hh.length, 4, none⟩)) = some (.int .i64 r.1) := fun e => by rw [load_rdO, old' e _ (by omega), g2]; rfl
      have b5 : ∀ e, loadS (G ++ e) none (.pointer (some ⟨hh.length, 5, none⟩)) = some (.int .i64 r.2) := fun e => by rw [load_rdO, old' e _ (by omega), g2]; rfl
      have acc0 : Acc H0.length (G ++ [SO.cells [.int .i64 X] 3 true 0 [], .cells [.int .i64 Y] 3 true 0 []]) v (vals (fX l) k) k 1 3 :=
        jacc.keep (fun b e => by have := jacc.lt e; rw [old' _ _ (by omega), g1 b this.2 (by omega)])
      have acc0w : Acc H0.length (G ++ [SO.cells [.int .i64 X] 3 true 0 [], .cells [.int .i64 Y] 3 true 0 []]) w (vals (fY l) k) k 1 3 :=
        jacc2.keep (fun b e => by have := jacc2.lt e; rw [old' _ _ (by omega), g1 b this.2 (by omega)])
      have ltv : ∀ b, v = .slice (some ⟨b, 0, none⟩) k (UNK + 1) → H0.length ≤ b ∧ b < hh.length := fun b e => jacc.lt e
      have ltw : ∀ b, w = .slice (some ⟨b, 0, none⟩) k (UNK + 1) → H0.length ≤ b ∧ b < hh.length := fun b e => jacc2.lt e
      obtain ⟨old, ap, acc2, kp⟩ := acc_append (bytes := 8) acc0 (bs := G.length) (el2 := 3) (pf2 := true) (own2 := 0) (old2 := []) (new := [.int .i64 X]) (by rw [app_get0]; rfl) rfl rfl (by decide) rfl (by decide) (by omega) (by simp; omega)
      have ap' := fun base d => ap base d
      have hsrc : (G ++ [SO.cells [.int .i64 X] 3 true 0 [], .cells [.int .i64 Y] 3 true 0 []]).length = G.length + 2 := by simp
      rw [hsrc] at acc2 kp ap'
      have acc1w : Acc H0.length (shv (G ++ [SO.cells [.int .i64 X] 3 true 0 [], .cells [.int .i64 Y] 3 true 0 []]) v ++ [SO.cells (vals (fX l) k ++ [.int .i64 X]) 3 true 0 old]) w (vals (fY l) k) k 1 3 :=
        acc0w.keep (fun b e => by have := ltw b e; rw [kp b (by omega) (fun b' e' => fun q => jsep b' b e' e q.symm)])
      have src1 : (shv (G ++ [SO.cells [.int .i64 X] 3 true 0 [], .cells [.int .i64 Y] 3 true 0 []]) v ++ [SO.cells (vals (fX l) k ++ [.int .i64 X]) 3 true 0 old])[G.length + 1]? = some (.cells [.int .i64 Y] 3 true 0 []) := by
        rw [kp _ (by omega) (fun b e => by have := ltv b e; omega), app_get]; rfl
      have kn1 : (shv (G ++ [SO.cells [.int .i64 X] 3 true 0 [], .cells [.int .i64 Y] 3 true 0 []]) v ++ [SO.cells (vals (fX l) k ++ [.int .i64 X]) 3 true 0 old]).length = G.length + 3 := by simp [shv_len]
      have kB1 : (shv (G ++ [SO.cells [.int .i64 X] 3 true 0 [], .cells [.int .i64 Y] 3 true 0 []]) v ++ [SO.cells (vals (fX l) k ++ [.int .i64 X]) 3 true 0 old])[B]? = some (.cells [v] 40 false 0 []) := by
        rw [kp B (by omega) (fun b e => by have := ltv b e; omega), old' _ _ (by omega), gB]
      have kC1 : (shv (G ++ [SO.cells [.int .i64 X] 3 true 0 [], .cells [.int .i64 Y] 3 true 0 []]) v ++ [SO.cells (vals (fX l) k ++ [.int .i64 X]) 3 true 0 old])[B + 1]? = some (.cells [w] 40 false 0 []) := by
        rw [kp (B + 1) (by omega) (fun b e => by have := ltv b e; omega), old' _ _ (by omega), gC]
      have kL1 : (shv (G ++ [SO.cells [.int .i64 X] 3 true 0 [], .cells [.int .i64 Y] 3 true 0 []]) v ++ [SO.cells (vals (fX l) k ++ [.int .i64 X]) 3 true 0 old])[L]? = some (.loop 1 fn t [109, 110] rfA62_1 rfB62_1 none df) := by
        rw [kp L (by omega) (fun b e => by have := ltv b e; omega), old' _ _ (by omega), g3]
      have kO1 : ∀ j, j < H0.length → j ≠ B → j ≠ B + 1 → j ≠ L → (shv (G ++ [SO.cells [.int .i64 X] 3 true 0 [], .cells [.int .i64 Y] 3 true 0 []]) v ++ [SO.cells (vals (fX l) k ++ [.int .i64 X]) 3 true 0 old])[j]? = H0[j]? := by
        intro j hj h1 h2 h3
        rw [kp j (by omega) (fun b e => by have := ltv b e; omega), old' _ _ (by omega), g1 j (by omega) h3]
        exact J.same j hj h1 h2 h3
      have k110 : (shv (G ++ [SO.cells [.int .i64 X] 3 true 0 [], .cells [.int .i64 Y] 3 true 0 []]) v ++ [SO.cells (vals (fX l) k ++ [.int .i64 X]) 3 true 0 old])[hh.length]? = some (.cells [.int .i64 p.1, .int .i64 p.2, .int .i64 q.1, .int .i64 q.2, .int .i64 r.1, .int .i64 r.2] 110 true 0 []) := by
        rw [kp _ (by omega) (fun b e => by have := ltv b e; omega), old' _ _ (by omega), g2]
      generalize (shv (G ++ [SO.cells [.int .i64 X] 3 true 0 [], .cells [.int .i64 Y] 3 true 0 []]) v ++ [SO.cells (vals (fX l) k ++ [.int .i64 X]) 3 true 0 old]) = F at *
      have f1 : loadS F none (.pointer (some ⟨B + 1, 0, none⟩)) = some w := by rw [load_rdO, kC1]; rfl
      have f3 : loadS F none (.pointer (some ⟨hh.length, 3, none⟩)) = some (.int .i64 q.2) := by rw [load_rdO, k110]; rfl
      have f5 : loadS F none (.pointer (some ⟨hh.length, 5, none⟩)) = some (.int .i64 r.2) := by rw [load_rdO, k110]; rfl
      obtain ⟨old2, apw, acc2w, kpw⟩ := acc_append (bytes := 8) acc1w (bs := G.length + 1) (el2 := 3) (pf2 := true) (own2 := 0) (old2 := []) (new := [.int .i64 Y]) src1 rfl rfl (by decide) rfl (by decide) (by omega) (by omega)
      have apw' := fun base d => apw base d
      rw [kn1] at acc2w kpw apw'
      have kB2 : (shv F w ++ [SO.cells (vals (fY l) k ++ [.int .i64 Y]) 3 true 0 old2])[B]? = some (.cells [v] 40 false 0 []) := by
        rw [kpw B (by omega) (fun b e => by have := ltw b e; omega), kB1]
      have kC2 : (shv F w ++ [SO.cells (vals (fY l) k ++ [.int .i64 Y]) 3 true 0 old2])[B + 1]? = some (.cells [w] 40 false 0 []) := by
        rw [kpw (B + 1) (by omega) (fun b e => by have := ltw b e; omega), kC1]
      have kL2 : (shv F w ++ [SO.cells (vals (fY l) k ++ [.int .i64 Y]) 3 true 0 old2])[L]? = some (.loop 1 fn t [109, 110] rfA62_1 rfB62_1 none df) := by
        rw [kpw L (by omega) (fun b e => by have := ltw b e; omega), kL1]
      have kO2 : ∀ j, j < H0.length → j ≠ B → j ≠ B + 1 → j ≠ L → (shv F w ++ [SO.cells (vals (fY l) k ++ [.int .i64 Y]) 3 true 0 old2])[j]? = H0[j]? := by
        intro j hj h1 h2 h3
        rw [kpw j (by omega) (fun b e => by have := ltw b e; omega)]
        exact kO1 j hj h1 h2 h3
      have kn2 : (shv F w ++ [SO.cells (vals (fY l) k ++ [.int .i64 Y]) 3 true 0 old2]).length = G.length + 4 := by simp [shv_len, kn1]
      have acc3 : Acc H0.length (shv F w ++ [SO.cells (vals (fY l) k ++ [.int .i64 Y]) 3 true 0 old2]) (.slice (some ⟨G.length + 2, 0, none⟩) (k + 1) (UNK + 1)) (vals (fX l) k ++ [.int .i64 X]) (k + 1) 1 3 :=
        acc2.keep (fun b e => by simp at e; rw [kpw b (by omega) (fun b' e' => by have := ltw b' e'; omega)])
      generalize (shv F w ++ [SO.cells (vals (fY l) k ++ [.int .i64 Y]) 3 true 0 old2]) = E at *
      have kC3 : (E.set B (SO.cells [.slice (some ⟨G.length + 2, 0, none⟩) (k + 1) (UNK + 1)] 40 false 0 []))[B + 1]? = some (.cells [w] 40 false 0 []) := by
        rw [List.getElem?_set_ne (by omega), kC2]
      have hbB : Nat.ble H0.length B = false := by rw [ble_dec]; simp; omega
      have hbC : Nat.ble H0.length (B + 1) = false := by rw [ble_dec]; simp; omega
      have hdirty : dirty H0.length B false [] = [B] := by simp [dirty, hbB]
      have hdirty2 : ∀ d, dirty H0.length (B + 1) false d = (B + 1) :: d := by intro d; simp [dirty, hbC]
      have rep2 : List.replicate 2 SO.gone = [SO.gone, SO.gone] := rfl
      unfold rfB62_1
      repeat (first | apply run_seq | apply run_block | apply end_seq | apply end_blk_hit | apply end_blk_miss rfl | apply end_blk | apply end_seq_exit | apply end_seq_ret | apply end_blk_ret | apply run_skip | apply run_ret | apply run_exit | (apply run_region (by decide); (simp only [go_sem, ↓reduceIte, Int.reduceAdd, Int.reduceEq, Int.reduceLE, Int.reduceLT, Int.reduceMul, Int.reduceNeg, Int.reduceSub, Int.reduceToNat, Nat.reduceAdd, Nat.reduceBEq, Nat.reduceEqDiff, Nat.reduceLT, Nat.reduceLeDiff, Nat.reduceMul, Nat.reduceSub, r2, r4, hc95]; rfl)) | (refine run_cond_t ?_ ?_; · simp only [go_sem, ↓reduceIte, Nat.reduceEqDiff]) | (refine run_cond_f ?_ ?_; · simp only [go_sem, ↓reduceIte, Nat.reduceEqDiff]))
      apply run_regionN (by decide)
      · simp only [go_sem, ↓reduceIte, Int.reduceAdd, Int.reduceEq, Int.reduceLE, Int.reduceLT, Int.reduceMul, Int.reduceNeg, Int.reduceSub, Int.reduceToNat, Nat.reduceAdd, Nat.reduceBEq, Nat.reduceEqDiff, Nat.reduceLT, Nat.reduceLeDiff, Nat.reduceMul, Nat.reduceSub, h11, h12, b0, b1, b2, b3, b4, b5, wXa, wYa, wX, wY, hv1, hv2, hv3, hw1, hw2, hw3, rep2, new_some, f1, f3, f5, ap', apw', kB2, kC3, hdirty, hdirty2]
        rfl
      have fL : ((E.set B (SO.cells [.slice (some ⟨G.length + 2, 0, none⟩) (k + 1) (UNK + 1)] 40 false 0 [])).set (B + 1) (SO.cells [.slice (some ⟨G.length + 3, 0, none⟩) (k + 1) (UNK + 1)] 40 false 0 []))[L]? = some (.loop 1 fn t [109, 110] rfA62_1 rfB62_1 none df) := by
        rw [List.getElem?_set_ne (by omega), List.getElem?_set_ne (by omega), kL2]
      apply end_blk
      refine end_nil ⟨⟨_, _, _, _, _, _, _, _, fL⟩, _, _, rfl, ?_⟩
      show JM62 H0 B L fn df t l (k + 1) (setLoop ((E.set B (SO.cells [.slice (some ⟨G.length + 2, 0, none⟩) (k + 1) (UNK + 1)] 40 false 0 [])).set (B + 1) (SO.cells [.slice (some ⟨G.length + 3, 0, none⟩) (k + 1) (UNK + 1)] 40 false 0 [])) L 0 none) ([B + 1, B] ++ dd)
      rw [setLoop_eq fL]
      refine ⟨by simp; omega, fun j hj h1 h2 h3 => ?_, ?_, ⟨.slice (some ⟨G.length + 2, 0, none⟩) (k + 1) (UNK + 1), .slice (some ⟨G.length + 3, 0, none⟩) (k + 1) (UNK + 1), ?_, ?_, ?_, ?_, ?_⟩, fun x hx => ?_, fun _ => by simp⟩
      · rw [List.getElem?_set_ne (by omega), List.getElem?_set_ne (by omega), List.getElem?_set_ne (by omega)]; exact kO2 j hj h1 h2 h3
      · rw [List.getElem?_set_self (by simp; omega)]
      · rw [List.getElem?_set_ne (by omega), List.getElem?_set_ne (by omega), List.getElem?_set_self (by omega)]
      · rw [List.getElem?_set_ne (by omega), List.getElem?_set_self (by simp; omega)]
      · rw [hvs]
        exact acc3.keep (fun b e => by simp at e; rw [List.getElem?_set_ne (by omega), List.getElem?_set_ne (by omega), List.getElem?_set_ne (by omega)])
      · rw [hvs2]
        exact acc2w.keep (fun b e => by simp at e; rw [List.getElem?_set_ne (by omega), List.getElem?_set_ne (by omega), List.getElem?_set_ne (by omega)])
      · intro b b' e e'
        simp at e e'
        omega
      · rcases List.mem_append.1 hx with hx | hx
        · simp at hx; omega
        · exact J.all x hx)
  exact ⟨hh', d', e, hP⟩
end Go.Proofs.Ytecncmmkghmojaa.Sh

