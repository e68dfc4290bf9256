/- open: the sums for the middle. -/
import Derived.Test.YtecncmmkghmojaaXg
set_option linter.all false
/- open: the sums for the middle. -/
namespace Go.Proofs.Ytecncmmkghmojaa.Sh
open Go Geo
set_option maxRecDepth 100000

def rfA62_1 : SCode := (.region 0 [ ⟨(some 14), none, .alloc 110 true [(.int .i64 0), (.int .i64 0), (.int .i64 0), (.int .i64 0), (.int .i64 0), (.int .i64 0)], none, 0, false, []⟩, ⟨none, none, .store 6 (.tmp 14) (.tmp 110), none, 1, false, []⟩])
def rfB62_1 : SCode := (.block 7 (.seq (.region 0 [ ⟨(some 111), none, .fieldAddr 2 (.tmp 14), none, 0, false, []⟩, ⟨(some 112), none, .load (some 2) (.tmp 111), none, 1, false, []⟩, ⟨(some 113), none, .fieldAddr 4 (.tmp 14), none, 2, false, []⟩, ⟨(some 114), none, .load (some 2) (.tmp 113), none, 3, false, []⟩, ⟨(some 115), none, .call (.func 95) [(.tmp 112), (.tmp 114)], none, 4, false, []⟩, ⟨(some 15), none, .mov (.tmp 115), none, 5, false, []⟩]) (.region 2 [ ⟨(some 116), none, .load none (.tmp 11), none, 0, true, []⟩, ⟨(some 117), none, .fieldAddr 2 (.tmp 14), none, 1, false, []⟩, ⟨(some 118), none, .idxArr 2 1 (.tmp 117) (.const (.int .i64 0)), none, 2, false, []⟩, ⟨(some 119), none, .load none (.tmp 118), none, 3, true, []⟩, ⟨(some 120), none, .fieldAddr 4 (.tmp 14), none, 4, false, []⟩, ⟨(some 121), none, .idxArr 2 1 (.tmp 120) (.const (.int .i64 0)), none, 5, false, []⟩, ⟨(some 122), none, .load none (.tmp 121), none, 6, true, []⟩, ⟨(some 123), none, .bin .add (.tmp 119) (.tmp 122), none, 7, false, []⟩, ⟨(some 124), none, .mov (.tmp 15), none, 8, false, []⟩, ⟨(some 125), none, .bin .mul (.tmp 123) (.tmp 124), none, 9, false, []⟩, ⟨(some 126), (some 0), .buildSlice 3 true [(.int .i64 0)] 1 [(0, 1, (.tmp 125))], none, 10, false, []⟩, ⟨(some 128), none, .load none (.tmp 12), none, 12, true, []⟩, ⟨(some 129), none, .fieldAddr 2 (.tmp 14), none, 13, false, []⟩, ⟨(some 130), none, .idxArr 2 1 (.tmp 129) (.const (.int .i64 1)), none, 14, false, []⟩, ⟨(some 131), none, .load none (.tmp 130), none, 15, true, []⟩, ⟨(some 132), none, .fieldAddr 4 (.tmp 14), none, 16, false, []⟩, ⟨(some 133), none, .idxArr 2 1 (.tmp 132) (.const (.int .i64 1)), none, 17, false, []⟩, ⟨(some 134), none, .load none (.tmp 133), none, 18, true, []⟩, ⟨(some 135), none, .bin .add (.tmp 131) (.tmp 134), none, 19, false, []⟩, ⟨(some 136), none, .mov (.tmp 15), none, 20, false, []⟩, ⟨(some 137), none, .bin .mul (.tmp 135) (.tmp 136), none, 21, false, []⟩, ⟨(some 138), (some 1), .buildSlice 3 true [(.int .i64 0)] 1 [(0, 1, (.tmp 137))], none, 22, false, []⟩, ⟨(some 127), none, .append 3 true 1 8 (.tmp 116) (.tmp 126), none, 11, false, [18, 15, 12]⟩, ⟨(some 139), none, .append 3 true 1 8 (.tmp 128) (.tmp 138), none, 23, false, []⟩, ⟨none, none, .store 1 (.tmp 11) (.tmp 127), none, 24, false, []⟩, ⟨none, none, .store 1 (.tmp 12) (.tmp 139), none, 25, false, []⟩])))

/-- the summands of the middle -/
def fX (l : List (Int × Int)) (k : Nat) : Int := ((l.getD k (0, 0)).1 + (l.getD ((k + 1) % l.length) (0, 0)).1) * cz l k
def fY (l : List (Int × Int)) (k : Nat) : Int := ((l.getD k (0, 0)).2 + (l.getD ((k + 1) % l.length) (0, 0)).2) * cz l k
theorem f_bound {a b z : Int} (ha : -20 ≤ a ∧ a ≤ 20) (hb : -20 ≤ b ∧ b ≤ 20) (hz : z.natAbs ≤ 800) : ((a + b) * z).natAbs ≤ 32000 :=
  Nat.le_trans (mul_bound (m := 40) (n := 800) (by omega) hz) (by decide)
theorem fX_bound {l : List (Int × Int)} (hl : ∀ q ∈ l, inR q) (k : Nat) : (fX l k).natAbs ≤ 32000 := by
  have a := inR_getD hl k
  have b := inR_getD hl ((k + 1) % l.length)
  exact f_bound ⟨a.1, a.2.1⟩ ⟨b.1, b.2.1⟩ (cz_bound hl k)
theorem fY_bound {l : List (Int × Int)} (hl : ∀ q ∈ l, inR q) (k : Nat) : (fY l k).natAbs ≤ 32000 := by
  have a := inR_getD hl k
  have b := inR_getD hl ((k + 1) % l.length)
  exact f_bound ⟨a.2.2.1, a.2.2.2⟩ ⟨b.2.2.1, b.2.2.2⟩ (cz_bound hl k)

/-- after k corners -/
structure JM (H0 : SHeap) (B L fn df : Nat) (t : T) (ps : List Nat) (as body : SCode) (f g : Nat → Int) (k : Nat) (hh : SHeap) (dd : List Nat) : Prop where
  len : H0.length ≤ hh.length
  same : ∀ j, j < H0.length → j ≠ B → j ≠ B + 1 → j ≠ L → hh[j]? = H0[j]?
  loop : hh[L]? = some (.loop 0 fn t ps as body none df)
  acc : ∃ v w, hh[B]? = some (.cells [v] 40 false 0 []) ∧ hh[B + 1]? = some (.cells [w] 40 false 0 []) ∧ Acc H0.length hh v (vals f k) k 1 3 ∧ Acc H0.length hh w (vals g k) k 1 3 ∧ sepV k 1 v w
  all : ∀ x ∈ dd, x = B ∨ x = B + 1
  some : k ≠ 0 → dd ≠ []

theorem JM.app {H0 : SHeap} {B L fn df : Nat} {t : T} {ps : List Nat} {as body : SCode} {f f2 : Nat → Int} (hB : B + 1 < H0.length) (hL : L < H0.length) {k : Nat} {hh : SHeap} {dd : List Nat} (g : SHeap) (J : JM H0 B L fn df t ps as body f f2 k hh dd) : JM H0 B L fn df t ps as body f f2 k (hh ++ g) dd := by
  have e := J.len
  have same' : ∀ j, j < hh.length → (hh ++ g)[j]? = hh[j]? := fun j hj => List.getElem?_append_left hj
  obtain ⟨v, w, h1, h2, h3, h4, h5⟩ := J.acc
  exact ⟨by simp; omega, fun j a b c d => by rw [same' j (by omega)]; exact J.same j a b c d, by rw [same' L (by omega)]; exact J.loop,
    ⟨v, w, by rw [same' B (by omega)]; exact h1, by rw [same' (B + 1) (by omega)]; exact h2, h3.keep (fun b e => by have := h3.lt e; rw [same' b this.2]), h4.keep (fun b e => by have := h4.lt e; rw [same' b this.2]), h5⟩, J.all, J.some⟩

def JM62 (H0 : SHeap) (B L fn df : Nat) (t : T) (l : List (Int × Int)) (k : Nat) (hh : SHeap) (dd : List Nat) : Prop := JM H0 B L fn df t [109, 110] rfA62_1 rfB62_1 (fX l) (fY l) k hh dd

theorem middle_round {H0 : SHeap} {B L fn df : Nat} {t : T} {l : List (Int × Int)} (hB : B + 1 < L) (hL : L < H0.length) (hl : ∀ q ∈ l, inR q) (hf : Full 8 t) (h11 : t.get 11 = .pointer (some ⟨B, 0, none⟩)) (h12 : t.get 12 = .pointer (some ⟨B + 1, 0, none⟩))
    (k : Nat) (hk : k < 12) (hh : SHeap) (dd : List Nat) (J : JM62 H0 B L fn df t l k hh dd) :
    ∃ hh' d', M.round H0.length L [.int .i64 k, .agg (nbr l k).toArray] hh = some (.bool true, hh', d') ∧ JM62 H0 B L fn df t l (k + 1) hh' (d' ++ dd) := by
  have jl := J.len
  obtain ⟨v, w, jB, jC, jacc, jacc2, jsep⟩ := J.acc
  have hq := inR_getD hl k
  have hr := inR_getD hl ((k + 1) % l.length)
  have hc95 := fun h => cross95 _ _ h (inR_sm hq) (inR_sm hr)
  have hv1 := acc_vsame jacc
  obtain ⟨hv2, hv3, hv4⟩ := acc_cells jacc
  have hw1 := acc_vsame jacc2
  obtain ⟨hw2, hw3, hw4⟩ := acc_cells jacc2
  have hcz : crs (l.getD k (0, 0)) (l.getD ((k + 1) % l.length) (0, 0)) = cz l k := rfl
  have bX := fX_bound hl k
  have bY := fY_bound hl k
  have eX : fX l k = ((l.getD k (0, 0)).1 + (l.getD ((k + 1) % l.length) (0, 0)).1) * cz l k := rfl
  have eY : fY l k = ((l.getD k (0, 0)).2 + (l.getD ((k + 1) % l.length) (0, 0)).2) * cz l k := rfl
  rw [hcz] at hc95
  have hnb : (nbr l k).toArray = #[.int .i64 (l.getD ((k + l.length - 1) % l.length) (0, 0)).1, .int .i64 (l.getD ((k + l.length - 1) % l.length) (0, 0)).2, .int .i64 (l.getD k (0, 0)).1, .int .i64 (l.getD k (0, 0)).2, .int .i64 (l.getD ((k + 1) % l.length) (0, 0)).1, .int .i64 (l.getD ((k + 1) % l.length) (0, 0)).2] := rfl
  have hvs := vals_succ (fX l) k
  have hvs2 := vals_succ (fY l) k
  rw [hnb]
  have wXa : IntKind.i64.wrap ((l.getD k (0, 0)).1 + (l.getD ((k + 1) % l.length) (0, 0)).1) = (l.getD k (0, 0)).1 + (l.getD ((k + 1) % l.length) (0, 0)).1 := by
    obtain ⟨a, b, c, d⟩ := hq
    obtain ⟨e, f, g, i⟩ := hr
    exact wrap64 (by omega) (by omega)
  have wYa : IntKind.i64.wrap ((l.getD k (0, 0)).2 + (l.getD ((k + 1) % l.length) (0, 0)).2) = (l.getD k (0, 0)).2 + (l.getD ((k + 1) % l.length) (0, 0)).2 := by
    obtain ⟨a, b, c, d⟩ := hq
    obtain ⟨e, f, g, i⟩ := hr
    exact wrap64 (by omega) (by omega)
  have wX : IntKind.i64.wrap (((l.getD k (0, 0)).1 + (l.getD ((k + 1) % l.length) (0, 0)).1) * cz l k) = fX l k := wrap_abs (Nat.le_trans bX (by decide))
  have wY : IntKind.i64.wrap (((l.getD k (0, 0)).2 + (l.getD ((k + 1) % l.length) (0, 0)).2) * cz l k) = fY l k := wrap_abs (Nat.le_trans bY (by decide))
  clear eX eY
  generalize l.getD k (0, 0) = q at *
  generalize l.getD ((k + 1) % l.length) (0, 0) = r at *
  generalize l.getD ((k + l.length - 1) % l.length) (0, 0) = p at *
  generalize cz l k = z at *
  generalize fX l k = X at *
  generalize fY l k = Y at *
  obtain ⟨r, ⟨hh', d', rfl, hP⟩, e⟩ := round_rule (FT := FT) (C := CA) (base := H0.length) (args := [.int .i64 k, .agg #[.int .i64 p.1, .int .i64 p.2, .int .i64 q.1, .int .i64 q.2, .int .i64 r.1, .int .i64 r.2]])
    (fun r => ∃ hh' d', r = (.bool true, hh', d') ∧ JM62 H0 B L fn df t l (k + 1) hh' (d' ++ dd)) J.loop hf rfl (by decide) rfl (by
      unfold rfA62_1
      repeat (first | apply run_seq | apply run_block | apply end_seq | apply end_blk_hit | apply end_blk_miss rfl | apply end_blk | apply end_seq_exit | apply end_seq_ret | apply end_blk_ret | apply run_skip | apply run_ret | apply run_exit | (apply run_region (by decide); (simp only [go_sem, zipR]; rfl)) | (refine run_cond_t ?_ ?_; · simp only [go_sem]) | (refine run_cond_f ?_ ?_; · simp only [go_sem]))
      have hl1 : (hh ++ [SO.cells [.int .i64 p.1, .int .i64 p.2, .int .i64 q.1, .int .i64 q.2, .int .i64 r.1, .int .i64 r.2] 110 true 0 []])[L]? = some (.loop 0 fn t [109, 110] rfA62_1 rfB62_1 none df) := by rw [List.getElem?_append_left (by omega)]; exact J.loop
      refine end_nil ⟨rfl, ⟨_, _, _, _, _, _, hl1⟩, ?_⟩
      rw [setLoop_eq hl1]
      have g1 : ∀ j, j < hh.length → j ≠ L → ((hh ++ [SO.cells [.int .i64 p.1, .int .i64 p.2, .int .i64 q.1, .int .i64 q.2, .int .i64 r.1, .int .i64 r.2] 110 true 0 []]).set L (.loop 1 fn t [109, 110] rfA62_1 rfB62_1 none df))[j]? = hh[j]? := by
        intro j hj hne
        rw [List.getElem?_set_ne (by omega), List.getElem?_append_left hj]
      have g2 : ((hh ++ [SO.cells [.int .i64 p.1, .int .i64 p.2, .int .i64 q.1, .int .i64 q.2, .int .i64 r.1, .int .i64 r.2] 110 true 0 []]).set L (.loop 1 fn t [109, 110] rfA62_1 rfB62_1 none df))[hh.length]? = some (.cells [.int .i64 p.1, .int .i64 p.2, .int .i64 q.1, .int .i64 q.2, .int .i64 r.1, .int .i64 r.2] 110 true 0 []) := by
        rw [List.getElem?_set_ne (by omega), app_get0]; rfl
      have g3 : ((hh ++ [SO.cells [.int .i64 p.1, .int .i64 p.2, .int .i64 q.1, .int .i64 q.2, .int .i64 r.1, .int .i64 r.2] 110 true 0 []]).set L (.loop 1 fn t [109, 110] rfA62_1 rfB62_1 none df))[L]? = some (.loop 1 fn t [109, 110] rfA62_1 rfB62_1 none df) := by
        rw [List.getElem?_set_self (by simp; omega)]
      have g4 : ((hh ++ [SO.cells [.int .i64 p.1, .int .i64 p.2, .int .i64 q.1, .int .i64 q.2, .int .i64 r.1, .int .i64 r.2] 110 true 0 []]).set L (.loop 1 fn t [109, 110] rfA62_1 rfB62_1 none df)).length = hh.length + 1 := by simp
      generalize ((hh ++ [SO.cells [.int .i64 p.1, .int .i64 p.2, .int .i64 q.1, .int .i64 q.2, .int .i64 r.1, .int .i64 r.2] 110 true 0 []]).set L (.loop 1 fn t [109, 110] rfA62_1 rfB62_1 none df)) = G at *
      have gB : G[B]? = some (.cells [v] 40 false 0 []) := by rw [g1 B (by omega) (by omega)]; exact jB
      have gC : G[B + 1]? = some (.cells [w] 40 false 0 []) := by rw [g1 (B + 1) (by omega) (by omega)]; exact jC
      have r2 : loadS G (some 2) (.pointer (some ⟨hh.length, 2, none⟩)) = some (.agg #[.int .i64 q.1, .int .i64 q.2]) := by rw [load_rdON, g2]; rfl
      have r4 : loadS G (some 2) (.pointer (some ⟨hh.length, 4, none⟩)) = some (.agg #[.int .i64 r.1, .int .i64 r.2]) := by rw [load_rdON, g2]; rfl
      have old' : ∀ (e : List SO) j, j < hh.length + 1 → (G ++ e)[j]? = G[j]? := fun e j hj => List.getElem?_append_left (by omega)
      have b0 : ∀ e, loadS (G ++ e) none (.pointer (some ⟨B, 0, none⟩)) = some v := fun e => by rw [load_rdO, old' e _ (by omega), gB]; rfl
      have b1 : ∀ e, loadS (G ++ e) none (.pointer (some ⟨B + 1, 0, none⟩)) = some w := fun e => by rw [load_rdO, old' e _ (by omega), gC]; rfl
      have b2 : ∀ e, loadS (G ++ e) none (.pointer (some ⟨hh.length, 2, none⟩)) = some (.int .i64 q.1) := fun e => by rw [load_rdO, old' e _ (by omega), g2]; rfl
      have b3 : ∀ e, loadS (G ++ e) none (.pointer (some ⟨hh.length, 3, none⟩)) = some (.int .i64 q.2) := fun e => by rw [load_rdO, old' e _ (by omega), g2]; rfl
      have b4 : ∀ e, loadS (G ++ e) none (.pointer (some ⟨hh.length, 4, none⟩)) = some (.int .i64 r.1) := fun e => by rw [load_rdO, old' e _ (by omega), g2]; rfl
      have b5 : ∀ e, loadS (G ++ e) none (.pointer (some ⟨hh.length, 5, none⟩)) = some (.int .i64 r.2) := fun e => by rw [load_rdO, old' e _ (by omega), g2]; rfl
      have acc0 : Acc H0.length (G ++ [SO.cells [.int .i64 X] 3 true 0 [], .cells [.int .i64 Y] 3 true 0 []]) v (vals (fX l) k) k 1 3 :=
        jacc.keep (fun b e => by have := jacc.lt e; rw [old' _ _ (by omega), g1 b this.2 (by omega)])
      have acc0w : Acc H0.length (G ++ [SO.cells [.int .i64 X] 3 true 0 [], .cells [.int .i64 Y] 3 true 0 []]) w (vals (fY l) k) k 1 3 :=
        jacc2.keep (fun b e => by have := jacc2.lt e; rw [old' _ _ (by omega), g1 b this.2 (by omega)])
      have ltv : ∀ b, v = .slice (some ⟨b, 0, none⟩) k (UNK + 1) → H0.length ≤ b ∧ b < hh.length := fun b e => jacc.lt e
      have ltw : ∀ b, w = .slice (some ⟨b, 0, none⟩) k (UNK + 1) → H0.length ≤ b ∧ b < hh.length := fun b e => jacc2.lt e
      obtain ⟨old, ap, acc2, kp⟩ := acc_append (bytes := 8) acc0 (bs := G.length) (el2 := 3) (pf2 := true) (own2 := 0) (old2 := []) (new := [.int .i64 X]) (by rw [app_get0]; rfl) rfl rfl (by decide) rfl (by decide) (by omega) (by simp; omega)
      have ap' := fun base d => ap base d
      have hsrc : (G ++ [SO.cells [.int .i64 X] 3 true 0 [], .cells [.int .i64 Y] 3 true 0 []]).length = G.length + 2 := by simp
      rw [hsrc] at acc2 kp ap'
      have acc1w : Acc H0.length (shv (G ++ [SO.cells [.int .i64 X] 3 true 0 [], .cells [.int .i64 Y] 3 true 0 []]) v ++ [SO.cells (vals (fX l) k ++ [.int .i64 X]) 3 true 0 old]) w (vals (fY l) k) k 1 3 :=
        acc0w.keep (fun b e => by have := ltw b e; rw [kp b (by omega) (fun b' e' => fun q => jsep b' b e' e q.symm)])
      have src1 : (shv (G ++ [SO.cells [.int .i64 X] 3 true 0 [], .cells [.int .i64 Y] 3 true 0 []]) v ++ [SO.cells (vals (fX l) k ++ [.int .i64 X]) 3 true 0 old])[G.length + 1]? = some (.cells [.int .i64 Y] 3 true 0 []) := by
        rw [kp _ (by omega) (fun b e => by have := ltv b e; omega), app_get]; rfl
      have kn1 : (shv (G ++ [SO.cells [.int .i64 X] 3 true 0 [], .cells [.int .i64 Y] 3 true 0 []]) v ++ [SO.cells (vals (fX l) k ++ [.int .i64 X]) 3 true 0 old]).length = G.length + 3 := by simp [shv_len]
      have kB1 : (shv (G ++ [SO.cells [.int .i64 X] 3 true 0 [], .cells [.int .i64 Y] 3 true 0 []]) v ++ [SO.cells (vals (fX l) k ++ [.int .i64 X]) 3 true 0 old])[B]? = some (.cells [v] 40 false 0 []) := by
        rw [kp B (by omega) (fun b e => by have := ltv b e; omega), old' _ _ (by omega), gB]
      have kC1 : (shv (G ++ [SO.cells [.int .i64 X] 3 true 0 [], .cells [.int .i64 Y] 3 true 0 []]) v ++ [SO.cells (vals (fX l) k ++ [.int .i64 X]) 3 true 0 old])[B + 1]? = some (.cells [w] 40 false 0 []) := by
        rw [kp (B + 1) (by omega) (fun b e => by have := ltv b e; omega), old' _ _ (by omega), gC]
      have kL1 : (shv (G ++ [SO.cells [.int .i64 X] 3 true 0 [], .cells [.int .i64 Y] 3 true 0 []]) v ++ [SO.cells (vals (fX l) k ++ [.int .i64 X]) 3 true 0 old])[L]? = some (.loop 1 fn t [109, 110] rfA62_1 rfB62_1 none df) := by
        rw [kp L (by omega) (fun b e => by have := ltv b e; omega), old' _ _ (by omega), g3]
      have kO1 : ∀ j, j < H0.length → j ≠ B → j ≠ B + 1 → j ≠ L → (shv (G ++ [SO.cells [.int .i64 X] 3 true 0 [], .cells [.int .i64 Y] 3 true 0 []]) v ++ [SO.cells (vals (fX l) k ++ [.int .i64 X]) 3 true 0 old])[j]? = H0[j]? := by
        intro j hj h1 h2 h3
        rw [kp j (by omega) (fun b e => by have := ltv b e; omega), old' _ _ (by omega), g1 j (by omega) h3]
        exact J.same j hj h1 h2 h3
      have k110 : (shv (G ++ [SO.cells [.int .i64 X] 3 true 0 [], .cells [.int .i64 Y] 3 true 0 []]) v ++ [SO.cells (vals (fX l) k ++ [.int .i64 X]) 3 true 0 old])[hh.length]? = some (.cells [.int .i64 p.1, .int .i64 p.2, .int .i64 q.1, .int .i64 q.2, .int .i64 r.1, .int .i64 r.2] 110 true 0 []) := by
        rw [kp _ (by omega) (fun b e => by have := ltv b e; omega), old' _ _ (by omega), g2]
      generalize (shv (G ++ [SO.cells [.int .i64 X] 3 true 0 [], .cells [.int .i64 Y] 3 true 0 []]) v ++ [SO.cells (vals (fX l) k ++ [.int .i64 X]) 3 true 0 old]) = F at *
      have f1 : loadS F none (.pointer (some ⟨B + 1, 0, none⟩)) = some w := by rw [load_rdO, kC1]; rfl
      have f3 : loadS F none (.pointer (some ⟨hh.length, 3, none⟩)) = some (.int .i64 q.2) := by rw [load_rdO, k110]; rfl
      have f5 : loadS F none (.pointer (some ⟨hh.length, 5, none⟩)) = some (.int .i64 r.2) := by rw [load_rdO, k110]; rfl
      obtain ⟨old2, apw, acc2w, kpw⟩ := acc_append (bytes := 8) acc1w (bs := G.length + 1) (el2 := 3) (pf2 := true) (own2 := 0) (old2 := []) (new := [.int .i64 Y]) src1 rfl rfl (by decide) rfl (by decide) (by omega) (by omega)
      have apw' := fun base d => apw base d
      rw [kn1] at acc2w kpw apw'
      have kB2 : (shv F w ++ [SO.cells (vals (fY l) k ++ [.int .i64 Y]) 3 true 0 old2])[B]? = some (.cells [v] 40 false 0 []) := by
        rw [kpw B (by omega) (fun b e => by have := ltw b e; omega), kB1]
      have kC2 : (shv F w ++ [SO.cells (vals (fY l) k ++ [.int .i64 Y]) 3 true 0 old2])[B + 1]? = some (.cells [w] 40 false 0 []) := by
        rw [kpw (B + 1) (by omega) (fun b e => by have := ltw b e; omega), kC1]
      have kL2 : (shv F w ++ [SO.cells (vals (fY l) k ++ [.int .i64 Y]) 3 true 0 old2])[L]? = some (.loop 1 fn t [109, 110] rfA62_1 rfB62_1 none df) := by
        rw [kpw L (by omega) (fun b e => by have := ltw b e; omega), kL1]
      have kO2 : ∀ j, j < H0.length → j ≠ B → j ≠ B + 1 → j ≠ L → (shv F w ++ [SO.cells (vals (fY l) k ++ [.int .i64 Y]) 3 true 0 old2])[j]? = H0[j]? := by
        intro j hj h1 h2 h3
        rw [kpw j (by omega) (fun b e => by have := ltw b e; omega)]
        exact kO1 j hj h1 h2 h3
      have kn2 : (shv F w ++ [SO.cells (vals (fY l) k ++ [.int .i64 Y]) 3 true 0 old2]).length = G.length + 4 := by simp [shv_len, kn1]
      have acc3 : Acc H0.length (shv F w ++ [SO.cells (vals (fY l) k ++ [.int .i64 Y]) 3 true 0 old2]) (.slice (some ⟨G.length + 2, 0, none⟩) (k + 1) (UNK + 1)) (vals (fX l) k ++ [.int .i64 X]) (k + 1) 1 3 :=
        acc2.keep (fun b e => by simp at e; rw [kpw b (by omega) (fun b' e' => by have := ltw b' e'; omega)])
      generalize (shv F w ++ [SO.cells (vals (fY l) k ++ [.int .i64 Y]) 3 true 0 old2]) = E at *
      have kC3 : (E.set B (SO.cells [.slice (some ⟨G.length + 2, 0, none⟩) (k + 1) (UNK + 1)] 40 false 0 []))[B + 1]? = some (.cells [w] 40 false 0 []) := by
        rw [List.getElem?_set_ne (by omega), kC2]
      have hbB : Nat.ble H0.length B = false := by rw [ble_dec]; simp; omega
      have hbC : Nat.ble H0.length (B + 1) = false := by rw [ble_dec]; simp; omega
      have hdirty : dirty H0.length B false [] = [B] := by simp [dirty, hbB]
      have hdirty2 : ∀ d, dirty H0.length (B + 1) false d = (B + 1) :: d := by intro d; simp [dirty, hbC]
      have rep2 : List.replicate 2 SO.gone = [SO.gone, SO.gone] := rfl
      unfold rfB62_1
      repeat (first | apply run_seq | apply run_block | apply end_seq | apply end_blk_hit | apply end_blk_miss rfl | apply end_blk | apply end_seq_exit | apply end_seq_ret | apply end_blk_ret | apply run_skip | apply run_ret | apply run_exit | (apply run_region (by decide); (simp only [go_sem, r2, r4, hc95]; rfl)) | (refine run_cond_t ?_ ?_; · simp only [go_sem]) | (refine run_cond_f ?_ ?_; · simp only [go_sem]))
      apply run_regionN (by decide)
      · simp only [go_sem, h11, h12, b0, b1, b2, b3, b4, b5, wXa, wYa, wX, wY, hv1, hv2, hv3, hw1, hw2, hw3, rep2, new_some, f1, f3, f5, ap', apw', kB2, kC3, hdirty, hdirty2]
        rfl
      have fL : ((E.set B (SO.cells [.slice (some ⟨G.length + 2, 0, none⟩) (k + 1) (UNK + 1)] 40 false 0 [])).set (B + 1) (SO.cells [.slice (some ⟨G.length + 3, 0, none⟩) (k + 1) (UNK + 1)] 40 false 0 []))[L]? = some (.loop 1 fn t [109, 110] rfA62_1 rfB62_1 none df) := by
        rw [List.getElem?_set_ne (by omega), List.getElem?_set_ne (by omega), kL2]
      apply end_blk
      refine end_nil ⟨⟨_, _, _, _, _, _, _, _, fL⟩, _, _, rfl, ?_⟩
      show JM62 H0 B L fn df t l (k + 1) (setLoop ((E.set B (SO.cells [.slice (some ⟨G.length + 2, 0, none⟩) (k + 1) (UNK + 1)] 40 false 0 [])).set (B + 1) (SO.cells [.slice (some ⟨G.length + 3, 0, none⟩) (k + 1) (UNK + 1)] 40 false 0 [])) L 0 none) ([B + 1, B] ++ dd)
      rw [setLoop_eq fL]
      refine ⟨by simp; omega, fun j hj h1 h2 h3 => ?_, ?_, ⟨.slice (some ⟨G.length + 2, 0, none⟩) (k + 1) (UNK + 1), .slice (some ⟨G.length + 3, 0, none⟩) (k + 1) (UNK + 1), ?_, ?_, ?_, ?_, ?_⟩, fun x hx => ?_, fun _ => by simp⟩
      · rw [List.getElem?_set_ne (by omega), List.getElem?_set_ne (by omega), List.getElem?_set_ne (by omega)]; exact kO2 j hj h1 h2 h3
      · rw [List.getElem?_set_self (by simp; omega)]
      · rw [List.getElem?_set_ne (by omega), List.getElem?_set_ne (by omega), List.getElem?_set_self (by omega)]
      · rw [List.getElem?_set_ne (by omega), List.getElem?_set_self (by simp; omega)]
      · rw [hvs]
        exact acc3.keep (fun b e => by simp at e; rw [List.getElem?_set_ne (by omega), List.getElem?_set_ne (by omega), List.getElem?_set_ne (by omega)])
      · rw [hvs2]
        exact acc2w.keep (fun b e => by simp at e; rw [List.getElem?_set_ne (by omega), List.getElem?_set_ne (by omega), List.getElem?_set_ne (by omega)])
      · intro b b' e e'
        simp at e e'
        omega
      · rcases List.mem_append.1 hx with hx | hx
        · simp at hx; omega
        · exact J.all x hx)
  exact ⟨hh', d', e, hP⟩
end Go.Proofs.Ytecncmmkghmojaa.Sh


/- Sums over the sides of a hull: plain laws. -/
namespace Go.Proofs.Ytecncmmkghmojaa.Sh
open Go Geo
set_option maxRecDepth 100000

/-- a sum over 0, .., n - 1 -/
def S (n : Nat) (f : Nat → Int) : Int := isum ((List.range n).map f)
theorem S_zero (f : Nat → Int) : S 0 f = 0 := rfl
theorem S_succ (n : Nat) (f : Nat → Int) : S (n + 1) f = S n f + f n := by
  unfold S
  rw [List.range_succ, List.map_append, isum_append]
  simp [isum]
theorem S_add (n : Nat) (f g : Nat → Int) : S n (fun k => f k + g k) = S n f + S n g := by
  induction n with
  | zero => rfl
  | succ n ih => rw [S_succ, S_succ, S_succ, ih]; omega
theorem S_sub (n : Nat) (f g : Nat → Int) : S n (fun k => f k - g k) = S n f - S n g := by
  induction n with
  | zero => rfl
  | succ n ih => rw [S_succ, S_succ, S_succ, ih]; omega
theorem S_mul (n : Nat) (c : Int) (f : Nat → Int) : S n (fun k => c * f k) = c * S n f := by
  induction n with
  | zero => simp [S_zero]
  | succ n ih => rw [S_succ, S_succ, ih, Int.mul_add]
theorem S_congr {n : Nat} {f g : Nat → Int} (h : ∀ k, k < n → f k = g k) : S n f = S n g := by
  induction n with
  | zero => rfl
  | succ n ih => rw [S_succ, S_succ, ih (fun k hk => h k (by omega)), h n (by omega)]
theorem S_first (n : Nat) (f : Nat → Int) : S (n + 1) f = f 0 + S n (fun k => f (k + 1)) := by
  induction n with
  | zero => simp [S_succ, S_zero]
  | succ n ih => rw [S_succ, ih, S_succ]; omega
theorem S_nonneg {n : Nat} {f : Nat → Int} (h : ∀ k, k < n → 0 ≤ f k) : 0 ≤ S n f := by
  induction n with
  | zero => exact Int.le_refl _
  | succ n ih => rw [S_succ]; have := ih (fun k hk => h k (by omega)); have := h n (by omega); omega
theorem S_pos {n : Nat} {f : Nat → Int} (h : ∀ k, k < n → 0 ≤ f k) (j : Nat) (hj : j < n) (hp : 0 < f j) : 0 < S n f := by
  induction n with
  | zero => omega
  | succ n ih =>
    rw [S_succ]
    by_cases e : j = n
    · subst e; have := S_nonneg (n := j) (f := f) (fun k hk => h k (by omega)); omega
    · have := ih (fun k hk => h k (by omega)) (by omega); have := h n (by omega); omega
theorem S_bound {n : Nat} {f : Nat → Int} (m : Nat) (h : ∀ k, k < n → (f k).natAbs ≤ m) : (S n f).natAbs ≤ n * m := by
  induction n with
  | zero => simp [S_zero]
  | succ n ih => rw [S_succ, Nat.add_mul]; have := ih (fun k hk => h k (by omega)); have := h n (by omega); omega
/-- once round -/
theorem S_cyc (n : Nat) (g : Nat → Int) : S n (fun k => g ((k + 1) % n)) = S n g := by
  cases n with
  | zero => rfl
  | succ n =>
    rw [S_succ, S_first, Nat.mod_self, S_congr (g := fun k => g (k + 1)) (fun k hk => by rw [Nat.mod_eq_of_lt (by omega)])]
    omega

theorem area_S (l : List (Int × Int)) : areaZ l = S l.length (cz l) := rfl
/-- corner k -/
abbrev cn (l : List (Int × Int)) (k : Nat) : Int × Int := l.getD k (0, 0)
theorem crs_shift (a u v : Int × Int) : crs u v = crs (sbt u a) (sbt v a) + (crs a v - crs a u) := by
  simp only [crs, sbt]; grind
/-- the area, seen from any point -/
theorem area_from (l : List (Int × Int)) (a : Int × Int) : areaZ l = S l.length (fun k => crs (sbt (cn l k) a) (sbt (cn l ((k + 1) % l.length)) a)) := by
  rw [area_S]
  have : S l.length (cz l) = S l.length (fun k => crs (sbt (cn l k) a) (sbt (cn l ((k + 1) % l.length)) a) + (crs a (cn l ((k + 1) % l.length)) - crs a (cn l k))) :=
    S_congr (fun k _ => crs_shift a _ _)
  rw [this, S_add, S_sub, S_cyc l.length (fun k => crs a (cn l k))]
  omega

theorem cn_get {l : List (Int × Int)} {k : Nat} (h : k < l.length) : l[k]? = some (cn l k) := by
  unfold cn
  rw [List.getD_eq_getElem?_getD, List.getElem?_eq_getElem h]; rfl
theorem turn_c (a b c : Int × Int) : turn a b c = crs (sbt a c) (sbt b c) := by simp only [turn, crs, sbt]; grind

section
variable {l : List (Int × Int)} (T : Tame l)
include T
theorem Tame.turn {i k : Nat} (hi : i < l.length) (hk : k < l.length) (h1 : k ≠ i) (h2 : k ≠ (i + 1) % l.length) : 0 < turn (cn l i) (cn l ((i + 1) % l.length)) (cn l k) :=
  T.hull i k _ _ _ (cn_get hi) (cn_get (Nat.mod_lt _ (by omega))) (cn_get hk) h1 h2
theorem Tame.corner {k : Nat} (hk : k < l.length) : 0 < Geo.turn (cn l ((k + l.length - 1) % l.length)) (cn l k) (cn l ((k + 1) % l.length)) := by
  have h3 := T.lo
  have e : ((k + l.length - 1) % l.length + 1) % l.length = k := by
    by_cases z : k = 0
    · subst z
      rw [show 0 + l.length - 1 = l.length - 1 by omega, Nat.mod_eq_of_lt (show l.length - 1 < l.length by omega), show l.length - 1 + 1 = l.length by omega, Nat.mod_self]
    · rw [show k + l.length - 1 = (k - 1) + l.length by omega, Nat.add_mod_right, Nat.mod_eq_of_lt (show k - 1 < l.length by omega), show k - 1 + 1 = k by omega, Nat.mod_eq_of_lt hk]
  have m1 := mod_succ hk
  have hp : (k + l.length - 1) % l.length = if k = 0 then l.length - 1 else k - 1 := by
    split
    · rename_i z; subst z; rw [show 0 + l.length - 1 = l.length - 1 by omega, Nat.mod_eq_of_lt (by omega)]
    · rw [show k + l.length - 1 = (k - 1) + l.length by omega, Nat.add_mod_right, Nat.mod_eq_of_lt (by omega)]
  have := T.turn (i := (k + l.length - 1) % l.length) (k := (k + 1) % l.length) (Nat.mod_lt _ (by omega)) (Nat.mod_lt _ (by omega)) (by rw [m1, hp]; split <;> split <;> omega) (by rw [e, m1]; split <;> omega)
  rw [e] at this
  exact this
theorem Tame.side {i k : Nat} (hi : i < l.length) (hk : k < l.length) : 0 ≤ crs (sbt (cn l i) (cn l k)) (sbt (cn l ((i + 1) % l.length)) (cn l k)) := by
  by_cases h1 : k = i
  · subst h1; simp only [crs, sbt]; grind
  · by_cases h2 : k = (i + 1) % l.length
    · rw [← h2]; simp only [crs, sbt]; grind
    · have := T.turn hi hk h1 h2
      rw [turn_c] at this
      omega
theorem Tame.fan (i : Nat) (h1 : 1 ≤ i) (h2 : i + 1 < l.length) : 0 < crs (sbt (cn l i) (cn l 0)) (sbt (cn l (i + 1)) (cn l 0)) := by
  have := T.turn (i := i) (k := 0) (by omega) (by omega) (by omega) (by rw [Nat.mod_eq_of_lt (by omega)]; omega)
  rw [Nat.mod_eq_of_lt (show i + 1 < l.length by omega), turn_c] at this
  exact this
theorem Tame.area : 0 < areaZ l := by
  have h3 := T.lo
  rw [area_from l (cn l 0)]
  refine S_pos (fun k hk => T.side hk (by omega)) 1 (by omega) ?_
  have := T.fan 1 (by omega) (by omega)
  rw [Nat.mod_eq_of_lt (show 1 + 1 < l.length by omega)]
  exact this
end

/-- the middle, before it is in lowest terms -/
def midX (l : List (Int × Int)) : Int := S l.length (fX l)
def midY (l : List (Int × Int)) : Int := S l.length (fY l)
def midG (l : List (Int × Int)) : Nat := gcdL [midX l, midY l, 3 * areaZ l]
def mX (l : List (Int × Int)) : Int := (midX l).tdiv (midG l)
def mY (l : List (Int × Int)) : Int := (midY l).tdiv (midG l)
def mD (l : List (Int × Int)) : Int := (3 * areaZ l).tdiv (midG l)
theorem gcdL_three (a b c : Int) : gcdL [a, b, c] = Int.gcd (Int.gcd a b) c := by
  simp [gcdL, Int.gcd]
theorem midG_pos {l : List (Int × Int)} (T : Tame l) : 0 < midG l := by
  have := T.area
  unfold midG
  rw [gcdL_three]
  refine Nat.pos_of_ne_zero (fun e => ?_)
  have := Int.eq_zero_of_gcd_eq_zero_right e
  omega
theorem midX_bound {l : List (Int × Int)} (T : Tame l) : (midX l).natAbs ≤ 384000 :=
  Nat.le_trans (S_bound 32000 (fun k _ => fX_bound T.inr k)) (by have := T.hi; omega)
theorem midY_bound {l : List (Int × Int)} (T : Tame l) : (midY l).natAbs ≤ 384000 :=
  Nat.le_trans (S_bound 32000 (fun k _ => fY_bound T.inr k)) (by have := T.hi; omega)
theorem area_bound {l : List (Int × Int)} (T : Tame l) : (areaZ l).natAbs ≤ 9600 :=
  Nat.le_trans (S_bound 800 (fun k _ => cz_bound T.inr k)) (by have := T.hi; omega)
end Go.Proofs.Ytecncmmkghmojaa.Sh


/- open: a hull is opened. -/
namespace Go.Proofs.Ytecncmmkghmojaa.Sh
open Go Geo
set_option maxRecDepth 100000

theorem gc_body {base i cb n c : Nat} {x y D : Int} {h : SHeap} {cs : List Value} {old : List Nat} (hb : h[i]? = some (.cells [.slice (some ⟨cb, 0, none⟩) n c, .int .i64 x, .int .i64 y, .int .i64 D] 79 false 0 [])) (hc : h[cb]? = some (.cells cs 77 true 0 old))
    (h1 : base ≤ i) (h2 : base ≤ cb) (h3 : cb ≠ i) (ho : ∀ c ∈ old, base ≤ c ∧ c ≠ i ∧ c ≠ cb) :
    gcS base (.tuple #[.pointer (some ⟨i, 0, none⟩), .int .i64 0]) h = some (.tuple #[.pointer (some ⟨base, 0, none⟩), .int .i64 0], h.take base ++ [.cells [.slice (some ⟨base + 1, 0, none⟩) n c, .int .i64 x, .int .i64 y, .int .i64 D] 79 false 0 [], .cells cs 77 true 0 []]) := by
  have ei : Nat.ble base i = true := by rw [ble_dec]; simpa using h1
  have ec : Nat.ble base cb = true := by rw [ble_dec]; simpa using h2
  have ep : ptrs 3 (.tuple #[.pointer (some ⟨i, 0, none⟩), .int .i64 0]) = [i] := rfl
  have eo : ptrsO (some (SO.cells [.slice (some ⟨cb, 0, none⟩) n c, .int .i64 x, .int .i64 y, .int .i64 D] 79 false 0 [])) = [cb] := rfl
  have eo2 : ptrsO (some (SO.cells cs 77 true 0 old)) = [] := rfl
  have e1 : reach base h 1000000 [i] [] = [i, cb] := by
    rw [show (1000000 : Nat) = 999997 + 1 + 1 + 1 from rfl, reach]
    simp only [ei, List.contains_nil, Bool.not_true, Bool.or_self, Bool.false_eq_true, if_false, hb, eo]
    rw [List.cons_append, reach]
    have : [i].contains cb = false := by simp [h3]
    simp only [ec, this, Bool.not_true, Bool.or_self, Bool.false_eq_true, if_false, hc, eo2, List.nil_append, List.cons_append]
    rw [reach]
  have e2 : ren base [i, cb] i = some base := by simp [ren, ei, posOf]
  have e3 : ren base [i, cb] cb = some (base + 1) := by
    have : Nat.beq i cb = false := by rw [nbeq_dec]; simp; omega
    simp [ren, ec, posOf, this]
  have er : renV base [i, cb] 3 (.tuple #[.pointer (some ⟨i, 0, none⟩), .int .i64 0]) = some (.tuple #[.pointer (some ⟨base, 0, none⟩), .int .i64 0]) := by
    simp [renV, mapO, e2]
  have es : renV base [i, cb] 3 (.slice (some ⟨cb, 0, none⟩) n c) = some (.slice (some ⟨base + 1, 0, none⟩) n c) := by
    simp [renV, e3]
  have ez : ∀ z : Int, renV base [i, cb] 3 (.int .i64 z) = some (.int .i64 z) := fun z => rfl
  have ef : ((0 : Nat) == 2) = false := rfl
  have eold : old.filterMap (ren base [i, cb]) = [] := by
    rw [List.filterMap_eq_nil_iff]
    intro a ha
    obtain ⟨a1, a2, a3⟩ := ho a ha
    have e4 : Nat.ble base a = true := by rw [ble_dec]; simpa using a1
    have e5 : Nat.beq i a = false := by rw [nbeq_dec]; simp; omega
    have e6 : Nat.beq cb a = false := by rw [nbeq_dec]; simp; omega
    simp [ren, e4, posOf, e5, e6]
  unfold gcS
  simp only [ep, e1, er, mapO, renO, hb, hc, es, ez, ef, eold, Bool.false_eq_true, if_false, if_true, List.filterMap_nil]

theorem open62 {h : SHeap} {v : Value} {l : List (Int × Int)} (hv : PS h v l) (T : Tame l) :
    M.call 62 [v] h = some (.tuple #[.pointer (some ⟨h.length, 0, none⟩), .int .i64 0], h ++ [.cells [.slice (some ⟨h.length + 1, 0, none⟩) l.length (UNK + 2), .int .i64 (mX l), .int .i64 (mY l), .int .i64 (mD l)] 79 false 0 [], .cells (prs l) 77 true 0 []], []) := by
  have T1 := T.lo
  have T2 := T.hi
  obtain ⟨a, c, rfl, hps⟩ := hv
  obtain ⟨b, o, rfl, hp⟩ := hps (by intro e; rw [e] at T1; simp at T1)
  refine call_run sf62 rfl rfl rfl ?_
  show Run M ⟨h.length, none, 62⟩ 8 sf62.body [] _ [] h [] (callQ [.cell none 2, .cell none 3] h.length _)
  unfold sf62
  dsimp only
  have e1 : ¬ ((l.length : Int) < 3) := by omega
  have e2 : ¬ ((12 : Int) < (l.length : Int)) := by omega
  have c85 := any98 (h := h ++ [SO.cells [.pointer none] 72 false 0 [], .cells [.int .i64 0] 24 true 0 []]) (v := .slice (some ⟨b, o, none⟩) l.length c) (l := l) ⟨_, _, rfl, fun _ => ⟨b, o, rfl, hp.app _⟩⟩ (by omega) T.inr
  repeat (first | apply run_seq | apply run_block | apply end_seq | apply end_blk_hit | apply end_blk_miss rfl | apply end_blk | apply end_seq_exit | apply end_seq_ret | apply end_blk_ret | apply run_skip | apply run_ret | apply run_exit | (apply run_region (by decide); (simp only [go_sem, argR, e1, e2, c85]; rfl)) | (refine run_cond_t ?_ ?_; · simp only [go_sem]) | (refine run_cond_f ?_ ?_; · simp only [go_sem]))
  refine run_loop (copy_loop _ (c := c) hp T2 (h ++ [SO.cells [.pointer none] 72 false 0 [], .cells [.int .i64 0] 24 true 0 []]) (fun j hj => List.getElem?_append_left hj) rfl l.length _ _ _ _ ⟨0, .slice none 0 0, by omega, by simp only [go_sem], by simp only [go_sem], by simp only [go_sem], by simp only [go_sem, argR], by simp only [go_sem, argR], by simp only [go_sem], by simp, ?_, ?_, .inl ⟨rfl, rfl, rfl⟩, rfl, rfl⟩) ?_
  · intro j hj
    rw [show ∀ x y z : SO, h ++ [x, y, z] = (h ++ [x, y]) ++ [z] by simp, List.getElem?_append_left (by simp; omega)]
  · rw [app_get]; rfl
  rintro ex ρ' ms' H2 d1 ⟨rfl, r2, r3, r4, v, hle, hsame, hbody, acc, rfl, rfl⟩
  rcases acc with ⟨z, _, _⟩ | ⟨cb, old, rfl, hcb, _, _, hcl, _, hold⟩
  · omega
  have hcb2 : cb < H2.length := (List.getElem?_eq_some_iff.1 hcb).1
  have hB2 : Body H2 (h.length + 2) cb (UNK + 2) l 0 0 0 := ⟨hbody, Prs.mk0 hcb rfl⟩
  have s0 : H2[h.length]? = some (.cells [.pointer none] 72 false 0 []) := by rw [hsame _ (by omega), app_get0]; rfl
  have s1 : H2[h.length + 1]? = some (.cells [.int .i64 0] 24 true 0 []) := by rw [hsame _ (by omega), app_get]; rfl
  have s2 : ∀ j, j < h.length → H2[j]? = h[j]? := fun j hj => by rw [hsame _ (by omega), List.getElem?_append_left hj]
  have lb2 := hB2.load
  have c99 := around99 cb l.length (UNK + 2) H2 hcb2
  repeat (first | apply run_seq | apply run_block | apply end_seq | apply end_blk_hit | apply end_blk_miss rfl | apply end_blk | apply end_seq_exit | apply end_seq_ret | apply end_blk_ret | apply run_skip | apply run_ret | apply run_exit | (apply run_region (by decide); (simp only [go_sem, r4, lb2, c99]; rfl)) | (refine run_cond_t ?_ ?_; · simp only [go_sem]) | (refine run_cond_f ?_ ?_; · simp only [go_sem]))
  -- the corners
  show Run M _ 8 (.rangeFunc (.tmp 52) [53, 54] rfA62_0 rfB62_0) _ _ _ _ _ _
  refine run_range (g := 109) (caps := #[.pointer (some ⟨H2.length, 0, none⟩)]) rfl (by simp only [go_sem]) ?_
  intro t hf ht
  rw [← ht]
  have t2 : t.get 2 = .pointer (some ⟨h.length, 0, none⟩) := by rw [ht]; simp only [go_sem, r2]
  have t3 : t.get 3 = .pointer (some ⟨h.length + 1, 0, none⟩) := by rw [ht]; simp only [go_sem, r3]
  have t4 : t.get 4 = .pointer (some ⟨h.length + 2, 0, none⟩) := by rw [ht]; simp only [go_sem, r4]
  clear ht
  have y1 : ∀ j, j < H2.length → (H2 ++ [SO.cells [.slice (some ⟨cb, 0, none⟩) l.length (UNK + 2)] 76 false 0 [], .deferred, .loop 0 62 t [53, 54] rfA62_0 rfB62_0 none (H2.length + 1)])[j]? = H2[j]? := fun j hj => List.getElem?_append_left hj
  have y0 : (H2 ++ [SO.cells [.slice (some ⟨cb, 0, none⟩) l.length (UNK + 2)] 76 false 0 [], .deferred, .loop 0 62 t [53, 54] rfA62_0 rfB62_0 none (H2.length + 1)])[H2.length]? = some (.cells [.slice (some ⟨cb, 0, none⟩) l.length (UNK + 2)] 76 false 0 []) := by rw [app_get0]; rfl
  have y2 : (H2 ++ [SO.cells [.slice (some ⟨cb, 0, none⟩) l.length (UNK + 2)] 76 false 0 [], .deferred, .loop 0 62 t [53, 54] rfA62_0 rfB62_0 none (H2.length + 1)])[H2.length + 1]? = some .deferred := by rw [app_get]; rfl
  have y3 : (H2 ++ [SO.cells [.slice (some ⟨cb, 0, none⟩) l.length (UNK + 2)] 76 false 0 [], .deferred, .loop 0 62 t [53, 54] rfA62_0 rfB62_0 none (H2.length + 1)])[H2.length + 2]? = some (.loop 0 62 t [53, 54] rfA62_0 rfB62_0 none (H2.length + 1)) := by rw [app_get]; rfl
  have y4 : (H2 ++ [SO.cells [.slice (some ⟨cb, 0, none⟩) l.length (UNK + 2)] 76 false 0 [], .deferred, .loop 0 62 t [53, 54] rfA62_0 rfB62_0 none (H2.length + 1)]).length = H2.length + 3 := by simp
  have y5 : (H2 ++ [SO.cells [.slice (some ⟨cb, 0, none⟩) l.length (UNK + 2)] 76 false 0 []]).length = H2.length + 1 := by simp
  have y6 : ∀ x y : SO, (H2 ++ [SO.cells [.slice (some ⟨cb, 0, none⟩) l.length (UNK + 2)] 76 false 0 []]) ++ [x, y] = H2 ++ [SO.cells [.slice (some ⟨cb, 0, none⟩) l.length (UNK + 2)] 76 false 0 [], x, y] := by simp
  rw [y5, y6]
  dsimp only
  generalize H2 ++ [SO.cells [.slice (some ⟨cb, 0, none⟩) l.length (UNK + 2)] 76 false 0 [], .deferred, .loop 0 62 t [53, 54] rfA62_0 rfB62_0 none (H2.length + 1)] = H0 at *
  obtain ⟨r, hr, hcall⟩ := around109 (h := H0) (L := H2.length + 2) (pb := H2.length) (cb := cb) (c := UNK + 2) (l := l) (by omega) T2 (JC H0)
    (fun k hh dd g J => J.app g)
    (fun k hh dd J => ⟨by rw [load_rdO, J.same _ (by omega), y0]; rfl, hB2.2.same (by rw [J.same _ (by omega), y1 _ hcb2])⟩)
    (fun k hh dd hk J => corner_round y3 T.inr hf k (by omega) (T.corner hk) hh dd J)
    ⟨Nat.le_refl _, fun j _ => rfl, rfl⟩
  obtain ⟨hh, dd, J, hr⟩ := hr
  have hdd := J.none
  subst hdd
  have hr' : r = (.tuple #[], hh.take H0.length, []) := by
    rcases hr with ⟨_, e⟩ | ⟨e, _⟩
    · exact e
    · exact (e rfl).elim
  subst hr'
  have htk : hh.take H0.length = H0 := take_of_same J.len J.same
  rw [htk] at hcall
  refine ⟨_, H0, [], hcall, _, _, _, _, _, _, _, _, y3, rfl, .inl ⟨rfl, ?_⟩⟩
  rw [setLoop_eq y3, dirts_nil]
  have w1 : ∀ j, j < H2.length → (H0.set (H2.length + 2) (.loop 3 62 t [53, 54] rfA62_0 rfB62_0 none (H2.length + 1)))[j]? = H2[j]? := fun j hj => by rw [List.getElem?_set_ne (by omega), y1 j hj]
  have w2 : (H0.set (H2.length + 2) (.loop 3 62 t [53, 54] rfA62_0 rfB62_0 none (H2.length + 1)))[H2.length + 1]? = some .deferred := by rw [List.getElem?_set_ne (by omega), y2]
  have w3 : (H0.set (H2.length + 2) (.loop 3 62 t [53, 54] rfA62_0 rfB62_0 none (H2.length + 1))).length = H2.length + 3 := by simp [y4]
  generalize H0.set (H2.length + 2) (.loop 3 62 t [53, 54] rfA62_0 rfB62_0 none (H2.length + 1)) = H3 at *
  clear hcall htk J hr y0 y1 y2 y3 y4 y5 y6 lb2 c99
  have hB3 : Body H3 (h.length + 2) cb (UNK + 2) l 0 0 0 := ⟨by rw [w1 _ (by omega)]; exact hB2.1, hB2.2.same (w1 _ hcb2)⟩
  have lb3 := hB3.load
  have lf := hB3.2.loadN (i := 0) (by omega)
  have gd : ∀ j, (hj : j < l.length) → l[j] = cn l j := fun j hj => by unfold cn; rw [List.getD_eq_getElem?_getD, List.getElem?_eq_getElem hj]; rfl
  rw [gd, Nat.zero_mul, Nat.add_zero] at lf
  have p0 : (0 : Int) < l.length := by omega
  repeat (first | apply run_seq | apply run_block | apply end_seq | apply end_blk_hit | apply end_blk_miss rfl | apply end_blk | apply end_seq_exit | apply end_seq_ret | apply end_blk_ret | apply run_skip | apply run_ret | apply run_exit | (apply run_region (by decide); (simp only [go_sem, t4, lb3, lf, p0]; rfl)) | (refine run_cond_t ?_ ?_; · simp only [go_sem]) | (refine run_cond_f ?_ ?_; · simp only [go_sem]))
  have x1 : ∀ j, j < H3.length → (H3 ++ [SO.cells [.int .i64 (cn l 0).1, .int .i64 (cn l 0).2] 77 true 0 []])[j]? = H3[j]? := fun j hj => List.getElem?_append_left hj
  have x2 : (H3 ++ [SO.cells [.int .i64 (cn l 0).1, .int .i64 (cn l 0).2] 77 true 0 []])[H3.length]? = some (.cells [.int .i64 (cn l 0).1, .int .i64 (cn l 0).2] 77 true 0 []) := by rw [app_get0]; rfl
  have x3 : (H3 ++ [SO.cells [.int .i64 (cn l 0).1, .int .i64 (cn l 0).2] 77 true 0 []]).length = H3.length + 1 := by simp
  have hB4 := hB3.app [SO.cells [.int .i64 (cn l 0).1, .int .i64 (cn l 0).2] 77 true 0 []]
  generalize H3 ++ [SO.cells [.int .i64 (cn l 0).1, .int .i64 (cn l 0).2] 77 true 0 []] = H4 at *
  have lf4 : loadS H4 (some 2) (.pointer (some ⟨H3.length, 0, none⟩)) = some (.agg #[.int .i64 (cn l 0).1, .int .i64 (cn l 0).2]) := by rw [load_rdON, x2]; rfl
  refine run_loop (fan_loop _ (f0 := H3.length) hB4 T.inr (by omega) T2 lf4 (fun i h1 h2 => T.fan i h1 h2) _ [H2.length + 1] (by simp only [go_sem, t4]) (by simp only [go_sem]) (l.length - 1) _ _ _ _ ⟨1, by omega, by omega, rfl, rfl, rfl, rfl, by simp only [go_sem], rfl, rfl, rfl⟩) ?_
  rintro ex ρ' ms' h1 d1 ⟨rfl, r2', r3', r4', rfl, rfl, rfl⟩
  have q2 : ρ' 2 = .pointer (some ⟨h.length, 0, none⟩) := by rw [r2']; simp only [go_sem, t2]
  have q3 : ρ' 3 = .pointer (some ⟨h.length + 1, 0, none⟩) := by rw [r3']; simp only [go_sem, t3]
  have q4 : ρ' 4 = .pointer (some ⟨h.length + 2, 0, none⟩) := by rw [r4']; simp only [go_sem, t4]
  clear r2' r3' r4' r2 r3 r4 t2 t3 t4 lf4 lf lb3
  have lb5 := (hB4.app [SO.cells [.slice none 0 0] 40 false 0 [], .cells [.slice none 0 0] 40 false 0 []]).load
  have v1 : ∀ j, j < H2.length → h1[j]? = H2[j]? := fun j hj => by rw [x1 j (by omega), w1 j hj]
  have v2 : h1[H2.length + 1]? = some .deferred := by rw [x1 _ (by omega), w2]
  have v3 : h1.length = H2.length + 4 := by omega
  clear w1 w2 x1 x2 hB3
  have c99 := around99 cb l.length (UNK + 2) (h1 ++ [SO.cells [.slice none 0 0] 40 false 0 [], .cells [.slice none 0 0] 40 false 0 []]) (by simp; omega)
  have u5 : (h1 ++ [SO.cells [.slice none 0 0] 40 false 0 [], .cells [.slice none 0 0] 40 false 0 []]).length = h1.length + 2 := by simp
  rw [u5, List.append_assoc] at c99
  have c99' : M.call 99 [.slice (some ⟨cb, 0, none⟩) l.length (UNK + 2)] (h1 ++ [SO.cells [.slice none 0 0] 40 false 0 [], .cells [.slice none 0 0] 40 false 0 []]) = some (.func (.func 109) #[] #[.pointer (some ⟨h1.length + 2, 0, none⟩)], h1 ++ [SO.cells [.slice none 0 0] 40 false 0 [], .cells [.slice none 0 0] 40 false 0 [], .cells [.slice (some ⟨cb, 0, none⟩) l.length (UNK + 2)] 76 false 0 []], []) := c99
  repeat (first | apply run_seq | apply run_block | apply end_seq | apply end_blk_hit | apply end_blk_miss rfl | apply end_blk | apply end_seq_exit | apply end_seq_ret | apply end_blk_ret | apply run_skip | apply run_ret | apply run_exit | (apply run_region (by decide); (simp only [go_sem, q4, lb5, c99']; rfl)) | (refine run_cond_t ?_ ?_; · simp only [go_sem]) | (refine run_cond_f ?_ ?_; · simp only [go_sem]))
  -- the sums
  show Run M _ 8 (.rangeFunc (.tmp 108) [109, 110] rfA62_1 rfB62_1) _ _ _ _ _ _
  refine run_range (g := 109) (caps := #[.pointer (some ⟨h1.length + 2, 0, none⟩)]) rfl (by simp only [go_sem]) ?_
  intro t hf ht
  rw [← ht]
  have t2 : t.get 2 = .pointer (some ⟨h.length, 0, none⟩) := by rw [ht]; simp only [go_sem, q2]
  have t3 : t.get 3 = .pointer (some ⟨h.length + 1, 0, none⟩) := by rw [ht]; simp only [go_sem, q3]
  have t4 : t.get 4 = .pointer (some ⟨h.length + 2, 0, none⟩) := by rw [ht]; simp only [go_sem, q4]
  have t11 : t.get 11 = .pointer (some ⟨h1.length, 0, none⟩) := by rw [ht]; simp only [go_sem]
  have t12 : t.get 12 = .pointer (some ⟨h1.length + 1, 0, none⟩) := by rw [ht]; simp only [go_sem]
  clear ht
  have y1 : ∀ j, j < h1.length → (h1 ++ [SO.cells [.slice none 0 0] 40 false 0 [], .cells [.slice none 0 0] 40 false 0 [], .cells [.slice (some ⟨cb, 0, none⟩) l.length (UNK + 2)] 76 false 0 [], .deferred, .loop 0 62 t [109, 110] rfA62_1 rfB62_1 none (h1.length + 3)])[j]? = h1[j]? := fun j hj => List.getElem?_append_left hj
  have yx : (h1 ++ [SO.cells [.slice none 0 0] 40 false 0 [], .cells [.slice none 0 0] 40 false 0 [], .cells [.slice (some ⟨cb, 0, none⟩) l.length (UNK + 2)] 76 false 0 [], .deferred, .loop 0 62 t [109, 110] rfA62_1 rfB62_1 none (h1.length + 3)])[h1.length]? = some (.cells [.slice none 0 0] 40 false 0 []) := by rw [app_get0]; rfl
  have yy : (h1 ++ [SO.cells [.slice none 0 0] 40 false 0 [], .cells [.slice none 0 0] 40 false 0 [], .cells [.slice (some ⟨cb, 0, none⟩) l.length (UNK + 2)] 76 false 0 [], .deferred, .loop 0 62 t [109, 110] rfA62_1 rfB62_1 none (h1.length + 3)])[h1.length + 1]? = some (.cells [.slice none 0 0] 40 false 0 []) := by rw [app_get]; rfl
  have y0 : (h1 ++ [SO.cells [.slice none 0 0] 40 false 0 [], .cells [.slice none 0 0] 40 false 0 [], .cells [.slice (some ⟨cb, 0, none⟩) l.length (UNK + 2)] 76 false 0 [], .deferred, .loop 0 62 t [109, 110] rfA62_1 rfB62_1 none (h1.length + 3)])[h1.length + 2]? = some (.cells [.slice (some ⟨cb, 0, none⟩) l.length (UNK + 2)] 76 false 0 []) := by rw [app_get]; rfl
  have y2 : (h1 ++ [SO.cells [.slice none 0 0] 40 false 0 [], .cells [.slice none 0 0] 40 false 0 [], .cells [.slice (some ⟨cb, 0, none⟩) l.length (UNK + 2)] 76 false 0 [], .deferred, .loop 0 62 t [109, 110] rfA62_1 rfB62_1 none (h1.length + 3)])[h1.length + 3]? = some .deferred := by rw [app_get]; rfl
  have y3 : (h1 ++ [SO.cells [.slice none 0 0] 40 false 0 [], .cells [.slice none 0 0] 40 false 0 [], .cells [.slice (some ⟨cb, 0, none⟩) l.length (UNK + 2)] 76 false 0 [], .deferred, .loop 0 62 t [109, 110] rfA62_1 rfB62_1 none (h1.length + 3)])[h1.length + 4]? = some (.loop 0 62 t [109, 110] rfA62_1 rfB62_1 none (h1.length + 3)) := by rw [app_get]; rfl
  have y4 : (h1 ++ [SO.cells [.slice none 0 0] 40 false 0 [], .cells [.slice none 0 0] 40 false 0 [], .cells [.slice (some ⟨cb, 0, none⟩) l.length (UNK + 2)] 76 false 0 [], .deferred, .loop 0 62 t [109, 110] rfA62_1 rfB62_1 none (h1.length + 3)]).length = h1.length + 5 := by simp
  have y5 : (h1 ++ [SO.cells [.slice none 0 0] 40 false 0 [], .cells [.slice none 0 0] 40 false 0 [], .cells [.slice (some ⟨cb, 0, none⟩) l.length (UNK + 2)] 76 false 0 []]).length = h1.length + 3 := by simp
  have y6 : ∀ x y : SO, (h1 ++ [SO.cells [.slice none 0 0] 40 false 0 [], .cells [.slice none 0 0] 40 false 0 [], .cells [.slice (some ⟨cb, 0, none⟩) l.length (UNK + 2)] 76 false 0 []]) ++ [x, y] = h1 ++ [SO.cells [.slice none 0 0] 40 false 0 [], .cells [.slice none 0 0] 40 false 0 [], .cells [.slice (some ⟨cb, 0, none⟩) l.length (UNK + 2)] 76 false 0 [], x, y] := by simp
  rw [y5, y6]
  dsimp only
  generalize (h1 ++ [SO.cells [.slice none 0 0] 40 false 0 [], .cells [.slice none 0 0] 40 false 0 [], .cells [.slice (some ⟨cb, 0, none⟩) l.length (UNK + 2)] 76 false 0 [], .deferred, .loop 0 62 t [109, 110] rfA62_1 rfB62_1 none (h1.length + 3)]) = HA at *
  obtain ⟨r, hr, hcall⟩ := around109 (h := HA) (L := h1.length + 4) (pb := h1.length + 2) (cb := cb) (c := UNK + 2) (l := l) (by omega) T2 (JM62 HA h1.length (h1.length + 4) 62 (h1.length + 3) t l)
    (fun k hh dd g J => J.app (by omega) (by omega) g)
    (fun k hh dd J => ⟨by rw [load_rdO, J.same _ (by omega) (by omega) (by omega) (by omega), y0]; rfl, hB4.2.same (by rw [J.same _ (by omega) (by omega) (by omega) (by omega), y1 _ (by omega)])⟩)
    (fun k hh dd hk J => middle_round (by omega) (by omega) T.inr hf t11 t12 k (by omega) hh dd J)
    ⟨Nat.le_refl _, fun j _ _ _ _ => rfl, y3, ⟨.slice none 0 0, .slice none 0 0, yx, yy, .inl ⟨rfl, rfl, rfl⟩, .inl ⟨rfl, rfl, rfl⟩, fun b b' e e' => by simp at e⟩, fun x hx => by simp at hx, fun h => (h rfl).elim⟩
  obtain ⟨hh, dd, J, ⟨rfl, _⟩ | ⟨hdd, rfl⟩⟩ := hr
  · exact (J.some (by omega) rfl).elim
  refine ⟨_, hh, dd, hcall, _, _, _, _, _, _, _, _, J.loop, rfl, .inl ⟨rfl, ?_⟩⟩
  rw [setLoop_eq J.loop]
  have jl := J.len
  obtain ⟨v, w, jx, jy, ax, ay, _⟩ := J.acc
  have hd : dirts h.length dd [] = [] := dirts_own (fun x hx => by rcases J.all x hx with e | e <;> omega) []
  have k0 : ∀ j, j < h1.length → (hh.set (h1.length + 4) (.loop 3 62 t [109, 110] rfA62_1 rfB62_1 none (h1.length + 3)))[j]? = h1[j]? := fun j hj => by rw [List.getElem?_set_ne (by omega), J.same j (by omega) (by omega) (by omega) (by omega), y1 j hj]
  have k2 : (hh.set (h1.length + 4) (.loop 3 62 t [109, 110] rfA62_1 rfB62_1 none (h1.length + 3)))[h1.length + 3]? = some .deferred := by rw [List.getElem?_set_ne (by omega), J.same _ (by omega) (by omega) (by omega) (by omega), y2]
  have kx : (hh.set (h1.length + 4) (.loop 3 62 t [109, 110] rfA62_1 rfB62_1 none (h1.length + 3)))[h1.length]? = some (.cells [v] 40 false 0 []) := by rw [List.getElem?_set_ne (by omega)]; exact jx
  have ky : (hh.set (h1.length + 4) (.loop 3 62 t [109, 110] rfA62_1 rfB62_1 none (h1.length + 3)))[h1.length + 1]? = some (.cells [w] 40 false 0 []) := by rw [List.getElem?_set_ne (by omega)]; exact jy
  have kax : Acc HA.length (hh.set (h1.length + 4) (.loop 3 62 t [109, 110] rfA62_1 rfB62_1 none (h1.length + 3))) v (vals (fX l) l.length) l.length 1 3 := ax.keep (fun b e => by have := ax.lt e; rw [List.getElem?_set_ne (by omega)])
  have kay : Acc HA.length (hh.set (h1.length + 4) (.loop 3 62 t [109, 110] rfA62_1 rfB62_1 none (h1.length + 3))) w (vals (fY l) l.length) l.length 1 3 := ay.keep (fun b e => by have := ay.lt e; rw [List.getElem?_set_ne (by omega)])
  have kl : h1.length + 5 ≤ (hh.set (h1.length + 4) (.loop 3 62 t [109, 110] rfA62_1 rfB62_1 none (h1.length + 3))).length := by simp; omega
  have hw1 := acc_vsame kay
  generalize (hh.set (h1.length + 4) (.loop 3 62 t [109, 110] rfA62_1 rfB62_1 none (h1.length + 3))) = K at *
  rw [hd]
  clear hcall y0 y1 y2 y3 y4 y5 y6 yx yy c99 c99' lb5 J ax ay jx jy
  have lx : loadS K none (.pointer (some ⟨h1.length, 0, none⟩)) = some v := by rw [load_rdO, kx]; rfl
  have ly : loadS K none (.pointer (some ⟨h1.length + 1, 0, none⟩)) = some w := by rw [load_rdO, ky]; rfl
  have sx := sum100 (Acc.is kax (by simp)) (by simp; omega) (by
    intro x hx
    simp at hx
    obtain ⟨k, _, rfl⟩ := hx
    exact Nat.le_trans (fX_bound T.inr k) (by decide))
  have sy := sum100 (Acc.is kay (by simp)) (by simp; omega) (by
    intro x hx
    simp at hx
    obtain ⟨k, _, rfl⟩ := hx
    exact Nat.le_trans (fY_bound T.inr k) (by decide))
  have sx' : M.call 100 [v] K = some (.int .i64 (midX l), K, []) := sx
  have sy' : M.call 100 [w] K = some (.int .i64 (midY l), K, []) := sy
  have hBK : Body K (h.length + 2) cb (UNK + 2) l 0 0 0 := ⟨by rw [k0 _ (by omega)]; exact hB4.1, hB4.2.same (k0 _ (by omega))⟩
  have sa := area63 hBK T.inr (by omega) T2
  have ba := area_bound T
  have wa : IntKind.i64.wrap (3 * areaZ l) = 3 * areaZ l := wrap_abs (by omega)
  have hb0 := hBK.1
  have hle2 : Nat.ble h.length (h.length + 2) = true := by rw [ble_dec]; simp
  have hdir : ∀ d, dirty h.length (h.length + 2) false d = d := fun d => by simp [dirty, hle2]
  have hset : ∀ x : SO, (K.set (h.length + 2) x)[h.length + 2]? = some x := fun x => List.getElem?_set_self (by omega)
  repeat (first | apply run_seq | apply run_block | apply end_seq | apply end_blk_hit | apply end_blk_miss rfl | apply end_blk | apply end_seq_exit | apply end_seq_ret | apply end_blk_ret | apply run_skip | apply run_ret | apply run_exit | (apply run_region (by decide); (simp only [go_sem, t4, t11, t12, lx, ly, hw1, sx', sy', sa, wa, hb0, hdir, hset, List.set_set]; rfl)) | (refine run_cond_t ?_ ?_; · simp only [go_sem]) | (refine run_cond_f ?_ ?_; · simp only [go_sem]))
  have hcK : K[cb]? = some (.cells (prs l) 77 true 0 old) := by rw [k0 _ (by omega), v1 _ (by omega)]; exact hcb
  have n0 : ∀ j, j ≠ h.length + 2 → (K.set (h.length + 2) (.cells [.slice (some ⟨cb, 0, none⟩) l.length (UNK + 2), .int .i64 (midX l), .int .i64 (midY l), .int .i64 (3 * areaZ l)] 79 false 0 []))[j]? = K[j]? := fun j hj => by rw [List.getElem?_set_ne (by omega)]
  have n1 : (K.set (h.length + 2) (.cells [.slice (some ⟨cb, 0, none⟩) l.length (UNK + 2), .int .i64 (midX l), .int .i64 (midY l), .int .i64 (3 * areaZ l)] 79 false 0 []))[h.length + 2]? = some (.cells [.slice (some ⟨cb, 0, none⟩) l.length (UNK + 2), .int .i64 (midX l), .int .i64 (midY l), .int .i64 (3 * areaZ l)] 79 false 0 []) := List.getElem?_set_self (by omega)
  have n2 : (K.set (h.length + 2) (.cells [.slice (some ⟨cb, 0, none⟩) l.length (UNK + 2), .int .i64 (midX l), .int .i64 (midY l), .int .i64 (3 * areaZ l)] 79 false 0 [])).length = K.length := by simp
  generalize (K.set (h.length + 2) (.cells [.slice (some ⟨cb, 0, none⟩) l.length (UNK + 2), .int .i64 (midX l), .int .i64 (midY l), .int .i64 (3 * areaZ l)] 79 false 0 [])) = K1 at *
  have m1 : ∀ e, (K1 ++ e)[h.length + 2]? = some (.cells [.slice (some ⟨cb, 0, none⟩) l.length (UNK + 2), .int .i64 (midX l), .int .i64 (midY l), .int .i64 (3 * areaZ l)] 79 false 0 []) := fun e => by rw [List.getElem?_append_left (by omega), n1]
  have m2 : ∀ e, loadS (K1 ++ e) none (.pointer (some ⟨h.length + 2, 1, none⟩)) = some (.int .i64 (midX l)) := fun e => by rw [load_rdO, m1]; rfl
  have m3 : ∀ e, loadS (K1 ++ e) none (.pointer (some ⟨h.length + 2, 2, none⟩)) = some (.int .i64 (midY l)) := fun e => by rw [load_rdO, m1]; rfl
  have m4 : ∀ e, loadS (K1 ++ e) none (.pointer (some ⟨h.length + 2, 3, none⟩)) = some (.int .i64 (3 * areaZ l)) := fun e => by rw [load_rdO, m1]; rfl
  have bx := midX_bound T
  have bY := midY_bound T
  have cd : M.call 101 [.slice (some ⟨K1.length, 0, none⟩) 3 3] (K1 ++ [SO.cells [.int .i64 (midX l), .int .i64 (midY l), .int .i64 (3 * areaZ l)] 3 true 0 []]) = some (.int .i64 (midG l), K1 ++ [SO.cells [.int .i64 (midX l), .int .i64 (midY l), .int .i64 (3 * areaZ l)] 3 true 0 []], []) :=
    divi K1.length 3 [midX l, midY l, 3 * areaZ l] _ ⟨3, true, 0, [], by rw [app_get0]; rfl, rfl⟩ (by simp) (by
      intro x hx
      simp at hx
      rcases hx with rfl | rfl | rfl <;> omega)
  apply run_regionN (by decide)
  · simp only [go_sem, t4, m2, m3, m4, cd, rep1, new_some]
    rfl
  have n3 : ∀ j, j < K1.length → (K1 ++ [SO.cells [.int .i64 (midX l), .int .i64 (midY l), .int .i64 (3 * areaZ l)] 3 true 0 []])[j]? = K1[j]? := fun j hj => List.getElem?_append_left hj
  have n4 : (K1 ++ [SO.cells [.int .i64 (midX l), .int .i64 (midY l), .int .i64 (3 * areaZ l)] 3 true 0 []]).length = K1.length + 1 := by simp
  generalize K1 ++ [SO.cells [.int .i64 (midX l), .int .i64 (midY l), .int .i64 (3 * areaZ l)] 3 true 0 []] = K2 at *
  clear m1 m2 m3 m4
  have m1 : K2[h.length + 2]? = some (.cells [.slice (some ⟨cb, 0, none⟩) l.length (UNK + 2), .int .i64 (midX l), .int .i64 (midY l), .int .i64 (3 * areaZ l)] 79 false 0 []) := by rw [n3 _ (by omega), n1]
  have m2 : loadS K2 none (.pointer (some ⟨h.length + 2, 1, none⟩)) = some (.int .i64 (midX l)) := by rw [load_rdO, m1]; rfl
  have m3 : loadS K2 none (.pointer (some ⟨h.length + 2, 2, none⟩)) = some (.int .i64 (midY l)) := by rw [load_rdO, m1]; rfl
  have m4 : loadS K2 none (.pointer (some ⟨h.length + 2, 3, none⟩)) = some (.int .i64 (3 * areaZ l)) := by rw [load_rdO, m1]; rfl
  have hgp := midG_pos T
  have hg0 : ¬ ((midG l : Int) = 0) := by omega
  have wx : IntKind.i64.wrap ((midX l).tdiv (midG l)) = mX l := wrap_abs (tdiv_le _ _ _ (by omega))
  have wy : IntKind.i64.wrap ((midY l).tdiv (midG l)) = mY l := wrap_abs (tdiv_le _ _ _ (by omega))
  have wd : IntKind.i64.wrap ((3 * areaZ l).tdiv (midG l)) = mD l := wrap_abs (tdiv_le _ _ _ (by omega))
  have hset2 : ∀ x : SO, (K2.set (h.length + 2) x)[h.length + 2]? = some x := fun x => List.getElem?_set_self (by omega)
  apply end_seq
  apply run_seq
  apply run_region (by decide)
  · simp only [go_sem, t4, m1, m2, m3, m4, hg0, wx, wy, wd, hdir, hset2, List.set_set]
    rfl
  have o0 : ∀ j, j < K.length → j ≠ h.length + 2 → (K2.set (h.length + 2) (.cells [.slice (some ⟨cb, 0, none⟩) l.length (UNK + 2), .int .i64 (mX l), .int .i64 (mY l), .int .i64 (mD l)] 79 false 0 []))[j]? = K[j]? := fun j hj hne => by rw [List.getElem?_set_ne (by omega), n3 j (by omega), n0 j hne]
  have o1 : (K2.set (h.length + 2) (.cells [.slice (some ⟨cb, 0, none⟩) l.length (UNK + 2), .int .i64 (mX l), .int .i64 (mY l), .int .i64 (mD l)] 79 false 0 []))[h.length + 2]? = some (.cells [.slice (some ⟨cb, 0, none⟩) l.length (UNK + 2), .int .i64 (mX l), .int .i64 (mY l), .int .i64 (mD l)] 79 false 0 []) := List.getElem?_set_self (by omega)
  have o2 : (K2.set (h.length + 2) (.cells [.slice (some ⟨cb, 0, none⟩) l.length (UNK + 2), .int .i64 (mX l), .int .i64 (mY l), .int .i64 (mD l)] 79 false 0 [])).length = K.length + 1 := by simp; omega
  generalize (K2.set (h.length + 2) (.cells [.slice (some ⟨cb, 0, none⟩) l.length (UNK + 2), .int .i64 (mX l), .int .i64 (mY l), .int .i64 (mD l)] 79 false 0 [])) = K3 at *
  have w0 : K3[h.length]? = some (.cells [.pointer none] 72 false 0 []) := by rw [o0 _ (by omega) (by omega), k0 _ (by omega), v1 _ (by omega), s0]
  have w1 : ∀ x : SO, (K3.set h.length x)[h.length + 1]? = some (.cells [.int .i64 0] 24 true 0 []) := fun x => by rw [List.getElem?_set_ne (by omega), o0 _ (by omega) (by omega), k0 _ (by omega), v1 _ (by omega), s1]
  have hleB : Nat.ble h.length h.length = true := by rw [ble_dec]; simp
  have hdirB : ∀ d, dirty h.length h.length false d = d := fun d => by simp [dirty, hleB]
  repeat (first | apply run_seq | apply run_block | apply end_seq | apply end_blk_hit | apply end_blk_miss rfl | apply end_blk | apply end_seq_exit | apply end_seq_ret | apply end_blk_ret | apply run_skip | apply run_ret | apply run_exit | (apply run_region (by decide); (simp only [go_sem, t2, t3, t4, w0, w1, hdirB]; rfl)) | (refine run_cond_t ?_ ?_; · simp only [go_sem]) | (refine run_cond_f ?_ ?_; · simp only [go_sem]))
  have z0 : ∀ j, j ≠ h.length → j ≠ h.length + 1 → ((K3.set h.length (.cells [.pointer (some ⟨h.length + 2, 0, none⟩)] 72 false 0 [])).set (h.length + 1) (.cells [.int .i64 0] 24 true 0 []))[j]? = K3[j]? := fun j h1 h2 => by rw [List.getElem?_set_ne (by omega), List.getElem?_set_ne (by omega)]
  have z1 : ((K3.set h.length (.cells [.pointer (some ⟨h.length + 2, 0, none⟩)] 72 false 0 [])).set (h.length + 1) (.cells [.int .i64 0] 24 true 0 []))[h.length]? = some (.cells [.pointer (some ⟨h.length + 2, 0, none⟩)] 72 false 0 []) := by rw [List.getElem?_set_ne (by omega), List.getElem?_set_self (by omega)]
  have z2 : ((K3.set h.length (.cells [.pointer (some ⟨h.length + 2, 0, none⟩)] 72 false 0 [])).set (h.length + 1) (.cells [.int .i64 0] 24 true 0 []))[h.length + 1]? = some (.cells [.int .i64 0] 24 true 0 []) := List.getElem?_set_self (by simp; omega)
  have z3 : ((K3.set h.length (.cells [.pointer (some ⟨h.length + 2, 0, none⟩)] 72 false 0 [])).set (h.length + 1) (.cells [.int .i64 0] 24 true 0 [])).length = K3.length := by simp
  generalize ((K3.set h.length (.cells [.pointer (some ⟨h.length + 2, 0, none⟩)] 72 false 0 [])).set (h.length + 1) (.cells [.int .i64 0] 24 true 0 [])) = K4 at *
  have d1 : K4[h1.length + 3]? = some .deferred := by rw [z0 _ (by omega) (by omega), o0 _ (by omega) (by omega), k2]
  have d2 : K4[H2.length + 1]? = some .deferred := by rw [z0 _ (by omega) (by omega), o0 _ (by omega) (by omega), k0 _ (by omega), v2]
  have g0 : ∀ j, j ≠ h1.length + 3 → j ≠ H2.length + 1 → ((K4.set (h1.length + 3) SO.gone).set (H2.length + 1) SO.gone)[j]? = K4[j]? := fun j h1 h2 => by rw [List.getElem?_set_ne (by omega), List.getElem?_set_ne (by omega)]
  have gl : ((K4.set (h1.length + 3) SO.gone).set (H2.length + 1) SO.gone).length = K4.length := by simp
  have hsh : shut K4 [h1.length + 3, H2.length + 1] = some ((K4.set (h1.length + 3) SO.gone).set (H2.length + 1) SO.gone) := by
    have : (K4.set (h1.length + 3) SO.gone)[H2.length + 1]? = some .deferred := by rw [List.getElem?_set_ne (by omega), d2]
    simp [shut, d1, this]
  refine end_nil ⟨rfl, _, hsh, ?_⟩
  generalize (K4.set (h1.length + 3) SO.gone).set (H2.length + 1) SO.gone = K5 at *
  have l1 : loadS K5 none (.pointer (some ⟨h.length, 0, none⟩)) = some (.pointer (some ⟨h.length + 2, 0, none⟩)) := by rw [load_rdO, g0 _ (by omega) (by omega), z1]; rfl
  have l2 : loadS K5 none (.pointer (some ⟨h.length + 1, 0, none⟩)) = some (.int .i64 0) := by rw [load_rdO, g0 _ (by omega) (by omega), z2]; rfl
  have f1 : K5[h.length + 2]? = some (.cells [.slice (some ⟨cb, 0, none⟩) l.length (UNK + 2), .int .i64 (mX l), .int .i64 (mY l), .int .i64 (mD l)] 79 false 0 []) := by rw [g0 _ (by omega) (by omega), z0 _ (by omega) (by omega), o1]
  have f2 : K5[cb]? = some (.cells (prs l) 77 true 0 old) := by rw [g0 _ (by omega) (by omega), z0 _ (by omega) (by omega), o0 _ (by omega) (by omega), hcK]
  have f3 : K5.take h.length = h := take_of_same (by omega) (fun j hj => by rw [g0 _ (by omega) (by omega), z0 _ (by omega) (by omega), o0 _ (by omega) (by omega), k0 _ (by omega), v1 _ (by omega), s2 _ hj])
  have hg := gc_body f1 f2 (base := h.length) (by omega) (by omega) (by omega) (fun c hc => by have := hold c hc; omega)
  rw [f3] at hg
  show opn _ fun a => ∃ v, loadS K5 none a = some v ∧ opn v fun v => opn _ fun b => ∃ w, loadS K5 none b = some w ∧ opn w fun w => endW h.length K5 [] _ [v, w]
  simp only [go_sem, t2, t3]
  exact ⟨_, l1, _, l2, _, _, hg, rfl⟩
end Go.Proofs.Ytecncmmkghmojaa.Sh


