/- The area: the program's and the document's. -/
import Derived.Test.YtecncmmkghmojaaXd
set_option linter.all false
namespace Go.Proofs.Ytecncmmkghmojaa.Sh
open Go Geo
set_option maxRecDepth 100000

def rfA63_0 : SCode := (.region 0 [ ⟨(some 5), none, .alloc 110 true [(.int .i64 0), (.int .i64 0), (.int .i64 0), (.int .i64 0), (.int .i64 0), (.int .i64 0)], none, 0, false, []⟩, ⟨none, none, .store 6 (.tmp 5) (.tmp 12), none, 1, false, []⟩])
def rfB63_0 : SCode := (.block 1 (.region 1 [ ⟨(some 13), none, .load none (.tmp 3), none, 0, true, []⟩, ⟨(some 14), none, .fieldAddr 2 (.tmp 5), none, 1, false, []⟩, ⟨(some 15), none, .load (some 2) (.tmp 14), none, 2, true, []⟩, ⟨(some 16), none, .fieldAddr 4 (.tmp 5), none, 3, false, []⟩, ⟨(some 17), none, .load (some 2) (.tmp 16), none, 4, true, []⟩, ⟨(some 18), none, .call (.func 95) [(.tmp 15), (.tmp 17)], none, 5, false, [0]⟩, ⟨(some 19), (some 0), .buildSlice 3 true [(.int .i64 0)] 1 [(0, 1, (.tmp 18))], none, 6, false, []⟩, ⟨(some 20), none, .append 3 true 1 8 (.tmp 13) (.tmp 19), none, 7, false, []⟩, ⟨none, none, .store 1 (.tmp 3) (.tmp 20), none, 8, false, []⟩]))

/-- the cross product of the ends of side k -/
def cz (l : List (Int × Int)) (k : Nat) : Int := crs (l.getD k (0, 0)) (l.getD ((k + 1) % l.length) (0, 0))
/-- numbers for the sides 0 to k - 1 -/
def vals (f : Nat → Int) (k : Nat) : List Value := ((List.range k).map f).map mkI
theorem vals_succ (f : Nat → Int) (k : Nat) : vals f (k + 1) = vals f k ++ [.int .i64 (f k)] := by simp [vals, List.range_succ, mkI]
theorem inR_getD {l : List (Int × Int)} (h : ∀ q ∈ l, inR q) (k : Nat) : inR (l.getD k (0, 0)) := by
  rw [List.getD_eq_getElem?_getD]
  cases e : l[k]? with
  | none => exact ⟨by decide, by decide, by decide, by decide⟩
  | some x => exact h x (List.mem_of_getElem? e)
theorem inR_sm {p : Int × Int} (h : inR p) : sm p := by
  obtain ⟨a, b, c, d⟩ := h
  exact ⟨by omega, by omega⟩
theorem crs_bound {p q : Int × Int} (hp : inR p) (hq : inR q) : (crs p q).natAbs ≤ 800 := by
  obtain ⟨a, b, c, d⟩ := hp
  obtain ⟨e, f, g, i⟩ := hq
  have m1 : (p.1 * q.2).natAbs ≤ 400 := Nat.le_trans (mul_bound (m := 20) (n := 20) (by omega) (by omega)) (by decide)
  have m2 : (p.2 * q.1).natAbs ≤ 400 := Nat.le_trans (mul_bound (m := 20) (n := 20) (by omega) (by omega)) (by decide)
  unfold crs; omega
theorem acc_vsame {lo : Nat} {h : SHeap} {v : Value} {cs : List Value} {n s : Nat} {el : TypeId} (a : Acc lo h v cs n s el) : vsame v v = true := by
  rcases a with ⟨_, rfl, _⟩ | ⟨b, old, rfl, _⟩ <;> exact vsame_slice _ _ _
theorem acc_cells {lo : Nat} {h : SHeap} {v : Value} {cs : List Value} {n s : Nat} {el : TypeId} (a : Acc lo h v cs n s el) : cellsL v = [v] ∧ oneC v = true ∧ opn v (fun w => w = v) := by
  rcases a with ⟨_, rfl, _⟩ | ⟨b, old, rfl, _⟩ <;> exact ⟨rfl, rfl, rfl⟩

/-- after k corners -/
structure JA (H0 : SHeap) (B L fn df : Nat) (t : T) (ps : List Nat) (as body : SCode) (f : Nat → Int) (k : Nat) (hh : SHeap) (dd : List Nat) : Prop where
  len : H0.length ≤ hh.length
  same : ∀ j, j < H0.length → j ≠ B → j ≠ L → hh[j]? = H0[j]?
  loop : hh[L]? = some (.loop 0 fn t ps as body none df)
  acc : ∃ v, hh[B]? = some (.cells [v] 40 false 0 []) ∧ Acc H0.length hh v (vals f k) k 1 3
  all : ∀ x ∈ dd, x = B
  some : k ≠ 0 → dd ≠ []

theorem JA.app {H0 : SHeap} {B L fn df : Nat} {t : T} {ps : List Nat} {as body : SCode} {f : Nat → Int} (hB : B < H0.length) (hL : L < H0.length) {k : Nat} {hh : SHeap} {dd : List Nat} (g : SHeap) (J : JA H0 B L fn df t ps as body f k hh dd) : JA H0 B L fn df t ps as body f k (hh ++ g) dd := by
  have e := J.len
  have same' : ∀ j, j < hh.length → (hh ++ g)[j]? = hh[j]? := fun j hj => List.getElem?_append_left hj
  obtain ⟨v, h1, h2⟩ := J.acc
  exact ⟨by simp; omega, fun j a b c => by rw [same' j (by omega)]; exact J.same j a b c, by rw [same' L (by omega)]; exact J.loop,
    ⟨v, by rw [same' B (by omega)]; exact h1, h2.keep (fun b e => by have := h2.lt e; rw [same' b this.2])⟩, J.all, J.some⟩

def JA63 (H0 : SHeap) (B L fn df : Nat) (t : T) (l : List (Int × Int)) (k : Nat) (hh : SHeap) (dd : List Nat) : Prop := JA H0 B L fn df t [11, 12] rfA63_0 rfB63_0 (cz l) k hh dd

theorem area_round {H0 : SHeap} {B L fn df : Nat} {t : T} {l : List (Int × Int)} (hB : B < L) (hL : L < H0.length) (hl : ∀ q ∈ l, inR q) (hf : Full 5 t) (h3 : t.get 3 = .pointer (some ⟨B, 0, none⟩))
    (k : Nat) (hk : k < 12) (hh : SHeap) (dd : List Nat) (J : JA63 H0 B L fn df t l k hh dd) :
    ∃ hh' d', M.round H0.length L [.int .i64 k, .agg (nbr l k).toArray] hh = some (.bool true, hh', d') ∧ JA63 H0 B L fn df t l (k + 1) hh' (d' ++ dd) := by
  have jl := J.len
  obtain ⟨v, jB, jacc⟩ := J.acc
  have hq := inR_getD hl k
  have hr := inR_getD hl ((k + 1) % l.length)
  have hc95 := fun h => cross95 _ _ h (inR_sm hq) (inR_sm hr)
  have hv1 := acc_vsame jacc
  obtain ⟨hv2, hv3, hv4⟩ := acc_cells jacc
  have hcz : crs (l.getD k (0, 0)) (l.getD ((k + 1) % l.length) (0, 0)) = cz l k := rfl
  rw [hcz] at hc95
  have hnb : (nbr l k).toArray = #[.int .i64 (l.getD ((k + l.length - 1) % l.length) (0, 0)).1, .int .i64 (l.getD ((k + l.length - 1) % l.length) (0, 0)).2, .int .i64 (l.getD k (0, 0)).1, .int .i64 (l.getD k (0, 0)).2, .int .i64 (l.getD ((k + 1) % l.length) (0, 0)).1, .int .i64 (l.getD ((k + 1) % l.length) (0, 0)).2] := rfl
  have hvs := vals_succ (cz l) k
  rw [hnb]
  generalize l.getD k (0, 0) = q at *
  generalize l.getD ((k + 1) % l.length) (0, 0) = r at *
  generalize l.getD ((k + l.length - 1) % l.length) (0, 0) = p at *
  generalize cz l k = z at *
  obtain ⟨r, ⟨hh', d', rfl, hP⟩, e⟩ := round_rule (FT := FT) (C := CA) (base := H0.length) (args := [.int .i64 k, .agg #[.int .i64 p.1, .int .i64 p.2, .int .i64 q.1, .int .i64 q.2, .int .i64 r.1, .int .i64 r.2]])
    (fun r => ∃ hh' d', r = (.bool true, hh', d') ∧ JA63 H0 B L fn df t l (k + 1) hh' (d' ++ dd)) J.loop hf rfl (by decide) rfl (by
      unfold rfA63_0
      repeat (first | apply run_seq | apply run_block | apply end_seq | apply end_blk_hit | apply end_blk_miss rfl | apply end_blk | apply end_seq_exit | apply end_seq_ret | apply end_blk_ret | apply run_skip | apply run_ret | apply run_exit | (apply run_region (by decide); (simp only [go_sem, zipR]; rfl)) | (refine run_cond_t ?_ ?_; · simp only [go_sem]) | (refine run_cond_f ?_ ?_; · simp only [go_sem]))
      refine end_nil ⟨rfl, ⟨fn, t, [11, 12], _, _, df, by rw [List.getElem?_append_left (by omega)]; exact J.loop⟩, ?_⟩
      have hl1 : (hh ++ [SO.cells [.int .i64 p.1, .int .i64 p.2, .int .i64 q.1, .int .i64 q.2, .int .i64 r.1, .int .i64 r.2] 110 true 0 []])[L]? = some (.loop 0 fn t [11, 12] rfA63_0 rfB63_0 none df) := by rw [List.getElem?_append_left (by omega)]; exact J.loop
      rw [setLoop_eq hl1]
      have g1 : ∀ j, j < hh.length → j ≠ L → ((hh ++ [SO.cells [.int .i64 p.1, .int .i64 p.2, .int .i64 q.1, .int .i64 q.2, .int .i64 r.1, .int .i64 r.2] 110 true 0 []]).set L (.loop 1 fn t [11, 12] rfA63_0 rfB63_0 none df))[j]? = hh[j]? := by
        intro j hj hne
        rw [List.getElem?_set_ne (by omega), List.getElem?_append_left hj]
      have g2 : ((hh ++ [SO.cells [.int .i64 p.1, .int .i64 p.2, .int .i64 q.1, .int .i64 q.2, .int .i64 r.1, .int .i64 r.2] 110 true 0 []]).set L (.loop 1 fn t [11, 12] rfA63_0 rfB63_0 none df))[hh.length]? = some (.cells [.int .i64 p.1, .int .i64 p.2, .int .i64 q.1, .int .i64 q.2, .int .i64 r.1, .int .i64 r.2] 110 true 0 []) := by
        rw [List.getElem?_set_ne (by omega), app_get0]; rfl
      have g3 : ((hh ++ [SO.cells [.int .i64 p.1, .int .i64 p.2, .int .i64 q.1, .int .i64 q.2, .int .i64 r.1, .int .i64 r.2] 110 true 0 []]).set L (.loop 1 fn t [11, 12] rfA63_0 rfB63_0 none df))[L]? = some (.loop 1 fn t [11, 12] rfA63_0 rfB63_0 none df) := by
        rw [List.getElem?_set_self (by simp; omega)]
      have g4 : ((hh ++ [SO.cells [.int .i64 p.1, .int .i64 p.2, .int .i64 q.1, .int .i64 q.2, .int .i64 r.1, .int .i64 r.2] 110 true 0 []]).set L (.loop 1 fn t [11, 12] rfA63_0 rfB63_0 none df)).length = hh.length + 1 := by simp
      generalize (hh ++ [SO.cells [.int .i64 p.1, .int .i64 p.2, .int .i64 q.1, .int .i64 q.2, .int .i64 r.1, .int .i64 r.2] 110 true 0 []]).set L (.loop 1 fn t [11, 12] rfA63_0 rfB63_0 none df) = G at *
      have gB : G[B]? = some (.cells [v] 40 false 0 []) := by rw [g1 B (by omega) (by omega)]; exact jB
      have b1 : loadS (G ++ [SO.gone]) none (.pointer (some ⟨B, 0, none⟩)) = some v := by
        rw [load_rdO, List.getElem?_append_left (by omega), gB]; rfl
      have b2 : loadS (G ++ [SO.gone]) (some 2) (.pointer (some ⟨hh.length, 2, none⟩)) = some (.agg #[.int .i64 q.1, .int .i64 q.2]) := by
        rw [load_rdON, List.getElem?_append_left (by omega), g2]; rfl
      have b3 : loadS (G ++ [SO.gone]) (some 2) (.pointer (some ⟨hh.length, 4, none⟩)) = some (.agg #[.int .i64 r.1, .int .i64 r.2]) := by
        rw [load_rdON, List.getElem?_append_left (by omega), g2]; rfl
      have acc0 : Acc H0.length (G ++ [SO.cells [.int .i64 z] 3 true 0 []]) v (vals (cz l) k) k 1 3 :=
        jacc.keep (fun b e => by have := jacc.lt e; rw [List.getElem?_append_left (by omega), g1 b this.2 (by omega)])
      obtain ⟨old, ap, acc2, kp⟩ := acc_append (bytes := 8) acc0 (bs := G.length) (el2 := 3) (pf2 := true) (own2 := 0) (old2 := []) (new := [.int .i64 z]) (by rw [app_get0]; rfl) rfl rfl (by decide) rfl (by decide) (by omega) (by simp; omega)
      have ap' := fun base d => ap base d
      have hsrc : (G ++ [SO.cells [.int .i64 z] 3 true 0 []]).length = G.length + 1 := by simp
      rw [hsrc] at acc2 kp
      unfold rfB63_0
      apply run_block
      have ltv : ∀ b, v = .slice (some ⟨b, 0, none⟩) k (UNK + 1) → H0.length ≤ b ∧ b < hh.length := fun b e => jacc.lt e
      have kB : (shv (G ++ [SO.cells [.int .i64 z] 3 true 0 []]) v ++ [SO.cells (vals (cz l) k ++ [.int .i64 z]) 3 true 0 old])[B]? = some (.cells [v] 40 false 0 []) := by
        rw [kp B (by omega) (fun b e => by have := ltv b e; omega), List.getElem?_append_left (by omega), gB]
      have hbB : Nat.ble H0.length B = false := by rw [ble_dec]; simp; omega
      have hdirty : dirty H0.length B false [] = [B] := by simp [dirty, hbB]
      apply run_regionN (by decide)
      · simp only [go_sem, h3, b1, b2, b3, hc95, hv1, hv2, hv3, rep1, new_some, ap', kB, hdirty]
        rfl
      have kL : (shv (G ++ [SO.cells [.int .i64 z] 3 true 0 []]) v ++ [SO.cells (vals (cz l) k ++ [.int .i64 z]) 3 true 0 old])[L]? = some (.loop 1 fn t [11, 12] rfA63_0 rfB63_0 none df) := by
        rw [kp L (by omega) (fun b e => by have := ltv b e; omega), List.getElem?_append_left (by omega), g3]
      have kO : ∀ j, j < H0.length → j ≠ B → j ≠ L → (shv (G ++ [SO.cells [.int .i64 z] 3 true 0 []]) v ++ [SO.cells (vals (cz l) k ++ [.int .i64 z]) 3 true 0 old])[j]? = H0[j]? := by
        intro j hj h1 h2
        rw [kp j (by omega) (fun b e => by have := ltv b e; omega), List.getElem?_append_left (by omega), g1 j (by omega) h2]
        exact J.same j hj h1 h2
      have kn : (shv (G ++ [SO.cells [.int .i64 z] 3 true 0 []]) v ++ [SO.cells (vals (cz l) k ++ [.int .i64 z]) 3 true 0 old]).length = G.length + 2 := by simp [shv_len]
      generalize shv (G ++ [SO.cells [.int .i64 z] 3 true 0 []]) v ++ [SO.cells (vals (cz l) k ++ [.int .i64 z]) 3 true 0 old] = F at *
      have fL : (F.set B (SO.cells [.slice (some ⟨G.length + 1, 0, none⟩) (k + 1) (UNK + 1)] 40 false 0 []))[L]? = some (.loop 1 fn t [11, 12] rfA63_0 rfB63_0 none df) := by
        rw [List.getElem?_set_ne (by omega), kL]
      apply end_blk
      refine end_nil ⟨⟨_, _, _, _, _, _, _, _, fL⟩, _, _, rfl, ?_⟩
      show JA63 H0 B L fn df t l (k + 1) (setLoop (F.set B (SO.cells [.slice (some ⟨G.length + 1, 0, none⟩) (k + 1) (UNK + 1)] 40 false 0 [])) L 0 none) ([B] ++ dd)
      rw [setLoop_eq fL]
      refine ⟨by simp; omega, fun j hj h1 h2 => ?_, ?_, ⟨.slice (some ⟨G.length + 1, 0, none⟩) (k + 1) (UNK + 1), ?_, ?_⟩, fun x hx => ?_, fun _ => by simp⟩
      · rw [List.getElem?_set_ne (by omega), List.getElem?_set_ne (by omega)]; exact kO j hj h1 h2
      · rw [List.getElem?_set_self (by simp; omega)]
      · rw [List.getElem?_set_ne (by omega), List.getElem?_set_self (by omega)]
      · rw [hvs]
        exact acc2.keep (fun b e => by simp at e; rw [List.getElem?_set_ne (by omega), List.getElem?_set_ne (by omega)])
      · rcases List.mem_append.1 hx with hx | hx
        · simpa using hx
        · exact J.all x hx)
  exact ⟨hh', d', e, hP⟩

/-- a hull of the program: its corners, its middle -/
def Body (h : SHeap) (b cb c : Nat) (l : List (Int × Int)) (x y D : Int) : Prop :=
  h[b]? = some (.cells [.slice (some ⟨cb, 0, none⟩) l.length c, .int .i64 x, .int .i64 y, .int .i64 D] 79 false 0 []) ∧ Prs h cb 0 l
theorem Body.lt {h : SHeap} {b cb c : Nat} {l : List (Int × Int)} {x y D : Int} (k : Body h b cb c l x y D) : b < h.length := (List.getElem?_eq_some_iff.1 k.1).1
theorem Body.app {h : SHeap} {b cb c : Nat} {l : List (Int × Int)} {x y D : Int} (k : Body h b cb c l x y D) (g : SHeap) : Body (h ++ g) b cb c l x y D :=
  ⟨by rw [List.getElem?_append_left k.lt]; exact k.1, k.2.app g⟩
theorem Body.load {h : SHeap} {b cb c : Nat} {l : List (Int × Int)} {x y D : Int} (k : Body h b cb c l x y D) : loadS h none (.pointer (some ⟨b, 0, none⟩)) = some (.slice (some ⟨cb, 0, none⟩) l.length c) := by
  rw [load_rdO, k.1]; rfl
theorem dirts_own {base : Nat} {d : List Nat} (h : ∀ x ∈ d, base ≤ x) (e : List Nat) : dirts base d e = e := by
  have : d.filter (fun b => !(Nat.ble base b)) = [] := by
    rw [List.filter_eq_nil_iff]
    intro x hx
    have := h x hx
    simp [ble_dec, this]
  unfold dirts
  rw [this, List.nil_append]
theorem take_set {h : SHeap} {base m : Nat} (hle : base ≤ m) (x : SO) : (h.set m x).take base = h.take base := by
  apply List.ext_getElem?
  intro j
  rw [List.getElem?_take, List.getElem?_take]
  by_cases e : j < base
  · rw [if_pos e, if_pos e, List.getElem?_set_ne (by omega)]
  · rw [if_neg e, if_neg e]
theorem q_ret1m {base : Nat} {i m : Nat} {ρ : Reg} {h h0 : SHeap} (v : Value) (hv : ρ i = v) (hfl : flat 3 v = true) (hm : h[m]? = some .deferred) (hle : base ≤ m) (ht : h.take base = h0) : callQ [.tmp i] base (v, h0, []) .ret ρ [m] h [] := by
  refine ⟨rfl, h.set m SO.gone, by simp [shut, hm], ?_⟩
  show opn (ρ i) fun v' => endW base (h.set m SO.gone) [] (v, h0, []) [v']
  rw [hv]
  exact opn_of hfl (end_flat (l := [v]) hfl (by rw [take_set hle]; exact ht))
theorem cz_bound {l : List (Int × Int)} (hl : ∀ q ∈ l, inR q) (k : Nat) : (cz l k).natAbs ≤ 800 := crs_bound (inR_getD hl _) (inR_getD hl _)

/-- the area -/
def areaZ (l : List (Int × Int)) : Int := isum ((List.range l.length).map (cz l))

theorem area63 {h : SHeap} {b cb c : Nat} {l : List (Int × Int)} {x y D : Int} (hB : Body h b cb c l x y D) (hl : ∀ q ∈ l, inR q) (hn1 : 1 ≤ l.length) (hn : l.length ≤ 12) :
    M.call 63 [.pointer (some ⟨b, 0, none⟩)] h = some (.int .i64 (areaZ l), h, []) := by
  refine call_run sf63 rfl rfl rfl ?_
  unfold sf63
  have b1 := (hB.app [SO.cells [.slice none 0 0] 40 false 0 []]).load
  have hcb := hB.2.lt
  have c99 := around99 cb l.length c (h ++ [SO.cells [.slice none 0 0] 40 false 0 []]) (by simp; omega)
  have hln : (h ++ [SO.cells [.slice none 0 0] 40 false 0 []]).length = h.length + 1 := by simp
  rw [hln, List.append_assoc] at c99
  have c99' : M.call 99 [.slice (some ⟨cb, 0, none⟩) l.length c] (h ++ [SO.cells [.slice none 0 0] 40 false 0 []]) = some (.func (.func 109) #[] #[.pointer (some ⟨h.length + 1, 0, none⟩)], h ++ [SO.cells [.slice none 0 0] 40 false 0 [], .cells [.slice (some ⟨cb, 0, none⟩) l.length c] 76 false 0 []], []) := c99
  repeat (first | apply run_seq | apply run_block | apply end_seq | apply end_blk_hit | apply end_blk_miss rfl | apply end_blk | apply end_seq_exit | apply end_seq_ret | apply end_blk_ret | apply run_skip | apply run_ret | apply run_exit | (apply run_region (by decide); (simp only [go_sem, argR, b1, c99']; rfl)) | (refine run_cond_t ?_ ?_; · simp only [go_sem]) | (refine run_cond_f ?_ ?_; · simp only [go_sem]))
  show Run M _ 5 (.rangeFunc (.tmp 10) [11, 12] rfA63_0 rfB63_0) _ _ _ _ _ _
  refine run_range (g := 109) (caps := #[.pointer (some ⟨h.length + 1, 0, none⟩)]) rfl (by simp only [go_sem]) ?_
  intro t hf ht
  have t3 : t.get 3 = .pointer (some ⟨h.length, 0, none⟩) := by rw [ht]; simp only [go_sem]
  rw [← ht]
  have z0 : (h ++ [SO.cells [.slice none 0 0] 40 false 0 [], .cells [.slice (some ⟨cb, 0, none⟩) l.length c] 76 false 0 []])[h.length]? = some (.cells [.slice none 0 0] 40 false 0 []) := by rw [app_get0]; rfl
  have z1 : (h ++ [SO.cells [.slice none 0 0] 40 false 0 [], .cells [.slice (some ⟨cb, 0, none⟩) l.length c] 76 false 0 []])[h.length + 1]? = some (.cells [.slice (some ⟨cb, 0, none⟩) l.length c] 76 false 0 []) := by rw [app_get]; rfl
  have z2 : ∀ j, j < h.length → (h ++ [SO.cells [.slice none 0 0] 40 false 0 [], .cells [.slice (some ⟨cb, 0, none⟩) l.length c] 76 false 0 []])[j]? = h[j]? := fun j hj => List.getElem?_append_left hj
  have z3 : (h ++ [SO.cells [.slice none 0 0] 40 false 0 [], .cells [.slice (some ⟨cb, 0, none⟩) l.length c] 76 false 0 []]).length = h.length + 2 := by simp
  generalize h ++ [SO.cells [.slice none 0 0] 40 false 0 [], .cells [.slice (some ⟨cb, 0, none⟩) l.length c] 76 false 0 []] = H1 at *
  have hH0 : ∃ H0, H0 = H1 ++ [SO.deferred, .loop 0 63 t [11, 12] rfA63_0 rfB63_0 none H1.length] := ⟨_, rfl⟩
  obtain ⟨H0, hH0⟩ := hH0
  have y0 : H0.length = h.length + 4 := by rw [hH0]; simp; omega
  have y1 : ∀ j, j < h.length + 2 → H0[j]? = H1[j]? := fun j hj => by rw [hH0, List.getElem?_append_left (by omega)]
  have y2 : H0[h.length + 2]? = some .deferred := by rw [hH0, ← z3, app_get0]; rfl
  have y3 : H0[h.length + 3]? = some (.loop 0 63 t [11, 12] rfA63_0 rfB63_0 none H1.length) := by rw [hH0, show h.length + 3 = H1.length + 1 by omega, app_get]; rfl
  have zL : H1.length + 1 = h.length + 3 := by omega
  rw [zL]
  obtain ⟨r, hr, hcall⟩ := around109 (h := H0) (L := h.length + 3) (pb := h.length + 1) (cb := cb) (c := c) (l := l) hn1 hn (JA63 H0 h.length (h.length + 3) 63 H1.length t l)
    (fun k hh dd g J => J.app (by omega) (by omega) g)
    (fun k hh dd J => ⟨by rw [load_rdO, J.same _ (by omega) (by omega) (by omega), y1 _ (by omega), z1]; rfl, hB.2.same (by rw [J.same _ (by omega) (by omega) (by omega), y1 _ (by omega), z2 _ hcb])⟩)
    (fun k hh dd hk J => area_round (by omega) (by omega) hl hf t3 k (by omega) hh dd J)
    ⟨Nat.le_refl _, fun j _ _ _ => rfl, y3, ⟨.slice none 0 0, by rw [y1 _ (by omega), z0], .inl ⟨rfl, rfl, rfl⟩⟩, fun x hx => by simp at hx, fun h => (h rfl).elim⟩
  obtain ⟨hh, dd, J, ⟨rfl, _⟩ | ⟨hdd, rfl⟩⟩ := hr
  · exact (J.some (by omega) rfl).elim
  · refine ⟨_, hh, dd, by rw [hH0] at hcall; exact hcall, _, _, _, _, _, _, _, _, J.loop, rfl, .inl ⟨rfl, ?_⟩⟩
    rw [setLoop_eq J.loop]
    have jl := J.len
    obtain ⟨v, jB, jacc⟩ := J.acc
    have x0 : ∀ j, j < h.length → (hh.set (h.length + 3) (.loop 3 63 t [11, 12] rfA63_0 rfB63_0 none H1.length))[j]? = h[j]? := by
      intro j hj
      rw [List.getElem?_set_ne (by omega), J.same j (by omega) (by omega) (by omega), y1 j (by omega), z2 j hj]
    have x1 : (hh.set (h.length + 3) (.loop 3 63 t [11, 12] rfA63_0 rfB63_0 none H1.length))[h.length]? = some (.cells [v] 40 false 0 []) := by
      rw [List.getElem?_set_ne (by omega)]; exact jB
    have x2 : (hh.set (h.length + 3) (.loop 3 63 t [11, 12] rfA63_0 rfB63_0 none H1.length))[H1.length]? = some .deferred := by
      rw [List.getElem?_set_ne (by omega), J.same _ (by omega) (by omega) (by omega), z3]; exact y2
    have x3 : Acc H0.length (hh.set (h.length + 3) (.loop 3 63 t [11, 12] rfA63_0 rfB63_0 none H1.length)) v (vals (cz l) l.length) l.length 1 3 :=
      jacc.keep (fun b e => by have := jacc.lt e; rw [List.getElem?_set_ne (by omega)])
    have x4 : h.length ≤ (hh.set (h.length + 3) (.loop 3 63 t [11, 12] rfA63_0 rfB63_0 none H1.length)).length := by simp; omega
    generalize hh.set (h.length + 3) (.loop 3 63 t [11, 12] rfA63_0 rfB63_0 none H1.length) = K at *
    have hd : dirts h.length dd [] = [] := dirts_own (fun x hx => by rw [J.all x hx]; exact Nat.le_refl _) []
    have hd' : dirts (⟨h.length, none, 63⟩ : Cx).base dd [] = [] := hd
    rw [hd']
    have ld : loadS K none (.pointer (some ⟨h.length, 0, none⟩)) = some v := by rw [load_rdO, x1]; rfl
    have his := Acc.is x3 (by simp)
    have c100 := sum100 his (by simp; omega) (by
      intro x hx
      simp at hx
      obtain ⟨k, _, rfl⟩ := hx
      exact Nat.le_trans (cz_bound hl k) (by decide))
    repeat (first | apply run_seq | apply run_block | apply end_seq | apply end_blk_hit | apply end_blk_miss rfl | apply end_blk | apply end_seq_exit | apply end_seq_ret | apply end_blk_ret | apply run_skip | apply run_ret | apply run_exit | (apply run_region (by decide); (simp only [go_sem, t3, ld, c100]; rfl)) | (refine run_cond_t ?_ ?_; · simp only [go_sem]) | (refine run_cond_f ?_ ?_; · simp only [go_sem]))
    refine end_nil (q_ret1m _ (by simp only [go_sem]; rfl) rfl x2 (by omega) (take_of_same x4 x0))
end Go.Proofs.Ytecncmmkghmojaa.Sh

