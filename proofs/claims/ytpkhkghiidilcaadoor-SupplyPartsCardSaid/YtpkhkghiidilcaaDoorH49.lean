/- Parts of the document (23). The walk. -/
import Derived.Test.YtpkhkghiidilcaaDoorNh
import Derived.Test.YtpkhkghiidilcaaDoorH48
set_option linter.all false
namespace Go.Proofs.YtpkhkghiidilcaaDoor.Sh
open Go
set_option maxRecDepth 100000
set_option maxHeartbeats 4000000
def wayO (adj : Nat → Nat → Bool) (far : Nat → Nat) (n : Nat) (rd : Nat → Bool) : Nat → Nat → List Nat → Option (List Nat)
  | 0, _, w => some w
  | m + 1, v, w => match backO adj far n rd 7 v with
    | none => none
    | some l => if 1000 < l.length then none else wayO adj far n rd m (v + 1) (if w.length < l.length then l else w)
def setT (rd : Nat → Bool) : List Nat → (Nat → Bool)
  | [] => rd
  | x :: l => setT (up rd x true) l
def partsR (adj : Nat → Nat → Bool) (far : Nat → Nat) (n : Nat) : Nat → (Nat → Bool) → List Nat → Option (List Nat)
  | 0, _, _ => none
  | k + 1, rd, out => match wayO adj far n rd n 0 [] with
    | none => none
    | some w => if w.length = 0 then some out else if (w.all fun x => decide (x < n)) = true ∧ out.length ≤ 1000 then partsR adj far n k (setT rd w) (out ++ [w.length]) else none
theorem wayO_len {adj : Nat → Nat → Bool} {far : Nat → Nat} {n : Nat} {rd : Nat → Bool} : ∀ {m v : Nat} {w wf : List Nat}, wayO adj far n rd m v w = some wf → w.length ≤ 1000 → wf.length ≤ 1000
  | 0, v, w, wf, h, h2 => by rw [wayO] at h; injection h with h; rw [← h]; exact h2
  | m + 1, v, w, wf, h, h2 => by
    rw [wayO] at h
    cases hb : backO adj far n rd 7 v with
    | none => rw [hb] at h; cases h
    | some l =>
      rw [hb] at h
      dsimp only at h
      by_cases cl : 1000 < l.length
      · rw [if_pos cl] at h; cases h
      · rw [if_neg cl] at h
        refine wayO_len h ?_
        split <;> omega
section
variable {H : SHeap} {n goal : Nat} {E : List (Int × Int)} {ev : Value}
structure RT (H : SHeap) (n : Nat) (rd : Nat → Bool) (out : List Nat) (ov : Value) (h : SHeap) : Prop where
  le : H.length < h.length
  low : ∀ j, j < H.length → h[j]? = H[j]?
  rb : h[H.length]? = some (.cells (bL n rd) 4 true 0 [])
  ao : Acc (H.length + 1) h ov (out.map nI) out.length 1 3
theorem RT.fr {h h' : SHeap} {rd : Nat → Bool} {out : List Nat} {ov : Value} (R : RT H n rd out ov h) (hl : h.length ≤ h'.length) (f : ∀ j, j < h.length → h'[j]? = h[j]?) : RT H n rd out ov h' := by
  have hle := R.le
  exact ⟨by omega, fun j hj => by rw [f j (by omega)]; exact R.low j hj, by rw [f _ hle]; exact R.rb, R.ao.keep (fun b e => f b (R.ao.lt e).2)⟩
theorem RT.set {h : SHeap} {rd : Nat → Bool} {out : List Nat} {ov : Value} (R : RT H n rd out ov h) {x : Nat} (hx : x < n) : (∀ base d, storeS base h d H.length x (cellsL (.bool true)) = some (h.set H.length (.cells (bL n (up rd x true)) 4 true 0 []), d)) ∧ RT H n (up rd x true) out ov (h.set H.length (.cells (bL n (up rd x true)) 4 true 0 [])) := by
  have hle := R.le
  refine ⟨fun base d => ?_, by simp; exact hle, fun j hj => by rw [List.getElem?_set_ne (by omega)]; exact R.low j hj, by rw [List.getElem?_set_self hle], R.ao.keep (fun b e => List.getElem?_set_ne (by have := (R.ao.lt e).1; omega))⟩
  have := store_cell (h := h) (base := base) (b := H.length) (o := x) (c := .bool true) R.rb (by rw [bL_len]; exact hx) rfl (fun _ => rfl) d
  rw [bL_set _ hx] at this
  exact this
theorem RT.push {h : SHeap} {rd : Nat → Bool} {out : List Nat} {ov : Value} (R : RT H n rd out ov h) (k : Nat) (hl : out.length ≤ 10000) :
    ∃ G v2, (∀ (base : Nat) (d : List Nat), appendS base (h ++ [SO.cells [.int .i64 (k : Nat)] 3 true 0 []]) d 3 true 1 8 ov (.slice (some ⟨h.length, 0, none⟩) 1 1) = some (v2, G, d)) ∧ RT H n rd (out ++ [k]) v2 G := by
  have hle := R.le
  have R2 := R.fr (h' := h ++ [SO.cells [.int .i64 (k : Nat)] 3 true 0 []]) (by simp) (fun j hj => List.getElem?_append_left hj)
  obtain ⟨old, ap, acc2, kp⟩ := acc_append (bytes := 8) (new := [.int .i64 (k : Nat)]) (bs := h.length) (el2 := 3) (pf2 := true) (own2 := 0) (old2 := []) R2.ao (by rw [app_get0]; rfl) rfl rfl (by decide) rfl (by decide) (by omega) (by simp; omega)
  refine ⟨_, _, ap, ?_, fun j hj => ?_, ?_, ?_⟩
  · simp [shv_len]; omega
  · rw [kp j (by simp; omega) (fun b e => by have := (R2.ao.lt e).1; omega)]; exact R2.low j hj
  · rw [kp _ (by simp; omega) (fun b e => by have := (R2.ao.lt e).1; omega)]; exact R2.rb
  · have e : (out ++ [k]).length = out.length + 1 := by simp
    rw [List.map_append, e]; exact acc2
theorem p23_way (cx : Cx) (hn : n ≤ 6) (hC : Conn n E) (hE : PS H ev E) (hlen : E.length ≤ 1000000) (hg : goal < n) {rd : Nat → Bool} {out wf : List Nat} {ov : Value} {rc : Nat} {ρ0 : Reg} :
    ∀ k ρ ms h' d', (∃ (v : Nat) (w : List Nat) (wv : Value), v + k = n ∧ wayO (adjE E) (farE n E goal) n rd k v w = some wf ∧ RT H n rd out ov h' ∧ Acc (H.length + 1) h' wv (w.map nI) w.length 1 3 ∧ (∀ r, r < 9 → ρ r = ρ0 r) ∧ ρ 0 = .int .i64 n ∧ ρ 1 = ev ∧ ρ 2 = .int .i64 goal ∧ ρ 7 = .slice (some ⟨H.length, 0, none⟩) n rc ∧ ρ 9 = wv ∧ ρ 10 = .int .i64 v ∧ ms = [] ∧ d' = []) →
    LoopW M cx 6 sf23L1 ρ ms h' d' (fun ex ρ' ms' h' d' => ex = .exit 2 ∧ ms' = [] ∧ d' = [] ∧ (∀ r, r < 9 → ρ' r = ρ0 r) ∧ RT H n rd out ov h' ∧ ∃ wv, Acc (H.length + 1) h' wv (wf.map nI) wf.length 1 3 ∧ ρ' 9 = wv) := by
  refine loop_run _ ?_
  rintro k ρ ms h d' ⟨v, w, wv, hk, hw, R, A, hreg, r0, r1, r2, r7, r9, r10, rfl, rfl⟩
  unfold sf23L1
  cases k with
  | zero =>
    have e1 : ¬ ((v : Int) < n) := by omega
    rw [wayO] at hw
    injection hw with hw
    subst hw
    repeat (first | apply Z1 | apply Z2 | apply Z3 | apply Z4 | apply Z5 rfl | apply Z6 | apply Z7 | apply Z8 | apply Z9 | apply ZA | apply ZB | apply ZC | ((first | apply ZD (by decide) | apply ZN (by decide)); (simp (maxSteps := 9999999) only [go_sem, r0, r10, e1]; rfl)) | (refine ZE ?_ ?_; · simp only [go_sem]) | (refine ZF ?_ ?_; · simp only [go_sem]))
    exact end_nil ⟨rfl, rfl, rfl, fun r hr => by simp only [upd_get]; (repeat rw [if_neg (by omega)]); exact hreg r hr, R, wv, A, by simp only [go_sem, r9]⟩
  | succ m =>
    have e1 : ((v : Int) < n) := by omega
    have hv : v < n := by omega
    have hle := R.le
    have ew : IntKind.i64.wrap ((v : Int) + 1) = ((v + 1 : Nat) : Int) := by rw [wrap64 (by omega) (by omega)]; rfl
    rw [wayO] at hw
    cases hb : backO (adjE E) (farE n E goal) n rd 7 v with
    | none => rw [hb] at hw; cases hw
    | some l =>
      rw [hb] at hw
      dsimp only at hw
      by_cases cl : 1000 < l.length
      · rw [if_pos cl] at hw; cases hw
      · rw [if_neg cl] at hw
        have Ph : PS h ev E := hE.fr R.low
        have c57 := back57 (rc := rc) (rb := H.length) (rd := rd) hn hC Ph hlen hg hv hle (fun u hu => by
          have := load_cell (o := u) R.rb rfl (bL_get rd hu) []
          rw [List.append_nil] at this; exact this) (by omega) hb
        have Al := AccS.resl (H := h) (h := h) (Nat.le_refl _) (fun _ _ => rfl) l
        have R2 := R.fr Al.le Al.same
        have A2 : Acc (H.length + 1) _ wv (w.map nI) w.length 1 3 := A.keep (fun b e => Al.same b (A.lt e).2)
        have Aw : Acc (H.length + 1) _ _ (l.map nI) l.length 1 3 := Al.acc.lo (by omega)
        obtain ⟨la, lc, elv⟩ := Al.shape
        obtain ⟨wa, wc, ewv⟩ := A.shape
        generalize resH h (l.map nI) l.length 3 = h2 at *
        generalize resV h l.length 1 = lv at *
        subst elv ewv
        by_cases cw : w.length < l.length
        · rw [if_pos cw] at hw
          have gt : ((l.length : Int) > w.length) := by omega
          repeat (first | apply Z1 | apply Z2 | apply Z3 | apply Z4 | apply Z5 rfl | apply Z6 | apply Z7 | apply Z8 | apply Z9 | apply ZA | apply ZB | apply ZC | ((first | apply ZD (by decide) | apply ZN (by decide)); (simp (maxSteps := 9999999) only [go_sem, r0, r1, r2, r7, r9, r10, e1, c57, gt, ew]; rfl)) | (refine ZE ?_ ?_; · simp only [go_sem]) | (refine ZF ?_ ?_; · simp only [go_sem]))
          exact end_nil ⟨m, by omega, v + 1, l, _, by omega, hw, R2, Aw, fun r hr => by simp only [upd_get]; (repeat rw [if_neg (by omega)]); exact hreg r hr, by simp only [go_sem, r0], by simp only [go_sem, r1], by simp only [go_sem, r2], by simp only [go_sem, r7], by simp only [go_sem], by simp only [go_sem, ew], rfl, rfl⟩
        · rw [if_neg cw] at hw
          have gt : ¬ ((l.length : Int) > w.length) := by omega
          repeat (first | apply Z1 | apply Z2 | apply Z3 | apply Z4 | apply Z5 rfl | apply Z6 | apply Z7 | apply Z8 | apply Z9 | apply ZA | apply ZB | apply ZC | ((first | apply ZD (by decide) | apply ZN (by decide)); (simp (maxSteps := 9999999) only [go_sem, r0, r1, r2, r7, r9, r10, e1, c57, gt, ew]; rfl)) | (refine ZE ?_ ?_; · simp only [go_sem]) | (refine ZF ?_ ?_; · simp only [go_sem]))
          exact end_nil ⟨m, by omega, v + 1, w, _, by omega, hw, R2, A2, fun r hr => by simp only [upd_get]; (repeat rw [if_neg (by omega)]); exact hreg r hr, by simp only [go_sem, r0], by simp only [go_sem, r1], by simp only [go_sem, r2], by simp only [go_sem, r7], by simp only [go_sem, r9], by simp only [go_sem, ew], rfl, rfl⟩
theorem setT_take {w : List Nat} (rd : Nat → Bool) {i : Nat} (hi : i < w.length) : setT rd (w.take (i + 1)) = up (setT rd (w.take i)) w[i] true := by
  have key : ∀ (l : List Nat) (rd : Nat → Bool) (x : Nat), setT rd (l ++ [x]) = up (setT rd l) x true := by
    intro l
    induction l with
    | nil => intro rd x; rfl
    | cons y l ih => intro rd x; exact ih (up rd y true) x
  rw [List.take_add_one, List.getElem?_eq_getElem hi]
  exact key _ _ _
theorem p23_set (cx : Cx) {rd : Nat → Bool} {out w : List Nat} {ov wv : Value} {rc : Nat} (hw : ∀ x ∈ w, x < n) (hl : w.length ≤ 1000) {ρ0 : Reg} :
    ∀ k ρ ms h' d', (∃ (i : Nat), i + k = w.length ∧ RT H n (setT rd (w.take i)) out ov h' ∧ Acc (H.length + 1) h' wv (w.map nI) w.length 1 3 ∧ (∀ r, r < 10 → ρ r = ρ0 r) ∧ ρ 7 = .slice (some ⟨H.length, 0, none⟩) n rc ∧ ρ 9 = wv ∧ ρ 12 = .int .i64 i ∧ ms = [] ∧ d' = []) →
    LoopW M cx 6 sf23L0 ρ ms h' d' (fun ex ρ' ms' h' d' => ex = .exit 4 ∧ ms' = [] ∧ d' = [] ∧ (∀ r, r < 10 → ρ' r = ρ0 r) ∧ RT H n (setT rd w) out ov h') := by
  refine loop_run _ ?_
  rintro k ρ ms h d' ⟨i, hk, R, A, hreg, r7, r9, r12, rfl, rfl⟩
  unfold sf23L0
  obtain ⟨wa, wc, ewv⟩ := A.shape
  by_cases c0 : k = 0
  · have e1 : ¬ ((i : Int) < w.length) := by omega
    rw [List.take_of_length_le (by omega)] at R
    rw [ewv] at r9
    repeat (first | apply Z1 | apply Z2 | apply Z3 | apply Z4 | apply Z5 rfl | apply Z6 | apply Z7 | apply Z8 | apply Z9 | apply ZA | apply ZB | apply ZC | ((first | apply ZD (by decide) | apply ZN (by decide)); (simp (maxSteps := 9999999) only [go_sem, r9, r12, e1]; rfl)) | (refine ZE ?_ ?_; · simp only [go_sem]) | (refine ZF ?_ ?_; · simp only [go_sem]))
    exact end_nil ⟨rfl, rfl, rfl, fun r hr => by simp only [upd_get]; (repeat rw [if_neg (by omega)]); exact hreg r hr, R⟩
  · have e1 : ((i : Int) < w.length) := by omega
    have hi : i < w.length := by omega
    have z1 : (0 : Int) ≤ i := by omega
    have ew : IntKind.i64.wrap ((i : Int) + 1) = ((i + 1 : Nat) : Int) := by rw [wrap64 (by omega) (by omega)]; rfl
    rcases A with ⟨hz, _⟩ | ⟨b, old, rfl, h1, h2, h3, h4, h5, h6⟩
    · omega
    · have l1 : loadS h none (.pointer (some ⟨b, i, none⟩)) = some (.int .i64 (w[i] : Nat)) := by
        have := load_cell (o := i) (c := nI w[i]) h1 rfl (by rw [List.getElem?_map, List.getElem?_eq_getElem hi]; rfl) []
        rw [List.append_nil] at this; exact this
      have hx := hw _ (List.getElem_mem hi)
      obtain ⟨st, R2⟩ := R.set hx
      have A2 : Acc (H.length + 1) (h.set H.length (.cells (bL n (up (setT rd (w.take i)) w[i] true)) 4 true 0 [])) (.slice (some ⟨b, 0, none⟩) w.length (UNK + 1)) (w.map nI) w.length 1 3 := .inr ⟨b, old, rfl, by rw [List.getElem?_set_ne (by omega)]; exact h1, h2, h3, h4, h5, h6⟩
      rw [← setT_take rd hi] at R2 st A2
      generalize h.set H.length (.cells (bL n (setT rd (w.take (i + 1)))) 4 true 0 []) = G at *
      generalize w[i] = x at *
      have z2 : (0 : Int) ≤ x := by omega
      have z3 : (x : Int) < n := by omega
      repeat (first | apply Z1 | apply Z2 | apply Z3 | apply Z4 | apply Z5 rfl | apply Z6 | apply Z7 | apply Z8 | apply Z9 | apply ZA | apply ZB | apply ZC | ((first | apply ZD (by decide) | apply ZN (by decide)); (simp (maxSteps := 9999999) only [go_sem, r7, r9, r12, e1, z1, l1, z2, z3, ↓st, ew, Int.toNat_natCast]; rfl)) | (refine ZE ?_ ?_; · simp only [go_sem]) | (refine ZF ?_ ?_; · simp only [go_sem]))
      exact end_nil ⟨k - 1, by omega, i + 1, by omega, R2, A2, fun r hr => by simp only [upd_get]; (repeat rw [if_neg (by omega)]); exact hreg r hr, by simp only [go_sem, r7], by simp only [go_sem, r9], by simp only [go_sem, ew], rfl, rfl⟩
theorem p23_loop (cx : Cx) (hn : n ≤ 6) (hC : Conn n E) (hE : PS H ev E) (hlen : E.length ≤ 1000000) (hg : goal < n) {full : List Nat} {rc : Nat} :
    ∀ k ρ ms h' d', (∃ (rd : Nat → Bool) (out : List Nat) (ov : Value), partsR (adjE E) (farE n E goal) n k rd out = some full ∧ RT H n rd out ov h' ∧ ρ 0 = .int .i64 n ∧ ρ 1 = ev ∧ ρ 2 = .int .i64 goal ∧ ρ 7 = .slice (some ⟨H.length, 0, none⟩) n rc ∧ ρ 8 = ov ∧ ms = [] ∧ d' = []) →
    LoopW M cx 6 sf23L2 ρ ms h' d' (fun ex ρ' ms' h' d' => ex = .ret ∧ ms' = [] ∧ d' = [] ∧ ∃ rd ov, RT H n rd full ov h' ∧ ρ' 6 = ov) := by
  refine loop_run _ ?_
  rintro k ρ ms h d' ⟨rd, out, ov, hp, R, r0, r1, r2, r7, r8, rfl, rfl⟩
  unfold sf23L2
  cases k with
  | zero => rw [partsR] at hp; cases hp
  | succ m =>
    rw [partsR] at hp
    cases hw : wayO (adjE E) (farE n E goal) n rd n 0 [] with
    | none => rw [hw] at hp; cases hp
    | some w =>
      rw [hw] at hp
      dsimp only at hp
      repeat (first | apply Z1 | apply Z2 | apply Z3 | apply Z4 | apply Z5 rfl | apply Z6 | apply Z7 | apply Z8 | apply Z9 | apply ZA | apply ZB | apply ZC | ((first | apply ZD (by decide) | apply ZN (by decide)); (simp (maxSteps := 9999999) only [go_sem]; rfl)) | (refine ZE ?_ ?_; · simp only [go_sem]) | (refine ZF ?_ ?_; · simp only [go_sem]))
      refine run_loop (p23_way (rd := rd) (out := out) (wf := w) (ov := ov) (rc := rc) _ hn hC hE hlen hg n _ _ _ _ ⟨0, [], _, by omega, hw, R, .inl ⟨rfl, rfl, rfl⟩, fun r _ => rfl, by simp only [go_sem, r0], by simp only [go_sem, r1], by simp only [go_sem, r2], by simp only [go_sem, r7], by simp only [go_sem], by simp only [go_sem] <;> rfl, rfl, rfl⟩) ?_
      rintro ex ρ2 ms2 h2 d2 ⟨rfl, rfl, rfl, K, R2, wv, A, t9⟩
      have a0 : ρ2 0 = .int .i64 n := (K 0 (by decide)).trans (by simp only [go_sem, r0])
      have a1 : ρ2 1 = ev := (K 1 (by decide)).trans (by simp only [go_sem, r1])
      have a2 : ρ2 2 = .int .i64 goal := (K 2 (by decide)).trans (by simp only [go_sem, r2])
      have a7 : ρ2 7 = .slice (some ⟨H.length, 0, none⟩) n rc := (K 7 (by decide)).trans (by simp only [go_sem, r7])
      have a8 : ρ2 8 = ov := (K 8 (by decide)).trans (by simp only [go_sem, r8])
      obtain ⟨wa, wc, ewv⟩ := A.shape
      have t9' := t9
      rw [ewv] at t9'
      by_cases c0 : w.length = 0
      · rw [if_pos c0] at hp
        injection hp with hp
        subst hp
        have eq1 : ((w.length : Int) = 0) = True := eq_true (by omega)
        repeat (first | apply Z1 | apply Z2 | apply Z3 | apply Z4 | apply Z5 rfl | apply Z6 | apply Z7 | apply Z8 | apply Z9 | apply ZA | apply ZB | apply ZC | ((first | apply ZD (by decide) | apply ZN (by decide)); (simp (maxSteps := 9999999) only [go_sem, t9', a8, eq1]; rfl)) | (refine ZE ?_ ?_; · simp only [go_sem]) | (refine ZF ?_ ?_; · simp only [go_sem]))
        exact end_nil ⟨rfl, rfl, rfl, rd, ov, R2, by simp only [go_sem, a8]⟩
      · rw [if_neg c0] at hp
        have eq1 : ((w.length : Int) = 0) = False := eq_false (by omega)
        by_cases c1 : (w.all fun x => decide (x < n)) = true ∧ out.length ≤ 1000
        · rw [if_pos c1] at hp
          have hx : ∀ x ∈ w, x < n := fun x hx => of_decide_eq_true (List.all_eq_true.1 c1.1 x hx)
          have hwl : w.length ≤ 1000 := wayO_len hw (by simp)
          repeat (first | apply Z1 | apply Z2 | apply Z3 | apply Z4 | apply Z5 rfl | apply Z6 | apply Z7 | apply Z8 | apply Z9 | apply ZA | apply ZB | apply ZC | ((first | apply ZD (by decide) | apply ZN (by decide)); (simp (maxSteps := 9999999) only [go_sem, t9', eq1]; rfl)) | (refine ZE ?_ ?_; · simp only [go_sem]) | (refine ZF ?_ ?_; · simp only [go_sem]))
          refine run_loop (p23_set (rd := rd) (out := out) (w := w) (ov := ov) (wv := wv) (rc := rc) _ hx hwl w.length _ _ _ _ ⟨0, by omega, R2, A, fun r _ => rfl, by simp only [go_sem, a7], by simp only [go_sem, t9]; done, by simp only [go_sem] <;> rfl, rfl, rfl⟩) ?_
          rintro ex ρ3 ms3 h3 d3 ⟨rfl, rfl, rfl, K3, R3⟩
          have b0 : ρ3 0 = .int .i64 n := (K3 0 (by decide)).trans (by simp only [go_sem, a0])
          have b1 : ρ3 1 = ev := (K3 1 (by decide)).trans (by simp only [go_sem, a1])
          have b2 : ρ3 2 = .int .i64 goal := (K3 2 (by decide)).trans (by simp only [go_sem, a2])
          have b7 : ρ3 7 = .slice (some ⟨H.length, 0, none⟩) n rc := (K3 7 (by decide)).trans (by simp only [go_sem, a7])
          have b8 : ρ3 8 = ov := (K3 8 (by decide)).trans (by simp only [go_sem, a8])
          have b9 : ρ3 9 = .slice wa w.length wc := (K3 9 (by decide)).trans (by simp only [go_sem, t9'])
          obtain ⟨G, v2, ap, R4⟩ := R3.push w.length (by omega)
          obtain ⟨oa, oc, eov⟩ := R3.ao.shape
          repeat (first | apply Z1 | apply Z2 | apply Z3 | apply Z4 | apply Z5 rfl | apply Z6 | apply Z7 | apply Z8 | apply Z9 | apply ZA | apply ZB | apply ZC | ((first | apply ZD (by decide) | apply ZN (by decide)); (simp (maxSteps := 9999999) only [go_sem, b8, b9, ↓ap]; rfl)) | (refine ZE ?_ ?_; · simp only [go_sem]) | (refine ZF ?_ ?_; · simp only [go_sem]))
          exact end_nil ⟨m, by omega, setT rd w, out ++ [w.length], v2, hp, R4, by simp only [go_sem, b0], by simp only [go_sem, b1], by simp only [go_sem, b2], by simp only [go_sem, b7], by simp only [go_sem], rfl, rfl⟩
        · rw [if_neg c1] at hp; cases hp
theorem parts23 (hn1 : 1 ≤ n) (hn : n ≤ 6) (hC : Conn n E) (hE : PS H ev E) (hlen : E.length ≤ 1000000) (hg : goal < n) {full : List Nat} {k : Nat} (hp : partsR (adjE E) (farE n E goal) n k (up (fun _ => false) goal true) [] = some full) :
    M.call 23 [.int .i64 n, ev, .int .i64 goal] H = some (resV H full.length 1, resH H (full.map nI) full.length 3, []) := by
  refine call_run sf23 rfl rfl rfl ?_
  obtain ⟨va, vc, rfl, _⟩ := id hE
  have rpB : repeatL [.bool false] n = bL n (fun _ => false) := by
    have : ∀ m, repeatL [Value.bool false] m = List.replicate m (.bool false) := by
      intro m
      induction m with
      | zero => rfl
      | succ m ih => show [_] ++ _ = _; rw [ih]; rfl
    rw [this]
    apply List.ext_getElem?
    intro i
    unfold bL
    by_cases c : i < n
    · simp [c]
    · rw [List.getElem?_eq_none (by simp; omega), List.getElem?_eq_none (by simp; omega)]
  have scB : (bL n (fun _ => false)).all sc = true := by
    rw [List.all_eq_true]
    intro x hx
    obtain ⟨c, _, rfl⟩ := List.mem_map.1 hx
    rfl
  have z0 : (0 : Int) ≤ n := by omega
  have z1 : (n : Int) ≤ 1073741824 := by omega
  have z2 : Nat.ble n 140737488355328 = true := by rw [ble_dec]; exact decide_eq_true (by omega)
  have z3 : Nat.ble (n * 1) 140737488355328 = true := by rw [Nat.mul_one]; exact z2
  have z4 : (0 : Int) ≤ goal := by omega
  have z5 : (goal : Int) < n := by omega
  have R0 : RT H n (fun _ => false) [] (.slice none 0 0) (H ++ [SO.cells (bL n (fun _ => false)) 4 true 0 []]) := ⟨by simp, fun j hj => List.getElem?_append_left hj, by rw [app_get0]; rfl, .inl ⟨rfl, rfl, rfl⟩⟩
  obtain ⟨st, R1⟩ := R0.set hg
  generalize hG : (H ++ [SO.cells (bL n (fun _ => false)) 4 true 0 []] : SHeap).set H.length (.cells (bL n (up (fun _ => false) goal true)) 4 true 0 []) = G at *
  unfold sf23
  repeat (first | apply Z1 | apply Z2 | apply Z3 | apply Z4 | apply Z5 rfl | apply Z6 | apply Z7 | apply Z8 | apply Z9 | apply ZA | apply ZB | apply ZC | ((first | apply ZD (by decide) | apply ZN (by decide)); (simp (maxSteps := 9999999) only [go_sem, argR, z0, z1, z2, z3, z4, z5, rpB, scB, ↓st, Int.toNat_natCast]; rfl)) | (refine ZE ?_ ?_; · simp only [go_sem]) | (refine ZF ?_ ?_; · simp only [go_sem]))
  refine run_loop (p23_loop (full := full) (rc := n) _ hn hC hE hlen hg k _ _ _ _ ⟨_, [], _, hp, R1, by simp only [go_sem, argR], by simp only [go_sem, argR], by simp only [go_sem, argR], by simp only [go_sem], by simp only [go_sem], rfl, rfl⟩) ?_
  rintro ex ρ2 ms2 h2 d2 ⟨rfl, rfl, rfl, rd, ov, R, t6⟩
  obtain ⟨oa, oc, eov⟩ := R.ao.shape
  have A : AccS (H ++ []) h2 ov (full.map nI) full.length 1 3 := by
    rw [List.append_nil]
    exact ⟨R.ao.lo (by omega), by have := R.le; omega, R.low⟩
  have gc := A.gc
  rw [eov] at t6 gc
  repeat (first | apply Z1 | apply Z2 | apply Z3 | apply Z4 | apply Z5 rfl | apply Z6 | apply Z7 | apply Z8 | apply Z9 | apply ZA | apply ZB | apply ZC | ((first | apply ZD (by decide) | apply ZN (by decide)); (simp (maxSteps := 9999999) only [go_sem, t6]; rfl)) | (refine ZE ?_ ?_; · simp only [go_sem]) | (refine ZF ?_ ?_; · simp only [go_sem]))
  exact end_nil (q_gc [.slice oa full.length oc] (by simp only [go_sem, t6]) rfl gc rfl)
end
end Go.Proofs.YtpkhkghiidilcaaDoor.Sh

namespace Go.Proofs.YtpkhkghiidilcaaDoor.Sh
open Go
set_option maxRecDepth 100000
set_option maxHeartbeats 4000000
def pfF (a b c d w : Nat) : Nat := match w with
  | 2 => a
  | 3 => b
  | 4 => c
  | 5 => d
  | _ => 0
def adjP (n : Nat) (pf : Nat → Nat) (u v : Nat) : Bool := (Nat.blt u n && Nat.blt v n) && ((Nat.ble 1 v && Nat.beq (pf v) u) || (Nat.ble 1 u && Nat.beq (pf u) v))
def dP (pf : Nat → Nat) : Nat → Nat → Nat → Nat
  | 0, _, _ => 0
  | k + 1, u, v => if Nat.beq u v then 0 else if Nat.blt v u then dP pf k (pf u) v + 1 else dP pf k u (pf v) + 1
def fP (n : Nat) (pf : Nat → Nat) (g v : Nat) : Nat := if v < n then dP pf 12 g v else 0
def gP (n : Nat) (pf : Nat → Nat) (i : Nat) : Bool := Nat.ble 1 (i % 6) && Nat.blt (i % 6) n && Nat.beq (pf (i % 6)) (i / 6)
def srtB : List Nat → Bool
  | [] => true
  | x :: l => (l.all fun y => Nat.ble y x) && srtB l
def chkP (n : Nat) (pf : Nat → Nat) (g : Nat) : Bool :=
  match partsO (adjP n pf) n 7 g (-1) with
  | none => false
  | some (k, o) => match partsR (adjP n pf) (fP n pf g) n 7 (up (fun _ => false) g true) [] with
    | none => false
    | some r => (Nat.ble 1 k || o.isEmpty) && Nat.ble o.length 11 && ((outL k o).all fun x => Nat.ble x 20) && srtB r && r.isPerm (outL k o)
def chkD (n : Nat) (pf : Nat → Nat) (g : Nat) : Bool :=
  Nat.beq (dP pf 12 g g) 0 && ((List.range n).all fun a => ((List.range n).all fun b => !adjP n pf a b || Nat.ble (dP pf 12 g b) (dP pf 12 g a + 1)) && (Nat.beq a g || (List.range n).any fun u => adjP n pf a u && Nat.beq (dP pf 12 g a) (dP pf 12 g u + 1)))
def chkT (n : Nat) (pf : Nat → Nat) : Bool := Nat.beq ((edg (gP n pf) 36).length + 1) n && (List.range n).all fun g => chkP n pf g && chkD n pf g
theorem chk_all : ((List.range 7).all fun n => Nat.blt n 1 || (List.range 2).all fun a => (List.range 3).all fun b => (List.range 4).all fun c => (List.range 5).all fun d => chkT n (pfF a b c d)) = true := by decide +kernel
end Go.Proofs.YtpkhkghiidilcaaDoor.Sh

namespace Go.Proofs.YtpkhkghiidilcaaDoor.Sh
open Go
set_option maxRecDepth 100000
set_option maxHeartbeats 4000000
theorem edg_eq {f g : Nat → Bool} : ∀ k, (∀ i, i < k → g i = true → f i = true) → (edg g k).length ≤ (edg f k).length ∧ ((edg f k).length ≤ (edg g k).length → ∀ i, i < k → f i = g i)
  | 0, _ => ⟨Nat.le_refl _, fun _ i hi => by omega⟩
  | k + 1, h => by
    obtain ⟨h1, h2⟩ := edg_eq k (fun i hi => h i (by omega))
    have hk := h k (by omega)
    show (edg g k ++ if g k = true then [(k / 6, k % 6)] else []).length ≤ (edg f k ++ if f k = true then [(k / 6, k % 6)] else []).length ∧ ((edg f k ++ if f k = true then [(k / 6, k % 6)] else []).length ≤ (edg g k ++ if g k = true then [(k / 6, k % 6)] else []).length → _)
    rw [List.length_append, List.length_append]
    cases hg : g k with
    | true =>
      have hf := hk hg
      rw [hf]
      simp only [if_true, List.length_singleton]
      refine ⟨by omega, fun h3 i hi => ?_⟩
      by_cases e : i = k
      · subst e; rw [hf, hg]
      · exact h2 (by omega) i (by omega)
    | false =>
      cases hf : f k with
      | true =>
        simp only [if_true, Bool.false_eq_true, if_false, List.length_singleton, List.length_nil]
        exact ⟨by omega, fun h3 => by omega⟩
      | false =>
        simp only [Bool.false_eq_true, if_false, List.length_nil]
        refine ⟨by omega, fun h3 i hi => ?_⟩
        by_cases e : i = k
        · subst e; rw [hf, hg]
        · exact h2 (by omega) i (by omega)
theorem srtB_ok : ∀ {l : List Nat}, srtB l = true → l.Pairwise (fun a b => b ≤ a)
  | [], _ => List.Pairwise.nil
  | x :: l, h => by
    unfold srtB at h
    rw [Bool.and_eq_true, List.all_eq_true] at h
    exact List.Pairwise.cons (fun y hy => Nat.le_of_ble_eq_true (h.1 y hy)) (srtB_ok h.2)
theorem blt_iff {a b : Nat} : Nat.blt a b = true ↔ a < b := by rw [blt_dec]; exact decide_eq_true_iff
theorem nbeq_iff {a b : Nat} : Nat.beq a b = true ↔ a = b := ⟨Nat.eq_of_beq_eq_true, fun h => by subst h; exact Nat.beq_refl _⟩
theorem nble_iff {a b : Nat} : Nat.ble a b = true ↔ a ≤ b := ⟨Nat.le_of_ble_eq_true, fun h => Nat.ble_eq_true_of_le h⟩
theorem adjP_iff {n : Nat} {pf : Nat → Nat} {u v : Nat} : adjP n pf u v = true ↔ (u < n ∧ v < n) ∧ ((1 ≤ v ∧ pf v = u) ∨ (1 ≤ u ∧ pf u = v)) := by
  unfold adjP
  simp only [Bool.and_eq_true, Bool.or_eq_true, blt_iff, nbeq_iff, nble_iff]
theorem gP_iff {n : Nat} {pf : Nat → Nat} {i : Nat} : gP n pf i = true ↔ (1 ≤ i % 6 ∧ i % 6 < n) ∧ pf (i % 6) = i / 6 := by
  unfold gP
  simp only [Bool.and_eq_true, blt_iff, nbeq_iff, nble_iff]
section
variable {most n : Nat} {tr : Bool} {f : Nat → Bool}
theorem tree_pf (T : TM most tr n f) (hm : most ≤ 6) (hlen : (edg f 36).length + 1 = n) : ∃ pf : Nat → Nat, chkT n pf = true ∧ (∀ w, 1 ≤ w → w < n → pf w < w) ∧ ∀ i, i < 36 → f i = gP n pf i := by
  have n1 := T.n1
  have n2 := T.n2
  obtain ⟨par, hpar, _⟩ := T.par
  have b : ∀ w, 1 ≤ w → (if w < n then par w else 0) < w := fun w h => by
    by_cases c : w < n
    · rw [if_pos c]; exact (hpar w h c).1
    · rw [if_neg c]; omega
  generalize hA : (if 2 < n then par 2 else 0) = a
  generalize hB : (if 3 < n then par 3 else 0) = b'
  generalize hC : (if 4 < n then par 4 else 0) = c
  generalize hD : (if 5 < n then par 5 else 0) = d
  have h2 := b 2 (by decide); have h3 := b 3 (by decide); have h4 := b 4 (by decide); have h5 := b 5 (by decide)
  rw [hA] at h2; rw [hB] at h3; rw [hC] at h4; rw [hD] at h5
  have hpf : ∀ w, 1 ≤ w → w < n → pfF a b' c d w = par w := fun w w1 w2 => by
    have : w = 1 ∨ w = 2 ∨ w = 3 ∨ w = 4 ∨ w = 5 := by omega
    rcases this with rfl | rfl | rfl | rfl | rfl
    · have := (hpar 1 w1 w2).1
      show 0 = par 1
      omega
    · show a = par 2
      rw [← hA, if_pos w2]
    · show b' = par 3
      rw [← hB, if_pos w2]
    · show c = par 4
      rw [← hC, if_pos w2]
    · show d = par 5
      rw [← hD, if_pos w2]
  have hck : chkT n (pfF a b' c d) = true := by
    have k := List.all_eq_true.1 chk_all n (List.mem_range.2 (by omega))
    rw [Bool.or_eq_true] at k
    rcases k with k | k
    · have := blt_iff.1 k; omega
    · exact List.all_eq_true.1 (List.all_eq_true.1 (List.all_eq_true.1 (List.all_eq_true.1 k a (List.mem_range.2 h2)) b' (List.mem_range.2 h3)) c (List.mem_range.2 h4)) d (List.mem_range.2 h5)
  have hl : (edg (gP n (pfF a b' c d)) 36).length + 1 = n := by
    unfold chkT at hck
    rw [Bool.and_eq_true] at hck
    exact nbeq_iff.1 hck.1
  refine ⟨pfF a b' c d, hck, fun w w1 w2 => by rw [hpf w w1 w2]; exact (hpar w w1 w2).1, ?_⟩
  refine (edg_eq 36 (fun i hi hg => ?_)).2 (by omega)
  obtain ⟨⟨g1, g2⟩, g3⟩ := gP_iff.1 hg
  rw [hpf _ g1 g2] at g3
  have := (hpar _ g1 g2).2
  rw [g3] at this
  rwa [show i / 6 * 6 + i % 6 = i by omega] at this
theorem tree_adj (T : TM most tr n f) (hm : most ≤ 6) {pf : Nat → Nat} (hp : ∀ w, 1 ≤ w → w < n → pf w < w) (hf : ∀ i, i < 36 → f i = gP n pf i) : adjE (castE (edg f 36)) = adjP n pf := by
  have n2 := T.n2
  have mem : ∀ u v : Nat, ((u : Int), (v : Int)) ∈ castE (edg f 36) ↔ (1 ≤ v ∧ v < n) ∧ pf v = u := fun u v => by
    unfold castE
    rw [List.mem_map]
    constructor
    · rintro ⟨p, h1, h2⟩
      obtain ⟨i, h3, h4, rfl⟩ := edg_mem.1 h1
      dsimp only at h2
      injection h2 with e1 e2
      rw [hf i h3] at h4
      obtain ⟨g1, g2⟩ := gP_iff.1 h4
      have e1' : i / 6 = u := by omega
      have e2' : i % 6 = v := by omega
      rw [e2', e1'] at g2
      rw [e2'] at g1
      exact ⟨g1, g2⟩
    · rintro ⟨g1, g2⟩
      have hlt := hp v g1.1 g1.2
      have q1 : (u * 6 + v) % 6 = v := by omega
      have q2 : (u * 6 + v) / 6 = u := by omega
      refine ⟨(u, v), edg_mem.2 ⟨u * 6 + v, by omega, ?_, by rw [q1, q2]⟩, rfl⟩
      rw [hf _ (by omega), gP_iff, q1, q2]
      exact ⟨g1, g2⟩
  funext u v
  rw [Bool.eq_iff_iff, adjE_mem, adjP_iff, mem, mem]
  constructor
  · rintro (⟨h1, h2⟩ | ⟨h1, h2⟩)
    · have := hp v h1.1 h1.2
      exact ⟨⟨by omega, h1.2⟩, .inl ⟨h1.1, h2⟩⟩
    · have := hp u h1.1 h1.2
      exact ⟨⟨h1.2, by omega⟩, .inr ⟨h1.1, h2⟩⟩
  · rintro ⟨⟨h1, h2⟩, h3 | h3⟩
    · exact .inl ⟨⟨h3.1, h2⟩, h3.2⟩
    · exact .inr ⟨⟨h3.1, h1⟩, h3.2⟩
theorem tree_parts (T : TM most tr n f) (hm : most ≤ 6) (hlen : (edg f 36).length + 1 = n) {g : Nat} (hg : g < n) :
    ∃ k o r, partsO (adjE (castE (edg f 36))) n 7 g (-1) = some (k, o) ∧ partsR (adjE (castE (edg f 36))) (farE n (castE (edg f 36)) g) n 7 (up (fun _ => false) g true) [] = some r ∧ (k = 0 → o = []) ∧ o.length ≤ 11 ∧ (∀ x ∈ outL k o, x ≤ 20) ∧ Srt (outL k o) r := by
  obtain ⟨pf, hck, hp, hf⟩ := tree_pf T hm hlen
  have hadj := tree_adj T hm hp hf
  unfold chkT at hck
  rw [Bool.and_eq_true] at hck
  have hgk := List.all_eq_true.1 hck.2 g (List.mem_range.2 hg)
  rw [Bool.and_eq_true] at hgk
  obtain ⟨kp, kd⟩ := hgk
  have hD : IsD n (adjE (castE (edg f 36))) g (fun v => (dP pf 12 g v : Int)) := by
    unfold chkD at kd
    rw [Bool.and_eq_true] at kd
    have all := fun a (ha : a < n) => (Bool.and_eq_true _ _ ▸ List.all_eq_true.1 kd.2 a (List.mem_range.2 ha) : _ ∧ _)
    refine ⟨by have := nbeq_iff.1 kd.1; show ((dP pf 12 g g : Nat) : Int) = 0; omega, fun v hv _ hne => ?_, fun u v hu hv _ ha => ⟨by show (0 : Int) ≤ ((dP pf 12 g v : Nat) : Int); omega, ?_⟩⟩
    · have k2 := (all v hv).2
      rw [Bool.or_eq_true] at k2
      rcases k2 with k2 | k2
      · exact (hne (nbeq_iff.1 k2)).elim
      · obtain ⟨u, hu, k3⟩ := List.any_eq_true.1 k2
        rw [Bool.and_eq_true] at k3
        have k4 := nbeq_iff.1 k3.2
        refine ⟨u, List.mem_range.1 hu, by rw [adjE_symm, hadj]; exact k3.1, by show (0 : Int) ≤ ((dP pf 12 g u : Nat) : Int); omega, by show ((dP pf 12 g v : Nat) : Int) = ((dP pf 12 g u : Nat) : Int) + 1; omega⟩
    · have k2 := List.all_eq_true.1 (all u hu).1 v (List.mem_range.2 hv)
      rw [hadj] at ha
      rw [ha] at k2
      have k3 := nble_iff.1 (by simpa using k2 : Nat.ble (dP pf 12 g v) (dP pf 12 g u + 1) = true)
      show ((dP pf 12 g v : Nat) : Int) ≤ ((dP pf 12 g u : Nat) : Int) + 1
      omega
  have hfar : farE n (castE (edg f 36)) g = fP n pf g := by
    funext v
    unfold fP
    by_cases c : v < n
    · rw [if_pos c]
      have := farE_eq hD hg c (by show (0 : Int) ≤ ((dP pf 12 g v : Nat) : Int); omega)
      exact Int.ofNat.inj this
    · rw [if_neg c]
      unfold farE
      rw [dif_neg (fun h => c h.2.1)]
  rw [hfar, hadj]
  unfold chkP at kp
  cases h1 : partsO (adjP n pf) n 7 g (-1) with
  | none => rw [h1] at kp; cases kp
  | some ko =>
    obtain ⟨k, o⟩ := ko
    rw [h1] at kp
    dsimp only at kp
    cases h2 : partsR (adjP n pf) (fP n pf g) n 7 (up (fun _ => false) g true) [] with
    | none => rw [h2] at kp; cases kp
    | some r =>
      rw [h2] at kp
      dsimp only at kp
      simp only [Bool.and_eq_true, Bool.or_eq_true, nble_iff, List.isEmpty_iff] at kp
      obtain ⟨⟨⟨⟨k1, k2⟩, k3⟩, k4⟩, k5⟩ := kp
      refine ⟨k, o, r, rfl, rfl, fun h => ?_, k2, fun x hx => nble_iff.1 (List.all_eq_true.1 k3 x hx), List.isPerm_iff.1 k5, srtB_ok k4⟩
      rcases k1 with k1 | k1
      · omega
      · exact k1
end
end Go.Proofs.YtpkhkghiidilcaaDoor.Sh

namespace Go.Proofs.YtpkhkghiidilcaaDoor.Sh
open Go
set_option maxRecDepth 100000
set_option maxHeartbeats 4000000
theorem tree22 {H : SHeap} {n : Nat} {v : Value} {E : List (Int × Int)} (hn : n ≤ 6) (hv : PS H v E) : M.call 22 [.int .i64 n, v] H = some (.bool (decide (E.length + 1 = n)), H, []) := by
  refine call_run sf22 rfl rfl rfl ?_
  obtain ⟨va, vc, rfl, _⟩ := id hv
  have ew : IntKind.i64.wrap ((n : Int) - 1) = n - 1 := wrap64 (by omega) (by omega)
  unfold sf22
  by_cases c : E.length + 1 = n
  · have e1 : ((E.length : Int) = n - 1) = True := eq_true (by omega)
    rw [decide_eq_true c]
    repeat (first | apply Z1 | apply Z2 | apply Z3 | apply Z4 | apply Z5 rfl | apply Z6 | apply Z7 | apply Z8 | apply Z9 | apply ZA | apply ZB | apply ZC | ((first | apply ZD (by decide) | apply ZN (by decide)); (simp (maxSteps := 9999999) only [go_sem, argR, ew, e1]; rfl)) | (refine ZE ?_ ?_; · simp only [go_sem]) | (refine ZF ?_ ?_; · simp only [go_sem]))
    exact end_nil (q_ret1 _ (by simp only [go_sem]) rfl (take_self _))
  · have e1 : ((E.length : Int) = n - 1) = False := eq_false (by omega)
    rw [decide_eq_false c]
    repeat (first | apply Z1 | apply Z2 | apply Z3 | apply Z4 | apply Z5 rfl | apply Z6 | apply Z7 | apply Z8 | apply Z9 | apply ZA | apply ZB | apply ZC | ((first | apply ZD (by decide) | apply ZN (by decide)); (simp (maxSteps := 9999999) only [go_sem, argR, ew, e1]; rfl)) | (refine ZE ?_ ?_; · simp only [go_sem]) | (refine ZF ?_ ?_; · simp only [go_sem]))
    exact end_nil (q_ret1 _ (by simp only [go_sem]) rfl (take_self _))
theorem law4M {H : SHeap} {N goal : Int} {tr : Bool} {ev : Value} {X : List (Int × Int)} (hv : PS H ev X) (hX : X.length ≤ 9223372036854775807) :
    M.call 4 [.agg #[.int .i64 N, ev], .int .i64 goal, .bool tr] H = some (.bool true, H, []) := by
  refine call_run sf4 rfl rfl rfl ?_
  obtain ⟨n, f, E, xv, H1, T, eE, hn1, hn, hE, hC, he, hEl, P1, ⟨xa, xc, exv⟩, G1, F1, c15⟩ := tameS (N := N) hv hX (most := 6) (by decide) (by decide) tr [.cells [.int .i64 N, ev] 24 false 0 []]
  have hEl' : E.length ≤ 1000000 := by omega
  rw [List.length_append, List.length_singleton] at F1 G1
  have G1' : ∀ j, j < H.length → H1[j]? = H[j]? := fun j hj => by rw [G1 j (by omega), List.getElem?_append_left hj]
  have lx : loadS (H ++ [.cells [.int .i64 N, ev] 24 false 0 []]) (some 2) (.pointer (some ⟨H.length, 0, none⟩)) = some (.agg #[.int .i64 N, ev]) := by rw [load_appN0]; rfl
  rw [show ((6 : Nat) : Int) = 6 from rfl] at c15
  have hg := uR_lt goal (m := n) (by omega)
  have um := uR_eq goal (m := n) (by omega)
  have hwu : IntKind.u64.wrap (n : Int) = n := wrapU (by omega) (by omega)
  have hne : ¬ (n : Int) = 0 := by omega
  have w6 : IntKind.i64.wrap ((uR goal n : Nat) : Int) = ((uR goal n : Nat) : Int) := wrap64 (by omega) (by omega)
  generalize uR goal n = g at *
  obtain ⟨va, vc, rfl, _⟩ := id hv
  by_cases c : E.length + 1 = n
  · obtain ⟨k, o, r, t1, t2, t3, t4, t5, t6⟩ := tree_parts T (by decide) (by rw [← castE_len, ← eE]; exact c) hg
    rw [← eE] at t1 t2
    obtain ⟨l', s1, c20, _⟩ := parts20 P1 hEl' he hg c t1 t3 t4 t5
    obtain rfl := s1.uniq t6
    have A1 := AccS.resl (H := H1) (h := H1) (Nat.le_refl _) (fun _ _ => rfl) l'
    have I1 := A1.is
    obtain ⟨la, lc, elv⟩ := A1.shape
    have K1 := A1.le
    have K2 := A1.same
    generalize resH H1 (l'.map nI) l'.length 3 = h2 at *
    generalize resV H1 l'.length 1 = lv at *
    have P2 := P1.fr K2
    obtain ⟨l2, s2, _, c21⟩ := parts20 P2 hEl' he hg c t1 t3 t4 t5
    obtain rfl := s2.uniq t6
    have c22 := tree22 hn P2
    rw [decide_eq_true c] at c22
    have c23 := parts23 hn1 hn hC P2 hEl' hg t2
    have A2 := AccS.resl (H := h2) (h := h2) (Nat.le_refl _) (fun _ _ => rfl) l2
    have I2 := A2.is
    have K3 := A2.le
    have K4 := A2.same
    obtain ⟨ra, rc, erv⟩ := A2.shape
    generalize resH h2 (l2.map nI) l2.length 3 = h3 at *
    generalize resV h2 l2.length 1 = rv at *
    have hx : ∀ x ∈ l2, x ≤ 20 := fun x h => t5 x (t6.1.mem_iff.1 h)
    have hl : l2.length ≤ 12 := by
      rw [t6.1.length_eq]; unfold outL
      by_cases c : k = 0
      · rw [if_pos c]; omega
      · rw [if_neg c, List.length_append, List.length_singleton]; omega
    have c24 := ints24 (I1.fr K3 K4) I2 (by rw [zL_len]; omega)
    rw [decide_eq_true rfl] at c24
    have c25 := tnum25 I2 hx hl
    have aw := awake_call h3
    subst exv elv erv
    generalize (1 + (pw2 l2 : Int) - l2.length) = tn at *
    unfold sf4
    repeat (first | apply Z1 | apply Z2 | apply Z3 | apply Z4 | apply Z5 rfl | apply Z6 | apply Z7 | apply Z8 | apply Z9 | apply ZA | apply ZB | apply ZC | ((first | apply ZD (by decide) | apply ZN (by decide)); (simp (maxSteps := 9999999) only [go_sem, argR, lx, c15, um, hwu, w6, hne, c20, c21, c22, c23, c24, c25, aw]; rfl)) | (refine ZE ?_ ?_; · simp only [go_sem]) | (refine ZF ?_ ?_; · simp only [go_sem]))
    exact end_nil (q_ret1 _ (by simp only [go_sem]) rfl (take_of_same (by omega) (fun j hj => by rw [K4 j (by omega), K2 j (by omega)]; exact G1' j hj)))
  · have c20 := parts20_no P1 hEl' he hg c
    have c21 := tnum21_no P1 hEl' he hg c
    have c22 := tree22 hn P1
    rw [decide_eq_false c] at c22
    have aw := awake_call H1
    have z0 : ((0 : Nat) : Int) = 0 := rfl
    have z1 : IntKind.i64.wrap 0 = 0 := rfl
    subst exv
    unfold sf4
    repeat (first | apply Z1 | apply Z2 | apply Z3 | apply Z4 | apply Z5 rfl | apply Z6 | apply Z7 | apply Z8 | apply Z9 | apply ZA | apply ZB | apply ZC | ((first | apply ZD (by decide) | apply ZN (by decide)); (simp (maxSteps := 9999999) only [go_sem, argR, lx, c15, um, hwu, w6, hne, c20, c21, c22, z0, z1, aw]; rfl)) | (refine ZE ?_ ?_; · simp only [go_sem]) | (refine ZF ?_ ?_; · simp only [go_sem]))
    exact end_nil (q_ret1 _ (by simp only [go_sem]) rfl (take_of_same (by omega) (fun j hj => G1' j hj)))
end Go.Proofs.YtpkhkghiidilcaaDoor.Sh

namespace Go.Proofs.YtpkhkghiidilcaaDoor
open Go Go.RowKit Sh
set_option maxRecDepth 100000
theorem supplyParts.walk {a1 : Option Addr} {n1 c1 : Nat} {X1 : List (Int × Int)} {N0 : Int} (W : World) (hg : GlobW Tryd.prog W) (h1 : IsPrs W a1 n1 c1 X1) (z1 : Int) (z2 : Bool) :
    Calls Tryd.prog 4 #[.agg #[.int .i64 N0, .slice a1 n1 c1], .int .i64 z1, .bool z2] W (fun e W' => e = .returned (.bool true) ∧ Below W.heap.size W W') := by
  obtain ⟨x1, b1, r1, k1⟩ := prs_arg h1
  obtain ⟨u1, v1, p1⟩ := k1 [] []
  simp only [List.nil_append, List.append_nil, List.append_assoc] at v1 p1
  exact walk_rel mixed tab (flatK_ok CA_ok) (Rel.ro hg r1) (LR.cons (VR.agg2 (.int _ _) v1) (LR.cons (.int _ _) (LR.cons (.bool _) (LR.nil _)))) (law4M p1.ps x1) rfl
end Go.Proofs.YtpkhkghiidilcaaDoor

