/- Arguments of the laws: graphs. -/
import Derived.Test.YtpkhkghiidilcaaDoorH45
import Derived.Test.YtpkhkghiidilcaaDoorH47
import Derived.WideShapes
import Derived.ChangeArms
import Derived.Test.YtpkhkghiidilcaaDoorH46
set_option linter.all false
namespace Go.Proofs.YtpkhkghiidilcaaDoor.Sh
open Go Go.RowKit Go.WideShapes Go.ChangeShapes
set_option maxRecDepth 100000
theorem u24 : ∃ f0 f1 : Field, Tryd.prog.underlying 24 = some (.struct #[f0, f1]) ∧ f0.type = 3 ∧ f0.offset = 0 ∧ f1.type = 22 ∧ f1.offset = 1 := st2_ok (by kernel_rfl)
theorem ct24 : Tryd.prog.cellTypes Tryd.prog.depth 24 = some [3, 22] := by kernel_rfl
theorem cells24 : Tryd.prog.cellsOf 24 = 2 := by kernel_rfl
theorem cells22 : Tryd.prog.cellsOf 22 = 1 := by kernel_rfl
theorem cells45 : Tryd.prog.cellsOf 45 = 2 := by kernel_rfl
theorem u22 : Tryd.prog.underlying 22 = some (.slice 45) := by kernel_rfl
theorem u45 : Tryd.prog.underlying 45 = some (.array 2 3) := by kernel_rfl
theorem open_graph {H : Type} {enc : TypeId × Value → H} {W : World} {base b0 : Nat} {spare : Nat → Bool} {held : Bool} {v : Value} {d : DataW H} {ps : List MemPlace}
    (hval : Value.okWide Tryd.prog W .any b0 24 v) (h : DataW.Trod enc Tryd.prog W base spare held 24 v d ps) : ∃ N a len cap X, v = .agg #[.int .i64 N, .slice a len cap] ∧ IsPrs W a len cap X := by
  obtain ⟨f0, f1, hu, t0, o0, t1, o1⟩ := u24
  simp only [Value.okWide, hu] at hval
  obtain ⟨cs, rfl, hsz, ts, hts, _, hrow⟩ := hval
  rw [ct24] at hts
  cases hts
  obtain ⟨fuel, hf⟩ := h
  have hf' : DataW.trod enc Tryd.prog W base spare held fuel 24 cs.toList = some (d, ps) := hf
  obtain ⟨y0, y1, n, hx, hl, h0, h1⟩ := trod_struct2 hu hf'
  rw [cells24] at hl
  rw [t0, o0, cells3] at h0
  rw [t1, o1, cells22] at h1
  match hcs : cs.toList, hl with
  | [c0, c1], _ =>
    rw [hcs] at h0 h1
    simp only [List.drop_zero, List.drop_succ_cons, List.take_succ_cons, List.take_zero] at h0 h1
    obtain ⟨n0, e0, _, _⟩ := DataW.trod_int u3 h0
    simp only [List.cons.injEq, and_true] at e0
    have e2 : cs = #[c0, c1] := Array.ext' hcs
    obtain ⟨u, hu1, hok⟩ := hrow 1 c1 (by rw [e2]; rfl)
    cases hu1
    have hv1 : Value.okWide Tryd.prog W .any b0 22 c1 := by simp only [Value.okWide, u22]; exact hok
    obtain ⟨a, len, cap, rfl⟩ := okWide_slice u22 hv1
    obtain ⟨X, hX⟩ := isPrs_of u22 u45 u3 cells45 cells3 hv1 (⟨n, h1⟩ : DataW.Trod enc Tryd.prog W base spare held 22 (.slice a len cap) y1.1 y1.2)
    exact ⟨n0, a, len, cap, X, by rw [e2, e0], hX⟩
end Go.Proofs.YtpkhkghiidilcaaDoor.Sh

namespace Go.Proofs.YtpkhkghiidilcaaDoor.Sh
open Go
set_option maxRecDepth 100000
set_option maxHeartbeats 4000000
end Go.Proofs.YtpkhkghiidilcaaDoor.Sh

namespace Go.Proofs.YtpkhkghiidilcaaDoor.Sh
open Go
set_option maxRecDepth 100000
set_option maxHeartbeats 4000000
section
variable {H : SHeap} {v sv wv : Value} {E : List (Int × Int)} {l : List Int} {n : Int}
end
end Go.Proofs.YtpkhkghiidilcaaDoor.Sh

namespace Go.Proofs.YtpkhkghiidilcaaDoor.Sh
open Go
set_option maxRecDepth 100000
set_option maxHeartbeats 4000000
end Go.Proofs.YtpkhkghiidilcaaDoor.Sh

namespace Go.Proofs.YtpkhkghiidilcaaDoor.Sh
open Go Go.RowKit Go.WideShapes Go.ChangeShapes
set_option maxRecDepth 100000
def st3 (d : Option TypeDesc) (t0 o0 t1 o1 t2 o2 : Nat) : Bool := match d with
  | some (.struct fs) => match fs.toList with
    | [f0, f1, f2] => Nat.beq f0.type t0 && Nat.beq f0.offset o0 && Nat.beq f1.type t1 && Nat.beq f1.offset o1 && Nat.beq f2.type t2 && Nat.beq f2.offset o2
    | _ => false
  | _ => false
end Go.Proofs.YtpkhkghiidilcaaDoor.Sh

namespace Go.Proofs.YtpkhkghiidilcaaDoor.Sh
open Go
set_option maxRecDepth 100000
set_option maxHeartbeats 4000000
section
variable {H : SHeap} {N : Int} {ev lv : Value} {X : List (Int × Int)} {l : List Int}
theorem tameS (hv : PS H ev X) (hX : X.length ≤ 9223372036854775807) {most : Nat} (hm1 : 1 ≤ most) (hm : most ≤ 6) (tr : Bool) (x : SHeap) :
    ∃ (n : Nat) (f : Nat → Bool) (E : List (Int × Int)) (xv : Value) (H1 : SHeap), TM most tr n f ∧ E = castE (edg f 36) ∧ 1 ≤ n ∧ n ≤ most ∧ EOK n E ∧ Conn n E ∧ errG n E = 0 ∧ E.length ≤ 36 ∧ PS H1 xv E ∧ (∃ a c, xv = .slice a E.length c) ∧ (∀ j, j < (H ++ x).length → H1[j]? = (H ++ x)[j]?) ∧ (H ++ x).length ≤ H1.length ∧
      M.call 15 [.agg #[.int .i64 N, ev], .int .i64 most, .bool tr] (H ++ x) = some (.tuple #[.int .i64 n, xv], H1, []) := by
  obtain ⟨n, f, T, c15⟩ := tame15 (H := H ++ x) (N := N) (hv.app _) hX (most := most) hm1 hm tr
  have he := T.err hm
  obtain ⟨m, em, hn1, hn, hE, hC⟩ := errG_ok he
  obtain rfl : n = m := by omega
  have P1 := PS_res (H ++ x) (edg f 36) 45
  obtain ⟨k1, k2⟩ := resH_fr (H ++ x) (prN (edg f 36)) (edg f 36).length 45
  refine ⟨n, f, _, _, _, T, rfl, hn1, T.n2, hE, hC, he, ?_, P1, ?_, k2, k1, c15⟩
  · rw [castE_len]; exact edg_len f 36
  · obtain ⟨a, c, e, _⟩ := P1
    exact ⟨a, c, e⟩
end
end Go.Proofs.YtpkhkghiidilcaaDoor.Sh

namespace Go.Proofs.YtpkhkghiidilcaaDoor.Sh
open Go
set_option maxRecDepth 100000
set_option maxHeartbeats 4000000
section
variable {n : Nat} {E : List (Int × Int)}
theorem cnt_compl (f : Nat → Int) : ∀ n, cnt n f + cnt n (fun v => -1 - f v) = n
  | 0 => rfl
  | n + 1 => by
    have := cnt_compl f n
    show (cnt n f + if f n < 0 then 1 else 0) + (cnt n (fun v => -1 - f v) + if -1 - f n < 0 then 1 else 0) = n + 1
    split <;> split <;> omega
theorem cnt_pos {f : Nat → Int} : ∀ {n : Nat}, 0 < cnt n f → ∃ v, v < n ∧ f v < 0
  | 0, h => by simp [cnt] at h
  | n + 1, h => by
    have h' : 0 < cnt n f + if f n < 0 then 1 else 0 := h
    by_cases c : f n < 0
    · exact ⟨n, by omega, c⟩
    · rw [if_neg c] at h'
      obtain ⟨v, h1, h2⟩ := cnt_pos (f := f) (n := n) (by omega)
      exact ⟨v, by omega, h2⟩
theorem near_cnt (hc : Conn n E) {p : Nat} (hp : p < n) {v : Nat} (hv : v < n) : ∀ k, k ≤ farE n E p v + 1 → k ≤ cnt n (fun w => (farE n E p w : Int) - k) := by
  have lv : ∀ d v, v < n → farE n E p v = d → ∀ k, k ≤ d → ∃ u, u < n ∧ farE n E p u = k := by
    intro d
    induction d with
    | zero => intro v hv h k hk; exact ⟨v, hv, by omega⟩
    | succ d ih =>
      intro v hv h k hk
      by_cases e : k = d + 1
      · exact ⟨v, hv, by omega⟩
      · have hne : v ≠ p := fun e => by subst e; have := far_self hc hv; omega
        obtain ⟨u, hu, _, h1⟩ := far_prev hc hp hv hne
        exact ih u hu (by omega) k (by omega)
  intro k
  induction k with
  | zero => intro _; omega
  | succ k ih =>
    intro hk
    have h1 := ih (by omega)
    obtain ⟨u, hu, h2⟩ := lv _ v hv rfl k (by omega)
    have := cnt_lt (f := fun w => (farE n E p w : Int) - k) (f' := fun w => (farE n E p w : Int) - (k + 1 : Nat)) (fun w => by show (farE n E p w : Int) - (k + 1 : Nat) ≤ (farE n E p w : Int) - k; omega) (u := u) (by show 0 ≤ (farE n E p u : Int) - k; omega) (by show (farE n E p u : Int) - (k + 1 : Nat) < 0; omega) n hu
    omega
theorem far_cnt (hc : Conn n E) {p : Nat} (hp : p < n) (k : Nat) : cnt n (fun w => -1 - ((farE n E p w : Int) - k)) + k ≤ n ∨ cnt n (fun w => -1 - ((farE n E p w : Int) - k)) = 0 := by
  by_cases c : 0 < cnt n (fun w => -1 - ((farE n E p w : Int) - k))
  · obtain ⟨v, hv, h⟩ := cnt_pos c
    have h1 := near_cnt hc hp hv k (by omega)
    have h2 := cnt_compl (fun w => (farE n E p w : Int) - k) n
    left; omega
  · right; omega
theorem pow5 {d : Nat} (h : d ≤ 4) : ((2 ^ d : Nat) : Int) = 1 + (if -1 - ((d : Int) - (1 : Nat)) < 0 then 1 else 0) + 2 * (if -1 - ((d : Int) - (2 : Nat)) < 0 then 1 else 0) + 4 * (if -1 - ((d : Int) - (3 : Nat)) < 0 then 1 else 0) + 8 * (if -1 - ((d : Int) - (4 : Nat)) < 0 then 1 else 0) := by
  have : d = 0 ∨ d = 1 ∨ d = 2 ∨ d = 3 ∨ d = 4 := by omega
  rcases this with rfl | rfl | rfl | rfl | rfl <;> decide
theorem cvS_31 (hn : n ≤ 5) (hc : Conn n E) {p : Nat} (hp : p < n) : cvS n E p ≤ 31 := by
  have key : ∀ m, m ≤ n → lin m (pw n E p) (fun _ => 1) = m + (cnt m (fun w => -1 - ((farE n E p w : Int) - (1 : Nat))) : Nat) + 2 * (cnt m (fun w => -1 - ((farE n E p w : Int) - (2 : Nat))) : Nat) + 4 * (cnt m (fun w => -1 - ((farE n E p w : Int) - (3 : Nat))) : Nat) + 8 * (cnt m (fun w => -1 - ((farE n E p w : Int) - (4 : Nat))) : Nat) := by
    intro m
    induction m with
    | zero => intro _; rfl
    | succ m ih =>
      intro hm
      have := ih (by omega)
      have fl := far_lt hc hp (v := m) (by omega)
      have h5 := pow5 (d := farE n E p m) (by omega)
      show lin m _ _ + pw n E p m * 1 = _
      have c : ∀ k : Nat, cnt (m + 1) (fun w => -1 - ((farE n E p w : Int) - k)) = cnt m (fun w => -1 - ((farE n E p w : Int) - k)) + if -1 - ((farE n E p m : Int) - k) < 0 then 1 else 0 := fun k => rfl
      rw [c 1, c 2, c 3, c 4, this]
      unfold pw
      rw [h5]
      split <;> split <;> split <;> split <;> omega
  have h := key n (Nat.le_refl _)
  unfold cvS
  rw [h]
  have f1 := far_cnt hc hp 1
  have f2 := far_cnt hc hp 2
  have f3 := far_cnt hc hp 3
  have f4 := far_cnt hc hp 4
  generalize cnt n (fun w => -1 - ((farE n E p w : Int) - (1 : Nat))) = a1 at *
  generalize cnt n (fun w => -1 - ((farE n E p w : Int) - (2 : Nat))) = a2 at *
  generalize cnt n (fun w => -1 - ((farE n E p w : Int) - (3 : Nat))) = a3 at *
  generalize cnt n (fun w => -1 - ((farE n E p w : Int) - (4 : Nat))) = a4 at *
  omega
noncomputable def cvM (n : Nat) (E : List (Int × Int)) : Nat → Int
  | 0 => 0
  | k + 1 => max (cvM n E k) (cvS n E k)
theorem pw_bnd (hn : n ≤ 6) (hc : Conn n E) {p : Nat} (hp : p < n) : ∀ m, m ≤ n → 0 ≤ lin m (pw n E p) (fun _ => 1) ∧ lin m (pw n E p) (fun _ => 1) ≤ 64 * m := by
  intro m
  induction m with
  | zero => intro _; exact ⟨Int.le_refl 0, Int.le_refl 0⟩
  | succ m ih =>
    intro hm
    have := ih (by omega)
    have fl := far_lt hc hp (v := m) (by omega)
    have : 2 ^ farE n E p m ≤ 2 ^ 6 := Nat.pow_le_pow_right (by decide) (by omega)
    have e : pw n E p m = ((2 ^ farE n E p m : Nat) : Int) := rfl
    have e0 := pw_nn (n := n) (E := E) (a := p) (v := m)
    show 0 ≤ lin m _ _ + pw n E p m * 1 ∧ lin m _ _ + pw n E p m * 1 ≤ _
    omega
section
variable {H : SHeap} {gr : Nat}
theorem sum48_loop (cx : Cx) (hn : n ≤ 6) (hc : Conn n E) (hg : GAt H gr n E) {p : Nat} (hp : p < n) :
    ∀ k ρ ms h' d', (∃ i : Nat, i + k = n ∧ ρ 10 = .int .i64 (lin i (pw n E p) (fun _ => 1)) ∧ ρ 32 = .slice (some ⟨gr, 7 + p * 6, none⟩) n 6 ∧ ρ 33 = .int .i64 n ∧ ρ 34 = .int .i64 i ∧ ms = [] ∧ h' = H ∧ d' = []) →
    LoopW M cx 6 sf48L0 ρ ms h' d' (fun ex ρ' ms' h' d' => ms' = [] ∧ h' = H ∧ d' = [] ∧ ex = .exit 2 ∧ ρ' 10 = .int .i64 (cvS n E p) ∧ ρ' 0 = ρ 0 ∧ ρ' 6 = ρ 6 ∧ ρ' 8 = ρ 8 ∧ ρ' 22 = ρ 22 ∧ ρ' 23 = ρ 23) := by
  intro k ρ0 ms0 h0 d0 ⟨i, hk, r10, r32, r33, r34, h1, h2, h3⟩
  refine LoopW.imp (Q := fun ex ρ' ms' h' d' => ms' = [] ∧ h' = H ∧ d' = [] ∧ ex = .exit 2 ∧ ρ' 10 = .int .i64 (cvS n E p) ∧ ∀ r, r < 10 ∨ r = 22 ∨ r = 23 → ρ' r = ρ0 r) ?_ (fun ex ρ' ms' h' d' h => ⟨h.1, h.2.1, h.2.2.1, h.2.2.2.1, h.2.2.2.2.1, h.2.2.2.2.2 _ (by decide), h.2.2.2.2.2 _ (by decide), h.2.2.2.2.2 _ (by decide), h.2.2.2.2.2 _ (by decide), h.2.2.2.2.2 _ (by decide)⟩)
  have key : ∀ k ρ ms h' d', (∃ i : Nat, i + k = n ∧ (∀ r, r < 10 ∨ r = 22 ∨ r = 23 → ρ r = ρ0 r) ∧ ρ 10 = .int .i64 (lin i (pw n E p) (fun _ => 1)) ∧ ρ 32 = .slice (some ⟨gr, 7 + p * 6, none⟩) n 6 ∧ ρ 33 = .int .i64 n ∧ ρ 34 = .int .i64 i ∧ ms = [] ∧ h' = H ∧ d' = []) →
    LoopW M cx 6 sf48L0 ρ ms h' d' (fun ex ρ' ms' h' d' => ms' = [] ∧ h' = H ∧ d' = [] ∧ ex = .exit 2 ∧ ρ' 10 = .int .i64 (cvS n E p) ∧ ∀ r, r < 10 ∨ r = 22 ∨ r = 23 → ρ' r = ρ0 r) := by
    refine loop_run _ ?_
    rintro k ρ ms h' d' ⟨i, hk, hreg, r10, r32, r33, r34, rfl, rfl, rfl⟩
    unfold sf48L0
    by_cases c : k = 0
    · have e1 : ¬ ((i : Int) < n) := by omega
      obtain rfl : i = n := by omega
      repeat (first | apply Z1 | apply Z2 | apply Z3 | apply Z4 | apply Z5 rfl | apply Z6 | apply Z7 | apply Z8 | apply Z9 | apply ZA | apply ZB | apply ZC | ((first | apply ZD (by decide) | apply ZN (by decide)); (simp (maxSteps := 9999999) only [go_sem, r33, r34, e1]; rfl)) | (refine ZE ?_ ?_; · simp only [go_sem]) | (refine ZF ?_ ?_; · simp only [go_sem]))
      exact end_nil ⟨rfl, rfl, rfl, rfl, by simp only [go_sem, r10]; rfl, fun r hr => by simp only [upd_get]; (repeat rw [if_neg (by omega)]); exact hreg r hr⟩
    · have e1 : ((i : Int) < n) := by omega
      have hi : i < n := by omega
      have e2 : (0 : Int) ≤ i := by omega
      have ew : IntKind.i64.wrap ((i : Int) + 1) = ((i + 1 : Nat) : Int) := by rw [wrap64 (by omega) (by omega)]; rfl
      have lf := hg.far (f := p) (v := i) (by omega) (by omega)
      have fl := far_lt hc hp hi
      have wu : IntKind.u64.wrap (farE n E p i : Int) = farE n E p i := wrapU (by omega) (by omega)
      have sh := shl_1 (k := .u64) (v := farE n E p i) (by omega)
      have b1 := pw_bnd hn hc hp (i + 1) (by omega)
      have eq1 : lin i (pw n E p) (fun _ => 1) + ((2 ^ farE n E p i : Nat) : Int) = lin (i + 1) (pw n E p) (fun _ => 1) := by
        show _ = lin i _ _ + pw n E p i * 1
        unfold pw; omega
      have wl : IntKind.i64.wrap (lin i (pw n E p) (fun _ => 1) + ((2 ^ farE n E p i : Nat) : Int)) = lin (i + 1) (pw n E p) (fun _ => 1) := by rw [eq1, wrap64 (by omega) (by omega)]
      repeat (first | apply Z1 | apply Z2 | apply Z3 | apply Z4 | apply Z5 rfl | apply Z6 | apply Z7 | apply Z8 | apply Z9 | apply ZA | apply ZB | apply ZC | ((first | apply ZD (by decide) | apply ZN (by decide)); (simp (maxSteps := 9999999) only [go_sem, r10, r32, r33, r34, e1, e2, lf, wu, sh, wl, ew, Int.toNat_natCast]; rfl)) | (refine ZE ?_ ?_; · simp only [go_sem]) | (refine ZF ?_ ?_; · simp only [go_sem]))
      exact end_nil ⟨k - 1, by omega, i + 1, by omega, fun r hr => by simp only [upd_get]; (repeat rw [if_neg (by omega)]); exact hreg r hr, by simp only [go_sem], by simp only [go_sem, r32], by simp only [go_sem, r33], by simp only [go_sem, ew], rfl, rfl, rfl⟩
  exact key k ρ0 ms0 h0 d0 ⟨i, hk, fun r _ => rfl, r10, r32, r33, r34, h1, h2, h3⟩
theorem max48_loop (cx : Cx) (hn : n ≤ 6) (hc : Conn n E) (hg : GAt H gr n E) :
    ∀ k ρ ms h' d', (∃ i : Nat, i + k = n ∧ ρ 0 = .int .i64 n ∧ ρ 6 = .pointer (some ⟨gr, 0, none⟩) ∧ ρ 8 = .int .i64 (cvM n E i) ∧ ρ 22 = .int .i64 n ∧ ρ 23 = .int .i64 i ∧ ms = [] ∧ h' = H ∧ d' = []) →
    LoopW M cx 6 sf48L1 ρ ms h' d' (fun ex ρ' ms' h' d' => ms' = [] ∧ h' = H ∧ d' = [] ∧ ex = .exit 0 ∧ ρ' 8 = .int .i64 (cvM n E n)) := by
  refine loop_run _ ?_
  rintro k ρ ms h' d' ⟨i, hk, r0, r6, r8, r22, r23, rfl, rfl, rfl⟩
  unfold sf48L1
  by_cases c : k = 0
  · have e1 : ¬ ((i : Int) < n) := by omega
    obtain rfl : i = n := by omega
    repeat (first | apply Z1 | apply Z2 | apply Z3 | apply Z4 | apply Z5 rfl | apply Z6 | apply Z7 | apply Z8 | apply Z9 | apply ZA | apply ZB | apply ZC | ((first | apply ZD (by decide) | apply ZN (by decide)); (simp (maxSteps := 9999999) only [go_sem, r22, r23, e1]; rfl)) | (refine ZE ?_ ?_; · simp only [go_sem]) | (refine ZF ?_ ?_; · simp only [go_sem]))
    exact end_nil ⟨rfl, rfl, rfl, rfl, by simp only [go_sem, r8]⟩
  · have e1 : ((i : Int) < n) := by omega
    have hi : i < n := by omega
    have e2 : (0 : Int) ≤ i := by omega
    have e3 : (i : Int) < 6 := by omega
    have ew : IntKind.i64.wrap ((i : Int) + 1) = ((i + 1 : Nat) : Int) := by rw [wrap64 (by omega) (by omega)]; rfl
    have sa := sliceArr_hi (b := gr) (o := 7 + i * 6) (m := 6) (n := n) (size := 1) hn (by decide) (by decide)
    repeat (first | apply Z1 | apply Z2 | apply Z3 | apply Z4 | apply Z5 rfl | apply Z6 | apply Z7 | apply Z8 | apply Z9 | apply ZA | apply ZB | apply ZC | ((first | apply ZD (by decide) | apply ZN (by decide)); (simp (maxSteps := 9999999) only [go_sem, r0, r6, r8, r22, r23, e1, e2, e3, ↓sa, Int.toNat_natCast]; rfl)) | (refine ZE ?_ ?_; · simp only [go_sem]) | (refine ZF ?_ ?_; · simp only [go_sem]))
    refine run_loop (sum48_loop _ hn hc hg hi n _ _ _ _ ⟨0, by omega, by simp only [go_sem]; rfl, by simp only [go_sem], by simp only [go_sem], by simp only [go_sem], rfl, rfl, rfl⟩) ?_
    rintro ex ρ2 ms2 h2 d2 ⟨rfl, rfl, rfl, rfl, t10, t0, t6, t8, t22, t23⟩
    have t0' : ρ2 0 = .int .i64 n := by rw [t0]; simp only [go_sem, r0]
    have t6' : ρ2 6 = .pointer (some ⟨gr, 0, none⟩) := by rw [t6]; simp only [go_sem, r6]
    have t8' : ρ2 8 = .int .i64 (cvM n E i) := by rw [t8]; simp only [go_sem, r8]
    have t22' : ρ2 22 = .int .i64 n := by rw [t22]; simp only [go_sem, r22]
    have t23' : ρ2 23 = .int .i64 i := by rw [t23]; simp only [go_sem, r23]
    have mxv : (if cvM n E i < cvS n E i then cvS n E i else cvM n E i) = cvM n E (i + 1) := by
      show _ = max (cvM n E i) (cvS n E i)
      rw [Int.max_def]; split <;> split <;> omega
    repeat (first | apply Z1 | apply Z2 | apply Z3 | apply Z4 | apply Z5 rfl | apply Z6 | apply Z7 | apply Z8 | apply Z9 | apply ZA | apply ZB | apply ZC | ((first | apply ZD (by decide) | apply ZN (by decide)); (simp (maxSteps := 9999999) only [go_sem, t10, t0', t6', t8', t22', t23', mxv, ew]; rfl)) | (refine ZE ?_ ?_; · simp only [go_sem]) | (refine ZF ?_ ?_; · simp only [go_sem]))
    exact end_nil ⟨k - 1, by omega, i + 1, by omega, by simp only [go_sem, t0'], by simp only [go_sem, t6'], by simp only [go_sem], by simp only [go_sem, t22'], by simp only [go_sem, ew], rfl, rfl, rfl⟩
theorem cover48 {v : Value} (hv : PS H v E) (hlen : E.length ≤ 1000000) (he : errG n E = 0) : M.call 48 [.int .i64 n, v] H = some (.tuple #[.int .i64 (cvM n E n), .int .i64 0], H, []) := by
  refine call_run sf48 rfl rfl rfl ?_
  obtain ⟨m, e, h1, h2, h3, h4⟩ := errG_ok he
  obtain rfl : n = m := by omega
  have o := open68_ok hv hlen he
  obtain ⟨va, vc, rfl, _⟩ := id hv
  unfold sf48
  repeat (first | apply Z1 | apply Z2 | apply Z3 | apply Z4 | apply Z5 rfl | apply Z6 | apply Z7 | apply Z8 | apply Z9 | apply ZA | apply ZB | apply ZC | ((first | apply ZD (by decide) | apply ZN (by decide)); (simp (maxSteps := 9999999) only [go_sem, argR, o]; rfl)) | (refine ZE ?_ ?_; · simp only [go_sem]) | (refine ZF ?_ ?_; · simp only [go_sem]))
  refine run_loop (max48_loop _ h2 h4 (H := H ++ [gE n E]) (gr := H.length) (by unfold GAt; rw [app_get0]; rfl) n _ _ _ _ ⟨0, by omega, by simp only [go_sem, argR], by simp only [go_sem], by simp only [go_sem]; rfl, by simp only [go_sem], by simp only [go_sem], rfl, rfl, rfl⟩) ?_
  rintro ex ρ2 ms2 h2' d2 ⟨rfl, rfl, rfl, rfl, t8⟩
  repeat (first | apply Z1 | apply Z2 | apply Z3 | apply Z4 | apply Z5 rfl | apply Z6 | apply Z7 | apply Z8 | apply Z9 | apply ZA | apply ZB | apply ZC | ((first | apply ZD (by decide) | apply ZN (by decide)); (simp (maxSteps := 9999999) only [go_sem, t8]; rfl)) | (refine ZE ?_ ?_; · simp only [go_sem]) | (refine ZF ?_ ?_; · simp only [go_sem]))
  exact end_nil (q_free [.int .i64 (cvM n E n), .int .i64 0] (by simp only [go_sem]) rfl rfl rfl (fun _ => rfl) (by simp) rfl)
end
end
end Go.Proofs.YtpkhkghiidilcaaDoor.Sh

namespace Go.Proofs.YtpkhkghiidilcaaDoor.Sh
open Go
set_option maxRecDepth 100000
set_option maxHeartbeats 4000000
section
variable {n : Nat} {E : List (Int × Int)}
theorem cvS_pos (hc : Conn n E) {p : Nat} (hp : p < n) : 1 ≤ cvS n E p := by
  have := lin_ge (c := pw n E p) (s := fun _ => 1) (fun _ => pw_nn) (fun _ => by decide) (a := p) hp
  have e : pw n E p p = 1 := by unfold pw; rw [far_self hc hp]; rfl
  unfold cvS
  rw [e] at this
  omega
theorem sum13_loop (cx : Cx) {H : SHeap} (hn : n ≤ 6) (hc : Conn n E) {p b : Nat} (hp : p < n) (hb : H[b]? = some (.cells (iV n (farI n E p)) 3 true 0 [])) {ρ0 : Reg} :
    ∀ k ρ ms h' d', (∃ i : Nat, i + k = n ∧ (∀ r, r < 10 → ρ r = ρ0 r) ∧ ρ 3 = .int .i64 n ∧ ρ 12 = .int .i64 (lin i (pw n E p) (fun _ => 1)) ∧ ρ 10 = .slice (some ⟨b, 0, none⟩) n (UNK + 1) ∧ ρ 13 = .int .i64 i ∧ ms = [] ∧ h' = H ∧ d' = []) →
    LoopW M cx 8 sf13L0 ρ ms h' d' (fun ex ρ' ms' h' d' => ms' = [] ∧ h' = H ∧ d' = [] ∧ ex = .exit 2 ∧ ρ' 12 = .int .i64 (cvS n E p) ∧ ∀ r, r < 10 → ρ' r = ρ0 r) := by
  refine loop_run _ ?_
  rintro k ρ ms h' d' ⟨i, hk, hreg, r3, r12, r10, r13, rfl, rfl, rfl⟩
  unfold sf13L0
  by_cases c : k = 0
  · have e1 : ¬ ((i : Int) < n) := by omega
    obtain rfl : i = n := by omega
    repeat (first | apply Z1 | apply Z2 | apply Z3 | apply Z4 | apply Z5 rfl | apply Z6 | apply Z7 | apply Z8 | apply Z9 | apply ZA | apply ZB | apply ZC | ((first | apply ZD (by decide) | apply ZN (by decide)); (simp (maxSteps := 9999999) only [go_sem, r3, r13, e1]; rfl)) | (refine ZE ?_ ?_; · simp only [go_sem]) | (refine ZF ?_ ?_; · simp only [go_sem]))
    exact end_nil ⟨rfl, rfl, rfl, rfl, by simp only [go_sem, r12]; rfl, fun r hr => by simp only [upd_get]; (repeat rw [if_neg (by omega)]); exact hreg r hr⟩
  · have e1 : ((i : Int) < n) := by omega
    have hi : i < n := by omega
    have e2 : (0 : Int) ≤ i := by omega
    have ew : IntKind.i64.wrap ((i : Int) + 1) = ((i + 1 : Nat) : Int) := by rw [wrap64 (by omega) (by omega)]; rfl
    have ld : loadS h' none (.pointer (some ⟨b, i, none⟩)) = some (.int .i64 (farE n E p i : Int)) := by
      have := load_cell (o := i) hb rfl (iV_get _ hi) []
      rw [List.append_nil, farI_conn hc hp hi] at this; exact this
    have fl := far_lt hc hp hi
    have c1 : ¬ ((farE n E p i : Int) < 0) := by omega
    have c2 : ¬ ((farE n E p i : Int) ≥ n) := by omega
    have sh := shl_1 (k := .i64) (v := farE n E p i) (by omega)
    have b1 := pw_bnd hn hc hp (i + 1) (by omega)
    have eq1 : lin i (pw n E p) (fun _ => 1) + ((2 ^ farE n E p i : Nat) : Int) = lin (i + 1) (pw n E p) (fun _ => 1) := by
      show _ = lin i _ _ + pw n E p i * 1
      unfold pw; omega
    have wl : IntKind.i64.wrap (lin i (pw n E p) (fun _ => 1) + ((2 ^ farE n E p i : Nat) : Int)) = lin (i + 1) (pw n E p) (fun _ => 1) := by rw [eq1, wrap64 (by omega) (by omega)]
    repeat (first | apply Z1 | apply Z2 | apply Z3 | apply Z4 | apply Z5 rfl | apply Z6 | apply Z7 | apply Z8 | apply Z9 | apply ZA | apply ZB | apply ZC | ((first | apply ZD (by decide) | apply ZN (by decide)); (simp (maxSteps := 9999999) only [go_sem, r3, r12, r10, r13, e1, e2, ld, c1, c2, sh, wl, ew, Int.toNat_natCast]; rfl)) | (refine ZE ?_ ?_; · simp only [go_sem]) | (refine ZF ?_ ?_; · simp only [go_sem]))
    exact end_nil ⟨k - 1, by omega, i + 1, by omega, fun r hr => by simp only [upd_get]; (repeat rw [if_neg (by omega)]); exact hreg r hr, by simp only [go_sem, r3], by simp only [go_sem], by simp only [go_sem, r10], by simp only [go_sem, ew], rfl, rfl, rfl⟩
theorem best13_loop (cx : Cx) {H : SHeap} {xv : Value} {c : Int} (hn : n ≤ 6) (hc : Conn n E) (he : errG n E = 0) (hEl : E.length ≤ 1000000) (P1 : PS H xv E) :
    ∀ k ρ ms h' d', (∃ (i a : Nat), i + k = n ∧ (0 < i → a < i ∧ cvS n E a = cvM n E i) ∧ ρ 3 = .int .i64 n ∧ ρ 4 = xv ∧ ρ 5 = .int .i64 c ∧ ρ 6 = .int .i64 0 ∧ ρ 7 = .int .i64 (cvM n E i) ∧ ρ 8 = .int .i64 a ∧ ρ 9 = .int .i64 i ∧ ms = [] ∧ H.length ≤ h'.length ∧ (∀ j, j < H.length → h'[j]? = H[j]?) ∧ d' = []) →
    LoopW M cx 8 sf13L1 ρ ms h' d' (fun ex ρ' ms' h' d' => ms' = [] ∧ H.length ≤ h'.length ∧ (∀ j, j < H.length → h'[j]? = H[j]?) ∧ d' = [] ∧ ex = .exit 0 ∧ ∃ a : Nat, (0 < n → a < n ∧ cvS n E a = cvM n E n) ∧ ρ' 3 = .int .i64 n ∧ ρ' 4 = xv ∧ ρ' 5 = .int .i64 c ∧ ρ' 6 = .int .i64 0 ∧ ρ' 7 = .int .i64 (cvM n E n) ∧ ρ' 8 = .int .i64 a) := by
  refine loop_run _ ?_
  rintro k ρ ms h' d' ⟨i, a, hk, ha, r3, r4, r5, r6, r7, r8, r9, rfl, hle, fr, rfl⟩
  unfold sf13L1
  by_cases c0 : k = 0
  · have e1 : ¬ ((i : Int) < n) := by omega
    obtain rfl : i = n := by omega
    repeat (first | apply Z1 | apply Z2 | apply Z3 | apply Z4 | apply Z5 rfl | apply Z6 | apply Z7 | apply Z8 | apply Z9 | apply ZA | apply ZB | apply ZC | ((first | apply ZD (by decide) | apply ZN (by decide)); (simp (maxSteps := 9999999) only [go_sem, r3, r9, e1]; rfl)) | (refine ZE ?_ ?_; · simp only [go_sem]) | (refine ZF ?_ ?_; · simp only [go_sem]))
    exact end_nil ⟨rfl, hle, fr, rfl, rfl, a, ha, by simp only [go_sem, r3], by simp only [go_sem, r4], by simp only [go_sem, r5], by simp only [go_sem, r6], by simp only [go_sem, r7], by simp only [go_sem, r8]⟩
  · have e1 : ((i : Int) < n) := by omega
    have hi : i < n := by omega
    have ew : IntKind.i64.wrap ((i : Int) + 1) = ((i + 1 : Nat) : Int) := by rw [wrap64 (by omega) (by omega)]; rfl
    have c27 := far27 (P1.fr fr) hEl he hi
    repeat (first | apply Z1 | apply Z2 | apply Z3 | apply Z4 | apply Z5 rfl | apply Z6 | apply Z7 | apply Z8 | apply Z9 | apply ZA | apply ZB | apply ZC | ((first | apply ZD (by decide) | apply ZN (by decide)); (simp (maxSteps := 9999999) only [go_sem, r3, r4, r9, e1, c27]; rfl)) | (refine ZE ?_ ?_; · simp only [go_sem]) | (refine ZF ?_ ?_; · simp only [go_sem]))
    refine run_loop (sum13_loop _ hn hc hi (H := h' ++ [.cells (iV n (farI n E i)) 3 true 0 []]) (b := h'.length) (by rw [app_get0]; rfl) n _ _ _ _ ⟨0, by omega, fun r _ => rfl, by simp only [go_sem, r3], by simp only [go_sem]; rfl, by simp only [go_sem], by simp only [go_sem], rfl, rfl, rfl⟩) ?_
    rintro ex ρ2 ms2 h2 d2 ⟨rfl, rfl, rfl, rfl, t12, K⟩
    have t3 : ρ2 3 = .int .i64 n := (K 3 (by decide)).trans (by simp only [go_sem, r3])
    have t4 : ρ2 4 = xv := (K 4 (by decide)).trans (by simp only [go_sem, r4])
    have t5 : ρ2 5 = .int .i64 c := (K 5 (by decide)).trans (by simp only [go_sem, r5])
    have t6 : ρ2 6 = .int .i64 0 := (K 6 (by decide)).trans (by simp only [go_sem, r6])
    have t7 : ρ2 7 = .int .i64 (cvM n E i) := (K 7 (by decide)).trans (by simp only [go_sem, r7])
    have t8 : ρ2 8 = .int .i64 a := (K 8 (by decide)).trans (by simp only [go_sem, r8])
    have t9 : ρ2 9 = .int .i64 i := (K 9 (by decide)).trans (by simp only [go_sem, r9])
    have mx1 : cvM n E (i + 1) = max (cvM n E i) (cvS n E i) := rfl
    by_cases cc : cvS n E i > cvM n E i
    · repeat (first | apply Z1 | apply Z2 | apply Z3 | apply Z4 | apply Z5 rfl | apply Z6 | apply Z7 | apply Z8 | apply Z9 | apply ZA | apply ZB | apply ZC | ((first | apply ZD (by decide) | apply ZN (by decide)); (simp (maxSteps := 9999999) only [go_sem, t12, t7, t9, cc, ew]; rfl)) | (refine ZE ?_ ?_; · simp only [go_sem]) | (refine ZF ?_ ?_; · simp only [go_sem]))
      refine end_nil ⟨k - 1, by omega, i + 1, i, by omega, fun _ => ⟨by omega, by omega⟩, by simp only [go_sem, t3], by simp only [go_sem, t4], by simp only [go_sem, t5], by simp only [go_sem, t6], ?_, by simp only [go_sem, t9], by simp only [go_sem, ew], rfl, by simp; omega, fun j hj => by rw [List.getElem?_append_left (by omega)]; exact fr j hj, rfl⟩
      simp only [go_sem, t12]
      rw [mx1, Int.max_eq_right (by omega)]
    · repeat (first | apply Z1 | apply Z2 | apply Z3 | apply Z4 | apply Z5 rfl | apply Z6 | apply Z7 | apply Z8 | apply Z9 | apply ZA | apply ZB | apply ZC | ((first | apply ZD (by decide) | apply ZN (by decide)); (simp (maxSteps := 9999999) only [go_sem, t12, t7, t9, cc, ew]; rfl)) | (refine ZE ?_ ?_; · simp only [go_sem]) | (refine ZF ?_ ?_; · simp only [go_sem]))
      refine end_nil ⟨k - 1, by omega, i + 1, a, by omega, fun _ => ?_, by simp only [go_sem, t3], by simp only [go_sem, t4], by simp only [go_sem, t5], by simp only [go_sem, t6], ?_, by simp only [go_sem, t8], by simp only [go_sem, ew], rfl, by simp; omega, fun j hj => by rw [List.getElem?_append_left (by omega)]; exact fr j hj, rfl⟩
      · by_cases i0 : 0 < i
        · have := ha i0
          exact ⟨by omega, by omega⟩
        · have : i = 0 := by omega
          subst this
          have h1 := cvS_pos hc hi
          have h2 : cvM n E 0 = 0 := rfl
          omega
      · simp only [go_sem, t7]
        rw [mx1, Int.max_eq_left (by omega)]
end
theorem rep_iV (n : Nat) : repeatL [.int .i64 0] n = iV n (fun _ => 0) := by
  have : ∀ n, repeatL [.int .i64 0] n = List.replicate n (.int .i64 0) := by
    intro n
    induction n with
    | zero => rfl
    | succ n ih => show [_] ++ _ = _; rw [ih]; rfl
  rw [this]
  unfold iV
  apply List.ext_getElem?
  intro i
  by_cases c : i < n
  · simp [c]
  · rw [List.getElem?_eq_none (by simp; omega), List.getElem?_eq_none (by simp; omega)]
theorem law13M {H : SHeap} {N : Int} {ev : Value} {X : List (Int × Int)} (hv : PS H ev X) (hX : X.length ≤ 9223372036854775807) :
    M.call 13 [.agg #[.int .i64 N, ev]] H = some (.bool true, H, []) := by
  refine call_run sf13 rfl rfl rfl ?_
  obtain ⟨n, f, E, xv, H1, T, _, hn1, hn5, hE, hC, he, hEl, P1, ⟨xa, xc, exv⟩, G1, F1, c15⟩ := tameS (N := N) hv hX (most := 5) (by decide) (by decide) false [.cells [.int .i64 N, ev] 24 false 0 []]
  have hn : n ≤ 6 := by omega
  have hEl' : E.length ≤ 1000000 := by omega
  rw [List.length_append, List.length_singleton] at F1 G1
  have G1' : ∀ j, j < H.length → H1[j]? = H[j]? := fun j hj => by rw [G1 j (by omega), List.getElem?_append_left hj]
  have lx : loadS (H ++ [.cells [.int .i64 N, ev] 24 false 0 []]) (some 2) (.pointer (some ⟨H.length, 0, none⟩)) = some (.agg #[.int .i64 N, ev]) := by rw [load_appN0]; rfl
  have c48 := cover48 P1 hEl' he
  rw [show ((5 : Nat) : Int) = 5 from rfl] at c15
  obtain ⟨va, vc, rfl, _⟩ := id hv
  unfold sf13
  repeat (first | apply Z1 | apply Z2 | apply Z3 | apply Z4 | apply Z5 rfl | apply Z6 | apply Z7 | apply Z8 | apply Z9 | apply ZA | apply ZB | apply ZC | ((first | apply ZD (by decide) | apply ZN (by decide)); (simp (maxSteps := 9999999) only [go_sem, argR, lx, c15, c48]; rfl)) | (refine ZE ?_ ?_; · simp only [go_sem]) | (refine ZF ?_ ?_; · simp only [go_sem]))
  refine run_loop (best13_loop (c := cvM n E n) _ hn hC he hEl' P1 n _ _ _ _ ⟨0, 0, by omega, fun h => by omega, by simp only [go_sem], by simp only [go_sem], by simp only [go_sem], by simp only [go_sem], by simp only [go_sem]; rfl, by simp only [go_sem] <;> rfl, by simp only [go_sem] <;> rfl, rfl, Nat.le_refl _, fun j _ => rfl, rfl⟩) ?_
  rintro ex ρ2 ms2 h2 d2 ⟨rfl, hle, fr, rfl, rfl, a, ha, t3, t4, t5, t6, t7, t8⟩
  obtain ⟨ha1, ha2⟩ := ha (by omega)
  have h31 := cvS_31 hn5 hC ha1
  have h1p := cvS_pos hC ha1
  rw [ha2] at h31 h1p
  generalize hcM : cvM n E n = c at *
  have P2 := P1.fr fr
  have P3 := P2.app [.cells (iV n (farS a c)) 3 true 0 []]
  have P4 := P2.app [.cells (iV n (farS a (c - 1))) 3 true 0 []]
  have I3 : IS (h2 ++ [.cells (iV n (farS a c)) 3 true 0 []]) (.slice (some ⟨h2.length, 0, none⟩) n n) (lst n (farS a c)) := IS.lstAt (by rw [app_get0]; rfl) rfl
  have I4 : IS (h2 ++ [.cells (iV n (farS a (c - 1))) 3 true 0 []]) (.slice (some ⟨h2.length, 0, none⟩) n n) (lst n (farS a (c - 1))) := IS.lstAt (by rw [app_get0]; rfl) rfl
  have S3 : ST n (farS a c) 40 := (farS_st (by omega) ha1 (by omega)).mono (by omega)
  have S4 : ST n (farS a (c - 1)) 40 := (farS_st (by omega) ha1 (by omega)).mono (by omega)
  obtain ⟨b3, q3, c42⟩ := covers42 P3 hEl' he I3 (by rw [lst_len]; omega) (S3.sup hn)
  obtain ⟨b4, q4, c42'⟩ := covers42 P4 hEl' he I4 (by rw [lst_len]; omega) (S4.sup hn)
  rw [stk_lst S3] at q3
  rw [stk_lst S4] at q4
  have hb3 : b3 = true := q3.2 (cov_yes hE hC ha1 S3.nn (by unfold farS; rw [if_pos rfl]; omega))
  have hb4 : b4 = false := by
    cases b4 with
    | false => rfl
    | true => exact (cov_no hC ha1 (x := c - 1) (by omega) (q4.1 rfl)).elim
  subst hb3 hb4
  have z0 : (0 : Int) ≤ n := by omega
  have z1 : (n : Int) ≤ 1073741824 := by omega
  have z2 : Nat.ble (n * 8) 140737488355328 = true := by rw [ble_dec]; exact decide_eq_true (by omega)
  have rp := rep_iV n
  have sc0 := iV_sc n (fun _ => 0)
  have a0 : (0 : Int) ≤ a := by omega
  have a1 : (a : Int) < n := by omega
  have upf : ∀ x y : Int, up (farS a x) a y = farS a y := fun x y => by funext w; unfold up farS; split <;> rfl
  have st1 : ∀ base, storeS base (h2 ++ [.cells (iV n (fun _ => 0)) 3 true 0 []]) [] h2.length a (cellsL (.int .i64 c)) = some (h2 ++ [.cells (iV n (farS a c)) 3 true 0 []], []) := fun base => by
    have := store_cell (h := h2 ++ [.cells (iV n (fun _ => 0)) 3 true 0 []]) (base := base) (b := h2.length) (o := a) (c := .int .i64 c) (cs := iV n (fun _ => 0)) (el := 3) (pf := true) (by rw [app_get0]; rfl) (by rw [iV_len]; exact ha1) rfl (fun _ => rfl) []
    rw [iV_set _ ha1] at this
    rw [cells_int, this, List.set_append_right _ _ (Nat.le_refl _), Nat.sub_self]; rfl
  have st2 : ∀ base, storeS base (h2 ++ [.cells (iV n (farS a c)) 3 true 0 []]) [] h2.length a (cellsL (.int .i64 (c - 1))) = some (h2 ++ [.cells (iV n (farS a (c - 1))) 3 true 0 []], []) := fun base => by
    have := store_cell (h := h2 ++ [.cells (iV n (farS a c)) 3 true 0 []]) (base := base) (b := h2.length) (o := a) (c := .int .i64 (c - 1)) (cs := iV n (farS a c)) (el := 3) (pf := true) (by rw [app_get0]; rfl) (by rw [iV_len]; exact ha1) rfl (fun _ => rfl) []
    rw [iV_set _ ha1, upf] at this
    rw [cells_int, this, List.set_append_right _ _ (Nat.le_refl _), Nat.sub_self]; rfl
  have wc : IntKind.i64.wrap (c - 1) = c - 1 := wrap64 (by omega) (by omega)
  have aw := awake_call (h2 ++ [.cells (iV n (farS a (c - 1))) 3 true 0 []])
  repeat (first | apply Z1 | apply Z2 | apply Z3 | apply Z4 | apply Z5 rfl | apply Z6 | apply Z7 | apply Z8 | apply Z9 | apply ZA | apply ZB | apply ZC | ((first | apply ZD (by decide) | apply ZN (by decide)); (simp (maxSteps := 9999999) only [go_sem, t3, t4, t5, t6, t7, t8, z0, z1, z2, rp, sc0, a0, a1, ↓st1, c42, wc, ↓st2, c42', aw, Int.toNat_natCast]; rfl)) | (refine ZE ?_ ?_; · simp only [go_sem]) | (refine ZF ?_ ?_; · simp only [go_sem]))
  exact end_nil (q_ret1 _ (by simp only [go_sem]) rfl (take_of_same (by simp; omega) (fun j hj => by rw [List.getElem?_append_left (by omega), fr j (by omega)]; exact G1' j hj)))
end Go.Proofs.YtpkhkghiidilcaaDoor.Sh

namespace Go.Proofs.YtpkhkghiidilcaaDoor
open Go Go.RowKit Sh
set_option maxRecDepth 100000
theorem supplySjostrand.walk {a1 : Option Addr} {n1 c1 : Nat} {X1 : List (Int × Int)} {N0 : Int} (W : World) (hg : GlobW Tryd.prog W) (h1 : IsPrs W a1 n1 c1 X1) :
    Calls Tryd.prog 13 #[.agg #[.int .i64 N0, .slice a1 n1 c1]] W (fun e W' => e = .returned (.bool true) ∧ Below W.heap.size W W') := by
  obtain ⟨x1, b1, r1, k1⟩ := prs_arg h1
  obtain ⟨u1, v1, p1⟩ := k1 [] []
  simp only [List.nil_append, List.append_nil, List.append_assoc] at v1 p1
  exact walk_rel mixed tab (flatK_ok CA_ok) (Rel.ro hg r1) (LR.cons (VR.agg2 (.int _ _) v1) (LR.nil _)) (law13M p1.ps x1) rfl
end Go.Proofs.YtpkhkghiidilcaaDoor

