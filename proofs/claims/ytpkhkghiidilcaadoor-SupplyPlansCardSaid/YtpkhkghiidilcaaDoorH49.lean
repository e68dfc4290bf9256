/- Arguments of the laws: graphs. -/
import Derived.Test.YtpkhkghiidilcaaDoorH45
import Derived.Test.YtpkhkghiidilcaaDoorH48
import Derived.WideShapes
import Derived.Test.YtpkhkghiidilcaaDoorH46
import Derived.ChangeArms
import Derived.Test.YtpkhkghiidilcaaDoorH47
set_option linter.all false
namespace Go.Proofs.YtpkhkghiidilcaaDoor.Sh
section
open Go Go.RowKit Go.WideShapes Go.ChangeShapes
set_option maxRecDepth 100000
theorem u24 : ∃ f0 f1 : Field, Tryd.prog.underlying 24 = some (.struct #[f0, f1]) ∧ f0.type = 3 ∧ f0.offset = 0 ∧ f1.type = 22 ∧ f1.offset = 1 := st2_ok (by kernel_rfl)
theorem ct24 : Tryd.prog.cellTypes Tryd.prog.depth 24 = some [3, 22] := by kernel_rfl
theorem cells24 : Tryd.prog.cellsOf 24 = 2 := by kernel_rfl
theorem cells22 : Tryd.prog.cellsOf 22 = 1 := by kernel_rfl
theorem cells45 : Tryd.prog.cellsOf 45 = 2 := by kernel_rfl
theorem u22 : Tryd.prog.underlying 22 = some (.slice 45) := by kernel_rfl
theorem u45 : Tryd.prog.underlying 45 = some (.array 2 3) := by kernel_rfl
theorem u25 : Tryd.prog.underlying 25 = some (.slice 3) := by kernel_rfl
theorem open_graph {H : Type} {enc : TypeId × Value → H} {W : World} {base b0 : Nat} {spare : Nat → Bool} {held : Bool} {v : Value} {d : DataW H} {ps : List MemPlace}
  (hval : Value.okWide Tryd.prog W .any b0 24 v) (h : DataW.Trod enc Tryd.prog W base spare held 24 v d ps) : ∃ N a len cap X, v = .agg #[.int .i64 N, .slice a len cap] ∧ IsPrs W a len cap X := by
 obtain ⟨f0, f1, hu, t0, o0, t1, o1⟩ := u24
 simp only [Value.okWide, hu] at hval
 obtain ⟨cs, rfl, hsz, ts, hts, _, hrow⟩ := hval
 rw [ct24] at hts
 cases hts
 obtain ⟨fuel, hf⟩ := h
 have hf' : DataW.trod enc Tryd.prog W base spare held fuel 24 cs.toList = some (d, ps) := hf
 obtain ⟨y0, y1, n, hx, hl, h0, h1⟩ := trod_struct2 hu hf'
 rw [cells24] at hl
 rw [t0, o0, cells3] at h0
 rw [t1, o1, cells22] at h1
 match hcs : cs.toList, hl with
 | [c0, c1], _ =>
  rw [hcs] at h0 h1
  simp only [List.drop_zero, List.drop_succ_cons, List.take_succ_cons, List.take_zero] at h0 h1
  obtain ⟨n0, e0, _, _⟩ := DataW.trod_int u3 h0
  simp only [List.cons.injEq, and_true] at e0
  have e2 : cs = #[c0, c1] := Array.ext' hcs
  obtain ⟨u, hu1, hok⟩ := hrow 1 c1 (by rw [e2]; rfl)
  cases hu1
  have hv1 : Value.okWide Tryd.prog W .any b0 22 c1 := by simp only [Value.okWide, u22]; exact hok
  obtain ⟨a, len, cap, rfl⟩ := okWide_slice u22 hv1
  obtain ⟨X, hX⟩ := isPrs_of u22 u45 u3 cells45 cells3 hv1 (⟨n, h1⟩ : DataW.Trod enc Tryd.prog W base spare held 22 (.slice a len cap) y1.1 y1.2)
  exact ⟨n0, a, len, cap, X, by rw [e2, e0], hX⟩
end
end Go.Proofs.YtpkhkghiidilcaaDoor.Sh
namespace Go.Proofs.YtpkhkghiidilcaaDoor.Sh
section
open Go
set_option maxRecDepth 100000
set_option maxHeartbeats 4000000
end
end Go.Proofs.YtpkhkghiidilcaaDoor.Sh
namespace Go.Proofs.YtpkhkghiidilcaaDoor.Sh
section
open Go
set_option maxRecDepth 100000
set_option maxHeartbeats 4000000
section
variable {H : SHeap} {v sv wv : Value} {E : List (Int × Int)} {l : List Int} {n : Int}
end
end
end Go.Proofs.YtpkhkghiidilcaaDoor.Sh
namespace Go.Proofs.YtpkhkghiidilcaaDoor.Sh
section
open Go
set_option maxRecDepth 100000
set_option maxHeartbeats 4000000
end
end Go.Proofs.YtpkhkghiidilcaaDoor.Sh
namespace Go.Proofs.YtpkhkghiidilcaaDoor.Sh
section
open Go Go.RowKit Go.WideShapes Go.ChangeShapes
set_option maxRecDepth 100000
def st3 (d : Option TypeDesc) (t0 o0 t1 o1 t2 o2 : Nat) : Bool := match d with
 | some (.struct fs) => match fs.toList with
  | [f0, f1, f2] => Nat.beq f0.type t0 && Nat.beq f0.offset o0 && Nat.beq f1.type t1 && Nat.beq f1.offset o1 && Nat.beq f2.type t2 && Nat.beq f2.offset o2
  | _ => false
 | _ => false
theorem st3_ok {d : Option TypeDesc} {t0 o0 t1 o1 t2 o2 : Nat} (h : st3 d t0 o0 t1 o1 t2 o2 = true) : ∃ f0 f1 f2 : Field, d = some (.struct #[f0, f1, f2]) ∧ f0.type = t0 ∧ f0.offset = o0 ∧ f1.type = t1 ∧ f1.offset = o1 ∧ f2.type = t2 ∧ f2.offset = o2 := by
 unfold st3 at h
 split at h
 ·rename_i fs
  split at h
  ·rename_i f0 f1 f2 e
   have e2 : fs = #[f0, f1, f2] := Array.ext' e
   simp only [Bool.and_eq_true] at h
   have q := @Nat.eq_of_beq_eq_true
   exact ⟨f0, f1, f2, by rw [e2], q h.1.1.1.1.1, q h.1.1.1.1.2, q h.1.1.1.2, q h.1.1.2, q h.1.2, q h.2⟩
  ·cases h
 ·cases h
theorem u52 : ∃ f0 f1 f2 : Field, Tryd.prog.underlying 52 = some (.struct #[f0, f1, f2]) ∧ f0.type = 25 ∧ f0.offset = 0 ∧ f1.type = 3 ∧ f1.offset = 1 ∧ f2.type = 22 ∧ f2.offset = 2 := st3_ok (by kernel_rfl)
theorem ct52 : Tryd.prog.cellTypes Tryd.prog.depth 52 = some [25, 3, 22] := by kernel_rfl
theorem cells52 : Tryd.prog.cellsOf 52 = 3 := by kernel_rfl
theorem cells25 : Tryd.prog.cellsOf 25 = 1 := by kernel_rfl
theorem trod_st3 {H : Type} {enc : TypeId × Value → H} {P : Program} {w : World} {base : Nat} {spare : Nat → Bool} {held : Bool} {t : TypeId} {f0 f1 f2 : Field} {fuel : Nat} {cs : List Value} {x : DataW H × List MemPlace} (ht : P.underlying t = some (.struct #[f0, f1, f2])) (h : DataW.trod enc P w base spare held fuel t cs = some x) :
  ∃ y0 y1 y2 n, cs.length = P.cellsOf t ∧ DataW.trod enc P w base spare held n f0.type ((cs.drop f0.offset).take (P.cellsOf f0.type)) = some y0 ∧
   DataW.trod enc P w base spare held n f1.type ((cs.drop f1.offset).take (P.cellsOf f1.type)) = some y1 ∧ DataW.trod enc P w base spare held n f2.type ((cs.drop f2.offset).take (P.cellsOf f2.type)) = some y2 := by
 obtain ⟨xs, n, _, rfl, hl, hlen, hf⟩ := DataW.trod_struct ht h
 match xs, hlen with
 | [y0, y1, y2], _ => exact ⟨y0, y1, y2, n, hl, by simpa using hf 0 f0 rfl, by simpa using hf 1 f1 rfl, by simpa using hf 2 f2 rfl⟩
theorem open_load {H : Type} {enc : TypeId × Value → H} {W : World} {base b0 : Nat} {spare : Nat → Bool} {held : Bool} {v : Value} {d : DataW H} {ps : List MemPlace}
  (hval : Value.okWide Tryd.prog W .any b0 52 v) (h : DataW.Trod enc Tryd.prog W base spare held 52 v d ps) : ∃ a1 len1 cap1 l G a2 len2 cap2 X, v = .agg #[.slice a1 len1 cap1, .int .i64 G, .slice a2 len2 cap2] ∧ IsIntsW W a1 len1 cap1 l ∧ IsPrs W a2 len2 cap2 X := by
 obtain ⟨f0, f1, f2, hu, t0, o0, t1, o1, t2, o2⟩ := u52
 simp only [Value.okWide, hu] at hval
 obtain ⟨cs, rfl, hsz, ts, hts, _, hrow⟩ := hval
 rw [ct52] at hts
 cases hts
 obtain ⟨fuel, hf⟩ := h
 have hf' : DataW.trod enc Tryd.prog W base spare held fuel 52 cs.toList = some (d, ps) := hf
 obtain ⟨y0, y1, y2, n, hl, h0, h1, h2⟩ := trod_st3 hu hf'
 rw [cells52] at hl
 rw [t0, o0, cells25] at h0
 rw [t1, o1, cells3] at h1
 rw [t2, o2, cells22] at h2
 match hcs : cs.toList, hl with
 | [c0, c1, c2], _ =>
  rw [hcs] at h0 h1 h2
  simp only [List.drop_zero, List.drop_succ_cons, List.take_succ_cons, List.take_zero] at h0 h1 h2
  obtain ⟨n1, e1, _, _⟩ := DataW.trod_int u3 h1
  simp only [List.cons.injEq, and_true] at e1
  have e2 : cs = #[c0, c1, c2] := Array.ext' hcs
  obtain ⟨u, hu0, hok0⟩ := hrow 0 c0 (by rw [e2]; rfl)
  cases hu0
  obtain ⟨u, hu2, hok2⟩ := hrow 2 c2 (by rw [e2]; rfl)
  cases hu2
  have hv0 : Value.okWide Tryd.prog W .any b0 25 c0 := by simp only [Value.okWide, u25]; exact hok0
  have hv2 : Value.okWide Tryd.prog W .any b0 22 c2 := by simp only [Value.okWide, u22]; exact hok2
  obtain ⟨a1, len1, cap1, rfl⟩ := okWide_slice u25 hv0
  obtain ⟨a2, len2, cap2, rfl⟩ := okWide_slice u22 hv2
  obtain ⟨l, hl1⟩ := isInts_of u25 u3 cells3 hv0 (⟨n, h0⟩ : DataW.Trod enc Tryd.prog W base spare held 25 (.slice a1 len1 cap1) y0.1 y0.2)
  obtain ⟨X, hX⟩ := isPrs_of u22 u45 u3 cells45 cells3 hv2 (⟨n, h2⟩ : DataW.Trod enc Tryd.prog W base spare held 22 (.slice a2 len2 cap2) y2.1 y2.2)
  exact ⟨a1, len1, cap1, l, n1, a2, len2, cap2, X, by rw [e2, e1], hl1, hX⟩
end
end Go.Proofs.YtpkhkghiidilcaaDoor.Sh
namespace Go.Proofs.YtpkhkghiidilcaaDoor.Sh
section
open Go
set_option maxRecDepth 100000
set_option maxHeartbeats 4000000
section
variable {H : SHeap} {N : Int} {ev lv : Value} {X : List (Int × Int)} {l : List Int}
theorem tameS (hv : PS H ev X) (hX : X.length ≤ 9223372036854775807) {most : Nat} (hm1 : 1 ≤ most) (hm : most ≤ 6) (tr : Bool) (x : SHeap) :
  ∃ (n : Nat) (f : Nat → Bool) (E : List (Int × Int)) (xv : Value) (H1 : SHeap), TM most tr n f ∧ E = castE (edg f 36) ∧ 1 ≤ n ∧ n ≤ most ∧ EOK n E ∧ Conn n E ∧ errG n E = 0 ∧ E.length ≤ 36 ∧ PS H1 xv E ∧ (∃ a c, xv = .slice a E.length c) ∧ (∀ j, j < (H ++ x).length → H1[j]? = (H ++ x)[j]?) ∧ (H ++ x).length ≤ H1.length ∧
   M.call 15 [.agg #[.int .i64 N, ev], .int .i64 most, .bool tr] (H ++ x) = some (.tuple #[.int .i64 n, xv], H1, []) := by
 obtain ⟨n, f, T, c15⟩ := tame15 (H := H ++ x) (N := N) (hv.app _) hX (most := most) hm1 hm tr
 have he := T.err hm
 obtain ⟨m, em, hn1, hn, hE, hC⟩ := errG_ok he
 obtain rfl : n = m := by omega
 have P1 := PS_res (H ++ x) (edg f 36) 45
 obtain ⟨k1, k2⟩ := resH_fr (H ++ x) (prN (edg f 36)) (edg f 36).length 45
 refine ⟨n, f, _, _, _, T, rfl, hn1, T.n2, hE, hC, he, ?_, P1, ?_, k2, k1, c15⟩
 ·rw [castE_len]; exact edg_len f 36
 ·obtain ⟨a, c, e, _⟩ := P1
  exact ⟨a, c, e⟩
theorem broughtS {H1 : SHeap} {n : Nat} (hn1 : 1 ≤ n) (hn : n ≤ 6) (hv : IS H1 lv l) (hlen : l.length ≤ 9223372036854775807) {most : Nat} (hm : most ≤ 1000) :
  ∃ s : Nat → Int, ST n s most ∧ M.call 16 [lv, .int .i64 n, .int .i64 most] H1 = some (.slice (some ⟨H1.length, 0, none⟩) n (UNK + 1), H1 ++ [.cells (iV n s) 3 true 0 []], []) ∧
   IS (H1 ++ [.cells (iV n s) 3 true 0 []]) (.slice (some ⟨H1.length, 0, none⟩) n (UNK + 1)) (lst n s) := by
 obtain ⟨s, S, c16⟩ := brought16 hn hv hlen (most := most) hm
 rw [← resV_pos H1 1 (show n ≠ 0 by omega), ← resH_pos H1 _ 3 (show n ≠ 0 by omega)] at c16
 exact ⟨s, S, c16, IS.lstAt (by rw [List.getElem?_append_right (Nat.le_refl _), Nat.sub_self]; rfl) rfl⟩
theorem lst_sum {n : Nat} {s : Nat → Int} {B : Int} (hn : n ≤ 6) (S : ST n s B) : (lst n s).sum = tot s := by
 rw [← tot_lin hn S]
 have : ∀ k, (lst k s).sum = lin k (fun _ => 1) s := by
  intro k
  induction k with
  | zero => rfl
  | succ k ih =>
   show _ = lin k _ s + 1 * s k
   rw [← ih]
   unfold lst
   rw [List.range_succ]
   simp
 exact this n
theorem memL {n : Nat} {s : Nat → Int} {B : Int} (hn : n ≤ 6) (S : ST n s B) (hB : B ≤ 1000) : ∀ x ∈ lst n s, 0 ≤ x ∧ x ≤ 1000 := fun x hx => by
 unfold lst at hx
 obtain ⟨v, _, rfl⟩ := List.mem_map.1 hx
 have := S.bnd hn v
 omega
theorem tot_nn {n : Nat} {s : Nat → Int} {B : Int} (hn : n ≤ 6) (S : ST n s B) : 0 ≤ tot s := by
 have := tot_lin hn S
 have := lin_nn (c := fun _ => 1) (fun _ => by decide) S.nn n
 omega
theorem planS {n : Nat} {E : List (Int × Int)} {g : Nat} {v sv : Value} {s : Nat → Int} (hv : PS H v E) (hlen : E.length ≤ 1000000) (he : errG n E = 0) (hs : IS H sv (lst n s)) (S : ST n s 40) (hn : n ≤ 6) (hg : g < n) :
  ∃ (ok : Bool) (P : List (Nat × Nat)) (a : Option Addr) (c : Nat) (H4 : SHeap), M.call 28 [.int .i64 n, v, sv, .int .i64 g] H = some (.tuple #[.slice a P.length c, .bool ok, .int .i64 0], H4, []) ∧ (ok = true ↔ 0 < mx n E g s) ∧ (ok = true → ∃ t, doM n E s (castE P) = (t, P.length) ∧ 0 < t g) ∧ (ok = false → P = []) ∧ P.length ≤ 40 ∧
   H.length ≤ H4.length ∧ (∀ j, j < H.length → H4[j]? = H[j]?) ∧ PS H4 (.slice a P.length c) (castE P) := by
 have h := plan28 hv hlen he hs (by rw [lst_len]; omega) (S.sup hn) hg
 rw [stk_lst S] at h
 rcases h with ⟨h1, h2⟩ | ⟨h1, P, t, h2, h3, h4, h5⟩
 ·exact ⟨false, [], none, 0, H, h2, ⟨(fun h => by cases h), fun h => by omega⟩, (fun h => by cases h), fun _ => rfl, by simp, Nat.le_refl _, fun j _ => rfl, none, 0, rfl, fun h => (h rfl).elim⟩
 ·obtain ⟨k1, k2⟩ := resH_fr H (prN P) P.length 45
  have ps := PS_res H P 45
  obtain ⟨a, c, e, k⟩ := id ps
  rw [castE_len] at e
  rw [e] at h5 ps
  exact ⟨true, P, a, c, _, h5, ⟨fun _ => h1, fun _ => rfl⟩, fun _ => ⟨t, h2, h3⟩, (fun h => by cases h), h4, k1, k2, ps⟩
end
end
end Go.Proofs.YtpkhkghiidilcaaDoor.Sh
namespace Go.Proofs.YtpkhkghiidilcaaDoor.Sh
section
open Go
set_option maxRecDepth 100000
set_option maxHeartbeats 4000000
section
variable {n : Nat} {E : List (Int × Int)}
theorem cnt_compl (f : Nat → Int) : ∀ n, cnt n f + cnt n (fun v => -1 - f v) = n
 | 0 => rfl
 | n + 1 => by
  have := cnt_compl f n
  show (cnt n f + if f n < 0 then 1 else 0) + (cnt n (fun v => -1 - f v) + if -1 - f n < 0 then 1 else 0) = n + 1
  split <;> split <;> omega
theorem cnt_pos {f : Nat → Int} : ∀ {n : Nat}, 0 < cnt n f → ∃ v, v < n ∧ f v < 0
 | 0, h => by simp [cnt] at h
 | n + 1, h => by
  have h' : 0 < cnt n f + if f n < 0 then 1 else 0 := h
  by_cases c : f n < 0
  ·exact ⟨n, by omega, c⟩
  ·rw [if_neg c] at h'
   obtain ⟨v, h1, h2⟩ := cnt_pos (f := f) (n := n) (by omega)
   exact ⟨v, by omega, h2⟩
theorem near_cnt (hc : Conn n E) {p : Nat} (hp : p < n) {v : Nat} (hv : v < n) : ∀ k, k ≤ farE n E p v + 1 → k ≤ cnt n (fun w => (farE n E p w : Int) - k) := by
 have lv : ∀ d v, v < n → farE n E p v = d → ∀ k, k ≤ d → ∃ u, u < n ∧ farE n E p u = k := by
  intro d
  induction d with
  | zero => intro v hv h k hk; exact ⟨v, hv, by omega⟩
  | succ d ih =>
   intro v hv h k hk
   by_cases e : k = d + 1
   ·exact ⟨v, hv, by omega⟩
   ·have hne : v ≠ p := fun e => by subst e; have := far_self hc hv; omega
    obtain ⟨u, hu, _, h1⟩ := far_prev hc hp hv hne
    exact ih u hu (by omega) k (by omega)
 intro k
 induction k with
 | zero => intro _; omega
 | succ k ih =>
  intro hk
  have h1 := ih (by omega)
  obtain ⟨u, hu, h2⟩ := lv _ v hv rfl k (by omega)
  have := cnt_lt (f := fun w => (farE n E p w : Int) - k) (f' := fun w => (farE n E p w : Int) - (k + 1 : Nat)) (fun w => by show (farE n E p w : Int) - (k + 1 : Nat) ≤ (farE n E p w : Int) - k; omega) (u := u) (by show 0 ≤ (farE n E p u : Int) - k; omega) (by show (farE n E p u : Int) - (k + 1 : Nat) < 0; omega) n hu
  omega
theorem far_cnt (hc : Conn n E) {p : Nat} (hp : p < n) (k : Nat) : cnt n (fun w => -1 - ((farE n E p w : Int) - k)) + k ≤ n ∨ cnt n (fun w => -1 - ((farE n E p w : Int) - k)) = 0 := by
 by_cases c : 0 < cnt n (fun w => -1 - ((farE n E p w : Int) - k))
 ·obtain ⟨v, hv, h⟩ := cnt_pos c
  have h1 := near_cnt hc hp hv k (by omega)
  have h2 := cnt_compl (fun w => (farE n E p w : Int) - k) n
  left; omega
 ·right; omega
section
variable {H : SHeap} {gr : Nat}
end
end
end
end Go.Proofs.YtpkhkghiidilcaaDoor.Sh
namespace Go.Proofs.YtpkhkghiidilcaaDoor.Sh
section
open Go
set_option maxRecDepth 100000
set_option maxHeartbeats 1000000
def tl (f : Nat → Nat) (n : Nat) : Nat → Nat
 | 0 => 0
 | k + 1 => f (n - (k + 1)) + tl f n k
def tlF (f : Nat → Nat) (n m : Nat) : Nat := tl f n (n - m)
theorem tlF_end (f : Nat → Nat) (n : Nat) : tlF f n n = 0 := by unfold tlF; rw [Nat.sub_self]; rfl
theorem tlF_step (f : Nat → Nat) {n m : Nat} (h : m < n) : tlF f n m = f m + tlF f n (m + 1) := by
 unfold tlF
 obtain ⟨k, hk⟩ : ∃ k, n - m = k + 1 := ⟨n - m - 1, by omega⟩
 have : n - (m + 1) = k := by omega
 rw [hk, this]
 show f (n - (k + 1)) + tl f n k = _
 rw [show n - (k + 1) = m by omega]
def rowF (f : Nat → Nat) (n c : Nat) : Nat → Int := fun v => if v < n then ((c / 2 ^ tlF f n (v + 1) % 2 ^ f v : Nat) : Int) else 0
def cdF (f : Nat → Nat) : Nat → (Nat → Int) → Int
 | 0, _ => 0
 | k + 1, l => cdF f k l * ((2 ^ f k : Nat) : Int) + l k
theorem pow2_pos (k : Nat) : 0 < 2 ^ k := Nat.pow_pos (by decide)
theorem rowF_bnd (f : Nat → Nat) (n c : Nat) {v : Nat} (hv : v < n) : 0 ≤ rowF f n c v ∧ rowF f n c v < ((2 ^ f v : Nat) : Int) := by
 unfold rowF
 rw [if_pos hv]
 have := Nat.mod_lt (c / 2 ^ tlF f n (v + 1)) (pow2_pos (f v))
 omega
theorem cdF_row {f : Nat → Nat} {n c : Nat} (hc : c < 2 ^ tlF f n 0) : ∀ k, k ≤ n → cdF f k (rowF f n c) = ((c / 2 ^ tlF f n k : Nat) : Int) := by
 intro k
 induction k with
 | zero => intro _; rw [Nat.div_eq_of_lt hc]; rfl
 | succ k ih =>
  intro hk
  have h1 := ih (by omega)
  show cdF f k _ * _ + rowF f n c k = _
  rw [h1]
  unfold rowF
  rw [if_pos (by omega), tlF_step f (show k < n by omega), Nat.pow_add, Nat.mul_comm (2 ^ f k), ← Nat.div_div_eq_div_mul]
  have := Nat.div_add_mod (c / 2 ^ tlF f n (k + 1)) (2 ^ f k)
  rw [Nat.mul_comm] at this
  have h2 : ((c / 2 ^ tlF f n (k + 1) / 2 ^ f k * 2 ^ f k + c / 2 ^ tlF f n (k + 1) % 2 ^ f k : Nat) : Int) = ((c / 2 ^ tlF f n (k + 1) : Nat) : Int) := by rw [this]
  rw [← h2]
  simp
theorem cdF_full {f : Nat → Nat} {n c : Nat} (hc : c < 2 ^ tlF f n 0) : cdF f n (rowF f n c) = c := by
 rw [cdF_row hc n (Nat.le_refl _), tlF_end]; simp
theorem cdF_nn {f : Nat → Nat} : ∀ {k : Nat} {l : Nat → Int}, (∀ v, v < k → 0 ≤ l v) → 0 ≤ cdF f k l
 | 0, _, _ => Int.le_refl 0
 | k + 1, l, h => by
  have h1 := cdF_nn (f := f) (k := k) (l := l) (fun v hv => h v (by omega))
  have h2 := h k (by omega)
  have := Int.mul_nonneg h1 (Int.natCast_nonneg (2 ^ f k))
  show 0 ≤ cdF f k l * _ + l k
  omega
theorem cdF_inj {f : Nat → Nat} : ∀ (k : Nat) (l m : Nat → Int), (∀ v, v < k → 0 ≤ l v ∧ l v < ((2 ^ f v : Nat) : Int)) → (∀ v, v < k → 0 ≤ m v ∧ m v < ((2 ^ f v : Nat) : Int)) → cdF f k l = cdF f k m → ∀ v, v < k → l v = m v
 | 0, _, _, _, _, _, v, hv => by omega
 | k + 1, l, m, hl, hm, h, v, hv => by
  have h' : cdF f k l * ((2 ^ f k : Nat) : Int) + l k = cdF f k m * ((2 ^ f k : Nat) : Int) + m k := h
  have h1 := hl k (by omega)
  have h2 := hm k (by omega)
  have key : cdF f k l = cdF f k m ∧ l k = m k := by
   have e1 : (cdF f k l * ((2 ^ f k : Nat) : Int) + l k) / ((2 ^ f k : Nat) : Int) = cdF f k l := by
    rw [Int.add_comm, Int.add_mul_ediv_right _ _ (by omega), Int.ediv_eq_zero_of_lt h1.1 h1.2]; omega
   have e2 : (cdF f k m * ((2 ^ f k : Nat) : Int) + m k) / ((2 ^ f k : Nat) : Int) = cdF f k m := by
    rw [Int.add_comm, Int.add_mul_ediv_right _ _ (by omega), Int.ediv_eq_zero_of_lt h2.1 h2.2]; omega
   have e3 : cdF f k l = cdF f k m := by rw [← e1, ← e2, h']
   exact ⟨e3, by rw [e3] at h'; omega⟩
  by_cases e : v = k
  ·subst e; exact key.2
  ·exact cdF_inj k l m (fun v hv => hl v (by omega)) (fun v hv => hm v (by omega)) key.1 v (by omega)
def hd (f : Nat → Nat) : Nat → Nat
 | 0 => 0
 | k + 1 => hd f k + f k
theorem hd_tl (f : Nat → Nat) {n : Nat} : ∀ k, k ≤ n → hd f k + tlF f n k = tlF f n 0
 | 0, _ => by show 0 + _ = _; omega
 | k + 1, h => by
  have := hd_tl f (n := n) k (by omega)
  rw [tlF_step f (show k < n by omega)] at this
  show hd f k + f k + _ = _
  omega
theorem cdF_lt {f : Nat → Nat} : ∀ (k : Nat) (l : Nat → Int), (∀ v, v < k → 0 ≤ l v ∧ l v < ((2 ^ f v : Nat) : Int)) → cdF f k l < ((2 ^ hd f k : Nat) : Int)
 | 0, _, _ => by show (0 : Int) < 1; decide
 | k + 1, l, hl => by
  have h1 := cdF_lt k l (fun v hv => hl v (by omega))
  have h2 := hl k (by omega)
  show cdF f k l * _ + l k < ((2 ^ (hd f k + f k) : Nat) : Int)
  rw [Nat.pow_add]
  have : cdF f k l * ((2 ^ f k : Nat) : Int) ≤ (((2 ^ hd f k : Nat) : Int) - 1) * ((2 ^ f k : Nat) : Int) := Int.mul_le_mul_of_nonneg_right (by omega) (Int.natCast_nonneg _)
  rw [Int.sub_mul, Int.one_mul] at this
  rw [Int.natCast_mul]
  omega
theorem row_code {f : Nat → Nat} {n : Nat} {l : Nat → Int} (hb : ∀ v, v < n → 0 ≤ l v ∧ l v < ((2 ^ f v : Nat) : Int)) (ho : ∀ v, n ≤ v → l v = 0) :
  ∃ c : Nat, cdF f n l = c ∧ c < 2 ^ tlF f n 0 ∧ rowF f n c = l := by
 have h0 := cdF_nn (f := f) (k := n) (l := l) (fun v hv => (hb v hv).1)
 have h1 := cdF_lt n l hb
 have h2 : hd f n = tlF f n 0 := by have := hd_tl f (n := n) n (Nat.le_refl _); rw [tlF_end] at this; omega
 rw [h2] at h1
 obtain ⟨c, hc⟩ : ∃ c : Nat, cdF f n l = c := ⟨(cdF f n l).toNat, by omega⟩
 have hlt : c < 2 ^ tlF f n 0 := by omega
 refine ⟨c, hc, hlt, funext fun v => ?_⟩
 by_cases e : v < n
 ·exact cdF_inj n _ _ (fun v hv => rowF_bnd f n c hv) hb (by rw [cdF_full hlt, hc]) v e
 ·rw [ho v (by omega)]; unfold rowF; rw [if_neg e]
section
variable {n : Nat} {E : List (Int × Int)}
theorem pow6 {d : Nat} (h : d ≤ 5) : ((2 ^ d : Nat) : Int) = 1 + (if -1 - ((d : Int) - (1 : Nat)) < 0 then 1 else 0) + 2 * (if -1 - ((d : Int) - (2 : Nat)) < 0 then 1 else 0) + 4 * (if -1 - ((d : Int) - (3 : Nat)) < 0 then 1 else 0) + 8 * (if -1 - ((d : Int) - (4 : Nat)) < 0 then 1 else 0) + 16 * (if -1 - ((d : Int) - (5 : Nat)) < 0 then 1 else 0) := by
 have : d = 0 ∨ d = 1 ∨ d = 2 ∨ d = 3 ∨ d = 4 ∨ d = 5 := by omega
 rcases this with rfl | rfl | rfl | rfl | rfl | rfl <;> decide
theorem far6 {d : Nat} (h : d ≤ 5) : d = (if -1 - ((d : Int) - (1 : Nat)) < 0 then 1 else 0) + (if -1 - ((d : Int) - (2 : Nat)) < 0 then 1 else 0) + (if -1 - ((d : Int) - (3 : Nat)) < 0 then 1 else 0) + (if -1 - ((d : Int) - (4 : Nat)) < 0 then 1 else 0) + (if -1 - ((d : Int) - (5 : Nat)) < 0 then 1 else 0) := by
 have : d = 0 ∨ d = 1 ∨ d = 2 ∨ d = 3 ∨ d = 4 ∨ d = 5 := by omega
 rcases this with rfl | rfl | rfl | rfl | rfl | rfl <;> decide
theorem cvS_63 (hn : n ≤ 6) (hc : Conn n E) {p : Nat} (hp : p < n) : cvS n E p ≤ 57 + n ∧ hd (farE n E p) n ≤ 15 := by
 have key : ∀ m, m ≤ n → lin m (pw n E p) (fun _ => 1) = m + (cnt m (fun w => -1 - ((farE n E p w : Int) - (1 : Nat))) : Nat) + 2 * (cnt m (fun w => -1 - ((farE n E p w : Int) - (2 : Nat))) : Nat) + 4 * (cnt m (fun w => -1 - ((farE n E p w : Int) - (3 : Nat))) : Nat) + 8 * (cnt m (fun w => -1 - ((farE n E p w : Int) - (4 : Nat))) : Nat) + 16 * (cnt m (fun w => -1 - ((farE n E p w : Int) - (5 : Nat))) : Nat) ∧
   hd (farE n E p) m = (cnt m (fun w => -1 - ((farE n E p w : Int) - (1 : Nat))) : Nat) + (cnt m (fun w => -1 - ((farE n E p w : Int) - (2 : Nat))) : Nat) + (cnt m (fun w => -1 - ((farE n E p w : Int) - (3 : Nat))) : Nat) + (cnt m (fun w => -1 - ((farE n E p w : Int) - (4 : Nat))) : Nat) + (cnt m (fun w => -1 - ((farE n E p w : Int) - (5 : Nat))) : Nat) := by
  intro m
  induction m with
  | zero => intro _; exact ⟨rfl, rfl⟩
  | succ m ih =>
   intro hm
   obtain ⟨ih1, ih2⟩ := ih (by omega)
   have fl := far_lt hc hp (v := m) (by omega)
   have h5 := pow6 (d := farE n E p m) (by omega)
   have h6 := far6 (d := farE n E p m) (by omega)
   have c : ∀ k : Nat, cnt (m + 1) (fun w => -1 - ((farE n E p w : Int) - k)) = cnt m (fun w => -1 - ((farE n E p w : Int) - k)) + if -1 - ((farE n E p m : Int) - k) < 0 then 1 else 0 := fun k => rfl
   rw [c 1, c 2, c 3, c 4, c 5]
   generalize cnt m (fun w => -1 - ((farE n E p w : Int) - (1 : Nat))) = a1 at *
   generalize cnt m (fun w => -1 - ((farE n E p w : Int) - (2 : Nat))) = a2 at *
   generalize cnt m (fun w => -1 - ((farE n E p w : Int) - (3 : Nat))) = a3 at *
   generalize cnt m (fun w => -1 - ((farE n E p w : Int) - (4 : Nat))) = a4 at *
   generalize cnt m (fun w => -1 - ((farE n E p w : Int) - (5 : Nat))) = a5 at *
   have q : ∀ (P : Prop) [Decidable P], (((if P then 1 else 0 : Nat) : Nat) : Int) = if P then (1 : Int) else 0 := fun P _ => by split <;> rfl
   refine ⟨?_, ?_⟩
   ·show lin m _ _ + pw n E p m * 1 = _
    rw [ih1]
    unfold pw
    rw [h5]
    simp only [Int.natCast_add, q]
    clear c ih1 ih2 h5 h6
    omega
   ·show hd _ m + farE n E p m = _
    rw [ih2]
    conv => lhs; rw [h6]
    clear c ih1 ih2 h5 h6
    omega
 obtain ⟨h, h'⟩ := key n (Nat.le_refl _)
 unfold cvS
 rw [h, h']
 have f1 := far_cnt hc hp 1
 have f2 := far_cnt hc hp 2
 have f3 := far_cnt hc hp 3
 have f4 := far_cnt hc hp 4
 have f5 := far_cnt hc hp 5
 generalize cnt n (fun w => -1 - ((farE n E p w : Int) - (1 : Nat))) = a1 at *
 generalize cnt n (fun w => -1 - ((farE n E p w : Int) - (2 : Nat))) = a2 at *
 generalize cnt n (fun w => -1 - ((farE n E p w : Int) - (3 : Nat))) = a3 at *
 generalize cnt n (fun w => -1 - ((farE n E p w : Int) - (4 : Nat))) = a4 at *
 generalize cnt n (fun w => -1 - ((farE n E p w : Int) - (5 : Nat))) = a5 at *
 omega
theorem row_tot (hn : n ≤ 6) (hc : Conn n E) {p : Nat} (hp : p < n) (c : Nat) : ST n (rowF (farE n E p) n c) 57 := by
 have nn : ∀ v, 0 ≤ rowF (farE n E p) n c v := fun v => by
  by_cases e : v < n
  ·exact (rowF_bnd _ _ _ e).1
  ·unfold rowF; rw [if_neg e]; exact Int.le_refl 0
 have out : ∀ v, n ≤ v → rowF (farE n E p) n c v = 0 := fun v hv => by unfold rowF; rw [if_neg (by omega)]
 have S : ST n (rowF (farE n E p) n c) (tot (rowF (farE n E p) n c)) := ⟨nn, out, Int.le_refl _⟩
 refine ⟨nn, out, ?_⟩
 have h1 := tot_lin hn S
 have h2 := (cvS_63 hn hc hp).1
 have key : ∀ m, m ≤ n → lin m (fun _ => 1) (rowF (farE n E p) n c) + m ≤ lin m (pw n E p) (fun _ => 1) := by
  intro m
  induction m with
  | zero => intro _; exact Int.le_refl 0
  | succ m ih =>
   intro hm
   have := ih (by omega)
   have := (rowF_bnd (farE n E p) n c (show m < n by omega)).2
   have e : pw n E p m = ((2 ^ farE n E p m : Nat) : Int) := rfl
   show lin m _ _ + 1 * _ + ((m + 1 : Nat) : Int) ≤ lin m _ _ + pw n E p m * 1
   rw [e]
   omega
 have h3 := key n (Nat.le_refl _)
 unfold cvS at h2
 omega
end
end
end Go.Proofs.YtpkhkghiidilcaaDoor.Sh
namespace Go.Proofs.YtpkhkghiidilcaaDoor.Sh
section
open Go
set_option maxRecDepth 100000
set_option maxHeartbeats 4000000
def fI (f : Nat → Nat) : Nat → Int := fun v => (f v : Int)
structure FOK (f : Nat → Nat) (n : Nat) : Prop where
 n1 : 1 ≤ n
 n6 : n ≤ 6
 le : ∀ v, v < n → f v ≤ 5
 sm : hd f n ≤ 15
theorem hd_mono (f : Nat → Nat) : ∀ {a b : Nat}, a ≤ b → hd f a ≤ hd f b
 | a, 0, h => by rw [show a = 0 by omega]; exact Nat.le_refl _
 | a, b + 1, h => by
  by_cases e : a = b + 1
  ·rw [e]; exact Nat.le_refl _
  ·have := hd_mono f (a := a) (b := b) (by omega)
   show _ ≤ hd f b + f b
   omega
def inBox (f : Nat → Nat) (n : Nat) (l : Nat → Int) : Prop := ∀ v, v < n → l v < ((2 ^ f v : Nat) : Int)
section
variable {f : Nat → Nat} {n : Nat} {H : SHeap} {fv lv : Value} {l : Nat → Int}
theorem IS.at' {v : Value} {s : Nat → Int} (hv : IS H v (lst n s)) {i : Nat} (hi : i < n) : ∃ b o c, v = .slice (some ⟨b, o, none⟩) n c ∧ loadS H none (.pointer (some ⟨b, o + i, none⟩)) = some (.int .i64 (s i)) := by
 have ll := lst_len n s
 obtain ⟨b1, o1, cp1, rfl, ld1⟩ := hv.ld (by intro e; rw [e] at ll; simp at ll; omega)
 have l1 := ld1 i (by omega)
 rw [← stk_at (by omega), lst_at _ hi] at l1
 exact ⟨b1, o1, cp1, by rw [ll], l1⟩
theorem code64_loop (cx : Cx) (F : FOK f n) (hf : IS H fv (lst n (fI f))) (hl : IS H lv (lst n l)) (hb : ∀ v, v < n → 0 ≤ l v ∧ l v ≤ 1000) :
  ∀ k ρ ms h' d', (∃ i : Nat, i + k = n ∧ (∀ v, v < i → l v < ((2 ^ f v : Nat) : Int)) ∧ ρ 0 = fv ∧ ρ 1 = lv ∧ ρ 6 = .int .i64 (cdF f i l) ∧ ρ 7 = .int .i64 i ∧ ms = [] ∧ h' = H ∧ d' = []) →
  LoopW M cx 6 sf64L0 ρ ms h' d' (fun ex ρ' ms' h' d' => ms' = [] ∧ h' = H ∧ d' = [] ∧ ((ex = .exit 0 ∧ inBox f n l ∧ ρ' 6 = .int .i64 (cdF f n l)) ∨ (ex = .ret ∧ ¬ inBox f n l ∧ ρ' 4 = .int .i64 0 ∧ ρ' 5 = .bool false))) := by
 refine loop_run _ ?_
 rintro k ρ ms h' d' ⟨i, hk, hin, r0, r1, r6, r7, rfl, rfl, rfl⟩
 have n6 := F.n6
 unfold sf64L0
 by_cases c : k = 0
 ·have e1 : ¬ ((i : Int) < n) := by omega
  obtain rfl : i = n := by omega
  have ll := lst_len i l
  obtain ⟨va, vc, rfl, _⟩ := id hl
  rw [ll] at r1
  repeat (first | apply Z1 | apply Z2 | apply Z3 | apply Z4 | apply Z5 rfl | apply Z6 | apply Z7 | apply Z8 | apply Z9 | apply ZA | apply ZB | apply ZC | ((first | apply ZD (by decide) | apply ZN (by decide)); (simp (maxSteps := 9999999) only [go_sem, r1, r7, e1]; rfl)) | (refine ZE ?_ ?_; · simp only [go_sem]) | (refine ZF ?_ ?_; · simp only [go_sem]))
  exact end_nil ⟨rfl, rfl, rfl, .inl ⟨rfl, hin, by simp only [go_sem, r6]⟩⟩
 ·have e1 : ((i : Int) < n) := by omega
  have hi : i < n := by omega
  have e2 : (0 : Int) ≤ i := by omega
  have ew : IntKind.i64.wrap ((i : Int) + 1) = ((i + 1 : Nat) : Int) := by rw [wrap64 (by omega) (by omega)]; rfl
  obtain ⟨b1, o1, cp1, rfl, l1⟩ := hf.at' hi
  obtain ⟨b2, o2, cp2, rfl, l2⟩ := hl.at' hi
  have l1' : loadS h' none (.pointer (some ⟨b1, o1 + i, none⟩)) = some (.int .i64 (f i : Int)) := l1
  have fi := F.le i hi
  have sh := shl_1 (k := .i64) (v := f i) (by omega)
  by_cases c2 : l i < ((2 ^ f i : Nat) : Int)
  ·have c2' : ¬ (l i ≥ ((2 ^ f i : Nat) : Int)) := by omega
   have hd1 := hd_mono f (show i ≤ n by omega)
   have sm := F.sm
   have c0 := cdF_nn (f := f) (k := i) (l := l) (fun v hv => (hb v (by omega)).1)
   have c1 := cdF_lt i l (fun v hv => ⟨(hb v (by omega)).1, hin v hv⟩)
   obtain ⟨m, hm⟩ : ∃ m : Nat, cdF f i l = m := ⟨(cdF f i l).toNat, by omega⟩
   have p1 : 2 ^ hd f i ≤ 2 ^ 15 := Nat.pow_le_pow_right (by decide) (by omega)
   have p2 : 2 ^ f i ≤ 2 ^ 5 := Nat.pow_le_pow_right (by decide) fi
   have p3 : m * 2 ^ f i ≤ 2 ^ 15 * 2 ^ 5 := Nat.mul_le_mul (by omega) p2
   have sh2 := shl_n (k := .i64) (a := m) (v := f i) (by omega) (by omega)
   have bi := hb i hi
   have eqc : ((m * 2 ^ f i : Nat) : Int) + l i = cdF f (i + 1) l := by
    show _ = cdF f i l * ((2 ^ f i : Nat) : Int) + l i
    rw [hm]; simp
   have wc : IntKind.i64.wrap (((m * 2 ^ f i : Nat) : Int) + l i) = cdF f (i + 1) l := by rw [← eqc]; exact wrap64 (by omega) (by omega)
   rw [hm] at r6
   repeat (first | apply Z1 | apply Z2 | apply Z3 | apply Z4 | apply Z5 rfl | apply Z6 | apply Z7 | apply Z8 | apply Z9 | apply ZA | apply ZB | apply ZC | ((first | apply ZD (by decide) | apply ZN (by decide)); (simp (maxSteps := 9999999) only [go_sem, r0, r1, r6, r7, e1, e2, l1', l2, sh, c2', sh2, wc, ew, Int.toNat_natCast]; rfl)) | (refine ZE ?_ ?_; · simp only [go_sem]) | (refine ZF ?_ ?_; · simp only [go_sem]))
   exact end_nil ⟨k - 1, by omega, i + 1, by omega, fun v hv => by
    by_cases e : v = i
    ·subst e; exact c2
    ·exact hin v (by omega), by simp only [go_sem, r0], by simp only [go_sem, r1], by simp only [go_sem], by simp only [go_sem, ew], rfl, rfl, rfl⟩
  ·have c2' : l i ≥ ((2 ^ f i : Nat) : Int) := by omega
   repeat (first | apply Z1 | apply Z2 | apply Z3 | apply Z4 | apply Z5 rfl | apply Z6 | apply Z7 | apply Z8 | apply Z9 | apply ZA | apply ZB | apply ZC | ((first | apply ZD (by decide) | apply ZN (by decide)); (simp (maxSteps := 9999999) only [go_sem, r0, r1, r6, r7, e1, e2, l1', l2, sh, c2', Int.toNat_natCast]; rfl)) | (refine ZE ?_ ?_; · simp only [go_sem]) | (refine ZF ?_ ?_; · simp only [go_sem]))
   exact end_nil ⟨rfl, rfl, rfl, .inr ⟨rfl, fun h => c2 (h i hi), by simp only [go_sem], by simp only [go_sem]⟩⟩
theorem code64 (F : FOK f n) (hf : IS H fv (lst n (fI f))) (hl : IS H lv (lst n l)) (hb : ∀ v, v < n → 0 ≤ l v ∧ l v ≤ 1000) :
  (inBox f n l → M.call 64 [fv, lv] H = some (.tuple #[.int .i64 (cdF f n l), .bool true], H, [])) ∧ (¬ inBox f n l → M.call 64 [fv, lv] H = some (.tuple #[.int .i64 0, .bool false], H, [])) := by
 have key : ∀ r, ((inBox f n l ∧ r = (Value.tuple #[.int .i64 (cdF f n l), .bool true], H, ([] : List Nat))) ∨ (¬ inBox f n l ∧ r = (Value.tuple #[.int .i64 0, .bool false], H, ([] : List Nat)))) → M.call 64 [fv, lv] H = some r := by
  intro r hr
  refine call_run sf64 rfl rfl rfl ?_
  unfold sf64
  repeat (first | apply Z1 | apply Z2 | apply Z3 | apply Z4 | apply Z5 rfl | apply Z6 | apply Z7 | apply Z8 | apply Z9 | apply ZA | apply ZB | apply ZC | ((first | apply ZD (by decide) | apply ZN (by decide)); (simp (maxSteps := 9999999) only [go_sem, argR]; rfl)) | (refine ZE ?_ ?_; · simp only [go_sem]) | (refine ZF ?_ ?_; · simp only [go_sem]))
  refine run_loop (code64_loop _ F hf hl hb n _ _ _ _ ⟨0, by omega, fun v hv => by omega, by simp only [go_sem, argR], by simp only [go_sem, argR], by simp only [go_sem] <;> rfl, by simp only [go_sem] <;> rfl, rfl, rfl, rfl⟩) ?_
  rintro ex ρ2 ms2 h2 d2 ⟨rfl, rfl, rfl, h⟩
  rcases h with ⟨rfl, h, t6⟩ | ⟨rfl, h, t4, t5⟩
  ·rcases hr with ⟨_, rfl⟩ | ⟨h', _⟩
   ·repeat (first | apply Z1 | apply Z2 | apply Z3 | apply Z4 | apply Z5 rfl | apply Z6 | apply Z7 | apply Z8 | apply Z9 | apply ZA | apply ZB | apply ZC | ((first | apply ZD (by decide) | apply ZN (by decide)); (simp (maxSteps := 9999999) only [go_sem, t6]; rfl)) | (refine ZE ?_ ?_; · simp only [go_sem]) | (refine ZF ?_ ?_; · simp only [go_sem]))
    exact end_nil (q_free [.int .i64 (cdF f n l), .bool true] (by simp only [go_sem]) rfl rfl rfl (fun _ => rfl) (take_self _) rfl)
   ·exact (h' h).elim
  ·rcases hr with ⟨h', _⟩ | ⟨_, rfl⟩
   ·exact (h h').elim
   ·repeat (first | apply Z1 | apply Z2 | apply Z3 | apply Z4 | apply Z5 rfl | apply Z6 | apply Z7 | apply Z8 | apply Z9 | apply ZA | apply ZB | apply ZC | ((first | apply ZD (by decide) | apply ZN (by decide)); (simp (maxSteps := 9999999) only [go_sem]; rfl)) | (refine ZE ?_ ?_; · simp only [go_sem]) | (refine ZF ?_ ?_; · simp only [go_sem]))
    exact end_nil (q_free [.int .i64 0, .bool false] (by simp only [go_sem, t4, t5]) rfl rfl rfl (fun _ => rfl) (take_self _) rfl)
 exact ⟨fun h => key _ (.inl ⟨h, rfl⟩), fun h => key _ (.inr ⟨h, rfl⟩)⟩
theorem bits_loop (cx : Cx) (F : FOK f n) {b c : Nat} (hb : H[b]? = some (.cells (iV n (fI f)) 3 true 0 [])) {ρ0 : Reg} :
  ∀ k ρ ms h' d', (∃ i : Nat, i + k = n ∧ (∀ r, r < 8 → ρ r = ρ0 r) ∧ ρ 0 = .int .i64 n ∧ ρ 7 = .slice (some ⟨b, 0, none⟩) n c ∧ ρ 8 = .int .i64 (hd f i : Nat) ∧ ρ 9 = .int .i64 i ∧ ms = [] ∧ h' = H ∧ d' = []) →
  LoopW M cx 8 sf32L6 ρ ms h' d' (fun ex ρ' ms' h' d' => ms' = [] ∧ h' = H ∧ d' = [] ∧ ex = .exit 0 ∧ (∀ r, r < 8 → ρ' r = ρ0 r) ∧ ρ' 8 = .int .i64 (hd f n : Nat)) := by
 refine loop_run _ ?_
 rintro k ρ ms h' d' ⟨i, hk, hreg, r0, r7, r8, r9, rfl, rfl, rfl⟩
 have n6 := F.n6
 unfold sf32L6
 by_cases c0 : k = 0
 ·have e1 : ¬ ((i : Int) < n) := by omega
  obtain rfl : i = n := by omega
  repeat (first | apply Z1 | apply Z2 | apply Z3 | apply Z4 | apply Z5 rfl | apply Z6 | apply Z7 | apply Z8 | apply Z9 | apply ZA | apply ZB | apply ZC | ((first | apply ZD (by decide) | apply ZN (by decide)); (simp (maxSteps := 9999999) only [go_sem, r0, r9, e1]; rfl)) | (refine ZE ?_ ?_; · simp only [go_sem]) | (refine ZF ?_ ?_; · simp only [go_sem]))
  exact end_nil ⟨rfl, rfl, rfl, rfl, fun r hr => by simp only [upd_get]; (repeat rw [if_neg (by omega)]); exact hreg r hr, by simp only [go_sem, r8]⟩
 ·have e1 : ((i : Int) < n) := by omega
  have hi : i < n := by omega
  have e2 : (0 : Int) ≤ i := by omega
  have ew : IntKind.i64.wrap ((i : Int) + 1) = ((i + 1 : Nat) : Int) := by rw [wrap64 (by omega) (by omega)]; rfl
  have ld : loadS h' none (.pointer (some ⟨b, i, none⟩)) = some (.int .i64 (f i : Int)) := by
   have := load_cell (o := i) hb rfl (iV_get _ hi) []
   rw [List.append_nil] at this; exact this
  have sm := F.sm
  have h1 := hd_mono f (show i + 1 ≤ n by omega)
  have h2 : hd f (i + 1) = hd f i + f i := rfl
  have wl : IntKind.i64.wrap (((hd f i : Nat) : Int) + (f i : Int)) = ((hd f (i + 1) : Nat) : Int) := by rw [wrap64 (by omega) (by omega)]; omega
  repeat (first | apply Z1 | apply Z2 | apply Z3 | apply Z4 | apply Z5 rfl | apply Z6 | apply Z7 | apply Z8 | apply Z9 | apply ZA | apply ZB | apply ZC | ((first | apply ZD (by decide) | apply ZN (by decide)); (simp (maxSteps := 9999999) only [go_sem, r0, r7, r8, r9, e1, e2, ld, wl, ew, Int.toNat_natCast]; rfl)) | (refine ZE ?_ ?_; · simp only [go_sem]) | (refine ZF ?_ ?_; · simp only [go_sem]))
  exact end_nil ⟨k - 1, by omega, i + 1, by omega, fun r hr => by simp only [upd_get]; (repeat rw [if_neg (by omega)]); exact hreg r hr, by simp only [go_sem, r0], by simp only [go_sem, r7], by simp only [go_sem], by simp only [go_sem, ew], rfl, rfl, rfl⟩
def digF (f : Nat → Nat) (n c m : Nat) : Nat → Int := fun v => if m ≤ v then rowF f n c v else 0
theorem digit_loop (cx : Cx) (F : FOK f n) {c cp fb rb : Nat} (hc : c < 2 ^ 15) (hfb : H[fb]? = some (.cells (iV n (fI f)) 3 true 0 [])) (hne : fb ≠ rb) (hlt : rb < H.length) {ρ0 : Reg} :
  ∀ m ρ ms h' d', (m ≤ n ∧ h' = H.set rb (.cells (iV n (digF f n c m)) 3 true 0 []) ∧ (∀ r, r < 13 → ρ r = ρ0 r) ∧ ρ 7 = .slice (some ⟨fb, 0, none⟩) n cp ∧ ρ 12 = .slice (some ⟨rb, 0, none⟩) n n ∧ ρ 13 = .int .i64 (c / 2 ^ tlF f n m : Nat) ∧ ρ 14 = .int .i64 ((m : Int) - 1) ∧ ms = [] ∧ d' = []) →
  LoopW M cx 8 sf32L4 ρ ms h' d' (fun ex ρ' ms' h' d' => ms' = [] ∧ h' = H.set rb (.cells (iV n (rowF f n c)) 3 true 0 []) ∧ d' = [] ∧ ex = .exit 4 ∧ (∀ r, r < 13 → ρ' r = ρ0 r)) := by
 refine loop_run _ ?_
 rintro m ρ ms h' d' ⟨hm, rfl, hreg, r7, r12, r13, r14, rfl, rfl⟩
 have n6 := F.n6
 unfold sf32L4
 by_cases c0 : m = 0
 ·have e1 : ¬ ((m : Int) - 1 ≥ 0) := by omega
  repeat (first | apply Z1 | apply Z2 | apply Z3 | apply Z4 | apply Z5 rfl | apply Z6 | apply Z7 | apply Z8 | apply Z9 | apply ZA | apply ZB | apply ZC | ((first | apply ZD (by decide) | apply ZN (by decide)); (simp (maxSteps := 9999999) only [go_sem, r14, e1]; rfl)) | (refine ZE ?_ ?_; · simp only [go_sem]) | (refine ZF ?_ ?_; · simp only [go_sem]))
  refine end_nil ⟨rfl, ?_, rfl, rfl, fun r hr => by simp only [upd_get]; (repeat rw [if_neg (by omega)]); exact hreg r hr⟩
  subst c0
  congr 2
 ·obtain ⟨v, rfl⟩ : ∃ v, m = v + 1 := ⟨m - 1, by omega⟩
  have ev : ((v + 1 : Nat) : Int) - 1 = v := by omega
  rw [ev] at r14
  have hv : v < n := by omega
  have e1 : (v : Int) ≥ 0 := by omega
  have e2 : (v : Int) < n := by omega
  have e3 : (0 : Int) ≤ v := by omega
  have ew : IntKind.i64.wrap ((v : Int) - 1) = (v : Int) - 1 := wrap64 (by omega) (by omega)
  have fv := F.le v hv
  have sh := shl_1 (k := .i64) (v := f v) (by omega)
  have hp := pow2_pos (f v)
  have hne0 : ¬ (((2 ^ f v : Nat) : Int) = 0) := by omega
  have tm : (((c / 2 ^ tlF f n (v + 1) : Nat) : Int)).tmod ((2 ^ f v : Nat) : Int) = rowF f n c v := by
   unfold rowF
   rw [if_pos hv, Int.tmod_eq_emod_of_nonneg (Int.natCast_nonneg _)]
   rfl
  have ld : ∀ g, loadS (H.set rb (.cells (iV n g) 3 true 0 [])) none (.pointer (some ⟨fb, v, none⟩)) = some (.int .i64 (f v : Int)) := fun g => by
   have := load_cell (h := H.set rb (.cells (iV n g) 3 true 0 [])) (b := fb) (o := v) (c := .int .i64 (f v : Int)) (by rw [List.getElem?_set_ne (fun e => hne e.symm)]; exact hfb) rfl (iV_get _ hv) []
   rw [List.append_nil] at this; exact this
  have st : ∀ base, storeS base (H.set rb (.cells (iV n (digF f n c (v + 1))) 3 true 0 [])) [] rb v (cellsL (.int .i64 (rowF f n c v))) = some (H.set rb (.cells (iV n (digF f n c v)) 3 true 0 []), []) := fun base => by
   have := store_cell (h := H.set rb (.cells (iV n (digF f n c (v + 1))) 3 true 0 [])) (base := base) (b := rb) (o := v) (c := .int .i64 (rowF f n c v)) (cs := iV n (digF f n c (v + 1))) (el := 3) (pf := true) (by rw [List.getElem?_set_self hlt]) (by rw [iV_len]; exact hv) rfl (fun _ => rfl) []
   rw [iV_set _ hv, List.set_set] at this
   have e : up (digF f n c (v + 1)) v (rowF f n c v) = digF f n c v := by
    funext u
    unfold up digF
    by_cases q : u = v
    ·subst q; rw [if_pos rfl, if_pos (Nat.le_refl _)]
    ·rw [if_neg q]
     by_cases q2 : v + 1 ≤ u
     ·rw [if_pos q2, if_pos (by omega)]
     ·rw [if_neg q2, if_neg (by omega)]
   rw [e] at this
   rw [cells_int, this]; rfl
  have shr := shr_n (k := .i64) (a := c / 2 ^ tlF f n (v + 1)) (v := f v) (by omega)
  have ed : c / 2 ^ tlF f n (v + 1) / 2 ^ f v = c / 2 ^ tlF f n v := by
   rw [tlF_step f hv, Nat.pow_add, Nat.div_div_eq_div_mul, Nat.mul_comm]
  rw [ed] at shr
  repeat (first | apply Z1 | apply Z2 | apply Z3 | apply Z4 | apply Z5 rfl | apply Z6 | apply Z7 | apply Z8 | apply Z9 | apply ZA | apply ZB | apply ZC | ((first | apply ZD (by decide) | apply ZN (by decide)); (simp (maxSteps := 9999999) only [go_sem, r7, r12, r13, r14, e1, e2, e3, ld, sh, hne0, tm, ↓st, shr, ew, Int.toNat_natCast]; rfl)) | (refine ZE ?_ ?_; · simp only [go_sem]) | (refine ZF ?_ ?_; · simp only [go_sem]))
  exact end_nil ⟨v, by omega, by omega, rfl, fun r hr => by simp only [upd_get]; (repeat rw [if_neg (by omega)]); exact hreg r hr, by simp only [go_sem, r7], by simp only [go_sem, r12], by simp only [go_sem], by simp only [go_sem, ew], rfl, rfl⟩
end
end
end Go.Proofs.YtpkhkghiidilcaaDoor.Sh
namespace Go.Proofs.YtpkhkghiidilcaaDoor.Sh
section
open Go
set_option maxRecDepth 100000
set_option maxHeartbeats 4000000
section
variable {n : Nat} {E : List (Int × Int)}
end
theorem rep_iV (n : Nat) : repeatL [.int .i64 0] n = iV n (fun _ => 0) := by
 have : ∀ n, repeatL [.int .i64 0] n = List.replicate n (.int .i64 0) := by
  intro n
  induction n with
  | zero => rfl
  | succ n ih => show [_] ++ _ = _; rw [ih]; rfl
 rw [this]
 unfold iV
 apply List.ext_getElem?
 intro i
 by_cases c : i < n
 ·simp [c]
 ·rw [List.getElem?_eq_none (by simp; omega), List.getElem?_eq_none (by simp; omega)]
end
end Go.Proofs.YtpkhkghiidilcaaDoor.Sh
namespace Go.Proofs.YtpkhkghiidilcaaDoor.Sh
section
open Go
set_option maxRecDepth 100000
set_option maxHeartbeats 4000000
theorem AccF.first {lo : Nat} {h : SHeap} {x : Value} {el : TypeId} {bs bytes : Nat} (hlo : lo ≤ h.length) {el2 : TypeId} {pf2 : Bool} {own2 : Nat} {old2 : List Nat}
  (hs : h[bs]? = some (.cells [x] el2 pf2 own2 old2)) (hr : readable own2 = true) (hx : oneC x = true) (hb0 : 0 < bytes) (hb : bytes ≤ 140737488355328) :
  (∀ (base : Nat) (d : List Nat), appendS base h d el false 1 bytes (.slice none 0 0) (.slice (some ⟨bs, 0, none⟩) 1 1) = some (.slice (some ⟨h.length, 0, none⟩) 1 (UNK + 1), h ++ [.cells [x] el false 0 []], d)) ∧ AccF lo (h ++ [.cells [x] el false 0 []]) (.slice (some ⟨h.length, 0, none⟩) 1 (UNK + 1)) [x] el h.length := by
 have hseen : rdN h bs 0 (1 * 1) = some [x] := by
  rw [rdN_def, hs]
  dsimp only
  rw [hr]; rfl
 have hone : [x].all oneC = true := by simp [hx]
 have e4 : Nat.ble ((0 + 1) * bytes) 140737488355328 = true := by rw [ble_dec]; simpa using hb
 have e5 : Nat.blt 0 bytes = true := by rw [blt_dec]; simpa using hb0
 refine ⟨fun base d => ?_, ⟨by simp, hone, hlo, UNK + 1, [], rfl, by simp, .inl ⟨rfl, fun y hy => by cases hy⟩⟩⟩
 unfold appendS
 simp only [lenS, seenS, hseen, e4, e5, hone]
 simp [-List.all_eq_true, hone]
structure ROW (H0 : SHeap) (f : Nat → Nat) (n c : Nat) (v : Value) (h : SHeap) : Prop where
 le : H0.length ≤ h.length
 low : ∀ j, j < H0.length → h[j]? = H0[j]?
 acc : (c = 0 ∧ v = .slice none 0 0) ∨ ∃ b cs, AccF H0.length h v cs 25 b ∧ cs.length = c ∧ ∀ j, j < c → ∃ rb, cs[j]? = some (.slice (some ⟨rb, 0, none⟩) n n) ∧ H0.length ≤ rb ∧ h[rb]? = some (.cells (iV n (rowF f n j)) 3 true 0 [])
section
variable {H0 : SHeap} {f : Nat → Nat} {n c : Nat} {v : Value} {h : SHeap}
theorem ROW.app (R : ROW H0 f n c v h) (g : SHeap) : ROW H0 f n c v (h ++ g) := by
 have hle := R.le
 refine ⟨by simp; omega, fun j hj => by rw [List.getElem?_append_left (by omega)]; exact R.low j hj, R.acc.imp id ?_⟩
 rintro ⟨b, cs, A, h1, h2⟩
 refine ⟨b, cs, A.keep (List.getElem?_append_left A.lt), h1, fun j hj => ?_⟩
 obtain ⟨rb, q1, q2, q3⟩ := h2 j hj
 exact ⟨rb, q1, q2, by rw [List.getElem?_append_left (List.getElem?_eq_some_iff.1 q3).1]; exact q3⟩
theorem ROW.shape (R : ROW H0 f n c v h) : ∃ a cc, v = .slice a c cc := by
 rcases R.acc with ⟨rfl, rfl⟩ | ⟨b, cs, A, h1, _⟩
 ·exact ⟨none, 0, rfl⟩
 ·obtain ⟨cc, old, e, _⟩ := A.shp
  exact ⟨_, cc, by rw [e, h1]⟩
theorem ROW.el (R : ROW H0 f n c v h) {j : Nat} (hj : j < c) : ∃ b cc rb, v = .slice (some ⟨b, 0, none⟩) c cc ∧ loadS h none (.pointer (some ⟨b, j, none⟩)) = some (.slice (some ⟨rb, 0, none⟩) n n) ∧ IS h (.slice (some ⟨rb, 0, none⟩) n n) (lst n (rowF f n j)) := by
 rcases R.acc with ⟨rfl, rfl⟩ | ⟨b, cs, A, h1, h2⟩
 ·omega
 ·obtain ⟨cc, old, e, k, _⟩ := A.shp
  obtain ⟨rb, q1, q2, q3⟩ := h2 j hj
  have := load_cell (o := j) k rfl q1 []
  rw [List.append_nil] at this
  exact ⟨b, cc, rb, by rw [e, h1], this, IS.lstAt q3 rfl⟩
theorem ROW.push (R : ROW H0 f n c v h) {rb : Nat} (hrb : h[rb]? = some (.cells (iV n (rowF f n c)) 3 true 0 [])) (hlo : H0.length ≤ rb) (hc : c ≤ 1000000) :
  ∃ b2 H2, (∀ (base : Nat) (d : List Nat), appendS base (h ++ [.cells [.slice (some ⟨rb, 0, none⟩) n n] 25 false 0 []]) d 25 false 1 24 v (.slice (some ⟨h.length, 0, none⟩) 1 1) = some (.slice (some ⟨b2, 0, none⟩) (c + 1) (UNK + 1), H2, d)) ∧ ROW H0 f n (c + 1) (.slice (some ⟨b2, 0, none⟩) (c + 1) (UNK + 1)) H2 := by
 have R1 := R.app [.cells [.slice (some ⟨rb, 0, none⟩) n n] 25 false 0 []]
 have ht : (h ++ [.cells [.slice (some ⟨rb, 0, none⟩) n n] 25 false 0 []] : SHeap)[h.length]? = some (.cells [.slice (some ⟨rb, 0, none⟩) n n] 25 false 0 []) := by rw [app_get0]; rfl
 have hr1 : (h ++ [.cells [.slice (some ⟨rb, 0, none⟩) n n] 25 false 0 []] : SHeap)[rb]? = some (.cells (iV n (rowF f n c)) 3 true 0 []) := by rw [List.getElem?_append_left (List.getElem?_eq_some_iff.1 hrb).1]; exact hrb
 generalize hG : (h ++ [.cells [.slice (some ⟨rb, 0, none⟩) n n] 25 false 0 []] : SHeap) = G at *
 have hle := R1.le
 rcases R1.acc with ⟨rfl, rfl⟩ | ⟨b, cs, A, h1, h2⟩
 ·obtain ⟨ap, A2⟩ := AccF.first (el := 25) (bytes := 24) hle ht rfl rfl (by decide) (by decide)
  refine ⟨_, _, ap, ⟨by simp; omega, fun j hj => by rw [List.getElem?_append_left (by omega)]; exact R1.low j hj, .inr ⟨_, _, A2, rfl, fun j hj => ?_⟩⟩⟩
  have : j = 0 := by omega
  subst this
  exact ⟨rb, rfl, hlo, by rw [List.getElem?_append_left (List.getElem?_eq_some_iff.1 hr1).1]; exact hr1⟩
 ·have hlo2 := A.low
  obtain ⟨H2, ap, A2, l2, k2⟩ := A.push (bytes := 24) ht rfl rfl (by decide) (by omega)
  rw [h1] at ap A2
  have hnb : ∀ (r : Nat) (s : Nat → Int), G[r]? = some (.cells (iV n s) 3 true 0 []) → r ≠ b := fun r s hr e => by
   obtain ⟨cc, old, _, k, _⟩ := A.shp
   rw [e, k] at hr
   injection hr with hr
   injection hr with _ _ hr
   cases hr
  refine ⟨_, _, ap, ⟨by omega, fun j hj => by rw [k2 j (by omega) (by omega)]; exact R1.low j hj, .inr ⟨_, _, A2, by simp [h1], fun j hj => ?_⟩⟩⟩
  by_cases e : j < c
  ·obtain ⟨r, q1, q2, q3⟩ := h2 j e
   exact ⟨r, by rw [List.getElem?_append_left (by omega)]; exact q1, q2, by rw [k2 r (List.getElem?_eq_some_iff.1 q3).1 (hnb r _ q3)]; exact q3⟩
  ·have : j = c := by omega
   subst this
   exact ⟨rb, by rw [List.getElem?_append_right (by omega), h1, Nat.sub_self]; rfl, hlo, by rw [k2 rb (List.getElem?_eq_some_iff.1 hr1).1 (hnb rb _ hr1)]; exact hr1⟩
theorem rows_loop (cx : Cx) (F : FOK f n) {fb cp : Nat} (hfb : H0[fb]? = some (.cells (iV n (fI f)) 3 true 0 [])) {ρ0 : Reg} :
  ∀ k ρ ms h' d', (∃ (c : Nat) (v : Value), c + k = 2 ^ hd f n ∧ ROW H0 f n c v h' ∧ (∀ r, r < 9 → ρ r = ρ0 r) ∧ ρ 0 = .int .i64 n ∧ ρ 7 = .slice (some ⟨fb, 0, none⟩) n cp ∧ ρ 8 = .int .i64 (hd f n : Nat) ∧ ρ 10 = v ∧ ρ 11 = .int .i64 c ∧ ms = [] ∧ d' = []) →
  LoopW M cx 8 sf32L5 ρ ms h' d' (fun ex ρ' ms' h' d' => ms' = [] ∧ d' = [] ∧ ex = .exit 2 ∧ (∀ r, r < 9 → ρ' r = ρ0 r) ∧ ∃ v, ROW H0 f n (2 ^ hd f n) v h' ∧ ρ' 10 = v) := by
 have n1 := F.n1
 have n6 := F.n6
 have sm := F.sm
 have p15 : 2 ^ hd f n ≤ 2 ^ 15 := Nat.pow_le_pow_right (by decide) sm
 have e15 : (2 ^ 15 : Nat) = 32768 := rfl
 have shM := shl_1 (k := .i64) (v := hd f n) (by omega)
 have z0 : (0 : Int) ≤ n := by omega
 have z1 : (n : Int) ≤ 1073741824 := by omega
 have z2 : Nat.ble (n * 8) 140737488355328 = true := by rw [ble_dec]; exact decide_eq_true (by omega)
 have rp := rep_iV n
 have sc0 := iV_sc n (fun _ => 0)
 have wn : IntKind.i64.wrap ((n : Int) - 1) = (n : Int) - 1 := wrap64 (by omega) (by omega)
 refine loop_run _ ?_
 rintro k ρ ms h' d' ⟨c, v, hk, R, hreg, r0, r7, r8, r10, r11, rfl, rfl⟩
 unfold sf32L5
 by_cases c0 : k = 0
 ·have e1 : ¬ ((c : Int) < ((2 ^ hd f n : Nat) : Int)) := by omega
  have hcM : c = 2 ^ hd f n := by omega
  repeat (first | apply Z1 | apply Z2 | apply Z3 | apply Z4 | apply Z5 rfl | apply Z6 | apply Z7 | apply Z8 | apply Z9 | apply ZA | apply ZB | apply ZC | ((first | apply ZD (by decide) | apply ZN (by decide)); (simp (maxSteps := 9999999) only [go_sem, r8, r11, shM, e1]; rfl)) | (refine ZE ?_ ?_; · simp only [go_sem]) | (refine ZF ?_ ?_; · simp only [go_sem]))
  exact end_nil ⟨rfl, rfl, rfl, fun r hr => by simp only [upd_get]; (repeat rw [if_neg (by omega)]); exact hreg r hr, v, by rw [← hcM]; exact R, by simp only [go_sem, r10]⟩
 ·have e1 : (c : Int) < ((2 ^ hd f n : Nat) : Int) := by omega
  have ew : IntKind.i64.wrap ((c : Int) + 1) = ((c + 1 : Nat) : Int) := by rw [wrap64 (by omega) (by omega)]; rfl
  have hle := R.le
  have hfl := (List.getElem?_eq_some_iff.1 hfb).1
  have hset : (h' ++ [.cells (iV n (fun _ => 0)) 3 true 0 []] : SHeap) = (h' ++ [SO.cells (iV n (fun _ => 0)) 3 true 0 []]).set h'.length (SO.cells (iV n (digF f n c n)) 3 true 0 []) := by
   rw [List.set_append_right _ _ (Nat.le_refl _), Nat.sub_self]
   show _ = h' ++ [_]
   rw [iV_congr (f := fun _ => 0) (g := digF f n c n) (fun v hv => by unfold digF; rw [if_neg (by omega)])]
  have hset2 : (h' ++ [SO.cells (iV n (fun _ => 0)) 3 true 0 []] : SHeap).set h'.length (SO.cells (iV n (rowF f n c)) 3 true 0 []) = h' ++ [SO.cells (iV n (rowF f n c)) 3 true 0 []] := by
   rw [List.set_append_right _ _ (Nat.le_refl _), Nat.sub_self]; rfl
  repeat (first | apply Z1 | apply Z2 | apply Z3 | apply Z4 | apply Z5 rfl | apply Z6 | apply Z7 | apply Z8 | apply Z9 | apply ZA | apply ZB | apply ZC | ((first | apply ZD (by decide) | apply ZN (by decide)); (simp (maxSteps := 9999999) only [go_sem, r0, r8, r11, shM, e1, z0, z1, z2, rp, sc0, wn, Int.toNat_natCast]; rfl)) | (refine ZE ?_ ?_; · simp only [go_sem]) | (refine ZF ?_ ?_; · simp only [go_sem]))
  refine run_loop (digit_loop (H := h' ++ [.cells (iV n (fun _ => 0)) 3 true 0 []]) (c := c) (cp := cp) (fb := fb) (rb := h'.length) _ F (by omega) (by rw [List.getElem?_append_left (by omega), R.low _ hfl]; exact hfb) (by omega) (by simp) n _ _ _ _ ⟨Nat.le_refl _, hset, fun r _ => rfl, by simp only [go_sem, r7], by simp only [go_sem], by simp only [go_sem, tlF_end]; simp, by simp only [go_sem], rfl, rfl⟩) ?_
  rintro ex ρ2 ms2 h2 d2 ⟨rfl, rfl, rfl, rfl, K⟩
  rw [hset2]
  have R1 := R.app [.cells (iV n (rowF f n c)) 3 true 0 []]
  obtain ⟨b2, H2, ap, R2⟩ := R1.push (rb := h'.length) (by rw [app_get0]; rfl) hle (by omega)
  have t0 : ρ2 0 = .int .i64 n := (K 0 (by decide)).trans (by simp only [go_sem, r0])
  have t7 : ρ2 7 = .slice (some ⟨fb, 0, none⟩) n cp := (K 7 (by decide)).trans (by simp only [go_sem, r7])
  have t8 : ρ2 8 = .int .i64 (hd f n : Nat) := (K 8 (by decide)).trans (by simp only [go_sem, r8])
  have t10 : ρ2 10 = v := (K 10 (by decide)).trans (by simp only [go_sem, r10])
  have t11 : ρ2 11 = .int .i64 c := (K 11 (by decide)).trans (by simp only [go_sem, r11])
  have t12 : ρ2 12 = .slice (some ⟨h'.length, 0, none⟩) n n := (K 12 (by decide)).trans (by simp only [go_sem])
  have hK : ∀ r, r < 9 → ρ2 r = ρ0 r := fun r hr => by
   rw [K r (by omega)]
   simp only [upd_get]
   (repeat rw [if_neg (by omega)])
   exact hreg r hr
  generalize (h' ++ [SO.cells (iV n (rowF f n c)) 3 true 0 []] : SHeap) = G at *
  repeat (first | apply Z1 | apply Z2 | apply Z3 | apply Z4 | apply Z5 rfl | apply Z6 | apply Z7 | apply Z8 | apply Z9 | apply ZA | apply ZB | apply ZC | ((first | apply ZD (by decide) | apply ZN (by decide)); (simp (maxSteps := 9999999) only [go_sem, t10, t11, t12, ap, ew]; rfl)) | (refine ZE ?_ ?_; · simp only [go_sem]) | (refine ZF ?_ ?_; · simp only [go_sem]))
  exact end_nil ⟨k - 1, by omega, c + 1, _, by omega, R2, fun r hr => by simp only [upd_get]; (repeat rw [if_neg (by omega)]); exact hK r hr, by simp only [go_sem, t0], by simp only [go_sem, t7], by simp only [go_sem, t8], by simp only [go_sem], by simp only [go_sem, ew], rfl, rfl⟩
end
structure BYS (H1 : SHeap) (f : Nat → Nat) (n c : Nat) (Ls : Nat → List Nat) (h : SHeap) : Prop where
 le : H1.length < h.length
 low : ∀ j, j < H1.length → h[j]? = H1[j]?
 cells : ∃ bv : Nat → Value, h[H1.length]? = some (.cells ((List.range 64).map bv) 25 false 0 []) ∧ (∀ s, s < 64 → Acc (H1.length + 1) h (bv s) ((Ls s).map nI) (Ls s).length 1 3) ∧
  ∀ s s' b m cc b' m' cc', s < 64 → s' < 64 → s ≠ s' → bv s = .slice (some ⟨b, 0, none⟩) m cc → bv s' = .slice (some ⟨b', 0, none⟩) m' cc' → b ≠ b'
 ls : ∀ s, ∀ x ∈ Ls s, x < c ∧ tot (rowF f n x) = s
 all : ∀ x, x < c → x ∈ Ls (tot (rowF f n x)).toNat
 len : ∀ s, (Ls s).length ≤ c
section
variable {H1 : SHeap} {f : Nat → Nat} {n m : Nat} {rv : Value}
theorem by_loop (cx : Cx) (hB : cx.base ≤ H1.length) (hM : m ≤ 32768) (rows : ∀ c, c < m → ∃ b cc rb, rv = .slice (some ⟨b, 0, none⟩) m cc ∧ loadS H1 none (.pointer (some ⟨b, c, none⟩)) = some (.slice (some ⟨rb, 0, none⟩) n n) ∧ IS H1 (.slice (some ⟨rb, 0, none⟩) n n) (lst n (rowF f n c)) ∧ b < H1.length)
  (hn : n ≤ 6) (hS : ∀ c, ST n (rowF f n c) 57) (hM0 : 0 < m) {ρ0 : Reg} :
  ∀ k ρ ms h' d', (∃ (c : Nat) (Ls : Nat → List Nat), c + k = m ∧ BYS H1 f n c Ls h' ∧ (∀ r, r < 15 → ρ r = ρ0 r) ∧ ρ 10 = rv ∧ ρ 15 = .slice (some ⟨H1.length, 0, none⟩) 64 64 ∧ ρ 16 = .int .i64 c ∧ ms = [] ∧ d' = []) →
  LoopW M cx 8 sf32L3 ρ ms h' d' (fun ex ρ' ms' h' d' => ms' = [] ∧ d' = [] ∧ ex = .exit 6 ∧ (∀ r, r < 15 → ρ' r = ρ0 r) ∧ (∃ Ls, BYS H1 f n m Ls h') ∧ ρ' 15 = .slice (some ⟨H1.length, 0, none⟩) 64 64) := by
 refine loop_run _ ?_
 rintro k ρ ms h' d' ⟨c, Ls, hk, B, hreg, r10, r15, r16, rfl, rfl⟩
 unfold sf32L3
 by_cases c0 : k = 0
 ·have e1 : ¬ ((c : Int) < m) := by omega
  obtain ⟨b, cc, rb, rfl, _⟩ := rows 0 hM0
  obtain rfl : c = m := by omega
  repeat (first | apply Z1 | apply Z2 | apply Z3 | apply Z4 | apply Z5 rfl | apply Z6 | apply Z7 | apply Z8 | apply Z9 | apply ZA | apply ZB | apply ZC | ((first | apply ZD (by decide) | apply ZN (by decide)); (simp (maxSteps := 9999999) only [go_sem, r10, r16, e1]; rfl)) | (refine ZE ?_ ?_; · simp only [go_sem]) | (refine ZF ?_ ?_; · simp only [go_sem]))
  exact end_nil ⟨rfl, rfl, rfl, fun r hr => by simp only [upd_get]; (repeat rw [if_neg (by omega)]); exact hreg r hr, ⟨Ls, B⟩, by simp only [go_sem, r15]⟩
 ·have e1 : (c : Int) < m := by omega
  have hc : c < m := by omega
  have e2 : (0 : Int) ≤ c := by omega
  have ew : IntKind.i64.wrap ((c : Int) + 1) = ((c + 1 : Nat) : Int) := by rw [wrap64 (by omega) (by omega)]; rfl
  obtain ⟨b, cc, rb, rfl, l1, i1, hb1⟩ := rows c hc
  have hle := B.le
  have l1' : loadS h' none (.pointer (some ⟨b, c, none⟩)) = some (.slice (some ⟨rb, 0, none⟩) n n) := by rw [load_same' (B.low b hb1)]; exact l1
  have i1' := i1.fr (by omega) B.low
  have S := hS c
  have c63 := sum63 i1' (memL hn S (by decide)) (by rw [lst_len]; omega)
  rw [lst_sum hn S] at c63
  have t0 := tot_nn hn S
  have t1 := S.le
  obtain ⟨s, hs⟩ : ∃ s : Nat, tot (rowF f n c) = s := ⟨(tot (rowF f n c)).toNat, by omega⟩
  rw [hs] at c63 t0 t1
  have hs64 : s < 64 := by omega
  have z1 : (0 : Int) ≤ s := by omega
  have z2 : (s : Int) < 64 := by omega
  obtain ⟨bv, q1, q2, q3⟩ := B.cells
  have ly : loadS h' none (.pointer (some ⟨H1.length, s, none⟩)) = some (bv s) := by
   have := load_cell (o := s) q1 rfl (by simp [hs64] : ((List.range 64).map bv)[s]? = some (bv s)) []
   rw [List.append_nil] at this; exact this
  have A := q2 s hs64
  have oG : Acc (H1.length + 1) (h' ++ [.cells [.int .i64 c] 3 true 0 []]) (bv s) ((Ls s).map nI) (Ls s).length 1 3 := A.keep (fun b e => List.getElem?_append_left (A.lt e).2)
  have hlen := B.len s
  obtain ⟨old, ap, acc2, kp⟩ := acc_append (bytes := 8) (new := [.int .i64 c]) (bs := h'.length) (el2 := 3) (pf2 := true) (own2 := 0) (old2 := []) oG (by rw [app_get0]; rfl) rfl rfl (by decide) rfl (by decide) (by omega) (by simp; omega)
  have hlG : (h' ++ [SO.cells [.int .i64 c] 3 true 0 []]).length = h'.length + 1 := by simp
  rw [hlG] at ap acc2 kp
  have hlen2 : (shv (h' ++ [.cells [.int .i64 c] 3 true 0 []]) (bv s) ++ [SO.cells ((Ls s).map nI ++ [.int .i64 c]) 3 true 0 old]).length = h'.length + 2 := by simp [shv_len]
  have key : ∀ j, j < h'.length → (∀ b, bv s = .slice (some ⟨b, 0, none⟩) (Ls s).length (UNK + 1) → j ≠ b) → (shv (h' ++ [.cells [.int .i64 c] 3 true 0 []]) (bv s) ++ [SO.cells ((Ls s).map nI ++ [.int .i64 c]) 3 true 0 old])[j]? = h'[j]? := fun j hj hne => by
   rw [kp j (by omega) hne, List.getElem?_append_left hj]
  generalize (shv (h' ++ [.cells [.int .i64 c] 3 true 0 []]) (bv s) ++ [SO.cells ((Ls s).map nI ++ [.int .i64 c]) 3 true 0 old]) = G at *
  have kl : ∀ j, j ≤ H1.length → G[j]? = h'[j]? := fun j hj => key j (by omega) (fun b e => by have := (A.lt e).1; omega)
  have gy : G[H1.length]? = some (.cells ((List.range 64).map bv) 25 false 0 []) := by rw [kl _ (Nat.le_refl _)]; exact q1
  have st : storeS cx.base G [] H1.length s (cellsL (.slice (some ⟨h'.length + 1, 0, none⟩) ((Ls s).length + 1) (UNK + 1))) = some (G.set H1.length (.cells ((List.range 64).map (up bv s (.slice (some ⟨h'.length + 1, 0, none⟩) ((Ls s).length + 1) (UNK + 1)))) 25 false 0 []), []) := by
   have := store_cell (h := G) (base := cx.base) (b := H1.length) (o := s) (c := .slice (some ⟨h'.length + 1, 0, none⟩) ((Ls s).length + 1) (UNK + 1)) gy (by simp; exact hs64) rfl (fun h => by cases h) []
   show storeS cx.base G [] H1.length s [_] = _
   rw [this, dirty_own hB]
   congr 4
   apply List.ext_getElem?
   intro i
   by_cases e : i = s
   ·subst e
    rw [List.getElem?_set_self (by simp; exact hs64)]
    simp [hs64, up]
   ·rw [List.getElem?_set_ne (by omega)]
    by_cases e2 : i < 64
    ·simp [e2, up, e]
    ·rw [List.getElem?_eq_none (by simp; omega), List.getElem?_eq_none (by simp; omega)]
  have B2 : BYS H1 f n (c + 1) (up Ls s (Ls s ++ [c])) (G.set H1.length (.cells ((List.range 64).map (up bv s (.slice (some ⟨h'.length + 1, 0, none⟩) ((Ls s).length + 1) (UNK + 1)))) 25 false 0 [])) := by
   refine ⟨by simp; omega, fun j hj => by rw [List.getElem?_set_ne (by omega), kl j (by omega)]; exact B.low j hj, ⟨_, by rw [List.getElem?_set_self (by omega)], fun s' hs' => ?_, fun s1 s2 b1 m1 cc1 b2 m2 cc2 h1 h2 hne e1 e2 => ?_⟩, fun s' x hx => ?_, fun x hx => ?_, fun s' => ?_⟩
   ·by_cases e : s' = s
    ·subst e
     have e1 : up bv s' (.slice (some ⟨h'.length + 1, 0, none⟩) ((Ls s').length + 1) (UNK + 1)) s' = .slice (some ⟨h'.length + 1, 0, none⟩) ((Ls s').length + 1) (UNK + 1) := by unfold up; rw [if_pos rfl]
     have e2 : up Ls s' (Ls s' ++ [c]) s' = Ls s' ++ [c] := by unfold up; rw [if_pos rfl]
     rw [e1, e2, List.map_append, List.length_append, List.length_singleton]
     exact acc2.keep (fun b e => by have := (acc2.lt e).1; rw [List.getElem?_set_ne (by omega)])
    ·have e1 : up bv s (.slice (some ⟨h'.length + 1, 0, none⟩) ((Ls s).length + 1) (UNK + 1)) s' = bv s' := by unfold up; rw [if_neg e]
     have e2 : up Ls s (Ls s ++ [c]) s' = Ls s' := by unfold up; rw [if_neg e]
     rw [e1, e2]
     have A' := q2 s' hs'
     exact A'.keep (fun b eb => by
      have := A'.lt eb
      rw [List.getElem?_set_ne (by omega)]
      exact key b this.2 (fun b' eb' => q3 s' s b _ _ b' _ _ hs' hs64 e eb eb'))
   ·unfold up at e1 e2
    by_cases c1 : s1 = s
    ·rw [if_pos c1] at e1
     rw [if_neg (fun h => hne (by rw [c1, h]))] at e2
     simp at e1
     rcases q2 s2 h2 with ⟨_, e3, _⟩ | ⟨b', old', e3, h3, _⟩
     ·rw [e3] at e2; simp at e2
     ·rw [e3] at e2
      simp at e2
      have := (List.getElem?_eq_some_iff.1 h3).1
      omega
    ·rw [if_neg c1] at e1
     by_cases c2 : s2 = s
     ·rw [if_pos c2] at e2
      simp at e2
      rcases q2 s1 h1 with ⟨_, e3, _⟩ | ⟨b', old', e3, h3, _⟩
      ·rw [e3] at e1; simp at e1
      ·rw [e3] at e1
       simp at e1
       have := (List.getElem?_eq_some_iff.1 h3).1
       omega
     ·rw [if_neg c2] at e2
      exact q3 s1 s2 b1 m1 cc1 b2 m2 cc2 h1 h2 hne e1 e2
   ·unfold up at hx
    by_cases e : s' = s
    ·rw [if_pos e] at hx
     rcases List.mem_append.1 hx with hx | hx
     ·have := B.ls s x hx
      rw [e]; exact ⟨by omega, this.2⟩
     ·rw [List.mem_singleton] at hx
      subst hx
      rw [e]; exact ⟨by omega, hs⟩
    ·rw [if_neg e] at hx
     have := B.ls s' x hx
     exact ⟨by omega, this.2⟩
   ·unfold up
    by_cases e : x = c
    ·subst e
     rw [if_pos (by rw [hs]; rfl)]
     simp
    ·have := B.all x (by omega)
     by_cases e2 : (tot (rowF f n x)).toNat = s
     ·rw [if_pos e2, ← e2]; simp [this]
     ·rw [if_neg e2]; exact this
   ·unfold up
    by_cases e : s' = s
    ·rw [if_pos e, List.length_append, List.length_singleton]; omega
    ·rw [if_neg e]; have := B.len s'; omega
  repeat (first | apply Z1 | apply Z2 | apply Z3 | apply Z4 | apply Z5 rfl | apply Z6 | apply Z7 | apply Z8 | apply Z9 | apply ZA | apply ZB | apply ZC | ((first | apply ZD (by decide) | apply ZN (by decide)); (simp (maxSteps := 9999999) only [go_sem, r10, r15, r16, e1, e2, l1', c63, z1, z2, ly, ap, ↓st, ew, Int.toNat_natCast]; rfl)) | (refine ZE ?_ ?_; · simp only [go_sem]) | (refine ZF ?_ ?_; · simp only [go_sem]))
  exact end_nil ⟨k - 1, by omega, c + 1, _, by omega, B2, fun r hr => by simp only [upd_get]; (repeat rw [if_neg (by omega)]); exact hreg r hr, by simp only [go_sem, r10], by simp only [go_sem, r15], by simp only [go_sem, ew], rfl, rfl⟩
end
end
end Go.Proofs.YtpkhkghiidilcaaDoor.Sh
namespace Go.Proofs.YtpkhkghiidilcaaDoor.Sh
section
open Go
set_option maxRecDepth 100000
set_option maxHeartbeats 4000000
def bL (m : Nat) (en : Nat → Bool) : List Value := (List.range m).map fun c => .bool (en c)
theorem bL_len (m : Nat) (en : Nat → Bool) : (bL m en).length = m := by simp [bL]
theorem bL_get {m c : Nat} (en : Nat → Bool) (h : c < m) : (bL m en)[c]? = some (.bool (en c)) := by simp [bL, h]
theorem bL_set {m c : Nat} (en : Nat → Bool) (h : c < m) (x : Bool) : (bL m en).set c (.bool x) = bL m (up en c x) := by
 apply List.ext_getElem?
 intro i
 by_cases e : i = c
 ·subst e
  rw [List.getElem?_set_self (by rw [bL_len]; exact h), bL_get _ h]; simp [up]
 ·rw [List.getElem?_set_ne (by omega)]
  by_cases e2 : i < m
  ·rw [bL_get _ e2, bL_get _ e2]; simp [up, e]
  ·rw [List.getElem?_eq_none (by rw [bL_len]; omega), List.getElem?_eq_none (by rw [bL_len]; omega)]
structure TE (H1 : SHeap) (m : Nat) (en : Nat → Bool) (h : SHeap) : Prop where
 le : H1.length < h.length
 low : ∀ j, j < H1.length → h[j]? = H1[j]?
 eb : h[H1.length]? = some (.cells (bL m en) 4 true 0 [])
theorem TE.app {H1 : SHeap} {m : Nat} {en : Nat → Bool} {h : SHeap} (T : TE H1 m en h) (g : SHeap) : TE H1 m en (h ++ g) := by
 have hle := T.le
 exact ⟨by simp; omega, fun j hj => by rw [List.getElem?_append_left (by omega)]; exact T.low j hj, by rw [List.getElem?_append_left hle]; exact T.eb⟩
theorem TE.put {H1 : SHeap} {m : Nat} {en : Nat → Bool} {h : SHeap} (T : TE H1 m en h) {c : Nat} (hc : c < m) (x : Bool) : (∀ base, storeS base h [] H1.length c (cellsL (.bool x)) = some (h.set H1.length (.cells (bL m (up en c x)) 4 true 0 []), [])) ∧ TE H1 m (up en c x) (h.set H1.length (.cells (bL m (up en c x)) 4 true 0 [])) := by
 refine ⟨fun base => ?_, by simp; exact T.le, fun j hj => by rw [List.getElem?_set_ne (by omega)]; exact T.low j hj, by rw [List.getElem?_set_self T.le]⟩
 have := store_cell (h := h) (base := base) (b := H1.length) (o := c) (c := .bool x) T.eb (by rw [bL_len]; exact hc) rfl (fun _ => rfl) []
 rw [bL_set _ hc] at this
 rw [cells_bool, this]; rfl
theorem TE.ld {H1 : SHeap} {m : Nat} {en : Nat → Bool} {h : SHeap} (T : TE H1 m en h) {c : Nat} (hc : c < m) : loadS h none (.pointer (some ⟨H1.length, c, none⟩)) = some (.bool (en c)) := by
 have := load_cell (o := c) T.eb rfl (bL_get en hc) []
 rw [List.append_nil] at this; exact this
noncomputable def dcB (n : Nat) (E : List (Int × Int)) (g x : Nat) : Bool := decide (0 < mx n E g (rowF (farE n E g) n x))
section
variable {n : Nat} {E : List (Int × Int)} {g : Nat}
theorem row_g (hc : Conn n E) (hg : g < n) (x : Nat) : rowF (farE n E g) n x g = 0 := by
 have := rowF_bnd (farE n E g) n x hg
 rw [far_self hc hg] at this
 have e : ((2 ^ 0 : Nat) : Int) = 1 := rfl
 omega
theorem dcB_iff (hn : n ≤ 6) (hE : EOK n E) (hc : Conn n E) (hg : g < n) (x : Nat) : dcB n E g x = true ↔ ∃ p ∈ MVL n E (rowF (farE n E g) n x), 0 < mx n E g (aft (rowF (farE n E g) n x) p.1 p.2) := by
 have S := row_tot hn hc hg x
 unfold dcB
 rw [decide_eq_true_iff]
 constructor
 ·exact fun h => mx_move hE hn S (row_g hc hg x) h
 ·rintro ⟨p, hp, h⟩
  have hcm : canM n E (rowF (farE n E g) n x) (p.1 : Int) (p.2 : Int) := MVb_mem hp
  have := mx_aft (g := g) hE hn S hcm
  omega
theorem fok (hn1 : 1 ≤ n) (hn : n ≤ 6) (hc : Conn n E) (hg : g < n) : FOK (farE n E g) n := ⟨hn1, hn, fun v hv => by have := far_lt hc hg hv; omega, (cvS_63 hn hc hg).2⟩
theorem hd_tl0 (f : Nat → Nat) (n : Nat) : hd f n = tlF f n 0 := by have := hd_tl f (n := n) n (Nat.le_refl _); rw [tlF_end] at this; omega
structure FH (H1 : SHeap) (n : Nat) (E : List (Int × Int)) (g : Nat) (ev fv rv : Value) (yb : Nat) (Ls : Nat → List Nat) : Prop where
 pe : PS H1 ev E
 pf : IS H1 fv (lst n (fI (farE n E g)))
 rows : ∀ c, c < 2 ^ hd (farE n E g) n → ∃ b cc rb, rv = .slice (some ⟨b, 0, none⟩) (2 ^ hd (farE n E g) n) cc ∧ loadS H1 none (.pointer (some ⟨b, c, none⟩)) = some (.slice (some ⟨rb, 0, none⟩) n n) ∧ IS H1 (.slice (some ⟨rb, 0, none⟩) n n) (lst n (rowF (farE n E g) n c)) ∧ b < H1.length
 yl : yb < H1.length
 bys : ∀ s, s < 64 → ∃ v, loadS H1 none (.pointer (some ⟨yb, s, none⟩)) = some v ∧ (∃ a c, v = .slice a (Ls s).length c) ∧ ∀ (j : Nat) (hj : j < (Ls s).length), ∃ bb cc, v = .slice (some ⟨bb, 0, none⟩) (Ls s).length cc ∧ bb < H1.length ∧ loadS H1 none (.pointer (some ⟨bb, j, none⟩)) = some (.int .i64 ((Ls s)[j] : Nat))
 ls : ∀ s, ∀ x ∈ Ls s, x < 2 ^ hd (farE n E g) n ∧ tot (rowF (farE n E g) n x) = s
 all : ∀ x, x < 2 ^ hd (farE n E g) n → x ∈ Ls (tot (rowF (farE n E g) n x)).toNat
 len : ∀ s, (Ls s).length ≤ 32768
section
variable {H1 : SHeap} {ev fv rv : Value} {yb : Nat} {Ls : Nat → List Nat}
theorem en_inner (cx : Cx) (hn1 : 1 ≤ n) (hn : n ≤ 6) (hE : EOK n E) (hC : Conn n E) (hEl : E.length ≤ 1000000) (hg : g < n) (F : FH H1 n E g ev fv rv yb Ls) {c : Nat} (hc : c < 2 ^ hd (farE n E g) n) {mb : Nat} (hmb : H1.length < mb) {en0 : Nat → Bool} {u : Nat → Int} (hu : rowF (farE n E g) n c = u)
  (hen : ∀ x, x < 2 ^ hd (farE n E g) n → tot (rowF (farE n E g) n x) < tot u → en0 x = dcB n E g x) {ρ0 : Reg} :
  ∀ m ρ ms h' d', (∃ (i : Nat) (b : Bool), i + m = (MVL n E u).length ∧ (b = true ↔ en0 c = true ∨ ∃ (j : Nat) (hj : j < (MVL n E u).length), j < i ∧ 0 < mx n E g (aft u (MVL n E u)[j].1 (MVL n E u)[j].2)) ∧
   TE H1 (2 ^ hd (farE n E g) n) (up en0 c b) h' ∧ (MVL n E u ≠ [] → h'[mb]? = some (.cells (prN (MVL n E u)) 45 true 0 [])) ∧ (∀ r, r < 22 → ρ r = ρ0 r) ∧
   ρ 0 = .int .i64 n ∧ ρ 1 = ev ∧ ρ 7 = fv ∧ ρ 10 = rv ∧ ρ 19 = .slice (some ⟨H1.length, 0, none⟩) (2 ^ hd (farE n E g) n) (2 ^ hd (farE n E g) n) ∧ ρ 22 = .int .i64 c ∧ ρ 23 = (if (MVL n E u).length = 0 then .slice none 0 0 else .slice (some ⟨mb, 0, none⟩) (MVL n E u).length (UNK + 2)) ∧ ρ 24 = .int .i64 i ∧ ms = [] ∧ d' = []) →
  LoopW M cx 8 sf32L0 ρ ms h' d' (fun ex ρ' ms' h' d' => ms' = [] ∧ d' = [] ∧ ex = .exit 12 ∧ (∀ r, r < 22 → ρ' r = ρ0 r) ∧ ∃ b : Bool, (b = true ↔ en0 c = true ∨ dcB n E g c = true) ∧ TE H1 (2 ^ hd (farE n E g) n) (up en0 c b) h') := by
 have FO := fok hn1 hn hC hg
 have hML := MVL_len hn E u
 have Su : ST n u 57 := by rw [← hu]; exact row_tot hn hC hg c
 have p15 : 2 ^ hd (farE n E g) n ≤ 2 ^ 15 := Nat.pow_le_pow_right (by decide) FO.sm
 have e15 : (2 ^ 15 : Nat) = 32768 := rfl
 refine loop_run _ ?_
 rintro m ρ ms h' d' ⟨i, b, hm, hb, T, hbk, hreg, r0, r1, r7, r10, r19, r22, r23, r24, rfl, rfl⟩
 unfold sf32L0
 by_cases c0 : m = 0
 ·have fin : ∃ b : Bool, (b = true ↔ en0 c = true ∨ dcB n E g c = true) ∧ TE H1 (2 ^ hd (farE n E g) n) (up en0 c b) h' := by
   refine ⟨b, ?_, T⟩
   rw [hb, dcB_iff hn hE hC hg c, hu]
   constructor
   ·rintro (h | ⟨j, hj, _, h⟩)
    ·exact .inl h
    ·exact .inr ⟨_, List.getElem_mem hj, h⟩
   ·rintro (h | ⟨p, hp, h⟩)
    ·exact .inl h
    ·obtain ⟨j, hj, rfl⟩ := List.getElem_of_mem hp
     exact .inr ⟨j, hj, by omega, h⟩
  by_cases c1 : (MVL n E u).length = 0
  ·rw [if_pos c1] at r23
   have e1 : ¬ ((i : Int) < (0 : Nat)) := by omega
   have e1' : ¬ ((i : Int) < 0) := by omega
   repeat (first | apply Z1 | apply Z2 | apply Z3 | apply Z4 | apply Z5 rfl | apply Z6 | apply Z7 | apply Z8 | apply Z9 | apply ZA | apply ZB | apply ZC | ((first | apply ZD (by decide) | apply ZN (by decide)); (simp (maxSteps := 9999999) only [go_sem, r23, r24, e1, e1']; rfl)) | (refine ZE ?_ ?_; · simp only [go_sem]) | (refine ZF ?_ ?_; · simp only [go_sem]))
   exact end_nil ⟨rfl, rfl, rfl, fun r hr => by simp only [upd_get]; (repeat rw [if_neg (by omega)]); exact hreg r hr, fin⟩
  ·rw [if_neg c1] at r23
   have e1 : ¬ ((i : Int) < (MVL n E u).length) := by omega
   repeat (first | apply Z1 | apply Z2 | apply Z3 | apply Z4 | apply Z5 rfl | apply Z6 | apply Z7 | apply Z8 | apply Z9 | apply ZA | apply ZB | apply ZC | ((first | apply ZD (by decide) | apply ZN (by decide)); (simp (maxSteps := 9999999) only [go_sem, r23, r24, e1]; rfl)) | (refine ZE ?_ ?_; · simp only [go_sem]) | (refine ZF ?_ ?_; · simp only [go_sem]))
   exact end_nil ⟨rfl, rfl, rfl, fun r hr => by simp only [upd_get]; (repeat rw [if_neg (by omega)]); exact hreg r hr, fin⟩
 ·have hi : i < (MVL n E u).length := by omega
  rw [if_neg (by omega)] at r23
  have hne : MVL n E u ≠ [] := fun e => by rw [e] at hi; simp at hi
  have hmv := hbk hne
  have e1 : ((i : Int) < (MVL n E u).length) := by omega
  have e2 : (0 : Int) ≤ i := by omega
  have e3 : (0 : Int) ≤ c := by omega
  have e4 : ((c : Int) < ((2 ^ hd (farE n E g) n : Nat) : Int)) := by omega
  have ew : IntKind.i64.wrap ((i : Int) + 1) = ((i + 1 : Nat) : Int) := by rw [wrap64 (by omega) (by omega)]; rfl
  obtain ⟨rb0, cc, rb, erv, x1, x2, hb0⟩ := F.rows c hc
  rw [hu] at x2
  have hle := T.le
  have x1' : loadS h' none (.pointer (some ⟨rb0, c, none⟩)) = some (.slice (some ⟨rb, 0, none⟩) n n) := by rw [load_same' (T.low rb0 hb0)]; exact x1
  have x2' := x2.fr (by omega) T.low
  have lp := load_pair hmv rfl hi
  have hcm : canM n E u ((MVL n E u)[i].1 : Int) ((MVL n E u)[i].2 : Int) := MVb_mem (List.getElem_mem hi)
  have hnext : ∀ b' : Bool, (b' = true ↔ b = true ∨ 0 < mx n E g (aft u (MVL n E u)[i].1 (MVL n E u)[i].2)) → (b' = true ↔ en0 c = true ∨ ∃ (j : Nat) (hj : j < (MVL n E u).length), j < i + 1 ∧ 0 < mx n E g (aft u (MVL n E u)[j].1 (MVL n E u)[j].2)) := fun b' h => by
   rw [h, hb]
   constructor
   ·rintro ((h | ⟨j, hj, h1, h2⟩) | h)
    ·exact .inl h
    ·exact .inr ⟨j, hj, by omega, h2⟩
    ·exact .inr ⟨i, hi, by omega, h⟩
   ·rintro (h | ⟨j, hj, h1, h2⟩)
    ·exact .inl (.inl h)
    ·by_cases e : j = i
     ·subst e; exact .inr h2
     ·exact .inl (.inr ⟨j, hj, by omega, h2⟩)
  have c47 := move47 (H := h') hn (F.pe.fr T.low) hEl x2' (lst_len _ _) (mem_bnd Su hn (by decide)) hn1 ((MVL n E u)[i].1 : Int) ((MVL n E u)[i].2 : Int)
  rw [stk_lst Su, if_pos hcm, Int.toNat_natCast, Int.toNat_natCast] at c47
  generalize (MVL n E u)[i] = p at *
  obtain ⟨p1, p2⟩ := p
  dsimp only at *
  obtain ⟨u1, u2, u3, u4⟩ := canM_iff.1 hcm
  have Sw := (Su.aft hE hn u1 u2 u3 u4).mono (B' := 57) (by decide)
  have tw := aft_tot (s := u) (a := p1) (b := p2) (by omega) (by omega)
  generalize aft u p1 p2 = w at *
  have T1 := T.app [.cells (iV n w) 3 true 0 []]
  have g1 : (h' ++ [.cells (iV n w) 3 true 0 []] : SHeap)[h'.length]? = some (.cells (iV n w) 3 true 0 []) := by rw [app_get0]; rfl
  have gm : (h' ++ [.cells (iV n w) 3 true 0 []] : SHeap)[mb]? = some (.cells (prN (MVL n E u)) 45 true 0 []) := by rw [List.getElem?_append_left (List.getElem?_eq_some_iff.1 hmv).1]; exact hmv
  generalize h' ++ [.cells (iV n w) 3 true 0 []] = G at *
  have Iw : IS G (.slice (some ⟨h'.length, 0, none⟩) n (UNK + 1)) (lst n w) := IS.lstAt g1 rfl
  have If := F.pf.fr (by have := T1.le; omega) T1.low
  obtain ⟨k1, k2⟩ := code64 FO If Iw (fun v _ => by have := Sw.bnd hn v; omega)
  obtain ⟨st, T2⟩ := T1.put hc true
  have hupup : up (up en0 c b) c true = up en0 c true := by funext x; unfold up; split <;> rfl
  rw [hupup] at st T2
  have gm2 : (G.set H1.length (.cells (bL (2 ^ hd (farE n E g) n) (up en0 c true)) 4 true 0 []))[mb]? = some (.cells (prN (MVL n E u)) 45 true 0 []) := by rw [List.getElem?_set_ne (by omega)]; exact gm
  obtain ⟨va, vc, erv'⟩ : ∃ a c, fv = .slice a n c := by
   obtain ⟨a, c, e, _⟩ := F.pf
   rw [lst_len] at e
   exact ⟨a, c, e⟩
  by_cases hbx : inBox (farE n E g) n w
  ·have k1' := k1 hbx
   obtain ⟨c', q1, q2, q3⟩ := row_code (f := farE n E g) (n := n) (l := w) (fun v hv => ⟨Sw.nn v, hbx v hv⟩) (fun v hv => Sw.out v hv)
   rw [← hd_tl0] at q2
   rw [q1] at k1'
   have hcc : c' ≠ c := fun e => by rw [e, hu] at q3; rw [← q3] at tw; omega
   have hen' : (up en0 c b) c' = dcB n E g c' := by
    unfold up
    rw [if_neg hcc]
    exact hen c' q2 (by rw [q3]; omega)
   have lc := T1.ld q2
   rw [hen'] at lc
   have e5 : (0 : Int) ≤ c' := by omega
   have e6 : ((c' : Int) < ((2 ^ hd (farE n E g) n : Nat) : Int)) := by omega
   by_cases hpos : 0 < mx n E g w
   ·have hd1 : dcB n E g c' = true := by unfold dcB; rw [q3]; exact decide_eq_true hpos
    rw [hd1] at lc
    repeat (first | apply Z1 | apply Z2 | apply Z3 | apply Z4 | apply Z5 rfl | apply Z6 | apply Z7 | apply Z8 | apply Z9 | apply ZA | apply ZB | apply ZC | ((first | apply ZD (by decide) | apply ZN (by decide)); (simp (maxSteps := 9999999) only [go_sem, r0, r1, r7, r10, r19, r22, r23, r24, erv, e1, e2, e3, e4, x1', lp, c47, k1', e5, e6, lc, ↓st, ew, Int.toNat_natCast]; rfl)) | (refine ZE ?_ ?_; · simp only [go_sem]) | (refine ZF ?_ ?_; · simp only [go_sem]))
    exact end_nil ⟨m - 1, by omega, i + 1, true, by omega, hnext true ⟨fun _ => .inr hpos, fun _ => rfl⟩, T2, fun _ => gm2, fun r hr => by simp only [upd_get]; (repeat rw [if_neg (by omega)]); exact hreg r hr, by simp only [go_sem, r0], by simp only [go_sem, r1], by simp only [go_sem, r7], by simp only [go_sem, r10, erv], by simp only [go_sem, r19], by simp only [go_sem, r22], by simp only [go_sem, r23]; rw [if_neg (by omega)], by simp only [go_sem, ew], rfl, rfl⟩
   ·have hd1 : dcB n E g c' = false := by unfold dcB; rw [q3]; exact decide_eq_false hpos
    rw [hd1] at lc
    repeat (first | apply Z1 | apply Z2 | apply Z3 | apply Z4 | apply Z5 rfl | apply Z6 | apply Z7 | apply Z8 | apply Z9 | apply ZA | apply ZB | apply ZC | ((first | apply ZD (by decide) | apply ZN (by decide)); (simp (maxSteps := 9999999) only [go_sem, r0, r1, r7, r10, r19, r22, r23, r24, erv, e1, e2, e3, e4, x1', lp, c47, k1', e5, e6, lc, ew, Int.toNat_natCast]; rfl)) | (refine ZE ?_ ?_; · simp only [go_sem]) | (refine ZF ?_ ?_; · simp only [go_sem]))
    exact end_nil ⟨m - 1, by omega, i + 1, b, by omega, hnext b ⟨fun h => .inl h, fun h => h.elim id (fun h => (hpos h).elim)⟩, T1, fun _ => gm, fun r hr => by simp only [upd_get]; (repeat rw [if_neg (by omega)]); exact hreg r hr, by simp only [go_sem, r0], by simp only [go_sem, r1], by simp only [go_sem, r7], by simp only [go_sem, r10, erv], by simp only [go_sem, r19], by simp only [go_sem, r22], by simp only [go_sem, r23]; rw [if_neg (by omega)], by simp only [go_sem, ew], rfl, rfl⟩
  ·have k2' := k2 hbx
   have hpos : 0 < mx n E g w := by
    apply Decidable.byContradiction
    intro hno
    exact hbx (fun v hv => unsolv_box hE hn hC hg Sw (by omega) hv)
   repeat (first | apply Z1 | apply Z2 | apply Z3 | apply Z4 | apply Z5 rfl | apply Z6 | apply Z7 | apply Z8 | apply Z9 | apply ZA | apply ZB | apply ZC | ((first | apply ZD (by decide) | apply ZN (by decide)); (simp (maxSteps := 9999999) only [go_sem, r0, r1, r7, r10, r19, r22, r23, r24, erv, e1, e2, e3, e4, x1', lp, c47, k2', ↓st, ew, Int.toNat_natCast]; rfl)) | (refine ZE ?_ ?_; · simp only [go_sem]) | (refine ZF ?_ ?_; · simp only [go_sem]))
   exact end_nil ⟨m - 1, by omega, i + 1, true, by omega, hnext true ⟨fun _ => .inr hpos, fun _ => rfl⟩, T2, fun _ => gm2, fun r hr => by simp only [upd_get]; (repeat rw [if_neg (by omega)]); exact hreg r hr, by simp only [go_sem, r0], by simp only [go_sem, r1], by simp only [go_sem, r7], by simp only [go_sem, r10, erv], by simp only [go_sem, r19], by simp only [go_sem, r22], by simp only [go_sem, r23]; rw [if_neg (by omega)], by simp only [go_sem, ew], rfl, rfl⟩
end
end
end
end Go.Proofs.YtpkhkghiidilcaaDoor.Sh
namespace Go.Proofs.YtpkhkghiidilcaaDoor.Sh
section
open Go
set_option maxRecDepth 100000
set_option maxHeartbeats 4000000
section
variable {n : Nat} {E : List (Int × Int)} {g : Nat} {H1 : SHeap} {ev fv rv : Value} {yb : Nat} {Ls : Nat → List Nat}
structure EN (n : Nat) (E : List (Int × Int)) (g s : Nat) (D : Nat → Prop) (en : Nat → Bool) : Prop where
 snd : ∀ x, x < 2 ^ hd (farE n E g) n → en x = true → dcB n E g x = true
 low : ∀ x, x < 2 ^ hd (farE n E g) n → tot (rowF (farE n E g) n x) < s → en x = dcB n E g x
 done : ∀ x, x < 2 ^ hd (farE n E g) n → D x → en x = dcB n E g x
theorem en_sum (cx : Cx) (hn1 : 1 ≤ n) (hn : n ≤ 6) (hE : EOK n E) (hC : Conn n E) (hEl : E.length ≤ 1000000) (hg : g < n) (F : FH H1 n E g ev fv rv yb Ls) {s : Nat} (hs : s < 64) {cb : Nat} {ρ0 : Reg} :
  ∀ m ρ ms h' d', (∃ (j : Nat) (en : Nat → Bool), j + m = (Ls s).length ∧ EN n E g s (fun x => x ∈ (Ls s).take j) en ∧ TE H1 (2 ^ hd (farE n E g) n) en h' ∧ (∀ r, r < 20 → ρ r = ρ0 r) ∧
   ρ 0 = .int .i64 n ∧ ρ 1 = ev ∧ ρ 7 = fv ∧ ρ 10 = rv ∧ ρ 15 = .slice (some ⟨yb, 0, none⟩) 64 cb ∧ ρ 19 = .slice (some ⟨H1.length, 0, none⟩) (2 ^ hd (farE n E g) n) (2 ^ hd (farE n E g) n) ∧ ρ 20 = .int .i64 s ∧ ρ 21 = .int .i64 j ∧ ms = [] ∧ d' = []) →
  LoopW M cx 8 sf32L1 ρ ms h' d' (fun ex ρ' ms' h' d' => ms' = [] ∧ d' = [] ∧ ex = .exit 10 ∧ (∀ r, r < 20 → ρ' r = ρ0 r) ∧ ρ' 20 = .int .i64 s ∧ ∃ en, EN n E g s (fun x => x ∈ Ls s) en ∧ TE H1 (2 ^ hd (farE n E g) n) en h') := by
 have FO := fok hn1 hn hC hg
 have p15 : 2 ^ hd (farE n E g) n ≤ 2 ^ 15 := Nat.pow_le_pow_right (by decide) FO.sm
 have e15 : (2 ^ 15 : Nat) = 32768 := rfl
 have hLl := F.len s
 refine loop_run _ ?_
 rintro m ρ ms h' d' ⟨j, en, hm, N, T, hreg, r0, r1, r7, r10, r15, r19, r20, r21, rfl, rfl⟩
 have z1 : (0 : Int) ≤ s := by omega
 have z2 : (s : Int) < 64 := by omega
 have hle := T.le
 obtain ⟨v, y1, ⟨a0, c0, ev0⟩, y2⟩ := F.bys s hs
 have y1' : loadS h' none (.pointer (some ⟨yb, s, none⟩)) = some v := by rw [load_same' (T.low yb F.yl)]; exact y1
 unfold sf32L1
 by_cases c : m = 0
 ·have e1 : ¬ ((j : Int) < (Ls s).length) := by omega
  subst ev0
  repeat (first | apply Z1 | apply Z2 | apply Z3 | apply Z4 | apply Z5 rfl | apply Z6 | apply Z7 | apply Z8 | apply Z9 | apply ZA | apply ZB | apply ZC | ((first | apply ZD (by decide) | apply ZN (by decide)); (simp (maxSteps := 9999999) only [go_sem, r15, r20, r21, z1, z2, y1', e1, Int.toNat_natCast]; rfl)) | (refine ZE ?_ ?_; · simp only [go_sem]) | (refine ZF ?_ ?_; · simp only [go_sem]))
  refine end_nil ⟨rfl, rfl, rfl, fun r hr => by simp only [upd_get]; (repeat rw [if_neg (by omega)]); exact hreg r hr, by simp only [go_sem, r20], en, ⟨N.snd, N.low, fun x hx hm => N.done x hx ?_⟩, T⟩
  rw [List.take_of_length_le (by omega)]; exact hm
 ·have hj : j < (Ls s).length := by omega
  have e1 : ((j : Int) < (Ls s).length) := by omega
  have e2 : (0 : Int) ≤ j := by omega
  have ew : IntKind.i64.wrap ((j : Int) + 1) = ((j + 1 : Nat) : Int) := by rw [wrap64 (by omega) (by omega)]; rfl
  obtain ⟨bb, cc, rfl, hbb, y3⟩ := y2 j hj
  obtain ⟨hx1, hx2⟩ := F.ls s _ (List.getElem_mem hj)
  have htk : ∀ x, x ∈ (Ls s).take (j + 1) ↔ x ∈ (Ls s).take j ∨ x = (Ls s)[j] := fun x => by
   rw [List.take_succ, List.mem_append, List.getElem?_eq_getElem hj, Option.toList_some, List.mem_singleton]
  have y3' : loadS h' none (.pointer (some ⟨bb, j, none⟩)) = some (.int .i64 ((Ls s)[j] : Nat)) := by rw [load_same' (T.low bb hbb)]; exact y3
  generalize (Ls s)[j] = x at *
  obtain ⟨rb0, rc, rb, erv, x1, x2, hb0⟩ := F.rows x hx1
  have x1' : loadS h' none (.pointer (some ⟨rb0, x, none⟩)) = some (.slice (some ⟨rb, 0, none⟩) n n) := by rw [load_same' (T.low rb0 hb0)]; exact x1
  have x2' := x2.fr (by omega) T.low
  have e3 : (0 : Int) ≤ x := by omega
  have e4 : ((x : Int) < ((2 ^ hd (farE n E g) n : Nat) : Int)) := by omega
  have Su := row_tot hn hC hg x
  have c44 := moves44 hn hn1 (F.pe.fr T.low) hEl x2' (lst_len _ _) (mem_bnd Su hn (by decide))
  rw [stk_lst Su] at c44
  have T1 : TE H1 (2 ^ hd (farE n E g) n) (up en x (en x)) (resH h' (prN (MVL n E (rowF (farE n E g) n x))) (MVL n E (rowF (farE n E g) n x)).length 45) := by
   have : up en x (en x) = en := by funext y; unfold up; split <;> simp_all
   rw [this]
   unfold resH; split
   ·exact T
   ·exact T.app _
  have hbk : MVL n E (rowF (farE n E g) n x) ≠ [] → (resH h' (prN (MVL n E (rowF (farE n E g) n x))) (MVL n E (rowF (farE n E g) n x)).length 45)[h'.length]? = some (.cells (prN (MVL n E (rowF (farE n E g) n x))) 45 true 0 []) := fun h => by
   have : (MVL n E (rowF (farE n E g) n x)).length ≠ 0 := fun e => h (List.length_eq_zero_iff.1 e)
   unfold resH
   rw [if_neg this, app_get0]; rfl
  have hmv : resV h' (MVL n E (rowF (farE n E g) n x)).length 2 = (if (MVL n E (rowF (farE n E g) n x)).length = 0 then .slice none 0 0 else .slice (some ⟨h'.length, 0, none⟩) (MVL n E (rowF (farE n E g) n x)).length (UNK + 2)) := rfl
  generalize resH h' (prN (MVL n E (rowF (farE n E g) n x))) (MVL n E (rowF (farE n E g) n x)).length 45 = H3 at *
  generalize resV h' (MVL n E (rowF (farE n E g) n x)).length 2 = mv at *
  repeat (first | apply Z1 | apply Z2 | apply Z3 | apply Z4 | apply Z5 rfl | apply Z6 | apply Z7 | apply Z8 | apply Z9 | apply ZA | apply ZB | apply ZC | ((first | apply ZD (by decide) | apply ZN (by decide)); (simp (maxSteps := 9999999) only [go_sem, r0, r1, r10, erv, r15, r20, r21, z1, z2, y1', e1, e2, y3', e3, e4, x1', c44, Int.toNat_natCast]; rfl)) | (refine ZE ?_ ?_; · simp only [go_sem]) | (refine ZF ?_ ?_; · simp only [go_sem]))
  refine run_loop (en_inner _ hn1 hn hE hC hEl hg F hx1 (mb := h'.length) hle (en0 := en) (u := rowF (farE n E g) n x) rfl (fun y hy ht => N.low y hy (by omega)) (MVL n E (rowF (farE n E g) n x)).length _ _ _ _ ⟨0, en x, by omega, ⟨fun h => .inl h, fun h => h.elim id (fun ⟨_, _, h, _⟩ => by omega)⟩, T1, hbk, fun r _ => rfl, by simp only [go_sem, r0], by simp only [go_sem, r1], by simp only [go_sem, r7], by simp only [go_sem, r10], by simp only [go_sem, r19], by simp only [go_sem], by simp only [go_sem, hmv], by simp only [go_sem] <;> rfl, rfl, rfl⟩) ?_
  rintro ex ρ2 ms2 h2 d2 ⟨rfl, rfl, rfl, K, b, hb, T2⟩
  have hbd : b = dcB n E g x := by
   have h1 := N.snd x hx1
   cases hd : dcB n E g x with
   | true => exact hb.2 (.inr hd)
   | false =>
    cases hbv : b with
    | false => rfl
    | true =>
     rcases hb.1 hbv with h | h
     ·rw [hd] at h1; exact (h1 h).symm
     ·rw [hd] at h; exact h.symm
  subst hbd
  have N2 : EN n E g s (fun y => y ∈ (Ls s).take (j + 1)) (up en x (dcB n E g x)) := by
   refine ⟨fun y hy h => ?_, fun y hy h => ?_, fun y hy h => ?_⟩
   ·unfold up at h
    by_cases e : y = x
    ·rw [if_pos e] at h; rw [e]; exact h
    ·rw [if_neg e] at h; exact N.snd y hy h
   ·unfold up
    rw [if_neg (fun e => by rw [e, hx2] at h; omega)]
    exact N.low y hy h
   ·unfold up
    by_cases e : y = x
    ·rw [if_pos e, e]
    ·rw [if_neg e]
     rcases (htk y).1 h with h | h
     ·exact N.done y hy h
     ·exact (e h).elim
  have t0 : ρ2 0 = .int .i64 n := (K 0 (by decide)).trans (by simp only [go_sem, r0])
  have t1 : ρ2 1 = ev := (K 1 (by decide)).trans (by simp only [go_sem, r1])
  have t7 : ρ2 7 = fv := (K 7 (by decide)).trans (by simp only [go_sem, r7])
  have t10 : ρ2 10 = rv := (K 10 (by decide)).trans (by simp only [go_sem, r10])
  have t15 : ρ2 15 = .slice (some ⟨yb, 0, none⟩) 64 cb := (K 15 (by decide)).trans (by simp only [go_sem, r15])
  have t19 : ρ2 19 = .slice (some ⟨H1.length, 0, none⟩) (2 ^ hd (farE n E g) n) (2 ^ hd (farE n E g) n) := (K 19 (by decide)).trans (by simp only [go_sem, r19])
  have t20 : ρ2 20 = .int .i64 s := (K 20 (by decide)).trans (by simp only [go_sem, r20])
  have t21 : ρ2 21 = .int .i64 j := (K 21 (by decide)).trans (by simp only [go_sem, r21])
  have hK : ∀ r, r < 20 → ρ2 r = ρ0 r := fun r hr => by
   rw [K r (by omega)]
   simp only [upd_get]
   (repeat rw [if_neg (by omega)])
   exact hreg r hr
  repeat (first | apply Z1 | apply Z2 | apply Z3 | apply Z4 | apply Z5 rfl | apply Z6 | apply Z7 | apply Z8 | apply Z9 | apply ZA | apply ZB | apply ZC | ((first | apply ZD (by decide) | apply ZN (by decide)); (simp (maxSteps := 9999999) only [go_sem, t21, ew]; rfl)) | (refine ZE ?_ ?_; · simp only [go_sem]) | (refine ZF ?_ ?_; · simp only [go_sem]))
  exact end_nil ⟨m - 1, by omega, j + 1, _, by omega, N2, T2, fun r hr => by simp only [upd_get]; (repeat rw [if_neg (by omega)]); exact hK r hr, by simp only [go_sem, t0], by simp only [go_sem, t1], by simp only [go_sem, t7], by simp only [go_sem, t10], by simp only [go_sem, t15], by simp only [go_sem, t19], by simp only [go_sem, t20], by simp only [go_sem, ew], rfl, rfl⟩
theorem en_all (cx : Cx) (hn1 : 1 ≤ n) (hn : n ≤ 6) (hE : EOK n E) (hC : Conn n E) (hEl : E.length ≤ 1000000) (hg : g < n) (F : FH H1 n E g ev fv rv yb Ls) {cb : Nat} {ρ0 : Reg} :
  ∀ m ρ ms h' d', (∃ (s : Nat) (en : Nat → Bool), s + m = 64 ∧ EN n E g s (fun _ => False) en ∧ TE H1 (2 ^ hd (farE n E g) n) en h' ∧ (∀ r, r < 20 → ρ r = ρ0 r) ∧
   ρ 0 = .int .i64 n ∧ ρ 1 = ev ∧ ρ 7 = fv ∧ ρ 10 = rv ∧ ρ 15 = .slice (some ⟨yb, 0, none⟩) 64 cb ∧ ρ 19 = .slice (some ⟨H1.length, 0, none⟩) (2 ^ hd (farE n E g) n) (2 ^ hd (farE n E g) n) ∧ ρ 20 = .int .i64 s ∧ ms = [] ∧ d' = []) →
  LoopW M cx 8 sf32L2 ρ ms h' d' (fun ex ρ' ms' h' d' => ms' = [] ∧ d' = [] ∧ ex = .exit 8 ∧ (∀ r, r < 20 → ρ' r = ρ0 r) ∧ ∃ en, (∀ x, x < 2 ^ hd (farE n E g) n → en x = dcB n E g x) ∧ TE H1 (2 ^ hd (farE n E g) n) en h') := by
 refine loop_run _ ?_
 rintro m ρ ms h' d' ⟨s, en, hm, N, T, hreg, r0, r1, r7, r10, r15, r19, r20, rfl, rfl⟩
 unfold sf32L2
 by_cases c : m = 0
 ·have e1 : ¬ ((s : Int) < (64 : Nat)) := by omega
  have e1' : ¬ ((s : Int) < 64) := by omega
  repeat (first | apply Z1 | apply Z2 | apply Z3 | apply Z4 | apply Z5 rfl | apply Z6 | apply Z7 | apply Z8 | apply Z9 | apply ZA | apply ZB | apply ZC | ((first | apply ZD (by decide) | apply ZN (by decide)); (simp (maxSteps := 9999999) only [go_sem, r15, r20, e1, e1']; rfl)) | (refine ZE ?_ ?_; · simp only [go_sem]) | (refine ZF ?_ ?_; · simp only [go_sem]))
  refine end_nil ⟨rfl, rfl, rfl, fun r hr => by simp only [upd_get]; (repeat rw [if_neg (by omega)]); exact hreg r hr, en, fun x hx => N.low x hx ?_, T⟩
  have := (row_tot hn hC hg x).le
  omega
 ·have e1 : ((s : Int) < (64 : Nat)) := by omega
  have e1' : ((s : Int) < 64) := by omega
  have ew : IntKind.i64.wrap ((s : Int) + 1) = ((s + 1 : Nat) : Int) := by rw [wrap64 (by omega) (by omega)]; rfl
  repeat (first | apply Z1 | apply Z2 | apply Z3 | apply Z4 | apply Z5 rfl | apply Z6 | apply Z7 | apply Z8 | apply Z9 | apply ZA | apply ZB | apply ZC | ((first | apply ZD (by decide) | apply ZN (by decide)); (simp (maxSteps := 9999999) only [go_sem, r15, r20, e1, e1']; rfl)) | (refine ZE ?_ ?_; · simp only [go_sem]) | (refine ZF ?_ ?_; · simp only [go_sem]))
  refine run_loop (en_sum _ hn1 hn hE hC hEl hg F (s := s) (by omega) (cb := cb) (Ls s).length _ _ _ _ ⟨0, en, by omega, ⟨N.snd, N.low, fun x hx h => by simp at h⟩, T, fun r _ => rfl, by simp only [go_sem, r0], by simp only [go_sem, r1], by simp only [go_sem, r7], by simp only [go_sem, r10], by simp only [go_sem, r15], by simp only [go_sem, r19], by simp only [go_sem, r20], by simp only [go_sem] <;> rfl, rfl, rfl⟩) ?_
  rintro ex ρ2 ms2 h2 d2 ⟨rfl, rfl, rfl, K, t20, en2, N2, T2⟩
  have N3 : EN n E g (s + 1) (fun _ => False) en2 := by
   refine ⟨N2.snd, fun x hx h => ?_, fun x hx h => h.elim⟩
   by_cases e : tot (rowF (farE n E g) n x) < s
   ·exact N2.low x hx e
   ·have := F.all x hx
    rw [show (tot (rowF (farE n E g) n x)).toNat = s by omega] at this
    exact N2.done x hx this
  have t0 : ρ2 0 = .int .i64 n := (K 0 (by decide)).trans (by simp only [go_sem, r0])
  have t1 : ρ2 1 = ev := (K 1 (by decide)).trans (by simp only [go_sem, r1])
  have t7 : ρ2 7 = fv := (K 7 (by decide)).trans (by simp only [go_sem, r7])
  have t10 : ρ2 10 = rv := (K 10 (by decide)).trans (by simp only [go_sem, r10])
  have t15 : ρ2 15 = .slice (some ⟨yb, 0, none⟩) 64 cb := (K 15 (by decide)).trans (by simp only [go_sem, r15])
  have t19 : ρ2 19 = .slice (some ⟨H1.length, 0, none⟩) (2 ^ hd (farE n E g) n) (2 ^ hd (farE n E g) n) := (K 19 (by decide)).trans (by simp only [go_sem, r19])
  have hK : ∀ r, r < 20 → ρ2 r = ρ0 r := fun r hr => by
   rw [K r (by omega)]
   simp only [upd_get]
   (repeat rw [if_neg (by omega)])
   exact hreg r hr
  repeat (first | apply Z1 | apply Z2 | apply Z3 | apply Z4 | apply Z5 rfl | apply Z6 | apply Z7 | apply Z8 | apply Z9 | apply ZA | apply ZB | apply ZC | ((first | apply ZD (by decide) | apply ZN (by decide)); (simp (maxSteps := 9999999) only [go_sem, t20, ew]; rfl)) | (refine ZE ?_ ?_; · simp only [go_sem]) | (refine ZF ?_ ?_; · simp only [go_sem]))
  exact end_nil ⟨m - 1, by omega, s + 1, en2, by omega, N3, T2, fun r hr => by simp only [upd_get]; (repeat rw [if_neg (by omega)]); exact hK r hr, by simp only [go_sem, t0], by simp only [go_sem, t1], by simp only [go_sem, t7], by simp only [go_sem, t10], by simp only [go_sem, t15], by simp only [go_sem, t19], by simp only [go_sem, ew], rfl, rfl⟩
end
end
end Go.Proofs.YtpkhkghiidilcaaDoor.Sh
namespace Go.Proofs.YtpkhkghiidilcaaDoor.Sh
section
open Go
set_option maxRecDepth 100000
set_option maxHeartbeats 4000000
def boxV (goal : Int) (N n m c1 c2 c3 : Nat) : Value := .agg #[.int .i64 goal, .slice (some ⟨N, 0, none⟩) n c1, .slice (some ⟨N + 1, 0, none⟩) m c2, .slice (some ⟨N + 2, 0, none⟩) m c3]
theorem gc_box {H h : SHeap} {goal : Int} {fb eb rb n m c1 c2 c3 : Nat} {fs es cs : List Value} {e1 e2 el : TypeId} {o1 o2 old : List Nat} (hf : h[fb]? = some (.cells fs e1 true 0 o1)) (he : h[eb]? = some (.cells es e2 true 0 o2)) (hb : h[rb]? = some (.cells cs el false 0 old))
  (lf : H.length ≤ fb) (le : H.length ≤ eb) (lb : H.length ≤ rb) (nfe : fb ≠ eb) (nfb : fb ≠ rb) (neb : eb ≠ rb) (hlen : cs.length < 900000) (hleaf : ∀ x ∈ cs, LeafC H.length h x) (hHl : H.length ≤ h.length) (fr : ∀ j, j < H.length → h[j]? = H[j]?) :
  ∃ h' cs' o1' o2' old', gcS H.length (.agg #[.int .i64 goal, .slice (some ⟨fb, 0, none⟩) n c1, .slice (some ⟨eb, 0, none⟩) m c2, .slice (some ⟨rb, 0, none⟩) m c3]) h = some (boxV goal H.length n m c1 c2 c3, h') ∧ H.length + 2 < h'.length ∧ (∀ j, j < H.length → h'[j]? = H[j]?) ∧ h'[H.length]? = some (.cells fs e1 true 0 o1') ∧ h'[H.length + 1]? = some (.cells es e2 true 0 o2') ∧ h'[H.length + 2]? = some (.cells cs' el false 0 old') ∧ cs'.length = cs.length ∧
   ∀ (i : Nat) (x : Value), cs[i]? = some x → ∃ x', cs'[i]? = some x' ∧ SameC h h' x x' := by
 obtain ⟨p1, p2, p3⟩ := ptrs_leaf cs hleaf
 obtain ⟨K, k1, k2, k3⟩ := reach_leaf (base := H.length) (h := h) (cs.flatMap (ptrs 3)) 999997 [fb, eb, rb] (by omega) p2
 have hreach : reach H.length h 1000000 [fb, eb, rb] [] = fb :: eb :: rb :: K := by
  rw [show (1000000 : Nat) = 999997 + 1 + 1 + 1 from rfl, reach_new lf (by simp), hf]
  show reach H.length h (999997 + 1 + 1) [eb, rb] [fb] = _
  rw [reach_new le (by simp; omega), he]
  show reach H.length h (999997 + 1) [rb] [fb, eb] = _
  rw [reach_new lb (by simp; omega), hb]
  show reach H.length h 999997 (cs.flatMap (ptrs 3) ++ []) [fb, eb, rb] = _
  rw [List.append_nil, k1]; rfl
 generalize hKK : fb :: eb :: rb :: K = KK at *
 have mf : fb ∈ KK := by rw [← hKK]; simp
 have me : eb ∈ KK := by rw [← hKK]; simp
 have mb : rb ∈ KK := by rw [← hKK]; simp
 have mK : ∀ x, x ∈ [fb, eb, rb] ++ K → x ∈ KK := fun x hx => by rw [← hKK]; simpa using hx
 have mK' : ∀ x, x ∈ KK → x = fb ∨ x = eb ∨ x = rb ∨ x ∈ K := fun x hx => by rw [← hKK] at hx; simpa using hx
 have ht : h.take H.length = H := take_of_same hHl fr
 have hren : ∀ x : Nat, x ∈ KK → ∃ i, ren H.length KK x = some (H.length + i) ∧ KK[i]? = some x := fun x hx => by
  have hx2 : H.length ≤ x := by
   rcases mK' x hx with rfl | rfl | rfl | hx
   ·exact lf
   ·exact le
   ·exact lb
   ·exact (k3 x hx).2
  obtain ⟨i, q1, q2⟩ := pos_mem _ _ hx
  exact ⟨i, ren_at hx2 q1, q2⟩
 have hcell : ∀ x ∈ cs, ∃ x', renV H.length KK 3 x = some x' := fun x hx => by
  obtain ⟨b1, o, m, c1, rfl, h1⟩ := hleaf x hx
  rcases h1 with h1 | ⟨h1, _⟩
  ·exact ⟨.slice (some ⟨b1, o, none⟩) m c1, by simp [renV, ren_old h1]⟩
  ·obtain ⟨i, q1, _⟩ := hren b1 (mK b1 (k2 b1 (p3 b1 o m c1 hx) h1))
   exact ⟨.slice (some ⟨H.length + i, o, none⟩) m c1, by simp [renV, q1]⟩
 obtain ⟨cs', c1', c2', c3'⟩ := mapO_all cs hcell
 have e0 : ((0 : Nat) == 2) = false := rfl
 have rf : renO H.length KK h[fb]? = some (.cells fs e1 true 0 (o1.filterMap (ren H.length KK))) := by rw [hf]; simp [renO]
 have re : renO H.length KK h[eb]? = some (.cells es e2 true 0 (o2.filterMap (ren H.length KK))) := by rw [he]; simp [renO]
 have rr : renO H.length KK h[rb]? = some (.cells cs' el false 0 (old.filterMap (ren H.length KK))) := by rw [hb]; simp [renO, c1']
 have hkeep : ∀ x ∈ KK, ∃ o, renO H.length KK h[x]? = some o := fun x hx => by
  rcases mK' x hx with rfl | rfl | rfl | hxK
  ·exact ⟨_, rf⟩
  ·exact ⟨_, re⟩
  ·exact ⟨_, rr⟩
  ·obtain ⟨q1, q2⟩ := k3 x hxK
   obtain ⟨y, hy, hxy⟩ := List.mem_flatMap.1 q1
   obtain ⟨b1, o, m, cc, rfl, h1⟩ := hleaf y hy
   have : x = b1 := by simpa [ptrs, ptr1] using hxy
   subst this
   rcases h1 with h1 | ⟨_, ds, el2, own, old2, h1, h3⟩
   ·omega
   ·exact ⟨_, by rw [h1]; simp [renO, h3]; rfl⟩
 obtain ⟨kept, m1, m2, m3⟩ := mapO_all (f := fun k => renO H.length KK h[k]?) KK hkeep
 have hk : ∀ i x, KK[i]? = some x → ∀ o, renO H.length KK h[x]? = some o → (H ++ kept)[H.length + i]? = some o := fun i x hx o ho => by
  obtain ⟨o', q1, q2⟩ := m3 i x hx
  rw [ho] at q1
  injection q1 with q1
  rw [List.getElem?_append_right (by omega), Nat.add_sub_cancel_left, q2, q1]
 have K0 : KK[0]? = some fb := by rw [← hKK]; rfl
 have K1 : KK[1]? = some eb := by rw [← hKK]; rfl
 have K2 : KK[2]? = some rb := by rw [← hKK]; rfl
 have bf : Nat.beq fb eb = false := by rw [nbeq_dec]; exact decide_eq_false nfe
 have bf2 : Nat.beq fb rb = false := by rw [nbeq_dec]; exact decide_eq_false nfb
 have bf3 : Nat.beq eb rb = false := by rw [nbeq_dec]; exact decide_eq_false neb
 have rn0 : ren H.length KK fb = some H.length := by
  have := ren_at (base := H.length) (b := fb) (k := 0) (K := KK) lf (by rw [← hKK]; simp [posOf])
  simpa using this
 have rn1 : ren H.length KK eb = some (H.length + 1) := ren_at le (by rw [← hKK]; simp [posOf, bf])
 have rn2 : ren H.length KK rb = some (H.length + 2) := ren_at lb (by rw [← hKK]; simp [posOf, bf2, bf3])
 refine ⟨H ++ kept, cs', _, _, _, ?_, by rw [List.length_append, m2, ← hKK]; simp, fun j hj => List.getElem?_append_left hj, hk 0 fb K0 _ rf, hk 1 eb K1 _ re, hk 2 rb K2 _ rr, c2', fun i x hx => ?_⟩
 ·have e3 : ptrs 3 (.agg #[.int .i64 goal, .slice (some ⟨fb, 0, none⟩) n c1, .slice (some ⟨eb, 0, none⟩) m c2, .slice (some ⟨rb, 0, none⟩) m c3]) = [fb, eb, rb] := rfl
  unfold gcS
  simp only [e3, hreach, renV, rn0, rn1, rn2, mapO, m1, ht]
  rfl
 ·obtain ⟨x', q1, q2⟩ := c3' i x hx
  refine ⟨x', q2, ?_⟩
  have hxm : x ∈ cs := List.mem_of_getElem? hx
  obtain ⟨b1, o, m, cc, rfl, h1⟩ := hleaf x hxm
  rcases h1 with h1 | ⟨h1, ds, el2, own, old2, h2, h3⟩
  ·have : renV H.length KK 3 (.slice (some ⟨b1, o, none⟩) m cc) = some (.slice (some ⟨b1, o, none⟩) m cc) := by simp [renV, ren_old h1]
   rw [this] at q1
   injection q1 with q1
   exact ⟨b1, b1, o, m, cc, rfl, q1.symm, .inl ⟨rfl, by rw [List.getElem?_append_left h1]; exact (fr b1 h1).symm⟩⟩
  ·obtain ⟨k, r1, r2⟩ := hren b1 (mK b1 (k2 b1 (p3 b1 o m cc hxm) h1))
   have : renV H.length KK 3 (.slice (some ⟨b1, o, none⟩) m cc) = some (.slice (some ⟨H.length + k, o, none⟩) m cc) := by simp [renV, r1]
   rw [this] at q1
   injection q1 with q1
   refine ⟨b1, H.length + k, o, m, cc, rfl, q1.symm, .inr ⟨ds, el2, own, old2, old2.filterMap (ren H.length KK), h2, hk k b1 r2 _ ?_⟩⟩
   rw [h2]; simp [renO, h3]
structure BOX (h : SHeap) (n : Nat) (E : List (Int × Int)) (g : Nat) (bv : Value) : Prop where
 ex : ∃ N c1 c2 c3 : Nat, bv = boxV g N n (2 ^ hd (farE n E g) n) c1 c2 c3 ∧ N + 2 < h.length ∧ IS h (.slice (some ⟨N, 0, none⟩) n c1) (lst n (fI (farE n E g))) ∧ (∃ o, h[N + 1]? = some (.cells (bL (2 ^ hd (farE n E g) n) (dcB n E g)) 4 true 0 o)) ∧
  ∀ c, c < 2 ^ hd (farE n E g) n → ∃ x, loadS h none (.pointer (some ⟨N + 2, c, none⟩)) = some x ∧ IS h x (lst n (rowF (farE n E g) n c))
theorem rep_range (x : Value) (m : Nat) : repeatL [x] m = (List.range m).map fun _ => x := by
 have : ∀ m, repeatL [x] m = List.replicate m x := by
  intro m
  induction m with
  | zero => rfl
  | succ m ih => show [_] ++ _ = _; rw [ih]; rfl
 rw [this]
 apply List.ext_getElem?
 intro i
 by_cases c : i < m
 ·simp [c]
 ·rw [List.getElem?_eq_none (by simp; omega), List.getElem?_eq_none (by simp; omega)]
section
variable {H : SHeap} {n : Nat} {E : List (Int × Int)} {g : Nat} {ev : Value}
theorem newBox32 (hn1 : 1 ≤ n) (hn : n ≤ 6) (hE : EOK n E) (hC : Conn n E) (hP : PS H ev E) (hEl : E.length ≤ 1000000) (hg : g < n) :
  ∃ (bv : Value) (H' : SHeap), M.call 32 [.int .i64 n, ev, .int .i64 g] H = some (bv, H', []) ∧ BOX H' n E g bv ∧ H.length ≤ H'.length ∧ ∀ j, j < H.length → H'[j]? = H[j]? := by
 suffices key : ∃ r, (∃ (bv : Value) (H' : SHeap), r = (bv, H', ([] : List Nat)) ∧ BOX H' n E g bv ∧ H.length ≤ H'.length ∧ ∀ j, j < H.length → H'[j]? = H[j]?) ∧ M.call 32 [.int .i64 n, ev, .int .i64 g] H = some r by
  obtain ⟨r, ⟨bv, H', rfl, k⟩, q⟩ := key
  exact ⟨bv, H', q, k⟩
 refine call_ex (f := 32) _ sf32 rfl rfl rfl ?_
 have FO := fok hn1 hn hC hg
 have p15 : 2 ^ hd (farE n E g) n ≤ 2 ^ 15 := Nat.pow_le_pow_right (by decide) FO.sm
 have e15 : (2 ^ 15 : Nat) = 32768 := rfl
 have mpos := pow2_pos (hd (farE n E g) n)
 have c40 := far40 (H := H ++ [.cells [.int .i64 0, .slice none 0 0, .slice none 0 0, .slice none 0 0] 55 false 0 []]) hn (hP.app _) hEl hg
 have eiv : iV n (farI n E g) = iV n (fI (farE n E g)) := iV_congr (fun v hv => farI_conn hC hg hv)
 rw [eiv, List.append_assoc, List.length_append, List.length_singleton] at c40
 have c40' : M.call 40 [.int .i64 n, ev, .int .i64 g] (H ++ [.cells [.int .i64 0, .slice none 0 0, .slice none 0 0, .slice none 0 0] 55 false 0 []]) = some (.slice (some ⟨H.length + 1, 0, none⟩) n n, H ++ [.cells [.int .i64 0, .slice none 0 0, .slice none 0 0, .slice none 0 0] 55 false 0 [], .cells (iV n (fI (farE n E g))) 3 true 0 []], []) := c40
 have A0 : (H ++ [.cells [.int .i64 0, .slice none 0 0, .slice none 0 0, .slice none 0 0] 55 false 0 [], .cells (iV n (fI (farE n E g))) 3 true 0 []] : SHeap)[H.length]? = some (.cells [.int .i64 0, .slice none 0 0, .slice none 0 0, .slice none 0 0] 55 false 0 []) := by rw [app_get0]; rfl
 have A1 : (H ++ [.cells [.int .i64 0, .slice none 0 0, .slice none 0 0, .slice none 0 0] 55 false 0 [], .cells (iV n (fI (farE n E g))) 3 true 0 []] : SHeap)[H.length + 1]? = some (.cells (iV n (fI (farE n E g))) 3 true 0 []) := by rw [app_get]; rfl
 have A2 : (H ++ [.cells [.int .i64 0, .slice none 0 0, .slice none 0 0, .slice none 0 0] 55 false 0 [], .cells (iV n (fI (farE n E g))) 3 true 0 []] : SHeap).length = H.length + 2 := by simp
 have A3 : ∀ j, j < H.length → (H ++ [.cells [.int .i64 0, .slice none 0 0, .slice none 0 0, .slice none 0 0] 55 false 0 [], .cells (iV n (fI (farE n E g))) 3 true 0 []] : SHeap)[j]? = H[j]? := fun j hj => List.getElem?_append_left hj
 obtain ⟨va, vc, hve, _⟩ := id hP
 subst hve
 unfold sf32
 repeat (first | apply Z1 | apply Z2 | apply Z3 | apply Z4 | apply Z5 rfl | apply Z6 | apply Z7 | apply Z8 | apply Z9 | apply ZA | apply ZB | apply ZC | ((first | apply ZD (by decide) | apply ZN (by decide)); (simp (maxSteps := 9999999) only [go_sem, argR, c40']; rfl)) | (refine ZE ?_ ?_; · simp only [go_sem]) | (refine ZF ?_ ?_; · simp only [go_sem]))
 generalize (H ++ [.cells [.int .i64 0, .slice none 0 0, .slice none 0 0, .slice none 0 0] 55 false 0 [], .cells (iV n (fI (farE n E g))) 3 true 0 []] : SHeap) = H0 at *
 refine run_loop (bits_loop (c := n) _ FO A1 n _ _ _ _ ⟨0, by omega, fun r _ => rfl, by simp only [go_sem, argR], by simp only [go_sem], by simp only [go_sem] <;> rfl, by simp only [go_sem] <;> rfl, rfl, rfl, rfl⟩) ?_
 rintro ex1 ρ1 ms1 h1 d1 ⟨rfl, rfl, rfl, rfl, K1, t8⟩
 have t0 : ρ1 0 = .int .i64 n := (K1 0 (by decide)).trans (by simp only [go_sem, argR])
 have t7 : ρ1 7 = .slice (some ⟨H.length + 1, 0, none⟩) n n := (K1 7 (by decide)).trans (by simp only [go_sem])
 have t1 : ρ1 1 = .slice va E.length vc := (K1 1 (by decide)).trans (by simp only [go_sem, argR])
 have t2 : ρ1 2 = .int .i64 g := (K1 2 (by decide)).trans (by simp only [go_sem, argR])
 have t6 : ρ1 6 = .pointer (some ⟨H.length, 0, none⟩) := (K1 6 (by decide)).trans (by simp only [go_sem])
 repeat (first | apply Z1 | apply Z2 | apply Z3 | apply Z4 | apply Z5 rfl | apply Z6 | apply Z7 | apply Z8 | apply Z9 | apply ZA | apply ZB | apply ZC | ((first | apply ZD (by decide) | apply ZN (by decide)); (simp (maxSteps := 9999999) only [go_sem]; rfl)) | (refine ZE ?_ ?_; · simp only [go_sem]) | (refine ZF ?_ ?_; · simp only [go_sem]))
 refine run_loop (rows_loop (cp := n) _ FO A1 (2 ^ hd (farE n E g) n) _ _ _ _ ⟨0, _, by omega, ⟨Nat.le_refl _, fun j _ => rfl, .inl ⟨rfl, rfl⟩⟩, fun r _ => rfl, by simp only [go_sem, t0], by simp only [go_sem, t7], by simp only [go_sem, t8], by simp only [go_sem], by simp only [go_sem] <;> rfl, rfl, rfl⟩) ?_
 rintro ex2 ρ2 ms2 Hr d2 ⟨rfl, rfl, rfl, K2, rv, R, t10⟩
 have hRle := R.le
 have u0 : ρ2 0 = .int .i64 n := (K2 0 (by decide)).trans (by simp only [go_sem, t0])
 have u1 : ρ2 1 = .slice va E.length vc := (K2 1 (by decide)).trans (by simp only [go_sem, t1])
 have u2 : ρ2 2 = .int .i64 g := (K2 2 (by decide)).trans (by simp only [go_sem, t2])
 have u6 : ρ2 6 = .pointer (some ⟨H.length, 0, none⟩) := (K2 6 (by decide)).trans (by simp only [go_sem, t6])
 have u7 : ρ2 7 = .slice (some ⟨H.length + 1, 0, none⟩) n n := (K2 7 (by decide)).trans (by simp only [go_sem, t7])
 have u8 : ρ2 8 = .int .i64 (hd (farE n E g) n : Nat) := (K2 8 (by decide)).trans (by simp only [go_sem, t8])
 have rows : ∀ c, c < 2 ^ hd (farE n E g) n → ∃ b cc rb, rv = .slice (some ⟨b, 0, none⟩) (2 ^ hd (farE n E g) n) cc ∧ loadS Hr none (.pointer (some ⟨b, c, none⟩)) = some (.slice (some ⟨rb, 0, none⟩) n n) ∧ IS Hr (.slice (some ⟨rb, 0, none⟩) n n) (lst n (rowF (farE n E g) n c)) ∧ b < Hr.length := fun c hc => by
  obtain ⟨b, cc, rb, q1, q2, q3⟩ := R.el hc
  refine ⟨b, cc, rb, q1, q2, q3, ?_⟩
  rw [load_rdO] at q2
  apply Decidable.byContradiction
  intro hno
  rw [List.getElem?_eq_none (by omega)] at q2
  cases q2
 have rp64 := rep_range (.slice none 0 0) 64
 have B0 : BYS Hr (farE n E g) n 0 (fun _ => []) (Hr ++ [.cells ((List.range 64).map fun _ => .slice none 0 0) 25 false 0 []]) :=
  ⟨by simp, fun j hj => List.getElem?_append_left hj, ⟨fun _ => .slice none 0 0, by rw [app_get0]; rfl, fun s _ => .inl ⟨rfl, rfl, rfl⟩, (fun s s' b m cc b' m' cc' _ _ _ e _ => by simp at e)⟩, (fun s x hx => by cases hx), (fun x hx => by omega), (fun s => Nat.le_refl _)⟩
 repeat (first | apply Z1 | apply Z2 | apply Z3 | apply Z4 | apply Z5 rfl | apply Z6 | apply Z7 | apply Z8 | apply Z9 | apply ZA | apply ZB | apply ZC | ((first | apply ZD (by decide) | apply ZN (by decide)); (simp (maxSteps := 9999999) only [go_sem, ↓rp64]; rfl)) | (refine ZE ?_ ?_; · simp only [go_sem]) | (refine ZF ?_ ?_; · simp only [go_sem]))
 refine run_loop (by_loop _ (by show H.length ≤ Hr.length; omega) (by omega) rows hn (fun c => row_tot hn hC hg c) mpos (2 ^ hd (farE n E g) n) _ _ _ _ ⟨0, _, by omega, B0, fun r _ => rfl, by simp only [go_sem, t10], by simp only [go_sem], by simp only [go_sem] <;> rfl, rfl, rfl⟩) ?_
 rintro ex3 ρ3 ms3 Hb d3 ⟨rfl, rfl, rfl, K3, ⟨Ls, B⟩, t15⟩
 have hBle := B.le
 have v0 : ρ3 0 = .int .i64 n := (K3 0 (by decide)).trans (by simp only [go_sem, u0])
 have v1 : ρ3 1 = .slice va E.length vc := (K3 1 (by decide)).trans (by simp only [go_sem, u1])
 have v2 : ρ3 2 = .int .i64 g := (K3 2 (by decide)).trans (by simp only [go_sem, u2])
 have v6 : ρ3 6 = .pointer (some ⟨H.length, 0, none⟩) := (K3 6 (by decide)).trans (by simp only [go_sem, u6])
 have v7 : ρ3 7 = .slice (some ⟨H.length + 1, 0, none⟩) n n := (K3 7 (by decide)).trans (by simp only [go_sem, u7])
 have v8 : ρ3 8 = .int .i64 (hd (farE n E g) n : Nat) := (K3 8 (by decide)).trans (by simp only [go_sem, u8])
 have v10 : ρ3 10 = rv := (K3 10 (by decide)).trans (by simp only [go_sem, t10])
 have lowb : ∀ j, j < h1.length → Hb[j]? = h1[j]? := fun j hj => by rw [B.low j (by omega)]; exact R.low j hj
 have F : FH Hb n E g (.slice va E.length vc) (.slice (some ⟨H.length + 1, 0, none⟩) n n) rv Hr.length Ls := by
  refine ⟨hP.fr (fun j hj => by rw [lowb j (by omega)]; exact A3 j hj), IS.lstAt (by rw [lowb _ (by omega)]; exact A1) rfl, fun c hc => ?_, hBle, fun s hs => ?_, B.ls, B.all, fun s => by have := B.len s; omega⟩
  ·obtain ⟨b, cc, rb, q1, q2, q3, q4⟩ := rows c hc
   exact ⟨b, cc, rb, q1, by rw [load_same' (B.low b q4)]; exact q2, q3.fr (by omega) B.low, by omega⟩
  ·obtain ⟨bv, q1, q2, q3⟩ := B.cells
   have A := q2 s hs
   refine ⟨bv s, ?_, ?_, fun j hj => ?_⟩
   ·have := load_cell (o := s) q1 rfl (by simp [hs] : ((List.range 64).map bv)[s]? = some (bv s)) []
    rw [List.append_nil] at this; exact this
   ·rcases A with ⟨e1, e2, _⟩ | ⟨b, old, e1, _⟩
    ·exact ⟨none, 0, by rw [e2, e1]⟩
    ·exact ⟨_, _, e1⟩
   ·rcases A with ⟨e1, _, _⟩ | ⟨b, old, e1, e2, _⟩
    ·omega
    ·refine ⟨b, _, e1, (List.getElem?_eq_some_iff.1 e2).1, ?_⟩
     have := load_cell (o := j) (c := nI (Ls s)[j]) e2 rfl (by rw [List.getElem?_map, List.getElem?_eq_getElem hj]; rfl) []
     rw [List.append_nil] at this; exact this
 have shM := shl_1 (k := .i64) (v := hd (farE n E g) n) (by have := FO.sm; omega)
 have rpB : repeatL [.bool false] (2 ^ hd (farE n E g) n) = bL (2 ^ hd (farE n E g) n) (fun _ => false) := rep_range _ _
 have scB : (bL (2 ^ hd (farE n E g) n) (fun _ => false)).all sc = true := by
  rw [List.all_eq_true]
  intro x hx
  obtain ⟨c, _, rfl⟩ := List.mem_map.1 hx
  rfl
 have z0 : (0 : Int) ≤ ((2 ^ hd (farE n E g) n : Nat) : Int) := by omega
 have z1 : ((2 ^ hd (farE n E g) n : Nat) : Int) ≤ 1073741824 := by omega
 have z2 : Nat.ble (2 ^ hd (farE n E g) n) 140737488355328 = true := by rw [ble_dec]; exact decide_eq_true (by omega)
 have z3 : Nat.ble (2 ^ hd (farE n E g) n * 1) 140737488355328 = true := by rw [Nat.mul_one]; exact z2
 have T0 : TE Hb (2 ^ hd (farE n E g) n) (fun _ => false) (Hb ++ [.cells (bL (2 ^ hd (farE n E g) n) (fun _ => false)) 4 true 0 []]) := ⟨by simp, fun j hj => List.getElem?_append_left hj, by rw [app_get0]; rfl⟩
 repeat (first | apply Z1 | apply Z2 | apply Z3 | apply Z4 | apply Z5 rfl | apply Z6 | apply Z7 | apply Z8 | apply Z9 | apply ZA | apply ZB | apply ZC | ((first | apply ZD (by decide) | apply ZN (by decide)); (simp (maxSteps := 9999999) only [go_sem, v8, shM, z0, z1, z2, z3, rpB, scB, Int.toNat_natCast]; rfl)) | (refine ZE ?_ ?_; · simp only [go_sem]) | (refine ZF ?_ ?_; · simp only [go_sem]))
 refine run_loop (en_all (cb := 64) _ hn1 hn hE hC hEl hg F 64 _ _ _ _ ⟨0, _, by omega, ⟨(fun x _ h => by cases h), (fun x hx h => ?_), (fun x hx h => h.elim)⟩, T0, fun r _ => rfl, by simp only [go_sem, v0], by simp only [go_sem, v1], by simp only [go_sem, v7], by simp only [go_sem, v10], by simp only [go_sem, t15], by simp only [go_sem], by simp only [go_sem] <;> rfl, rfl, rfl⟩) ?_
 ·have := tot_nn hn (row_tot hn hC hg x); omega
 rintro ex4 ρ4 ms4 h4 d4 ⟨rfl, rfl, rfl, K4, en, hen, T⟩
 have hTle := T.le
 have w2 : ρ4 2 = .int .i64 g := (K4 2 (by decide)).trans (by simp only [go_sem, v2])
 have w6 : ρ4 6 = .pointer (some ⟨H.length, 0, none⟩) := (K4 6 (by decide)).trans (by simp only [go_sem, v6])
 have w7 : ρ4 7 = .slice (some ⟨H.length + 1, 0, none⟩) n n := (K4 7 (by decide)).trans (by simp only [go_sem, v7])
 have w10 : ρ4 10 = rv := (K4 10 (by decide)).trans (by simp only [go_sem, v10])
 have w19 : ρ4 19 = .slice (some ⟨Hb.length, 0, none⟩) (2 ^ hd (farE n E g) n) (2 ^ hd (farE n E g) n) := (K4 19 (by decide)).trans (by simp only [go_sem])
 have low4 : ∀ j, j < h1.length → h4[j]? = h1[j]? := fun j hj => by rw [T.low j (by omega)]; exact lowb j hj
 have hbL : bL (2 ^ hd (farE n E g) n) en = bL (2 ^ hd (farE n E g) n) (dcB n E g) := List.map_congr_left (fun x hx => by rw [hen x (List.mem_range.1 hx)])
 rcases R.acc with ⟨h0, _⟩ | ⟨rb, cs, AF, hcl, hrows⟩
 ·omega
 ·obtain ⟨rc, rold, erv, hrb, _⟩ := AF.shp
  have hrl := AF.low
  have hrlt := AF.lt
  rw [hcl] at erv
  have st : ∀ x : List Value, x.length = 4 → x.all oneC = true → storeS H.length h4 [] H.length 0 x = some (h4.set H.length (.cells x 55 false 0 []), []) := fun x hx hx2 => by
   have := store_at (h := h4) (b := H.length) (base := H.length) (cs := [.int .i64 0, .slice none 0 0, .slice none 0 0, .slice none 0 0]) (vs := x) (el := 55) (pf := false) (by rw [low4 _ (by omega)]; exact A0) (by rw [hx]; rfl) (by omega) hx2 (fun h => by cases h) []
   rw [this, dirty_own (Nat.le_refl _)]
  have st' : storeS H.length h4 [] H.length 0 (cellsL (.agg #[.int .i64 g, .slice (some ⟨H.length + 1, 0, none⟩) n n, .slice (some ⟨Hb.length, 0, none⟩) (2 ^ hd (farE n E g) n) (2 ^ hd (farE n E g) n), .slice (some ⟨rb, 0, none⟩) (2 ^ hd (farE n E g) n) rc])) = some (h4.set H.length (.cells [.int .i64 g, .slice (some ⟨H.length + 1, 0, none⟩) n n, .slice (some ⟨Hb.length, 0, none⟩) (2 ^ hd (farE n E g) n) (2 ^ hd (farE n E g) n), .slice (some ⟨rb, 0, none⟩) (2 ^ hd (farE n E g) n) rc] 55 false 0 []), []) := st _ rfl rfl
  have g5 : ∀ j, j ≠ H.length → (h4.set H.length (.cells [.int .i64 g, .slice (some ⟨H.length + 1, 0, none⟩) n n, .slice (some ⟨Hb.length, 0, none⟩) (2 ^ hd (farE n E g) n) (2 ^ hd (farE n E g) n), .slice (some ⟨rb, 0, none⟩) (2 ^ hd (farE n E g) n) rc] 55 false 0 []))[j]? = h4[j]? := fun j hj => List.getElem?_set_ne (by omega)
  have l5 : (h4.set H.length (.cells [.int .i64 g, .slice (some ⟨H.length + 1, 0, none⟩) n n, .slice (some ⟨Hb.length, 0, none⟩) (2 ^ hd (farE n E g) n) (2 ^ hd (farE n E g) n), .slice (some ⟨rb, 0, none⟩) (2 ^ hd (farE n E g) n) rc] 55 false 0 [])).length = h4.length := by simp
  have b5 : (h4.set H.length (.cells [.int .i64 g, .slice (some ⟨H.length + 1, 0, none⟩) n n, .slice (some ⟨Hb.length, 0, none⟩) (2 ^ hd (farE n E g) n) (2 ^ hd (farE n E g) n), .slice (some ⟨rb, 0, none⟩) (2 ^ hd (farE n E g) n) rc] 55 false 0 []))[H.length]? = some (.cells [.int .i64 g, .slice (some ⟨H.length + 1, 0, none⟩) n n, .slice (some ⟨Hb.length, 0, none⟩) (2 ^ hd (farE n E g) n) (2 ^ hd (farE n E g) n), .slice (some ⟨rb, 0, none⟩) (2 ^ hd (farE n E g) n) rc] 55 false 0 []) := by rw [List.getElem?_set_self (by omega)]
  generalize h4.set H.length (.cells [.int .i64 g, .slice (some ⟨H.length + 1, 0, none⟩) n n, .slice (some ⟨Hb.length, 0, none⟩) (2 ^ hd (farE n E g) n) (2 ^ hd (farE n E g) n), .slice (some ⟨rb, 0, none⟩) (2 ^ hd (farE n E g) n) rc] 55 false 0 []) = h5 at *
  have lowr : ∀ j, j < Hr.length → j ≠ H.length → h5[j]? = Hr[j]? := fun j hj hne => by rw [g5 j hne, T.low j (by omega), B.low j hj]
  obtain ⟨H', cs', o1', o2', old', q0, q1, q2, q3, q4, q5, q6, q7⟩ := gc_box (H := H) (h := h5) (goal := g) (fb := H.length + 1) (eb := Hb.length) (rb := rb) (n := n) (m := 2 ^ hd (farE n E g) n) (c1 := n) (c2 := 2 ^ hd (farE n E g) n) (c3 := rc) (fs := iV n (fI (farE n E g))) (es := bL (2 ^ hd (farE n E g) n) (dcB n E g)) (cs := cs) (e1 := 3) (e2 := 4) (el := 25)
   (by rw [g5 _ (by omega), low4 _ (by omega)]; exact A1) (by rw [g5 _ (by omega), T.eb, hbL]) (by rw [lowr rb hrlt (by omega)]; exact hrb) (by omega) (by omega) (by omega) (by omega) (by omega) (by omega) (by omega) (fun x hx => by
    obtain ⟨j, hj, rfl⟩ := List.getElem_of_mem hx
    obtain ⟨r, s1, s2, s3⟩ := hrows j (by omega)
    rw [List.getElem?_eq_getElem hj] at s1
    injection s1 with s1
    rw [s1]
    exact ⟨r, 0, n, n, rfl, .inr ⟨by omega, _, _, _, _, by rw [lowr r (List.getElem?_eq_some_iff.1 s3).1 (by omega)]; exact s3, rfl⟩⟩) (by omega) (fun j hj => by rw [g5 j (by omega), low4 j (by omega)]; exact A3 j hj)
  have lag : loadS h5 (some 4) (.pointer (some ⟨H.length, 0, none⟩)) = some (.agg #[.int .i64 g, .slice (some ⟨H.length + 1, 0, none⟩) n n, .slice (some ⟨Hb.length, 0, none⟩) (2 ^ hd (farE n E g) n) (2 ^ hd (farE n E g) n), .slice (some ⟨rb, 0, none⟩) (2 ^ hd (farE n E g) n) rc]) := by
   have := load_all (n := 4) b5 rfl rfl []; rw [List.append_nil] at this; exact this
  have hbox : BOX H' n E g (boxV g H.length n (2 ^ hd (farE n E g) n) n (2 ^ hd (farE n E g) n) rc) := by
   refine ⟨H.length, _, _, _, rfl, q1, IS.lstAt q3 rfl, ⟨_, q4⟩, fun c hc => ?_⟩
   obtain ⟨r, s1, s2, s3⟩ := hrows c hc
   obtain ⟨x', y1, y2⟩ := q7 c _ s1
   have := load_cell (o := c) q5 rfl y1 []
   rw [List.append_nil] at this
   exact ⟨x', this, y2.is (IS.lstAt (by rw [lowr r (List.getElem?_eq_some_iff.1 s3).1 (by omega)]; exact s3) rfl)⟩
  repeat (first | apply Z1 | apply Z2 | apply Z3 | apply Z4 | apply Z5 rfl | apply Z6 | apply Z7 | apply Z8 | apply Z9 | apply ZA | apply ZB | apply ZC | ((first | apply ZD (by decide) | apply ZN (by decide)); (simp (maxSteps := 9999999) only [go_sem, w2, w6, w7, w10, w19, erv, ↓st']; rfl)) | (refine ZE ?_ ?_; · simp only [go_sem]) | (refine ZF ?_ ?_; · simp only [go_sem]))
  exact end_nil ⟨_, ⟨_, H', rfl, hbox, by omega, q2⟩, q_gc [.agg #[.int .i64 g, .slice (some ⟨H.length + 1, 0, none⟩) n n, .slice (some ⟨Hb.length, 0, none⟩) (2 ^ hd (farE n E g) n) (2 ^ hd (farE n E g) n), .slice (some ⟨rb, 0, none⟩) (2 ^ hd (farE n E g) n) rc]] (by simp only [go_sem, w6, lag]) rfl q0 rfl⟩
end
end
end Go.Proofs.YtpkhkghiidilcaaDoor.Sh
namespace Go.Proofs.YtpkhkghiidilcaaDoor.Sh
section
open Go
set_option maxRecDepth 100000
set_option maxHeartbeats 4000000
section
variable {H : SHeap} {n : Nat} {E : List (Int × Int)} {g : Nat} {bv sv : Value} {s : Nat → Int} {B : Int}
theorem BOX.fr {H' : SHeap} (b : BOX H n E g bv) (hle : H.length ≤ H'.length) (hf : ∀ j, j < H.length → H'[j]? = H[j]?) : BOX H' n E g bv := by
 obtain ⟨N, c1, c2, c3, e, k1, k2, ⟨o, k3⟩, k4⟩ := b.ex
 refine ⟨N, c1, c2, c3, e, by omega, k2.fr hle hf, ⟨o, by rw [hf _ (by omega)]; exact k3⟩, fun c hc => ?_⟩
 obtain ⟨x, q1, q2⟩ := k4 c hc
 exact ⟨x, by rw [load_same' (hf _ (by omega))]; exact q1, q2.fr hle hf⟩
theorem is33 (hn1 : 1 ≤ n) (hn : n ≤ 6) (hE : EOK n E) (hC : Conn n E) (hg : g < n) (b : BOX H n E g bv) (hs : IS H sv (lst n s)) (S : ST n s B) (hB : B ≤ 1000) :
  M.call 33 [bv, sv] H = some (.bool (decide (0 < mx n E g s)), H, []) := by
 refine call_run sf33 rfl rfl rfl ?_
 have FO := fok hn1 hn hC hg
 obtain ⟨N, c1, c2, c3, rfl, k1, k2, ⟨o, k3⟩, k4⟩ := b.ex
 have lst' := lst_len n s
 obtain ⟨va, vc, esv, _⟩ := id hs
 have ll : (lst n s).length = n := lst_len n s
 rw [ll] at esv
 have hb : ∀ v, v < n → 0 ≤ s v ∧ s v ≤ 1000 := fun v hv => ⟨S.nn v, by have := (S.bnd hn v).2; omega⟩
 have cell : ∀ bb : Value, loadS (H ++ [.cells [.int .i64 g, .slice (some ⟨N, 0, none⟩) n c1, .slice (some ⟨N + 1, 0, none⟩) (2 ^ hd (farE n E g) n) c2, .slice (some ⟨N + 2, 0, none⟩) (2 ^ hd (farE n E g) n) c3] 55 false 0 []]) none (.pointer (some ⟨H.length, 1, none⟩)) = some (.slice (some ⟨N, 0, none⟩) n c1) := fun _ => by rw [load_app0]; rfl
 have cell1 := cell (.bool true)
 have cell2 : loadS (H ++ [.cells [.int .i64 g, .slice (some ⟨N, 0, none⟩) n c1, .slice (some ⟨N + 1, 0, none⟩) (2 ^ hd (farE n E g) n) c2, .slice (some ⟨N + 2, 0, none⟩) (2 ^ hd (farE n E g) n) c3] 55 false 0 []]) none (.pointer (some ⟨H.length, 2, none⟩)) = some (.slice (some ⟨N + 1, 0, none⟩) (2 ^ hd (farE n E g) n) c2) := by rw [load_app0]; rfl
 obtain ⟨q1, q2⟩ := code64 FO (k2.app [.cells [.int .i64 g, .slice (some ⟨N, 0, none⟩) n c1, .slice (some ⟨N + 1, 0, none⟩) (2 ^ hd (farE n E g) n) c2, .slice (some ⟨N + 2, 0, none⟩) (2 ^ hd (farE n E g) n) c3] 55 false 0 []]) (hs.app _) hb
 subst esv
 unfold boxV sf33
 by_cases c0 : inBox (farE n E g) n s
 ·obtain ⟨c, e1, e2, e3⟩ := row_code (f := farE n E g) (n := n) (l := s) (fun v hv => ⟨S.nn v, c0 v hv⟩) (fun v hv => S.out v hv)
  have q := q1 c0
  rw [e1] at q
  rw [← hd_tl0] at e2
  have le : loadS (H ++ [.cells [.int .i64 g, .slice (some ⟨N, 0, none⟩) n c1, .slice (some ⟨N + 1, 0, none⟩) (2 ^ hd (farE n E g) n) c2, .slice (some ⟨N + 2, 0, none⟩) (2 ^ hd (farE n E g) n) c3] 55 false 0 []]) none (.pointer (some ⟨N + 1, c, none⟩)) = some (.bool (dcB n E g c)) := load_cell k3 rfl (bL_get _ e2) _
  have ed : dcB n E g c = decide (0 < mx n E g s) := by unfold dcB; rw [e3]
  rw [ed] at le
  have z1 : (0 : Int) ≤ c := by omega
  have z2 : (c : Int) < ((2 ^ hd (farE n E g) n : Nat) : Int) := by omega
  generalize decide (0 < mx n E g s) = D at *
  repeat (first | apply Z1 | apply Z2 | apply Z3 | apply Z4 | apply Z5 rfl | apply Z6 | apply Z7 | apply Z8 | apply Z9 | apply ZA | apply ZB | apply ZC | ((first | apply ZD (by decide) | apply ZN (by decide)); (simp (maxSteps := 9999999) only [go_sem, argR, cell1, cell2, q, le, z1, z2, Int.toNat_natCast]; rfl)) | (refine ZE ?_ ?_; · simp only [go_sem]) | (refine ZF ?_ ?_; · simp only [go_sem]))
  exact end_nil (q_ret1 _ (by simp only [go_sem]) rfl (take_of_same (by simp) (fun j hj => List.getElem?_append_left hj)))
 ·have q := q2 c0
  have : 0 < mx n E g s := by
   apply Decidable.byContradiction
   intro h
   exact c0 (fun v hv => unsolv_box hE hn hC hg S (by omega) hv)
  rw [decide_eq_true this]
  repeat (first | apply Z1 | apply Z2 | apply Z3 | apply Z4 | apply Z5 rfl | apply Z6 | apply Z7 | apply Z8 | apply Z9 | apply ZA | apply ZB | apply ZC | ((first | apply ZD (by decide) | apply ZN (by decide)); (simp (maxSteps := 9999999) only [go_sem, argR, cell1, q]; rfl)) | (refine ZE ?_ ?_; · simp only [go_sem]) | (refine ZF ?_ ?_; · simp only [go_sem]))
  exact end_nil (q_ret1 _ (by simp only [go_sem]) rfl (take_of_same (by simp) (fun j hj => List.getElem?_append_left hj)))
end
end
end Go.Proofs.YtpkhkghiidilcaaDoor.Sh
namespace Go.Proofs.YtpkhkghiidilcaaDoor.Sh
section
open Go
set_option maxRecDepth 100000
set_option maxHeartbeats 4000000
section
variable {H : SHeap} {n : Nat} {E : List (Int × Int)} {xv sv wv : Value} {s : Nat → Int} {w : List (Int × Int)} {g : Nat}
theorem isPlan34 (hn1 : 1 ≤ n) (hn : n ≤ 6) (hE : EOK n E) (hv : PS H xv E) (hlen : E.length ≤ 1000000) (hs : IS H sv (lst n s)) (S : ST n s 40) (hw : PS H wv w) (hwl : w.length ≤ 1000000) (hg : g < n) :
  M.call 34 [.int .i64 n, xv, sv, .int .i64 g, wv] H = some (.bool (plB n E s g w), H, []) := by
 refine call_run sf34 rfl rfl rfl ?_
 obtain ⟨ov, gg, c46, io⟩ := do46' hn hn1 hE hv hlen hs S hw hwl
 obtain ⟨b, o, c, rfl, l1⟩ := io.at' hg
 obtain ⟨wa, wc, rfl, _⟩ := id hw
 have z1 : (0 : Int) ≤ g := by omega
 have z2 : (g : Int) < n := by omega
 unfold plB sf34
 by_cases c0 : (doM n E s w).2 = w.length
 ·rw [c0] at c46
  by_cases c1 : (doM n E s w).1 g > 0
  ·rw [decide_eq_true ⟨c0, c1⟩]
   repeat (first | apply Z1 | apply Z2 | apply Z3 | apply Z4 | apply Z5 rfl | apply Z6 | apply Z7 | apply Z8 | apply Z9 | apply ZA | apply ZB | apply ZC | ((first | apply ZD (by decide) | apply ZN (by decide)); (simp (maxSteps := 9999999) only [go_sem, argR, c46, z1, z2, l1, c1, Int.toNat_natCast]; rfl)) | (refine ZE ?_ ?_; · simp only [go_sem]) | (refine ZF ?_ ?_; · simp only [go_sem]))
   exact end_nil (q_ret1 _ (by simp only [go_sem]) rfl (take_of_same (by simp) (fun j hj => List.getElem?_append_left hj)))
  ·rw [decide_eq_false (fun h => c1 h.2)]
   repeat (first | apply Z1 | apply Z2 | apply Z3 | apply Z4 | apply Z5 rfl | apply Z6 | apply Z7 | apply Z8 | apply Z9 | apply ZA | apply ZB | apply ZC | ((first | apply ZD (by decide) | apply ZN (by decide)); (simp (maxSteps := 9999999) only [go_sem, argR, c46, z1, z2, l1, c1, Int.toNat_natCast]; rfl)) | (refine ZE ?_ ?_; · simp only [go_sem]) | (refine ZF ?_ ?_; · simp only [go_sem]))
   exact end_nil (q_ret1 _ (by simp only [go_sem]) rfl (take_of_same (by simp) (fun j hj => List.getElem?_append_left hj)))
 ·have c2 : (((doM n E s w).2 : Int) = (w.length : Int)) = False := eq_false (by omega)
  rw [decide_eq_false (fun h => c0 h.1)]
  repeat (first | apply Z1 | apply Z2 | apply Z3 | apply Z4 | apply Z5 rfl | apply Z6 | apply Z7 | apply Z8 | apply Z9 | apply ZA | apply ZB | apply ZC | ((first | apply ZD (by decide) | apply ZN (by decide)); (simp (maxSteps := 9999999) only [go_sem, argR, c46, c2]; rfl)) | (refine ZE ?_ ?_; · simp only [go_sem]) | (refine ZF ?_ ?_; · simp only [go_sem]))
  exact end_nil (q_ret1 _ (by simp only [go_sem]) rfl (take_of_same (by simp) (fun j hj => List.getElem?_append_left hj)))
theorem r7_in (cx : Cx) (hn1 : 1 ≤ n) (hn : n ≤ 6) (hE : EOK n E) (he : errG n E = 0) (hv : PS H xv E) (hlen : E.length ≤ 1000000) (hs : IS H sv (lst n s)) (S : ST n s 40) {pv : Value} {p : List (Int × Int)} (hp : PS H pv p) (hpl : p.length ≤ 1000000) (hg : g < n) {ρ0 : Reg} :
  ∀ k ρ ms h' d', (∃ (j : Nat) (wv : Value) (w : List (Int × Int)), j + k = 2 ∧ PS H wv w ∧ w.length ≤ 1000000 ∧ (∀ r, r < 14 → ρ r = ρ0 r) ∧ ρ 5 = .int .i64 n ∧ ρ 6 = xv ∧ ρ 7 = .int .i64 g ∧ ρ 9 = sv ∧ ρ 11 = pv ∧ ρ 14 = wv ∧ ρ 15 = .int .i64 j ∧ ms = [] ∧ h' = H ∧ d' = []) →
  LoopW M cx 7 sf7L0 ρ ms h' d' (fun ex ρ' ms' h' d' => ms' = [] ∧ h' = H ∧ d' = [] ∧ ex = .exit 2 ∧ (∀ r, r < 14 → ρ' r = ρ0 r)) := by
 refine loop_run _ ?_
 rintro k ρ ms h d' ⟨j, wv, w, hk, hw, hwl, hreg, r5, r6, r7, r9, r11, r14, r15, rfl, rfl, rfl⟩
 unfold sf7L0
 by_cases c0 : k = 0
 ·have e1 : ¬ ((j : Int) < 2) := by omega
  repeat (first | apply Z1 | apply Z2 | apply Z3 | apply Z4 | apply Z5 rfl | apply Z6 | apply Z7 | apply Z8 | apply Z9 | apply ZA | apply ZB | apply ZC | ((first | apply ZD (by decide) | apply ZN (by decide)); (simp (maxSteps := 9999999) only [go_sem, r15, e1]; rfl)) | (refine ZE ?_ ?_; · simp only [go_sem]) | (refine ZF ?_ ?_; · simp only [go_sem]))
  exact end_nil ⟨rfl, rfl, rfl, rfl, fun r hr => by simp only [upd_get]; (repeat rw [if_neg (by omega)]); exact hreg r hr⟩
 ·have e1 : ((j : Int) < 2) := by omega
  have ew : IntKind.i64.wrap ((j : Int) + 1) = ((j + 1 : Nat) : Int) := by rw [wrap64 (by omega) (by omega)]; rfl
  have c36 := isPlan36 hv hlen he hs (by rw [lst_len]; omega) (S.sup hn) hg hw hwl
  rw [stk_lst S] at c36
  have c34 := isPlan34 hn1 hn hE hv hlen hs S hw hwl hg
  generalize plB n E s g w = D at *
  cases D with
  | true =>
   repeat (first | apply Z1 | apply Z2 | apply Z3 | apply Z4 | apply Z5 rfl | apply Z6 | apply Z7 | apply Z8 | apply Z9 | apply ZA | apply ZB | apply ZC | ((first | apply ZD (by decide) | apply ZN (by decide)); (simp (maxSteps := 9999999) only [go_sem, r5, r6, r7, r9, r11, r14, r15, e1, c36, c34, ew]; rfl)) | (refine ZE ?_ ?_; · simp only [go_sem]) | (refine ZF ?_ ?_; · simp only [go_sem]))
   exact end_nil ⟨k - 1, by omega, j + 1, pv, p, by omega, hp, hpl, fun r hr => by simp only [upd_get]; (repeat rw [if_neg (by omega)]); exact hreg r hr, by simp only [go_sem, r5], by simp only [go_sem, r6], by simp only [go_sem, r7], by simp only [go_sem, r9], by simp only [go_sem, r11], by simp only [go_sem, r11], by simp only [go_sem, ew], rfl, rfl, rfl⟩
  | false =>
   repeat (first | apply Z1 | apply Z2 | apply Z3 | apply Z4 | apply Z5 rfl | apply Z6 | apply Z7 | apply Z8 | apply Z9 | apply ZA | apply ZB | apply ZC | ((first | apply ZD (by decide) | apply ZN (by decide)); (simp (maxSteps := 9999999) only [go_sem, r5, r6, r7, r9, r11, r14, r15, e1, c36, c34, ew]; rfl)) | (refine ZE ?_ ?_; · simp only [go_sem]) | (refine ZF ?_ ?_; · simp only [go_sem]))
   exact end_nil ⟨k - 1, by omega, j + 1, pv, p, by omega, hp, hpl, fun r hr => by simp only [upd_get]; (repeat rw [if_neg (by omega)]); exact hreg r hr, by simp only [go_sem, r5], by simp only [go_sem, r6], by simp only [go_sem, r7], by simp only [go_sem, r9], by simp only [go_sem, r11], by simp only [go_sem, r11], by simp only [go_sem, ew], rfl, rfl, rfl⟩
theorem r7_out (cx : Cx) {Hb : SHeap} {bv lv wv : Value} {l : List Int} {W : List (Int × Int)} {tb lb : Nat} (hn1 : 1 ≤ n) (hn : n ≤ 6) (hE : EOK n E) (hC : Conn n E) (he : errG n E = 0) (hEl : E.length ≤ 1000000) (hg : g < n)
  (P : PS Hb xv E) (b : BOX Hb n E g bv) (hl : IS Hb lv l) (hll : l.length ≤ 9223372036854775807) (hw : PSc Hb wv W) (hW : W.length ≤ 9223372036854775807)
  (ldB : ∀ h : SHeap, (∀ j, j < Hb.length → h[j]? = Hb[j]?) → loadS h (some 4) (.pointer (some ⟨tb, 0, none⟩)) = some bv)
  (ldL : ∀ h : SHeap, (∀ j, j < Hb.length → h[j]? = Hb[j]?) → loadS h none (.pointer (some ⟨lb, 0, none⟩)) = some lv)
  (ldW : ∀ h : SHeap, (∀ j, j < Hb.length → h[j]? = Hb[j]?) → loadS h none (.pointer (some ⟨lb, 2, none⟩)) = some wv) :
  ∀ k ρ ms h' d', (∃ (i : Nat) (sv : Value) (s : Nat → Int), i + k = 2 ∧ Hb.length ≤ h'.length ∧ (∀ j, j < Hb.length → h'[j]? = Hb[j]?) ∧ IS h' sv (lst n s) ∧ ST n s 40 ∧ ρ 3 = .pointer (some ⟨lb, 0, none⟩) ∧ ρ 5 = .int .i64 n ∧ ρ 6 = xv ∧ ρ 7 = .int .i64 g ∧ ρ 8 = .pointer (some ⟨tb, 0, none⟩) ∧ ρ 9 = sv ∧ ρ 10 = .int .i64 i ∧ ms = [] ∧ d' = []) →
  LoopW M cx 7 sf7L1 ρ ms h' d' (fun ex _ ms' h' d' => ms' = [] ∧ d' = [] ∧ ex = .exit 0 ∧ Hb.length ≤ h'.length ∧ (∀ j, j < Hb.length → h'[j]? = Hb[j]?)) := by
 refine loop_run _ ?_
 rintro k ρ ms h d' ⟨i, sv, s, hk, hle, hfr, I0, S, r3, r5, r6, r7, r8, r9, r10, rfl, rfl⟩
 unfold sf7L1
 by_cases c0 : k = 0
 ·have e1 : ¬ ((i : Int) < 2) := by omega
  repeat (first | apply Z1 | apply Z2 | apply Z3 | apply Z4 | apply Z5 rfl | apply Z6 | apply Z7 | apply Z8 | apply Z9 | apply ZA | apply ZB | apply ZC | ((first | apply ZD (by decide) | apply ZN (by decide)); (simp (maxSteps := 9999999) only [go_sem, r10, e1]; rfl)) | (refine ZE ?_ ?_; · simp only [go_sem]) | (refine ZF ?_ ?_; · simp only [go_sem]))
  exact end_nil ⟨rfl, rfl, rfl, hle, hfr⟩
 ·have e1 : ((i : Int) < 2) := by omega
  have ew : IntKind.i64.wrap ((i : Int) + 1) = ((i + 1 : Nat) : Int) := by rw [wrap64 (by omega) (by omega)]; rfl
  obtain ⟨ok, p, a, c, h4, c28, ok1, ok2, ok3, pl, l4, f4, P4⟩ := planS (P.fr hfr) hEl he I0 S hn hg
  have g4 : ∀ j, j < Hb.length → h4[j]? = Hb[j]? := fun j hj => by rw [f4 j (by omega)]; exact hfr j hj
  have I4 := I0.fr l4 f4
  have c33 := is33 hn1 hn hE hC hg (b.fr (by omega) g4) I4 S (by decide)
  have eok : decide (0 < mx n E g s) = ok := by cases ok <;> simp at ok1 ⊢ <;> omega
  rw [eok] at c33
  have c34 := isPlan34 hn1 hn hE ((P.fr hfr).fr f4) hEl I4 S P4 (by rw [castE_len]; omega) hg
  have c35 := pairs35 (hw.fr g4) hW (most := 50) (by decide)
  rw [show ((50 : Nat) : Int) = 50 from rfl] at c35
  obtain ⟨k1, k2⟩ := resH_fr h4 (prs (W.take 50)) (W.take 50).length 45
  have P5 := PS_resI h4 (W.take 50) 45
  have w50 : (W.take 50).length ≤ 1000000 := by rw [List.length_take]; omega
  generalize resH h4 (prs (W.take 50)) (W.take 50).length 45 = h5 at *
  generalize resV h4 (W.take 50).length 2 = wv5 at *
  have g5 : ∀ j, j < Hb.length → h5[j]? = Hb[j]? := fun j hj => by rw [k2 j (by omega)]; exact g4 j hj
  have P45 := P4.fr k2
  obtain ⟨s2, S2, c16, I6⟩ := broughtS (H1 := h5) hn1 hn (hl.fr (by omega) g5) hll (most := 6) (by decide)
  rw [show ((6 : Nat) : Int) = 6 from rfl] at c16
  have lB := ldB h4 g4
  have lW := ldW h4 g4
  have lL := ldL h5 g5
  have z0 : ((0 : Nat) : Int) = 0 := rfl
  have l6 : Hb.length ≤ (h5 ++ [SO.cells (iV n s2) 3 true 0 []] : SHeap).length := by simp; omega
  have g6 : ∀ j, j < Hb.length → (h5 ++ [SO.cells (iV n s2) 3 true 0 []] : SHeap)[j]? = Hb[j]? := fun j hj => by rw [List.getElem?_append_left (by omega)]; exact g5 j hj
  cases ok with
  | true =>
   obtain ⟨t, t1, t2⟩ := ok2 rfl
   have pb : plB n E s g (castE p) = true := by
    unfold plB
    rw [t1, castE_len]
    exact decide_eq_true ⟨rfl, t2⟩
   rw [pb] at c34
   have c40 : ¬ ((p.length : Int) > 40) := by omega
   repeat (first | apply Z1 | apply Z2 | apply Z3 | apply Z4 | apply Z5 rfl | apply Z6 | apply Z7 | apply Z8 | apply Z9 | apply ZA | apply ZB | apply ZC | ((first | apply ZD (by decide) | apply ZN (by decide)); (simp (maxSteps := 9999999) only [go_sem, r3, r5, r6, r7, r8, r9, r10, e1, c28, lB, c33, c40, c34, lW, c35]; rfl)) | (refine ZE ?_ ?_; · simp only [go_sem]) | (refine ZF ?_ ?_; · simp only [go_sem]))
   refine run_loop (r7_in _ hn1 hn hE he ((P.fr hfr).fr f4 |>.fr k2) hEl (I4.fr k1 k2) S P45 (by rw [castE_len]; omega) hg 2 _ _ _ _ ⟨0, wv5, W.take 50, by omega, P5, w50, fun r _ => rfl, by simp only [go_sem, r5], by simp only [go_sem, r6], by simp only [go_sem, r7], by simp only [go_sem, r9], by simp only [go_sem], by simp only [go_sem], by simp only [go_sem] <;> rfl, rfl, rfl, rfl⟩) ?_
   rintro ex ρ2 ms2 h2 d2 ⟨rfl, rfl, rfl, rfl, K⟩
   have a3 : ρ2 3 = .pointer (some ⟨lb, 0, none⟩) := (K 3 (by decide)).trans (by simp only [go_sem, r3])
   have a5 : ρ2 5 = .int .i64 n := (K 5 (by decide)).trans (by simp only [go_sem, r5])
   have a6 : ρ2 6 = xv := (K 6 (by decide)).trans (by simp only [go_sem, r6])
   have a7 : ρ2 7 = .int .i64 g := (K 7 (by decide)).trans (by simp only [go_sem, r7])
   have a8 : ρ2 8 = .pointer (some ⟨tb, 0, none⟩) := (K 8 (by decide)).trans (by simp only [go_sem, r8])
   have a10 : ρ2 10 = .int .i64 i := (K 10 (by decide)).trans (by simp only [go_sem, r10])
   repeat (first | apply Z1 | apply Z2 | apply Z3 | apply Z4 | apply Z5 rfl | apply Z6 | apply Z7 | apply Z8 | apply Z9 | apply ZA | apply ZB | apply ZC | ((first | apply ZD (by decide) | apply ZN (by decide)); (simp (maxSteps := 9999999) only [go_sem, a3, a5, a10, lL, c16, ew]; rfl)) | (refine ZE ?_ ?_; · simp only [go_sem]) | (refine ZF ?_ ?_; · simp only [go_sem]))
   exact end_nil ⟨k - 1, by omega, i + 1, _, s2, by omega, l6, g6, I6, S2.mono (by decide), by simp only [go_sem, a3], by simp only [go_sem, a5], by simp only [go_sem, a6], by simp only [go_sem, a7], by simp only [go_sem, a8], by simp only [go_sem], by simp only [go_sem, ew], rfl, rfl⟩
  | false =>
   have hp0 := ok3 rfl
   have hpl : p.length = 0 := by rw [hp0]; rfl
   rw [hpl] at c28 P4 P45
   repeat (first | apply Z1 | apply Z2 | apply Z3 | apply Z4 | apply Z5 rfl | apply Z6 | apply Z7 | apply Z8 | apply Z9 | apply ZA | apply ZB | apply ZC | ((first | apply ZD (by decide) | apply ZN (by decide)); (simp (maxSteps := 9999999) only [go_sem, r3, r5, r6, r7, r8, r9, r10, e1, c28, lB, c33, z0, lW, c35]; rfl)) | (refine ZE ?_ ?_; · simp only [go_sem]) | (refine ZF ?_ ?_; · simp only [go_sem]))
   refine run_loop (r7_in _ hn1 hn hE he ((P.fr hfr).fr f4 |>.fr k2) hEl (I4.fr k1 k2) S P45 (by rw [castE_len]; omega) hg 2 _ _ _ _ ⟨0, wv5, W.take 50, by omega, P5, w50, fun r _ => rfl, by simp only [go_sem, r5], by simp only [go_sem, r6], by simp only [go_sem, r7], by simp only [go_sem, r9], by simp only [go_sem], by simp only [go_sem], by simp only [go_sem] <;> rfl, rfl, rfl, rfl⟩) ?_
   rintro ex ρ2 ms2 h2 d2 ⟨rfl, rfl, rfl, rfl, K⟩
   have a3 : ρ2 3 = .pointer (some ⟨lb, 0, none⟩) := (K 3 (by decide)).trans (by simp only [go_sem, r3])
   have a5 : ρ2 5 = .int .i64 n := (K 5 (by decide)).trans (by simp only [go_sem, r5])
   have a6 : ρ2 6 = xv := (K 6 (by decide)).trans (by simp only [go_sem, r6])
   have a7 : ρ2 7 = .int .i64 g := (K 7 (by decide)).trans (by simp only [go_sem, r7])
   have a8 : ρ2 8 = .pointer (some ⟨tb, 0, none⟩) := (K 8 (by decide)).trans (by simp only [go_sem, r8])
   have a10 : ρ2 10 = .int .i64 i := (K 10 (by decide)).trans (by simp only [go_sem, r10])
   repeat (first | apply Z1 | apply Z2 | apply Z3 | apply Z4 | apply Z5 rfl | apply Z6 | apply Z7 | apply Z8 | apply Z9 | apply ZA | apply ZB | apply ZC | ((first | apply ZD (by decide) | apply ZN (by decide)); (simp (maxSteps := 9999999) only [go_sem, a3, a5, a10, lL, c16, ew]; rfl)) | (refine ZE ?_ ?_; · simp only [go_sem]) | (refine ZF ?_ ?_; · simp only [go_sem]))
   exact end_nil ⟨k - 1, by omega, i + 1, _, s2, by omega, l6, g6, I6, S2.mono (by decide), by simp only [go_sem, a3], by simp only [go_sem, a5], by simp only [go_sem, a6], by simp only [go_sem, a7], by simp only [go_sem, a8], by simp only [go_sem], by simp only [go_sem, ew], rfl, rfl⟩
end
theorem law7M {H : SHeap} {N goal : Int} {ev lv wv : Value} {X W : List (Int × Int)} {l : List Int} (hv : PS H ev X) (hX : X.length ≤ 9223372036854775807) (hl : IS H lv l) (hll : l.length ≤ 9223372036854775807) (hw : PSc H wv W) (hW : W.length ≤ 9223372036854775807) :
  M.call 7 [.agg #[.int .i64 N, ev], .agg #[lv, .int .i64 goal, wv]] H = some (.bool true, H, []) := by
 refine call_run sf7 rfl rfl rfl ?_
 obtain ⟨n, f, E, xv, H1, T, _, hn1, hn, hE, hC, he, hEl, P1, ⟨xa, xc, exv⟩, G1, F1, c15⟩ := tameS (N := N) hv hX (most := 6) (by decide) (by decide) false [.cells [.int .i64 N, ev] 24 false 0 [], .cells [lv, .int .i64 goal, wv] 52 false 0 []]
 have hEl' : E.length ≤ 1000000 := by omega
 rw [show (H ++ [.cells [.int .i64 N, ev] 24 false 0 [], .cells [lv, .int .i64 goal, wv] 52 false 0 []] : SHeap).length = H.length + 2 by simp] at F1 G1
 have G1' : ∀ j, j < H.length → H1[j]? = H[j]? := fun j hj => by rw [G1 j (by omega), List.getElem?_append_left hj]
 have B1 : H1[H.length + 1]? = some (.cells [lv, .int .i64 goal, wv] 52 false 0 []) := by rw [G1 _ (by omega), app_get]; rfl
 have lx : loadS (H ++ [.cells [.int .i64 N, ev] 24 false 0 [], .cells [lv, .int .i64 goal, wv] 52 false 0 []]) (some 2) (.pointer (some ⟨H.length, 0, none⟩)) = some (.agg #[.int .i64 N, ev]) := by rw [load_appN0]; rfl
 have l1 : loadS H1 none (.pointer (some ⟨H.length + 1, 1, none⟩)) = some (.int .i64 goal) := by
  have := load_cell (o := 1) B1 rfl rfl []; rw [List.append_nil] at this; exact this
 have hg := uR_lt goal (m := n) (by omega)
 have um := uR_eq goal (m := n) (by omega)
 have hwu : IntKind.u64.wrap (n : Int) = n := wrapU (by omega) (by omega)
 have hne : ¬ (n : Int) = 0 := by omega
 have w6 : IntKind.i64.wrap ((uR goal n : Nat) : Int) = ((uR goal n : Nat) : Int) := wrap64 (by omega) (by omega)
 generalize uR goal n = g at *
 obtain ⟨bv, h4, c32, b4, l4, f4⟩ := newBox32 hn1 hn hE hC P1 hEl' hg
 obtain ⟨N', q1, q2, q3, ebv, _⟩ := b4.ex
 subst ebv
 obtain ⟨cs, ecs⟩ : ∃ cs, cs = [Value.int .i64 (g : Int), .slice (some ⟨N', 0, none⟩) n q1, .slice (some ⟨N' + 1, 0, none⟩) (2 ^ hd (farE n E g) n) q2, .slice (some ⟨N' + 2, 0, none⟩) (2 ^ hd (farE n E g) n) q3] := ⟨_, rfl⟩
 obtain ⟨h5, e5⟩ : ∃ h5, h5 = h4 ++ [SO.cells cs 55 false 0 []] := ⟨_, rfl⟩
 have l5 : h5.length = h4.length + 1 := by rw [e5]; simp
 have f5 : ∀ j, j < h4.length → h5[j]? = h4[j]? := fun j hj => by rw [e5]; exact List.getElem?_append_left hj
 have st : storeS H.length (h4 ++ [SO.cells [.int .i64 0, .slice none 0 0, .slice none 0 0, .slice none 0 0] 55 false 0 []]) [] h4.length 0 (cellsL (boxV g N' n (2 ^ hd (farE n E g) n) q1 q2 q3)) = some (h5, []) := by
  have := store_at (h := h4 ++ [SO.cells [.int .i64 0, .slice none 0 0, .slice none 0 0, .slice none 0 0] 55 false 0 []]) (b := h4.length) (base := H.length) (cs := [.int .i64 0, .slice none 0 0, .slice none 0 0, .slice none 0 0]) (vs := cs) (el := 55) (pf := false) (by rw [app_get0]; rfl) (by rw [ecs]; rfl) (by rw [ecs]; exact Nat.succ_pos _) (by rw [ecs]; rfl) (fun h => by cases h) []
  rw [dirty_own (by omega)] at this
  rw [show cellsL (boxV g N' n (2 ^ hd (farE n E g) n) q1 q2 q3) = cs by rw [ecs]; rfl, this, e5]
  simp
 have C5 : h5[h4.length]? = some (.cells cs 55 false 0 []) := by rw [e5, app_get0]; rfl
 have b5 := b4.fr (by omega) f5
 have P5 := (P1.fr f4).fr f5
 have G5 : ∀ j, j < H1.length → h5[j]? = H1[j]? := fun j hj => by rw [f5 j (by omega)]; exact f4 j hj
 have B5 : h5[H.length + 1]? = some (.cells [lv, .int .i64 goal, wv] 52 false 0 []) := by rw [G5 _ (by omega)]; exact B1
 have G5' : ∀ j, j < H.length → h5[j]? = H[j]? := fun j hj => by rw [G5 j (by omega)]; exact G1' j hj
 have ldB : ∀ h : SHeap, (∀ j, j < h5.length → h[j]? = h5[j]?) → loadS h (some 4) (.pointer (some ⟨h4.length, 0, none⟩)) = some (boxV g N' n (2 ^ hd (farE n E g) n) q1 q2 q3) := fun h hf => by
  have := load_all (n := 4) (h := h) (b := h4.length) (by rw [hf _ (by omega)]; exact C5) rfl (by rw [ecs]; rfl) []
  rw [List.append_nil, ecs] at this; exact this
 have ld : ∀ (o : Nat) (x : Value), [lv, .int .i64 goal, wv][o]? = some x → ∀ h : SHeap, (∀ j, j < h5.length → h[j]? = h5[j]?) → loadS h none (.pointer (some ⟨H.length + 1, o, none⟩)) = some x := fun o x hx h hf => by
  have := load_cell (o := o) (h := h) (b := H.length + 1) (by rw [hf _ (by omega)]; exact B5) rfl hx []
  rw [List.append_nil] at this; exact this
 have cl4 : (cellsL (boxV g N' n (2 ^ hd (farE n E g) n) q1 q2 q3)).length = 4 := rfl
 generalize boxV g N' n (2 ^ hd (farE n E g) n) q1 q2 q3 = bv at *
 have l0 := ld 0 lv rfl h5 (fun j _ => rfl)
 have I5 := hl.fr (by omega) G5'
 obtain ⟨s, S, c16, I6⟩ := broughtS (H1 := h5) hn1 hn I5 hll (most := 40) (by decide)
 rw [show ((6 : Nat) : Int) = 6 from rfl] at c15
 rw [show ((40 : Nat) : Int) = 40 from rfl] at c16
 obtain ⟨va, vc, rfl, _⟩ := id hv
 subst exv
 unfold sf7
 repeat (first | apply Z1 | apply Z2 | apply Z3 | apply Z4 | apply Z5 rfl | apply Z6 | apply Z7 | apply Z8 | apply Z9 | apply ZA | apply ZB | apply ZC | ((first | apply ZD (by decide) | apply ZN (by decide)); (simp (maxSteps := 9999999) only [go_sem, argR, lx, c15, l1, um, hwu, w6, hne, c32, ↓st, cl4, l0, c16]; rfl)) | (refine ZE ?_ ?_; · simp only [go_sem]) | (refine ZF ?_ ?_; · simp only [go_sem]))
 refine run_loop (r7_out (tb := h4.length) (lb := H.length + 1) _ hn1 hn hE hC he hEl' hg P5 b5 I5 hll (hw.fr G5') hW ldB (ld 0 lv rfl) (ld 2 wv rfl) 2 _ _ _ _ ⟨0, _, s, by omega, by simp, fun j hj => List.getElem?_append_left hj, I6, S, by simp only [go_sem], by simp only [go_sem], by simp only [go_sem], by simp only [go_sem], by simp only [go_sem], by simp only [go_sem], by simp only [go_sem] <;> rfl, rfl, rfl⟩) ?_
 rintro ex ρ2 ms2 h2 d2 ⟨rfl, rfl, rfl, q1, q2⟩
 have aw := awake_call h2
 repeat (first | apply Z1 | apply Z2 | apply Z3 | apply Z4 | apply Z5 rfl | apply Z6 | apply Z7 | apply Z8 | apply Z9 | apply ZA | apply ZB | apply ZC | ((first | apply ZD (by decide) | apply ZN (by decide)); (simp (maxSteps := 9999999) only [go_sem, aw]; rfl)) | (refine ZE ?_ ?_; · simp only [go_sem]) | (refine ZF ?_ ?_; · simp only [go_sem]))
 exact end_nil (q_ret1 _ (by simp only [go_sem]) rfl (take_of_same (by omega) (fun j hj => by rw [q2 j (by omega)]; exact G5' j hj)))
end
end Go.Proofs.YtpkhkghiidilcaaDoor.Sh
namespace Go.Proofs.YtpkhkghiidilcaaDoor
open Go Go.RowKit Sh
set_option maxRecDepth 100000
theorem supplyPlans.walk {a1 : Option Addr} {n1 c1 : Nat} {X1 : List (Int × Int)} {N0 : Int} {a2 : Option Addr} {n2 c2 : Nat} {X2 : List Int} {G1 : Int} {a3 : Option Addr} {n3 c3 : Nat} {X3 : List (Int × Int)} (W : World) (hg : GlobW Tryd.prog W) (h1 : IsPrs W a1 n1 c1 X1) (h2 : IsIntsW W a2 n2 c2 X2) (h3 : IsPrs W a3 n3 c3 X3) :
  Calls Tryd.prog 7 #[.agg #[.int .i64 N0, .slice a1 n1 c1], .agg #[.slice a2 n2 c2, .int .i64 G1, .slice a3 n3 c3]] W (fun e W' => e = .returned (.bool true) ∧ Below W.heap.size W W') := by
 obtain ⟨x1, b1, r1, k1⟩ := prs_arg h1
 obtain ⟨x2, b2, r2, k2⟩ := ints_arg h2
 obtain ⟨x3, b3, r3, k3⟩ := prs_arg h3
 obtain ⟨u1, v1, p1⟩ := k1 [] (b2 ++ b3)
 obtain ⟨u2, v2, p2⟩ := k2 b1 b3
 obtain ⟨u3, v3, p3⟩ := k3 (b1 ++ b2) []
 simp only [List.nil_append, List.append_nil, List.append_assoc] at v1 p1 v2 p2 v3 p3
 exact walk_rel mixed tab (flatK_ok CA_ok) (Rel.ro hg (r1.app (r2.app r3))) (LR.cons (VR.agg2 (.int _ _) v1) (LR.cons (VR.agg3 v2 (.int _ _) v3) (LR.nil _))) (law7M p1.ps x1 p2.is x2 p3 x3) rfl
end Go.Proofs.YtpkhkghiidilcaaDoor
