/- Arguments of the laws: graphs. -/
import Derived.Test.YtpkhkghiidilcaaDoorH45
import Derived.Test.YtpkhkghiidilcaaDoorH47
import Derived.WideShapes
import Derived.ChangeArms
import Derived.Test.YtpkhkghiidilcaaDoorH46
set_option linter.all false
namespace Go.Proofs.YtpkhkghiidilcaaDoor.Sh
open Go Go.RowKit Go.WideShapes Go.ChangeShapes
set_option maxRecDepth 100000
theorem u24 : ∃ f0 f1 : Field, Tryd.prog.underlying 24 = some (.struct #[f0, f1]) ∧ f0.type = 3 ∧ f0.offset = 0 ∧ f1.type = 22 ∧ f1.offset = 1 := st2_ok (by kernel_rfl)
theorem ct24 : Tryd.prog.cellTypes Tryd.prog.depth 24 = some [3, 22] := by kernel_rfl
theorem cells24 : Tryd.prog.cellsOf 24 = 2 := by kernel_rfl
theorem cells22 : Tryd.prog.cellsOf 22 = 1 := by kernel_rfl
theorem cells45 : Tryd.prog.cellsOf 45 = 2 := by kernel_rfl
theorem u22 : Tryd.prog.underlying 22 = some (.slice 45) := by kernel_rfl
theorem u45 : Tryd.prog.underlying 45 = some (.array 2 3) := by kernel_rfl
theorem open_graph {H : Type} {enc : TypeId × Value → H} {W : World} {base b0 : Nat} {spare : Nat → Bool} {held : Bool} {v : Value} {d : DataW H} {ps : List MemPlace}
    (hval : Value.okWide Tryd.prog W .any b0 24 v) (h : DataW.Trod enc Tryd.prog W base spare held 24 v d ps) : ∃ N a len cap X, v = .agg #[.int .i64 N, .slice a len cap] ∧ IsPrs W a len cap X := by
  obtain ⟨f0, f1, hu, t0, o0, t1, o1⟩ := u24
  simp only [Value.okWide, hu] at hval
  obtain ⟨cs, rfl, hsz, ts, hts, _, hrow⟩ := hval
  rw [ct24] at hts
  cases hts
  obtain ⟨fuel, hf⟩ := h
  have hf' : DataW.trod enc Tryd.prog W base spare held fuel 24 cs.toList = some (d, ps) := hf
  obtain ⟨y0, y1, n, hx, hl, h0, h1⟩ := trod_struct2 hu hf'
  rw [cells24] at hl
  rw [t0, o0, cells3] at h0
  rw [t1, o1, cells22] at h1
  match hcs : cs.toList, hl with
  | [c0, c1], _ =>
    rw [hcs] at h0 h1
    simp only [List.drop_zero, List.drop_succ_cons, List.take_succ_cons, List.take_zero] at h0 h1
    obtain ⟨n0, e0, _, _⟩ := DataW.trod_int u3 h0
    simp only [List.cons.injEq, and_true] at e0
    have e2 : cs = #[c0, c1] := Array.ext' hcs
    obtain ⟨u, hu1, hok⟩ := hrow 1 c1 (by rw [e2]; rfl)
    cases hu1
    have hv1 : Value.okWide Tryd.prog W .any b0 22 c1 := by simp only [Value.okWide, u22]; exact hok
    obtain ⟨a, len, cap, rfl⟩ := okWide_slice u22 hv1
    obtain ⟨X, hX⟩ := isPrs_of u22 u45 u3 cells45 cells3 hv1 (⟨n, h1⟩ : DataW.Trod enc Tryd.prog W base spare held 22 (.slice a len cap) y1.1 y1.2)
    exact ⟨n0, a, len, cap, X, by rw [e2, e0], hX⟩
end Go.Proofs.YtpkhkghiidilcaaDoor.Sh

namespace Go.Proofs.YtpkhkghiidilcaaDoor.Sh
open Go
set_option maxRecDepth 100000
set_option maxHeartbeats 4000000
end Go.Proofs.YtpkhkghiidilcaaDoor.Sh

namespace Go.Proofs.YtpkhkghiidilcaaDoor.Sh
open Go
set_option maxRecDepth 100000
set_option maxHeartbeats 4000000
section
variable {H : SHeap} {v sv wv : Value} {E : List (Int × Int)} {l : List Int} {n : Int}
end
end Go.Proofs.YtpkhkghiidilcaaDoor.Sh

namespace Go.Proofs.YtpkhkghiidilcaaDoor.Sh
open Go
set_option maxRecDepth 100000
set_option maxHeartbeats 4000000
end Go.Proofs.YtpkhkghiidilcaaDoor.Sh

namespace Go.Proofs.YtpkhkghiidilcaaDoor.Sh
open Go Go.RowKit Go.WideShapes Go.ChangeShapes
set_option maxRecDepth 100000
def st3 (d : Option TypeDesc) (t0 o0 t1 o1 t2 o2 : Nat) : Bool := match d with
  | some (.struct fs) => match fs.toList with
    | [f0, f1, f2] => Nat.beq f0.type t0 && Nat.beq f0.offset o0 && Nat.beq f1.type t1 && Nat.beq f1.offset o1 && Nat.beq f2.type t2 && Nat.beq f2.offset o2
    | _ => false
  | _ => false
end Go.Proofs.YtpkhkghiidilcaaDoor.Sh

namespace Go.Proofs.YtpkhkghiidilcaaDoor.Sh
open Go
set_option maxRecDepth 100000
set_option maxHeartbeats 4000000
section
variable {H : SHeap} {N : Int} {ev lv : Value} {X : List (Int × Int)} {l : List Int}
theorem tameS (hv : PS H ev X) (hX : X.length ≤ 9223372036854775807) {most : Nat} (hm1 : 1 ≤ most) (hm : most ≤ 6) (tr : Bool) (x : SHeap) :
    ∃ (n : Nat) (f : Nat → Bool) (E : List (Int × Int)) (xv : Value) (H1 : SHeap), TM most tr n f ∧ E = castE (edg f 36) ∧ 1 ≤ n ∧ n ≤ most ∧ EOK n E ∧ Conn n E ∧ errG n E = 0 ∧ E.length ≤ 36 ∧ PS H1 xv E ∧ (∃ a c, xv = .slice a E.length c) ∧ (∀ j, j < (H ++ x).length → H1[j]? = (H ++ x)[j]?) ∧ (H ++ x).length ≤ H1.length ∧
      M.call 15 [.agg #[.int .i64 N, ev], .int .i64 most, .bool tr] (H ++ x) = some (.tuple #[.int .i64 n, xv], H1, []) := by
  obtain ⟨n, f, T, c15⟩ := tame15 (H := H ++ x) (N := N) (hv.app _) hX (most := most) hm1 hm tr
  have he := T.err hm
  obtain ⟨m, em, hn1, hn, hE, hC⟩ := errG_ok he
  obtain rfl : n = m := by omega
  have P1 := PS_res (H ++ x) (edg f 36) 45
  obtain ⟨k1, k2⟩ := resH_fr (H ++ x) (prN (edg f 36)) (edg f 36).length 45
  refine ⟨n, f, _, _, _, T, rfl, hn1, T.n2, hE, hC, he, ?_, P1, ?_, k2, k1, c15⟩
  · rw [castE_len]; exact edg_len f 36
  · obtain ⟨a, c, e, _⟩ := P1
    exact ⟨a, c, e⟩
theorem lst_sum {n : Nat} {s : Nat → Int} {B : Int} (hn : n ≤ 6) (S : ST n s B) : (lst n s).sum = tot s := by
  rw [← tot_lin hn S]
  have : ∀ k, (lst k s).sum = lin k (fun _ => 1) s := by
    intro k
    induction k with
    | zero => rfl
    | succ k ih =>
      show _ = lin k _ s + 1 * s k
      rw [← ih]
      unfold lst
      rw [List.range_succ]
      simp
  exact this n
end
end Go.Proofs.YtpkhkghiidilcaaDoor.Sh

namespace Go.Proofs.YtpkhkghiidilcaaDoor.Sh
open Go
set_option maxRecDepth 100000
set_option maxHeartbeats 4000000
section
variable {n : Nat} {E : List (Int × Int)}
section
variable {H : SHeap} {gr : Nat}
end
end
end Go.Proofs.YtpkhkghiidilcaaDoor.Sh

namespace Go.Proofs.YtpkhkghiidilcaaDoor.Sh
open Go
set_option maxRecDepth 100000
set_option maxHeartbeats 1000000
def tl (f : Nat → Nat) (n : Nat) : Nat → Nat
  | 0 => 0
  | k + 1 => f (n - (k + 1)) + tl f n k
def tlF (f : Nat → Nat) (n m : Nat) : Nat := tl f n (n - m)
def rowF (f : Nat → Nat) (n c : Nat) : Nat → Int := fun v => if v < n then ((c / 2 ^ tlF f n (v + 1) % 2 ^ f v : Nat) : Int) else 0
def hd (f : Nat → Nat) : Nat → Nat
  | 0 => 0
  | k + 1 => hd f k + f k
section
variable {n : Nat} {E : List (Int × Int)}
end
end Go.Proofs.YtpkhkghiidilcaaDoor.Sh

namespace Go.Proofs.YtpkhkghiidilcaaDoor.Sh
open Go
set_option maxRecDepth 100000
set_option maxHeartbeats 4000000
def fI (f : Nat → Nat) : Nat → Int := fun v => (f v : Int)
structure FOK (f : Nat → Nat) (n : Nat) : Prop where
  n1 : 1 ≤ n
  n6 : n ≤ 6
  le : ∀ v, v < n → f v ≤ 5
  sm : hd f n ≤ 15
section
variable {f : Nat → Nat} {n : Nat} {H : SHeap} {fv lv : Value} {l : Nat → Int}
theorem IS.at' {v : Value} {s : Nat → Int} (hv : IS H v (lst n s)) {i : Nat} (hi : i < n) : ∃ b o c, v = .slice (some ⟨b, o, none⟩) n c ∧ loadS H none (.pointer (some ⟨b, o + i, none⟩)) = some (.int .i64 (s i)) := by
  have ll := lst_len n s
  obtain ⟨b1, o1, cp1, rfl, ld1⟩ := hv.ld (by intro e; rw [e] at ll; simp at ll; omega)
  have l1 := ld1 i (by omega)
  rw [← stk_at (by omega), lst_at _ hi] at l1
  exact ⟨b1, o1, cp1, by rw [ll], l1⟩
end
end Go.Proofs.YtpkhkghiidilcaaDoor.Sh

namespace Go.Proofs.YtpkhkghiidilcaaDoor.Sh
open Go
set_option maxRecDepth 100000
set_option maxHeartbeats 4000000
section
variable {n : Nat} {E : List (Int × Int)}
end
end Go.Proofs.YtpkhkghiidilcaaDoor.Sh

namespace Go.Proofs.YtpkhkghiidilcaaDoor.Sh
open Go
set_option maxRecDepth 100000
set_option maxHeartbeats 4000000
theorem AccF.first {lo : Nat} {h : SHeap} {x : Value} {el : TypeId} {bs bytes : Nat} (hlo : lo ≤ h.length) {el2 : TypeId} {pf2 : Bool} {own2 : Nat} {old2 : List Nat}
    (hs : h[bs]? = some (.cells [x] el2 pf2 own2 old2)) (hr : readable own2 = true) (hx : oneC x = true) (hb0 : 0 < bytes) (hb : bytes ≤ 140737488355328) :
    (∀ (base : Nat) (d : List Nat), appendS base h d el false 1 bytes (.slice none 0 0) (.slice (some ⟨bs, 0, none⟩) 1 1) = some (.slice (some ⟨h.length, 0, none⟩) 1 (UNK + 1), h ++ [.cells [x] el false 0 []], d)) ∧ AccF lo (h ++ [.cells [x] el false 0 []]) (.slice (some ⟨h.length, 0, none⟩) 1 (UNK + 1)) [x] el h.length := by
  have hseen : rdN h bs 0 (1 * 1) = some [x] := by
    rw [rdN_def, hs]
    dsimp only
    rw [hr]; rfl
  have hone : [x].all oneC = true := by simp [hx]
  have e4 : Nat.ble ((0 + 1) * bytes) 140737488355328 = true := by rw [ble_dec]; simpa using hb
  have e5 : Nat.blt 0 bytes = true := by rw [blt_dec]; simpa using hb0
  refine ⟨fun base d => ?_, ⟨by simp, hone, hlo, UNK + 1, [], rfl, by simp, .inl ⟨rfl, fun y hy => by cases hy⟩⟩⟩
  unfold appendS
  simp only [lenS, seenS, hseen, e4, e5, hone]
  simp [-List.all_eq_true, hone]
structure ROW (H0 : SHeap) (f : Nat → Nat) (n c : Nat) (v : Value) (h : SHeap) : Prop where
  le : H0.length ≤ h.length
  low : ∀ j, j < H0.length → h[j]? = H0[j]?
  acc : (c = 0 ∧ v = .slice none 0 0) ∨ ∃ b cs, AccF H0.length h v cs 25 b ∧ cs.length = c ∧ ∀ j, j < c → ∃ rb, cs[j]? = some (.slice (some ⟨rb, 0, none⟩) n n) ∧ H0.length ≤ rb ∧ h[rb]? = some (.cells (iV n (rowF f n j)) 3 true 0 [])
section
variable {H0 : SHeap} {f : Nat → Nat} {n c : Nat} {v : Value} {h : SHeap}
theorem ROW.app (R : ROW H0 f n c v h) (g : SHeap) : ROW H0 f n c v (h ++ g) := by
  have hle := R.le
  refine ⟨by simp; omega, fun j hj => by rw [List.getElem?_append_left (by omega)]; exact R.low j hj, R.acc.imp id ?_⟩
  rintro ⟨b, cs, A, h1, h2⟩
  refine ⟨b, cs, A.keep (List.getElem?_append_left A.lt), h1, fun j hj => ?_⟩
  obtain ⟨rb, q1, q2, q3⟩ := h2 j hj
  exact ⟨rb, q1, q2, by rw [List.getElem?_append_left (List.getElem?_eq_some_iff.1 q3).1]; exact q3⟩
theorem ROW.shape (R : ROW H0 f n c v h) : ∃ a cc, v = .slice a c cc := by
  rcases R.acc with ⟨rfl, rfl⟩ | ⟨b, cs, A, h1, _⟩
  · exact ⟨none, 0, rfl⟩
  · obtain ⟨cc, old, e, _⟩ := A.shp
    exact ⟨_, cc, by rw [e, h1]⟩
theorem ROW.el (R : ROW H0 f n c v h) {j : Nat} (hj : j < c) : ∃ b cc rb, v = .slice (some ⟨b, 0, none⟩) c cc ∧ loadS h none (.pointer (some ⟨b, j, none⟩)) = some (.slice (some ⟨rb, 0, none⟩) n n) ∧ IS h (.slice (some ⟨rb, 0, none⟩) n n) (lst n (rowF f n j)) := by
  rcases R.acc with ⟨rfl, rfl⟩ | ⟨b, cs, A, h1, h2⟩
  · omega
  · obtain ⟨cc, old, e, k, _⟩ := A.shp
    obtain ⟨rb, q1, q2, q3⟩ := h2 j hj
    have := load_cell (o := j) k rfl q1 []
    rw [List.append_nil] at this
    exact ⟨b, cc, rb, by rw [e, h1], this, IS.lstAt q3 rfl⟩
theorem ROW.push (R : ROW H0 f n c v h) {rb : Nat} (hrb : h[rb]? = some (.cells (iV n (rowF f n c)) 3 true 0 [])) (hlo : H0.length ≤ rb) (hc : c ≤ 1000000) :
    ∃ b2 H2, (∀ (base : Nat) (d : List Nat), appendS base (h ++ [.cells [.slice (some ⟨rb, 0, none⟩) n n] 25 false 0 []]) d 25 false 1 24 v (.slice (some ⟨h.length, 0, none⟩) 1 1) = some (.slice (some ⟨b2, 0, none⟩) (c + 1) (UNK + 1), H2, d)) ∧ ROW H0 f n (c + 1) (.slice (some ⟨b2, 0, none⟩) (c + 1) (UNK + 1)) H2 := by
  have R1 := R.app [.cells [.slice (some ⟨rb, 0, none⟩) n n] 25 false 0 []]
  have ht : (h ++ [.cells [.slice (some ⟨rb, 0, none⟩) n n] 25 false 0 []] : SHeap)[h.length]? = some (.cells [.slice (some ⟨rb, 0, none⟩) n n] 25 false 0 []) := by rw [app_get0]; rfl
  have hr1 : (h ++ [.cells [.slice (some ⟨rb, 0, none⟩) n n] 25 false 0 []] : SHeap)[rb]? = some (.cells (iV n (rowF f n c)) 3 true 0 []) := by rw [List.getElem?_append_left (List.getElem?_eq_some_iff.1 hrb).1]; exact hrb
  generalize hG : (h ++ [.cells [.slice (some ⟨rb, 0, none⟩) n n] 25 false 0 []] : SHeap) = G at *
  have hle := R1.le
  rcases R1.acc with ⟨rfl, rfl⟩ | ⟨b, cs, A, h1, h2⟩
  · obtain ⟨ap, A2⟩ := AccF.first (el := 25) (bytes := 24) hle ht rfl rfl (by decide) (by decide)
    refine ⟨_, _, ap, ⟨by simp; omega, fun j hj => by rw [List.getElem?_append_left (by omega)]; exact R1.low j hj, .inr ⟨_, _, A2, rfl, fun j hj => ?_⟩⟩⟩
    have : j = 0 := by omega
    subst this
    exact ⟨rb, rfl, hlo, by rw [List.getElem?_append_left (List.getElem?_eq_some_iff.1 hr1).1]; exact hr1⟩
  · have hlo2 := A.low
    obtain ⟨H2, ap, A2, l2, k2⟩ := A.push (bytes := 24) ht rfl rfl (by decide) (by omega)
    rw [h1] at ap A2
    have hnb : ∀ (r : Nat) (s : Nat → Int), G[r]? = some (.cells (iV n s) 3 true 0 []) → r ≠ b := fun r s hr e => by
      obtain ⟨cc, old, _, k, _⟩ := A.shp
      rw [e, k] at hr
      injection hr with hr
      injection hr with _ _ hr
      cases hr
    refine ⟨_, _, ap, ⟨by omega, fun j hj => by rw [k2 j (by omega) (by omega)]; exact R1.low j hj, .inr ⟨_, _, A2, by simp [h1], fun j hj => ?_⟩⟩⟩
    by_cases e : j < c
    · obtain ⟨r, q1, q2, q3⟩ := h2 j e
      exact ⟨r, by rw [List.getElem?_append_left (by omega)]; exact q1, q2, by rw [k2 r (List.getElem?_eq_some_iff.1 q3).1 (hnb r _ q3)]; exact q3⟩
    · have : j = c := by omega
      subst this
      exact ⟨rb, by rw [List.getElem?_append_right (by omega), h1, Nat.sub_self]; rfl, hlo, by rw [k2 rb (List.getElem?_eq_some_iff.1 hr1).1 (hnb rb _ hr1)]; exact hr1⟩
end
structure BYS (H1 : SHeap) (f : Nat → Nat) (n c : Nat) (Ls : Nat → List Nat) (h : SHeap) : Prop where
  le : H1.length < h.length
  low : ∀ j, j < H1.length → h[j]? = H1[j]?
  cells : ∃ bv : Nat → Value, h[H1.length]? = some (.cells ((List.range 64).map bv) 25 false 0 []) ∧ (∀ s, s < 64 → Acc (H1.length + 1) h (bv s) ((Ls s).map nI) (Ls s).length 1 3) ∧
    ∀ s s' b m cc b' m' cc', s < 64 → s' < 64 → s ≠ s' → bv s = .slice (some ⟨b, 0, none⟩) m cc → bv s' = .slice (some ⟨b', 0, none⟩) m' cc' → b ≠ b'
  ls : ∀ s, ∀ x ∈ Ls s, x < c ∧ tot (rowF f n x) = s
  all : ∀ x, x < c → x ∈ Ls (tot (rowF f n x)).toNat
  len : ∀ s, (Ls s).length ≤ c
section
variable {H1 : SHeap} {f : Nat → Nat} {n m : Nat} {rv : Value}
end
end Go.Proofs.YtpkhkghiidilcaaDoor.Sh

namespace Go.Proofs.YtpkhkghiidilcaaDoor.Sh
open Go
set_option maxRecDepth 100000
set_option maxHeartbeats 4000000
def bL (m : Nat) (en : Nat → Bool) : List Value := (List.range m).map fun c => .bool (en c)
theorem bL_len (m : Nat) (en : Nat → Bool) : (bL m en).length = m := by simp [bL]
theorem bL_get {m c : Nat} (en : Nat → Bool) (h : c < m) : (bL m en)[c]? = some (.bool (en c)) := by simp [bL, h]
theorem bL_set {m c : Nat} (en : Nat → Bool) (h : c < m) (x : Bool) : (bL m en).set c (.bool x) = bL m (up en c x) := by
  apply List.ext_getElem?
  intro i
  by_cases e : i = c
  · subst e
    rw [List.getElem?_set_self (by rw [bL_len]; exact h), bL_get _ h]; simp [up]
  · rw [List.getElem?_set_ne (by omega)]
    by_cases e2 : i < m
    · rw [bL_get _ e2, bL_get _ e2]; simp [up, e]
    · rw [List.getElem?_eq_none (by rw [bL_len]; omega), List.getElem?_eq_none (by rw [bL_len]; omega)]
structure TE (H1 : SHeap) (m : Nat) (en : Nat → Bool) (h : SHeap) : Prop where
  le : H1.length < h.length
  low : ∀ j, j < H1.length → h[j]? = H1[j]?
  eb : h[H1.length]? = some (.cells (bL m en) 4 true 0 [])
theorem TE.app {H1 : SHeap} {m : Nat} {en : Nat → Bool} {h : SHeap} (T : TE H1 m en h) (g : SHeap) : TE H1 m en (h ++ g) := by
  have hle := T.le
  exact ⟨by simp; omega, fun j hj => by rw [List.getElem?_append_left (by omega)]; exact T.low j hj, by rw [List.getElem?_append_left hle]; exact T.eb⟩
theorem TE.put {H1 : SHeap} {m : Nat} {en : Nat → Bool} {h : SHeap} (T : TE H1 m en h) {c : Nat} (hc : c < m) (x : Bool) : (∀ base, storeS base h [] H1.length c (cellsL (.bool x)) = some (h.set H1.length (.cells (bL m (up en c x)) 4 true 0 []), [])) ∧ TE H1 m (up en c x) (h.set H1.length (.cells (bL m (up en c x)) 4 true 0 [])) := by
  refine ⟨fun base => ?_, by simp; exact T.le, fun j hj => by rw [List.getElem?_set_ne (by omega)]; exact T.low j hj, by rw [List.getElem?_set_self T.le]⟩
  have := store_cell (h := h) (base := base) (b := H1.length) (o := c) (c := .bool x) T.eb (by rw [bL_len]; exact hc) rfl (fun _ => rfl) []
  rw [bL_set _ hc] at this
  rw [cells_bool, this]; rfl
theorem TE.ld {H1 : SHeap} {m : Nat} {en : Nat → Bool} {h : SHeap} (T : TE H1 m en h) {c : Nat} (hc : c < m) : loadS h none (.pointer (some ⟨H1.length, c, none⟩)) = some (.bool (en c)) := by
  have := load_cell (o := c) T.eb rfl (bL_get en hc) []
  rw [List.append_nil] at this; exact this
section
variable {n : Nat} {E : List (Int × Int)} {g : Nat}
structure FH (H1 : SHeap) (n : Nat) (E : List (Int × Int)) (g : Nat) (ev fv rv : Value) (yb : Nat) (Ls : Nat → List Nat) : Prop where
  pe : PS H1 ev E
  pf : IS H1 fv (lst n (fI (farE n E g)))
  rows : ∀ c, c < 2 ^ hd (farE n E g) n → ∃ b cc rb, rv = .slice (some ⟨b, 0, none⟩) (2 ^ hd (farE n E g) n) cc ∧ loadS H1 none (.pointer (some ⟨b, c, none⟩)) = some (.slice (some ⟨rb, 0, none⟩) n n) ∧ IS H1 (.slice (some ⟨rb, 0, none⟩) n n) (lst n (rowF (farE n E g) n c)) ∧ b < H1.length
  yl : yb < H1.length
  bys : ∀ s, s < 64 → ∃ v, loadS H1 none (.pointer (some ⟨yb, s, none⟩)) = some v ∧ (∃ a c, v = .slice a (Ls s).length c) ∧ ∀ (j : Nat) (hj : j < (Ls s).length), ∃ bb cc, v = .slice (some ⟨bb, 0, none⟩) (Ls s).length cc ∧ bb < H1.length ∧ loadS H1 none (.pointer (some ⟨bb, j, none⟩)) = some (.int .i64 ((Ls s)[j] : Nat))
  ls : ∀ s, ∀ x ∈ Ls s, x < 2 ^ hd (farE n E g) n ∧ tot (rowF (farE n E g) n x) = s
  all : ∀ x, x < 2 ^ hd (farE n E g) n → x ∈ Ls (tot (rowF (farE n E g) n x)).toNat
  len : ∀ s, (Ls s).length ≤ 32768
section
variable {H1 : SHeap} {ev fv rv : Value} {yb : Nat} {Ls : Nat → List Nat}
end
end
end Go.Proofs.YtpkhkghiidilcaaDoor.Sh

