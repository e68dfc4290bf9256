/- Maps from stocks; a range over a function that is left by an exit. -/
import Derived.Test.YtpkhkghiidilcaaDoorH45
import Derived.Test.YtpkhkghiidilcaaDoorH41
set_option linter.all false
namespace Go.Proofs.YtpkhkghiidilcaaDoor.Sh
open Go
set_option maxRecDepth 100000
set_option maxHeartbeats 1000000
def q6 : EqK := .agg [.int, .int, .int, .int, .int, .int]
def zout (s : Nat → Int) : Prop := ∀ v, 6 ≤ v → s v = 0
theorem eqL_ints : ∀ (l l' : List Int), l.length = l'.length → eqList (l.map fun _ => CK.int) (l.map mkI) (l'.map mkI) = some (decide (l = l'))
  | [], [], _ => rfl
  | a :: l, b :: l', h => by
    have ih := eqL_ints l l' (by simpa using h)
    show (match eqCell .int (.int .i64 a) (.int .i64 b) with
      | some true => eqList _ (l.map mkI) (l'.map mkI)
      | some false => some false
      | none => none) = _
    have e : eqCell .int (.int .i64 a) (.int .i64 b) = some (a == b) := by simp [eqCell]
    rw [e, ih]
    by_cases c : a = b
    · subst c; simp
    · have : (a == b) = false := beq_eq_false_iff_ne.2 c
      rw [this]; simp [c]
theorem st_lst (s : Nat → Int) : iV 6 s = (lst 6 s).map mkI := by simp [iV, lst, mkI]
theorem eq6 {s t : Nat → Int} (hs : zout s) (ht : zout t) : eqS q6 (stV s) (stV t) = some true ∧ s = t ∨ eqS q6 (stV s) (stV t) = some false ∧ s ≠ t := by
  have e : eqS q6 (stV s) (stV t) = some (decide (lst 6 s = lst 6 t)) := by
    show eqList _ (iV 6 s) (iV 6 t) = _
    rw [st_lst, st_lst]
    exact eqL_ints (lst 6 s) (lst 6 t) rfl
  rw [e]
  by_cases c : lst 6 s = lst 6 t
  · refine .inl ⟨by rw [decide_eq_true c], funext fun v => ?_⟩
    by_cases cv : v < 6
    · rw [← lst_at s cv, ← lst_at t cv, c]
    · rw [hs v (by omega), ht v (by omega)]
  · exact .inr ⟨by rw [decide_eq_false c], fun h => c (by rw [h])⟩
def ents (S : List ((Nat → Int) × Value)) : List (Value × Value) := S.map fun e => (stV e.1, e.2)
theorem find6 {t : Nat → Int} (ht : zout t) : ∀ S : List ((Nat → Int) × Value), (∀ e ∈ S, zout e.1) → (findS q6 (stV t) (ents S) = some none ∧ ∀ e ∈ S, e.1 ≠ t) ∨ ∃ v, findS q6 (stV t) (ents S) = some (some v) ∧ (t, v) ∈ S
  | [], _ => .inl ⟨rfl, fun e he => by cases he⟩
  | (s, w) :: S, h => by
    have hs : zout s := h (s, w) (by simp)
    show (match eqS q6 (stV t) (stV s) with | some true => some (some w) | some false => findS q6 (stV t) (ents S) | none => none) = _ ∧ _ ∨ ∃ v, (match eqS q6 (stV t) (stV s) with | some true => some (some w) | some false => findS q6 (stV t) (ents S) | none => none) = _ ∧ _
    rcases eq6 ht hs with ⟨e, rfl⟩ | ⟨e, hne⟩
    · rw [e]; exact .inr ⟨w, rfl, by simp⟩
    · rw [e]
      rcases find6 ht S (fun e he => h e (by simp [he])) with ⟨h1, h2⟩ | ⟨v, h1, h2⟩
      · refine .inl ⟨h1, fun e he => ?_⟩
        rcases List.mem_cons.1 he with rfl | he
        · exact fun k => hne k.symm
        · exact h2 e he
      · exact .inr ⟨v, h1, by simp [h2]⟩
theorem upd6 {t : Nat → Int} (ht : zout t) (w : Value) : ∀ S : List ((Nat → Int) × Value), (∀ e ∈ S, zout e.1) → ∃ S', updS q6 (stV t) w (ents S) = some (ents S') ∧ ∀ e ∈ S', e ∈ S ∨ e = (t, w)
  | [], _ => ⟨[(t, w)], rfl, fun e he => .inr (by simpa using he)⟩
  | (s, x) :: S, h => by
    have hs : zout s := h (s, x) (by simp)
    have un : updS q6 (stV t) w (ents ((s, x) :: S)) = (match eqS q6 (stV t) (stV s) with | some true => some ((stV t, w) :: ents S) | some false => (match updS q6 (stV t) w (ents S) with | some r => some ((stV s, x) :: r) | none => none) | none => none) := rfl
    rcases eq6 ht hs with ⟨e, rfl⟩ | ⟨e, hne⟩
    · exact ⟨(t, w) :: S, by rw [un, e]; rfl, fun e he => by
        rcases List.mem_cons.1 he with rfl | he
        · exact .inr rfl
        · exact .inl (by simp [he])⟩
    · obtain ⟨S', h1, h2⟩ := upd6 ht w S (fun e he => h e (by simp [he]))
      exact ⟨(s, x) :: S', by rw [un, e, h1]; rfl, fun e he => by
        rcases List.mem_cons.1 he with rfl | he
        · exact .inl (by simp)
        · rcases h2 e he with h3 | h3
          · exact .inl (by simp [h3])
          · exact .inr h3⟩
theorem ST.zout {n : Nat} {s : Nat → Int} {B : Int} (S : ST n s B) (hn : n ≤ 6) : Sh.zout s := fun v hv => S.out v (by omega)
theorem key6 (s : Nat → Int) : keyS q6 (stV s) = true := rfl
theorem sc6 (s : Nat → Int) (w : Value) (h : (cellsL w).all sc = true) : ((cellsL (stV s)).all sc && (cellsL w).all sc) = true := by
  rw [h, Bool.and_true]
  exact iV_sc 6 s
theorem run_rangeX {R : Rec} {cx : Cx} {dep : Nat} {f : Operand} {ps : List Nat} {as_ body : SCode} {st : List Fr} {ρ : Reg} {ms : List Nat} {h : SHeap} {d : List Nat} {Q : Post} {g : FuncId} {caps : Array Value}
    (hrnd : cx.rnd = none) (hv : evR ρ f = some (.func (.func g) #[] caps))
    (hw : ∀ t : T, Full dep t → t.get = ρ → ∃ v2 h2 d2, R.call g (.func (.yield (h.length + 1)) #[] #[] :: caps.toList) (h ++ [.deferred, .loop 0 cx.fn t ps as_ body none h.length]) = some (v2, h2, d2) ∧
      ∃ lst fn' t' ps' as' body' pend df, h2[h.length + 1]? = some (.loop lst fn' t' ps' as' body' pend df) ∧ (lst == 1) = false ∧
        ((pend = none ∧ Ends R cx dep .normal st ρ (h.length :: ms) (setLoop h2 (h.length + 1) 3 none) (dirts cx.base d2 d) Q) ∨
         (pend = some .ret ∧ Ends R cx dep .ret st ρ (h.length :: ms) (setLoop h2 (h.length + 1) 3 (some .ret)) (dirts cx.base d2 d) Q) ∨
         (∃ id, pend = some (.exit id) ∧ Ends R cx dep (.exit id) st ρ (h.length :: ms) (setLoop h2 (h.length + 1) 3 (some (.exit id))) (dirts cx.base d2 d) Q))) :
    Run R cx dep (.rangeFunc f ps as_ body) st ρ ms h d Q := by
  unfold Run
  intro t hf ht
  obtain ⟨v2, h2, d2, e1, lst, fn', t', ps', as', body', pend, df, e2, e3, e4⟩ := hw t hf ht
  have hv' : ev t f = some (.func (.func g) #[] caps) := by rw [ev_evR, ht]; exact hv
  have a1 : (h ++ [SO.deferred]).length = h.length + 1 := by simp
  have a2 : h ++ [SO.deferred] ++ [.loop 0 cx.fn t ps as_ body none h.length] = h ++ [.deferred, .loop 0 cx.fn t ps as_ body none h.length] := by simp
  have e1' : R.call g ((#[] : Array Value).toList ++ [.func (.yield (h.length + 1)) #[] #[]] ++ caps.toList) (h ++ [.deferred, .loop 0 cx.fn t ps as_ body none h.length]) = some (v2, h2, d2) := by
    simpa using e1
  rcases e4 with ⟨rfl, k⟩ | ⟨rfl, k⟩ | ⟨id, rfl, k⟩
  · refine ⟨.normal, t, h.length :: ms, setLoop h2 (h.length + 1) 3 none, dirts cx.base d2 d, ?_, hf, by rw [ht]; exact k⟩
    unfold exec
    simp only [hv', hrnd]
    simp only [a1, a2]
    rw [e1']
    simp only [e2, e3, if_false, Bool.false_eq_true]
  · refine ⟨.ret, t, h.length :: ms, setLoop h2 (h.length + 1) 3 (some .ret), dirts cx.base d2 d, ?_, hf, by rw [ht]; exact k⟩
    unfold exec
    simp only [hv', hrnd]
    simp only [a1, a2]
    rw [e1']
    simp only [e2, e3, if_false, Bool.false_eq_true]
  · refine ⟨.exit id, t, h.length :: ms, setLoop h2 (h.length + 1) 3 (some (.exit id)), dirts cx.base d2 d, ?_, hf, by rw [ht]; exact k⟩
    unfold exec
    simp only [hv', hrnd]
    simp only [a1, a2]
    rw [e1']
    simp only [e2, e3, if_false, Bool.false_eq_true]
end Go.Proofs.YtpkhkghiidilcaaDoor.Sh

namespace Go.Proofs.YtpkhkghiidilcaaDoor.Sh
open Go
set_option maxRecDepth 100000
set_option maxHeartbeats 4000000
theorem shlI {a : Int} {v : Nat} (h0 : 0 ≤ a) (h1 : a ≤ 1000) (hv : v ≤ 6) : binS .shl (.int .i64 a) (.int .u64 (v : Int)) = some (.int .i64 (a * ((2 ^ v : Nat) : Int))) := by
  obtain ⟨m, rfl⟩ : ∃ m : Nat, a = m := ⟨a.toNat, by omega⟩
  have := Nat.pow_le_pow_right (n := 2) (by decide) hv
  have h2 : m * 2 ^ v ≤ 1000 * 2 ^ 6 := Nat.mul_le_mul (by omega) this
  rw [shl_n (k := .u64) (by omega) (by omega)]
  simp
theorem lin_bnd {c s : Nat → Int} (hc : ∀ v, 0 ≤ c v ∧ c v ≤ 64) (hs : ∀ v, 0 ≤ s v ∧ s v ≤ 1000) : ∀ i : Nat, 0 ≤ lin i c s ∧ lin i c s ≤ 64000 * i
  | 0 => ⟨Int.le_refl 0, Int.le_refl 0⟩
  | i + 1 => by
    have := lin_bnd hc hs i
    have h1 := Int.mul_nonneg (hc i).1 (hs i).1
    have h2 : c i * s i ≤ 64 * 1000 := Int.mul_le_mul (hc i).2 (hs i).2 (hs i).1 (by decide)
    show 0 ≤ lin i c s + c i * s i ∧ lin i c s + c i * s i ≤ _
    omega
theorem wg_le {n : Nat} {E : List (Int × Int)} {g : Nat} (v : Nat) : 0 ≤ wg n E g v ∧ wg n E g v ≤ 64 := by
  refine ⟨wg_nn v, ?_⟩
  unfold wg
  have : 2 ^ (6 - farE n E g v) ≤ 2 ^ 6 := Nat.pow_le_pow_right (by decide) (by omega)
  omega
structure Srch (h : SHeap) (xs gr n : Nat) (E : List (Int × Int)) (goal : Nat) : Prop where
  l0 : loadS h none (.pointer (some ⟨xs, 0, none⟩)) = some (.pointer (some ⟨gr, 0, none⟩))
  l1 : loadS h none (.pointer (some ⟨xs, 1, none⟩)) = some (.int .i64 goal)
  gr : GAt h gr n E
section
variable {H : SHeap} {xs gr n goal : Nat} {E : List (Int × Int)} {s : Nat → Int}
theorem bound71_loop (cx : Cx) (hn : n ≤ 6) (hg : goal < n) (hc : Conn n E) (hs : ∀ v, 0 ≤ s v ∧ s v ≤ 1000) (X : Srch (H ++ [.cells (iV 6 s) 87 true 0 []]) xs gr n E goal) :
    ∀ k ρ ms h' d', (∃ i : Nat, i + k = n ∧ ρ 0 = .pointer (some ⟨xs, 0, none⟩) ∧ ρ 5 = .int .i64 (lin i (wg n E goal) s) ∧ ρ 15 = .slice (some ⟨H.length, 0, none⟩) n 6 ∧ ρ 16 = .int .i64 n ∧ ρ 17 = .int .i64 i ∧ ms = [] ∧ h' = H ++ [.cells (iV 6 s) 87 true 0 []] ∧ d' = []) →
    LoopW M cx 6 sf71L0 ρ ms h' d' (fun ex ρ' ms' h' d' => ms' = [] ∧ h' = H ++ [.cells (iV 6 s) 87 true 0 []] ∧ d' = [] ∧ ex = .exit 0 ∧ ρ' 5 = .int .i64 (lin n (wg n E goal) s)) := by
  refine loop_run _ ?_
  rintro k ρ ms h' d' ⟨i, hk, r0, r5, r15, r16, r17, rfl, rfl, rfl⟩
  unfold sf71L0
  by_cases c : k = 0
  · have e1 : ¬ ((i : Int) < n) := by omega
    obtain rfl : i = n := by omega
    repeat (first | apply Z1 | apply Z2 | apply Z3 | apply Z4 | apply Z5 rfl | apply Z6 | apply Z7 | apply Z8 | apply Z9 | apply ZA | apply ZB | apply ZC | ((first | apply ZD (by decide) | apply ZN (by decide)); (simp (maxSteps := 9999999) only [go_sem, r16, r17, e1]; rfl)) | (refine ZE ?_ ?_; · simp only [go_sem]) | (refine ZF ?_ ?_; · simp only [go_sem]))
    exact end_nil ⟨rfl, rfl, rfl, rfl, by simp only [go_sem, r5]⟩
  · have e1 : ((i : Int) < n) := by omega
    have hi : i < n := by omega
    have e2 : (0 : Int) ≤ i := by omega
    have z1 : (i : Int) < 6 := by omega
    have z2 : (0 : Int) ≤ goal := by omega
    have z3 : (goal : Int) < 6 := by omega
    have ew : IntKind.i64.wrap ((i : Int) + 1) = ((i + 1 : Nat) : Int) := by rw [wrap64 (by omega) (by omega)]; rfl
    have l0 := X.l0
    have l1 := X.l1
    have l2 := X.gr.far (f := goal) (v := i) (by omega) (by omega)
    have ls : loadS (H ++ [.cells (iV 6 s) 87 true 0 []]) none (.pointer (some ⟨H.length, i, none⟩)) = some (.int .i64 (s i)) := st_load (s := s) (el := 87) (pf := true) (own := 0) (old := []) (by rw [app_get0]; rfl) rfl (by omega)
    have fl := far_lt hc hg hi
    have ws : IntKind.i64.wrap (6 - (farE n E goal i : Int)) = ((6 - farE n E goal i : Nat) : Int) := by rw [wrap64 (by omega) (by omega)]; omega
    have wu : IntKind.u64.wrap (((6 - farE n E goal i : Nat) : Nat) : Int) = ((6 - farE n E goal i : Nat) : Int) := wrapU (by omega) (by omega)
    have sh := shlI (v := 6 - farE n E goal i) (hs i).1 (hs i).2 (by omega)
    have eq1 : lin i (wg n E goal) s + s i * ((2 ^ (6 - farE n E goal i) : Nat) : Int) = lin (i + 1) (wg n E goal) s := by
      show _ = lin i _ s + wg n E goal i * s i
      unfold wg; rw [Int.mul_comm]
    have bn := lin_bnd (c := wg n E goal) (s := s) wg_le hs (i + 1)
    have wl : IntKind.i64.wrap (lin i (wg n E goal) s + s i * ((2 ^ (6 - farE n E goal i) : Nat) : Int)) = lin (i + 1) (wg n E goal) s := by rw [eq1, wrap64 (by omega) (by omega)]
    repeat (first | apply Z1 | apply Z2 | apply Z3 | apply Z4 | apply Z5 rfl | apply Z6 | apply Z7 | apply Z8 | apply Z9 | apply ZA | apply ZB | apply ZC | ((first | apply ZD (by decide) | apply ZN (by decide)); (simp (maxSteps := 9999999) only [go_sem, r0, r5, r15, r16, r17, e1, e2, z1, z2, z3, ls, l0, l1, l2, ws, wu, sh, wl, ew, Int.toNat_natCast]; rfl)) | (refine ZE ?_ ?_; · simp only [go_sem]) | (refine ZF ?_ ?_; · simp only [go_sem]))
    exact end_nil ⟨k - 1, by omega, i + 1, by omega, by simp only [go_sem, r0], by simp only [go_sem], by simp only [go_sem, r15], by simp only [go_sem, r16], by simp only [go_sem, ew], rfl, rfl, rfl⟩
theorem Srch.app (X : Srch H xs gr n E goal) (hx : xs < H.length) (g : SHeap) : Srch (H ++ g) xs gr n E goal := by
  have e : (H ++ g)[xs]? = H[xs]? := List.getElem?_append_left hx
  exact ⟨by rw [load_same' e]; exact X.l0, by rw [load_same' e]; exact X.l1, X.gr.app g⟩
theorem bound71 (hn : n ≤ 6) (hg : goal < n) (hc : Conn n E) (hs : ∀ v, 0 ≤ s v ∧ s v ≤ 1000) (X : Srch H xs gr n E goal) (hx : xs < H.length) :
    M.call 71 [.pointer (some ⟨xs, 0, none⟩), stV s] H = some (.int .i64 (lin n (wg n E goal) s / 64), H, []) := by
  refine call_run sf71 rfl rfl rfl ?_
  have X1 := X.app hx [.cells (iV 6 s) 87 true 0 []]
  have l0 := X1.l0
  have l1 := X1.l1
  have l2 := X1.gr.n
  have sl := sliceArr_hi (b := H.length) (o := 0) (n := n) (m := 6) (size := 1) hn (by decide) (by decide)
  have bn := lin_bnd (c := wg n E goal) (s := s) wg_le hs n
  obtain ⟨m, hm⟩ : ∃ m : Nat, lin n (wg n E goal) s = m := ⟨(lin n (wg n E goal) s).toNat, by omega⟩
  have shr := shr_n (k := .u64) (a := m) (v := 6) (by decide)
  have ed : ((m / 2 ^ 6 : Nat) : Int) = lin n (wg n E goal) s / 64 := by rw [hm]; omega
  rw [ed] at shr
  unfold sf71
  rw [stV_def]
  rw [iV6] at *
  repeat (first | apply Z1 | apply Z2 | apply Z3 | apply Z4 | apply Z5 rfl | apply Z6 | apply Z7 | apply Z8 | apply Z9 | apply ZA | apply ZB | apply ZC | ((first | apply ZD (by decide) | apply ZN (by decide)); (simp (maxSteps := 9999999) only [go_sem, argR, l0, l1, l2, ↓sl]; rfl)) | (refine ZE ?_ ?_; · simp only [go_sem]) | (refine ZF ?_ ?_; · simp only [go_sem]))
  rw [← iV6]
  refine run_loop (bound71_loop _ hn hg hc hs (by rw [iV6]; exact X1) n _ _ _ _ ⟨0, by omega, by simp only [go_sem, argR], by simp only [go_sem]; rfl, by simp only [go_sem], by simp only [go_sem], by simp only [go_sem], rfl, rfl, rfl⟩) ?_
  rintro ex ρ2 ms2 h2 d2 ⟨rfl, rfl, rfl, rfl, r5⟩
  rw [hm] at r5
  have shr' : binS .shr (.int .i64 (m : Int)) (.int .u64 6) = some (.int .i64 (lin n (wg n E goal) s / 64)) := shr
  repeat (first | apply Z1 | apply Z2 | apply Z3 | apply Z4 | apply Z5 rfl | apply Z6 | apply Z7 | apply Z8 | apply Z9 | apply ZA | apply ZB | apply ZC | ((first | apply ZD (by decide) | apply ZN (by decide)); (simp (maxSteps := 9999999) only [go_sem, r5, shr']; rfl)) | (refine ZE ?_ ?_; · simp only [go_sem]) | (refine ZF ?_ ?_; · simp only [go_sem]))
  exact end_nil (q_free [.int .i64 (lin n (wg n E goal) s / 64)] (by simp only [go_sem]) rfl rfl rfl (fun _ => rfl) (by simp) rfl)
end
end Go.Proofs.YtpkhkghiidilcaaDoor.Sh

namespace Go.Proofs.YtpkhkghiidilcaaDoor.Sh
open Go
set_option maxRecDepth 100000
set_option maxHeartbeats 4000000
def rfA55_0 : SCode := (.seq (.region 0 [ ⟨(some 9), none, .alloc 106 true [(.int .i64 0), (.int .i64 0)], none, 0, false, []⟩, ⟨none, none, .store 2 (.tmp 9) (.tmp 37), none, 1, false, []⟩]) (.region 0 [ ⟨(some 10), none, .alloc 87 true [(.int .i64 0), (.int .i64 0), (.int .i64 0), (.int .i64 0), (.int .i64 0), (.int .i64 0)], none, 0, false, []⟩, ⟨none, none, .store 6 (.tmp 10) (.tmp 38), none, 1, false, []⟩]))
def rfB55_0 : SCode := (.block 1 (.seq (.seq (.region 0 [ ⟨(some 39), none, .load none (.tmp 7), none, 0, false, []⟩, ⟨(some 40), none, .load none (.tmp 8), none, 1, false, []⟩, ⟨(some 41), none, .eq .int false (.tmp 39) (.tmp 40), none, 2, false, []⟩]) (.cond (.tmp 41) (.exit 0) (.skip))) (.seq (.region 0 [ ⟨(some 42), none, .fieldAddr 0 (.tmp 9), none, 0, false, []⟩, ⟨(some 43), none, .load none (.tmp 42), none, 1, true, []⟩, ⟨(some 44), none, .load none (.tmp 2), none, 2, true, []⟩, ⟨(some 45), none, .nilCheck (.tmp 44), none, 3, false, []⟩, ⟨(some 46), none, .fieldAddr 1 (.tmp 45), none, 4, false, []⟩, ⟨(some 47), none, .load none (.tmp 46), none, 5, true, []⟩, ⟨(some 48), none, .eq .int true (.tmp 43) (.tmp 47), none, 6, false, []⟩]) (.cond (.tmp 48) (.region 0 [ ⟨(some 49), none, .load none (.tmp 7), none, 0, true, []⟩, ⟨(some 50), none, .load none (.tmp 2), none, 1, true, []⟩, ⟨(some 51), none, .load (some 6) (.tmp 10), none, 2, true, []⟩, ⟨(some 52), none, .call (.func 55) [(.tmp 50), (.tmp 51)], none, 3, false, [0]⟩, ⟨(some 53), none, .maxi [(.tmp 49), (.tmp 52)], none, 4, false, []⟩, ⟨none, none, .store 1 (.tmp 7) (.tmp 53), none, 5, false, []⟩]) (.skip)))))
def KnM (n : Nat) (E : List (Int × Int)) (goal : Nat) (S : List ((Nat → Int) × Value)) : Prop := ∀ e ∈ S, (∃ B, ST n e.1 B) ∧ e.2 = .int .i64 (mx n E goal e.1)
theorem KnM.z {n : Nat} {E : List (Int × Int)} {goal : Nat} {S : List ((Nat → Int) × Value)} (hn : n ≤ 6) (k : KnM n E goal S) : ∀ e ∈ S, zout e.1 := fun e he => by
  obtain ⟨⟨B, h⟩, _⟩ := k e he
  exact h.zout hn
def Bst (n : Nat) (E : List (Int × Int)) (goal : Nat) (s : Nat → Int) (l : List (Nat × Nat)) (m : Int) : Prop := (∃ w, Rg n E goal s w ∧ w goal = m) ∧ s goal ≤ m ∧ ∀ p ∈ l, p.1 ≠ goal → mx n E goal (aft s p.1 p.2) ≤ m
structure JT (N mb xs gr n : Nat) (E : List (Int × Int)) (goal : Nat) (s : Nat → Int) (bd : Int) (H : SHeap) (Q : Int → Prop) (lo : SO) (h : SHeap) : Prop where
  len : N + 8 ≤ h.length
  low : ∀ j, j < N → j ≠ mb → h[j]? = H[j]?
  mem : ∃ S, h[mb]? = some (.map true (ents S)) ∧ KnM n E goal S
  bx : h[N]? = some (.cells [.pointer (some ⟨xs, 0, none⟩)] 90 false 0 [])
  bs : h[N + 1]? = some (.cells (iV 6 s) 87 true 0 [])
  best : ∃ m, h[N + 2]? = some (.cells [.int .i64 m] 3 true 0 []) ∧ Q m
  bnd : h[N + 3]? = some (.cells [.int .i64 bd] 3 true 0 [])
  cap : Caps h (N + 4) (N + 5) gr n E s
  df : h[N + 6]? = some .deferred
  lp : h[N + 7]? = some lo
section
variable {N mb xs gr n : Nat} {E : List (Int × Int)} {goal : Nat} {s : Nat → Int} {bd : Int} {H : SHeap} {Q Q' : Int → Prop} {lo lo' : SO} {h h' : SHeap}
theorem JT.chg (J : JT N mb xs gr n E goal s bd H Q lo h) (hm : mb < N) (hg : gr < N) (hgm : gr ≠ mb) (hl : N + 8 ≤ h'.length) (k : ∀ j, j < N + 8 → j ≠ mb → j ≠ N + 2 → j ≠ N + 7 → h'[j]? = h[j]?)
    (mem : ∃ S, h'[mb]? = some (.map true (ents S)) ∧ KnM n E goal S) (best : ∃ m, h'[N + 2]? = some (.cells [.int .i64 m] 3 true 0 []) ∧ Q' m) (lp : h'[N + 7]? = some lo') : JT N mb xs gr n E goal s bd H Q' lo' h' :=
  ⟨hl, fun j hj hne => by rw [k j (by omega) hne (by omega) (by omega)]; exact J.low j hj hne, mem, by rw [k _ (by omega) (by omega) (by omega) (by omega)]; exact J.bx, by rw [k _ (by omega) (by omega) (by omega) (by omega)]; exact J.bs, best, by rw [k _ (by omega) (by omega) (by omega) (by omega)]; exact J.bnd,
    J.cap.same (fun j hj => k j (by omega) (by omega) (by omega) (by omega)), by rw [k _ (by omega) (by omega) (by omega) (by omega)]; exact J.df, lp⟩
theorem JT.same (J : JT N mb xs gr n E goal s bd H Q lo h) (hm : mb < N) (hg : gr < N) (hl : N + 8 ≤ h'.length) (k : ∀ j, j < N + 8 → h'[j]? = h[j]?) : JT N mb xs gr n E goal s bd H Q lo h' := by
  obtain ⟨S, m1, m2⟩ := J.mem
  obtain ⟨m, b1, b2⟩ := J.best
  exact ⟨hl, fun j hj hne => by rw [k j (by omega)]; exact J.low j hj hne, ⟨S, by rw [k _ (by omega)]; exact m1, m2⟩, by rw [k _ (by omega)]; exact J.bx, by rw [k _ (by omega)]; exact J.bs, ⟨m, by rw [k _ (by omega)]; exact b1, b2⟩, by rw [k _ (by omega)]; exact J.bnd,
    J.cap.same (fun j hj => k j (by omega)), by rw [k _ (by omega)]; exact J.df, by rw [k _ (by omega)]; exact J.lp⟩
theorem JT.app (J : JT N mb xs gr n E goal s bd H Q lo h) (hm : mb < N) (hg : gr < N) (x : SHeap) : JT N mb xs gr n E goal s bd H Q lo (h ++ x) :=
  J.same hm hg (by have := J.len; simp; omega) (fun j hj => List.getElem?_append_left (by have := J.len; omega))
theorem JT.setLp (J : JT N mb xs gr n E goal s bd H Q lo h) (hm : mb < N) (hg : gr < N) (hgm : gr ≠ mb) (lo' : SO) : JT N mb xs gr n E goal s bd H Q lo' (h.set (N + 7) lo') := by
  obtain ⟨S, m1, m2⟩ := J.mem
  obtain ⟨m, b1, b2⟩ := J.best
  have hl := J.len
  exact J.chg hm hg hgm (by simp; omega) (fun j hj h1 h2 h3 => by rw [List.getElem?_set_ne (by omega)]) ⟨S, by rw [List.getElem?_set_ne (by omega)]; exact m1, m2⟩ ⟨m, by rw [List.getElem?_set_ne (by omega)]; exact b1, b2⟩ (by rw [List.getElem?_set_self (by omega)])
def But (mb : Nat) (H h : SHeap) : Prop := h.length = H.length ∧ ∀ j, j ≠ mb → h[j]? = H[j]?
def MostR (xs mb n : Nat) (E : List (Int × Int)) (goal : Nat) (s : Nat → Int) (H : SHeap) : Prop :=
  ∃ H', M.call 55 [.pointer (some ⟨xs, 0, none⟩), stV s] H = some (.int .i64 (mx n E goal s), H', []) ∧ But mb H H' ∧ ∃ S, H'[mb]? = some (.map true (ents S)) ∧ KnM n E goal S
theorem most_round {t : T} (hn : n ≤ 6) (hE : EOK n E) (hgn : goal < n) (hm : mb < N) (hg : gr < N) (hgm : gr ≠ mb) (hx : xs < N) (hxm : xs ≠ mb) {B : Int} (S0 : ST n s B) (X : Srch H xs gr n E goal) (hHN : H.length = N)
    (hf : Full 6 t) (t2 : t.get 2 = .pointer (some ⟨N, 0, none⟩)) (t7 : t.get 7 = .pointer (some ⟨N + 2, 0, none⟩)) (t8 : t.get 8 = .pointer (some ⟨N + 3, 0, none⟩))
    {l : List (Nat × Nat)} {hh : SHeap} {a b : Nat} (ha : a < n) (hb : b < n) (hc : canM n E s a b)
    (ih : a ≠ goal → ∀ G : SHeap, xs < G.length → gr < G.length → mb < G.length → Srch G xs gr n E goal → (∃ S, G[mb]? = some (.map true (ents S)) ∧ KnM n E goal S) → (∃ c, G[xs]? = some (.cells [.pointer (some ⟨gr, 0, none⟩), .int .i64 goal, .map (some mb)] c false 0 [])) → MostR xs mb n E goal (aft s a b) G)
    (hxs : ∃ c, H[xs]? = some (.cells [.pointer (some ⟨gr, 0, none⟩), .int .i64 goal, .map (some mb)] c false 0 []))
    (J : JT N mb xs gr n E goal s bd H (Bst n E goal s l) (.loop 0 55 t [37, 38] rfA55_0 rfB55_0 none (N + 6)) hh) :
    ∃ r h2, M.round (N + 8) (N + 7) [.agg #[.int .i64 a, .int .i64 b], stV (aft s a b)] hh = some (.bool r, h2, []) ∧
      (r = true → JT N mb xs gr n E goal s bd H (Bst n E goal s (l ++ [(a, b)])) (.loop 0 55 t [37, 38] rfA55_0 rfB55_0 none (N + 6)) h2) ∧
      (r = false → JT N mb xs gr n E goal s bd H (fun m => m = bd ∧ ∃ w, Rg n E goal s w ∧ w goal = m) (.loop 2 55 t [37, 38] rfA55_0 rfB55_0 (some (.exit 0)) (N + 6)) h2) := by
  have jl := J.len
  obtain ⟨r, ⟨r1, h2, rfl, hP⟩, e⟩ := round_rule (FT := FT) (C := flatK CA) (base := N + 8) (args := [.agg #[.int .i64 a, .int .i64 b], stV (aft s a b)]) (fun r => ∃ r1 h2, r = (.bool r1, h2, []) ∧ (r1 = true → JT N mb xs gr n E goal s bd H (Bst n E goal s (l ++ [(a, b)])) (.loop 0 55 t [37, 38] rfA55_0 rfB55_0 none (N + 6)) h2) ∧
      (r1 = false → JT N mb xs gr n E goal s bd H (fun m => m = bd ∧ ∃ w, Rg n E goal s w ∧ w goal = m) (.loop 2 55 t [37, 38] rfA55_0 rfB55_0 (some (.exit 0)) (N + 6)) h2)) J.lp hf rfl (by decide) rfl (by
    unfold rfA55_0
    generalize hw : aft s a b = w at *
    have ws := wst w
    repeat (first | apply Z1 | apply Z2 | apply Z3 | apply Z4 | apply Z5 rfl | apply Z6 | apply Z7 | apply Z8 | apply Z9 | apply ZA | apply ZB | apply ZC | ((first | apply ZD (by decide) | apply ZN (by decide)); (simp (maxSteps := 9999999) only [go_sem, ws]; rfl)) | (refine ZE ?_ ?_; · simp only [go_sem]) | (refine ZF ?_ ?_; · simp only [go_sem]))
    have J1 := J.app hm hg [.cells [.int .i64 a, .int .i64 b] 106 true 0 [], .cells (iV 6 w) 87 true 0 []]
    refine end_nil ⟨rfl, ⟨55, t, [37, 38], _, _, N + 6, J1.lp⟩, ?_⟩
    rw [setLoop_eq J1.lp]
    have J2 := J1.setLp hm hg hgm (.loop 1 55 t [37, 38] rfA55_0 rfB55_0 none (N + 6))
    have g8 : ((hh ++ [.cells [.int .i64 a, .int .i64 b] 106 true 0 [], .cells (iV 6 w) 87 true 0 []] : SHeap).set (N + 7) (.loop 1 55 t [37, 38] rfA55_0 rfB55_0 none (N + 6)))[hh.length]? = some (.cells [.int .i64 a, .int .i64 b] 106 true 0 []) := by
      rw [List.getElem?_set_ne (by omega), app_get0]; rfl
    have g9 : ((hh ++ [.cells [.int .i64 a, .int .i64 b] 106 true 0 [], .cells (iV 6 w) 87 true 0 []] : SHeap).set (N + 7) (.loop 1 55 t [37, 38] rfA55_0 rfB55_0 none (N + 6)))[hh.length + 1]? = some (.cells (iV 6 w) 87 true 0 []) := by
      rw [List.getElem?_set_ne (by omega), app_get]; rfl
    generalize (hh ++ [.cells [.int .i64 a, .int .i64 b] 106 true 0 [], .cells (iV 6 w) 87 true 0 []] : SHeap).set (N + 7) (.loop 1 55 t [37, 38] rfA55_0 rfB55_0 none (N + 6)) = G at *
    have jl2 := J2.len
    obtain ⟨m, b1, b2⟩ := J2.best
    have lb : loadS G none (.pointer (some ⟨N + 2, 0, none⟩)) = some (.int .i64 m) := by
      have := load_cell (o := 0) b1 rfl rfl []; rw [List.append_nil] at this; exact this
    have ld : loadS G none (.pointer (some ⟨N + 3, 0, none⟩)) = some (.int .i64 bd) := by
      have := load_cell (o := 0) J2.bnd rfl rfl []; rw [List.append_nil] at this; exact this
    have lx : loadS G none (.pointer (some ⟨N, 0, none⟩)) = some (.pointer (some ⟨xs, 0, none⟩)) := by
      have := load_cell (o := 0) J2.bx rfl rfl []; rw [List.append_nil] at this; exact this
    have la : loadS G none (.pointer (some ⟨hh.length, 0, none⟩)) = some (.int .i64 a) := by
      have := load_cell (o := 0) g8 rfl rfl []; rw [List.append_nil] at this; exact this
    have lw : loadS G (some 6) (.pointer (some ⟨hh.length + 1, 0, none⟩)) = some (stV w) := by
      have := load_all (n := 6) g9 rfl (iV_len _ _) []; rw [List.append_nil] at this; exact this
    have xG : Srch G xs gr n E goal := ⟨by rw [load_same' (J2.low xs hx hxm)]; exact X.l0, by rw [load_same' (J2.low xs hx hxm)]; exact X.l1, J2.cap.gr⟩
    have lg := xG.l1
    unfold rfB55_0
    by_cases c1 : m = bd
    · subst c1
      repeat (first | apply Z1 | apply Z2 | apply Z3 | apply Z4 | apply Z5 rfl | apply Z6 | apply Z7 | apply Z8 | apply Z9 | apply ZA | apply ZB | apply ZC | ((first | apply ZD (by decide) | apply ZN (by decide)); (simp (maxSteps := 9999999) only [go_sem, t7, t8, lb, ld]; rfl)) | (refine ZE ?_ ?_; · simp only [go_sem]) | (refine ZF ?_ ?_; · simp only [go_sem]))
      refine end_nil ⟨⟨_, _, _, _, _, _, _, _, J2.lp⟩, _, _, rfl, fun h => (by cases h), fun _ => ?_⟩
      show JT _ _ _ _ _ _ _ _ _ _ _ _ (setLoop G (N + 7) 2 (some (.exit 0)))
      rw [setLoop_eq J2.lp]
      have J3 := J2.setLp hm hg hgm (.loop 2 55 t [37, 38] rfA55_0 rfB55_0 (some (.exit 0)) (N + 6))
      obtain ⟨S, m1, m2⟩ := J3.mem
      exact J3.chg hm hg hgm J3.len (fun _ _ _ _ _ => rfl) ⟨S, m1, m2⟩ ⟨m, by rw [List.getElem?_set_ne (by omega)]; exact b1, rfl, b2.1⟩ J3.lp
    · by_cases c2 : (a : Int) = goal
      · have hag : a = goal := by omega
        repeat (first | apply Z1 | apply Z2 | apply Z3 | apply Z4 | apply Z5 rfl | apply Z6 | apply Z7 | apply Z8 | apply Z9 | apply ZA | apply ZB | apply ZC | ((first | apply ZD (by decide) | apply ZN (by decide)); (simp (maxSteps := 9999999) only [go_sem, t7, t8, lb, ld, c1, t2, la, lx, lg, c2]; rfl)) | (refine ZE ?_ ?_; · simp only [go_sem]) | (refine ZF ?_ ?_; · simp only [go_sem]))
        refine end_nil ⟨⟨_, _, _, _, _, _, _, _, J2.lp⟩, _, _, rfl, fun _ => ?_, fun h => (by cases h)⟩
        show JT _ _ _ _ _ _ _ _ _ _ _ _ (setLoop G (N + 7) 0 none)
        rw [setLoop_eq J2.lp]
        have J3 := J2.setLp hm hg hgm (.loop 0 55 t [37, 38] rfA55_0 rfB55_0 none (N + 6))
        obtain ⟨S, m1, m2⟩ := J3.mem
        refine J3.chg hm hg hgm J3.len (fun _ _ _ _ _ => rfl) ⟨S, m1, m2⟩ ⟨m, by rw [List.getElem?_set_ne (by omega)]; exact b1, b2.1, b2.2.1, fun p hp hpg => ?_⟩ J3.lp
        rcases List.mem_append.1 hp with hp | hp
        · exact b2.2.2 p hp hpg
        · rw [List.mem_singleton] at hp; subst hp; exact (hpg hag).elim
      · have hag : a ≠ goal := fun e => c2 (by rw [e])
        obtain ⟨xc, hxc⟩ := hxs
        obtain ⟨H', k1, ⟨k2, k3⟩, S, k4, k5⟩ := ih hag G (by omega) (by omega) (by omega) xG J2.mem ⟨xc, by rw [J2.low xs hx hxm]; exact hxc⟩
        have hb2 : H'[N + 2]? = some (.cells [.int .i64 m] 3 true 0 []) := by rw [k3 _ (by omega)]; exact b1
        have lb2 : loadS H' none (.pointer (some ⟨N + 2, 0, none⟩)) = some (.int .i64 m) := by
          have := load_cell (o := 0) hb2 rfl rfl []; rw [List.append_nil] at this; exact this
        have mxv : (if m < mx n E goal w then mx n E goal w else m) = max m (mx n E goal w) := by
          rw [Int.max_def]; split <;> split <;> omega
        have st : storeS (N + 8) H' [] (N + 2) 0 (cellsL (.int .i64 (max m (mx n E goal w)))) = some (H'.set (N + 2) (.cells [.int .i64 (max m (mx n E goal w))] 3 true 0 []), []) := by
          have := store_cell (h := H') (base := N + 8) (b := N + 2) (o := 0) (c := .int .i64 (max m (mx n E goal w))) hb2 (by simp) rfl (fun _ => rfl) []
          rw [cells_int, this]; rfl
        repeat (first | apply Z1 | apply Z2 | apply Z3 | apply Z4 | apply Z5 rfl | apply Z6 | apply Z7 | apply Z8 | apply Z9 | apply ZA | apply ZB | apply ZC | ((first | apply ZD (by decide) | apply ZN (by decide)); (simp (maxSteps := 9999999) only [go_sem, t7, t8, lb, ld, c1, t2, la, lx, lg, c2, lw, k1, lb2, mxv, ↓st]; rfl)) | (refine ZE ?_ ?_; · simp only [go_sem]) | (refine ZF ?_ ?_; · simp only [go_sem]))
        have J3 : JT N mb xs gr n E goal s bd H (Bst n E goal s (l ++ [(a, b)])) (.loop 1 55 t [37, 38] rfA55_0 rfB55_0 none (N + 6)) (H'.set (N + 2) (.cells [.int .i64 (max m (mx n E goal w))] 3 true 0 [])) := by
          refine J2.chg hm hg hgm (by simp; omega) (fun j hj h1 h2 h3 => by rw [List.getElem?_set_ne (by omega), k3 j h1]) ⟨S, by rw [List.getElem?_set_ne (by omega)]; exact k4, k5⟩ ⟨_, by rw [List.getElem?_set_self (by omega)], ?_, ?_, fun p hp hpg => ?_⟩ (by rw [List.getElem?_set_ne (by omega), k3 _ (by omega)]; exact J2.lp)
          · obtain ⟨u1, u2, u3, u4⟩ := canM_iff.1 hc
            obtain ⟨⟨v, v1, v2⟩, _⟩ := mx_is (g := goal) hE hn (S0.aft hE hn u1 u2 u3 u4)
            rw [hw] at v1 v2
            by_cases cm : m ≤ mx n E goal w
            · exact ⟨v, .step a b u1 u2 u3 u4 hag (by rw [hw]; exact v1), by omega⟩
            · obtain ⟨w0, w1, w2⟩ := b2.1
              exact ⟨w0, w1, by omega⟩
          · have := b2.2.1; omega
          · rcases List.mem_append.1 hp with hp | hp
            · have := b2.2.2 p hp hpg; omega
            · rw [List.mem_singleton] at hp; subst hp
              dsimp only
              rw [hw]; omega
        refine end_nil ⟨⟨_, _, _, _, _, _, _, _, J3.lp⟩, _, _, rfl, fun _ => ?_, fun h => (by cases h)⟩
        show JT _ _ _ _ _ _ _ _ _ _ _ _ (setLoop _ (N + 7) 0 none)
        rw [setLoop_eq J3.lp]
        exact J3.setLp hm hg hgm _)
  exact ⟨r1, h2, e, hP⟩
end
end Go.Proofs.YtpkhkghiidilcaaDoor.Sh

namespace Go.Proofs.YtpkhkghiidilcaaDoor.Sh
open Go
set_option maxRecDepth 100000
set_option maxHeartbeats 4000000
theorem MVb_all {n : Nat} {E : List (Int × Int)} {s : Nat → Int} {a b : Nat} (ha : a < n) (hb : b < n) (h : canM n E s a b) : (a, b) ∈ MVb n E s n := by
  have row : ∀ k, b < k → (a, b) ∈ rowM n E s a k := by
    intro k
    induction k with
    | zero => intro h; omega
    | succ k ih =>
      intro hk
      show (a, b) ∈ _ ++ _
      rw [List.mem_append]
      by_cases e : b = k
      · subst e; rw [if_pos h]; exact .inr (by simp)
      · exact .inl (ih (by omega))
  have all : ∀ k, a < k → (a, b) ∈ MVb n E s k := by
    intro k
    induction k with
    | zero => intro h; omega
    | succ k ih =>
      intro hk
      show (a, b) ∈ _ ++ _
      rw [List.mem_append]
      by_cases e : a = k
      · subst e; exact .inr (row n hb)
      · exact .inl (ih (by omega))
  exact all n ha
section
variable {n : Nat} {E : List (Int × Int)} {goal : Nat} {s : Nat → Int}
theorem Bst.all (hE : EOK n E) (hn : n ≤ 6) {B : Int} (S : ST n s B) {m : Int} (h : Bst n E goal s (MVb n E s n) m) : mx n E goal s = m := by
  refine mx_eq hE hn S ⟨h.1, fun t ht => ?_⟩
  cases ht with
  | refl => exact h.2.1
  | step a b ha hb hadj h2 hg k =>
    have k1 := h.2.2 (a, b) (MVb_all ha hb (canM_iff.2 ⟨ha, hb, hadj, h2⟩)) hg
    have k2 := mx_ge hE hn (S.aft hE hn ha hb hadj h2) k
    dsimp only at k1
    omega
theorem bound_eq (hE : EOK n E) (hn : n ≤ 6) (hc : Conn n E) (hg : goal < n) {B : Int} (S : ST n s B) {m : Int} (h : m = lin n (wg n E goal) s / 64 ∧ ∃ w, Rg n E goal s w ∧ w goal = m) : mx n E goal s = m := by
  refine mx_eq hE hn S ⟨h.2, fun t ht => ?_⟩
  have := ht.weight hE hn hc hg S.nn
  omega
end
section
variable {xs gr mb n : Nat} {E : List (Int × Int)} {goal : Nat}
theorem cells_st (s : Nat → Int) : cellsL (stV s) = iV 6 s := rfl
theorem take_but {H G : SHeap} {N : Nat} (hN : H.length = N) (hl : N ≤ G.length) (k : ∀ j, j < N → j ≠ mb → G[j]? = H[j]?) : But mb H (G.take N) := by
  refine ⟨by rw [List.length_take]; omega, fun j hj => ?_⟩
  by_cases c : j < N
  · rw [List.getElem?_take, if_pos c]; exact k j c hj
  · rw [List.getElem?_eq_none (by rw [List.length_take]; omega), List.getElem?_eq_none (by omega)]
theorem JT.take {N : Nat} {s : Nat → Int} {bd : Int} {H : SHeap} {Q : Int → Prop} {lo : SO} {h : SHeap} (J : JT N mb xs gr n E goal s bd H Q lo h) (hm : mb < N) (hg : gr < N) : JT N mb xs gr n E goal s bd H Q lo (h.take (N + 8)) :=
  J.same hm hg (by have := J.len; rw [List.length_take]; omega) (fun j hj => by rw [List.getElem?_take, if_pos hj])
theorem most55 (hn : n ≤ 6) (hE : EOK n E) (hc : Conn n E) (hgn : goal < n) (hgm : gr ≠ mb) (hxm : xs ≠ mb) :
    ∀ (k : Nat) (s : Nat → Int) (H : SHeap), tot s < k → ST n s 1000 → xs < H.length → gr < H.length → mb < H.length → Srch H xs gr n E goal → (∃ S, H[mb]? = some (.map true (ents S)) ∧ KnM n E goal S) → (∃ c, H[xs]? = some (.cells [.pointer (some ⟨gr, 0, none⟩), .int .i64 goal, .map (some mb)] c false 0 [])) → MostR xs mb n E goal s H := by
  intro k
  induction k with
  | zero =>
    intro s H hk S0
    have h0 := S0.nn 0
    have h1 := S0.nn 1
    have h2 := S0.nn 2
    have h3 := S0.nn 3
    have h4 := S0.nn 4
    have h5 := S0.nn 5
    unfold tot at hk
    omega
  | succ k ih =>
    intro s H hk S0 hx hg hm X hmem hxs
    obtain ⟨S, m1, m2⟩ := hmem
    obtain ⟨xc, hxc⟩ := hxs
    have hz := S0.zout hn
    have hs := fun v => S0.bnd hn v
    suffices key : ∃ r, (∃ H', r = (Value.int .i64 (mx n E goal s), H', ([] : List Nat)) ∧ But mb H H' ∧ ∃ S, H'[mb]? = some (.map true (ents S)) ∧ KnM n E goal S) ∧ M.call 55 [.pointer (some ⟨xs, 0, none⟩), stV s] H = some r by
      obtain ⟨r, ⟨H', rfl, k2, k3⟩, k1⟩ := key
      exact ⟨H', k1, k2, k3⟩
    refine call_ex (f := 55) _ sf55 rfl rfl rfl ?_
    have cs := cells_st s
    have isc := iV_sc 6 s
    have lm : ∀ x, loadS (H ++ x) none (.pointer (some ⟨xs, 2, none⟩)) = some (.map (some mb)) := fun x => load_cell (o := 2) hxc rfl rfl x
    have l0 : ∀ x, loadS (H ++ x) none (.pointer (some ⟨xs, 0, none⟩)) = some (.pointer (some ⟨gr, 0, none⟩)) := fun x => load_cell (o := 0) hxc rfl rfl x
    have l1 : ∀ x, loadS (H ++ x) none (.pointer (some ⟨xs, 1, none⟩)) = some (.int .i64 goal) := fun x => load_cell (o := 1) hxc rfl rfl x
    have l6 : ∀ x y, loadS (H ++ (x :: .cells (iV 6 s) 87 true 0 [] :: y)) (some 6) (.pointer (some ⟨H.length + 1, 0, none⟩)) = some (stV s) := fun x y => by
      have := load_all (h := H ++ (x :: .cells (iV 6 s) 87 true 0 [] :: y)) (b := H.length + 1) (n := 6) (cs := iV 6 s) (el := 87) (pf := true) (own := 0) (old := []) (by rw [app_get]; rfl) rfl (iV_len _ _) []
      rw [List.append_nil] at this; exact this
    unfold sf55
    rcases find6 hz S (m2.z hn) with ⟨f1, f2⟩ | ⟨v, f1, f2⟩
    · have lk : ∀ x d, lookV (.agg [.int, .int, .int, .int, .int, .int]) (.int .i64 0) true (some (.map (some mb))) (some (stV s)) (H ++ x) d = some (.tuple #[.int .i64 0, .bool false], H ++ x, d) := fun x d => lookV_ok (q := q6) d (key6 s) (by rw [List.getElem?_append_left (by omega)]; exact m1) f1
      have ld2 : ∀ x y : SO, loadS (H ++ [.cells [.pointer (some ⟨xs, 0, none⟩)] 90 false 0 [], .cells (iV 6 s) 87 true 0 [], x, y]) none (.pointer (some ⟨H.length + 1, goal, none⟩)) = some (.int .i64 (s goal)) := fun x y => st_load (s := s) (el := 87) (pf := true) (own := 0) (old := []) (by rw [app_get]; rfl) rfl (by omega)
      have z2 : (0 : Int) ≤ goal := by omega
      have z3 : (goal : Int) < 6 := by omega
      have b71 := fun x y : SO => bound71 (H := H ++ [.cells [.pointer (some ⟨xs, 0, none⟩)] 90 false 0 [], .cells (iV 6 s) 87 true 0 [], x, y]) hn hgn hc hs (X.app hx _) (by simp; omega)
      generalize hbd : lin n (wg n E goal) s / 64 = bd at *
      have mk := mk62 (h := H ++ [.cells [.pointer (some ⟨xs, 0, none⟩)] 90 false 0 [], .cells (iV 6 s) 87 true 0 [], .cells [.int .i64 (s goal)] 3 true 0 [], .cells [.int .i64 bd] 3 true 0 []]) (g := gr) (by simp; omega) s
      rw [List.append_assoc, List.length_append] at mk
      have mk' : M.call 62 [.pointer (some ⟨gr, 0, none⟩), stV s] (H ++ [.cells [.pointer (some ⟨xs, 0, none⟩)] 90 false 0 [], .cells (iV 6 s) 87 true 0 [], .cells [.int .i64 (s goal)] 3 true 0 [], .cells [.int .i64 bd] 3 true 0 []]) = some (.func (.func 77) #[] #[.pointer (some ⟨H.length + 4, 0, none⟩), .pointer (some ⟨H.length + 5, 0, none⟩)], H ++ [.cells [.pointer (some ⟨xs, 0, none⟩)] 90 false 0 [], .cells (iV 6 s) 87 true 0 [], .cells [.int .i64 (s goal)] 3 true 0 [], .cells [.int .i64 bd] 3 true 0 [], .cells [.pointer (some ⟨gr, 0, none⟩)] 85 false 0 [], .cells (iV 6 s) 87 true 0 []], []) := mk
      repeat (first | apply Z1 | apply Z2 | apply Z3 | apply Z4 | apply Z5 rfl | apply Z6 | apply Z7 | apply Z8 | apply Z9 | apply ZA | apply ZB | apply ZC | ((first | apply ZD (by decide) | apply ZN (by decide)); (simp (maxSteps := 9999999) only [go_sem, argR, ↓cs, isc, lm, ↓l6, lk, l0, l1, z2, z3, ↓ld2, b71, mk', Nat.add_assoc, Int.toNat_natCast]; rfl)) | (refine ZE ?_ ?_; · simp only [go_sem]) | (refine ZF ?_ ?_; · simp only [go_sem]))
      show Run M _ 6 (.rangeFunc (.tmp 36) [37, 38] rfA55_0 rfB55_0) _ _ _ _ _ _
      refine run_rangeX (g := 77) (caps := #[.pointer (some ⟨H.length + 4, 0, none⟩), .pointer (some ⟨H.length + 5, 0, none⟩)]) rfl (by simp only [go_sem]) ?_
      intro t hf ht
      have t2 : t.get 2 = .pointer (some ⟨H.length, 0, none⟩) := by rw [ht]; simp only [go_sem]
      have t3 : t.get 3 = .pointer (some ⟨H.length + 1, 0, none⟩) := by rw [ht]; simp only [go_sem]
      have t7 : t.get 7 = .pointer (some ⟨H.length + 2, 0, none⟩) := by rw [ht]; simp only [go_sem]
      have t8 : t.get 8 = .pointer (some ⟨H.length + 3, 0, none⟩) := by rw [ht]; simp only [go_sem]
      rw [← ht]
      have hlen5 : (H ++ [.cells [.pointer (some ⟨xs, 0, none⟩)] 90 false 0 [], .cells (iV 6 s) 87 true 0 [], .cells [.int .i64 (s goal)] 3 true 0 [], .cells [.int .i64 bd] 3 true 0 [], .cells [.pointer (some ⟨gr, 0, none⟩)] 85 false 0 [], .cells (iV 6 s) 87 true 0 []] : SHeap).length = H.length + 6 := by simp
      have J0 : JT H.length mb xs gr n E goal s bd H (Bst n E goal s []) (.loop 0 55 t [37, 38] rfA55_0 rfB55_0 none (H.length + 6)) (H ++ [.cells [.pointer (some ⟨xs, 0, none⟩)] 90 false 0 [], .cells (iV 6 s) 87 true 0 [], .cells [.int .i64 (s goal)] 3 true 0 [], .cells [.int .i64 bd] 3 true 0 [], .cells [.pointer (some ⟨gr, 0, none⟩)] 85 false 0 [], .cells (iV 6 s) 87 true 0 []] ++ [.deferred, .loop 0 55 t [37, 38] rfA55_0 rfB55_0 none (H.length + 6)]) := by
        rw [List.append_assoc]
        exact ⟨by simp, fun j hj _ => List.getElem?_append_left hj, ⟨S, by rw [List.getElem?_append_left (by omega)]; exact m1, m2⟩, by rw [app_get0]; rfl, by rw [app_get]; rfl, ⟨_, by rw [app_get]; rfl, ⟨s, .refl s, rfl⟩, Int.le_refl _, fun p hp => by cases hp⟩, by rw [app_get]; rfl, ⟨by rw [app_get]; rfl, by rw [app_get]; rfl, X.gr.app _⟩, by rw [app_get]; rfl, by rw [app_get]; rfl⟩
      obtain ⟨hF, dF, eF, k⟩ := iter77 (J := fun l h d => d = [] ∧ JT H.length mb xs gr n E goal s bd H (Bst n E goal s l) (.loop 0 55 t [37, 38] rfA55_0 rfB55_0 none (H.length + 6)) h)
        (X := fun _ h d => d = [] ∧ JT H.length mb xs gr n E goal s bd H (fun m => m = bd ∧ ∃ w, Rg n E goal s w ∧ w goal = m) (.loop 2 55 t [37, 38] rfA55_0 rfB55_0 (some (.exit 0)) (H.length + 6)) h) (B := H.length + 8) (L := H.length + 7) (c1 := H.length + 4) (c2 := H.length + 5) (g := gr) (H := H ++ [.cells [.pointer (some ⟨xs, 0, none⟩)] 90 false 0 [], .cells (iV 6 s) 87 true 0 [], .cells [.int .i64 (s goal)] 3 true 0 [], .cells [.int .i64 bd] 3 true 0 [], .cells [.pointer (some ⟨gr, 0, none⟩)] 85 false 0 [], .cells (iV 6 s) 87 true 0 []] ++ [.deferred, .loop 0 55 t [37, 38] rfA55_0 rfB55_0 none (H.length + 6)]) (by simp) hE hn (fun v _ => by have := hs v; omega) (fun l h d J => J.2.cap) (fun l h d x J => ⟨J.1, J.2.app hm hg x⟩)
        (fun a b h d ha hb hcm J => by
          obtain ⟨u1, u2, u3, u4⟩ := canM_iff.1 hcm
          obtain ⟨r, h2, e, q1, q2⟩ := most_round hn hE hgn hm hg hgm hx hxm S0 X rfl hf t2 t7 t8 ha hb hcm (fun hag G g1 g2 g3 g4 g5 g6 => ih (aft s a b) G (by rw [aft_tot (by omega) (by omega)]; omega) ((S0.aft hE hn u1 u2 u3 u4).mono (by omega)) g1 g2 g3 g4 g5 g6) ⟨xc, hxc⟩ J.2
          refine ⟨r, h2, [], e, fun hr => ⟨J.1, ?_⟩, fun hr => ⟨J.1, q2 hr⟩⟩
          rw [MVrow_if, if_pos hcm]
          exact q1 hr) ⟨rfl, J0⟩
      rw [hlen5]
      rcases k with ⟨rfl, k⟩ | ⟨_, _, _, _, rfl, k⟩
      · have JF : JT H.length mb xs gr n E goal s bd H (Bst n E goal s (MVb n E s n)) (.loop 0 55 t [37, 38] rfA55_0 rfB55_0 none (H.length + 6)) (finD (H.length + 8) hF []) := k.take hm hg
        refine ⟨_, _, _, eF, _, _, _, _, _, _, _, _, JF.lp, rfl, .inl ⟨rfl, ?_⟩⟩
        rw [setLoop_eq JF.lp, dirts_own (fun x hx => by cases hx)]
        have JG := JF.setLp hm hg hgm (.loop 3 55 t [37, 38] rfA55_0 rfB55_0 none (H.length + 6))
        generalize (finD (H.length + 8) hF []).set (H.length + 7) (.loop 3 55 t [37, 38] rfA55_0 rfB55_0 none (H.length + 6)) = G at *
        have jl := JG.len
        obtain ⟨m, b1, b2⟩ := JG.best
        have hmx : mx n E goal s = m := b2.all hE hn S0
        obtain ⟨S2, k4, k5⟩ := JG.mem
        obtain ⟨S3, u1, u2⟩ := upd6 hz (.int .i64 m) S2 (k5.z hn)
        have lx : loadS G none (.pointer (some ⟨H.length, 0, none⟩)) = some (.pointer (some ⟨xs, 0, none⟩)) := by
          have := load_cell (o := 0) JG.bx rfl rfl []; rw [List.append_nil] at this; exact this
        have lmG : loadS G none (.pointer (some ⟨xs, 2, none⟩)) = some (.map (some mb)) := by
          have := lm []; rw [List.append_nil] at this; rw [load_same' (JG.low xs hx hxm)]; exact this
        have l6G : loadS G (some 6) (.pointer (some ⟨H.length + 1, 0, none⟩)) = some (stV s) := by
          have := load_all (n := 6) JG.bs rfl (iV_len _ _) []; rw [List.append_nil] at this; exact this
        have lb : loadS G none (.pointer (some ⟨H.length + 2, 0, none⟩)) = some (.int .i64 m) := by
          have := load_cell (o := 0) b1 rfl rfl []; rw [List.append_nil] at this; exact this
        have up := fun (cx : Cx) => updV_ok cx (q := q6) (r := mb) (k := stV s) (v := .int .i64 m) (es := ents S2) (es' := ents S3) (h := G) [] (key6 s) k4 (sc6 s _ rfl) u1
        have up' : ∀ cx : Cx, updV cx (.agg [.int, .int, .int, .int, .int, .int]) (some (.map (some mb))) (some (stV s)) (some (.int .i64 m)) G [] = some (udf, G.set mb (.map true (ents S3)), []) := up
        have lb2 : loadS (G.set mb (.map true (ents S3))) none (.pointer (some ⟨H.length + 2, 0, none⟩)) = some (.int .i64 m) := by
          rw [load_same' (h := G) (List.getElem?_set_ne (by omega))]; exact lb
        have sh : shut (G.set mb (.map true (ents S3))) [H.length + 6] = some ((G.set mb (.map true (ents S3))).set (H.length + 6) .gone) := by
          simp only [shut]
          rw [List.getElem?_set_ne (by omega), JG.df]
        repeat (first | apply Z1 | apply Z2 | apply Z3 | apply Z4 | apply Z5 rfl | apply Z6 | apply Z7 | apply Z8 | apply Z9 | apply ZA | apply ZB | apply ZC | ((first | apply ZD (by decide) | apply ZN (by decide)); (simp (maxSteps := 9999999) only [go_sem, t2, t3, t7, lx, lmG, ↓l6G, lb, up', lb2]; rfl)) | (refine ZE ?_ ?_; · simp only [go_sem]) | (refine ZF ?_ ?_; · simp only [go_sem]))
        refine end_nil ⟨_, ⟨_, rfl, take_but rfl (by simp; omega) (fun j hj hne => ?_), S3, ?_, fun e he => ?_⟩, q_any [.int .i64 (mx n E goal s)] sh (by simp only [go_sem, hmx]) rfl rfl rfl (fun _ => rfl) rfl rfl⟩
        · rw [List.getElem?_set_ne (by omega), List.getElem?_set_ne (by omega)]; exact JG.low j hj hne
        · rw [List.getElem?_take, if_pos hm, List.getElem?_set_ne (by omega), List.getElem?_set_self (by omega)]
        · rcases u2 e he with h | rfl
          · exact k5 e h
          · exact ⟨⟨_, S0⟩, by dsimp only; rw [hmx]⟩
      · have JF : JT H.length mb xs gr n E goal s bd H (fun m => m = bd ∧ ∃ w, Rg n E goal s w ∧ w goal = m) (.loop 2 55 t [37, 38] rfA55_0 rfB55_0 (some (.exit 0)) (H.length + 6)) (finD (H.length + 8) hF []) := k.take hm hg
        refine ⟨_, _, _, eF, _, _, _, _, _, _, _, _, JF.lp, rfl, .inr (.inr ⟨0, rfl, ?_⟩)⟩
        rw [setLoop_eq JF.lp, dirts_own (fun x hx => by cases hx)]
        have JG := JF.setLp hm hg hgm (.loop 3 55 t [37, 38] rfA55_0 rfB55_0 (some (.exit 0)) (H.length + 6))
        generalize (finD (H.length + 8) hF []).set (H.length + 7) (.loop 3 55 t [37, 38] rfA55_0 rfB55_0 (some (.exit 0)) (H.length + 6)) = G at *
        have jl := JG.len
        obtain ⟨m, b1, b2⟩ := JG.best
        have hmx : mx n E goal s = m := bound_eq hE hn hc hgn S0 (by rw [hbd]; exact b2)
        obtain ⟨S2, k4, k5⟩ := JG.mem
        obtain ⟨S3, u1, u2⟩ := upd6 hz (.int .i64 m) S2 (k5.z hn)
        have lx : loadS G none (.pointer (some ⟨H.length, 0, none⟩)) = some (.pointer (some ⟨xs, 0, none⟩)) := by
          have := load_cell (o := 0) JG.bx rfl rfl []; rw [List.append_nil] at this; exact this
        have lmG : loadS G none (.pointer (some ⟨xs, 2, none⟩)) = some (.map (some mb)) := by
          have := lm []; rw [List.append_nil] at this; rw [load_same' (JG.low xs hx hxm)]; exact this
        have l6G : loadS G (some 6) (.pointer (some ⟨H.length + 1, 0, none⟩)) = some (stV s) := by
          have := load_all (n := 6) JG.bs rfl (iV_len _ _) []; rw [List.append_nil] at this; exact this
        have lb : loadS G none (.pointer (some ⟨H.length + 2, 0, none⟩)) = some (.int .i64 m) := by
          have := load_cell (o := 0) b1 rfl rfl []; rw [List.append_nil] at this; exact this
        have up := fun (cx : Cx) => updV_ok cx (q := q6) (r := mb) (k := stV s) (v := .int .i64 m) (es := ents S2) (es' := ents S3) (h := G) [] (key6 s) k4 (sc6 s _ rfl) u1
        have up' : ∀ cx : Cx, updV cx (.agg [.int, .int, .int, .int, .int, .int]) (some (.map (some mb))) (some (stV s)) (some (.int .i64 m)) G [] = some (udf, G.set mb (.map true (ents S3)), []) := up
        have lb2 : loadS (G.set mb (.map true (ents S3))) none (.pointer (some ⟨H.length + 2, 0, none⟩)) = some (.int .i64 m) := by
          rw [load_same' (h := G) (List.getElem?_set_ne (by omega))]; exact lb
        have sh : shut (G.set mb (.map true (ents S3))) [H.length + 6] = some ((G.set mb (.map true (ents S3))).set (H.length + 6) .gone) := by
          simp only [shut]
          rw [List.getElem?_set_ne (by omega), JG.df]
        repeat (first | apply Z1 | apply Z2 | apply Z3 | apply Z4 | apply Z5 rfl | apply Z6 | apply Z7 | apply Z8 | apply Z9 | apply ZA | apply ZB | apply ZC | ((first | apply ZD (by decide) | apply ZN (by decide)); (simp (maxSteps := 9999999) only [go_sem, t2, t3, t7, lx, lmG, ↓l6G, lb, up', lb2]; rfl)) | (refine ZE ?_ ?_; · simp only [go_sem]) | (refine ZF ?_ ?_; · simp only [go_sem]))
        refine end_nil ⟨_, ⟨_, rfl, take_but rfl (by simp; omega) (fun j hj hne => ?_), S3, ?_, fun e he => ?_⟩, q_any [.int .i64 (mx n E goal s)] sh (by simp only [go_sem, hmx]) rfl rfl rfl (fun _ => rfl) rfl rfl⟩
        · rw [List.getElem?_set_ne (by omega), List.getElem?_set_ne (by omega)]; exact JG.low j hj hne
        · rw [List.getElem?_take, if_pos hm, List.getElem?_set_ne (by omega), List.getElem?_set_self (by omega)]
        · rcases u2 e he with h | rfl
          · exact k5 e h
          · exact ⟨⟨_, S0⟩, by dsimp only; rw [hmx]⟩
    · have hv := (m2 _ f2).2
      dsimp only at hv
      subst hv
      have lk : ∀ x d, lookV (.agg [.int, .int, .int, .int, .int, .int]) (.int .i64 0) true (some (.map (some mb))) (some (stV s)) (H ++ x) d = some (.tuple #[.int .i64 (mx n E goal s), .bool true], H ++ x, d) := fun x d => lookV_ok (q := q6) d (key6 s) (by rw [List.getElem?_append_left (by omega)]; exact m1) f1
      repeat (first | apply Z1 | apply Z2 | apply Z3 | apply Z4 | apply Z5 rfl | apply Z6 | apply Z7 | apply Z8 | apply Z9 | apply ZA | apply ZB | apply ZC | ((first | apply ZD (by decide) | apply ZN (by decide)); (simp (maxSteps := 9999999) only [go_sem, argR, ↓cs, isc, lm, ↓l6, lk]; rfl)) | (refine ZE ?_ ?_; · simp only [go_sem]) | (refine ZF ?_ ?_; · simp only [go_sem]))
      refine end_nil ⟨_, ⟨H, rfl, ⟨rfl, fun j _ => rfl⟩, S, m1, m2⟩, q_free [.int .i64 (mx n E goal s)] (by simp only [go_sem]) rfl rfl rfl (fun _ => rfl) (by simp) rfl⟩
end
end Go.Proofs.YtpkhkghiidilcaaDoor.Sh

namespace Go.Proofs.YtpkhkghiidilcaaDoor.Sh
open Go
set_option maxRecDepth 100000
set_option maxHeartbeats 4000000
abbrev sB (gr goal mb : Nat) : SO := .cells [.pointer (some ⟨gr, 0, none⟩), .int .i64 goal, .map (some mb)] 117 false 0 []
abbrev mB (S : List ((Nat → Int) × Value)) : SO := .map true (ents S)
theorem vsame_st (s : Nat → Int) : vsame (stV s) (stV s) = true := by
  show vsL (iV 6 s) (iV 6 s) = true
  rw [iV6]
  simp [vsL, vs1, vs0]
section
variable {n : Nat} {E : List (Int × Int)} {goal : Nat}
theorem new54 {h : SHeap} {gr : Nat} (hg : gr < h.length) : M.call 54 [.pointer (some ⟨gr, 0, none⟩), .int .i64 goal] h = some (.pointer (some ⟨h.length, 0, none⟩), h ++ [sB gr goal (h.length + 1), mB []], []) := by
  refine call_run sf54 rfl rfl rfl ?_
  unfold sf54
  repeat (first | apply Z1 | apply Z2 | apply Z3 | apply Z4 | apply Z5 rfl | apply Z6 | apply Z7 | apply Z8 | apply Z9 | apply ZA | apply ZB | apply ZC | ((first | apply ZD (by decide) | apply ZN (by decide)); (simp (maxSteps := 9999999) only [go_sem, argR, cells_map, one_map]; rfl)) | (refine ZE ?_ ?_; · simp only [go_sem]) | (refine ZF ?_ ?_; · simp only [go_sem]))
  refine end_nil (q_gc [.pointer (some ⟨h.length + 1, 0, none⟩)] (by simp only [go_sem]) rfl ?_ rfl)
  have h0 : (h ++ [.map true [], .cells [.pointer (some ⟨gr, 0, none⟩), .int .i64 goal, .map (some h.length)] 117 false 0 []] : SHeap)[h.length]? = some (.map true []) := by rw [app_get0]; rfl
  have h1 : (h ++ [.map true [], .cells [.pointer (some ⟨gr, 0, none⟩), .int .i64 goal, .map (some h.length)] 117 false 0 []] : SHeap)[h.length + 1]? = some (.cells [.pointer (some ⟨gr, 0, none⟩), .int .i64 goal, .map (some h.length)] 117 false 0 []) := by rw [app_get]; rfl
  have ht : (h ++ [.map true [], .cells [.pointer (some ⟨gr, 0, none⟩), .int .i64 goal, .map (some h.length)] 117 false 0 []] : SHeap).take h.length = h := by simp
  generalize (h ++ [.map true [], .cells [.pointer (some ⟨gr, 0, none⟩), .int .i64 goal, .map (some h.length)] 117 false 0 []] : SHeap) = hh at *
  have e1 : reach h.length hh 1000000 [h.length + 1] [] = [h.length + 1, h.length] := by
    rw [show (1000000 : Nat) = 999996 + 1 + 1 + 1 + 1 from rfl, reach_new (by omega) (by simp), h1]
    show reach h.length hh (999996 + 1 + 1 + 1) (gr :: [h.length]) [h.length + 1] = _
    rw [reach_old hg, reach_new (by omega) (by simp), h0]
    show reach h.length hh (999996 + 1) [] _ = _
    rw [reach]; rfl
  have p0 : posOf (h.length + 1) [h.length + 1, h.length] = some 0 := by simp [posOf]
  have p1 : posOf h.length [h.length + 1, h.length] = some 1 := by simp [posOf]
  have r0 := ren_at (base := h.length) (b := h.length + 1) (K := [h.length + 1, h.length]) (by omega) p0
  have r1 := ren_at (base := h.length) (b := h.length) (K := [h.length + 1, h.length]) (by omega) p1
  have r2 := ren_old (base := h.length) (b := gr) (K := [h.length + 1, h.length]) hg
  have e3 : ptrs 3 (.pointer (some ⟨h.length + 1, 0, none⟩)) = [h.length + 1] := rfl
  have e0 : ((0 : Nat) == 2) = false := rfl
  unfold gcS
  simp only [oneV, e3, e1, renV, r0, r1, r2, mapO, renO, h0, h1, ht, e0, Bool.false_eq_true, if_false, if_true, Nat.add_zero, List.filterMap_nil]
  rfl
theorem Srch.mk' {h : SHeap} {xs gr mb : Nat} {c : TypeId} (hx : h[xs]? = some (.cells [.pointer (some ⟨gr, 0, none⟩), .int .i64 goal, .map (some mb)] c false 0 [])) (hg : GAt h gr n E) : Srch h xs gr n E goal := by
  have k0 := load_cell (o := 0) hx rfl rfl []
  have k1 := load_cell (o := 1) hx rfl rfl []
  rw [List.append_nil] at k0 k1
  exact ⟨k0, k1, hg⟩
theorem KnM.nil : KnM n E goal [] := fun e he => by cases he
theorem But.app {mb : Nat} {H h x : SHeap} (hb : But mb (H ++ x) h) (hm : H.length ≤ mb) : h.take H.length = H := by
  have e := hb.1
  rw [List.length_append] at e
  refine take_of_same (by omega) (fun j hj => ?_)
  rw [hb.2 j (by omega), List.getElem?_append_left hj]
end
end Go.Proofs.YtpkhkghiidilcaaDoor.Sh

namespace Go.Proofs.YtpkhkghiidilcaaDoor.Sh
open Go
set_option maxRecDepth 100000
set_option maxHeartbeats 4000000
abbrev fB (xs : Nat) : SO := .cells [.func (.func 55) #[.pointer (some ⟨xs, 0, none⟩)] #[]] 92 false 0 []
structure PL (N n : Nat) (E : List (Int × Int)) (goal : Nat) (H : SHeap) (st : Nat → Int) (P : List (Nat × Nat)) (h : SHeap) : Prop where
  len : N + 6 ≤ h.length
  low : ∀ j, j < N → h[j]? = H[j]?
  gr : GAt h N n E
  bs : h[N + 1]? = some (.cells (iV 6 st) 87 true 0 [])
  sr : h[N + 2]? = some (sB N goal (N + 3))
  mem : ∃ S, h[N + 3]? = some (mB S) ∧ KnM n E goal S
  fn : h[N + 4]? = some (fB (N + 2))
  out : ∃ qv, h[N + 5]? = some (.cells [qv] 22 false 0 []) ∧ Acc (N + 6) h qv (prN P) P.length 2 45
structure JP (N n : Nat) (E : List (Int × Int)) (goal : Nat) (H : SHeap) (L0 : Nat) (ms : List Nat) (st0 st : Nat → Int) (P : List (Nat × Nat)) (lo : SO) (h : SHeap) : Prop where
  pl : PL N n E goal H st P h
  len : L0 + 4 ≤ h.length
  cap : Caps h L0 (L0 + 1) N n E st0
  df : h[L0 + 2]? = some .deferred
  dk : ∀ x ∈ ms, h[x]? = some .deferred
  lp : h[L0 + 3]? = some lo
section
variable {N n : Nat} {E : List (Int × Int)} {goal : Nat} {H : SHeap} {L0 : Nat} {ms : List Nat} {st0 st : Nat → Int} {P : List (Nat × Nat)} {lo : SO} {h h' : SHeap}
theorem PL.chg (J : PL N n E goal H st P h) (hl : h.length ≤ h'.length) (k : ∀ j, j < h.length → j ≠ N + 3 → h'[j]? = h[j]?) (mem : ∃ S, h'[N + 3]? = some (mB S) ∧ KnM n E goal S) : PL N n E goal H st P h' := by
  have jl := J.len
  obtain ⟨qv, o1, o2⟩ := J.out
  exact ⟨by omega, fun j hj => by rw [k j (by omega) (by omega)]; exact J.low j hj, by have := J.gr; unfold GAt at *; rw [k _ (by omega) (by omega)]; exact this, by rw [k _ (by omega) (by omega)]; exact J.bs, by rw [k _ (by omega) (by omega)]; exact J.sr, mem, by rw [k _ (by omega) (by omega)]; exact J.fn, qv, by rw [k _ (by omega) (by omega)]; exact o1,
    o2.keep (fun b e => k b (o2.lt e).2 (by have := (o2.lt e).1; omega))⟩
theorem PL.app (J : PL N n E goal H st P h) (x : SHeap) : PL N n E goal H st P (h ++ x) := by
  have jl := J.len
  obtain ⟨S, m1, m2⟩ := J.mem
  exact J.chg (by simp) (fun j hj _ => List.getElem?_append_left hj) ⟨S, by rw [List.getElem?_append_left (by omega)]; exact m1, m2⟩
theorem PL.setO (J : PL N n E goal H st P h) {j : Nat} (hj : N + 6 ≤ j) (hc : ∀ cs el pf own old, h[j]? ≠ some (.cells cs el pf own old)) (o : SO) : PL N n E goal H st P (h.set j o) := by
  have jl := J.len
  obtain ⟨S, m1, m2⟩ := J.mem
  obtain ⟨qv, o1, o2⟩ := J.out
  have k : ∀ i, i ≠ j → (h.set j o)[i]? = h[i]? := fun i hi => List.getElem?_set_ne (by omega)
  exact ⟨by simp; omega, fun i hi => by rw [k i (by omega)]; exact J.low i hi, by have := J.gr; unfold GAt at *; rw [k _ (by omega)]; exact this, by rw [k _ (by omega)]; exact J.bs, by rw [k _ (by omega)]; exact J.sr, ⟨S, by rw [k _ (by omega)]; exact m1, m2⟩, by rw [k _ (by omega)]; exact J.fn, qv, by rw [k _ (by omega)]; exact o1,
    o2.keep (fun b e => k b (fun e2 => by
      subst e2
      rcases o2 with ⟨_, e3, _⟩ | ⟨b', old, e3, h1, _⟩
      · rw [e3] at e; simp at e
      · rw [e3] at e
        simp at e
        rw [e] at h1
        exact hc _ _ _ _ _ h1))⟩
theorem JP.app (J : JP N n E goal H L0 ms st0 st P lo h) (x : SHeap) : JP N n E goal H L0 ms st0 st P lo (h ++ x) := by
  have jl := J.len
  have k : ∀ j, j < h.length → (h ++ x)[j]? = h[j]? := fun j hj => List.getElem?_append_left hj
  have lt := J.cap.lt
  exact ⟨J.pl.app x, by simp; omega, J.cap.same (fun j hj => k j (by omega)), by rw [k _ (by omega)]; exact J.df, fun y hy => by rw [k y (List.getElem?_eq_some_iff.1 (J.dk y hy)).1]; exact J.dk y hy, by rw [k _ (by omega)]; exact J.lp⟩
theorem JP.setLp {a1 : Nat} {a2 : FuncId} {a3 : T} {a4 : List Nat} {a5 a6 : SCode} {a7 : Option SCode} {a8 : Nat} (J : JP N n E goal H L0 ms st0 st P (.loop a1 a2 a3 a4 a5 a6 a7 a8) h) (hL : N + 6 ≤ L0) (o : SO) : JP N n E goal H L0 ms st0 st P o (h.set (L0 + 3) o) := by
  have jl := J.len
  have k : ∀ i, i ≠ L0 + 3 → (h.set (L0 + 3) o)[i]? = h[i]? := fun i hi => List.getElem?_set_ne (by omega)
  have lp := J.lp
  exact ⟨J.pl.setO (by omega) (fun cs el pf own old e => by rw [lp] at e; cases e) o, by simp; omega, J.cap.same (fun j hj => k j (by omega)), by rw [k _ (by omega)]; exact J.df, fun y hy => by
    rw [k y (fun e => by have := J.dk y hy; rw [e, lp] at this; cases this)]; exact J.dk y hy, by rw [List.getElem?_set_self (by omega)]⟩
theorem JP.fin (J : JP N n E goal H L0 ms st st P lo h) (hL : N + 6 ≤ L0) (hms : ∀ x ∈ ms, x < L0) (hq : ∀ qv, h[N + 5]? = some (.cells [qv] 22 false 0 []) → ∀ b, qv = .slice (some ⟨b, 0, none⟩) P.length (UNK + 2) → b < L0 + 4) : JP N n E goal H L0 ms st st P lo (h.take (L0 + 4)) := by
  have jl := J.len
  have k : ∀ j, j < L0 + 4 → (h.take (L0 + 4))[j]? = h[j]? := fun j hj => by rw [List.getElem?_take, if_pos hj]
  obtain ⟨S, m1, m2⟩ := J.pl.mem
  obtain ⟨qv, o1, o2⟩ := J.pl.out
  have lt := J.cap.lt
  refine ⟨⟨by rw [List.length_take]; omega, fun i hi => by rw [k i (by omega)]; exact J.pl.low i hi, by have := J.pl.gr; unfold GAt at *; rw [k _ (by omega)]; exact this, by rw [k _ (by omega)]; exact J.pl.bs, by rw [k _ (by omega)]; exact J.pl.sr, ⟨S, by rw [k _ (by omega)]; exact m1, m2⟩, by rw [k _ (by omega)]; exact J.pl.fn, qv, by rw [k _ (by omega)]; exact o1,
    o2.keep (fun b e => k b (hq qv o1 b e))⟩, by rw [List.length_take]; omega, J.cap.same (fun j hj => k j (by omega)), by rw [k _ (by omega)]; exact J.df, fun y hy => by rw [k y (by have := hms y hy; omega)]; exact J.dk y hy, by rw [k _ (by omega)]; exact J.lp⟩
end
end Go.Proofs.YtpkhkghiidilcaaDoor.Sh

namespace Go.Proofs.YtpkhkghiidilcaaDoor.Sh
open Go
set_option maxRecDepth 100000
set_option maxHeartbeats 4000000
section
variable {n : Nat} {E : List (Int × Int)} {goal : Nat} {st : Nat → Int}
end
structure PI (N n : Nat) (E : List (Int × Int)) (goal : Nat) (H : SHeap) (s0 st : Nat → Int) (P : List (Nat × Nat)) (ms : List Nat) (h : SHeap) : Prop where
  pl : PL N n E goal H st P h
  mk1 : ∀ x ∈ ms, h[x]? = some SO.deferred
  mk2 : ms.Nodup
  mk3 : ∀ x ∈ ms, N + 6 ≤ x
  run : doM n E s0 (castE P) = (st, P.length)
  pos : 0 < mx n E goal st
  st0 : ST n st 40
  sum : tot st + P.length ≤ 40
section
variable {N n : Nat} {E : List (Int × Int)} {goal : Nat} {H : SHeap} {s0 : Nat → Int}
section
variable {v sv : Value} {l : List Int}
end
end
end Go.Proofs.YtpkhkghiidilcaaDoor.Sh

namespace Go.Proofs.YtpkhkghiidilcaaDoor.Sh
open Go
set_option maxRecDepth 100000
set_option maxHeartbeats 4000000
section
variable {n : Nat} {E : List (Int × Int)} {g : Nat} {s t x : Nat → Int}
theorem Rg.shift (hE : EOK n E) (h : Rg n E g s t) {δ : Nat → Int} (hδ : ∀ v, 0 ≤ δ v) : Rg n E g (fun v => s v + δ v) (fun v => t v + δ v) := by
  induction h with
  | refl s => exact .refl _
  | @step s t a b ha hb hadj h2 hg _ ih =>
    have hne := (hE.adj hadj).2.2
    refine .step a b ha hb hadj (by have := hδ a; show 2 ≤ s a + δ a; omega) hg ?_
    have e : aft (fun v => s v + δ v) a b = fun v => aft s a b v + δ v := by
      funext v
      rw [aft_v hne, aft_v hne]; omega
    rw [e]; exact ih
theorem mx_mono (hE : EOK n E) (hn : n ≤ 6) {B B' : Int} (S : ST n s B) (S' : ST n x B') (h : ∀ v, s v ≤ x v) : mx n E g s ≤ mx n E g x := by
  obtain ⟨⟨t, h1, h2⟩, _⟩ := mx_is (g := g) hE hn S
  have h3 := h1.shift hE (δ := fun v => x v - s v) (fun v => by have := h v; show 0 ≤ x v - s v; omega)
  have e : (fun v => s v + (x v - s v)) = x := funext fun v => by omega
  rw [e] at h3
  have h4 := mx_ge hE hn S' h3
  have := h g
  omega
structure Un (n : Nat) (E : List (Int × Int)) (g : Nat) (s : Nat → Int) : Prop where
  st : ST n s 1000
  mx0 : mx n E g s ≤ 0
theorem Un.le40 (hE : EOK n E) (hn : n ≤ 6) (hc : Conn n E) (hg : g < n) (U : Un n E g s) : ST n s 40 := ⟨U.st.nn, U.st.out, unsolv_40 hE hn hc hg U.st U.mx0⟩
theorem lst6_sum (s : Nat → Int) : (lst 6 s).sum = tot s := by
  show List.sum [s 0, s 1, s 2, s 3, s 4, s 5] = _
  simp [tot]; omega
theorem mem6 {B : Int} (hn : n ≤ 6) (S : ST n s B) (hB : B ≤ 1000) : ∀ x ∈ lst 6 s, 0 ≤ x ∧ x ≤ 1000 := fun x hx => by
  unfold lst at hx
  obtain ⟨v, _, rfl⟩ := List.mem_map.1 hx
  have := S.bnd hn v
  omega
theorem many75 {B : Int} (hn : n ≤ 6) (S : ST n s B) (hB : B ≤ 1000) (h : SHeap) : M.call 75 [stV s] h = some (.int .i64 (tot s), h, []) := by
  refine call_run sf75 rfl rfl rfl ?_
  have is := IS.lstAt (h := h ++ [.cells (iV 6 s) 87 true 0 []]) (b := h.length) (n := 6) (c := 6) (s := s) (el := 87) (pf := true) (own := 0) (old := []) (by rw [app_get0]; rfl) rfl
  have sm := sum60 is (mem6 hn S hB) (by rw [lst_len]; decide)
  rw [lst6_sum] at sm
  have cs := cells_st s
  have isc := iV_sc 6 s
  unfold sf75
  repeat (first | apply Z1 | apply Z2 | apply Z3 | apply Z4 | apply Z5 rfl | apply Z6 | apply Z7 | apply Z8 | apply Z9 | apply ZA | apply ZB | apply ZC | ((first | apply ZD (by decide) | apply ZN (by decide)); (simp (maxSteps := 9999999) only [go_sem, argR, ↓cs, isc, ↓sliceArr_6, sm]; rfl)) | (refine ZE ?_ ?_; · simp only [go_sem]) | (refine ZF ?_ ?_; · simp only [go_sem]))
  exact end_nil (q_free [.int .i64 (tot s)] (by simp only [go_sem]) rfl rfl rfl (fun _ => rfl) (by simp) rfl)
end
abbrev wB (N : Nat) : SO := .cells [.func (.func 76) #[] #[.pointer (some ⟨N, 0, none⟩), .pointer (some ⟨N + 8, 0, none⟩), .pointer (some ⟨N + 7, 0, none⟩), .pointer (some ⟨N + 6, 0, none⟩), .pointer (some ⟨N + 1, 0, none⟩), .pointer (some ⟨N + 9, 0, none⟩), .pointer (some ⟨N + 5, 0, none⟩)]] 122 false 0 []
structure GW (N gr n : Nat) (E : List (Int × Int)) (goal : Nat) (w b : Nat → Int) (h : SHeap) : Prop where
  c0 : h[N]? = some (.cells [.pointer (some ⟨gr, 0, none⟩)] 85 false 0 [])
  c1 : h[N + 1]? = some (.cells [.int .i64 goal] 3 true 0 [])
  sr : h[N + 3]? = some (sB gr goal (N + 4))
  mem : ∃ S, h[N + 4]? = some (mB S) ∧ KnM n E goal S
  fn : h[N + 5]? = some (fB (N + 3))
  bst : h[N + 6]? = some (.cells (iV 6 b) 87 true 0 [])
  now : h[N + 7]? = some (.cells (iV 6 w) 87 true 0 [])
  mn : h[N + 8]? = some (.cells [.func (.func 75) #[] #[]] 92 false 0 [])
  gw : h[N + 9]? = some (wB N)
  ga : GAt h gr n E
section
variable {N gr n : Nat} {E : List (Int × Int)} {goal : Nat} {w w' b b' : Nat → Int} {h h' : SHeap}
theorem GW.chg (J : GW N gr n E goal w b h) (hg : gr < N) (k : ∀ j, j ≠ N + 4 → j ≠ N + 6 → j ≠ N + 7 → h'[j]? = h[j]?) (mem : ∃ S, h'[N + 4]? = some (mB S) ∧ KnM n E goal S) (bst : h'[N + 6]? = some (.cells (iV 6 b') 87 true 0 [])) (now : h'[N + 7]? = some (.cells (iV 6 w') 87 true 0 [])) : GW N gr n E goal w' b' h' :=
  ⟨by rw [k _ (by omega) (by omega) (by omega)]; exact J.c0, by rw [k _ (by omega) (by omega) (by omega)]; exact J.c1, by rw [k _ (by omega) (by omega) (by omega)]; exact J.sr, mem, by rw [k _ (by omega) (by omega) (by omega)]; exact J.fn, bst, now, by rw [k _ (by omega) (by omega) (by omega)]; exact J.mn, by rw [k _ (by omega) (by omega) (by omega)]; exact J.gw, by have := J.ga; unfold GAt at *; rw [k _ (by omega) (by omega) (by omega)]; exact this⟩
theorem GW.len (J : GW N gr n E goal w b h) : N + 9 < h.length := (List.getElem?_eq_some_iff.1 J.gw).1
def GrowR (N gr n : Nat) (E : List (Int × Int)) (goal v : Nat) (w b : Nat → Int) (h : SHeap) : Prop :=
  ∃ h' b', M.call 76 [.int .i64 v, .pointer (some ⟨N, 0, none⟩), .pointer (some ⟨N + 8, 0, none⟩), .pointer (some ⟨N + 7, 0, none⟩), .pointer (some ⟨N + 6, 0, none⟩), .pointer (some ⟨N + 1, 0, none⟩), .pointer (some ⟨N + 9, 0, none⟩), .pointer (some ⟨N + 5, 0, none⟩)] h = some (.tuple #[], h', []) ∧
    h'.length = h.length ∧ (∀ j, j ≠ N + 4 → j ≠ N + 6 → h'[j]? = h[j]?) ∧ GW N gr n E goal w b' h' ∧ Un n E goal b' ∧ tot b ≤ tot b' ∧ ∀ x, Un n E goal x → (∀ u, u < v → x u = w u) → tot x ≤ tot b'
theorem ld1 {b : Nat} {c : Value} {el : TypeId} {pf : Bool} (k : h[b]? = some (.cells [c] el pf 0 [])) : loadS h none (.pointer (some ⟨b, 0, none⟩)) = some c := by
  have := load_cell (o := 0) k rfl rfl []; rw [List.append_nil] at this; exact this
theorem ld6 {b : Nat} {s : Nat → Int} {el : TypeId} {pf : Bool} (k : h[b]? = some (.cells (iV 6 s) el pf 0 [])) : loadS h (some 6) (.pointer (some ⟨b, 0, none⟩)) = some (stV s) := by
  have := load_all (n := 6) k rfl (iV_len _ _) []; rw [List.append_nil] at this; exact this
theorem up_st {v : Nat} {k : Int} {B : Int} (hn : n ≤ 6) (S : ST n w B) (hv : v < n) (hk : 0 ≤ k) (h0 : w v = 0) : ST n (up w v k) (B + k) := by
  have : up w v k = pl w v k := by funext u; unfold up pl; split <;> omega
  rw [this]; exact pl_st hn S hv hk
theorem grow_loop (cx : Cx) (hn : n ≤ 6) (hE : EOK n E) (hcn : Conn n E) (hgn : goal < n) (hg : gr < N) {v : Nat} (hv : v < n) (hvg : v ≠ goal) (U : Un n E goal w) (hz : ∀ u, v ≤ u → w u = 0) {h0 : SHeap}
    (ih : ∀ (w b : Nat → Int) (h : SHeap), Un n E goal w → (∀ u, v + 1 ≤ u → w u = 0) → Un n E goal b → GW N gr n E goal w b h → GrowR N gr n E goal (v + 1) w b h) :
    ∀ m ρ ms h' d', (∃ (k : Nat) (b' : Nat → Int), k + m = 2 ^ farE n E goal v ∧ GW N gr n E goal (up w v k) b' h' ∧ Un n E goal b' ∧ tot b ≤ tot b' ∧ (∀ x, Un n E goal x → (∀ u, u < v → x u = w u) → x v < k → tot x ≤ tot b') ∧ h'.length = h0.length ∧ (∀ j, j ≠ N + 4 → j ≠ N + 6 → j ≠ N + 7 → h'[j]? = h0[j]?) ∧
      ρ 0 = .int .i64 v ∧ ρ 1 = .pointer (some ⟨N, 0, none⟩) ∧ ρ 3 = .pointer (some ⟨N + 7, 0, none⟩) ∧ ρ 5 = .pointer (some ⟨N + 1, 0, none⟩) ∧ ρ 6 = .pointer (some ⟨N + 9, 0, none⟩) ∧ ρ 7 = .pointer (some ⟨N + 5, 0, none⟩) ∧ ms = [] ∧ d' = []) →
    LoopW M cx 6 sf76L0 ρ ms h' d' (fun ex ρ' ms' h' d' => ms' = [] ∧ d' = [] ∧ ex = .exit 0 ∧ ∃ (k : Nat) (b' : Nat → Int), GW N gr n E goal (up w v k) b' h' ∧ Un n E goal b' ∧ tot b ≤ tot b' ∧ (∀ x, Un n E goal x → (∀ u, u < v → x u = w u) → tot x ≤ tot b') ∧ h'.length = h0.length ∧ (∀ j, j ≠ N + 4 → j ≠ N + 6 → j ≠ N + 7 → h'[j]? = h0[j]?) ∧ ρ' 0 = .int .i64 v ∧ ρ' 3 = .pointer (some ⟨N + 7, 0, none⟩)) := by
  refine loop_run _ ?_
  rintro m ρ ms h' d' ⟨k, b', hk, J, Ub, hb, hx, hl, hs, r0, r1, r3, r5, r6, r7, rfl, rfl⟩
  have fl := far_lt hcn hgn hv
  have p5 : 2 ^ farE n E goal v ≤ 2 ^ 5 := Nat.pow_le_pow_right (by decide) (by omega)
  have e5 : (2 ^ 5 : Nat) = 32 := rfl
  have z1 : (0 : Int) ≤ v := by omega
  have z2 : (v : Int) < 6 := by omega
  have z3 : (0 : Int) ≤ goal := by omega
  have z4 : (goal : Int) < 6 := by omega
  have uv : up w v (k : Int) v = k := by unfold up; rw [if_pos rfl]
  have ln : loadS h' none (.pointer (some ⟨N + 7, v, none⟩)) = some (.int .i64 (k : Int)) := by
    have := st_load (s := up w v (k : Int)) (v := v) J.now rfl (by omega)
    rw [uv] at this; exact this
  have lg := ld1 J.c0
  have lgo := ld1 J.c1
  have lf := J.ga.far (f := goal) (v := v) (by omega) (by omega)
  have lm := ld1 J.fn
  have lw := ld6 J.now
  have lgr := ld1 J.gw
  have wu : IntKind.u64.wrap (farE n E goal v : Int) = farE n E goal v := wrapU (by omega) (by omega)
  have sh := shl_1 (k := .u64) (v := farE n E goal v) (by omega)
  have S40 := U.le40 hE hn hcn hgn
  have S1 : ST n (up w v (k : Int)) 1000 := (up_st hn S40 hv (by omega) (hz v (Nat.le_refl _))).mono (by omega)
  unfold sf76L0
  by_cases c1 : (k : Int) < ((2 ^ farE n E goal v : Nat) : Int)
  · obtain ⟨H', k1, ⟨k2, k3⟩, S, k4, k5⟩ := most55 (xs := N + 3) (gr := gr) (mb := N + 4) hn hE hcn hgn (by omega) (by omega) (tot (up w v (k : Int)) + 1).toNat _ h' (by have := S1.le; omega) S1 (by have := J.len; omega) (by have := J.len; omega) (by have := J.len; omega) (Srch.mk' J.sr J.ga) J.mem ⟨_, J.sr⟩
    have JH : GW N gr n E goal (up w v k) b' H' := J.chg hg (fun j h1 _ _ => k3 j h1) ⟨S, k4, k5⟩ (by rw [k3 _ (by omega)]; exact J.bst) (by rw [k3 _ (by omega)]; exact J.now)
    by_cases c2 : mx n E goal (up w v (k : Int)) = 0
    · rw [c2] at k1
      have Uk : Un n E goal (up w v (k : Int)) := ⟨S1, by omega⟩
      have ew : IntKind.i64.wrap ((v : Int) + 1) = ((v + 1 : Nat) : Int) := by rw [wrap64 (by omega) (by omega)]; rfl
      have ek : IntKind.i64.wrap ((k : Int) + 1) = ((k + 1 : Nat) : Int) := by rw [wrap64 (by omega) (by omega)]; rfl
      obtain ⟨h2, b2, g1, g2, g3, g4, g5, g6, g7⟩ := ih _ b' H' Uk (fun u hu => by unfold up; rw [if_neg (by omega)]; exact hz u (by omega)) Ub JH
      have lgr2 := ld1 JH.gw
      have ln2 : loadS h2 none (.pointer (some ⟨N + 7, v, none⟩)) = some (.int .i64 (k : Int)) := by
        have := st_load (s := up w v (k : Int)) (v := v) g4.now rfl (by omega)
        rw [uv] at this; exact this
      have st : ∀ base, storeS base h2 [] (N + 7) v (cellsL (.int .i64 ((k + 1 : Nat) : Int))) = some (h2.set (N + 7) (.cells (iV 6 (up w v ((k + 1 : Nat) : Int))) 87 true 0 []), []) := fun base => by
        have := store_cell (h := h2) (base := base) (b := N + 7) (o := v) (c := .int .i64 ((k + 1 : Nat) : Int)) g4.now (by rw [iV_len]; omega) rfl (fun _ => rfl) []
        rw [iV_set _ (by omega)] at this
        have e : up (up w v (k : Int)) v ((k + 1 : Nat) : Int) = up w v ((k + 1 : Nat) : Int) := by funext u; unfold up; split <;> rfl
        rw [e] at this
        rw [cells_int, this]; rfl
      repeat (first | apply Z1 | apply Z2 | apply Z3 | apply Z4 | apply Z5 rfl | apply Z6 | apply Z7 | apply Z8 | apply Z9 | apply ZA | apply ZB | apply ZC | ((first | apply ZD (by decide) | apply ZN (by decide)); (simp (maxSteps := 9999999) only [go_sem, r0, r1, r3, r5, r6, r7, z1, z2, z3, z4, ln, lg, lgo, lf, wu, sh, c1, lm, lw, k1, lgr2, ew, g1, ln2, ek, ↓st, Int.toNat_natCast]; rfl)) | (refine ZE ?_ ?_; · simp only [go_sem]) | (refine ZF ?_ ?_; · simp only [go_sem]))
      have hl7 := g4.len
      refine end_nil ⟨m - 1, by omega, k + 1, b2, by omega, ?_, g5, by omega, fun x hU hxu hxv => ?_, by simp; omega, fun j h1 h2' h3 => ?_, by simp only [go_sem, r0], by simp only [go_sem, r1], by simp only [go_sem, r3], by simp only [go_sem, r5], by simp only [go_sem, r6], by simp only [go_sem, r7], rfl, rfl⟩
      · obtain ⟨S', m1, m2⟩ := g4.mem
        exact g4.chg hg (fun j _ _ h3 => List.getElem?_set_ne (by omega)) ⟨S', by rw [List.getElem?_set_ne (by omega)]; exact m1, m2⟩ (by rw [List.getElem?_set_ne (by omega)]; exact g4.bst) (by rw [List.getElem?_set_self (by omega)])
      · by_cases e : x v = k
        · refine g7 x hU (fun u hu => ?_)
          unfold up
          by_cases e2 : u = v
          · subst e2; rw [if_pos rfl]; exact e
          · rw [if_neg e2]; exact hxu u (by omega)
        · have := hx x hU hxu (by omega)
          omega
      · rw [List.getElem?_set_ne (by omega), g3 j h1 h2', k3 j h1]; exact hs j h1 h2' h3
    · repeat (first | apply Z1 | apply Z2 | apply Z3 | apply Z4 | apply Z5 rfl | apply Z6 | apply Z7 | apply Z8 | apply Z9 | apply ZA | apply ZB | apply ZC | ((first | apply ZD (by decide) | apply ZN (by decide)); (simp (maxSteps := 9999999) only [go_sem, r0, r1, r3, r5, r6, r7, z1, z2, z3, z4, ln, lg, lgo, lf, wu, sh, c1, lm, lw, k1, c2, Int.toNat_natCast]; rfl)) | (refine ZE ?_ ?_; · simp only [go_sem]) | (refine ZF ?_ ?_; · simp only [go_sem]))
      refine end_nil ⟨rfl, rfl, rfl, k, b', JH, Ub, hb, fun x hU hxu => ?_, by omega, fun j h1 h2 h3 => by rw [k3 j h1]; exact hs j h1 h2 h3, by simp only [go_sem, r0], by simp only [go_sem, r3]⟩
      refine hx x hU hxu ?_
      apply Decidable.byContradiction
      intro hlt
      have := mx_mono (g := goal) hE hn S1 hU.st (fun u => by
        unfold up
        by_cases e : u = v
        · subst e; rw [if_pos rfl]; omega
        · rw [if_neg e]
          by_cases e2 : u < v
          · rw [hxu u e2]; exact Int.le_refl _
          · rw [hz u (by omega)]; exact hU.st.nn u)
      have := hU.mx0
      have := (mx_bnd (g := goal) hE hn S1).1
      omega
  · repeat (first | apply Z1 | apply Z2 | apply Z3 | apply Z4 | apply Z5 rfl | apply Z6 | apply Z7 | apply Z8 | apply Z9 | apply ZA | apply ZB | apply ZC | ((first | apply ZD (by decide) | apply ZN (by decide)); (simp (maxSteps := 9999999) only [go_sem, r0, r1, r3, r5, r6, r7, z1, z2, z3, z4, ln, lg, lgo, lf, wu, sh, c1, Int.toNat_natCast]; rfl)) | (refine ZE ?_ ?_; · simp only [go_sem]) | (refine ZF ?_ ?_; · simp only [go_sem]))
    refine end_nil ⟨rfl, rfl, rfl, k, b', J, Ub, hb, fun x hU hxu => ?_, hl, hs, by simp only [go_sem, r0], by simp only [go_sem, r3]⟩
    refine hx x hU hxu ?_
    have := unsolv_box hE hn hcn hgn hU.st hU.mx0 hv
    omega
theorem up_self {v : Nat} (h : w v = 0) : up w v 0 = w := by
  funext u; unfold up; split
  · rename_i e; subst e; exact h.symm
  · rfl
theorem grow76 (hn : n ≤ 6) (hE : EOK n E) (hcn : Conn n E) (hgn : goal < n) (hg : gr < N) : ∀ (m v : Nat), v + m = n → ∀ (w b : Nat → Int) (h : SHeap), Un n E goal w → (∀ u, v ≤ u → w u = 0) → Un n E goal b → GW N gr n E goal w b h → GrowR N gr n E goal v w b h := by
  intro m
  induction m with
  | zero =>
    intro v hv w b h U hz Ub J
    obtain rfl : v = n := by omega
    have lg := ld1 J.c0
    have lgn := J.ga.n
    have lm := ld1 J.mn
    have lw := ld6 J.now
    have lb := ld6 J.bst
    have mw := many75 hn U.st (by decide) h
    have mb := many75 hn Ub.st (by decide) h
    have vs := vsame_st b
    have hlen := J.len
    have fin : ∀ x, Un v E goal x → (∀ u, u < v → x u = w u) → tot x = tot w := fun x hU hx => by
      congr 1
      funext u
      by_cases c : u < v
      · exact hx u c
      · rw [hU.st.out u (by omega), U.st.out u (by omega)]
    unfold GrowR
    by_cases c : tot w > tot b
    · have cs := cells_st w
      have cl6 := iV_len 6 w
      have st : ∀ base, storeS base h [] (N + 6) 0 (cellsL (stV w)) = some (h.set (N + 6) (.cells (iV 6 w) 87 true 0 []), []) := fun base => by
        have := store_at (h := h) (b := N + 6) (base := base) (cs := iV 6 b) (vs := iV 6 w) (el := 87) (pf := true) J.bst (by rw [iV_len, iV_len]) (by rw [iV_len]; decide) (all_sc_one _ (iV_sc 6 w)) (fun _ => iV_sc 6 w) []
        rw [cells_st, this]; rfl
      refine ⟨h.set (N + 6) (.cells (iV 6 w) 87 true 0 []), w, ?_, by simp, fun j h1 h2 => List.getElem?_set_ne (by omega), ?_, U, by omega, fun x hU hx => by rw [fin x hU hx]; exact Int.le_refl _⟩
      · refine call_run sf76 rfl rfl rfl ?_
        unfold sf76
        repeat (first | apply Z1 | apply Z2 | apply Z3 | apply Z4 | apply Z5 rfl | apply Z6 | apply Z7 | apply Z8 | apply Z9 | apply ZA | apply ZB | apply ZC | ((first | apply ZD (by decide) | apply ZN (by decide)); (simp (maxSteps := 9999999) only [go_sem, argR, lg, lgn, lm, lw, lb, mw, mb, vs, c, ↓st, cs, cl6]; rfl)) | (refine ZE ?_ ?_; · simp only [go_sem]) | (refine ZF ?_ ?_; · simp only [go_sem]))
        exact end_nil (q_free [] (by simp only [go_sem]) rfl rfl rfl (fun _ => rfl) (by rw [List.take_of_length_le (by simp)]) rfl)
      · obtain ⟨S, m1, m2⟩ := J.mem
        exact J.chg hg (fun j _ h2 _ => List.getElem?_set_ne (by omega)) ⟨S, by rw [List.getElem?_set_ne (by omega)]; exact m1, m2⟩ (by rw [List.getElem?_set_self (by omega)]) (by rw [List.getElem?_set_ne (by omega)]; exact J.now)
    · refine ⟨h, b, ?_, rfl, fun j _ _ => rfl, J, Ub, Int.le_refl _, fun x hU hx => by rw [fin x hU hx]; omega⟩
      refine call_run sf76 rfl rfl rfl ?_
      unfold sf76
      repeat (first | apply Z1 | apply Z2 | apply Z3 | apply Z4 | apply Z5 rfl | apply Z6 | apply Z7 | apply Z8 | apply Z9 | apply ZA | apply ZB | apply ZC | ((first | apply ZD (by decide) | apply ZN (by decide)); (simp (maxSteps := 9999999) only [go_sem, argR, lg, lgn, lm, lw, lb, mw, mb, vs, c]; rfl)) | (refine ZE ?_ ?_; · simp only [go_sem]) | (refine ZF ?_ ?_; · simp only [go_sem]))
      exact end_nil (q_free [] (by simp only [go_sem]) rfl rfl rfl (fun _ => rfl) (take_self _) rfl)
  | succ m ih =>
    intro v hv w b h U hz Ub J
    have hvn : v < n := by omega
    have lg := ld1 J.c0
    have lgn := J.ga.n
    have lgo := ld1 J.c1
    have lgr := ld1 J.gw
    have e1 : ¬ ((v : Int) = n) := by omega
    have z1 : (0 : Int) ≤ v := by omega
    have z2 : (v : Int) < 6 := by omega
    have ew : IntKind.i64.wrap ((v : Int) + 1) = ((v + 1 : Nat) : Int) := by rw [wrap64 (by omega) (by omega)]; rfl
    have hlen := J.len
    by_cases c : v = goal
    · obtain ⟨h2, b2, g1, g2, g3, g4, g5, g6, g7⟩ := ih (v + 1) (by omega) w b h U (fun u hu => hz u (by omega)) Ub J
      refine ⟨h2, b2, ?_, g2, g3, g4, g5, g6, fun x hU hx => g7 x hU (fun u hu => ?_)⟩
      · refine call_run sf76 rfl rfl rfl ?_
        have c' : ((v : Int) = goal) = True := eq_true (by omega)
        unfold sf76
        repeat (first | apply Z1 | apply Z2 | apply Z3 | apply Z4 | apply Z5 rfl | apply Z6 | apply Z7 | apply Z8 | apply Z9 | apply ZA | apply ZB | apply ZC | ((first | apply ZD (by decide) | apply ZN (by decide)); (simp (maxSteps := 9999999) only [go_sem, argR, lg, lgn, e1, lgo, c', lgr, ew, g1]; rfl)) | (refine ZE ?_ ?_; · simp only [go_sem]) | (refine ZF ?_ ?_; · simp only [go_sem]))
        exact end_nil (q_free [] (by simp only [go_sem]) rfl rfl rfl (fun _ => rfl) (by rw [List.take_of_length_le (by omega)]) rfl)
      · by_cases e : u = v
        · subst e
          rw [hz u (Nat.le_refl _)]
          have k1 := hU.st.nn u
          have k2 := mx_self (g := goal) hE hn hU.st
          have k3 := hU.mx0
          rw [← c] at k2 k3
          omega
        · exact hx u (by omega)
    · have c' : ((v : Int) = goal) = False := eq_false (by omega)
      have w0 := hz v (Nat.le_refl _)
      have st : ∀ base, storeS base h [] (N + 7) v (cellsL (.int .i64 0)) = some (h.set (N + 7) (.cells (iV 6 w) 87 true 0 []), []) := fun base => by
        have := store_cell (h := h) (base := base) (b := N + 7) (o := v) (c := .int .i64 0) J.now (by rw [iV_len]; omega) rfl (fun _ => rfl) []
        rw [iV_set _ (by omega), up_self w0] at this
        rw [cells_int, this]; rfl
      have J1 : GW N gr n E goal (up w v ((0 : Nat) : Int)) b (h.set (N + 7) (.cells (iV 6 w) 87 true 0 [])) := by
        obtain ⟨S, m1, m2⟩ := J.mem
        refine J.chg hg (fun j _ _ h3 => List.getElem?_set_ne (by omega)) ⟨S, by rw [List.getElem?_set_ne (by omega)]; exact m1, m2⟩ (by rw [List.getElem?_set_ne (by omega)]; exact J.bst) ?_
        rw [List.getElem?_set_self (by omega)]
        show some (SO.cells (iV 6 w) 87 true 0 []) = some (SO.cells (iV 6 (up w v 0)) 87 true 0 [])
        rw [up_self w0]
      suffices key : ∃ r, (∃ h' b', r = (Value.tuple #[], h', ([] : List Nat)) ∧ h'.length = h.length ∧ (∀ j, j ≠ N + 4 → j ≠ N + 6 → h'[j]? = h[j]?) ∧ GW N gr n E goal w b' h' ∧ Un n E goal b' ∧ tot b ≤ tot b' ∧ ∀ x, Un n E goal x → (∀ u, u < v → x u = w u) → tot x ≤ tot b') ∧ M.call 76 [.int .i64 v, .pointer (some ⟨N, 0, none⟩), .pointer (some ⟨N + 8, 0, none⟩), .pointer (some ⟨N + 7, 0, none⟩), .pointer (some ⟨N + 6, 0, none⟩), .pointer (some ⟨N + 1, 0, none⟩), .pointer (some ⟨N + 9, 0, none⟩), .pointer (some ⟨N + 5, 0, none⟩)] h = some r by
        obtain ⟨r, ⟨h', b', rfl, k2⟩, k1⟩ := key
        exact ⟨h', b', k1, k2⟩
      refine call_ex (f := 76) _ sf76 rfl rfl rfl ?_
      unfold sf76
      repeat (first | apply Z1 | apply Z2 | apply Z3 | apply Z4 | apply Z5 rfl | apply Z6 | apply Z7 | apply Z8 | apply Z9 | apply ZA | apply ZB | apply ZC | ((first | apply ZD (by decide) | apply ZN (by decide)); (simp (maxSteps := 9999999) only [go_sem, argR, lg, lgn, e1, lgo, c', z1, z2, ↓st, Int.toNat_natCast]; rfl)) | (refine ZE ?_ ?_; · simp only [go_sem]) | (refine ZF ?_ ?_; · simp only [go_sem]))
      refine run_loop (grow_loop (b := b) (h0 := h) _ hn hE hcn hgn hg hvn c U hz (fun w b h U hz Ub J => ih (v + 1) (by omega) w b h U hz Ub J) (2 ^ farE n E goal v) _ _ _ _ ⟨0, b, by omega, J1, Ub, Int.le_refl _, fun x hU _ hx => by have := hU.st.nn v; omega, by simp, fun j h1 h2 h3 => List.getElem?_set_ne (by omega), by simp only [go_sem, argR], by simp only [go_sem, argR], by simp only [go_sem, argR], by simp only [go_sem, argR], by simp only [go_sem, argR], by simp only [go_sem, argR], rfl, rfl⟩) ?_
      rintro ex ρ2 ms2 h2 d2 ⟨rfl, rfl, rfl, k, b2, g1, g2, g3, g4, g5, g6, r0, r3⟩
      have hlen2 := g1.len
      have st2 : ∀ base, storeS base h2 [] (N + 7) v (cellsL (.int .i64 0)) = some (h2.set (N + 7) (.cells (iV 6 w) 87 true 0 []), []) := fun base => by
        have := store_cell (h := h2) (base := base) (b := N + 7) (o := v) (c := .int .i64 0) g1.now (by rw [iV_len]; omega) rfl (fun _ => rfl) []
        rw [iV_set _ (by omega)] at this
        have e : up (up w v (k : Int)) v 0 = w := by
          rw [show up (up w v (k : Int)) v 0 = up w v 0 by funext u; unfold up; split <;> rfl, up_self w0]
        rw [e] at this
        rw [cells_int, this]; rfl
      repeat (first | apply Z1 | apply Z2 | apply Z3 | apply Z4 | apply Z5 rfl | apply Z6 | apply Z7 | apply Z8 | apply Z9 | apply ZA | apply ZB | apply ZC | ((first | apply ZD (by decide) | apply ZN (by decide)); (simp (maxSteps := 9999999) only [go_sem, r0, r3, z1, z2, ↓st2, Int.toNat_natCast]; rfl)) | (refine ZE ?_ ?_; · simp only [go_sem]) | (refine ZF ?_ ?_; · simp only [go_sem]))
      refine end_nil ⟨_, ⟨h2.set (N + 7) (.cells (iV 6 w) 87 true 0 []), b2, rfl, by simp; omega, fun j h1 h2' => ?_, ?_, g2, g3, g4⟩, q_free [] (by simp only [go_sem]) rfl rfl rfl (fun _ => rfl) (by rw [List.take_of_length_le (by simp; omega)]) rfl⟩
      · by_cases e : j = N + 7
        · subst e; rw [List.getElem?_set_self (by omega)]; exact J.now.symm
        · rw [List.getElem?_set_ne (by omega)]; exact g6 j h1 h2' e
      · obtain ⟨S, m1, m2⟩ := g1.mem
        exact g1.chg hg (fun j _ _ h3 => List.getElem?_set_ne (by omega)) ⟨S, by rw [List.getElem?_set_ne (by omega)]; exact m1, m2⟩ (by rw [List.getElem?_set_ne (by omega)]; exact g1.bst) (by rw [List.getElem?_set_self (by omega)])
end
theorem zero_un {n : Nat} {E : List (Int × Int)} {goal : Nat} (hE : EOK n E) (hn : n ≤ 6) : Un n E goal (fun _ => 0) := by
  have S : ST n (fun _ => 0) 0 := ⟨fun _ => Int.le_refl 0, fun _ _ => rfl, Int.le_refl 0⟩
  exact ⟨S.mono (by decide), (mx_bnd hE hn S).2⟩
theorem poor59 {n : Nat} {E : List (Int × Int)} {goal : Nat} {h : SHeap} {gr : Nat} (hn : n ≤ 6) (hE : EOK n E) (hcn : Conn n E) (hgn : goal < n) (hg : GAt h gr n E) :
    ∃ p, M.call 59 [.pointer (some ⟨gr, 0, none⟩), .int .i64 goal] h = some (stV p, h, []) ∧ Un n E goal p ∧ ∀ x, Un n E goal x → tot x ≤ tot p := by
  have hlt : gr < h.length := (List.getElem?_eq_some_iff.1 hg).1
  suffices key : ∃ r, (∃ p, r = (stV p, h, ([] : List Nat)) ∧ Un n E goal p ∧ ∀ x, Un n E goal x → tot x ≤ tot p) ∧ M.call 59 [.pointer (some ⟨gr, 0, none⟩), .int .i64 goal] h = some r by
    obtain ⟨r, ⟨p, rfl, q1, q2⟩, q3⟩ := key
    exact ⟨p, q3, q1, q2⟩
  refine call_ex (f := 59) _ sf59 rfl rfl rfl ?_
  have nw := new54 (h := h ++ [.cells [.pointer (some ⟨gr, 0, none⟩)] 85 false 0 [], .cells [.int .i64 goal] 3 true 0 [], .cells (iV 6 fun _ => 0) 87 true 0 []]) (gr := gr) (goal := goal) (by simp; omega)
  rw [List.append_assoc, List.length_append] at nw
  have nw' : M.call 54 [.pointer (some ⟨gr, 0, none⟩), .int .i64 goal] (h ++ [.cells [.pointer (some ⟨gr, 0, none⟩)] 85 false 0 [], .cells [.int .i64 goal] 3 true 0 [], .cells (iV 6 fun _ => 0) 87 true 0 []]) = some (.pointer (some ⟨h.length + 3, 0, none⟩), h ++ [.cells [.pointer (some ⟨gr, 0, none⟩)] 85 false 0 [], .cells [.int .i64 goal] 3 true 0 [], .cells (iV 6 fun _ => 0) 87 true 0 [], sB gr goal (h.length + 4), mB []], []) := nw
  rw [iV6] at nw'
  have hz := zero_un (goal := goal) hE hn
  have J : GW h.length gr n E goal (fun _ => 0) (fun _ => 0) (h ++ [.cells [.pointer (some ⟨gr, 0, none⟩)] 85 false 0 [], .cells [.int .i64 goal] 3 true 0 [], .cells (iV 6 fun _ => 0) 87 true 0 [], sB gr goal (h.length + 4), mB [], fB (h.length + 3), .cells (iV 6 fun _ => 0) 87 true 0 [], .cells (iV 6 fun _ => 0) 87 true 0 [], .cells [.func (.func 75) #[] #[]] 92 false 0 [], wB h.length]) :=
    ⟨by rw [app_get0]; rfl, by rw [app_get]; rfl, by rw [app_get]; rfl, ⟨[], by rw [app_get]; rfl, KnM.nil⟩, by rw [app_get]; rfl, by rw [app_get]; rfl, by rw [app_get]; rfl, by rw [app_get]; rfl, by rw [app_get]; rfl, hg.app _⟩
  obtain ⟨h2, b2, g1, g2, g3, g4, g5, g6, g7⟩ := grow76 hn hE hcn hgn hlt n 0 (by omega) _ _ _ hz (fun _ _ => rfl) hz J
  have g1' : M.call 76 [.int .i64 0, .pointer (some ⟨h.length, 0, none⟩), .pointer (some ⟨h.length + 8, 0, none⟩), .pointer (some ⟨h.length + 7, 0, none⟩), .pointer (some ⟨h.length + 6, 0, none⟩), .pointer (some ⟨h.length + 1, 0, none⟩), .pointer (some ⟨h.length + 9, 0, none⟩), .pointer (some ⟨h.length + 5, 0, none⟩)] (h ++ [.cells [.pointer (some ⟨gr, 0, none⟩)] 85 false 0 [], .cells [.int .i64 goal] 3 true 0 [], .cells (iV 6 fun _ => 0) 87 true 0 [], sB gr goal (h.length + 4), mB [], fB (h.length + 3), .cells (iV 6 fun _ => 0) 87 true 0 [], .cells (iV 6 fun _ => 0) 87 true 0 [], .cells [.func (.func 75) #[] #[]] 92 false 0 [], wB h.length]) = some (.tuple #[], h2, []) := g1
  rw [iV6] at g1'
  have dw : ∀ k d, dirty h.length (h.length + k) false d = d := fun k d => dirty_own (by omega)
  have lb := ld6 g4.bst
  have g2' : h.length + 10 = h2.length := by rw [g2]; simp
  have hr : h2[h.length + 2]? = some (.cells (iV 6 fun _ => 0) 87 true 0 []) := by rw [g3 _ (by omega) (by omega), app_get]; rfl
  have st : ∀ base, storeS base h2 [] (h.length + 2) 0 (cellsL (stV b2)) = some (h2.set (h.length + 2) (.cells (iV 6 b2) 87 true 0 []), []) := fun base => by
    have := store_at (h := h2) (b := h.length + 2) (base := base) (cs := iV 6 fun _ => 0) (vs := iV 6 b2) (el := 87) (pf := true) hr (by rw [iV_len, iV_len]) (by rw [iV_len]; decide) (all_sc_one _ (iV_sc 6 b2)) (fun _ => iV_sc 6 b2) []
    rw [cells_st, this]; rfl
  have cs := cells_st b2
  have cl6 := iV_len 6 b2
  have lr : loadS (h2.set (h.length + 2) (.cells (iV 6 b2) 87 true 0 [])) (some 6) (.pointer (some ⟨h.length + 2, 0, none⟩)) = some (stV b2) := ld6 (el := 87) (pf := true) (by rw [List.getElem?_set_self (by omega)])
  have ht : (h2.set (h.length + 2) (.cells (iV 6 b2) 87 true 0 [])).take h.length = h := by
    refine take_of_same (by simp; omega) (fun j hj => ?_)
    rw [List.getElem?_set_ne (by omega), g3 j (by omega) (by omega), List.getElem?_append_left hj]
  unfold sf59
  repeat (first | apply Z1 | apply Z2 | apply Z3 | apply Z4 | apply Z5 rfl | apply Z6 | apply Z7 | apply Z8 | apply Z9 | apply ZA | apply ZB | apply ZC | ((first | apply ZD (by decide) | apply ZN (by decide)); (simp (maxSteps := 9999999) only [go_sem, argR, nw', dw, g1', lb, ↓st, cs, cl6]; rfl)) | (refine ZE ?_ ?_; · simp only [go_sem]) | (refine ZF ?_ ?_; · simp only [go_sem]))
  exact end_nil ⟨_, ⟨b2, rfl, g5, fun x hU => g7 x hU (fun u hu => by omega)⟩, q_free [stV b2] (by simp only [go_sem, lr]) rfl rfl rfl (fun _ => rfl) ht rfl⟩
end Go.Proofs.YtpkhkghiidilcaaDoor.Sh

namespace Go.Proofs.YtpkhkghiidilcaaDoor.Sh
open Go
set_option maxRecDepth 100000
set_option maxHeartbeats 4000000
def IsNum (n : Nat) (E : List (Int × Int)) (goal : Nat) (k : Int) : Prop := (∃ p, Un n E goal p ∧ tot p + 1 = k) ∧ ∀ x, Un n E goal x → tot x + 1 ≤ k
section
variable {n : Nat} {E : List (Int × Int)} {goal : Nat} {H : SHeap} {v sv wv : Value} {l : List Int} {w : List (Int × Int)}
theorem IsNum.uniq {k k' : Int} (h : IsNum n E goal k) (h' : IsNum n E goal k') : k = k' := by
  obtain ⟨⟨p, h1, h2⟩, h3⟩ := h
  obtain ⟨⟨q, h4, h5⟩, h6⟩ := h'
  have := h3 q h4
  have := h6 p h1
  omega
theorem number26 (hv : PS H v E) (hlen : E.length ≤ 1000000) (he : errG n E = 0) (hp : goal < n) : ∃ k, IsNum n E goal k ∧ M.call 26 [.int .i64 n, v, .int .i64 goal] H = some (.tuple #[.int .i64 k, .int .i64 0], H, []) := by
  obtain ⟨m, e, h1, h2, h3, h4⟩ := errG_ok he
  obtain rfl : n = m := by omega
  have o := openGoal_ok hv hlen he hp
  obtain ⟨p, q1, q2, q3⟩ := poor59 (h := H ++ [gE n E]) (gr := H.length) h2 h3 h4 hp (by unfold GAt; rw [app_get0]; rfl)
  have S40 := q2.le40 h3 h2 h4 hp
  have b0 : 0 ≤ tot p := by have := tot_lin h2 S40; have := lin_nn (c := fun _ => 1) (fun _ => by decide) S40.nn n; omega
  have b1 := S40.le
  have is := IS.lstAt (h := H ++ [gE n E, .cells (iV 6 p) 87 true 0 []]) (b := H.length + 1) (n := 6) (c := 6) (s := p) (el := 87) (pf := true) (own := 0) (old := []) (by rw [app_get]; rfl) rfl
  have sm := sum60 is (mem6 h2 S40 (by decide)) (by rw [lst_len]; decide)
  rw [lst6_sum] at sm
  refine ⟨tot p + 1, ⟨⟨p, q2, rfl⟩, fun x hx => by have := q3 x hx; omega⟩, ?_⟩
  refine call_run sf26 rfl rfl rfl ?_
  have wr : IntKind.i64.wrap (tot p + 1) = tot p + 1 := wrap64 (by omega) (by omega)
  have ws := wst p
  obtain ⟨va, vc, rfl, _⟩ := id hv
  unfold sf26
  repeat (first | apply Z1 | apply Z2 | apply Z3 | apply Z4 | apply Z5 rfl | apply Z6 | apply Z7 | apply Z8 | apply Z9 | apply ZA | apply ZB | apply ZC | ((first | apply ZD (by decide) | apply ZN (by decide)); (simp (maxSteps := 9999999) only [go_sem, argR, o, q1, ws, ↓sliceArr_6, sm, wr]; rfl)) | (refine ZE ?_ ?_; · simp only [go_sem]) | (refine ZF ?_ ?_; · simp only [go_sem]))
  exact end_nil (q_free [.int .i64 (tot p + 1), .int .i64 0] (by simp only [go_sem]) rfl rfl rfl (fun _ => rfl) (by simp) rfl)
end
end Go.Proofs.YtpkhkghiidilcaaDoor.Sh

namespace Go.Proofs.YtpkhkghiidilcaaDoor.Sh
open Go
set_option maxRecDepth 100000
set_option maxHeartbeats 4000000
def KC (n : Nat) (E : List (Int × Int)) (A : List (Nat → Int)) (S : List ((Nat → Int) × Value)) : Prop := ∀ e ∈ S, (∃ B, ST n e.1 B) ∧ e.2 = .bool true ∧ (¬ Cov n E e.1 ∨ e.1 ∈ A)
theorem KC.z {n : Nat} {E : List (Int × Int)} {A : List (Nat → Int)} {S : List ((Nat → Int) × Value)} (hn : n ≤ 6) (k : KC n E A S) : ∀ e ∈ S, zout e.1 := fun e he => by
  obtain ⟨⟨B, h⟩, _⟩ := k e he
  exact h.zout hn
structure JV (N mb gr n : Nat) (E : List (Int × Int)) (s : Nat → Int) (H : SHeap) (QS : List ((Nat → Int) × Value) → Prop) (r : Bool) (lo : SO) (h : SHeap) : Prop where
  len : N + 8 ≤ h.length
  low : ∀ j, j < N → j ≠ mb → h[j]? = H[j]?
  mem : ∃ S, h[mb]? = some (.map true (ents S)) ∧ QS S
  bx : h[N]? = some (.cells [.pointer (some ⟨gr, 0, none⟩)] 85 false 0 [])
  bs : h[N + 1]? = some (.cells (iV 6 s) 87 true 0 [])
  bm : h[N + 2]? = some (.cells [.map (some mb)] 113 false 0 [])
  res : h[N + 3]? = some (.cells [.bool r] 4 true 0 [])
  cap : Caps h (N + 4) (N + 5) gr n E s
  df : h[N + 6]? = some .deferred
  lp : h[N + 7]? = some lo
section
variable {N mb gr n : Nat} {E : List (Int × Int)} {s : Nat → Int} {H : SHeap} {QS QS' : List ((Nat → Int) × Value) → Prop} {r r' : Bool} {lo lo' : SO} {h h' : SHeap}
theorem JV.chg (J : JV N mb gr n E s H QS r lo h) (hm : mb < N) (hg : gr < N) (hgm : gr ≠ mb) (hl : N + 8 ≤ h'.length) (k : ∀ j, j < N + 8 → j ≠ mb → j ≠ N + 3 → j ≠ N + 7 → h'[j]? = h[j]?)
    (mem : ∃ S, h'[mb]? = some (.map true (ents S)) ∧ QS' S) (res : h'[N + 3]? = some (.cells [.bool r'] 4 true 0 [])) (lp : h'[N + 7]? = some lo') : JV N mb gr n E s H QS' r' lo' h' :=
  ⟨hl, fun j hj hne => by rw [k j (by omega) hne (by omega) (by omega)]; exact J.low j hj hne, mem, by rw [k _ (by omega) (by omega) (by omega) (by omega)]; exact J.bx, by rw [k _ (by omega) (by omega) (by omega) (by omega)]; exact J.bs, by rw [k _ (by omega) (by omega) (by omega) (by omega)]; exact J.bm, res,
    J.cap.same (fun j hj => k j (by omega) (by omega) (by omega) (by omega)), by rw [k _ (by omega) (by omega) (by omega) (by omega)]; exact J.df, lp⟩
theorem JV.same (J : JV N mb gr n E s H QS r lo h) (hm : mb < N) (hg : gr < N) (hl : N + 8 ≤ h'.length) (k : ∀ j, j < N + 8 → h'[j]? = h[j]?) : JV N mb gr n E s H QS r lo h' := by
  obtain ⟨S, m1, m2⟩ := J.mem
  exact ⟨hl, fun j hj hne => by rw [k j (by omega)]; exact J.low j hj hne, ⟨S, by rw [k _ (by omega)]; exact m1, m2⟩, by rw [k _ (by omega)]; exact J.bx, by rw [k _ (by omega)]; exact J.bs, by rw [k _ (by omega)]; exact J.bm, by rw [k _ (by omega)]; exact J.res, J.cap.same (fun j hj => k j (by omega)), by rw [k _ (by omega)]; exact J.df, by rw [k _ (by omega)]; exact J.lp⟩
theorem JV.app (J : JV N mb gr n E s H QS r lo h) (hm : mb < N) (hg : gr < N) (x : SHeap) : JV N mb gr n E s H QS r lo (h ++ x) :=
  J.same hm hg (by have := J.len; simp; omega) (fun j hj => List.getElem?_append_left (by have := J.len; omega))
theorem JV.setLp (J : JV N mb gr n E s H QS r lo h) (hm : mb < N) (hg : gr < N) (hgm : gr ≠ mb) (lo' : SO) : JV N mb gr n E s H QS r lo' (h.set (N + 7) lo') := by
  obtain ⟨S, m1, m2⟩ := J.mem
  have hl := J.len
  exact J.chg hm hg hgm (by simp; omega) (fun j hj h1 h2 h3 => by rw [List.getElem?_set_ne (by omega)]) ⟨S, by rw [List.getElem?_set_ne (by omega)]; exact m1, m2⟩ (by rw [List.getElem?_set_ne (by omega)]; exact J.res) (by rw [List.getElem?_set_self (by omega)])
end
end Go.Proofs.YtpkhkghiidilcaaDoor.Sh

namespace Go.Proofs.YtpkhkghiidilcaaDoor.Sh
open Go
set_option maxRecDepth 100000
set_option maxHeartbeats 4000000
section
variable {gr mb n : Nat} {E : List (Int × Int)}
theorem JV.take {N : Nat} {s : Nat → Int} {H : SHeap} {QS : List ((Nat → Int) × Value) → Prop} {r : Bool} {lo : SO} {h : SHeap} (J : JV N mb gr n E s H QS r lo h) (hm : mb < N) (hg : gr < N) : JV N mb gr n E s H QS r lo (h.take (N + 8)) :=
  J.same hm hg (by have := J.len; rw [List.length_take]; omega) (fun j hj => by rw [List.getElem?_take, if_pos hj])
end
end Go.Proofs.YtpkhkghiidilcaaDoor.Sh

namespace Go.Proofs.YtpkhkghiidilcaaDoor.Sh
open Go
set_option maxRecDepth 100000
set_option maxHeartbeats 1000000
structure AccF (lo : Nat) (h : SHeap) (v : Value) (cs : List Value) (el : TypeId) (b : Nat) : Prop where
  ne : cs ≠ []
  one : cs.all oneC = true
  low : lo ≤ b
  shp : ∃ c old, v = .slice (some ⟨b, 0, none⟩) cs.length c ∧ h[b]? = some (.cells cs el false 0 old) ∧ ((c = UNK + 1 ∧ ∀ x ∈ old, lo ≤ x) ∨ (c = cs.length ∧ c < UNK ∧ old = []))
theorem AccF.lt {lo : Nat} {h : SHeap} {v : Value} {cs : List Value} {el : TypeId} {b : Nat} (A : AccF lo h v cs el b) : b < h.length := by
  obtain ⟨c, old, _, h1, _⟩ := A.shp
  exact (List.getElem?_eq_some_iff.1 h1).1
theorem AccF.keep {lo : Nat} {h h' : SHeap} {v : Value} {cs : List Value} {el : TypeId} {b : Nat} (A : AccF lo h v cs el b) (k : h'[b]? = h[b]?) : AccF lo h' v cs el b := by
  obtain ⟨c, old, e, h1, h2⟩ := A.shp
  exact ⟨A.ne, A.one, A.low, c, old, e, by rw [k]; exact h1, h2⟩
theorem AccF.push {lo : Nat} {h : SHeap} {v x : Value} {cs : List Value} {el : TypeId} {b bs bytes : Nat} (A : AccF lo h v cs el b) {el2 : TypeId} {pf2 : Bool} {own2 : Nat} {old2 : List Nat}
    (hs : h[bs]? = some (.cells [x] el2 pf2 own2 old2)) (hr : readable own2 = true) (hx : oneC x = true) (hb0 : 0 < bytes) (hb : (cs.length + 1) * bytes ≤ 140737488355328) :
    ∃ H2, (∀ (base : Nat) (d : List Nat), appendS base h d el false 1 bytes v (.slice (some ⟨bs, 0, none⟩) 1 1) = some (.slice (some ⟨h.length, 0, none⟩) (cs.length + 1) (UNK + 1), H2, d)) ∧
      AccF lo H2 (.slice (some ⟨h.length, 0, none⟩) (cs.length + 1) (UNK + 1)) (cs ++ [x]) el h.length ∧ H2.length = h.length + 1 ∧ ∀ j, j < h.length → j ≠ b → H2[j]? = h[j]? := by
  have hlt := A.lt
  obtain ⟨c, old, rfl, h1, h2⟩ := A.shp
  have hn0 : cs.length ≠ 0 := fun e => A.ne (List.length_eq_zero_iff.1 e)
  have hseen : rdN h bs 0 (1 * 1) = some [x] := by
    rw [rdN_def, hs]
    dsimp only
    rw [hr]; rfl
  have hsx : rdN h b 0 (cs.length * 1) = some cs := by
    rw [rdN_def, h1]
    dsimp only
    rw [readable_0, ble_dec, decide_eq_true (by omega), if_pos (by rfl), List.drop_zero, Nat.mul_one, List.take_length]
  have hn : (cs.length == 0) = false := beq_eq_false_iff_ne.2 hn0
  have e4 : Nat.ble ((cs.length + 1) * bytes) 140737488355328 = true := by rw [ble_dec]; simpa using hb
  have e5 : Nat.blt 0 bytes = true := by rw [blt_dec]; simpa using hb0
  have hone : [x].all oneC = true := by simp [hx]
  have hall : (cs ++ [x]).all oneC = true := by rw [List.all_append, A.one, hone]; rfl
  rcases h2 with ⟨rfl, hold⟩ | ⟨rfl, hu, rfl⟩
  · refine ⟨share h b ++ [.cells (cs ++ [x]) el false 0 (b :: old)], fun base d => ?_, ⟨by simp, hall, by have := A.low; omega, UNK + 1, b :: old, by rw [List.length_append, List.length_singleton], by rw [List.getElem?_append_right (by rw [share_ln]; omega), share_ln, Nat.sub_self]; rfl, .inl ⟨rfl, fun y hy => ?_⟩⟩, by simp [share_ln], fun j hj hne => by rw [List.getElem?_append_left (by rw [share_ln]; exact hj)]; exact share_gt h b j hne⟩
    · have e1 : Nat.ble UNK (UNK + 1) = true := by rw [ble_dec]; simp
      have e2 : Nat.beq (UNK + 1) (UNK + 1) = true := Nat.beq_refl _
      have e3 : Nat.beq (0 + cs.length * 1) cs.length = true := by rw [Nat.zero_add, Nat.mul_one]; exact Nat.beq_refl _
      unfold appendS
      simp only [lenS, seenS, hseen, hsx, hn, h1, e1, e2, e3, e4, e5, hone]
      simp [-List.all_eq_true, hone]
    · rcases List.mem_cons.1 hy with rfl | hy
      · exact A.low
      · exact hold y hy
  · refine ⟨h ++ [.cells (cs ++ [x]) el false 0 []], fun base d => ?_, ⟨by simp, hall, by have := A.low; omega, UNK + 1, [], by rw [List.length_append, List.length_singleton], by simp, .inl ⟨rfl, fun y hy => by cases hy⟩⟩, by simp, fun j hj _ => List.getElem?_append_left hj⟩
    have e1 : Nat.ble UNK cs.length = false := by rw [ble_dec]; exact decide_eq_false (by omega)
    have e2 : Nat.ble (cs.length + 1) cs.length = false := by rw [ble_dec]; exact decide_eq_false (by omega)
    unfold appendS
    simp only [lenS, seenS, hseen, hsx, hn, e1, e2, e4, e5, hone]
    simp [-List.all_eq_true, hone]
def LeafC (base : Nat) (h : SHeap) (x : Value) : Prop := ∃ b o n c, x = .slice (some ⟨b, o, none⟩) n c ∧ (b < base ∨ base ≤ b ∧ ∃ ds el own old, h[b]? = some (.cells ds el true own old) ∧ (own == 2) = false)
def SameC (h h' : SHeap) (x x' : Value) : Prop := ∃ b b' o n c, x = .slice (some ⟨b, o, none⟩) n c ∧ x' = .slice (some ⟨b', o, none⟩) n c ∧ ((b = b' ∧ h'[b']? = h[b]?) ∨ ∃ ds el own old old', h[b]? = some (.cells ds el true own old) ∧ h'[b']? = some (.cells ds el true own old'))
theorem SameC.is {h h' : SHeap} {x x' : Value} {l : List Int} (k : SameC h h' x x') (i : IS h x l) : IS h' x' l := by
  obtain ⟨b, b', o, n, c, rfl, rfl, hk⟩ := k
  obtain ⟨a, c', e, hi⟩ := i
  simp at e
  obtain ⟨e1, e2, e3⟩ := e
  subst e1 e2 e3
  refine ⟨some ⟨b', o, none⟩, c, rfl, fun hne => ?_⟩
  obtain ⟨b0, o0, e, h1, h2⟩ := hi hne
  simp at e
  obtain ⟨e1, e2⟩ := e
  subst e1 e2
  rcases hk with ⟨rfl, hk⟩ | ⟨ds, el, own, old, old', k1, k2⟩
  · refine ⟨b, o, rfl, ?_, h2.fr hk⟩
    rw [List.getElem?_eq_getElem h1] at hk
    exact (List.getElem?_eq_some_iff.1 hk).1
  · refine ⟨b', o, rfl, (List.getElem?_eq_some_iff.1 k2).1, fun j hj => ?_⟩
    have := h2 j hj
    rw [load_rdO, k1, rdO_cells] at this
    rw [load_rdO, k2, rdO_cells]; exact this
end Go.Proofs.YtpkhkghiidilcaaDoor.Sh

namespace Go.Proofs.YtpkhkghiidilcaaDoor.Sh
open Go
set_option maxRecDepth 100000
set_option maxHeartbeats 1000000
def kyN : Nat → (Nat → Int) → Int
  | 0, _ => 0
  | n + 1, s => kyN n s * 41 + s n
def entK (n : Nat) (L : List (Nat → Int)) : List (Value × Value) := L.map fun t => (.int .i64 (kyN n t), .bool true)
structure RQ (n : Nat) (E : List (Int × Int)) (s : Nat → Int) (L : List (Nat → Int)) (i k : Nat) : Prop where
  rg : ∀ t ∈ L, Rg n E n s t
  me : s ∈ L
  nd : L.Nodup
  st : ∀ t ∈ L, ST n t 12
  cl : ∀ (j : Nat) (hj : j < L.length), j < i → ∀ p ∈ MVL n E L[j], aft L[j] p.1 p.2 ∈ L
  cl2 : ∀ (hi : i < L.length) (j : Nat) (hj : j < (MVL n E L[i]).length), j < k → aft L[i] (MVL n E L[i])[j].1 (MVL n E L[i])[j].2 ∈ L
section
variable {n : Nat} {E : List (Int × Int)} {s : Nat → Int} {L : List (Nat → Int)} {i k : Nat}
theorem RQ.start (S : ST n s 12) : RQ n E s [s] 0 0 :=
  ⟨fun t ht => by rw [List.mem_singleton] at ht; subst ht; exact .refl _, by simp, by simp, fun t ht => by rw [List.mem_singleton] at ht; subst ht; exact S, fun j hj h => by omega, fun hi j hj h => by omega⟩
theorem RQ.next (Q : RQ n E s L i k) (hi : i < L.length) (hk : k = (MVL n E L[i]).length) : RQ n E s L (i + 1) 0 :=
  ⟨Q.rg, Q.me, Q.nd, Q.st, fun j hj h p hp => by
    by_cases e : j = i
    · subst e
      obtain ⟨q, hq, rfl⟩ := List.getElem_of_mem hp
      exact Q.cl2 hj q hq (by omega)
    · exact Q.cl j hj (by omega) p hp, fun hi j hj h => by omega⟩
theorem RQ.skip (Q : RQ n E s L i k) (hi : i < L.length) (hk : k < (MVL n E L[i]).length) (hm : aft L[i] (MVL n E L[i])[k].1 (MVL n E L[i])[k].2 ∈ L) : RQ n E s L i (k + 1) :=
  ⟨Q.rg, Q.me, Q.nd, Q.st, Q.cl, fun hi' j hj h => by
    by_cases e : j = k
    · subst e; exact hm
    · exact Q.cl2 hi' j hj (by omega)⟩
theorem RQ.push (hE : EOK n E) (hn : n ≤ 6) (Q : RQ n E s L i k) (hi : i < L.length) (hk : k < (MVL n E L[i]).length) (hm : aft L[i] (MVL n E L[i])[k].1 (MVL n E L[i])[k].2 ∉ L) : RQ n E s (L ++ [aft L[i] (MVL n E L[i])[k].1 (MVL n E L[i])[k].2]) i (k + 1) := by
  have hc : canM n E L[i] ((MVL n E L[i])[k].1 : Int) ((MVL n E L[i])[k].2 : Int) := MVb_mem (List.getElem_mem hk)
  obtain ⟨u1, u2, u3, u4⟩ := canM_iff.1 hc
  have hiL : (L ++ [aft L[i] (MVL n E L[i])[k].1 (MVL n E L[i])[k].2])[i]'(by simp; omega) = L[i] := by rw [List.getElem_append_left hi]
  refine ⟨fun t ht => ?_, by simp [Q.me], ?_, fun t ht => ?_, fun j hj h p hp => ?_, fun hi' j hj h => ?_⟩
  · rcases List.mem_append.1 ht with ht | ht
    · exact Q.rg t ht
    · rw [List.mem_singleton] at ht; subst ht
      exact (Q.rg L[i] (List.getElem_mem hi)).trans (.step _ _ u1 u2 u3 u4 (by omega) (.refl _))
  · rw [List.nodup_append]
    refine ⟨Q.nd, by simp, fun a ha b hb e => ?_⟩
    rw [List.mem_singleton] at hb
    subst hb e
    exact hm ha
  · rcases List.mem_append.1 ht with ht | ht
    · exact Q.st t ht
    · rw [List.mem_singleton] at ht; subst ht
      exact ((Q.st L[i] (List.getElem_mem hi)).aft hE hn u1 u2 u3 u4).mono (by omega)
  · have hjL : j < L.length := by omega
    rw [List.getElem_append_left hjL] at hp ⊢
    exact List.mem_append.2 (.inl (Q.cl j hjL h p hp))
  · rw [List.mem_append]
    simp only [hiL] at hj ⊢
    by_cases e : j = k
    · subst e; exact .inr (by simp)
    · exact .inl (Q.cl2 hi j hj (by omega))
theorem RQ.fin (hE : EOK n E) (Q : RQ n E s L i 0) (hi : i = L.length) (t : Nat → Int) : t ∈ L ↔ Rg n E n s t := by
  refine ⟨Q.rg t, fun h => ?_⟩
  have key : ∀ u w, Rg n E n u w → u ∈ L → w ∈ L := by
    intro u w h
    induction h with
    | refl u => exact id
    | step a b ha hb hadj h2 hg _ ih =>
      intro hu
      obtain ⟨j, hj, rfl⟩ := List.getElem_of_mem hu
      exact ih (Q.cl j hj (by omega) (a, b) (MVb_all ha hb (canM_iff.2 ⟨ha, hb, hadj, h2⟩)))
  exact key s t h Q.me
end
end Go.Proofs.YtpkhkghiidilcaaDoor.Sh

namespace Go.Proofs.YtpkhkghiidilcaaDoor.Sh
open Go
set_option maxRecDepth 100000
set_option maxHeartbeats 4000000
structure RS (H : SHeap) (n : Nat) (L : List (Nat → Int)) (v : Value) (b : Nat) (h : SHeap) : Prop where
  low : ∀ j, j < H.length → h[j]? = H[j]?
  le : H.length + 1 < h.length
  mp : h[H.length]? = some (.map true (entK n L))
  els : ∃ cs, AccF (H.length + 1) h v cs 25 b ∧ cs.length = L.length ∧ ∀ (i : Nat) (hi : i < L.length), ∃ x, cs[i]? = some x ∧ LeafC H.length h x ∧ IS h x (lst n L[i])
theorem LeafC.keep {base : Nat} {h h' : SHeap} {x : Value} (k : LeafC base h x) (e : ∀ (j : Nat) (ds : List Value) (el : TypeId) (own : Nat) (old : List Nat), h[j]? = some (SO.cells ds el true own old) → h'[j]? = h[j]?) : LeafC base h' x := by
  obtain ⟨b, o, n, c, rfl, hb⟩ := k
  refine ⟨b, o, n, c, rfl, hb.imp id ?_⟩
  rintro ⟨h1, ds, el, own, old, h2, h3⟩
  exact ⟨h1, ds, el, own, old, by rw [e b ds el own old h2]; exact h2, h3⟩
theorem IS.keepL {base : Nat} {h h' : SHeap} {x : Value} {l : List Int} (i : IS h x l) (k : LeafC base h x) (low : ∀ j, j < base → h'[j]? = h[j]?) (hl : h.length ≤ h'.length) (e : ∀ (j : Nat) (ds : List Value) (el : TypeId) (own : Nat) (old : List Nat), h[j]? = some (SO.cells ds el true own old) → h'[j]? = h[j]?) : IS h' x l := by
  obtain ⟨b, o, n, c, rfl, hb⟩ := k
  obtain ⟨a, c', e1, hi⟩ := i
  refine ⟨a, c', e1, fun hne => ?_⟩
  obtain ⟨b0, o0, e2, h1, h2⟩ := hi hne
  subst e2
  simp at e1
  obtain ⟨⟨q1, q2⟩, q3, q4⟩ := e1
  subst q1 q2
  refine ⟨b, o, rfl, by omega, h2.fr ?_⟩
  rcases hb with hb | ⟨_, ds, el, own, old, h3, _⟩
  · exact low b hb
  · exact e b ds el own old h3
section
variable {H h h' : SHeap} {n : Nat} {L : List (Nat → Int)} {v : Value} {b : Nat}
theorem RS.grow (R : RS H n L v b h) (hl : h.length ≤ h'.length) (low : ∀ j, j < H.length → h'[j]? = h[j]?) (mp : h'[H.length]? = h[H.length]?) (hb : h'[b]? = h[b]?) (e : ∀ (j : Nat) (ds : List Value) (el : TypeId) (own : Nat) (old : List Nat), h[j]? = some (SO.cells ds el true own old) → h'[j]? = h[j]?) : RS H n L v b h' := by
  obtain ⟨cs, A, h1, h2⟩ := R.els
  have hle := R.le
  refine ⟨fun j hj => by rw [low j hj]; exact R.low j hj, by omega, by rw [mp]; exact R.mp, cs, A.keep hb, h1, fun i hi => ?_⟩
  obtain ⟨x, x1, x2, x3⟩ := h2 i hi
  exact ⟨x, x1, x2.keep e, x3.keepL x2 low hl e⟩
theorem RS.app (R : RS H n L v b h) (g : SHeap) : RS H n L v b (h ++ g) := by
  obtain ⟨cs, A, _⟩ := R.els
  have hle := R.le
  exact R.grow (by simp) (fun j hj => List.getElem?_append_left (by omega)) (List.getElem?_append_left (by omega)) (List.getElem?_append_left A.lt) (fun j ds el own old hj => List.getElem?_append_left (List.getElem?_eq_some_iff.1 hj).1)
theorem RS.shape (R : RS H n L v b h) : ∃ c, v = .slice (some ⟨b, 0, none⟩) L.length c := by
  obtain ⟨cs, A, h1, _⟩ := R.els
  obtain ⟨c, old, e, _⟩ := A.shp
  exact ⟨c, by rw [e, h1]⟩
theorem RS.el (R : RS H n L v b h) {i : Nat} (hi : i < L.length) : ∃ x, loadS h none (.pointer (some ⟨b, i, none⟩)) = some x ∧ IS h x (lst n L[i]) := by
  obtain ⟨cs, A, h1, h2⟩ := R.els
  obtain ⟨x, x1, x2, x3⟩ := h2 i hi
  obtain ⟨c, old, e, h3, _⟩ := A.shp
  have := load_cell (o := i) h3 rfl x1 []
  rw [List.append_nil] at this
  exact ⟨x, this, x3⟩
theorem RS.push (R : RS H n L v b h) {nb : Nat} {t : Nat → Int} (hn1 : 1 ≤ n) (hlen : L.length ≤ 1000000) (hnb : h[nb]? = some (.cells (iV n t) 3 true 0 [])) (hnl : H.length ≤ nb) (hky : ¬ ∃ u ∈ L, kyN n u = kyN n t) :
    ∃ H2, (∀ (base : Nat) (d : List Nat), appendS base (h.set H.length (.map true (entK n (L ++ [t]))) ++ [.cells [.slice (some ⟨nb, 0, none⟩) n (UNK + 1)] 25 false 0 []]) d 25 false 1 24 v (.slice (some ⟨h.length, 0, none⟩) 1 1) = some (.slice (some ⟨h.length + 1, 0, none⟩) (L.length + 1) (UNK + 1), H2, d)) ∧
      RS H n (L ++ [t]) (.slice (some ⟨h.length + 1, 0, none⟩) (L.length + 1) (UNK + 1)) (h.length + 1) H2 ∧ h.length < H2.length ∧ ∀ (j : Nat) (ds : List Value) (el : TypeId) (own : Nat) (old : List Nat), h[j]? = some (SO.cells ds el true own old) → H2[j]? = h[j]? := by
  obtain ⟨cs, A, h1, h2⟩ := R.els
  have hle := R.le
  have hbl := A.lt
  have hlo := A.low
  have gl : (h.set H.length (.map true (entK n (L ++ [t]))) ++ [.cells [.slice (some ⟨nb, 0, none⟩) n (UNK + 1)] 25 false 0 []] : SHeap).length = h.length + 1 := by simp
  have gj : ∀ j, j < h.length → j ≠ H.length → (h.set H.length (.map true (entK n (L ++ [t]))) ++ [.cells [.slice (some ⟨nb, 0, none⟩) n (UNK + 1)] 25 false 0 []] : SHeap)[j]? = h[j]? := fun j hj hne => by
    rw [List.getElem?_append_left (by simp; exact hj), List.getElem?_set_ne (by omega)]
  have gm : (h.set H.length (.map true (entK n (L ++ [t]))) ++ [.cells [.slice (some ⟨nb, 0, none⟩) n (UNK + 1)] 25 false 0 []] : SHeap)[H.length]? = some (.map true (entK n (L ++ [t]))) := by
    rw [List.getElem?_append_left (by simp; omega), List.getElem?_set_self (by omega)]
  have gt : (h.set H.length (.map true (entK n (L ++ [t]))) ++ [.cells [.slice (some ⟨nb, 0, none⟩) n (UNK + 1)] 25 false 0 []] : SHeap)[h.length]? = some (.cells [.slice (some ⟨nb, 0, none⟩) n (UNK + 1)] 25 false 0 []) := by
    rw [List.getElem?_append_right (by simp)]; simp
  generalize (h.set H.length (.map true (entK n (L ++ [t]))) ++ [.cells [.slice (some ⟨nb, 0, none⟩) n (UNK + 1)] 25 false 0 []] : SHeap) = G at *
  have A2 : AccF (H.length + 1) G v cs 25 b := A.keep (gj b hbl (by omega))
  obtain ⟨H2, ap, A3, l3, k3⟩ := A2.push (bytes := 24) gt rfl rfl (by decide) (by omega)
  rw [gl, h1] at ap A3
  rw [gl] at l3 k3
  have hk : ∀ j, j < h.length → j ≠ H.length → j ≠ b → H2[j]? = h[j]? := fun j hj h1 h2 => by rw [k3 j (by omega) h2, gj j hj h1]
  have hcell : ∀ (j : Nat) (ds : List Value) (el : TypeId) (own : Nat) (old : List Nat), h[j]? = some (SO.cells ds el true own old) → H2[j]? = h[j]? := fun j ds el own old hj => by
    refine hk j (List.getElem?_eq_some_iff.1 hj).1 (fun e => ?_) (fun e => ?_)
    · rw [e, R.mp] at hj; cases hj
    · obtain ⟨c, old', _, q, _⟩ := A.shp
      rw [e, q] at hj
      injection hj with hj
      injection hj with _ _ hj
      cases hj
  refine ⟨H2, ap, ⟨fun j hj => by rw [hk j (by omega) (by omega) (by omega)]; exact R.low j hj, by omega, by rw [k3 _ (by omega) (by omega)]; exact gm, cs ++ [.slice (some ⟨nb, 0, none⟩) n (UNK + 1)], A3, by simp [h1], fun i hi => ?_⟩, by omega, hcell⟩
  by_cases c : i < L.length
  · obtain ⟨x, x1, x2, x3⟩ := h2 i c
    refine ⟨x, by rw [List.getElem?_append_left (by omega)]; exact x1, x2.keep hcell, ?_⟩
    rw [List.getElem_append_left c]
    exact x3.keepL x2 (fun j hj => hk j (by omega) (by omega) (by omega)) (by omega) hcell
  · have hiL : i = L.length := by simp at hi; omega
    subst hiL
    have hnb2 := hcell _ _ _ _ _ hnb
    refine ⟨.slice (some ⟨nb, 0, none⟩) n (UNK + 1), by rw [List.getElem?_append_right (by omega), h1, Nat.sub_self]; rfl, ⟨nb, 0, n, UNK + 1, rfl, .inr ⟨hnl, _, _, _, _, by rw [hnb2]; exact hnb, rfl⟩⟩, ?_⟩
    have : (L ++ [t])[L.length]'hi = t := by simp
    rw [this]
    exact IS.lstAt (by rw [hnb2]; exact hnb) rfl
end
end Go.Proofs.YtpkhkghiidilcaaDoor.Sh

namespace Go.Proofs.YtpkhkghiidilcaaDoor.Sh
open Go
set_option maxRecDepth 100000
set_option maxHeartbeats 4000000
theorem load_pair {h : SHeap} {b : Nat} {L : List (Nat × Nat)} {el : TypeId} {pf : Bool} {own : Nat} {old : List Nat} (hb : h[b]? = some (.cells (prN L) el pf own old)) (hr : readable own = true) {j : Nat} (hj : j < L.length) : loadS h (some 2) (.pointer (some ⟨b, j * 2, none⟩)) = some (.agg #[.int .i64 (L[j].1 : Int), .int .i64 (L[j].2 : Int)]) := by
  have hp : Prs h b 0 (castE L) := Prs.mk0 (el := el) (pf := pf) (own := own) (old := old) (by rw [hb, prN_prs]) hr
  have := hp.loadN (i := j) (by rw [castE_len]; exact hj)
  rw [Nat.zero_add] at this
  rw [this]
  simp [castE]
section
variable {H : SHeap} {n : Nat} {E : List (Int × Int)} {s : Nat → Int} {ev : Value}
end
end Go.Proofs.YtpkhkghiidilcaaDoor.Sh

namespace Go.Proofs.YtpkhkghiidilcaaDoor.Sh
open Go
set_option maxRecDepth 100000
set_option maxHeartbeats 4000000
structure PSt where
  b : Nat × Nat
  out : List Nat
  rest : List (Nat × Nat)
def pStep (adj : Nat → Nat → Bool) (rec : Nat → Int → Option (Nat × List Nat)) (v : Nat) (frm : Int) (S : PSt) (u : Nat) : Option PSt :=
  if (u : Int) = frm then some S
  else if adj v u = false then some S
  else match rec u v with
    | none => none
    | some r =>
      if 1000 < r.1 ∨ 1000 < S.out.length + r.2.length then none
      else if S.b.1 < r.1 + 1 then some ⟨(r.1 + 1, u), S.out ++ r.2, if S.b.1 = 0 then S.rest else S.rest ++ [S.b]⟩
      else some ⟨S.b, S.out ++ r.2, S.rest ++ [(r.1 + 1, u)]⟩
def pLoop (adj : Nat → Nat → Bool) (rec : Nat → Int → Option (Nat × List Nat)) (v : Nat) (frm : Int) : Nat → Nat → PSt → Option PSt
  | 0, _, S => some S
  | m + 1, u, S => match pStep adj rec v frm S u with
    | none => none
    | some S' => pLoop adj rec v frm m (u + 1) S'
def partsO (adj : Nat → Nat → Bool) (n : Nat) : Nat → Nat → Int → Option (Nat × List Nat)
  | 0, _, _ => none
  | k + 1, v, frm => match pLoop adj (partsO adj n k) v frm n 0 ⟨(0, 0), [], []⟩ with
    | none => none
    | some S => some (S.b.1, S.out ++ S.rest.map Prod.fst)
structure PT (H : SHeap) (S : PSt) (ov rv : Value) (h : SHeap) : Prop where
  le : H.length < h.length
  low : ∀ j, j < H.length → h[j]? = H[j]?
  bb : h[H.length]? = some (.cells [.int .i64 (S.b.1 : Nat), .int .i64 (S.b.2 : Nat)] 129 true 0 [])
  ao : Acc (H.length + 1) h ov (S.out.map nI) S.out.length 1 3
  ar : Acc (H.length + 1) h rv (prN S.rest) S.rest.length 2 129
  ne : ∀ (b m m' c c' : Nat), ov = .slice (some ⟨b, 0, none⟩) m c → rv ≠ .slice (some ⟨b, 0, none⟩) m' c'
section
variable {H h : SHeap} {S : PSt} {ov rv : Value}
theorem Acc.shape {lo : Nat} {h : SHeap} {v : Value} {cs : List Value} {n s : Nat} {el : TypeId} (a : Acc lo h v cs n s el) : ∃ a c, v = .slice a n c := by
  rcases a with ⟨rfl, rfl, _⟩ | ⟨b, old, rfl, _⟩
  · exact ⟨_, _, rfl⟩
  · exact ⟨_, _, rfl⟩
theorem PT.app (P : PT H S ov rv h) (g : SHeap) : PT H S ov rv (h ++ g) := by
  have hle := P.le
  exact ⟨by simp; omega, fun j hj => by rw [List.getElem?_append_left (by omega)]; exact P.low j hj, by rw [List.getElem?_append_left hle]; exact P.bb,
    P.ao.keep (fun b e => List.getElem?_append_left (P.ao.lt e).2), P.ar.keep (fun b e => List.getElem?_append_left (P.ar.lt e).2), P.ne⟩
theorem PT.setB (P : PT H S ov rv h) (k u : Nat) : (∀ base d, storeS base h d H.length 0 (cellsL (.agg #[.int .i64 (k : Nat), .int .i64 (u : Nat)])) = some (h.set H.length (.cells [.int .i64 (k : Nat), .int .i64 (u : Nat)] 129 true 0 []), d)) ∧ PT H ⟨(k, u), S.out, S.rest⟩ ov rv (h.set H.length (.cells [.int .i64 (k : Nat), .int .i64 (u : Nat)] 129 true 0 [])) := by
  have hle := P.le
  refine ⟨fun base d => ?_, by simp; omega, fun j hj => by rw [List.getElem?_set_ne (by omega)]; exact P.low j hj, by rw [List.getElem?_set_self hle], P.ao.keep (fun b e => List.getElem?_set_ne (by have := (P.ao.lt e).1; omega)), P.ar.keep (fun b e => List.getElem?_set_ne (by have := (P.ar.lt e).1; omega)), P.ne⟩
  have := store_at (h := h) (b := H.length) (base := base) (vs := [.int .i64 (k : Nat), .int .i64 (u : Nat)]) P.bb rfl (Nat.succ_pos _) rfl (fun _ => rfl) d
  rw [dirty_pf] at this
  exact this
theorem PT.pushO (P : PT H S ov rv h) (o : List Nat) (hl : S.out.length + o.length ≤ 1000) :
    ∃ G v2, (∀ (base : Nat) (d : List Nat), appendS base (resH h (o.map nI) o.length 3) d 3 true 1 8 ov (resV h o.length 1) = some (v2, G, d)) ∧ PT H ⟨S.b, S.out ++ o, S.rest⟩ v2 rv G := by
  have hle := P.le
  by_cases c : o.length = 0
  · have e : o = [] := List.length_eq_zero_iff.1 c
    subst e
    obtain ⟨a, cc, e⟩ := P.ao.shape
    refine ⟨h, ov, fun base d => ?_, ?_⟩
    · show appendS base h d 3 true 1 8 ov (.slice none 0 0) = _
      rw [e]
      unfold appendS
      simp [lenS]
    · rw [List.append_nil]; exact P
  · rw [← resV_pos h 1 c, ← resH_pos h _ 3 c]
    have P2 := P.app [.cells (o.map nI) 3 true 0 []]
    obtain ⟨old, ap, acc2, kp⟩ := acc_appendN (bytes := 8) (new := o.map nI) (m := o.length) (bs := h.length) (cb := UNK + 1) (el2 := 3) (pf2 := true) (own2 := 0) (old2 := []) P2.ao (by rw [app_get0]; rfl) rfl c (by simp) (by decide) (by rw [List.all_eq_true]; intro x hx; obtain ⟨y, _, rfl⟩ := List.mem_map.1 hx; rfl) (by decide) (by omega) (by simp; omega)
    refine ⟨_, _, ap, ?_, fun j hj => ?_, ?_, ?_, ?_, fun b m m' cc cc' e e2 => ?_⟩
    · simp [shv_len]; omega
    · rw [kp j (by simp; omega) (fun b e => by have := (P2.ao.lt e).1; omega)]; exact P2.low j hj
    · rw [kp _ (by simp; omega) (fun b e => by have := (P2.ao.lt e).1; omega)]; exact P2.bb
    · show Acc _ _ _ ((S.out ++ o).map nI) (S.out ++ o).length 1 3
      have e : (S.out ++ o).length = S.out.length + o.length := List.length_append
      rw [List.map_append, e]; exact acc2
    · exact P2.ar.keep (fun b e => kp b (P2.ar.lt e).2 (fun b' e' hb => by subst hb; exact P.ne _ _ _ _ _ e' e))
    · injection e with e _ _
      injection e with e
      injection e with e _ _
      rcases P.ar with ⟨_, h2, _⟩ | ⟨b', old', h2, h3, _⟩
      · rw [h2] at e2; simp at e2
      · rw [h2] at e2
        injection e2 with e2 _ _
        injection e2 with e2
        injection e2 with e2 _ _
        have := (List.getElem?_eq_some_iff.1 h3).1
        simp at e
        omega
theorem PT.pushR (P : PT H S ov rv h) (k u : Nat) (hl : S.rest.length ≤ 1000) :
    ∃ G v2, (∀ (base : Nat) (d : List Nat), appendS base (h ++ [.cells [.int .i64 (k : Nat), .int .i64 (u : Nat)] 129 true 0 []]) d 129 true 2 16 rv (.slice (some ⟨h.length, 0, none⟩) 1 1) = some (v2, G, d)) ∧ PT H ⟨S.b, S.out, S.rest ++ [(k, u)]⟩ ov v2 G := by
  have hle := P.le
  have P2 := P.app [.cells [.int .i64 (k : Nat), .int .i64 (u : Nat)] 129 true 0 []]
  obtain ⟨old, ap, acc2, kp⟩ := acc_append (bytes := 16) (new := [.int .i64 (k : Nat), .int .i64 (u : Nat)]) (bs := h.length) (el2 := 129) (pf2 := true) (own2 := 0) (old2 := []) P2.ar (by rw [app_get0]; rfl) rfl rfl (by decide) rfl (by decide) (by omega) (by simp; omega)
  refine ⟨_, _, ap, ?_, fun j hj => ?_, ?_, ?_, ?_, fun b m m' cc cc' e e2 => ?_⟩
  · simp [shv_len]; omega
  · rw [kp j (by simp; omega) (fun b e => by have := (P2.ar.lt e).1; omega)]; exact P2.low j hj
  · rw [kp _ (by simp; omega) (fun b e => by have := (P2.ar.lt e).1; omega)]; exact P2.bb
  · exact P2.ao.keep (fun b e => kp b (P2.ao.lt e).2 (fun b' e' hb => by subst hb; exact P.ne _ _ _ _ _ e e'))
  · show Acc _ _ _ (prN (S.rest ++ [(k, u)])) (S.rest ++ [(k, u)]).length 2 129
    have e : (S.rest ++ [(k, u)]).length = S.rest.length + 1 := by simp
    rw [prN_snoc, e]; exact acc2
  · injection e2 with e2 _ _
    injection e2 with e2
    injection e2 with e2 _ _
    rcases P.ao with ⟨_, h2, _⟩ | ⟨b', old', h2, h3, _⟩
    · rw [h2] at e; simp at e
    · rw [h2] at e
      injection e with e _ _
      injection e with e
      injection e with e _ _
      have := (List.getElem?_eq_some_iff.1 h3).1
      simp at e2
      omega
end
end Go.Proofs.YtpkhkghiidilcaaDoor.Sh

namespace Go.Proofs.YtpkhkghiidilcaaDoor.Sh
open Go
set_option maxRecDepth 100000
set_option maxHeartbeats 4000000
section
variable {adj : Nat → Nat → Bool} {rec : Nat → Int → Option (Nat × List Nat)} {v u m : Nat} {frm : Int} {S Sf S' : PSt}
theorem pLoop_succ (h : pLoop adj rec v frm (m + 1) u S = some Sf) : ∃ S', pStep adj rec v frm S u = some S' ∧ pLoop adj rec v frm m (u + 1) S' = some Sf := by
  rw [pLoop] at h
  cases hs : pStep adj rec v frm S u with
  | none => rw [hs] at h; cases h
  | some S' => rw [hs] at h; exact ⟨S', rfl, h⟩
theorem pStep_rec {b : Nat × Nat} {out : List Nat} {rest : List (Nat × Nat)} (h : pStep adj rec v frm ⟨b, out, rest⟩ u = some S') (h1 : ¬ (u : Int) = frm) (h2 : adj v u = true) :
    ∃ (k : Nat) (o : List Nat), rec u v = some (k, o) ∧ k ≤ 1000 ∧ out.length + o.length ≤ 1000 ∧ ((b.1 < k + 1 ∧ S' = ⟨(k + 1, u), out ++ o, if b.1 = 0 then rest else rest ++ [b]⟩) ∨ (¬ b.1 < k + 1 ∧ S' = ⟨b, out ++ o, rest ++ [(k + 1, u)]⟩)) := by
  unfold pStep at h
  rw [if_neg h1, h2, if_neg (by simp)] at h
  cases hr : rec u v with
  | none => rw [hr] at h; cases h
  | some r =>
    rw [hr] at h
    obtain ⟨k, o⟩ := r
    dsimp only at h
    by_cases c : 1000 < k ∨ 1000 < out.length + o.length
    · rw [if_pos c] at h; cases h
    · rw [if_neg c] at h
      refine ⟨k, o, rfl, by omega, by omega, ?_⟩
      by_cases c2 : b.1 < k + 1
      · rw [if_pos c2] at h; injection h with h; exact .inl ⟨c2, h.symm⟩
      · rw [if_neg c2] at h; injection h with h; exact .inr ⟨c2, h.symm⟩
theorem pLoop_out : ∀ {m u : Nat} {S : PSt}, pLoop adj rec v frm m u S = some Sf → S.out.length ≤ 1000 → Sf.out.length ≤ 1000
  | 0, u, S, h, h2 => by rw [pLoop] at h; injection h with h; rw [← h]; exact h2
  | m + 1, u, S, h, h2 => by
    obtain ⟨S', k1, k2⟩ := pLoop_succ h
    refine pLoop_out k2 ?_
    by_cases c1 : (u : Int) = frm
    · unfold pStep at k1; rw [if_pos c1] at k1; injection k1 with k1; rw [← k1]; exact h2
    · by_cases c2 : adj v u = true
      · obtain ⟨b, out, rest⟩ := S
        obtain ⟨k, o, _, _, h5, h6⟩ := pStep_rec k1 c1 c2
        rcases h6 with ⟨_, rfl⟩ | ⟨_, rfl⟩
        · dsimp only; rw [List.length_append]; exact h5
        · dsimp only; rw [List.length_append]; exact h5
      · unfold pStep at k1; rw [if_neg c1, if_pos (by simpa using c2)] at k1; injection k1 with k1; rw [← k1]; exact h2
end
section
variable {H : SHeap} {n gr v : Nat} {E : List (Int × Int)} {frm : Int} {rec : Nat → Int → Option (Nat × List Nat)} {Sf : PSt}
theorem p72_loop1 (cx : Cx) (hn : n ≤ 6) (hE : EOK n E) (hG : GAt H gr n E) (hv : v < n)
    (IH : ∀ (u : Nat) (f : Int) (k : Nat) (o : List Nat), u < n → rec u f = some (k, o) → ∀ h : SHeap, GAt h gr n E → M.call 72 [.pointer (some ⟨gr, 0, none⟩), .int .i64 u, .int .i64 f] h = some (.tuple #[.int .i64 (k : Nat), resV h o.length 1], resH h (o.map nI) o.length 3, [])) :
    ∀ k ρ ms h' d', (∃ (u : Nat) (S : PSt) (ov rv : Value), u + k = n ∧ pLoop (adjE E) rec v frm k u S = some Sf ∧ PT H S ov rv h' ∧ (S.b.1 = 0 → S.b.2 = 0) ∧ S.rest.length ≤ u ∧ ρ 0 = .pointer (some ⟨gr, 0, none⟩) ∧ ρ 1 = .int .i64 v ∧ ρ 2 = .int .i64 frm ∧ ρ 7 = ov ∧ ρ 8 = .pointer (some ⟨H.length, 0, none⟩) ∧ ρ 9 = rv ∧ ρ 20 = .int .i64 n ∧ ρ 21 = .int .i64 u ∧ ms = [] ∧ d' = []) →
    LoopW M cx 7 sf72L1 ρ ms h' d' (fun ex ρ' ms' h' d' => ms' = [] ∧ d' = [] ∧ ex = .exit 0 ∧ ∃ ov rv, PT H Sf ov rv h' ∧ Sf.rest.length ≤ n ∧ ρ' 7 = ov ∧ ρ' 8 = .pointer (some ⟨H.length, 0, none⟩) ∧ ρ' 9 = rv) := by
  refine loop_run _ ?_
  rintro k ρ ms h d' ⟨u, S, ov, rv, hk, hp, P, hb0, hrl, r0, r1, r2, r7, r8, r9, r20, r21, rfl, rfl⟩
  unfold sf72L1
  by_cases c0 : k = 0
  · subst c0
    have e1 : ¬ ((u : Int) < n) := by omega
    have e2 : S = Sf := by rw [pLoop] at hp; injection hp
    subst e2
    repeat (first | apply Z1 | apply Z2 | apply Z3 | apply Z4 | apply Z5 rfl | apply Z6 | apply Z7 | apply Z8 | apply Z9 | apply ZA | apply ZB | apply ZC | ((first | apply ZD (by decide) | apply ZN (by decide)); (simp (maxSteps := 9999999) only [go_sem, r20, r21, e1]; rfl)) | (refine ZE ?_ ?_; · simp only [go_sem]) | (refine ZF ?_ ?_; · simp only [go_sem]))
    exact end_nil ⟨rfl, rfl, rfl, ov, rv, P, by omega, by simp only [go_sem, r7], by simp only [go_sem, r8], by simp only [go_sem, r9]⟩
  · obtain ⟨m, rfl⟩ : ∃ m, k = m + 1 := ⟨k - 1, by omega⟩
    have e1 : ((u : Int) < n) := by omega
    have hu : u < n := by omega
    have hu6 : u < 6 := by omega
    have hv6 : v < 6 := by omega
    have ew : IntKind.i64.wrap ((u : Int) + 1) = ((u + 1 : Nat) : Int) := by rw [wrap64 (by omega) (by omega)]; rfl
    obtain ⟨S', hs, hp'⟩ := pLoop_succ hp
    have hgl : gr < H.length := (List.getElem?_eq_some_iff.1 hG).1
    have hGh : GAt h gr n E := by unfold GAt; rw [P.low gr hgl]; exact hG
    by_cases cu : (u : Int) = frm
    · have e2 : S' = S := by
        unfold pStep at hs
        rw [if_pos cu] at hs
        injection hs with hs
        exact hs.symm
      subst e2
      have eq1 : ((u : Int) = frm) = True := eq_true cu
      repeat (first | apply Z1 | apply Z2 | apply Z3 | apply Z4 | apply Z5 rfl | apply Z6 | apply Z7 | apply Z8 | apply Z9 | apply ZA | apply ZB | apply ZC | ((first | apply ZD (by decide) | apply ZN (by decide)); (simp (maxSteps := 9999999) only [go_sem, r0, r1, r2, r20, r21, e1, eq1, ew]; rfl)) | (refine ZE ?_ ?_; · simp only [go_sem]) | (refine ZF ?_ ?_; · simp only [go_sem]))
      exact end_nil ⟨m, by omega, u + 1, S', ov, rv, by omega, hp', P, hb0, by omega, by simp only [go_sem, r0], by simp only [go_sem, r1], by simp only [go_sem, r2], by simp only [go_sem, r7], by simp only [go_sem, r8], by simp only [go_sem, r9], by simp only [go_sem, r20], by simp only [go_sem, ew], rfl, rfl⟩
    · have eq1 : ((u : Int) = frm) = False := eq_false cu
      have z1 : (0 : Int) ≤ v := by omega
      have z2 : (v : Int) < 6 := by omega
      have wq : IntKind.u64.wrap (u : Int) = u := wrapU (by omega) (by omega)
      have hx := hGh.nx hv6
      have sh := shr_n (k := .u64) (a := nxE E v) (v := u) (by omega)
      have bv := bit_val (nxE E v) u
      have an := b_and (a := nxE E v / 2 ^ u) (b := 1) (by have := Nat.div_le_self (nxE E v) (2 ^ u); have := nxE_lt E v; omega) (by decide)
      rw [nxE_bit hE hn] at bv
      rw [bv] at an
      by_cases ca : adjE E v u = true
      · rw [if_pos ca] at an
        have an' : binS .and (.int .i64 ((nxE E v / 2 ^ u : Nat) : Int)) (.int .i64 1) = some (.int .i64 1) := an
        obtain ⟨⟨b1, b2⟩, out, rest⟩ := S
        obtain ⟨q, o, hr, hq, hl, hS'⟩ := pStep_rec hs cu ca
        dsimp only at hb0 hrl hS'
        have c72 := IH u v q o hu hr h hGh
        obtain ⟨G, ov2, ap, P2⟩ := P.pushO o hl
        have wr : IntKind.i64.wrap ((q : Int) + 1) = ((q + 1 : Nat) : Int) := by rw [wrap64 (by omega) (by omega)]; rfl
        obtain ⟨oa, oc, eov⟩ := P.ao.shape
        obtain ⟨ra, rc, erv⟩ := P.ar.shape
        have hle2 := P2.le
        have lb : ∀ x, loadS (G ++ [x]) none (.pointer (some ⟨H.length, 0, none⟩)) = some (.int .i64 (b1 : Nat)) := fun x => by
          have := load_cell (o := 0) (P2.app [x]).bb rfl rfl []; rw [List.append_nil] at this; exact this
        have lb2 : ∀ x, loadS (G ++ [x]) (some 2) (.pointer (some ⟨H.length, 0, none⟩)) = some (.agg #[.int .i64 (b1 : Nat), .int .i64 (b2 : Nat)]) := fun x => by
          have := load_all (n := 2) (P2.app [x]).bb rfl rfl []; rw [List.append_nil] at this; exact this
        have nq : ((((q + 1 : Nat) : Int)) = 0) = False := eq_false (by omega)
        rcases hS' with ⟨hlt, rfl⟩ | ⟨hlt, rfl⟩
        · have gt : (((q + 1 : Nat) : Int) > (b1 : Int)) := by omega
          obtain ⟨st, P3⟩ := (P2.app [SO.cells [.int .i64 (b1 : Nat), .int .i64 (b2 : Nat)] 129 true 0 []]).setB (q + 1) u
          have l3 : loadS ((G ++ [SO.cells [.int .i64 (b1 : Nat), .int .i64 (b2 : Nat)] 129 true 0 []]).set H.length (SO.cells [.int .i64 ((q + 1 : Nat) : Nat), .int .i64 (u : Nat)] 129 true 0 [])) (some 2) (.pointer (some ⟨G.length, 0, none⟩)) = some (.agg #[.int .i64 (b1 : Nat), .int .i64 (b2 : Nat)]) := by
            have := load_all (n := 2) (h := (G ++ [SO.cells [.int .i64 (b1 : Nat), .int .i64 (b2 : Nat)] 129 true 0 []]).set H.length (SO.cells [.int .i64 ((q + 1 : Nat) : Nat), .int .i64 (u : Nat)] 129 true 0 [])) (b := G.length) (cs := [.int .i64 (b1 : Nat), .int .i64 (b2 : Nat)]) (el := 129) (pf := true) (own := 0) (old := []) (by rw [List.getElem?_set_ne (by omega), app_get0]; rfl) rfl rfl []
            rw [List.append_nil] at this; exact this
          generalize (G ++ [SO.cells [.int .i64 (b1 : Nat), .int .i64 (b2 : Nat)] 129 true 0 []]).set H.length (SO.cells [.int .i64 ((q + 1 : Nat) : Nat), .int .i64 (u : Nat)] 129 true 0 []) = G3 at *
          by_cases cb : b1 = 0
          · have nb1 : ((b1 : Int) = 0) = True := eq_true (by omega)
            have nb2 : ((b2 : Int) = 0) = True := eq_true (by have := hb0 cb; omega)
            rw [if_pos cb] at hp'
            repeat (first | apply Z1 | apply Z2 | apply Z3 | apply Z4 | apply Z5 rfl | apply Z6 | apply Z7 | apply Z8 | apply Z9 | apply ZA | apply ZB | apply ZC | ((first | apply ZD (by decide) | apply ZN (by decide)); (simp (maxSteps := 9999999) only [go_sem, r0, r1, r2, r7, r8, r9, r20, r21, e1, eq1, z1, z2, wq, hx, sh, an', c72, ↓ap, wr, lb, lb2, gt, ↓st, l3, nb1, nb2, ew, Int.toNat_natCast]; rfl)) | (refine ZE ?_ ?_; · simp only [go_sem]) | (refine ZF ?_ ?_; · simp only [go_sem]))
            exact end_nil ⟨m, by omega, u + 1, _, ov2, rv, by omega, hp', P3, fun h => by dsimp only at h; omega, by dsimp only; omega, by simp only [go_sem, r0], by simp only [go_sem, r1], by simp only [go_sem, r2], by simp only [go_sem], by simp only [go_sem, r8], by simp only [go_sem, r9], by simp only [go_sem, r20], by simp only [go_sem, ew], rfl, rfl⟩
          · have nb : ((b1 : Int) = 0) = False := eq_false (by omega)
            obtain ⟨G4, rv2, ap2, P4⟩ := P3.pushR b1 b2 (by dsimp only; omega)
            rw [if_neg cb] at hp'
            repeat (first | apply Z1 | apply Z2 | apply Z3 | apply Z4 | apply Z5 rfl | apply Z6 | apply Z7 | apply Z8 | apply Z9 | apply ZA | apply ZB | apply ZC | ((first | apply ZD (by decide) | apply ZN (by decide)); (simp (maxSteps := 9999999) only [go_sem, r0, r1, r2, r7, r8, r9, r20, r21, e1, eq1, z1, z2, wq, hx, sh, an', c72, ↓ap, wr, lb, lb2, gt, ↓st, l3, nb, ↓ap2, ew, Int.toNat_natCast]; rfl)) | (refine ZE ?_ ?_; · simp only [go_sem]) | (refine ZF ?_ ?_; · simp only [go_sem]))
            exact end_nil ⟨m, by omega, u + 1, _, ov2, rv2, by omega, hp', P4, fun h => by dsimp only at h; omega, by simp; omega, by simp only [go_sem, r0], by simp only [go_sem, r1], by simp only [go_sem, r2], by simp only [go_sem], by simp only [go_sem, r8], by simp only [go_sem], by simp only [go_sem, r20], by simp only [go_sem, ew], rfl, rfl⟩
        · have gt : ¬ (((q + 1 : Nat) : Int) > (b1 : Int)) := by omega
          obtain ⟨G4, rv2, ap2, P4⟩ := (P2.app [SO.cells [.int .i64 ((q + 1 : Nat) : Nat), .int .i64 (u : Nat)] 129 true 0 []]).pushR (q + 1) u (by dsimp only; omega)
          simp only [List.append_assoc, List.cons_append, List.nil_append, List.length_append, List.length_cons, List.length_nil, Nat.zero_add] at ap2
          repeat (first | apply Z1 | apply Z2 | apply Z3 | apply Z4 | apply Z5 rfl | apply Z6 | apply Z7 | apply Z8 | apply Z9 | apply ZA | apply ZB | apply ZC | ((first | apply ZD (by decide) | apply ZN (by decide)); (simp (maxSteps := 9999999) only [go_sem, r0, r1, r2, r7, r8, r9, r20, r21, e1, eq1, z1, z2, wq, hx, sh, an', c72, ↓ap, wr, lb, gt, nq, ↓ap2, ew, Int.toNat_natCast]; rfl)) | (refine ZE ?_ ?_; · simp only [go_sem]) | (refine ZF ?_ ?_; · simp only [go_sem]))
          exact end_nil ⟨m, by omega, u + 1, _, ov2, rv2, by omega, hp', P4, hb0, by simp; omega, by simp only [go_sem, r0], by simp only [go_sem, r1], by simp only [go_sem, r2], by simp only [go_sem], by simp only [go_sem, r8], by simp only [go_sem], by simp only [go_sem, r20], by simp only [go_sem, ew], rfl, rfl⟩
      · rw [if_neg ca] at an
        have an' : binS .and (.int .i64 ((nxE E v / 2 ^ u : Nat) : Int)) (.int .i64 1) = some (.int .i64 0) := an
        have e2 : S' = S := by
          unfold pStep at hs
          rw [if_neg cu, if_pos (by simpa using ca)] at hs
          injection hs with hs
          exact hs.symm
        subst e2
        repeat (first | apply Z1 | apply Z2 | apply Z3 | apply Z4 | apply Z5 rfl | apply Z6 | apply Z7 | apply Z8 | apply Z9 | apply ZA | apply ZB | apply ZC | ((first | apply ZD (by decide) | apply ZN (by decide)); (simp (maxSteps := 9999999) only [go_sem, r0, r1, r2, r20, r21, e1, eq1, z1, z2, wq, hx, sh, an', ew, Int.toNat_natCast]; rfl)) | (refine ZE ?_ ?_; · simp only [go_sem]) | (refine ZF ?_ ?_; · simp only [go_sem]))
        exact end_nil ⟨m, by omega, u + 1, S', ov, rv, by omega, hp', P, hb0, by omega, by simp only [go_sem, r0], by simp only [go_sem, r1], by simp only [go_sem, r2], by simp only [go_sem, r7], by simp only [go_sem, r8], by simp only [go_sem, r9], by simp only [go_sem, r20], by simp only [go_sem, ew], rfl, rfl⟩
end
end Go.Proofs.YtpkhkghiidilcaaDoor.Sh

namespace Go.Proofs.YtpkhkghiidilcaaDoor.Sh
open Go
set_option maxRecDepth 100000
set_option maxHeartbeats 4000000
section
variable {H h : SHeap} {S : PSt} {ov rv : Value}
theorem PT.push1 (P : PT H S ov rv h) (k : Nat) (hl : S.out.length ≤ 10000) :
    ∃ G v2, (∀ (base : Nat) (d : List Nat), appendS base (h ++ [SO.cells [.int .i64 (k : Nat)] 3 true 0 []]) d 3 true 1 8 ov (.slice (some ⟨h.length, 0, none⟩) 1 1) = some (v2, G, d)) ∧ PT H ⟨S.b, S.out ++ [k], S.rest⟩ v2 rv G := by
  have hle := P.le
  have P2 := P.app [SO.cells [.int .i64 (k : Nat)] 3 true 0 []]
  obtain ⟨old, ap, acc2, kp⟩ := acc_append (bytes := 8) (new := [.int .i64 (k : Nat)]) (bs := h.length) (el2 := 3) (pf2 := true) (own2 := 0) (old2 := []) P2.ao (by rw [app_get0]; rfl) rfl rfl (by decide) rfl (by decide) (by omega) (by simp; omega)
  refine ⟨_, _, ap, ?_, fun j hj => ?_, ?_, ?_, ?_, fun b m m' cc cc' e e2 => ?_⟩
  · simp [shv_len]; omega
  · rw [kp j (by simp; omega) (fun b e => by have := (P2.ao.lt e).1; omega)]; exact P2.low j hj
  · rw [kp _ (by simp; omega) (fun b e => by have := (P2.ao.lt e).1; omega)]; exact P2.bb
  · show Acc _ _ _ ((S.out ++ [k]).map nI) (S.out ++ [k]).length 1 3
    have e : (S.out ++ [k]).length = S.out.length + 1 := by simp
    rw [List.map_append, e]; exact acc2
  · exact P2.ar.keep (fun b e => kp b (P2.ar.lt e).2 (fun b' e' hb => by subst hb; exact P.ne _ _ _ _ _ e' e))
  · injection e with e _ _
    injection e with e
    injection e with e _ _
    rcases P.ar with ⟨_, h2, _⟩ | ⟨b', old', h2, h3, _⟩
    · rw [h2] at e2; simp at e2
    · rw [h2] at e2
      injection e2 with e2 _ _
      injection e2 with e2
      injection e2 with e2 _ _
      have := (List.getElem?_eq_some_iff.1 h3).1
      simp at e
      omega
end
section
variable {H : SHeap} {n gr v : Nat} {E : List (Int × Int)} {frm : Int}
theorem p72_loop0 (cx : Cx) {b : Nat × Nat} {out : List Nat} {rest : List (Nat × Nat)} {rv : Value} (hr : rest.length ≤ 6) (ho : out.length ≤ 1000) :
    ∀ k ρ ms h' d', (∃ (i : Nat) (ov : Value), i + k = rest.length ∧ PT H ⟨b, out ++ (rest.take i).map Prod.fst, rest⟩ ov rv h' ∧ ρ 7 = ov ∧ ρ 8 = .pointer (some ⟨H.length, 0, none⟩) ∧ ρ 69 = rv ∧ ρ 70 = .int .i64 rest.length ∧ ρ 71 = .int .i64 i ∧ ms = [] ∧ d' = []) →
    LoopW M cx 7 sf72L0 ρ ms h' d' (fun ex ρ' ms' h' d' => ms' = [] ∧ d' = [] ∧ ex = .exit 2 ∧ ∃ ov, PT H ⟨b, out ++ rest.map Prod.fst, rest⟩ ov rv h' ∧ ρ' 7 = ov ∧ ρ' 8 = .pointer (some ⟨H.length, 0, none⟩)) := by
  refine loop_run _ ?_
  rintro k ρ ms h d' ⟨i, ov, hk, P, r7, r8, r69, r70, r71, rfl, rfl⟩
  unfold sf72L0
  by_cases c0 : k = 0
  · have e1 : ¬ ((i : Int) < rest.length) := by omega
    rw [List.take_of_length_le (by omega)] at P
    repeat (first | apply Z1 | apply Z2 | apply Z3 | apply Z4 | apply Z5 rfl | apply Z6 | apply Z7 | apply Z8 | apply Z9 | apply ZA | apply ZB | apply ZC | ((first | apply ZD (by decide) | apply ZN (by decide)); (simp (maxSteps := 9999999) only [go_sem, r70, r71, e1]; rfl)) | (refine ZE ?_ ?_; · simp only [go_sem]) | (refine ZF ?_ ?_; · simp only [go_sem]))
    exact end_nil ⟨rfl, rfl, rfl, ov, P, by simp only [go_sem, r7], by simp only [go_sem, r8]⟩
  · have e1 : ((i : Int) < rest.length) := by omega
    have hi : i < rest.length := by omega
    have z1 : (0 : Int) ≤ i := by omega
    have ew : IntKind.i64.wrap ((i : Int) + 1) = ((i + 1 : Nat) : Int) := by rw [wrap64 (by omega) (by omega)]; rfl
    obtain ⟨oa, oc, eov⟩ := P.ao.shape
    rcases P.ar with ⟨hz, _⟩ | ⟨rb, old, erv, hrb, _⟩
    · dsimp only at hz; omega
    · dsimp only at erv hrb
      have lp := load_pair hrb rfl hi
      have et : (rest.take (i + 1)).map Prod.fst = (rest.take i).map Prod.fst ++ [rest[i].1] := by rw [List.take_add_one, List.getElem?_eq_getElem hi, List.map_append]; rfl
      generalize rest[i] = p at *
      have tl : ((rest.take i).map Prod.fst).length ≤ 6 := by simp; omega
      obtain ⟨G, v2, ap, P2⟩ := (P.app [SO.cells [.int .i64 (p.1 : Nat), .int .i64 (p.2 : Nat)] 129 true 0 []]).push1 p.1 (by dsimp only; rw [List.length_append]; omega)
      dsimp only at P2
      rw [List.append_assoc, ← et] at P2
      simp only [List.append_assoc, List.cons_append, List.nil_append, List.length_append, List.length_cons, List.length_nil, Nat.zero_add] at ap
      subst erv
      repeat (first | apply Z1 | apply Z2 | apply Z3 | apply Z4 | apply Z5 rfl | apply Z6 | apply Z7 | apply Z8 | apply Z9 | apply ZA | apply ZB | apply ZC | ((first | apply ZD (by decide) | apply ZN (by decide)); (simp (maxSteps := 9999999) only [go_sem, r7, r69, r70, r71, e1, z1, lp, ↓ap, ew, Int.toNat_natCast]; rfl)) | (refine ZE ?_ ?_; · simp only [go_sem]) | (refine ZF ?_ ?_; · simp only [go_sem]))
      exact end_nil ⟨k - 1, by omega, i + 1, v2, by omega, P2, by simp only [go_sem], by simp only [go_sem, r8], by simp only [go_sem, r69], by simp only [go_sem, r70], by simp only [go_sem, ew], rfl, rfl⟩
theorem parts72 (hn : n ≤ 6) (hE : EOK n E) : ∀ (K v : Nat) (frm : Int) (k : Nat) (o : List Nat), v < n → partsO (adjE E) n K v frm = some (k, o) → ∀ h : SHeap, GAt h gr n E → M.call 72 [.pointer (some ⟨gr, 0, none⟩), .int .i64 v, .int .i64 frm] h = some (.tuple #[.int .i64 (k : Nat), resV h o.length 1], resH h (o.map nI) o.length 3, []) := by
  intro K
  induction K with
  | zero => intro v frm k o _ h; cases h
  | succ K ih =>
    intro v frm k o hv hp h hG
    rw [partsO] at hp
    cases hl : pLoop (adjE E) (partsO (adjE E) n K) v frm n 0 ⟨(0, 0), [], []⟩ with
    | none => rw [hl] at hp; cases hp
    | some Sf =>
      rw [hl] at hp
      dsimp only at hp
      injection hp with hp
      injection hp with hp1 hp2
      subst hp1 hp2
      refine call_run sf72 rfl rfl rfl ?_
      have P0 : PT h ⟨(0, 0), [], []⟩ (.slice none 0 0) (.slice none 0 0) (h ++ [SO.cells [.int .i64 0, .int .i64 0] 129 true 0 []]) :=
        ⟨by simp, fun j hj => List.getElem?_append_left hj, by rw [app_get0]; rfl, .inl ⟨rfl, rfl, rfl⟩, .inl ⟨rfl, rfl, rfl⟩, fun b m m' c c' e => by simp at e⟩
      have hgl : gr < h.length := (List.getElem?_eq_some_iff.1 hG).1
      have ln := (hG.app [SO.cells [.int .i64 0, .int .i64 0] 129 true 0 []]).n
      unfold sf72
      repeat (first | apply Z1 | apply Z2 | apply Z3 | apply Z4 | apply Z5 rfl | apply Z6 | apply Z7 | apply Z8 | apply Z9 | apply ZA | apply ZB | apply ZC | ((first | apply ZD (by decide) | apply ZN (by decide)); (simp (maxSteps := 9999999) only [go_sem, argR, ln]; rfl)) | (refine ZE ?_ ?_; · simp only [go_sem]) | (refine ZF ?_ ?_; · simp only [go_sem]))
      refine run_loop (p72_loop1 (H := h) (Sf := Sf) _ hn hE hG hv (fun u f k o hu hr h2 hG2 => ih u f k o hu hr h2 hG2) n _ _ _ _ ⟨0, ⟨(0, 0), [], []⟩, _, _, by omega, hl, P0, fun _ => rfl, by simp, by simp only [go_sem, argR], by simp only [go_sem, argR], by simp only [go_sem, argR], by simp only [go_sem], by simp only [go_sem], by simp only [go_sem], by simp only [go_sem], by simp only [go_sem] <;> rfl, rfl, rfl⟩) ?_
      rintro ex ρ1 ms1 h1 d1 ⟨rfl, rfl, rfl, ov, rv, P1, hr1, t7, t8, t9⟩
      obtain ⟨ra, rc, erv⟩ := P1.ar.shape
      have t9' := t9
      rw [erv] at t9'
      have ho : Sf.out.length ≤ 1000 := pLoop_out hl (by simp)
      obtain ⟨b, out, rest⟩ := Sf
      dsimp only at *
      have t0 : ((rest.take 0).map Prod.fst : List Nat) = [] := rfl
      repeat (first | apply Z1 | apply Z2 | apply Z3 | apply Z4 | apply Z5 rfl | apply Z6 | apply Z7 | apply Z8 | apply Z9 | apply ZA | apply ZB | apply ZC | ((first | apply ZD (by decide) | apply ZN (by decide)); (simp (maxSteps := 9999999) only [go_sem, t9']; rfl)) | (refine ZE ?_ ?_; · simp only [go_sem]) | (refine ZF ?_ ?_; · simp only [go_sem]))
      refine run_loop (p72_loop0 (H := h) (b := b) (out := out) (rest := rest) (rv := rv) _ (by omega) ho rest.length _ _ _ _ ⟨0, ov, by omega, by rw [t0, List.append_nil]; exact P1, by simp only [go_sem, t7], by simp only [go_sem, t8], by simp only [go_sem, t9'] <;> exact erv.symm, by simp only [go_sem], by simp only [go_sem] <;> rfl, rfl, rfl⟩) ?_
      rintro ex ρ2 ms2 h2 d2 ⟨rfl, rfl, rfl, ov2, P2, u7, u8⟩
      have lb : loadS h2 none (.pointer (some ⟨h.length, 0, none⟩)) = some (.int .i64 (b.1 : Nat)) := by
        have := load_cell (o := 0) P2.bb rfl rfl []; rw [List.append_nil] at this; exact this
      obtain ⟨oa, oc, eov⟩ := P2.ao.shape
      dsimp only at eov
      rw [eov] at u7
      have A : AccS (h ++ []) h2 ov2 ((out ++ rest.map Prod.fst).map nI) (out ++ rest.map Prod.fst).length 1 3 := by
        rw [List.append_nil]
        exact ⟨P2.ao.lo (by omega), by have := P2.le; omega, P2.low⟩
      have gc := A.gcR (.int .i64 (b.1 : Nat)) rfl
      rw [eov] at gc
      repeat (first | apply Z1 | apply Z2 | apply Z3 | apply Z4 | apply Z5 rfl | apply Z6 | apply Z7 | apply Z8 | apply Z9 | apply ZA | apply ZB | apply ZC | ((first | apply ZD (by decide) | apply ZN (by decide)); (simp (maxSteps := 9999999) only [go_sem, u7, u8, lb]; rfl)) | (refine ZE ?_ ?_; · simp only [go_sem]) | (refine ZF ?_ ?_; · simp only [go_sem]))
      exact end_nil (q_gc [.int .i64 (b.1 : Nat), .slice oa (out ++ rest.map Prod.fst).length oc] (by simp only [go_sem]) rfl gc rfl)
end
end Go.Proofs.YtpkhkghiidilcaaDoor.Sh

namespace Go.Proofs.YtpkhkghiidilcaaDoor.Sh
open Go
set_option maxRecDepth 100000
set_option maxHeartbeats 4000000
theorem E_idxStr (R : Rec) (cx : Cx) (e : Evl) (sl : Option Nat) (x i : Operand) (h : SHeap) (d : List Nat) : opE R cx e sl (.idxStr x i) h d = match e x, e i with
    | some (.string s), some (.int _ n) =>
      if decide (0 ≤ n) then match s.data.toList[n.toNat]? with
        | some b => some (.int .u8 b.toNat, h, d)
        | none => none
      else none
    | _, _ => none := (rfl)
attribute [go_sem ↓] E_idxStr
def lenTab : ByteArray := ⟨#[0, 1, 2, 2, 3, 3, 3, 3, 4, 4, 4, 4, 4, 4, 4, 4, 5, 5, 5, 5, 5, 5, 5, 5, 5, 5, 5, 5, 5, 5, 5, 5, 6, 6, 6, 6, 6, 6, 6, 6, 6, 6, 6, 6, 6, 6, 6, 6, 6, 6, 6, 6, 6, 6, 6, 6, 6, 6, 6, 6, 6, 6, 6, 6, 7, 7, 7, 7, 7, 7, 7, 7, 7, 7, 7, 7, 7, 7, 7, 7, 7, 7, 7, 7, 7, 7, 7, 7, 7, 7, 7, 7, 7, 7, 7, 7, 7, 7, 7, 7, 7, 7, 7, 7, 7, 7, 7, 7, 7, 7, 7, 7, 7, 7, 7, 7, 7, 7, 7, 7, 7, 7, 7, 7, 7, 7, 7, 7, 8, 8, 8, 8, 8, 8, 8, 8, 8, 8, 8, 8, 8, 8, 8, 8, 8, 8, 8, 8, 8, 8, 8, 8, 8, 8, 8, 8, 8, 8, 8, 8, 8, 8, 8, 8, 8, 8, 8, 8, 8, 8, 8, 8, 8, 8, 8, 8, 8, 8, 8, 8, 8, 8, 8, 8, 8, 8, 8, 8, 8, 8, 8, 8, 8, 8, 8, 8, 8, 8, 8, 8, 8, 8, 8, 8, 8, 8, 8, 8, 8, 8, 8, 8, 8, 8, 8, 8, 8, 8, 8, 8, 8, 8, 8, 8, 8, 8, 8, 8, 8, 8, 8, 8, 8, 8, 8, 8, 8, 8, 8, 8, 8, 8, 8, 8, 8, 8, 8, 8, 8, 8, 8, 8, 8, 8, 8, 8]⟩
theorem tab_at : ∀ n, n < 13 → ∃ m : UInt8, lenTab.data.toList[n]? = some m ∧ m.toNat ≤ 8 := by
  intro n hn
  have : ∀ n, n < 13 → (lenTab.data.toList[n]?).any (fun m => decide (m.toNat ≤ 8)) = true := by decide +kernel
  have := this n hn
  cases h : lenTab.data.toList[n]? with
  | none => rw [h] at this; cases this
  | some m => rw [h] at this; exact ⟨m, rfl, of_decide_eq_true this⟩
theorem len83 {n : Nat} (hn : n < 13) (h : SHeap) : ∃ m : Nat, m ≤ 8 ∧ M.call 83 [.int .u64 n] h = some (.int .i64 m, h, []) := by
  have e1 : ¬ ((n : Int) ≥ 4294967296) := by omega
  have e2 : ¬ ((n : Int) ≥ 65536) := by omega
  have e3 : ¬ ((n : Int) ≥ 256) := by omega
  have w1 : IntKind.u8.wrap (n : Int) = n := by
    have e1 : IntKind.u8.wrap (n : Int) = (n : Int) % 256 := by simp [IntKind.wrap, IntKind.signed, IntKind.bits]
    rw [e1]; omega
  obtain ⟨m, t1, hm⟩ := tab_at n hn
  unfold lenTab at t1
  dsimp only at t1
  have w2 : IntKind.i64.wrap ((m.toNat : Nat) : Int) = ((m.toNat : Nat) : Int) := wrap64 (by omega) (by omega)
  have p0 : (0 : Int) ≤ n := by omega
  have c96 : ∀ h, M.call 96 [.int .u64 n] h = some (.int .i64 ((m.toNat : Nat) : Int), h, []) := fun h => by
    refine call_run sf96 rfl rfl rfl ?_
    unfold sf96
    repeat (first | apply Z1 | apply Z2 | apply Z3 | apply Z4 | apply Z5 rfl | apply Z6 | apply Z7 | apply Z8 | apply Z9 | apply ZA | apply ZB | apply ZC | ((first | apply ZD (by decide) | apply ZN (by decide)); (simp (maxSteps := 9999999) only [go_sem, argR, e1, e2, e3, w1, p0, t1, w2, Int.toNat_natCast]; rfl)) | (refine ZE ?_ ?_; · simp only [go_sem]) | (refine ZF ?_ ?_; · simp only [go_sem]))
    exact end_nil (q_ret1 _ (by simp only [go_sem]) rfl (take_self _))
  refine ⟨m.toNat, hm, ?_⟩
  refine call_run sf83 rfl rfl rfl ?_
  unfold sf83
  repeat (first | apply Z1 | apply Z2 | apply Z3 | apply Z4 | apply Z5 rfl | apply Z6 | apply Z7 | apply Z8 | apply Z9 | apply ZA | apply ZB | apply ZC | ((first | apply ZD (by decide) | apply ZN (by decide)); (simp (maxSteps := 9999999) only [go_sem, argR, c96]; rfl)) | (refine ZE ?_ ?_; · simp only [go_sem]) | (refine ZF ?_ ?_; · simp only [go_sem]))
  exact end_nil (q_ret1 _ (by simp only [go_sem]) rfl (take_self _))
abbrev F2 := Fin 2000
def cel1 (x : F2) : List Value := [.int .i64 (x.val : Nat)]
theorem cel1_len (x : F2) : (cel1 x).length = 1 := rfl
theorem cel1_sc (x : F2) : (cel1 x).all sc = true := rfl
theorem call74 (x y : F2) (h : SHeap) : M.call 74 [.int .i64 (x.val : Nat), .int .i64 (y.val : Nat)] h = some (.int .i64 ((y.val : Int) - x.val), h, []) := by
  have hx := x.isLt
  have hy := y.isLt
  have ew : IntKind.i64.wrap ((y.val : Int) - x.val) = (y.val : Int) - x.val := wrap64 (by omega) (by omega)
  refine call_run sf74 rfl rfl rfl ?_
  unfold sf74
  repeat (first | apply Z1 | apply Z2 | apply Z3 | apply Z4 | apply Z5 rfl | apply Z6 | apply Z7 | apply Z8 | apply Z9 | apply ZA | apply ZB | apply ZC | ((first | apply ZD (by decide) | apply ZN (by decide)); (simp (maxSteps := 9999999) only [go_sem, argR, ew]; rfl)) | (refine ZE ?_ ?_; · simp only [go_sem]) | (refine ZF ?_ ?_; · simp only [go_sem]))
  exact end_nil (q_ret1 _ (by simp only [go_sem]) rfl (take_self _))
section
variable {n B cap : Nat} {el : TypeId} {h0 : SHeap} {old0 : List Nat}
theorem SA.load1 {h : SHeap} {f : Nat → F2} (S : SA cel1 n B el h0 old0 h f) {i : Nat} (hi : i < n) : loadS h none (.pointer (some ⟨B, i, none⟩)) = some (.int .i64 ((f i).val : Nat)) := by
  obtain ⟨old, _, e⟩ := S.at_
  have g := flF_get (cel := cel1) (s := 1) cel1_len f (n := n) (i := i) (k := 0) hi (by decide)
  rw [Nat.mul_one, Nat.add_zero] at g
  have := load_cell (o := i) e rfl (g.trans rfl) []
  rw [List.append_nil] at this; exact this
theorem SA.store1 {h : SHeap} {f g : Nat → F2} (S : SA cel1 n B el h0 old0 h f) {i : Nat} (hi : i < n) (hg : ∀ k, k ≠ i → g k = f k) :
    ∃ h1, (∀ base d, storeS base h d B i (cellsL (.int .i64 ((g i).val : Nat))) = some (h1, d)) ∧ SA cel1 n B el h0 old0 h1 g := by
  obtain ⟨h1, e1, S1⟩ := S.store cel1_len cel1_sc (by decide) hi hg
  rw [Nat.mul_one] at e1
  exact ⟨h1, e1, S1⟩
theorem SA.swap1 {h : SHeap} {f : Nat → F2} (S : SA cel1 n B el h0 old0 h f) {i j : Nat} (hi : i < n) (hj : j < n) :
    ∃ h1 h2, (∀ base d, storeS base h d B i (cellsL (.int .i64 ((f j).val : Nat))) = some (h1, d)) ∧ (∀ base d, storeS base h1 d B j (cellsL (.int .i64 ((f i).val : Nat))) = some (h2, d)) ∧ SA cel1 n B el h0 old0 h2 (swp f i j) := by
  obtain ⟨h1, e1, S1⟩ := S.store1 hi (g := fun k => if k = i then f j else f k) (fun k hk => by simp [hk])
  simp only [if_true] at e1
  obtain ⟨h2, e2, S2⟩ := S1.store1 hj (g := swp f i j) (fun k hk => by
    by_cases e : k = i
    · subst e; rw [swp_l]; simp
    · rw [swp_o f e hk]; simp [e])
  rw [swp_r] at e2
  exact ⟨h1, h2, e1, e2, S2⟩
def InsD (i j : Nat) (f : Nat → F2) : Prop := (∀ p q, p < q → q ≤ i → p ≠ j → q ≠ j → (f q).val ≤ (f p).val) ∧ ∀ q, j < q → q ≤ i → (f q).val < (f j).val
def OrdD (b : Nat) (f : Nat → F2) : Prop := ∀ p q, p < q → q < b → (f q).val ≤ (f p).val
theorem InsD.stop {i j : Nat} {f : Nat → F2} (h : InsD i j f) (h2 : j = 0 ∨ (f j).val ≤ (f (j - 1)).val) : OrdD (i + 1) f := by
  intro p q h3 h4
  by_cases e1 : p = j
  · subst e1; have := h.2 q h3 (by omega); omega
  · by_cases e2 : q = j
    · subst e2
      rcases h2 with h2 | h2
      · omega
      · by_cases e3 : p = q - 1
        · subst e3; exact h2
        · have := h.1 p (q - 1) (by omega) (by omega) e1 (by omega); omega
    · exact h.1 p q h3 (by omega) e1 e2
theorem InsD.step {i j : Nat} {f : Nat → F2} (h : InsD i j f) (hj : 0 < j) (hji : j ≤ i) (h2 : (f (j - 1)).val < (f j).val) : InsD i (j - 1) (swp f j (j - 1)) := by
  constructor
  · intro p q h4 h5 h6 h7
    by_cases e1 : p = j
    · subst e1
      rw [swp_l, swp_o f (by omega) (by omega)]
      exact h.1 (p - 1) q (by omega) h5 (by omega) (by omega)
    · by_cases e2 : q = j
      · subst e2
        rw [swp_l, swp_o f (by omega) (by omega)]
        exact h.1 p (q - 1) (by omega) (by omega) (by omega) (by omega)
      · rw [swp_o f e1 h6, swp_o f e2 h7]
        exact h.1 p q h4 h5 e1 e2
  · intro q h3 h4
    rw [swp_r]
    by_cases e : q = j
    · subst e; rw [swp_l]; exact h2
    · rw [swp_o f e (by omega)]; exact h.2 q (by omega) h4
theorem ins_loop (hn : n ≤ 12) {i : Nat} (hi : i < n) (cx : Cx) (f0 : Nat → F2) : ∀ k ρ ms h' d', (∃ (j : Nat) (f : Nat → F2), j = k ∧ j ≤ i ∧ SA cel1 n B el h0 old0 h' f ∧ Sw 0 (i + 1) f0 f ∧ InsD i j f ∧ ρ 0 = .slice (some ⟨B, 0, none⟩) n cap ∧ ρ 1 = .int .i64 0 ∧ ρ 2 = .int .i64 n ∧ ρ 3 = .func (.func 74) #[] #[] ∧ ρ 8 = .int .i64 i ∧ ρ 9 = .int .i64 j ∧ ms = [] ∧ d' = []) →
    LoopW M cx 6 sf87L0 ρ ms h' d' (fun ex ρ' ms' h' d' => ex = .exit 2 ∧ ms' = [] ∧ d' = [] ∧ ∃ f : Nat → F2, SA cel1 n B el h0 old0 h' f ∧ Sw 0 (i + 1) f0 f ∧ OrdD (i + 1) f ∧ ρ' 0 = .slice (some ⟨B, 0, none⟩) n cap ∧ ρ' 1 = .int .i64 0 ∧ ρ' 2 = .int .i64 n ∧ ρ' 3 = .func (.func 74) #[] #[] ∧ ρ' 8 = .int .i64 i) := by
  refine loop_run _ ?_
  rintro k ρ ms h' d' ⟨j, f, rfl, hji, S, W, I, r0, r1, r2, r3, r8, r9, rfl, rfl⟩
  unfold sf87L0
  by_cases hk : j = 0
  · have e1 : ¬ ((j : Int) > 0) := by omega
    repeat (first | apply Z1 | apply Z2 | apply Z3 | apply Z4 | apply Z5 rfl | apply Z6 | apply Z7 | apply Z8 | apply Z9 | apply ZA | apply ZB | apply ZC | ((first | apply ZD (by decide) | apply ZN (by decide)); (simp (maxSteps := 9999999) only [go_sem, r0, r1, r2, r3, r8, r9, e1]; rfl)) | (refine ZE ?_ ?_; · simp only [go_sem]) | (refine ZF ?_ ?_; · simp only [go_sem]))
    exact end_nil ⟨rfl, rfl, rfl, f, S, W, I.stop (.inl hk), by simp only [go_sem, r0], by simp only [go_sem, r1], by simp only [go_sem, r2], by simp only [go_sem, r3], by simp only [go_sem, r8]⟩
  · have e1 : ((j : Int) > 0) := by omega
    have e2 : (0 : Int) ≤ j := by omega
    have e3 : (j : Int) < n := by omega
    have e4 : (0 : Int) ≤ ((j - 1 : Nat) : Int) := by omega
    have e5 : ((j - 1 : Nat) : Int) < n := by omega
    have ew : IntKind.i64.wrap ((j : Int) - 1) = ((j - 1 : Nat) : Int) := by rw [wrap64 (by omega) (by omega)]; omega
    have l1 := S.load1 (show j < n by omega)
    have l2 := S.load1 (show j - 1 < n by omega)
    have cc := fun h => call74 (f j) (f (j - 1)) h
    by_cases hlt : (f (j - 1)).val < (f j).val
    · have hlt' : (((f (j - 1)).val : Int) - (f j).val) < 0 := by omega
      obtain ⟨h1, h2, st1, st2, S2⟩ := S.swap1 (show j < n by omega) (show j - 1 < n by omega)
      repeat (first | apply Z1 | apply Z2 | apply Z3 | apply Z4 | apply Z5 rfl | apply Z6 | apply Z7 | apply Z8 | apply Z9 | apply ZA | apply ZB | apply ZC | ((first | apply ZD (by decide) | apply ZN (by decide)); (simp (maxSteps := 9999999) only [go_sem, r0, r1, r2, r3, r8, r9, e1, e2, e3, e4, e5, ew, l1, l2, cc, hlt', ↓st1, ↓st2, Int.toNat_natCast]; rfl)) | (refine ZE ?_ ?_; · simp only [go_sem]) | (refine ZF ?_ ?_; · simp only [go_sem]))
      exact end_nil ⟨j - 1, by omega, j - 1, _, rfl, by omega, S2, W.step (by omega) (by omega) (by omega) (by omega), I.step (by omega) hji hlt, by simp only [go_sem, r0], by simp only [go_sem, r1], by simp only [go_sem, r2], by simp only [go_sem, r3], by simp only [go_sem, r8], by simp only [go_sem, ew], rfl, rfl⟩
    · have hlt' : ¬ (((f (j - 1)).val : Int) - (f j).val) < 0 := by omega
      repeat (first | apply Z1 | apply Z2 | apply Z3 | apply Z4 | apply Z5 rfl | apply Z6 | apply Z7 | apply Z8 | apply Z9 | apply ZA | apply ZB | apply ZC | ((first | apply ZD (by decide) | apply ZN (by decide)); (simp (maxSteps := 9999999) only [go_sem, r0, r1, r2, r3, r8, r9, e1, e2, e3, e4, e5, ew, l1, l2, cc, hlt', Int.toNat_natCast]; rfl)) | (refine ZE ?_ ?_; · simp only [go_sem]) | (refine ZF ?_ ?_; · simp only [go_sem]))
      exact end_nil ⟨rfl, rfl, rfl, f, S, W, I.stop (.inr (by omega)), by simp only [go_sem, r0], by simp only [go_sem, r1], by simp only [go_sem, r2], by simp only [go_sem, r3], by simp only [go_sem, r8]⟩
theorem insO_loop (hn : n ≤ 12) (cx : Cx) (f0 : Nat → F2) : ∀ k ρ ms h' d', (∃ (i : Nat) (f : Nat → F2), n - i = k ∧ SA cel1 n B el h0 old0 h' f ∧ Sw 0 n f0 f ∧ OrdD (min i n) f ∧ ρ 0 = .slice (some ⟨B, 0, none⟩) n cap ∧ ρ 1 = .int .i64 0 ∧ ρ 2 = .int .i64 n ∧ ρ 3 = .func (.func 74) #[] #[] ∧ ρ 8 = .int .i64 i ∧ ms = [] ∧ d' = []) →
    LoopW M cx 6 sf87L1 ρ ms h' d' (fun ex ρ' ms' h' d' => ex = .exit 0 ∧ ms' = [] ∧ d' = [] ∧ ∃ f : Nat → F2, SA cel1 n B el h0 old0 h' f ∧ Sw 0 n f0 f ∧ OrdD n f) := by
  refine loop_run _ ?_
  rintro k ρ ms h' d' ⟨i, f, hk, S, W, O, r0, r1, r2, r3, r8, rfl, rfl⟩
  unfold sf87L1
  by_cases hib : i < n
  · have e1 : (i : Int) < n := by omega
    have ew : IntKind.i64.wrap ((i : Int) + 1) = ((i + 1 : Nat) : Int) := by rw [wrap64 (by omega) (by omega)]; rfl
    rw [Nat.min_eq_left (by omega)] at O
    repeat (first | apply Z1 | apply Z2 | apply Z3 | apply Z4 | apply Z5 rfl | apply Z6 | apply Z7 | apply Z8 | apply Z9 | apply ZA | apply ZB | apply ZC | ((first | apply ZD (by decide) | apply ZN (by decide)); (simp (maxSteps := 9999999) only [go_sem, r0, r1, r2, r3, r8, e1]; rfl)) | (refine ZE ?_ ?_; · simp only [go_sem]) | (refine ZF ?_ ?_; · simp only [go_sem]))
    refine run_loop (ins_loop (cap := cap) hn hib cx f i _ _ _ _ ⟨i, f, rfl, by omega, S, .refl, ⟨fun p q h1 h2 h3 h4 => O p q h1 (by omega), fun q h1 h2 => by omega⟩, by simp only [go_sem, r0], by simp only [go_sem, r1], by simp only [go_sem, r2], by simp only [go_sem, r3], by simp only [go_sem, r8], by simp only [go_sem], rfl, rfl⟩) ?_
    rintro ex ρ' ms' h1 d1 ⟨rfl, rfl, rfl, f2, S2, W2, O2, k0, k1, k2, k3, k8⟩
    repeat (first | apply Z1 | apply Z2 | apply Z3 | apply Z4 | apply Z5 rfl | apply Z6 | apply Z7 | apply Z8 | apply Z9 | apply ZA | apply ZB | apply ZC | ((first | apply ZD (by decide) | apply ZN (by decide)); (simp (maxSteps := 9999999) only [go_sem, k0, k1, k2, k3, k8, ew]; rfl)) | (refine ZE ?_ ?_; · simp only [go_sem]) | (refine ZF ?_ ?_; · simp only [go_sem]))
    exact end_nil ⟨n - (i + 1), by omega, i + 1, f2, rfl, S2, W.trans (W2.mono (by omega) (by omega)), by rw [Nat.min_eq_left (by omega)]; exact O2, by simp only [go_sem, k0], by simp only [go_sem, k1], by simp only [go_sem, k2], by simp only [go_sem, k3], by simp only [go_sem, ew], rfl, rfl⟩
  · have e1 : ¬ (i : Int) < n := by omega
    repeat (first | apply Z1 | apply Z2 | apply Z3 | apply Z4 | apply Z5 rfl | apply Z6 | apply Z7 | apply Z8 | apply Z9 | apply ZA | apply ZB | apply ZC | ((first | apply ZD (by decide) | apply ZN (by decide)); (simp (maxSteps := 9999999) only [go_sem, r0, r1, r2, r3, r8, e1]; rfl)) | (refine ZE ?_ ?_; · simp only [go_sem]) | (refine ZF ?_ ?_; · simp only [go_sem]))
    exact end_nil ⟨rfl, rfl, rfl, f, S, W, by rw [Nat.min_eq_right (by omega)] at O; exact O⟩
theorem ins87 (hn : n ≤ 12) {h : SHeap} {f : Nat → F2} (S : SA cel1 n B el h0 old0 h f) :
    ∃ h' f', M.call 87 [.slice (some ⟨B, 0, none⟩) n cap, .int .i64 0, .int .i64 n, .func (.func 74) #[] #[]] h = some (.tuple #[], h', []) ∧ SA cel1 n B el h0 old0 h' f' ∧ Sw 0 n f f' ∧ OrdD n f' := by
  have key : ∃ r, (∃ h' f', r = (Value.tuple #[], h', ([] : List Nat)) ∧ SA cel1 n B el h0 old0 h' f' ∧ Sw 0 n f f' ∧ OrdD n f') ∧ M.call 87 [.slice (some ⟨B, 0, none⟩) n cap, .int .i64 0, .int .i64 n, .func (.func 74) #[] #[]] h = some r := by
    refine call_ex (f := 87) _ sf87 rfl rfl rfl ?_
    unfold sf87
    have ew : IntKind.i64.wrap 1 = 1 := rfl
    repeat (first | apply Z1 | apply Z2 | apply Z3 | apply Z4 | apply Z5 rfl | apply Z6 | apply Z7 | apply Z8 | apply Z9 | apply ZA | apply ZB | apply ZC | ((first | apply ZD (by decide) | apply ZN (by decide)); (simp (maxSteps := 9999999) only [go_sem, argR, ew]; rfl)) | (refine ZE ?_ ?_; · simp only [go_sem]) | (refine ZF ?_ ?_; · simp only [go_sem]))
    refine run_loop (insO_loop (n := n) (B := B) (cap := cap) (el := el) (h0 := h0) (old0 := old0) hn _ f (n - 1) _ _ _ _ ⟨1, f, rfl, S, .refl, fun p q h1 h2 => by omega, by simp only [go_sem, argR], by simp only [go_sem, argR], by simp only [go_sem, argR], by simp only [go_sem, argR], by simp only [go_sem] <;> rfl, rfl, rfl⟩) ?_
    rintro ex ρ' ms' h1 d1 ⟨rfl, rfl, rfl, f2, S2, W2, O2⟩
    repeat (first | apply Z1 | apply Z2 | apply Z3 | apply Z4 | apply Z5 rfl | apply Z6 | apply Z7 | apply Z8 | apply Z9 | apply ZA | apply ZB | apply ZC | ((first | apply ZD (by decide) | apply ZN (by decide)); (simp (maxSteps := 9999999) only [go_sem]; rfl)) | (refine ZE ?_ ?_; · simp only [go_sem]) | (refine ZF ?_ ?_; · simp only [go_sem]))
    exact end_nil ⟨_, ⟨h1, f2, rfl, S2, W2, O2⟩, q_free [] rfl rfl rfl rfl (fun _ => rfl) (by rw [List.take_of_length_le]; rw [S2.len, S.len]; exact Nat.le_refl _) rfl⟩
  obtain ⟨r, ⟨h', f', rfl, k⟩, e⟩ := key
  exact ⟨h', f', e, k⟩
end
end Go.Proofs.YtpkhkghiidilcaaDoor.Sh

namespace Go.Proofs.YtpkhkghiidilcaaDoor.Sh
open Go
set_option maxRecDepth 100000
set_option maxHeartbeats 4000000
section
variable {n B cap : Nat} {el : TypeId} {h0 : SHeap} {old0 : List Nat}
theorem pdq_loop (hn : n ≤ 12) (cx : Cx) {h : SHeap} {f : Nat → F2} (S : SA cel1 n B el h0 old0 h f) : ∀ (k : Nat) ρ ms h' d', (ρ 0 = .slice (some ⟨B, 0, none⟩) n cap ∧ ρ 1 = .int .i64 0 ∧ ρ 2 = .int .i64 n ∧ ρ 4 = .func (.func 74) #[] #[] ∧ ms = [] ∧ h' = h ∧ d' = []) →
    LoopW M cx 8 sf82L0 ρ ms h' d' (fun ex ρ' ms' h' d' => ex = .ret ∧ ms' = [] ∧ d' = [] ∧ ∃ f', SA cel1 n B el h0 old0 h' f' ∧ Sw 0 n f f' ∧ OrdD n f') := by
  refine loop_run _ ?_
  rintro k ρ ms h' d' ⟨r0, r1, r2, r4, rfl, rfl, rfl⟩
  unfold sf82L0
  obtain ⟨h2, f2, c, S2, W, O⟩ := ins87 (cap := cap) hn S
  have e1 : ((n : Int) ≤ 12) = True := eq_true (by omega)
  have e2 : (n : Int) - 0 = n := by omega
  have e3 : IntKind.i64.wrap (n : Int) = n := wrap64 (by omega) (by omega)
  repeat (first | apply Z1 | apply Z2 | apply Z3 | apply Z4 | apply Z5 rfl | apply Z6 | apply Z7 | apply Z8 | apply Z9 | apply ZA | apply ZB | apply ZC | ((first | apply ZD (by decide) | apply ZN (by decide)); (simp (maxSteps := 9999999) only [go_sem, r0, r1, r2, r4, e1, e2, e3, c]; rfl)) | (refine ZE ?_ ?_; · simp only [go_sem]) | (refine ZF ?_ ?_; · simp only [go_sem]))
  exact end_nil ⟨rfl, rfl, rfl, f2, S2, W, O⟩
theorem sort73 (hn : n ≤ 12) {h : SHeap} {f : Nat → F2} (S : SA cel1 n B el h0 old0 h f) :
    ∃ h' f', M.call 73 [.slice (some ⟨B, 0, none⟩) n cap, .func (.func 74) #[] #[]] h = some (.tuple #[], h', []) ∧ SA cel1 n B el h0 old0 h' f' ∧ Sw 0 n f f' ∧ OrdD n f' := by
  have key82 : ∀ lim : Int, ∃ r, (∃ h' f', r = (Value.tuple #[], h', ([] : List Nat)) ∧ SA cel1 n B el h0 old0 h' f' ∧ Sw 0 n f f' ∧ OrdD n f') ∧ M.call 82 [.slice (some ⟨B, 0, none⟩) n cap, .int .i64 0, .int .i64 n, .int .i64 lim, .func (.func 74) #[] #[]] h = some r := fun lim => by
    refine call_ex (f := 82) _ sf82 rfl rfl rfl ?_
    unfold sf82
    repeat (first | apply Z1 | apply Z2 | apply Z3 | apply Z4 | apply Z5 rfl | apply Z6 | apply Z7 | apply Z8 | apply Z9 | apply ZA | apply ZB | apply ZC | ((first | apply ZD (by decide) | apply ZN (by decide)); (simp (maxSteps := 9999999) only [go_sem, argR]; rfl)) | (refine ZE ?_ ?_; · simp only [go_sem]) | (refine ZF ?_ ?_; · simp only [go_sem]))
    refine run_loop (pdq_loop (cap := cap) hn _ S 0 _ _ _ _ ⟨by simp only [go_sem, argR], by simp only [go_sem, argR], by simp only [go_sem, argR], by simp only [go_sem, argR], rfl, rfl, rfl⟩) ?_
    rintro ex ρ' ms' h1 d1 ⟨rfl, rfl, rfl, f2, S2, W2, O2⟩
    repeat (first | apply Z1 | apply Z2 | apply Z3 | apply Z4 | apply Z5 rfl | apply Z6 | apply Z7 | apply Z8 | apply Z9 | apply ZA | apply ZB | apply ZC | ((first | apply ZD (by decide) | apply ZN (by decide)); (simp (maxSteps := 9999999) only [go_sem]; rfl)) | (refine ZE ?_ ?_; · simp only [go_sem]) | (refine ZF ?_ ?_; · simp only [go_sem]))
    exact end_nil ⟨_, ⟨h1, f2, rfl, S2, W2, O2⟩, q_free [] rfl rfl rfl rfl (fun _ => rfl) (by rw [List.take_of_length_le]; rw [S2.len, S.len]; exact Nat.le_refl _) rfl⟩
  obtain ⟨m, hm, c83⟩ := len83 (n := n) (by omega) h
  obtain ⟨r, ⟨h', f', rfl, S2, W2, O2⟩, c82⟩ := key82 m
  refine ⟨h', f', ?_, S2, W2, O2⟩
  refine call_run sf73 rfl rfl rfl ?_
  have e3 : IntKind.u64.wrap (n : Int) = n := wrapU (by omega) (by omega)
  unfold sf73
  repeat (first | apply Z1 | apply Z2 | apply Z3 | apply Z4 | apply Z5 rfl | apply Z6 | apply Z7 | apply Z8 | apply Z9 | apply ZA | apply ZB | apply ZC | ((first | apply ZD (by decide) | apply ZN (by decide)); (simp (maxSteps := 9999999) only [go_sem, argR, e3, c83, c82]; rfl)) | (refine ZE ?_ ?_; · simp only [go_sem]) | (refine ZF ?_ ?_; · simp only [go_sem]))
  exact end_nil (q_free [] rfl rfl rfl rfl (fun _ => rfl) (by rw [List.take_of_length_le]; rw [S2.len, S.len]; exact Nat.le_refl _) rfl)
end
def Srt (l l' : List Nat) : Prop := l'.Perm l ∧ l'.Pairwise (fun a b => b ≤ a)
theorem flF_nI (f : Nat → F2) : ∀ n, flF cel1 f n = ((List.range n).map fun i => (f i).val).map nI
  | 0 => rfl
  | n + 1 => by
    show flF cel1 f n ++ cel1 (f n) = _
    rw [flF_nI f n, List.range_succ, List.map_append, List.map_append]; rfl
theorem sort_acc {H h : SHeap} {v : Value} {l : List Nat} (A : AccS H h v (l.map nI) l.length 1 3) (hne : l.length ≠ 0) (hl : l.length ≤ 12) (hb : ∀ x ∈ l, x < 2000) :
    ∃ h' l', M.call 73 [v, .func (.func 74) #[] #[]] h = some (.tuple #[], h', []) ∧ Srt l l' ∧ AccS H h' v (l'.map nI) l'.length 1 3 := by
  rcases A.acc with ⟨e, _⟩ | ⟨b, old, rfl, h1, h2, h3, h4, h5, h6⟩
  · exact (hne e).elim
  · have e : l = (List.range l.length).map fun i => ((fun i => if h : i < l.length then (⟨l[i], hb _ (List.getElem_mem h)⟩ : F2) else (⟨0, by decide⟩ : F2)) i).val := by
      apply List.ext_getElem?
      intro i
      by_cases c : i < l.length
      · simp [c]
      · rw [List.getElem?_eq_none (by omega), List.getElem?_eq_none (by simp; omega)]
    generalize (fun i => if h : i < l.length then (⟨l[i], hb _ (List.getElem_mem h)⟩ : F2) else (⟨0, by decide⟩ : F2)) = f at e
    have hcl : l.map nI = flF cel1 f l.length := by rw [flF_nI, ← e]
    have S : SA cel1 l.length b 3 h old h f := ⟨rfl, fun j _ _ => rfl, old, fun c hc => hc, by rw [h1, hcl]⟩
    obtain ⟨h', f', c, S2, W, O⟩ := sort73 (cap := UNK + 1) hl S
    have hp := W.perm (Nat.le_refl _)
    obtain ⟨old2, o1, o2⟩ := S2.at_
    have hlen : ((List.range l.length).map fun i => (f' i).val).length = l.length := by simp
    refine ⟨h', (List.range l.length).map fun i => (f' i).val, c, ⟨?_, ?_⟩, ?_, ?_, ?_⟩
    · have := hp.map (fun x : F2 => x.val)
      rw [List.map_map, List.map_map] at this
      conv => rhs; rw [e]
      exact this
    · rw [List.pairwise_map]
      refine List.Pairwise.imp_of_mem ?_ List.pairwise_lt_range
      intro a b _ hb hab
      exact O a b hab (List.mem_range.1 hb)
    · rw [hlen]
      exact .inr ⟨b, old2, rfl, by rw [o2, flF_nI], by simp, hne, h4, by rw [List.all_eq_true]; intro x hx; obtain ⟨y, _, rfl⟩ := List.mem_map.1 hx; rfl, fun c hc => h6 c (o1 c hc)⟩
    · rw [S2.len]; exact A.le
    · intro j hj
      rw [S2.same j (by omega) (fun hj2 => by have := (h6 j hj2).1; omega)]
      exact A.same j hj
theorem Srt.uniq {l l1 l2 : List Nat} (h1 : Srt l l1) (h2 : Srt l l2) : l1 = l2 := by
  have hp : l1.Perm l2 := h1.1.trans h2.1.symm
  refine hp.eq_of_pairwise (le := fun a b => b ≤ a) ?_ h1.2 h2.2
  intro a b _ _ h3 h4
  omega
end Go.Proofs.YtpkhkghiidilcaaDoor.Sh

namespace Go.Proofs.YtpkhkghiidilcaaDoor.Sh
open Go
set_option maxRecDepth 100000
set_option maxHeartbeats 4000000
theorem ins0_loop (cx : Cx) (H : SHeap) : ∀ (k : Nat) ρ ms h' d', (ρ 2 = .int .i64 0 ∧ ρ 8 = .int .i64 1 ∧ ms = [] ∧ h' = H ∧ d' = []) →
    LoopW M cx 6 sf87L1 ρ ms h' d' (fun ex _ ms' h' d' => ex = .exit 0 ∧ ms' = [] ∧ h' = H ∧ d' = []) := by
  refine loop_run _ ?_
  rintro k ρ ms h' d' ⟨r2, r8, rfl, rfl, rfl⟩
  unfold sf87L1
  repeat (first | apply Z1 | apply Z2 | apply Z3 | apply Z4 | apply Z5 rfl | apply Z6 | apply Z7 | apply Z8 | apply Z9 | apply ZA | apply ZB | apply ZC | ((first | apply ZD (by decide) | apply ZN (by decide)); (simp (maxSteps := 9999999) only [go_sem, r2, r8]; rfl)) | (refine ZE ?_ ?_; · simp only [go_sem]) | (refine ZF ?_ ?_; · simp only [go_sem]))
  exact end_nil ⟨rfl, rfl, rfl, rfl⟩
theorem ins0 (g : FuncId) (h : SHeap) : M.call 87 [.slice none 0 0, .int .i64 0, .int .i64 0, .func (.func g) #[] #[]] h = some (.tuple #[], h, []) := by
  refine call_run sf87 rfl rfl rfl ?_
  have ew : IntKind.i64.wrap 1 = 1 := rfl
  unfold sf87
  repeat (first | apply Z1 | apply Z2 | apply Z3 | apply Z4 | apply Z5 rfl | apply Z6 | apply Z7 | apply Z8 | apply Z9 | apply ZA | apply ZB | apply ZC | ((first | apply ZD (by decide) | apply ZN (by decide)); (simp (maxSteps := 9999999) only [go_sem, argR, ew]; rfl)) | (refine ZE ?_ ?_; · simp only [go_sem]) | (refine ZF ?_ ?_; · simp only [go_sem]))
  refine run_loop (ins0_loop _ h 0 _ _ _ _ ⟨by simp only [go_sem, argR], by simp only [go_sem, argR] <;> rfl, rfl, rfl, rfl⟩) ?_
  rintro ex ρ' ms' h1 d1 ⟨rfl, rfl, rfl, rfl⟩
  repeat (first | apply Z1 | apply Z2 | apply Z3 | apply Z4 | apply Z5 rfl | apply Z6 | apply Z7 | apply Z8 | apply Z9 | apply ZA | apply ZB | apply ZC | ((first | apply ZD (by decide) | apply ZN (by decide)); (simp (maxSteps := 9999999) only [go_sem]; rfl)) | (refine ZE ?_ ?_; · simp only [go_sem]) | (refine ZF ?_ ?_; · simp only [go_sem]))
  exact end_nil (q_free [] rfl rfl rfl rfl (fun _ => rfl) (take_self _) rfl)
theorem pdq0_loop (cx : Cx) (g : FuncId) (H : SHeap) : ∀ (k : Nat) ρ ms h' d', (ρ 0 = .slice none 0 0 ∧ ρ 1 = .int .i64 0 ∧ ρ 2 = .int .i64 0 ∧ ρ 4 = .func (.func g) #[] #[] ∧ ms = [] ∧ h' = H ∧ d' = []) →
    LoopW M cx 8 sf82L0 ρ ms h' d' (fun ex _ ms' h' d' => ex = .ret ∧ ms' = [] ∧ h' = H ∧ d' = []) := by
  refine loop_run _ ?_
  rintro k ρ ms h' d' ⟨r0, r1, r2, r4, rfl, rfl, rfl⟩
  unfold sf82L0
  have c := ins0 g
  have e1 : ((0 : Int) ≤ 12) = True := by decide
  have e2 : (0 : Int) - 0 = 0 := rfl
  have e3 : IntKind.i64.wrap 0 = 0 := rfl
  repeat (first | apply Z1 | apply Z2 | apply Z3 | apply Z4 | apply Z5 rfl | apply Z6 | apply Z7 | apply Z8 | apply Z9 | apply ZA | apply ZB | apply ZC | ((first | apply ZD (by decide) | apply ZN (by decide)); (simp (maxSteps := 9999999) only [go_sem, r0, r1, r2, r4, e1, e2, e3, c]; rfl)) | (refine ZE ?_ ?_; · simp only [go_sem]) | (refine ZF ?_ ?_; · simp only [go_sem]))
  exact end_nil ⟨rfl, rfl, rfl, rfl⟩
theorem sort0 (g : FuncId) (h : SHeap) : M.call 73 [.slice none 0 0, .func (.func g) #[] #[]] h = some (.tuple #[], h, []) := by
  have c82 : ∀ lim : Int, M.call 82 [.slice none 0 0, .int .i64 0, .int .i64 0, .int .i64 lim, .func (.func g) #[] #[]] h = some (.tuple #[], h, []) := fun lim => by
    refine call_run sf82 rfl rfl rfl ?_
    unfold sf82
    repeat (first | apply Z1 | apply Z2 | apply Z3 | apply Z4 | apply Z5 rfl | apply Z6 | apply Z7 | apply Z8 | apply Z9 | apply ZA | apply ZB | apply ZC | ((first | apply ZD (by decide) | apply ZN (by decide)); (simp (maxSteps := 9999999) only [go_sem, argR]; rfl)) | (refine ZE ?_ ?_; · simp only [go_sem]) | (refine ZF ?_ ?_; · simp only [go_sem]))
    refine run_loop (pdq0_loop _ g h 0 _ _ _ _ ⟨by simp only [go_sem, argR], by simp only [go_sem, argR], by simp only [go_sem, argR], by simp only [go_sem, argR], rfl, rfl, rfl⟩) ?_
    rintro ex ρ' ms' h1 d1 ⟨rfl, rfl, rfl, rfl⟩
    repeat (first | apply Z1 | apply Z2 | apply Z3 | apply Z4 | apply Z5 rfl | apply Z6 | apply Z7 | apply Z8 | apply Z9 | apply ZA | apply ZB | apply ZC | ((first | apply ZD (by decide) | apply ZN (by decide)); (simp (maxSteps := 9999999) only [go_sem]; rfl)) | (refine ZE ?_ ?_; · simp only [go_sem]) | (refine ZF ?_ ?_; · simp only [go_sem]))
    exact end_nil (q_free [] rfl rfl rfl rfl (fun _ => rfl) (take_self _) rfl)
  obtain ⟨m, hm, c83⟩ := len83 (n := 0) (by omega) h
  rw [show ((0 : Nat) : Int) = 0 from rfl] at c83
  refine call_run sf73 rfl rfl rfl ?_
  have e3 : IntKind.u64.wrap 0 = 0 := rfl
  have e4 : ((0 : Nat) : Int) = 0 := rfl
  unfold sf73
  repeat (first | apply Z1 | apply Z2 | apply Z3 | apply Z4 | apply Z5 rfl | apply Z6 | apply Z7 | apply Z8 | apply Z9 | apply ZA | apply ZB | apply ZC | ((first | apply ZD (by decide) | apply ZN (by decide)); (simp (maxSteps := 9999999) only [go_sem, argR, e3, e4, c83, c82]; rfl)) | (refine ZE ?_ ?_; · simp only [go_sem]) | (refine ZF ?_ ?_; · simp only [go_sem]))
  exact end_nil (q_free [] rfl rfl rfl rfl (fun _ => rfl) (take_self _) rfl)
theorem AccS.resl {H h : SHeap} (hl : H.length ≤ h.length) (fr : ∀ j, j < H.length → h[j]? = H[j]?) (l : List Nat) : AccS H (resH h (l.map nI) l.length 3) (resV h l.length 1) (l.map nI) l.length 1 3 := by
  by_cases c : l.length = 0
  · have e : l = [] := List.length_eq_zero_iff.1 c
    subst e
    exact ⟨.inl ⟨rfl, rfl, rfl⟩, hl, fr⟩
  · rw [← resV_pos h 1 c, ← resH_pos h _ 3 c]
    exact ⟨.inr ⟨h.length, [], rfl, by rw [app_get0]; rfl, by simp, c, hl, by rw [List.all_eq_true]; intro x hx; obtain ⟨y, _, rfl⟩ := List.mem_map.1 hx; rfl, fun c hc => by cases hc⟩, by simp; omega, fun j hj => by rw [List.getElem?_append_left (by omega)]; exact fr j hj⟩
section
variable {H : SHeap} {n goal : Nat} {E : List (Int × Int)} {v : Value}
def outL (k : Nat) (o : List Nat) : List Nat := if k = 0 then o else o ++ [k]
theorem parts56 (hv : PS H v E) (hlen : E.length ≤ 1000000) (he : errG n E = 0) (hg : goal < n) (hne : E.length + 1 = n) {k : Nat} {o : List Nat} (hp : partsO (adjE E) n 7 goal (-1) = some (k, o)) (hk0 : k = 0 → o = []) (hol : o.length ≤ 11) (hb : ∀ x ∈ outL k o, x < 2000) :
    ∃ l', Srt (outL k o) l' ∧ M.call 56 [.int .i64 n, v, .int .i64 goal] H = some (.tuple #[resV H l'.length 1, .int .i64 0], resH H (l'.map nI) l'.length 3, []) := by
  suffices key : ∃ r, (∃ l', r = ((Value.tuple #[resV H l'.length 1, .int .i64 0], resH H (l'.map nI) l'.length 3, []) : Value × SHeap × List Nat) ∧ Srt (outL k o) l') ∧ M.call 56 [.int .i64 n, v, .int .i64 goal] H = some r by
    obtain ⟨r, ⟨l', rfl, q1⟩, q⟩ := key
    exact ⟨l', q1, q⟩
  refine call_ex (f := 56) _ sf56 rfl rfl rfl ?_
  have o58 := openGoal_ok hv hlen he hg
  obtain ⟨m, e, h1, h2, h3, h4⟩ := errG_ok he
  obtain rfl : n = m := by omega
  obtain ⟨va, vc, rfl, _⟩ := id hv
  have ew : IntKind.i64.wrap ((n : Int) - 1) = n - 1 := wrap64 (by omega) (by omega)
  have e1 : ((E.length : Int) = n - 1) = True := eq_true (by omega)
  have c72 := parts72 (gr := H.length) h2 h3 7 goal (-1) k o hg hp (H ++ [gE n E]) (gEat H n E)
  have A := AccS.resl (H := H) (h := H ++ [gE n E]) (by simp) (fun j hj => List.getElem?_append_left hj) o
  obtain ⟨ra, rc, eov⟩ := A.shape
  generalize resH (H ++ [gE n E]) (o.map nI) o.length 3 = h2 at *
  generalize resV (H ++ [gE n E]) o.length 1 = ov at *
  subst eov
  unfold sf56
  by_cases c : k = 0
  · have ok : outL k o = [] := by unfold outL; rw [if_pos c, hk0 c]
    have eo := hk0 c
    rw [ok]
    subst c eo
    have gt : ¬ (((0 : Nat) : Int) > 0) := by decide
    rcases A.acc with ⟨_, e3, _⟩ | ⟨_, _, _, _, _, e3, _⟩
    · rw [e3] at c72 A
      have s0 := sort0 74 h2
      have A2 : AccS (H ++ []) h2 (.slice none 0 0) (([] : List Nat).map nI) ([] : List Nat).length 1 3 := by rw [List.append_nil]; exact A
      repeat (first | apply Z1 | apply Z2 | apply Z3 | apply Z4 | apply Z5 rfl | apply Z6 | apply Z7 | apply Z8 | apply Z9 | apply ZA | apply ZB | apply ZC | ((first | apply ZD (by decide) | apply ZN (by decide)); (simp (maxSteps := 9999999) only [go_sem, argR, o58, ew, e1, c72, gt, s0]; rfl)) | (refine ZE ?_ ?_; · simp only [go_sem]) | (refine ZF ?_ ?_; · simp only [go_sem]))
      exact end_nil ⟨_, ⟨[], rfl, .refl _, List.Pairwise.nil⟩, q_gc [.slice none 0 0, .int .i64 0] (by simp only [go_sem]) rfl (A2.gc2 (.int .i64 0) rfl) rfl⟩
    · exact (e3 rfl).elim
  · have gt : ((k : Int) > 0) := by omega
    have ok : outL k o = o ++ [k] := by unfold outL; rw [if_neg c]
    rw [ok] at hb ⊢
    obtain ⟨G, v2, ap, ⟨b, ev2⟩, A2, _⟩ := (A.app [SO.cells [.int .i64 (k : Nat)] 3 true 0 []]).push (bytes := 8) (new := [.int .i64 (k : Nat)]) (bs := h2.length) (el2 := 3) (pf2 := true) (own2 := 0) (old2 := []) (by rw [app_get0]; rfl) rfl rfl (by decide) rfl (by decide) (by omega)
    have A3 : AccS H G v2 ((o ++ [k]).map nI) (o ++ [k]).length 1 3 := by
      have e : (o ++ [k]).length = o.length + 1 := by simp
      rw [List.map_append, e]; exact A2
    obtain ⟨h', l', c73, hs, A4⟩ := sort_acc A3 (by simp) (by simp; omega) hb
    have A5 : AccS (H ++ []) h' v2 (l'.map nI) l'.length 1 3 := by rw [List.append_nil]; exact A4
    have gc := A5.gc2 (.int .i64 0) rfl
    subst ev2
    repeat (first | apply Z1 | apply Z2 | apply Z3 | apply Z4 | apply Z5 rfl | apply Z6 | apply Z7 | apply Z8 | apply Z9 | apply ZA | apply ZB | apply ZC | ((first | apply ZD (by decide) | apply ZN (by decide)); (simp (maxSteps := 9999999) only [go_sem, argR, o58, ew, e1, c72, gt, ↓ap, c73]; rfl)) | (refine ZE ?_ ?_; · simp only [go_sem]) | (refine ZF ?_ ?_; · simp only [go_sem]))
    exact end_nil ⟨_, ⟨l', rfl, hs⟩, q_gc [.slice (some ⟨b, 0, none⟩) (o.length + 1) (UNK + 1), .int .i64 0] (by simp only [go_sem]) rfl gc rfl⟩
end
end Go.Proofs.YtpkhkghiidilcaaDoor.Sh

namespace Go.Proofs.YtpkhkghiidilcaaDoor.Sh
open Go
set_option maxRecDepth 100000
set_option maxHeartbeats 4000000
def zL (l : List Nat) : List Int := l.map fun (x : Nat) => (x : Int)
theorem zL_len (l : List Nat) : (zL l).length = l.length := by simp [zL]
theorem zL_at (l : List Nat) {i : Nat} (h : i < l.length) : (zL l)[i]'(by rw [zL_len]; exact h) = (l[i] : Int) := by simp [zL]
def pw2 : List Nat → Nat
  | [] => 0
  | x :: l => 2 ^ x + pw2 l
theorem pw2_app : ∀ (l m : List Nat), pw2 (l ++ m) = pw2 l + pw2 m
  | [], m => by simp [pw2]
  | x :: l, m => by show 2 ^ x + pw2 (l ++ m) = 2 ^ x + pw2 l + pw2 m; rw [pw2_app l m]; omega
theorem pw2_take {l : List Nat} {i : Nat} (h : i < l.length) : pw2 (l.take (i + 1)) = pw2 (l.take i) + 2 ^ l[i] := by
  rw [List.take_add_one, List.getElem?_eq_getElem h, pw2_app]
  show _ + (2 ^ l[i] + 0) = _
  omega
theorem pw2_le : ∀ (l : List Nat), (∀ x ∈ l, x ≤ 20) → pw2 l ≤ 1048576 * l.length
  | [], _ => by simp [pw2]
  | x :: l, h => by
    have h1 := pw2_le l (fun y hy => h y (List.mem_cons_of_mem _ hy))
    have h2 : 2 ^ x ≤ 2 ^ 20 := Nat.pow_le_pow_right (by decide) (h x List.mem_cons_self)
    have e : 2 ^ 20 = 1048576 := rfl
    show 2 ^ x + pw2 l ≤ 1048576 * (l.length + 1)
    omega
theorem pw2_tk {l : List Nat} (hx : ∀ x ∈ l, x ≤ 20) (hl : l.length ≤ 12) (i : Nat) : pw2 (l.take i) ≤ 12582912 := by
  have h1 := pw2_le (l.take i) (fun x h => hx x (List.mem_of_mem_take h))
  have h2 : (l.take i).length ≤ 12 := by rw [List.length_take]; omega
  omega
theorem AccS.is {H h : SHeap} {v : Value} {l : List Nat} (A : AccS H h v (l.map nI) l.length 1 3) : IS h v (zL l) := by
  rcases A.acc with ⟨e, rfl, _⟩ | ⟨b, old, rfl, h1, _⟩
  · have : l = [] := List.length_eq_zero_iff.1 e
    subst this
    exact ⟨none, 0, rfl, fun h => (h rfl).elim⟩
  · refine ⟨_, UNK + 1, by rw [zL_len], fun _ => ⟨b, 0, rfl, (List.getElem?_eq_some_iff.1 h1).1, fun i hi => ?_⟩⟩
    rw [zL_len] at hi
    rw [zL_at l hi, Nat.zero_add]
    have := load_cell (o := i) (c := nI l[i]) h1 rfl (by rw [List.getElem?_map, List.getElem?_eq_getElem hi]; rfl) []
    rw [List.append_nil] at this; exact this
section
variable {H : SHeap} {n goal : Nat} {E : List (Int × Int)} {v : Value} {l : List Nat}
theorem loop21 (cx : Cx) (hv : IS H v (zL l)) (hx : ∀ x ∈ l, x ≤ 20) (hl : l.length ≤ 12) :
    ∀ k ρ ms h' d', (∃ i : Nat, i + k = l.length ∧ ρ 10 = .int .i64 (1 + (pw2 (l.take i) : Int) - i) ∧ ρ 23 = v ∧ ρ 24 = .int .i64 l.length ∧ ρ 25 = .int .i64 i ∧ ms = [] ∧ h' = H ∧ d' = []) →
    LoopW M cx 6 sf21L0 ρ ms h' d' (fun ex ρ' ms' h' d' => ex = .exit 0 ∧ ms' = [] ∧ h' = H ∧ d' = [] ∧ ρ' 10 = .int .i64 (1 + (pw2 l : Int) - l.length)) := by
  refine loop_run _ ?_
  rintro k ρ ms h' d' ⟨i, hk, r10, r23, r24, r25, rfl, rfl, rfl⟩
  unfold sf21L0
  by_cases c : k = 0
  · have e1 : ¬ ((i : Int) < l.length) := by omega
    obtain rfl : i = l.length := by omega
    rw [List.take_length] at r10
    repeat (first | apply Z1 | apply Z2 | apply Z3 | apply Z4 | apply Z5 rfl | apply Z6 | apply Z7 | apply Z8 | apply Z9 | apply ZA | apply ZB | apply ZC | ((first | apply ZD (by decide) | apply ZN (by decide)); (simp (maxSteps := 9999999) only [go_sem, r24, r25, e1]; rfl)) | (refine ZE ?_ ?_; · simp only [go_sem]) | (refine ZF ?_ ?_; · simp only [go_sem]))
    exact end_nil ⟨rfl, rfl, rfl, rfl, by simp only [go_sem, r10]⟩
  · have e1 : ((i : Int) < l.length) := by omega
    have hi : i < l.length := by omega
    have e2 : (0 : Int) ≤ i := by omega
    have ew : IntKind.i64.wrap ((i : Int) + 1) = ((i + 1 : Nat) : Int) := by rw [wrap64 (by omega) (by omega)]; rfl
    obtain ⟨b, o, cp, rfl, ld⟩ := hv.ld (by intro e; have := zL_len l; rw [e] at this; simp at this; omega)
    rw [zL_len] at r23
    have l1 := ld i (by rw [zL_len]; exact hi)
    rw [zL_at l hi] at l1
    have hx1 := hx _ (List.getElem_mem hi)
    have pt := pw2_take hi
    have p1 := pw2_tk hx hl i
    have p2 := pw2_tk hx hl (i + 1)
    have p3 := Nat.pow_pos (n := l[i]) (show 0 < 2 by decide)
    generalize l[i] = q at *
    have wq : IntKind.u64.wrap (q : Int) = q := wrapU (by omega) (by omega)
    have sh := shl_1 (k := .u64) (v := q) (by omega)
    have w1 : IntKind.i64.wrap (((2 ^ q : Nat) : Int) - 1) = ((2 ^ q : Nat) : Int) - 1 := wrap64 (by omega) (by omega)
    have w2 : IntKind.i64.wrap (1 + (pw2 (l.take i) : Int) - i + (((2 ^ q : Nat) : Int) - 1)) = 1 + (pw2 (l.take (i + 1)) : Int) - ((i + 1 : Nat) : Int) := by rw [wrap64 (by omega) (by omega)]; omega
    repeat (first | apply Z1 | apply Z2 | apply Z3 | apply Z4 | apply Z5 rfl | apply Z6 | apply Z7 | apply Z8 | apply Z9 | apply ZA | apply ZB | apply ZC | ((first | apply ZD (by decide) | apply ZN (by decide)); (simp (maxSteps := 9999999) only [go_sem, r10, r23, r24, r25, e1, e2, l1, wq, sh, w1, w2, ew, Int.toNat_natCast]; rfl)) | (refine ZE ?_ ?_; · simp only [go_sem]) | (refine ZF ?_ ?_; · simp only [go_sem]))
    exact end_nil ⟨k - 1, by omega, i + 1, by omega, by simp only [go_sem], by simp only [go_sem, r23, zL_len], by simp only [go_sem, r24], by simp only [go_sem, ew], rfl, rfl, rfl⟩
variable {k : Nat} {o : List Nat}
theorem parts20 (hv : PS H v E) (hlen : E.length ≤ 1000000) (he : errG n E = 0) (hg : goal < n) (hne : E.length + 1 = n) (hp : partsO (adjE E) n 7 goal (-1) = some (k, o)) (hk0 : k = 0 → o = []) (hol : o.length ≤ 11) (hb : ∀ x ∈ outL k o, x ≤ 20) :
    ∃ l', Srt (outL k o) l' ∧ M.call 20 [.int .i64 n, v, .int .i64 goal] H = some (.tuple #[resV H l'.length 1, .int .i64 0], resH H (l'.map nI) l'.length 3, []) ∧ M.call 21 [.int .i64 n, v, .int .i64 goal] H = some (.tuple #[.int .i64 (1 + (pw2 l' : Int) - l'.length), .int .i64 0], H, []) := by
  obtain ⟨l', hs, c⟩ := parts56 hv hlen he hg hne hp hk0 hol (fun x hx => by have := hb x hx; omega)
  have hx : ∀ x ∈ l', x ≤ 20 := fun x h => hb x (hs.1.mem_iff.1 h)
  have hl : l'.length ≤ 12 := by
    rw [hs.1.length_eq]; unfold outL
    by_cases c : k = 0
    · rw [if_pos c]; omega
    · rw [if_neg c, List.length_append, List.length_singleton]; omega
  have A := AccS.resl (H := H) (h := H) (Nat.le_refl _) (fun _ _ => rfl) l'
  obtain ⟨ra, rc, eov⟩ := A.shape
  obtain ⟨k1, k2⟩ := resH_fr H (l'.map nI) l'.length 3
  have Ai : AccS (H ++ []) (resH H (l'.map nI) l'.length 3) (resV H l'.length 1) (l'.map nI) l'.length 1 3 := by rw [List.append_nil]; exact A
  have gc := Ai.gc2 (.int .i64 0) rfl
  have I := A.is
  refine ⟨l', hs, ?_, ?_⟩
  · refine call_run sf20 rfl rfl rfl ?_
    obtain ⟨va, vc, rfl, _⟩ := id hv
    unfold sf20
    generalize hh2 : resH H (l'.map nI) l'.length 3 = h2 at *
    generalize hv2 : resV H l'.length 1 = v2 at *
    subst eov
    repeat (first | apply Z1 | apply Z2 | apply Z3 | apply Z4 | apply Z5 rfl | apply Z6 | apply Z7 | apply Z8 | apply Z9 | apply ZA | apply ZB | apply ZC | ((first | apply ZD (by decide) | apply ZN (by decide)); (simp (maxSteps := 9999999) only [go_sem, argR, c]; rfl)) | (refine ZE ?_ ?_; · simp only [go_sem]) | (refine ZF ?_ ?_; · simp only [go_sem]))
    exact end_nil (q_gc [.slice ra l'.length rc, .int .i64 0] (by simp only [go_sem]) rfl gc rfl)
  · refine call_run sf21 rfl rfl rfl ?_
    obtain ⟨va, vc, rfl, _⟩ := id hv
    unfold sf21
    generalize hh2 : resH H (l'.map nI) l'.length 3 = h2 at *
    generalize hv2 : resV H l'.length 1 = v2 at *
    subst eov
    repeat (first | apply Z1 | apply Z2 | apply Z3 | apply Z4 | apply Z5 rfl | apply Z6 | apply Z7 | apply Z8 | apply Z9 | apply ZA | apply ZB | apply ZC | ((first | apply ZD (by decide) | apply ZN (by decide)); (simp (maxSteps := 9999999) only [go_sem, argR, c]; rfl)) | (refine ZE ?_ ?_; · simp only [go_sem]) | (refine ZF ?_ ?_; · simp only [go_sem]))
    refine run_loop (loop21 _ I hx hl l'.length _ _ _ _ ⟨0, by omega, by simp only [go_sem] <;> rfl, by simp only [go_sem], by simp only [go_sem], by simp only [go_sem] <;> rfl, rfl, rfl, rfl⟩) ?_
    rintro ex ρ' ms' h1 d1 ⟨rfl, rfl, rfl, rfl, t3⟩
    repeat (first | apply Z1 | apply Z2 | apply Z3 | apply Z4 | apply Z5 rfl | apply Z6 | apply Z7 | apply Z8 | apply Z9 | apply ZA | apply ZB | apply ZC | ((first | apply ZD (by decide) | apply ZN (by decide)); (simp (maxSteps := 9999999) only [go_sem, t3]; rfl)) | (refine ZE ?_ ?_; · simp only [go_sem]) | (refine ZF ?_ ?_; · simp only [go_sem]))
    exact end_nil (q_free [.int .i64 (1 + (pw2 l' : Int) - l'.length), .int .i64 0] (by simp only [go_sem, t3]) rfl rfl rfl (fun _ => rfl) (take_of_same k1 k2) rfl)
end
end Go.Proofs.YtpkhkghiidilcaaDoor.Sh

