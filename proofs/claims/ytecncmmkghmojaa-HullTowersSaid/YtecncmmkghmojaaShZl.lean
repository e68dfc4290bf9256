/- The shadow machine on symbolic states: heaps of which the end is known. -/
import Derived.Test.YtecncmmkghmojaaShZk
set_option linter.all false
namespace Go.Proofs.Ytecncmmkghmojaa.Sh
open Go
set_option linter.unusedVariables false

section
variable (H : SHeap) (l : List SO)
theorem app_get (n : Nat) : (H ++ l)[H.length + n]? = l[n]? := by
  rw [List.getElem?_append_right (Nat.le_add_right _ _), Nat.add_sub_cancel_left]
theorem app_get0 : (H ++ l)[H.length]? = l[0]? := by
  rw [List.getElem?_append_right (Nat.le_refl _), Nat.sub_self]
theorem app_set (n : Nat) (x : SO) : (H ++ l).set (H.length + n) x = H ++ l.set n x := by
  rw [List.set_append_right _ _ (Nat.le_add_right _ _), Nat.add_sub_cancel_left]
theorem app_set0 (x : SO) : (H ++ l).set H.length x = H ++ l.set 0 x := by
  rw [List.set_append_right _ _ (Nat.le_refl _), Nat.sub_self]
theorem take_app : (H ++ l).take H.length = H := by simp
end
theorem take_self (H : SHeap) : H.take H.length = H := by simp
theorem ble_dec (a b : Nat) : Nat.ble a b = decide (a ≤ b) := by
  by_cases e : a ≤ b
  · rw [decide_eq_true e]; simpa using e
  · rw [decide_eq_false e]
    cases k : Nat.ble a b
    · rfl
    · exact (e (Nat.le_of_ble_eq_true k)).elim
theorem blt_dec (a b : Nat) : Nat.blt a b = decide (a < b) := by
  show Nat.ble (a + 1) b = decide (a < b)
  rw [ble_dec]; rfl
theorem nbeq_dec (a b : Nat) : Nat.beq a b = decide (a = b) := by
  by_cases e : a = b
  · rw [decide_eq_true e, e, Nat.beq_refl]
  · rw [decide_eq_false e]
    cases k : Nat.beq a b
    · rfl
    · exact (e (Nat.eq_of_beq_eq_true k)).elim
theorem lbeq_dec (a b : Nat) : (a == b) = decide (a = b) := by
  by_cases e : a = b
  · rw [decide_eq_true e, e, beq_self_eq_true]
  · rw [decide_eq_false e, beq_eq_false_iff_ne.2 e]
section
variable (h : SHeap) (b o n : Nat) (d : List Nat)
theorem load_none : loadS h none (.pointer (some ⟨b, o, none⟩)) = rd1 h b o := (rfl)
theorem load_some : loadS h (some n) (.pointer (some ⟨b, o, none⟩)) = match rdN h b o n with
    | some l => some (.agg l.toArray)
    | none => none := (rfl)
theorem rd1_def : rd1 h b o = match h[b]? with
  | some (.cells cs _ _ own _) => if readable own then cs[o]? else none
  | _ => none := (rfl)
theorem rdN_def : rdN h b o n = match h[b]? with
  | some (.cells cs _ _ own _) => if readable own && Nat.ble (o + n) cs.length then some ((cs.drop o).take n) else none
  | _ => none := (rfl)
def rdO (x : Option SO) (o : Nat) : Option Value := match x with
  | some (.cells cs _ _ own _) => if readable own then cs[o]? else none
  | _ => none
def rdON (x : Option SO) (o n : Nat) : Option Value := match x with
  | some (.cells cs _ _ own _) => if readable own && Nat.ble (o + n) cs.length then some (.agg ((cs.drop o).take n).toArray) else none
  | _ => none
theorem rdO_cells (cs : List Value) (el : TypeId) (pf : Bool) (own : Nat) (old : List Nat) : rdO (some (.cells cs el pf own old)) o = if readable own then cs[o]? else none := (rfl)
theorem rdON_cells (cs : List Value) (el : TypeId) (pf : Bool) (own : Nat) (old : List Nat) : rdON (some (.cells cs el pf own old)) o n = if readable own && Nat.ble (o + n) cs.length then some (.agg ((cs.drop o).take n).toArray) else none := (rfl)
theorem load_rdO : loadS h none (.pointer (some ⟨b, o, none⟩)) = rdO h[b]? o := (rfl)
theorem load_rdON : loadS h (some n) (.pointer (some ⟨b, o, none⟩)) = rdON h[b]? o n := by
  rw [load_some, rdN_def]
  unfold rdON
  cases h[b]? with
  | none => rfl
  | some x =>
    cases x with
    | cells cs el pf own old =>
      dsimp only
      by_cases hc : (readable own && Nat.ble (o + n) cs.length) = true
      · rw [if_pos hc, if_pos hc]
      · rw [if_neg hc, if_neg hc]
    | _ => rfl
theorem load_app (l : List SO) (k : Nat) : loadS (h ++ l) none (.pointer (some ⟨h.length + k, o, none⟩)) = rdO l[k]? o := by rw [load_rdO, app_get]
theorem load_app0 (l : List SO) : loadS (h ++ l) none (.pointer (some ⟨h.length, o, none⟩)) = rdO l[0]? o := by rw [load_rdO, app_get0]
theorem load_appN (l : List SO) (k : Nat) : loadS (h ++ l) (some n) (.pointer (some ⟨h.length + k, o, none⟩)) = rdON l[k]? o n := by rw [load_rdON, app_get]
theorem load_appN0 (l : List SO) : loadS (h ++ l) (some n) (.pointer (some ⟨h.length, o, none⟩)) = rdON l[0]? o n := by rw [load_rdON, app_get0]
theorem load_old (l : List SO) (agg : Option Nat) (hb : b < h.length) : loadS (h ++ l) agg (.pointer (some ⟨b, o, none⟩)) = loadS h agg (.pointer (some ⟨b, o, none⟩)) := by
  cases agg with
  | none => rw [load_none, load_none, rd1_def, rd1_def, List.getElem?_append_left hb]
  | some n => rw [load_some, load_some, rdN_def, rdN_def, List.getElem?_append_left hb]
theorem readable_0 : readable 0 = true := (rfl)
theorem readable_1 : readable 1 = true := (rfl)
theorem readable_3 : readable 3 = true := (rfl)
theorem store_def (base : Nat) (vs : List Value) : storeS base h d b o vs = match h[b]? with
  | some (.cells cs el pf own older) =>
    if own == 0 && Nat.ble (o + vs.length) cs.length && vs.all oneC && (!pf || vs.all sc) && Nat.blt 0 vs.length then
      some ((killAll h older).set b (.cells (writeAt cs o vs) el pf 0 []), dirty base b pf d)
    else none
  | _ => none := (rfl)
theorem kill_nil : killAll h [] = h := (rfl)
theorem dirty_pf (base : Nat) : dirty base b true d = d := (rfl)
theorem write_nil (cs : List Value) : writeAt cs o [] = cs := (rfl)
theorem write_cons (cs : List Value) (v : Value) (vs : List Value) : writeAt cs o (v :: vs) = writeAt (cs.set o v) (o + 1) vs := (rfl)
theorem fill_nil (cs : List Value) : fillS cs [] = some cs := (rfl)
theorem fill_cons (cs : List Value) (off size : Nat) (v : Value) (r : List (Nat × Nat × Value)) : fillS cs ((off, size, v) :: r) =
    if (cellsL v).length == size && Nat.ble (off + size) cs.length then fillS (writeAt cs off (cellsL v)) r else none := (rfl)
theorem cells_int (k : IntKind) (z : Int) : cellsL (.int k z) = [.int k z] := (rfl)
theorem cells_bool (z : Bool) : cellsL (.bool z) = [.bool z] := (rfl)
theorem cells_slice (a : Option Addr) (x y : Nat) : cellsL (.slice a x y) = [.slice a x y] := (rfl)
theorem cells_ptr (a : Option Addr) : cellsL (.pointer a) = [.pointer a] := (rfl)
theorem cells_agg (cs : Array Value) : cellsL (.agg cs) = cs.toList := (rfl)
theorem sc_int (k : IntKind) (z : Int) : sc (.int k z) = true := (rfl)
theorem sc_bool (z : Bool) : sc (.bool z) = true := (rfl)
theorem one_int (k : IntKind) (z : Int) : oneC (.int k z) = true := (rfl)
theorem one_bool (z : Bool) : oneC (.bool z) = true := (rfl)
theorem one_slice (a : Option Addr) (x y : Nat) : oneC (.slice a x y) = true := (rfl)
theorem one_ptr (a : Option Addr) : oneC (.pointer a) = true := (rfl)
theorem rep_zero (z : List Value) : repeatL z 0 = [] := (rfl)
theorem rep_succ (z : List Value) (n : Nat) : repeatL z (n + 1) = z ++ repeatL z n := (rfl)
theorem part_none (cs : List Value) : partS none cs o = cs[o]? := (rfl)
theorem part_some (cs : List Value) : partS (some n) cs o = if Nat.ble (o + n) cs.length then some (.agg ((cs.drop o).take n).toArray) else none := (rfl)
theorem chk_nil (lg : List LogE) : chkAll lg [] h = true := by simp [chkAll]
theorem chk_end (ids : List Nat) : chkAll [] ids h = true := (rfl)
theorem chk_cons (e : LogE) (lg : List LogE) (ids : List Nat) : chkAll (e :: lg) ids h = ((!(ids.contains e.id) || (match loadS h e.agg e.a with | some v => vsame v e.v | none => false)) && chkAll lg ids h) := (rfl)
theorem log_load (dst sl : Option Nat) (agg : Option Nat) (x : Operand) (id : Nat) (c : List Nat) (ρ : Reg) (v : Value) : logR ⟨dst, sl, .load agg x, none, id, true, c⟩ ρ v = match evR ρ x with
      | some a => [⟨id, agg, a, v⟩]
      | none => [] := (rfl)
theorem log_call (dst sl : Option Nat) (f : Operand) (x : List Operand) (id : Nat) (c : List Nat) (ρ : Reg) (v : Value) : logR ⟨dst, sl, .call f x, none, id, true, c⟩ ρ v = [] := (rfl)
theorem vsame_int (k : IntKind) (z : Int) : vsame (.int k z) (.int k z) = true := by simp [vsame, vs1]
theorem vsame_agg (a b : Array Value) : vsame (.agg a) (.agg b) = vsL a.toList b.toList := (rfl)
theorem vsL_nil : vsL [] [] = true := (rfl)
theorem vsL_int (k : IntKind) (z : Int) (x y : List Value) : vsL (.int k z :: x) (.int k z :: y) = vsL x y := by simp [vsL, vs1]
theorem vsame_ptr (a : Option Addr) : vsame (.pointer a) (.pointer a) = true := by simp [vsame, vs1]
theorem vsame_slice (a : Option Addr) (n c : Nat) : vsame (.slice a n c) (.slice a n c) = true := by simp [vsame, vs1]
end
theorem eqL_nil : eqList [] [] [] = some true := (rfl)
theorem eqL_cons (x y : Int) (ks : List CK) (k : IntKind) (as bs : List Value) : eqList (.int :: ks) (.int k x :: as) (.int k y :: bs) = if x = y then eqList ks as bs else some false := by
  by_cases e : x = y
  · simp [eqList, eqCell, e]
  · have : (x == y) = false := beq_eq_false_iff_ne.2 e
    simp [eqList, eqCell, e, this]
theorem eqS_aggr (l : List CK) (a b : Array Value) : eqS (.agg l) (.agg a) (.agg b) = eqList l a.toList b.toList := (rfl)
theorem flat_up : ∀ (n : Nat) (v : Value), flat n v = true → flat (n + 1) v = true
  | 0, v, h => by cases v <;> first | rfl | cases h
  | n + 1, v, h => by
    cases v with
    | agg cs => simp only [flat, List.all_eq_true] at h ⊢; exact fun x hx => flat_up n x (h x hx)
    | tuple cs => simp only [flat, List.all_eq_true] at h ⊢; exact fun x hx => flat_up n x (h x hx)
    | bool b => rfl
    | int k n => rfl
    | string s => rfl
    | _ => simp [flat] at h
theorem q_cell_tmp {FT : FuncId → Option SFunc} {base : Nat} {i j n : Nat} {ρ : Reg} {h h0 : SHeap} (l : List Value) (w : Value) (hv : loadS h (some n) (ρ i) = some (.agg l.toArray)) (hw : ρ j = w) (hfl : l.all (flat 1) = true) (hfl2 : flat 2 w = true) (hp : ∃ a, ρ i = .pointer a) (ht : h.take base = h0) :
    callQ [.cell (some n) i, .tmp j] base (.tuple #[.agg l.toArray, w], h0, []) .ret ρ [] h [] := by
  obtain ⟨a, ha⟩ := hp
  refine ⟨rfl, ?_⟩
  show opn (ρ i) fun a => ∃ v, loadS h (some n) a = some v ∧ opn v fun v' => opn (ρ j) fun w' => endW base h [] (.tuple #[.agg l.toArray, w], h0, []) [v', w']
  rw [ha] at hv ⊢
  rw [hw]
  refine ⟨_, hv, ?_⟩
  exact opn_of (v := .agg l.toArray) (n := 3) (K := fun v' => opn w fun w' => endW base h [] (.tuple #[.agg l.toArray, w], h0, []) [v', w']) (by simp only [flat, List.all_eq_true] at hfl ⊢; exact fun x hx => flat_up _ _ (by simpa using hfl x hx)) <| opn_of hfl2 (end_flat (l := [.agg l.toArray, w]) (by simpa [oneV, flat, hfl2] using hfl) ht)
theorem q_cell {base : Nat} {i n : Nat} {ρ : Reg} {h h0 : SHeap} (l : List Value) (hv : loadS h (some n) (ρ i) = some (.agg l.toArray)) (hfl : l.all (flat 2) = true) (hp : ∃ a, ρ i = .pointer a) (ht : h.take base = h0) :
    callQ [.cell (some n) i] base (.agg l.toArray, h0, []) .ret ρ [] h [] := by
  obtain ⟨a, ha⟩ := hp
  refine ⟨rfl, ?_⟩
  show opn (ρ i) fun a => ∃ v, loadS h (some n) a = some v ∧ opn v fun v' => endW base h [] (.agg l.toArray, h0, []) [v']
  rw [ha] at hv ⊢
  exact ⟨_, hv, end_flat (l := [.agg l.toArray]) (by simpa [oneV, flat] using hfl) ht⟩

/-! ### integers in a block -/
def mkI (z : Int) : Value := .int .i64 z
/-- the block b holds these integers, and may be read -/
def Ints (h : SHeap) (b : Nat) (l : List Int) : Prop := ∃ el pf own old, h[b]? = some (.cells (l.map mkI) el pf own old) ∧ readable own = true
theorem Ints.load {h : SHeap} {b : Nat} {l : List Int} (k : Ints h b l) {i : Nat} (hi : i < l.length) : loadS h none (.pointer (some ⟨b, i, none⟩)) = some (.int .i64 l[i]) := by
  obtain ⟨el, pf, own, old, h1, h2⟩ := k
  rw [load_none, rd1_def, h1]
  dsimp only
  rw [if_pos h2, List.getElem?_map, List.getElem?_eq_getElem hi]
  rfl
theorem Ints.lt {h : SHeap} {b : Nat} {l : List Int} (k : Ints h b l) : b < h.length := by
  obtain ⟨el, pf, own, old, h1, h2⟩ := k
  exact (List.getElem?_eq_some_iff.1 h1).1
theorem Ints.app {h : SHeap} {b : Nat} {l : List Int} (k : Ints h b l) (h' : SHeap) : Ints (h ++ h') b l := by
  have := k.lt
  obtain ⟨el, pf, own, old, h1, h2⟩ := k
  exact ⟨el, pf, own, old, by rw [List.getElem?_append_left this]; exact h1, h2⟩

/-! ### pairs in a block -/
def prs : List (Int × Int) → List Value
  | [] => []
  | p :: r => .int .i64 p.1 :: .int .i64 p.2 :: prs r
theorem prs_len : ∀ l, (prs l).length = 2 * l.length
  | [] => rfl
  | p :: r => by simp [prs, prs_len r]; omega
theorem prs_get1 : ∀ (l : List (Int × Int)) (i : Nat) (hi : i < l.length), (prs l)[2 * i]? = some (.int .i64 l[i].1)
  | p :: r, 0, _ => rfl
  | p :: r, i + 1, hi => by
    have := prs_get1 r i (by simpa using hi)
    rw [show 2 * (i + 1) = 2 * i + 1 + 1 by omega]
    simpa [prs] using this
theorem prs_get2 : ∀ (l : List (Int × Int)) (i : Nat) (hi : i < l.length), (prs l)[2 * i + 1]? = some (.int .i64 l[i].2)
  | p :: r, 0, _ => rfl
  | p :: r, i + 1, hi => by
    have := prs_get2 r i (by simpa using hi)
    rw [show 2 * (i + 1) + 1 = 2 * i + 1 + 1 + 1 by omega]
    simpa [prs] using this
theorem prs_app : ∀ (l m : List (Int × Int)), prs (l ++ m) = prs l ++ prs m
  | [], m => rfl
  | p :: r, m => by simp [prs, prs_app r m]
theorem prs_sc : ∀ (l : List (Int × Int)), (prs l).all sc = true
  | [] => rfl
  | p :: r => by simp [prs, sc, prs_sc r]
theorem prs_one : ∀ (l : List (Int × Int)), (prs l).all oneC = true
  | [] => rfl
  | p :: r => by simp [prs, oneC, prs_one r]
theorem prs_drop : ∀ (l : List (Int × Int)) (i : Nat), (prs l).drop (2 * i) = prs (l.drop i)
  | l, 0 => rfl
  | [], i + 1 => by simp [prs]
  | p :: r, i + 1 => by
    rw [show 2 * (i + 1) = 2 * i + 1 + 1 by omega]
    simpa [prs] using prs_drop r i
theorem prs_take : ∀ (l : List (Int × Int)) (i : Nat), (prs l).take (2 * i) = prs (l.take i)
  | l, 0 => by simp [prs]
  | [], i + 1 => by simp [prs]
  | p :: r, i + 1 => by
    rw [show 2 * (i + 1) = 2 * i + 1 + 1 by omega]
    simpa [prs] using prs_take r i
/-- from offset o on, the block b holds these pairs, and may be read -/
def Prs (h : SHeap) (b o : Nat) (l : List (Int × Int)) : Prop := ∃ pre post el pf own old, h[b]? = some (.cells (pre ++ (prs l ++ post)) el pf own old) ∧ readable own = true ∧ pre.length = o
theorem Prs.lt {h : SHeap} {b o : Nat} {l : List (Int × Int)} (k : Prs h b o l) : b < h.length := by
  obtain ⟨pre, post, el, pf, own, old, h1, h2, h3⟩ := k
  exact (List.getElem?_eq_some_iff.1 h1).1
theorem Prs.app {h : SHeap} {b o : Nat} {l : List (Int × Int)} (k : Prs h b o l) (h' : SHeap) : Prs (h ++ h') b o l := by
  have := k.lt
  obtain ⟨pre, post, el, pf, own, old, h1, h2⟩ := k
  exact ⟨pre, post, el, pf, own, old, by rw [List.getElem?_append_left this]; exact h1, h2⟩
theorem Prs.load1 {h : SHeap} {b o : Nat} {l : List (Int × Int)} (k : Prs h b o l) {i : Nat} (hi : i < l.length) : loadS h none (.pointer (some ⟨b, o + i * 2, none⟩)) = some (.int .i64 l[i].1) := by
  obtain ⟨pre, post, el, pf, own, old, h1, h2, rfl⟩ := k
  rw [load_none, rd1_def, h1]
  dsimp only
  rw [if_pos h2, List.getElem?_append_right (by omega), Nat.add_sub_cancel_left, List.getElem?_append_left (by rw [prs_len]; omega), Nat.mul_comm i 2]
  exact prs_get1 l i hi
theorem Prs.load2 {h : SHeap} {b o : Nat} {l : List (Int × Int)} (k : Prs h b o l) {i : Nat} (hi : i < l.length) : loadS h none (.pointer (some ⟨b, o + i * 2 + 1, none⟩)) = some (.int .i64 l[i].2) := by
  obtain ⟨pre, post, el, pf, own, old, h1, h2, rfl⟩ := k
  rw [load_none, rd1_def, h1]
  dsimp only
  rw [if_pos h2, List.getElem?_append_right (by omega), show pre.length + i * 2 + 1 - pre.length = 2 * i + 1 by omega, List.getElem?_append_left (by rw [prs_len]; omega)]
  exact prs_get2 l i hi
theorem drop_cons {α : Type} (l : List α) (i : Nat) (hi : i < l.length) : l.drop i = l[i] :: l.drop (i + 1) := by simp
theorem Prs.loadN {h : SHeap} {b o : Nat} {l : List (Int × Int)} (k : Prs h b o l) {i : Nat} (hi : i < l.length) : loadS h (some 2) (.pointer (some ⟨b, o + i * 2, none⟩)) = some (.agg #[.int .i64 l[i].1, .int .i64 l[i].2]) := by
  obtain ⟨pre, post, el, pf, own, old, h1, h2, rfl⟩ := k
  rw [load_some, rdN_def, h1]
  dsimp only
  have hl : pre.length + i * 2 + 2 ≤ (pre ++ (prs l ++ post)).length := by
    simp only [List.length_append, prs_len]; omega
  rw [h2, ble_dec, decide_eq_true hl, if_pos (by rfl)]
  have e : ((pre ++ (prs l ++ post)).drop (pre.length + i * 2)).take 2 = [.int .i64 l[i].1, .int .i64 l[i].2] := by
    rw [List.drop_append, List.drop_eq_nil_of_le (by omega), List.nil_append, show pre.length + i * 2 - pre.length = 2 * i by omega,
      List.drop_append_of_le_length (by rw [prs_len]; omega), prs_drop, drop_cons l i hi]
    rfl
  rw [e]
end Go.Proofs.Ytecncmmkghmojaa.Sh
