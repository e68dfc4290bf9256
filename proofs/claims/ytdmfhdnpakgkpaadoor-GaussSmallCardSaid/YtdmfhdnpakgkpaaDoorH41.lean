/- The shadow machine: slices that grow in a call, and are returned. -/
import Derived.Test.YtdmfhdnpakgkpaaDoorM3
set_option linter.all false
namespace Go.Proofs.YtdmfhdnpakgkpaaDoor.Sh
section
open Go
structure AccS (H0 h : SHeap) (v : Value) (cs : List Value) (n s : Nat) (el : TypeId) : Prop where
 acc : Acc H0.length h v cs n s el
 le : H0.length ≤ h.length
 same : ∀ j, j < H0.length → h[j]? = H0[j]?
theorem AccS.nil (H0 : SHeap) (g : SHeap) (s : Nat) (el : TypeId) : AccS H0 (H0 ++ g) (.slice none 0 0) [] 0 s el :=
 ⟨.inl ⟨rfl, rfl, rfl⟩, by simp, fun j hj => List.getElem?_append_left hj⟩
theorem AccS.nil0 (H0 : SHeap) (s : Nat) (el : TypeId) : AccS H0 H0 (.slice none 0 0) [] 0 s el :=
 ⟨.inl ⟨rfl, rfl, rfl⟩, Nat.le_refl _, fun j hj => rfl⟩
theorem AccS.app {H0 h : SHeap} {v : Value} {cs : List Value} {n s : Nat} {el : TypeId} (A : AccS H0 h v cs n s el) (g : SHeap) : AccS H0 (h ++ g) v cs n s el :=
 ⟨A.acc.keep (fun b e => by rw [List.getElem?_append_left (A.acc.lt e).2]), by have := A.le; simp; omega, fun j hj => by rw [List.getElem?_append_left (by have := A.le; omega)]; exact A.same j hj⟩
theorem AccS.prs {H0 h : SHeap} {v : Value} {cs : List Value} {n s : Nat} {el : TypeId} (A : AccS H0 h v cs n s el) {b o : Nat} {l : List (Int × Int)} (hp : Prs H0 b o l) : Prs h b o l := by
 have e := A.same b hp.lt
 obtain ⟨pre, post, el2, pf, own, old, h1, h2⟩ := hp
 exact ⟨pre, post, el2, pf, own, old, by rw [e]; exact h1, h2⟩
theorem AccS.push {H0 h : SHeap} {v : Value} {cs new : List Value} {n s bytes : Nat} {el : TypeId} (A : AccS H0 h v cs n s el) {bs : Nat} {el2 : TypeId} {pf2 : Bool} {own2 : Nat} {old2 : List Nat}
  (hs : h[bs]? = some (.cells new el2 pf2 own2 old2)) (hr : readable own2 = true) (hl : new.length = s) (hs0 : 0 < s) (hsc : new.all sc = true) (hb0 : 0 < bytes) (hb : (n + 1) * bytes ≤ 140737488355328) :
  ∃ H2 v2, (∀ (base : Nat) (d : List Nat), appendS base h d el true s bytes v (.slice (some ⟨bs, 0, none⟩) 1 1) = some (v2, H2, d)) ∧ (∃ b, v2 = .slice (some ⟨b, 0, none⟩) (n + 1) (UNK + s)) ∧ AccS H0 H2 v2 (cs ++ new) (n + 1) s el ∧ h.length < H2.length ∧
   (∀ j, j < h.length → (∀ b, v = .slice (some ⟨b, 0, none⟩) n (UNK + s) → j ≠ b) → H2[j]? = h[j]?) := by
 obtain ⟨old, ap, acc2, kp⟩ := acc_append (bytes := bytes) A.acc hs hr hl hs0 hsc hb0 hb A.le
 refine ⟨_, _, ap, ⟨_, rfl⟩, ⟨acc2, by have := A.le; simp [shv_len]; omega, fun j hj => ?_⟩, by simp [shv_len], kp⟩
 have := A.le
 rw [kp j (by omega) (fun b e => by have := A.acc.lt e; omega)]
 exact A.same j hj
def resV (h : SHeap) (n s : Nat) : Value := if n = 0 then .slice none 0 0 else .slice (some ⟨h.length, 0, none⟩) n (UNK + s)
def resH (h : SHeap) (cs : List Value) (n : Nat) (el : TypeId) : SHeap := if n = 0 then h else h ++ [.cells cs el true 0 []]
theorem ren_none' {h : SHeap} {b : Nat} {old : List Nat} (hold : ∀ c ∈ old, h.length ≤ c ∧ c < b) : old.filterMap (ren h.length [b]) = [] := by
 rw [List.filterMap_eq_nil_iff]
 intro a ha
 obtain ⟨a1, a2⟩ := hold a ha
 have e4 : Nat.ble h.length a = true := by rw [ble_dec]; simpa using a1
 have e5 : Nat.beq b a = false := by rw [nbeq_dec]; simp; omega
 simp [ren, e4, posOf, e5]
theorem AccS.shape {H0 h : SHeap} {v : Value} {cs : List Value} {n s : Nat} {el : TypeId} (A : AccS H0 h v cs n s el) : ∃ a c, v = .slice a n c := by
 rcases A.acc with ⟨rfl, rfl, _⟩ | ⟨b, old, rfl, _⟩
 ·exact ⟨_, _, rfl⟩
 ·exact ⟨_, _, rfl⟩
theorem AccS.take {H0 h : SHeap} {v : Value} {cs : List Value} {n s : Nat} {el : TypeId} (A : AccS H0 h v cs n s el) {H : SHeap} {g : SHeap} (e : H0 = H ++ g) : h.take H.length = H := by
 subst e
 have := A.le
 exact take_of_same (by simp at this; omega) (fun j hj => by rw [A.same j (by simp; omega), List.getElem?_append_left hj])
section
variable {H g h : SHeap} {v : Value} {cs : List Value} {n s : Nat} {el : TypeId}
theorem AccS.cellsAt (A : AccS (H ++ g) h v cs n s el) (hn : n ≠ 0) : ∃ b old, v = .slice (some ⟨b, 0, none⟩) n (UNK + s) ∧ h[b]? = some (.cells cs el true 0 old) ∧ H.length ≤ b ∧ ∀ c ∈ old, H.length ≤ c ∧ c < b := by
 rcases A.acc with ⟨e, _⟩ | ⟨b, old, rfl, h1, h2, h3, h4, h5, h6⟩
 ·exact (hn e).elim
 ·simp at h4
  exact ⟨b, old, rfl, h1, by omega, fun c hc => by have := h6 c hc; simp at this; omega⟩
theorem AccS.gc (A : AccS (H ++ g) h v cs n s el) : gcS H.length v h = some (resV H n s, resH H cs n el) := by
 by_cases hn : n = 0
 ·rcases A.acc with ⟨_, rfl, _⟩ | ⟨b, old, rfl, h1, h2, h3, _⟩
  ·rw [gc_nil, A.take rfl]; simp [resV, resH, hn]
  ·exact (h3 hn).elim
 ·obtain ⟨b, old, rfl, h1, h2, h3⟩ := A.cellsAt hn
  have ht := A.take rfl
  have eb : Nat.ble H.length b = true := by rw [ble_dec]; simpa using h2
  have e1 : reach H.length h 1000000 [b] [] = [b] := by
   rw [show (1000000 : Nat) = 999998 + 1 + 1 from rfl, reach]
   simp only [eb, List.contains_nil, Bool.not_true, Bool.or_self, Bool.false_eq_true, if_false, h1, ptrsO, Bool.true_or, if_true, List.nil_append]
   rw [reach]
  have e2 : ren H.length [b] b = some H.length := by simp [ren, eb, posOf]
  have e0 : ((0 : Nat) == 2) = false := rfl
  unfold gcS
  simp only [ptrs, ptr1, e1, renV, e2, mapO, renO, h1, e0, Bool.false_eq_true, if_false, if_true, ht, ren_none' h3]
  simp [resV, resH, hn]
theorem AccS.gc2 (A : AccS (H ++ g) h v cs n s el) (w : Value) (hw : flat 1 w = true) : gcS H.length (.tuple #[v, w]) h = some (.tuple #[resV H n s, w], resH H cs n el) := by
 have hp : ptrs 2 w = [] ∧ ∀ K, renV H.length K 2 w = some w := ⟨ptrs_flat 2 w (flat_up _ _ hw), fun K => renV_flat 2 w (flat_up _ _ hw)⟩
 by_cases hn : n = 0
 ·have ht := A.take rfl
  have e3 := hp.2 []
  rcases A.acc with ⟨_, rfl, _⟩ | ⟨b, old, rfl, h1, h2, h3, _⟩
  ·have e1 : ptrs 3 (.tuple #[.slice none 0 0, w]) = [] := by
    show ptrs 2 (.slice none 0 0) ++ (ptrs 2 w ++ []) = []
    rw [hp.1]; rfl
   unfold gcS
   rw [e1]
   rw [show (1000000 : Nat) = 999999 + 1 from rfl, reach]
   simp [renV, mapO, e3, ht, resV, resH, hn]
  ·exact (h3 hn).elim
 ·obtain ⟨b, old, rfl, h1, h2, h3⟩ := A.cellsAt hn
  have ht := A.take rfl
  have eb : Nat.ble H.length b = true := by rw [ble_dec]; simpa using h2
  have e1 : reach H.length h 1000000 [b] [] = [b] := by
   rw [show (1000000 : Nat) = 999998 + 1 + 1 from rfl, reach]
   simp only [eb, List.contains_nil, Bool.not_true, Bool.or_self, Bool.false_eq_true, if_false, h1, ptrsO, Bool.true_or, if_true, List.nil_append]
   rw [reach]
  have e2 : ren H.length [b] b = some H.length := by simp [ren, eb, posOf]
  have e0 : ((0 : Nat) == 2) = false := rfl
  have e3 := hp.2 [b]
  have e4 : ptrs 3 (.tuple #[.slice (some ⟨b, 0, none⟩) n (UNK + s), w]) = [b] := by
   show ptrs 2 (.slice (some ⟨b, 0, none⟩) n (UNK + s)) ++ (ptrs 2 w ++ []) = [b]
   rw [hp.1]; rfl
  unfold gcS
  simp only [e4, e1, renV, e2, e3, mapO, renO, h1, e0, Bool.false_eq_true, if_false, if_true, ht, ren_none' h3]
  simp [resV, resH, hn]
theorem AccS.ret1 (A : AccS (H ++ g) h v cs n s el) {i : Nat} {ρ : Reg} (hv : ρ i = v) : callQ [.tmp i] H.length (resV H n s, resH H cs n el, []) .ret ρ [] h [] := by
 obtain ⟨a, c, rfl⟩ := A.shape
 refine ⟨rfl, ?_⟩
 show opn (ρ i) fun v' => endW H.length h [] (_, _, []) [v']
 rw [hv]
 exact ⟨_, _, A.gc, rfl⟩
theorem AccS.ret2 (A : AccS (H ++ g) h v cs n s el) {i j : Nat} {ρ : Reg} (w : Value) (hv : ρ i = v) (hw : ρ j = w) (hf : flat 1 w = true) : callQ [.tmp i, .tmp j] H.length (.tuple #[resV H n s, w], resH H cs n el, []) .ret ρ [] h [] := by
 obtain ⟨a, c, rfl⟩ := A.shape
 refine ⟨rfl, ?_⟩
 show opn (ρ i) fun v' => opn (ρ j) fun w' => endW H.length h [] (_, _, []) [v', w']
 rw [hv, hw]
 show opn w fun w' => endW H.length h [] (_, _, []) [.slice a n c, w']
 exact opn_of hf ⟨_, _, A.gc2 w hf, rfl⟩
theorem AccS.q1 (A : AccS (H ++ g) h v cs n s el) {i : Nat} {ρ : Reg} {r : Value} {H' : SHeap} (hr : r = resV H n s) (hH : H' = resH H cs n el) (hv : ρ i = v) : callQ [.tmp i] H.length (r, H', []) .ret ρ [] h [] := by
 subst hr hH; exact A.ret1 hv
theorem AccS.q2 (A : AccS (H ++ g) h v cs n s el) {i j : Nat} {ρ : Reg} {r : Value} {H' : SHeap} (w : Value) (hr : r = .tuple #[resV H n s, w]) (hH : H' = resH H cs n el) (hv : ρ i = v) (hw : ρ j = w) (hf : flat 1 w = true) : callQ [.tmp i, .tmp j] H.length (r, H', []) .ret ρ [] h [] := by
 subst hr hH; exact A.ret2 w hv hw hf
theorem AccS.ofRes (h : SHeap) (el : TypeId) {cs : List Value} {n s : Nat} (hl : cs.length = n * s) (hsc : cs.all sc = true) : AccS h (resH h cs n el) (resV h n s) cs n s el := by
 by_cases hn : n = 0
 ·subst hn
  have : cs = [] := by cases cs <;> simp_all
  subst this
  simp only [resH, resV, if_true]
  exact AccS.nil0 h s el
 ·simp only [resH, resV, hn, if_false]
  exact ⟨.inr ⟨h.length, [], rfl, by rw [app_get0]; rfl, hl, hn, Nat.le_refl _, hsc, fun c hc => by simp at hc⟩, by simp, fun j hj => List.getElem?_append_left hj⟩
theorem AccS.at0 (A : AccS H h v cs n s el) : AccS (H ++ []) h v cs n s el := by rw [List.append_nil]; exact A
end
section
variable {H0 H h : SHeap} {b n o c s : Nat} {cs : List Value} {el : TypeId} {own : Nat} {old : List Nat}
end
end
end Go.Proofs.YtdmfhdnpakgkpaaDoor.Sh
namespace Go.Proofs.YtdmfhdnpakgkpaaDoor.Sh
section
open Go Go.RowKit
def opL (R : Rec) (cx : Cx) (o : SOp) (t : T) (h : SHeap) (d : List Nat) : Option (List (Value × SHeap × List Nat)) :=
 match o with
 | .range x => match ev t x with
  | some (.map (some b)) => match h[b]? with
   | some (.map _ es) => some [(.pointer (some ⟨h.length, 0, none⟩), h ++ [.iter b [] es.length], d)]
   | _ => none
  | _ => none
 | .next x => match ev t x with
  | some (.pointer (some ⟨b, 0, none⟩)) => match h[b]? with
   | some (.iter mb seen n) => match h[mb]? with
    | some (.map _ es) =>
     if Nat.beq es.length n then
      match (List.range n).filter (fun i => !(seen.contains i)) with
      | [] => some [(.tuple #[.bool false], h, d)]
      | l => mapO (fun i => match es[i]? with
       | some e => some (.tuple #[.bool true, e.1, e.2], h.set b (.iter mb (seen ++ [i]) n), d)
       | none => none) l
     else none
    | _ => none
   | _ => none
  | _ => none
 | .entry x => match ev t x with
  | some (.pointer (some ⟨b, 0, none⟩)) => match h[b]? with
   | some (.iter mb seen n) => match h[mb]?, seen.getLast? with
    | some (.map _ es), some i =>
     if Nat.beq es.length n then
      match es[i]? with
      | some e => some [(.tuple #[e.1, e.2], h, d)]
      | none => none
     else none
    | _, _ => none
   | _ => none
  | _ => none
 | o => match opRun R cx none o t h d with
  | some r => some [r]
  | none => none
section
variable {P : Program} {nt : Nat} {m : Mp} {t : T} {a : Act}
theorem run_choose_next (k : Nat) (hk : 1 ≤ k) (w : World) : ∃ c n, c < k ∧ (choose (.mapNext k)).run P w = .ok c { w with drawn := n } := by
 by_cases e : k ≤ 1
 ·refine ⟨0, w.drawn, by omega, ?_⟩
  show (if (Question.mapNext k).forced = true then _ else _) = _
  rw [if_pos (by simpa [Question.forced] using e)]
  rfl
 ·refine ⟨w.tape w.drawn (.mapNext k) % k, w.drawn + 1, Nat.mod_lt _ (by omega), ?_⟩
  show (if (Question.mapNext k).forced = true then _ else _) = _
  rw [if_neg (by simpa [Question.forced] using e)]
  rfl
theorem run_getObj_iter {w : World} {r : Nat} {mo : Option Nat} {s l : Nat} {sn : Array Nat} (hb : w.heap[r]? = some (.mapIter mo s sn l)) : (getObj r).run P w = .ok (.mapIter mo s sn l) w := by
 simp [getObj, Sem.run, hb]
theorem run_setObj_iter {w : World} {r : Nat} {mo : Option Nat} {s l : Nat} {sn : Array Nat} (o : Obj) (hb : w.heap[r]? = some (.mapIter mo s sn l)) : (setObj r o).run P w = .ok () { w with heap := w.heap.setIfInBounds r o } := by
 simp [setObj, Sem.run, hb]
theorem sim_range {E : Env} {h : SHeap} {w : World} (r : Rel E m h w) (ht : TR nt m t a.tmps) {ty kt e : TypeId} (hu : E.P.underlying ty = some (.map kt e)) {x : Operand} (hx : okO x = true) {b : Nat} {pf es} (hev : ev t x = some (.map (some b))) (hb : h[b]? = some (.map pf es)) :
  Does E m h (do pure (Next.value (← Instr.range ty (a.eval x)))) w (.pointer (some ⟨h.length, 0, none⟩)) (h ++ [.iter b [] es.length]) := by
 obtain ⟨A, hm, hxe⟩ := (ev_sim ht hx hev).map_inv
 obtain ⟨_, ⟨rs, clock, hw, l1, l2, hc, _⟩, _⟩ := r.map_at hb hm
 have hlen : clock = es.length := by have := l1.1; simp at this; rw [hc, this]
 refine ⟨.pointer (some ⟨w.heap.size, 0, none⟩), { w with heap := w.heap.push (.mapIter (some A) clock #[] clock) }, m ++ [some ((w.heap.size, 0), none)], .inl (run_v ?_), ?_, Mp.le_append _ _, ?_, Ghost.push r.len⟩
 ·rw [hxe]
  simp [Instr.range, run_underlying hu, MapKept.run_getObj_map hw, newObj, Sem.run]
 ·have hat : Mp.at (m ++ [some ((w.heap.size, 0), none)]) h.length = some (w.heap.size, 0) := by rw [← r.len, Mp.at_snoc]; rfl
  exact .ptr (b := h.length) (o := 0) hat
 ·refine Rel.push (o := .iter b [] es.length) (ob := .mapIter (some A) clock #[] clock) r rfl none (fun w' hw' => ⟨rfl, A, Mp.le_at (Mp.le_append _ _) hm, ?_⟩) (fun K s e => by cases e)
  rw [hw', hlen]
theorem Rel.iter_at {E : Env} {h : SHeap} {w : World} (r : Rel E m h w) {b A δ mb n : Nat} {seen : List Nat} (hb : h[b]? = some (.iter mb seen n)) (hm : m.at b = some (A, δ)) :
  δ = 0 ∧ ∃ M, m.at mb = some (M, 0) ∧ w.heap[A]? = some (.mapIter (some M) n seen.toArray n) := r.obj _ _ _ _ hb hm
theorem sim_entry {E : Env} {h : SHeap} {w : World} (r : Rel E m h w) (ht : TR nt m t a.tmps) {x : Operand} (hx : okO x = true) {b mb n i : Nat} {seen : List Nat} {pf es} {e : Value × Value} (hev : ev t x = some (.pointer (some ⟨b, 0, none⟩))) (hb : h[b]? = some (.iter mb seen n)) (hmb : h[mb]? = some (.map pf es)) (hn : es.length = n)
  (hl : seen.getLast? = some i) (he : es[i]? = some e) : Does E m h (do pure (Next.value (← Instr.entry (a.eval x)))) w (.tuple #[e.1, e.2]) h := by
 obtain ⟨A, δ, hm, hxe⟩ := (ev_sim ht hx hev).ptr_inv
 obtain ⟨rfl, M, hmm, hit⟩ := r.iter_at hb hm
 obtain ⟨_, ⟨rs, clock, hw, l1, l2, hc, hst⟩, _⟩ := r.map_at hmb hmm
 have hrl : rs.toList.length = es.length := by have := l1.1; simp at this ⊢; omega
 have hi : i < es.length := (List.getElem?_eq_some_iff.1 he).1
 have hri : rs.toList[i]? = some (rs.toList[i]'(by omega)) := List.getElem?_eq_getElem (by omega)
 have hbi := hst i _ hri
 have hclock : clock = n := by rw [hc, ← hn, ← hrl]; simp
 have hf : rs.find? (fun e => e.born == i) = some (rs.toList[i]'(by omega)) := by
  rw [← Array.find?_toList]
  cases hq : rs.toList.find? (fun e => e.born == i) with
  | none =>
   have := List.find?_eq_none.1 hq _ (List.mem_of_getElem? hri)
   simp at this
   exact (this (by simpa using hbi)).elim
  | some e' =>
   have h1 := List.find?_some hq
   obtain ⟨j, hj⟩ := List.getElem?_of_mem (List.mem_of_find?_eq_some hq)
   have h2 := hst j e' hj
   have : j = i := by simp at h1; omega
   subst this
   rw [hri] at hj
   exact hj.symm
 have hback : seen.toArray.back? = some i := by simpa using hl
 have v1 : VR m e.1 (rs.toList[i]'(by omega)).key := by
  obtain ⟨y, hy, hv⟩ := l1.get (i := i) (x := e.1) (by rw [List.getElem?_map, he]; rfl)
  rw [List.getElem?_map, hri] at hy
  cases hy
  exact hv
 have v2 : VR m e.2 (rs.toList[i]'(by omega)).val := by
  obtain ⟨y, hy, hv⟩ := l2.get (i := i) (x := e.2) (by rw [List.getElem?_map, he]; rfl)
  rw [List.getElem?_map, hri] at hy
  cases hy
  exact hv
 refine Does.pure r (v' := .tuple #[(rs.toList[i]'(by omega)).key, (rs.toList[i]'(by omega)).val]) (run_v ?_) (VR.tuple' (((LR.nil m).cons v2).cons v1))
 rw [hxe]
 simp [Instr.entry, run_getObj_iter hit, MapKept.run_getObj_map hw, hback, hclock, hf]
theorem sim_next {E : Env} {h : SHeap} {w : World} (r : Rel E m h w) (ht : TR nt m t a.tmps) {ty : TypeId} {x : Operand} (hx : okO x = true) {b mb n : Nat} {seen : List Nat} {pf es} (hev : ev t x = some (.pointer (some ⟨b, 0, none⟩))) (hb : h[b]? = some (.iter mb seen n)) (hmb : h[mb]? = some (.map pf es)) (hn : es.length = n) :
  ((List.range n).filter (fun i => !(seen.contains i)) = [] ∧ Does E m h (do pure (Next.value (← Instr.next (a.eval x) false ty))) w (.tuple #[.bool false]) h) ∨
  ∃ i e, i ∈ (List.range n).filter (fun i => !(seen.contains i)) ∧ es[i]? = some e ∧ Does E m h (do pure (Next.value (← Instr.next (a.eval x) false ty))) w (.tuple #[.bool true, e.1, e.2]) (h.set b (.iter mb (seen ++ [i]) n)) := by
 obtain ⟨A, δ, hm, hxe⟩ := (ev_sim ht hx hev).ptr_inv
 obtain ⟨rfl, M, hmm, hit⟩ := r.iter_at hb hm
 obtain ⟨_, ⟨rs, clock, hw, l1, l2, hc, hst⟩, _⟩ := r.map_at hmb hmm
 have hrl : rs.toList.length = es.length := by have := l1.1; simp at this ⊢; omega
 have hclock : clock = n := by rw [hc, ← hn, ← hrl]; simp
 have hborn : ∀ e ∈ rs.toList, e.born < n := by
  intro e he
  obtain ⟨j, hj⟩ := List.getElem?_of_mem he
  rw [hst j e hj, ← hn, ← hrl]
  exact (List.getElem?_eq_some_iff.1 hj).1
 have hchk : (!seen.toArray.isEmpty && !rs.isEmpty && rs.all (fun e => decide (e.born ≥ n))) = false := by
  cases hq : (!seen.toArray.isEmpty && !rs.isEmpty && rs.all (fun e => decide (e.born ≥ n))) with
  | false => rfl
  | true =>
   exfalso
   simp only [Bool.and_eq_true] at hq
   obtain ⟨⟨_, h2⟩, h3⟩ := hq
   cases hrs : rs.toList with
   | nil =>
    have : rs.isEmpty = true := by simpa using hrs
    rw [this] at h2; cases h2
   | cons e rest =>
    have h4 := Array.all_eq_true_iff_forall_mem.1 h3 e (by rw [← Array.mem_toList_iff, hrs]; simp)
    have h5 := hborn e (by rw [hrs]; simp)
    simp at h4
    omega
 obtain ⟨left, hleft⟩ : ∃ left, left = rs.filter (fun e => !seen.toArray.contains e.born) := ⟨_, rfl⟩
 have hmem : ∀ e, e ∈ left → ∃ i, rs.toList[i]? = some e ∧ i ∈ (List.range n).filter (fun i => !(seen.contains i)) := by
  intro e he
  rw [hleft, Array.mem_filter] at he
  obtain ⟨j, hj⟩ := List.getElem?_of_mem (Array.mem_toList_iff.2 he.1)
  have h1 := hst j e hj
  refine ⟨j, hj, List.mem_filter.2 ⟨List.mem_range.2 ?_, ?_⟩⟩
  ·rw [← hn, ← hrl]; exact (List.getElem?_eq_some_iff.1 hj).1
  ·have := he.2; rw [h1] at this; simpa using this
 have hold : left.filter (fun e => decide (e.born < n)) = left := by
  apply Array.ext'
  rw [Array.toList_filter]
  refine List.filter_eq_self.2 (fun e he => ?_)
  obtain ⟨j, hj, _⟩ := hmem e (Array.mem_toList_iff.1 he)
  exact decide_eq_true (hborn e (List.mem_of_getElem? hj))
 have hnew : left.filter (fun e => decide (e.born ≥ n)) = #[] := by
  apply Array.ext'
  rw [Array.toList_filter]
  refine List.filter_eq_nil_iff.2 (fun e he => ?_)
  obtain ⟨j, hj, _⟩ := hmem e (Array.mem_toList_iff.1 he)
  have := hborn e (List.mem_of_getElem? hj)
  simp; omega
 have hempty : left.isEmpty = true → (List.range n).filter (fun i => !(seen.contains i)) = [] := by
  intro he
  refine List.filter_eq_nil_iff.2 (fun i hi hh => ?_)
  have hin : i < n := List.mem_range.1 hi
  have hri : rs.toList[i]? = some (rs.toList[i]'(by omega)) := List.getElem?_eq_getElem (by omega)
  have : (rs.toList[i]'(by omega)) ∈ left := by
   rw [hleft, Array.mem_filter]
   refine ⟨Array.mem_toList_iff.1 (List.getElem_mem _), ?_⟩
   rw [hst i _ hri]; simpa using hh
  have h0 : left = #[] := by simpa using he
  rw [h0] at this
  simp at this
 obtain ⟨cand, hcand⟩ : ∃ cand : Array (Option MapEntry), cand = (if left.isEmpty then #[none] else #[]) ++ left.map some := ⟨_, rfl⟩
 have hc1 : 1 ≤ cand.size := by
  rw [hcand]
  by_cases he : left.isEmpty = true
  ·rw [if_pos he]; simp
  ·rw [if_neg he]
   have : left.size ≠ 0 := by simpa using he
   simp; omega
 obtain ⟨c, dn, hcl, hch⟩ := run_choose_next (P := E.P) cand.size hc1 w
 have hrun : ∀ (K : Option MapEntry → Sem Value) , True := fun _ => trivial
 have hcx : cand[c]? = some (cand[c]'hcl) := by simp
 by_cases he : left.isEmpty = true
 ·left
  refine ⟨hempty he, ?_⟩
  have h0 : left = #[] := by simpa using he
  have hcn : cand[c]'hcl = none := by
   have : cand = #[none] := by rw [hcand, if_pos he, h0]; simp
   subst this
   have : c = 0 := by simpa using hcl
   subst this
   rfl
  refine ⟨.tuple #[.bool false], { w with drawn := dn }, m, .inl (run_v ?_), VR.tuple' ((LR.nil m).cons (.bool _)), m.le_refl, r.drew dn, Ghost.refl _ _⟩
  rw [hxe]
  simp only [Instr.next, Nat.zero_add, Sem.run_bind, run_getObj_iter hit, Result.andThen_ok, MapKept.run_getObj_map hw, hclock, hchk, Bool.false_eq_true, if_false, ← hleft, hold, hnew, Array.append_empty, ← hcand, hch, hcx, hcn]
  rfl
 ·right
  have hx' : ∃ e, cand[c]'hcl = some e ∧ e ∈ left := by
   have h1 : cand = left.map some := by rw [hcand, if_neg he]; simp
   have h2 : ∀ z, z ∈ cand → ∃ e, e ∈ left ∧ some e = z := fun z hz => by rw [h1, Array.mem_map] at hz; exact hz
   obtain ⟨e, h3, h4⟩ := h2 _ (Array.getElem_mem hcl)
   exact ⟨e, h4.symm, h3⟩
  obtain ⟨e, hce, hel⟩ := hx'
  obtain ⟨i, hri, hif⟩ := hmem e hel
  have hil : i < es.length := by rw [← hrl]; exact (List.getElem?_eq_some_iff.1 hri).1
  have hei : es[i]? = some es[i] := List.getElem?_eq_getElem hil
  have hbi := hst i e hri
  refine ⟨i, es[i], hif, hei, ?_⟩
  have v1 : VR m es[i].1 e.key := by
   obtain ⟨y, hy, hv⟩ := l1.get (i := i) (x := es[i].1) (by rw [List.getElem?_map, hei]; rfl)
   rw [List.getElem?_map, hri] at hy
   cases hy
   exact hv
  have v2 : VR m es[i].2 e.val := by
   obtain ⟨y, hy, hv⟩ := l2.get (i := i) (x := es[i].2) (by rw [List.getElem?_map, hei]; rfl)
   rw [List.getElem?_map, hri] at hy
   cases hy
   exact hv
  have hitd : ({ w with drawn := dn } : World).heap[A]? = some (.mapIter (some M) n seen.toArray n) := hit
  refine ⟨.tuple #[.bool true, e.key, e.val], ({ w with drawn := dn } : World).putObj A (.mapIter (some M) n (seen ++ [i]).toArray n), m, .inl (run_v ?_), VR.tuple' ((((LR.nil m).cons v2).cons v1).cons (.bool _)), m.le_refl, ?_, ?_⟩
  ·rw [hxe]
   simp only [Instr.next, Nat.zero_add, Sem.run_bind, run_getObj_iter hit, Result.andThen_ok, MapKept.run_getObj_map hw, hclock, hchk, Bool.false_eq_true, if_false, ← hleft, hold, hnew, Array.append_empty, ← hcand, hch, hcx, hce, run_setObj_iter _ hitd, hbi]
   have : seen.toArray.push i = (seen ++ [i]).toArray := by simp
   rw [this]
   rfl
  ·refine (r.drew dn).replace hb hm rfl (fun _ _ _ _ _ e => by cases e) (fun _ _ _ _ _ e => by cases e) hitd (fun _ _ _ e => by cases e) ⟨rfl, M, hmm, ?_⟩
   exact World.putObj_heap_same (Array.getElem?_eq_some_iff.1 hit).1
  ·intro c' o hc' hn'
   refine ⟨?_, hn'⟩
   rw [List.getElem?_set_ne (by rintro rfl; rw [hm] at hn'; cases hn')]
   exact hc'
end
end
end Go.Proofs.YtdmfhdnpakgkpaaDoor.Sh
namespace Go.Proofs.YtdmfhdnpakgkpaaDoor.Sh
section
open Go Go.RowKit
def bindL {α β : Type} (x : Option (List α)) (f : α → Option (List β)) : Option (List β) :=
 match x with
 | none => none
 | some l => match mapO f l with
  | some r => some r.flatten
  | none => none
theorem bindL_some {α β : Type} {x : Option (List α)} {f : α → Option (List β)} {L : List β} (h : bindL x f = some L) : ∃ l, x = some l ∧ ∀ a ∈ l, ∃ r, f a = some r ∧ ∀ b ∈ r, b ∈ L := by
 unfold bindL at h
 split at h
 ·cases h
 ·rename_i l
  split at h
  ·rename_i r hr
   cases h
   refine ⟨l, rfl, fun a ha => ?_⟩
   have : ∀ (l : List α) (r : List (List β)), mapO f l = some r → ∀ a ∈ l, ∃ x, f a = some x ∧ x ∈ r := by
    intro l
    induction l with
    | nil => intro r _ a ha; cases ha
    | cons y l ih =>
     intro r hr a ha
     unfold mapO at hr
     split at hr
     ·rename_i z zs h1 h2
      cases hr
      rcases List.mem_cons.1 ha with rfl | ha
      ·exact ⟨z, h1, by simp⟩
      ·obtain ⟨x, h3, h4⟩ := ih zs h2 a ha
       exact ⟨x, h3, by simp [h4]⟩
     ·cases hr
   obtain ⟨x, h1, h2⟩ := this l r hr a ha
   exact ⟨x, h1, fun b hb => List.mem_flatten.2 ⟨x, h2, hb⟩⟩
  ·cases h
def opsL (R : Rec) (cx : Cx) : List SOper → St → Option (List St)
 | [], s => some [s]
 | o :: r, s =>
  if wantedS s.t o.gd then bindL (opL R cx o.op s.t s.h s.d) fun x => opsL R cx r ⟨sput s.t o.dst x.1, s.ms, x.2.1, x.2.2⟩
  else opsL R cx r ⟨sput s.t o.dst udf, s.ms, s.h, s.d⟩
def hasIter : SCode → Bool
 | .region _ ops => ops.any fun o => isIter o.op
 | .seq a b | .cond _ a b => hasIter a || hasIter b
 | .block _ c | .loop c => hasIter c
 | _ => false
def loopL (f : St → Option (List (Ex × St))) : Nat → St → Option (List (Ex × St))
 | 0, _ => none
 | k + 1, s => bindL (f s) fun x => match x.1 with
  | .normal => loopL f k x.2
  | _ => some [x]
def oneL (x : Option (Ex × St)) : Option (List (Ex × St)) := match x with
 | some r => some [r]
 | none => none
def LOOPS : Nat := 64
def execL (R : Rec) (cx : Cx) : SCode → St → Option (List (Ex × St))
 | .region n ops, s => if ops.any (fun o => isIter o.op) then
   (if Nat.beq n 0 then (match opsL R cx ops s with
    | some l => some (l.map fun s' => (Ex.normal, s'))
    | none => none) else none)
  else oneL (exec R cx (.region n ops) s)
 | .seq a b, s => bindL (execL R cx a s) fun x => match x.1 with
  | .normal => execL R cx b x.2
  | _ => some [x]
 | .cond c a b, s => match ev s.t c with
  | some (.bool c) => if c then execL R cx a s else execL R cx b s
  | _ => none
 | .block id c, s => bindL (execL R cx c s) fun x => match x.1 with
  | .exit j => some [(if j == id then .normal else .exit j, x.2)]
  | _ => some [x]
 | .loop c, s => if hasIter c then loopL (execL R cx c) LOOPS s else oneL (exec R cx (.loop c) s)
 | c, s => oneL (exec R cx c s)
section
variable {P : Program} {nt : Nat} {m : Mp} {a : Act} {B : Nat} {w0 : World}
theorem comp_iter {op : Op} {so : SOp} (hc : compOp P op = some so) (hi : isIter so = true) :
  (∃ t x kt e, op = .range t x ∧ so = .range x ∧ okO x = true ∧ P.underlying t = some (.map kt e)) ∨ (∃ x, op = .next x false ∧ so = .next x ∧ okO x = true) ∨ ∃ x, op = .entry x ∧ so = .entry x ∧ okO x = true := by
 unfold compOp at hc
 split at hc
 case h_13 =>
  split at hc
  ·rename_i kt e hu
   obtain ⟨h1, rfl⟩ := ifO' hc
   exact .inl ⟨_, _, kt, e, rfl, rfl, h1, hu⟩
  ·cases hc
 case h_14 =>
  obtain ⟨h1, rfl⟩ := ifO' hc
  exact .inr (.inl ⟨_, rfl, rfl, h1⟩)
 case h_15 =>
  obtain ⟨h1, rfl⟩ := ifO' hc
  exact .inr (.inr ⟨_, rfl, rfl, h1⟩)
 all_goals
  exfalso
  (try unfold compCall at hc)
  (try unfold ifO at hc)
  (repeat' split at hc)
  all_goals first
   | (cases hc; done)
   | (cases hc; cases hi; done)
   | (obtain ⟨_, _, rfl⟩ := map_some' hc; cases hi; done)
theorem iter_sim {E : Env} {t : T} {h : SHeap} {d : List Nat} {w : World} (r : Rel E m h w) (ht : TR nt m t a.tmps) {o : Oper} {so : SOp} (hc : compOp E.P o.op = some so) (hi : isIter so = true) {R : Rec} {cx : Cx} {L : List (Value × SHeap × List Nat)} (hs : opL R cx so t h d = some L) :
  ∃ x ∈ L, Does E m h (execOp a.eval o) w x.1 x.2.1 := by
 obtain ⟨dst, op, type, pos, after, guard⟩ := o
 simp only at hc
 rcases comp_iter hc hi with ⟨ty, x, kt, e, rfl, rfl, hx, hu⟩ | ⟨x, rfl, rfl, hx⟩ | ⟨x, rfl, rfl, hx⟩
 ·simp only [opL] at hs
  split at hs
  ·rename_i b hev
   split at hs
   ·rename_i pf es hb
    cases hs
    exact ⟨(Value.pointer (some ⟨h.length, 0, none⟩), h ++ [SO.iter b [] es.length], d), by simp, sim_range r ht hu hx hev hb⟩
   ·cases hs
  ·cases hs
 ·simp only [opL] at hs
  split at hs
  ·rename_i b hev
   split at hs
   ·rename_i mb seen n hb
    split at hs
    ·rename_i pf es hmb
     split at hs
     ·rename_i hn
      rcases sim_next (ty := type) r ht hx hev hb hmb (Nat.eq_of_beq_eq_true hn) with ⟨h1, h2⟩ | ⟨i, e, h1, h2, h3⟩
      ·rw [h1] at hs
       cases hs
       exact ⟨(.tuple #[.bool false], h, d), by simp, h2⟩
      ·split at hs
       ·rename_i h0; rw [h0] at h1; cases h1
       ·rename_i l hne
        have : ∀ (l : List Nat) (L : List (Value × SHeap × List Nat)), mapO (fun i => match es[i]? with
          | some e => some ((.tuple #[.bool true, e.1, e.2] : Value), h.set b (.iter mb (seen ++ [i]) n), d)
          | none => none) l = some L → i ∈ l → ((.tuple #[.bool true, e.1, e.2] : Value), h.set b (.iter mb (seen ++ [i]) n), d) ∈ L := by
         intro l
         induction l with
         | nil => intro L _ hm; cases hm
         | cons y l ih =>
          intro L hL hm
          unfold mapO at hL
          split at hL
          ·rename_i z zs q1 q2
           cases hL
           rcases List.mem_cons.1 hm with rfl | hm
           ·rw [h2] at q1
            cases q1
            simp
           ·exact List.mem_cons_of_mem _ (ih zs q2 hm)
          ·cases hL
        exact ⟨(Value.tuple #[.bool true, e.1, e.2], h.set b (SO.iter mb (seen ++ [i]) n), d), this _ _ hs h1, h3⟩
     ·cases hs
    ·cases hs
   ·cases hs
  ·cases hs
 ·simp only [opL] at hs
  split at hs
  ·rename_i b hev
   split at hs
   ·rename_i mb seen n hb
    split at hs
    ·rename_i pf es i hmb hl
     split at hs
     ·rename_i hn
      split at hs
      ·rename_i e he
       cases hs
       exact ⟨(.tuple #[e.1, e.2], h, d), by simp, sim_entry r ht hx hev hb hmb (Nat.eq_of_beq_eq_true hn) hl he⟩
      ·cases hs
     ·cases hs
    ·cases hs
   ·cases hs
  ·cases hs
theorem oper_L {R : Rec} (hR : CallOK P R) (hRr : RoundOK P R) {t : T} {h : SHeap} {d : List Nat} {w : World} (r : Rel ⟨P, B, w0⟩ m h w) (ht : TR nt m t a.tmps) {cx : Cx} {F : Fence} (hF : FR m cx F)
    {o : Oper} {so : SOp} (hc : compOp P o.op = some so) {L : List (Value × SHeap × List Nat)} (hs : opL R cx so t h d = some L) {n : Nat} {Q : Exit → Act → World → Prop} {K : Act → World → Prop}
    (hK : ∀ x ∈ L, ∀ v' w' m', VR m' x.1 v' → m.le m' → Rel ⟨P, B, w0⟩ m' x.2.1 w' → Ghost m h m' x.2.1 → K (a.put o.dst v') w') : o.wpIn F n P a w K Q := by
  by_cases hi : isIter so = true
  · obtain ⟨x, hx, v', w', m', hrun, q1, q2, q3, q4⟩ := iter_sim (E := ⟨P, B, w0⟩) r ht hc hi hs
    refine ⟨fun f _ => hF.fn f, ?_⟩
    rw [Oper.semAt_eq _ _ _ (comp_nodefer hc)]
    rcases hrun with hrun | ⟨hrun, rfl⟩
    · have hrun : (execOp a.eval o).run P w = _ := hrun
      rw [hrun]; exact hK x hx v' w' m' q1 q2 q3 q4
    · have hrun : (execOp a.eval o).run P w = _ := hrun
      rw [hrun]; exact hK x hx _ w' m' q1 q2 q3 q4
  · have : ∃ v h' d', opRun R cx none so t h d = some (v, h', d') ∧ L = [(v, h', d')] := by
      cases so <;> first
        | (exact absurd rfl hi)
        | (simp only [opL] at hs
           split at hs
           · rename_i r0 hr0; cases hs; exact ⟨_, _, _, hr0, rfl⟩
           · cases hs)
    obtain ⟨v, h', d', h1, rfl⟩ := this
    exact oper_none hR hRr r ht hF hc h1 (fun v' w' m' => hK (v, h', d') (by simp) v' w' m')
theorem ops_L {R : Rec} (hR : CallOK P R) (hRr : RoundOK P R) {cx : Cx} {F : Fence} {ops : Array Oper} {n : Nat} {Q : Exit → Act → World → Prop} : ∀ (l : List Nat) (so : List SOper) (s : St) (L : List St) (m : Mp) (a : Act) (w : World),
  mapO (compOper P ops) l = some so → (so.all fun o => match o.dst with | some d => Nat.blt d nt | none => true) = true → opsL R cx so s = some L → SR P B w0 nt m s a w → FR m cx F →
  (∀ s' ∈ L, ∀ a' w' m', m.le m' → Ghost m s.h m' s'.h → SR P B w0 nt m' s' a' w' → Q .normal a' w') → wpOpsIn F n P ops Q l a w
 | [], so, s, L, m, a, w, hc, hb, hs, hr, hF, hQ => by
  cases hc; cases hs
  exact hQ s (by simp) a w m m.le_refl (Ghost.refl _ _) hr
 | i :: l, so, s, L, m, a, w, hc, hb, hs, hr, hF, hQ => by
  unfold mapO at hc
  split at hc
  case h_2 => cases hc
  rename_i o so' h1 h2
  cases hc
  obtain ⟨q1, q2, q3, q4, op, q5, q6, q7, q8⟩ := compOper_some h1
  simp only [List.all_cons, Bool.and_eq_true] at hb
  have hd : ∀ d, op.dst = some d → d < nt := by
   intro d hd
   have := hb.1
   rw [q7, hd] at this
   simpa using this
  simp only [opsL] at hs
  rw [wpOpsIn_cons]
  by_cases hw : wantedS s.t o.gd = true
  ·rw [if_pos hw] at hs
   obtain ⟨l0, hl0, hall⟩ := bindL_some hs
   refine oper_do hr.tr q5 q8 hw (oper_L hR hRr hr.rel hr.tr hF q6 hl0 ?_)
   intro x hx v' w' m' k1 k2 k3 k4
   obtain ⟨L', hL', hsub⟩ := hall x hx
   refine ops_L hR hRr l so' _ L' m' _ w' h2 hb.2 hL' ⟨?_, ?_, k3⟩ (hF.mono k2) ?_
   ·rw [q7]; exact (hr.tr.mono k2).put hd k1
   ·rw [put_tmps]; exact hr.ds.mono k2
   ·intro s' hs' a' w'' m'' e1 e2 e3
    exact hQ s' (hsub s' hs') a' w'' m'' (Mp.le_trans k2 e1) (k4.trans e2) e3
  ·rw [if_neg hw] at hs
   refine oper_skip hr.tr hF q5 q8 (by simpa using hw) ?_
   refine ops_L hR hRr l so' _ L m _ w h2 hb.2 hs ⟨?_, ?_, hr.rel⟩ hF hQ
   ·rw [q7]; exact hr.tr.put hd (VR.udf m)
   ·rw [put_tmps]; exact hr.ds
end
end
end Go.Proofs.YtdmfhdnpakgkpaaDoor.Sh
namespace Go.Proofs.YtdmfhdnpakgkpaaDoor.Sh
section
open Go Go.RowKit
theorem preOf_op : ∀ (l : List SOper) (n : Nat) (o : SOper), o ∈ preOf l n → ∃ o0 ∈ l, o.op = o0.op
 | [], _, o, h => by cases h
 | x :: r, n, o, h => by
  simp only [preOf] at h
  split at h
  ·rcases List.mem_cons.1 h with rfl | h
   ·exact ⟨x, by simp, rfl⟩
   ·obtain ⟨o0, h1, h2⟩ := preOf_op r _ o h
    exact ⟨o0, by simp [h1], h2⟩
  ·rcases List.mem_cons.1 h with rfl | h
   ·exact ⟨_, by simp, rfl⟩
   ·obtain ⟨o0, h1, h2⟩ := preOf_op r _ o h
    exact ⟨o0, by simp [h1], h2⟩
theorem annot_op {ops : Array Oper} {so : List SOper} : ∀ (l : List Nat) (done : List SOper) (acc : List (Nat × List Nat)) (al : List SOper), annot ops so done acc l = some al → ∀ o ∈ al, ∃ o0 ∈ so, o.op = o0.op
 | [], _, _, al, h, o, ho => by cases h; cases ho
 | i :: r, done, acc, al, h, o, ho => by
  simp only [annot] at h
  split at h
  ·rename_i x op h1 h2
   obtain ⟨al', h3, rfl⟩ := map_some' h
   rcases List.mem_cons.1 ho with rfl | ho
   ·exact ⟨x, List.mem_of_getElem? h1, rfl⟩
   ·exact annot_op r _ _ _ h3 o ho
  ·cases h
section
variable {P : Program} {B : Nat} {w0 : World} {R : Rec}
theorem oneL_some {x : Option (Ex × St)} {L : List (Ex × St)} (h : oneL x = some L) : ∃ ex s', x = some (ex, s') ∧ L = [(ex, s')] := by
 unfold oneL at h
 split at h
 ·rename_i r; cases h; exact ⟨r.1, r.2, rfl, rfl⟩
 ·cases h
theorem execL_ok (hmix : P.follows .mixedOrders = true) (hR : CallOK P R) (hRr : RoundOK P R) {k : Nat} (hRl : LoopOK P R k) : ∀ (code : Code) (nt : Nat) (cx : Cx) (c : SCode) (s : St) (L : List (Ex × St)) (m : Mp) (a : Act) (w : World) (F : Fence) (q : Nat) (Q : Exit → Act → World → Prop),
  compCode P code = some c → bounded nt c = true → execL R cx c s = some L → SR P B w0 nt m s a w → FR m cx F → (∀ ex s' e a' w', (ex, s') ∈ L → XP P B w0 nt m s.h ex s' e a' w' → Q e a' w') → code.wpIn F q P Q a w := by
 intro code
 have plain : ∀ (nt : Nat) (cx : Cx) (c : SCode) (s : St) (L : List (Ex × St)) (m : Mp) (a : Act) (w : World) (F : Fence) (q : Nat) (Q : Exit → Act → World → Prop),
  ∀ code, compCode P code = some c → bounded nt c = true → oneL (exec R cx c s) = some L → SR P B w0 nt m s a w → FR m cx F → (∀ ex s' e a' w', (ex, s') ∈ L → XP P B w0 nt m s.h ex s' e a' w' → Q e a' w') → code.wpIn F q P Q a w := by
  intro nt cx c s L m a w F q Q code hc hb hs hsr hF hQ
  obtain ⟨ex, s', hex, rfl⟩ := oneL_some hs
  exact exec_ok hmix hR hRr hRl code nt cx c s s' ex m a w F q Q hc hb hex hsr hF (fun e a' w' hx => hQ ex s' e a' w' (by simp) hx)
 induction code with
 | skip =>
  intro nt cx c s L m a w F q Q hc hb hs hsr hF hQ
  have hc' := hc
  cases hc'
  exact plain nt cx _ s L m a w F q Q _ hc hb hs hsr hF hQ
 | label l =>
  intro nt cx c s L m a w F q Q hc hb hs hsr hF hQ
  have hc' := hc
  cases hc'
  exact plain nt cx _ s L m a w F q Q _ hc hb hs hsr hF hQ
 | exit id =>
  intro nt cx c s L m a w F q Q hc hb hs hsr hF hQ
  have hc' := hc
  cases hc'
  exact plain nt cx _ s L m a w F q Q _ hc hb hs hsr hF hQ
 | ret =>
  intro nt cx c s L m a w F q Q hc hb hs hsr hF hQ
  have hc' := hc
  cases hc'
  exact plain nt cx _ s L m a w F q Q _ hc hb hs hsr hF hQ
 | goto l =>
  intro nt cx c s L m a w F q Q hc hb hs hsr hF hQ
  cases hc
 | refuse l =>
  intro nt cx c s L m a w F q Q hc hb hs hsr hF hQ
  cases hc
 | region id ops draw =>
  intro nt cx c s L m a w F q Q hc hb hs hsr hF hQ
  have hc' : compRegion P ops draw = some c := hc
  obtain ⟨n, al, rfl⟩ : ∃ n al, c = .region n al := by
   unfold compRegion at hc'
   (repeat' split at hc') <;> first | (cases hc'; done) | (cases hc'; exact ⟨_, _, rfl⟩)
  by_cases hi : al.any (fun o => isIter o.op) = true
  ·simp only [execL, hi, if_true] at hs
   split at hs
   case isFalse => cases hs
   split at hs
   case h_2 => cases hs
   rename_i l hl
   cases hs
   unfold compRegion at hc'
   split at hc'
   ·cases hc'
   rename_i so hso
   cases draw with
   | false =>
    simp only [Bool.false_eq_true, if_false, Option.some.injEq, SCode.region.injEq] at hc'
    obtain ⟨rfl, rfl⟩ := hc'
    simp only [bounded] at hb
    refine wpIn_region (ops_L hR hRr _ so s l m a w hso hb hl hsr hF ?_)
    intro s' hs' a' w' m' h1 h2 h3
    exact hQ .normal s' _ _ _ (List.mem_map.2 ⟨s', hs', rfl⟩) ⟨rfl, m', h1, h2, h3⟩
   | true =>
    exfalso
    simp only [if_true] at hc'
    split at hc'
    case isTrue => cases hc'
    rename_i hni
    split at hc'
    case h_2 => cases hc'
    split at hc'
    case h_2 => cases hc'
    rename_i al2 han
    split at hc'
    case isFalse => cases hc'
    cases hc'
    obtain ⟨o, ho, hio⟩ := List.any_eq_true.1 hi
    obtain ⟨o1, h1, h2⟩ := annot_op _ _ _ _ han o ho
    obtain ⟨o2, h3, h4⟩ := preOf_op _ _ _ h1
    exact hni (List.any_eq_true.2 ⟨o2, h3, by rw [← h4, ← h2]; exact hio⟩)
  ·have : execL R cx (.region n al) s = oneL (exec R cx (.region n al) s) := by
    simp only [execL]; rw [if_neg hi]
   rw [this] at hs
   exact plain nt cx _ s L m a w F q Q _ hc hb hs hsr hF hQ
 | scope c0 ih =>
  intro nt cx c s L m a w F q Q hc hb hs hsr hF hQ
  refine wpIn_scope' (ih nt cx c s L m a w F q _ hc hb hs hsr hF ?_)
  intro ex s' e a' w' hm hx
  have h1 := hQ ex s' e a' w' hm hx
  obtain ⟨rfl, _⟩ := hx
  cases ex <;> exact h1
 | seq x y ihx ihy =>
  intro nt cx c s L m a w F q Q hc hb hs hsr hF hQ
  simp only [compCode] at hc
  split at hc
  case h_2 => cases hc
  rename_i cx' cy hcx hcy
  cases hc
  simp only [bounded, Bool.and_eq_true] at hb
  simp only [execL] at hs
  obtain ⟨l1, hl1, hall⟩ := bindL_some hs
  refine wpIn_seq (ihx nt cx cx' s l1 m a w F q _ hcx hb.1 hl1 hsr hF ?_)
  intro ex1 s1 e a1 w1 hm hx
  obtain ⟨r, hr, hsub⟩ := hall (ex1, s1) hm
  cases ex1 with
  | normal =>
   obtain ⟨rfl, m1, h1, h2, h3⟩ := hx
   exact ihy nt cx cy s1 r m1 a1 w1 F q Q hcy hb.2 hr h3 (hF.mono h1) (fun ex s' e a' w' hm' hx => hQ ex s' e a' w' (hsub _ hm') (XP.trans h1 h2 hx))
  | exit id =>
   cases hr
   have := hQ _ _ e a1 w1 (hsub _ (by simp)) hx
   obtain ⟨rfl, _⟩ := hx
   exact this
  | ret =>
   cases hr
   have := hQ _ _ e a1 w1 (hsub _ (by simp)) hx
   obtain ⟨rfl, _⟩ := hx
   exact this
 | cond c0 x y ihx ihy =>
  intro nt cx c s L m a w F q Q hc hb hs hsr hF hQ
  simp only [compCode] at hc
  split at hc
  case h_2 => cases hc
  rename_i cx' cy hcx hcy
  split at hc
  case isFalse => cases hc
  rename_i hok
  cases hc
  simp only [bounded, Bool.and_eq_true] at hb
  simp only [execL] at hs
  split at hs
  case h_2 => cases hs
  rename_i b hev
  have hv := (ev_sim hsr.tr hok hev).bool_inv
  cases b with
  | true =>
   simp only [if_true] at hs
   exact wpIn_cond_true hv (ihx nt cx cx' s L m a w F q Q hcx hb.1 hs hsr hF hQ)
  | false =>
   simp only [Bool.false_eq_true, if_false] at hs
   exact wpIn_cond_false hv (ihy nt cx cy s L m a w F q Q hcy hb.2 hs hsr hF hQ)
 | block id c0 ih =>
  intro nt cx c s L m a w F q Q hc hb hs hsr hF hQ
  obtain ⟨c1, hc1, rfl⟩ := map_some' hc
  simp only [bounded] at hb
  simp only [execL] at hs
  obtain ⟨l1, hl1, hall⟩ := bindL_some hs
  refine wpIn_block (ih nt cx c1 s l1 m a w F q _ hc1 hb hl1 hsr hF ?_)
  intro ex1 s1 e a1 w1 hm hx
  obtain ⟨r, hr, hsub⟩ := hall (ex1, s1) hm
  cases ex1 with
  | normal =>
   cases hr
   have := hQ _ _ e a1 w1 (hsub _ (by simp)) hx
   obtain ⟨rfl, _⟩ := hx
   exact this
  | ret =>
   cases hr
   have := hQ _ _ e a1 w1 (hsub _ (by simp)) hx
   obtain ⟨rfl, _⟩ := hx
   exact this
  | exit j =>
   simp only [Option.some.injEq] at hr
   subst hr
   obtain ⟨rfl, hx⟩ := hx
   simp only [exR, Exit.inBlock]
   by_cases e : j = id
   ·subst e
    rw [if_pos rfl]
    exact hQ .normal s1 _ _ _ (hsub _ (by simp)) ⟨rfl, hx⟩
   ·rw [if_neg e]
    exact hQ (.exit j) s1 _ _ _ (hsub _ (by simp [e])) ⟨rfl, hx⟩
 | loop c0 ih =>
  intro nt cx c s L m a w F q Q hc hb hs hsr hF hQ
  have hc0 := hc
  obtain ⟨c1, hc1, rfl⟩ := map_some' hc
  have hb0 := hb
  simp only [bounded] at hb
  by_cases hi : hasIter c1 = true
  ·simp only [execL, hi, if_true] at hs
   have rounds : ∀ (j : Nat) (s : St) (L : List (Ex × St)) (m : Mp) (a : Act) (w : World) (Q : Exit → Act → World → Prop), loopL (execL R cx c1) j s = some L → SR P B w0 nt m s a w → FR m cx F →
     (∀ ex s' e a' w', (ex, s') ∈ L → XP P B w0 nt m s.h ex s' e a' w' → Q e a' w') → Code.roundsIn F q P c0 Q j a w := by
    intro j
    induction j with
    | zero => intro s L m a w Q hs; cases hs
    | succ j ihj =>
     intro s L m a w Q hs hsr hF hQ
     rw [roundsIn_succ]
     simp only [loopL] at hs
     obtain ⟨l1, hl1, hall⟩ := bindL_some hs
     refine ih nt cx c1 s l1 m a w F q _ hc1 hb hl1 hsr hF ?_
     intro ex1 s1 e a1 w1 hm hx
     obtain ⟨r, hr, hsub⟩ := hall (ex1, s1) hm
     cases ex1 with
     | normal =>
      obtain ⟨rfl, m1, h1, h2, h3⟩ := hx
      exact ihj s1 r m1 a1 w1 Q hr h3 (hF.mono h1) (fun ex s' e a' w' hm' hx => hQ ex s' e a' w' (hsub _ hm') (XP.trans h1 h2 hx))
     | exit id =>
      cases hr
      have := hQ _ _ e a1 w1 (hsub _ (by simp)) hx
      obtain ⟨rfl, _⟩ := hx
      exact this
     | ret =>
      cases hr
      have := hQ _ _ e a1 w1 (hsub _ (by simp)) hx
      obtain ⟨rfl, _⟩ := hx
      exact this
   exact wpIn_loop_rounds LOOPS (rounds LOOPS s L m a w Q hs hsr hF hQ)
  ·have : execL R cx (.loop c1) s = oneL (exec R cx (.loop c1) s) := by
    simp only [execL]; rw [if_neg hi]
   rw [this] at hs
   exact plain nt cx _ s L m a w F q Q _ hc0 hb0 hs hsr hF hQ
 | rangeFunc g ps x y ihx ihy =>
  intro nt cx c s L m a w F q Q hc hb hs hsr hF hQ
  have hc0 := hc
  simp only [compCode] at hc
  split at hc
  case h_2 => cases hc
  split at hc
  case isFalse => cases hc
  cases hc
  exact plain nt cx _ s L m a w F q Q _ hc0 hb hs hsr hF hQ
end
end
end Go.Proofs.YtdmfhdnpakgkpaaDoor.Sh
namespace Go.Proofs.YtdmfhdnpakgkpaaDoor.Sh
section
open Go Go.RowKit
section
variable {R : Rec}
theorem opL_keep (hC : CallKeep R) (hRo : RoundKeep R) {cx : Cx} {o : SOp} {t : T} {h : SHeap} {d : List Nat} {L : List (Value × SHeap × List Nat)} (hb : cx.base ≤ h.length) (hs : opL R cx o t h d = some L) : ∀ x ∈ L, KeepD cx.base h d x.2.1 x.2.2 := by
  by_cases hi : isIter o = true
  · cases o <;> first | (cases hi; done) | skip
    ·
      simp only [opL] at hs
      split at hs
      · split at hs
        · cases hs
          intro x hx
          simp only [List.mem_singleton] at hx
          subst hx
          exact ⟨fun _ h => h, Keep.push _ _ _ _⟩
        · cases hs
      · cases hs
    ·
      simp only [opL] at hs
      split at hs
      · rename_i b _
        split at hs
        · rename_i mb seen n hbb
          split at hs
          · split at hs
            · split at hs
              · cases hs
                intro x hx
                simp only [List.mem_singleton] at hx
                subst hx
                exact KeepD.refl _ _ _
              · intro x hx
                have : ∀ (es : List (Value × Value)) (l : List Nat) (L : List (Value × SHeap × List Nat)), mapO (fun i => match es[i]? with
                    | some e => some ((.tuple #[.bool true, e.1, e.2] : Value), h.set b (.iter mb (seen ++ [i]) n), d)
                    | none => none) l = some L → ∀ x ∈ L, ∃ i, x.2.1 = h.set b (.iter mb (seen ++ [i]) n) ∧ x.2.2 = d := by
                  intro es l
                  induction l with
                  | nil => intro L hL x hx; cases hL; cases hx
                  | cons y l ih =>
                    intro L hL x hx
                    unfold mapO at hL
                    split at hL
                    · rename_i z zs q1 q2
                      cases hL
                      rcases List.mem_cons.1 hx with rfl | hx
                      · split at q1
                        · cases q1; exact ⟨y, rfl, rfl⟩
                        · cases q1
                      · exact ih zs q2 x hx
                    · cases hL
                obtain ⟨i, e1, e2⟩ := this _ _ _ hs x hx
                rw [e1, e2]
                refine ⟨fun _ h => h, by simp, fun c ob hc hob => ?_⟩
                by_cases e : b = c
                · subst e
                  rw [hbb] at hob; cases hob
                  rw [List.getElem?_set_self (List.getElem?_eq_some_iff.1 hbb).1]
                  exact ⟨_, rfl, rfl, rfl⟩
                · rw [List.getElem?_set_ne e]
                  exact ⟨ob, hob, KO.refl _ _ _⟩
            · cases hs
          · cases hs
        · cases hs
      · cases hs
    ·
      simp only [opL] at hs
      (repeat' split at hs) <;> first
        | (cases hs; done)
        | (cases hs
           intro x hx
           simp only [List.mem_singleton] at hx
           subst hx
           exact KeepD.refl _ _ _)
  · have : ∃ r, opRun R cx none o t h d = some r ∧ L = [r] := by
      cases o <;> first
        | (exact absurd rfl hi)
        | (simp only [opL] at hs
           split at hs
           · rename_i r0 hr0; cases hs; exact ⟨_, hr0, rfl⟩
           · cases hs)
    obtain ⟨r, h1, rfl⟩ := this
    intro x hx
    simp only [List.mem_singleton] at hx
    subst hx
    exact op_keep hC hRo (fun s e => by cases e) hb (v := x.1) (h' := x.2.1) (d' := x.2.2) h1
theorem opsL_keep (hC : CallKeep R) (hRo : RoundKeep R) {cx : Cx} : ∀ (l : List SOper) (s : St) (L : List St), cx.base ≤ s.h.length → opsL R cx l s = some L → ∀ s' ∈ L, StKeep cx s s'
 | [], s, L, _, hs => by
  cases hs
  intro s' hs'
  simp only [List.mem_singleton] at hs'
  subst hs'
  exact ⟨KeepD.refl _ _ _, fun h => h⟩
 | o :: l, s, L, hb, hs => by
  intro s' hs'
  simp only [opsL] at hs
  split at hs
  ·unfold bindL at hs
   split at hs
   ·cases hs
   rename_i l0 hl0
   split at hs
   case h_2 => cases hs
   rename_i r hr
   cases hs
   obtain ⟨L', hL', hs'⟩ := List.mem_flatten.1 hs'
   obtain ⟨i, hi⟩ := List.getElem?_of_mem hL'
   obtain ⟨x, hx, hfx⟩ := mapO_get hr i L' hi
   have k1 := opL_keep hC hRo hb hl0 x (List.mem_of_getElem? hx)
   have k2 := opsL_keep hC hRo l ⟨sput s.t o.dst x.1, s.ms, x.2.1, x.2.2⟩ L' (Nat.le_trans hb k1.2.1) hfx s' hs'
   exact ⟨k1.trans k2.1, k2.2⟩
  ·exact opsL_keep hC hRo l ⟨sput s.t o.dst udf, s.ms, s.h, s.d⟩ L hb hs s' hs'
theorem bindL_mem {α β : Type} {x : Option (List α)} {f : α → Option (List β)} {L : List β} (h : bindL x f = some L) {b : β} (hb : b ∈ L) : ∃ l a r, x = some l ∧ a ∈ l ∧ f a = some r ∧ b ∈ r := by
 unfold bindL at h
 split at h
 ·cases h
 rename_i l
 split at h
 case h_2 => cases h
 rename_i r hr
 cases h
 obtain ⟨L', hL', hs'⟩ := List.mem_flatten.1 hb
 obtain ⟨i, hi⟩ := List.getElem?_of_mem hL'
 obtain ⟨x, hx, hfx⟩ := mapO_get hr i L' hi
 exact ⟨l, x, L', rfl, List.mem_of_getElem? hx, hfx, hs'⟩
theorem StKeep.trans {cx : Cx} {s s1 s2 : St} (h1 : StKeep cx s s1) (h2 : StKeep cx s1 s2) : StKeep cx s s2 := ⟨h1.1.trans h2.1, fun h => h2.2 (h1.2 h)⟩
theorem execL_keep (hC : CallKeep R) (hRo : RoundKeep R) (hL : LoopKeep R) {cx : Cx} : ∀ (c : SCode) (s : St) (L : List (Ex × St)), cx.base ≤ s.h.length → execL R cx c s = some L → ∀ x ∈ L, StKeep cx s x.2 := by
 have plain : ∀ (c : SCode) (s : St) (L : List (Ex × St)), cx.base ≤ s.h.length → oneL (exec R cx c s) = some L → ∀ x ∈ L, StKeep cx s x.2 := by
  intro c s L hb hs x hx
  obtain ⟨ex, s', hex, rfl⟩ := oneL_some hs
  simp only [List.mem_singleton] at hx
  subst hx
  exact exec_keep hC hRo hL c s s' ex hb hex
 intro c
 induction c with
 | skip => intro s L hb hs; exact plain _ s L hb hs
 | exit id => intro s L hb hs; exact plain _ s L hb hs
 | ret => intro s L hb hs; exact plain _ s L hb hs
 | rangeFunc g ps x y ihx ihy => intro s L hb hs; exact plain _ s L hb hs
 | region n ops =>
  intro s L hb hs
  simp only [execL] at hs
  split at hs
  ·split at hs
   ·split at hs
    ·rename_i l hl
     cases hs
     intro x hx
     obtain ⟨s', h1, rfl⟩ := List.mem_map.1 hx
     exact opsL_keep hC hRo ops s l hb hl s' h1
    ·cases hs
   ·cases hs
  ·exact plain _ s L hb hs
 | seq a b iha ihb =>
  intro s L hb hs x hx
  simp only [execL] at hs
  obtain ⟨l, y, r, h1, h2, h3, h4⟩ := bindL_mem hs hx
  have k1 := iha s l hb h1 y h2
  split at h3
  ·exact k1.trans (ihb y.2 r (Nat.le_trans hb k1.1.2.1) h3 x h4)
  ·cases h3
   simp only [List.mem_singleton] at h4
   subst h4
   exact k1
 | cond c0 a b iha ihb =>
  intro s L hb hs
  simp only [execL] at hs
  split at hs
  ·split at hs
   ·exact iha s L hb hs
   ·exact ihb s L hb hs
  ·cases hs
 | block id c0 ih =>
  intro s L hb hs x hx
  simp only [execL] at hs
  obtain ⟨l, y, r, h1, h2, h3, h4⟩ := bindL_mem hs hx
  have k1 := ih s l hb h1 y h2
  split at h3
  ·cases h3
   simp only [List.mem_singleton] at h4
   subst h4
   exact k1
  ·cases h3
   simp only [List.mem_singleton] at h4
   subst h4
   exact k1
 | loop c0 ih =>
  intro s L hb hs
  simp only [execL] at hs
  split at hs
  ·have rounds : ∀ (j : Nat) (s : St) (L : List (Ex × St)), cx.base ≤ s.h.length → loopL (execL R cx c0) j s = some L → ∀ x ∈ L, StKeep cx s x.2 := by
    intro j
    induction j with
    | zero => intro s L _ hs; cases hs
    | succ j ihj =>
     intro s L hb hs x hx
     simp only [loopL] at hs
     obtain ⟨l, y, r, h1, h2, h3, h4⟩ := bindL_mem hs hx
     have k1 := ih s l hb h1 y h2
     split at h3
     ·exact k1.trans (ihj y.2 r (Nat.le_trans hb k1.1.2.1) h3 x h4)
     ·cases h3
      simp only [List.mem_singleton] at h4
      subst h4
      exact k1
   exact rounds LOOPS s L hb hs
  ·exact plain _ s L hb hs
end
end
end Go.Proofs.YtdmfhdnpakgkpaaDoor.Sh
namespace Go.Proofs.YtdmfhdnpakgkpaaDoor.Sh
section
open Go Go.RowKit
section
variable {P : Program} {R : Rec}
theorem call_L (hmix : P.follows .mixedOrders = true) {FT : FuncId → Option SFunc} (hT : Tab P FT) {k : Nat} (S : Sound P R k) {f : FuncId} {args : List Value} {h : SHeap} {v : Value} {h' : SHeap} {d' : List Nat} {sf : SFunc} {L : List (Ex × St)} (hsf : FT f = some sf) (hlen : args.length < 2 ^ sf.dep)
  (hL : execL R ⟨h.length, none, f⟩ sf.body ⟨(T.blank sf.dep).fill 0 args, [], h, []⟩ = some L) (hall : ∀ x ∈ L, (x.1 = .normal ∨ x.1 = .ret) ∧ fin sf h.length x.2 = some (v, h', d')) (B : Nat) (w0 : World) (m : Mp) (w : World) (args' : List Value) (r : Rel ⟨P, B, w0⟩ m h w) (hl : LR m args args') :
  Known P f ∧ ∀ n, CallsIn Fence.wide n P f args'.toArray w (CallPost ⟨P, B, w0⟩ m h v h') := by
 obtain ⟨fn, hfn, hcomp⟩ := hT f sf hsf
 unfold compFunc at hcomp
 split at hcomp
 ·cases hcomp
 rename_i c hbody
 split at hcomp
 case h_2 => cases hcomp
 rename_i sc rs hsc hrs
 split at hcomp
 case isFalse => cases hcomp
 rename_i hcond
 simp only [Bool.and_eq_true] at hcond
 have hname : fn.name ≠ "runtime.NumGoroutine" := by simpa using hcond.2
 cases hcomp
 refine ⟨⟨fn, hfn, hname, by rw [hbody]; rfl⟩, fun n => ?_⟩
 refine callsIn_of_wp_marks (F := Fence.wide) hfn hbody trivial ?_
 have hk0 := execL_keep (cx := ⟨h.length, none, f⟩) S.ckeep S.rkeep S.lkeep sc _ L (Nat.le_refl _) hL
 refine execL_ok hmix S.call S.round S.loop c fn.ntmps ⟨h.length, none, f⟩ sc _ L m _ w Fence.wide n _ hsc hcond.1 hL ⟨TR.args (Nat.lt_log2_self) hlen hl, .nil, r⟩ (.inl ⟨rfl, rfl⟩) ?_
 intro ex s e a' w' hmem hx
 obtain ⟨hexn, hf⟩ := hall _ hmem
 have hk := hk0 _ hmem
 obtain ⟨h1, l, hsh, hres, hcase⟩ := fin_out hf
 have hk2 : Keep h.length h h1 s.d := hk.1.2.trans (shut_keep h.length s.d s.ms s.h h1 (hk.2 (fun b hb => by simp at hb)) hsh) (fun _ h => h)
 obtain ⟨he, m', q1, q2, q3⟩ := hx
 have done : LeavesInM Fence.wide n P fn a'.tmps (CallPost ⟨P, B, w0⟩ m h v h') a'.defers .returning w' := by
  refine leaves_ok s.ms a'.defers s.h h1 w' q3.ds hsh q3.rel ?_
  intro w1 r1 g1
  obtain ⟨l', hl1, hl2⟩ := res_run q3.tr r1 fn.results.toList rs l hrs hres
  refine ⟨(if hh : l'.toArray.size = 1 then l'.toArray[0] else .tuple l'.toArray), ?_, ?_⟩
  ·rw [results_eq, Array.mapM_eq_mapM_toList]
   simp [hl2]
  ·have hv := oneV_sim hl1
   rcases hcase with ⟨hd, _, hg⟩ | ⟨rfl, rfl, _⟩
   ·rw [hd] at hk2
    obtain ⟨m2, p1, p2, p3, p4⟩ := gc_ok r r1 q1 (q2.trans g1) hk2 hv hg
    exact ⟨m2, p1, p2, p3, p4⟩
   ·exact ⟨m', hv, q1, r1, q2.trans g1⟩
 subst he
 rcases hexn with hexn | hexn
 ·simp only at hexn; subst hexn; exact done
 ·simp only at hexn; subst hexn; exact done
theorem keep_L {FT : FuncId → Option SFunc} {k : Nat} (S : Sound P R k) {f : FuncId} {args : List Value} {h : SHeap} {v : Value} {h' : SHeap} {d' : List Nat} {sf : SFunc} {L : List (Ex × St)}
  (hL : execL R ⟨h.length, none, f⟩ sf.body ⟨(T.blank sf.dep).fill 0 args, [], h, []⟩ = some L) (hne : L ≠ []) (hall : ∀ x ∈ L, (x.1 = .normal ∨ x.1 = .ret) ∧ fin sf h.length x.2 = some (v, h', d')) : Keep h.length h h' d' := by
 obtain ⟨x, hx⟩ := List.exists_mem_of_ne_nil L hne
 have hk := execL_keep (cx := ⟨h.length, none, f⟩) S.ckeep S.rkeep S.lkeep sf.body _ L (Nat.le_refl _) hL x hx
 obtain ⟨_, hf⟩ := hall x hx
 obtain ⟨h1, l, hsh, _, hcase⟩ := fin_out hf
 have hk2 : Keep h.length h h1 x.2.d := hk.1.2.trans (shut_keep h.length x.2.d x.2.ms x.2.h h1 (hk.2 (fun b hb => by simp at hb)) hsh) (fun _ h => h)
 rcases hcase with ⟨hd, rfl, hg⟩ | ⟨_, rfl, rfl⟩
 ·rw [hd] at hk2
  unfold gcS at hg
  simp only at hg
  split at hg
  case h_2 => cases hg
  rename_i v2 kept _ _
  cases hg
  refine ⟨by have := hk2.1; simp; omega, fun b o hb ho => ?_⟩
  obtain ⟨o', q1, q2⟩ := hk2.2 b o hb ho
  refine ⟨o', ?_, q2⟩
  have := hk2.1
  rw [List.getElem?_append_left (by simp; omega), List.getElem?_take, if_pos hb]
  exact q1
 ·exact hk2
noncomputable def overX (n : Note) (R : Rec) : Rec := by
 classical
 exact ⟨fun g a hh => if g = n.f ∧ a = n.args ∧ hh = n.h then some n.r else R.call g a hh, R.round, R.loop⟩
def goodEx : Ex → Bool
 | .normal | .ret => true
 | _ => false
def noteL (FT : FuncId → Option SFunc) (R : Rec) (n : Note) : Bool :=
 match FT n.f with
 | none => false
 | some sf => Nat.blt n.args.length (2 ^ sf.dep) && match execL R ⟨n.h.length, none, n.f⟩ sf.body ⟨(T.blank sf.dep).fill 0 n.args, [], n.h, []⟩ with
  | some (x :: l) => (x :: l).all fun y => goodEx y.1 && rEq (fin sf n.h.length y.2) n.r
  | _ => false
theorem noteL_ok (hmix : P.follows .mixedOrders = true) {FT : FuncId → Option SFunc} (hT : Tab P FT) {k : Nat} (S : Sound P R k) {n : Note} (hn : noteL FT R n = true) : NoteOK P n := by
 unfold noteL at hn
 split at hn
 ·cases hn
 rename_i sf hsf
 simp only [Bool.and_eq_true, Nat.blt_eq] at hn
 obtain ⟨hlen, hn⟩ := hn
 split at hn
 case h_2 => cases hn
 rename_i x l hL
 have hall : ∀ y ∈ x :: l, (y.1 = .normal ∨ y.1 = .ret) ∧ fin sf n.h.length y.2 = some n.r := by
  intro y hy
  have := List.all_eq_true.1 hn y hy
  simp only [Bool.and_eq_true] at this
  refine ⟨?_, rEq_eq this.2⟩
  have h1 := this.1
  cases hq : y.1 with
  | normal => exact .inl rfl
  | ret => exact .inr rfl
  | exit j => rw [hq] at h1; cases h1
 obtain ⟨f, args, h, v, h', d'⟩ := n
 refine ⟨overX ⟨f, args, h, v, h', d'⟩ R, k, ⟨?_, S.round, S.loop, ?_, S.rkeep, S.lkeep⟩, ?_⟩
 ·intro B w0 g a hh v2 h2 d2 m w args' hs r hl
  simp only [overX] at hs
  split at hs
  ·rename_i e
   obtain ⟨rfl, rfl, rfl⟩ := e
   cases hs
   exact call_L hmix hT S hsf hlen hL hall B w0 m w args' r hl
  ·exact S.call B w0 g a hh v2 h2 d2 m w args' hs r hl
 ·intro g a hh v2 h2 d2 hs
  simp only [overX] at hs
  split at hs
  ·rename_i e
   obtain ⟨rfl, rfl, rfl⟩ := e
   cases hs
   exact keep_L (FT := FT) S hL (by simp) hall
  ·exact S.ckeep g a hh v2 h2 d2 hs
 ·simp [overX]
end
end
end Go.Proofs.YtdmfhdnpakgkpaaDoor.Sh
namespace Go.Proofs.YtdmfhdnpakgkpaaDoor.Sh
section
open Go
set_option maxRecDepth 100000
theorem rep1 : List.replicate 1 SO.gone = [SO.gone] := (rfl)
theorem rep2 : List.replicate 2 SO.gone = [SO.gone, SO.gone] := (rfl)
theorem rep3 : List.replicate 3 SO.gone = [SO.gone, SO.gone, SO.gone] := (rfl)
theorem new_some (h : SHeap) (b : Nat) (cs : List Value) (el : TypeId) (pf : Bool) : newS h (some b) cs el pf = if (!pf || cs.all sc) = true then (match h[b]? with
  | some .gone => some (b, h.set b (.cells cs el pf 0 []))
  | _ => none) else none := (rfl)
attribute [go_sem ↓] rep1 rep2 rep3 new_some
attribute [go_sem] Int.toNat_natCast
def opnB : Value → Bool
 | .bool _ | .int _ _ | .string _ | .pointer _ | .slice _ _ _ | .func _ _ _ | .agg _ | .tuple _ | .map _ | .nilFunc | .nilIface => true
 | _ => false
theorem opn_b {v : Value} {K : Value → Prop} (h : opnB v = true) (k : K v) : opn v K := by
 cases v <;> first | exact k | cases h
def resE (ρ : Reg) (h : SHeap) : List SRes → Option (List Value)
 | [] => some []
 | .tmp i :: r => match resE ρ h r with
  | some l => some (ρ i :: l)
  | none => none
 | .cell agg i :: r => match ρ i with
  | .pointer a => match loadS h agg (.pointer a), resE ρ h r with
   | some v, some l => some (v :: l)
   | _, _ => none
  | _ => none
theorem resE_nil (ρ : Reg) (h : SHeap) : resE ρ h [] = some [] := (rfl)
theorem resE_tmp (ρ : Reg) (h : SHeap) (i : Nat) (r : List SRes) : resE ρ h (.tmp i :: r) = match resE ρ h r with
  | some l => some (ρ i :: l)
  | none => none := (rfl)
theorem resE_cell (ρ : Reg) (h : SHeap) (agg : Option Nat) (i : Nat) (r : List SRes) : resE ρ h (.cell agg i :: r) = match ρ i with
  | .pointer a => match loadS h agg (.pointer a), resE ρ h r with
   | some v, some l => some (v :: l)
   | _, _ => none
  | _ => none := (rfl)
attribute [go_sem ↓] resE_nil resE_tmp resE_cell
theorem resE_ok {ρ : Reg} {h : SHeap} : ∀ {rs : List SRes} {l : List Value} {K : List Value → Prop}, resE ρ h rs = some l → l.all opnB = true → K l → resW ρ h rs K
 | [], l, K, he, ho, k => by cases he; exact k
 | .tmp i :: r, l, K, he, ho, k => by
  rw [resE_tmp] at he
  split at he
  ·rename_i l' hl
   cases he
   rw [List.all_cons, Bool.and_eq_true] at ho
   exact opn_b ho.1 (resE_ok (K := fun l => K (ρ i :: l)) hl ho.2 k)
  ·cases he
 | .cell agg i :: r, l, K, he, ho, k => by
  rw [resE_cell] at he
  split at he
  ·rename_i a ha
   split at he
   ·rename_i v l' hv hl
    cases he
    rw [List.all_cons, Bool.and_eq_true] at ho
    show opn (ρ i) fun a => ∃ v, loadS h agg a = some v ∧ opn v fun v => resW ρ h r fun l => K (v :: l)
    rw [ha]
    exact ⟨v, hv, opn_b ho.1 (resE_ok (K := fun l => K (v :: l)) hl ho.2 k)⟩
   ·cases he
  ·cases he
theorem gc_free {base : Nat} {v : Value} {h : SHeap} (hp : ptrs 3 v = []) (hr : ∀ K, renV base K 3 v = some v) : gcS base v h = some (v, h.take base) := by
 unfold gcS
 rw [hp]
 rw [show (1000000 : Nat) = 999999 + 1 from rfl, reach]
 simp [hr, mapO]
theorem q_any {rs : List SRes} {base : Nat} {ρ : Reg} {ms : List Nat} {h h2 h0 : SHeap} {v : Value} {ex : Ex} (l : List Value) (hs : shut h ms = some h2) (he : resE ρ h2 rs = some l) (ho : l.all opnB = true) (hv : oneV l = v) (hp : ptrs 3 v = []) (hr : ∀ K, renV base K 3 v = some v)
  (ht : h2.take base = h0) (hx : isEnd ex = true) : callQ rs base (v, h0, []) ex ρ ms h [] := by
 refine ⟨hx, ?_⟩
 subst hv ht
 have key : resW ρ h2 rs fun l' => endW base h2 [] (oneV l, h2.take base, []) l' := resE_ok he ho ⟨_, _, gc_free hp hr, rfl⟩
 cases ms with
 | nil =>
  have : h = h2 := by simpa [shut] using hs
  subst this
  exact key
 | cons m ms => exact ⟨h2, hs, key⟩
theorem q_free {rs : List SRes} {base : Nat} {ρ : Reg} {h h0 : SHeap} {v : Value} {ex : Ex} (l : List Value) (he : resE ρ h rs = some l) (ho : l.all opnB = true) (hv : oneV l = v) (hp : ptrs 3 v = []) (hr : ∀ K, renV base K 3 v = some v)
  (ht : h.take base = h0) (hx : isEnd ex = true) : callQ rs base (v, h0, []) ex ρ [] h [] := q_any l rfl he ho hv hp hr ht hx
theorem setLoop_eq {h : SHeap} {L st fn df st' : Nat} {t : T} {ps : List Nat} {as body : SCode} {pd pd' : Option SCode} (e : h[L]? = some (.loop st fn t ps as body pd df)) :
  setLoop h L st' pd' = h.set L (.loop st' fn t ps as body pd' df) := by
 unfold setLoop
 rw [e]
section
variable {FT : FuncId → Option SFunc} {C : Kn}
theorem run_range {R : Rec} {cx : Cx} {dep : Nat} {f : Operand} {ps : List Nat} {as body : SCode} {st : List Fr} {ρ : Reg} {ms : List Nat} {h : SHeap} {d : List Nat} {Q : Post} {g : FuncId} {caps : Array Value}
    (hrnd : cx.rnd = none) (hv : evR ρ f = some (.func (.func g) #[] caps))
    (hw : ∀ t : T, Full dep t → t.get = ρ → ∃ v2 h2 d2, R.call g (.func (.yield (h.length + 1)) #[] #[] :: caps.toList) (h ++ [.deferred, .loop 0 cx.fn t ps as body none h.length]) = some (v2, h2, d2) ∧
      ∃ lst fn' t' ps' as' body' pend df, h2[h.length + 1]? = some (.loop lst fn' t' ps' as' body' pend df) ∧ (lst == 1) = false ∧
        ((pend = none ∧ Ends R cx dep .normal st ρ (h.length :: ms) (setLoop h2 (h.length + 1) 3 none) (dirts cx.base d2 d) Q) ∨
         (pend = some .ret ∧ Ends R cx dep .ret st ρ (h.length :: ms) (setLoop h2 (h.length + 1) 3 (some .ret)) (dirts cx.base d2 d) Q))) :
    Run R cx dep (.rangeFunc f ps as body) st ρ ms h d Q := by
  unfold Run
  intro t hf ht
  obtain ⟨v2, h2, d2, e1, lst, fn', t', ps', as', body', pend, df, e2, e3, e4⟩ := hw t hf ht
  have hv' : ev t f = some (.func (.func g) #[] caps) := by rw [ev_evR, ht]; exact hv
  have a1 : (h ++ [SO.deferred]).length = h.length + 1 := by simp
  have a2 : h ++ [SO.deferred] ++ [.loop 0 cx.fn t ps as body none h.length] = h ++ [.deferred, .loop 0 cx.fn t ps as body none h.length] := by simp
  have e1' : R.call g ((#[] : Array Value).toList ++ [.func (.yield (h.length + 1)) #[] #[]] ++ caps.toList) (h ++ [.deferred, .loop 0 cx.fn t ps as body none h.length]) = some (v2, h2, d2) := by
    simpa using e1
  rcases e4 with ⟨rfl, k⟩ | ⟨rfl, k⟩
  · refine ⟨.normal, t, h.length :: ms, setLoop h2 (h.length + 1) 3 none, dirts cx.base d2 d, ?_, hf, by rw [ht]; exact k⟩
    unfold exec
    simp only [hv', hrnd]
    simp only [a1, a2]
    rw [e1']
    simp only [e2, e3, if_false, Bool.false_eq_true]
  · refine ⟨.ret, t, h.length :: ms, setLoop h2 (h.length + 1) 3 (some .ret), dirts cx.base d2 d, ?_, hf, by rw [ht]; exact k⟩
    unfold exec
    simp only [hv', hrnd]
    simp only [a1, a2]
    rw [e1']
    simp only [e2, e3, if_false, Bool.false_eq_true]
def zipR (ρ : Reg) : List Nat → List Value → Reg
 | p :: ps, a :: as => zipR (upd ρ p a) ps as
 | _, _ => ρ
theorem zip_get {dep : Nat} : ∀ (ps : List Nat) (as : List Value) (t : T), Full dep t → (ps.all fun k => Nat.blt (k + 1) (2 ^ dep)) = true → Full dep (zipSet t ps as) ∧ (zipSet t ps as).get = zipR t.get ps as
 | [], as, t, hf, _ => by cases as <;> exact ⟨hf, rfl⟩
 | p :: ps, [], t, hf, _ => ⟨hf, rfl⟩
 | p :: ps, a :: as, t, hf, hp => by
  have hp' : Nat.blt (p + 1) (2 ^ dep) = true ∧ (ps.all fun k => Nat.blt (k + 1) (2 ^ dep)) = true := by simpa only [List.all_cons, Bool.and_eq_true] using hp
  have h1 : p + 1 < 2 ^ dep := by simpa using hp'.1
  obtain ⟨k1, k2⟩ := zip_get ps as (t.set p a) (full_set hf) hp'.2
  refine ⟨k1, ?_⟩
  show (zipSet (t.set p a) ps as).get = zipR (upd t.get p a) ps as
  rw [k2, get_set' a hf h1]
theorem round_rule {base L fn df dep : Nat} {t : T} {ps : List Nat} {as body : SCode} {args : List Value} {hh : SHeap} {ρ : Reg} (P : Value × SHeap × List Nat → Prop)
  (hL : hh[L]? = some (.loop 0 fn t ps as body none df)) (hf : Full dep t) (ht : t.get = ρ) (hps : (ps.all fun k => Nat.blt (k + 1) (2 ^ dep)) = true) (hlen : args.length = ps.length)
  (w : Run (big FT C) ⟨base, some L, fn⟩ dep as [] (zipR ρ ps args) [] hh [] (fun ex ρ1 ms1 h1 d1 => ex = .normal ∧ (∃ fn' t' ps' as' body' df', h1[L]? = some (.loop 0 fn' t' ps' as' body' none df')) ∧
   Run (big FT C) ⟨base, some L, fn⟩ dep body [] ρ1 ms1 (setLoop h1 L 1 none) d1 (fun ex2 ρ2 ms2 h2 d2 => (∃ st' fn' t' ps' as' body' pd df', h2[L]? = some (.loop st' fn' t' ps' as' body' pd df')) ∧
    P (.bool (exNormal ex2), setLoop h2 L (if exNormal ex2 = true then 0 else 2) (exCode ex2), d2)))) : ∃ r, P r ∧ (big FT C).round base L args hh = some r := by
 subst ht
 obtain ⟨k1, k2⟩ := zip_get ps args t hf hps
 unfold Run Ends at w
 obtain ⟨ex, t1, ms1, h1, d1, e1, f1, rfl, ⟨fn', t', ps', as', body', df', e2⟩, w2⟩ := w (zipSet t ps args) k1 k2
 unfold Ends at w2
 obtain ⟨ex2, t2, ms2, h2, d2, e3, f2, ⟨st3, fn3, t3, ps3, as3, body3, pd3, df3, e4⟩, hP⟩ := w2 t1 f1 rfl
 refine ⟨_, hP, big_round ?_⟩
 unfold stepRound
 simp only [hL, beq_iff_eq, hlen, if_true, fZip_eq, fH_eq, e1, e2, e3, e4]
end
theorem run_imp {R : Rec} {cx : Cx} {dep : Nat} {c : SCode} {ρ : Reg} {ms : List Nat} {h : SHeap} {d : List Nat} {Q Q' : Post} (w : Run R cx dep c [] ρ ms h d Q) (hq : ∀ ex ρ' ms' h' d', Q ex ρ' ms' h' d' → Q' ex ρ' ms' h' d') : Run R cx dep c [] ρ ms h d Q' := by
 unfold Run Ends at *
 intro t hf ht
 obtain ⟨ex, t', ms', h', d', e, f, k⟩ := w t hf ht
 exact ⟨ex, t', ms', h', d', e, f, hq _ _ _ _ _ k⟩
theorem call_ex {FT : FuncId → Option SFunc} {C : Kn} {f : FuncId} {args : List Value} {h : SHeap} (P : Value × SHeap × List Nat → Prop) (sf : SFunc) (hf : FT f = some sf) (hC : C f args h = none) (hl : Nat.blt args.length (2 ^ sf.dep) = true)
  (hw : Run (big FT C) ⟨h.length, none, f⟩ sf.dep sf.body [] (argR args) [] h [] (fun ex ρ ms h' d => ∃ r, P r ∧ callQ sf.res h.length r ex ρ ms h' d)) : ∃ r, P r ∧ (big FT C).call f args h = some r := by
 obtain ⟨k1, k2⟩ := args_get (dep := sf.dep) args (by simpa using hl)
 have hw' : RunW (big FT C) ⟨h.length, none, f⟩ sf.dep sf.body (argR args) [] h [] (fun ex ρ ms h' d => ∃ r, P r ∧ callQ sf.res h.length r ex ρ ms h' d) := by
  have := hw
  unfold Run at this
  unfold Ends at this
  exact this
 obtain ⟨ex, t', ms', h', d', e, f1, r, hr, k, k3⟩ := hw' _ k1 k2
 refine ⟨r, hr, big_call hC ?_⟩
 unfold stepCall
 rw [hf]
 simp only [hl, if_true, fNat_eq, fFill_eq]
 rw [e]
 cases ex with
 | normal => exact finW_ok rfl k3
 | ret => exact finW_ok rfl k3
 | exit id => cases k
theorem call_yield (R : Rec) (base l : Nat) (h : SHeap) (d : List Nat) (args : List Value) : callS R base h d (.func (.yield l) #[] #[]) args = match R.round base l args h with
  | some (v, h', d') => some (v, h', d' ++ d)
  | none => none := by simp [callS]; rfl
theorem zipR_nil (ρ : Reg) (as : List Value) : zipR ρ [] as = ρ := by cases as <;> rfl
theorem zipR_cons (ρ : Reg) (p : Nat) (ps : List Nat) (a : Value) (as : List Value) : zipR ρ (p :: ps) (a :: as) = zipR (upd ρ p a) ps as := (rfl)
attribute [go_sem ↓] call_yield zipR_nil zipR_cons
end
end Go.Proofs.YtdmfhdnpakgkpaaDoor.Sh
namespace Go.Proofs.YtdmfhdnpakgkpaaDoor.Sh
section
open Go
set_option maxRecDepth 100000
section
variable {E : Type}
def swp (f : Nat → E) (i j : Nat) : Nat → E := fun k => if k = i then f j else if k = j then f i else f k
theorem swp_l (f : Nat → E) (i j : Nat) : swp f i j i = f j := by simp [swp]
theorem swp_r (f : Nat → E) (i j : Nat) : swp f i j j = f i := by
 unfold swp; by_cases e : j = i
 ·rw [if_pos e, e]
 ·rw [if_neg e, if_pos rfl]
theorem swp_o (f : Nat → E) {i j k : Nat} (h1 : k ≠ i) (h2 : k ≠ j) : swp f i j k = f k := by simp [swp, h1, h2]
inductive Sw (a b : Nat) (f : Nat → E) : (Nat → E) → Prop
 | refl : Sw a b f f
 | step {g : Nat → E} {i j : Nat} : Sw a b f g → a ≤ i → i < b → a ≤ j → j < b → Sw a b f (swp g i j)
theorem Sw.trans {a b : Nat} {f g k : Nat → E} (h : Sw a b f g) (h2 : Sw a b g k) : Sw a b f k := by
 induction h2 with
 | refl => exact h
 | step _ a1 a2 a3 a4 ih => exact ih.step a1 a2 a3 a4
theorem Sw.mono {a b a' b' : Nat} {f g : Nat → E} (h : Sw a b f g) (ha : a' ≤ a) (hb : b ≤ b') : Sw a' b' f g := by
 induction h with
 | refl => exact .refl
 | step _ a1 a2 a3 a4 ih => exact ih.step (by omega) (by omega) (by omega) (by omega)
theorem Sw.out {a b : Nat} {f g : Nat → E} (h : Sw a b f g) {i : Nat} (hi : i < a ∨ b ≤ i) : g i = f i := by
 induction h with
 | refl => rfl
 | step _ a1 a2 a3 a4 ih => rw [swp_o _ (by omega) (by omega), ih]
theorem Sw.all {a b : Nat} {f g : Nat → E} (h : Sw a b f g) {P : E → Prop} (hp : ∀ i, a ≤ i → i < b → P (f i)) : ∀ i, a ≤ i → i < b → P (g i) := by
 induction h with
 | refl => exact hp
 | @step g i j _ a1 a2 a3 a4 ih =>
  intro k k1 k2
  by_cases e1 : k = i
  ·subst e1; rw [swp_l]; exact ih j a3 a4
  ·by_cases e2 : k = j
   ·subst e2; rw [swp_r]; exact ih i a1 a2
   ·rw [swp_o _ e1 e2]; exact ih k k1 k2
theorem Sw.one {a b i j : Nat} (f : Nat → E) (a1 : a ≤ i) (a2 : i < b) (a3 : a ≤ j) (a4 : j < b) : Sw a b f (swp f i j) := Sw.refl.step a1 a2 a3 a4
theorem perm_swap_range {n i j : Nat} (f : Nat → E) (hi : i < n) (hj : j < n) : ((List.range n).map (swp f i j)).Perm ((List.range n).map f) := by
 have key : ∀ (i j : Nat) (f : Nat → E), i < j → j < n → ((List.range n).map (swp f i j)).Perm ((List.range n).map f) := by
  intro i j f hij hj
  have e1 : List.range n = List.range i ++ (i :: ((List.range (j - i - 1)).map (· + (i + 1)) ++ (j :: (List.range (n - j - 1)).map (· + (j + 1))))) := by
   apply List.ext_getElem?
   intro k
   by_cases k1 : k < i
   ·rw [List.getElem?_append_left (by simpa using k1)]
    simp [k1, show k < n by omega]
   ·rw [List.getElem?_append_right (by simp; omega)]
    simp only [List.length_range]
    by_cases k2 : k = i
    ·subst k2; rw [Nat.sub_self, List.getElem?_range (by omega)]; rfl
    ·obtain ⟨m, rfl⟩ : ∃ m, k = i + 1 + m := ⟨k - i - 1, by omega⟩
     rw [show i + 1 + m - i = m + 1 by omega, List.getElem?_cons_succ]
     by_cases k3 : m < j - i - 1
     ·rw [List.getElem?_append_left (by simpa using k3)]
      simp [k3, show i + 1 + m < n by omega]; omega
     ·rw [List.getElem?_append_right (by simp; omega)]
      simp only [List.length_map, List.length_range]
      by_cases k4 : m = j - i - 1
      ·subst k4; rw [Nat.sub_self, List.getElem?_range (by omega)]; show some _ = some _; congr 1; omega
      ·obtain ⟨q, hq⟩ : ∃ q, m - (j - i - 1) = q + 1 := ⟨m - (j - i - 1) - 1, by omega⟩
       rw [hq, List.getElem?_cons_succ]
       by_cases k5 : q < n - j - 1
       ·simp [k5, show i + 1 + m < n by omega]; omega
       ·rw [List.getElem?_eq_none (by simp; omega), List.getElem?_eq_none (by simp; omega)]
  rw [e1]
  simp only [List.map_append, List.map_cons, List.map_map]
  have m1 : (List.range i).map (swp f i j) = (List.range i).map f := List.map_congr_left (fun k hk => swp_o f (by have := List.mem_range.1 hk; omega) (by have := List.mem_range.1 hk; omega))
  have m2 : (List.range (j - i - 1)).map (swp f i j ∘ (· + (i + 1))) = (List.range (j - i - 1)).map (f ∘ (· + (i + 1))) := List.map_congr_left (fun k hk => swp_o f (by show k + (i + 1) ≠ i; omega) (by have := List.mem_range.1 hk; show k + (i + 1) ≠ j; omega))
  have m3 : (List.range (n - j - 1)).map (swp f i j ∘ (· + (j + 1))) = (List.range (n - j - 1)).map (f ∘ (· + (j + 1))) := List.map_congr_left (fun k hk => swp_o f (by show k + (j + 1) ≠ i; omega) (by show k + (j + 1) ≠ j; omega))
  rw [m1, m2, m3, swp_l, swp_r]
  refine List.Perm.append_left _ ?_
  have p1 : (f j :: (((List.range (j - i - 1)).map (f ∘ (· + (i + 1)))) ++ (f i :: (List.range (n - j - 1)).map (f ∘ (· + (j + 1)))))).Perm (f j :: f i :: (((List.range (j - i - 1)).map (f ∘ (· + (i + 1)))) ++ (List.range (n - j - 1)).map (f ∘ (· + (j + 1))))) := List.Perm.cons _ List.perm_middle
  have p2 : (f i :: (((List.range (j - i - 1)).map (f ∘ (· + (i + 1)))) ++ (f j :: (List.range (n - j - 1)).map (f ∘ (· + (j + 1)))))).Perm (f i :: f j :: (((List.range (j - i - 1)).map (f ∘ (· + (i + 1)))) ++ (List.range (n - j - 1)).map (f ∘ (· + (j + 1))))) := List.Perm.cons _ List.perm_middle
  exact p1.trans ((List.Perm.swap _ _ _).trans p2.symm)
 by_cases c : i < j
 ·exact key i j f c hj
 ·by_cases c2 : i = j
  ·subst c2
   have : swp f i i = f := by
    funext k
    by_cases e : k = i
    ·subst e; rw [swp_l]
    ·rw [swp_o f e e]
   rw [this]
  ·have : swp f i j = swp f j i := by
    funext k
    unfold swp
    by_cases e1 : k = i
    ·by_cases e2 : k = j
     ·omega
     ·rw [if_pos e1, if_neg e2, if_pos e1]
    ·by_cases e2 : k = j
     ·rw [if_neg e1, if_pos e2, if_pos e2]
     ·rw [if_neg e1, if_neg e2, if_neg e2, if_neg e1]
   rw [this]
   exact key j i f (by omega) hi
theorem Sw.perm {a b n : Nat} {f g : Nat → E} (h : Sw a b f g) (hb : b ≤ n) : ((List.range n).map g).Perm ((List.range n).map f) := by
 induction h with
 | refl => exact .refl _
 | step _ a1 a2 a3 a4 ih => exact (perm_swap_range _ (by omega) (by omega)).trans ih
variable (cel : E → List Value) (s : Nat)
def flF (f : Nat → E) : Nat → List Value
 | 0 => []
 | n + 1 => flF f n ++ cel (f n)
variable {cel s}
theorem flF_len (hl : ∀ x, (cel x).length = s) (f : Nat → E) : ∀ n, (flF cel f n).length = n * s
 | 0 => by simp [flF]
 | n + 1 => by simp [flF, flF_len hl f n, hl, Nat.add_mul]
theorem flF_at (hl : ∀ x, (cel x).length = s) (f : Nat → E) : ∀ {n i : Nat}, i < n → ((flF cel f n).drop (i * s)).take s = cel (f i)
 | 0, i, h => by omega
 | n + 1, i, h => by
  have h1 := flF_len hl f n
  show ((flF cel f n ++ cel (f n)).drop (i * s)).take s = cel (f i)
  by_cases e : i = n
  ·subst e
   rw [List.drop_append, List.drop_eq_nil_of_le (by omega), List.nil_append, h1, Nat.sub_self, List.drop_zero, List.take_of_length_le (by rw [hl]; exact Nat.le_refl _)]
  ·have h2 : i * s + s ≤ n * s := by
    have := Nat.mul_le_mul_right s (show i + 1 ≤ n by omega)
    rw [Nat.add_mul] at this; omega
   rw [List.drop_append_of_le_length (by omega), List.take_append_of_le_length (by simp; omega)]
   exact flF_at hl f (by omega)
theorem write_get : ∀ (v cs : List Value) (o k : Nat), o + v.length ≤ cs.length → (writeAt cs o v)[k]? = if o ≤ k ∧ k < o + v.length then v[k - o]? else cs[k]?
 | [], cs, o, k, h => by
  rw [write_nil, if_neg (by simp)]
 | x :: v, cs, o, k, h => by
  simp only [List.length_cons] at h
  rw [write_cons, write_get v _ _ _ (by simp; omega)]
  simp only [List.length_cons]
  by_cases c1 : o + 1 ≤ k ∧ k < o + 1 + v.length
  ·rw [if_pos c1, if_pos (by omega), show k - o = (k - (o + 1)) + 1 by omega, List.getElem?_cons_succ]
  ·rw [if_neg c1]
   by_cases c2 : k = o
   ·subst c2
    rw [if_pos (by omega), List.getElem?_set_self (by omega), Nat.sub_self]; rfl
   ·rw [if_neg (by omega), List.getElem?_set_ne (by omega)]
theorem flF_get (hl : ∀ x, (cel x).length = s) (f : Nat → E) : ∀ {n i k : Nat}, i < n → k < s → (flF cel f n)[i * s + k]? = (cel (f i))[k]? := by
 intro n i k hi hk
 rw [← flF_at hl f hi, List.getElem?_take, if_pos hk, List.getElem?_drop]
theorem flF_write (hl : ∀ x, (cel x).length = s) (hs : 0 < s) {f g : Nat → E} {n i : Nat} (hi : i < n) (hg : ∀ k, k ≠ i → g k = f k) : writeAt (flF cel f n) (i * s) (cel (g i)) = flF cel g n := by
 have hfit : i * s + s ≤ n * s := by
  have := Nat.mul_le_mul_right s (show i + 1 ≤ n by omega)
  rw [Nat.add_mul] at this; omega
 apply List.ext_getElem?
 intro k
 rw [write_get _ _ _ _ (by rw [flF_len hl, hl]; exact hfit), hl]
 by_cases hk : k < n * s
 ·have hd : k = k / s * s + k % s := by rw [Nat.mul_comm]; exact (Nat.div_add_mod k s).symm
  have hq : k / s < n := Nat.div_lt_of_lt_mul (by rw [Nat.mul_comm]; exact hk)
  have hr : k % s < s := Nat.mod_lt _ hs
  by_cases e : k / s = i
  ·rw [if_pos (by rw [← e]; omega)]
   have h2 : k - i * s = k % s := by rw [← e]; omega
   rw [h2]
   conv => rhs; rw [hd]
   rw [flF_get hl g hq hr, e]
  ·rw [if_neg]
   ·conv => lhs; rw [hd]
    conv => rhs; rw [hd]
    rw [flF_get hl f hq hr, flF_get hl g hq hr, hg _ e]
   ·rintro ⟨h1, h2⟩
    apply e
    exact Nat.div_eq_of_lt_le h1 (by rw [Nat.succ_mul]; exact h2)
 ·rw [if_neg (by omega), List.getElem?_eq_none (by rw [flF_len hl]; omega), List.getElem?_eq_none (by rw [flF_len hl]; omega)]
structure SA (cel : E → List Value) (n B : Nat) (el : TypeId) (h0 : SHeap) (old0 : List Nat) (h : SHeap) (f : Nat → E) : Prop where
 len : h.length = h0.length
 same : ∀ j, j ≠ B → j ∉ old0 → h[j]? = h0[j]?
 at_ : ∃ old, (∀ c ∈ old, c ∈ old0) ∧ h[B]? = some (.cells (flF cel f n) el true 0 old)
theorem killAll_same : ∀ (l : List Nat) (h : SHeap) {j : Nat}, j ∉ l → (killAll h l)[j]? = h[j]? := by
 intro l
 induction l with
 | nil => intro h j _; rfl
 | cons b l ih =>
  intro h j hj
  unfold killAll
  rw [List.foldl_cons]
  have := ih (kill h b) (j := j) (fun e => hj (List.mem_cons_of_mem _ e))
  unfold killAll at this
  rw [this]
  unfold kill
  split
  ·rw [List.getElem?_set_ne (fun e => hj (by rw [e]; exact List.mem_cons_self))]
  ·rfl
variable {n B : Nat} {el : TypeId} {h0 h : SHeap} {old0 : List Nat} {f : Nat → E}
theorem SA.lt (S : SA cel n B el h0 old0 h f) : B < h.length := by
 obtain ⟨old, _, e⟩ := S.at_
 exact (List.getElem?_eq_some_iff.1 e).1
theorem SA.load (S : SA cel n B el h0 old0 h f) (hl : ∀ x, (cel x).length = s) {i : Nat} (hi : i < n) : loadS h (some s) (.pointer (some ⟨B, i * s, none⟩)) = some (.agg (cel (f i)).toArray) := by
 obtain ⟨old, _, e⟩ := S.at_
 have hfit : i * s + s ≤ n * s := by
  have := Nat.mul_le_mul_right s (show i + 1 ≤ n by omega)
  rw [Nat.add_mul] at this; omega
 rw [load_rdON, e, rdON_cells, readable_0, ble_dec, decide_eq_true (by rw [flF_len hl]; exact hfit), Bool.and_self, if_pos rfl, flF_at hl f hi]
theorem SA.store (S : SA cel n B el h0 old0 h f) (hl : ∀ x, (cel x).length = s) (hc : ∀ x, (cel x).all sc = true) (hs : 0 < s) {i : Nat} (hi : i < n) {g : Nat → E} (hg : ∀ k, k ≠ i → g k = f k) :
  ∃ h1, (∀ base d, storeS base h d B (i * s) (cel (g i)) = some (h1, d)) ∧ SA cel n B el h0 old0 h1 g := by
 obtain ⟨old, ho, e⟩ := S.at_
 have hfit : i * s + s ≤ n * s := by
  have := Nat.mul_le_mul_right s (show i + 1 ≤ n by omega)
  rw [Nat.add_mul] at this; omega
 have hB := S.lt
 refine ⟨(killAll h old).set B (.cells (flF cel g n) el true 0 []), fun base d => ?_, ?_⟩
 ·have c1 := hc (g i)
  have c2 := all_sc_one _ c1
  have c3 : (cel (g i)).length = s := hl _
  rw [store_def, e]
  dsimp only
  rw [if_pos (by rw [c2, c1, ble_dec, blt_dec, c3, decide_eq_true (by rw [flF_len hl]; exact hfit), decide_eq_true hs]; rfl), flF_write hl hs hi hg, dirty_pf]
 ·refine ⟨by simp [killAll_len _ _, S.len], fun j hj hjo => ?_, [], fun c hc => by simp at hc, ?_⟩
  ·rw [List.getElem?_set_ne (fun e => hj e.symm), killAll_same _ _ (fun e => hjo (ho j e))]
   exact S.same j hj hjo
  ·rw [List.getElem?_set_self (by rw [killAll_len]; exact hB)]
theorem SA.swap (S : SA cel n B el h0 old0 h f) (hl : ∀ x, (cel x).length = s) (hc : ∀ x, (cel x).all sc = true) (hs : 0 < s) {i j : Nat} (hi : i < n) (hj : j < n) :
  ∃ h1 h2, (∀ base d, storeS base h d B (i * s) (cellsL (.agg (cel (f j)).toArray)) = some (h1, d)) ∧ (∀ base d, storeS base h1 d B (j * s) (cellsL (.agg (cel (f i)).toArray)) = some (h2, d)) ∧ SA cel n B el h0 old0 h2 (swp f i j) := by
 obtain ⟨h1, e1, S1⟩ := S.store hl hc hs hi (g := fun k => if k = i then f j else f k) (fun k hk => by simp [hk])
 simp only [if_true] at e1
 obtain ⟨h2, e2, S2⟩ := S1.store hl hc hs hj (g := swp f i j) (fun k hk => by
  by_cases e : k = i
  ·subst e; rw [swp_l]; simp
  ·rw [swp_o f e hk]; simp [e])
 rw [swp_r] at e2
 exact ⟨h1, h2, e1, e2, S2⟩
theorem SA.trans {h1 h2 : SHeap} {old1 : List Nat} {g k : Nat → E} (S : SA cel n B el h0 old0 h1 g) (S2 : SA cel n B el h1 old1 h2 k) (ho : ∀ c ∈ old1, c ∈ old0) : SA cel n B el h0 old0 h2 k :=
 ⟨by rw [S2.len, S.len], fun j a b => by rw [S2.same j a (fun e => b (ho j e)), S.same j a b], let ⟨o, p, q⟩ := S2.at_; ⟨o, fun c hc => ho c (p c hc), q⟩⟩
theorem SA.take (S : SA cel n B el h0 old0 h f) : h.take h0.length = h := List.take_of_length_le (by rw [S.len]; exact Nat.le_refl _)
end
structure Cmp {E : Type} (M : Rec) (g : FuncId) (cel : E → List Value) (c : E → E → Int) : Prop where
 call : ∀ x y h, M.call g [.agg (cel x).toArray, .agg (cel y).toArray] h = some (.int .i64 (c x y), h, [])
 irr : ∀ x, ¬ c x x < 0
 asym : ∀ x y, c x y < 0 → ¬ c y x < 0
 ntr : ∀ x y z, ¬ c x y < 0 → ¬ c y z < 0 → ¬ c x z < 0
section
variable {E : Type} {M : Rec} {g : FuncId} {cel : E → List Value} {c : E → E → Int}
theorem Cmp.trans (C : Cmp M g cel c) {x y z : E} (h1 : c x y < 0) (h2 : ¬ c z y < 0) : c x z < 0 := by
 by_cases e : c x z < 0
 ·exact e
 ·exact (C.ntr _ _ _ e h2 h1).elim
def Ord (c : E → E → Int) (a b : Nat) (f : Nat → E) : Prop := ∀ i j, a ≤ i → i < j → j < b → ¬ c (f j) (f i) < 0
theorem Ord.nil (c : E → E → Int) {a b : Nat} (h : b ≤ a + 1) (f : Nat → E) : Ord c a b f := fun i j h1 h2 h3 => by omega
theorem Ord.congr {a b : Nat} {f k : Nat → E} (h : Ord c a b f) (e : ∀ i, a ≤ i → i < b → k i = f i) : Ord c a b k := fun i j h1 h2 h3 => by
 rw [e i h1 (by omega), e j (by omega) h3]; exact h i j h1 h2 h3
theorem Ord.mono {a b a' b' : Nat} {f : Nat → E} (h : Ord c a b f) (ha : a ≤ a') (hb : b' ≤ b) : Ord c a' b' f := fun i j h1 h2 h3 => h i j (by omega) h2 (by omega)
theorem Ord.snoc (C : Cmp M g cel c) {a b : Nat} {f : Nat → E} (h : Ord c a b f) (hl : a < b → ¬ c (f b) (f (b - 1)) < 0) : Ord c a (b + 1) f := by
 intro i j h1 h2 h3
 by_cases e : j = b
 ·subst e
  by_cases e2 : i = j - 1
  ·subst e2; exact hl (by omega)
  ·exact C.ntr _ _ _ (hl (by omega)) (h i (j - 1) h1 (by omega) (by omega))
 ·exact h i j h1 h2 (by omega)
end
end
end Go.Proofs.YtdmfhdnpakgkpaaDoor.Sh
namespace Go.Proofs.YtdmfhdnpakgkpaaDoor.Sh
section
open Go Go.RowKit
section
variable {F : (Rec → Prop) → Prop} {R : Rec}
theorem Big.list (B : Big F R) {α : Type} {p : α → Rec → Prop} : ∀ {l : List α}, (∀ x ∈ l, F (p x)) → F (fun R => ∀ x ∈ l, p x R)
 | [], _ => B.all (fun R x hx => by cases hx)
 | a :: l, h => B.mono (fun R hR x hx => by
   rcases List.mem_cons.1 hx with rfl | hx
   ·exact hR.1
   ·exact hR.2 x hx) (B.both (h a (by simp)) (B.list (l := l) (fun x hx => h x (by simp [hx]))))
theorem Big.mapO (B : Big F R) {α β : Type} {f : Rec → α → Option β} (hf : ∀ a r, f R a = some r → F (fun R' => f R' a = some r)) : ∀ {l : List α} {r : List β}, Sh.mapO (f R) l = some r → F (fun R' => Sh.mapO (f R') l = some r)
 | [], r, h => B.all (fun R => h)
 | a :: l, r, h => by
  unfold Sh.mapO at h
  split at h
  ·rename_i z zs h1 h2
   refine B.mono (fun R' hR => ?_) (B.both (hf a z h1) (B.mapO hf h2))
   unfold Sh.mapO
   rw [hR.1, hR.2]; exact h
  ·cases h
theorem Big.opL (B : Big F R) {cx : Cx} {o : SOp} {t : T} {h : SHeap} {d : List Nat} {L : List (Value × SHeap × List Nat)} (hs : opL R cx o t h d = some L) : F (fun R => Sh.opL R cx o t h d = some L) := by
  by_cases hi : isIter o = true
  · cases o <;> first | (cases hi; done) | exact B.all (fun R => hs)
  · cases o <;> first
      | (exact absurd rfl hi)
      | (simp only [Sh.opL] at hs ⊢
         split at hs
         · rename_i r0 hr0
           refine B.mono (fun R' hR => ?_) (B.opRun hr0)
           simp only [hR]; exact hs
         · cases hs)
theorem Big.opsL (B : Big F R) {cx : Cx} : ∀ {ops : List SOper} {s : St} {L : List St}, opsL R cx ops s = some L → F (fun R => Sh.opsL R cx ops s = some L)
 | [], s, L, hs => B.all (fun R => hs)
 | o :: ops, s, L, hs => by
  simp only [Sh.opsL] at hs ⊢
  split at hs
  ·rename_i hw
   unfold bindL at hs
   split at hs
   ·cases hs
   rename_i l0 hl0
   split at hs
   case h_2 => cases hs
   rename_i r hr
   refine B.mono (fun R' hR => ?_) (B.both (B.opL hl0) (B.mapO (f := fun R (x : Value × SHeap × List Nat) => Sh.opsL R cx ops ⟨sput s.t o.dst x.1, s.ms, x.2.1, x.2.2⟩) (fun a r h => B.opsL h) hr))
   rw [if_pos hw]
   unfold bindL
   rw [hR.1]
   dsimp only
   rw [hR.2]
   exact hs
  ·rename_i hw
   refine B.mono (fun R' hR => ?_) (B.opsL hs)
   rw [if_neg hw]; exact hR
end
section
variable {P : Program} {B : Nat} {w0 : World} {R : Rec}
end
section
variable {R : Rec}
end
end
end Go.Proofs.YtdmfhdnpakgkpaaDoor.Sh
namespace Go.Proofs.YtdmfhdnpakgkpaaDoor.Sh
section
open Go Go.RowKit
section
variable {R : Rec} {cx : Cx} {dep : Nat} {c a b : SCode} {ρ : Reg} {ms : List Nat} {h : SHeap} {d : List Nat} {Q : Post}
end
section
variable {R : Rec}
end
section
variable {P : Program}
variable {FT : FuncId → Option SFunc} {C : Kn}
end
end
end Go.Proofs.YtdmfhdnpakgkpaaDoor.Sh
namespace Go.Proofs.YtdmfhdnpakgkpaaDoor.Sh
section
open Go
end
end Go.Proofs.YtdmfhdnpakgkpaaDoor.Sh
