/- The shadow machine: iterators over maps, all orders at once. -/
import Derived.Test.YtdmfhdnpakgkpaaDoorM3
set_option linter.all false
namespace Go.Proofs.YtdmfhdnpakgkpaaDoor.Sh
open Go Go.RowKit

def opL (R : Rec) (cx : Cx) (o : SOp) (t : T) (h : SHeap) (d : List Nat) : Option (List (Value × SHeap × List Nat)) :=
  match o with
  | .range x => match ev t x with
    | some (.map (some b)) => match h[b]? with
      | some (.map _ es) => some [(.pointer (some ⟨h.length, 0, none⟩), h ++ [.iter b [] es.length], d)]
      | _ => none
    | _ => none
  | .next x => match ev t x with
    | some (.pointer (some ⟨b, 0, none⟩)) => match h[b]? with
      | some (.iter mb seen n) => match h[mb]? with
        | some (.map _ es) =>
          if Nat.beq es.length n then
            match (List.range n).filter (fun i => !(seen.contains i)) with
            | [] => some [(.tuple #[.bool false], h, d)]
            | l => mapO (fun i => match es[i]? with
              | some e => some (.tuple #[.bool true, e.1, e.2], h.set b (.iter mb (seen ++ [i]) n), d)
              | none => none) l
          else none
        | _ => none
      | _ => none
    | _ => none
  | .entry x => match ev t x with
    | some (.pointer (some ⟨b, 0, none⟩)) => match h[b]? with
      | some (.iter mb seen n) => match h[mb]?, seen.getLast? with
        | some (.map _ es), some i =>
          if Nat.beq es.length n then
            match es[i]? with
            | some e => some [(.tuple #[e.1, e.2], h, d)]
            | none => none
          else none
        | _, _ => none
      | _ => none
    | _ => none
  | o => match opRun R cx none o t h d with
    | some r => some [r]
    | none => none

section
variable {P : Program} {nt : Nat} {m : Mp} {t : T} {a : Act}

theorem run_choose_next (k : Nat) (hk : 1 ≤ k) (w : World) : ∃ c n, c < k ∧ (choose (.mapNext k)).run P w = .ok c { w with drawn := n } := by
  by_cases e : k ≤ 1
  · refine ⟨0, w.drawn, by omega, ?_⟩
    show (if (Question.mapNext k).forced = true then _ else _) = _
    rw [if_pos (by simpa [Question.forced] using e)]
    rfl
  · refine ⟨w.tape w.drawn (.mapNext k) % k, w.drawn + 1, Nat.mod_lt _ (by omega), ?_⟩
    show (if (Question.mapNext k).forced = true then _ else _) = _
    rw [if_neg (by simpa [Question.forced] using e)]
    rfl
theorem run_getObj_iter {w : World} {r : Nat} {mo : Option Nat} {s l : Nat} {sn : Array Nat} (hb : w.heap[r]? = some (.mapIter mo s sn l)) : (getObj r).run P w = .ok (.mapIter mo s sn l) w := by
  simp [getObj, Sem.run, hb]
theorem run_setObj_iter {w : World} {r : Nat} {mo : Option Nat} {s l : Nat} {sn : Array Nat} (o : Obj) (hb : w.heap[r]? = some (.mapIter mo s sn l)) : (setObj r o).run P w = .ok () { w with heap := w.heap.setIfInBounds r o } := by
  simp [setObj, Sem.run, hb]

theorem sim_range {E : Env} {h : SHeap} {w : World} (r : Rel E m h w) (ht : TR nt m t a.tmps) {ty kt e : TypeId} (hu : E.P.underlying ty = some (.map kt e)) {x : Operand} (hx : okO x = true) {b : Nat} {pf es} (hev : ev t x = some (.map (some b))) (hb : h[b]? = some (.map pf es)) :
    Does E m h (do pure (Next.value (← Instr.range ty (a.eval x)))) w (.pointer (some ⟨h.length, 0, none⟩)) (h ++ [.iter b [] es.length]) := by
  obtain ⟨A, hm, hxe⟩ := (ev_sim ht hx hev).map_inv
  obtain ⟨_, ⟨rs, clock, hw, l1, l2, hc, _⟩, _⟩ := r.map_at hb hm
  have hlen : clock = es.length := by have := l1.1; simp at this; rw [hc, this]
  refine ⟨.pointer (some ⟨w.heap.size, 0, none⟩), { w with heap := w.heap.push (.mapIter (some A) clock #[] clock) }, m ++ [some ((w.heap.size, 0), none)], .inl (run_v ?_), ?_, Mp.le_append _ _, ?_, Ghost.push r.len⟩
  · rw [hxe]
    simp [Instr.range, run_underlying hu, MapKept.run_getObj_map hw, newObj, Sem.run]
  · have hat : Mp.at (m ++ [some ((w.heap.size, 0), none)]) h.length = some (w.heap.size, 0) := by rw [← r.len, Mp.at_snoc]; rfl
    exact .ptr (b := h.length) (o := 0) hat
  · refine Rel.push (o := .iter b [] es.length) (ob := .mapIter (some A) clock #[] clock) r rfl none (fun w' hw' => ⟨rfl, A, Mp.le_at (Mp.le_append _ _) hm, ?_⟩) (fun K s e => by cases e)
    rw [hw', hlen]

theorem Rel.iter_at {E : Env} {h : SHeap} {w : World} (r : Rel E m h w) {b A δ mb n : Nat} {seen : List Nat} (hb : h[b]? = some (.iter mb seen n)) (hm : m.at b = some (A, δ)) :
    δ = 0 ∧ ∃ M, m.at mb = some (M, 0) ∧ w.heap[A]? = some (.mapIter (some M) n seen.toArray n) := r.obj _ _ _ _ hb hm

theorem sim_entry {E : Env} {h : SHeap} {w : World} (r : Rel E m h w) (ht : TR nt m t a.tmps) {x : Operand} (hx : okO x = true) {b mb n i : Nat} {seen : List Nat} {pf es} {e : Value × Value} (hev : ev t x = some (.pointer (some ⟨b, 0, none⟩))) (hb : h[b]? = some (.iter mb seen n)) (hmb : h[mb]? = some (.map pf es)) (hn : es.length = n)
    (hl : seen.getLast? = some i) (he : es[i]? = some e) : Does E m h (do pure (Next.value (← Instr.entry (a.eval x)))) w (.tuple #[e.1, e.2]) h := by
  obtain ⟨A, δ, hm, hxe⟩ := (ev_sim ht hx hev).ptr_inv
  obtain ⟨rfl, M, hmm, hit⟩ := r.iter_at hb hm
  obtain ⟨_, ⟨rs, clock, hw, l1, l2, hc, hst⟩, _⟩ := r.map_at hmb hmm
  have hrl : rs.toList.length = es.length := by have := l1.1; simp at this ⊢; omega
  have hi : i < es.length := (List.getElem?_eq_some_iff.1 he).1
  have hri : rs.toList[i]? = some (rs.toList[i]'(by omega)) := List.getElem?_eq_getElem (by omega)
  have hbi := hst i _ hri
  have hclock : clock = n := by rw [hc, ← hn, ← hrl]; simp
  have hf : rs.find? (fun e => e.born == i) = some (rs.toList[i]'(by omega)) := by
    rw [← Array.find?_toList]
    cases hq : rs.toList.find? (fun e => e.born == i) with
    | none =>
      have := List.find?_eq_none.1 hq _ (List.mem_of_getElem? hri)
      simp at this
      exact (this (by simpa using hbi)).elim
    | some e' =>
      have h1 := List.find?_some hq
      obtain ⟨j, hj⟩ := List.getElem?_of_mem (List.mem_of_find?_eq_some hq)
      have h2 := hst j e' hj
      have : j = i := by simp at h1; omega
      subst this
      rw [hri] at hj
      exact hj.symm
  have hback : seen.toArray.back? = some i := by simpa using hl
  have v1 : VR m e.1 (rs.toList[i]'(by omega)).key := by
    obtain ⟨y, hy, hv⟩ := l1.get (i := i) (x := e.1) (by rw [List.getElem?_map, he]; rfl)
    rw [List.getElem?_map, hri] at hy
    cases hy
    exact hv
  have v2 : VR m e.2 (rs.toList[i]'(by omega)).val := by
    obtain ⟨y, hy, hv⟩ := l2.get (i := i) (x := e.2) (by rw [List.getElem?_map, he]; rfl)
    rw [List.getElem?_map, hri] at hy
    cases hy
    exact hv
  refine Does.pure r (v' := .tuple #[(rs.toList[i]'(by omega)).key, (rs.toList[i]'(by omega)).val]) (run_v ?_) (VR.tuple' (((LR.nil m).cons v2).cons v1))
  rw [hxe]
  simp [Instr.entry, run_getObj_iter hit, MapKept.run_getObj_map hw, hback, hclock, hf]

theorem sim_next {E : Env} {h : SHeap} {w : World} (r : Rel E m h w) (ht : TR nt m t a.tmps) {ty : TypeId} {x : Operand} (hx : okO x = true) {b mb n : Nat} {seen : List Nat} {pf es} (hev : ev t x = some (.pointer (some ⟨b, 0, none⟩))) (hb : h[b]? = some (.iter mb seen n)) (hmb : h[mb]? = some (.map pf es)) (hn : es.length = n) :
    ((List.range n).filter (fun i => !(seen.contains i)) = [] ∧ Does E m h (do pure (Next.value (← Instr.next (a.eval x) false ty))) w (.tuple #[.bool false]) h) ∨
    ∃ i e, i ∈ (List.range n).filter (fun i => !(seen.contains i)) ∧ es[i]? = some e ∧ Does E m h (do pure (Next.value (← Instr.next (a.eval x) false ty))) w (.tuple #[.bool true, e.1, e.2]) (h.set b (.iter mb (seen ++ [i]) n)) := by
  obtain ⟨A, δ, hm, hxe⟩ := (ev_sim ht hx hev).ptr_inv
  obtain ⟨rfl, M, hmm, hit⟩ := r.iter_at hb hm
  obtain ⟨_, ⟨rs, clock, hw, l1, l2, hc, hst⟩, _⟩ := r.map_at hmb hmm
  have hrl : rs.toList.length = es.length := by have := l1.1; simp at this ⊢; omega
  have hclock : clock = n := by rw [hc, ← hn, ← hrl]; simp
  have hborn : ∀ e ∈ rs.toList, e.born < n := by
    intro e he
    obtain ⟨j, hj⟩ := List.getElem?_of_mem he
    rw [hst j e hj, ← hn, ← hrl]
    exact (List.getElem?_eq_some_iff.1 hj).1
  -- the check
  have hchk : (!seen.toArray.isEmpty && !rs.isEmpty && rs.all (fun e => decide (e.born ≥ n))) = false := by
    cases hq : (!seen.toArray.isEmpty && !rs.isEmpty && rs.all (fun e => decide (e.born ≥ n))) with
    | false => rfl
    | true =>
      exfalso
      simp only [Bool.and_eq_true] at hq
      obtain ⟨⟨_, h2⟩, h3⟩ := hq
      cases hrs : rs.toList with
      | nil =>
        have : rs.isEmpty = true := by simpa using hrs
        rw [this] at h2; cases h2
      | cons e rest =>
        have h4 := Array.all_eq_true_iff_forall_mem.1 h3 e (by rw [← Array.mem_toList_iff, hrs]; simp)
        have h5 := hborn e (by rw [hrs]; simp)
        simp at h4
        omega
  obtain ⟨left, hleft⟩ : ∃ left, left = rs.filter (fun e => !seen.toArray.contains e.born) := ⟨_, rfl⟩
  have hmem : ∀ e, e ∈ left → ∃ i, rs.toList[i]? = some e ∧ i ∈ (List.range n).filter (fun i => !(seen.contains i)) := by
    intro e he
    rw [hleft, Array.mem_filter] at he
    obtain ⟨j, hj⟩ := List.getElem?_of_mem (Array.mem_toList_iff.2 he.1)
    have h1 := hst j e hj
    refine ⟨j, hj, List.mem_filter.2 ⟨List.mem_range.2 ?_, ?_⟩⟩
    · rw [← hn, ← hrl]; exact (List.getElem?_eq_some_iff.1 hj).1
    · have := he.2; rw [h1] at this; simpa using this
  have hold : left.filter (fun e => decide (e.born < n)) = left := by
    apply Array.ext'
    rw [Array.toList_filter]
    refine List.filter_eq_self.2 (fun e he => ?_)
    obtain ⟨j, hj, _⟩ := hmem e (Array.mem_toList_iff.1 he)
    exact decide_eq_true (hborn e (List.mem_of_getElem? hj))
  have hnew : left.filter (fun e => decide (e.born ≥ n)) = #[] := by
    apply Array.ext'
    rw [Array.toList_filter]
    refine List.filter_eq_nil_iff.2 (fun e he => ?_)
    obtain ⟨j, hj, _⟩ := hmem e (Array.mem_toList_iff.1 he)
    have := hborn e (List.mem_of_getElem? hj)
    simp; omega
  have hempty : left.isEmpty = true → (List.range n).filter (fun i => !(seen.contains i)) = [] := by
    intro he
    refine List.filter_eq_nil_iff.2 (fun i hi hh => ?_)
    have hin : i < n := List.mem_range.1 hi
    have hri : rs.toList[i]? = some (rs.toList[i]'(by omega)) := List.getElem?_eq_getElem (by omega)
    have : (rs.toList[i]'(by omega)) ∈ left := by
      rw [hleft, Array.mem_filter]
      refine ⟨Array.mem_toList_iff.1 (List.getElem_mem _), ?_⟩
      rw [hst i _ hri]; simpa using hh
    have h0 : left = #[] := by simpa using he
    rw [h0] at this
    simp at this
  obtain ⟨cand, hcand⟩ : ∃ cand : Array (Option MapEntry), cand = (if left.isEmpty then #[none] else #[]) ++ left.map some := ⟨_, rfl⟩
  have hc1 : 1 ≤ cand.size := by
    rw [hcand]
    by_cases he : left.isEmpty = true
    · rw [if_pos he]; simp
    · rw [if_neg he]
      have : left.size ≠ 0 := by simpa using he
      simp; omega
  obtain ⟨c, dn, hcl, hch⟩ := run_choose_next (P := E.P) cand.size hc1 w
  have hrun : ∀ (K : Option MapEntry → Sem Value) , True := fun _ => trivial
  have hcx : cand[c]? = some (cand[c]'hcl) := by simp
  by_cases he : left.isEmpty = true
  · left
    refine ⟨hempty he, ?_⟩
    have h0 : left = #[] := by simpa using he
    have hcn : cand[c]'hcl = none := by
      have : cand = #[none] := by rw [hcand, if_pos he, h0]; simp
      subst this
      have : c = 0 := by simpa using hcl
      subst this
      rfl
    refine ⟨.tuple #[.bool false], { w with drawn := dn }, m, .inl (run_v ?_), VR.tuple' ((LR.nil m).cons (.bool _)), m.le_refl, r.drew dn, Ghost.refl _ _⟩
    rw [hxe]
    simp only [Instr.next, Nat.zero_add, Sem.run_bind, run_getObj_iter hit, Result.andThen_ok, MapKept.run_getObj_map hw, hclock, hchk, Bool.false_eq_true, if_false, ← hleft, hold, hnew, Array.append_empty, ← hcand, hch, hcx, hcn]
    rfl
  · right
    have hx' : ∃ e, cand[c]'hcl = some e ∧ e ∈ left := by
      have h1 : cand = left.map some := by rw [hcand, if_neg he]; simp
      have h2 : ∀ z, z ∈ cand → ∃ e, e ∈ left ∧ some e = z := fun z hz => by rw [h1, Array.mem_map] at hz; exact hz
      obtain ⟨e, h3, h4⟩ := h2 _ (Array.getElem_mem hcl)
      exact ⟨e, h4.symm, h3⟩
    obtain ⟨e, hce, hel⟩ := hx'
    obtain ⟨i, hri, hif⟩ := hmem e hel
    have hil : i < es.length := by rw [← hrl]; exact (List.getElem?_eq_some_iff.1 hri).1
    have hei : es[i]? = some es[i] := List.getElem?_eq_getElem hil
    have hbi := hst i e hri
    refine ⟨i, es[i], hif, hei, ?_⟩
    have v1 : VR m es[i].1 e.key := by
      obtain ⟨y, hy, hv⟩ := l1.get (i := i) (x := es[i].1) (by rw [List.getElem?_map, hei]; rfl)
      rw [List.getElem?_map, hri] at hy
      cases hy
      exact hv
    have v2 : VR m es[i].2 e.val := by
      obtain ⟨y, hy, hv⟩ := l2.get (i := i) (x := es[i].2) (by rw [List.getElem?_map, hei]; rfl)
      rw [List.getElem?_map, hri] at hy
      cases hy
      exact hv
    have hitd : ({ w with drawn := dn } : World).heap[A]? = some (.mapIter (some M) n seen.toArray n) := hit
    refine ⟨.tuple #[.bool true, e.key, e.val], ({ w with drawn := dn } : World).putObj A (.mapIter (some M) n (seen ++ [i]).toArray n), m, .inl (run_v ?_), VR.tuple' ((((LR.nil m).cons v2).cons v1).cons (.bool _)), m.le_refl, ?_, ?_⟩
    · rw [hxe]
      simp only [Instr.next, Nat.zero_add, Sem.run_bind, run_getObj_iter hit, Result.andThen_ok, MapKept.run_getObj_map hw, hclock, hchk, Bool.false_eq_true, if_false, ← hleft, hold, hnew, Array.append_empty, ← hcand, hch, hcx, hce, run_setObj_iter _ hitd, hbi]
      have : seen.toArray.push i = (seen ++ [i]).toArray := by simp
      rw [this]
      rfl
    · refine (r.drew dn).replace hb hm rfl (fun _ _ _ _ _ e => by cases e) (fun _ _ _ _ _ e => by cases e) hitd (fun _ _ _ e => by cases e) ⟨rfl, M, hmm, ?_⟩
      exact World.putObj_heap_same (Array.getElem?_eq_some_iff.1 hit).1
    · intro c' o hc' hn'
      refine ⟨?_, hn'⟩
      rw [List.getElem?_set_ne (by rintro rfl; rw [hm] at hn'; cases hn')]
      exact hc'
end
end Go.Proofs.YtdmfhdnpakgkpaaDoor.Sh

