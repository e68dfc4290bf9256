/- The shadow machine: arguments that are slices of pairs. -/
import Derived.Test.YtecncmmkghmojaaShZm
import Derived.OpenShut
import Derived.ChangeArms
set_option linter.all false
namespace Go.Proofs.Ytecncmmkghmojaa.Sh
open Go Go.RowKit
set_option linter.unusedVariables false

theorem e_bool (a b : Bool) : eqS .bool (.bool a) (.bool b) = some (a == b) := (rfl)
theorem beq_tt : (true == true) = true := (rfl)
theorem beq_tf : (true == false) = false := (rfl)
theorem beq_ft : (false == true) = false := (rfl)
theorem beq_ff : (false == false) = true := (rfl)
attribute [go_sem ↓] e_bool
theorem wrap_0 : IntKind.i64.wrap 0 = 0 := by decide
theorem wrap_1 : IntKind.i64.wrap 1 = 1 := by decide
attribute [go_sem] wrap_0 wrap_1 beq_tt beq_tf beq_ft beq_ff

/-- what the machine answers at a heap that the world bears, the world answers -/
theorem walk_rel {P : Program} {FT : FuncId → Option SFunc} {C : FuncId → List Value → Option Value} (hmix : P.follows .mixedOrders = true) (hT : Tab P FT) (hC : ContractOK P C) {W : World} {m : Mp} {h : SHeap} (r : Rel ⟨P, W.heap.size, W⟩ m h W)
    {f : FuncId} {args args' : List Value} {v : Value} {h' : SHeap} {d' : List Nat} (hl : LR m args args') (hs : (big FT C).call f args h = some (v, h', d')) (hv : flat 3 v = true) :
    Calls P f args'.toArray W (fun e W' => e = .returned v ∧ Below W.heap.size W W') := by
  refine callsIn_wide.1 (CallsIn.mono ((big_ok hmix hT hC W.heap.size W f args h v h' d' m W args' hs r hl).2 0) ?_)
  intro e w' he
  cases e with
  | returned v' =>
    obtain ⟨m', q1, q2, q3, q4⟩ := he
    rw [flat_eq 3 v v' hv q1]
    exact ⟨rfl, q3.below⟩
  | panicked c => exact he.elim
  | outgrown => exact he.elim

/-- one block that is only read -/
theorem Rel.one {P : Program} {W : World} {A δ : Nat} {rcs : Array Value} {rel : TypeId} {fr : Nat × Nat} (hA : W.heap[A]? = some (.cells rcs rel fr)) {cs : List Value} (hsc : cs.all sc = true) (el : TypeId)
    (hcs : ∀ (i : Nat) (x : Value), cs[i]? = some x → rcs[δ + i]? = some x) : Rel ⟨P, W.heap.size, W⟩ [some ((A, δ), none)] [.cells cs el true 3 []] W := by
  have hlt : A < W.heap.size := (Array.getElem?_eq_some_iff.1 hA).1
  have hat : ∀ b A' δ', Mp.at [some ((A, δ), none)] b = some (A', δ') → b = 0 ∧ A' = A ∧ δ' = δ := by
    intro b A' δ' h
    have := Mp.at_lt h
    simp at this
    subst this
    simp [Mp.at, Mp.full] at h
    exact ⟨rfl, h.1.symm, h.2.symm⟩
  have hcp : ∀ b p, Mp.cp [some ((A, δ), none)] b = some p → False := by
    intro b p h
    cases b with
    | zero => simp [Mp.cp, Mp.full] at h
    | succ b => simp [Mp.cp, Mp.full] at h
  have h0 : ∀ (b : Nat) (o : SO), ([.cells cs el true 3 []] : SHeap)[b]? = some o → b = 0 ∧ o = .cells cs el true 3 [] := by
    intro b o h
    cases b with
    | zero => simp at h; exact ⟨rfl, h.symm⟩
    | succ b => simp at h
  refine ⟨rfl, ?_, ?_, ?_, ?_, ?_, ?_, Below.refl _ _, Nat.le_refl _⟩
  · intro b A' δ' h
    obtain ⟨rfl, rfl, rfl⟩ := hat _ _ _ h
    exact hlt
  · intro b o A' δ' hb h
    obtain ⟨rfl, rfl, rfl⟩ := hat _ _ _ h
    obtain ⟨_, rfl⟩ := h0 _ _ hb
    refine .inr ⟨rcs, rel, fr, hA, ?_, .inl rfl, fun _ => hsc, fun c hc => by simp at hc⟩
    intro i x hx
    refine ⟨x, hcs i x hx, ?_⟩
    have : sc x = true := List.all_eq_true.1 hsc x (List.mem_of_getElem? hx)
    cases x <;> first | (cases this; done) | constructor
  · intro b o A' δ' hb h _ hro
    obtain ⟨_, rfl⟩ := h0 _ _ hb
    simp [isRO] at hro
  · intro b1 b2 o1 o2 A' δ1 δ2 hne h1 h2
    obtain ⟨rfl, _⟩ := h0 _ _ h1
    obtain ⟨rfl, _⟩ := h0 _ _ h2
    exact (hne rfl).elim
  · intro b A' δ' K s _ h
    exact (hcp _ _ h).elim
  · intro b K s cs' el' pf own old _ h
    exact (hcp _ _ h).elim

section
variable {H : Type} {enc : TypeId × Value → H} {P : Program} {w : World} {base : Nat} {spare : Nat → Bool} {held : Bool}
open DataW in
/-- a pair of integers, opened -/
theorem open_pr {e e2 : TypeId} {fuel : Nat} {cs : List Value} {x : DataW H × List MemPlace} (he : P.underlying e = some (.array 2 e2)) (hi : P.underlying e2 = some (.int .i64)) (hc : P.cellsOf e = 2) (hc2 : P.cellsOf e2 = 1)
    (h : DataW.trod enc P w base spare held fuel e cs = some x) : ∃ a b : Int, cs = [.int .i64 a, .int .i64 b] ∧ (Lit.int .i64 a).wf = true ∧ (Lit.int .i64 b).wf = true := by
  obtain ⟨xs, m, rfl, _, hl, hx, hj⟩ := DataW.trod_array he h
  rw [hc] at hl
  rw [hc2] at hj
  match cs, hl with
  | [c0, c1], _ =>
    have j0 := hj 0 (by omega)
    have j1 := hj 1 (by omega)
    simp only [Nat.zero_mul, Nat.one_mul, List.drop_zero, List.drop_succ_cons, List.take_succ_cons, List.take_zero] at j0 j1
    obtain ⟨y0, hy0⟩ : ∃ y, xs[0]? = some y := ⟨_, List.getElem?_eq_getElem (by omega)⟩
    obtain ⟨y1, hy1⟩ : ∃ y, xs[1]? = some y := ⟨_, List.getElem?_eq_getElem (by omega)⟩
    rw [hy0] at j0
    rw [hy1] at j1
    obtain ⟨n0, e0, _, w0⟩ := DataW.trod_int hi j0
    obtain ⟨n1, e1, _, w1⟩ := DataW.trod_int hi j1
    simp at e0 e1
    exact ⟨n0, n1, by rw [e0, e1], w0, w1⟩

theorem add_at {a : Addr} (hs : a.spot = none) (n : Nat) : a.add n = ⟨a.block, a.off + n, none⟩ := by
  unfold Addr.add
  split
  · rename_i h; subst h; cases a; simp at hs; subst hs; rfl
  · rfl

/-- a slice of pairs, opened -/
theorem open_prs {t e e2 : TypeId} {fuel : Nat} {a : Addr} {len cap : Nat} {x : DataW H × List MemPlace} (ht : P.underlying t = some (.slice e)) (he : P.underlying e = some (.array 2 e2)) (hi : P.underlying e2 = some (.int .i64)) (hc : P.cellsOf e = 2) (hc2 : P.cellsOf e2 = 1)
    (hs : a.spot = none) (h : DataW.trod enc P w base spare held fuel t [.slice (some a) len cap] = some x) :
    ∃ l : List (Int × Int), l.length = len ∧ len ≤ cap ∧ cap ≤ maxLen ∧ ∀ (i : Nat) (p : Int × Int), l[i]? = some p → w.cell? ⟨a.block, a.off + 2 * i, none⟩ = some (.int .i64 p.1) ∧ w.cell? ⟨a.block, a.off + (2 * i + 1), none⟩ = some (.int .i64 p.2) ∧ (Lit.int .i64 p.1).wf = true ∧ (Lit.int .i64 p.2).wf = true := by
  rcases DataW.trod_slice ht h with ⟨h1, _⟩ | ⟨a', len', cap', elems, rest, n, rfl, h1, _, hb, hl, hm, hlen, hel, _⟩
  · simp at h1
  · simp only [List.cons.injEq, Value.slice.injEq, Option.some.injEq, and_true] at h1
    obtain ⟨rfl, rfl, rfl⟩ := h1
    have each : ∀ i, i < len → ∃ p : Int × Int, w.cell? ⟨a.block, a.off + 2 * i, none⟩ = some (.int .i64 p.1) ∧ w.cell? ⟨a.block, a.off + (2 * i + 1), none⟩ = some (.int .i64 p.2) ∧ (Lit.int .i64 p.1).wf = true ∧ (Lit.int .i64 p.2).wf = true := by
      intro i hi'
      have h2 := hel i hi'
      obtain ⟨y, hy⟩ : ∃ y, elems[i]? = some y := ⟨_, List.getElem?_eq_getElem (by omega)⟩
      rw [hy, Option.bind_eq_some_iff] at h2
      obtain ⟨cs, h3, h4⟩ := h2
      obtain ⟨p, q, rfl, wp, wq⟩ := open_pr he hi hc hc2 h4
      rw [hc] at h3
      unfold World.cells? at h3
      split at h3
      · have k0 := mapM_some_get h3 0 0 (by simp)
        have k1 := mapM_some_get h3 1 1 (by simp)
        have hs2 : (a.add (i * 2)).spot = none := by rw [add_at hs]
        rw [add_at hs2, add_at hs] at k0 k1
        simp only [Nat.add_zero] at k0 k1
        refine ⟨(p, q), ?_, ?_, wp, wq⟩
        · rw [Nat.mul_comm 2 i]; simpa using k0
        · rw [Nat.mul_comm 2 i, ← Nat.add_assoc]; simpa using k1
      · cases h3
    refine ⟨(List.range len).pmap (fun i hi => Classical.choose (each i hi)) (fun i hi => List.mem_range.1 hi), by simp, hl, hm, ?_⟩
    intro i p hp
    rw [List.getElem?_eq_some_iff] at hp
    obtain ⟨hil, rfl⟩ := hp
    simp at hil
    simp only [List.getElem_pmap, List.getElem_range]
    exact Classical.choose_spec (each i hil)
end

/-- the cells of pairs, read one by one -/
theorem prs_cells : ∀ (l : List (Int × Int)) (f : Nat → Option Value), (∀ (i : Nat) (p : Int × Int), l[i]? = some p → f (2 * i) = some (.int .i64 p.1) ∧ f (2 * i + 1) = some (.int .i64 p.2)) →
    ∀ (i : Nat) (x : Value), (prs l)[i]? = some x → f i = some x
  | [], f, h, i, x, hx => by simp [prs] at hx
  | p :: l, f, h, i, x, hx => by
    match i with
    | 0 => simp [prs] at hx; subst hx; exact (h 0 p rfl).1
    | 1 => simp [prs] at hx; subst hx; exact (h 0 p rfl).2
    | i + 2 =>
      simp [prs] at hx
      refine prs_cells l (fun i => f (i + 2)) ?_ i x hx
      intro j q hq
      have := h (j + 1) q (by simpa using hq)
      exact ⟨this.1, this.2⟩

/-- a slice of pairs in the heap -/
def PS (h : SHeap) (v : Value) (l : List (Int × Int)) : Prop := ∃ a c, v = .slice a l.length c ∧ (l ≠ [] → ∃ b o, a = some ⟨b, o, none⟩ ∧ Prs h b o l)
/-- one that came from outside: its capacity is known -/
def ArgS (h : SHeap) (v : Value) (l : List (Int × Int)) : Prop := ∃ a c, v = .slice a l.length c ∧ l.length ≤ c ∧ c < UNK ∧ ((a = none ∧ l = []) ∨ ∃ b o, a = some ⟨b, o, none⟩ ∧ (l ≠ [] → Prs h b o l))
theorem PS.app {h : SHeap} {v : Value} {l : List (Int × Int)} (k : PS h v l) (h' : SHeap) : PS (h ++ h') v l := by
  obtain ⟨a, c, rfl, k⟩ := k
  exact ⟨a, c, rfl, fun hn => let ⟨b, o, e, p⟩ := k hn; ⟨b, o, e, p.app h'⟩⟩
theorem ArgS.app {h : SHeap} {v : Value} {l : List (Int × Int)} (k : ArgS h v l) (h' : SHeap) : ArgS (h ++ h') v l := by
  obtain ⟨a, c, rfl, k1, k2, k⟩ := k
  exact ⟨a, c, rfl, k1, k2, k.imp id (fun ⟨b, o, e, p⟩ => ⟨b, o, e, fun hn => (p hn).app h'⟩)⟩
theorem ArgS.ps {h : SHeap} {v : Value} {l : List (Int × Int)} (k : ArgS h v l) : PS h v l := by
  obtain ⟨a, c, rfl, k1, k2, k⟩ := k
  refine ⟨a, c, rfl, fun hn => ?_⟩
  rcases k with ⟨_, rfl⟩ | ⟨b, o, e, p⟩
  · exact (hn rfl).elim
  · exact ⟨b, o, e, p hn⟩

theorem Prs.mk0 {h : SHeap} {b : Nat} {l : List (Int × Int)} {el : TypeId} {pf : Bool} {own : Nat} {old : List Nat} (hb : h[b]? = some (.cells (prs l) el pf own old)) (ho : readable own = true) : Prs h b 0 l :=
  ⟨[], [], el, pf, own, old, by rw [List.nil_append, List.append_nil]; exact hb, ho, rfl⟩
theorem Prs.seen {h : SHeap} {b o : Nat} {l : List (Int × Int)} (k : Prs h b o l) {n : Nat} (hn : n ≤ l.length) : rdN h b o (n * 2) = some (prs (l.take n)) := by
  obtain ⟨pre, post, el, pf, own, old, h1, h2, rfl⟩ := k
  rw [rdN_def, h1]
  dsimp only
  have hl : pre.length + n * 2 ≤ (pre ++ (prs l ++ post)).length := by
    simp only [List.length_append, prs_len]; omega
  rw [h2, ble_dec, decide_eq_true hl, if_pos (by rfl)]
  rw [List.drop_left, List.take_append_of_le_length (by rw [prs_len]; omega), Nat.mul_comm n 2, prs_take]

theorem append_prs {h : SHeap} {b o n c base : Nat} {d : List Nat} {l : List (Int × Int)} {el : TypeId} (k : Prs h b o l) (hn : n ≤ l.length) (h0 : n ≠ 0) (hm : n * 16 ≤ 140737488355328) :
    appendS base h d el true 2 16 (.slice none 0 0) (.slice (some ⟨b, o, none⟩) n c) = some (.slice (some ⟨h.length, 0, none⟩) n (UNK + 2), h ++ [.cells (prs (l.take n)) el true 0 []], d) := by
  have e1 : (n == 0) = false := beq_eq_false_iff_ne.2 h0
  unfold appendS
  simp only [lenS, e1, if_false, Bool.false_eq_true, Nat.zero_add, seenS, k.seen hn]
  simp [ble_dec, blt_dec, hm, prs_one, prs_sc]

theorem gc_block {h g : SHeap} {j n c o : Nat} {cs : List Value} {el : TypeId} {own : Nat} {old : List Nat} (hj : g[j]? = some (.cells cs el true own old)) (ho : (own == 2) = false) :
    gcS h.length (.slice (some ⟨h.length + j, o, none⟩) n c) (h ++ g) = some (.slice (some ⟨h.length, o, none⟩) n c, h ++ [.cells cs el true own (old.filterMap (ren h.length [h.length + j]))]) := by
  have e0 : (h ++ g)[h.length + j]? = some (.cells cs el true own old) := by rw [app_get, hj]
  have eb : Nat.ble h.length (h.length + j) = true := by rw [ble_dec]; simp
  have e1 : reach h.length (h ++ g) 1000000 [h.length + j] [] = [h.length + j] := by
    rw [show (1000000 : Nat) = 999998 + 1 + 1 from rfl, reach]
    simp only [eb, List.contains_nil, Bool.not_true, Bool.or_self, Bool.false_eq_true, if_false, e0, ptrsO, Bool.true_or, if_true, List.nil_append]
    rw [reach]
  have e2 : ren h.length [h.length + j] (h.length + j) = some h.length := by
    simp [ren, eb, posOf]
  unfold gcS
  simp only [ptrs, ptr1, e1, renV, e2, mapO, renO, e0, ho, Bool.false_eq_true, if_false, if_true, take_app]
theorem gc_nil {h : SHeap} {base n c : Nat} : gcS base (.slice none n c) h = some (.slice none n c, h.take base) := by
  unfold gcS
  have : ptrs 3 (.slice none n c) = [] := rfl
  rw [this]
  rw [show (1000000 : Nat) = 999999 + 1 from rfl, reach]
  simp [renV, mapO]
theorem q_gc1 {base : Nat} {i : Nat} {ρ : Reg} {h h' : SHeap} {a a' : Option Addr} {n c n' c' : Nat} (hv : ρ i = .slice a n c) (hg : gcS base (.slice a n c) h = some (.slice a' n' c', h')) : callQ [.tmp i] base (.slice a' n' c', h', []) .ret ρ [] h [] := by
  refine ⟨rfl, ?_⟩
  show opn (ρ i) fun v' => endW base h [] (.slice a' n' c', h', []) [v']
  rw [hv]
  exact ⟨_, _, hg, rfl⟩

/-- how a slice of pairs lies in the world -/
def IsPrs (W : World) (a : Option Addr) (len cap : Nat) (l : List (Int × Int)) : Prop :=
  (a = none ∧ len = 0 ∧ cap = 0 ∧ l = []) ∨ ∃ x : Addr, a = some x ∧ x.spot = none ∧ l.length = len ∧ len ≤ cap ∧ cap ≤ maxLen ∧
    (∃ rcs rel fr, W.heap[x.block]? = some (.cells rcs rel fr) ∧ ∀ (i : Nat) (v : Value), (prs l)[i]? = some v → rcs[x.off + i]? = some v) ∧ ∀ p ∈ l, (Lit.int .i64 p.1).wf = true ∧ (Lit.int .i64 p.2).wf = true

theorem isPrs_of {H : Type} {enc : TypeId × Value → H} {P : Program} {W : World} {base b0 : Nat} {spare : Nat → Bool} {held : Bool} {t e e2 : TypeId} {a : Option Addr} {len cap : Nat} {d : DataW H} {ps : List MemPlace}
    (ht : P.underlying t = some (.slice e)) (he : P.underlying e = some (.array 2 e2)) (hi : P.underlying e2 = some (.int .i64)) (hc : P.cellsOf e = 2) (hc2 : P.cellsOf e2 = 1)
    (hval : Value.okWide P W .any b0 t (.slice a len cap)) (h : DataW.Trod enc P W base spare held t (.slice a len cap) d ps) : ∃ l, IsPrs W a len cap l := by
  obtain ⟨fuel, hf⟩ := h
  have hf' : DataW.trod enc P W base spare held fuel t [.slice a len cap] = some (d, ps) := hf
  cases a with
  | none =>
    rcases DataW.trod_slice ht hf' with ⟨h1, _⟩ | ⟨a', len', cap', elems, rest, n, rfl, h1, _⟩
    · simp at h1
      exact ⟨[], .inl ⟨rfl, h1.1, h1.2, rfl⟩⟩
    · simp at h1
  | some x =>
    have hk : x.spot = none ∧ ∃ row cells, W.shape? x.block = some (row, cells) := by
      simp only [Value.okWide, ht, Cell.okWide, Cell.ok, World.has] at hval
      obtain ⟨_, _, _, h2, row, cells, h3, _⟩ := hval
      exact ⟨h2, row, cells, h3⟩
    obtain ⟨hs, row, cells, hsh⟩ := hk
    obtain ⟨l, h1, h2, h3, h4⟩ := open_prs ht he hi hc hc2 hs hf'
    obtain ⟨rcs, rel, fr, hA⟩ : ∃ rcs rel fr, W.heap[x.block]? = some (.cells rcs rel fr) := by
      unfold World.shape? at hsh
      split at hsh
      · rename_i c el fr hx; exact ⟨c, el, fr, hx⟩
      · cases hsh
    have hcell : ∀ o, W.cell? ⟨x.block, o, none⟩ = rcs[o]? := by
      intro o
      simp only [World.cell?, hA]
      rfl
    refine ⟨l, .inr ⟨x, rfl, hs, h1, h2, h3, ⟨rcs, rel, fr, hA, ?_⟩, ?_⟩⟩
    · refine prs_cells l (fun i => rcs[x.off + i]?) ?_
      intro i p hp
      have := h4 i p hp
      rw [hcell, hcell] at this
      exact ⟨this.1, this.2.1⟩
    · intro p hp
      obtain ⟨i, hi'⟩ := List.getElem?_of_mem hp
      have := h4 i p hi'
      exact ⟨this.2.2.1, this.2.2.2⟩

/-- from the machine to the world: the first argument a slice of pairs, the others without addresses -/
theorem walk_prs {P : Program} {FT : FuncId → Option SFunc} {C : FuncId → List Value → Option Value} (hmix : P.follows .mixedOrders = true) (hT : Tab P FT) (hC : ContractOK P C) {W : World} {a : Option Addr} {len cap : Nat} {l : List (Int × Int)}
    (hl : IsPrs W a len cap l) {f : FuncId} {rest : List Value} (hr : rest.all (flat 3) = true) {v : Value} (hv : flat 3 v = true)
    (hs : ∀ (h : SHeap) (u : Value), ArgS h u l → ∃ h' d', (big FT C).call f (u :: rest) h = some (v, h', d')) :
    Calls P f (Value.slice a len cap :: rest).toArray W (fun e W' => e = .returned v ∧ Below W.heap.size W W') := by
  have hrest : ∀ (m : Mp) (u u' : Value), VR m u u' → LR m (u :: rest) (u' :: rest) := by
    intro m u u' hu
    refine ⟨rfl, fun i x y hx hy => ?_⟩
    cases i with
    | zero => cases hx; cases hy; exact hu
    | succ i =>
      simp only [List.getElem?_cons_succ] at hx hy
      rw [hx] at hy; cases hy
      exact flat_VR 3 x (List.all_eq_true.1 hr x (List.mem_of_getElem? hx))
  rcases hl with ⟨rfl, rfl, rfl, rfl⟩ | ⟨x, rfl, hsp, hlen, hle, hm, ⟨rcs, rel, fr, hA, hcs⟩, hwf⟩
  · obtain ⟨h', d', e⟩ := hs [] (.slice none 0 0) ⟨none, 0, rfl, by simp, by decide, .inl ⟨rfl, rfl⟩⟩
    exact walk_rel hmix hT hC (Rel.empty P W) (hrest _ _ _ .sl0) e hv
  · have hlt : cap < UNK := Nat.lt_of_le_of_lt hm (by decide)
    obtain ⟨h', d', e⟩ := hs [.cells (prs l) 0 true 3 []] (.slice (some ⟨0, 0, none⟩) len cap) ⟨_, cap, by rw [hlen], by omega, hlt, .inr ⟨0, 0, rfl, fun _ => Prs.mk0 rfl rfl⟩⟩
    have hx : x = ⟨x.block, x.off + 0, none⟩ := by cases x; simp at hsp; subst hsp; rfl
    refine walk_rel hmix hT hC (Rel.one hA (prs_sc l) 0 hcs) (hrest _ _ _ ?_) e hv
    rw [hx]
    exact .sl rfl hle (.inl ⟨rfl, hlt⟩)
end Go.Proofs.Ytecncmmkghmojaa.Sh
