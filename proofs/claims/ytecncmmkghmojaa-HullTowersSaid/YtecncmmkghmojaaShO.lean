/- The shadow machine: operations that make a block. -/
import Derived.Test.YtecncmmkghmojaaShN
import Derived.Laws.NewFold
import Derived.Laws.BitsLemmas
set_option linter.all false
namespace Go.Proofs.Ytecncmmkghmojaa.Sh
open Go Go.RowKit

section
variable {P : Program} {nt : Nat} {m : Mp} {t : T} {a : Act}

/-- a computation that lays the cells cs in a new block b, and answers mk b -/
def MadeBy (P : Program) (m : Mp) (s : Sem Value) (cs : List Value) (el : TypeId) (mk : Nat → Value) : Prop :=
  ∃ (cs' : List Value) (mk' : Nat → Value), LR m cs cs' ∧ (∀ w, s.run P w = .ok (mk' w.heap.size) (w.alloc (.cells cs'.toArray el))) ∧ ∀ (m' : Mp) (b A : Nat), m'.at b = some (A, 0) → VR m' (mk b) (mk' A)

theorem newS_some {h h' : SHeap} {sl : Option Nat} {cs : List Value} {el : TypeId} {pf : Bool} {b : Nat} (hs : newS h sl cs el pf = some (b, h')) :
    (pf = true → cs.all sc = true) ∧ ((sl = none ∧ b = h.length ∧ h' = h ++ [.cells cs el pf 0 []]) ∨ (sl = some b ∧ h[b]? = some .gone ∧ h' = h.set b (.cells cs el pf 0 []))) := by
  unfold newS at hs
  split at hs
  case isFalse => cases hs
  rename_i hp
  refine ⟨fun e => by subst e; simpa using hp, ?_⟩
  split at hs
  · cases hs; exact .inl ⟨rfl, rfl, rfl⟩
  · split at hs
    · rename_i hb; cases hs; exact .inr ⟨rfl, hb, rfl⟩
    · cases hs

theorem MadeBy.push {E : Env} {h : SHeap} {w : World} (r : Rel E m h w) {s : Sem Value} {cs : List Value} {el : TypeId} {mk : Nat → Value} (k : MadeBy E.P m s cs el mk) {pf : Bool} (hp : pf = true → cs.all sc = true) :
    DoesV E m h s w (mk h.length) (h ++ [.cells cs el pf 0 []]) := by
  obtain ⟨cs', mk', h1, h2, h3⟩ := k
  refine ⟨_, _, m ++ [some ((w.heap.size, 0), none)], h2 w, h3 _ _ _ (by rw [← r.len, Mp.at_snoc]; rfl), Mp.le_append _ _, ?_, Ghost.push r.len⟩
  refine Rel.push (o := .cells cs el pf 0 []) (ob := .cells cs'.toArray el) r rfl none (fun w' hw' => ?_) (fun K s e => by cases e)
  exact or_cells (cs' := cs') hw' (h1.mono (Mp.le_append _ _)) (fun i y hy => by simpa using hy) hp (fun c hc => by cases hc)

theorem MadeBy.place {E : Env} {h : SHeap} {w : World} (r : Rel E m h w) {s : Sem Value} {cs : List Value} {el : TypeId} {mk : Nat → Value} (k : MadeBy E.P m s cs el mk) {pf : Bool} (hp : pf = true → cs.all sc = true)
    {b : Nat} (hm : m.at b = none) (hb : h[b]? = some (.cells cs el pf 0 [])) :
    ∃ v' w' m', s.run E.P w = .ok v' w' ∧ VR m' (mk b) v' ∧ m.le m' ∧ Rel E m' h w' ∧ ∀ c, c ≠ b → m'.at c = m.at c := by
  obtain ⟨cs', mk', h1, h2, h3⟩ := k
  have hlt : b < h.length := (List.getElem?_eq_some_iff.1 hb).1
  have hltm : b < m.length := by rw [r.len]; exact hlt
  have hset : h.set b (.cells cs el pf 0 []) = h := by
    apply List.ext_getElem?
    intro i
    rw [List.getElem?_set]
    split
    · rename_i e; subst e; exact hb.symm
    · rfl
  refine ⟨_, _, m.set b (some ((w.heap.size, 0), none)), h2 w, h3 _ _ _ (by rw [Mp.at_set_same hltm]; rfl), Mp.le_set hm, ?_, fun c hc => Mp.at_set_ne (fun e => hc e.symm)⟩
  have := Rel.place (o := .cells cs el pf 0 []) (ob := .cells cs'.toArray el) r hm hlt rfl (fun w' hw' => or_cells (cs' := cs') hw' (h1.mono (Mp.le_set hm)) (fun i y hy => by simpa using hy) hp (fun c hc => by cases hc))
  rw [hset] at this
  exact this

/-- the cells, the type and the value of an operation that makes a block -/
def opMade (o : SOp) (t : T) : Option (List Value × TypeId × Bool × (Nat → Value)) :=
  match o with
  | .alloc el pf zero => some (zero, el, pf, fun b => .pointer (some ⟨b, 0, none⟩))
  | .box el pf x => match ev t x with
    | some v => some (cellsL v, el, pf, fun b => .pointer (some ⟨b, 0, none⟩))
    | none => none
  | .buildSlice el pf zero len parts => match evp t parts with
    | some ps => match fillS (repeatL zero len) ps with
      | some l => some (l, el, pf, fun b => .slice (some ⟨b, 0, none⟩) len len)
      | none => none
    | none => none
  | _ => none

theorem opMade_run {R : Rec} {cx : Cx} {sl : Option Nat} {o : SOp} {t : T} {h h' : SHeap} {d d' : List Nat} {v : Value} (hmk : makes o = true) (hs : opRun R cx sl o t h d = some (v, h', d')) :
    ∃ cs el pf mk b, opMade o t = some (cs, el, pf, mk) ∧ newS h sl cs el pf = some (b, h') ∧ v = mk b ∧ d' = d := by
  cases o <;> simp only [makes, Bool.false_eq_true] at hmk
  · simp only [opRun, o_alloc] at hs
    split at hs
    · rename_i b h2 hn; cases hs; exact ⟨_, _, _, _, b, rfl, hn, rfl, rfl⟩
    · cases hs
  · simp only [opRun, o_box] at hs
    split at hs
    · rename_i u hu
      split at hs
      · rename_i b h2 hn; cases hs; exact ⟨cellsL u, _, _, fun b => .pointer (some ⟨b, 0, none⟩), b, by simp only [opMade, hu], hn, rfl, rfl⟩
      · cases hs
    · cases hs
  · simp only [opRun, o_buildSlice] at hs
    split at hs
    · rename_i ps hps
      split at hs
      · rename_i l hl
        split at hs
        · rename_i b h2 hn; cases hs; exact ⟨l, _, _, fun b => .slice (some ⟨b, 0, none⟩) _ _, b, by simp only [opMade, hps, hl], hn, rfl, rfl⟩
        · cases hs
      · cases hs
    · cases hs

theorem run_zeroValue' {P : Program} {e : TypeId} {i : TypeInfo} {v : Value} (hi : P.info? e = some i) (hz : i.zero = some v) (w : World) : (zeroValue e).run P w = .ok v w := by
  simp [zeroValue, typeInfo, hi, hz]

theorem made_alloc {el : TypeId} {z : List Value} (hz : zeroOf P el = some z) : MadeBy P m (Instr.alloc el true (.tuple #[])) z el (fun b => .pointer (some ⟨b, 0, none⟩)) := by
  obtain ⟨i, v, hi, hv, hp, rfl⟩ := zero_info hz
  refine ⟨v.cells.toList, fun b => .pointer (some ⟨b, 0, none⟩), (VR.plain hp).cells, fun w => ?_, fun m' b A hb => .ptr hb⟩
  unfold Instr.alloc
  simp [run_zeroValue' hi hv, newVar, newRow]

theorem made_box {el : TypeId} (ht : TR nt m t a.tmps) {x : Operand} (hx : okO x = true) {v : Value} (hv : ev t x = some v) : MadeBy P m (Instr.box el (a.eval x)) (cellsL v) el (fun b => .pointer (some ⟨b, 0, none⟩)) := by
  refine ⟨(a.eval x).cells.toList, fun b => .pointer (some ⟨b, 0, none⟩), (ev_sim ht hx hv).cells, fun w => ?_, fun m' b A hb => .ptr hb⟩
  unfold Instr.box
  simp [newVar, newRow]

theorem repeatL_get (z : List Value) (n i : Nat) : (repeatL z n)[i]? = if i < n * z.length then z[i % z.length]? else none := by
  induction n generalizing i with
  | zero => simp [repeatL]
  | succ n ih =>
    rw [repeatL]
    by_cases hi : i < z.length
    · rw [List.getElem?_append_left hi, Nat.mod_eq_of_lt hi, if_pos (by rw [Nat.succ_mul]; omega)]
    · rw [List.getElem?_append_right (by omega), ih, Nat.succ_mul]
      by_cases h2 : i - z.length < n * z.length
      · rw [if_pos h2, if_pos (by omega)]
        congr 1
        have : i = i - z.length + z.length := by omega
        rw [this, Nat.add_mod_right]
        simp
      · rw [if_neg h2, if_neg (by omega)]
theorem repeatL_len (z : List Value) (n : Nat) : (repeatL z n).length = n * z.length := by
  induction n with
  | zero => simp [repeatL]
  | succ n ih => rw [repeatL, List.length_append, ih, Nat.succ_mul]; omega
theorem LR.repeatL {z z' : List Value} (h : LR m z z') (n : Nat) : LR m (repeatL z n) (repeatL z' n) := by
  induction n with
  | zero => exact LR.nil m
  | succ n ih => exact h.append ih
theorem range_repeat (z : Array Value) (n : Nat) : ((Array.range (n * z.size)).map (fun i => z[i % z.size]!)).toList = repeatL z.toList n := by
  apply List.ext_getElem?
  intro i
  rw [repeatL_get]
  simp only [Array.toList_map, Array.toList_range, List.getElem?_map, Array.length_toList]
  by_cases hi : i < n * z.size
  · rw [if_pos hi, List.getElem?_range hi]
    have hpos : 0 < z.size := by
      rcases Nat.eq_zero_or_pos z.size with h0 | h0
      · rw [h0] at hi; simp at hi
      · exact h0
    have hm : i % z.size < z.size := Nat.mod_lt _ hpos
    simp [hm]
  · rw [if_neg hi, List.getElem?_eq_none (by simp; omega)]
    rfl

theorem made_buildSlice {ty e : TypeId} {s len : Nat} {z : List Value} (hu : P.underlying ty = some (.slice e)) (hsz : szOf P e = some s) (hz : zeroOf P e = some z) (hzl : z.length = s) (hsp : 0 < s) (hcap : len * s ≤ 16777216) (ht : TR nt m t a.tmps)
    {parts : Array (Nat × Operand)} {l : List (Nat × Nat × Operand)} (hc : compParts (fun i => some (i * s, s)) parts.toList = some l) {ps : List (Nat × Nat × Value)} (hps : evp t l = some ps) {out : List Value} (ho : fillS (repeatL z len) ps = some out) :
    MadeBy P m (Instr.buildSlice ty len (parts.map fun (i, x) => (i, a.eval x))) out e (fun b => .slice (some ⟨b, 0, none⟩) len len) := by
  obtain ⟨i, v, hi, hv, hp, rfl⟩ := zero_info hz
  obtain ⟨i2, hi2, rfl⟩ := sz_info hsz
  rw [hi] at hi2; cases hi2
  have hcl := (VR.plain (m := m) hp).cells
  have hvs : v.cells.size = i.size := by have := hcl.1; simp at this; omega
  have hlr : LR m (repeatL (cellsL v) len) ((Array.range (len * i.size)).map (fun j => v.cells[j % v.cells.size]!)).toList := by
    rw [← hvs, range_repeat]; exact hcl.repeatL len
  obtain ⟨out', h3, h4⟩ := fill_sim hc ht hps hlr ho
  refine ⟨out'.toList, fun b => .slice (some ⟨b, 0, none⟩) len len, h4, fun w => ?_, fun m' b A hb => ?_⟩
  · unfold Instr.buildSlice
    have hnot : ¬ (16777216 < len * i.size) := by omega
    by_cases h0 : len * i.size = 0
    · have hl0 : len = 0 := by
        rcases Nat.mul_eq_zero.1 h0 with h | h
        · exact h
        · omega
      subst hl0
      have hr0 : Array.range 0 = #[] := rfl
      simp [hr0] at h3
      simp [run_underlying hu, sizeOf, typeInfo, hi, h3, newRow, hr0]
    · have h0' : ¬ (len = 0 ∨ i.size = 0) := by
        intro h; apply h0; rcases h with h | h <;> simp [h]
      have h3' : Instr.fill (fun i_1 => some (i_1 * i.size, i.size)) (Array.map (fun j => v.cells[j % v.cells.size]!) (Array.range (len * i.size))) (List.map (fun p => (p.1, a.eval p.2)) parts.toList) = some out' := h3
      simp [run_underlying hu, sizeOf, typeInfo, hi, hnot, h0, zeroValue, hv, h3', newRow]
  · by_cases hl : len = 0
    · subst hl; exact .sl (δ := 0) hb (by omega) (.inl ⟨rfl, by decide⟩)
    · have : len ≤ len * i.size := Nat.le_mul_of_pos_right _ hsp
      exact .sl (δ := 0) hb (Nat.le_refl _) (.inl ⟨rfl, by unfold UNK; omega⟩)

theorem made_makeSlice {ty e : TypeId} {i : TypeInfo} {z : List Value} (hu : P.underlying ty = some (.slice e)) (hi : P.info? e = some i) (hz : zeroOf P e = some z) (hzl : z.length = i.size) (hsp : 0 < i.size) {k k' : IntKind} {l c : Int}
    (h0 : 0 ≤ l) (h1 : l ≤ c) (h2 : c ≤ 1073741824) (h3 : c.toNat * i.bytes ≤ 140737488355328) :
    MadeBy P m (Instr.makeSlice ty (.int k l) (.int k' c)) (repeatL z c.toNat) e (fun b => .slice (some ⟨b, 0, none⟩) l.toNat c.toNat) := by
  obtain ⟨i2, v, hi2, hv, hp, rfl⟩ := zero_info hz
  rw [hi] at hi2; cases hi2
  have hcl := (VR.plain (m := m) hp).cells
  have hvs : v.cells.size = i.size := by have := hcl.1; simp at this; omega
  have hw : IntKind.i64.wrap l = l := by rw [IntKind.wrap_i64]; omega
  have hw2 : IntKind.i64.wrap c = c := by rw [IntKind.wrap_i64]; omega
  refine ⟨(repeatL v.cells.toList c.toNat), fun b => .slice (some ⟨b, 0, none⟩) l.toNat c.toNat, hcl.repeatL _, fun w => ?_, fun m' b A hb => ?_⟩
  · unfold Instr.makeSlice
    have hb : (i.bytes : Int) * c ≤ 140737488355328 := by
      have : c = (c.toNat : Int) := by omega
      rw [this]
      have : (i.bytes : Int) * (c.toNat : Int) = ((c.toNat * i.bytes : Nat) : Int) := by push_cast; rw [Int.mul_comm]
      omega
    have hb1 : ¬ (281474976710656 < (i.bytes : Int) * c) := by omega
    have hc0 : ¬ (c < 0) := by omega
    have hl0 : ¬ (l < 0) := by omega
    have hlc : ¬ (c < l) := by omega
    have hrr := range_repeat v.cells c.toNat
    have e1 : asInt (.int k l) = pure l := by simp [asInt, asIntOf]
    have e2 : asInt (.int k' c) = pure c := by simp [asInt, asIntOf]
    rw [hvs] at hrr
    by_cases h00 : c.toNat * i.size = 0
    · have hl00 : c.toNat = 0 := by
        rcases Nat.mul_eq_zero.1 h00 with h | h
        · exact h
        · omega
      have hr0 : Array.range 0 = #[] := rfl
      have hcz : c = 0 := by omega
      have hlz : l = 0 := by omega
      subst hcz hlz
      simp [run_underlying hu, sizeOf, typeInfo, hi, newRow, e1, e2, hw, hw2, hb1, hr0, repeatL]
    · simp [run_underlying hu, sizeOf, typeInfo, hi, h00, zeroValue, hv, newRow, e1, e2, hw, hw2, hb1, hc0, hl0, hlc, hvs]
      congr 2
      rw [← hrr]
  · exact .sl (δ := 0) hb (by omega) (.inl ⟨rfl, by unfold UNK; omega⟩)

theorem sim_makeSlice {E : Env} {h h' : SHeap} {d d' : List Nat} {w : World} (r : Rel E m h w) (ht : TR nt m t a.tmps) {ty e : TypeId} {i : TypeInfo} {z : List Value} (hu : E.P.underlying ty = some (.slice e)) (hi : E.P.info? e = some i) (hz : zeroOf E.P e = some z) (hzl : z.length = i.size) (hsp : 0 < i.size)
    {pf : Bool} {l c : Operand} (hl : okO l = true) (hc : okO c = true) {v : Value} (hs : o_makeSlice e pf i.bytes z l c t h d = some (v, h', d')) :
    Does E m h (do pure (Next.value (← Instr.makeSlice ty (a.eval l) (a.eval c)))) w v h' := by
  unfold o_makeSlice at hs
  split at hs
  case h_2 => cases hs
  rename_i k lv k' cv h1 h2
  split at hs
  case isFalse => cases hs
  rename_i hcond
  simp only [Bool.and_eq_true, decide_eq_true_eq, Nat.ble_eq] at hcond
  obtain ⟨⟨⟨c0, c1⟩, c2⟩, c3⟩ := hcond
  split at hs
  case h_2 => cases hs
  rename_i b h2' hn
  cases hs
  obtain ⟨hp, hcase⟩ := newS_some hn
  rcases hcase with ⟨_, rfl, rfl⟩ | ⟨hcase, _⟩
  · have e1 := (ev_sim ht hl h1).int_inv
    have e2 := (ev_sim ht hc h2).int_inv
    rw [e1, e2]
    exact (MadeBy.push r (made_makeSlice hu hi hz hzl hsp c0 c1 c2 c3) hp).does
  · cases hcase

theorem VR.slice_inv {p : Option Addr} {n c : Nat} {v : Value} (h : VR m (.slice p n c) v) : ∃ p' c', v = .slice p' n c' ∧ (p = none → p' = none) := by
  cases h with
  | sl0 => exact ⟨_, _, rfl, fun _ => rfl⟩
  | sl => exact ⟨_, _, rfl, fun h => by cases h⟩
  | slz => exact ⟨_, _, rfl, fun h => by cases h⟩

theorem run_storeL {E : Env} {h h' : SHeap} {d d' : List Nat} {w : World} (r : Rel E m h w) {base b o A δ : Nat} {vs vs' : List Value} (hst : storeS base h d b o vs = some (h', d')) (hm : m.at b = some (A, δ)) (hv : LR m vs vs') :
    (storeCells ⟨A, δ + o, none⟩ vs').run E.P w = .ok () (w.setCells A (δ + o) vs') ∧ Rel E m h' (w.setCells A (δ + o) vs') ∧ Ghost m h m h' := by
  obtain ⟨r2, k1, k2, k3, k4, k5⟩ := r.store hst hm hv
  have hst := run_storeCells_cells (P := E.P) A (δ + o) vs' 0 w (by simpa using k1) (by simpa using k2) k3
  simp only [Nat.add_zero] at hst
  exact ⟨hst, r2, k4⟩

theorem sim_copy {E : Env} {h h' : SHeap} {d d' : List Nat} {w : World} (r : Rel E m h w) (ht : TR nt m t a.tmps) {ty ty2 rt e : TypeId} {size : Nat} (hu : E.P.underlying ty = some (.slice e)) (hsz : szOf E.P e = some size) (hsp : 0 < size)
    {cx : Cx} {x y : Operand} (hx : okO x = true) (hy : okO y = true) {v : Value} (hs : o_copy cx size x y t h d = some (v, h', d')) :
    Does E m h (do pure (Next.value (← Builtin.copy_ #[ty, ty2] rt #[a.eval x, a.eval y]))) w v h' := by
  unfold o_copy at hs
  split at hs
  case h_2 => cases hs
  rename_i xv yv h1 h2
  have hxv := ev_sim ht hx h1
  have hyv := ev_sim ht hy h2
  generalize a.eval x = x' at hxv ⊢
  generalize a.eval y = y' at hyv ⊢
  unfold copyS at hs
  split at hs
  case h_2 => cases hs
  rename_i ad len cap mm hmm
  have hylen := lenS_sim hmm hyv
  simp only at hs
  split at hs
  case h_2 => cases hs
  rename_i new hnew
  obtain ⟨new', hln, hnl, hf⟩ := seen_run r hyv hnew (fun p c e => by subst e; cases hmm; simp)
  obtain ⟨p', c', rfl, hpn⟩ := hxv.slice_inv
  have hrun0 : ∀ u w', ((match p' with | some q => storeCells q new' | none => pure ()) : Sem Unit).run E.P w = .ok u w' →
      (Builtin.copy_ #[ty, ty2] rt #[.slice p' len c', y']).run E.P w = .ok (.int .i64 (Nat.min mm len : Nat)) w' := by
    intro u w' hr
    unfold Builtin.copy_
    cases p' with
    | none =>
      simp at hr
      subst hr
      simp [run_underlying hu, hylen, szOf_run hsz w, hf w rfl, goInt]
    | some q =>
      simp only at hr
      simp [run_underlying hu, hylen, szOf_run hsz w, hf w rfl, goInt, hr]
  split at hs
  · cases hs
    rw [hpn rfl] at hrun0 ⊢
    exact Does.pure r (run_v (hrun0 () w rfl)) (.int _ _)
  · rename_i b o
    split at hs
    · rename_i h0
      cases hs
      simp at h0
      have hnew0 : new' = [] := by
        have : new'.length = 0 := by rw [hnl]; show Nat.min mm len * size = 0; rw [show Nat.min mm len = 0 from by simpa using h0]; simp
        exact List.length_eq_zero_iff.1 this
      subst hnew0
      have e0 : Nat.min mm len = 0 := by simpa using h0
      refine Does.pure r (run_v (v := .int .i64 0) ?_) (.int _ _)
      have := hrun0 () w (by cases p' <;> rfl)
      rw [e0] at this
      exact this
    · rename_i hn0
      split at hs
      case h_2 => cases hs
      rename_i h3 d3 hst
      cases hs
      cases hxv with
      | slz => simp at hn0
      | sl hm hle hc =>
        obtain ⟨k1, k2, k3⟩ := run_storeL r hst hm hln
        exact ⟨_, _, m, .inl (run_v (hrun0 () _ k1)), .int _ _, m.le_refl, k2, k3⟩
  · cases hs

theorem sim_clear {E : Env} {h h' : SHeap} {d d' : List Nat} {w : World} (r : Rel E m h w) (ht : TR nt m t a.tmps) {ty rt e : TypeId} {i : TypeInfo} {z : List Value} (hu : E.P.underlying ty = some (.slice e)) (hi : E.P.info? e = some i) (hz : zeroOf E.P e = some z) (hzl : z.length = i.size) (hsp : 0 < i.size)
    {cx : Cx} {x : Operand} (hx : okO x = true) {v : Value} (hs : o_clear cx i.size z x t h d = some (v, h', d')) :
    Does E m h (do pure (Next.value (← Builtin.clear_ #[ty] rt #[a.eval x]))) w v h' := by
  unfold o_clear at hs
  split at hs
  · rename_i n c h1
    cases hs
    have hxv := ev_sim ht hx h1
    generalize a.eval x = x' at hxv ⊢
    cases hxv
    refine Does.pure r (run_v (v := .tuple #[]) ?_) (VR.udf m)
    simp [Builtin.clear_, run_underlying hu]
  · rename_i b o len c h1
    have hxv := ev_sim ht hx h1
    generalize a.eval x = x' at hxv ⊢
    split at hs
    · rename_i h0
      simp at h0; subst h0
      cases hs
      refine Does.pure r (run_v (v := .tuple #[]) ?_) (VR.udf m)
      cases hxv <;> simp [Builtin.clear_, run_underlying hu]
    · rename_i h0
      simp at h0
      split at hs
      case h_2 => cases hs
      rename_i h3 d3 hst
      split at hs
      case isFalse => cases hs
      cases hs
      cases hxv with
      | slz => exact absurd rfl h0
      | @sl _ _ A δ _ _ c' hm hle hc =>
        obtain ⟨i2, zv, hi2, hv, hp, rfl⟩ := zero_info hz
        rw [hi] at hi2; cases hi2
        have hcl := (VR.plain (m := m) hp).cells
        have hvs : zv.cells.size = i.size := by have := hcl.1; simp at this; omega
        obtain ⟨k1, k2, k3⟩ := run_storeL r hst hm (hcl.repeatL len)
        refine ⟨.tuple #[], _, m, .inl (run_v (v := .tuple #[]) ?_), VR.udf m, m.le_refl, k2, k3⟩
        have hz0 : (Builtin.zeroCells zv.cells len).toList = repeatL zv.cells.toList len := range_repeat _ _
        unfold Builtin.clear_
        obtain ⟨len, rfl⟩ : ∃ k, len = k + 1 := ⟨len - 1, by omega⟩
        simp [run_underlying hu, zeroValue, typeInfo, hi, hv, hz0, k1]
  · cases hs

end
end Go.Proofs.Ytecncmmkghmojaa.Sh
