/- The shadow machine: operations, one by one, second part. -/
import Derived.Test.YtecncmmkghmojaaShH
set_option linter.all false
namespace Go.Proofs.Ytecncmmkghmojaa.Sh
open Go Go.RowKit

section
variable {P : Program} {nt : Nat} {m : Mp} {t : T} {a : Act}

theorem VR.func_inv {f : FuncId} {p q : Array Value} {v : Value} (h : VR m (.func (.func f) p q) v) : ∃ p' q', v = .func (.func f) p' q' ∧ LR m p.toList p'.toList ∧ LR m q.toList q'.toList := by
  cases h with
  | func ha hb ka kb => exact ⟨_, _, rfl, ⟨ha, ka⟩, ⟨hb, kb⟩⟩
theorem VR.yield_inv {l : Nat} {p q : Array Value} {v : Value} (h : VR m (.func (.yield l) p q) v) : p = #[] ∧ q = #[] ∧ ∃ A, m.at l = some (A, 0) ∧ v = .func (.yield A) #[] #[] := by
  cases h with
  | yield h => exact ⟨rfl, rfl, _, h, rfl⟩

theorem sim_nilCheck {E : Env} {h h' : SHeap} {d d' : List Nat} {w : World} (r : Rel E m h w) (ht : TR nt m t a.tmps) {x : Operand} (hx : okO x = true) {o : Oper} (ho : o.op = .nilCheck x) {v : Value} (hs : o_nilCheck x t h d = some (v, h', d')) :
    Does E m h (execOp a.eval o) w v h' := by
  unfold o_nilCheck at hs
  have hex : execOp a.eval o = execOp a.eval { o with op := .nilCheck x } := by rw [← ho]
  split at hs
  · rename_i ad hp
    cases hs
    have hv := ev_sim ht hx hp
    obtain ⟨A, δ, hm, he⟩ : ∃ A δ, m.at ad.block = some (A, δ) ∧ a.eval x = .pointer (some ⟨A, δ + ad.off, none⟩) := by
      generalize a.eval x = u at hv
      cases hv with
      | ptr hm => exact ⟨_, _, hm, rfl⟩
    refine Does.pure r (v' := a.eval x) ?_ hv
    rw [hex]; unfold execOp; simp [he]
  · rename_i f p q hp
    cases hs
    have hv := ev_sim ht hx hp
    obtain ⟨p', q', he, _⟩ := hv.func_inv
    refine Does.pure r (v' := a.eval x) ?_ hv
    rw [hex]; unfold execOp; simp [he]
  · rename_i f p q hp
    cases hs
    have hv := ev_sim ht hx hp
    obtain ⟨_, _, A, _, he⟩ := hv.yield_inv
    refine Does.pure r (v' := a.eval x) ?_ hv
    rw [hex]; unfold execOp; simp [he]
  · cases hs

theorem sim_un {E : Env} {h h' : SHeap} {d d' : List Nat} {w : World} (r : Rel E m h w) (ht : TR nt m t a.tmps) {op : UnOp} {x : Operand} (hx : okO x = true) {v : Value} (hs : o_un op x t h d = some (v, h', d')) :
    Does E m h (do pure (Next.value (← Op.unary op (a.eval x)))) w v h' := by
  unfold o_un at hs
  split at hs
  · rename_i k n hp
    have hv := (ev_sim ht hx hp).int_inv
    split at hs
    · obtain ⟨h1, rfl, rfl⟩ := same_some hs
      have h2 := pureRun_run (P := E.P) h1 w
      refine Does.pure r (v' := v) (run_v (by rw [hv]; exact h2)) ?_
      simp [Op.unary, Op.intArith, pureRun, pure] at h1
      subst h1; exact .int _ _
    · obtain ⟨h1, rfl, rfl⟩ := same_some hs
      have h2 := pureRun_run (P := E.P) h1 w
      refine Does.pure r (v' := v) (run_v (by rw [hv]; exact h2)) ?_
      simp [Op.unary, Op.intBits, pureRun, pure] at h1
      subst h1; exact .int _ _
    · cases hs
  · rename_i b hp
    have hv := (ev_sim ht hx hp).bool_inv
    split at hs
    · cases hs
      exact Does.pure r (v' := .bool (!b)) (run_v (by rw [hv]; rfl)) (.bool _)
    · cases hs
  · cases hs

theorem sim_conv {E : Env} {h h' : SHeap} {d d' : List Nat} {w : World} (r : Rel E m h w) (ht : TR nt m t a.tmps) {k : IntKind} {x : Operand} {s u : TypeId} {q : TypeDesc} (h1 : E.P.underlying s = some q) (h2 : E.P.underlying u = some (.int k)) (hx : okO x = true)
    {v : Value} (hs : o_conv k x t h d = some (v, h', d')) : Does E m h (do pure (Next.value (← convert s u (a.eval x)))) w v h' := by
  unfold o_conv at hs
  split at hs
  · rename_i k' n hp
    cases hs
    refine Does.pure r (v' := .int k (k.wrap n)) (run_v ?_) (.int _ _)
    rw [(ev_sim ht hx hp).int_inv]
    simp [convert, run_underlying h1, run_underlying h2, Conv.intToInt]
  · cases hs

theorem sim_fieldAddr {E : Env} {h h' : SHeap} {d d' : List Nat} {w : World} (r : Rel E m h w) (ht : TR nt m t a.tmps) {ty : TypeId} {i : Nat} {x : Operand} {fs : Array Field} {f : Field} {s : Nat} (hu : E.P.underlying ty = some (.struct fs)) (hf : fs[i]? = some f)
    (hsz : szOf E.P f.type = some s) (hpos : 0 < s) (hx : okO x = true) {v : Value} (hs : o_fieldAddr f.offset x t h d = some (v, h', d')) : Does E m h (do pure (Next.value (← Instr.fieldAt ty (a.eval x) i))) w v h' := by
  unfold o_fieldAddr at hs
  split at hs
  · rename_i b o hp
    cases hs
    obtain ⟨A, δ, hm, hxe⟩ := (ev_sim ht hx hp).ptr_inv
    refine Does.pure r (v' := .pointer (some ⟨A, δ + (o + f.offset), none⟩)) (run_v ?_) (.ptr hm)
    have := szOf_run hsz w
    rw [hxe]
    unfold Instr.fieldAt fieldPlace
    simp only [Sem.run_bind, run_underlying hu, Result.andThen_ok, hf, Instr.sureAddr, Sem.run_pure, this]
    rw [if_neg (by omega)]
    simp [addr_add, Nat.add_assoc]
  · cases hs

theorem partS_run {ty : TypeId} {g : Option Nat} (hg : aggOf P ty = some g) {cs : List Value} {cs' : Array Value} (hc : LR m cs cs'.toList) {off : Nat} {v : Value} (hs : partS g cs off = some v) (w : World) :
    ∃ v', (part ty cs' off).run P w = .ok v' w ∧ VR m v v' := by
  unfold partS at hs
  rcases aggOf_inv hg w with ⟨i, hi, rfl, h1, h2⟩ | ⟨rfl, h1, h2⟩
  · simp only at hs
    split at hs
    · cases hs
      rename_i hb
      refine ⟨.agg (cs'.extract off (off + i.size)), ?_, ?_⟩
      · unfold part; simp [h1, h2]
      · have := (hc.drop off).take i.size
        have e : cs'.extract off (off + i.size) = ((cs'.toList.drop off).take i.size).toArray := by
          apply Array.ext'
          simp [Array.toList_extract, List.extract_eq_take_drop]
        rw [e]
        exact VR.agg' this
    · cases hs
  · simp only at hs
    obtain ⟨y, h3, h4⟩ := hc.get hs
    refine ⟨y, ?_, h4⟩
    unfold part
    have : cs'[off]? = some y := by simpa using h3
    simp [h1, this]

theorem sim_field {E : Env} {h h' : SHeap} {d d' : List Nat} {w : World} (r : Rel E m h w) (ht : TR nt m t a.tmps) {ty : TypeId} {i : Nat} {x : Operand} {fs : Array Field} {f : Field} {g : Option Nat} (hu : E.P.underlying ty = some (.struct fs)) (hf : fs[i]? = some f)
    (hg : aggOf E.P f.type = some g) (hx : okO x = true) {v : Value} (hs : o_field g f.offset x t h d = some (v, h', d')) : Does E m h (do pure (Next.value (← Instr.field ty (a.eval x) i))) w v h' := by
  unfold o_field at hs
  split at hs
  · rename_i cs hp
    obtain ⟨h1, rfl, rfl⟩ := same_some hs
    obtain ⟨cs', hxe, hc⟩ := (ev_sim ht hx hp).agg_inv
    obtain ⟨v', h2, h3⟩ := partS_run hg hc h1 w
    refine Does.pure r (v' := v') (run_v ?_) h3
    rw [hxe]
    unfold Instr.field
    simp only [Sem.run_bind, run_underlying hu, Result.andThen_ok, hf, asAgg, Sem.run_pure]
    exact h2
  · cases hs

theorem sim_idxArr {E : Env} {h h' : SHeap} {d d' : List Nat} {w : World} (r : Rel E m h w) (ht : TR nt m t a.tmps) {ty e : TypeId} {n s : Nat} {x i : Operand} (hu : E.P.underlying ty = some (.array n e)) (hsz : szOf E.P e = some s) (hx : okO x = true) (hi : okO i = true)
    {v : Value} (hs : o_idxArr n s x i t h d = some (v, h', d')) : Does E m h (do pure (Next.value (← Instr.indexAt ty (a.eval x) (a.eval i)))) w v h' := by
  unfold o_idxArr at hs
  split at hs
  · rename_i b o k j hp hq
    split at hs
    · rename_i hb
      cases hs
      simp only [Bool.and_eq_true, decide_eq_true_eq] at hb
      obtain ⟨A, δ, hm, hxe⟩ := (ev_sim ht hx hp).ptr_inv
      refine Does.pure r (v' := .pointer (some ⟨A, δ + (o + j.toNat * s), none⟩)) (run_v ?_) (.ptr hm)
      rw [hxe, (ev_sim ht hi hq).int_inv]
      have := szOf_run hsz w
      unfold Instr.indexAt
      simp only [asIntOf, Sem.run_bind, Sem.run_pure, Result.andThen_ok, run_underlying hu, Instr.sureAddr]
      by_cases h1 : n ≤ 1 <;> simp [h1, run_underlying hu, hb, this, addr_add, Nat.add_assoc]
    · cases hs
  · cases hs

theorem sim_idxSl {E : Env} {h h' : SHeap} {d d' : List Nat} {w : World} (r : Rel E m h w) (ht : TR nt m t a.tmps) {ty e : TypeId} {s : Nat} {x i : Operand} (hu : E.P.underlying ty = some (.slice e)) (hsz : szOf E.P e = some s) (hx : okO x = true) (hi : okO i = true)
    {v : Value} (hs : o_idxSl s x i t h d = some (v, h', d')) : Does E m h (do pure (Next.value (← Instr.indexAt ty (a.eval x) (a.eval i)))) w v h' := by
  unfold o_idxSl at hs
  split at hs
  · rename_i b o n c k j hp hq
    split at hs
    · rename_i hb
      cases hs
      simp only [Bool.and_eq_true, decide_eq_true_eq] at hb
      have hv := ev_sim ht hx hp
      generalize hxe : a.eval x = xe at hv
      cases hv with
      | sl hm hn hc =>
        rename_i A δ c'
        refine Does.pure r (v' := .pointer (some ⟨A, δ + (o + j.toNat * s), none⟩)) (run_v ?_) (.ptr hm)
        rw [(ev_sim ht hi hq).int_inv]
        have := szOf_run hsz w
        unfold Instr.indexAt
        simp only [asIntOf, Sem.run_bind, Sem.run_pure, Result.andThen_ok, run_underlying hu]
        by_cases h1 : n ≤ 1 <;> simp [h1, run_underlying hu, hb, this, addr_add, Nat.add_assoc]
      | slz _ _ => omega
    · cases hs
  · cases hs

theorem sim_idx {E : Env} {h h' : SHeap} {d d' : List Nat} {w : World} (r : Rel E m h w) (ht : TR nt m t a.tmps) {ty e : TypeId} {n s : Nat} {g : Option Nat} {x i : Operand} (hu : E.P.underlying ty = some (.array n e)) (hsz : szOf E.P e = some s) (hg : aggOf E.P e = some g) (hx : okO x = true) (hi : okO i = true)
    {v : Value} (hs : o_idx g n s x i t h d = some (v, h', d')) : Does E m h (do pure (Next.value (← Instr.index ty (a.eval x) (a.eval i)))) w v h' := by
  unfold o_idx at hs
  split at hs
  · rename_i cs k j hp hq
    split at hs
    · rename_i hb
      obtain ⟨h1, rfl, rfl⟩ := same_some hs
      simp only [Bool.and_eq_true, decide_eq_true_eq] at hb
      obtain ⟨cs', hxe, hc⟩ := (ev_sim ht hx hp).agg_inv
      obtain ⟨v', h2, h3⟩ := partS_run hg hc h1 w
      refine Does.pure r (v' := v') (run_v ?_) h3
      rw [hxe, (ev_sim ht hi hq).int_inv]
      have := szOf_run hsz w
      unfold Instr.index
      simp [asIntOf, run_underlying hu, hb, this, h2]
    · cases hs
  · cases hs

theorem sim_idxStr {E : Env} {h h' : SHeap} {d d' : List Nat} {w : World} (r : Rel E m h w) (ht : TR nt m t a.tmps) {ty : TypeId} {x i : Operand} (hu : E.P.underlying ty = some .string) (hx : okO x = true) (hi : okO i = true)
    {v : Value} (hs : o_idxStr x i t h d = some (v, h', d')) : Does E m h (do pure (Next.value (← Instr.index ty (a.eval x) (a.eval i)))) w v h' := by
  unfold o_idxStr at hs
  split at hs
  · rename_i s k j hp hq
    split at hs
    · rename_i hb
      split at hs
      · rename_i b hb2
        cases hs
        refine Does.pure r (v' := .int .u8 b.toNat) (run_v ?_) (.int _ _)
        rw [(ev_sim ht hx hp).string_inv, (ev_sim ht hi hq).int_inv]
        have h0 : 0 ≤ j := by simpa using hb
        have : s[j.toNat]? = some b := by
          have h3 : s.data[j.toNat]? = some b := by simpa using hb2
          obtain ⟨h4, h5⟩ := Array.getElem?_eq_some_iff.1 h3
          have h6 : j.toNat < s.size := h4
          rw [getElem?_pos s j.toNat h6]
          exact congrArg some h5
        unfold Instr.index
        simp [asIntOf, run_underlying hu, h0, this]
      · cases hs
    · cases hs
  · cases hs

theorem sim_makeFunc {E : Env} {h h' : SHeap} {d d' : List Nat} {w : World} (r : Rel E m h w) (ht : TR nt m t a.tmps) {f : FuncId} {p q : Array Operand} (hp : p.toList.all okO = true) (hq : q.toList.all okO = true)
    {v : Value} (hs : o_makeFunc f p.toList q.toList t h d = some (v, h', d')) : Does E m h (do pure (Next.value (← Instr.makeFunc (.func f) (p.map a.eval) (q.map a.eval)))) w v h' := by
  unfold o_makeFunc at hs
  split at hs
  · rename_i u z hu hz
    cases hs
    have h1 := evs_sim ht hp hu
    have h2 := evs_sim ht hq hz
    exact Does.pure r (run_v rfl) (.func (by simpa using h1.1) (by simpa using h2.1) (by simpa using h1.2) (by simpa using h2.2))
  · cases hs

theorem sim_extract {E : Env} {h h' : SHeap} {d d' : List Nat} {w : World} (r : Rel E m h w) (ht : TR nt m t a.tmps) {x : Operand} {i : Nat} (hx : okO x = true) {v : Value} (hs : o_extract x i t h d = some (v, h', d')) :
    Does E m h (do pure (Next.value (← Instr.extract (a.eval x) i))) w v h' := by
  unfold o_extract at hs
  split at hs
  · rename_i vs hp
    obtain ⟨h1, rfl, rfl⟩ := same_some hs
    obtain ⟨vs', hxe, hc⟩ := (ev_sim ht hx hp).tuple_inv
    obtain ⟨y, h2, h3⟩ := hc.get h1
    refine Does.pure r (v' := y) (run_v ?_) h3
    have : vs'[i]? = some y := by simpa using h2
    rw [hxe]; simp [Instr.extract, this]
  · cases hs


/-! ### slices -/
theorem sliceBound_run {x : Value} {y l : Nat} (h : bnd x y = some l) (c : BoundsCode) (w : World) : (Instr.sliceBound x y c).run P w = .ok l w ∧ l ≤ y := by
  unfold bnd at h
  split at h
  · split at h
    · rename_i k i hb
      cases h
      simp only [Bool.and_eq_true, decide_eq_true_eq] at hb
      exact ⟨by unfold Instr.sliceBound; simp [asIntOf, hb], by omega⟩
    · cases h
  · cases h

theorem bnd_VR {x x' : Value} {y l : Nat} (h : bnd x y = some l) (hx : VR m x x') : x' = x := by
  unfold bnd at h
  split at h
  · exact hx.int_inv
  · cases h

theorem evo_sim (ht : TR nt m t a.tmps) {x : Option Operand} (ho : x.toList.all okO = true) {v : Option Value} (h : evo t x = some v) :
    (v = none ∧ x.map a.eval = none) ∨ ∃ u u', v = some u ∧ x.map a.eval = some u' ∧ VR m u u' := by
  cases x with
  | none => cases h; exact .inl ⟨rfl, rfl⟩
  | some x =>
    unfold evo at h
    split at h
    · rename_i hm; cases hm
    · rename_i y hm
      cases hm
      split at h
      · rename_i u hu; cases h
        exact .inr ⟨u, _, rfl, rfl, ev_sim ht (by simpa using ho) hu⟩
      · cases h

theorem bnd_le {x : Value} {y l : Nat} (h : bnd x y = some l) : l ≤ y := by
  unfold bnd at h
  split at h
  · split at h
    · rename_i k i hb
      cases h
      simp only [Bool.and_eq_true, decide_eq_true_eq] at hb
      omega
    · cases h
  · cases h
theorem bMx_le {mx : Option Value} {c l : Nat} (h : bMx mx c = some l) : l ≤ c := by
  unfold bMx at h
  split at h
  · exact bnd_le h
  · cases h; exact Nat.le_refl _
theorem bHi_le {hi mx : Option Value} {mm len l : Nat} (h : bHi hi mx mm len = some l) (hl : mx = none → len ≤ mm) : l ≤ mm := by
  unfold bHi at h
  split at h
  · exact bnd_le h
  · split at h
    · cases h; exact hl rfl
    · cases h
theorem bLo_le {lo : Option Value} {c l : Nat} (h : bLo lo c = some l) : l ≤ c := by
  unfold bLo at h
  split at h
  · exact bnd_le h
  · cases h; exact Nat.zero_le _

/-- bounds of a slice expression, as the model finds them -/
theorem bounds_run {isSlice : Bool} {len cap m0 h0 l0 : Nat} {lo hi mx lo' hi' mx' : Option Value} (w : World)
    (hm : bMx mx cap = some m0) (hh : bHi hi mx m0 len = some h0) (hl : bLo lo h0 = some l0)
    (elo : (lo = none ∧ lo' = none) ∨ ∃ u u', lo = some u ∧ lo' = some u' ∧ VR m u u')
    (ehi : (hi = none ∧ hi' = none) ∨ ∃ u u', hi = some u ∧ hi' = some u' ∧ VR m u u')
    (emx : (mx = none ∧ mx' = none) ∨ ∃ u u', mx = some u ∧ mx' = some u' ∧ VR m u u') :
    (Instr.sliceBounds isSlice len cap lo' hi' mx').run P w = .ok (l0, h0, m0) w := by
  have hl' : ∀ c, (match lo' with | some v => Instr.sliceBound v h0 c | none => pure 0 : Sem Nat).run P w = .ok l0 w := by
    intro c
    rcases elo with ⟨rfl, rfl⟩ | ⟨u, u', rfl, rfl, hv⟩
    · cases hl; rfl
    · have := bnd_VR hl hv; subst this
      exact (sliceBound_run hl c w).1
  rcases emx with ⟨rfl, rfl⟩ | ⟨um, um', rfl, rfl, hvm⟩
  · cases hm
    rcases ehi with ⟨rfl, rfl⟩ | ⟨u, u', rfl, rfl, hv⟩
    · cases hh
      have := hl' .sliceB
      unfold Instr.sliceBounds
      cases lo' <;> simp_all
    · have := bnd_VR hh hv; subst this
      have h1 := (sliceBound_run (P := P) hh (if isSlice then .sliceAcap else .sliceAlen) w).1
      have := hl' .sliceB
      unfold Instr.sliceBounds
      cases lo' <;> simp_all
  · have e1 := bnd_VR hm hvm; subst e1
    have h1 := (sliceBound_run (P := P) hm (if isSlice then .slice3Acap else .slice3Alen) w).1
    rcases ehi with ⟨rfl, rfl⟩ | ⟨u, u', rfl, rfl, hv⟩
    · cases hh
    · have := bnd_VR hh hv; subst this
      have h3 := (sliceBound_run (P := P) hh .slice3B w).1
      have := hl' .slice3C
      unfold Instr.sliceBounds
      cases lo' <;> simp_all

end
end Go.Proofs.Ytecncmmkghmojaa.Sh
