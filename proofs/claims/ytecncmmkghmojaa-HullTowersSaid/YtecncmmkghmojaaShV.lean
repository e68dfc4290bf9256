/- The shadow machine: a region that draws its order: slots and heap on the way. -/
import Derived.Test.YtecncmmkghmojaaShU
set_option linter.all false
namespace Go.Proofs.Ytecncmmkghmojaa.Sh
open Go Go.RowKit

theorem sput_ne {t : T} {o : Option Nat} {x : Nat} {v : Value} (h : o ≠ some x) : (sput t o v).get x = t.get x := by
  cases o with
  | none => rfl
  | some d => exact T.get_set_ne v (by intro e; exact h (by rw [e]))
theorem sput_same {K : Nat} {t : T} {x : Nat} {v : Value} (hd : t.deep K) (hx : x + 1 < 2 ^ K) : (sput t (some x) v).get x = v := T.get_set_same v hd hx
theorem sput_deep {K : Nat} {t : T} {o : Option Nat} {v : Value} (hd : t.deep K) : (sput t o v).deep K := by
  cases o with
  | none => exact hd
  | some d => exact T.deep_set hd _ _

/-- the slots when of the first k operations those of S have run -/
def TS (al : List SOper) (val : Nat → Value) (t0 : T) (S : Nat → Bool) : Nat → T
  | 0 => t0
  | k + 1 => match al[k]? with
    | some o => if S k then sput (TS al val t0 S k) o.dst (val k) else TS al val t0 S k
    | none => TS al val t0 S k

section
variable {al : List SOper} {val : Nat → Value} {t0 : T} {S S' : Nat → Bool}

theorem TS_deep {K : Nat} (hd : t0.deep K) : ∀ k, (TS al val t0 S k).deep K
  | 0 => hd
  | k + 1 => by
    unfold TS
    split
    · split
      · exact sput_deep (TS_deep hd k)
      · exact TS_deep hd k
    · exact TS_deep hd k

theorem TS_skip {x j : Nat} : ∀ (N : Nat), j ≤ N → (∀ p o, j ≤ p → p < N → al[p]? = some o → o.dst = some x → S p = false) → (TS al val t0 S N).get x = (TS al val t0 S j).get x
  | 0, h, _ => by have : j = 0 := by omega
                  subst this; rfl
  | N + 1, h, hh => by
    by_cases e : j = N + 1
    · subst e; rfl
    · have ih := TS_skip N (by omega) (fun p o h1 h2 => hh p o h1 (by omega))
      rw [← ih]
      conv => lhs; unfold TS
      split
      · rename_i o ho
        split
        · rename_i hs
          exact sput_ne (fun hd => by rw [hh N o (by omega) (by omega) ho hd] at hs; cases hs)
        · rfl
      · rfl

theorem TS_agree {K nt x : Nat} (hd : t0.deep K) (hK : nt < 2 ^ K) (hb : ∀ (p : Nat) (o : SOper) (d : Nat), al[p]? = some o → o.dst = some d → d < nt) : ∀ (j : Nat), (∀ p o, p < j → al[p]? = some o → o.dst = some x → S p = S' p) →
    (TS al val t0 S j).get x = (TS al val t0 S' j).get x
  | 0, _ => rfl
  | j + 1, hh => by
    have ih := TS_agree (x := x) hd hK hb j (fun p o h1 => hh p o (by omega))
    unfold TS
    split
    · rename_i o ho
      by_cases e : o.dst = some x
      · have h1 := hh j o (by omega) ho e
        have hx := hb j o x ho e
        rw [h1, e]
        split
        · rw [sput_same (TS_deep hd j) (by omega), sput_same (TS_deep hd j) (by omega)]
        · exact ih
      · have l : ∀ (S : Nat → Bool), (if S j = true then sput (TS al val t0 S j) o.dst (val j) else TS al val t0 S j).get x = (TS al val t0 S j).get x := by
          intro S
          split
          · exact sput_ne e
          · rfl
        rw [l, l, ih]
    · exact ih

theorem TS_all : ∀ (N : Nat), (∀ k, k < N → S k = true) → TS al val t0 S N = TS al val t0 (fun _ => true) N
  | 0, _ => rfl
  | N + 1, h => by
    unfold TS
    rw [TS_all N (fun k hk => h k (by omega)), h N (by omega)]
end

theorem TR.congr {nt : Nat} {m : Mp} {t t' : T} {a : Array Value} (h : TR nt m t a) (hd : ∃ k, t'.deep k ∧ nt < 2 ^ k) (he : ∀ x, t'.get x = t.get x) : TR nt m t' a :=
  ⟨h.size, hd, fun i => by rw [he]; exact h.get i⟩

/-- one operation more -/
def more (S : Nat → Bool) (k : Nat) : Nat → Bool := fun p => p == k || S p
theorem more_same {S : Nat → Bool} {k : Nat} : more S k k = true := by simp [more]
theorem more_ne {S : Nat → Bool} {k p : Nat} (h : p ≠ k) : more S k p = S p := by simp [more, h]
theorem more_false {S : Nat → Bool} {k p : Nat} (h : more S k p = false) : p ≠ k ∧ S p = false := by simpa [more] using h

theorem loadS_gone {h : SHeap} {b : Nat} (hb : h[b]? = some .gone) (o : SO) {agg : Option Nat} {a v : Value} (hl : loadS h agg a = some v) : loadS (h.set b o) agg a = some v := by
  unfold loadS at *
  split at hl
  case h_2 => cases hl
  rename_i c off
  have hne : b ≠ c := by
    intro e; subst e
    split at hl
    · unfold rd1 at hl; rw [hb] at hl; cases hl
    · unfold rdN at hl; rw [hb] at hl; cases hl
  have e1 : ∀ off, rd1 (h.set b o) c off = rd1 h c off := fun off => by unfold rd1; rw [List.getElem?_set_ne hne]
  have e2 : ∀ off n, rdN (h.set b o) c off n = rdN h c off n := fun off n => by unfold rdN; rw [List.getElem?_set_ne hne]
  simp only [e1, e2]
  exact hl

/-- a trace of a region -/
structure Trace (R : Rec) (cx : Cx) (rb : Nat) (al : List SOper) (lgs : Nat → List LogE) (tr : Nat → St) (val : Nat → Value) : Prop where
  step : ∀ (k : Nat) (o : SOper), al[k]? = some o → stepO R cx rb o (lgs k) (tr k) = some (lgs (k + 1), tr (k + 1), val k)

section
variable {R : Rec} {cx : Cx} {rb : Nat} {al : List SOper} {lgs : Nat → List LogE} {tr : Nat → St} {val : Nat → Value}

theorem Trace.cases (H : Trace R cx rb al lgs tr val) {k : Nat} {o : SOper} (hk : al[k]? = some o) :
    (tr (k + 1)).t = sput (tr k).t o.dst (val k) ∧ (tr (k + 1)).ms = (tr k).ms ∧
    ((wantedS (tr k).t o.gd = false ∧ (tr (k + 1)).h = (tr k).h ∧ val k = udf ∧ lgs (k + 1) = lgs k) ∨
     (wantedS (tr k).t o.gd = true ∧ opRun R cx (slotOf rb o.sl) o.op (tr k).t (tr k).h (tr k).d = some (val k, (tr (k + 1)).h, (tr (k + 1)).d) ∧ chkAll (lgs k) o.chk (tr (k + 1)).h = true ∧ lgs (k + 1) = logOf o (tr k).t (val k) ++ lgs k)) := by
  have h := H.step k o hk
  unfold stepO at h
  split at h
  · rename_i hw
    split at h
    · cases h
    · rename_i v h2 d2 hr
      split at h
      · rename_i hc
        simp only [Option.some.injEq, Prod.mk.injEq] at h
        obtain ⟨h3, h4, h5⟩ := h
        rw [← h4, ← h5]
        exact ⟨rfl, rfl, .inr ⟨hw, hr, hc, h3.symm⟩⟩
      · cases h
  · rename_i hw
    simp only [Option.some.injEq, Prod.mk.injEq] at h
    obtain ⟨h3, h4, h5⟩ := h
    rw [← h4, ← h5]
    exact ⟨rfl, rfl, .inl ⟨by simpa using hw, rfl, rfl, h3.symm⟩⟩

theorem Trace.TS (H : Trace R cx rb al lgs tr val) : ∀ k, k ≤ al.length → (tr k).t = Sh.TS al val (tr 0).t (fun _ => true) k ∧ (tr k).ms = (tr 0).ms
  | 0, _ => ⟨rfl, rfl⟩
  | k + 1, h => by
    have hk : al[k]? = some al[k] := by simp
    obtain ⟨h1, h2, _⟩ := H.cases hk
    obtain ⟨h3, h4⟩ := H.TS k (by omega)
    refine ⟨?_, by rw [h2, h4]⟩
    rw [h1, h3]
    conv => rhs; unfold Sh.TS
    rw [hk]; rfl

/-- a load is logged -/
theorem Trace.log (H : Trace R cx rb al lgs tr val) {k : Nat} {o : SOper} (hk : al[k]? = some o) {agg : Option Nat} {x : Operand} (ho : o.op = .load agg x) (hl : o.lg = true) (hw : wantedS (tr k).t o.gd = true) {v : Value} (hv : ev (tr k).t x = some v) :
    ∀ j, k < j → j ≤ al.length → (⟨o.id, agg, v, val k⟩ : LogE) ∈ lgs j
  | 0, h, _ => by omega
  | j + 1, h, hj => by
    by_cases e : k = j
    · subst e
      obtain ⟨_, _, h1 | ⟨h1, h2, h3, h4⟩⟩ := H.cases hk
      · rw [hw] at h1; cases h1.1
      · rw [h4]
        unfold logOf
        simp [hl, ho, hv]
    · have ih := H.log hk ho hl hw hv j (by omega) (by omega)
      have hk' : al[j]? = some al[j] := by simp
      obtain ⟨_, _, ⟨_, _, _, h4⟩ | ⟨_, _, _, h4⟩⟩ := H.cases hk'
      · rw [h4]; exact ih
      · rw [h4]; exact List.mem_append_right _ ih
end

/-- the heap while some operations of the first j wait -/
structure HInv (P : Program) (B : Nat) (w0 : World) (al : List SOper) (rb : Nat) (tr : Nat → St) (val : Nat → Value) (mi : Mp) (hi : SHeap) (S : Nat → Bool) (j : Nat) (m : Mp) (w : World) : Prop where
  rel : Rel ⟨P, B, w0⟩ m (tr j).h w
  gh : Ghost mi hi m (tr j).h
  pl : ∀ (k : Nat) (o : SOper) (s : Nat), al[k]? = some o → makes o.op = true → S k = false → o.sl = some s → m.at (rb + s) = none ∧ ∃ ob, (tr j).h[rb + s]? = some ob
  fl : ∀ (k : Nat) (o : SOper) (s : Nat), k < j → al[k]? = some o → makes o.op = true → S k = false → o.sl = some s → wantedS (tr k).t o.gd = true →
    ∃ cs el pf mk, opMade o.op (tr k).t = some (cs, el, pf, mk) ∧ (tr j).h[rb + s]? = some (.cells cs el pf 0 []) ∧ (pf = true → cs.all sc = true) ∧ val k = mk (rb + s)
  ld : ∀ (k : Nat) (o : SOper) (agg : Option Nat) (x : Operand), k < j → al[k]? = some o → o.op = .load agg x → S k = false → wantedS (tr k).t o.gd = true →
    ∃ v, ev (tr k).t x = some v ∧ loadS (tr j).h agg v = some (val k)

theorem isLd_load {o : SOp} (h : isLd o = true) : ∃ agg x, o = .load agg x := by
  cases o <;> first | (cases h; done) | exact ⟨_, _, rfl⟩
theorem makes_E {o : SOp} (h : makes o = true) : isE o = false ∧ isLd o = false := by
  cases o <;> first | (cases h; done) | exact ⟨rfl, rfl⟩

section
variable {P : Program} {B : Nat} {w0 : World} {ops : Array Oper} {n : Nat} {R : Rec} {cx : Cx} {rb : Nat} {al : List SOper} {lgs : Nat → List LogE} {tr : Nat → St} {val : Nat → Value} {mi m : Mp} {hi : SHeap} {S : Nat → Bool} {w : World}

/-- the shadow machine goes through an operation that the model's machine lets wait -/
theorem HInv.advance (F : Facts P ops n al) (H : Trace R cx rb al lgs tr val) (hrb : hi.length = rb) {j : Nat} (I : HInv P B w0 al rb tr val mi hi S j m w) {o : SOper} (hk : al[j]? = some o) (hE : isE o.op = false) (hS : S j = false) :
    HInv P B w0 al rb tr val mi hi S (j + 1) m w := by
  obtain ⟨op, hop, hcomp, _, _⟩ := F.op j o hk
  -- where the heap stays
  have stay : (tr (j + 1)).h = (tr j).h → makes o.op = false ∨ wantedS (tr j).t o.gd = false → (∀ agg x, o.op = .load agg x → wantedS (tr j).t o.gd = true → ∃ v, ev (tr j).t x = some v ∧ loadS (tr j).h agg v = some (val j)) →
      HInv P B w0 al rb tr val mi hi S (j + 1) m w := by
    intro he hm hl
    refine ⟨by rw [he]; exact I.rel, by rw [he]; exact I.gh, fun k o' s h1 h2 h3 h4 => by rw [he]; exact I.pl k o' s h1 h2 h3 h4, ?_, ?_⟩
    · intro k o' s hkj h1 h2 h3 h4 h5
      rw [he]
      by_cases e : k = j
      · subst e
        rw [hk] at h1; cases h1
        rcases hm with hm | hm
        · rw [hm] at h2; cases h2
        · rw [hm] at h5; cases h5
      · exact I.fl k o' s (by omega) h1 h2 h3 h4 h5
    · intro k o' agg x hkj h1 h2 h3 h4
      rw [he]
      by_cases e : k = j
      · subst e
        rw [hk] at h1; cases h1
        exact hl agg x h2 h4
      · exact I.ld k o' agg x (by omega) h1 h2 h3 h4
  obtain ⟨_, _, ⟨hw, hh, hv, _⟩ | ⟨hw, hrun, _, _⟩⟩ := H.cases hk
  · exact stay hh (.inr hw) (fun _ _ _ h => by rw [hw] at h; cases h)
  · cases hm : makes o.op with
    | false =>
      cases hl : isLd o.op with
      | false =>
        obtain ⟨h1, _, _⟩ := pure_op hE hm hl (comp_nomap hcomp) hrun
        exact stay h1 (.inl hm) (fun agg x he => by rw [he] at hl; cases hl)
      | true =>
        obtain ⟨agg, x, he⟩ := isLd_load hl
        rw [he] at hrun
        simp only [opRun, o_load] at hrun
        split at hrun
        case h_2 => cases hrun
        rename_i u hu
        obtain ⟨h1, h2, _⟩ := same_some hrun
        refine stay h2 (.inl hm) (fun agg' x' he' _ => ?_)
        rw [he] at he'; cases he'
        exact ⟨u, hu, h1⟩
    | true =>
      obtain ⟨s, hs, hsn⟩ := F.plc j o hk hm
      obtain ⟨cs, el, pf, mk, b, h1, h2, h3, h4⟩ := opMade_run hm hrun
      obtain ⟨hp, hcase⟩ := newS_some h2
      rw [hs] at hcase
      rcases hcase with ⟨hc, _⟩ | ⟨hc, hg, hset⟩
      · cases hc
      · have hb : b = rb + s := by simp only [slotOf, Option.some.injEq] at hc; exact hc.symm
        subst hb
        obtain ⟨hmn, _⟩ := I.pl j o s hk hm hS hs
        have hlt : rb + s < (tr j).h.length := (List.getElem?_eq_some_iff.1 hg).1
        refine ⟨by rw [hset]; exact I.rel.ghost hmn _, ?_, ?_, ?_, ?_⟩
        · intro c ob hc hmc
          obtain ⟨q1, q2⟩ := I.gh c ob hc hmc
          have hcl : c < hi.length := (List.getElem?_eq_some_iff.1 hc).1
          refine ⟨?_, q2⟩
          rw [hset, List.getElem?_set_ne (by omega)]; exact q1
        · intro k o' s' k1 k2 k3 k4
          obtain ⟨q1, ob, q2⟩ := I.pl k o' s' k1 k2 k3 k4
          refine ⟨q1, ?_⟩
          rw [hset]
          by_cases e : rb + s = rb + s'
          · rw [← e, List.getElem?_set_self hlt]; exact ⟨_, rfl⟩
          · rw [List.getElem?_set_ne e]; exact ⟨ob, q2⟩
        · intro k o' s' hkj k1 k2 k3 k4 k5
          by_cases e : k = j
          · subst e
            rw [hk] at k1; cases k1
            rw [hs] at k4; cases k4
            refine ⟨cs, el, pf, mk, h1, ?_, hp, h3⟩
            rw [hset, List.getElem?_set_self hlt]
          · obtain ⟨cs', el', pf', mk', q1, q2, q3, q4⟩ := I.fl k o' s' (by omega) k1 k2 k3 k4 k5
            refine ⟨cs', el', pf', mk', q1, ?_, q3, q4⟩
            have hne : rb + s ≠ rb + s' := by
              intro e2
              have : s = s' := by omega
              subst this
              exact e (F.pld k j o' o s k1 hk k2 hm k4 hs)
            rw [hset, List.getElem?_set_ne hne]; exact q2
        · intro k o' agg x hkj k1 k2 k3 k4
          by_cases e : k = j
          · subst e
            rw [hk] at k1; cases k1
            rw [k2] at hm; cases hm
          · obtain ⟨v, q1, q2⟩ := I.ld k o' agg x (by omega) k1 k2 k3 k4
            refine ⟨v, q1, ?_⟩
            rw [hset]; exact loadS_gone hg _ q2

/-- fewer that wait -/
theorem HInv.fewer {j k : Nat} (I : HInv P B w0 al rb tr val mi hi S j m w) {m' : Mp} {w' : World} (hr : Rel ⟨P, B, w0⟩ m' (tr j).h w') (hg : ∀ c ob, (tr j).h[c]? = some ob → m.at c = none → (∀ o s, al[k]? = some o → makes o.op = true → o.sl = some s → c ≠ rb + s) → m'.at c = none)
    (F : Facts P ops n al) (hrb : hi.length = rb) : HInv P B w0 al rb tr val mi hi (more S k) j m' w' := by
  refine ⟨hr, ?_, ?_, ?_, ?_⟩
  · intro c ob hc hm
    obtain ⟨q1, q2⟩ := I.gh c ob hc hm
    have hcl : c < hi.length := (List.getElem?_eq_some_iff.1 hc).1
    exact ⟨q1, hg c ob q1 q2 (fun o s _ _ _ => by omega)⟩
  · intro k' o s k1 k2 k3 k4
    obtain ⟨hne, hS⟩ := more_false k3
    obtain ⟨q1, ob, q2⟩ := I.pl k' o s k1 k2 hS k4
    refine ⟨hg _ ob q2 q1 (fun o' s' a1 a2 a3 e => ?_), ob, q2⟩
    have : s = s' := by omega
    subst this
    exact hne (F.pld k' k o o' s k1 a1 k2 a2 k4 a3)
  · intro k' o s hkj k1 k2 k3 k4 k5
    exact I.fl k' o s hkj k1 k2 (more_false k3).2 k4 k5
  · intro k' o agg x hkj k1 k2 k3 k4
    exact I.ld k' o agg x hkj k1 k2 (more_false k3).2 k4

end
end Go.Proofs.Ytecncmmkghmojaa.Sh
