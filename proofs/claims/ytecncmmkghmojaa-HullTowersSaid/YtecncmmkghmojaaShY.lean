/- The shadow machine: regions; the loop's record. -/
import Derived.Test.YtecncmmkghmojaaShX
set_option linter.all false
namespace Go.Proofs.Ytecncmmkghmojaa.Sh
open Go Go.RowKit

theorem repl_get {α : Type} {x : α} {n i : Nat} : (List.replicate n x)[i]? = if i < n then some x else none := by
  by_cases h : i < n
  · simp [h]
  · rw [if_neg h, List.getElem?_eq_none (by simp; omega)]

theorem TS_none {al : List SOper} {val : Nat → Value} {t0 : T} : ∀ N, TS al val t0 (fun _ => false) N = t0
  | 0 => rfl
  | N + 1 => by
    unfold TS
    rw [TS_none N]
    split <;> simp

def exR : Ex → Exit
  | .normal => .normal
  | .exit id => .exit id
  | .ret => .ret

/-- how a piece of code ends -/
def XP (P : Program) (B : Nat) (w0 : World) (nt : Nat) (m : Mp) (h : SHeap) (ex : Ex) (s' : St) (e : Exit) (a' : Act) (w' : World) : Prop :=
  e = exR ex ∧ ∃ m', m.le m' ∧ Ghost m h m' s'.h ∧ SR P B w0 nt m' s' a' w'

section
variable {P : Program} {B : Nat} {w0 : World} {R : Rec} {cx : Cx} {nt : Nat}

theorem region_ok (hmix : P.follows .mixedOrders = true) (hR : CallOK P R) (hRr : RoundOK P R) {ops : Array Oper} {draw : Bool} {id : Nat} {c : SCode} (hc : compRegion P ops draw = some c) (hb : bounded nt c = true) {s s' : St} {ex : Ex} (hx : exec R cx c s = some (ex, s'))
    {m : Mp} {a : Act} {w : World} (hs : SR P B w0 nt m s a w) {Fn : Fence} (hF : FR m cx Fn) {q : Nat} {Q : Exit → Act → World → Prop} (hQ : ∀ e a' w', XP P B w0 nt m s.h ex s' e a' w' → Q e a' w') : (Code.region id ops draw).wpIn Fn q P Q a w := by
  unfold compRegion at hc
  split at hc
  · cases hc
  rename_i so hso
  cases draw with
  | false =>
    simp only [Bool.false_eq_true, if_false, Option.some.injEq] at hc
    subst hc
    simp only [exec, List.replicate_zero, List.append_nil] at hx
    split at hx
    case h_2 => cases hx
    rename_i s1 hrun
    cases hx
    simp only [bounded] at hb
    have e0 : ({ s with h := s.h } : St) = s := rfl
    refine wpIn_region (ops_plain hR hRr _ so [] s s' m a w hso hb hrun hs hF ?_)
    intro a' w' m' h1 h2 h3
    exact hQ _ _ _ ⟨rfl, m', h1, h2, h3⟩
  | true =>
    simp only [if_true] at hc
    split at hc
    case h_2 => cases hc
    rename_i l hl
    split at hc
    case h_2 => cases hc
    rename_i al han
    split at hc
    case isFalse => cases hc
    rename_i hcond
    simp only [Bool.and_eq_true] at hcond
    cases hc
    have F := facts_of hso han hcond.1 hcond.2
    generalize countMakes so = n at *
    simp only [exec] at hx
    split at hx
    case h_2 => cases hx
    rename_i s1 hrun
    cases hx
    obtain ⟨lgs, tr, val, h1, h2, h3, h4⟩ := trace_of al [] _ s' hrun
    have H : Trace R cx s.h.length al lgs tr val := ⟨h4⟩
    have hbd : ∀ (p : Nat) (o : SOper) (d : Nat), al[p]? = some o → o.dst = some d → d < nt := by
      intro p o d hp hd
      have := List.all_eq_true.1 hb o (List.mem_of_getElem? hp)
      rw [hd] at this
      simpa using this
    obtain ⟨K0, hdeep, hK0⟩ := hs.tr.deep
    have r1 : Rel ⟨P, B, w0⟩ m s.h { w with drawn := w.drawn + 1 } := hs.rel.drew _
    have r0 := r1.gones n
    have hlm : m.length = s.h.length := hs.rel.len
    have hat : ∀ c, m.at c = none → Mp.at (m ++ List.replicate n none) c = none := by
      intro c hc
      rw [Mp.at_none] at hc ⊢
      unfold Mp.full at hc ⊢
      by_cases e : c < m.length
      · rw [List.getElem?_append_left e]; exact hc
      · rw [List.getElem?_append_right (by omega), repl_get]
        split <;> rfl
    have hout : ∀ c, m.length ≤ c → m.at c = none := by
      intro c hc
      rw [Mp.at_none]; unfold Mp.full; rw [List.getElem?_eq_none hc]; rfl
    have hin : HInv P B w0 al s.h.length tr val m s.h (fun _ => false) 0 (m ++ List.replicate n none) { w with drawn := w.drawn + 1 } := by
      refine ⟨by rw [h2]; exact r0, ?_, ?_, ?_, ?_⟩
      · intro c ob hc hm
        have hcl : c < s.h.length := (List.getElem?_eq_some_iff.1 hc).1
        rw [h2]
        refine ⟨?_, hat c hm⟩
        show (s.h ++ List.replicate n SO.gone)[c]? = _
        rw [List.getElem?_append_left hcl]; exact hc
      · intro k o sl hk hm _ hsl
        obtain ⟨sl', e1, e2⟩ := F.plc k o hk hm
        rw [hsl] at e1; cases e1
        refine ⟨hat _ (hout _ (by omega)), .gone, ?_⟩
        rw [h2]
        show (s.h ++ List.replicate n SO.gone)[s.h.length + sl]? = _
        rw [List.getElem?_append_right (by omega), repl_get, if_pos (by omega)]
      · intro k o sl hk; omega
      · intro k o agg x hk; omega
    obtain ⟨f, q1, q2, q3, q4, q5⟩ := to_front F H rfl al.length 0 (by omega) hin (fun _ _ => rfl)
    have hle0 : m.le (m ++ List.replicate n none) := Mp.le_append _ _
    refine wpIn_region_any hmix (any_run hR hRr F H rfl (by rw [h2]; exact hdeep) hK0 hbd ops.size _ a _ (fun _ => false) f (m ++ List.replicate n none) ⟨by simp, ?_, ?_, q2, fun _ _ => rfl, ?_, q5, ?_, q3, hle0⟩ ?_ (hF.mono hle0) ?_)
    · intro k o hk
      obtain ⟨op, hop, _⟩ := F.op k o hk
      have : o.id < ops.size := (Array.getElem?_eq_some_iff.1 hop).1
      simp [this]
    · intro i op e _ hh
      obtain ⟨_, _, _, _, hf⟩ := hh
      cases hf
    · intro k o op hk hko hop _
      exact q4 k o op (by omega) hk hko hop
    · rw [TS_none, h2]; exact hs.tr.mono hle0
    · have := List.count_le_length (a := false) (l := (Array.replicate ops.size false).toList)
      simpa using this
    · intro a' w' m' e1 e2 e3 e4 e5
      rw [h3] at e2 e3 e4
      refine hQ _ _ _ ⟨rfl, m', e1, e2, e3, ?_, e4⟩
      have hms : s'.ms = s.ms := by rw [← h3, (H.TS al.length (Nat.le_refl _)).2, h2]
      rw [e5, hms]; exact hs.ds.mono e1

/-- an object that is no row of cells becomes another one -/
theorem Rel.replace {E : Env} {m : Mp} {h : SHeap} {w : World} (r : Rel E m h w) {l A : Nat} {o o' : SO} {ob ob' : Obj} (hl : h[l]? = some o) (hm : m.at l = some (A, 0)) (ho : live o = true) (hoc : ∀ cs el pf own old, o ≠ .cells cs el pf own old)
    (ho' : ∀ cs el pf own old, o' ≠ .cells cs el pf own old) (hob : w.heap[A]? = some ob) (hobc : ∀ cs el fr, ob ≠ .cells cs el fr) (k : OR E.P m o' A 0 (w.putObj A ob')) : Rel E m (h.set l o') (w.putObj A ob') := by
  have hll : l < h.length := (List.getElem?_eq_some_iff.1 hl).1
  have hB : E.B ≤ A := r.base _ _ _ _ hl hm ho (by cases o <;> first | rfl | exact absurd rfl (hoc _ _ _ _ _))
  have key : ∀ c x, (h.set l o')[c]? = some x → (c = l ∧ x = o') ∨ (c ≠ l ∧ h[c]? = some x) := by
    intro c x hc
    by_cases e : l = c
    · subst e; rw [List.getElem?_set_self hll] at hc; cases hc; exact .inl ⟨rfl, rfl⟩
    · rw [List.getElem?_set_ne e] at hc; exact .inr ⟨fun k => e k.symm, hc⟩
  have alone : ∀ c x δ, c ≠ l → h[c]? = some x → m.at c = some (A, δ) → live x = false := by
    intro c x δ hne hc hmc
    cases hlv : live x with
    | false => rfl
    | true =>
      rcases r.sep c l x o A δ 0 hne hc hl hmc hm hlv ho with ⟨_, h1⟩ | ⟨_, _, _, _, _, _, _, _, _, _, e2, _⟩ | ⟨_, _, _, _, _, _, _, _, _, e1, _⟩
      · cases o <;> first | (cases h1; done) | exact absurd rfl (hoc _ _ _ _ _)
      · exact absurd e2 (hoc _ _ _ _ _)
      · exact absurd e1 (hoc _ _ _ _ _)
  refine ⟨by simpa using r.len, fun c A' δ hc => by rw [World.putObj_size]; exact r.lt _ _ _ hc, ?_, ?_, ?_, ?_, ?_, ?_, by rw [World.putObj_size]; exact r.bsz⟩
  · intro c x A' δ hc hmc
    rcases key c x hc with ⟨rfl, rfl⟩ | ⟨hne, hc⟩
    · rw [hm] at hmc; cases hmc; exact k
    · by_cases e : A' = A
      · subst e
        have hd := alone c x δ hne hc hmc
        cases x with
        | cells cs2 el2 pf2 own2 old2 => simp [live] at hd; exact .inl hd
        | gone => trivial
        | _ => simp [live] at hd
      · exact (r.obj _ _ _ _ hc hmc).heap (World.putObj_heap_other e)
  · intro c x A' δ hc hmc hlv hro
    rcases key c x hc with ⟨rfl, rfl⟩ | ⟨hne, hc⟩
    · rw [hm] at hmc; cases hmc; exact hB
    · exact r.base _ _ _ _ hc hmc hlv hro
  · intro b1 b2 o1 o2 A' δ1 δ2 hne h1 h2 m1 m2 l1 l2
    rcases key b1 o1 h1 with ⟨rfl, rfl⟩ | ⟨n1, k1⟩ <;> rcases key b2 o2 h2 with ⟨rfl, rfl⟩ | ⟨n2, k2⟩
    · exact absurd rfl hne
    · rw [hm] at m1; cases m1
      rw [alone b2 o2 δ2 n2 k2 m2] at l2; cases l2
    · rw [hm] at m2; cases m2
      rw [alone b1 o1 δ1 n1 k1 m1] at l1; cases l1
    · exact r.sep b1 b2 o1 o2 A' δ1 δ2 hne k1 k2 m1 m2 l1 l2
  · intro c A' δ' K s hmc hcp
    obtain ⟨rcs', rel', fr', h1, h2⟩ := r.cap _ _ _ _ _ hmc hcp
    by_cases e : A' = A
    · subst e
      rw [hob] at h1; cases h1
      exact absurd rfl (hobc _ _ _)
    · exact ⟨rcs', rel', fr', by rw [World.putObj_heap_other e]; exact h1, h2⟩
  · intro c K s cs2 el2 pf2 own2 old2 hx hcp
    rcases key c _ hx with ⟨rfl, e⟩ | ⟨hne, hx⟩
    · exact absurd e.symm (ho' _ _ _ _ _)
    · exact r.csz _ _ _ _ _ _ _ _ hx hcp
  · exact r.below.trans ⟨rfl, rfl, rfl, by rw [World.putObj_size]; exact Nat.le_refl _, fun k hk => World.putObj_heap_other (by omega)⟩

end
end Go.Proofs.Ytecncmmkghmojaa.Sh
