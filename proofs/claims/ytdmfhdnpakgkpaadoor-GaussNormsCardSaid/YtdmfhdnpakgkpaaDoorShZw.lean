/- The shadow machine: ends of calls in general, and ranges over functions. -/
import Derived.Test.YtdmfhdnpakgkpaaDoorShZp
namespace Go.Proofs.YtdmfhdnpakgkpaaDoor.Sh
open Go
set_option linter.all false
set_option maxRecDepth 100000

theorem rep1 : List.replicate 1 SO.gone = [SO.gone] := (rfl)
theorem rep2 : List.replicate 2 SO.gone = [SO.gone, SO.gone] := (rfl)
theorem rep3 : List.replicate 3 SO.gone = [SO.gone, SO.gone, SO.gone] := (rfl)
theorem new_some (h : SHeap) (b : Nat) (cs : List Value) (el : TypeId) (pf : Bool) : newS h (some b) cs el pf = if (!pf || cs.all sc) = true then (match h[b]? with
    | some .gone => some (b, h.set b (.cells cs el pf 0 []))
    | _ => none) else none := (rfl)
attribute [go_sem ↓] rep1 rep2 rep3 new_some
attribute [go_sem] Int.toNat_natCast

def opnB : Value → Bool
  | .bool _ | .int _ _ | .string _ | .pointer _ | .slice _ _ _ | .func _ _ _ | .agg _ | .tuple _ | .map _ | .nilFunc | .nilIface => true
  | _ => false
theorem opn_b {v : Value} {K : Value → Prop} (h : opnB v = true) (k : K v) : opn v K := by
  cases v <;> first | exact k | cases h
/-- the results of a call -/
def resE (ρ : Reg) (h : SHeap) : List SRes → Option (List Value)
  | [] => some []
  | .tmp i :: r => match resE ρ h r with
    | some l => some (ρ i :: l)
    | none => none
  | .cell agg i :: r => match ρ i with
    | .pointer a => match loadS h agg (.pointer a), resE ρ h r with
      | some v, some l => some (v :: l)
      | _, _ => none
    | _ => none
theorem resE_nil (ρ : Reg) (h : SHeap) : resE ρ h [] = some [] := (rfl)
theorem resE_tmp (ρ : Reg) (h : SHeap) (i : Nat) (r : List SRes) : resE ρ h (.tmp i :: r) = match resE ρ h r with
    | some l => some (ρ i :: l)
    | none => none := (rfl)
theorem resE_cell (ρ : Reg) (h : SHeap) (agg : Option Nat) (i : Nat) (r : List SRes) : resE ρ h (.cell agg i :: r) = match ρ i with
    | .pointer a => match loadS h agg (.pointer a), resE ρ h r with
      | some v, some l => some (v :: l)
      | _, _ => none
    | _ => none := (rfl)
attribute [go_sem ↓] resE_nil resE_tmp resE_cell
theorem resE_ok {ρ : Reg} {h : SHeap} : ∀ {rs : List SRes} {l : List Value} {K : List Value → Prop}, resE ρ h rs = some l → l.all opnB = true → K l → resW ρ h rs K
  | [], l, K, he, ho, k => by cases he; exact k
  | .tmp i :: r, l, K, he, ho, k => by
    rw [resE_tmp] at he
    split at he
    · rename_i l' hl
      cases he
      rw [List.all_cons, Bool.and_eq_true] at ho
      exact opn_b ho.1 (resE_ok (K := fun l => K (ρ i :: l)) hl ho.2 k)
    · cases he
  | .cell agg i :: r, l, K, he, ho, k => by
    rw [resE_cell] at he
    split at he
    · rename_i a ha
      split at he
      · rename_i v l' hv hl
        cases he
        rw [List.all_cons, Bool.and_eq_true] at ho
        show opn (ρ i) fun a => ∃ v, loadS h agg a = some v ∧ opn v fun v => resW ρ h r fun l => K (v :: l)
        rw [ha]
        exact ⟨v, hv, opn_b ho.1 (resE_ok (K := fun l => K (v :: l)) hl ho.2 k)⟩
      · cases he
    · cases he
theorem gc_free {base : Nat} {v : Value} {h : SHeap} (hp : ptrs 3 v = []) (hr : ∀ K, renV base K 3 v = some v) : gcS base v h = some (v, h.take base) := by
  unfold gcS
  rw [hp]
  rw [show (1000000 : Nat) = 999999 + 1 from rfl, reach]
  simp [hr, mapO]
/-- a call that returns values without blocks of its own -/
theorem q_any {rs : List SRes} {base : Nat} {ρ : Reg} {ms : List Nat} {h h2 h0 : SHeap} {v : Value} {ex : Ex} (l : List Value) (hs : shut h ms = some h2) (he : resE ρ h2 rs = some l) (ho : l.all opnB = true) (hv : oneV l = v) (hp : ptrs 3 v = []) (hr : ∀ K, renV base K 3 v = some v)
    (ht : h2.take base = h0) (hx : isEnd ex = true) : callQ rs base (v, h0, []) ex ρ ms h [] := by
  refine ⟨hx, ?_⟩
  subst hv ht
  have key : resW ρ h2 rs fun l' => endW base h2 [] (oneV l, h2.take base, []) l' := resE_ok he ho ⟨_, _, gc_free hp hr, rfl⟩
  cases ms with
  | nil =>
    have : h = h2 := by simpa [shut] using hs
    subst this
    exact key
  | cons m ms => exact ⟨h2, hs, key⟩
/-- the same, with nothing to shut -/
theorem q_free {rs : List SRes} {base : Nat} {ρ : Reg} {h h0 : SHeap} {v : Value} {ex : Ex} (l : List Value) (he : resE ρ h rs = some l) (ho : l.all opnB = true) (hv : oneV l = v) (hp : ptrs 3 v = []) (hr : ∀ K, renV base K 3 v = some v)
    (ht : h.take base = h0) (hx : isEnd ex = true) : callQ rs base (v, h0, []) ex ρ [] h [] := q_any l rfl he ho hv hp hr ht hx

section
variable {FT : FuncId → Option SFunc} {C : Kn}

def zipR (ρ : Reg) : List Nat → List Value → Reg
  | p :: ps, a :: as => zipR (upd ρ p a) ps as
  | _, _ => ρ
end

/-- a call of which the result is only known by what it fulfils -/
theorem call_ex {FT : FuncId → Option SFunc} {C : Kn} {f : FuncId} {args : List Value} {h : SHeap} (P : Value × SHeap × List Nat → Prop) (sf : SFunc) (hf : FT f = some sf) (hC : C f args h = none) (hl : Nat.blt args.length (2 ^ sf.dep) = true)
    (hw : Run (big FT C) ⟨h.length, none, f⟩ sf.dep sf.body [] (argR args) [] h [] (fun ex ρ ms h' d => ∃ r, P r ∧ callQ sf.res h.length r ex ρ ms h' d)) : ∃ r, P r ∧ (big FT C).call f args h = some r := by
  obtain ⟨k1, k2⟩ := args_get (dep := sf.dep) args (by simpa using hl)
  have hw' : RunW (big FT C) ⟨h.length, none, f⟩ sf.dep sf.body (argR args) [] h [] (fun ex ρ ms h' d => ∃ r, P r ∧ callQ sf.res h.length r ex ρ ms h' d) := by
    have := hw
    unfold Run at this
    unfold Ends at this
    exact this
  obtain ⟨ex, t', ms', h', d', e, f1, r, hr, k, k3⟩ := hw' _ k1 k2
  refine ⟨r, hr, big_call hC ?_⟩
  unfold stepCall
  rw [hf]
  simp only [hl, if_true, fNat_eq, fFill_eq]
  rw [e]
  cases ex with
  | normal => exact finW_ok rfl k3
  | ret => exact finW_ok rfl k3
  | exit id => cases k
theorem call_yield (R : Rec) (base l : Nat) (h : SHeap) (d : List Nat) (args : List Value) : callS R base h d (.func (.yield l) #[] #[]) args = match R.round base l args h with
    | some (v, h', d') => some (v, h', d' ++ d)
    | none => none := by simp [callS]; rfl
theorem zipR_nil (ρ : Reg) (as : List Value) : zipR ρ [] as = ρ := by cases as <;> rfl
theorem zipR_cons (ρ : Reg) (p : Nat) (ps : List Nat) (a : Value) (as : List Value) : zipR ρ (p :: ps) (a :: as) = zipR (upd ρ p a) ps as := (rfl)
attribute [go_sem ↓] call_yield zipR_nil zipR_cons
end Go.Proofs.YtdmfhdnpakgkpaaDoor.Sh

