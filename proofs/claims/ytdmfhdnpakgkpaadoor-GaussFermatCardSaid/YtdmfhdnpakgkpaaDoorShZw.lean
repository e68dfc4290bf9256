/- The shadow machine: ends of calls in general, and ranges over functions. -/
import Derived.Test.YtdmfhdnpakgkpaaDoorShZp
namespace Go.Proofs.YtdmfhdnpakgkpaaDoor.Sh
open Go
set_option linter.all false
set_option maxRecDepth 100000

theorem rep1 : List.replicate 1 SO.gone = [SO.gone] := (rfl)
theorem rep2 : List.replicate 2 SO.gone = [SO.gone, SO.gone] := (rfl)
theorem rep3 : List.replicate 3 SO.gone = [SO.gone, SO.gone, SO.gone] := (rfl)
theorem new_some (h : SHeap) (b : Nat) (cs : List Value) (el : TypeId) (pf : Bool) : newS h (some b) cs el pf = if (!pf || cs.all sc) = true then (match h[b]? with
    | some .gone => some (b, h.set b (.cells cs el pf 0 []))
    | _ => none) else none := (rfl)
attribute [go_sem ↓] rep1 rep2 rep3 new_some
attribute [go_sem] Int.toNat_natCast

/-- the results of a call -/
def resE (ρ : Reg) (h : SHeap) : List SRes → Option (List Value)
  | [] => some []
  | .tmp i :: r => match resE ρ h r with
    | some l => some (ρ i :: l)
    | none => none
  | .cell agg i :: r => match ρ i with
    | .pointer a => match loadS h agg (.pointer a), resE ρ h r with
      | some v, some l => some (v :: l)
      | _, _ => none
    | _ => none
theorem resE_nil (ρ : Reg) (h : SHeap) : resE ρ h [] = some [] := (rfl)
theorem resE_tmp (ρ : Reg) (h : SHeap) (i : Nat) (r : List SRes) : resE ρ h (.tmp i :: r) = match resE ρ h r with
    | some l => some (ρ i :: l)
    | none => none := (rfl)
theorem resE_cell (ρ : Reg) (h : SHeap) (agg : Option Nat) (i : Nat) (r : List SRes) : resE ρ h (.cell agg i :: r) = match ρ i with
    | .pointer a => match loadS h agg (.pointer a), resE ρ h r with
      | some v, some l => some (v :: l)
      | _, _ => none
    | _ => none := (rfl)
attribute [go_sem ↓] resE_nil resE_tmp resE_cell
section
variable {FT : FuncId → Option SFunc} {C : FuncId → List Value → Option Value}

def zipR (ρ : Reg) : List Nat → List Value → Reg
  | p :: ps, a :: as => zipR (upd ρ p a) ps as
  | _, _ => ρ
end

theorem call_yield (R : Rec) (base l : Nat) (h : SHeap) (d : List Nat) (args : List Value) : callS R base h d (.func (.yield l) #[] #[]) args = match R.round base l args h with
    | some (v, h', d') => some (v, h', d' ++ d)
    | none => none := by simp [callS]; rfl
theorem zipR_nil (ρ : Reg) (as : List Value) : zipR ρ [] as = ρ := by cases as <;> rfl
theorem zipR_cons (ρ : Reg) (p : Nat) (ps : List Nat) (a : Value) (as : List Value) : zipR ρ (p :: ps) (a :: as) = zipR (upd ρ p a) ps as := (rfl)
attribute [go_sem ↓] call_yield zipR_nil zipR_cons
end Go.Proofs.YtdmfhdnpakgkpaaDoor.Sh

