/- The shadow machine: a call with iterators over maps that answers the same in all orders. -/
import Derived.Test.YtdmfhdnpakgkpaaDoorShZt
set_option linter.all false
namespace Go.Proofs.YtdmfhdnpakgkpaaDoor.Sh
open Go Go.RowKit

section
variable {P : Program} {R : Rec}

theorem call_L (hmix : P.follows .mixedOrders = true) {FT : FuncId → Option SFunc} (hT : Tab P FT) {k : Nat} (S : Sound P R k) {f : FuncId} {args : List Value} {h : SHeap} {v : Value} {h' : SHeap} {d' : List Nat} {sf : SFunc} {L : List (Ex × St)} (hsf : FT f = some sf) (hlen : args.length < 2 ^ sf.dep)
    (hL : execL R ⟨h.length, none, f⟩ sf.body ⟨(T.blank sf.dep).fill 0 args, [], h, []⟩ = some L) (hall : ∀ x ∈ L, (x.1 = .normal ∨ x.1 = .ret) ∧ fin sf h.length x.2 = some (v, h', d')) (B : Nat) (w0 : World) (m : Mp) (w : World) (args' : List Value) (r : Rel ⟨P, B, w0⟩ m h w) (hl : LR m args args') :
    Known P f ∧ ∀ n, CallsIn Fence.wide n P f args'.toArray w (CallPost ⟨P, B, w0⟩ m h v h') := by
  obtain ⟨fn, hfn, hcomp⟩ := hT f sf hsf
  unfold compFunc at hcomp
  split at hcomp
  · cases hcomp
  rename_i c hbody
  split at hcomp
  case h_2 => cases hcomp
  rename_i sc rs hsc hrs
  split at hcomp
  case isFalse => cases hcomp
  rename_i hcond
  simp only [Bool.and_eq_true] at hcond
  have hname : fn.name ≠ "runtime.NumGoroutine" := by simpa using hcond.2
  cases hcomp
  refine ⟨⟨fn, hfn, hname, by rw [hbody]; rfl⟩, fun n => ?_⟩
  refine callsIn_of_wp_marks (F := Fence.wide) hfn hbody trivial ?_
  have hk0 := execL_keep (cx := ⟨h.length, none, f⟩) S.ckeep S.rkeep S.lkeep sc _ L (Nat.le_refl _) hL
  refine execL_ok hmix S.call S.round S.loop c fn.ntmps ⟨h.length, none, f⟩ sc _ L m _ w Fence.wide n _ hsc hcond.1 hL ⟨TR.args (Nat.lt_log2_self) hlen hl, .nil, r⟩ (.inl ⟨rfl, rfl⟩) ?_
  intro ex s e a' w' hmem hx
  obtain ⟨hexn, hf⟩ := hall _ hmem
  have hk := hk0 _ hmem
  obtain ⟨h1, l, hsh, hres, hcase⟩ := fin_out hf
  have hk2 : Keep h.length h h1 s.d := hk.1.2.trans (shut_keep h.length s.d s.ms s.h h1 (hk.2 (fun b hb => by simp at hb)) hsh) (fun _ h => h)
  obtain ⟨he, m', q1, q2, q3⟩ := hx
  have done : LeavesInM Fence.wide n P fn a'.tmps (CallPost ⟨P, B, w0⟩ m h v h') a'.defers .returning w' := by
    refine leaves_ok s.ms a'.defers s.h h1 w' q3.ds hsh q3.rel ?_
    intro w1 r1 g1
    obtain ⟨l', hl1, hl2⟩ := res_run q3.tr r1 fn.results.toList rs l hrs hres
    refine ⟨(if hh : l'.toArray.size = 1 then l'.toArray[0] else .tuple l'.toArray), ?_, ?_⟩
    · rw [results_eq, Array.mapM_eq_mapM_toList]
      simp [hl2]
    · have hv := oneV_sim hl1
      rcases hcase with ⟨hd, _, hg⟩ | ⟨rfl, rfl, _⟩
      · rw [hd] at hk2
        obtain ⟨m2, p1, p2, p3, p4⟩ := gc_ok r r1 q1 (q2.trans g1) hk2 hv hg
        exact ⟨m2, p1, p2, p3, p4⟩
      · exact ⟨m', hv, q1, r1, q2.trans g1⟩
  subst he
  rcases hexn with hexn | hexn
  · simp only at hexn; subst hexn; exact done
  · simp only at hexn; subst hexn; exact done

theorem keep_L {FT : FuncId → Option SFunc} {k : Nat} (S : Sound P R k) {f : FuncId} {args : List Value} {h : SHeap} {v : Value} {h' : SHeap} {d' : List Nat} {sf : SFunc} {L : List (Ex × St)}
    (hL : execL R ⟨h.length, none, f⟩ sf.body ⟨(T.blank sf.dep).fill 0 args, [], h, []⟩ = some L) (hne : L ≠ []) (hall : ∀ x ∈ L, (x.1 = .normal ∨ x.1 = .ret) ∧ fin sf h.length x.2 = some (v, h', d')) : Keep h.length h h' d' := by
  obtain ⟨x, hx⟩ := List.exists_mem_of_ne_nil L hne
  have hk := execL_keep (cx := ⟨h.length, none, f⟩) S.ckeep S.rkeep S.lkeep sf.body _ L (Nat.le_refl _) hL x hx
  obtain ⟨_, hf⟩ := hall x hx
  obtain ⟨h1, l, hsh, _, hcase⟩ := fin_out hf
  have hk2 : Keep h.length h h1 x.2.d := hk.1.2.trans (shut_keep h.length x.2.d x.2.ms x.2.h h1 (hk.2 (fun b hb => by simp at hb)) hsh) (fun _ h => h)
  rcases hcase with ⟨hd, rfl, hg⟩ | ⟨_, rfl, rfl⟩
  · rw [hd] at hk2
    unfold gcS at hg
    simp only at hg
    split at hg
    case h_2 => cases hg
    rename_i v2 kept _ _
    cases hg
    refine ⟨by have := hk2.1; simp; omega, fun b o hb ho => ?_⟩
    obtain ⟨o', q1, q2⟩ := hk2.2 b o hb ho
    refine ⟨o', ?_, q2⟩
    have := hk2.1
    rw [List.getElem?_append_left (by simp; omega), List.getElem?_take, if_pos hb]
    exact q1
  · exact hk2

/-- one call more -/
noncomputable def overX (n : Note) (R : Rec) : Rec := by
  classical
  exact ⟨fun g a hh => if g = n.f ∧ a = n.args ∧ hh = n.h then some n.r else R.call g a hh, R.round, R.loop⟩

def goodEx : Ex → Bool
  | .normal | .ret => true
  | _ => false
/-- all orders lead to this answer -/
def noteL (FT : FuncId → Option SFunc) (R : Rec) (n : Note) : Bool :=
  match FT n.f with
  | none => false
  | some sf => Nat.blt n.args.length (2 ^ sf.dep) && match execL R ⟨n.h.length, none, n.f⟩ sf.body ⟨(T.blank sf.dep).fill 0 n.args, [], n.h, []⟩ with
    | some (x :: l) => (x :: l).all fun y => goodEx y.1 && rEq (fin sf n.h.length y.2) n.r
    | _ => false

theorem noteL_ok (hmix : P.follows .mixedOrders = true) {FT : FuncId → Option SFunc} (hT : Tab P FT) {k : Nat} (S : Sound P R k) {n : Note} (hn : noteL FT R n = true) : NoteOK P n := by
  unfold noteL at hn
  split at hn
  · cases hn
  rename_i sf hsf
  simp only [Bool.and_eq_true, Nat.blt_eq] at hn
  obtain ⟨hlen, hn⟩ := hn
  split at hn
  case h_2 => cases hn
  rename_i x l hL
  have hall : ∀ y ∈ x :: l, (y.1 = .normal ∨ y.1 = .ret) ∧ fin sf n.h.length y.2 = some n.r := by
    intro y hy
    have := List.all_eq_true.1 hn y hy
    simp only [Bool.and_eq_true] at this
    refine ⟨?_, rEq_eq this.2⟩
    have h1 := this.1
    cases hq : y.1 with
    | normal => exact .inl rfl
    | ret => exact .inr rfl
    | exit j => rw [hq] at h1; cases h1
  obtain ⟨f, args, h, v, h', d'⟩ := n
  refine ⟨overX ⟨f, args, h, v, h', d'⟩ R, k, ⟨?_, S.round, S.loop, ?_, S.rkeep, S.lkeep⟩, ?_⟩
  · intro B w0 g a hh v2 h2 d2 m w args' hs r hl
    simp only [overX] at hs
    split at hs
    · rename_i e
      obtain ⟨rfl, rfl, rfl⟩ := e
      cases hs
      exact call_L hmix hT S hsf hlen hL hall B w0 m w args' r hl
    · exact S.call B w0 g a hh v2 h2 d2 m w args' hs r hl
  · intro g a hh v2 h2 d2 hs
    simp only [overX] at hs
    split at hs
    · rename_i e
      obtain ⟨rfl, rfl, rfl⟩ := e
      cases hs
      exact keep_L (FT := FT) S hL (by simp) hall
    · exact S.ckeep g a hh v2 h2 d2 hs
  · simp [overX]
end
end Go.Proofs.YtdmfhdnpakgkpaaDoor.Sh

