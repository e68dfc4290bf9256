/- Sums, and the balance of a tower. -/
import Derived.Test.YtecncmmkghmojaaH1
import Derived.Test.YtecncmmkghmojaaH2
import Derived.Test.YtecncmmkghmojaaM3
set_option linter.all false
/- Sums, and the balance of a tower. -/
namespace Go.Proofs.Ytecncmmkghmojaa.Sh
open Go
set_option maxRecDepth 100000

def isum : List Int → Int
  | [] => 0
  | x :: r => x + isum r
theorem isum_append : ∀ (l m : List Int), isum (l ++ m) = isum l + isum m
  | [], m => by simp [isum]
  | x :: r, m => by simp only [List.cons_append, isum, isum_append r m]; omega
theorem isum_take_succ (l : List Int) (i : Nat) (hi : i < l.length) : isum (l.take (i + 1)) = isum (l.take i) + l[i] := by
  rw [List.take_add_one, List.getElem?_eq_getElem hi, isum_append]
  simp [isum]
theorem isum_bound (m : Nat) : ∀ (l : List Int), (∀ x ∈ l, x.natAbs ≤ m) → (isum l).natAbs ≤ l.length * m
  | [], _ => by simp [isum]
  | x :: r, h => by
    have h1 := h x (by simp)
    have h2 := isum_bound m r (fun y hy => h y (by simp [hy]))
    simp only [isum, List.length_cons, Nat.add_mul, Nat.one_mul]
    omega

/-- a slice of whole numbers, from the beginning of its block -/
def IS (h : SHeap) (v : Value) (l : List Int) : Prop := ∃ a c, v = .slice a l.length c ∧ (l ≠ [] → ∃ b, a = some ⟨b, 0, none⟩ ∧ Ints h b l)

end Go.Proofs.Ytecncmmkghmojaa.Sh


/- The balance of a tower, of the program. -/
namespace Go.Proofs.Ytecncmmkghmojaa.Sh
open Go
set_option maxRecDepth 100000

theorem Prs.same {h h' : SHeap} {b o : Nat} {l : List (Int × Int)} (k : Prs h b o l) (e : h'[b]? = h[b]?) : Prs h' b o l := by
  obtain ⟨pre, post, el, pf, own, old, h1, h2⟩ := k
  exact ⟨pre, post, el, pf, own, old, by rw [e]; exact h1, h2⟩
theorem Prs.drop {h : SHeap} {b o : Nat} {l : List (Int × Int)} (k : Prs h b o l) (p : Nat) (hp : p ≤ l.length) : Prs h b (o + p * 2) (l.drop p) := by
  obtain ⟨pre, post, el, pf, own, old, h1, h2, h3⟩ := k
  refine ⟨pre ++ prs (l.take p), post, el, pf, own, old, ?_, h2, ?_⟩
  · rw [h1, List.append_assoc, ← List.append_assoc (prs (l.take p)), ← prs_app, List.take_append_drop]
  · simp [prs_len, h3]; omega

/-- a tower's slice: from the beginning of its block -/
def TSl (h : SHeap) (v : Value) (l : List (Int × Int)) : Prop := ∃ b c, v = .slice (some ⟨b, 0, none⟩) l.length c ∧ Prs h b 0 l ∧ (c = UNK + 2 ∨ (c < UNK ∧ l.length ≤ c))
theorem TSl.ps {h : SHeap} {v : Value} {l : List (Int × Int)} (k : TSl h v l) : PS h v l := by
  obtain ⟨b, c, rfl, hp, _⟩ := k
  exact ⟨_, c, rfl, fun _ => ⟨b, 0, rfl, hp⟩⟩
theorem TSl.app {h : SHeap} {v : Value} {l : List (Int × Int)} (k : TSl h v l) (g : SHeap) : TSl (h ++ g) v l := by
  obtain ⟨b, c, rfl, hp, hc⟩ := k
  exact ⟨b, c, rfl, hp.app g, hc⟩
theorem TSl.drop {h : SHeap} {v : Value} {l : List (Int × Int)} (k : TSl h v l) {p : Nat} (hp : p < l.length) :
    ∃ b c', sliceS 2 v (some (.int .i64 (p : Int))) none none = some (.slice (some ⟨b, p * 2, none⟩) (l.length - p) c') ∧ Prs h b (p * 2) (l.drop p) := by
  obtain ⟨b, c, rfl, hb, hc⟩ := k
  have hd := hb.drop p (by omega)
  rw [Nat.zero_add] at hd
  have e2 : (decide (0 ≤ (p : Int)) && decide ((p : Int) ≤ (l.length : Int))) = true := by simp; omega
  rcases hc with rfl | ⟨hc, hle⟩
  · refine ⟨b, UNK + 2, ?_, hd⟩
    have e1 : Nat.ble UNK (UNK + 2) = true := by decide
    unfold sliceS
    simp only [bMx, e1, if_true, bHi, bLo, bnd, e2, Int.toNat_natCast]
    simp
  · have e1 : Nat.ble UNK c = false := by rw [ble_dec]; simp; exact hc
    have e3 : Nat.blt c UNK = true := by rw [blt_dec]; simp [hc]
    have e4 : (c == p) = false := beq_eq_false_iff_ne.2 (by omega)
    refine ⟨b, c - p, ?_, hd⟩
    unfold sliceS
    simp only [bMx, e1, Bool.false_eq_true, if_false, bHi, bLo, bnd, e2, if_true, Int.toNat_natCast, Bool.false_and, e3, e4, Nat.zero_add]

def ww (q : Int × Int) : Int := 2 * q.2
def sepV (n s : Nat) (v w : Value) : Prop := ∀ b b', v = .slice (some ⟨b, 0, none⟩) n (UNK + s) → w = .slice (some ⟨b', 0, none⟩) n (UNK + s) → b ≠ b'

end Go.Proofs.Ytecncmmkghmojaa.Sh


/- balance and Balance of the program. -/
namespace Go.Proofs.Ytecncmmkghmojaa.Sh
open Go
set_option maxRecDepth 100000

theorem Acc.is {lo : Nat} {h : SHeap} {v : Value} {l : List Int} {n : Nat} {el : TypeId} (a : Acc lo h v (l.map mkI) n 1 el) (hn : n = l.length) : IS h v l := by
  subst hn
  rcases a with ⟨h1, rfl, h2⟩ | ⟨b, old, rfl, h1, _⟩
  · exact ⟨none, 0, by rw [h1], fun hne => (hne (by simpa using h1)).elim⟩
  · exact ⟨_, _, rfl, fun _ => ⟨b, rfl, el, true, 0, old, h1, rfl⟩⟩

end Go.Proofs.Ytecncmmkghmojaa.Sh


/- Balance, Stands and Reach of the program, of towers. -/
namespace Go.Proofs.Ytecncmmkghmojaa.Sh
open Go
set_option maxRecDepth 100000

def Ext (h h' : SHeap) : Prop := ∃ g, h' = h ++ g
theorem Ext.refl (h : SHeap) : Ext h h := ⟨[], by simp⟩
theorem Ext.app {h h' : SHeap} (e : Ext h h') (l : List SO) : Ext h (h' ++ l) := by
  obtain ⟨g, rfl⟩ := e
  exact ⟨g ++ l, by simp⟩
theorem Ext.take {h h' : SHeap} (e : Ext h h') : h'.take h.length = h := by
  obtain ⟨g, rfl⟩ := e
  exact take_app _ _
theorem TSl.ext {h h' : SHeap} {v : Value} {l : List (Int × Int)} (k : TSl h v l) (e : Ext h h') : TSl h' v l := by
  obtain ⟨g, rfl⟩ := e
  exact k.app g

theorem mul_bound {a b : Int} {m n : Nat} (ha : a.natAbs ≤ m) (hb : b.natAbs ≤ n) : (a * b).natAbs ≤ m * n := by
  rw [Int.natAbs_mul]
  exact Nat.mul_le_mul ha hb

end Go.Proofs.Ytecncmmkghmojaa.Sh


/- Reach of the program; Balance, Stands and Reach of the document. -/
namespace Go.Proofs.Ytecncmmkghmojaa.Sh
open Go
set_option maxRecDepth 100000

end Go.Proofs.Ytecncmmkghmojaa.Sh


/- Stands of the document; the towers that the statements make. -/
namespace Go.Proofs.Ytecncmmkghmojaa.Sh
open Go
set_option maxRecDepth 100000

/-! ### planks -/
theorem u64_mod (n : Int) (m : Int) (hm : 0 < m) (hm2 : m ≤ 1000000) : 0 ≤ (IntKind.u64.wrap n).tmod m ∧ (IntKind.u64.wrap n).tmod m < m := by
  have h1 : IntKind.u64.wrap n = n % 18446744073709551616 := by simp [IntKind.wrap, IntKind.signed, IntKind.bits]
  have h2 : 0 ≤ n % 18446744073709551616 := by omega
  rw [h1]
  refine ⟨Int.tmod_nonneg _ h2, ?_⟩
  rw [Int.tmod_eq_emod_of_nonneg h2]
  exact Int.emod_lt_of_pos _ hm
theorem rep1 : List.replicate 1 SO.gone = [SO.gone] := rfl
theorem new_some (h : SHeap) (b : Nat) (cs : List Value) (el : TypeId) (pf : Bool) : newS h (some b) cs el pf = if (!pf || cs.all sc) = true then (match h[b]? with
    | some .gone => some (b, h.set b (.cells cs el pf 0 []))
    | _ => none) else none := (rfl)

end Go.Proofs.Ytecncmmkghmojaa.Sh


/- HullStands on the shadow machine. -/
namespace Go.Proofs.Ytecncmmkghmojaa.Sh
open Go
set_option maxRecDepth 100000

theorem ext_of_same {h h' : SHeap} (hl : h.length ≤ h'.length) (k : ∀ j, j < h.length → h'[j]? = h[j]?) : Ext h h' := by
  have := take_of_same hl k
  exact ⟨h'.drop h.length, by conv => lhs; rw [← List.take_append_drop h.length h', this]⟩
theorem ren_none {base b : Nat} {old : List Nat} (h : ∀ c ∈ old, base ≤ c ∧ c < b) : old.filterMap (ren base [b]) = [] := by
  rw [List.filterMap_eq_nil_iff]
  intro c hc
  have := h c hc
  have e1 : Nat.ble base c = true := by rw [ble_dec]; simp; omega
  have e2 : Nat.beq b c = false := by rw [nbeq_dec]; simp; omega
  simp only [ren, e1, posOf, e2]
  rfl

/-! ### the statement's second tower -/
end Go.Proofs.Ytecncmmkghmojaa.Sh


/- HullStands on the shadow machine. -/
namespace Go.Proofs.Ytecncmmkghmojaa.Sh
open Go
set_option maxRecDepth 100000

/-- the block in which the tower lies, and what lay there before -/
def HT (h h' : SHeap) (y : List (Int × Int)) : Prop := h.length < h'.length ∧ h'[h.length]? = some (.cells (prs y) 53 true 0 []) ∧ ∀ j, j < h.length → h'[j]? = h[j]?
theorem HT.app {h h' : SHeap} {y : List (Int × Int)} (k : HT h h' y) (g : List SO) : HT h (h' ++ g) y := by
  obtain ⟨h1, h2, h3⟩ := k
  refine ⟨by simp; omega, by rw [List.getElem?_append_left h1]; exact h2, fun j hj => by rw [List.getElem?_append_left (by omega)]; exact h3 j hj⟩
theorem HT.take {h h' : SHeap} {y : List (Int × Int)} (k : HT h h' y) : h'.take h.length = h := take_of_same (Nat.le_of_lt k.1) k.2.2

theorem plank_of (z : Int) (n : Nat) (hn1 : 1 ≤ n) (hn : n ≤ 12) : IntKind.u64.wrap (n : Int) = n ∧ ∃ P : Nat, P < n ∧ IntKind.i64.wrap ((IntKind.u64.wrap z).tmod n) = P := by
  have h1 : IntKind.u64.wrap (n : Int) = (n : Int) % 18446744073709551616 := by simp [IntKind.wrap, IntKind.signed, IntKind.bits]
  refine ⟨by rw [h1]; omega, ?_⟩
  have h2 := u64_mod z n (by omega) (by omega)
  refine ⟨((IntKind.u64.wrap z).tmod n).toNat, by omega, ?_⟩
  rw [wrap64 (by omega) (by omega)]
  omega

end Go.Proofs.Ytecncmmkghmojaa.Sh


