/- The area: the program's and the document's. -/
import Derived.Test.YtecncmmkghmojaaXd
set_option linter.all false
namespace Go.Proofs.Ytecncmmkghmojaa.Sh
open Go Geo
set_option maxRecDepth 100000

/-- the cross product of the ends of side k -/
def cz (l : List (Int × Int)) (k : Nat) : Int := crs (l.getD k (0, 0)) (l.getD ((k + 1) % l.length) (0, 0))
/-- numbers for the sides 0 to k - 1 -/
def vals (f : Nat → Int) (k : Nat) : List Value := ((List.range k).map f).map mkI
theorem inR_sm {p : Int × Int} (h : inR p) : sm p := by
  obtain ⟨a, b, c, d⟩ := h
  exact ⟨by omega, by omega⟩
/-- after k corners -/
structure JA (H0 : SHeap) (B L fn df : Nat) (t : T) (ps : List Nat) (as body : SCode) (f : Nat → Int) (k : Nat) (hh : SHeap) (dd : List Nat) : Prop where
  len : H0.length ≤ hh.length
  same : ∀ j, j < H0.length → j ≠ B → j ≠ L → hh[j]? = H0[j]?
  loop : hh[L]? = some (.loop 0 fn t ps as body none df)
  acc : ∃ v, hh[B]? = some (.cells [v] 40 false 0 []) ∧ Acc H0.length hh v (vals f k) k 1 3
  all : ∀ x ∈ dd, x = B
  some : k ≠ 0 → dd ≠ []

theorem JA.app {H0 : SHeap} {B L fn df : Nat} {t : T} {ps : List Nat} {as body : SCode} {f : Nat → Int} (hB : B < H0.length) (hL : L < H0.length) {k : Nat} {hh : SHeap} {dd : List Nat} (g : SHeap) (J : JA H0 B L fn df t ps as body f k hh dd) : JA H0 B L fn df t ps as body f k (hh ++ g) dd := by
  have e := J.len
  have same' : ∀ j, j < hh.length → (hh ++ g)[j]? = hh[j]? := fun j hj => List.getElem?_append_left hj
  obtain ⟨v, h1, h2⟩ := J.acc
  exact ⟨by simp; omega, fun j a b c => by rw [same' j (by omega)]; exact J.same j a b c, by rw [same' L (by omega)]; exact J.loop,
    ⟨v, by rw [same' B (by omega)]; exact h1, h2.keep (fun b e => by have := h2.lt e; rw [same' b this.2])⟩, J.all, J.some⟩

/-- a hull of the program: its corners, its middle -/
def Body (h : SHeap) (b cb c : Nat) (l : List (Int × Int)) (x y D : Int) : Prop :=
  h[b]? = some (.cells [.slice (some ⟨cb, 0, none⟩) l.length c, .int .i64 x, .int .i64 y, .int .i64 D] 79 false 0 []) ∧ Prs h cb 0 l
theorem Body.lt {h : SHeap} {b cb c : Nat} {l : List (Int × Int)} {x y D : Int} (k : Body h b cb c l x y D) : b < h.length := (List.getElem?_eq_some_iff.1 k.1).1
theorem Body.app {h : SHeap} {b cb c : Nat} {l : List (Int × Int)} {x y D : Int} (k : Body h b cb c l x y D) (g : SHeap) : Body (h ++ g) b cb c l x y D :=
  ⟨by rw [List.getElem?_append_left k.lt]; exact k.1, k.2.app g⟩
theorem Body.load {h : SHeap} {b cb c : Nat} {l : List (Int × Int)} {x y D : Int} (k : Body h b cb c l x y D) : loadS h none (.pointer (some ⟨b, 0, none⟩)) = some (.slice (some ⟨cb, 0, none⟩) l.length c) := by
  rw [load_rdO, k.1]; rfl
theorem take_set {h : SHeap} {base m : Nat} (hle : base ≤ m) (x : SO) : (h.set m x).take base = h.take base := by
  apply List.ext_getElem?
  intro j
  rw [List.getElem?_take, List.getElem?_take]
  by_cases e : j < base
  · rw [if_pos e, if_pos e, List.getElem?_set_ne (by omega)]
  · rw [if_neg e, if_neg e]
/-- the area -/
def areaZ (l : List (Int × Int)) : Int := isum ((List.range l.length).map (cz l))

end Go.Proofs.Ytecncmmkghmojaa.Sh

