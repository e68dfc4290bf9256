/- Maps of numbers: updates. -/
import Derived.Test.YtdmfhdnpakgkpaaDoorShZy
import Derived.Test.YtdmfhdnpakgkpaaDoorGi
set_option linter.all false
namespace Go.Proofs.YtdmfhdnpakgkpaaDoor.Sh
open Go
set_option maxRecDepth 100000
set_option maxHeartbeats 4000000

/-! ### maps -/
def updV (cx : Cx) (q : EqK) (m k v : Option Value) (h : SHeap) (d : List Nat) : Option (Value × SHeap × List Nat) :=
  match m, k, v with
    | some (.map (some r)), some k, some v =>
      if keyS q k then
      match h[r]? with
      | some (.map pf es) =>
        if !pf || ((cellsL k).all sc && (cellsL v).all sc) then
          match updS q k v es with
          | some es' => some (udf, h.set r (.map pf es'), dirty cx.base r pf d)
          | none => none
        else none
      | _ => none
      else none
    | _, _, _ => none
theorem E_mapUpdate (R : Rec) (cx : Cx) (e : Evl) (sl : Option Nat) (q : EqK) (m k v : Operand) (h : SHeap) (d : List Nat) : opE R cx e sl (.mapUpdate q m k v) h d = updV cx q (e m) (e k) (e v) h d := (rfl)
theorem E_makeMap (R : Rec) (cx : Cx) (e : Evl) (sl : Option Nat) (pf : Bool) (h : SHeap) (d : List Nat) : opE R cx e sl (.makeMap pf) h d = some (.map (some h.length), h ++ [.map pf []], d) := (rfl)
attribute [go_sem] E_mapUpdate E_makeMap
theorem updV_ok (cx : Cx) {q : EqK} {r : Nat} {k v : Value} {es es' : List (Value × Value)} {h : SHeap} (d : List Nat) (hk : keyS q k = true) (hm : h[r]? = some (.map true es)) (hs : ((cellsL k).all sc && (cellsL v).all sc) = true) (hu : updS q k v es = some es') : updV cx q (some (.map (some r))) (some k) (some v) h d = some (udf, h.set r (.map true es'), d) := by
  unfold updV
  dsimp only
  rw [hk, if_pos rfl, hm]
  dsimp only
  rw [hs, hu]
  rfl
def ent (p : Int × Int) : Value × Value := (.agg #[.int .i64 p.1, .int .i64 p.2], .bool true)
def addE (S : List (Int × Int)) (p : Int × Int) : List (Int × Int) := if p ∈ S then S else S ++ [p]
theorem upd_ins (p : Int × Int) : ∀ S : List (Int × Int), updS (.agg [.int, .int]) (.agg #[.int .i64 p.1, .int .i64 p.2]) (.bool true) (S.map ent) = some ((addE S p).map ent)
  | [] => rfl
  | q :: S => by
    show updS _ _ _ (ent q :: S.map ent) = _
    unfold ent updS
    rw [eqP p q]
    by_cases c : p = q
    · subst c
      rw [decide_eq_true rfl]
      unfold addE
      rw [if_pos (by simp)]
      rfl
    · rw [decide_eq_false c]
      dsimp only
      have ih := upd_ins p S
      unfold ent at ih
      rw [ih]
      unfold addE
      by_cases d : p ∈ S
      · rw [if_pos d, if_pos (by simp [d])]; rfl
      · rw [if_neg d, if_neg (by simp [c, d])]; rfl
theorem addE_mem {S : List (Int × Int)} {p q : Int × Int} : q ∈ addE S p ↔ q ∈ S ∨ q = p := by
  unfold addE; split
  · rename_i h
    constructor
    · exact .inl
    · rintro (k | rfl)
      · exact k
      · exact h
  · simp
theorem addE_nodup {S : List (Int × Int)} {p : Int × Int} (h : S.Nodup) : (addE S p).Nodup := by
  unfold addE; split
  · exact h
  · rename_i k
    rw [List.nodup_append]
    exact ⟨h, by simp, fun a ha b hb e => by simp at hb; subst hb; subst e; exact k ha⟩

end Go.Proofs.YtdmfhdnpakgkpaaDoor.Sh

