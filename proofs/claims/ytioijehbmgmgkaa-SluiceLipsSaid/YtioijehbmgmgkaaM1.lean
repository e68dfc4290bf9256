/- The shadow machine: each operation does what the program's does. -/
import Derived.Test.YtioijehbmgmgkaaShB
import Derived.Below
import Derived.RangeFuncLeaves
import Derived.Laws.Sem
import Derived.Laws.Cells
import Derived.Laws.IdiomCopy
import Derived.Laws.Entries
import Derived.ChangeKeysEq
import Derived.Laws.StructEq
import Derived.Laws.Append
import Derived.Laws.Tables
import Derived.Laws.NewFold
import Derived.Laws.BitsLemmas
import Derived.DeepKeys3
import Derived.MapKept
import Derived.Carry
import Derived.RangeFuncRecord
set_option linter.all false
namespace Go.Proofs.Ytioijehbmgmgkaa.Sh
open Go Go.RowKit
abbrev Mp := List (Option ((Nat × Nat) × Option (Nat × Nat)))
def Mp.full (m : Mp) (b : Nat) : Option ((Nat × Nat) × Option (Nat × Nat)) := (m[b]?).join
def Mp.at (m : Mp) (b : Nat) : Option (Nat × Nat) := (m.full b).map (·.1)
def Mp.cp (m : Mp) (b : Nat) : Option (Nat × Nat) := (m.full b).bind (·.2)
def Mp.le (m m' : Mp) : Prop := ∀ b x, m.full b = some x → m'.full b = some x
theorem Mp.le_refl (m : Mp) : m.le m := fun _ _ h => h
theorem Mp.le_trans {a b c : Mp} (h : a.le b) (k : b.le c) : a.le c := fun _ _ x => k _ _ (h _ _ x)
theorem Mp.at_some {m : Mp} {b : Nat} {x} (h : m.at b = some x) : ∃ y, m.full b = some (x, y) := by
  unfold Mp.at at h
  cases hf : m.full b with
  | none => rw [hf] at h; cases h
  | some z => rw [hf] at h; cases h; exact ⟨z.2, rfl⟩
theorem Mp.at_none {m : Mp} {b : Nat} : m.at b = none ↔ m.full b = none := by
  unfold Mp.at; cases m.full b <;> simp
theorem Mp.le_at {m m' : Mp} (h : m.le m') {b x} (k : m.at b = some x) : m'.at b = some x := by
  obtain ⟨y, hy⟩ := Mp.at_some k
  unfold Mp.at; rw [h _ _ hy]; rfl
theorem Mp.le_cp {m m' : Mp} (h : m.le m') {b x} (k : m.at b = some x) : m'.cp b = m.cp b := by
  obtain ⟨y, hy⟩ := Mp.at_some k
  unfold Mp.cp; rw [h _ _ hy, hy]
theorem Mp.full_lt {m : Mp} {b : Nat} {x} (h : m.full b = some x) : b < m.length := by
  unfold Mp.full at h
  by_cases hb : b < m.length
  · exact hb
  · rw [List.getElem?_eq_none (by omega)] at h; cases h
theorem Mp.at_lt {m : Mp} {b : Nat} {x} (h : m.at b = some x) : b < m.length := by
  obtain ⟨y, hy⟩ := Mp.at_some h
  exact Mp.full_lt hy
theorem Mp.full_append_left {m n : Mp} {b : Nat} (h : b < m.length) : Mp.full (m ++ n) b = m.full b := by
  unfold Mp.full; rw [List.getElem?_append_left h]
theorem Mp.full_snoc {m : Mp} {x} : Mp.full (m ++ [x]) m.length = x := by
  unfold Mp.full; simp
theorem Mp.at_append_left {m n : Mp} {b : Nat} (h : b < m.length) : Mp.at (m ++ n) b = m.at b := by
  unfold Mp.at; rw [Mp.full_append_left h]
theorem Mp.cp_append_left {m n : Mp} {b : Nat} (h : b < m.length) : Mp.cp (m ++ n) b = m.cp b := by
  unfold Mp.cp; rw [Mp.full_append_left h]
theorem Mp.at_snoc {m : Mp} {x} : Mp.at (m ++ [x]) m.length = x.map (·.1) := by
  unfold Mp.at; rw [Mp.full_snoc]
theorem Mp.cp_snoc {m : Mp} {x} : Mp.cp (m ++ [x]) m.length = x.bind (·.2) := by
  unfold Mp.cp; rw [Mp.full_snoc]
theorem Mp.le_append (m n : Mp) : m.le (m ++ n) := fun _ _ h => by rw [Mp.full_append_left (Mp.full_lt h)]; exact h
theorem Mp.full_set_same {m : Mp} {b : Nat} {x} (h : b < m.length) : Mp.full (m.set b x) b = x := by
  unfold Mp.full; simp [h]
theorem Mp.full_set_ne {m : Mp} {b c : Nat} {x} (h : b ≠ c) : Mp.full (m.set b x) c = m.full c := by
  unfold Mp.full; rw [List.getElem?_set_ne h]
theorem Mp.at_set_same {m : Mp} {b : Nat} {x} (h : b < m.length) : Mp.at (m.set b x) b = x.map (·.1) := by
  unfold Mp.at; rw [Mp.full_set_same h]
theorem Mp.cp_set_same {m : Mp} {b : Nat} {x} (h : b < m.length) : Mp.cp (m.set b x) b = x.bind (·.2) := by
  unfold Mp.cp; rw [Mp.full_set_same h]
theorem Mp.at_set_ne {m : Mp} {b c : Nat} {x} (h : b ≠ c) : Mp.at (m.set b x) c = m.at c := by
  unfold Mp.at; rw [Mp.full_set_ne h]
theorem Mp.cp_set_ne {m : Mp} {b c : Nat} {x} (h : b ≠ c) : Mp.cp (m.set b x) c = m.cp c := by
  unfold Mp.cp; rw [Mp.full_set_ne h]
theorem Mp.le_set {m : Mp} {b : Nat} {x} (h : m.at b = none) : m.le (m.set b x) := fun c y hc => by
  rw [Mp.full_set_ne (by intro e; subst e; rw [Mp.at_none.1 h] at hc; cases hc)]; exact hc
def CapR (m : Mp) (b o c c' : Nat) : Prop := (c = c' ∧ c < UNK) ∨ (UNK ≤ c ∧ ∃ K s, m.cp b = some (K, s) ∧ c = UNK + s ∧ o + c' * s ≤ K)
inductive VR (m : Mp) : Value → Value → Prop
  | bool (b) : VR m (.bool b) (.bool b)
  | int (k n) : VR m (.int k n) (.int k n)
  | string (s) : VR m (.string s) (.string s)
  | nilFunc : VR m .nilFunc .nilFunc
  | nilIface : VR m .nilIface .nilIface
  | ptr0 : VR m (.pointer none) (.pointer none)
  | ptr {b o A δ} (h : m.at b = some (A, δ)) : VR m (.pointer (some ⟨b, o, none⟩)) (.pointer (some ⟨A, δ + o, none⟩))
  | sl0 : VR m (.slice none 0 0) (.slice none 0 0)
  | sl {b o A δ n c c'} (h : m.at b = some (A, δ)) (hn : n ≤ c') (hc : CapR m b o c c') : VR m (.slice (some ⟨b, o, none⟩) n c) (.slice (some ⟨A, δ + o, none⟩) n c')
  | slz {b o c a' p} (hb : m.at b = some p) (hc : c = 0 ∨ UNK ≤ c) : VR m (.slice (some ⟨b, o, none⟩) 0 c) (.slice (some a') 0 0)
  | map0 : VR m (.map none) (.map none)
  | map {r A} (h : m.at r = some (A, 0)) : VR m (.map (some r)) (.map (some A))
  | func {f} {as bs as' bs' : Array Value} (ha : as.toList.length = as'.toList.length) (hb : bs.toList.length = bs'.toList.length)
      (ka : ∀ (i : Nat) (x y : Value), as.toList[i]? = some x → as'.toList[i]? = some y → VR m x y) (kb : ∀ (i : Nat) (x y : Value), bs.toList[i]? = some x → bs'.toList[i]? = some y → VR m x y) :
      VR m (.func (.func f) as bs) (.func (.func f) as' bs')
  | yield {l A} (h : m.at l = some (A, 0)) : VR m (.func (.yield l) #[] #[]) (.func (.yield A) #[] #[])
  | agg {as as' : Array Value} (ha : as.toList.length = as'.toList.length) (ka : ∀ (i : Nat) (x y : Value), as.toList[i]? = some x → as'.toList[i]? = some y → VR m x y) :
      VR m (.agg as) (.agg as')
  | tuple {as as' : Array Value} (ha : as.toList.length = as'.toList.length) (ka : ∀ (i : Nat) (x y : Value), as.toList[i]? = some x → as'.toList[i]? = some y → VR m x y) :
      VR m (.tuple as) (.tuple as')
def LR (m : Mp) (l l' : List Value) : Prop := l.length = l'.length ∧ ∀ (i : Nat) (x y : Value), l[i]? = some x → l'[i]? = some y → VR m x y
theorem VR.mono {m m' : Mp} (h : m.le m') {v v' : Value} (k : VR m v v') : VR m' v v' := by
  induction k with
  | bool => exact .bool _
  | int => exact .int _ _
  | string => exact .string _
  | nilFunc => exact .nilFunc
  | nilIface => exact .nilIface
  | ptr0 => exact .ptr0
  | ptr hb => exact .ptr (Mp.le_at h hb)
  | sl0 => exact .sl0
  | sl hb hn hc => exact .sl (Mp.le_at h hb) hn (hc.imp id (fun ⟨a, K, s, e, k⟩ => ⟨a, K, s, by rw [Mp.le_cp h hb]; exact e, k⟩))
  | slz hb hc => exact .slz (Mp.le_at h hb) hc
  | map0 => exact .map0
  | map hb => exact .map (Mp.le_at h hb)
  | func ha hb _ _ ka kb => exact .func ha hb ka kb
  | yield hb => exact .yield (Mp.le_at h hb)
  | agg ha _ ka => exact .agg ha ka
  | tuple ha _ ka => exact .tuple ha ka
theorem LR.mono {m m' : Mp} (h : m.le m') {l l' : List Value} (k : LR m l l') : LR m' l l' := ⟨k.1, fun i x y hx hy => (k.2 i x y hx hy).mono h⟩
theorem LR.nil (m : Mp) : LR m [] [] := ⟨rfl, fun i x y hx => by simp at hx⟩
theorem LR.cons {m : Mp} {x y : Value} {l l' : List Value} (h : VR m x y) (k : LR m l l') : LR m (x :: l) (y :: l') :=
  ⟨by simp [k.1], fun i a b ha hb => by
    cases i with
    | zero => simp at ha hb; subst ha hb; exact h
    | succ i => simp at ha hb; exact k.2 i a b ha hb⟩
theorem LR.cons_inv {m : Mp} {x : Value} {l l' : List Value} (h : LR m (x :: l) l') : ∃ y r, l' = y :: r ∧ VR m x y ∧ LR m l r := by
  cases l' with
  | nil => simp [LR] at h
  | cons y r => exact ⟨y, r, rfl, h.2 0 x y rfl rfl, by simpa using h.1, fun i a b ha hb => h.2 (i + 1) a b (by simpa using ha) (by simpa using hb)⟩
theorem LR.nil_inv {m : Mp} {l' : List Value} (h : LR m [] l') : l' = [] := by
  cases l' with
  | nil => rfl
  | cons y r => simp [LR] at h
theorem LR.append {m : Mp} {a a' b b' : List Value} (h : LR m a a') (k : LR m b b') : LR m (a ++ b) (a' ++ b') := by
  induction a generalizing a' with
  | nil => rw [h.nil_inv]; exact k
  | cons x r ih => obtain ⟨y, r', rfl, h1, h2⟩ := h.cons_inv; exact (ih h2).cons h1
theorem LR.get {m : Mp} {l l' : List Value} (h : LR m l l') {i : Nat} {x} (hx : l[i]? = some x) : ∃ y, l'[i]? = some y ∧ VR m x y := by
  have hi : i < l.length := (List.getElem?_eq_some_iff.1 hx).1
  have hi' : i < l'.length := h.1 ▸ hi
  exact ⟨l'[i], by simp [hi'], h.2 i x _ hx (by simp [hi'])⟩
theorem LR.get' {m : Mp} {l l' : List Value} (h : LR m l l') {i : Nat} {y} (hy : l'[i]? = some y) : ∃ x, l[i]? = some x ∧ VR m x y := by
  have hi : i < l'.length := (List.getElem?_eq_some_iff.1 hy).1
  have hi' : i < l.length := h.1 ▸ hi
  exact ⟨l[i], by simp [hi'], h.2 i _ y (by simp [hi']) hy⟩
theorem LR.take {m : Mp} {l l' : List Value} (h : LR m l l') (n : Nat) : LR m (l.take n) (l'.take n) :=
  ⟨by simp [h.1], fun i x y hx hy => by
    rw [List.getElem?_take] at hx hy
    split at hx
    · simp_all; exact h.2 i x y hx hy
    · cases hx⟩
theorem LR.drop {m : Mp} {l l' : List Value} (h : LR m l l') (n : Nat) : LR m (l.drop n) (l'.drop n) :=
  ⟨by simp [h.1], fun i x y hx hy => by
    rw [List.getElem?_drop] at hx hy
    exact h.2 _ x y hx hy⟩
theorem LR.set {m : Mp} {l l' : List Value} (h : LR m l l') (n : Nat) {x y} (hv : VR m x y) : LR m (l.set n x) (l'.set n y) :=
  ⟨by simp [h.1], fun i a b ha hb => by
    rw [List.getElem?_set] at ha hb
    by_cases e : n = i
    · subst e
      simp only [if_true] at ha hb
      have h1 := h.1
      split at ha <;> split at hb <;> simp_all
    · simp only [e, if_false] at ha hb
      exact h.2 i a b ha hb⟩
theorem VR.agg' {m : Mp} {as as' : List Value} (h : LR m as as') : VR m (.agg as.toArray) (.agg as'.toArray) := .agg (by simpa using h.1) (by simpa using h.2)
theorem VR.tuple' {m : Mp} {as as' : List Value} (h : LR m as as') : VR m (.tuple as.toArray) (.tuple as'.toArray) := .tuple (by simpa using h.1) (by simpa using h.2)
theorem VR.agg_inv {m : Mp} {as : Array Value} {v : Value} (h : VR m (.agg as) v) : ∃ as', v = .agg as' ∧ LR m as.toList as'.toList := by
  cases h with
  | agg ha ka => exact ⟨_, rfl, ha, ka⟩
theorem VR.tuple_inv {m : Mp} {as : Array Value} {v : Value} (h : VR m (.tuple as) v) : ∃ as', v = .tuple as' ∧ LR m as.toList as'.toList := by
  cases h with
  | tuple ha ka => exact ⟨_, rfl, ha, ka⟩
theorem VR.udf (m : Mp) : VR m Sh.udf Go.undef := .tuple rfl (fun i x y hx => by simp at hx)
theorem VR.cells {m : Mp} {v v' : Value} (h : VR m v v') : LR m (cellsL v) v'.cells.toList := by
  cases h with
  | agg ha ka => exact ⟨ha, ka⟩
  | bool b => exact (LR.nil m).cons (.bool b)
  | int k n => exact (LR.nil m).cons (.int k n)
  | string s => exact (LR.nil m).cons (.string s)
  | nilFunc => exact (LR.nil m).cons .nilFunc
  | nilIface => exact (LR.nil m).cons .nilIface
  | ptr0 => exact (LR.nil m).cons .ptr0
  | ptr h => exact (LR.nil m).cons (.ptr h)
  | sl0 => exact (LR.nil m).cons .sl0
  | sl h hn hc => exact (LR.nil m).cons (.sl h hn hc)
  | slz hb hc => exact (LR.nil m).cons (.slz hb hc)
  | map0 => exact (LR.nil m).cons .map0
  | map h => exact (LR.nil m).cons (.map h)
  | func ha hb ka kb => exact (LR.nil m).cons (.func ha hb ka kb)
  | yield h => exact (LR.nil m).cons (.yield h)
  | tuple ha ka => exact (LR.nil m).cons (.tuple ha ka)
theorem VR.oneC {m : Mp} {v v' : Value} (h : VR m v v') (k : Sh.oneC v = true) : (∀ c, v' ≠ .agg c) ∧ (∀ c, v' ≠ .tuple c) := by
  cases h <;> first | (simp [Sh.oneC] at k; done) | (refine ⟨fun c e => ?_, fun c e => ?_⟩ <;> cases e)
theorem VR.plain {m : Mp} {v : Value} (h : plainC v = true) : VR m v v := by
  have one : ∀ v : Value, (match v with | .bool _ | .int _ _ | .string _ | .nilFunc | .nilIface | .pointer none | .map none | .slice none 0 0 => true | _ => false) = true → VR m v v := by
    intro v h
    split at h <;> first | constructor | (cases h; done)
  unfold plainC at h
  split at h <;> first | (constructor; done) | skip
  · refine .agg rfl fun i x y hx hy => ?_
    rw [hx] at hy; cases hy
    rename_i cs
    have := List.all_eq_true.1 h x (List.mem_of_getElem? hx)
    exact one x this
  · cases h
def T.deep : Nat → T → Prop
  | .zero, .leaf => True
  | .succ k, .node l _ r => l.deep k ∧ r.deep k
  | _, _ => False
theorem T.deep_blank (k : Nat) : (T.blank k).deep k := by
  induction k with
  | zero => trivial
  | succ k ih => exact ⟨ih, ih⟩
theorem T.get_blank (k i : Nat) : (T.blank k).get i = udf := by
  induction k generalizing i with
  | zero => rfl
  | succ k ih =>
    cases i with
    | zero => rfl
    | succ i => unfold T.blank T.get; dsimp only; split <;> exact ih _
theorem land1 (m : Nat) : (Nat.beq (Nat.land m 1) 0 = true ↔ m % 2 = 0) := by
  have h : Nat.land m 1 = m % 2 := by
    show m &&& 1 = m % 2
    exact Nat.and_one_is_mod m
  rw [h]; simp
theorem shr1 (m : Nat) : Nat.shiftRight m 1 = m / 2 := by
  show m >>> 1 = m / 2
  rw [Nat.shiftRight_eq_div_pow]
theorem T.get_succ (l r : T) (v : Value) (m : Nat) : (T.node l v r).get (m + 1) = if m % 2 = 0 then l.get (m / 2) else r.get (m / 2) := by
  show (match Nat.beq (Nat.land m 1) 0 with | true => l.get (Nat.shiftRight m 1) | false => r.get (Nat.shiftRight m 1)) = _
  by_cases h : m % 2 = 0
  · rw [if_pos h, (land1 m).2 h, shr1]
  · rw [if_neg h]
    have : Nat.beq (Nat.land m 1) 0 = false := by
      cases hb : Nat.beq (Nat.land m 1) 0 with
      | false => rfl
      | true => exact absurd ((land1 m).1 hb) h
    rw [this, shr1]
theorem T.set_succ (l r : T) (v x : Value) (m : Nat) : (T.node l v r).set (m + 1) x = if m % 2 = 0 then .node (l.set (m / 2) x) v r else .node l v (r.set (m / 2) x) := by
  show (match Nat.beq (Nat.land m 1) 0 with | true => T.node (l.set (Nat.shiftRight m 1) x) v r | false => .node l v (r.set (Nat.shiftRight m 1) x)) = _
  by_cases h : m % 2 = 0
  · rw [if_pos h, (land1 m).2 h, shr1]
  · rw [if_neg h]
    have : Nat.beq (Nat.land m 1) 0 = false := by
      cases hb : Nat.beq (Nat.land m 1) 0 with
      | false => rfl
      | true => exact absurd ((land1 m).1 hb) h
    rw [this, shr1]
theorem T.deep_set {k : Nat} {t : T} (h : t.deep k) (i : Nat) (x : Value) : (t.set i x).deep k := by
  induction t generalizing k i with
  | leaf => exact h
  | node l v r ihl ihr =>
    cases k with
    | zero => exact h.elim
    | succ k =>
      cases i with
      | zero => exact h
      | succ i =>
        rw [T.set_succ]
        split
        · exact ⟨ihl h.1 _, h.2⟩
        · exact ⟨h.1, ihr h.2 _⟩
theorem T.get_set_ne {t : T} {i j : Nat} (x : Value) (h : i ≠ j) : (t.set i x).get j = t.get j := by
  induction t generalizing i j with
  | leaf => rfl
  | node l v r ihl ihr =>
    cases i with
    | zero => cases j with
      | zero => exact absurd rfl h
      | succ j => rw [T.get_succ]; show (T.node l x r).get (j + 1) = _; rw [T.get_succ]
    | succ i =>
      rw [T.set_succ]
      cases j with
      | zero => split <;> rfl
      | succ j =>
        split
        · rw [T.get_succ, T.get_succ]; split
          · exact ihl (by omega)
          · rfl
        · rw [T.get_succ, T.get_succ]; split
          · rfl
          · exact ihr (by omega)
theorem T.get_set_same {k : Nat} {t : T} {i : Nat} (x : Value) (hd : t.deep k) (h : i + 1 < 2 ^ k) : (t.set i x).get i = x := by
  induction t generalizing k i with
  | leaf =>
    cases k with
    | zero => simp at h
    | succ k => exact hd.elim
  | node l v r ihl ihr =>
    cases k with
    | zero => exact hd.elim
    | succ k =>
      cases i with
      | zero => rfl
      | succ i =>
        rw [T.set_succ]
        have h2 : 2 ^ (k + 1) = 2 * 2 ^ k := by rw [Nat.pow_succ]; omega
        split
        · rw [T.get_succ, if_pos (by assumption)]; exact ihl hd.1 (by omega)
        · rw [T.get_succ, if_neg (by assumption)]; exact ihr hd.2 (by omega)
structure TR (nt : Nat) (m : Mp) (t : T) (a : Array Value) : Prop where
  size : nt ≤ a.size
  deep : ∃ k, t.deep k ∧ nt < 2 ^ k
  get : ∀ i, VR m (t.get i) (a.getD i undef)
theorem TR.mono {nt : Nat} {m m' : Mp} {t : T} {a : Array Value} (h : TR nt m t a) (hm : m.le m') : TR nt m' t a := ⟨h.size, h.deep, fun i => (h.get i).mono hm⟩
theorem TR.set {nt : Nat} {m : Mp} {t : T} {a : Array Value} (h : TR nt m t a) {i : Nat} (hi : i < nt) {v v' : Value} (hv : VR m v v') :
    TR nt m (t.set i v) (a.setIfInBounds i v') := by
  obtain ⟨k, hd, hk⟩ := h.deep
  refine ⟨by simpa using h.size, ⟨k, T.deep_set hd _ _, hk⟩, fun j => ?_⟩
  by_cases e : i = j
  · subst e
    rw [T.get_set_same v hd (by omega)]
    have : i < a.size := Nat.lt_of_lt_of_le hi h.size
    simp [Array.getD, this]; exact hv
  · rw [T.get_set_ne v e]
    have := h.get j
    simp only [Array.getD_eq_getD_getElem?] at this ⊢
    rw [Array.getElem?_setIfInBounds_ne e]; exact this
end Go.Proofs.Ytioijehbmgmgkaa.Sh

namespace Go.Proofs.Ytioijehbmgmgkaa.Sh
open Go Go.RowKit
structure Env where
  P : Program
  B : Nat
  w0 : World
def stR : Nat → LoopState → Prop
  | 0, .ready | 1, .busy | 2, .done | 3, .exhausted => True
  | _, _ => False
inductive PendR : Option SCode → Option Code → Prop
  | none : PendR none none
  | ret : PendR (some .ret) (some .ret)
  | exit (id) : PendR (some (.exit id)) (some (.exit id))
structure LoopR (P : Program) (m : Mp) (st : Nat) (fn : FuncId) (t : T) (ps : List Nat) (as body : SCode) (pend : Option SCode) (df : Nat) (r : Loop) : Prop where
  hst : stR st r.state
  hps : r.params.toList = ps
  has : compCode P r.assign = some as
  hbody : compCode P r.body = some body
  hpend : PendR pend r.pending
  hdf : m.at df = some (r.defers, 0)
  htm : ∃ nt, TR nt m t r.tmps ∧ bounded nt as = true ∧ bounded nt body = true ∧ ps.all (fun d => Nat.blt d nt) = true
def OR (P : Program) (m : Mp) (o : SO) (A δ : Nat) (w : World) : Prop :=
  match o with
  | .cells cs el pf own old => own = 2 ∨ ∃ rcs rel fr, w.heap[A]? = some (.cells rcs rel fr) ∧
      (∀ (i : Nat) (x : Value), cs[i]? = some x → ∃ y, rcs[δ + i]? = some y ∧ VR m x y) ∧ (own = 3 ∨ (fr = (0, 0) ∧ rel = el)) ∧ (pf = true → cs.all sc = true) ∧ ∀ c ∈ old, ∃ x, m.at c = some x
  | .loop st fn t ps as body pend df => δ = 0 ∧ ∃ r, w.heap[A]? = some (.loop r) ∧ LoopR P m st fn t ps as body pend df r
  | .deferred => δ = 0 ∧ w.heap[A]? = some (.deferred (some []))
  | .map pf es => δ = 0 ∧ (∃ rs clock, w.heap[A]? = some (.map rs clock) ∧ LR m (es.map (·.1)) (rs.toList.map (·.key)) ∧ LR m (es.map (·.2)) (rs.toList.map (·.val)) ∧
      clock = rs.size ∧ ∀ (i : Nat) (e : MapEntry), rs.toList[i]? = some e → e.born = i) ∧ (pf = true → es.all (fun e => (cellsL e.1).all sc && (cellsL e.2).all sc) = true)
  | .iter mb seen n => δ = 0 ∧ ∃ M, m.at mb = some (M, 0) ∧ w.heap[A]? = some (.mapIter (some M) n seen.toArray n)
  | .gone => True
def live : SO → Bool
  | .cells _ _ _ own _ => !(own == 2)
  | .gone => false
  | _ => true
def isRO : SO → Bool
  | .cells _ _ _ own _ => own == 3
  | _ => false
def Chain (b1 : Nat) (o1 : SO) (δ1 : Nat) (o2 : SO) (δ2 : Nat) : Prop :=
  ∃ cs1 el1 pf1 old1 cs2 el2 pf2 own2 old2, o1 = .cells cs1 el1 pf1 1 old1 ∧ o2 = .cells cs2 el2 pf2 own2 old2 ∧ b1 ∈ old2 ∧ δ1 + cs1.length ≤ δ2 + cs2.length
def Glob (E : Env) : Prop := ∀ g l, laidG E.P g = some l → g < E.B ∧ ∃ el fr, E.w0.heap[g]? = some (.cells l.toArray el fr)
structure Rel (E : Env) (m : Mp) (h : SHeap) (w : World) : Prop where
  len : m.length = h.length
  lt : ∀ (b A δ : Nat), m.at b = some (A, δ) → A < w.heap.size
  obj : ∀ (b : Nat) (o : SO) (A δ : Nat), h[b]? = some o → m.at b = some (A, δ) → OR E.P m o A δ w
  base : ∀ (b : Nat) (o : SO) (A δ : Nat), h[b]? = some o → m.at b = some (A, δ) → live o = true → isRO o = false → E.B ≤ A
  sep : ∀ (b1 b2 : Nat) (o1 o2 : SO) (A δ1 δ2 : Nat), b1 ≠ b2 → h[b1]? = some o1 → h[b2]? = some o2 → m.at b1 = some (A, δ1) → m.at b2 = some (A, δ2) →
    live o1 = true → live o2 = true → (isRO o1 = true ∧ isRO o2 = true) ∨ Chain b1 o1 δ1 o2 δ2 ∨ Chain b2 o2 δ2 o1 δ1
  cap : ∀ (b A δ K s : Nat), m.at b = some (A, δ) → m.cp b = some (K, s) → ∃ rcs rel fr, w.heap[A]? = some (.cells rcs rel fr) ∧ δ + K ≤ rcs.size
  csz : ∀ (b K s : Nat) (cs : List Value) (el : TypeId) (pf : Bool) (own : Nat) (old : List Nat), h[b]? = some (.cells cs el pf own old) → m.cp b = some (K, s) → szOf E.P el = some s
  below : Below E.B E.w0 w
  bsz : E.B ≤ w.heap.size
  glob : Glob E
def Ghost (m : Mp) (h : SHeap) (m' : Mp) (h' : SHeap) : Prop := ∀ (b : Nat) (o : SO), h[b]? = some o → m.at b = none → h'[b]? = some o ∧ m'.at b = none
theorem Ghost.refl (m : Mp) (h : SHeap) : Ghost m h m h := fun _ _ a b => ⟨a, b⟩
theorem Ghost.trans {m h m' h' m'' h''} (x : Ghost m h m' h') (y : Ghost m' h' m'' h'') : Ghost m h m'' h'' := fun b o a c => let ⟨p, q⟩ := x b o a c; y b o p q
theorem OR.heap {P : Program} {m : Mp} {o : SO} {A δ : Nat} {w w' : World} (h : OR P m o A δ w) (e : w'.heap[A]? = w.heap[A]?) : OR P m o A δ w' := by
  unfold OR at *
  rw [e]
  exact h
theorem OR.mono {P : Program} {m m' : Mp} (hm : m.le m') {o : SO} {A δ : Nat} {w : World} (h : OR P m o A δ w) : OR P m' o A δ w := by
  unfold OR at *
  split at h
  · rcases h with h | ⟨rcs, rel, fr, h1, h2, h3, h4, h5⟩
    · exact .inl h
    · exact .inr ⟨rcs, rel, fr, h1, fun i x hx => let ⟨y, a, b⟩ := h2 i x hx; ⟨y, a, b.mono hm⟩, h3, h4, fun c hc => let ⟨x, hx⟩ := h5 c hc; ⟨x, Mp.le_at hm hx⟩⟩
  · obtain ⟨h0, r, h1, h2⟩ := h
    obtain ⟨nt, t1, t2⟩ := h2.htm
    exact ⟨h0, r, h1, ⟨h2.hst, h2.hps, h2.has, h2.hbody, h2.hpend, Mp.le_at hm h2.hdf, nt, t1.mono hm, t2⟩⟩
  · exact h
  · obtain ⟨h0, ⟨rs, cl, h1, h2, h3, h4⟩, h5⟩ := h
    exact ⟨h0, ⟨rs, cl, h1, h2.mono hm, h3.mono hm, h4⟩, h5⟩
  · obtain ⟨h0, M, h1, h2⟩ := h
    exact ⟨h0, M, Mp.le_at hm h1, h2⟩
  · trivial
theorem Rel.drew {E : Env} {m : Mp} {h : SHeap} {w : World} (r : Rel E m h w) (n : Nat) : Rel E m h { w with drawn := n } :=
  ⟨r.len, r.lt, fun b o A δ x y => (r.obj b o A δ x y).heap rfl, r.base, r.sep, r.cap, r.csz, r.below.trans ⟨rfl, rfl, rfl, Nat.le_refl _, fun _ _ => rfl⟩, r.bsz, r.glob⟩
theorem Rel.push {E : Env} {m : Mp} {h : SHeap} {w : World} (r : Rel E m h w) {o : SO} {ob : Obj} (ho : isRO o = false) (cq : Option (Nat × Nat))
    (k : ∀ w' : World, w'.heap[w.heap.size]? = some ob → OR E.P (m ++ [some ((w.heap.size, 0), cq)]) o w.heap.size 0 w')
    (kc : ∀ K s, cq = some (K, s) → (∃ rcs rel fr, ob = .cells rcs rel fr ∧ K ≤ rcs.size) ∧ ∀ cs el pf own old, o = .cells cs el pf own old → szOf E.P el = some s) :
    Rel E (m ++ [some ((w.heap.size, 0), cq)]) (h ++ [o]) { w with heap := w.heap.push ob } := by
  have hnew : ({ w with heap := w.heap.push ob } : World).heap[w.heap.size]? = some ob := by simp
  have hold : ∀ A, A < w.heap.size → ({ w with heap := w.heap.push ob } : World).heap[A]? = w.heap[A]? := fun A hA => by
    show (w.heap.push ob)[A]? = _
    rw [Array.getElem?_push, if_neg (by omega)]
  have key : ∀ (b : Nat) (x : SO) (A δ : Nat), (h ++ [o])[b]? = some x → Mp.at (m ++ [some ((w.heap.size, 0), cq)]) b = some (A, δ) →
      (b < h.length ∧ h[b]? = some x ∧ m.at b = some (A, δ)) ∨ (b = h.length ∧ x = o ∧ A = w.heap.size ∧ δ = 0) := by
    intro b x A δ hx hb
    have hlt := Mp.at_lt hb
    simp at hlt
    by_cases e : b < h.length
    · rw [List.getElem?_append_left e] at hx
      rw [Mp.at_append_left (by rw [r.len]; exact e)] at hb
      exact .inl ⟨e, hx, hb⟩
    · have : b = h.length := by have := r.len; omega
      subst this
      rw [← r.len, Mp.at_snoc] at hb
      simp at hx hb
      exact .inr ⟨rfl, hx.symm, hb.1.symm, hb.2.symm⟩
  refine ⟨by simp [r.len], ?_, ?_, ?_, ?_, ?_, ?_, ?_, ?_, r.glob⟩
  · intro b A δ hb
    show A < (w.heap.push ob).size
    rw [Array.size_push]
    have hlt := Mp.at_lt hb
    simp at hlt
    by_cases e : b < m.length
    · rw [Mp.at_append_left e] at hb
      have := r.lt _ _ _ hb; omega
    · have : b = m.length := by omega
      subst this
      rw [Mp.at_snoc] at hb
      simp at hb; omega
  · intro b x A δ hx hb
    rcases key b x A δ hx hb with ⟨_, h1, h2⟩ | ⟨_, rfl, rfl, rfl⟩
    · exact ((r.obj b x A δ h1 h2).mono (Mp.le_append _ _)).heap (hold A (r.lt _ _ _ h2))
    · exact k _ hnew
  · intro b x A δ hx hb hl hro
    rcases key b x A δ hx hb with ⟨_, h1, h2⟩ | ⟨_, rfl, rfl, rfl⟩
    · exact r.base b x A δ h1 h2 hl hro
    · exact r.bsz
  · intro b1 b2 o1 o2 A δ1 δ2 hne h1 h2 m1 m2 l1 l2
    rcases key b1 o1 A δ1 h1 m1 with ⟨e1, a1, c1⟩ | ⟨e1, rfl, rfl, rfl⟩ <;> rcases key b2 o2 _ δ2 h2 m2 with ⟨e2, a2, c2⟩ | ⟨e2, rfl, k2, rfl⟩
    · exact r.sep b1 b2 o1 o2 A δ1 δ2 hne a1 a2 c1 c2 l1 l2
    · subst k2; have := r.lt _ _ _ c1; omega
    · have := r.lt _ _ _ c2; omega
    · omega
  · intro b A δ K s hb hc
    have hlt := Mp.at_lt hb
    simp at hlt
    by_cases e : b < m.length
    · rw [Mp.at_append_left e] at hb
      rw [Mp.cp_append_left e] at hc
      obtain ⟨rcs, rel, fr, h1, h2⟩ := r.cap _ _ _ _ _ hb hc
      exact ⟨rcs, rel, fr, by rw [hold A (r.lt _ _ _ hb)]; exact h1, h2⟩
    · have : b = m.length := by omega
      subst this
      rw [Mp.at_snoc] at hb
      rw [Mp.cp_snoc] at hc
      simp at hb hc
      obtain ⟨⟨rcs, rel, fr, h1, h2⟩, _⟩ := kc K s hc
      rw [← hb.1, ← hb.2]
      exact ⟨rcs, rel, fr, by rw [hnew, h1], by omega⟩
  · intro b K s cs el pf own old hb hc
    have hlt : b < (h ++ [o]).length := (List.getElem?_eq_some_iff.1 hb).1
    simp at hlt
    by_cases e : b < m.length
    · rw [Mp.cp_append_left e] at hc
      rw [List.getElem?_append_left (by rw [← r.len]; exact e)] at hb
      exact r.csz _ _ _ _ _ _ _ _ hb hc
    · have hbm : b = m.length := by have := r.len; omega
      subst hbm
      rw [Mp.cp_snoc] at hc
      simp at hc
      rw [r.len] at hb
      simp at hb
      exact (kc K s hc).2 _ _ _ _ _ hb
  · exact r.below.alloc r.bsz ob
  · show E.B ≤ (w.heap.push ob).size
    rw [Array.size_push]; have := r.bsz; omega
theorem Rel.place {E : Env} {m : Mp} {h : SHeap} {w : World} (r : Rel E m h w) {b0 : Nat} {o : SO} {ob : Obj} (hb0 : m.at b0 = none) (hlt0 : b0 < h.length) (ho : isRO o = false)
    (k : ∀ w' : World, w'.heap[w.heap.size]? = some ob → OR E.P (m.set b0 (some ((w.heap.size, 0), none))) o w.heap.size 0 w') :
    Rel E (m.set b0 (some ((w.heap.size, 0), none))) (h.set b0 o) { w with heap := w.heap.push ob } := by
  have hnew : ({ w with heap := w.heap.push ob } : World).heap[w.heap.size]? = some ob := by simp
  have hold : ∀ A, A < w.heap.size → ({ w with heap := w.heap.push ob } : World).heap[A]? = w.heap[A]? := fun A hA => by
    show (w.heap.push ob)[A]? = _
    rw [Array.getElem?_push, if_neg (by omega)]
  have hl0 : b0 < m.length := by rw [r.len]; exact hlt0
  have key : ∀ (b : Nat) (x : SO) (A δ : Nat), (h.set b0 o)[b]? = some x → Mp.at (m.set b0 (some ((w.heap.size, 0), none))) b = some (A, δ) →
      (b ≠ b0 ∧ h[b]? = some x ∧ m.at b = some (A, δ)) ∨ (b = b0 ∧ x = o ∧ A = w.heap.size ∧ δ = 0) := by
    intro b x A δ hx hb
    by_cases e : b0 = b
    · subst e
      rw [Mp.at_set_same hl0] at hb
      simp [hlt0] at hx hb
      exact .inr ⟨rfl, hx.symm, hb.1.symm, hb.2.symm⟩
    · rw [List.getElem?_set_ne e] at hx
      rw [Mp.at_set_ne e] at hb
      exact .inl ⟨fun c => e c.symm, hx, hb⟩
  refine ⟨by simp [r.len], ?_, ?_, ?_, ?_, ?_, ?_, ?_, ?_, r.glob⟩
  · intro b A δ hb
    show A < (w.heap.push ob).size
    rw [Array.size_push]
    by_cases e : b0 = b
    · subst e; rw [Mp.at_set_same hl0] at hb; simp at hb; omega
    · rw [Mp.at_set_ne e] at hb; have := r.lt _ _ _ hb; omega
  · intro b x A δ hx hb
    rcases key b x A δ hx hb with ⟨_, h1, h2⟩ | ⟨_, rfl, rfl, rfl⟩
    · exact ((r.obj b x A δ h1 h2).mono (Mp.le_set hb0)).heap (hold A (r.lt _ _ _ h2))
    · exact k _ hnew
  · intro b x A δ hx hb hl hro
    rcases key b x A δ hx hb with ⟨_, h1, h2⟩ | ⟨_, rfl, rfl, rfl⟩
    · exact r.base b x A δ h1 h2 hl hro
    · exact r.bsz
  · intro b1 b2 o1 o2 A δ1 δ2 hne h1 h2 m1 m2 l1 l2
    rcases key b1 o1 A δ1 h1 m1 with ⟨e1, a1, c1⟩ | ⟨e1, rfl, rfl, rfl⟩ <;> rcases key b2 o2 _ δ2 h2 m2 with ⟨e2, a2, c2⟩ | ⟨e2, rfl, k2, rfl⟩
    · exact r.sep b1 b2 o1 o2 A δ1 δ2 hne a1 a2 c1 c2 l1 l2
    · subst k2; have := r.lt _ _ _ c1; omega
    · have := r.lt _ _ _ c2; omega
    · omega
  · intro b A δ K s hb hc
    by_cases e : b0 = b
    · subst e; rw [Mp.cp_set_same hl0] at hc; cases hc
    · rw [Mp.at_set_ne e] at hb
      rw [Mp.cp_set_ne e] at hc
      obtain ⟨rcs, rel, fr, h1, h2⟩ := r.cap _ _ _ _ _ hb hc
      exact ⟨rcs, rel, fr, by rw [hold A (r.lt _ _ _ hb)]; exact h1, h2⟩
  · intro b K s cs el pf own old hb hc
    by_cases e : b0 = b
    · subst e; rw [Mp.cp_set_same hl0] at hc; cases hc
    · rw [Mp.cp_set_ne e] at hc
      rw [List.getElem?_set_ne e] at hb
      exact r.csz _ _ _ _ _ _ _ _ hb hc
  · exact r.below.alloc r.bsz ob
  · show E.B ≤ (w.heap.push ob).size
    rw [Array.size_push]; have := r.bsz; omega
theorem cell?_of {w : World} {A o : Nat} {rcs rel fr} (h : w.heap[A]? = some (.cells rcs rel fr)) : w.cell? ⟨A, o, none⟩ = rcs[o]? := by
  unfold World.cell?; simp [h]
theorem Rel.rd1 {E : Env} {m : Mp} {h : SHeap} {w : World} (r : Rel E m h w) {b o A δ : Nat} {x : Value} (hx : rd1 h b o = some x) (hm : m.at b = some (A, δ)) :
    ∃ y, w.cell? ⟨A, δ + o, none⟩ = some y ∧ VR m x y := by
  unfold Sh.rd1 at hx
  split at hx
  · rename_i cs el pf own old hb
    split at hx
    · rename_i hr
      have := r.obj _ _ _ _ hb hm
      unfold OR at this
      rcases this with h2 | ⟨rcs, rel, fr, h1, h2, _⟩
      · simp [readable, h2] at hr
      · obtain ⟨y, hy, hv⟩ := h2 o x hx
        exact ⟨y, by rw [cell?_of h1]; exact hy, hv⟩
    · cases hx
  · cases hx
theorem Rel.rdN {E : Env} {m : Mp} {h : SHeap} {w : World} (r : Rel E m h w) {b o n A δ : Nat} {l : List Value} (hx : rdN h b o n = some l) (hm : m.at b = some (A, δ)) :
    l.length = n ∧ ∀ (i : Nat) (x : Value), l[i]? = some x → ∃ y, w.cell? ⟨A, δ + o + i, none⟩ = some y ∧ VR m x y := by
  unfold Sh.rdN at hx
  split at hx
  · rename_i cs el pf own old hb
    split at hx
    · rename_i hr
      simp only [Bool.and_eq_true, Nat.ble_eq] at hr
      have := r.obj _ _ _ _ hb hm
      unfold OR at this
      rcases this with h2 | ⟨rcs, rel, fr, h1, h2, _⟩
      · simp [readable, h2] at hr
      · cases hx
        refine ⟨by simp; omega, fun i x hi => ?_⟩
        rw [List.getElem?_take] at hi
        split at hi
        · rw [List.getElem?_drop] at hi
          obtain ⟨y, hy, hv⟩ := h2 _ x hi
          exact ⟨y, by rw [cell?_of h1, Nat.add_assoc]; exact hy, hv⟩
        · cases hi
    · cases hx
  · cases hx
def killed : SO → SO
  | .cells cs el pf _ old => .cells cs el pf 2 old
  | o => o
theorem kill_get (h : SHeap) (b c : Nat) : (kill h b)[c]? = if b = c then (h[c]?).map killed else h[c]? := by
  unfold kill
  split
  · rename_i cs el pf own old hb
    by_cases e : b = c
    · subst e
      have hlt : b < h.length := (List.getElem?_eq_some_iff.1 hb).1
      simp [hlt, killed] at *
      rw [hb]
    · rw [List.getElem?_set_ne e, if_neg e]
  · rename_i hn
    by_cases e : b = c
    · subst e
      rw [if_pos rfl]
      cases hb : h[b]? with
      | none => rfl
      | some o => cases o with
        | cells cs el pf own old => exact absurd hb (hn cs el pf own old)
        | _ => rfl
    · rw [if_neg e]
theorem kill_len (h : SHeap) (b : Nat) : (kill h b).length = h.length := by
  unfold kill; split <;> simp
theorem killAll_len (h : SHeap) (l : List Nat) : (killAll h l).length = h.length := by
  unfold killAll
  induction l generalizing h with
  | nil => rfl
  | cons a r ih => rw [List.foldl_cons, ih, kill_len]
theorem killed_killed (o : SO) : killed (killed o) = killed o := by cases o <;> rfl
theorem killAll_get (h : SHeap) (l : List Nat) (c : Nat) : (killAll h l)[c]? = if c ∈ l then (h[c]?).map killed else h[c]? := by
  unfold killAll
  induction l generalizing h with
  | nil => simp
  | cons a r ih =>
    rw [List.foldl_cons, ih, kill_get]
    by_cases e : a = c
    · subst e
      by_cases e2 : a ∈ r
      · simp [e2, Function.comp_def, killed_killed]
      · simp [e2]
    · have : (c ∈ a :: r) ↔ c ∈ r := by simp; intro x; exact absurd x.symm e
      by_cases e2 : c ∈ r
      · rw [if_pos e2, if_pos (this.2 e2), if_neg e]
      · rw [if_neg e2, if_neg (fun k => e2 (this.1 k)), if_neg e]
theorem writeAt_get (cs : List Value) (o : Nat) (vs : List Value) (hb : o + vs.length ≤ cs.length) (i : Nat) :
    (writeAt cs o vs)[i]? = if o ≤ i ∧ i < o + vs.length then vs[i - o]? else cs[i]? := by
  induction vs generalizing cs o with
  | nil =>
    rw [if_neg (fun k => by simp at k; omega)]; rfl
  | cons v vs ih =>
    simp at hb
    rw [writeAt, ih _ _ (by simp; omega)]
    by_cases e : i = o
    · subst e
      rw [if_neg (by omega), if_pos (by simp)]
      have : i < cs.length := by omega
      simp [this]
    · by_cases e2 : o + 1 ≤ i ∧ i < o + 1 + vs.length
      · rw [if_pos e2, if_pos (by simp; omega)]
        have : i - o = (i - (o + 1)) + 1 := by omega
        rw [this]; simp
      · rw [if_neg e2, if_neg (by simp; omega), List.getElem?_set_ne (by omega)]
def wsetL (w : World) (A o : Nat) : List Value → World
  | [] => w
  | v :: vs => wsetL (w.setCell ⟨A, o, none⟩ v) A (o + 1) vs
theorem setCell_heap_ne (w : World) (A o k : Nat) (v : Value) (h : k ≠ A) : (w.setCell ⟨A, o, none⟩ v).heap[k]? = w.heap[k]? := Below.heap_setCell w _ v k h
theorem setCell_heap (w : World) (A o : Nat) (v : Value) {rcs rel fr} (h : w.heap[A]? = some (.cells rcs rel fr)) :
    (w.setCell ⟨A, o, none⟩ v).heap[A]? = some (.cells (rcs.setIfInBounds o v) rel fr) := by
  simp [World.setCell, Array.getElem?_modify, h]
theorem setCell_size (w : World) (a : Addr) (v : Value) : (w.setCell a v).heap.size = w.heap.size := by simp [World.setCell]
theorem wsetL_size (w : World) (A o : Nat) (vs : List Value) : (wsetL w A o vs).heap.size = w.heap.size := by
  induction vs generalizing w o with
  | nil => rfl
  | cons v vs ih => rw [wsetL, ih, setCell_size]
theorem wsetL_ne (w : World) (A o k : Nat) (vs : List Value) (h : k ≠ A) : (wsetL w A o vs).heap[k]? = w.heap[k]? := by
  induction vs generalizing w o with
  | nil => rfl
  | cons v vs ih => rw [wsetL, ih, setCell_heap_ne _ _ _ _ _ h]
def writeA (rcs : Array Value) (o : Nat) : List Value → Array Value
  | [] => rcs
  | v :: vs => writeA (rcs.setIfInBounds o v) (o + 1) vs
theorem writeA_size (rcs : Array Value) (o : Nat) (vs : List Value) : (writeA rcs o vs).size = rcs.size := by
  induction vs generalizing rcs o with
  | nil => rfl
  | cons v vs ih => rw [writeA, ih]; simp
theorem writeA_get (rcs : Array Value) (o : Nat) (vs : List Value) (hb : o + vs.length ≤ rcs.size) (i : Nat) :
    (writeA rcs o vs)[i]? = if o ≤ i ∧ i < o + vs.length then vs[i - o]? else rcs[i]? := by
  induction vs generalizing rcs o with
  | nil =>
    rw [if_neg (fun k => by simp at k; omega)]; rfl
  | cons v vs ih =>
    simp at hb
    rw [writeA, ih _ _ (by simp; omega)]
    by_cases e : i = o
    · subst e
      rw [if_neg (by omega), if_pos (by simp)]
      have : i < rcs.size := by omega
      simp [this]
    · by_cases e2 : o + 1 ≤ i ∧ i < o + 1 + vs.length
      · rw [if_pos e2, if_pos (by simp; omega)]
        have : i - o = (i - (o + 1)) + 1 := by omega
        rw [this]; simp
      · rw [if_neg e2, if_neg (by simp; omega), Array.getElem?_setIfInBounds_ne (by omega)]
theorem wsetL_at (w : World) (A o : Nat) (vs : List Value) {rcs rel fr} (h : w.heap[A]? = some (.cells rcs rel fr)) :
    (wsetL w A o vs).heap[A]? = some (.cells (writeA rcs o vs) rel fr) := by
  induction vs generalizing w o rcs with
  | nil => exact h
  | cons v vs ih => rw [wsetL, ih _ _ (setCell_heap w A o v h), writeA]
theorem wsetL_below {E : Nat} {a w : World} (h : Below E a w) {A : Nat} (hA : E ≤ A) (o : Nat) (vs : List Value) : Below E a (wsetL w A o vs) := by
  induction vs generalizing w o with
  | nil => exact h
  | cons v vs ih => exact ih (h.setCell (p := ⟨A, o, none⟩) hA v) _
end Go.Proofs.Ytioijehbmgmgkaa.Sh

namespace Go.Proofs.Ytioijehbmgmgkaa.Sh
open Go Go.RowKit
theorem addr_add (A o n : Nat) : (⟨A, o, none⟩ : Addr).add n = ⟨A, o + n, none⟩ := by
  unfold Addr.add; split <;> simp_all
theorem wsetL_eq (w : World) (A o : Nat) (vs : List Value) : wsetL w A o vs = w.setCells A o vs := by
  induction vs generalizing w o with
  | nil => rfl
  | cons v vs ih => rw [wsetL, World.setCells, ih]
theorem live_killed (o : SO) : live (killed o) = true → live o = true := by
  cases o <;> simp [killed, live]
theorem OR.killed {P : Program} {m : Mp} {o : SO} {A δ : Nat} {w : World} (h : OR P m o A δ w) : OR P m (killed o) A δ w := by
  cases o with
  | cells cs el pf own old => exact .inl rfl
  | _ => exact h
theorem Rel.killed_all {E : Env} {m : Mp} {h : SHeap} {w : World} (r : Rel E m h w) (l : List Nat) : Rel E m (killAll h l) w := by
  have key : ∀ (b : Nat) (o : SO), (Sh.killAll h l)[b]? = some o → ∃ o', h[b]? = some o' ∧ (o = o' ∨ o = killed o') := by
    intro b o hb
    rw [killAll_get] at hb
    split at hb
    · cases hh : h[b]? with
      | none => rw [hh] at hb; cases hb
      | some o' => rw [hh] at hb; cases hb; exact ⟨o', rfl, .inr rfl⟩
    · exact ⟨o, hb, .inl rfl⟩
  have key2 : ∀ (b : Nat) (o : SO), (Sh.killAll h l)[b]? = some o → live o = true → h[b]? = some o := by
    intro b o hb hl
    obtain ⟨o', h1, rfl | rfl⟩ := key b o hb
    · exact h1
    · cases o' with
      | cells cs el pf own old => simp [killed, live] at hl
      | _ => exact h1
  refine ⟨by rw [killAll_len]; exact r.len, r.lt, ?_, ?_, ?_, r.cap, ?_, r.below, r.bsz, r.glob⟩
  · intro b o A δ hb hm
    obtain ⟨o', h1, rfl | rfl⟩ := key b o hb
    · exact r.obj _ _ _ _ h1 hm
    · exact (r.obj _ _ _ _ h1 hm).killed
  · intro b o A δ hb hm hl hro
    exact r.base _ _ _ _ (key2 b o hb hl) hm hl hro
  · intro b1 b2 o1 o2 A δ1 δ2 hne h1 h2 m1 m2 l1 l2
    exact r.sep b1 b2 o1 o2 A δ1 δ2 hne (key2 _ _ h1 l1) (key2 _ _ h2 l2) m1 m2 l1 l2
  · intro b K s cs el pf own old hb hc
    obtain ⟨o', h1, e | e⟩ := key b _ hb
    · subst e; exact r.csz _ _ _ _ _ _ _ _ h1 hc
    · cases o' with
      | cells cs' el' pf' own' old' => simp [killed] at e; rw [e.2.1]; exact r.csz _ _ _ _ _ _ _ _ h1 hc
      | _ => simp [killed] at e
theorem Rel.others {E : Env} {m : Mp} {h : SHeap} {w : World} (r : Rel E m h w) {b A δ : Nat} {cs el pf old} (hb : h[b]? = some (.cells cs el pf 0 old)) (hm : m.at b = some (A, δ))
    {b2 δ2 : Nat} {o2 : SO} (hne : b2 ≠ b) (h2 : h[b2]? = some o2) (m2 : m.at b2 = some (A, δ2)) (l2 : live o2 = true) :
    b2 ∈ old ∧ ∃ cs2 el2 pf2 old2, o2 = .cells cs2 el2 pf2 1 old2 ∧ δ2 + cs2.length ≤ δ + cs.length := by
  rcases r.sep b2 b o2 _ A δ2 δ hne h2 hb m2 hm l2 rfl with ⟨_, h⟩ | ⟨cs1, el1, pf1, old1, cs2, el2, pf2, own2, old2, e1, e2, h3, h4⟩ | ⟨cs1, el1, pf1, old1, cs2, el2, pf2, own2, old2, e1, e2, h3, h4⟩
  · simp [isRO] at h
  · cases e2
    exact ⟨h3, _, _, _, _, e1, h4⟩
  · cases e1
theorem Rel.store {E : Env} {m : Mp} {h : SHeap} {w : World} (r : Rel E m h w) {base b o : Nat} {d d' : List Nat} {vs vs' : List Value} {h' : SHeap} (hs : storeS base h d b o vs = some (h', d'))
    {A δ : Nat} (hm : m.at b = some (A, δ)) (hv : LR m vs vs') :
    Rel E m h' (w.setCells A (δ + o) vs') ∧ (∀ j, j < vs'.length → (w.cell? ⟨A, δ + o + j, none⟩).isSome = true) ∧ (∀ j, j < vs'.length → w.frozen? ⟨A, δ + o + j, none⟩ = false) ∧
      (∀ v ∈ vs', v.oneCell' = true) ∧ Ghost m h m h' ∧ h'.length = h.length := by
  unfold storeS at hs
  split at hs
  case h_2 => cases hs
  rename_i cs el pf own old hb
  split at hs
  case isFalse => cases hs
  rename_i hc
  cases hs
  simp only [Bool.and_eq_true, beq_iff_eq, Nat.ble_eq, Nat.blt_eq] at hc
  obtain ⟨⟨⟨⟨rfl, hlen⟩, hone⟩, hpf⟩, hpos⟩ := hc
  have hlb : b < h.length := (List.getElem?_eq_some_iff.1 hb).1
  obtain hd2 | ⟨rcs, rel, fr, hw, hcells, hfr, hsc, hold⟩ := r.obj _ _ _ _ hb hm
  · cases hd2
  obtain hfr | ⟨rfl, rfl⟩ := hfr
  · cases hfr
  have hin : ∀ i, i < cs.length → δ + i < rcs.size := by
    intro i hi
    obtain ⟨y, hy, _⟩ := hcells i cs[i] (by simp [hi])
    exact (Array.getElem?_eq_some_iff.1 hy).1
  have hrl : δ + o + vs'.length ≤ rcs.size := by
    rw [← hv.1]
    have := hin (o + vs.length - 1) (by omega); omega
  have hB : E.B ≤ A := r.base _ _ _ _ hb hm rfl rfl
  have hAt : (w.setCells A (δ + o) vs').heap[A]? = some (.cells (writeA rcs (δ + o) vs') rel (0, 0)) := by
    rw [← wsetL_eq]; exact wsetL_at w A (δ + o) vs' hw
  have hNe : ∀ k, k ≠ A → (w.setCells A (δ + o) vs').heap[k]? = w.heap[k]? := fun k hk => by
    rw [← wsetL_eq]; exact wsetL_ne w A (δ + o) k vs' hk
  have hSz : (w.setCells A (δ + o) vs').heap.size = w.heap.size := by rw [← wsetL_eq]; exact wsetL_size _ _ _ _
  have rk := r.killed_all old
  have hlen' : ((killAll h old).set b (.cells (writeAt cs o vs) rel pf 0 [])).length = h.length := by simp [killAll_len]
  -- what stands in the new heap
  have key : ∀ (c : Nat) (x : SO), ((killAll h old).set b (.cells (writeAt cs o vs) rel pf 0 []))[c]? = some x →
      (c = b ∧ x = .cells (writeAt cs o vs) rel pf 0 []) ∨ (c ≠ b ∧ (killAll h old)[c]? = some x) := by
    intro c x hx
    by_cases e : b = c
    · subst e
      rw [List.getElem?_set_self (by rw [killAll_len]; exact hlb)] at hx
      cases hx; exact .inl ⟨rfl, rfl⟩
    · rw [List.getElem?_set_ne e] at hx; exact .inr ⟨fun k => e k.symm, hx⟩
  -- nobody else lives in that block
  have alone : ∀ (c : Nat) (x : SO) (δ2 : Nat), c ≠ b → (killAll h old)[c]? = some x → m.at c = some (A, δ2) → live x = false := by
    intro c x δ2 hne hx hmc
    cases hl : live x with
    | false => rfl
    | true =>
      rw [killAll_get] at hx
      split at hx
      · rename_i hmem
        cases hh : h[c]? with
        | none => rw [hh] at hx; cases hx
        | some o' =>
          rw [hh] at hx; cases hx
          have l' := live_killed o' hl
          obtain ⟨_, cs2, el2, pf2, old2, rfl, _⟩ := r.others hb hm hne hh hmc l'
          simp [killed, live] at hl
      · rename_i hmem
        exact absurd (r.others hb hm hne hx hmc hl).1 hmem
  refine ⟨⟨by rw [hlen']; exact r.len, fun c A' δ' hc => by rw [hSz]; exact r.lt _ _ _ hc, ?_, ?_, ?_, ?_, ?_, ?_, by rw [hSz]; exact r.bsz, r.glob⟩, ?_, ?_, ?_, ?_, hlen'⟩
  · intro c x A' δ' hx hmc
    rcases key c x hx with ⟨rfl, rfl⟩ | ⟨hne, hx⟩
    · rw [hm] at hmc; cases hmc
      refine .inr ⟨_, _, _, hAt, ?_, .inr ⟨rfl, rfl⟩, ?_, fun c hc => by simp at hc⟩
      · intro i y hy
        rw [writeAt_get cs o vs hlen] at hy
        rw [writeA_get rcs (δ + o) vs' hrl]
        by_cases e : o ≤ i ∧ i < o + vs.length
        · rw [if_pos e] at hy
          rw [if_pos (by rw [← hv.1]; omega)]
          have : δ + i - (δ + o) = i - o := by omega
          rw [this]
          exact hv.get hy
        · rw [if_neg e] at hy
          rw [if_neg (by rw [← hv.1]; omega)]
          exact hcells i y hy
      · intro hp
        rw [List.all_eq_true]
        intro y hy
        obtain ⟨i, hi⟩ := List.getElem?_of_mem hy
        rw [writeAt_get cs o vs hlen] at hi
        split at hi
        · rw [hp] at hpf
          simp at hpf
          exact hpf y (List.mem_of_getElem? hi)
        · exact List.all_eq_true.1 (hsc hp) y (List.mem_of_getElem? hi)
    · by_cases e : A' = A
      · subst e
        have hd := alone c x δ' hne hx hmc
        cases x with
        | cells cs2 el2 pf2 own2 old2 => simp [live] at hd; exact .inl hd
        | gone => trivial
        | _ => simp [live] at hd
      · exact (rk.obj _ _ _ _ hx hmc).heap (hNe _ e)
  · intro c x A' δ' hx hmc hl hro
    rcases key c x hx with ⟨rfl, rfl⟩ | ⟨hne, hx⟩
    · rw [hm] at hmc; cases hmc; exact hB
    · exact rk.base _ _ _ _ hx hmc hl hro
  · intro b1 b2 o1 o2 A' δ1 δ2 hne h1 h2 m1 m2 l1 l2
    rcases key b1 o1 h1 with ⟨rfl, rfl⟩ | ⟨n1, k1⟩ <;> rcases key b2 o2 h2 with ⟨rfl, rfl⟩ | ⟨n2, k2⟩
    · exact absurd rfl hne
    · rw [hm] at m1; cases m1
      rw [alone b2 o2 δ2 n2 k2 m2] at l2; cases l2
    · rw [hm] at m2; cases m2
      rw [alone b1 o1 δ1 n1 k1 m1] at l1; cases l1
    · exact rk.sep b1 b2 o1 o2 A' δ1 δ2 hne k1 k2 m1 m2 l1 l2
  · intro c A' δ' K s hmc hcp
    obtain ⟨rcs', rel', fr', h1, h2⟩ := r.cap _ _ _ _ _ hmc hcp
    by_cases e : A' = A
    · subst e
      rw [hw] at h1; cases h1
      exact ⟨_, _, _, hAt, by rw [writeA_size]; exact h2⟩
    · exact ⟨rcs', rel', fr', by rw [hNe _ e]; exact h1, h2⟩
  · intro c K s cs2 el2 pf2 own2 old2 hx hcp
    rcases key c _ hx with ⟨rfl, e⟩ | ⟨hne, hx⟩
    · cases e; exact r.csz _ _ _ _ _ _ _ _ hb hcp
    · exact rk.csz _ _ _ _ _ _ _ _ hx hcp
  · rw [← wsetL_eq]; exact wsetL_below r.below hB _ _
  · intro j hj
    rw [cell?_of hw]
    have : δ + o + j < rcs.size := by omega
    simp [this]
  · intro j hj
    unfold World.frozen?
    simp [hw]
  · intro v hvv
    obtain ⟨i, hi⟩ := List.getElem?_of_mem hvv
    obtain ⟨x, hx, hr⟩ := hv.get' hi
    have h1 := List.all_eq_true.1 hone x (List.mem_of_getElem? hx)
    obtain ⟨ha, hb⟩ := hr.oneC h1
    cases v <;> first | rfl | (exact absurd rfl (ha _)) | (exact absurd rfl (hb _))
  · intro c x hc hmc
    refine ⟨?_, hmc⟩
    have hne : b ≠ c := by intro e; subst e; rw [hm] at hmc; cases hmc
    rw [List.getElem?_set_ne hne, killAll_get]
    split
    · rename_i hmem
      obtain ⟨x', hx'⟩ := hold c hmem
      rw [hmc] at hx'; cases hx'
    · exact hc
end Go.Proofs.Ytioijehbmgmgkaa.Sh

namespace Go.Proofs.Ytioijehbmgmgkaa.Sh
open Go Go.RowKit
section
variable {P : Program} {nt : Nat} {m : Mp} {t : T} {a : Act}
theorem ev_sim (ht : TR nt m t a.tmps) {x : Operand} (ho : okO x = true) {v : Value} (h : ev t x = some v) : VR m v (a.eval x) := by
  cases x with
  | tmp i => cases h; exact ht.get i
  | const c => cases h; exact VR.plain ho
  | func f => cases h; exact .func rfl rfl (fun i x y hx => by simp at hx) (fun i x y hx => by simp at hx)
  | global g => cases h
theorem evs_sim (ht : TR nt m t a.tmps) {xs : List Operand} (ho : xs.all okO = true) {vs : List Value} (h : evs t xs = some vs) : LR m vs (xs.map a.eval) := by
  induction xs generalizing vs with
  | nil => cases h; exact LR.nil m
  | cons x r ih =>
    simp only [List.all_cons, Bool.and_eq_true] at ho
    unfold evs at h
    split at h
    · rename_i v vs' h1 h2
      cases h
      exact (ih ho.2 h2).cons (ev_sim ht ho.1 h1)
    · cases h
def Does (E : Env) (m : Mp) (h : SHeap) (s : Sem Next) (w : World) (v : Value) (h' : SHeap) : Prop :=
  ∃ v' w' m', (s.run E.P w = .ok (.value v') w' ∨ (s.run E.P w = .ok .skip w' ∧ v' = undef)) ∧ VR m' v v' ∧ m.le m' ∧ Rel E m' h' w' ∧ Ghost m h m' h'
theorem Does.pure {E : Env} {h : SHeap} {w : World} {s : Sem Next} {v v' : Value} (r : Rel E m h w) (hs : s.run E.P w = .ok (.value v') w) (hv : VR m v v') : Does E m h s w v h :=
  ⟨v', w, m, .inl hs, hv, m.le_refl, r, Ghost.refl _ _⟩
theorem same_some {v : Option Value} {h h' : SHeap} {d d' : List Nat} {x : Value} (k : same v h d = some (x, h', d')) : v = some x ∧ h' = h ∧ d' = d := by
  unfold same at k
  split at k
  · cases k; exact ⟨rfl, rfl, rfl⟩
  · cases k
theorem ifO_some {α : Type} {b : Bool} {x : Option α} {y : α} (h : ifO b x = some y) : b = true ∧ x = some y := by
  unfold ifO at h; split at h
  · exact ⟨by assumption, h⟩
  · cases h
theorem pureRun_run {s : Sem Value} {v : Value} (h : pureRun s = some v) (w : World) : s.run P w = .ok v w := by
  unfold pureRun at h
  split at h
  · cases h; rfl
  · cases h
theorem run_v {s : Sem Value} {v : Value} {w w' : World} (h : s.run P w = .ok v w') : (do pure (Next.value (← s)) : Sem Next).run P w = .ok (.value v) w' := by
  simp [h]
theorem run_u {s : Sem Unit} {w w' : World} (h : s.run P w = .ok () w') : (do s; pure Next.skip : Sem Next).run P w = .ok .skip w' := by
  simp [h]
theorem VR.int_inv {k n} {v : Value} (h : VR m (.int k n) v) : v = .int k n := by cases h; rfl
theorem VR.bool_inv {b} {v : Value} (h : VR m (.bool b) v) : v = .bool b := by cases h; rfl
theorem VR.string_inv {b} {v : Value} (h : VR m (.string b) v) : v = .string b := by cases h; rfl
theorem VR.ptr_inv {b o} {v : Value} (h : VR m (.pointer (some ⟨b, o, none⟩)) v) : ∃ A δ, m.at b = some (A, δ) ∧ v = .pointer (some ⟨A, δ + o, none⟩) := by
  cases h with
  | ptr h => exact ⟨_, _, h, rfl⟩
theorem binS_run {op : BinOp} {x y v : Value} (h : binS op x y = some v) (ty : TypeId) (w : World) : VR m v v ∧ (∃ k a k' b, x = .int k a ∧ y = .int k' b) ∧ (binOp op ty x y).run P w = .ok v w := by
  unfold binS at h
  split at h
  case h_2 => cases h
  rename_i k a k' b
  have hk : ∀ s : Sem Value, pureRun s = some v → (∀ u, pureRun s = some u → ∃ j n, u = Value.int j n) → VR m v v ∧ (∃ k2 a2 k2' b2, Value.int k a = .int k2 a2 ∧ Value.int k' b = .int k2' b2) ∧ s.run P w = .ok v w := by
    intro s hs hi
    obtain ⟨j, n, rfl⟩ := hi v hs
    exact ⟨.int _ _, ⟨k, a, k', b, rfl, rfl⟩, pureRun_run hs w⟩
  cases op <;> simp only at h
  case shl =>
    refine hk (Op.shift .shl k a k' b) h (fun u hu => ?_)
    unfold Op.shift at hu
    split at hu
    · simp [runtimePanic, pureRun, program, bind, Sem.bind] at hu
    · simp [pureRun, pure] at hu; exact ⟨_, _, hu.symm⟩
  case shr =>
    refine hk (Op.shift .shr k a k' b) h (fun u hu => ?_)
    unfold Op.shift at hu
    split at hu
    · simp [runtimePanic, pureRun, program, bind, Sem.bind] at hu
    · simp [pureRun, pure] at hu; exact ⟨_, _, hu.symm⟩
  case eql => cases h
  case neq => cases h
  all_goals
    split at h
    case isFalse => cases h
    rename_i e
    subst e
    simp only [binOp]
    first
      | (cases h; exact ⟨.bool _, ⟨_, _, _, _, rfl, rfl⟩, by simp [Op.intCmp]⟩)
      | (simp only [ne_eq, not_true_eq_false, if_false]
         refine hk _ h (fun u hu => ?_)
         first
           | (unfold Op.intArith at hu; simp [pureRun, pure] at hu; exact ⟨_, _, hu.symm⟩)
           | (unfold Op.intBits at hu; simp [pureRun, pure] at hu; exact ⟨_, _, hu.symm⟩)
           | (unfold Op.intDiv at hu
              split at hu
              · simp [runtimePanic, pureRun, program, bind, Sem.bind] at hu
              · simp [pureRun, pure] at hu; exact ⟨_, _, hu.symm⟩))
theorem eqGuard_int (op : BinOp) (ty : TypeId) (x y : Operand) (k a k' b) (w : World) : (eqGuard op ty x y (.int k a) (.int k' b)).run P w = .ok () w := by
  unfold eqGuard
  split <;> simp
theorem sim_bin {E : Env} {h h' : SHeap} {d d' : List Nat} {w : World} (r : Rel E m h w) (ht : TR nt m t a.tmps) {op : BinOp} {ty : TypeId} {x y : Operand} (hx : okO x = true) (hy : okO y = true)
    {v : Value} (hs : o_bin op x y t h d = some (v, h', d')) :
    Does E m h (do pure (Next.value (← (do eqGuard op ty x y (a.eval x) (a.eval y); binOp op ty (a.eval x) (a.eval y) : Sem Value)))) w v h' := by
  unfold o_bin at hs
  split at hs
  case h_2 => cases hs
  rename_i p q hp hq
  obtain ⟨h1, rfl, rfl⟩ := same_some hs
  obtain ⟨h2, ⟨k, i, k', j, rfl, rfl⟩, h3⟩ := binS_run (P := E.P) (m := m) h1 ty w
  refine Does.pure r (run_v ?_) h2
  rw [(ev_sim ht hx hp).int_inv, (ev_sim ht hy hq).int_inv]
  simp [eqGuard_int, h3]
end
end Go.Proofs.Ytioijehbmgmgkaa.Sh

namespace Go.Proofs.Ytioijehbmgmgkaa.Sh
open Go Go.RowKit
section
variable {P : Program} {nt : Nat} {m : Mp} {t : T} {a : Act}
theorem flatT_inv {e : TypeId} {k : CK} (h : flatT P e = some k) : (∃ i, P.info? e = some i ∧ i.size = 1) ∧
    (match k with | .int => ∃ k', P.underlying e = some (.int k') | .bool => P.underlying e = some .bool | .string => P.underlying e = some .string) := by
  unfold flatT at h
  split at h
  · cases h
  · rename_i i hi
    split at h
    · rename_i hs
      refine ⟨⟨i, hi, by simpa using hs⟩, ?_⟩
      split at h
      · rename_i k' hk; cases h; exact ⟨_, hk⟩
      · rename_i hk; cases h; exact hk
      · rename_i hk; cases h; exact hk
      · cases h
    · cases h
theorem eqCell_flat {k : CK} {x y : Value} {b : Bool} (h : eqCell k x y = some b) {e : TypeId} (hf : flatT P e = some k) {x' y' : Value} (hx : VR m x x') (hy : VR m y y') (d : Nat) (w : World) :
    (Op.equalIn (d + 1) e x' y').run P w = .ok b w := by
  have hu := (flatT_inv hf).2
  unfold eqCell at h
  split at h
  · rename_i p q
    cases h
    rw [hx.bool_inv, hy.bool_inv]
    exact run_equalIn_bool' w d e p q hu
  · rename_i k p k' q
    split at h
    · cases h
      rename_i e1; subst e1
      rw [hx.int_inv, hy.int_inv]
      obtain ⟨k', hk⟩ := hu
      exact run_equalIn_int w d e k k' p q hk
    · cases h
  · rename_i p q
    cases h
    rw [hx.string_inv, hy.string_inv]
    rw [run_equalIn_string w d e p q hu, beq_toListBytes]
  · cases h
theorem flat_part {e : TypeId} {k : CK} (h : flatT P e = some k) {xs : Array Value} {o : Nat} {v : Value} (hv : xs[o]? = some v) (w : World) : (part e xs o).run P w = .ok v w := by
  have hu := (flatT_inv h).2
  have hd : ∃ d, P.underlying e = some d ∧ (match d with | .struct _ | .array _ _ => true | _ => false) = false := by
    cases k with
    | int => obtain ⟨k', hk⟩ := hu; exact ⟨_, hk, rfl⟩
    | bool => exact ⟨_, hu, rfl⟩
    | string => exact ⟨_, hu, rfl⟩
  obtain ⟨d, hd, hp⟩ := hd
  unfold part isAgg
  simp only [bind_assoc, Sem.run_bind, run_underlying hd, Result.andThen_ok]
  cases d <;> simp_all
theorem eqList_items {k : CK} {n : Nat} {b : Bool} {e : TypeId} (hf : flatT P e = some k) (d : Nat) (w : World) (ax ay : Array Value) :
    ∀ (j : Nat) (xs ys : List Value), eqList (List.replicate n k) xs ys = some b → (∀ (i : Nat) (x : Value), xs[i]? = some x → ∃ x', ax[j + i]? = some x' ∧ VR m x x') →
      (∀ (i : Nat) (x : Value), ys[i]? = some x → ∃ x', ay[j + i]? = some x' ∧ VR m x x') → (Op.eqItems (d + 1) e 1 ax ay (List.range' j n)).run P w = .ok b w := by
  induction n with
  | zero =>
    intro j xs ys h hx hy
    cases xs <;> cases ys <;> simp [eqList] at h
    subst h
    simp [Op.eqItems]
  | succ n ih =>
    intro j xs ys h hx hy
    cases xs with
    | nil => simp [List.replicate, eqList] at h
    | cons x xs =>
      cases ys with
      | nil => simp [List.replicate, eqList] at h
      | cons y ys =>
        simp only [List.replicate, eqList] at h
        obtain ⟨x', hx1, hx2⟩ := hx 0 x rfl
        obtain ⟨y', hy1, hy2⟩ := hy 0 y rfl
        have p1 := flat_part (P := P) hf (xs := ax) (o := j * 1) (v := x') (by simpa using hx1) w
        have p2 := flat_part (P := P) hf (xs := ay) (o := j * 1) (v := y') (by simpa using hy1) w
        rw [List.range'_succ]
        simp only [Op.eqItems, Sem.run_bind, p1, p2, Result.andThen_ok]
        split at h
        · rename_i hc
          rw [eqCell_flat hc hf hx2 hy2 d w]
          simp only [Result.andThen_ok, Bool.not_true, Bool.false_eq_true, if_false]
          exact ih (j + 1) xs ys h (fun i z hz => by have := hx (i + 1) z (by simpa using hz); rwa [show j + 1 + i = j + (i + 1) by omega]) (fun i z hz => by have := hy (i + 1) z (by simpa using hz); rwa [show j + 1 + i = j + (i + 1) by omega])
        · rename_i hc
          rw [eqCell_flat hc hf hx2 hy2 d w]
          cases h
          simp
        · cases h
theorem eqList_fields (d : Nat) (w : World) (ax ay : Array Value) {b : Bool} :
    ∀ (fs : List Field) (j : Nat) (ks : List CK) (xs ys : List Value), flatFields P j fs = some ks → eqList ks xs ys = some b → (∀ (i : Nat) (x : Value), xs[i]? = some x → ∃ x', ax[j + i]? = some x' ∧ VR m x x') →
      (∀ (i : Nat) (x : Value), ys[i]? = some x → ∃ x', ay[j + i]? = some x' ∧ VR m x x') → (Op.eqFields (d + 1) ax ay fs).run P w = .ok b w := by
  intro fs
  induction fs with
  | nil =>
    intro j ks xs ys hf h hx hy
    cases hf
    cases xs <;> cases ys <;> simp [eqList] at h
    subst h
    simp [Op.eqFields]
  | cons f fs ih =>
    intro j ks xs ys hf h hx hy
    unfold flatFields at hf
    split at hf
    case isFalse => cases hf
    rename_i hn
    simp only [Bool.and_eq_true, bne_iff_ne, ne_eq, beq_iff_eq] at hn
    split at hf
    case h_2 => cases hf
    rename_i k l h1 h2
    cases hf
    cases xs with
    | nil => simp [eqList] at h
    | cons x xs =>
      cases ys with
      | nil => simp [eqList] at h
      | cons y ys =>
        simp only [eqList] at h
        obtain ⟨x', hx1, hx2⟩ := hx 0 x rfl
        obtain ⟨y', hy1, hy2⟩ := hy 0 y rfl
        have p1 := flat_part (P := P) h1 (xs := ax) (o := f.offset) (v := x') (by rw [hn.2]; simpa using hx1) w
        have p2 := flat_part (P := P) h1 (xs := ay) (o := f.offset) (v := y') (by rw [hn.2]; simpa using hy1) w
        simp only [Op.eqFields, ne_eq, hn.1, not_false_eq_true, if_true, Sem.run_bind, p1, p2, Result.andThen_ok]
        split at h
        · rename_i hc
          rw [eqCell_flat hc h1 hx2 hy2 d w]
          simp only [Result.andThen_ok, Bool.not_true, Bool.false_eq_true, if_false]
          exact ih (j + 1) l xs ys h2 h (fun i z hz => by have := hx (i + 1) z (by simpa using hz); rwa [show j + 1 + i = j + (i + 1) by omega]) (fun i z hz => by have := hy (i + 1) z (by simpa using hz); rwa [show j + 1 + i = j + (i + 1) by omega])
        · rename_i hc
          rw [eqCell_flat hc h1 hx2 hy2 d w]
          cases h
          simp
        · cases h
theorem LR.cell {m : Mp} {x x' : Array Value} (h : LR m x.toList x'.toList) (i : Nat) (v : Value) (hv : x.toList[i]? = some v) : ∃ v', x'[0 + i]? = some v' ∧ VR m v v' := by
  obtain ⟨y, h1, h2⟩ := h.get hv
  exact ⟨y, by simpa using h1, h2⟩
theorem eqS_ptr {x y x' y' : Value} {b : Bool} (h : eqS .ptr x y = some b) (hx : VR m x x') (hy : VR m y y') (w : World) (d : Nat) {ty e : TypeId} (hu : P.underlying ty = some (.pointer e)) :
    (Op.equalIn (d + 1) ty x' y').run P w = .ok b w := by
  cases x <;> first | (simp [eqS] at h; done) | skip
  rename_i p
  cases y <;> first | (cases p <;> simp [eqS] at h; done) | skip
  rename_i q
  cases p <;> cases q <;> simp [eqS] at h <;> subst h <;> cases hx <;> cases hy <;> simp [Op.equalIn, run_underlying hu]
theorem eqS_slice {x y x' y' : Value} {b : Bool} (h : eqS .slice x y = some b) (hx : VR m x x') (hy : VR m y y') (w : World) (d : Nat) {ty e : TypeId} (hu : P.underlying ty = some (.slice e)) :
    (Op.equalIn (d + 1) ty x' y').run P w = .ok b w := by
  cases x <;> first | (simp [eqS] at h; done) | skip
  rename_i p n c
  cases y <;> first | (cases p <;> simp [eqS] at h; done) | skip
  rename_i q n' c'
  cases p <;> cases q <;> simp [eqS] at h <;> subst h <;> cases hx <;> cases hy <;> simp [Op.equalIn, run_underlying hu]
theorem eqS_func {x y x' y' : Value} {b : Bool} (h : eqS .func x y = some b) (hx : VR m x x') (hy : VR m y y') (w : World) (d : Nat) {ty : TypeId} {e1 e2 e3} (hu : P.underlying ty = some (.func e1 e2 e3)) :
    (Op.equalIn (d + 1) ty x' y').run P w = .ok b w := by
  cases x <;> first | (simp [eqS] at h; done) | skip
  all_goals (cases y <;> first | (simp [eqS] at h; done) | skip)
  all_goals (simp [eqS] at h; subst h; cases hx <;> cases hy <;> simp [Op.equalIn, run_underlying hu])
theorem eqS_agg {l : List CK} {x y : Value} {b : Bool} (h : eqS (.agg l) x y = some b) : ∃ p q, x = .agg p ∧ y = .agg q ∧ eqList l p.toList q.toList = some b := by
  cases x <;> first | (simp [eqS] at h; done) | skip
  cases y <;> first | (simp [eqS] at h; done) | skip
  exact ⟨_, _, rfl, rfl, h⟩
theorem eqS_int {x y : Value} {b : Bool} (h : eqS .int x y = some b) : ∃ k p q, x = .int k p ∧ y = .int k q ∧ b = (p == q) := by
  cases x <;> first | (simp [eqS] at h; done) | skip
  cases y <;> first | (simp [eqS] at h; done) | skip
  simp only [eqS] at h
  split at h
  · rename_i e; subst e; cases h; exact ⟨_, _, _, rfl, rfl, rfl⟩
  · cases h
theorem eqS_bool {x y : Value} {b : Bool} (h : eqS .bool x y = some b) : ∃ p q, x = .bool p ∧ y = .bool q ∧ b = (p == q) := by
  cases x <;> first | (simp [eqS] at h; done) | skip
  cases y <;> first | (simp [eqS] at h; done) | skip
  simp only [eqS] at h; cases h; exact ⟨_, _, rfl, rfl, rfl⟩
theorem eqS_string {x y : Value} {b : Bool} (h : eqS .string x y = some b) : ∃ p q, x = .string p ∧ y = .string q ∧ b = (p == q) := by
  cases x <;> first | (simp [eqS] at h; done) | skip
  cases y <;> first | (simp [eqS] at h; done) | skip
  simp only [eqS] at h; cases h; exact ⟨_, _, rfl, rfl, rfl⟩
theorem eqS_run {k : EqK} {ty : TypeId} (hk : eqKind P ty = some k) {x y x' y' : Value} {b : Bool} (h : eqS k x y = some b) (hx : VR m x x') (hy : VR m y y') (w : World) (d : Nat) :
    (Op.equalIn (d + 2) ty x' y').run P w = .ok b w := by
  unfold eqKind at hk
  split at hk
  · rename_i hu; cases hk
    obtain ⟨k, p, q, rfl, rfl, rfl⟩ := eqS_int h
    rw [hx.int_inv, hy.int_inv]; exact run_equalIn_int w _ ty _ _ _ _ hu
  · rename_i hu; cases hk
    obtain ⟨p, q, rfl, rfl, rfl⟩ := eqS_bool h
    rw [hx.bool_inv, hy.bool_inv]; exact run_equalIn_bool' w _ ty _ _ hu
  · rename_i hu; cases hk
    obtain ⟨p, q, rfl, rfl, rfl⟩ := eqS_string h
    rw [hx.string_inv, hy.string_inv, run_equalIn_string w _ ty _ _ hu, beq_toListBytes]
  · rename_i e hu; cases hk
    exact eqS_ptr h hx hy w _ hu
  · rename_i e hu; cases hk
    exact eqS_slice h hx hy w _ hu
  · rename_i e1 e2 e3 hu; cases hk
    exact eqS_func h hx hy w _ hu
  · rename_i n e hu
    split at hk
    case isFalse => cases hk
    cases hf : flatT P e with
    | none => simp [hf] at hk
    | some c =>
      simp [hf] at hk
      subst hk
      obtain ⟨p, q, rfl, rfl, h⟩ := eqS_agg h
      obtain ⟨x', rfl, h1⟩ := hx.agg_inv
      obtain ⟨y', rfl, h2⟩ := hy.agg_inv
      obtain ⟨⟨i, hi, hs⟩, _⟩ := flatT_inv hf
      rw [run_equalIn_array w _ x' y' hu hi]
      have : P.cellsOf e = 1 := by simp [Program.cellsOf, hi, hs]
      rw [this, List.range_eq_range']
      exact eqList_items hf d w x' y' 0 _ _ h h1.cell h2.cell
  · rename_i fs hu
    split at hk
    case isFalse => cases hk
    rename_i hc
    simp only [Bool.and_eq_true, Bool.not_eq_true'] at hc
    cases hf : flatFields P 0 fs.toList with
    | none => simp [hf] at hk
    | some l =>
      simp [hf] at hk
      subst hk
      obtain ⟨p, q, rfl, rfl, h⟩ := eqS_agg h
      obtain ⟨x', rfl, h1⟩ := hx.agg_inv
      obtain ⟨y', rfl, h2⟩ := hy.agg_inv
      have hfo : P.fieldsOf ty = fs := by simp [Program.fieldsOf, hu]
      rw [run_equalIn_struct w _ ty x' y' (by rw [hfo]; exact hu) hc.2, hfo]
      exact eqList_fields d w x' y' fs.toList 0 l _ _ hf h h1.cell h2.cell
  · cases hk
theorem equal_run {k : EqK} {ty : TypeId} (hk : eqKind P ty = some k) {x y x' y' : Value} {b : Bool} (h : eqS k x y = some b) (hx : VR m x x') (hy : VR m y y') (w : World) :
    (Op.equal ty x' y').run P w = .ok b w := eqS_run hk h hx hy w 9998
end
end Go.Proofs.Ytioijehbmgmgkaa.Sh

namespace Go.Proofs.Ytioijehbmgmgkaa.Sh
open Go Go.RowKit
section
variable {P : Program} {nt : Nat} {m : Mp} {t : T} {a : Act}
theorem eq_shapes {k : EqK} {x y x' y' : Value} {b : Bool} (h : eqS k x y = some b) (hx : VR m x x') (hy : VR m y y') :
    (∃ k p q, x' = .int k p ∧ y' = .int k q ∧ b = (p == q)) ∨ (∃ p q, x' = .string p ∧ y' = .string q ∧ b = (p == q)) ∨
    (∃ p q, x' = .bool p ∧ y' = .bool q) ∨ (∃ p q, x' = .pointer p ∧ y' = .pointer q) ∨ (∃ p n c q n' c', x' = .slice p n c ∧ y' = .slice q n' c') ∨
    (∃ f p q, (x' = .func f p q ∧ y' = .nilFunc) ∨ (x' = .nilFunc ∧ y' = .func f p q)) ∨ (x' = .nilFunc ∧ y' = .nilFunc) ∨ (∃ l p q, k = .agg l ∧ x' = .agg p ∧ y' = .agg q) := by
  cases k with
  | int => obtain ⟨k, p, q, rfl, rfl, rfl⟩ := eqS_int h; exact .inl ⟨k, p, q, hx.int_inv, hy.int_inv, rfl⟩
  | bool => obtain ⟨p, q, rfl, rfl, rfl⟩ := eqS_bool h; exact .inr (.inr (.inl ⟨p, q, hx.bool_inv, hy.bool_inv⟩))
  | string => obtain ⟨p, q, rfl, rfl, rfl⟩ := eqS_string h; exact .inr (.inl ⟨p, q, hx.string_inv, hy.string_inv, rfl⟩)
  | ptr =>
    cases x <;> first | (simp [eqS] at h; done) | skip
    rename_i p
    cases y <;> first | (cases p <;> simp [eqS] at h; done) | skip
    cases hx <;> cases hy <;> exact .inr (.inr (.inr (.inl ⟨_, _, rfl, rfl⟩)))
  | slice =>
    cases x <;> first | (simp [eqS] at h; done) | skip
    rename_i p n c
    cases y <;> first | (cases p <;> simp [eqS] at h; done) | skip
    cases hx <;> cases hy <;> exact .inr (.inr (.inr (.inr (.inl ⟨_, _, _, _, _, _, rfl, rfl⟩))))
  | func =>
    cases x <;> first | (simp [eqS] at h; done) | skip
    · cases y <;> first | (simp [eqS] at h; done) | skip
      cases hx <;> cases hy <;> exact .inr (.inr (.inr (.inr (.inr (.inl ⟨_, _, _, .inl ⟨rfl, rfl⟩⟩)))))
    · cases y <;> first | (simp [eqS] at h; done) | skip
      · cases hx; cases hy <;> exact .inr (.inr (.inr (.inr (.inr (.inl ⟨_, _, _, .inr ⟨rfl, rfl⟩⟩)))))
      · cases hx; cases hy; exact .inr (.inr (.inr (.inr (.inr (.inr (.inl ⟨rfl, rfl⟩))))))
  | agg l =>
    obtain ⟨p, q, rfl, rfl, h⟩ := eqS_agg h
    obtain ⟨x', rfl, h1⟩ := hx.agg_inv
    obtain ⟨y', rfl, h2⟩ := hy.agg_inv
    exact .inr (.inr (.inr (.inr (.inr (.inr (.inr ⟨_, _, _, rfl, rfl, rfl⟩))))))
theorem eqKind_guard {l : List CK} {ty : TypeId} (h : eqKind P ty = some (.agg l)) : P.eqGuardType P.depth ty = false := by
  unfold eqKind at h
  split at h <;> first | (cases h; done) | skip
  · split at h
    · rename_i hc; simpa using hc
    · cases h
  · split at h
    · rename_i hc; simp only [Bool.and_eq_true, Bool.not_eq_true'] at hc; exact hc.1
    · cases h
theorem eq_run {k : EqK} {ty : TypeId} (hk : eqKind P ty = some k) {x y : Operand} {u v u' v' : Value} {b : Bool} (h : eqS k u v = some b) (hu : VR m u u') (hv : VR m v v') (w : World) (neg : Bool) :
    (do eqGuard (if neg then .neq else .eql) ty x y u' v'; binOp (if neg then .neq else .eql) ty u' v' : Sem Value).run P w = .ok (.bool (if neg then !b else b)) w := by
  have he := equal_run hk h hu hv w
  rcases eq_shapes h hu hv with ⟨k', p, q, rfl, rfl, rfl⟩ | ⟨p, q, rfl, rfl, rfl⟩ | ⟨p, q, rfl, rfl⟩ | ⟨p, q, rfl, rfl⟩ | ⟨p, n, c, q, n', c', rfl, rfl⟩ | ⟨f, p, q, ⟨rfl, rfl⟩ | ⟨rfl, rfl⟩⟩ | ⟨rfl, rfl⟩ | ⟨l, p, q, rfl, rfl, rfl⟩
  · cases neg <;> simp [eqGuard, binOp, Op.intCmp]
    all_goals rfl
  · cases neg <;> simp [eqGuard, binOp, Op.stringOp, beq_toListBytes]
  · cases neg <;> simp [eqGuard, binOp, he]
  · cases neg <;> simp [eqGuard, binOp, he]
  · cases neg <;> simp [eqGuard, binOp, he]
  · cases neg <;> simp [eqGuard, binOp, he]
  · cases neg <;> simp [eqGuard, binOp, he]
  · cases neg <;> simp [eqGuard, binOp, he]
  · have hg := run_eqGuard_agg (P := P) w (if neg = true then .neq else .eql) ty x y p q (eqKind_guard hk)
    simp only [Sem.run_bind, hg, Result.andThen_ok]
    cases neg <;> simp [binOp, he]
theorem sim_eq {E : Env} {h h' : SHeap} {d d' : List Nat} {w : World} (r : Rel E m h w) (ht : TR nt m t a.tmps) {k : EqK} {neg : Bool} {ty : TypeId} {x y : Operand} (hk : eqKind E.P ty = some k) (hx : okO x = true) (hy : okO y = true)
    {v : Value} (hs : o_eq k neg x y t h d = some (v, h', d')) :
    Does E m h (do pure (Next.value (← (do eqGuard (if neg then .neq else .eql) ty x y (a.eval x) (a.eval y); binOp (if neg then .neq else .eql) ty (a.eval x) (a.eval y) : Sem Value)))) w v h' := by
  unfold o_eq at hs
  split at hs
  case h_2 => cases hs
  rename_i p q hp hq
  split at hs
  case h_2 => cases hs
  rename_i b hb
  cases hs
  exact Does.pure r (run_v (eq_run hk hb (ev_sim ht hx hp) (ev_sim ht hy hq) w neg)) (.bool _)
theorem sim_mov {E : Env} {h h' : SHeap} {d d' : List Nat} {w : World} (r : Rel E m h w) (ht : TR nt m t a.tmps) {x : Operand} (hx : okO x = true) {v : Value} (hs : o_mov x t h d = some (v, h', d')) :
    Does E m h (pure (.value (a.eval x))) w v h' := by
  obtain ⟨h1, rfl, rfl⟩ := same_some hs
  exact Does.pure r rfl (ev_sim ht hx h1)
theorem sim_pick {E : Env} {h h' : SHeap} {d d' : List Nat} {w : World} (r : Rel E m h w) (ht : TR nt m t a.tmps) {c x y : Operand} (hc : okO c = true) (hx : okO x = true) (hy : okO y = true) {v : Value} (hs : o_pick c x y t h d = some (v, h', d')) :
    Does E m h (do pure (.value (if ← asBool (a.eval c) then a.eval x else a.eval y))) w v h' := by
  unfold o_pick at hs
  split at hs
  case h_2 => cases hs
  rename_i b hb
  obtain ⟨h1, rfl, rfl⟩ := same_some hs
  have hcv := (ev_sim ht hc hb).bool_inv
  refine Does.pure r (v' := if b then a.eval x else a.eval y) (by rw [hcv]; simp [asBool]) ?_
  cases b
  · exact ev_sim ht hy (by simpa using h1)
  · exact ev_sim ht hx (by simpa using h1)
theorem aggOf_inv {ty : TypeId} {g : Option Nat} (h : aggOf P ty = some g) (w : World) :
    (∃ i, P.info? ty = some i ∧ g = some i.size ∧ (isAgg ty).run P w = .ok true w ∧ (sizeOf ty).run P w = .ok i.size w) ∨ (g = none ∧ (isAgg ty).run P w = .ok false w ∧ (sizeOf ty).run P w = .ok 1 w) := by
  unfold aggOf at h
  have hsz : ∀ i, P.info? ty = some i → (sizeOf ty).run P w = .ok i.size w := fun i hi => by
    rw [run_sizeOf w hi]; simp [Program.cellsOf, hi]
  split at h
  · rename_i fs i hu hi
    cases h
    exact .inl ⟨i, hi, rfl, by simp [isAgg, run_underlying hu], hsz i hi⟩
  · rename_i n e i hu hi
    cases h
    exact .inl ⟨i, hi, rfl, by simp [isAgg, run_underlying hu], hsz i hi⟩
  · rename_i dsc i h1 h2 hi hii
    split at h
    · cases h
      rename_i hs
      refine .inr ⟨rfl, ?_, by rw [hsz i hii]; simp at hs; rw [hs]⟩
      unfold isAgg
      simp only [Sem.run_bind, run_underlying hi, Result.andThen_ok]
      cases dsc <;> first | rfl | (exact (h1 _ rfl).elim) | (exact (h2 _ _ rfl).elim)
    · cases h
  · cases h
theorem load_run {E : Env} {h : SHeap} {w : World} (r : Rel E m h w) {ty : TypeId} {g : Option Nat} (hg : aggOf E.P ty = some g) {x x' v : Value} (hx : VR m x x') (hs : loadS h g x = some v) :
    ∃ v', (Instr.loadAt ty x').run E.P w = .ok v' w ∧ VR m v v' := by
  unfold loadS at hs
  split at hs
  case h_2 => cases hs
  rename_i b o
  obtain ⟨A, δ, hm, rfl⟩ := hx.ptr_inv
  rcases aggOf_inv hg w with ⟨i, hi, rfl, h1, h2⟩ | ⟨rfl, h1, h2⟩
  · simp only at hs
    split at hs
    case h_2 => cases hs
    rename_i l hl
    cases hs
    obtain ⟨hlen, hc⟩ := r.rdN hl hm
    -- the model's cells
    have hl' : ∃ l' : List Value, LR m l l' ∧ ∀ j v, l'[j]? = some v → w.cell? ((⟨A, δ + o, none⟩ : Addr).add j) = some v := by
      clear hl
      have : ∀ (l : List Value) (k : Nat), (∀ (i : Nat) (x : Value), l[i]? = some x → ∃ y, w.cell? ⟨A, δ + o + (k + i), none⟩ = some y ∧ VR m x y) →
          ∃ l' : List Value, LR m l l' ∧ ∀ j v, l'[j]? = some v → w.cell? ⟨A, δ + o + (k + j), none⟩ = some v := by
        intro l
        induction l with
        | nil => intro k _; exact ⟨[], LR.nil m, fun j v hv => by simp at hv⟩
        | cons x l ih =>
          intro k hk
          obtain ⟨y, hy, hv⟩ := hk 0 x rfl
          obtain ⟨l', h1, h2⟩ := ih (k + 1) (fun i z hz => by
            have := hk (i + 1) z (by simpa using hz)
            rwa [show k + (i + 1) = k + 1 + i by omega] at this)
          refine ⟨y :: l', h1.cons hv, fun j v hj => ?_⟩
          cases j with
          | zero => simp at hj; subst hj; exact hy
          | succ j =>
            have := h2 j v (by simpa using hj)
            rwa [show k + (j + 1) = k + 1 + j by omega]
      obtain ⟨l', h3, h4⟩ := this l 0 (fun i x hx => by simpa using hc i x hx)
      exact ⟨l', h3, fun j v hv => by rw [addr_add]; simpa using h4 j v hv⟩
    obtain ⟨l', hlr, hcl⟩ := hl'
    refine ⟨.agg l'.toArray, ?_, VR.agg' hlr⟩
    have := run_loadCells_list (P := E.P) w (⟨A, δ + o, none⟩ : Addr) l' hcl
    have hn : l'.length = i.size := by rw [← hlr.1, hlen]
    unfold Instr.loadAt loadVar
    simp only [Instr.sureAddr, Sem.run_bind, Sem.run_pure, Result.andThen_ok, h1, if_true, h2]
    rw [← hn, this]
    rfl
  · simp only at hs
    obtain ⟨y, hy, hv⟩ := r.rd1 hs hm
    refine ⟨y, ?_, hv⟩
    unfold Instr.loadAt loadVar
    simp [Instr.sureAddr, h1, hy]
theorem sim_load {E : Env} {h h' : SHeap} {d d' : List Nat} {w : World} (r : Rel E m h w) (ht : TR nt m t a.tmps) {ty : TypeId} {g : Option Nat} {x : Operand} (hg : aggOf E.P ty = some g) (hx : okO x = true) {v : Value}
    (hs : o_load g x t h d = some (v, h', d')) : Does E m h (do pure (Next.value (← Instr.loadAt ty (a.eval x)))) w v h' := by
  unfold o_load at hs
  split at hs
  case h_2 => cases hs
  rename_i p hp
  obtain ⟨h1, rfl, rfl⟩ := same_some hs
  obtain ⟨v', h2, h3⟩ := load_run r hg (ev_sim ht hx hp) h1
  exact Does.pure r (run_v h2) h3
theorem szOf_run {ty : TypeId} {n : Nat} (h : szOf P ty = some n) (w : World) : (sizeOf ty).run P w = .ok n w := by
  unfold szOf at h
  cases hi : P.info? ty with
  | none => simp [hi] at h
  | some i => simp [hi] at h; rw [run_sizeOf w hi]; simp [Program.cellsOf, hi, h]
theorem sim_store {E : Env} {h h' : SHeap} {d d' : List Nat} {w : World} (r : Rel E m h w) (ht : TR nt m t a.tmps) {cx : Cx} {ty : TypeId} {n : Nat} {x y : Operand} (hn : szOf E.P ty = some n) (hx : okO x = true) (hy : okO y = true) {v : Value}
    (hs : o_store cx n x y t h d = some (v, h', d')) : Does E m h (do Instr.storeAt ty (a.eval x) (a.eval y); pure Next.skip) w v h' ∧ h'.length = h.length := by
  unfold o_store at hs
  split at hs
  case h_2 => cases hs
  rename_i b o u hp hq
  split at hs
  case isFalse => cases hs
  rename_i hl
  split at hs
  case h_2 => cases hs
  rename_i h2 d2 hst
  cases hs
  obtain ⟨A, δ, hm, hxe⟩ := (ev_sim ht hx hp).ptr_inv
  have hv := ev_sim ht hy hq
  obtain ⟨r', hc, hf, h1, hg, hlen⟩ := r.store hst hm hv.cells
  refine ⟨⟨undef, _, m, .inr ⟨run_u (w' := w.setCells A (δ + o) (a.eval y).cells.toList) ?_, rfl⟩, VR.udf m, m.le_refl, r', hg⟩, hlen⟩
  have hsz : (a.eval y).cells.size = n := by
    have := hv.cells.1
    simp at hl this
    omega
  rw [hxe]
  unfold Instr.storeAt storeVar
  simp only [Instr.sureAddr, Sem.run_bind, Sem.run_pure, Result.andThen_ok, szOf_run hn w, hsz, ne_eq, not_true_eq_false, if_false]
  exact run_storeCells_cells A (δ + o) _ 0 w (by simpa using hc) (by simpa using hf) h1
end
end Go.Proofs.Ytioijehbmgmgkaa.Sh

namespace Go.Proofs.Ytioijehbmgmgkaa.Sh
open Go Go.RowKit
section
variable {P : Program} {nt : Nat} {m : Mp} {t : T} {a : Act}
theorem VR.func_inv {f : FuncId} {p q : Array Value} {v : Value} (h : VR m (.func (.func f) p q) v) : ∃ p' q', v = .func (.func f) p' q' ∧ LR m p.toList p'.toList ∧ LR m q.toList q'.toList := by
  cases h with
  | func ha hb ka kb => exact ⟨_, _, rfl, ⟨ha, ka⟩, ⟨hb, kb⟩⟩
theorem VR.yield_inv {l : Nat} {p q : Array Value} {v : Value} (h : VR m (.func (.yield l) p q) v) : p = #[] ∧ q = #[] ∧ ∃ A, m.at l = some (A, 0) ∧ v = .func (.yield A) #[] #[] := by
  cases h with
  | yield h => exact ⟨rfl, rfl, _, h, rfl⟩
theorem sim_nilCheck {E : Env} {h h' : SHeap} {d d' : List Nat} {w : World} (r : Rel E m h w) (ht : TR nt m t a.tmps) {x : Operand} (hx : okO x = true) {o : Oper} (ho : o.op = .nilCheck x) {v : Value} (hs : o_nilCheck x t h d = some (v, h', d')) :
    Does E m h (execOp a.eval o) w v h' := by
  unfold o_nilCheck at hs
  have hex : execOp a.eval o = execOp a.eval { o with op := .nilCheck x } := by rw [← ho]
  split at hs
  · rename_i ad hp
    cases hs
    have hv := ev_sim ht hx hp
    obtain ⟨A, δ, hm, he⟩ : ∃ A δ, m.at ad.block = some (A, δ) ∧ a.eval x = .pointer (some ⟨A, δ + ad.off, none⟩) := by
      generalize a.eval x = u at hv
      cases hv with
      | ptr hm => exact ⟨_, _, hm, rfl⟩
    refine Does.pure r (v' := a.eval x) ?_ hv
    rw [hex]; unfold execOp; simp [he]
  · rename_i f p q hp
    cases hs
    have hv := ev_sim ht hx hp
    obtain ⟨p', q', he, _⟩ := hv.func_inv
    refine Does.pure r (v' := a.eval x) ?_ hv
    rw [hex]; unfold execOp; simp [he]
  · rename_i f p q hp
    cases hs
    have hv := ev_sim ht hx hp
    obtain ⟨_, _, A, _, he⟩ := hv.yield_inv
    refine Does.pure r (v' := a.eval x) ?_ hv
    rw [hex]; unfold execOp; simp [he]
  · cases hs
theorem sim_un {E : Env} {h h' : SHeap} {d d' : List Nat} {w : World} (r : Rel E m h w) (ht : TR nt m t a.tmps) {op : UnOp} {x : Operand} (hx : okO x = true) {v : Value} (hs : o_un op x t h d = some (v, h', d')) :
    Does E m h (do pure (Next.value (← Op.unary op (a.eval x)))) w v h' := by
  unfold o_un at hs
  split at hs
  · rename_i k n hp
    have hv := (ev_sim ht hx hp).int_inv
    split at hs
    · obtain ⟨h1, rfl, rfl⟩ := same_some hs
      have h2 := pureRun_run (P := E.P) h1 w
      refine Does.pure r (v' := v) (run_v (by rw [hv]; exact h2)) ?_
      simp [Op.unary, Op.intArith, pureRun, pure] at h1
      subst h1; exact .int _ _
    · obtain ⟨h1, rfl, rfl⟩ := same_some hs
      have h2 := pureRun_run (P := E.P) h1 w
      refine Does.pure r (v' := v) (run_v (by rw [hv]; exact h2)) ?_
      simp [Op.unary, Op.intBits, pureRun, pure] at h1
      subst h1; exact .int _ _
    · cases hs
  · rename_i b hp
    have hv := (ev_sim ht hx hp).bool_inv
    split at hs
    · cases hs
      exact Does.pure r (v' := .bool (!b)) (run_v (by rw [hv]; rfl)) (.bool _)
    · cases hs
  · cases hs
theorem sim_conv {E : Env} {h h' : SHeap} {d d' : List Nat} {w : World} (r : Rel E m h w) (ht : TR nt m t a.tmps) {k : IntKind} {x : Operand} {s u : TypeId} {q : TypeDesc} (h1 : E.P.underlying s = some q) (h2 : E.P.underlying u = some (.int k)) (hx : okO x = true)
    {v : Value} (hs : o_conv k x t h d = some (v, h', d')) : Does E m h (do pure (Next.value (← convert s u (a.eval x)))) w v h' := by
  unfold o_conv at hs
  split at hs
  · rename_i k' n hp
    cases hs
    refine Does.pure r (v' := .int k (k.wrap n)) (run_v ?_) (.int _ _)
    rw [(ev_sim ht hx hp).int_inv]
    simp [convert, run_underlying h1, run_underlying h2, Conv.intToInt]
  · cases hs
theorem sim_fieldAddr {E : Env} {h h' : SHeap} {d d' : List Nat} {w : World} (r : Rel E m h w) (ht : TR nt m t a.tmps) {ty : TypeId} {i : Nat} {x : Operand} {fs : Array Field} {f : Field} {s : Nat} (hu : E.P.underlying ty = some (.struct fs)) (hf : fs[i]? = some f)
    (hsz : szOf E.P f.type = some s) (hpos : 0 < s) (hx : okO x = true) {v : Value} (hs : o_fieldAddr f.offset x t h d = some (v, h', d')) : Does E m h (do pure (Next.value (← Instr.fieldAt ty (a.eval x) i))) w v h' := by
  unfold o_fieldAddr at hs
  split at hs
  · rename_i b o hp
    cases hs
    obtain ⟨A, δ, hm, hxe⟩ := (ev_sim ht hx hp).ptr_inv
    refine Does.pure r (v' := .pointer (some ⟨A, δ + (o + f.offset), none⟩)) (run_v ?_) (.ptr hm)
    have := szOf_run hsz w
    rw [hxe]
    unfold Instr.fieldAt fieldPlace
    simp only [Sem.run_bind, run_underlying hu, Result.andThen_ok, hf, Instr.sureAddr, Sem.run_pure, this]
    rw [if_neg (by omega)]
    simp [addr_add, Nat.add_assoc]
  · cases hs
theorem partS_run {ty : TypeId} {g : Option Nat} (hg : aggOf P ty = some g) {cs : List Value} {cs' : Array Value} (hc : LR m cs cs'.toList) {off : Nat} {v : Value} (hs : partS g cs off = some v) (w : World) :
    ∃ v', (part ty cs' off).run P w = .ok v' w ∧ VR m v v' := by
  unfold partS at hs
  rcases aggOf_inv hg w with ⟨i, hi, rfl, h1, h2⟩ | ⟨rfl, h1, h2⟩
  · simp only at hs
    split at hs
    · cases hs
      rename_i hb
      refine ⟨.agg (cs'.extract off (off + i.size)), ?_, ?_⟩
      · unfold part; simp [h1, h2]
      · have := (hc.drop off).take i.size
        have e : cs'.extract off (off + i.size) = ((cs'.toList.drop off).take i.size).toArray := by
          apply Array.ext'
          simp [Array.toList_extract, List.extract_eq_take_drop]
        rw [e]
        exact VR.agg' this
    · cases hs
  · simp only at hs
    obtain ⟨y, h3, h4⟩ := hc.get hs
    refine ⟨y, ?_, h4⟩
    unfold part
    have : cs'[off]? = some y := by simpa using h3
    simp [h1, this]
theorem sim_field {E : Env} {h h' : SHeap} {d d' : List Nat} {w : World} (r : Rel E m h w) (ht : TR nt m t a.tmps) {ty : TypeId} {i : Nat} {x : Operand} {fs : Array Field} {f : Field} {g : Option Nat} (hu : E.P.underlying ty = some (.struct fs)) (hf : fs[i]? = some f)
    (hg : aggOf E.P f.type = some g) (hx : okO x = true) {v : Value} (hs : o_field g f.offset x t h d = some (v, h', d')) : Does E m h (do pure (Next.value (← Instr.field ty (a.eval x) i))) w v h' := by
  unfold o_field at hs
  split at hs
  · rename_i cs hp
    obtain ⟨h1, rfl, rfl⟩ := same_some hs
    obtain ⟨cs', hxe, hc⟩ := (ev_sim ht hx hp).agg_inv
    obtain ⟨v', h2, h3⟩ := partS_run hg hc h1 w
    refine Does.pure r (v' := v') (run_v ?_) h3
    rw [hxe]
    unfold Instr.field
    simp only [Sem.run_bind, run_underlying hu, Result.andThen_ok, hf, asAgg, Sem.run_pure]
    exact h2
  · cases hs
theorem sim_idxArr {E : Env} {h h' : SHeap} {d d' : List Nat} {w : World} (r : Rel E m h w) (ht : TR nt m t a.tmps) {ty e : TypeId} {n s : Nat} {x i : Operand} (hu : E.P.underlying ty = some (.array n e)) (hsz : szOf E.P e = some s) (hx : okO x = true) (hi : okO i = true)
    {v : Value} (hs : o_idxArr n s x i t h d = some (v, h', d')) : Does E m h (do pure (Next.value (← Instr.indexAt ty (a.eval x) (a.eval i)))) w v h' := by
  unfold o_idxArr at hs
  split at hs
  · rename_i b o k j hp hq
    split at hs
    · rename_i hb
      cases hs
      simp only [Bool.and_eq_true, decide_eq_true_eq] at hb
      obtain ⟨A, δ, hm, hxe⟩ := (ev_sim ht hx hp).ptr_inv
      refine Does.pure r (v' := .pointer (some ⟨A, δ + (o + j.toNat * s), none⟩)) (run_v ?_) (.ptr hm)
      rw [hxe, (ev_sim ht hi hq).int_inv]
      have := szOf_run hsz w
      unfold Instr.indexAt
      simp only [asIntOf, Sem.run_bind, Sem.run_pure, Result.andThen_ok, run_underlying hu, Instr.sureAddr]
      by_cases h1 : n ≤ 1 <;> simp [h1, run_underlying hu, hb, this, addr_add, Nat.add_assoc]
    · cases hs
  · cases hs
theorem sim_idxSl {E : Env} {h h' : SHeap} {d d' : List Nat} {w : World} (r : Rel E m h w) (ht : TR nt m t a.tmps) {ty e : TypeId} {s : Nat} {x i : Operand} (hu : E.P.underlying ty = some (.slice e)) (hsz : szOf E.P e = some s) (hx : okO x = true) (hi : okO i = true)
    {v : Value} (hs : o_idxSl s x i t h d = some (v, h', d')) : Does E m h (do pure (Next.value (← Instr.indexAt ty (a.eval x) (a.eval i)))) w v h' := by
  unfold o_idxSl at hs
  split at hs
  · rename_i b o n c k j hp hq
    split at hs
    · rename_i hb
      cases hs
      simp only [Bool.and_eq_true, decide_eq_true_eq] at hb
      have hv := ev_sim ht hx hp
      generalize hxe : a.eval x = xe at hv
      cases hv with
      | sl hm hn hc =>
        rename_i A δ c'
        refine Does.pure r (v' := .pointer (some ⟨A, δ + (o + j.toNat * s), none⟩)) (run_v ?_) (.ptr hm)
        rw [(ev_sim ht hi hq).int_inv]
        have := szOf_run hsz w
        unfold Instr.indexAt
        simp only [asIntOf, Sem.run_bind, Sem.run_pure, Result.andThen_ok, run_underlying hu]
        by_cases h1 : n ≤ 1 <;> simp [h1, run_underlying hu, hb, this, addr_add, Nat.add_assoc]
      | slz _ _ => omega
    · cases hs
  · cases hs
theorem sim_idx {E : Env} {h h' : SHeap} {d d' : List Nat} {w : World} (r : Rel E m h w) (ht : TR nt m t a.tmps) {ty e : TypeId} {n s : Nat} {g : Option Nat} {x i : Operand} (hu : E.P.underlying ty = some (.array n e)) (hsz : szOf E.P e = some s) (hg : aggOf E.P e = some g) (hx : okO x = true) (hi : okO i = true)
    {v : Value} (hs : o_idx g n s x i t h d = some (v, h', d')) : Does E m h (do pure (Next.value (← Instr.index ty (a.eval x) (a.eval i)))) w v h' := by
  unfold o_idx at hs
  split at hs
  · rename_i cs k j hp hq
    split at hs
    · rename_i hb
      obtain ⟨h1, rfl, rfl⟩ := same_some hs
      simp only [Bool.and_eq_true, decide_eq_true_eq] at hb
      obtain ⟨cs', hxe, hc⟩ := (ev_sim ht hx hp).agg_inv
      obtain ⟨v', h2, h3⟩ := partS_run hg hc h1 w
      refine Does.pure r (v' := v') (run_v ?_) h3
      rw [hxe, (ev_sim ht hi hq).int_inv]
      have := szOf_run hsz w
      unfold Instr.index
      simp [asIntOf, run_underlying hu, hb, this, h2]
    · cases hs
  · cases hs
theorem sim_idxStr {E : Env} {h h' : SHeap} {d d' : List Nat} {w : World} (r : Rel E m h w) (ht : TR nt m t a.tmps) {ty : TypeId} {x i : Operand} (hu : E.P.underlying ty = some .string) (hx : okO x = true) (hi : okO i = true)
    {v : Value} (hs : o_idxStr x i t h d = some (v, h', d')) : Does E m h (do pure (Next.value (← Instr.index ty (a.eval x) (a.eval i)))) w v h' := by
  unfold o_idxStr at hs
  split at hs
  · rename_i s k j hp hq
    split at hs
    · rename_i hb
      split at hs
      · rename_i b hb2
        cases hs
        refine Does.pure r (v' := .int .u8 b.toNat) (run_v ?_) (.int _ _)
        rw [(ev_sim ht hx hp).string_inv, (ev_sim ht hi hq).int_inv]
        have h0 : 0 ≤ j := by simpa using hb
        have : s[j.toNat]? = some b := by
          have h3 : s.data[j.toNat]? = some b := by simpa using hb2
          obtain ⟨h4, h5⟩ := Array.getElem?_eq_some_iff.1 h3
          have h6 : j.toNat < s.size := h4
          rw [getElem?_pos s j.toNat h6]
          exact congrArg some h5
        unfold Instr.index
        simp [asIntOf, run_underlying hu, h0, this]
      · cases hs
    · cases hs
  · cases hs
theorem sim_makeFunc {E : Env} {h h' : SHeap} {d d' : List Nat} {w : World} (r : Rel E m h w) (ht : TR nt m t a.tmps) {f : FuncId} {p q : Array Operand} (hp : p.toList.all okO = true) (hq : q.toList.all okO = true)
    {v : Value} (hs : o_makeFunc f p.toList q.toList t h d = some (v, h', d')) : Does E m h (do pure (Next.value (← Instr.makeFunc (.func f) (p.map a.eval) (q.map a.eval)))) w v h' := by
  unfold o_makeFunc at hs
  split at hs
  · rename_i u z hu hz
    cases hs
    have h1 := evs_sim ht hp hu
    have h2 := evs_sim ht hq hz
    exact Does.pure r (run_v rfl) (.func (by simpa using h1.1) (by simpa using h2.1) (by simpa using h1.2) (by simpa using h2.2))
  · cases hs
theorem sim_extract {E : Env} {h h' : SHeap} {d d' : List Nat} {w : World} (r : Rel E m h w) (ht : TR nt m t a.tmps) {x : Operand} {i : Nat} (hx : okO x = true) {v : Value} (hs : o_extract x i t h d = some (v, h', d')) :
    Does E m h (do pure (Next.value (← Instr.extract (a.eval x) i))) w v h' := by
  unfold o_extract at hs
  split at hs
  · rename_i vs hp
    obtain ⟨h1, rfl, rfl⟩ := same_some hs
    obtain ⟨vs', hxe, hc⟩ := (ev_sim ht hx hp).tuple_inv
    obtain ⟨y, h2, h3⟩ := hc.get h1
    refine Does.pure r (v' := y) (run_v ?_) h3
    have : vs'[i]? = some y := by simpa using h2
    rw [hxe]; simp [Instr.extract, this]
  · cases hs
theorem sliceBound_run {x : Value} {y l : Nat} (h : bnd x y = some l) (c : BoundsCode) (w : World) : (Instr.sliceBound x y c).run P w = .ok l w ∧ l ≤ y := by
  unfold bnd at h
  split at h
  · split at h
    · rename_i k i hb
      cases h
      simp only [Bool.and_eq_true, decide_eq_true_eq] at hb
      exact ⟨by unfold Instr.sliceBound; simp [asIntOf, hb], by omega⟩
    · cases h
  · cases h
theorem bnd_VR {x x' : Value} {y l : Nat} (h : bnd x y = some l) (hx : VR m x x') : x' = x := by
  unfold bnd at h
  split at h
  · exact hx.int_inv
  · cases h
theorem evo_sim (ht : TR nt m t a.tmps) {x : Option Operand} (ho : x.toList.all okO = true) {v : Option Value} (h : evo t x = some v) :
    (v = none ∧ x.map a.eval = none) ∨ ∃ u u', v = some u ∧ x.map a.eval = some u' ∧ VR m u u' := by
  cases x with
  | none => cases h; exact .inl ⟨rfl, rfl⟩
  | some x =>
    unfold evo at h
    split at h
    · rename_i hm; cases hm
    · rename_i y hm
      cases hm
      split at h
      · rename_i u hu; cases h
        exact .inr ⟨u, _, rfl, rfl, ev_sim ht (by simpa using ho) hu⟩
      · cases h
theorem bnd_le {x : Value} {y l : Nat} (h : bnd x y = some l) : l ≤ y := by
  unfold bnd at h
  split at h
  · split at h
    · rename_i k i hb
      cases h
      simp only [Bool.and_eq_true, decide_eq_true_eq] at hb
      omega
    · cases h
  · cases h
theorem bMx_le {mx : Option Value} {c l : Nat} (h : bMx mx c = some l) : l ≤ c := by
  unfold bMx at h
  split at h
  · exact bnd_le h
  · cases h; exact Nat.le_refl _
theorem bHi_le {hi mx : Option Value} {mm len l : Nat} (h : bHi hi mx mm len = some l) (hl : mx = none → len ≤ mm) : l ≤ mm := by
  unfold bHi at h
  split at h
  · exact bnd_le h
  · split at h
    · cases h; exact hl rfl
    · cases h
theorem bLo_le {lo : Option Value} {c l : Nat} (h : bLo lo c = some l) : l ≤ c := by
  unfold bLo at h
  split at h
  · exact bnd_le h
  · cases h; exact Nat.zero_le _
theorem bounds_run {isSlice : Bool} {len cap m0 h0 l0 : Nat} {lo hi mx lo' hi' mx' : Option Value} (w : World)
    (hm : bMx mx cap = some m0) (hh : bHi hi mx m0 len = some h0) (hl : bLo lo h0 = some l0)
    (elo : (lo = none ∧ lo' = none) ∨ ∃ u u', lo = some u ∧ lo' = some u' ∧ VR m u u')
    (ehi : (hi = none ∧ hi' = none) ∨ ∃ u u', hi = some u ∧ hi' = some u' ∧ VR m u u')
    (emx : (mx = none ∧ mx' = none) ∨ ∃ u u', mx = some u ∧ mx' = some u' ∧ VR m u u') :
    (Instr.sliceBounds isSlice len cap lo' hi' mx').run P w = .ok (l0, h0, m0) w := by
  have hl' : ∀ c, (match lo' with | some v => Instr.sliceBound v h0 c | none => pure 0 : Sem Nat).run P w = .ok l0 w := by
    intro c
    rcases elo with ⟨rfl, rfl⟩ | ⟨u, u', rfl, rfl, hv⟩
    · cases hl; rfl
    · have := bnd_VR hl hv; subst this
      exact (sliceBound_run hl c w).1
  rcases emx with ⟨rfl, rfl⟩ | ⟨um, um', rfl, rfl, hvm⟩
  · cases hm
    rcases ehi with ⟨rfl, rfl⟩ | ⟨u, u', rfl, rfl, hv⟩
    · cases hh
      have := hl' .sliceB
      unfold Instr.sliceBounds
      cases lo' <;> simp_all
    · have := bnd_VR hh hv; subst this
      have h1 := (sliceBound_run (P := P) hh (if isSlice then .sliceAcap else .sliceAlen) w).1
      have := hl' .sliceB
      unfold Instr.sliceBounds
      cases lo' <;> simp_all
  · have e1 := bnd_VR hm hvm; subst e1
    have h1 := (sliceBound_run (P := P) hm (if isSlice then .slice3Acap else .slice3Alen) w).1
    rcases ehi with ⟨rfl, rfl⟩ | ⟨u, u', rfl, rfl, hv⟩
    · cases hh
    · have := bnd_VR hh hv; subst this
      have h3 := (sliceBound_run (P := P) hh .slice3B w).1
      have := hl' .slice3C
      unfold Instr.sliceBounds
      cases lo' <;> simp_all
end
end Go.Proofs.Ytioijehbmgmgkaa.Sh

namespace Go.Proofs.Ytioijehbmgmgkaa.Sh
open Go Go.RowKit
section
variable {P : Program} {nt : Nat} {m : Mp} {t : T} {a : Act}
theorem bnd_mono {x : Value} {y z l : Nat} (h : bnd x y = some l) (hz : y ≤ z) : bnd x z = some l := by
  unfold bnd at h ⊢
  split at h
  · split at h
    · rename_i k i hb
      simp only [Bool.and_eq_true, decide_eq_true_eq] at hb
      have h1 : i ≤ (z : Int) := by omega
      simp [hb.1, h1]; simpa using h
    · cases h
  · cases h
theorem bMx_mono {mx : Option Value} {c c' l : Nat} (h : bMx mx c = some l) (hc : c ≤ c') : (bMx mx c' = some l ∧ mx ≠ none) ∨ (mx = none ∧ l = c) := by
  unfold bMx at h
  split at h
  · exact .inl ⟨by unfold bMx; exact bnd_mono h hc, by simp⟩
  · cases h; exact .inr ⟨rfl, rfl⟩
theorem bHi_mono {hi : Option Value} {mm mm' len l : Nat} (h : bHi hi none mm len = some l) (hc : mm ≤ mm') : bHi hi none mm' len = some l := by
  unfold bHi at h ⊢
  split at h
  · exact bnd_mono h hc
  · exact h
theorem slice_val {E : Env} {w : World} {size : Nat} {x x' v : Value} {lo hi mx lo' hi' mx' : Option Value} (hx : VR m x x') (hs : sliceS size x lo hi mx = some v)
    (elo : (lo = none ∧ lo' = none) ∨ ∃ u u', lo = some u ∧ lo' = some u' ∧ VR m u u')
    (ehi : (hi = none ∧ hi' = none) ∨ ∃ u u', hi = some u ∧ hi' = some u' ∧ VR m u u')
    (emx : (mx = none ∧ mx' = none) ∨ ∃ u u', mx = some u ∧ mx' = some u' ∧ VR m u u') :
    ∃ (a' : Option Addr) (len cap l h mm : Nat), x' = .slice a' len cap ∧ (Instr.sliceBounds true len cap lo' hi' mx').run E.P w = .ok (l, h, mm) w ∧
      VR m v (.slice (if mm = l then a' else a'.map (fun (q : Addr) => q.add (l * size))) (h - l) (mm - l)) := by
  unfold sliceS at hs
  split at hs
  case h_2 => cases hs
  rename_i ad len cap
  split at hs
  case h_1 => cases hs
  rename_i mm hmm
  split at hs
  case h_1 => cases hs
  rename_i hh hhe
  split at hs
  case h_1 => cases hs
  rename_i l hle2
  have hll := bLo_le hle2
  -- what x' is
  obtain ⟨a', cap', rfl, hlc, hadr⟩ : ∃ a' cap', x' = .slice a' len cap' ∧ (ad ≠ none → len ≤ cap') ∧
      ((ad = none ∧ a' = none ∧ cap = cap' ∧ len = 0 ∧ cap = 0) ∨ (∃ b o A δ, ad = some ⟨b, o, none⟩ ∧ m.at b = some (A, δ) ∧ a' = some ⟨A, δ + o, none⟩ ∧ CapR m b o cap cap') ∨ (∃ b o a'' p, m.at b = some p ∧ ad = some ⟨b, o, none⟩ ∧ a' = some a'' ∧ len = 0 ∧ cap' = 0 ∧ (cap = 0 ∨ UNK ≤ cap))) := by
    cases hx with
    | sl0 => exact ⟨_, _, rfl, fun h => absurd rfl h, .inl ⟨rfl, rfl, rfl, rfl, rfl⟩⟩
    | sl hm hn h3 => exact ⟨_, _, rfl, fun _ => hn, .inr (.inl ⟨_, _, _, _, rfl, hm, rfl, h3⟩)⟩
    | slz hp h3 => exact ⟨_, _, rfl, fun _ => Nat.le_refl _, .inr (.inr ⟨_, _, _, _, hp, rfl, rfl, rfl, rfl, h3⟩)⟩
  rcases hadr with ⟨rfl, rfl, rfl, rfl, rfl⟩ | hadr
  · -- nil
    simp only at hs; cases hs
    have hb : Nat.ble UNK 0 = false := rfl
    rw [hb] at hmm
    simp only [Bool.false_eq_true, if_false] at hmm
    have hml := bMx_le hmm
    have hhm : hh ≤ mm := bHi_le hhe (fun h => Nat.zero_le _)
    refine ⟨none, 0, 0, l, hh, mm, rfl, bounds_run w hmm hhe hle2 elo ehi emx, ?_⟩
    have : (if mm = l then (none : Option Addr) else Option.map (fun (q : Addr) => q.add (l * size)) none) = none := by split <;> rfl
    have e1 : mm = 0 := by omega
    have e2 : l = 0 := by omega
    have e3 : hh = 0 := by omega
    subst e1 e2 e3
    rw [this]; exact .sl0
  · have hadn : ad ≠ none := by rcases hadr with ⟨_, _, _, _, h, _⟩ | ⟨_, _, _, _, _, h, _⟩ <;> rw [h] <;> simp
    have hlc1 := hlc hadn
    cases hb : Nat.ble UNK cap with
    | true =>
      have hcU : UNK ≤ cap := by simpa using hb
      rw [hb] at hmm hs
      simp only [if_true] at hmm
      rcases bMx_mono hmm hlc1 with ⟨hm2, hne⟩ | ⟨rfl, rfl⟩
      · -- a third index
        have hmn : mx.isNone = false := by cases mx <;> simp_all
        have hhm : hh ≤ mm := bHi_le hhe (fun h => absurd h hne)
        have hml := bMx_le hmm
        refine ⟨a', len, cap', l, hh, mm, rfl, bounds_run w hm2 hhe hle2 elo ehi emx, ?_⟩
        rcases hadr with ⟨b, o, A, δ, rfl, hm, rfl, hcr⟩ | ⟨b, o, a'', p, hp, rfl, rfl, h5, h6, h7⟩
        · simp only [hmn, Bool.and_false, Bool.false_eq_true, if_false] at hs
          split at hs
          case isFalse => cases hs
          rename_i hmu
          simp only [Nat.blt_eq] at hmu
          cases hs
          by_cases e : mm = l
          · simp only [e, beq_self_eq_true, if_true]
            exact .sl hm (by omega) (.inl ⟨rfl, by omega⟩)
          · simp only [beq_iff_eq, e, if_false, Option.map_some, addr_add, Nat.add_assoc]
            exact .sl hm (by omega) (.inl ⟨rfl, by omega⟩)
        · simp only [hmn, Bool.and_false, Bool.false_eq_true, if_false] at hs
          split at hs
          case isFalse => cases hs
          cases hs
          have e1 : mm = 0 := by omega
          have e2 : l = 0 := by omega
          have e3 : hh = 0 := by omega
          subst e1 e2 e3
          simp only [beq_self_eq_true, if_true]
          exact .slz hp (.inl rfl)
      · have hhm : hh ≤ mm := bHi_le hhe (fun _ => Nat.le_refl _)
        refine ⟨a', mm, cap', l, hh, cap', rfl, bounds_run w rfl (bHi_mono hhe hlc1) hle2 elo ehi emx, ?_⟩
        rcases hadr with ⟨b, o, A, δ, rfl, hm, rfl, hcr⟩ | ⟨b, o, a'', p, hp, rfl, rfl, h5, h6, h7⟩
        · simp only [Option.isNone_none, Bool.and_self, if_true] at hs
          split at hs
          case isFalse => cases hs
          rename_i hcs
          have hcs : cap = UNK + size := Nat.eq_of_beq_eq_true hcs
          cases hs
          by_cases e1 : cap' = l
          · have e2 : hh - l = 0 := by omega
            have e3 : cap' - l = 0 := by omega
            rw [if_pos e1, e2, e3]
            exact .slz hm (.inr (by omega))
          · rw [if_neg e1]
            simp only [Option.map_some, addr_add, Nat.add_assoc]
            obtain ⟨K, s, hK, hs2, hcb⟩ : ∃ K s, m.cp b = some (K, s) ∧ cap = UNK + s ∧ o + cap' * s ≤ K := by
              rcases hcr with ⟨_, h9⟩ | ⟨_, h9⟩
              · exact absurd h9 (by omega)
              · exact h9
            refine .sl hm (by omega) (.inr ⟨by omega, K, s, hK, ?_⟩)
            have hs3 : s = size := by omega
            subst hs3
            have h10 : l * s + (cap' - l) * s = cap' * s := by rw [← Nat.add_mul]; congr 1; omega
            exact ⟨hs2, by omega⟩
        · simp only [Option.isNone_none, Bool.and_self, if_true] at hs
          split at hs
          case isFalse => cases hs
          cases hs
          have e1 : cap' = 0 := by omega
          have e2 : l = 0 := by omega
          have e3 : hh = 0 := by omega
          subst e1 e2 e3
          simp only [if_true]
          exact .slz hp (.inr (by omega))
    | false =>
      have hcU : cap < UNK := by
        have h2 : ¬ UNK ≤ cap := by
          intro h3
          have h4 : Nat.ble UNK cap = true := by simpa using h3
          rw [h4] at hb; cases hb
        omega
      rw [hb] at hmm hs
      simp only [Bool.false_eq_true, if_false, Bool.false_and] at hmm hs
      rcases hadr with ⟨b, o, A, δ, rfl, hm, rfl, hcr⟩ | ⟨b, o, a'', p, hp, rfl, rfl, h5, h6, h7⟩
      · have hcc : cap = cap' := by
          rcases hcr with ⟨h9, _⟩ | ⟨h9, _⟩
          · exact h9
          · omega
        subst hcc
        have hml := bMx_le hmm
        have hhm : hh ≤ mm := bHi_le hhe (fun h => by subst h; cases hmm; exact hlc1)
        refine ⟨_, len, cap, l, hh, mm, rfl, bounds_run w hmm hhe hle2 elo ehi emx, ?_⟩
        simp only at hs
        split at hs
        case isFalse => cases hs
        cases hs
        by_cases e : mm = l
        · simp only [e, beq_self_eq_true, if_true]
          exact .sl hm (by omega) (.inl ⟨rfl, by omega⟩)
        · simp only [beq_iff_eq, e, if_false, Option.map_some, addr_add, Nat.add_assoc]
          exact .sl hm (by omega) (.inl ⟨rfl, by omega⟩)
      · have hc0 : cap = 0 := by omega
        subst hc0
        have hml := bMx_le hmm
        have hhm : hh ≤ mm := bHi_le hhe (fun h => by subst h; cases hmm; omega)
        subst h6
        refine ⟨_, len, 0, l, hh, mm, rfl, bounds_run w hmm hhe hle2 elo ehi emx, ?_⟩
        simp only at hs
        split at hs
        case isFalse => cases hs
        cases hs
        have e1 : mm = 0 := by omega
        have e2 : l = 0 := by omega
        have e3 : hh = 0 := by omega
        subst e1 e2 e3
        simp only [beq_self_eq_true, if_true]
        exact .slz hp (.inl rfl)
theorem sim_slice {E : Env} {h h' : SHeap} {d d' : List Nat} {w : World} (r : Rel E m h w) (ht : TR nt m t a.tmps) {ty e : TypeId} {s : Nat} {x : Operand} {lo hi mx : Option Operand} (hu : E.P.underlying ty = some (.slice e)) (hsz : szOf E.P e = some s) (hx : okO x = true)
    (hlo : lo.toList.all okO = true) (hhi : hi.toList.all okO = true) (hmx : mx.toList.all okO = true) {v : Value} (hs : o_slice s x lo hi mx t h d = some (v, h', d')) :
    Does E m h (do pure (Next.value (← Instr.sliceAt ty (a.eval x) (lo.map a.eval) (hi.map a.eval) (mx.map a.eval)))) w v h' := by
  unfold o_slice at hs
  split at hs
  · rename_i xv l0 h0 m0 h1 h2 h3 h4
    obtain ⟨h5, rfl, rfl⟩ := same_some hs
    obtain ⟨a', len, cap, l, hh, mm, hxe, hb, hv⟩ := slice_val (E := E) (w := w) (ev_sim ht hx h1) h5 (evo_sim ht hlo h2) (evo_sim ht hhi h3) (evo_sim ht hmx h4)
    refine Does.pure r (run_v ?_) hv
    rw [hxe]
    unfold Instr.sliceAt
    simp only [Sem.run_bind, run_underlying hu, Result.andThen_ok]
    unfold Instr.slice
    simp only [Sem.run_bind, run_underlying hu, Result.andThen_ok, hb, szOf_run hsz w, Sem.run_pure]
  · cases hs
theorem sim_sliceArr {E : Env} {h h' : SHeap} {d d' : List Nat} {w : World} (r : Rel E m h w) (ht : TR nt m t a.tmps) {ty e : TypeId} {n s : Nat} {x : Operand} {lo hi mx : Option Operand} (hu : E.P.underlying ty = some (.array n e)) (hsz : szOf E.P e = some s) (hx : okO x = true)
    (hlo : lo.toList.all okO = true) (hhi : hi.toList.all okO = true) (hmx : mx.toList.all okO = true) {v : Value} (hs : o_sliceArr n s x lo hi mx t h d = some (v, h', d')) :
    Does E m h (do pure (Next.value (← Instr.sliceAt ty (a.eval x) (lo.map a.eval) (hi.map a.eval) (mx.map a.eval)))) w v h' := by
  unfold o_sliceArr at hs
  split at hs
  · rename_i xv l0 h0 m0 h1 h2 h3 h4
    obtain ⟨h5, rfl, rfl⟩ := same_some hs
    unfold sliceArrS at h5
    split at h5
    case h_2 => cases h5
    rename_i b o
    split at h5
    case h_1 => cases h5
    rename_i mm hmm
    split at h5
    case h_1 => cases h5
    rename_i hh hhe
    split at h5
    case h_1 => cases h5
    rename_i l hle2
    split at h5
    case isFalse => cases h5
    rename_i hmu
    simp only [Nat.blt_eq] at hmu
    cases h5
    obtain ⟨A, δ, hm, hxe⟩ := (ev_sim ht hx h1).ptr_inv
    have hb1 := bounds_run (P := E.P) (isSlice := false) (len := n) (cap := n) (m0 := mm) (h0 := hh) (l0 := l) (lo := l0) (hi := h0) (mx := m0) w hmm hhe hle2 (evo_sim ht hlo h2) (evo_sim ht hhi h3) (evo_sim ht hmx h4)
    have hle3 : hh ≤ mm := bHi_le hhe (fun h => by subst h; cases hmm; exact Nat.le_refl _)
    have hll := bLo_le hle2
    refine Does.pure r (v' := .slice (some (if mm = l then ⟨A, δ + o, none⟩ else ⟨A, δ + o + l * s, none⟩)) (hh - l) (mm - l)) (run_v ?_) ?_
    · rw [hxe]
      unfold Instr.sliceAt
      simp only [Sem.run_bind, run_underlying hu, Result.andThen_ok, Instr.sureAddr, Sem.run_pure, hb1, szOf_run hsz w, addr_add]
    · by_cases e : mm = l
      · simp only [e, beq_self_eq_true, if_true]
        exact .sl hm (by omega) (.inl ⟨rfl, by omega⟩)
      · simp only [beq_iff_eq, e, if_false, Nat.add_assoc]
        exact .sl hm (by omega) (.inl ⟨rfl, by omega⟩)
  · cases hs
end
end Go.Proofs.Ytioijehbmgmgkaa.Sh

namespace Go.Proofs.Ytioijehbmgmgkaa.Sh
open Go Go.RowKit
section
variable {P : Program} {nt : Nat} {m : Mp} {t : T} {a : Act}
theorem cell?_heap {w w' : World} (h : w'.heap = w.heap) (p : Addr) : w'.cell? p = w.cell? p := by unfold World.cell?; rw [h]
theorem cells_run {E : Env} {h : SHeap} {w : World} (r : Rel E m h w) {b o n A δ : Nat} {l : List Value} (hx : rdN h b o n = some l) (hm : m.at b = some (A, δ)) :
    ∃ l' : List Value, LR m l l' ∧ l'.length = n ∧ (∀ j v, l'[j]? = some v → w.cell? ((⟨A, δ + o, none⟩ : Addr).add j) = some v) := by
  obtain ⟨hlen, hc⟩ := r.rdN hx hm
  have : ∀ (l : List Value) (k : Nat), (∀ (i : Nat) (x : Value), l[i]? = some x → ∃ y, w.cell? ⟨A, δ + o + (k + i), none⟩ = some y ∧ VR m x y) →
      ∃ l' : List Value, LR m l l' ∧ ∀ j v, l'[j]? = some v → w.cell? ⟨A, δ + o + (k + j), none⟩ = some v := by
    intro l
    induction l with
    | nil => intro k _; exact ⟨[], LR.nil m, fun j v hv => by simp at hv⟩
    | cons x l ih =>
      intro k hk
      obtain ⟨y, hy, hv⟩ := hk 0 x rfl
      obtain ⟨l', h1, h2⟩ := ih (k + 1) (fun i z hz => by
        have := hk (i + 1) z (by simpa using hz)
        rwa [show k + (i + 1) = k + 1 + i by omega] at this)
      refine ⟨y :: l', h1.cons hv, fun j v hj => ?_⟩
      cases j with
      | zero => simp at hj; subst hj; exact hy
      | succ j =>
        have := h2 j v (by simpa using hj)
        rwa [show k + (j + 1) = k + 1 + j by omega]
  obtain ⟨l', h3, h4⟩ := this l 0 (fun i x hx => by simpa using hc i x hx)
  exact ⟨l', h3, by rw [← h3.1, hlen], fun j v hv => by rw [addr_add]; simpa using h4 j v hv⟩
theorem seen_run {E : Env} {h : SHeap} {w : World} (r : Rel E m h w) {size n : Nat} {x x' : Value} {l : List Value} (hv : VR m x x') (hs : seenS h size x n = some l) (hn : ∀ p c, x = .slice p 0 c → n = 0) :
    ∃ l' : List Value, LR m l l' ∧ l'.length = n * size ∧ ∀ w' : World, w'.heap = w.heap → (Builtin.firstCells size n x').run E.P w' = .ok l'.toArray w' := by
  unfold seenS at hs
  split at hs
  · split at hs
    · rename_i h0
      cases hs
      simp at h0; subst h0
      cases hv
      exact ⟨[], LR.nil m, by simp, fun w' _ => by simp [Builtin.firstCells]⟩
    · cases hs
  · rename_i b o len cap n'
    split at hs
    · rename_i h0
      cases hs
      simp at h0; subst h0
      refine ⟨[], LR.nil m, by simp, fun w' _ => ?_⟩
      cases hv <;> simp [Builtin.firstCells, loadCells, loadCellsFrom]
    · cases hv with
      | sl hm hle hc =>
        obtain ⟨l', h1, h2, h3⟩ := cells_run r hs hm
        refine ⟨l', h1, h2, fun w' hw => ?_⟩
        have := run_loadCells_list (P := E.P) w' _ l' (fun j v hv => by rw [cell?_heap hw]; exact h3 j v hv)
        rw [h2] at this
        simp [Builtin.firstCells, this]
      | slz => rename_i h0 _ _ _ _; simp [hn _ _ rfl] at h0
  · cases hs
theorem append_room {ts tx ty e ex : TypeId} {i : TypeInfo} (ht : P.underlying ts = some (.slice e)) (hu : P.underlying tx = some (.slice ex)) (hi : P.info? e = some i) {w : World}
    {A o len cap n : Nat} {y : Value} (hy : Builtin.lenOf y = pure n) {new : List Value} (hf : (Builtin.firstCells i.size n y).run P w = .ok new.toArray w) (hroom : len + n ≤ cap)
    (hc : ∀ j, j < new.length → (w.cell? ⟨A, o + len * i.size + j, none⟩).isSome = true) (hz : ∀ j, j < new.length → w.frozen? ⟨A, o + len * i.size + j, none⟩ = false) (h1 : ∀ v ∈ new, v.oneCell' = true) :
    (Builtin.append_ #[ts, tx] ty #[.slice (some ⟨A, o, none⟩) len cap, y]).run P w = .ok (.slice (some ⟨A, o, none⟩) (len + n) cap) (w.setCells A (o + len * i.size) new) := by
  have hst := run_storeCells_cells (P := P) A (o + len * i.size) new 0 w (by simpa using hc) (by simpa using hz) h1
  simp only [Nat.add_zero] at hst
  simp [Builtin.append_, run_underlying ht, run_underlying hu, sizeOf, typeInfo, hi, hy, hroom, hf, addr_add, hst]
theorem append_grow {ts tx ty e ex : TypeId} {i : TypeInfo} {z : Value} (ht : P.underlying ts = some (.slice e)) (hu : P.underlying tx = some (.slice ex)) (hi : P.info? e = some i) (hz : i.zero = some z) {w : World}
    {p : Option Addr} {len cap n : Nat} {y : Value} (hy : Builtin.lenOf y = pure n) {old new : List Value}
    (hf : ∀ w' : World, w'.heap = w.heap → (Builtin.firstCells i.size n y).run P w' = .ok new.toArray w') (ho : ∀ w' : World, w'.heap = w.heap → (Builtin.firstCells i.size len (.slice p len cap)).run P w' = .ok old.toArray w')
    (hno : cap < len + n) (hb : (len + n) * i.bytes ≤ 140737488355328) (hpos : 0 < i.bytes) :
    ∃ k rest, len + n ≤ k ∧ rest.length = (k - (len + n)) * z.cells.size ∧ (Builtin.append_ #[ts, tx] ty #[.slice p len cap, y]).run P w = .ok (.slice (some ⟨w.heap.size, 0, none⟩) (len + n) k) (w.drew.alloc (.cells (old ++ new ++ rest).toArray e)) := by
  have hn : ¬ (len + n ≤ cap) := by omega
  have hle : len + n ≤ (len + n) * i.bytes := Nat.le_mul_of_pos_right _ hpos
  have h63' : ¬ (9223372036854775807 < ((len : Int) + (n : Int))) := by omega
  have h48' : ¬ (281474976710656 < Builtin.nextslicecap (len + n) cap * i.bytes) := by have := growslice_fits hno hb; omega
  have hf' := hf w.drew rfl
  have ho' := ho w.drew rfl
  refine ⟨grownCap w (len + n) cap e, (Builtin.zeroCells z.cells (grownCap w (len + n) cap e - (len + n))).toList, by simp [grownCap, Question.cut], by simp [Builtin.zeroCells], ?_⟩
  simp [Builtin.append_, run_underlying ht, run_underlying hu, sizeOf, typeInfo, zeroValue, hi, hz, hy, hn, h63', h48', Question.forced, hf', ho', newRow, grownCap]
  congr 2
  apply Array.ext'
  simp [List.append_assoc]
theorem lenS_sim {y y' : Value} {n : Nat} (h : lenS y = some n) (hv : VR m y y') : Builtin.lenOf y' = pure n := by
  unfold lenS at h
  split at h
  · cases h; cases hv <;> rfl
  · cases h
theorem share_get (h : SHeap) (b c : Nat) : (share h b)[c]? = if b = c then (h[c]?).map (fun o => match o with | .cells cs el pf _ old => SO.cells cs el pf 1 old | o => o) else h[c]? := by
  unfold share
  split
  · rename_i cs el pf own old hb
    by_cases e : b = c
    · subst e
      have hlt : b < h.length := (List.getElem?_eq_some_iff.1 hb).1
      simp [hlt] at *
      rw [hb]
    · rw [List.getElem?_set_ne e, if_neg e]
  · rename_i hn
    by_cases e : b = c
    · subst e
      rw [if_pos rfl]
      cases hb : h[b]? with
      | none => rfl
      | some o => cases o with
        | cells cs el pf own old => exact absurd hb (hn cs el pf own old)
        | _ => rfl
    · rw [if_neg e]
theorem share_len (h : SHeap) (b : Nat) : (share h b).length = h.length := by unfold share; split <;> simp
end
end Go.Proofs.Ytioijehbmgmgkaa.Sh

namespace Go.Proofs.Ytioijehbmgmgkaa.Sh
open Go Go.RowKit
section
variable {P : Program} {nt : Nat} {m : Mp} {t : T} {a : Act}
def shared : SO → SO
  | .cells cs el pf _ old => .cells cs el pf 1 old
  | o => o
theorem share_get' (h : SHeap) (b c : Nat) : (share h b)[c]? = if b = c then (h[c]?).map shared else h[c]? := by
  rw [share_get]; congr 1
theorem OR.shared {m : Mp} {cs el pf old} {A δ : Nat} {w : World} (h : OR P m (.cells cs el pf 0 old) A δ w) : OR P m (.cells cs el pf 1 old) A δ w := by
  rcases h with h | ⟨rcs, rel, fr, h1, h2, h3, h4, h5⟩
  · cases h
  · exact .inr ⟨rcs, rel, fr, h1, h2, .inr (h3.resolve_left (by omega)), h4, h5⟩
theorem Rel.share {E : Env} {h : SHeap} {w : World} (r : Rel E m h w) {b : Nat} {cs el pf old} (hb : h[b]? = some (.cells cs el pf 0 old)) : Rel E m (share h b) w := by
  have key : ∀ (c : Nat) (o : SO), (Sh.share h b)[c]? = some o → (c = b ∧ o = .cells cs el pf 1 old) ∨ (c ≠ b ∧ h[c]? = some o) := by
    intro c o hc
    rw [share_get'] at hc
    split at hc
    · rename_i e; subst e; rw [hb] at hc; cases hc; exact .inl ⟨rfl, rfl⟩
    · rename_i e; exact .inr ⟨fun k => e k.symm, hc⟩
  refine ⟨by rw [share_len]; exact r.len, r.lt, ?_, ?_, ?_, r.cap, ?_, r.below, r.bsz, r.glob⟩
  · intro c o A δ hc hm
    rcases key c o hc with ⟨rfl, rfl⟩ | ⟨_, hc⟩
    · exact (r.obj _ _ _ _ hb hm).shared
    · exact r.obj _ _ _ _ hc hm
  · intro c o A δ hc hm hl hro
    rcases key c o hc with ⟨rfl, rfl⟩ | ⟨_, hc⟩
    · exact r.base _ _ _ _ hb hm rfl rfl
    · exact r.base _ _ _ _ hc hm hl hro
  · intro b1 b2 o1 o2 A δ1 δ2 hne h1 h2 m1 m2 l1 l2
    rcases key b1 o1 h1 with ⟨rfl, rfl⟩ | ⟨n1, k1⟩ <;> rcases key b2 o2 h2 with ⟨rfl, rfl⟩ | ⟨n2, k2⟩
    · exact absurd rfl hne
    · obtain ⟨h3, cs2, el2, pf2, old2, rfl, h4⟩ := r.others hb m1 (Ne.symm hne) k2 m2 l2
      exact .inr (.inr ⟨_, _, _, _, _, _, _, _, _, rfl, rfl, h3, h4⟩)
    · obtain ⟨h3, cs2, el2, pf2, old2, rfl, h4⟩ := r.others hb m2 hne k1 m1 l1
      exact .inr (.inl ⟨_, _, _, _, _, _, _, _, _, rfl, rfl, h3, h4⟩)
    · exact r.sep b1 b2 o1 o2 A δ1 δ2 hne k1 k2 m1 m2 l1 l2
  · intro c K s cs2 el2 pf2 own2 old2 hx hcp
    rcases key c _ hx with ⟨rfl, e⟩ | ⟨hne, hx⟩
    · cases e; exact r.csz _ _ _ _ _ _ _ _ hb hcp
    · exact r.csz _ _ _ _ _ _ _ _ hx hcp
theorem Rel.above {E : Env} {h : SHeap} {w : World} (r : Rel E m h w) {A off : Nat} {rcs rel fr} (hw : w.heap[A]? = some (.cells rcs rel fr)) (hB : E.B ≤ A) {vs : List Value}
    (hfit : off + vs.length ≤ rcs.size) (hall : ∀ (c : Nat) (o : SO) (δ : Nat), h[c]? = some o → m.at c = some (A, δ) → live o = true → ∃ cs el pf own old, o = .cells cs el pf own old ∧ δ + cs.length ≤ off) :
    Rel E m h (w.setCells A off vs) := by
  have hAt : (w.setCells A off vs).heap[A]? = some (.cells (writeA rcs off vs) rel fr) := by
    rw [← wsetL_eq]; exact wsetL_at w A off vs hw
  have hNe : ∀ k, k ≠ A → (w.setCells A off vs).heap[k]? = w.heap[k]? := fun k hk => by
    rw [← wsetL_eq]; exact wsetL_ne w A off k vs hk
  have hSz : (w.setCells A off vs).heap.size = w.heap.size := by rw [← wsetL_eq]; exact wsetL_size _ _ _ _
  refine ⟨r.len, fun c A' δ' hc => by rw [hSz]; exact r.lt _ _ _ hc, ?_, r.base, r.sep, ?_, r.csz, ?_, by rw [hSz]; exact r.bsz, r.glob⟩
  · intro c o A' δ' hc hmc
    by_cases e : A' = A
    · subst e
      cases hl : live o with
      | false =>
        cases o with
        | cells cs2 el2 pf2 own2 old2 => simp [live] at hl; exact .inl hl
        | gone => trivial
        | _ => simp [live] at hl
      | true =>
        obtain ⟨cs, el, pf, own, old, rfl, hle⟩ := hall c o δ' hc hmc hl
        rcases r.obj _ _ _ _ hc hmc with h2 | ⟨rcs', rel', fr', h1, h2, h3, h4, h5⟩
        · exact .inl h2
        · rw [hw] at h1; cases h1
          refine .inr ⟨_, _, _, hAt, fun i x hx => ?_, h3, h4, h5⟩
          have hi : i < cs.length := (List.getElem?_eq_some_iff.1 hx).1
          rw [writeA_get rcs off vs hfit, if_neg (by omega)]
          exact h2 i x hx
    · exact (r.obj _ _ _ _ hc hmc).heap (hNe _ e)
  · intro c A' δ' K s hmc hcp
    obtain ⟨rcs', rel', fr', h1, h2⟩ := r.cap _ _ _ _ _ hmc hcp
    by_cases e : A' = A
    · subst e
      rw [hw] at h1; cases h1
      exact ⟨_, _, _, hAt, by rw [writeA_size]; exact h2⟩
    · exact ⟨rcs', rel', fr', by rw [hNe _ e]; exact h1, h2⟩
  · rw [← wsetL_eq]; exact wsetL_below r.below hB _ _
theorem Rel.alias {E : Env} {h : SHeap} {w : World} (r : Rel E m h w) {A δ : Nat} {cq : Option (Nat × Nat)} {cs el pf old}
    (k : OR E.P (m ++ [some ((A, δ), cq)]) (.cells cs el pf 0 old) A δ w) (hB : E.B ≤ A) (hA : A < w.heap.size)
    (hcap : ∀ K s, cq = some (K, s) → (∃ rcs rel fr, w.heap[A]? = some (.cells rcs rel fr) ∧ δ + K ≤ rcs.size) ∧ szOf E.P el = some s)
    (hsep : ∀ (c : Nat) (o : SO) (δ2 : Nat), h[c]? = some o → m.at c = some (A, δ2) → live o = true → ∃ cs2 el2 pf2 old2, o = .cells cs2 el2 pf2 1 old2 ∧ c ∈ old ∧ δ2 + cs2.length ≤ δ + cs.length) :
    Rel E (m ++ [some ((A, δ), cq)]) (h ++ [.cells cs el pf 0 old]) w := by
  have key : ∀ (b : Nat) (x : SO) (A' δ' : Nat), (h ++ [.cells cs el pf 0 old])[b]? = some x → Mp.at (m ++ [some ((A, δ), cq)]) b = some (A', δ') →
      (b < h.length ∧ h[b]? = some x ∧ m.at b = some (A', δ')) ∨ (b = h.length ∧ x = .cells cs el pf 0 old ∧ A' = A ∧ δ' = δ) := by
    intro b x A' δ' hx hb
    have hlt := Mp.at_lt hb
    simp at hlt
    by_cases e : b < h.length
    · rw [List.getElem?_append_left e] at hx
      rw [Mp.at_append_left (by rw [r.len]; exact e)] at hb
      exact .inl ⟨e, hx, hb⟩
    · have : b = h.length := by have := r.len; omega
      subst this
      rw [← r.len, Mp.at_snoc] at hb
      simp at hx hb
      exact .inr ⟨rfl, hx.symm, hb.1.symm, hb.2.symm⟩
  refine ⟨by simp [r.len], ?_, ?_, ?_, ?_, ?_, ?_, r.below, r.bsz, r.glob⟩
  · intro b A' δ' hb
    have hlt := Mp.at_lt hb
    simp at hlt
    by_cases e : b < m.length
    · rw [Mp.at_append_left e] at hb
      exact r.lt _ _ _ hb
    · have : b = m.length := by omega
      subst this
      rw [Mp.at_snoc] at hb
      simp at hb; omega
  · intro b x A' δ' hx hb
    rcases key b x A' δ' hx hb with ⟨_, h1, h2⟩ | ⟨_, rfl, rfl, rfl⟩
    · exact (r.obj b x A' δ' h1 h2).mono (Mp.le_append _ _)
    · exact k
  · intro b x A' δ' hx hb hl hro
    rcases key b x A' δ' hx hb with ⟨_, h1, h2⟩ | ⟨_, rfl, rfl, rfl⟩
    · exact r.base b x A' δ' h1 h2 hl hro
    · exact hB
  · intro b1 b2 o1 o2 A' δ1 δ2 hne h1 h2 m1 m2 l1 l2
    rcases key b1 o1 A' δ1 h1 m1 with ⟨e1, a1, c1⟩ | ⟨e1, rfl, rfl, rfl⟩ <;> rcases key b2 o2 _ δ2 h2 m2 with ⟨e2, a2, c2⟩ | ⟨e2, rfl, k2, rfl⟩
    · exact r.sep b1 b2 o1 o2 A' δ1 δ2 hne a1 a2 c1 c2 l1 l2
    · subst k2
      obtain ⟨cs2, el2, pf2, old2, rfl, h3, h4⟩ := hsep _ _ _ a1 c1 l1
      exact .inr (.inl ⟨_, _, _, _, _, _, _, _, _, rfl, rfl, h3, h4⟩)
    · obtain ⟨cs2, el2, pf2, old2, rfl, h3, h4⟩ := hsep _ _ _ a2 c2 l2
      exact .inr (.inr ⟨_, _, _, _, _, _, _, _, _, rfl, rfl, h3, h4⟩)
    · omega
  · intro b A' δ' K s hb hc
    have hlt := Mp.at_lt hb
    simp at hlt
    by_cases e : b < m.length
    · rw [Mp.at_append_left e] at hb
      rw [Mp.cp_append_left e] at hc
      exact r.cap _ _ _ _ _ hb hc
    · have : b = m.length := by omega
      subst this
      rw [Mp.at_snoc] at hb
      rw [Mp.cp_snoc] at hc
      simp at hb hc
      rw [← hb.1, ← hb.2]
      exact (hcap K s hc).1
  · intro b K s cs' el' pf' own' old' hb hc
    have hlt : b < (h ++ [SO.cells cs el pf 0 old]).length := (List.getElem?_eq_some_iff.1 hb).1
    simp at hlt
    by_cases e : b < m.length
    · rw [Mp.cp_append_left e] at hc
      rw [List.getElem?_append_left (by rw [← r.len]; exact e)] at hb
      exact r.csz _ _ _ _ _ _ _ _ hb hc
    · have hbm : b = m.length := by have := r.len; omega
      subst hbm
      rw [Mp.cp_snoc] at hc
      simp at hc
      rw [r.len] at hb
      simp at hb
      rw [← hb.2.1]
      exact (hcap K s hc).2
theorem Ghost.push {h : SHeap} {x : Option ((Nat × Nat) × Option (Nat × Nat))} {o : SO} (hl : m.length = h.length) : Ghost m h (m ++ [x]) (h ++ [o]) := by
  intro b y hb hm
  have hlt : b < h.length := (List.getElem?_eq_some_iff.1 hb).1
  exact ⟨by rw [List.getElem?_append_left hlt]; exact hb, by rw [Mp.at_append_left (by omega)]; exact hm⟩
theorem Ghost.share {h : SHeap} {b : Nat} {p} (hb : m.at b = some p) : Ghost m h m (share h b) := by
  intro c o hc hm
  refine ⟨?_, hm⟩
  rw [share_get', if_neg (by intro e; subst e; rw [hb] at hm; cases hm)]
  exact hc
theorem Ghost.killAll {h : SHeap} {l : List Nat} (hl : ∀ b ∈ l, ∃ p, m.at b = some p) : Ghost m h m (killAll h l) := by
  intro c o hc hm
  refine ⟨?_, hm⟩
  rw [killAll_get, if_neg (by intro e; obtain ⟨p, hp⟩ := hl c e; rw [hp] at hm; cases hm)]
  exact hc
theorem mem_of_all {p : Value → Bool} {l : List Value} (h : l.all p = true) {i : Nat} {x : Value} (hx : l[i]? = some x) : p x = true := List.all_eq_true.1 h x (List.mem_of_getElem? hx)
theorem or_cells {m : Mp} {cs : List Value} {el : TypeId} {pf : Bool} {old : List Nat} {A δ : Nat} {w : World} {rcs : Array Value} {cs' : List Value} (hw : w.heap[A]? = some (.cells rcs el (0, 0)))
    (hc : LR m cs cs') (hr : ∀ (i : Nat) (y : Value), cs'[i]? = some y → rcs[δ + i]? = some y) (hp : pf = true → cs.all sc = true) (ho : ∀ c ∈ old, ∃ x, m.at c = some x) : OR P m (.cells cs el pf 0 old) A δ w :=
  .inr ⟨rcs, el, (0, 0), hw, fun i x hx => let ⟨y, hy, hv⟩ := hc.get hx; ⟨y, hr i y hy, hv⟩, .inr ⟨rfl, rfl⟩, hp, ho⟩
theorem mayPf {pf : Bool} {old new : List Value} (h : (!pf || (new.all sc && old.all sc)) = true) (hp : pf = true) : (old ++ new).all sc = true := by
  subst hp
  simp only [Bool.not_true, Bool.false_or, Bool.and_eq_true] at h
  rw [List.all_append, h.1, h.2]; rfl
end
end Go.Proofs.Ytioijehbmgmgkaa.Sh

namespace Go.Proofs.Ytioijehbmgmgkaa.Sh
open Go Go.RowKit
section
variable {P : Program} {nt : Nat} {m : Mp} {t : T} {a : Act}
def DoesV (E : Env) (m : Mp) (h : SHeap) (s : Sem Value) (w : World) (v : Value) (h' : SHeap) : Prop :=
  ∃ v' w' m', s.run E.P w = .ok v' w' ∧ VR m' v v' ∧ m.le m' ∧ Rel E m' h' w' ∧ Ghost m h m' h'
theorem DoesV.does {E : Env} {h h' : SHeap} {s : Sem Value} {w : World} {v : Value} (k : DoesV E m h s w v h') : Does E m h (do pure (Next.value (← s))) w v h' :=
  let ⟨v', w', m', h1, h2⟩ := k
  ⟨v', w', m', .inl (run_v h1), h2⟩
theorem szOf_info {P : Program} {e : TypeId} {i : TypeInfo} (hi : P.info? e = some i) : szOf P e = some i.size := by
  unfold szOf; rw [hi]; rfl
theorem append_new {E : Env} {h : SHeap} {w : World} (r : Rel E m h w) {ts tx ty e ex : TypeId} {i : TypeInfo} {z : Value} (hu : E.P.underlying ts = some (.slice e)) (hux : E.P.underlying tx = some (.slice ex)) (hi : E.P.info? e = some i) (hz : i.zero = some z) (hzs : z.cells.size = i.size)
    {p : Option Addr} {len cap n : Nat} {y : Value} (hy : Builtin.lenOf y = pure n) {old old' new new' : List Value} (hlo : LR m old old') (hln : LR m new new') (hol : old'.length = len * i.size) (hnl : new'.length = n * i.size)
    (hf : ∀ w' : World, w'.heap = w.heap → (Builtin.firstCells i.size n y).run E.P w' = .ok new'.toArray w') (ho : ∀ w' : World, w'.heap = w.heap → (Builtin.firstCells i.size len (.slice p len cap)).run E.P w' = .ok old'.toArray w')
    (hno : cap < len + n) (hb : (len + n) * i.bytes ≤ 140737488355328) (hpos : 0 < i.bytes) {pf : Bool} (hpf : pf = true → (old ++ new).all sc = true)
    {h1 : SHeap} (r1 : Rel E m h1 w) (hg : Ghost m h m h1) (hl1 : h1.length = h.length) {older : List Nat} (holder : ∀ c ∈ older, ∃ x, m.at c = some x) :
    DoesV E m h (Builtin.append_ #[ts, tx] ty #[.slice p len cap, y]) w (.slice (some ⟨h.length, 0, none⟩) (len + n) (UNK + i.size)) (h1 ++ [.cells (old ++ new) e pf 0 older]) := by
  obtain ⟨k, rest, hk, hrl, hrun⟩ := append_grow (ty := ty) hu hux hi hz hy hf ho hno hb hpos
  refine ⟨_, _, m ++ [some ((w.heap.size, 0), some (k * i.size, i.size))], hrun, ?_, Mp.le_append _ _, ?_, hg.trans (Ghost.push r1.len)⟩
  · refine .sl (A := w.heap.size) (δ := 0) ?_ hk (.inr ⟨by omega, k * i.size, i.size, ?_, rfl, by simp⟩)
    · rw [← r.len, Mp.at_snoc]; rfl
    · rw [← r.len, Mp.cp_snoc]; rfl
  · have r2 : Rel E m h1 w.drew := r1.drew _
    refine Rel.push (o := .cells (old ++ new) e pf 0 older) (w := w.drew) (ob := .cells (old' ++ new' ++ rest).toArray e) r2 rfl (some (k * i.size, i.size)) (fun w' hw' => ?_) (fun K s e => ?_)
    · refine or_cells (cs' := old' ++ new') hw' ((hlo.append hln).mono (Mp.le_append _ _)) (fun j y hj => ?_) hpf (fun c hc => ?_)
      · have hjl : j < (old' ++ new').length := (List.getElem?_eq_some_iff.1 hj).1
        simp only [Nat.zero_add, List.getElem?_toArray]
        rw [List.getElem?_append_left hjl]; exact hj
      · obtain ⟨x, hx⟩ := holder c hc
        exact ⟨x, Mp.le_at (Mp.le_append _ _) hx⟩
    · cases e
      refine ⟨⟨_, _, _, rfl, ?_⟩, fun cs el pf' own old2 ho2 => by cases ho2; exact szOf_info hi⟩
      simp only [List.size_toArray, List.length_append, hol, hnl, hrl, hzs]
      have : k = (len + n) + (k - (len + n)) := by omega
      calc k * i.size = ((len + n) + (k - (len + n))) * i.size := by rw [← this]
        _ = _ := by rw [Nat.add_mul, Nat.add_mul]
        _ ≤ _ := Nat.le_refl _
theorem append_val {E : Env} {h h' : SHeap} {w : World} (r : Rel E m h w) {ts tx ty e ex : TypeId} {i : TypeInfo} {z : Value} (hu : E.P.underlying ts = some (.slice e)) (hux : E.P.underlying tx = some (.slice ex)) (hi : E.P.info? e = some i) (hz : i.zero = some z) (hzs : z.cells.size = i.size) (hsp : 0 < i.size)
    {base : Nat} {d d' : List Nat} {pf : Bool} {x x' y y' v : Value} (hx : VR m x x') (hy : VR m y y') (hs : appendS base h d e pf i.size i.bytes x y = some (v, h', d')) :
    DoesV E m h (Builtin.append_ #[ts, tx] ty #[x', y']) w v h' := by
  unfold appendS at hs
  split at hs
  case h_2 => cases hs
  rename_i ad len cap n hn
  have hylen := lenS_sim hn hy
  have hylz : ∀ p c, y = .slice p 0 c → n = 0 := by
    intro p c hyy; subst hyy; cases hn; rfl
  split at hs
  · -- nothing is appended
    rename_i h0
    simp at h0; subst h0
    cases hs
    have h1 : ∀ w' : World, w'.heap = w.heap → (Builtin.firstCells i.size 0 y').run E.P w' = .ok #[] w' := by
      intro w' _
      cases hy <;> first | (simp [lenS] at hn; done) | simp [Builtin.firstCells, loadCells, loadCellsFrom]
    cases hx with
    | sl0 =>
      refine ⟨.slice none 0 0, w, m, ?_, .sl0, m.le_refl, r, Ghost.refl _ _⟩
      simp [Builtin.append_, run_underlying hu, run_underlying hux, sizeOf, typeInfo, hi, hylen, h1 w rfl]
    | sl hm hle hc =>
      refine ⟨_, w, m, ?_, .sl hm hle hc, m.le_refl, r, Ghost.refl _ _⟩
      simp [Builtin.append_, run_underlying hu, run_underlying hux, sizeOf, typeInfo, hi, hylen, h1 w rfl, hle, storeCells]
    | @slz b o _ a' p hp hc =>
      refine ⟨.slice (some a') 0 0, w, m, ?_, .slz hp hc, m.le_refl, r, Ghost.refl _ _⟩
      simp [Builtin.append_, run_underlying hu, run_underlying hux, sizeOf, typeInfo, hi, hylen, h1 w rfl, storeCells]
  rename_i hn0
  simp at hn0
  split at hs
  case isFalse => cases hs
  rename_i hbytes
  simp only [Bool.and_eq_true, Nat.ble_eq, Nat.blt_eq] at hbytes
  obtain ⟨hbytes, hbpos⟩ := hbytes
  split at hs
  case h_2 => cases hs
  rename_i new old hnew hold
  split at hs
  case isFalse => cases hs
  rename_i hok
  simp only [Bool.and_eq_true] at hok
  obtain ⟨hone, hpf0⟩ := hok
  have hpf : pf = true → (old ++ new).all sc = true := mayPf hpf0
  obtain ⟨new', hln, hnl, hf⟩ := seen_run r hy hnew hylz
  obtain ⟨old', hlo, hol, ho⟩ := seen_run r hx hold (fun p c e => by cases e; rfl)
  have key : ∀ (p : Option Addr) (cap' : Nat), x' = .slice p len cap' → cap' < len + n → ∀ (h1 : SHeap) (older : List Nat), Rel E m h1 w → Ghost m h m h1 → h1.length = h.length → (∀ c ∈ older, ∃ x, m.at c = some x) →
      DoesV E m h (Builtin.append_ #[ts, tx] ty #[x', y']) w (.slice (some ⟨h.length, 0, none⟩) (len + n) (UNK + i.size)) (h1 ++ [.cells (old ++ new) e pf 0 older]) := by
    intro p cap' hx' hno h1 older r1 hg hl hold2
    subst hx'
    exact append_new r hu hux hi hz hzs hylen hlo hln hol hnl hf ho hno hbytes hbpos hpf r1 hg hl hold2
  cases hx with
  | sl0 =>
    simp only at hs
    cases hs
    exact key _ _ rfl (by omega) h [] r (Ghost.refl _ _) rfl (fun c hc => by cases hc)
  | @slz b o _ a' p hp hc =>
    simp only at hs
    split at hs
    · split at hs
      case h_2 => cases hs
      rename_i cs el' pf' own older hb
      split at hs
      case isFalse => cases hs
      rename_i hcond
      simp only [Bool.and_eq_true, beq_iff_eq, Nat.beq_eq] at hcond
      obtain ⟨⟨⟨rfl, rfl⟩, rfl⟩, rfl⟩ := hcond
      have holder : ∀ c ∈ b :: older, ∃ x, m.at c = some x := by
        intro c hc2
        rcases List.mem_cons.1 hc2 with rfl | hc2
        · exact ⟨p, hp⟩
        · rcases r.obj _ _ _ _ hb hp with h2 | ⟨_, _, _, _, _, _, _, h5⟩
          · cases h2
          · exact h5 c hc2
      split at hs
      · cases hs
        exact key _ _ rfl (by omega) _ _ (r.share hb) (Ghost.share hp) (share_len _ _) holder
      · cases hs
        exact key _ _ rfl (by omega) _ _ (r.killed_all _) (Ghost.killAll holder) (killAll_len _ _) (fun c hc => by cases hc)
    · rename_i hunk
      have hc0 : cap = 0 := by
        rcases hc with h0 | h0
        · exact h0
        · exact absurd (Nat.ble_eq ▸ h0 : Nat.ble UNK cap = true) hunk
      subst hc0
      split at hs
      · rename_i h0
        simp at h0; omega
      · cases hs
        exact key _ _ rfl (by omega) h [] r (Ghost.refl _ _) rfl (fun c hc => by cases hc)
  | @sl b o A δ _ _ cap' hm hle hc =>
    simp only at hs
    split at hs
    · rename_i hunk
      simp only [Nat.ble_eq] at hunk
      split at hs
      case h_2 => cases hs
      rename_i cs el' pf' own older hb
      split at hs
      case isFalse => cases hs
      rename_i hcond
      simp only [Bool.and_eq_true, beq_iff_eq, Nat.beq_eq] at hcond
      obtain ⟨⟨⟨rfl, rfl⟩, rfl⟩, rfl⟩ := hcond
      rcases r.obj _ _ _ _ hb hm with h2 | ⟨rcs, rel, fr, hw, h2, h3, h4, h5⟩
      · cases h2
      obtain ⟨rfl, rfl⟩ := h3.resolve_left (by omega)
      have hB : E.B ≤ A := r.base _ _ _ _ hb hm rfl rfl
      have hAl : A < w.heap.size := r.lt _ _ _ hm
      have holder : ∀ c ∈ b :: older, ∃ x, m.at c = some x := by
        intro c hc2
        rcases List.mem_cons.1 hc2 with rfl | hc2
        · exact ⟨_, hm⟩
        · exact h5 c hc2
      by_cases hroom : len + n ≤ cap'
      · -- in place
        obtain ⟨K, s, hK, hs1, hs2⟩ : ∃ K s, m.cp b = some (K, s) ∧ UNK + i.size = UNK + s ∧ o + cap' * s ≤ K := by
          rcases hc with ⟨_, h9⟩ | ⟨_, h9⟩
          · omega
          · exact h9
        have hs3 : s = i.size := by omega
        subst hs3
        obtain ⟨rcs2, rel2, fr2, hw2, hKs⟩ := r.cap _ _ _ _ _ hm hK
        rw [hw] at hw2; cases hw2
        have hmul : len * i.size + n * i.size ≤ cap' * i.size := by rw [← Nat.add_mul]; exact Nat.mul_le_mul_right _ hroom
        have hfit : δ + o + len * i.size + new'.length ≤ rcs.size := by rw [hnl]; omega
        have hrun := append_room (P := E.P) (ty := ty) hu hux hi (w := w) (A := A) (o := δ + o) (len := len) (cap := cap') hylen (hf w rfl) hroom
          (fun j hj => by rw [cell?_of hw]; have : δ + o + len * i.size + j < rcs.size := by omega
                          simp [this]) (fun j hj => by unfold World.frozen?; simp [hw])
          (fun v hv => by
            obtain ⟨j, hj⟩ := List.getElem?_of_mem hv
            obtain ⟨u, hu2, hr2⟩ := hln.get' hj
            obtain ⟨ha, hb2⟩ := hr2.oneC (mem_of_all hone hu2)
            cases v <;> first | rfl | (exact absurd rfl (ha _)) | (exact absurd rfl (hb2 _)))
        have hAt : (w.setCells A (δ + o + len * i.size) new').heap[A]? = some (.cells (writeA rcs (δ + o + len * i.size) new') rel (0, 0)) := by
          rw [← wsetL_eq]; exact wsetL_at w A _ new' hw
        have holdl : old.length = len * i.size := by rw [hlo.1, hol]
        have holdg : ∀ (j : Nat) (u : Value), old[j]? = some u → cs[o + j]? = some u := by
          intro j u hj
          unfold seenS at hold
          simp only at hold
          split at hold
          · cases hold; simp at hj
          · unfold Sh.rdN at hold
            rw [hb] at hold
            simp only at hold
            split at hold
            · cases hold
              rw [List.getElem?_take] at hj
              split at hj
              · rwa [List.getElem?_drop] at hj
              · cases hj
            · cases hold
        have hcells : ∀ (m' : Mp), m.le m' → ∀ (j : Nat) (u : Value), (old ++ new)[j]? = some u → ∃ y, (writeA rcs (δ + o + len * i.size) new')[δ + o + j]? = some y ∧ VR m' u y := by
          intro m' hmm j u hj
          rw [writeA_get rcs _ new' hfit]
          by_cases hjl : j < old.length
          · rw [List.getElem?_append_left hjl] at hj
            rw [if_neg (by omega)]
            obtain ⟨y, hy1, hy2⟩ := h2 _ _ (holdg j u hj)
            exact ⟨y, by rw [Nat.add_assoc]; exact hy1, hy2.mono hmm⟩
          · rw [List.getElem?_append_right (by omega)] at hj
            have hjn : j - old.length < new.length := (List.getElem?_eq_some_iff.1 hj).1
            have := hln.1
            rw [if_pos (by omega)]
            obtain ⟨y, hy1, hy2⟩ := hln.get hj
            exact ⟨y, by rw [show δ + o + j - (δ + o + len * i.size) = j - old.length by omega]; exact hy1, hy2.mono hmm⟩
        have hszl : (w.setCells A (δ + o + len * i.size) new').heap.size = w.heap.size := by rw [← wsetL_eq]; exact wsetL_size _ _ _ _
        have hval : ∀ m' : Mp, m' = m ++ [some ((A, δ + o), some (K - o, i.size))] → VR m' (.slice (some ⟨h.length, 0, none⟩) (len + n) (UNK + i.size)) (.slice (some ⟨A, δ + o, none⟩) (len + n) cap') := by
          intro m' hm'
          subst hm'
          refine .sl (A := A) (δ := δ + o) ?_ hroom (.inr ⟨by omega, K - o, i.size, ?_, rfl, by omega⟩)
          · rw [← r.len, Mp.at_snoc]; rfl
          · rw [← r.len, Mp.cp_snoc]; rfl
        have hcsz : szOf E.P rel = some i.size := szOf_info hi
        split at hs
        · rename_i hend
          have hend : o + len * i.size = cs.length := Nat.eq_of_beq_eq_true hend
          cases hs
          have rs := (r.share hb).above (m := m) hw hB hfit (fun c o2 δ2 hc2 hmc hl2 => by
            rw [share_get'] at hc2
            split at hc2
            · rename_i e2; subst e2; rw [hb] at hc2; cases hc2
              rw [hm] at hmc; cases hmc
              exact ⟨_, _, _, _, _, rfl, by omega⟩
            · rename_i e2
              obtain ⟨_, cs2, el2, pf2, old2, rfl, h4⟩ := r.others hb hm (fun k => e2 k.symm) hc2 hmc hl2
              exact ⟨_, _, _, _, _, rfl, by omega⟩)
          refine ⟨_, _, _, hrun, hval _ rfl, Mp.le_append _ _, Rel.alias (old := b :: older) rs ?_ hB (by rw [hszl]; exact hAl) ?_ ?_, (Ghost.share hm).trans (Ghost.push rs.len)⟩
          · exact .inr ⟨_, _, _, hAt, hcells _ (Mp.le_append _ _), .inr ⟨rfl, rfl⟩, hpf, fun c hc2 => let ⟨x, hx⟩ := holder c hc2; ⟨x, Mp.le_at (Mp.le_append _ _) hx⟩⟩
          · intro K2 s2 e2
            cases e2
            exact ⟨⟨_, _, _, hAt, by rw [writeA_size]; omega⟩, hcsz⟩
          · intro c o2 δ2 hc2 hmc hl2
            rw [share_get'] at hc2
            split at hc2
            · rename_i e2; subst e2; rw [hb] at hc2; cases hc2
              rw [hm] at hmc; cases hmc
              exact ⟨_, _, _, _, rfl, List.mem_cons_self, by simp; omega⟩
            · rename_i e2
              obtain ⟨h7, cs2, el2, pf2, old2, rfl, h4⟩ := r.others hb hm (fun k => e2 k.symm) hc2 hmc hl2
              exact ⟨_, _, _, _, rfl, List.mem_cons_of_mem _ h7, by simp; omega⟩
        · cases hs
          have dead : ∀ (c : Nat) (o2 : SO) (δ2 : Nat), (killAll h (b :: older))[c]? = some o2 → m.at c = some (A, δ2) → live o2 = true → False := by
            intro c o2 δ2 hc2 hmc hl2
            rw [killAll_get] at hc2
            split at hc2
            · rename_i hmem
              cases hh : h[c]? with
              | none => rw [hh] at hc2; cases hc2
              | some o3 =>
                rw [hh] at hc2; cases hc2
                have l3 := live_killed o3 hl2
                rcases List.mem_cons.1 hmem with rfl | hmem
                · rw [hb] at hh; cases hh; simp [killed, live] at hl2
                · have hne : c ≠ b := by
                    rintro rfl
                    rw [hb] at hh; cases hh; simp [killed, live] at hl2
                  obtain ⟨_, cs2, el2, pf2, old2, rfl, _⟩ := r.others hb hm hne hh hmc l3
                  simp [killed, live] at hl2
            · rename_i hmem
              have hne : c ≠ b := by rintro rfl; exact hmem List.mem_cons_self
              exact hmem (List.mem_cons_of_mem _ (r.others hb hm hne hc2 hmc hl2).1)
          have rs := (r.killed_all (b :: older)).above (m := m) hw hB hfit (fun c o2 δ2 hc2 hmc hl2 => (dead c o2 δ2 hc2 hmc hl2).elim)
          refine ⟨_, _, _, hrun, hval _ rfl, Mp.le_append _ _, Rel.alias rs ?_ hB (by rw [hszl]; exact hAl) ?_ ?_, (Ghost.killAll holder).trans (Ghost.push rs.len)⟩
          · exact .inr ⟨_, _, _, hAt, hcells _ (Mp.le_append _ _), .inr ⟨rfl, rfl⟩, hpf, fun c hc2 => by cases hc2⟩
          · intro K2 s2 e2
            cases e2
            exact ⟨⟨_, _, _, hAt, by rw [writeA_size]; omega⟩, hcsz⟩
          · intro c o2 δ2 hc2 hmc hl2
            exact (dead c o2 δ2 hc2 hmc hl2).elim
      · split at hs
        · cases hs
          exact key _ _ rfl (by omega) _ _ (r.share hb) (Ghost.share hm) (share_len _ _) holder
        · cases hs
          exact key _ _ rfl (by omega) _ _ (r.killed_all _) (Ghost.killAll holder) (killAll_len _ _) (fun c hc => by cases hc)
    · rename_i hunk
      have hcu : cap = cap' := by
        rcases hc with ⟨h0, _⟩ | ⟨h0, _⟩
        · exact h0
        · exact absurd (Nat.ble_eq ▸ h0 : Nat.ble UNK cap = true) hunk
      subst hcu
      split at hs
      · rename_i hroom
        simp only [Nat.ble_eq] at hroom
        split at hs
        case h_2 => cases hs
        rename_i h2 d2 hst
        cases hs
        obtain ⟨r2, k1, k2, k3, k4, k5⟩ := r.store hst hm hln
        have e1 : δ + (o + len * i.size) = δ + o + len * i.size := by omega
        rw [e1] at r2 k1 k2
        refine ⟨_, _, m, append_room hu hux hi hylen (hf w rfl) hroom k1 k2 k3, .sl hm hroom hc, m.le_refl, r2, k4⟩
      · rename_i hroom
        simp only [Nat.ble_eq] at hroom
        cases hs
        exact key _ _ rfl (by omega) h [] r (Ghost.refl _ _) rfl (fun c hc => by cases hc)
theorem sim_append {E : Env} {h h' : SHeap} {d d' : List Nat} {w : World} (r : Rel E m h w) (ht : TR nt m t a.tmps) {ts tx ty e ex : TypeId} {i : TypeInfo} {z : Value} (hu : E.P.underlying ts = some (.slice e)) (hux : E.P.underlying tx = some (.slice ex)) (hi : E.P.info? e = some i) (hz : i.zero = some z) (hzs : z.cells.size = i.size) (hsp : 0 < i.size)
    {cx : Cx} {pf : Bool} {x y : Operand} (hx : okO x = true) (hy : okO y = true) {v : Value} (hs : o_append cx e pf i.size i.bytes x y t h d = some (v, h', d')) :
    Does E m h (do pure (Next.value (← Builtin.append_ #[ts, tx] ty #[a.eval x, a.eval y]))) w v h' := by
  unfold o_append at hs
  split at hs
  · rename_i u v h1 h2
    exact (append_val r hu hux hi hz hzs hsp (ev_sim ht hx h1) (ev_sim ht hy h2) hs).does
  · cases hs
end
end Go.Proofs.Ytioijehbmgmgkaa.Sh

namespace Go.Proofs.Ytioijehbmgmgkaa.Sh
open Go Go.RowKit
section
variable {P : Program} {nt : Nat} {m : Mp} {t : T} {a : Act}
theorem sim_len {E : Env} {h h' : SHeap} {d d' : List Nat} {w : World} (r : Rel E m h w) (ht : TR nt m t a.tmps) {ty rt e : TypeId} {x : Operand} (hu : E.P.underlying ty = some (.slice e)) (hx : okO x = true) {v : Value} (hs : o_len x t h d = some (v, h', d')) :
    Does E m h (do pure (Next.value (← Builtin.len_ #[ty] rt #[a.eval x]))) w v h' := by
  unfold o_len at hs
  split at hs
  · rename_i p n c h1
    cases hs
    have hv := ev_sim ht hx h1
    obtain ⟨p', c', hp⟩ : ∃ p' c', a.eval x = .slice p' n c' := by
      generalize a.eval x = xv at hv ⊢
      cases hv <;> exact ⟨_, _, rfl⟩
    refine Does.pure r (run_v (v := .int .i64 n) ?_) (.int _ _)
    rw [hp]
    simp [Builtin.len_, run_underlying hu, goInt]
  · cases hs
theorem sim_lenArr {E : Env} {h : SHeap} {w : World} (r : Rel E m h w) {ty rt e : TypeId} {n : Nat} {x : Value} (hu : E.P.underlying ty = some (.array n e)) :
    Does E m h (do pure (Next.value (← Builtin.len_ #[ty] rt #[x]))) w (.int .i64 n) h := by
  refine Does.pure r (run_v (v := .int .i64 n) ?_) (.int _ _)
  simp [Builtin.len_, run_underlying hu, goInt]
theorem sim_lenPtr {E : Env} {h : SHeap} {w : World} (r : Rel E m h w) {ty rt e arr : TypeId} {n : Nat} {x : Value} (hu : E.P.underlying ty = some (.pointer arr)) (hu2 : E.P.underlying arr = some (.array n e)) :
    Does E m h (do pure (Next.value (← Builtin.len_ #[ty] rt #[x]))) w (.int .i64 n) h := by
  refine Does.pure r (run_v (v := .int .i64 n) ?_) (.int _ _)
  simp [Builtin.len_, run_underlying hu, run_underlying hu2, goInt]
theorem max_fold {w : World} : ∀ (l l' : List Value) (x x' v : Value), LR m l l' → VR m x x' → foldV max2S x l = some v → VR m v v ∧ (l'.foldlM Builtin.max2 x').run P w = .ok v w ∨ (l = [] ∧ l' = [] ∧ v = x) := by
  intro l
  induction l with
  | nil => intro l' x x' v hl hx hf; cases hf; exact .inr ⟨rfl, hl.nil_inv, rfl⟩
  | cons y r ih =>
    intro l' x x' v hl hx hf
    obtain ⟨y', r', rfl, hy, hr⟩ := hl.cons_inv
    unfold foldV at hf
    split at hf
    case h_2 => cases hf
    rename_i z hz
    unfold max2S at hz
    split at hz
    case h_2 => cases hz
    rename_i k u k' u'
    cases hz
    have e1 := hx.int_inv
    have e2 := hy.int_inv
    subst e1 e2
    left
    have := ih r' _ _ v hr (VR.int k (if u' > u then u' else u)) hf
    rcases this with ⟨h1, h2⟩ | ⟨rfl, rfl, rfl⟩
    · exact ⟨h1, by simp [List.foldlM_cons, Builtin.max2, h2]⟩
    · exact ⟨.int _ _, by simp [List.foldlM_cons, Builtin.max2]⟩
theorem min_fold {w : World} : ∀ (l l' : List Value) (x x' v : Value), LR m l l' → VR m x x' → foldV min2S x l = some v → VR m v v ∧ (l'.foldlM Builtin.min2 x').run P w = .ok v w ∨ (l = [] ∧ l' = [] ∧ v = x) := by
  intro l
  induction l with
  | nil => intro l' x x' v hl hx hf; cases hf; exact .inr ⟨rfl, hl.nil_inv, rfl⟩
  | cons y r ih =>
    intro l' x x' v hl hx hf
    obtain ⟨y', r', rfl, hy, hr⟩ := hl.cons_inv
    unfold foldV at hf
    split at hf
    case h_2 => cases hf
    rename_i z hz
    unfold min2S at hz
    split at hz
    case h_2 => cases hz
    rename_i k u k' u'
    cases hz
    have e1 := hx.int_inv
    have e2 := hy.int_inv
    subst e1 e2
    left
    have := ih r' _ _ v hr (VR.int k (if u' < u then u' else u)) hf
    rcases this with ⟨h1, h2⟩ | ⟨rfl, rfl, rfl⟩
    · exact ⟨h1, by simp [List.foldlM_cons, Builtin.min2, h2]⟩
    · exact ⟨.int _ _, by simp [List.foldlM_cons, Builtin.min2]⟩
theorem sim_maxi {E : Env} {h h' : SHeap} {d d' : List Nat} {w : World} (r : Rel E m h w) (ht : TR nt m t a.tmps) {tys : Array TypeId} {rt : TypeId} {xs : List Operand} (hx : xs.all okO = true) {v : Value} (hs : o_maxi xs t h d = some (v, h', d')) {args : Array Value} (ha : args.toList = xs.map a.eval) :
    Does E m h (do pure (Next.value (← Builtin.max_ tys rt args))) w v h' := by
  unfold o_maxi at hs
  split at hs
  case h_2 => cases hs
  rename_i l hl
  obtain ⟨h1, rfl, rfl⟩ := same_some hs
  have hr := evs_sim ht hx hl
  rw [← ha] at hr
  unfold foldS at h1
  split at h1
  case h_1 => cases h1
  rename_i x rest
  obtain ⟨x', r', he, hv, hr⟩ := hr.cons_inv
  rcases max_fold (P := E.P) (w := w) rest r' x x' v hr hv h1 with ⟨h2, h3⟩ | ⟨rfl, rfl, rfl⟩
  · exact Does.pure r (run_v (v := v) (by unfold Builtin.max_; rw [he]; exact h3)) h2
  · exact Does.pure r (run_v (v := x') (by unfold Builtin.max_; rw [he]; simp)) hv
theorem sim_mini {E : Env} {h h' : SHeap} {d d' : List Nat} {w : World} (r : Rel E m h w) (ht : TR nt m t a.tmps) {tys : Array TypeId} {rt : TypeId} {xs : List Operand} (hx : xs.all okO = true) {v : Value} (hs : o_mini xs t h d = some (v, h', d')) {args : Array Value} (ha : args.toList = xs.map a.eval) :
    Does E m h (do pure (Next.value (← Builtin.min_ tys rt args))) w v h' := by
  unfold o_mini at hs
  split at hs
  case h_2 => cases hs
  rename_i l hl
  obtain ⟨h1, rfl, rfl⟩ := same_some hs
  have hr := evs_sim ht hx hl
  rw [← ha] at hr
  unfold foldS at h1
  split at h1
  case h_1 => cases h1
  rename_i x rest
  obtain ⟨x', r', he, hv, hr⟩ := hr.cons_inv
  rcases min_fold (P := E.P) (w := w) rest r' x x' v hr hv h1 with ⟨h2, h3⟩ | ⟨rfl, rfl, rfl⟩
  · exact Does.pure r (run_v (v := v) (by unfold Builtin.min_; rw [he]; exact h3)) h2
  · exact Does.pure r (run_v (v := x') (by unfold Builtin.min_; rw [he]; simp)) hv
theorem LR.writeAt {l l' vs vs' : List Value} (h : LR m l l') (hv : LR m vs vs') (o : Nat) : LR m (writeAt l o vs) (writeAt l' o vs') := by
  induction vs generalizing l l' o vs' with
  | nil => rw [hv.nil_inv]; exact h
  | cons v vs ih =>
    obtain ⟨v', r', rfl, h1, h2⟩ := hv.cons_inv
    exact ih (h.set o h1) h2 (o + 1)
theorem fold_writeAt (off : Nat) : ∀ (vs : List Value) (k : Nat) (cs : Array Value),
    ((vs.zipIdx k).foldl (fun cs (cj : Value × Nat) => cs.setIfInBounds (off + cj.2) cj.1) cs).toList = writeAt cs.toList (off + k) vs := by
  intro vs
  induction vs with
  | nil => intro k cs; rfl
  | cons v vs ih =>
    intro k cs
    rw [List.zipIdx_cons, List.foldl_cons, ih]
    simp [Sh.writeAt, Nat.add_assoc]
theorem fill_sim {place : Nat → Option (Nat × Nat)} {parts : List (Nat × Operand)} {l : List (Nat × Nat × Operand)} (hc : compParts place parts = some l) (ht : TR nt m t a.tmps) :
    ∀ {ps : List (Nat × Nat × Value)} (_ : evp t l = some ps) {cs : List Value} {cs' : Array Value} (_ : LR m cs cs'.toList) {out : List Value} (_ : fillS cs ps = some out),
      ∃ out', Instr.fill place cs' (parts.map fun p => (p.1, a.eval p.2)) = some out' ∧ LR m out out'.toList := by
  induction parts generalizing l with
  | nil =>
    intro ps hp cs cs' hl out ho
    cases hc; cases hp; cases ho
    exact ⟨_, rfl, hl⟩
  | cons p r ih =>
    intro ps hp cs cs' hl out ho
    obtain ⟨i, x⟩ := p
    unfold compParts at hc
    split at hc
    case h_2 => cases hc
    rename_i o s l2 hpl hrest
    split at hc
    case isFalse => cases hc
    rename_i hok
    cases hc
    unfold evp at hp
    split at hp
    case h_2 => cases hp
    rename_i v vs hv hvs
    cases hp
    unfold fillS at ho
    simp only at ho
    split at ho
    case isFalse => cases ho
    rename_i hsz
    simp only [Bool.and_eq_true, beq_iff_eq, Nat.ble_eq] at hsz
    have hx := ev_sim ht hok hv
    have hcl := hx.cells
    have hlen : (a.eval x).cells.size = s := by rw [← hsz.1, hcl.1]; simp
    have hcs : cs'.size = cs.length := by have := hl.1; simp at this; omega
    obtain ⟨out', h1, h2⟩ := ih hrest hvs (cs' := (a.eval x).cells.zipIdx.foldl (fun cs (c, j) => cs.setIfInBounds (o + j) c) cs') (by
      have hfw := fold_writeAt o (a.eval x).cells.toList 0 cs'
      rw [← Array.foldl_toList, Array.toList_zipIdx]
      rw [show (fun (cs : Array Value) (x : Value × Nat) => match x with | (c, j) => cs.setIfInBounds (o + j) c) = (fun cs (cj : Value × Nat) => cs.setIfInBounds (o + cj.2) cj.1) from rfl]
      rw [hfw]
      exact hl.writeAt hcl o) ho
    refine ⟨out', ?_, h2⟩
    simp only [List.map_cons, Instr.fill, hpl]
    rw [if_neg (by simp; omega)]
    exact h1
theorem sz_info {P : Program} {e : TypeId} {n : Nat} (h : szOf P e = some n) : ∃ i, P.info? e = some i ∧ i.size = n := by
  unfold szOf at h
  cases hi : P.info? e with
  | none => rw [hi] at h; cases h
  | some i => rw [hi] at h; cases h; exact ⟨i, rfl, rfl⟩
theorem zero_info {P : Program} {e : TypeId} {z : List Value} (h : zeroOf P e = some z) : ∃ i v, P.info? e = some i ∧ i.zero = some v ∧ plainC v = true ∧ z = cellsL v := by
  unfold zeroOf at h
  split at h
  · rename_i v hv
    split at h
    · rename_i hp
      cases h
      cases hi : P.info? e with
      | none => rw [hi] at hv; cases hv
      | some i => rw [hi] at hv; exact ⟨i, v, rfl, hv, hp, rfl⟩
    · cases h
  · cases h
theorem places_of {P : Program} : ∀ (fs : List Field), fs.all (fun (f : Field) => (szOf P f.type).isSome) = true →
    ∃ places, fs.mapM (fun (f : Field) => (P.info? f.type).map fun i => (f.offset, i.size)) = some places ∧ ∀ (i : Nat), places[i]? = match fs[i]? with | some (f : Field) => (szOf P f.type).map fun s => (f.offset, s) | none => none := by
  intro fs
  induction fs with
  | nil => intro _; exact ⟨[], rfl, fun i => by simp⟩
  | cons f fs ih =>
    intro h
    simp only [List.all_cons, Bool.and_eq_true] at h
    obtain ⟨pl, h1, h2⟩ := ih h.2
    obtain ⟨s, hs⟩ := Option.isSome_iff_exists.1 h.1
    obtain ⟨i, hi, rfl⟩ := sz_info hs
    refine ⟨(f.offset, i.size) :: pl, ?_, fun j => ?_⟩
    · simp [List.mapM_cons, hi, h1]
    · cases j with
      | zero => simp [hs]
      | succ j => simpa using h2 j
theorem sim_buildStruct {E : Env} {h h' : SHeap} {d d' : List Nat} {w : World} (r : Rel E m h w) (ht : TR nt m t a.tmps) {ty : TypeId} {fs : Array Field} {z : List Value} {parts : Array (Nat × Operand)} {l : List (Nat × Nat × Operand)}
    (hu : E.P.underlying ty = some (.struct fs)) (hz : zeroOf E.P ty = some z) (hf : fs.toList.all (fun f => (szOf E.P f.type).isSome) = true) (hc : compParts (fieldPlaces E.P fs) parts.toList = some l)
    {v : Value} (hs : o_build z l t h d = some (v, h', d')) : Does E m h (do pure (Next.value (← Instr.build ty (parts.map fun (i, x) => (i, a.eval x))))) w v h' := by
  unfold o_build at hs
  split at hs
  case h_2 => cases hs
  rename_i ps hps
  split at hs
  case h_2 => cases hs
  rename_i out hout
  cases hs
  obtain ⟨i, zv, hi, hiz, hpl, rfl⟩ := zero_info hz
  obtain ⟨pl, h1, h2⟩ := places_of _ hf
  obtain ⟨out', h3, h4⟩ := fill_sim hc ht hps (cs' := zv.cells) (VR.plain hpl).cells hout
  refine Does.pure r (run_v (v := .agg out') (run_build w ty _ out' ?_)) (VR.agg (by simpa using h4.1) (by simpa using h4.2))
  unfold Program.built
  simp only [hi, hu, hiz, h1]
  have : (fun x => pl.toArray[x]?) = fieldPlaces E.P fs := by
    funext j
    simp only [List.getElem?_toArray, h2 j, Array.getElem?_toList]
    rfl
  rw [this]
  simpa using h3
theorem sim_buildArr {E : Env} {h h' : SHeap} {d d' : List Nat} {w : World} (r : Rel E m h w) (ht : TR nt m t a.tmps) {ty e : TypeId} {n s : Nat} {z : List Value} {parts : Array (Nat × Operand)} {l : List (Nat × Nat × Operand)}
    (hu : E.P.underlying ty = some (.array n e)) (hz : zeroOf E.P ty = some z) (hsz : szOf E.P e = some s) (hc : compParts (fun i => some (i * s, s)) parts.toList = some l)
    {v : Value} (hs : o_build z l t h d = some (v, h', d')) : Does E m h (do pure (Next.value (← Instr.build ty (parts.map fun (i, x) => (i, a.eval x))))) w v h' := by
  unfold o_build at hs
  split at hs
  case h_2 => cases hs
  rename_i ps hps
  split at hs
  case h_2 => cases hs
  rename_i out hout
  cases hs
  obtain ⟨i, zv, hi, hiz, hpl, rfl⟩ := zero_info hz
  obtain ⟨ie, hie, rfl⟩ := sz_info hsz
  obtain ⟨out', h3, h4⟩ := fill_sim hc ht hps (cs' := zv.cells) (VR.plain hpl).cells hout
  refine Does.pure r (run_v (v := .agg out') (run_build w ty _ out' ?_)) (VR.agg (by simpa using h4.1) (by simpa using h4.2))
  unfold Program.built
  simp only [hi, hu, hiz, hie]
  simpa using h3
end
end Go.Proofs.Ytioijehbmgmgkaa.Sh

namespace Go.Proofs.Ytioijehbmgmgkaa.Sh
open Go Go.RowKit
section
variable {P : Program} {nt : Nat} {m : Mp} {t : T} {a : Act}
def MadeBy (P : Program) (m : Mp) (s : Sem Value) (cs : List Value) (el : TypeId) (mk : Nat → Value) : Prop :=
  ∃ (cs' : List Value) (mk' : Nat → Value), LR m cs cs' ∧ (∀ w, s.run P w = .ok (mk' w.heap.size) (w.alloc (.cells cs'.toArray el))) ∧ ∀ (m' : Mp) (b A : Nat), m'.at b = some (A, 0) → VR m' (mk b) (mk' A)
theorem newS_some {h h' : SHeap} {sl : Option Nat} {cs : List Value} {el : TypeId} {pf : Bool} {b : Nat} (hs : newS h sl cs el pf = some (b, h')) :
    (pf = true → cs.all sc = true) ∧ ((sl = none ∧ b = h.length ∧ h' = h ++ [.cells cs el pf 0 []]) ∨ (sl = some b ∧ h[b]? = some .gone ∧ h' = h.set b (.cells cs el pf 0 []))) := by
  unfold newS at hs
  split at hs
  case isFalse => cases hs
  rename_i hp
  refine ⟨fun e => by subst e; simpa using hp, ?_⟩
  split at hs
  · cases hs; exact .inl ⟨rfl, rfl, rfl⟩
  · split at hs
    · rename_i hb; cases hs; exact .inr ⟨rfl, hb, rfl⟩
    · cases hs
theorem MadeBy.push {E : Env} {h : SHeap} {w : World} (r : Rel E m h w) {s : Sem Value} {cs : List Value} {el : TypeId} {mk : Nat → Value} (k : MadeBy E.P m s cs el mk) {pf : Bool} (hp : pf = true → cs.all sc = true) :
    DoesV E m h s w (mk h.length) (h ++ [.cells cs el pf 0 []]) := by
  obtain ⟨cs', mk', h1, h2, h3⟩ := k
  refine ⟨_, _, m ++ [some ((w.heap.size, 0), none)], h2 w, h3 _ _ _ (by rw [← r.len, Mp.at_snoc]; rfl), Mp.le_append _ _, ?_, Ghost.push r.len⟩
  refine Rel.push (o := .cells cs el pf 0 []) (ob := .cells cs'.toArray el) r rfl none (fun w' hw' => ?_) (fun K s e => by cases e)
  exact or_cells (cs' := cs') hw' (h1.mono (Mp.le_append _ _)) (fun i y hy => by simpa using hy) hp (fun c hc => by cases hc)
theorem MadeBy.place {E : Env} {h : SHeap} {w : World} (r : Rel E m h w) {s : Sem Value} {cs : List Value} {el : TypeId} {mk : Nat → Value} (k : MadeBy E.P m s cs el mk) {pf : Bool} (hp : pf = true → cs.all sc = true)
    {b : Nat} (hm : m.at b = none) (hb : h[b]? = some (.cells cs el pf 0 [])) :
    ∃ v' w' m', s.run E.P w = .ok v' w' ∧ VR m' (mk b) v' ∧ m.le m' ∧ Rel E m' h w' ∧ ∀ c, c ≠ b → m'.at c = m.at c := by
  obtain ⟨cs', mk', h1, h2, h3⟩ := k
  have hlt : b < h.length := (List.getElem?_eq_some_iff.1 hb).1
  have hltm : b < m.length := by rw [r.len]; exact hlt
  have hset : h.set b (.cells cs el pf 0 []) = h := by
    apply List.ext_getElem?
    intro i
    rw [List.getElem?_set]
    split
    · rename_i e; subst e; exact hb.symm
    · rfl
  refine ⟨_, _, m.set b (some ((w.heap.size, 0), none)), h2 w, h3 _ _ _ (by rw [Mp.at_set_same hltm]; rfl), Mp.le_set hm, ?_, fun c hc => Mp.at_set_ne (fun e => hc e.symm)⟩
  have := Rel.place (o := .cells cs el pf 0 []) (ob := .cells cs'.toArray el) r hm hlt rfl (fun w' hw' => or_cells (cs' := cs') hw' (h1.mono (Mp.le_set hm)) (fun i y hy => by simpa using hy) hp (fun c hc => by cases hc))
  rw [hset] at this
  exact this
def opMade (o : SOp) (t : T) : Option (List Value × TypeId × Bool × (Nat → Value)) :=
  match o with
  | .alloc el pf zero => some (zero, el, pf, fun b => .pointer (some ⟨b, 0, none⟩))
  | .box el pf x => match ev t x with
    | some v => some (cellsL v, el, pf, fun b => .pointer (some ⟨b, 0, none⟩))
    | none => none
  | .buildSlice el pf zero len parts => match evp t parts with
    | some ps => match fillS (repeatL zero len) ps with
      | some l => some (l, el, pf, fun b => .slice (some ⟨b, 0, none⟩) len len)
      | none => none
    | none => none
  | _ => none
theorem opMade_run {R : Rec} {cx : Cx} {sl : Option Nat} {o : SOp} {t : T} {h h' : SHeap} {d d' : List Nat} {v : Value} (hmk : makes o = true) (hs : opRun R cx sl o t h d = some (v, h', d')) :
    ∃ cs el pf mk b, opMade o t = some (cs, el, pf, mk) ∧ newS h sl cs el pf = some (b, h') ∧ v = mk b ∧ d' = d := by
  cases o <;> simp only [makes, Bool.false_eq_true] at hmk
  · simp only [opRun, o_alloc] at hs
    split at hs
    · rename_i b h2 hn; cases hs; exact ⟨_, _, _, _, b, rfl, hn, rfl, rfl⟩
    · cases hs
  · simp only [opRun, o_box] at hs
    split at hs
    · rename_i u hu
      split at hs
      · rename_i b h2 hn; cases hs; exact ⟨cellsL u, _, _, fun b => .pointer (some ⟨b, 0, none⟩), b, by simp only [opMade, hu], hn, rfl, rfl⟩
      · cases hs
    · cases hs
  · simp only [opRun, o_buildSlice] at hs
    split at hs
    · rename_i ps hps
      split at hs
      · rename_i l hl
        split at hs
        · rename_i b h2 hn; cases hs; exact ⟨l, _, _, fun b => .slice (some ⟨b, 0, none⟩) _ _, b, by simp only [opMade, hps, hl], hn, rfl, rfl⟩
        · cases hs
      · cases hs
    · cases hs
theorem run_zeroValue' {P : Program} {e : TypeId} {i : TypeInfo} {v : Value} (hi : P.info? e = some i) (hz : i.zero = some v) (w : World) : (zeroValue e).run P w = .ok v w := by
  simp [zeroValue, typeInfo, hi, hz]
theorem made_alloc {el : TypeId} {z : List Value} (hz : zeroOf P el = some z) : MadeBy P m (Instr.alloc el true (.tuple #[])) z el (fun b => .pointer (some ⟨b, 0, none⟩)) := by
  obtain ⟨i, v, hi, hv, hp, rfl⟩ := zero_info hz
  refine ⟨v.cells.toList, fun b => .pointer (some ⟨b, 0, none⟩), (VR.plain hp).cells, fun w => ?_, fun m' b A hb => .ptr hb⟩
  unfold Instr.alloc
  simp [run_zeroValue' hi hv, newVar, newRow]
theorem made_box {el : TypeId} (ht : TR nt m t a.tmps) {x : Operand} (hx : okO x = true) {v : Value} (hv : ev t x = some v) : MadeBy P m (Instr.box el (a.eval x)) (cellsL v) el (fun b => .pointer (some ⟨b, 0, none⟩)) := by
  refine ⟨(a.eval x).cells.toList, fun b => .pointer (some ⟨b, 0, none⟩), (ev_sim ht hx hv).cells, fun w => ?_, fun m' b A hb => .ptr hb⟩
  unfold Instr.box
  simp [newVar, newRow]
theorem repeatL_get (z : List Value) (n i : Nat) : (repeatL z n)[i]? = if i < n * z.length then z[i % z.length]? else none := by
  induction n generalizing i with
  | zero => simp [repeatL]
  | succ n ih =>
    rw [repeatL]
    by_cases hi : i < z.length
    · rw [List.getElem?_append_left hi, Nat.mod_eq_of_lt hi, if_pos (by rw [Nat.succ_mul]; omega)]
    · rw [List.getElem?_append_right (by omega), ih, Nat.succ_mul]
      by_cases h2 : i - z.length < n * z.length
      · rw [if_pos h2, if_pos (by omega)]
        congr 1
        have : i = i - z.length + z.length := by omega
        rw [this, Nat.add_mod_right]
        simp
      · rw [if_neg h2, if_neg (by omega)]
theorem LR.repeatL {z z' : List Value} (h : LR m z z') (n : Nat) : LR m (repeatL z n) (repeatL z' n) := by
  induction n with
  | zero => exact LR.nil m
  | succ n ih => exact h.append ih
theorem range_repeat (z : Array Value) (n : Nat) : ((Array.range (n * z.size)).map (fun i => z[i % z.size]!)).toList = repeatL z.toList n := by
  apply List.ext_getElem?
  intro i
  rw [repeatL_get]
  simp only [Array.toList_map, Array.toList_range, List.getElem?_map, Array.length_toList]
  by_cases hi : i < n * z.size
  · rw [if_pos hi, List.getElem?_range hi]
    have hpos : 0 < z.size := by
      rcases Nat.eq_zero_or_pos z.size with h0 | h0
      · rw [h0] at hi; simp at hi
      · exact h0
    have hm : i % z.size < z.size := Nat.mod_lt _ hpos
    simp [hm]
  · rw [if_neg hi, List.getElem?_eq_none (by simp; omega)]
    rfl
theorem made_buildSlice {ty e : TypeId} {s len : Nat} {z : List Value} (hu : P.underlying ty = some (.slice e)) (hsz : szOf P e = some s) (hz : zeroOf P e = some z) (hzl : z.length = s) (hsp : 0 < s) (hcap : len * s ≤ 16777216) (ht : TR nt m t a.tmps)
    {parts : Array (Nat × Operand)} {l : List (Nat × Nat × Operand)} (hc : compParts (fun i => some (i * s, s)) parts.toList = some l) {ps : List (Nat × Nat × Value)} (hps : evp t l = some ps) {out : List Value} (ho : fillS (repeatL z len) ps = some out) :
    MadeBy P m (Instr.buildSlice ty len (parts.map fun (i, x) => (i, a.eval x))) out e (fun b => .slice (some ⟨b, 0, none⟩) len len) := by
  obtain ⟨i, v, hi, hv, hp, rfl⟩ := zero_info hz
  obtain ⟨i2, hi2, rfl⟩ := sz_info hsz
  rw [hi] at hi2; cases hi2
  have hcl := (VR.plain (m := m) hp).cells
  have hvs : v.cells.size = i.size := by have := hcl.1; simp at this; omega
  have hlr : LR m (repeatL (cellsL v) len) ((Array.range (len * i.size)).map (fun j => v.cells[j % v.cells.size]!)).toList := by
    rw [← hvs, range_repeat]; exact hcl.repeatL len
  obtain ⟨out', h3, h4⟩ := fill_sim hc ht hps hlr ho
  refine ⟨out'.toList, fun b => .slice (some ⟨b, 0, none⟩) len len, h4, fun w => ?_, fun m' b A hb => ?_⟩
  · unfold Instr.buildSlice
    have hnot : ¬ (16777216 < len * i.size) := by omega
    by_cases h0 : len * i.size = 0
    · have hl0 : len = 0 := by
        rcases Nat.mul_eq_zero.1 h0 with h | h
        · exact h
        · omega
      subst hl0
      have hr0 : Array.range 0 = #[] := rfl
      simp [hr0] at h3
      simp [run_underlying hu, sizeOf, typeInfo, hi, h3, newRow, hr0]
    · have h0' : ¬ (len = 0 ∨ i.size = 0) := by
        intro h; apply h0; rcases h with h | h <;> simp [h]
      have h3' : Instr.fill (fun i_1 => some (i_1 * i.size, i.size)) (Array.map (fun j => v.cells[j % v.cells.size]!) (Array.range (len * i.size))) (List.map (fun p => (p.1, a.eval p.2)) parts.toList) = some out' := h3
      simp [run_underlying hu, sizeOf, typeInfo, hi, hnot, h0, zeroValue, hv, h3', newRow]
  · by_cases hl : len = 0
    · subst hl; exact .sl (δ := 0) hb (by omega) (.inl ⟨rfl, by decide⟩)
    · have : len ≤ len * i.size := Nat.le_mul_of_pos_right _ hsp
      exact .sl (δ := 0) hb (Nat.le_refl _) (.inl ⟨rfl, by unfold UNK; omega⟩)
theorem made_makeSlice {ty e : TypeId} {i : TypeInfo} {z : List Value} (hu : P.underlying ty = some (.slice e)) (hi : P.info? e = some i) (hz : zeroOf P e = some z) (hzl : z.length = i.size) (hsp : 0 < i.size) {k k' : IntKind} {l c : Int}
    (h0 : 0 ≤ l) (h1 : l ≤ c) (h2 : c ≤ 1073741824) (h3 : c.toNat * i.bytes ≤ 140737488355328) :
    MadeBy P m (Instr.makeSlice ty (.int k l) (.int k' c)) (repeatL z c.toNat) e (fun b => .slice (some ⟨b, 0, none⟩) l.toNat c.toNat) := by
  obtain ⟨i2, v, hi2, hv, hp, rfl⟩ := zero_info hz
  rw [hi] at hi2; cases hi2
  have hcl := (VR.plain (m := m) hp).cells
  have hvs : v.cells.size = i.size := by have := hcl.1; simp at this; omega
  have hw : IntKind.i64.wrap l = l := by rw [IntKind.wrap_i64]; omega
  have hw2 : IntKind.i64.wrap c = c := by rw [IntKind.wrap_i64]; omega
  refine ⟨(repeatL v.cells.toList c.toNat), fun b => .slice (some ⟨b, 0, none⟩) l.toNat c.toNat, hcl.repeatL _, fun w => ?_, fun m' b A hb => ?_⟩
  · unfold Instr.makeSlice
    have hb : (i.bytes : Int) * c ≤ 140737488355328 := by
      have : c = (c.toNat : Int) := by omega
      rw [this]
      have : (i.bytes : Int) * (c.toNat : Int) = ((c.toNat * i.bytes : Nat) : Int) := by push_cast; rw [Int.mul_comm]
      omega
    have hb1 : ¬ (281474976710656 < (i.bytes : Int) * c) := by omega
    have hc0 : ¬ (c < 0) := by omega
    have hl0 : ¬ (l < 0) := by omega
    have hlc : ¬ (c < l) := by omega
    have hrr := range_repeat v.cells c.toNat
    have e1 : asInt (.int k l) = pure l := by simp [asInt, asIntOf]
    have e2 : asInt (.int k' c) = pure c := by simp [asInt, asIntOf]
    rw [hvs] at hrr
    by_cases h00 : c.toNat * i.size = 0
    · have hl00 : c.toNat = 0 := by
        rcases Nat.mul_eq_zero.1 h00 with h | h
        · exact h
        · omega
      have hr0 : Array.range 0 = #[] := rfl
      have hcz : c = 0 := by omega
      have hlz : l = 0 := by omega
      subst hcz hlz
      simp [run_underlying hu, sizeOf, typeInfo, hi, newRow, e1, e2, hw, hw2, hb1, hr0, repeatL]
    · simp [run_underlying hu, sizeOf, typeInfo, hi, h00, zeroValue, hv, newRow, e1, e2, hw, hw2, hb1, hc0, hl0, hlc, hvs]
      congr 2
      rw [← hrr]
  · exact .sl (δ := 0) hb (by omega) (.inl ⟨rfl, by unfold UNK; omega⟩)
theorem sim_makeSlice {E : Env} {h h' : SHeap} {d d' : List Nat} {w : World} (r : Rel E m h w) (ht : TR nt m t a.tmps) {ty e : TypeId} {i : TypeInfo} {z : List Value} (hu : E.P.underlying ty = some (.slice e)) (hi : E.P.info? e = some i) (hz : zeroOf E.P e = some z) (hzl : z.length = i.size) (hsp : 0 < i.size)
    {pf : Bool} {l c : Operand} (hl : okO l = true) (hc : okO c = true) {v : Value} (hs : o_makeSlice e pf i.bytes z l c t h d = some (v, h', d')) :
    Does E m h (do pure (Next.value (← Instr.makeSlice ty (a.eval l) (a.eval c)))) w v h' := by
  unfold o_makeSlice at hs
  split at hs
  case h_2 => cases hs
  rename_i k lv k' cv h1 h2
  split at hs
  case isFalse => cases hs
  rename_i hcond
  simp only [Bool.and_eq_true, decide_eq_true_eq, Nat.ble_eq] at hcond
  obtain ⟨⟨⟨c0, c1⟩, c2⟩, c3⟩ := hcond
  split at hs
  case h_2 => cases hs
  rename_i b h2' hn
  cases hs
  obtain ⟨hp, hcase⟩ := newS_some hn
  rcases hcase with ⟨_, rfl, rfl⟩ | ⟨hcase, _⟩
  · have e1 := (ev_sim ht hl h1).int_inv
    have e2 := (ev_sim ht hc h2).int_inv
    rw [e1, e2]
    exact (MadeBy.push r (made_makeSlice hu hi hz hzl hsp c0 c1 c2 c3) hp).does
  · cases hcase
theorem VR.slice_inv {p : Option Addr} {n c : Nat} {v : Value} (h : VR m (.slice p n c) v) : ∃ p' c', v = .slice p' n c' ∧ (p = none → p' = none) := by
  cases h with
  | sl0 => exact ⟨_, _, rfl, fun _ => rfl⟩
  | sl => exact ⟨_, _, rfl, fun h => by cases h⟩
  | slz => exact ⟨_, _, rfl, fun h => by cases h⟩
theorem run_storeL {E : Env} {h h' : SHeap} {d d' : List Nat} {w : World} (r : Rel E m h w) {base b o A δ : Nat} {vs vs' : List Value} (hst : storeS base h d b o vs = some (h', d')) (hm : m.at b = some (A, δ)) (hv : LR m vs vs') :
    (storeCells ⟨A, δ + o, none⟩ vs').run E.P w = .ok () (w.setCells A (δ + o) vs') ∧ Rel E m h' (w.setCells A (δ + o) vs') ∧ Ghost m h m h' := by
  obtain ⟨r2, k1, k2, k3, k4, k5⟩ := r.store hst hm hv
  have hst := run_storeCells_cells (P := E.P) A (δ + o) vs' 0 w (by simpa using k1) (by simpa using k2) k3
  simp only [Nat.add_zero] at hst
  exact ⟨hst, r2, k4⟩
theorem sim_copy {E : Env} {h h' : SHeap} {d d' : List Nat} {w : World} (r : Rel E m h w) (ht : TR nt m t a.tmps) {ty ty2 rt e : TypeId} {size : Nat} (hu : E.P.underlying ty = some (.slice e)) (hsz : szOf E.P e = some size) (hsp : 0 < size)
    {cx : Cx} {x y : Operand} (hx : okO x = true) (hy : okO y = true) {v : Value} (hs : o_copy cx size x y t h d = some (v, h', d')) :
    Does E m h (do pure (Next.value (← Builtin.copy_ #[ty, ty2] rt #[a.eval x, a.eval y]))) w v h' := by
  unfold o_copy at hs
  split at hs
  case h_2 => cases hs
  rename_i xv yv h1 h2
  have hxv := ev_sim ht hx h1
  have hyv := ev_sim ht hy h2
  generalize a.eval x = x' at hxv ⊢
  generalize a.eval y = y' at hyv ⊢
  unfold copyS at hs
  split at hs
  case h_2 => cases hs
  rename_i ad len cap mm hmm
  have hylen := lenS_sim hmm hyv
  simp only at hs
  split at hs
  case h_2 => cases hs
  rename_i new hnew
  obtain ⟨new', hln, hnl, hf⟩ := seen_run r hyv hnew (fun p c e => by subst e; cases hmm; simp)
  obtain ⟨p', c', rfl, hpn⟩ := hxv.slice_inv
  have hrun0 : ∀ u w', ((match p' with | some q => storeCells q new' | none => pure ()) : Sem Unit).run E.P w = .ok u w' →
      (Builtin.copy_ #[ty, ty2] rt #[.slice p' len c', y']).run E.P w = .ok (.int .i64 (Nat.min mm len : Nat)) w' := by
    intro u w' hr
    unfold Builtin.copy_
    cases p' with
    | none =>
      simp at hr
      subst hr
      simp [run_underlying hu, hylen, szOf_run hsz w, hf w rfl, goInt]
    | some q =>
      simp only at hr
      simp [run_underlying hu, hylen, szOf_run hsz w, hf w rfl, goInt, hr]
  split at hs
  · cases hs
    rw [hpn rfl] at hrun0 ⊢
    exact Does.pure r (run_v (hrun0 () w rfl)) (.int _ _)
  · rename_i b o
    split at hs
    · rename_i h0
      cases hs
      simp at h0
      have hnew0 : new' = [] := by
        have : new'.length = 0 := by rw [hnl]; show Nat.min mm len * size = 0; rw [show Nat.min mm len = 0 from by simpa using h0]; simp
        exact List.length_eq_zero_iff.1 this
      subst hnew0
      have e0 : Nat.min mm len = 0 := by simpa using h0
      refine Does.pure r (run_v (v := .int .i64 0) ?_) (.int _ _)
      have := hrun0 () w (by cases p' <;> rfl)
      rw [e0] at this
      exact this
    · rename_i hn0
      split at hs
      case h_2 => cases hs
      rename_i h3 d3 hst
      cases hs
      cases hxv with
      | slz => simp at hn0
      | sl hm hle hc =>
        obtain ⟨k1, k2, k3⟩ := run_storeL r hst hm hln
        exact ⟨_, _, m, .inl (run_v (hrun0 () _ k1)), .int _ _, m.le_refl, k2, k3⟩
  · cases hs
theorem sim_clear {E : Env} {h h' : SHeap} {d d' : List Nat} {w : World} (r : Rel E m h w) (ht : TR nt m t a.tmps) {ty rt e : TypeId} {i : TypeInfo} {z : List Value} (hu : E.P.underlying ty = some (.slice e)) (hi : E.P.info? e = some i) (hz : zeroOf E.P e = some z) (hzl : z.length = i.size) (hsp : 0 < i.size)
    {cx : Cx} {x : Operand} (hx : okO x = true) {v : Value} (hs : o_clear cx i.size z x t h d = some (v, h', d')) :
    Does E m h (do pure (Next.value (← Builtin.clear_ #[ty] rt #[a.eval x]))) w v h' := by
  unfold o_clear at hs
  split at hs
  · rename_i n c h1
    cases hs
    have hxv := ev_sim ht hx h1
    generalize a.eval x = x' at hxv ⊢
    cases hxv
    refine Does.pure r (run_v (v := .tuple #[]) ?_) (VR.udf m)
    simp [Builtin.clear_, run_underlying hu]
  · rename_i b o len c h1
    have hxv := ev_sim ht hx h1
    generalize a.eval x = x' at hxv ⊢
    split at hs
    · rename_i h0
      simp at h0; subst h0
      cases hs
      refine Does.pure r (run_v (v := .tuple #[]) ?_) (VR.udf m)
      cases hxv <;> simp [Builtin.clear_, run_underlying hu]
    · rename_i h0
      simp at h0
      split at hs
      case h_2 => cases hs
      rename_i h3 d3 hst
      split at hs
      case isFalse => cases hs
      cases hs
      cases hxv with
      | slz => exact absurd rfl h0
      | @sl _ _ A δ _ _ c' hm hle hc =>
        obtain ⟨i2, zv, hi2, hv, hp, rfl⟩ := zero_info hz
        rw [hi] at hi2; cases hi2
        have hcl := (VR.plain (m := m) hp).cells
        have hvs : zv.cells.size = i.size := by have := hcl.1; simp at this; omega
        obtain ⟨k1, k2, k3⟩ := run_storeL r hst hm (hcl.repeatL len)
        refine ⟨.tuple #[], _, m, .inl (run_v (v := .tuple #[]) ?_), VR.udf m, m.le_refl, k2, k3⟩
        have hz0 : (Builtin.zeroCells zv.cells len).toList = repeatL zv.cells.toList len := range_repeat _ _
        unfold Builtin.clear_
        obtain ⟨len, rfl⟩ : ∃ k, len = k + 1 := ⟨len - 1, by omega⟩
        simp [run_underlying hu, zeroValue, typeInfo, hi, hv, hz0, k1]
  · cases hs
end
end Go.Proofs.Ytioijehbmgmgkaa.Sh

namespace Go.Proofs.Ytioijehbmgmgkaa.Sh
open Go Go.RowKit
section
variable {P : Program} {nt : Nat} {m : Mp} {t : T} {a : Act}
theorem mapKey_kind {kt : TypeId} {q : EqK} (h : mapKey P kt = some q) : eqKind P kt = some q ∧ ((∃ k, P.underlying kt = some (.int k) ∧ q = .int) ∨ ∃ n e, P.underlying kt = some (.array n e) ∧ flatT P e = some .int ∧ q = .agg (List.replicate n .int)) := by
  unfold mapKey at h
  split at h
  · rename_i k hu; cases h
    exact ⟨by unfold eqKind; rw [hu], .inl ⟨k, hu, rfl⟩⟩
  · rename_i n e hu
    split at h
    · rename_i hf
      split at h
      · rename_i hg; cases h
        exact ⟨by unfold eqKind; rw [hu]; simp only [hg, if_true, hf, Option.map_some], .inr ⟨n, e, hu, hf, rfl⟩⟩
      · cases h
    · cases h
  · cases h
theorem laid_at {E : Env} {h : SHeap} {w : World} (r : Rel E m h w) {g : Nat} {l : List Value} (hl : laidG E.P g = some l) : ∃ el fr, w.heap[g]? = some (.cells l.toArray el fr) := by
  obtain ⟨h1, el, fr, h2⟩ := r.glob g l hl
  exact ⟨el, fr, by rw [r.below.block g h1]; exact h2⟩
theorem sim_loadG {E : Env} {h h' : SHeap} {d d' : List Nat} {w : World} (r : Rel E m h w) {ty : TypeId} {g : Nat} {v0 : Value} (hg : loadG E.P ty g = some v0) {v : Value}
    (hs : o_mov (.const v0) t h d = some (v, h', d')) : Does E m h (do pure (Next.value (← Instr.loadAt ty (a.eval (.global g))))) w v h' := by
  obtain ⟨h1, rfl, rfl⟩ := same_some hs
  cases h1
  show Does E m h' (do pure (Next.value (← Instr.loadAt ty (.pointer (some ⟨g, 0, none⟩))))) w v0 h'
  unfold loadG at hg
  split at hg
  · rename_i l n hl ha
    split at hg
    case isFalse => cases hg
    rename_i hc
    cases hg
    simp only [Bool.and_eq_true, Nat.beq_eq] at hc
    obtain ⟨el, fr, hw⟩ := laid_at r hl
    refine Does.pure r (run_v ?_) (VR.plain hc.2)
    rcases aggOf_inv ha w with ⟨i, hi, e, h1, h2⟩ | ⟨e, _⟩
    · cases e
      have := run_loadCells_list (P := E.P) w (⟨g, 0, none⟩ : Addr) l (fun j v hv => by rw [addr_add, cell?_of hw]; simpa using hv)
      unfold Instr.loadAt loadVar
      simp only [Instr.sureAddr, Sem.run_bind, Sem.run_pure, Result.andThen_ok, h1, if_true, h2]
      rw [hc.1, this]
      rfl
    · cases e
  · rename_i v1 hl ha
    split at hg
    case isFalse => cases hg
    rename_i hc
    cases hg
    obtain ⟨el, fr, hw⟩ := laid_at r hl
    refine Does.pure r (run_v ?_) (VR.plain hc)
    rcases aggOf_inv ha w with ⟨i, hi, e, h1, h2⟩ | ⟨_, h1, h2⟩
    · cases e
    · have : w.cell? ⟨g, 0, none⟩ = some v0 := by rw [cell?_of hw]; rfl
      unfold Instr.loadAt loadVar
      simp [Instr.sureAddr, h1, this]
  · cases hg
theorem isI_inv {v : Value} (h : isI v = true) : ∃ k n, v = .int k n := by cases v <;> simp [isI] at h; exact ⟨_, _, rfl⟩
theorem check_run {kt : TypeId} {q : EqK} (hq : mapKey P kt = some q) {k k' : Value} (hk : keyS q k = true) (hv : VR m k k') (em : Bool) (w : World) : (Instr.checkKey em 10000 kt k').run P w = .ok () w := by
  rcases (mapKey_kind hq).2 with ⟨ik, hu, rfl⟩ | ⟨n, e, hu, hf, rfl⟩
  · cases k <;> simp [keyS] at hk
    rw [hv.int_inv]
    show (Instr.checkKey em (9999 + 1) kt _).run P w = _
    unfold Instr.checkKey
    simp only [Sem.run_bind, run_underlying hu, Result.andThen]
    rfl
  · cases k <;> simp only [keyS, Bool.false_eq_true] at hk
    rename_i p
    simp only [Bool.and_eq_true, Nat.beq_eq, List.length_replicate] at hk
    obtain ⟨p', rfl, hp⟩ := hv.agg_inv
    obtain ⟨⟨i, hi, hs⟩, ⟨ik, hue⟩⟩ := flatT_inv hf
    show (Instr.checkKey em (9998 + 1 + 1) kt _).run P w = _
    rw [Instr.checkKey]
    simp only [Sem.run_bind, run_underlying hu, Result.andThen_ok]
    simp only [Std.Legacy.Range.forIn_eq_forIn_range', Std.Legacy.Range.size, Nat.sub_zero, Nat.add_one_sub_one, Nat.div_one]
    have each : ∀ j ∈ List.range' 0 n, ∃ kk x, p'[j * 1]? = some (.int kk x) := by
      intro j hj
      have hjn : j < n := by simp at hj; omega
      obtain ⟨x, hx⟩ : ∃ x, p.toList[j]? = some x := ⟨_, List.getElem?_eq_getElem (by omega)⟩
      obtain ⟨kk, y, rfl⟩ := isI_inv (List.all_eq_true.1 hk.2 x (List.mem_of_getElem? hx))
      obtain ⟨y', hy, hvy⟩ := hp.get hx
      rw [hvy.int_inv] at hy
      exact ⟨kk, y, by rw [Nat.mul_one]; simpa using hy⟩
    generalize List.range' 0 n = is at each
    induction is with
    | nil => simp
    | cons j is ih =>
      obtain ⟨kk, x, hx⟩ := each j (by simp)
      have p1 := flat_part hf hx w
      have hsz : P.cellsOf e = 1 := by simp [Program.cellsOf, hi, hs]
      have p2 : (Instr.checkKey em (9998 + 1) e (.int kk x)).run P w = .ok () w := by
        unfold Instr.checkKey
        simp only [Sem.run_bind, run_underlying hue, Result.andThen]
        rfl
      simp only [List.forIn_cons, Sem.run_bind, run_sizeOf w hi, hsz, Result.andThen_ok, p1, p2, Sem.run_pure]
      exact ih (fun y hy => each y (by simp [hy]))
def Found (m : Mp) (q : EqK) (k : Value) (es : List (Value × Value)) (i : Nat) : Option Value → Option (Nat × Value) → Prop
  | none, o => o = none ∧ ∀ u, updS q k u es = some (es ++ [(k, u)])
  | some v, o => ∃ j v' b, o = some (i + j, v') ∧ VR m v v' ∧ es[j]? = some (b, v) ∧ eqS q k b = some true ∧ ∀ u, updS q k u es = some (es.set j (k, u))
theorem Found.nil (q : EqK) (k : Value) (i : Nat) : Found m q k [] i none none := ⟨rfl, fun u => rfl⟩
theorem Found.here {q : EqK} {k b v v' : Value} {es : List (Value × Value)} (h : eqS q k b = some true) (hv : VR m v v') (i : Nat) : Found m q k ((b, v) :: es) i (some v) (some (i, v')) :=
  ⟨0, v', b, rfl, hv, rfl, h, fun u => by simp only [updS, h]; rfl⟩
theorem Found.there {q : EqK} {k b v : Value} {es : List (Value × Value)} {i : Nat} {r o} (h : eqS q k b = some false) (f : Found m q k es (i + 1) r o) : Found m q k ((b, v) :: es) i r o := by
  cases r with
  | none => exact ⟨f.1, fun u => by simp only [updS, h, f.2 u]; rfl⟩
  | some x =>
    obtain ⟨j, v', c, rfl, h1, h2, h3, h4⟩ := f
    exact ⟨j + 1, v', c, by rw [Nat.add_assoc, Nat.add_comm 1 j], h1, h2, h3, fun u => by simp only [updS, h, h4 u]; rfl⟩
theorem find_asking {kt : TypeId} {q : EqK} {k k' : Value} {w : World} (heq : ∀ b b' r, eqS q k b = some r → VR m b b' → (Op.equal kt k' b').run P w = .ok r w) :
    ∀ (es : List (Value × Value)) (rs : List MapEntry) (i : Nat) (res : Option Value), findS q k es = some res → LR m (es.map (·.1)) (rs.map (·.key)) → LR m (es.map (·.2)) (rs.map (·.val)) →
      ∃ o, (Instr.findAsking kt k' rs i).run P w = .ok o w ∧ Found m q k es i res o
  | [], rs, i, res, hf, h1, _ => by
    have : rs = [] := by have := h1.1; simp at this; exact List.length_eq_zero_iff.1 this.symm
    subst this
    cases hf
    exact ⟨none, by simp [Instr.findAsking], Found.nil q k i⟩
  | (b, v) :: es, rs, i, res, hf, h1, h2 => by
    cases rs with
    | nil => have := h1.1; simp at this
    | cons e rs =>
      obtain ⟨_, _, e1, b1, t1⟩ := h1.cons_inv
      obtain ⟨_, _, e2, b2, t2⟩ := h2.cons_inv
      simp only [List.map_cons, List.cons.injEq] at e1 e2
      obtain ⟨rfl, rfl⟩ := e1
      obtain ⟨rfl, rfl⟩ := e2
      simp only [findS] at hf
      split at hf
      · rename_i he; cases hf
        exact ⟨_, by simp [Instr.findAsking, heq _ _ _ he b1], Found.here he b2 i⟩
      · rename_i he
        obtain ⟨o, ho, f⟩ := find_asking heq es rs (i + 1) res hf t1 t2
        exact ⟨o, by simp [Instr.findAsking, heq _ _ _ he b1, ho], f.there he⟩
      · cases hf
theorem find_now {ik : IntKind} {kk : IntKind} {n : Int} :
    ∀ (es : List (Value × Value)) (rs : List MapEntry) (i : Nat) (res : Option Value), findS .int (.int kk n) es = some res → LR m (es.map (·.1)) (rs.map (·.key)) → LR m (es.map (·.2)) (rs.map (·.val)) →
      ∃ o, Instr.findNow (.int ik) (.int kk n) rs i = some o ∧ Found m .int (.int kk n) es i res o
  | [], rs, i, res, hf, h1, _ => by
    have : rs = [] := by have := h1.1; simp at this; exact List.length_eq_zero_iff.1 this.symm
    subst this
    cases hf
    exact ⟨none, rfl, Found.nil _ _ i⟩
  | (b, v) :: es, rs, i, res, hf, h1, h2 => by
    cases rs with
    | nil => have := h1.1; simp at this
    | cons e rs =>
      obtain ⟨_, _, e1, b1, t1⟩ := h1.cons_inv
      obtain ⟨_, _, e2, b2, t2⟩ := h2.cons_inv
      simp only [List.map_cons, List.cons.injEq] at e1 e2
      obtain ⟨rfl, rfl⟩ := e1
      obtain ⟨rfl, rfl⟩ := e2
      simp only [findS] at hf
      have hb : ∀ r, eqS .int (.int kk n) b = some r → Instr.sameNow (.int ik) (.int kk n) e.key = some r := by
        intro r he
        obtain ⟨k0, p, q, e1, rfl, rfl⟩ := eqS_int he
        cases e1
        rw [b1.int_inv]
        simp [Instr.sameNow]
      split at hf
      · rename_i he; cases hf
        exact ⟨_, by simp [Instr.findNow, hb _ he], Found.here he b2 i⟩
      · rename_i he
        obtain ⟨o, ho, f⟩ := find_now (ik := ik) es rs (i + 1) res hf t1 t2
        exact ⟨o, by simp [Instr.findNow, hb _ he, ho], f.there he⟩
      · cases hf
theorem find_run {kt : TypeId} {q : EqK} (hq : mapKey P kt = some q) {k k' : Value} (hk : keyS q k = true) (hv : VR m k k') {es : List (Value × Value)} {rs : List MapEntry} {res : Option Value} (hf : findS q k es = some res) (h1 : LR m (es.map (·.1)) (rs.map (·.key))) (h2 : LR m (es.map (·.2)) (rs.map (·.val))) (w : World) :
    ∃ o, (Instr.findKey kt k' rs).run P w = .ok o w ∧ Found m q k es 0 res o := by
  obtain ⟨hke, hcase⟩ := mapKey_kind hq
  rcases hcase with ⟨ik, hu, rfl⟩ | ⟨n, e, hu, _, _⟩
  · cases k <;> simp [keyS] at hk
    rw [hv.int_inv]
    obtain ⟨o, ho, f⟩ := find_now (ik := ik) es rs 0 res hf h1 h2
    exact ⟨o, MapKept.run_findKey hu ho, f⟩
  · obtain ⟨o, ho, f⟩ := find_asking (P := P) (kt := kt) (w := w) (fun b b' r hr hb => equal_run hke hr hv hb w) es rs 0 res hf h1 h2
    exact ⟨o, by rw [run_findKey_eq w (by rw [hu])]; exact ho, f⟩
theorem Rel.map_at {E : Env} {h : SHeap} {w : World} (r : Rel E m h w) {b A δ : Nat} {pf es} (hb : h[b]? = some (.map pf es)) (hm : m.at b = some (A, δ)) :
    δ = 0 ∧ (∃ rs clock, w.heap[A]? = some (.map rs clock) ∧ LR m (es.map (·.1)) (rs.toList.map (·.key)) ∧ LR m (es.map (·.2)) (rs.toList.map (·.val)) ∧ clock = rs.size ∧ ∀ (i : Nat) (e : MapEntry), rs.toList[i]? = some e → e.born = i) ∧ (pf = true → es.all (fun e => (cellsL e.1).all sc && (cellsL e.2).all sc) = true) :=
  r.obj _ _ _ _ hb hm
theorem Rel.replace {E : Env} {m : Mp} {h : SHeap} {w : World} (r : Rel E m h w) {l A : Nat} {o o' : SO} {ob ob' : Obj} (hl : h[l]? = some o) (hm : m.at l = some (A, 0)) (ho : live o = true) (hoc : ∀ cs el pf own old, o ≠ .cells cs el pf own old)
    (ho' : ∀ cs el pf own old, o' ≠ .cells cs el pf own old) (hob : w.heap[A]? = some ob) (hobc : ∀ cs el fr, ob ≠ .cells cs el fr) (k : OR E.P m o' A 0 (w.putObj A ob')) : Rel E m (h.set l o') (w.putObj A ob') := by
  have hll : l < h.length := (List.getElem?_eq_some_iff.1 hl).1
  have hB : E.B ≤ A := r.base _ _ _ _ hl hm ho (by cases o <;> first | rfl | exact absurd rfl (hoc _ _ _ _ _))
  have key : ∀ c x, (h.set l o')[c]? = some x → (c = l ∧ x = o') ∨ (c ≠ l ∧ h[c]? = some x) := by
    intro c x hc
    by_cases e : l = c
    · subst e; rw [List.getElem?_set_self hll] at hc; cases hc; exact .inl ⟨rfl, rfl⟩
    · rw [List.getElem?_set_ne e] at hc; exact .inr ⟨fun k => e k.symm, hc⟩
  have alone : ∀ c x δ, c ≠ l → h[c]? = some x → m.at c = some (A, δ) → live x = false := by
    intro c x δ hne hc hmc
    cases hlv : live x with
    | false => rfl
    | true =>
      rcases r.sep c l x o A δ 0 hne hc hl hmc hm hlv ho with ⟨_, h1⟩ | ⟨_, _, _, _, _, _, _, _, _, _, e2, _⟩ | ⟨_, _, _, _, _, _, _, _, _, e1, _⟩
      · cases o <;> first | (cases h1; done) | exact absurd rfl (hoc _ _ _ _ _)
      · exact absurd e2 (hoc _ _ _ _ _)
      · exact absurd e1 (hoc _ _ _ _ _)
  refine ⟨by simpa using r.len, fun c A' δ hc => by rw [World.putObj_size]; exact r.lt _ _ _ hc, ?_, ?_, ?_, ?_, ?_, ?_, by rw [World.putObj_size]; exact r.bsz, r.glob⟩
  · intro c x A' δ hc hmc
    rcases key c x hc with ⟨rfl, rfl⟩ | ⟨hne, hc⟩
    · rw [hm] at hmc; cases hmc; exact k
    · by_cases e : A' = A
      · subst e
        have hd := alone c x δ hne hc hmc
        cases x with
        | cells cs2 el2 pf2 own2 old2 => simp [live] at hd; exact .inl hd
        | gone => trivial
        | _ => simp [live] at hd
      · exact (r.obj _ _ _ _ hc hmc).heap (World.putObj_heap_other e)
  · intro c x A' δ hc hmc hlv hro
    rcases key c x hc with ⟨rfl, rfl⟩ | ⟨hne, hc⟩
    · rw [hm] at hmc; cases hmc; exact hB
    · exact r.base _ _ _ _ hc hmc hlv hro
  · intro b1 b2 o1 o2 A' δ1 δ2 hne h1 h2 m1 m2 l1 l2
    rcases key b1 o1 h1 with ⟨rfl, rfl⟩ | ⟨n1, k1⟩ <;> rcases key b2 o2 h2 with ⟨rfl, rfl⟩ | ⟨n2, k2⟩
    · exact absurd rfl hne
    · rw [hm] at m1; cases m1
      rw [alone b2 o2 δ2 n2 k2 m2] at l2; cases l2
    · rw [hm] at m2; cases m2
      rw [alone b1 o1 δ1 n1 k1 m1] at l1; cases l1
    · exact r.sep b1 b2 o1 o2 A' δ1 δ2 hne k1 k2 m1 m2 l1 l2
  · intro c A' δ' K s hmc hcp
    obtain ⟨rcs', rel', fr', h1, h2⟩ := r.cap _ _ _ _ _ hmc hcp
    by_cases e : A' = A
    · subst e
      rw [hob] at h1; cases h1
      exact absurd rfl (hobc _ _ _)
    · exact ⟨rcs', rel', fr', by rw [World.putObj_heap_other e]; exact h1, h2⟩
  · intro c K s cs2 el2 pf2 own2 old2 hx hcp
    rcases key c _ hx with ⟨rfl, e⟩ | ⟨hne, hx⟩
    · exact absurd e.symm (ho' _ _ _ _ _)
    · exact r.csz _ _ _ _ _ _ _ _ hx hcp
  · exact r.below.trans ⟨rfl, rfl, rfl, by rw [World.putObj_size]; exact Nat.le_refl _, fun k hk => World.putObj_heap_other (by omega)⟩
theorem sim_makeMap {E : Env} {h h' : SHeap} {d d' : List Nat} {w : World} (r : Rel E m h w) {ty : TypeId} {pf : Bool} {v : Value} (hs : o_makeMap pf t h d = some (v, h', d')) :
    Does E m h (do pure (Next.value (← Instr.makeMap ty none))) w v h' := by
  unfold o_makeMap at hs
  cases hs
  refine ⟨.map (some w.heap.size), _, m ++ [some ((w.heap.size, 0), none)], .inl (run_v (run_makeMap ty w)), .map (by rw [← r.len, Mp.at_snoc]; rfl), Mp.le_append _ _, ?_, Ghost.push r.len⟩
  exact Rel.push (o := .map pf []) (ob := .map #[] 0) r rfl none (fun w' hw' => ⟨rfl, ⟨#[], 0, hw', LR.nil _, LR.nil _, rfl, by simp⟩, fun _ => rfl⟩) (fun K s e => by cases e)
theorem VR.map_inv {b : Nat} {v : Value} (h : VR m (.map (some b)) v) : ∃ A, m.at b = some (A, 0) ∧ v = .map (some A) := by cases h; exact ⟨_, by assumption, rfl⟩
theorem sim_lookup {E : Env} {h h' : SHeap} {d d' : List Nat} {w : World} (r : Rel E m h w) (ht : TR nt m t a.tmps) {ty kt e : TypeId} {q : EqK} {i : TypeInfo} {z : Value} (hu : E.P.underlying ty = some (.map kt e)) (hq : mapKey E.P kt = some q) (hi : E.P.info? e = some i) (hz : i.zero = some z) (hp : plainC z = true)
    {ok : Bool} {x k : Operand} (hx : okO x = true) (hk : okO k = true) {v : Value} (hs : o_lookup q z ok x k t h d = some (v, h', d')) :
    Does E m h (do pure (Next.value (← Instr.lookup ty (a.eval x) (a.eval k) ok))) w v h' := by
  unfold o_lookup at hs
  split at hs
  case h_2 => cases hs
  rename_i b kv h1 h2
  split at hs
  case isFalse => cases hs
  rename_i hkey
  split at hs
  case h_2 => cases hs
  rename_i pf es hb
  obtain ⟨A, hm, hxe⟩ := (ev_sim ht hx h1).map_inv
  have hv := ev_sim ht hk h2
  obtain ⟨_, ⟨rs, clock, hw, l1, l2, _⟩, _⟩ := r.map_at hb hm
  have hck := check_run hq hkey hv rs.isEmpty w
  have hzr := run_zeroValue' (P := E.P) hi hz w
  split at hs
  · rename_i v0 hf
    cases hs
    obtain ⟨o, ho, j, v', c, rfl, f1, _⟩ := find_run hq hkey hv hf l1 l2 w
    refine ⟨if ok then .tuple #[v', .bool true] else v', w, m, .inl (run_v ?_), ?_, m.le_refl, r, Ghost.refl _ _⟩
    · rw [hxe]
      simp [Instr.lookup, run_underlying hu, MapKept.run_getObj_map hw, hck, ho]
    · cases ok
      · exact f1
      · exact VR.tuple' (((LR.nil m).cons (.bool _)).cons f1)
  · rename_i hf
    cases hs
    obtain ⟨o, ho, rfl, _⟩ := find_run hq hkey hv hf l1 l2 w
    refine ⟨if ok then .tuple #[z, .bool false] else z, w, m, .inl (run_v ?_), ?_, m.le_refl, r, Ghost.refl _ _⟩
    · rw [hxe]
      simp [Instr.lookup, run_underlying hu, MapKept.run_getObj_map hw, hck, ho, hzr]
    · cases ok
      · exact VR.plain hp
      · exact VR.tuple' (((LR.nil m).cons (.bool _)).cons (VR.plain hp))
  · cases hs
theorem eqList_int : ∀ (n : Nat) (x y : List Value), eqList (List.replicate n .int) x y = some true → x = y ∧ x.all isI = true
  | 0, x, y, h => by cases x <;> cases y <;> simp [eqList] at h; exact ⟨rfl, rfl⟩
  | n + 1, x, y, h => by
    cases x with
    | nil => simp [List.replicate, eqList] at h
    | cons p x =>
      cases y with
      | nil => simp [List.replicate, eqList] at h
      | cons q y =>
        simp only [List.replicate, eqList] at h
        split at h
        · rename_i hc
          obtain ⟨rfl, hx⟩ := eqList_int n x y h
          cases p <;> cases q <;> simp [eqCell] at hc
          obtain ⟨rfl, rfl⟩ := hc
          exact ⟨rfl, by simp [isI, hx]⟩
        · cases h
        · cases h
theorem bits_int (k : IntKind) (n : Int) (d : Nat) : Instr.sameBits d (.int k n) (.int k n) = true := by cases d <;> simp [Instr.sameBits]
theorem all_int {l l' : List Value} (h : LR m l l') (hi : l.all isI = true) : l' = l := by
  apply List.ext_getElem?
  intro i
  by_cases e : i < l.length
  · obtain ⟨y, hy, hv⟩ := h.get (List.getElem?_eq_getElem e)
    obtain ⟨k, n, he⟩ := isI_inv (List.all_eq_true.1 hi _ (List.getElem_mem e))
    rw [he] at hv
    rw [hy, hv.int_inv, List.getElem?_eq_getElem e, he]
  · have := h.1
    rw [List.getElem?_eq_none (by omega), List.getElem?_eq_none (by omega)]
theorem same_bits {kt : TypeId} {q : EqK} (hq : mapKey P kt = some q) {k k' b b' : Value} (he : eqS q k b = some true) (hk : VR m k k') (hb : VR m b b') : Instr.sameBits 10000 b' k' = true := by
  rcases (mapKey_kind hq).2 with ⟨ik, hu, rfl⟩ | ⟨n, e, hu, hf, rfl⟩
  · obtain ⟨kk, p, q, rfl, rfl, hpq⟩ := eqS_int he
    have : p = q := by simpa using hpq.symm
    subst this
    rw [hk.int_inv, hb.int_inv]
    exact bits_int _ _ _
  · obtain ⟨x, y, rfl, rfl, hl⟩ := eqS_agg he
    obtain ⟨e1, e2⟩ := eqList_int _ _ _ hl
    obtain ⟨x', rfl, hx⟩ := hk.agg_inv
    obtain ⟨y', rfl, hy⟩ := hb.agg_inv
    have f1 := all_int hx e2
    rw [e1] at e2
    have f2 := all_int hy e2
    have f3 : x' = y' := by apply Array.ext'; rw [f1, f2, e1]
    subst f3
    show Instr.sameBits (9999 + 1) (.agg x') (.agg x') = true
    simp only [Instr.sameBits, beq_self_eq_true, Bool.true_and, List.all_eq_true]
    intro p hp
    rw [f2] at hp
    obtain ⟨i, hi, e⟩ := List.getElem_of_mem hp
    rw [List.getElem_zip] at e
    rw [← e]
    obtain ⟨k, n, hin⟩ := isI_inv (List.all_eq_true.1 e2 _ (List.getElem_mem (by simp at hi; exact hi)))
    simp only [hin]
    exact bits_int _ _ _
theorem sim_mapUpdate {E : Env} {h h' : SHeap} {d d' : List Nat} {w : World} (r : Rel E m h w) (ht : TR nt m t a.tmps) {cx : Cx} {ty kt e : TypeId} {q : EqK} (hu : E.P.underlying ty = some (.map kt e)) (hq : mapKey E.P kt = some q)
    {x k y : Operand} (hx : okO x = true) (hk : okO k = true) (hy : okO y = true) {v : Value} (hs : o_mapUpdate cx q x k y t h d = some (v, h', d')) :
    Does E m h (do Instr.mapUpdate ty (a.eval x) (a.eval k) (a.eval y); pure Next.skip) w v h' := by
  unfold o_mapUpdate at hs
  split at hs
  case h_2 => cases hs
  rename_i b kv yv h1 h2 h3
  split at hs
  case isFalse => cases hs
  rename_i hkey
  split at hs
  case h_2 => cases hs
  rename_i pf es hb
  split at hs
  case isFalse => cases hs
  rename_i hpf
  split at hs
  case h_2 => cases hs
  rename_i es' hup
  cases hs
  obtain ⟨A, hm, hxe⟩ := (ev_sim ht hx h1).map_inv
  have hv := ev_sim ht hk h2
  have hyv := ev_sim ht hy h3
  obtain ⟨_, ⟨rs, clock, hw, l1, l2, l3⟩, hall⟩ := r.map_at hb hm
  have hck := check_run hq hkey hv false w
  have hg : ∀ o', Ghost m h m (h.set b o') := fun o' c o hc hn => by
    refine ⟨?_, hn⟩
    rw [List.getElem?_set_ne (by rintro rfl; rw [hm] at hn; cases hn)]
    exact hc
  have fin : ∀ (ob : Obj) (rs' : Array MapEntry) (clock' : Nat), ob = .map rs' clock' → (Instr.mapUpdate ty (.map (some A)) (a.eval k) (a.eval y)).run E.P w = .ok () (w.putObj A ob) →
      LR m (es'.map (·.1)) (rs'.toList.map (·.key)) → LR m (es'.map (·.2)) (rs'.toList.map (·.val)) → (clock' = rs'.size ∧ ∀ (i : Nat) (e : MapEntry), rs'.toList[i]? = some e → e.born = i) → (pf = true → es'.all (fun e => (cellsL e.1).all sc && (cellsL e.2).all sc) = true) →
      Does E m h (do Instr.mapUpdate ty (a.eval x) (a.eval k) (a.eval y); pure Next.skip) w udf (h.set b (.map pf es')) := by
    intro ob rs' clock' hob hrun g1 g2 g3 g4
    refine ⟨undef, _, m, .inr ⟨run_u (by rw [hxe]; exact hrun), rfl⟩, VR.udf m, m.le_refl, ?_, hg _⟩
    refine r.replace hb hm rfl (fun _ _ _ _ _ e => by cases e) (fun _ _ _ _ _ e => by cases e) hw (fun _ _ _ e => by cases e) ⟨rfl, ⟨rs', clock', ?_, g1, g2, g3.1, g3.2⟩, g4⟩
    rw [← hob]
    exact World.putObj_heap_same (Array.getElem?_eq_some_iff.1 hw).1
  have hsc : pf = true → (cellsL kv).all sc = true ∧ (cellsL yv).all sc = true := by
    intro e; subst e; simpa using hpf
  cases hf : findS q kv es with
  | none =>
    exfalso
    have : ∀ (l : List (Value × Value)) (l' : List (Value × Value)), updS q kv yv l = some l' → findS q kv l ≠ none := by
      intro l
      induction l with
      | nil => intro l' _ e; cases e
      | cons p l ih =>
        intro l' h1 h2
        obtain ⟨b, u⟩ := p
        simp only [updS] at h1
        simp only [findS] at h2
        split at h1
        · rename_i he; rw [he] at h2; cases h2
        · rename_i he
          rw [he] at h2
          split at h1
          · rename_i l2 hl2; exact ih _ hl2 h2
          · cases h1
        · cases h1
    exact this _ _ hup hf
  | some res =>
    obtain ⟨o, ho, f⟩ := find_run hq hkey hv hf l1 l2 w
    cases res with
    | none =>
      obtain ⟨rfl, f2⟩ := f
      have he : es' = es ++ [(kv, yv)] := by have := f2 yv; rw [hup] at this; exact Option.some.inj this
      refine fin (.map (rs.push { key := a.eval k, val := a.eval y, born := clock }) (clock + 1)) _ _ rfl ?_ ?_ ?_ ?_ ?_
      · simp [Instr.mapUpdate, run_underlying hu, MapKept.run_getObj_map hw, hck, ho, MapKept.run_setObj_map _ hw]
        rfl
      · rw [he]; simpa using l1.append ((LR.nil m).cons hv)
      · rw [he]; simpa using l2.append ((LR.nil m).cons hyv)
      · refine ⟨by rw [Array.size_push, l3.1], fun i e0 hm0 => ?_⟩
        rw [Array.toList_push] at hm0
        by_cases hi : i < rs.toList.length
        · rw [List.getElem?_append_left hi] at hm0; exact l3.2 i e0 hm0
        · rw [List.getElem?_append_right (by omega)] at hm0
          have hl := (List.getElem?_eq_some_iff.1 hm0).1
          have : i - rs.toList.length = 0 := by simpa using hl
          rw [this] at hm0
          simp at hm0
          subst hm0
          show clock = i
          rw [l3.1]
          have : rs.toList.length = rs.size := by simp
          omega
      · intro e
        rw [he, List.all_append, hall e, Bool.true_and]
        simp [hsc e]
    | some v0 =>
      obtain ⟨j, v', c, rfl, f1, f2, f3, f4⟩ := f
      have he : es' = es.set j (kv, yv) := by have := f4 yv; rw [hup] at this; exact Option.some.inj this
      have hj : j < es.length := (List.getElem?_eq_some_iff.1 f2).1
      have hjr : j < rs.toList.length := by have := l1.1; simp at this; simpa [this] using hj
      have hkj : VR m c (rs.toList[j]).key := by
        obtain ⟨y0, hy0, hvy⟩ := l1.get (i := j) (x := c) (by rw [List.getElem?_map, f2]; rfl)
        rw [List.getElem?_map, List.getElem?_eq_getElem hjr] at hy0
        cases hy0
        exact hvy
      have hsb := same_bits hq f3 hv hkj
      have hjs : j < rs.size := by simpa using hjr
      have hsb' : Instr.sameBits 10000 (rs[j]'hjs).key (a.eval k) = true := by simpa using hsb
      have hrj : rs[j]? = some (rs.toList[j]) := by simpa using List.getElem?_eq_getElem hjr
      have hmod : ∀ (fn : MapEntry → MapEntry), (rs.modify j fn).toList = rs.toList.set j (fn (rs.toList[j])) := by
        intro fn
        apply List.ext_getElem?
        intro i
        rw [Array.getElem?_toList, Array.getElem?_modify, List.getElem?_set]
        by_cases e0 : j = i
        · subst e0; rw [if_pos rfl, if_pos rfl, hrj, if_pos hjr]; rfl
        · simp [e0]
      refine fin (.map (rs.modify j fun e => { e with key := a.eval k, val := a.eval y }) clock) _ _ rfl ?_ ?_ ?_ ?_ ?_
      · simp [Instr.mapUpdate, run_underlying hu, MapKept.run_getObj_map hw, hck, ho, hrj, Instr.keyThatStays, hsb', MapKept.run_setObj_map _ hw]
        rfl
      · rw [he, hmod, List.map_set, List.map_set]; exact l1.set j hv
      · rw [he, hmod, List.map_set, List.map_set]; exact l2.set j hyv
      · refine ⟨by rw [Array.size_modify, l3.1], fun i e0 hm0 => ?_⟩
        rw [hmod, List.getElem?_set] at hm0
        split at hm0
        · rename_i hji
          first | rw [if_pos hjr] at hm0 | skip
          cases hm0
          subst hji
          exact l3.2 j (rs.toList[j]) (List.getElem?_eq_getElem hjr)
        · exact l3.2 i e0 hm0
      · intro e
        rw [he, List.all_eq_true]
        intro p hp
        rcases List.mem_or_eq_of_mem_set hp with h0 | h0
        · exact List.all_eq_true.1 (hall e) p h0
        · subst h0; simp [hsc e]
end
end Go.Proofs.Ytioijehbmgmgkaa.Sh

namespace Go.Proofs.Ytioijehbmgmgkaa.Sh
open Go Go.RowKit
section
variable {nt : Nat} {m : Mp} {t : T} {a : Act}
theorem ifO' {α : Type} {b : Bool} {x : α} {y : α} (h : ifO b (some x) = some y) : b = true ∧ x = y := by
  obtain ⟨h1, h2⟩ := ifO_some h; cases h2; exact ⟨h1, rfl⟩
theorem map_some' {α β : Type} {f : α → β} {x : Option α} {y : β} (h : x.map f = some y) : ∃ u, x = some u ∧ f u = y := by
  cases x with
  | none => cases h
  | some u => cases h; exact ⟨u, rfl, rfl⟩
theorem and3 {a b c : Bool} (h : (a && b && c) = true) : a = true ∧ b = true ∧ c = true := by simpa [and_assoc] using h
theorem and2 {a b : Bool} (h : (a && b) = true) : a = true ∧ b = true := by simpa using h
theorem made_op {E : Env} (ht : TR nt m t a.tmps) {o : Oper} {so : SOp} (hc : compOp E.P o.op = some so) (hm : makes so = true) {cs : List Value} {el : TypeId} {pf : Bool} {mk : Nat → Value} (hs : opMade so t = some (cs, el, pf, mk)) :
    ∃ s : Sem Value, execOp a.eval o = (do pure (Next.value (← s))) ∧ MadeBy E.P m s cs el mk := by
  obtain ⟨dst, op, type, pos, after, guard⟩ := o
  simp only at hc
  unfold compOp at hc
  split at hc
  case h_4 =>
    obtain ⟨z, hz, rfl⟩ := map_some' hc
    cases hs
    exact ⟨_, rfl, made_alloc hz⟩
  case h_5 =>
    obtain ⟨hx, rfl⟩ := ifO' hc
    simp only [opMade] at hs
    split at hs
    · rename_i v hv
      cases hs
      exact ⟨_, rfl, made_box ht hx hv⟩
    · cases hs
  case h_7 ty len parts =>
    split at hc
    case h_2 => cases hc
    rename_i e hu
    split at hc
    case h_2 => cases hc
    rename_i s z hsz hz
    split at hc
    case isFalse => cases hc
    rename_i hcond
    simp only [Bool.and_eq_true, beq_iff_eq, Nat.blt_eq, Nat.ble_eq] at hcond
    obtain ⟨⟨c1, c2⟩, c3⟩ := hcond
    obtain ⟨l, hl, rfl⟩ := map_some' hc
    have hu' : E.P.underlying ty = some (.slice e) := by
      unfold isSliceT at hu
      split at hu
      · cases hu; assumption
      · cases hu
    simp only [opMade] at hs
    split at hs
    case h_2 => cases hs
    rename_i ps hps
    split at hs
    case h_2 => cases hs
    rename_i out hout
    cases hs
    exact ⟨_, rfl, made_buildSlice hu' hsz hz c1 c2 c3 ht hl hps hout⟩
  all_goals
    (try unfold compCall at hc)
    (try unfold ifO at hc)
    (repeat' split at hc)
    all_goals first
      | (cases hc; done)
      | (cases hc; cases hm; done)
      | (obtain ⟨_, _, rfl⟩ := map_some' hc; cases hm; done)
theorem arr_of {α : Type} {x : Array α} {l : List α} (h : x.toList = l) : x = l.toArray := by rw [← h]
theorem sliceT {P : Program} {ty e : TypeId} (h : isSliceT P ty = some e) : P.underlying ty = some (.slice e) := by
  unfold isSliceT at h
  split at h
  · cases h; assumption
  · cases h
theorem Does.of_run {E : Env} {h h' : SHeap} {s s' : Sem Next} {w : World} {v : Value} (e : s'.run E.P w = s.run E.P w) (k : Does E m h s w v h') : Does E m h s' w v h' := by
  unfold Does at *; rw [e]; exact k
theorem builtin_sim {E : Env} {h h' : SHeap} {d d' : List Nat} {w : World} (r : Rel E m h w) (ht : TR nt m t a.tmps) {b : Builtin} {args : Array Operand} {argTypes : Array TypeId} {type : TypeId} {so : SOp}
    (hc : compCall E.P ⟨.builtin b, args, argTypes⟩ = some so) {R : Rec} {cx : Cx} {sl : Option Nat} {v : Value} (hs : opRun R cx sl so t h d = some (v, h', d')) {dst : Option Tmp} {pos : String} {after : Array Edge} {guard : Option (Nat × Bool)} :
    Does E m h (execOp a.eval ⟨dst, .call ⟨.builtin b, args, argTypes⟩, type, pos, after, guard⟩) w v h' := by
  unfold compCall at hc
  simp only at hc
  split at hc
  · -- len
    rename_i x ty hx hty
    have ha := arr_of hx
    have hb := arr_of hty
    subst ha hb
    split at hc
    case isFalse => cases hc
    rename_i hok
    split at hc
    · rename_i e hu
      cases hc
      refine Does.of_run (by simp [execOp, resolve, invoke, builtin]) <| sim_len (rt := type) r ht hu hok hs
    · rename_i n e hu
      cases hc
      have := sim_mov r ht (x := .const (.int .i64 n)) rfl hs
      obtain ⟨h1, rfl, rfl⟩ := same_some (show o_mov _ t h d = _ from hs)
      cases h1
      refine Does.of_run (by simp [execOp, resolve, invoke, builtin]) <| sim_lenArr (x := a.eval x) (rt := type) r hu
    · rename_i arr hu
      split at hc
      · rename_i n e hu2
        cases hc
        obtain ⟨h1, rfl, rfl⟩ := same_some (show o_mov _ t h d = _ from hs)
        cases h1
        refine Does.of_run (by simp [execOp, resolve, invoke, builtin]) <| sim_lenPtr (x := a.eval x) (rt := type) r hu hu2
      · cases hc
    · cases hc
  · -- append
    rename_i x y ty u hx hty
    have ha := arr_of hx
    have hb := arr_of hty
    subst ha hb
    split at hc
    case h_2 => cases hc
    rename_i e e2 hu hu2
    split at hc
    case h_2 => cases hc
    rename_i i z hi hz
    split at hc
    case isFalse => cases hc
    rename_i hcond
    simp only [Bool.and_eq_true, beq_iff_eq, Nat.blt_eq] at hcond
    obtain ⟨⟨⟨c1, c2⟩, c3⟩, c4⟩ := hcond
    cases hc
    obtain ⟨i2, zv, hi2, hzv, hp, rfl⟩ := zero_info hz
    rw [hi] at hi2; cases hi2
    have hcl := (VR.plain (m := m) hp).cells
    have hvs : zv.cells.size = i.size := by have := hcl.1; simp at this; omega
    refine Does.of_run (by simp [execOp, resolve, invoke, builtin]) <| sim_append (ty := type) r ht (sliceT hu) (sliceT hu2) hi hzv hvs c3 c1 c2 hs
  · -- copy
    rename_i x y ty u hx hty
    have ha := arr_of hx
    have hb := arr_of hty
    subst ha hb
    split at hc
    case h_2 => cases hc
    rename_i e e2 hu hu2
    split at hc
    case h_2 => cases hc
    rename_i i hi
    split at hc
    case isFalse => cases hc
    rename_i hcond
    simp only [Bool.and_eq_true, Nat.blt_eq] at hcond
    obtain ⟨⟨c1, c2⟩, c3⟩ := hcond
    cases hc
    refine Does.of_run (by simp [execOp, resolve, invoke, builtin]) <| sim_copy (ty2 := u) (rt := type) r ht (sliceT hu) (szOf_info hi) c3 c1 c2 hs
  · -- clear
    rename_i x ty hx hty
    have ha := arr_of hx
    have hb := arr_of hty
    subst ha hb
    split at hc
    case h_2 => cases hc
    rename_i e hu
    split at hc
    case h_2 => cases hc
    rename_i i z hi hz
    split at hc
    case isFalse => cases hc
    rename_i hcond
    simp only [Bool.and_eq_true, beq_iff_eq, Nat.blt_eq] at hcond
    obtain ⟨⟨c1, c2⟩, c3⟩ := hcond
    cases hc
    refine Does.of_run (by simp [execOp, resolve, invoke, builtin]) <| sim_clear (rt := type) r ht (sliceT hu) hi hz c2 c3 c1 hs
  · -- max
    split at hc
    case isFalse => cases hc
    rename_i hok
    cases hc
    refine Does.of_run (by simp [execOp, resolve, invoke, builtin]) <| sim_maxi (tys := argTypes) (rt := type) (args := args.map a.eval) r ht hok hs (by simp)
  · split at hc
    case isFalse => cases hc
    rename_i hok
    cases hc
    refine Does.of_run (by simp [execOp, resolve, invoke, builtin]) <| sim_mini (tys := argTypes) (rt := type) (args := args.map a.eval) r ht hok hs (by simp)
  · cases hc
theorem op_sim {E : Env} {h h' : SHeap} {d d' : List Nat} {w : World} (r : Rel E m h w) (ht : TR nt m t a.tmps) {o : Oper} {so : SOp} (hc : compOp E.P o.op = some so) (hm : makes so = false) (hcall : ∀ f args, so ≠ .call f args)
    {R : Rec} {cx : Cx} {sl : Option Nat} {v : Value} (hs : opRun R cx sl so t h d = some (v, h', d')) : Does E m h (execOp a.eval o) w v h' := by
  obtain ⟨dst, op, type, pos, after, guard⟩ := o
  simp only at hc
  unfold compOp at hc
  split at hc
  · obtain ⟨hx, rfl⟩ := ifO' hc
    exact sim_mov r ht hx hs
  · obtain ⟨hx, rfl⟩ := ifO' hc
    exact sim_mov r ht hx hs
  · obtain ⟨hx, rfl⟩ := ifO' hc
    obtain ⟨c1, c2, c3⟩ := and3 hx
    exact sim_pick r ht c1 c2 c3 hs
  · obtain ⟨z, _, rfl⟩ := map_some' hc
    cases hm
  · obtain ⟨_, rfl⟩ := ifO' hc
    cases hm
  · -- build
    rename_i ty parts
    split at hc
    · rename_i fs z hu hz
      split at hc
      case isFalse => cases hc
      rename_i hf
      obtain ⟨l, hl, rfl⟩ := map_some' hc
      exact sim_buildStruct r ht hu hz hf hl hs
    · rename_i n e z hu hz
      split at hc
      case h_2 => cases hc
      rename_i s hsz
      obtain ⟨l, hl, rfl⟩ := map_some' hc
      exact sim_buildArr r ht hu hz hsz hl hs
    · cases hc
  · -- buildSlice
    split at hc
    case h_2 => cases hc
    split at hc
    case h_2 => cases hc
    split at hc
    case isFalse => cases hc
    obtain ⟨l, hl, rfl⟩ := map_some' hc
    cases hm
  · -- load of a package-level variable
    obtain ⟨v0, hg, rfl⟩ := map_some' hc
    exact sim_loadG r hg hs
  · -- load
    obtain ⟨hx, hc⟩ := ifO_some hc
    obtain ⟨g, hg, rfl⟩ := map_some' hc
    exact sim_load r ht hg hx hs
  · -- makeMap
    split at hc
    · split at hc
      · cases hc
        exact sim_makeMap (t := t) r hs
      · cases hc
    · cases hc
  · -- lookup
    split at hc
    case isFalse => cases hc
    rename_i hx
    obtain ⟨c1, c2⟩ := and2 hx
    split at hc
    · rename_i kt e hu
      split at hc
      · rename_i q z hq hz
        split at hc
        case isFalse => cases hc
        rename_i hp
        cases hc
        cases hi : E.P.info? e with
        | none => rw [hi] at hz; cases hz
        | some i =>
          rw [hi] at hz
          exact sim_lookup r ht hu hq hi hz hp c1 c2 hs
      · cases hc
    · cases hc
  · -- mapUpdate
    split at hc
    case isFalse => cases hc
    rename_i hx
    obtain ⟨c1, c2, c3⟩ := and3 hx
    split at hc
    · rename_i kt e hu
      obtain ⟨q, hq, rfl⟩ := map_some' hc
      exact sim_mapUpdate r ht hu hq c1 c2 c3 hs
    · cases hc
  · -- range
    split at hc
    · obtain ⟨_, rfl⟩ := ifO' hc
      cases hs
    · cases hc
  · -- next
    obtain ⟨_, rfl⟩ := ifO' hc
    cases hs
  · -- entry
    obtain ⟨_, rfl⟩ := ifO' hc
    cases hs
  · -- store
    obtain ⟨hx, hc⟩ := ifO_some hc
    obtain ⟨n, hn, rfl⟩ := map_some' hc
    obtain ⟨c1, c2⟩ := and2 hx
    exact (sim_store r ht hn c1 c2 hs).1
  · -- nilCheck
    obtain ⟨hx, rfl⟩ := ifO' hc
    exact sim_nilCheck r ht hx rfl hs
  · -- binOp
    rename_i op ty x y q
    split at hc
    case isFalse => cases hc
    rename_i hx
    obtain ⟨c1, c2⟩ := and2 hx
    split at hc
    · obtain ⟨k, hk, rfl⟩ := map_some' hc
      exact sim_eq (neg := false) r ht hk c1 c2 hs
    · obtain ⟨k, hk, rfl⟩ := map_some' hc
      exact sim_eq (neg := true) r ht hk c1 c2 hs
    · split at hc
      · cases hc
        exact sim_bin r ht c1 c2 hs
      · cases hc
  · -- unOp
    obtain ⟨hx, rfl⟩ := ifO' hc
    exact sim_un r ht hx hs
  · -- convert
    split at hc
    · rename_i q k h1 h2
      obtain ⟨hx, rfl⟩ := ifO' hc
      exact sim_conv r ht h1 h2 hx hs
    · cases hc
  · -- slice
    rename_i ty x lo hi mx
    split at hc
    case isFalse => cases hc
    rename_i hcond
    simp only [Bool.and_eq_true] at hcond
    obtain ⟨⟨⟨c1, c2⟩, c3⟩, c4⟩ := hcond
    split at hc
    · rename_i e hu
      obtain ⟨s, hsz, rfl⟩ := map_some' hc
      exact sim_slice r ht hu hsz c1 c2 c3 c4 hs
    · rename_i n e hu
      obtain ⟨s, hsz, rfl⟩ := map_some' hc
      exact sim_sliceArr r ht hu hsz c1 c2 c3 c4 hs
    · cases hc
  · -- fieldAddr
    split at hc
    case h_2 => cases hc
    rename_i fs hu
    split at hc
    case h_2 => cases hc
    rename_i f hf
    split at hc
    case h_2 => cases hc
    rename_i s hsz
    split at hc
    case isFalse => cases hc
    rename_i hcond
    simp only [Bool.and_eq_true, Nat.blt_eq] at hcond
    cases hc
    exact sim_fieldAddr r ht hu hf hsz hcond.2 hcond.1 hs
  · -- field
    split at hc
    case h_2 => cases hc
    rename_i fs hu
    split at hc
    case h_2 => cases hc
    rename_i f hf
    obtain ⟨hx, hc⟩ := ifO_some hc
    obtain ⟨g, hg, rfl⟩ := map_some' hc
    exact sim_field r ht hu hf hg hx hs
  · -- indexAddr
    split at hc
    case isFalse => cases hc
    rename_i hcond
    obtain ⟨c1, c2⟩ := and2 hcond
    split at hc
    · rename_i e hu
      obtain ⟨s, hsz, rfl⟩ := map_some' hc
      exact sim_idxSl r ht hu hsz c1 c2 hs
    · rename_i n e hu
      obtain ⟨s, hsz, rfl⟩ := map_some' hc
      exact sim_idxArr r ht hu hsz c1 c2 hs
    · cases hc
  · -- index
    split at hc
    case isFalse => cases hc
    rename_i hcond
    obtain ⟨c1, c2⟩ := and2 hcond
    split at hc
    · rename_i n e hu
      split at hc
      case h_2 => cases hc
      rename_i s g hsz hg
      cases hc
      exact sim_idx r ht hu hsz hg c1 c2 hs
    · rename_i hu
      cases hc
      exact sim_idxStr r ht hu c1 c2 hs
    · cases hc
  · -- makeFunc
    split at hc
    case h_2 => cases hc
    split at hc
    case isFalse => cases hc
    rename_i hcond
    obtain ⟨c1, c2⟩ := and2 hcond
    cases hc
    exact sim_makeFunc r ht c1 c2 hs
  · -- extract
    obtain ⟨hx, rfl⟩ := ifO' hc
    exact sim_extract r ht hx hs
  · -- call
    rename_i c
    obtain ⟨callee, args, argTypes⟩ := c
    cases callee with
    | value f =>
      unfold compCall at hc
      simp only at hc
      split at hc
      · cases hc; exact absurd rfl (hcall _ _)
      · cases hc
    | invoke x n => cases hc
    | builtin b => exact builtin_sim r ht hc hs
  · -- makeSlice
    split at hc
    case h_2 => cases hc
    rename_i e hu
    split at hc
    case h_2 => cases hc
    rename_i i z hi hz
    split at hc
    case isFalse => cases hc
    rename_i hcond
    simp only [Bool.and_eq_true, beq_iff_eq, Nat.blt_eq] at hcond
    obtain ⟨⟨⟨c1, c2⟩, c3⟩, c4⟩ := hcond
    cases hc
    exact sim_makeSlice r ht (sliceT hu) hi hz c3 c4 c1 c2 hs
  · -- insert
    split at hc
    case isFalse => cases hc
    rename_i hx
    obtain ⟨c1, c2, c3⟩ := and3 hx
    split at hc
    · rename_i kt e hu
      obtain ⟨q, hq, rfl⟩ := map_some' hc
      exact sim_mapUpdate r ht hu hq c1 c2 c3 hs
    · cases hc
  · -- panic
    cases hc
    cases hs
  · -- makeInterface
    cases hc
    cases hs
  · cases hc
end
end Go.Proofs.Ytioijehbmgmgkaa.Sh

