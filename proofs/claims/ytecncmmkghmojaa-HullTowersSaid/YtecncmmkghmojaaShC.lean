/- The shadow machine: how its states lie in the model's world. -/
import Derived.Test.YtecncmmkghmojaaShB
import Derived.Below
import Derived.RangeFuncLeaves
set_option linter.all false
namespace Go.Proofs.Ytecncmmkghmojaa.Sh
open Go Go.RowKit

/-- shadow block to the model's block and offset; none: not laid yet. Behind them: of a block that append has made, how many cells of the model's there are from the offset on, and the size of an element -/
abbrev Mp := List (Option ((Nat × Nat) × Option (Nat × Nat)))
def Mp.full (m : Mp) (b : Nat) : Option ((Nat × Nat) × Option (Nat × Nat)) := (m[b]?).join
def Mp.at (m : Mp) (b : Nat) : Option (Nat × Nat) := (m.full b).map (·.1)
def Mp.cp (m : Mp) (b : Nat) : Option (Nat × Nat) := (m.full b).bind (·.2)
def Mp.le (m m' : Mp) : Prop := ∀ b x, m.full b = some x → m'.full b = some x
theorem Mp.le_refl (m : Mp) : m.le m := fun _ _ h => h
theorem Mp.le_trans {a b c : Mp} (h : a.le b) (k : b.le c) : a.le c := fun _ _ x => k _ _ (h _ _ x)
theorem Mp.at_some {m : Mp} {b : Nat} {x} (h : m.at b = some x) : ∃ y, m.full b = some (x, y) := by
  unfold Mp.at at h
  cases hf : m.full b with
  | none => rw [hf] at h; cases h
  | some z => rw [hf] at h; cases h; exact ⟨z.2, rfl⟩
theorem Mp.at_none {m : Mp} {b : Nat} : m.at b = none ↔ m.full b = none := by
  unfold Mp.at; cases m.full b <;> simp
theorem Mp.le_at {m m' : Mp} (h : m.le m') {b x} (k : m.at b = some x) : m'.at b = some x := by
  obtain ⟨y, hy⟩ := Mp.at_some k
  unfold Mp.at; rw [h _ _ hy]; rfl
theorem Mp.le_cp {m m' : Mp} (h : m.le m') {b x} (k : m.at b = some x) : m'.cp b = m.cp b := by
  obtain ⟨y, hy⟩ := Mp.at_some k
  unfold Mp.cp; rw [h _ _ hy, hy]
theorem Mp.full_lt {m : Mp} {b : Nat} {x} (h : m.full b = some x) : b < m.length := by
  unfold Mp.full at h
  by_cases hb : b < m.length
  · exact hb
  · rw [List.getElem?_eq_none (by omega)] at h; cases h
theorem Mp.at_lt {m : Mp} {b : Nat} {x} (h : m.at b = some x) : b < m.length := by
  obtain ⟨y, hy⟩ := Mp.at_some h
  exact Mp.full_lt hy
theorem Mp.full_append_left {m n : Mp} {b : Nat} (h : b < m.length) : Mp.full (m ++ n) b = m.full b := by
  unfold Mp.full; rw [List.getElem?_append_left h]
theorem Mp.full_snoc {m : Mp} {x} : Mp.full (m ++ [x]) m.length = x := by
  unfold Mp.full; simp
theorem Mp.at_append_left {m n : Mp} {b : Nat} (h : b < m.length) : Mp.at (m ++ n) b = m.at b := by
  unfold Mp.at; rw [Mp.full_append_left h]
theorem Mp.cp_append_left {m n : Mp} {b : Nat} (h : b < m.length) : Mp.cp (m ++ n) b = m.cp b := by
  unfold Mp.cp; rw [Mp.full_append_left h]
theorem Mp.at_snoc {m : Mp} {x} : Mp.at (m ++ [x]) m.length = x.map (·.1) := by
  unfold Mp.at; rw [Mp.full_snoc]
theorem Mp.cp_snoc {m : Mp} {x} : Mp.cp (m ++ [x]) m.length = x.bind (·.2) := by
  unfold Mp.cp; rw [Mp.full_snoc]
theorem Mp.le_append (m n : Mp) : m.le (m ++ n) := fun _ _ h => by rw [Mp.full_append_left (Mp.full_lt h)]; exact h
theorem Mp.full_set_same {m : Mp} {b : Nat} {x} (h : b < m.length) : Mp.full (m.set b x) b = x := by
  unfold Mp.full; simp [h]
theorem Mp.full_set_ne {m : Mp} {b c : Nat} {x} (h : b ≠ c) : Mp.full (m.set b x) c = m.full c := by
  unfold Mp.full; rw [List.getElem?_set_ne h]
theorem Mp.at_set_same {m : Mp} {b : Nat} {x} (h : b < m.length) : Mp.at (m.set b x) b = x.map (·.1) := by
  unfold Mp.at; rw [Mp.full_set_same h]
theorem Mp.cp_set_same {m : Mp} {b : Nat} {x} (h : b < m.length) : Mp.cp (m.set b x) b = x.bind (·.2) := by
  unfold Mp.cp; rw [Mp.full_set_same h]
theorem Mp.at_set_ne {m : Mp} {b c : Nat} {x} (h : b ≠ c) : Mp.at (m.set b x) c = m.at c := by
  unfold Mp.at; rw [Mp.full_set_ne h]
theorem Mp.cp_set_ne {m : Mp} {b c : Nat} {x} (h : b ≠ c) : Mp.cp (m.set b x) c = m.cp c := by
  unfold Mp.cp; rw [Mp.full_set_ne h]
theorem Mp.le_set {m : Mp} {b : Nat} {x} (h : m.at b = none) : m.le (m.set b x) := fun c y hc => by
  rw [Mp.full_set_ne (by intro e; subst e; rw [Mp.at_none.1 h] at hc; cases hc)]; exact hc

/-- what is known of a capacity: it is the model's, or the model's lies within what append has made -/
def CapR (m : Mp) (b o c c' : Nat) : Prop := (c = c' ∧ c < UNK) ∨ (UNK ≤ c ∧ ∃ K s, m.cp b = some (K, s) ∧ c = UNK + s ∧ o + c' * s ≤ K)

inductive VR (m : Mp) : Value → Value → Prop
  | bool (b) : VR m (.bool b) (.bool b)
  | int (k n) : VR m (.int k n) (.int k n)
  | string (s) : VR m (.string s) (.string s)
  | nilFunc : VR m .nilFunc .nilFunc
  | nilIface : VR m .nilIface .nilIface
  | ptr0 : VR m (.pointer none) (.pointer none)
  | ptr {b o A δ} (h : m.at b = some (A, δ)) : VR m (.pointer (some ⟨b, o, none⟩)) (.pointer (some ⟨A, δ + o, none⟩))
  | sl0 : VR m (.slice none 0 0) (.slice none 0 0)
  | sl {b o A δ n c c'} (h : m.at b = some (A, δ)) (hn : n ≤ c') (hc : CapR m b o c c') : VR m (.slice (some ⟨b, o, none⟩) n c) (.slice (some ⟨A, δ + o, none⟩) n c')
  | slz {b o c a' p} (hb : m.at b = some p) (hc : c = 0 ∨ UNK ≤ c) : VR m (.slice (some ⟨b, o, none⟩) 0 c) (.slice (some a') 0 0)
  | map0 : VR m (.map none) (.map none)
  | map {r A} (h : m.at r = some (A, 0)) : VR m (.map (some r)) (.map (some A))
  | func {f} {as bs as' bs' : Array Value} (ha : as.toList.length = as'.toList.length) (hb : bs.toList.length = bs'.toList.length)
      (ka : ∀ (i : Nat) (x y : Value), as.toList[i]? = some x → as'.toList[i]? = some y → VR m x y) (kb : ∀ (i : Nat) (x y : Value), bs.toList[i]? = some x → bs'.toList[i]? = some y → VR m x y) :
      VR m (.func (.func f) as bs) (.func (.func f) as' bs')
  | yield {l A} (h : m.at l = some (A, 0)) : VR m (.func (.yield l) #[] #[]) (.func (.yield A) #[] #[])
  | agg {as as' : Array Value} (ha : as.toList.length = as'.toList.length) (ka : ∀ (i : Nat) (x y : Value), as.toList[i]? = some x → as'.toList[i]? = some y → VR m x y) :
      VR m (.agg as) (.agg as')
  | tuple {as as' : Array Value} (ha : as.toList.length = as'.toList.length) (ka : ∀ (i : Nat) (x y : Value), as.toList[i]? = some x → as'.toList[i]? = some y → VR m x y) :
      VR m (.tuple as) (.tuple as')

def LR (m : Mp) (l l' : List Value) : Prop := l.length = l'.length ∧ ∀ (i : Nat) (x y : Value), l[i]? = some x → l'[i]? = some y → VR m x y

theorem VR.mono {m m' : Mp} (h : m.le m') {v v' : Value} (k : VR m v v') : VR m' v v' := by
  induction k with
  | bool => exact .bool _
  | int => exact .int _ _
  | string => exact .string _
  | nilFunc => exact .nilFunc
  | nilIface => exact .nilIface
  | ptr0 => exact .ptr0
  | ptr hb => exact .ptr (Mp.le_at h hb)
  | sl0 => exact .sl0
  | sl hb hn hc => exact .sl (Mp.le_at h hb) hn (hc.imp id (fun ⟨a, K, s, e, k⟩ => ⟨a, K, s, by rw [Mp.le_cp h hb]; exact e, k⟩))
  | slz hb hc => exact .slz (Mp.le_at h hb) hc
  | map0 => exact .map0
  | map hb => exact .map (Mp.le_at h hb)
  | func ha hb _ _ ka kb => exact .func ha hb ka kb
  | yield hb => exact .yield (Mp.le_at h hb)
  | agg ha _ ka => exact .agg ha ka
  | tuple ha _ ka => exact .tuple ha ka

theorem LR.mono {m m' : Mp} (h : m.le m') {l l' : List Value} (k : LR m l l') : LR m' l l' := ⟨k.1, fun i x y hx hy => (k.2 i x y hx hy).mono h⟩
theorem LR.nil (m : Mp) : LR m [] [] := ⟨rfl, fun i x y hx => by simp at hx⟩
theorem LR.cons {m : Mp} {x y : Value} {l l' : List Value} (h : VR m x y) (k : LR m l l') : LR m (x :: l) (y :: l') :=
  ⟨by simp [k.1], fun i a b ha hb => by
    cases i with
    | zero => simp at ha hb; subst ha hb; exact h
    | succ i => simp at ha hb; exact k.2 i a b ha hb⟩
theorem LR.cons_inv {m : Mp} {x : Value} {l l' : List Value} (h : LR m (x :: l) l') : ∃ y r, l' = y :: r ∧ VR m x y ∧ LR m l r := by
  cases l' with
  | nil => simp [LR] at h
  | cons y r => exact ⟨y, r, rfl, h.2 0 x y rfl rfl, by simpa using h.1, fun i a b ha hb => h.2 (i + 1) a b (by simpa using ha) (by simpa using hb)⟩
theorem LR.nil_inv {m : Mp} {l' : List Value} (h : LR m [] l') : l' = [] := by
  cases l' with
  | nil => rfl
  | cons y r => simp [LR] at h
theorem LR.append {m : Mp} {a a' b b' : List Value} (h : LR m a a') (k : LR m b b') : LR m (a ++ b) (a' ++ b') := by
  induction a generalizing a' with
  | nil => rw [h.nil_inv]; exact k
  | cons x r ih => obtain ⟨y, r', rfl, h1, h2⟩ := h.cons_inv; exact (ih h2).cons h1
theorem LR.get {m : Mp} {l l' : List Value} (h : LR m l l') {i : Nat} {x} (hx : l[i]? = some x) : ∃ y, l'[i]? = some y ∧ VR m x y := by
  have hi : i < l.length := (List.getElem?_eq_some_iff.1 hx).1
  have hi' : i < l'.length := h.1 ▸ hi
  exact ⟨l'[i], by simp [hi'], h.2 i x _ hx (by simp [hi'])⟩
theorem LR.get' {m : Mp} {l l' : List Value} (h : LR m l l') {i : Nat} {y} (hy : l'[i]? = some y) : ∃ x, l[i]? = some x ∧ VR m x y := by
  have hi : i < l'.length := (List.getElem?_eq_some_iff.1 hy).1
  have hi' : i < l.length := h.1 ▸ hi
  exact ⟨l[i], by simp [hi'], h.2 i _ y (by simp [hi']) hy⟩
theorem LR.take {m : Mp} {l l' : List Value} (h : LR m l l') (n : Nat) : LR m (l.take n) (l'.take n) :=
  ⟨by simp [h.1], fun i x y hx hy => by
    rw [List.getElem?_take] at hx hy
    split at hx
    · simp_all; exact h.2 i x y hx hy
    · cases hx⟩
theorem LR.drop {m : Mp} {l l' : List Value} (h : LR m l l') (n : Nat) : LR m (l.drop n) (l'.drop n) :=
  ⟨by simp [h.1], fun i x y hx hy => by
    rw [List.getElem?_drop] at hx hy
    exact h.2 _ x y hx hy⟩
theorem LR.set {m : Mp} {l l' : List Value} (h : LR m l l') (n : Nat) {x y} (hv : VR m x y) : LR m (l.set n x) (l'.set n y) :=
  ⟨by simp [h.1], fun i a b ha hb => by
    rw [List.getElem?_set] at ha hb
    by_cases e : n = i
    · subst e
      simp only [if_true] at ha hb
      have h1 := h.1
      split at ha <;> split at hb <;> simp_all
    · simp only [e, if_false] at ha hb
      exact h.2 i a b ha hb⟩
theorem VR.agg' {m : Mp} {as as' : List Value} (h : LR m as as') : VR m (.agg as.toArray) (.agg as'.toArray) := .agg (by simpa using h.1) (by simpa using h.2)
theorem VR.tuple' {m : Mp} {as as' : List Value} (h : LR m as as') : VR m (.tuple as.toArray) (.tuple as'.toArray) := .tuple (by simpa using h.1) (by simpa using h.2)
theorem VR.agg_inv {m : Mp} {as : Array Value} {v : Value} (h : VR m (.agg as) v) : ∃ as', v = .agg as' ∧ LR m as.toList as'.toList := by
  cases h with
  | agg ha ka => exact ⟨_, rfl, ha, ka⟩
theorem VR.tuple_inv {m : Mp} {as : Array Value} {v : Value} (h : VR m (.tuple as) v) : ∃ as', v = .tuple as' ∧ LR m as.toList as'.toList := by
  cases h with
  | tuple ha ka => exact ⟨_, rfl, ha, ka⟩
theorem VR.udf (m : Mp) : VR m Sh.udf Go.undef := .tuple rfl (fun i x y hx => by simp at hx)
/-- values of cells -/
theorem cells_eq (v : Value) : cellsL v = v.cells.toList := by cases v <;> rfl
theorem VR.cells {m : Mp} {v v' : Value} (h : VR m v v') : LR m (cellsL v) v'.cells.toList := by
  cases h with
  | agg ha ka => exact ⟨ha, ka⟩
  | bool b => exact (LR.nil m).cons (.bool b)
  | int k n => exact (LR.nil m).cons (.int k n)
  | string s => exact (LR.nil m).cons (.string s)
  | nilFunc => exact (LR.nil m).cons .nilFunc
  | nilIface => exact (LR.nil m).cons .nilIface
  | ptr0 => exact (LR.nil m).cons .ptr0
  | ptr h => exact (LR.nil m).cons (.ptr h)
  | sl0 => exact (LR.nil m).cons .sl0
  | sl h hn hc => exact (LR.nil m).cons (.sl h hn hc)
  | slz hb hc => exact (LR.nil m).cons (.slz hb hc)
  | map0 => exact (LR.nil m).cons .map0
  | map h => exact (LR.nil m).cons (.map h)
  | func ha hb ka kb => exact (LR.nil m).cons (.func ha hb ka kb)
  | yield h => exact (LR.nil m).cons (.yield h)
  | tuple ha ka => exact (LR.nil m).cons (.tuple ha ka)
theorem VR.oneC {m : Mp} {v v' : Value} (h : VR m v v') (k : Sh.oneC v = true) : (∀ c, v' ≠ .agg c) ∧ (∀ c, v' ≠ .tuple c) := by
  cases h <;> first | (simp [Sh.oneC] at k; done) | (refine ⟨fun c e => ?_, fun c e => ?_⟩ <;> cases e)
theorem VR.plain {m : Mp} {v : Value} (h : plainC v = true) : VR m v v := by
  have one : ∀ v : Value, (match v with | .bool _ | .int _ _ | .string _ | .nilFunc | .nilIface | .pointer none | .map none | .slice none 0 0 => true | _ => false) = true → VR m v v := by
    intro v h
    split at h <;> first | constructor | (cases h; done)
  unfold plainC at h
  split at h <;> first | (constructor; done) | skip
  · refine .agg rfl fun i x y hx hy => ?_
    rw [hx] at hy; cases hy
    rename_i cs
    have := List.all_eq_true.1 h x (List.mem_of_getElem? hx)
    exact one x this
  · cases h

/-! ### trees of slots -/
/-- a whole tree of depth k -/
def T.deep : Nat → T → Prop
  | .zero, .leaf => True
  | .succ k, .node l _ r => l.deep k ∧ r.deep k
  | _, _ => False
theorem T.deep_blank (k : Nat) : (T.blank k).deep k := by
  induction k with
  | zero => trivial
  | succ k ih => exact ⟨ih, ih⟩
theorem T.get_blank (k i : Nat) : (T.blank k).get i = udf := by
  induction k generalizing i with
  | zero => rfl
  | succ k ih =>
    cases i with
    | zero => rfl
    | succ i => unfold T.blank T.get; dsimp only; split <;> exact ih _
theorem land1 (m : Nat) : (Nat.beq (Nat.land m 1) 0 = true ↔ m % 2 = 0) := by
  have h : Nat.land m 1 = m % 2 := by
    show m &&& 1 = m % 2
    exact Nat.and_one_is_mod m
  rw [h]; simp
theorem shr1 (m : Nat) : Nat.shiftRight m 1 = m / 2 := by
  show m >>> 1 = m / 2
  rw [Nat.shiftRight_eq_div_pow]
theorem T.get_succ (l r : T) (v : Value) (m : Nat) : (T.node l v r).get (m + 1) = if m % 2 = 0 then l.get (m / 2) else r.get (m / 2) := by
  show (match Nat.beq (Nat.land m 1) 0 with | true => l.get (Nat.shiftRight m 1) | false => r.get (Nat.shiftRight m 1)) = _
  by_cases h : m % 2 = 0
  · rw [if_pos h, (land1 m).2 h, shr1]
  · rw [if_neg h]
    have : Nat.beq (Nat.land m 1) 0 = false := by
      cases hb : Nat.beq (Nat.land m 1) 0 with
      | false => rfl
      | true => exact absurd ((land1 m).1 hb) h
    rw [this, shr1]
theorem T.set_succ (l r : T) (v x : Value) (m : Nat) : (T.node l v r).set (m + 1) x = if m % 2 = 0 then .node (l.set (m / 2) x) v r else .node l v (r.set (m / 2) x) := by
  show (match Nat.beq (Nat.land m 1) 0 with | true => T.node (l.set (Nat.shiftRight m 1) x) v r | false => .node l v (r.set (Nat.shiftRight m 1) x)) = _
  by_cases h : m % 2 = 0
  · rw [if_pos h, (land1 m).2 h, shr1]
  · rw [if_neg h]
    have : Nat.beq (Nat.land m 1) 0 = false := by
      cases hb : Nat.beq (Nat.land m 1) 0 with
      | false => rfl
      | true => exact absurd ((land1 m).1 hb) h
    rw [this, shr1]
theorem T.deep_set {k : Nat} {t : T} (h : t.deep k) (i : Nat) (x : Value) : (t.set i x).deep k := by
  induction t generalizing k i with
  | leaf => exact h
  | node l v r ihl ihr =>
    cases k with
    | zero => exact h.elim
    | succ k =>
      cases i with
      | zero => exact h
      | succ i =>
        rw [T.set_succ]
        split
        · exact ⟨ihl h.1 _, h.2⟩
        · exact ⟨h.1, ihr h.2 _⟩
theorem T.get_set_ne {t : T} {i j : Nat} (x : Value) (h : i ≠ j) : (t.set i x).get j = t.get j := by
  induction t generalizing i j with
  | leaf => rfl
  | node l v r ihl ihr =>
    cases i with
    | zero => cases j with
      | zero => exact absurd rfl h
      | succ j => rw [T.get_succ]; show (T.node l x r).get (j + 1) = _; rw [T.get_succ]
    | succ i =>
      rw [T.set_succ]
      cases j with
      | zero => split <;> rfl
      | succ j =>
        split
        · rw [T.get_succ, T.get_succ]; split
          · exact ihl (by omega)
          · rfl
        · rw [T.get_succ, T.get_succ]; split
          · rfl
          · exact ihr (by omega)
theorem T.get_set_same {k : Nat} {t : T} {i : Nat} (x : Value) (hd : t.deep k) (h : i + 1 < 2 ^ k) : (t.set i x).get i = x := by
  induction t generalizing k i with
  | leaf =>
    cases k with
    | zero => simp at h
    | succ k => exact hd.elim
  | node l v r ihl ihr =>
    cases k with
    | zero => exact hd.elim
    | succ k =>
      cases i with
      | zero => rfl
      | succ i =>
        rw [T.set_succ]
        have h2 : 2 ^ (k + 1) = 2 * 2 ^ k := by rw [Nat.pow_succ]; omega
        split
        · rw [T.get_succ, if_pos (by assumption)]; exact ihl hd.1 (by omega)
        · rw [T.get_succ, if_neg (by assumption)]; exact ihr hd.2 (by omega)

/-- the slots of a shadow frame and those of the model's -/
structure TR (nt : Nat) (m : Mp) (t : T) (a : Array Value) : Prop where
  size : nt ≤ a.size
  deep : ∃ k, t.deep k ∧ nt < 2 ^ k
  get : ∀ i, VR m (t.get i) (a.getD i undef)

theorem TR.mono {nt : Nat} {m m' : Mp} {t : T} {a : Array Value} (h : TR nt m t a) (hm : m.le m') : TR nt m' t a := ⟨h.size, h.deep, fun i => (h.get i).mono hm⟩
theorem TR.set {nt : Nat} {m : Mp} {t : T} {a : Array Value} (h : TR nt m t a) {i : Nat} (hi : i < nt) {v v' : Value} (hv : VR m v v') :
    TR nt m (t.set i v) (a.setIfInBounds i v') := by
  obtain ⟨k, hd, hk⟩ := h.deep
  refine ⟨by simpa using h.size, ⟨k, T.deep_set hd _ _, hk⟩, fun j => ?_⟩
  by_cases e : i = j
  · subst e
    rw [T.get_set_same v hd (by omega)]
    have : i < a.size := Nat.lt_of_lt_of_le hi h.size
    simp [Array.getD, this]; exact hv
  · rw [T.get_set_ne v e]
    have := h.get j
    simp only [Array.getD_eq_getD_getElem?] at this ⊢
    rw [Array.getElem?_setIfInBounds_ne e]; exact this

end Go.Proofs.Ytecncmmkghmojaa.Sh
