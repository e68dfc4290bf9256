/- The shadow machine on symbolic states: what has to hold for a run to end well. -/
import Derived.Test.YtecncmmkghmojaaShZi
set_option linter.all false
namespace Go.Proofs.Ytecncmmkghmojaa.Sh
open Go
set_option linter.unusedVariables false

abbrev Reg := Nat → Value
def upd (ρ : Reg) (k : Nat) (v : Value) : Reg := fun j => match Nat.beq j k with
  | true => v
  | false => ρ j
theorem upd_eq (ρ : Reg) (k : Nat) (v : Value) : upd ρ k v k = v := by simp [upd]
theorem upd_ne (ρ : Reg) {k j : Nat} (v : Value) (h : j ≠ k) : upd ρ k v j = ρ j := by
  have : Nat.beq j k = false := by
    cases e : Nat.beq j k
    · rfl
    · exact (h (Nat.eq_of_beq_eq_true e)).elim
  simp [upd, this]
/-- a register of which the value is known may be shown -/
theorem upd_self (ρ : Reg) (k : Nat) (v : Value) (h : ρ k = v) : ρ = upd ρ k v := by
  funext j
  by_cases e : j = k
  · subst e; rw [upd_eq, h]
  · rw [upd_ne ρ v e]
def updO (ρ : Reg) (k : Option Nat) (v : Value) : Reg := match k with
  | some k => upd ρ k v
  | none => ρ

/-- a tree with all its slots -/
def Full : Nat → T → Prop
  | 0, .leaf => True
  | n + 1, .node l _ r => Full n l ∧ Full n r
  | _, _ => False
theorem full_blank : ∀ n, Full n (T.blank n)
  | 0 => trivial
  | n + 1 => ⟨full_blank n, full_blank n⟩
theorem full_set : ∀ {t : T} {n i : Nat} {v : Value}, Full n t → Full n (t.set i v) := by
  intro t
  induction t with
  | leaf => intro n i v h; exact h
  | node l x r ihl ihr =>
    intro n i v h
    cases n with
    | zero => cases h
    | succ n =>
      cases i with
      | zero => exact h
      | succ m =>
        unfold T.set
        dsimp only
        split
        · exact ⟨ihl h.1, h.2⟩
        · exact ⟨h.1, ihr h.2⟩
theorem get_set {t : T} : ∀ {n i : Nat} (v : Value) (j : Nat), Full n t → i + 1 < 2 ^ n → (t.set i v).get j = upd t.get i v j := by
  induction t with
  | leaf =>
    intro n i v j h hi
    cases n with
    | zero => simp at hi
    | succ n => cases h
  | node l x r ihl ihr =>
    intro n i v j h hi
    cases n with
    | zero => cases h
    | succ n =>
      cases i with
      | zero =>
        cases j with
        | zero => rfl
        | succ j => rfl
      | succ mi =>
        cases j with
        | zero =>
          unfold T.set
          dsimp only
          split <;> rfl
        | succ mj =>
          by_cases e : mi = mj
          · subst e
            rw [upd_eq]
            unfold T.set
            dsimp only
            have hr : Nat.shiftRight mi 1 + 1 < 2 ^ n := by
              have : Nat.shiftRight mi 1 = mi / 2 := by
                have := Nat.shiftRight_eq_div_pow mi 1
                simpa using this
              rw [Nat.pow_succ] at hi
              omega
            cases hb : Nat.beq (Nat.land mi 1) 0
            · simp only [T.get, hb]
              rw [ihr v _ h.2 hr, upd_eq]
            · simp only [T.get, hb]
              rw [ihl v _ h.1 hr, upd_eq]
          · rw [upd_ne _ _ (by omega)]
            unfold T.set
            dsimp only
            have hr : Nat.shiftRight mi 1 + 1 < 2 ^ n := by
              have : Nat.shiftRight mi 1 = mi / 2 := by
                have := Nat.shiftRight_eq_div_pow mi 1
                simpa using this
              rw [Nat.pow_succ] at hi
              omega
            have hp : Nat.beq (Nat.land mi 1) 0 = Nat.beq (Nat.land mj 1) 0 → Nat.shiftRight mj 1 ≠ Nat.shiftRight mi 1 := by
              intro h1 h2
              have a1 : Nat.shiftRight mi 1 = mi / 2 := by have := Nat.shiftRight_eq_div_pow mi 1; simpa using this
              have a2 : Nat.shiftRight mj 1 = mj / 2 := by have := Nat.shiftRight_eq_div_pow mj 1; simpa using this
              have b1 : Nat.land mi 1 = mi % 2 := Nat.and_one_is_mod mi
              have b2 : Nat.land mj 1 = mj % 2 := Nat.and_one_is_mod mj
              rw [a1, a2] at h2
              rw [b1, b2] at h1
              have : mi % 2 = mj % 2 := by
                rcases Nat.mod_two_eq_zero_or_one mi with c1 | c1 <;> rcases Nat.mod_two_eq_zero_or_one mj with c2 | c2 <;> rw [c1, c2] at h1 ⊢ <;> cases h1
              omega
            cases hb : Nat.beq (Nat.land mi 1) 0 <;> cases hc : Nat.beq (Nat.land mj 1) 0 <;> simp only [T.get, hc]
            · rw [ihr v _ h.2 hr, upd_ne _ _ (hp (by rw [hb, hc]))]
            · rw [ihl v _ h.1 hr, upd_ne _ _ (hp (by rw [hb, hc]))]
theorem get_set' {t : T} {n i : Nat} (v : Value) (h : Full n t) (hi : i + 1 < 2 ^ n) : (t.set i v).get = upd t.get i v := funext fun j => get_set v j h hi

/-! ### values are laid open before they are stored -/
def opn (v : Value) (K : Value → Prop) : Prop :=
  match v with
  | .bool b => K (.bool b)
  | .int k n => K (.int k n)
  | .string s => K (.string s)
  | .pointer a => K (.pointer a)
  | .slice a n c => K (.slice a n c)
  | .func f a b => K (.func f a b)
  | .agg cs => K (.agg cs)
  | .tuple cs => K (.tuple cs)
  | .map r => K (.map r)
  | .nilFunc => K .nilFunc
  | .nilIface => K .nilIface
  | _ => False
theorem opn_ok {v : Value} {K : Value → Prop} (h : opn v K) : K v := by
  unfold opn at h
  split at h <;> first | exact h | exact h.elim
def evW (ρ : Reg) (x : Operand) (K : Value → Prop) : Prop :=
  match x with
  | .tmp i => opn (ρ i) K
  | .const v => K v
  | .func f => K (.func (.func f) #[] #[])
  | .global _ => False
theorem evW_ok {t : T} {ρ : Reg} (ht : t.get = ρ) {x : Operand} {K : Value → Prop} (h : evW ρ x K) : ∃ v, ev t x = some v ∧ K v := by
  subst ht
  unfold evW at h
  cases x with
  | tmp i => exact ⟨_, rfl, opn_ok h⟩
  | const v => exact ⟨_, rfl, h⟩
  | func f => exact ⟨_, rfl, h⟩
  | global g => exact h.elim
def evsW (ρ : Reg) (xs : List Operand) (K : List Value → Prop) : Prop :=
  match xs with
  | [] => K []
  | x :: xs => evW ρ x fun v => evsW ρ xs fun vs => K (v :: vs)
theorem evsW_ok {t : T} {ρ : Reg} (ht : t.get = ρ) : ∀ {xs : List Operand} {K : List Value → Prop}, evsW ρ xs K → ∃ vs, evs t xs = some vs ∧ K vs
  | [], K, h => ⟨[], rfl, h⟩
  | x :: xs, K, h => by
    obtain ⟨v, h1, h2⟩ := evW_ok ht h
    obtain ⟨vs, h3, h4⟩ := evsW_ok ht h2
    refine ⟨v :: vs, ?_, h4⟩
    simp [evs, h1, h3]
def evoW (ρ : Reg) (x : Option Operand) (K : Option Value → Prop) : Prop :=
  match x with
  | none => K none
  | some x => evW ρ x fun v => K (some v)
theorem evoW_ok {t : T} {ρ : Reg} (ht : t.get = ρ) {x : Option Operand} {K : Option Value → Prop} (h : evoW ρ x K) : ∃ v, evo t x = some v ∧ K v := by
  cases x with
  | none => exact ⟨_, rfl, h⟩
  | some x =>
    obtain ⟨v, h1, h2⟩ := evW_ok ht h
    refine ⟨some v, ?_, h2⟩
    simp [evo, h1]
def evpW (ρ : Reg) (xs : List (Nat × Nat × Operand)) (K : List (Nat × Nat × Value) → Prop) : Prop :=
  match xs with
  | [] => K []
  | (o, s, x) :: xs => evW ρ x fun v => evpW ρ xs fun vs => K ((o, s, v) :: vs)
theorem evpW_ok {t : T} {ρ : Reg} (ht : t.get = ρ) : ∀ {xs : List (Nat × Nat × Operand)} {K : List (Nat × Nat × Value) → Prop}, evpW ρ xs K → ∃ vs, evp t xs = some vs ∧ K vs
  | [], K, h => ⟨[], rfl, h⟩
  | (o, s, x) :: xs, K, h => by
    obtain ⟨v, h1, h2⟩ := evW_ok ht h
    obtain ⟨vs, h3, h4⟩ := evpW_ok ht h2
    refine ⟨(o, s, v) :: vs, ?_, h4⟩
    simp [evp, h1, h3]

/-- the list is laid open, its elements too -/
def opnL (l : List Value) (K : List Value → Prop) : Prop :=
  match l with
  | [] => K []
  | v :: vs => opn v fun v => opnL vs fun vs => K (v :: vs)
theorem opnL_ok : ∀ {l : List Value} {K : List Value → Prop}, opnL l K → K l
  | [], _, h => h
  | v :: vs, K, h => opnL_ok (K := fun vs => K (v :: vs)) (opn_ok h)

def kEqB : IntKind → IntKind → Bool
  | .i8, .i8 | .i16, .i16 | .i32, .i32 | .i64, .i64 | .u8, .u8 | .u16, .u16 | .u32, .u32 | .u64, .u64 => true
  | _, _ => false
theorem kEqB_eq {a b : IntKind} (h : kEqB a b = true) : a = b := by
  cases a <;> cases b <;> first | rfl | cases h

def binW (op : BinOp) (x y : Value) (K : Value → Prop) : Prop :=
  match x, y with
  | .int k a, .int k' b =>
    match op with
    | .shl => ∃ v, pureRun (Op.shift .shl k a k' b) = some v ∧ opn v K
    | .shr => ∃ v, pureRun (Op.shift .shr k a k' b) = some v ∧ opn v K
    | op => match kEqB k k' with
      | true => match op with
        | .add => K (.int k (k.wrap (a + b)))
        | .sub => K (.int k (k.wrap (a - b)))
        | .mul => K (.int k (k.wrap (a * b)))
        | .quo => b ≠ 0 ∧ K (.int k (k.wrap (a.tdiv b)))
        | .rem => b ≠ 0 ∧ K (.int k (a.tmod b))
        | .lss => (a < b → K (.bool true)) ∧ (¬ a < b → K (.bool false))
        | .leq => (a ≤ b → K (.bool true)) ∧ (¬ a ≤ b → K (.bool false))
        | .gtr => (a > b → K (.bool true)) ∧ (¬ a > b → K (.bool false))
        | .geq => (a ≥ b → K (.bool true)) ∧ (¬ a ≥ b → K (.bool false))
        | op => ∃ v, binS op (.int k a) (.int k b) = some v ∧ opn v K
      | false => False
  | _, _ => False
theorem cmp_ok {p : Prop} [Decidable p] {K : Value → Prop} (h : (p → K (.bool true)) ∧ (¬ p → K (.bool false))) : K (.bool (decide p)) := by
  by_cases e : p
  · rw [decide_eq_true e]; exact h.1 e
  · rw [decide_eq_false e]; exact h.2 e
theorem binW_ok {op : BinOp} {x y : Value} {K : Value → Prop} (h : binW op x y K) : ∃ v, binS op x y = some v ∧ K v := by
  unfold binW at h
  split at h
  · split at h
    · obtain ⟨v, h1, h2⟩ := h; exact ⟨v, by simpa only [binS] using h1, opn_ok h2⟩
    · obtain ⟨v, h1, h2⟩ := h; exact ⟨v, by simpa only [binS] using h1, opn_ok h2⟩
    · split at h
      · rename_i hk
        cases kEqB_eq hk
        split at h
        · exact ⟨_, by simp only [binS, if_true]; rfl, h⟩
        · exact ⟨_, by simp only [binS, if_true]; rfl, h⟩
        · exact ⟨_, by simp only [binS, if_true]; rfl, h⟩
        · exact ⟨_, by simp only [binS, if_true, Op.intDiv, if_neg h.1]; rfl, h.2⟩
        · exact ⟨_, by simp only [binS, if_true, Op.intDiv, if_neg h.1]; rfl, h.2⟩
        · exact ⟨_, by simp only [binS, if_true], cmp_ok h⟩
        · exact ⟨_, by simp only [binS, if_true], cmp_ok h⟩
        · exact ⟨_, by simp only [binS, if_true], cmp_ok h⟩
        · exact ⟨_, by simp only [binS, if_true], cmp_ok h⟩
        · obtain ⟨v, h1, h2⟩ := h; exact ⟨v, h1, opn_ok h2⟩
      · exact h.elim
  · exact h.elim

def eqW (k : EqK) (x y : Value) (K : Bool → Prop) : Prop :=
  match k with
  | .int => match x, y with
    | .int k a, .int k' b => match kEqB k k' with
      | true => (a = b → K true) ∧ (¬ a = b → K false)
      | false => False
    | _, _ => False
  | .agg l => ∃ b, eqS (.agg l) x y = some b ∧ match b with
    | true => K true
    | false => K false
  | k => match eqS k x y with
    | some true => K true
    | some false => K false
    | none => False
theorem eqW_ok {k : EqK} {x y : Value} {K : Bool → Prop} (h : eqW k x y K) : ∃ b, eqS k x y = some b ∧ K b := by
  unfold eqW at h
  split at h
  · split at h
    · split at h
      · rename_i hk
        cases kEqB_eq hk
        rename_i a b _
        refine ⟨a == b, by simp only [eqS, if_true], ?_⟩
        by_cases e : a = b
        · rw [beq_iff_eq.2 e]; exact h.1 e
        · rw [beq_eq_false_iff_ne.2 e]; exact h.2 e
      · exact h.elim
    · exact h.elim
  · obtain ⟨b, h1, h2⟩ := h
    refine ⟨b, h1, ?_⟩
    cases b <;> exact h2
  · split at h
    · rename_i e; exact ⟨_, e, h⟩
    · rename_i e; exact ⟨_, e, h⟩
    · exact h.elim

def notB : Bool → Bool
  | true => false
  | false => true

section
variable (R : Rec) (cx : Cx)

def opW (sl : Option Nat) (o : SOp) (ρ : Reg) (h : SHeap) (d : List Nat) (K : Value → SHeap → List Nat → Prop) : Prop :=
  match o with
  | .mov x => evW ρ x fun v => K v h d
  | .pick c a b => evW ρ c fun c => match c with
    | .bool c => match c with
      | true => evW ρ a fun v => K v h d
      | false => evW ρ b fun v => K v h d
    | _ => False
  | .alloc el pf zero => match sl with
    | none => match !pf || zero.all sc with
      | true => K (.pointer (some ⟨h.length, 0, none⟩)) (h ++ [.cells zero el pf 0 []]) d
      | false => False
    | some b => ∃ h', newS h (some b) zero el pf = some (b, h') ∧ K (.pointer (some ⟨b, 0, none⟩)) h' d
  | .box el pf x => evW ρ x fun v => opnL (cellsL v) fun l => ∃ b h', newS h sl l el pf = some (b, h') ∧ K (.pointer (some ⟨b, 0, none⟩)) h' d
  | .build zero parts => evpW ρ parts fun ps => match fillS zero ps with
    | some l => opnL l fun l => K (.agg l.toArray) h d
    | none => False
  | .buildSlice el pf zero len parts => evpW ρ parts fun ps => match fillS (repeatL zero len) ps with
    | some l => opnL l fun l => ∃ b h', newS h sl l el pf = some (b, h') ∧ K (.slice (some ⟨b, 0, none⟩) len len) h' d
    | none => False
  | .load agg x => evW ρ x fun a => match agg with
    | none => ∃ v, loadS h none a = some v ∧ opn v fun v => K v h d
    | some n => ∃ l : List Value, loadS h (some n) a = some (.agg l.toArray) ∧ opnL l fun l => K (.agg l.toArray) h d
  | .store n x v => evW ρ x fun x => evW ρ v fun v => match x with
    | .pointer (some ⟨b, o, none⟩) => match Nat.beq (cellsL v).length n with
      | true => opnL (cellsL v) fun l => ∃ h' d', storeS cx.base h d b o l = some (h', d') ∧ K udf h' d'
      | false => False
    | _ => False
  | .bin op x y => evW ρ x fun a => evW ρ y fun b => binW op a b fun v => K v h d
  | .eq k neg x y => evW ρ x fun a => evW ρ y fun b => eqW k a b fun r => match neg with
    | true => match r with
      | true => K (.bool false) h d
      | false => K (.bool true) h d
    | false => match r with
      | true => K (.bool true) h d
      | false => K (.bool false) h d
  | .un op x => evW ρ x fun v => match v with
    | .int k n => match op with
      | .neg => K (.int k (k.wrap (0 - n))) h d
      | _ => False
    | .bool b => match op with
      | .not => match b with
        | true => K (.bool false) h d
        | false => K (.bool true) h d
      | _ => False
    | _ => False
  | .conv k x => evW ρ x fun v => match v with
    | .int _ n => K (.int k (k.wrap n)) h d
    | _ => False
  | .fieldAddr off x => evW ρ x fun v => match v with
    | .pointer (some ⟨b, o, none⟩) => K (.pointer (some ⟨b, o + off, none⟩)) h d
    | _ => False
  | .field agg off x => evW ρ x fun v => match v with
    | .agg cs => match partS agg cs.toList off with
      | some v => opn v fun v => K v h d
      | none => False
    | _ => False
  | .idxArr len size x i => evW ρ x fun x => evW ρ i fun i => match x, i with
    | .pointer (some ⟨b, o, none⟩), .int _ n => (0 ≤ n ∧ n < (len : Int)) ∧ K (.pointer (some ⟨b, o + n.toNat * size, none⟩)) h d
    | _, _ => False
  | .idxSl size x i => evW ρ x fun x => evW ρ i fun i => match x, i with
    | .slice (some ⟨b, o, none⟩) len _, .int _ n => (0 ≤ n ∧ n < (len : Int)) ∧ K (.pointer (some ⟨b, o + n.toNat * size, none⟩)) h d
    | _, _ => False
  | .idx agg len size x i => evW ρ x fun x => evW ρ i fun i => match x, i with
    | .agg cs, .int _ n => (0 ≤ n ∧ n < (len : Int)) ∧ ∃ v, partS agg cs.toList (n.toNat * size) = some v ∧ opn v fun v => K v h d
    | _, _ => False
  | .slice _ size x lo hi mx => evW ρ x fun x => evoW ρ lo fun lo => evoW ρ hi fun hi => evoW ρ mx fun mx => ∃ v, sliceS size x lo hi mx = some v ∧ opn v fun v => K v h d
  | .sliceArr n size x lo hi mx => evW ρ x fun x => evoW ρ lo fun lo => evoW ρ hi fun hi => evoW ρ mx fun mx => ∃ v, sliceArrS n size x lo hi mx = some v ∧ opn v fun v => K v h d
  | .makeFunc fn first cap => evsW ρ first fun a => evsW ρ cap fun b => K (.func (.func fn) a.toArray b.toArray) h d
  | .extract x i => evW ρ x fun v => match v with
    | .tuple vs => match vs.toList[i]? with
      | some v => opn v fun v => K v h d
      | none => False
    | _ => False
  | .len x => evW ρ x fun v => match v with
    | .slice _ n _ => K (.int .i64 n) h d
    | _ => False
  | .append el pf size bytes x y => evW ρ x fun x => evW ρ y fun y => ∃ v h' d', appendS cx.base h d el pf size bytes x y = some (v, h', d') ∧ opn v fun v => K v h' d'
  | .copy size x y => evW ρ x fun x => evW ρ y fun y => ∃ v h' d', copyS cx.base h d size x y = some (v, h', d') ∧ opn v fun v => K v h' d'
  | .maxi xs => evsW ρ xs fun l => match foldS max2S l with
    | some v => opn v fun v => K v h d
    | none => False
  | .mini xs => evsW ρ xs fun l => match foldS min2S l with
    | some v => opn v fun v => K v h d
    | none => False
  | .call f args => evW ρ f fun f => evsW ρ args fun args => match f with
    | .func (.func g) first cap => ∃ v h' d', R.call g (first.toList ++ (args ++ cap.toList)) h = some (v, h', d') ∧ opn v fun v => K v h' (dirts cx.base d' d)
    | .func (.yield l) first cap => match Nat.beq first.size 0, Nat.beq cap.size 0 with
      | true, true => ∃ v h' d', R.round cx.base l args h = some (v, h', d') ∧ opn v fun v => K v h' (d' ++ d)
      | _, _ => False
    | _ => False
  | o => ∃ v h' d', (∀ t : T, t.get = ρ → opRun R cx sl o t h d = some (v, h', d')) ∧ opn v fun v => K v h' d'

theorem opW_ok {t : T} {ρ : Reg} (ht : t.get = ρ) {sl : Option Nat} {o : SOp} {h : SHeap} {d : List Nat} {K : Value → SHeap → List Nat → Prop} (hw : opW R cx sl o ρ h d K) :
    ∃ v h' d', opRun R cx sl o t h d = some (v, h', d') ∧ K v h' d' := by
  cases o with
  | mov x =>
    obtain ⟨v, h1, h2⟩ := evW_ok ht hw
    exact ⟨_, _, _, by simp only [opRun, o_mov, h1, same], h2⟩
  | pick c a b =>
    obtain ⟨v, h1, h2⟩ := evW_ok ht hw
    split at h2
    · split at h2
      · obtain ⟨v, h3, h4⟩ := evW_ok ht h2
        exact ⟨_, _, _, by simp only [opRun, o_pick, h1, h3, same, if_true], h4⟩
      · obtain ⟨v, h3, h4⟩ := evW_ok ht h2
        exact ⟨_, _, _, by simp [opRun, o_pick, h1, h3, same], h4⟩
    · exact h2.elim
  | alloc el pf zero =>
    simp only [opW] at hw
    split at hw
    · split at hw
      · rename_i e
        exact ⟨_, _, _, by simp only [opRun, o_alloc, newS, e, if_true], hw⟩
      · exact hw.elim
    · obtain ⟨h', h1, h2⟩ := hw
      exact ⟨_, _, _, by simp only [opRun, o_alloc, h1], h2⟩
  | box el pf x =>
    obtain ⟨v, h1, h2⟩ := evW_ok ht hw
    obtain ⟨b, h', h3, h4⟩ := opnL_ok h2
    exact ⟨_, _, _, by simp only [opRun, o_box, h1, h3], h4⟩
  | build zero parts =>
    obtain ⟨ps, h1, h2⟩ := evpW_ok ht hw
    split at h2
    · rename_i l hl
      exact ⟨_, _, _, by simp only [opRun, o_build, h1, hl], opnL_ok (K := fun l => K (.agg l.toArray) h d) h2⟩
    · exact h2.elim
  | buildSlice el pf zero len parts =>
    obtain ⟨ps, h1, h2⟩ := evpW_ok ht hw
    split at h2
    · rename_i l hl
      obtain ⟨b, h', h3, h4⟩ := opnL_ok h2
      exact ⟨_, _, _, by simp only [opRun, o_buildSlice, h1, hl, h3], h4⟩
    · exact h2.elim
  | load agg x =>
    obtain ⟨v, h1, h2⟩ := evW_ok ht hw
    split at h2
    · obtain ⟨v, h3, h4⟩ := h2
      exact ⟨_, _, _, by simp only [opRun, o_load, h1, h3, same], opn_ok h4⟩
    · obtain ⟨l, h3, h4⟩ := h2
      exact ⟨_, _, _, by simp only [opRun, o_load, h1, h3, same], opnL_ok (K := fun l => K (.agg l.toArray) h d) h4⟩
  | store n x v =>
    obtain ⟨x', h1, h2⟩ := evW_ok ht hw
    obtain ⟨v', h3, h4⟩ := evW_ok ht h2
    split at h4
    · split at h4
      · rename_i e
        obtain ⟨h', d', h5, h6⟩ := opnL_ok h4
        have e' : ((cellsL v').length == n) = true := beq_iff_eq.2 (Nat.eq_of_beq_eq_true e)
        exact ⟨_, _, _, by simp only [opRun, o_store, h1, h3, e', if_true, h5], h6⟩
      · exact h4.elim
    · exact h4.elim
  | bin op x y =>
    obtain ⟨x', h1, h2⟩ := evW_ok ht hw
    obtain ⟨v', h3, h4⟩ := evW_ok ht h2
    obtain ⟨v, h5, h6⟩ := binW_ok h4
    exact ⟨_, _, _, by simp only [opRun, o_bin, h1, h3, h5, same], h6⟩
  | eq k neg x y =>
    obtain ⟨x', h1, h2⟩ := evW_ok ht hw
    obtain ⟨v', h3, h4⟩ := evW_ok ht h2
    obtain ⟨b, h5, h6⟩ := eqW_ok h4
    refine ⟨.bool (if neg then !b else b), h, d, by simp only [opRun, o_eq, h1, h3, h5], ?_⟩
    cases neg <;> cases b <;> exact h6
  | un op x =>
    obtain ⟨v, h1, h2⟩ := evW_ok ht hw
    split at h2
    · split at h2
      · exact ⟨_, _, _, by simp only [opRun, o_un, h1]; rfl, h2⟩
      · exact h2.elim
    · rename_i b0
      split at h2
      · refine ⟨.bool (!b0), h, d, by simp only [opRun, o_un, h1], ?_⟩
        cases b0 <;> exact h2
      · exact h2.elim
    · exact h2.elim
  | conv k x =>
    obtain ⟨v, h1, h2⟩ := evW_ok ht hw
    split at h2
    · exact ⟨_, _, _, by simp only [opRun, o_conv, h1], h2⟩
    · exact h2.elim
  | fieldAddr off x =>
    obtain ⟨v, h1, h2⟩ := evW_ok ht hw
    split at h2
    · exact ⟨_, _, _, by simp only [opRun, o_fieldAddr, h1], h2⟩
    · exact h2.elim
  | field agg off x =>
    obtain ⟨v, h1, h2⟩ := evW_ok ht hw
    split at h2
    · split at h2
      · rename_i e
        exact ⟨_, _, _, by simp only [opRun, o_field, h1, e, same], opn_ok h2⟩
      · exact h2.elim
    · exact h2.elim
  | idxArr len size x i =>
    obtain ⟨x', h1, h2⟩ := evW_ok ht hw
    obtain ⟨v', h3, h4⟩ := evW_ok ht h2
    split at h4
    · obtain ⟨⟨h5, h6⟩, h7⟩ := h4
      exact ⟨_, _, _, by simp only [opRun, o_idxArr, h1, h3, decide_eq_true h5, decide_eq_true h6, Bool.and_true, if_true], h7⟩
    · exact h4.elim
  | idxSl size x i =>
    obtain ⟨x', h1, h2⟩ := evW_ok ht hw
    obtain ⟨v', h3, h4⟩ := evW_ok ht h2
    split at h4
    · obtain ⟨⟨h5, h6⟩, h7⟩ := h4
      exact ⟨_, _, _, by simp only [opRun, o_idxSl, h1, h3, decide_eq_true h5, decide_eq_true h6, Bool.and_true, if_true], h7⟩
    · exact h4.elim
  | idx agg len size x i =>
    obtain ⟨x', h1, h2⟩ := evW_ok ht hw
    obtain ⟨v', h3, h4⟩ := evW_ok ht h2
    split at h4
    · obtain ⟨⟨h5, h6⟩, v, h7, h8⟩ := h4
      exact ⟨_, _, _, by simp only [opRun, o_idx, h1, h3, decide_eq_true h5, decide_eq_true h6, Bool.and_true, if_true, h7, same], opn_ok h8⟩
    · exact h4.elim
  | slice el size x lo hi mx =>
    obtain ⟨x', h1, h2⟩ := evW_ok ht hw
    obtain ⟨lo', h3, h4⟩ := evoW_ok ht h2
    obtain ⟨hi', h5, h6⟩ := evoW_ok ht h4
    obtain ⟨mx', h7, v, h8, h9⟩ := evoW_ok ht h6
    exact ⟨_, _, _, by simp only [opRun, o_slice, h1, h3, h5, h7, h8, same], opn_ok h9⟩
  | sliceArr n size x lo hi mx =>
    obtain ⟨x', h1, h2⟩ := evW_ok ht hw
    obtain ⟨lo', h3, h4⟩ := evoW_ok ht h2
    obtain ⟨hi', h5, h6⟩ := evoW_ok ht h4
    obtain ⟨mx', h7, v, h8, h9⟩ := evoW_ok ht h6
    exact ⟨_, _, _, by simp only [opRun, o_sliceArr, h1, h3, h5, h7, h8, same], opn_ok h9⟩
  | makeFunc fn first cap =>
    obtain ⟨a, h1, h2⟩ := evsW_ok ht hw
    obtain ⟨b, h3, h4⟩ := evsW_ok ht h2
    exact ⟨_, _, _, by simp only [opRun, o_makeFunc, h1, h3], h4⟩
  | extract x i =>
    obtain ⟨v, h1, h2⟩ := evW_ok ht hw
    split at h2
    · split at h2
      · rename_i e
        exact ⟨_, _, _, by simp only [opRun, o_extract, h1, e, same], opn_ok h2⟩
      · exact h2.elim
    · exact h2.elim
  | len x =>
    obtain ⟨v, h1, h2⟩ := evW_ok ht hw
    split at h2
    · exact ⟨_, _, _, by simp only [opRun, o_len, h1], h2⟩
    · exact h2.elim
  | append el pf size bytes x y =>
    obtain ⟨x', h1, h2⟩ := evW_ok ht hw
    obtain ⟨v', h3, v, h', d', h4, h5⟩ := evW_ok ht h2
    exact ⟨_, _, _, by simp only [opRun, o_append, h1, h3, h4], opn_ok h5⟩
  | copy size x y =>
    obtain ⟨x', h1, h2⟩ := evW_ok ht hw
    obtain ⟨v', h3, v, h', d', h4, h5⟩ := evW_ok ht h2
    exact ⟨_, _, _, by simp only [opRun, o_copy, h1, h3, h4], opn_ok h5⟩
  | maxi xs =>
    obtain ⟨l, h1, h2⟩ := evsW_ok ht hw
    split at h2
    · rename_i e
      exact ⟨_, _, _, by simp only [opRun, o_maxi, h1, e, same], opn_ok h2⟩
    · exact h2.elim
  | mini xs =>
    obtain ⟨l, h1, h2⟩ := evsW_ok ht hw
    split at h2
    · rename_i e
      exact ⟨_, _, _, by simp only [opRun, o_mini, h1, e, same], opn_ok h2⟩
    · exact h2.elim
  | call f args =>
    obtain ⟨f', h1, h2⟩ := evW_ok ht hw
    obtain ⟨l, h3, h4⟩ := evsW_ok ht h2
    split at h4
    · obtain ⟨v, h', d', h5, h6⟩ := h4
      rw [← List.append_assoc] at h5
      exact ⟨_, _, _, by simp only [opRun, o_call, h1, h3, callS, h5], opn_ok h6⟩
    · split at h4
      · rename_i e1 e2
        obtain ⟨v, h', d', h5, h6⟩ := h4
        rename_i first cap _ _
        have e1' : (first.size == 0) = true := beq_iff_eq.2 (Nat.eq_of_beq_eq_true e1)
        have e2' : (cap.size == 0) = true := beq_iff_eq.2 (Nat.eq_of_beq_eq_true e2)
        exact ⟨_, _, _, by simp only [opRun, o_call, h1, h3, callS, e1', e2', Bool.and_true, if_true, h5], opn_ok h6⟩
      · exact h4.elim
    · exact h4.elim
  | nilCheck x => obtain ⟨v, h', d', h1, h2⟩ := hw; exact ⟨v, h', d', h1 t ht, opn_ok h2⟩
  | makeSlice el pf bytes zero len cap => obtain ⟨v, h', d', h1, h2⟩ := hw; exact ⟨v, h', d', h1 t ht, opn_ok h2⟩
  | makeMap pf => obtain ⟨v, h', d', h1, h2⟩ := hw; exact ⟨v, h', d', h1 t ht, opn_ok h2⟩
  | lookup q zero ok m k => obtain ⟨v, h', d', h1, h2⟩ := hw; exact ⟨v, h', d', h1 t ht, opn_ok h2⟩
  | mapUpdate q m k v => obtain ⟨v, h', d', h1, h2⟩ := hw; exact ⟨v, h', d', h1 t ht, opn_ok h2⟩
  | mapLen x => obtain ⟨v, h', d', h1, h2⟩ := hw; exact ⟨v, h', d', h1 t ht, opn_ok h2⟩
  | idxStr x i => obtain ⟨v, h', d', h1, h2⟩ := hw; exact ⟨v, h', d', h1 t ht, opn_ok h2⟩
  | clear size zero x => obtain ⟨v, h', d', h1, h2⟩ := hw; exact ⟨v, h', d', h1 t ht, opn_ok h2⟩

def logW (o : SOper) (ρ : Reg) (v : Value) (lg : List LogE) (K : List LogE → Prop) : Prop :=
  match o.lg with
  | false => K lg
  | true => match o.op with
    | .load agg x => evW ρ x fun a => K (⟨o.id, agg, a, v⟩ :: lg)
    | _ => K lg
theorem logW_ok {t : T} {ρ : Reg} (ht : t.get = ρ) {o : SOper} {v : Value} {lg : List LogE} {K : List LogE → Prop} (h : logW o ρ v lg K) : K (logOf o t v ++ lg) := by
  unfold logW at h
  unfold logOf
  split at h
  · rename_i e; rw [e]; exact h
  · rename_i e
    rw [e, if_pos rfl]
    split at h
    · rename_i agg x e2
      obtain ⟨a, h1, h2⟩ := evW_ok ht h
      simp only [e2, h1]
      exact h2
    · rename_i hn
      split
      · rename_i agg x e3
        exact (hn agg x e3).elim
      · exact h

def chkW (lg : List LogE) (ids : List Nat) (h : SHeap) (K : Prop) : Prop :=
  match ids with
  | [] => K
  | ids => chkAll lg ids h = true ∧ K
theorem chkW_ok {lg : List LogE} {ids : List Nat} {h : SHeap} {K : Prop} (hw : chkW lg ids h K) : chkAll lg ids h = true ∧ K := by
  unfold chkW at hw
  split at hw
  · exact ⟨by simp [chkAll], hw⟩
  · exact hw

def slotW (rb : Nat) : Option Nat → Option Nat
  | none => none
  | some k => some (rb + k)

def opsW (rb : Nat) (ops : List SOper) (lg : List LogE) (ρ : Reg) (h : SHeap) (d : List Nat) (K : Reg → SHeap → List Nat → Prop) : Prop :=
  match ops with
  | [] => K ρ h d
  | o :: r => match o.gd with
    | none => opW R cx (slotW rb o.sl) o.op ρ h d fun v h' d' => chkW lg o.chk h' (logW o ρ v lg fun lg' => opsW rb r lg' (updO ρ o.dst v) h' d' K)
    | some (g, w) => opn (ρ g) fun b => match b with
      | .bool b => match b, w with
        | true, true => opW R cx (slotW rb o.sl) o.op ρ h d fun v h' d' => chkW lg o.chk h' (logW o ρ v lg fun lg' => opsW rb r lg' (updO ρ o.dst v) h' d' K)
        | false, false => opW R cx (slotW rb o.sl) o.op ρ h d fun v h' d' => chkW lg o.chk h' (logW o ρ v lg fun lg' => opsW rb r lg' (updO ρ o.dst v) h' d' K)
        | _, _ => opsW rb r lg (updO ρ o.dst udf) h d K
      | _ => False

def okD (N : Nat) : Option Nat → Bool
  | none => true
  | some k => Nat.blt (k + 1) N
def okOs (N : Nat) (ops : List SOper) : Bool := ops.all fun o => okD N o.dst
def okC (N : Nat) : SCode → Bool
  | .skip | .exit _ | .ret => true
  | .region _ ops => okOs N ops
  | .seq a b => okC N a && okC N b
  | .cond _ a b => okC N a && okC N b
  | .block _ c => okC N c
  | .loop c => okC N c
  | .rangeFunc _ ps a b => ps.all (fun k => Nat.blt (k + 1) N) && okC N a && okC N b

theorem sput_get {t : T} {dep : Nat} {k : Option Nat} {v : Value} {ρ : Reg} (ht : t.get = ρ) (hf : Full dep t) (hk : okD (2 ^ dep) k = true) : (sput t k v).get = updO ρ k v ∧ Full dep (sput t k v) := by
  subst ht
  cases k with
  | none => exact ⟨rfl, hf⟩
  | some k =>
    have : k + 1 < 2 ^ dep := by simpa [okD] using hk
    exact ⟨get_set' v hf this, full_set hf⟩

theorem opsW_ok {dep : Nat} {rb : Nat} : ∀ {ops : List SOper} {lg : List LogE} {t : T} {ρ : Reg} {ms : List Nat} {h : SHeap} {d : List Nat} {K : Reg → SHeap → List Nat → Prop},
    okOs (2 ^ dep) ops = true → Full dep t → t.get = ρ → opsW R cx rb ops lg ρ h d K →
    ∃ t' h' d', opsRun R cx rb ops lg ⟨t, ms, h, d⟩ = some ⟨t', ms, h', d'⟩ ∧ Full dep t' ∧ K t'.get h' d'
  | [], lg, t, ρ, ms, h, d, K, ok, hf, ht, hw => ⟨t, h, d, rfl, hf, by subst ht; exact hw⟩
  | o :: r, lg, t, ρ, ms, h, d, K, ok, hf, ht, hw => by
    have ok' : okD (2 ^ dep) o.dst = true ∧ okOs (2 ^ dep) r = true := by simpa [okOs] using ok
    have main : wantedS t o.gd = true → opW R cx (slotW rb o.sl) o.op ρ h d (fun v h' d' => chkW lg o.chk h' (logW o ρ v lg fun lg' => opsW R cx rb r lg' (updO ρ o.dst v) h' d' K)) →
        ∃ t' h' d', opsRun R cx rb (o :: r) lg ⟨t, ms, h, d⟩ = some ⟨t', ms, h', d'⟩ ∧ Full dep t' ∧ K t'.get h' d' := by
      intro hwant hop
      obtain ⟨v, h1, d1, e1, k1⟩ := opW_ok R cx ht hop
      obtain ⟨k2, k3⟩ := chkW_ok k1
      have k4 := logW_ok ht k3
      obtain ⟨g1, g2⟩ := sput_get (v := v) ht hf ok'.1
      obtain ⟨t', h', d', e2, e3, e4⟩ := opsW_ok (ms := ms) ok'.2 g2 g1 k4
      refine ⟨t', h', d', ?_, e3, e4⟩
      rw [opsRun_cons]
      unfold stepO
      have es : slotOf rb o.sl = slotW rb o.sl := by cases o.sl <;> rfl
      simp only [hwant, if_true, es, e1, k2]
      exact e2
    have skip : wantedS t o.gd = false → opsW R cx rb r lg (updO ρ o.dst udf) h d K →
        ∃ t' h' d', opsRun R cx rb (o :: r) lg ⟨t, ms, h, d⟩ = some ⟨t', ms, h', d'⟩ ∧ Full dep t' ∧ K t'.get h' d' := by
      intro hwant hop
      obtain ⟨g1, g2⟩ := sput_get (v := udf) ht hf ok'.1
      obtain ⟨t', h', d', e2, e3, e4⟩ := opsW_ok (ms := ms) ok'.2 g2 g1 hop
      refine ⟨t', h', d', ?_, e3, e4⟩
      rw [opsRun_cons]
      unfold stepO
      simp only [hwant, if_false, Bool.false_eq_true]
      exact e2
    unfold opsW at hw
    split at hw
    · rename_i e
      exact main (by rw [e]; rfl) hw
    · rename_i g w e
      have hw := opn_ok (K := fun b => _) hw
      split at hw
      · rename_i b hb
        have hb' : tget t g = .bool b := by rw [← hb, ← ht]; rfl
        split at hw
        · exact main (by rw [e]; simp only [wantedS, hb']; rfl) hw
        · exact main (by rw [e]; simp only [wantedS, hb']; rfl) hw
        · rename_i n1 n2
          refine skip ?_ hw
          rw [e]
          simp only [wantedS, hb']
          cases b <;> cases w <;> first | rfl | exact (n1 rfl rfl).elim | exact (n2 rfl rfl).elim
      · exact hw.elim

/-- a loop that ends well -/
def LoopW (dep : Nat) (c : SCode) (ρ : Reg) (ms : List Nat) (h : SHeap) (d : List Nat) (Q : Ex → Reg → List Nat → SHeap → List Nat → Prop) : Prop :=
  ∀ t : T, Full dep t → t.get = ρ → ∃ ex t' ms' h' d', R.loop cx c ⟨t, ms, h, d⟩ = some (ex, ⟨t', ms', h', d'⟩) ∧ Full dep t' ∧ Q ex t'.get ms' h' d'
/-- any code that ends well -/
def RunW (dep : Nat) (c : SCode) (ρ : Reg) (ms : List Nat) (h : SHeap) (d : List Nat) (Q : Ex → Reg → List Nat → SHeap → List Nat → Prop) : Prop :=
  ∀ t : T, Full dep t → t.get = ρ → ∃ ex t' ms' h' d', exec R cx c ⟨t, ms, h, d⟩ = some (ex, ⟨t', ms', h', d'⟩) ∧ Full dep t' ∧ Q ex t'.get ms' h' d'

def WP (dep : Nat) (c : SCode) (ρ : Reg) (ms : List Nat) (h : SHeap) (d : List Nat) (K : Ex → Reg → List Nat → SHeap → List Nat → Prop) : Prop :=
  match c with
  | .skip => K .normal ρ ms h d
  | .region n ops => match n with
    | 0 => opsW R cx h.length ops [] ρ h d fun ρ' h' d' => K .normal ρ' ms h' d'
    | n => opsW R cx h.length ops [] ρ (h ++ List.replicate n SO.gone) d fun ρ' h' d' => K .normal ρ' ms h' d'
  | .seq a b => WP dep a ρ ms h d fun ex ρ' ms' h' d' => match ex with
    | .normal => WP dep b ρ' ms' h' d' K
    | ex => K ex ρ' ms' h' d'
  | .cond c a b => evW ρ c fun v => match v with
    | .bool v => match v with
      | true => WP dep a ρ ms h d K
      | false => WP dep b ρ ms h d K
    | _ => False
  | .block id c => WP dep c ρ ms h d fun ex ρ' ms' h' d' => match ex with
    | .exit j => match Nat.beq j id with
      | true => K .normal ρ' ms' h' d'
      | false => K (.exit j) ρ' ms' h' d'
    | ex => K ex ρ' ms' h' d'
  | .loop c => LoopW R cx dep c ρ ms h d K
  | .exit id => K (.exit id) ρ ms h d
  | .ret => K .ret ρ ms h d
  | .rangeFunc f ps a b => RunW R cx dep (.rangeFunc f ps a b) ρ ms h d K

theorem WP_ok {dep : Nat} : ∀ {c : SCode} {ρ : Reg} {ms : List Nat} {h : SHeap} {d : List Nat} {K : Ex → Reg → List Nat → SHeap → List Nat → Prop},
    okC (2 ^ dep) c = true → WP R cx dep c ρ ms h d K → RunW R cx dep c ρ ms h d K := by
  intro c
  induction c with
  | skip => intro ρ ms h d K ok hw t hf ht; subst ht; exact ⟨_, _, _, _, _, rfl, hf, hw⟩
  | exit id => intro ρ ms h d K ok hw t hf ht; subst ht; exact ⟨_, _, _, _, _, rfl, hf, hw⟩
  | ret => intro ρ ms h d K ok hw t hf ht; subst ht; exact ⟨_, _, _, _, _, rfl, hf, hw⟩
  | region n ops =>
    intro ρ ms h d K ok hw t hf ht
    have key : ∃ t' h' d', opsRun R cx h.length ops [] ⟨t, ms, h ++ List.replicate n SO.gone, d⟩ = some ⟨t', ms, h', d'⟩ ∧ Full dep t' ∧ K .normal t'.get ms h' d' := by
      cases n with
      | zero =>
        have := opsW_ok R cx (ms := ms) ok hf ht hw
        simpa using this
      | succ n => exact opsW_ok R cx (ms := ms) ok hf ht hw
    obtain ⟨t', h', d', h1, h2, h3⟩ := key
    exact ⟨_, _, _, _, _, by simp only [exec, h1], h2, h3⟩
  | seq a b iha ihb =>
    intro ρ ms h d K ok hw t hf ht
    have ok' : okC (2 ^ dep) a = true ∧ okC (2 ^ dep) b = true := by simpa [okC] using ok
    obtain ⟨ex, t1, ms1, h1, d1, e1, f1, k1⟩ := iha ok'.1 hw t hf ht
    cases ex with
    | normal =>
      obtain ⟨ex, t2, ms2, h2, d2, e2, f2, k2⟩ := ihb ok'.2 k1 t1 f1 rfl
      exact ⟨_, _, _, _, _, by simp only [exec, e1, e2], f2, k2⟩
    | exit id => exact ⟨_, _, _, _, _, by simp only [exec, e1], f1, k1⟩
    | ret => exact ⟨_, _, _, _, _, by simp only [exec, e1], f1, k1⟩
  | cond c a b iha ihb =>
    intro ρ ms h d K ok hw t hf ht
    have ok' : okC (2 ^ dep) a = true ∧ okC (2 ^ dep) b = true := by simpa [okC] using ok
    obtain ⟨v, e1, k1⟩ := evW_ok ht hw
    split at k1
    · split at k1
      · obtain ⟨ex, t2, ms2, h2, d2, e2, f2, k2⟩ := iha ok'.1 k1 t hf ht
        exact ⟨_, _, _, _, _, by simp only [exec, e1, if_true, e2], f2, k2⟩
      · obtain ⟨ex, t2, ms2, h2, d2, e2, f2, k2⟩ := ihb ok'.2 k1 t hf ht
        exact ⟨_, _, _, _, _, by simp only [exec, e1, if_false, Bool.false_eq_true, e2], f2, k2⟩
    · exact k1.elim
  | block id c ih =>
    intro ρ ms h d K ok hw t hf ht
    obtain ⟨ex, t1, ms1, h1, d1, e1, f1, k1⟩ := ih ok hw t hf ht
    cases ex with
    | exit j =>
      dsimp only at k1
      by_cases hj : (j == id) = true
      · rw [show Nat.beq j id = true from by rw [eq_of_beq hj]; exact Nat.beq_refl id] at k1
        exact ⟨_, _, _, _, _, by simp only [exec, e1, hj, if_true], f1, k1⟩
      · rw [show Nat.beq j id = false from by
          cases e : Nat.beq j id
          · rfl
          · exact (hj (beq_iff_eq.2 (Nat.eq_of_beq_eq_true e))).elim] at k1
        exact ⟨_, _, _, _, _, by simp only [exec, e1, hj, if_false, Bool.false_eq_true], f1, k1⟩
    | normal => exact ⟨_, _, _, _, _, by simp only [exec, e1], f1, k1⟩
    | ret => exact ⟨_, _, _, _, _, by simp only [exec, e1], f1, k1⟩
  | loop c ih =>
    intro ρ ms h d K ok hw t hf ht
    exact hw t hf ht
  | rangeFunc f ps a b iha ihb =>
    intro ρ ms h d K ok hw
    exact hw
end

theorem LoopW.imp {R : Rec} {cx : Cx} {dep : Nat} {c : SCode} {ρ : Reg} {ms : List Nat} {h : SHeap} {d : List Nat} {Q Q' : Ex → Reg → List Nat → SHeap → List Nat → Prop} (w : LoopW R cx dep c ρ ms h d Q)
    (hq : ∀ ex ρ' ms' h' d', Q ex ρ' ms' h' d' → Q' ex ρ' ms' h' d') : LoopW R cx dep c ρ ms h d Q' := by
  intro t hf ht
  obtain ⟨ex, t', ms', h', d', e, f, k⟩ := w t hf ht
  exact ⟨ex, t', ms', h', d', e, f, hq _ _ _ _ _ k⟩

section
variable {FT : FuncId → Option SFunc} {C : FuncId → List Value → Option Value}

/-- a loop with a measure -/
theorem loop_rule {cx : Cx} {dep : Nat} {c : SCode} (ok : okC (2 ^ dep) c = true) {Q : Ex → Reg → List Nat → SHeap → List Nat → Prop} (I : Nat → Reg → List Nat → SHeap → List Nat → Prop)
    (step : ∀ k ρ ms h d, I k ρ ms h d → WP (big FT C) cx dep c ρ ms h d (fun ex ρ' ms' h' d' => match ex with
      | .normal => ∃ k', k' < k ∧ I k' ρ' ms' h' d'
      | ex => Q ex ρ' ms' h' d')) :
    ∀ k ρ ms h d, I k ρ ms h d → LoopW (big FT C) cx dep c ρ ms h d Q := by
  intro k
  induction k using Nat.strongRecOn with
  | _ k ih =>
    intro ρ ms h d hi t hf ht
    obtain ⟨ex, t1, ms1, h1, d1, e1, f1, k1⟩ := WP_ok _ _ ok (step k ρ ms h d hi) t hf ht
    cases ex with
    | normal =>
      obtain ⟨k', hk, hi'⟩ := k1
      obtain ⟨ex, t2, ms2, h2, d2, e2, f2, k2⟩ := ih k' hk _ _ _ _ hi' t1 f1 rfl
      exact ⟨ex, t2, ms2, h2, d2, loop_next e1 e2, f2, k2⟩
    | exit id => exact ⟨_, _, _, _, _, loop_exit e1, f1, k1⟩
    | ret => exact ⟨_, _, _, _, _, loop_ret e1, f1, k1⟩

/-- the registers at a call's beginning -/
def argR (args : List Value) : Reg := fun i => match args[i]? with
  | some v => v
  | none => udf

theorem blank_get : ∀ (n i : Nat), (T.blank n).get i = udf := by
  intro n
  induction n with
  | zero => intro i; rfl
  | succ n ih =>
    intro i
    cases i with
    | zero => rfl
    | succ m => simp only [T.blank, T.get]; split <;> exact ih _
theorem fill_all {dep : Nat} : ∀ (args : List Value) (t : T) (i : Nat), Full dep t → i + args.length < 2 ^ dep → Full dep (t.fill i args) ∧ ∀ j, (t.fill i args).get j = if j < i then t.get j else match args[j - i]? with
    | some v => v
    | none => t.get j
  | [], t, i, hf, _ => ⟨hf, fun j => by simp [T.fill]⟩
  | v :: vs, t, i, hf, hl => by
    have hl' : i + vs.length + 1 < 2 ^ dep := by simpa [Nat.add_assoc] using hl
    obtain ⟨h1, h2⟩ := fill_all vs (t.set i v) (i + 1) (full_set hf) (by omega)
    refine ⟨h1, fun j => ?_⟩
    show ((t.set i v).fill (i + 1) vs).get j = _
    rw [h2 j]
    have hg := get_set (t := t) v j hf (show i + 1 < 2 ^ dep by omega)
    by_cases e1 : j < i
    · rw [if_pos (by omega), if_pos e1, hg, upd_ne _ _ (by omega)]
    · rw [if_neg e1]
      by_cases e2 : j = i
      · subst e2
        rw [if_pos (by omega), hg, upd_eq]
        simp
      · rw [if_neg (by omega)]
        have e3 : j - i = (j - (i + 1)) + 1 := by omega
        rw [e3, List.getElem?_cons_succ]
        split
        · rfl
        · rw [hg, upd_ne _ _ e2]
theorem args_get {dep : Nat} (args : List Value) (hl : args.length < 2 ^ dep) : Full dep ((T.blank dep).fill 0 args) ∧ ((T.blank dep).fill 0 args).get = argR args := by
  obtain ⟨h1, h2⟩ := fill_all args (T.blank dep) 0 (full_blank dep) (by omega)
  refine ⟨h1, funext fun j => ?_⟩
  rw [h2 j, if_neg (by omega)]
  simp only [Nat.sub_zero, blank_get, argR]

def resW (ρ : Reg) (h : SHeap) (rs : List SRes) (K : List Value → Prop) : Prop :=
  match rs with
  | [] => K []
  | .tmp i :: r => opn (ρ i) fun v => resW ρ h r fun l => K (v :: l)
  | .cell agg i :: r => opn (ρ i) fun a => ∃ v, loadS h agg a = some v ∧ opn v fun v => resW ρ h r fun l => K (v :: l)
theorem resW_ok {t : T} {ρ : Reg} (ht : t.get = ρ) {h : SHeap} : ∀ {rs : List SRes} {K : List Value → Prop}, resW ρ h rs K → ∃ l, resS t h rs = some l ∧ K l
  | [], K, hw => ⟨[], rfl, hw⟩
  | .tmp i :: r, K, hw => by
    obtain ⟨l, h1, h2⟩ := resW_ok ht (opn_ok (K := fun v => resW ρ h r fun l => K (v :: l)) hw)
    refine ⟨_, ?_, h2⟩
    simp only [resS, h1]
    rw [show tget t i = ρ i by rw [← ht]; rfl]
  | .cell agg i :: r, K, hw => by
    obtain ⟨v, h0, h0'⟩ := opn_ok (K := fun a => ∃ v, loadS h agg a = some v ∧ opn v fun v => resW ρ h r fun l => K (v :: l)) hw
    obtain ⟨l, h1, h2⟩ := resW_ok ht (opn_ok (K := fun v => resW ρ h r fun l => K (v :: l)) h0')
    refine ⟨_, ?_, h2⟩
    have : tget t i = ρ i := by rw [← ht]; rfl
    simp only [resS, h1, this, h0]

/-- the end of a call -/
def endW (base : Nat) (h : SHeap) (d : List Nat) (r : Value × SHeap × List Nat) (l : List Value) : Prop :=
  match d with
  | [] => ∃ v h', gcS base (oneV l) h = some (v, h') ∧ r = (v, h', [])
  | d => r = (oneV l, h, d)
def finW (rs : List SRes) (base : Nat) (ρ : Reg) (ms : List Nat) (h : SHeap) (d : List Nat) (r : Value × SHeap × List Nat) : Prop :=
  match ms with
  | [] => resW ρ h rs fun l => endW base h d r l
  | ms => ∃ h2, shut h ms = some h2 ∧ resW ρ h2 rs fun l => endW base h2 d r l
theorem finW_ok {t : T} {ρ : Reg} (ht : t.get = ρ) {sf : SFunc} {base : Nat} {ms : List Nat} {h : SHeap} {d : List Nat} {r : Value × SHeap × List Nat} (hw : finW sf.res base ρ ms h d r) : fin sf base ⟨t, ms, h, d⟩ = some r := by
  have key : ∀ h2, resW ρ h2 sf.res (fun l => endW base h2 d r l) → shut h ms = some h2 → fin sf base ⟨t, ms, h, d⟩ = some r := by
    intro h2 k1 k2
    obtain ⟨l, h3, h4⟩ := resW_ok ht k1
    unfold fin
    simp only [k2, h3]
    cases d with
    | nil =>
      obtain ⟨v, h', h5, h6⟩ := h4
      simp [h5, h6, fV_eq, fH_eq]
    | cons a as => simp [endW] at h4 ⊢; exact h4.symm
  cases ms with
  | nil => exact key h hw rfl
  | cons a as =>
    obtain ⟨h2, k1, k2⟩ := hw
    exact key h2 k2 k1

def isEnd : Ex → Bool
  | .normal | .ret => true
  | _ => false

/-- a call -/
theorem call_rule {f : FuncId} {args : List Value} {h : SHeap} {r : Value × SHeap × List Nat} (sf : SFunc) (hf : FT f = some sf) (hC : C f args = none) (hl : Nat.blt args.length (2 ^ sf.dep) = true) (hok : okC (2 ^ sf.dep) sf.body = true)
    (hw : WP (big FT C) ⟨h.length, none, f⟩ sf.dep sf.body (argR args) [] h [] (fun ex ρ ms h' d => isEnd ex = true ∧ finW sf.res h.length ρ ms h' d r)) : (big FT C).call f args h = some r := by
  refine big_call hC ?_
  unfold stepCall
  rw [hf]
  simp only [hl, if_true, fNat_eq, fFill_eq]
  obtain ⟨k1, k2⟩ := args_get (dep := sf.dep) args (by simpa using hl)
  obtain ⟨ex, t', ms', h', d', e, f1, k, k3⟩ := WP_ok _ _ hok hw _ k1 k2
  rw [e]
  cases ex with
  | normal => exact finW_ok rfl k3
  | ret => exact finW_ok rfl k3
  | exit id => cases k

/-- the shadow of a value that bears no address -/
theorem ptrs_flat : ∀ (n : Nat) (v : Value), flat n v = true → ptrs n v = []
  | 0, v, h => by cases v <;> first | rfl | cases h
  | n + 1, v, h => by
    cases v with
    | agg cs =>
      simp only [flat] at h
      simp only [ptrs, List.flatMap_eq_nil_iff]
      exact fun x hx => ptrs_flat n x (List.all_eq_true.1 h x hx)
    | tuple cs =>
      simp only [flat] at h
      simp only [ptrs, List.flatMap_eq_nil_iff]
      exact fun x hx => ptrs_flat n x (List.all_eq_true.1 h x hx)
    | bool b => rfl
    | int k n => rfl
    | string s => rfl
    | _ => simp [flat] at h
theorem mapO_id {f : Value → Option Value} : ∀ (l : List Value), (∀ x ∈ l, f x = some x) → mapO f l = some l
  | [], _ => rfl
  | a :: as, h => by
    simp [mapO, h a (by simp), mapO_id as (fun x hx => h x (by simp [hx]))]
theorem renV_flat {base : Nat} {K : List Nat} : ∀ (n : Nat) (v : Value), flat n v = true → renV base K n v = some v
  | 0, v, h => by cases v <;> first | rfl | cases h
  | n + 1, v, h => by
    cases v with
    | agg cs =>
      simp only [flat] at h
      simp [renV, mapO_id _ (fun x hx => renV_flat n x (List.all_eq_true.1 h x hx))]
    | tuple cs =>
      simp only [flat] at h
      simp [renV, mapO_id _ (fun x hx => renV_flat n x (List.all_eq_true.1 h x hx))]
    | bool b => rfl
    | int k n => rfl
    | string s => rfl
    | _ => simp [flat] at h
theorem gc_flat {base : Nat} {v : Value} {h : SHeap} (hv : flat 3 v = true) : gcS base v h = some (v, h.take base) := by
  unfold gcS
  simp only [ptrs_flat 3 v hv, renV_flat 3 v hv, reach, mapO, List.append_nil]
/-- the end of a call that returns a value without addresses -/
theorem end_flat {base : Nat} {l : List Value} {h h0 : SHeap} (hv : flat 3 (oneV l) = true) (hh : h.take base = h0) : endW base h [] (oneV l, h0, []) l :=
  ⟨_, _, gc_flat hv, by rw [hh]⟩
end
end Go.Proofs.Ytecncmmkghmojaa.Sh
