/- The shadow machine on symbolic states: equations by which simp runs it. -/
import Derived.Test.YtecncmmkghmojaaShZj
set_option linter.all false
namespace Go.Proofs.Ytecncmmkghmojaa.Sh
open Go
set_option linter.unusedVariables false

def evR (ρ : Reg) : Operand → Option Value
  | .tmp i => some (ρ i)
  | .const v => some v
  | .func f => some (.func (.func f) #[] #[])
  | .global _ => none
theorem evR_tmp (ρ : Reg) (i : Nat) : evR ρ (.tmp i) = some (ρ i) := (rfl)
theorem evR_const (ρ : Reg) (v : Value) : evR ρ (.const v) = some v := (rfl)
theorem evR_func (ρ : Reg) (f : FuncId) : evR ρ (.func f) = some (.func (.func f) #[] #[]) := (rfl)
theorem ev_evR (t : T) : ev t = evR t.get := funext fun x => by cases x <;> rfl
theorem upd_get (ρ : Reg) (k : Nat) (v : Value) (j : Nat) : upd ρ k v j = if j = k then v else ρ j := by
  by_cases e : j = k
  · subst e; rw [upd_eq, if_pos rfl]
  · rw [upd_ne _ _ e, if_neg e]

abbrev Evl := Operand → Option Value
def evsE (e : Evl) : List Operand → Option (List Value)
  | [] => some []
  | x :: xs => match e x, evsE e xs with
    | some v, some vs => some (v :: vs)
    | _, _ => none
def evoE (e : Evl) : Option Operand → Option (Option Value)
  | none => some none
  | some x => match e x with
    | some v => some (some v)
    | none => none
def evpE (e : Evl) : List (Nat × Nat × Operand) → Option (List (Nat × Nat × Value))
  | [] => some []
  | (o, s, x) :: r => match e x, evpE e r with
    | some v, some vs => some ((o, s, v) :: vs)
    | _, _ => none
theorem evs_E (t : T) : ∀ xs, evs t xs = evsE (ev t) xs
  | [] => rfl
  | x :: xs => by simp only [evs, evsE, evs_E t xs]; rfl
theorem evo_E (t : T) : ∀ x, evo t x = evoE (ev t) x
  | none => rfl
  | some x => rfl
theorem evp_E (t : T) : ∀ xs, evp t xs = evpE (ev t) xs
  | [] => rfl
  | (o, s, x) :: xs => by simp only [evp, evpE, evp_E t xs]; rfl
theorem evsE_nil (e : Evl) : evsE e [] = some [] := (rfl)
theorem evsE_cons (e : Evl) (x : Operand) (xs : List Operand) : evsE e (x :: xs) = match e x, evsE e xs with
    | some v, some vs => some (v :: vs)
    | _, _ => none := (rfl)
theorem evoE_none (e : Evl) : evoE e none = some none := (rfl)
theorem evoE_some (e : Evl) (x : Operand) : evoE e (some x) = match e x with
    | some v => some (some v)
    | none => none := (rfl)
theorem evpE_nil (e : Evl) : evpE e [] = some [] := (rfl)
theorem evpE_cons (e : Evl) (o s : Nat) (x : Operand) (r : List (Nat × Nat × Operand)) : evpE e ((o, s, x) :: r) = match e x, evpE e r with
    | some v, some vs => some ((o, s, v) :: vs)
    | _, _ => none := (rfl)

section
variable (R : Rec) (cx : Cx)

/-- an operation, its operands read by e -/
def opE (e : Evl) (sl : Option Nat) (o : SOp) (h : SHeap) (d : List Nat) : Option (Value × SHeap × List Nat) :=
  match o with
  | .mov x => same (e x) h d
  | .pick c a b => match e c with
    | some (.bool c) => same (if c then e a else e b) h d
    | _ => none
  | .alloc el pf zero => match newS h sl zero el pf with
    | some (b, h') => some (.pointer (some ⟨b, 0, none⟩), h', d)
    | none => none
  | .box el pf x => match e x with
    | some v => match newS h sl (cellsL v) el pf with
      | some (b, h') => some (.pointer (some ⟨b, 0, none⟩), h', d)
      | none => none
    | none => none
  | .build zero parts => match evpE e parts with
    | some ps => match fillS zero ps with
      | some l => some (.agg l.toArray, h, d)
      | none => none
    | none => none
  | .buildSlice el pf zero len parts => match evpE e parts with
    | some ps => match fillS (repeatL zero len) ps with
      | some l => match newS h sl l el pf with
        | some (b, h') => some (.slice (some ⟨b, 0, none⟩) len len, h', d)
        | none => none
      | none => none
    | none => none
  | .load agg x => match e x with
    | some a => same (loadS h agg a) h d
    | none => none
  | .store n x v => match e x, e v with
    | some (.pointer (some ⟨b, o, none⟩)), some v =>
      if (cellsL v).length == n then
        match storeS cx.base h d b o (cellsL v) with
        | some (h', d') => some (udf, h', d')
        | none => none
      else none
    | _, _ => none
  | .bin op x y => match e x, e y with
    | some a, some b => same (binS op a b) h d
    | _, _ => none
  | .eq k neg x y => match e x, e y with
    | some a, some b => match eqS k a b with
      | some r => some (.bool (if neg then !r else r), h, d)
      | none => none
    | _, _ => none
  | .un op x => match e x with
    | some (.int k n) => (match op with | .neg => same (pureRun (Op.unary .neg (.int k n))) h d | .xor => same (pureRun (Op.unary .xor (.int k n))) h d | _ => none)
    | some (.bool b) => (match op with | .not => some (.bool (!b), h, d) | _ => none)
    | _ => none
  | .conv k x => match e x with
    | some (.int _ n) => some (.int k (k.wrap n), h, d)
    | _ => none
  | .fieldAddr off x => match e x with
    | some (.pointer (some ⟨b, o, none⟩)) => some (.pointer (some ⟨b, o + off, none⟩), h, d)
    | _ => none
  | .field agg off x => match e x with
    | some (.agg cs) => same (partS agg cs.toList off) h d
    | _ => none
  | .idxArr len size x i => match e x, e i with
    | some (.pointer (some ⟨b, o, none⟩)), some (.int _ n) =>
      if decide (0 ≤ n) && decide (n < (len : Int)) then some (.pointer (some ⟨b, o + n.toNat * size, none⟩), h, d) else none
    | _, _ => none
  | .idxSl size x i => match e x, e i with
    | some (.slice (some ⟨b, o, none⟩) len _), some (.int _ n) =>
      if decide (0 ≤ n) && decide (n < (len : Int)) then some (.pointer (some ⟨b, o + n.toNat * size, none⟩), h, d) else none
    | _, _ => none
  | .idx agg len size x i => match e x, e i with
    | some (.agg cs), some (.int _ n) =>
      if decide (0 ≤ n) && decide (n < (len : Int)) then same (partS agg cs.toList (n.toNat * size)) h d else none
    | _, _ => none
  | .slice _ size x lo hi mx => match e x, evoE e lo, evoE e hi, evoE e mx with
    | some v, some l, some hh, some m => same (sliceS size v l hh m) h d
    | _, _, _, _ => none
  | .sliceArr n size x lo hi mx => match e x, evoE e lo, evoE e hi, evoE e mx with
    | some v, some l, some hh, some m => same (sliceArrS n size v l hh m) h d
    | _, _, _, _ => none
  | .makeFunc fn first cap => match evsE e first, evsE e cap with
    | some a, some b => some (.func (.func fn) a.toArray b.toArray, h, d)
    | _, _ => none
  | .extract x i => match e x with
    | some (.tuple vs) => same (vs.toList[i]?) h d
    | _ => none
  | .len x => match e x with
    | some (.slice _ n _) => some (.int .i64 n, h, d)
    | _ => none
  | .append el pf size bytes x y => match e x, e y with
    | some a, some b => appendS cx.base h d el pf size bytes a b
    | _, _ => none
  | .copy size x y => match e x, e y with
    | some a, some b => copyS cx.base h d size a b
    | _, _ => none
  | .maxi xs => match evsE e xs with
    | some l => same (foldS max2S l) h d
    | none => none
  | .mini xs => match evsE e xs with
    | some l => same (foldS min2S l) h d
    | none => none
  | .makeSlice el pf bytes zero l c => match e l, e c with
    | some (.int _ l), some (.int _ c) =>
      if decide (0 ≤ l) && decide (l ≤ c) && decide (c ≤ 1073741824) && Nat.ble (c.toNat * bytes) 140737488355328 then
        match newS h none (repeatL zero c.toNat) el pf with
        | some (b, h') => some (.slice (some ⟨b, 0, none⟩) l.toNat c.toNat, h', d)
        | none => none
      else none
    | _, _ => none
  | .call f args => match e f, evsE e args with
    | some f, some vs => callS R cx.base h d f vs
    | _, _ => none
  | .nilCheck x => match e x with
    | some (.pointer (some a)) => some (.pointer (some a), h, d)
    | some (.func (.func f) a b) => some (.func (.func f) a b, h, d)
    | some (.func (.yield f) a b) => some (.func (.yield f) a b, h, d)
    | _ => none
  | .idxStr x i => match e x, e i with
    | some (.string s), some (.int _ n) =>
      if decide (0 ≤ n) then match s.data.toList[n.toNat]? with
        | some b => some (.int .u8 b.toNat, h, d)
        | none => none
      else none
    | _, _ => none
  | .makeMap pf => some (.map (some h.length), h ++ [.map pf []], d)
  | .lookup q zero ok m k => match e m, e k with
    | some (.map (some r)), some k =>
      match h[r]? with
      | some (.map _ es) => match findS q k es with
        | some (some v) => some (if ok then .tuple #[v, .bool true] else v, h, d)
        | some none => some (if ok then .tuple #[zero, .bool false] else zero, h, d)
        | none => none
      | _ => none
    | _, _ => none
  | .mapUpdate q m k v => match e m, e k, e v with
    | some (.map (some r)), some k, some v =>
      match h[r]? with
      | some (.map pf es) =>
        if !pf || ((cellsL k).all sc && (cellsL v).all sc) then
          match updS q k v es with
          | some es' => some (udf, h.set r (.map pf es'), dirty cx.base r pf d)
          | none => none
        else none
      | _ => none
    | _, _, _ => none
  | .mapLen x => match e x with
    | some (.map (some r)) => match h[r]? with
      | some (.map _ es) => some (.int .i64 es.length, h, d)
      | _ => none
    | _ => none
  | .clear size zero x => match e x with
    | some (.slice none _ _) => some (udf, h, d)
    | some (.slice (some ⟨b, o, none⟩) len _) =>
      if len == 0 then some (udf, h, d) else
      match storeS cx.base h d b o (repeatL zero len) with
      | some (h', d') => if Nat.beq (zero.length) size then some (udf, h', d') else none
      | none => none
    | _ => none

theorem opRun_E (sl : Option Nat) (o : SOp) (t : T) (h : SHeap) (d : List Nat) : opRun R cx sl o t h d = opE R cx (ev t) sl o h d := by
  cases o with
  | build z p => simp only [opRun, o_build, opE, evp_E]; rfl
  | buildSlice a b c e f => simp only [opRun, o_buildSlice, opE, evp_E]; rfl
  | slice a b c e f g => simp only [opRun, o_slice, opE, evo_E]; rfl
  | sliceArr a b c e f g => simp only [opRun, o_sliceArr, opE, evo_E]; rfl
  | makeFunc a b c => simp only [opRun, o_makeFunc, opE, evs_E]; rfl
  | maxi a => simp only [opRun, o_maxi, opE, evs_E]; rfl
  | mini a => simp only [opRun, o_mini, opE, evs_E]; rfl
  | call f a => simp only [opRun, o_call, opE, evs_E]; rfl
  | _ => rfl

/-- one operation of a region: the registers, the heap, the dirty blocks, the log -/
def wantedR (ρ : Reg) : Option (Nat × Bool) → Bool
  | none => true
  | some (i, want) => match ρ i with
    | .bool b => b == want
    | _ => false
def logR (o : SOper) (ρ : Reg) (v : Value) : List LogE :=
  match o.lg with
  | true => match o.op with
    | .load agg x => match evR ρ x with
      | some a => [⟨o.id, agg, a, v⟩]
      | none => []
    | _ => []
  | false => []

def opsR (rb : Nat) : List SOper → List LogE → Reg → SHeap → List Nat → Option (Reg × SHeap × List Nat)
  | [], _, ρ, h, d => some (ρ, h, d)
  | o :: r, lg, ρ, h, d =>
    if wantedR ρ o.gd = true then
      match opE R cx (evR ρ) (slotOf rb o.sl) o.op h d with
      | none => none
      | some (v, h', d') => if chkAll lg o.chk h' = true then opsR rb r (logR o ρ v ++ lg) (updO ρ o.dst v) h' d' else none
    else opsR rb r lg (updO ρ o.dst udf) h d

theorem opsR_ok {dep : Nat} {rb : Nat} : ∀ {ops : List SOper} {lg : List LogE} {t : T} {ms : List Nat} {h : SHeap} {d : List Nat} {ρ' : Reg} {h' : SHeap} {d' : List Nat},
    okOs (2 ^ dep) ops = true → Full dep t → opsR R cx rb ops lg t.get h d = some (ρ', h', d') →
    ∃ t', opsRun R cx rb ops lg ⟨t, ms, h, d⟩ = some ⟨t', ms, h', d'⟩ ∧ Full dep t' ∧ t'.get = ρ'
  | [], lg, t, ms, h, d, ρ', h', d', ok, hf, hs => by cases hs; exact ⟨t, rfl, hf, rfl⟩
  | o :: r, lg, t, ms, h, d, ρ', h', d', ok, hf, hs => by
    have ok' : okD (2 ^ dep) o.dst = true ∧ okOs (2 ^ dep) r = true := by simpa [okOs] using ok
    have ew : wantedS t o.gd = wantedR t.get o.gd := by
      cases o.gd with
      | none => rfl
      | some g => rfl
    rw [opsRun_cons]
    unfold stepO
    rw [ew, opRun_E, ev_evR]
    unfold opsR at hs
    split at hs
    · rename_i hw
      rw [if_pos hw]
      split at hs
      · cases hs
      · rename_i v h1 d1 ho
        rw [ho]
        split at hs
        · rename_i hc
          simp only [hc, if_true]
          have el : logOf o t v = logR o t.get v := by
            unfold logOf logR
            rw [← ev_evR]
            cases o.lg <;> rfl
          rw [el]
          obtain ⟨g1, g2⟩ := sput_get (v := v) rfl hf ok'.1
          rw [← g1] at hs
          exact opsR_ok ok'.2 g2 hs
        · cases hs
    · rename_i hw
      rw [if_neg hw]
      obtain ⟨g1, g2⟩ := sput_get (v := udf) rfl hf ok'.1
      rw [← g1] at hs
      exact opsR_ok ok'.2 g2 hs

/-! ### what is left to run, as data -/
inductive Fr where
  | seq (b : SCode)
  | blk (id : Nat)
abbrev Post := Ex → Reg → List Nat → SHeap → List Nat → Prop

/-- c runs, then what is left, and it ends well -/
def Go (dep : Nat) (c : SCode) (st : List Fr) (ρ : Reg) (ms : List Nat) (h : SHeap) (d : List Nat) (Q : Post) : Prop :=
  RunW R cx dep (st.foldl (fun c f => match f with | .seq b => .seq c b | .blk id => .block id c) c) ρ ms h d Q
/-- what is left runs after an end -/
def Ends (dep : Nat) (ex : Ex) (st : List Fr) (ρ : Reg) (ms : List Nat) (h : SHeap) (d : List Nat) (Q : Post) : Prop :=
  match st with
  | [] => Q ex ρ ms h d
  | .seq b :: st => match ex with
    | .normal => RunW R cx dep b ρ ms h d (fun ex ρ ms h d => Ends dep ex st ρ ms h d Q)
    | ex => Ends dep ex st ρ ms h d Q
  | .blk id :: st => match ex with
    | .exit j => if j = id then Ends dep .normal st ρ ms h d Q else Ends dep (.exit j) st ρ ms h d Q
    | ex => Ends dep ex st ρ ms h d Q

/-- c runs and then what is left -/
def Run (dep : Nat) (c : SCode) (st : List Fr) (ρ : Reg) (ms : List Nat) (h : SHeap) (d : List Nat) (Q : Post) : Prop :=
  RunW R cx dep c ρ ms h d (fun ex ρ ms h d => Ends R cx dep ex st ρ ms h d Q)

variable {R cx}
theorem run_seq {dep : Nat} {a b : SCode} {st : List Fr} {ρ : Reg} {ms : List Nat} {h : SHeap} {d : List Nat} {Q : Post} (w : Run R cx dep a (.seq b :: st) ρ ms h d Q) : Run R cx dep (.seq a b) st ρ ms h d Q := by
  intro t hf ht
  obtain ⟨ex, t1, ms1, h1, d1, e1, f1, k1⟩ := w t hf ht
  cases ex with
  | normal =>
    obtain ⟨ex, t2, ms2, h2, d2, e2, f2, k2⟩ := k1 t1 f1 rfl
    exact ⟨_, _, _, _, _, by simp only [exec, e1, e2], f2, k2⟩
  | exit id => exact ⟨_, _, _, _, _, by simp only [exec, e1], f1, k1⟩
  | ret => exact ⟨_, _, _, _, _, by simp only [exec, e1], f1, k1⟩
theorem run_block {dep : Nat} {id : Nat} {a : SCode} {st : List Fr} {ρ : Reg} {ms : List Nat} {h : SHeap} {d : List Nat} {Q : Post} (w : Run R cx dep a (.blk id :: st) ρ ms h d Q) : Run R cx dep (.block id a) st ρ ms h d Q := by
  intro t hf ht
  obtain ⟨ex, t1, ms1, h1, d1, e1, f1, k1⟩ := w t hf ht
  cases ex with
  | exit j =>
    dsimp only [Ends] at k1
    by_cases hj : j = id
    · rw [if_pos hj] at k1
      exact ⟨_, _, _, _, _, by simp only [exec, e1, beq_iff_eq, hj, if_true], f1, k1⟩
    · rw [if_neg hj] at k1
      exact ⟨_, _, _, _, _, by simp only [exec, e1, beq_iff_eq, hj, if_false], f1, k1⟩
  | normal => exact ⟨_, _, _, _, _, by simp only [exec, e1], f1, k1⟩
  | ret => exact ⟨_, _, _, _, _, by simp only [exec, e1], f1, k1⟩
theorem run_cond {dep : Nat} {c : Operand} {a b : SCode} {st : List Fr} {ρ : Reg} {ms : List Nat} {h : SHeap} {d : List Nat} {Q : Post} (v : Bool) (hv : evR ρ c = some (.bool v)) (w : if v = true then Run R cx dep a st ρ ms h d Q else Run R cx dep b st ρ ms h d Q) : Run R cx dep (.cond c a b) st ρ ms h d Q := by
  intro t hf ht
  subst ht
  rw [← ev_evR] at hv
  cases v with
  | true =>
    rw [if_pos rfl] at w
    obtain ⟨ex, t1, ms1, h1, d1, e1, f1, k1⟩ := w t hf rfl
    exact ⟨_, _, _, _, _, by simp only [exec, hv, if_true, e1], f1, k1⟩
  | false =>
    rw [if_neg (by decide)] at w
    obtain ⟨ex, t1, ms1, h1, d1, e1, f1, k1⟩ := w t hf rfl
    exact ⟨_, _, _, _, _, by simp only [exec, hv, if_false, Bool.false_eq_true, e1], f1, k1⟩
theorem run_cond_t {dep : Nat} {c : Operand} {a b : SCode} {st : List Fr} {ρ : Reg} {ms : List Nat} {h : SHeap} {d : List Nat} {Q : Post} (hv : evR ρ c = some (.bool true)) (w : Run R cx dep a st ρ ms h d Q) : Run R cx dep (.cond c a b) st ρ ms h d Q :=
  run_cond true hv (by rw [if_pos rfl]; exact w)
theorem run_cond_f {dep : Nat} {c : Operand} {a b : SCode} {st : List Fr} {ρ : Reg} {ms : List Nat} {h : SHeap} {d : List Nat} {Q : Post} (hv : evR ρ c = some (.bool false)) (w : Run R cx dep b st ρ ms h d Q) : Run R cx dep (.cond c a b) st ρ ms h d Q :=
  run_cond false hv (by rw [if_neg (by decide)]; exact w)
theorem run_cond_p {dep : Nat} {c : Operand} {a b : SCode} {st : List Fr} {ρ : Reg} {ms : List Nat} {h : SHeap} {d : List Nat} {Q : Post} {p : Prop} [Decidable p] (hv : evR ρ c = some (.bool (decide p))) (w1 : p → Run R cx dep a st ρ ms h d Q) (w2 : ¬ p → Run R cx dep b st ρ ms h d Q) : Run R cx dep (.cond c a b) st ρ ms h d Q := by
  refine run_cond (decide p) hv ?_
  by_cases e : p
  · rw [decide_eq_true e, if_pos rfl]; exact w1 e
  · rw [decide_eq_false e, if_neg (by decide)]; exact w2 e
theorem run_skip {dep : Nat} {st : List Fr} {ρ : Reg} {ms : List Nat} {h : SHeap} {d : List Nat} {Q : Post} (w : Ends R cx dep .normal st ρ ms h d Q) : Run R cx dep .skip st ρ ms h d Q := by
  intro t hf ht; subst ht; exact ⟨_, _, _, _, _, rfl, hf, w⟩
theorem run_exit {dep id : Nat} {st : List Fr} {ρ : Reg} {ms : List Nat} {h : SHeap} {d : List Nat} {Q : Post} (w : Ends R cx dep (.exit id) st ρ ms h d Q) : Run R cx dep (.exit id) st ρ ms h d Q := by
  intro t hf ht; subst ht; exact ⟨_, _, _, _, _, rfl, hf, w⟩
theorem run_ret {dep : Nat} {st : List Fr} {ρ : Reg} {ms : List Nat} {h : SHeap} {d : List Nat} {Q : Post} (w : Ends R cx dep .ret st ρ ms h d Q) : Run R cx dep .ret st ρ ms h d Q := by
  intro t hf ht; subst ht; exact ⟨_, _, _, _, _, rfl, hf, w⟩
theorem run_region {dep : Nat} {ops : List SOper} {st : List Fr} {ρ : Reg} {ms : List Nat} {h : SHeap} {d : List Nat} {Q : Post} (ok : okOs (2 ^ dep) ops = true) {ρ' : Reg} {h' : SHeap} {d' : List Nat}
    (e : opsR R cx h.length ops [] ρ h d = some (ρ', h', d')) (w : Ends R cx dep .normal st ρ' ms h' d' Q) : Run R cx dep (.region 0 ops) st ρ ms h d Q := by
  intro t hf ht
  subst ht
  obtain ⟨t', h1, h2, h3⟩ := opsR_ok R cx (ms := ms) ok hf e
  subst h3
  exact ⟨_, _, _, _, _, by simp only [exec, List.replicate_zero, List.append_nil, h1], h2, w⟩
theorem run_regionN {dep n : Nat} {ops : List SOper} {st : List Fr} {ρ : Reg} {ms : List Nat} {h : SHeap} {d : List Nat} {Q : Post} (ok : okOs (2 ^ dep) ops = true) {ρ' : Reg} {h' : SHeap} {d' : List Nat}
    (e : opsR R cx h.length ops [] ρ (h ++ List.replicate n SO.gone) d = some (ρ', h', d')) (w : Ends R cx dep .normal st ρ' ms h' d' Q) : Run R cx dep (.region n ops) st ρ ms h d Q := by
  intro t hf ht
  subst ht
  obtain ⟨t', h1, h2, h3⟩ := opsR_ok R cx (ms := ms) ok hf e
  subst h3
  exact ⟨_, _, _, _, _, by simp only [exec, h1], h2, w⟩
theorem run_loop {dep : Nat} {c : SCode} {st : List Fr} {ρ : Reg} {ms : List Nat} {h : SHeap} {d : List Nat} {Q P : Post} (l : LoopW R cx dep c ρ ms h d P)
    (w : ∀ ex ρ' ms' h' d', P ex ρ' ms' h' d' → Ends R cx dep ex st ρ' ms' h' d' Q) : Run R cx dep (.loop c) st ρ ms h d Q := by
  intro t hf ht
  obtain ⟨ex, t', ms', h', d', e, f, k⟩ := l t hf ht
  exact ⟨ex, t', ms', h', d', e, f, w _ _ _ _ _ k⟩
theorem end_seq {dep : Nat} {b : SCode} {st : List Fr} {ρ : Reg} {ms : List Nat} {h : SHeap} {d : List Nat} {Q : Post} (w : Run R cx dep b st ρ ms h d Q) : Ends R cx dep .normal (.seq b :: st) ρ ms h d Q := w
theorem end_seq_exit {dep id : Nat} {b : SCode} {st : List Fr} {ρ : Reg} {ms : List Nat} {h : SHeap} {d : List Nat} {Q : Post} (w : Ends R cx dep (.exit id) st ρ ms h d Q) : Ends R cx dep (.exit id) (.seq b :: st) ρ ms h d Q := w
theorem end_seq_ret {dep : Nat} {b : SCode} {st : List Fr} {ρ : Reg} {ms : List Nat} {h : SHeap} {d : List Nat} {Q : Post} (w : Ends R cx dep .ret st ρ ms h d Q) : Ends R cx dep .ret (.seq b :: st) ρ ms h d Q := w
theorem end_blk {dep id : Nat} {st : List Fr} {ρ : Reg} {ms : List Nat} {h : SHeap} {d : List Nat} {Q : Post} (w : Ends R cx dep .normal st ρ ms h d Q) : Ends R cx dep .normal (.blk id :: st) ρ ms h d Q := w
theorem end_blk_ret {dep id : Nat} {st : List Fr} {ρ : Reg} {ms : List Nat} {h : SHeap} {d : List Nat} {Q : Post} (w : Ends R cx dep .ret st ρ ms h d Q) : Ends R cx dep .ret (.blk id :: st) ρ ms h d Q := w
theorem end_blk_hit {dep id : Nat} {st : List Fr} {ρ : Reg} {ms : List Nat} {h : SHeap} {d : List Nat} {Q : Post} (w : Ends R cx dep .normal st ρ ms h d Q) : Ends R cx dep (.exit id) (.blk id :: st) ρ ms h d Q := by
  unfold Ends; dsimp only; rw [if_pos rfl]; exact w
theorem end_blk_miss {dep id j : Nat} (hj : Nat.beq j id = false) {st : List Fr} {ρ : Reg} {ms : List Nat} {h : SHeap} {d : List Nat} {Q : Post} (w : Ends R cx dep (.exit j) st ρ ms h d Q) : Ends R cx dep (.exit j) (.blk id :: st) ρ ms h d Q := by
  unfold Ends; dsimp only; rw [if_neg (fun e => by rw [e, Nat.beq_refl] at hj; cases hj)]; exact w
theorem end_nil {dep : Nat} {ex : Ex} {ρ : Reg} {ms : List Nat} {h : SHeap} {d : List Nat} {Q : Post} (w : Q ex ρ ms h d) : Ends R cx dep ex [] ρ ms h d Q := w
end

section
variable {FT : FuncId → Option SFunc} {C : FuncId → List Value → Option Value}
/-- a loop with a measure; the body's ends are exits -/
theorem loop_run {cx : Cx} {dep : Nat} {c : SCode} {Q : Post} (I : Nat → Reg → List Nat → SHeap → List Nat → Prop)
    (step : ∀ k ρ ms h d, I k ρ ms h d → Run (big FT C) cx dep c [] ρ ms h d (fun ex ρ' ms' h' d' => match ex with
      | .normal => ∃ k', k' < k ∧ I k' ρ' ms' h' d'
      | ex => Q ex ρ' ms' h' d')) :
    ∀ k ρ ms h d, I k ρ ms h d → LoopW (big FT C) cx dep c ρ ms h d Q := by
  intro k
  induction k using Nat.strongRecOn with
  | _ k ih =>
    intro ρ ms h d hi t hf ht
    obtain ⟨ex, t1, ms1, h1, d1, e1, f1, k1⟩ := step k ρ ms h d hi t hf ht
    cases ex with
    | normal =>
      obtain ⟨k', hk, hi'⟩ := k1
      obtain ⟨ex, t2, ms2, h2, d2, e2, f2, k2⟩ := ih k' hk _ _ _ _ hi' t1 f1 rfl
      exact ⟨ex, t2, ms2, h2, d2, loop_next e1 e2, f2, k2⟩
    | exit id => exact ⟨_, _, _, _, _, loop_exit e1, f1, k1⟩
    | ret => exact ⟨_, _, _, _, _, loop_ret e1, f1, k1⟩

/-- what a call's body must end in -/
def callQ (rs : List SRes) (base : Nat) (r : Value × SHeap × List Nat) : Post := fun ex ρ ms h d => isEnd ex = true ∧ finW rs base ρ ms h d r

theorem call_run {f : FuncId} {args : List Value} {h : SHeap} {r : Value × SHeap × List Nat} (sf : SFunc) (hf : FT f = some sf) (hC : C f args = none) (hl : Nat.blt args.length (2 ^ sf.dep) = true)
    (hw : Run (big FT C) ⟨h.length, none, f⟩ sf.dep sf.body [] (argR args) [] h [] (callQ sf.res h.length r)) : (big FT C).call f args h = some r := by
  refine big_call hC ?_
  unfold stepCall
  rw [hf]
  simp only [hl, if_true, fNat_eq, fFill_eq]
  obtain ⟨k1, k2⟩ := args_get (dep := sf.dep) args (by simpa using hl)
  obtain ⟨ex, t', ms', h', d', e, f1, k, k3⟩ := hw _ k1 k2
  rw [e]
  cases ex with
  | normal => exact finW_ok rfl k3
  | ret => exact finW_ok rfl k3
  | exit id => cases k

theorem opn_int {k : IntKind} {n : Int} {v : Value} {K : Value → Prop} (e : v = .int k n) (h : K (.int k n)) : opn v K := by rw [e]; exact h
theorem opn_of {v : Value} {K : Value → Prop} {n : Nat} (e : flat n v = true) (h : K v) : opn v K := by
  cases v <;> first | exact h | (cases n <;> cases e)
theorem q_ret1 {base : Nat} {i : Nat} {ρ : Reg} {h h0 : SHeap} (v : Value) (hv : ρ i = v) (hfl : flat 3 v = true) (ht : h.take base = h0) : callQ [.tmp i] base (v, h0, []) .ret ρ [] h [] := by
  refine ⟨rfl, ?_⟩
  show opn (ρ i) fun v' => endW base h [] (v, h0, []) [v']
  rw [hv]
  exact opn_of hfl (end_flat (l := [v]) hfl ht)
theorem q_ret2 {base : Nat} {i j : Nat} {ρ : Reg} {h h0 : SHeap} (v w : Value) (hv : ρ i = v) (hw : ρ j = w) (hfl : flat 2 v = true) (hfl2 : flat 2 w = true) (ht : h.take base = h0) : callQ [.tmp i, .tmp j] base (.tuple #[v, w], h0, []) .ret ρ [] h [] := by
  refine ⟨rfl, ?_⟩
  show opn (ρ i) fun v' => opn (ρ j) fun w' => endW base h [] (.tuple #[v, w], h0, []) [v', w']
  rw [hv, hw]
  exact opn_of hfl (opn_of hfl2 (end_flat (l := [v, w]) (by simp [oneV, flat, hfl, hfl2]) ht))
theorem q_ret3 {base : Nat} {i j k : Nat} {ρ : Reg} {h h0 : SHeap} (v w u : Value) (hv : ρ i = v) (hw : ρ j = w) (hu : ρ k = u) (hfl : flat 2 v = true) (hfl2 : flat 2 w = true) (hfl3 : flat 2 u = true) (ht : h.take base = h0) : callQ [.tmp i, .tmp j, .tmp k] base (.tuple #[v, w, u], h0, []) .ret ρ [] h [] := by
  refine ⟨rfl, ?_⟩
  show opn (ρ i) fun v' => opn (ρ j) fun w' => opn (ρ k) fun u' => endW base h [] (.tuple #[v, w, u], h0, []) [v', w', u']
  rw [hv, hw, hu]
  exact opn_of hfl (opn_of hfl2 (opn_of hfl3 (end_flat (l := [v, w, u]) (by simp [oneV, flat, hfl, hfl2, hfl3]) ht)))
end

attribute [irreducible] Run Ends

/-! ### the equations -/
section
variable (R : Rec) (cx : Cx) (rb : Nat) (r : List SOper) (lg : List LogE) (ρ : Reg) (h : SHeap) (d : List Nat) (e : Evl) (sl : Option Nat)
theorem s_nil : opsR R cx rb [] lg ρ h d = some (ρ, h, d) := (rfl)
/-- the usual operation -/
theorem s_op (dst sl : Option Nat) (op : SOp) (id : Nat) : opsR R cx rb (⟨dst, sl, op, none, id, false, []⟩ :: r) lg ρ h d =
    match opE R cx (evR ρ) (slotOf rb sl) op h d with
    | none => none
    | some (v, h', d') => opsR R cx rb r lg (updO ρ dst v) h' d' := by
  show (match opE R cx (evR ρ) (slotOf rb sl) op h d with | none => _ | some (v, h', d') => _) = _
  cases opE R cx (evR ρ) (slotOf rb sl) op h d with
  | none => rfl
  | some x =>
    obtain ⟨v, h', d'⟩ := x
    have : chkAll lg [] h' = true := by simp [chkAll]
    dsimp only
    rw [if_pos this]
    rfl
/-- with a log or checks -/
theorem s_lg (dst sl : Option Nat) (op : SOp) (id : Nat) (c : List Nat) : opsR R cx rb (⟨dst, sl, op, none, id, true, c⟩ :: r) lg ρ h d =
    match opE R cx (evR ρ) (slotOf rb sl) op h d with
    | none => none
    | some (v, h', d') => if chkAll lg c h' = true then opsR R cx rb r (logR ⟨dst, sl, op, none, id, true, c⟩ ρ v ++ lg) (updO ρ dst v) h' d' else none := (rfl)
theorem s_chk (dst sl : Option Nat) (op : SOp) (id a : Nat) (c : List Nat) : opsR R cx rb (⟨dst, sl, op, none, id, false, a :: c⟩ :: r) lg ρ h d =
    match opE R cx (evR ρ) (slotOf rb sl) op h d with
    | none => none
    | some (v, h', d') => if chkAll lg (a :: c) h' = true then opsR R cx rb r lg (updO ρ dst v) h' d' else none := (rfl)
theorem s_gd (dst sl : Option Nat) (op : SOp) (g : Nat) (w : Bool) (id : Nat) (l : Bool) (c : List Nat) : opsR R cx rb (⟨dst, sl, op, some (g, w), id, l, c⟩ :: r) lg ρ h d =
    if wantedR ρ (some (g, w)) = true then opsR R cx rb (⟨dst, sl, op, none, id, l, c⟩ :: r) lg ρ h d
    else opsR R cx rb r lg (updO ρ dst udf) h d := (rfl)
theorem wantedR_some (g : Nat) (w : Bool) : wantedR ρ (some (g, w)) = match ρ g with
    | .bool b => b == w
    | _ => false := (rfl)
theorem slot_none : slotOf rb none = none := (rfl)
theorem slot_some (k : Nat) : slotOf rb (some k) = some (rb + k) := (rfl)
theorem updO_some (k : Nat) (v : Value) : updO ρ (some k) v = upd ρ k v := (rfl)
theorem updO_none (v : Value) : updO ρ none v = ρ := (rfl)
theorem same_ok (v : Value) : same (some v) h d = some (v, h, d) := (rfl)
theorem E_mov (x : Operand) : opE R cx e sl (.mov x) h d = same (e x) h d := (rfl)
theorem E_pick (c a b : Operand) : opE R cx e sl (.pick c a b) h d = match e c with
    | some (.bool c) => same (if c then e a else e b) h d
    | _ => none := (rfl)
theorem E_alloc (el : TypeId) (pf : Bool) (zero : List Value) : opE R cx e sl (.alloc el pf zero) h d = match newS h sl zero el pf with
    | some (b, h') => some (.pointer (some ⟨b, 0, none⟩), h', d)
    | none => none := (rfl)
theorem E_box (el : TypeId) (pf : Bool) (x : Operand) : opE R cx e sl (.box el pf x) h d = match e x with
    | some v => match newS h sl (cellsL v) el pf with
      | some (b, h') => some (.pointer (some ⟨b, 0, none⟩), h', d)
      | none => none
    | none => none := (rfl)
theorem E_build (zero : List Value) (parts : List (Nat × Nat × Operand)) : opE R cx e sl (.build zero parts) h d = match evpE e parts with
    | some ps => match fillS zero ps with
      | some l => some (.agg l.toArray, h, d)
      | none => none
    | none => none := (rfl)
theorem E_buildSlice (el : TypeId) (pf : Bool) (zero : List Value) (len : Nat) (parts : List (Nat × Nat × Operand)) : opE R cx e sl (.buildSlice el pf zero len parts) h d = match evpE e parts with
    | some ps => match fillS (repeatL zero len) ps with
      | some l => match newS h sl l el pf with
        | some (b, h') => some (.slice (some ⟨b, 0, none⟩) len len, h', d)
        | none => none
      | none => none
    | none => none := (rfl)
theorem E_load (agg : Option Nat) (x : Operand) : opE R cx e sl (.load agg x) h d = match e x with
    | some a => same (loadS h agg a) h d
    | none => none := (rfl)
theorem E_store (n : Nat) (x v : Operand) : opE R cx e sl (.store n x v) h d = match e x, e v with
    | some (.pointer (some ⟨b, o, none⟩)), some v =>
      if (cellsL v).length == n then
        match storeS cx.base h d b o (cellsL v) with
        | some (h', d') => some (udf, h', d')
        | none => none
      else none
    | _, _ => none := (rfl)
theorem E_bin (op : BinOp) (x y : Operand) : opE R cx e sl (.bin op x y) h d = match e x, e y with
    | some a, some b => same (binS op a b) h d
    | _, _ => none := (rfl)
theorem E_eq (k : EqK) (neg : Bool) (x y : Operand) : opE R cx e sl (.eq k neg x y) h d = match e x, e y with
    | some a, some b => match eqS k a b with
      | some r => some (.bool (if neg then !r else r), h, d)
      | none => none
    | _, _ => none := (rfl)
theorem E_not (x : Operand) : opE R cx e sl (.un .not x) h d = match e x with
    | some (.int k n) => none
    | some (.bool b) => some (.bool (!b), h, d)
    | _ => none := (rfl)
theorem E_neg (x : Operand) : opE R cx e sl (.un .neg x) h d = match e x with
    | some (.int k n) => some (.int k (k.wrap (0 - n)), h, d)
    | some (.bool b) => none
    | _ => none := (rfl)
theorem E_conv (k : IntKind) (x : Operand) : opE R cx e sl (.conv k x) h d = match e x with
    | some (.int _ n) => some (.int k (k.wrap n), h, d)
    | _ => none := (rfl)
theorem E_fieldAddr (off : Nat) (x : Operand) : opE R cx e sl (.fieldAddr off x) h d = match e x with
    | some (.pointer (some ⟨b, o, none⟩)) => some (.pointer (some ⟨b, o + off, none⟩), h, d)
    | _ => none := (rfl)
theorem E_field (agg : Option Nat) (off : Nat) (x : Operand) : opE R cx e sl (.field agg off x) h d = match e x with
    | some (.agg cs) => same (partS agg cs.toList off) h d
    | _ => none := (rfl)
theorem E_idxArr (len size : Nat) (x i : Operand) : opE R cx e sl (.idxArr len size x i) h d = match e x, e i with
    | some (.pointer (some ⟨b, o, none⟩)), some (.int _ n) =>
      if decide (0 ≤ n) && decide (n < (len : Int)) then some (.pointer (some ⟨b, o + n.toNat * size, none⟩), h, d) else none
    | _, _ => none := (rfl)
theorem E_idxSl (size : Nat) (x i : Operand) : opE R cx e sl (.idxSl size x i) h d = match e x, e i with
    | some (.slice (some ⟨b, o, none⟩) len _), some (.int _ n) =>
      if decide (0 ≤ n) && decide (n < (len : Int)) then some (.pointer (some ⟨b, o + n.toNat * size, none⟩), h, d) else none
    | _, _ => none := (rfl)
theorem E_idx (agg : Option Nat) (len size : Nat) (x i : Operand) : opE R cx e sl (.idx agg len size x i) h d = match e x, e i with
    | some (.agg cs), some (.int _ n) =>
      if decide (0 ≤ n) && decide (n < (len : Int)) then same (partS agg cs.toList (n.toNat * size)) h d else none
    | _, _ => none := (rfl)
theorem E_slice (el : TypeId) (size : Nat) (x : Operand) (lo hi mx : Option Operand) : opE R cx e sl (.slice el size x lo hi mx) h d = match e x, evoE e lo, evoE e hi, evoE e mx with
    | some v, some l, some hh, some m => same (sliceS size v l hh m) h d
    | _, _, _, _ => none := (rfl)
theorem E_sliceArr (n size : Nat) (x : Operand) (lo hi mx : Option Operand) : opE R cx e sl (.sliceArr n size x lo hi mx) h d = match e x, evoE e lo, evoE e hi, evoE e mx with
    | some v, some l, some hh, some m => same (sliceArrS n size v l hh m) h d
    | _, _, _, _ => none := (rfl)
theorem E_makeFunc (fn : FuncId) (first cap : List Operand) : opE R cx e sl (.makeFunc fn first cap) h d = match evsE e first, evsE e cap with
    | some a, some b => some (.func (.func fn) a.toArray b.toArray, h, d)
    | _, _ => none := (rfl)
theorem E_extract (x : Operand) (i : Nat) : opE R cx e sl (.extract x i) h d = match e x with
    | some (.tuple vs) => same (vs.toList[i]?) h d
    | _ => none := (rfl)
theorem E_len (x : Operand) : opE R cx e sl (.len x) h d = match e x with
    | some (.slice _ n _) => some (.int .i64 n, h, d)
    | _ => none := (rfl)
theorem E_append (el : TypeId) (pf : Bool) (size bytes : Nat) (x y : Operand) : opE R cx e sl (.append el pf size bytes x y) h d = match e x, e y with
    | some a, some b => appendS cx.base h d el pf size bytes a b
    | _, _ => none := (rfl)
theorem E_maxi (xs : List Operand) : opE R cx e sl (.maxi xs) h d = match evsE e xs with
    | some l => same (foldS max2S l) h d
    | none => none := (rfl)
theorem E_mini (xs : List Operand) : opE R cx e sl (.mini xs) h d = match evsE e xs with
    | some l => same (foldS min2S l) h d
    | none => none := (rfl)
theorem E_call (f : Operand) (args : List Operand) : opE R cx e sl (.call f args) h d = match e f, evsE e args with
    | some f, some vs => callS R cx.base h d f vs
    | _, _ => none := (rfl)
theorem E_nilCheck (x : Operand) : opE R cx e sl (.nilCheck x) h d = match e x with
    | some (.pointer (some a)) => some (.pointer (some a), h, d)
    | some (.func (.func f) a b) => some (.func (.func f) a b, h, d)
    | some (.func (.yield f) a b) => some (.func (.yield f) a b, h, d)
    | _ => none := (rfl)
theorem call_static (base : Nat) (g : FuncId) (args : List Value) : callS R base h d (.func (.func g) #[] #[]) args = match R.call g args h with
    | some (v, h', d') => some (v, h', dirts base d' d)
    | none => none := by simp [callS]; rfl
theorem dirts_nil (base : Nat) : dirts base [] d = d := (rfl)
theorem max_2 (k : IntKind) (x y : Int) : foldS max2S [.int k x, .int k y] = some (.int k (if y > x then y else x)) := (rfl)
theorem min_2 (k : IntKind) (x y : Int) : foldS min2S [.int k x, .int k y] = some (.int k (if y < x then y else x)) := (rfl)
theorem max_3 (k : IntKind) (x y z : Int) : foldS max2S [.int k x, .int k y, .int k z] = some (.int k (if z > (if y > x then y else x) then z else (if y > x then y else x))) := (rfl)
theorem new_none (cs : List Value) (el : TypeId) (pf : Bool) : newS h none cs el pf = if (!pf || cs.all sc) = true then some (h.length, h ++ [.cells cs el pf 0 []]) else none := (rfl)
end
section
variable (k : IntKind) (a b : Int)
theorem b_lss : binS .lss (.int k a) (.int k b) = some (.bool (decide (a < b))) := by simp only [binS, if_true]
theorem b_leq : binS .leq (.int k a) (.int k b) = some (.bool (decide (a ≤ b))) := by simp only [binS, if_true]
theorem b_gtr : binS .gtr (.int k a) (.int k b) = some (.bool (decide (b < a))) := by simp only [binS, if_true]
theorem b_geq : binS .geq (.int k a) (.int k b) = some (.bool (decide (b ≤ a))) := by simp only [binS, if_true]
theorem b_add : binS .add (.int k a) (.int k b) = some (.int k (k.wrap (a + b))) := by simp only [binS, if_true]; rfl
theorem b_sub : binS .sub (.int k a) (.int k b) = some (.int k (k.wrap (a - b))) := by simp only [binS, if_true]; rfl
theorem b_mul : binS .mul (.int k a) (.int k b) = some (.int k (k.wrap (a * b))) := by simp only [binS, if_true]; rfl
theorem b_quo (h : b ≠ 0) : binS .quo (.int k a) (.int k b) = some (.int k (k.wrap (a.tdiv b))) := by simp only [binS, if_true, Op.intDiv, if_neg h]; rfl
theorem b_rem (h : b ≠ 0) : binS .rem (.int k a) (.int k b) = some (.int k (a.tmod b)) := by simp only [binS, if_true, Op.intDiv, if_neg h]; rfl
theorem e_int : eqS .int (.int k a) (.int k b) = some (decide (a = b)) := by
  simp only [eqS, if_true]
  by_cases e : a = b
  · rw [decide_eq_true e, beq_iff_eq.2 e]
  · rw [decide_eq_false e, beq_eq_false_iff_ne.2 e]
end
theorem wrap64 {x : Int} (h1 : -9223372036854775808 ≤ x) (h2 : x ≤ 9223372036854775807) : IntKind.i64.wrap x = x := by
  have e1 : IntKind.i64.wrap x = (if x % 18446744073709551616 ≥ 9223372036854775808 then x % 18446744073709551616 - 18446744073709551616 else x % 18446744073709551616) := by
    simp [IntKind.wrap, IntKind.signed, IntKind.bits]
  rw [e1]
  split <;> omega
end Go.Proofs.Ytecncmmkghmojaa.Sh
