/- The shadow machine: regions; what the check of a region says. -/
import Derived.Test.YtecncmmkghmojaaShQ
set_option linter.all false
namespace Go.Proofs.Ytecncmmkghmojaa.Sh
open Go Go.RowKit

theorem vs1_eq {a b : Value} (h : vs1 a b = true) : a = b := by
  unfold vs1 at h
  split at h
  · simp at h; subst h; rfl
  · simp at h; obtain ⟨rfl, rfl⟩ := h; rfl
  · simp at h; subst h; rfl
  · simp at h; subst h; rfl
  · simp at h; obtain ⟨⟨rfl, rfl⟩, rfl⟩ := h; rfl
  · simp at h; subst h; rfl
  · cases h
theorem vsL_eq : ∀ {a b : List Value}, vsL a b = true → a = b
  | [], [], _ => rfl
  | [], _ :: _, h => by cases h
  | _ :: _, [], h => by cases h
  | a :: as, b :: bs, h => by
    simp only [vsL, Bool.and_eq_true] at h
    rw [vs1_eq h.1, vsL_eq h.2]
theorem vsame_eq {a b : Value} (h : vsame a b = true) : a = b := by
  unfold vsame at h
  split at h
  · rename_i x y
    have := vsL_eq h
    rw [Array.ext' this]
  · exact vs1_eq h

/-- one step of a region -/
def stepO (R : Rec) (cx : Cx) (rb : Nat) (o : SOper) (lg : List LogE) (s : St) : Option (List LogE × St × Value) :=
  if wantedS s.t o.gd then
    match opRun R cx (slotOf rb o.sl) o.op s.t s.h s.d with
    | none => none
    | some (v, h, d) => if chkAll lg o.chk h then some (logOf o s.t v ++ lg, ⟨sput s.t o.dst v, s.ms, h, d⟩, v) else none
  else some (lg, ⟨sput s.t o.dst udf, s.ms, s.h, s.d⟩, udf)

theorem opsRun_cons (R : Rec) (cx : Cx) (rb : Nat) (o : SOper) (r : List SOper) (lg : List LogE) (s : St) :
    opsRun R cx rb (o :: r) lg s = match stepO R cx rb o lg s with
      | none => none
      | some (lg', s', _) => opsRun R cx rb r lg' s' := by
  unfold stepO
  rw [opsRun]
  by_cases hw : wantedS s.t o.gd = true
  · simp only [hw, if_true]
    cases opRun R cx (slotOf rb o.sl) o.op s.t s.h s.d with
    | none => rfl
    | some x =>
      obtain ⟨v, h, d⟩ := x
      simp only [fV_eq, fHif_eq, fPut_eq]
      split
      · rfl
      · rfl
  · simp only [hw, if_false, Bool.false_eq_true, fPut_eq]

theorem trace_of {R : Rec} {cx : Cx} {rb : Nat} : ∀ (al : List SOper) (lg : List LogE) (s s' : St), opsRun R cx rb al lg s = some s' →
    ∃ (lgs : Nat → List LogE) (tr : Nat → St) (val : Nat → Value), lgs 0 = lg ∧ tr 0 = s ∧ tr al.length = s' ∧ ∀ k o, al[k]? = some o → stepO R cx rb o (lgs k) (tr k) = some (lgs (k + 1), tr (k + 1), val k)
  | [], lg, s, s', h => by
    cases h
    exact ⟨fun _ => lg, fun _ => s, fun _ => udf, rfl, rfl, rfl, fun k o h => by simp at h⟩
  | o :: r, lg, s, s', h => by
    rw [opsRun_cons] at h
    split at h
    · cases h
    · rename_i lg1 s1 v1 hs
      obtain ⟨lgs, tr, val, h1, h2, h3, h4⟩ := trace_of r lg1 s1 s' h
      refine ⟨fun | 0 => lg | k + 1 => lgs k, fun | 0 => s | k + 1 => tr k, fun | 0 => v1 | k + 1 => val k, rfl, rfl, h3, fun k o' hk => ?_⟩
      cases k with
      | zero =>
        simp only [List.getElem?_cons_zero, Option.some.injEq] at hk
        subst hk
        rw [hs, ← h1, ← h2]
      | succ k => exact h4 k o' (by simpa using hk)

/-! ### what the check of a region says -/
def Closed (ops : Array Oper) (S : Nat → Prop) : Prop := ∀ i op e, ops[i]? = some op → S i → e ∈ op.after → Region.binds .any e = true → S e.on

def FreeAt (ops : Array Oper) (al : List SOper) (k : Nat) (o : SOper) (op : Oper) : Prop :=
  ∀ (k' : Nat) (y : SOper) (oy : Oper), k < k' → al[k']? = some y → ops[y.id]? = some oy → (∃ e ∈ oy.after, Region.binds .any e = true ∧ e.on = o.id) ∨ op.apart ops oy = true
def SoloAt (ops : Array Oper) (al : List SOper) (k : Nat) : Prop :=
  ∀ (k' : Nat) (y : SOper) (oy : Oper), k < k' → al[k']? = some y → ops[y.id]? = some oy → ∃ e ∈ oy.after, Region.binds .any e = true ∧ ∀ (j : Nat) (x : SOper), j < k → al[j]? = some x → x.id ≠ e.on

structure Facts (P : Program) (ops : Array Oper) (n : Nat) (al : List SOper) : Prop where
  op : ∀ (k : Nat) (o : SOper), al[k]? = some o → ∃ op : Oper, ops[o.id]? = some op ∧ compOp P op.op = some o.op ∧ o.dst = op.dst ∧ compGuard ops op = some o.gd
  inj : ∀ (j k : Nat) (x y : SOper), al[j]? = some x → al[k]? = some y → x.id = y.id → j = k
  surj : ∀ i, i < ops.size → ∃ (k : Nat) (o : SOper), al[k]? = some o ∧ o.id = i
  deps : ∀ (k : Nat) (o : SOper) (op : Oper) (e : Edge), al[k]? = some o → ops[o.id]? = some op → e ∈ op.after → Region.binds .any e = true → ∃ (j : Nat) (x : SOper), j < k ∧ al[j]? = some x ∧ x.id = e.on
  kind : ∀ (k : Nat) (o : SOper) (op : Oper), al[k]? = some o → ops[o.id]? = some op → (isE o.op = false ∧ FreeAt ops al k o op) ∨ SoloAt ops al k
  look : ∀ (k : Nat) (o : SOper) (op : Oper), al[k]? = some o → ops[o.id]? = some op → ∀ x ∈ opnds o.op, ∀ t, tmpOf x = some t → t ∈ op.looksAt ops
  lookg : ∀ (k : Nat) (o : SOper) (op : Oper) (t : Nat) (want : Bool), al[k]? = some o → ops[o.id]? = some op → o.gd = some (t, want) → t ∈ op.looksAt ops
  plc : ∀ (k : Nat) (o : SOper), al[k]? = some o → makes o.op = true → ∃ s, o.sl = some s ∧ s < n
  pld : ∀ (j k : Nat) (x y : SOper) (s : Nat), al[j]? = some x → al[k]? = some y → makes x.op = true → makes y.op = true → x.sl = some s → y.sl = some s → j = k
  lg : ∀ (k : Nat) (o : SOper), al[k]? = some o → isLd o.op = true → o.lg = true
  chk : ∀ (j k : Nat) (x y : SOper) (oy : Oper), j < k → al[j]? = some x → al[k]? = some y → ops[y.id]? = some oy → isE y.op = true → isLd x.op = true →
    x.id ∈ y.chk ∨ ∀ S, Closed ops S → (∀ e ∈ oy.after, Region.binds .any e = true → S e.on) → S x.id

def AccOk (ops : Array Oper) (acc : List (Nat × List Nat)) : Prop := ∀ p ∈ acc, ∀ S, Closed ops S → S p.1 → ∀ i ∈ p.2, S i

theorem ancOf_ok {ops : Array Oper} {acc : List (Nat × List Nat)} (ha : AccOk ops acc) {es : List Edge} {S : Nat → Prop} (hS : Closed ops S) (he : ∀ e ∈ es, Region.binds .any e = true → S e.on) : ∀ i ∈ ancOf acc es, S i := by
  intro i hi
  unfold ancOf at hi
  obtain ⟨e, hem, hi⟩ := List.mem_flatMap.1 hi
  split at hi
  · rename_i hb
    rcases List.mem_cons.1 hi with rfl | hi
    · exact he e hem hb
    · split at hi
      · rename_i p hp
        have h1 := List.find?_some hp
        have h2 := List.mem_of_find?_eq_some hp
        have h3 : p.1 = e.on := Nat.eq_of_beq_eq_true h1
        exact ha p h2 S hS (h3 ▸ he e hem hb) i hi
      · simp at hi
  · simp at hi

theorem regOk_at {ops : Array Oper} {n : Nat} : ∀ (l : List SOper) (acc : List (Nat × List Nat)) (done : List SOper), AccOk ops acc → regOk ops n acc done l = true →
    ∀ k o, l[k]? = some o → ∃ acc', AccOk ops acc' ∧ oneOk ops n acc' ((l.take k).reverse ++ done) o (l.drop (k + 1)) = true
  | [], _, _, _, _, k, o, h => by simp at h
  | x :: r, acc, done, ha, hr, k, o, h => by
    unfold regOk at hr
    simp only [Bool.and_eq_true] at hr
    cases k with
    | zero =>
      simp only [List.getElem?_cons_zero, Option.some.injEq] at h
      subst h
      exact ⟨acc, ha, by simpa using hr.1⟩
    | succ k =>
      have ha' : AccOk ops ((x.id, ancOf acc (match ops[x.id]? with | some op => op.after.toList | none => [])) :: acc) := by
        intro p hp S hS hSp
        rcases List.mem_cons.1 hp with rfl | hp
        · simp only at hSp ⊢
          refine ancOf_ok ha hS ?_
          intro e he hb
          split at he
          · rename_i op hop
            exact hS _ _ e hop hSp (by simpa using he) hb
          · simp at he
        · exact ha p hp S hS hSp
      obtain ⟨acc', h1, h2⟩ := regOk_at r _ _ ha' hr.2 k o (by simpa using h)
      exact ⟨acc', h1, by simpa using h2⟩

theorem mapO_get {α β : Type} {f : α → Option β} : ∀ {l : List α} {r : List β}, mapO f l = some r → ∀ (i : Nat) (y : β), r[i]? = some y → ∃ x, l[i]? = some x ∧ f x = some y
  | [], r, h, i, y, hy => by cases h; simp at hy
  | a :: as, r, h, i, y, hy => by
    unfold mapO at h
    split at h
    · rename_i b bs h1 h2
      cases h
      cases i with
      | zero => simp at hy; subst hy; exact ⟨a, rfl, h1⟩
      | succ i =>
        obtain ⟨x, q1, q2⟩ := mapO_get h2 i y (by simpa using hy)
        exact ⟨x, by simpa using q1, q2⟩
    · cases h

theorem preOf_get : ∀ (l : List SOper) (n i : Nat) (o : SOper), (preOf l n)[i]? = some o → ∃ o0, l[i]? = some o0 ∧ o = { o0 with sl := o.sl }
  | [], n, i, o, h => by simp [preOf] at h
  | x :: r, n, i, o, h => by
    unfold preOf at h
    split at h
    · cases i with
      | zero => simp at h; subst h; exact ⟨x, rfl, rfl⟩
      | succ i =>
        obtain ⟨o0, h1, h2⟩ := preOf_get r (n + 1) i o (by simpa using h)
        exact ⟨o0, by simpa using h1, h2⟩
    · cases i with
      | zero => simp at h; subst h; exact ⟨x, rfl, rfl⟩
      | succ i =>
        obtain ⟨o0, h1, h2⟩ := preOf_get r n i o (by simpa using h)
        exact ⟨o0, by simpa using h1, h2⟩

theorem annot_mem {ops : Array Oper} {so : List SOper} : ∀ (l : List Nat) (done : List SOper) (acc : List (Nat × List Nat)) (al : List SOper), annot ops so done acc l = some al →
    ∀ o ∈ al, ∃ (i : Nat) (o0 : SOper), so[i]? = some o0 ∧ o = { o0 with lg := o.lg, chk := o.chk }
  | [], _, _, al, h, o, ho => by cases h; simp at ho
  | i :: r, done, acc, al, h, o, ho => by
    unfold annot at h
    split at h
    · rename_i o0 op h1 h2
      obtain ⟨al', h3, rfl⟩ := map_some' h
      rcases List.mem_cons.1 ho with rfl | ho
      · exact ⟨i, o0, h1, rfl⟩
      · exact annot_mem r _ _ al' h3 o ho
    · cases h

theorem compOper_some {P : Program} {ops : Array Oper} {i : Nat} {o : SOper} (h : compOper P ops i = some o) : o.id = i ∧ o.sl = none ∧ o.chk = [] ∧ o.lg = false ∧ ∃ op, ops[i]? = some op ∧ compOp P op.op = some o.op ∧ o.dst = op.dst ∧ compGuard ops op = some o.gd := by
  unfold compOper at h
  split at h
  · cases h
  · rename_i op hop
    split at h
    · rename_i so g h1 h2
      cases h
      exact ⟨rfl, rfl, rfl, rfl, op, hop, h1, rfl, h2⟩
    · cases h

theorem beq_nat {a b : Nat} : Nat.beq a b = true ↔ a = b := by simp

theorem facts_of {P : Program} {ops : Array Oper} {so al : List SOper} {l : List Nat} {n : Nat} (hso : mapO (compOper P ops) (List.range ops.size) = some so) (han : annot ops (preOf so 0) [] [] l = some al)
    (hall : (List.range ops.size).all (fun i => al.any fun o => Nat.beq o.id i) = true) (hr : regOk ops n [] [] al = true) : Facts P ops n al := by
  have hop : ∀ (k : Nat) (o : SOper), al[k]? = some o → ∃ op : Oper, ops[o.id]? = some op ∧ compOp P op.op = some o.op ∧ o.dst = op.dst ∧ compGuard ops op = some o.gd := by
    intro k o hk
    obtain ⟨i, o0, h1, h2⟩ := annot_mem l [] [] al han o (List.mem_of_getElem? hk)
    obtain ⟨o1, h3, h4⟩ := preOf_get so 0 i o0 h1
    obtain ⟨j, h5, h6⟩ := mapO_get hso i o1 h3
    obtain ⟨q1, _, _, _, op, q2, q3, q4, q5⟩ := compOper_some h6
    rw [h2, h4]
    exact ⟨op, by simpa [q1] using q2, q3, q4, q5⟩
  have hone := regOk_at (ops := ops) (n := n) al [] [] (fun p hp => by simp at hp) hr
  have key : ∀ (k : Nat) (o : SOper) (op : Oper), al[k]? = some o → ops[o.id]? = some op → ∃ acc', AccOk ops acc' ∧
      ((al.take k).all (fun x => !(Nat.beq x.id o.id)) = true) ∧
      (∀ e ∈ op.after, Region.binds .any e = true → ∃ x ∈ al.take k, x.id = e.on) ∧
      ((isE o.op = false ∧ freeOf ops o.id op (al.drop (k + 1)) = true) ∨ soloOf ops (al.take k).reverse (al.drop (k + 1)) = true) ∧
      (∀ x ∈ opnds o.op, ∀ t, tmpOf x = some t → t ∈ op.looksAt ops) ∧
      (∀ t want, o.gd = some (t, want) → t ∈ op.looksAt ops) ∧
      placeOk n o (al.take k).reverse = true ∧ (isLd o.op = true → o.lg = true) ∧
      (isE o.op = true → ∀ x ∈ al.take k, isLd x.op = true → x.id ∈ o.chk ∨ x.id ∈ ancOf acc' op.after.toList) := by
    intro k o op hk hop2
    obtain ⟨acc', h1, h2⟩ := hone k o hk
    unfold oneOk at h2
    rw [hop2] at h2
    simp only [Bool.and_eq_true, List.append_nil] at h2
    obtain ⟨⟨⟨⟨⟨⟨⟨c1, c2⟩, c3⟩, c4⟩, c5⟩, c6⟩, c7⟩, c8⟩ := h2
    refine ⟨acc', h1, ?_, ?_, ?_, ?_, ?_, c6, ?_, ?_⟩
    · simpa using c1
    · intro e he hb
      have := List.all_eq_true.1 c2 e (by simpa using he)
      simp only [hb, Bool.not_true, Bool.false_or] at this
      obtain ⟨x, hx, hxe⟩ := List.any_eq_true.1 this
      exact ⟨x, by simpa using hx, beq_nat.1 hxe⟩
    · simp only [Bool.or_eq_true, Bool.and_eq_true, Bool.not_eq_true'] at c3
      exact c3
    · intro x hx t ht
      have := List.all_eq_true.1 c4 t (List.mem_filterMap.2 ⟨x, hx, ht⟩)
      obtain ⟨u, hu, e⟩ := List.any_eq_true.1 this
      rw [beq_nat.1 e]; exact hu
    · intro t want hg
      rw [hg] at c5
      obtain ⟨u, hu, e⟩ := List.any_eq_true.1 c5
      rw [beq_nat.1 e]; exact hu
    · intro hld
      simpa [hld] using c7
    · intro hE x hx hld
      simp only [hE, Bool.not_true, Bool.false_or] at c8
      have := List.all_eq_true.1 c8 x (by simpa using hx)
      simp only [hld, Bool.not_true, Bool.false_or, Bool.or_eq_true] at this
      rcases this with h | h
      · exact .inl (by simpa using h)
      · obtain ⟨u, hu, e⟩ := List.any_eq_true.1 h
        exact .inr (by rw [beq_nat.1 e]; exact hu)
  have take_get : ∀ (k : Nat) (x : SOper), x ∈ al.take k ↔ ∃ j, j < k ∧ al[j]? = some x := by
    intro k x
    constructor
    · intro hx
      obtain ⟨j, hj⟩ := List.getElem?_of_mem hx
      rw [List.getElem?_take] at hj
      split at hj
      · exact ⟨j, by assumption, hj⟩
      · cases hj
    · rintro ⟨j, hjk, hj⟩
      refine List.mem_of_getElem? (i := j) ?_
      rw [List.getElem?_take, if_pos hjk]; exact hj
  have drop_get : ∀ (k k' : Nat) (x : SOper), k < k' → al[k']? = some x → x ∈ al.drop (k + 1) := by
    intro k k' x hkk hx
    refine List.mem_of_getElem? (i := k' - (k + 1)) ?_
    rw [List.getElem?_drop]
    rwa [show k + 1 + (k' - (k + 1)) = k' by omega]
  have hinj0 : ∀ (j k : Nat) (x y : SOper), j < k → al[j]? = some x → al[k]? = some y → x.id ≠ y.id := by
    intro j k x y hjk hx hy he
    obtain ⟨op, hop2, _⟩ := hop k y hy
    obtain ⟨_, _, c1, _⟩ := key k y op hy hop2
    have := List.all_eq_true.1 c1 x ((take_get k x).2 ⟨j, hjk, hx⟩)
    simp [he] at this
  refine ⟨hop, ?_, ?_, ?_, ?_, ?_, ?_, ?_, ?_, ?_, ?_⟩
  · intro j k x y hx hy he
    rcases Nat.lt_trichotomy j k with h | h | h
    · exact absurd he (hinj0 j k x y h hx hy)
    · exact h
    · exact absurd he.symm (hinj0 k j y x h hy hx)
  · intro i hi
    have := List.all_eq_true.1 hall i (by simpa using hi)
    obtain ⟨o, ho, e⟩ := List.any_eq_true.1 this
    obtain ⟨k, hk⟩ := List.getElem?_of_mem ho
    exact ⟨k, o, hk, beq_nat.1 e⟩
  · intro k o op e hk hop2 he hb
    obtain ⟨_, _, _, c2, _⟩ := key k o op hk hop2
    obtain ⟨x, hx, hxe⟩ := c2 e he hb
    obtain ⟨j, hj, hjx⟩ := (take_get k x).1 hx
    exact ⟨j, x, hj, hjx, hxe⟩
  · intro k o op hk hop2
    obtain ⟨_, _, _, _, c3, _⟩ := key k o op hk hop2
    rcases c3 with ⟨h1, h2⟩ | h2
    · refine .inl ⟨h1, fun k' y oy hkk hy hoy => ?_⟩
      have := List.all_eq_true.1 h2 y (drop_get k k' y hkk hy)
      rw [hoy] at this
      simp only [Bool.or_eq_true] at this
      rcases this with h | h
      · obtain ⟨e, he, hh⟩ := List.any_eq_true.1 h
        simp only [Bool.and_eq_true] at hh
        exact .inl ⟨e, by simpa using he, hh.1, (beq_nat.1 hh.2).symm⟩
      · exact .inr h
    · refine .inr (fun k' y oy hkk hy hoy => ?_)
      have := List.all_eq_true.1 h2 y (drop_get k k' y hkk hy)
      rw [hoy] at this
      simp only at this
      obtain ⟨e, he, hh⟩ := List.any_eq_true.1 this
      simp only [Bool.and_eq_true] at hh
      refine ⟨e, by simpa using he, hh.1, fun j x hj hx hxe => ?_⟩
      have := List.all_eq_true.1 hh.2 x (by simpa using (take_get k x).2 ⟨j, hj, hx⟩)
      simp [hxe] at this
  · intro k o op hk hop2
    obtain ⟨_, _, _, _, _, c4, _⟩ := key k o op hk hop2
    exact c4
  · intro k o op t want hk hop2
    obtain ⟨_, _, _, _, _, _, c5, _⟩ := key k o op hk hop2
    exact c5 t want
  · intro k o hk hm
    obtain ⟨op, hop2, _⟩ := hop k o hk
    obtain ⟨_, _, _, _, _, _, _, c6, _⟩ := key k o op hk hop2
    unfold placeOk at c6
    simp only [hm, Bool.not_true, Bool.false_or] at c6
    split at c6
    · rename_i s hs
      simp only [Bool.and_eq_true, Nat.blt_eq] at c6
      exact ⟨s, hs, c6.1⟩
    · cases c6
  · have hlt : ∀ (j k : Nat) (x y : SOper) (s : Nat), j < k → al[j]? = some x → al[k]? = some y → makes x.op = true → makes y.op = true → x.sl = some s → y.sl = some s → False := by
      intro j k x y s hjk hx hy hmx hmy hsx hsy
      obtain ⟨op, hop2, _⟩ := hop k y hy
      obtain ⟨_, _, _, _, _, _, _, c6, _⟩ := key k y op hy hop2
      unfold placeOk at c6
      simp only [hmy, Bool.not_true, Bool.false_or, hsy, Bool.and_eq_true] at c6
      have := List.all_eq_true.1 c6.2 x (by simpa using (take_get k x).2 ⟨j, hjk, hx⟩)
      simp [hmx, hsx] at this
    intro j k x y s hx hy hmx hmy hsx hsy
    rcases Nat.lt_trichotomy j k with h | h | h
    · exact (hlt j k x y s h hx hy hmx hmy hsx hsy).elim
    · exact h
    · exact (hlt k j y x s h hy hx hmy hmx hsy hsx).elim
  · intro k o hk
    obtain ⟨op, hop2, _⟩ := hop k o hk
    obtain ⟨_, _, _, _, _, _, _, _, c7, _⟩ := key k o op hk hop2
    exact c7
  · intro j k x y oy hjk hx hy hoy hE hld
    obtain ⟨acc', ha, _, _, _, _, _, _, _, c8⟩ := key k y oy hy hoy
    rcases c8 hE x ((take_get k x).2 ⟨j, hjk, hx⟩) hld with h | h
    · exact .inl h
    · exact .inr (fun S hS hd => ancOf_ok ha hS (fun e he hb => hd e (by simpa using he) hb) _ h)

end Go.Proofs.Ytecncmmkghmojaa.Sh
