/- The shadow machine: len, max, min, composite values, new blocks, copy. -/
import Derived.Test.YtecncmmkghmojaaShM
import Derived.Laws.Tables
set_option linter.all false
namespace Go.Proofs.Ytecncmmkghmojaa.Sh
open Go Go.RowKit

section
variable {P : Program} {nt : Nat} {m : Mp} {t : T} {a : Act}

theorem sim_len {E : Env} {h h' : SHeap} {d d' : List Nat} {w : World} (r : Rel E m h w) (ht : TR nt m t a.tmps) {ty rt e : TypeId} {x : Operand} (hu : E.P.underlying ty = some (.slice e)) (hx : okO x = true) {v : Value} (hs : o_len x t h d = some (v, h', d')) :
    Does E m h (do pure (Next.value (← Builtin.len_ #[ty] rt #[a.eval x]))) w v h' := by
  unfold o_len at hs
  split at hs
  · rename_i p n c h1
    cases hs
    have hv := ev_sim ht hx h1
    obtain ⟨p', c', hp⟩ : ∃ p' c', a.eval x = .slice p' n c' := by
      generalize a.eval x = xv at hv ⊢
      cases hv <;> exact ⟨_, _, rfl⟩
    refine Does.pure r (run_v (v := .int .i64 n) ?_) (.int _ _)
    rw [hp]
    simp [Builtin.len_, run_underlying hu, goInt]
  · cases hs

theorem sim_lenArr {E : Env} {h : SHeap} {w : World} (r : Rel E m h w) {ty rt e : TypeId} {n : Nat} {x : Value} (hu : E.P.underlying ty = some (.array n e)) :
    Does E m h (do pure (Next.value (← Builtin.len_ #[ty] rt #[x]))) w (.int .i64 n) h := by
  refine Does.pure r (run_v (v := .int .i64 n) ?_) (.int _ _)
  simp [Builtin.len_, run_underlying hu, goInt]
theorem sim_lenPtr {E : Env} {h : SHeap} {w : World} (r : Rel E m h w) {ty rt e arr : TypeId} {n : Nat} {x : Value} (hu : E.P.underlying ty = some (.pointer arr)) (hu2 : E.P.underlying arr = some (.array n e)) :
    Does E m h (do pure (Next.value (← Builtin.len_ #[ty] rt #[x]))) w (.int .i64 n) h := by
  refine Does.pure r (run_v (v := .int .i64 n) ?_) (.int _ _)
  simp [Builtin.len_, run_underlying hu, run_underlying hu2, goInt]

theorem max_fold {w : World} : ∀ (l l' : List Value) (x x' v : Value), LR m l l' → VR m x x' → foldV max2S x l = some v → VR m v v ∧ (l'.foldlM Builtin.max2 x').run P w = .ok v w ∨ (l = [] ∧ l' = [] ∧ v = x) := by
  intro l
  induction l with
  | nil => intro l' x x' v hl hx hf; cases hf; exact .inr ⟨rfl, hl.nil_inv, rfl⟩
  | cons y r ih =>
    intro l' x x' v hl hx hf
    obtain ⟨y', r', rfl, hy, hr⟩ := hl.cons_inv
    unfold foldV at hf
    split at hf
    case h_2 => cases hf
    rename_i z hz
    unfold max2S at hz
    split at hz
    case h_2 => cases hz
    rename_i k u k' u'
    cases hz
    have e1 := hx.int_inv
    have e2 := hy.int_inv
    subst e1 e2
    left
    have := ih r' _ _ v hr (VR.int k (if u' > u then u' else u)) hf
    rcases this with ⟨h1, h2⟩ | ⟨rfl, rfl, rfl⟩
    · exact ⟨h1, by simp [List.foldlM_cons, Builtin.max2, h2]⟩
    · exact ⟨.int _ _, by simp [List.foldlM_cons, Builtin.max2]⟩
theorem min_fold {w : World} : ∀ (l l' : List Value) (x x' v : Value), LR m l l' → VR m x x' → foldV min2S x l = some v → VR m v v ∧ (l'.foldlM Builtin.min2 x').run P w = .ok v w ∨ (l = [] ∧ l' = [] ∧ v = x) := by
  intro l
  induction l with
  | nil => intro l' x x' v hl hx hf; cases hf; exact .inr ⟨rfl, hl.nil_inv, rfl⟩
  | cons y r ih =>
    intro l' x x' v hl hx hf
    obtain ⟨y', r', rfl, hy, hr⟩ := hl.cons_inv
    unfold foldV at hf
    split at hf
    case h_2 => cases hf
    rename_i z hz
    unfold min2S at hz
    split at hz
    case h_2 => cases hz
    rename_i k u k' u'
    cases hz
    have e1 := hx.int_inv
    have e2 := hy.int_inv
    subst e1 e2
    left
    have := ih r' _ _ v hr (VR.int k (if u' < u then u' else u)) hf
    rcases this with ⟨h1, h2⟩ | ⟨rfl, rfl, rfl⟩
    · exact ⟨h1, by simp [List.foldlM_cons, Builtin.min2, h2]⟩
    · exact ⟨.int _ _, by simp [List.foldlM_cons, Builtin.min2]⟩

theorem sim_maxi {E : Env} {h h' : SHeap} {d d' : List Nat} {w : World} (r : Rel E m h w) (ht : TR nt m t a.tmps) {tys : Array TypeId} {rt : TypeId} {xs : List Operand} (hx : xs.all okO = true) {v : Value} (hs : o_maxi xs t h d = some (v, h', d')) {args : Array Value} (ha : args.toList = xs.map a.eval) :
    Does E m h (do pure (Next.value (← Builtin.max_ tys rt args))) w v h' := by
  unfold o_maxi at hs
  split at hs
  case h_2 => cases hs
  rename_i l hl
  obtain ⟨h1, rfl, rfl⟩ := same_some hs
  have hr := evs_sim ht hx hl
  rw [← ha] at hr
  unfold foldS at h1
  split at h1
  case h_1 => cases h1
  rename_i x rest
  obtain ⟨x', r', he, hv, hr⟩ := hr.cons_inv
  rcases max_fold (P := E.P) (w := w) rest r' x x' v hr hv h1 with ⟨h2, h3⟩ | ⟨rfl, rfl, rfl⟩
  · exact Does.pure r (run_v (v := v) (by unfold Builtin.max_; rw [he]; exact h3)) h2
  · exact Does.pure r (run_v (v := x') (by unfold Builtin.max_; rw [he]; simp)) hv
theorem sim_mini {E : Env} {h h' : SHeap} {d d' : List Nat} {w : World} (r : Rel E m h w) (ht : TR nt m t a.tmps) {tys : Array TypeId} {rt : TypeId} {xs : List Operand} (hx : xs.all okO = true) {v : Value} (hs : o_mini xs t h d = some (v, h', d')) {args : Array Value} (ha : args.toList = xs.map a.eval) :
    Does E m h (do pure (Next.value (← Builtin.min_ tys rt args))) w v h' := by
  unfold o_mini at hs
  split at hs
  case h_2 => cases hs
  rename_i l hl
  obtain ⟨h1, rfl, rfl⟩ := same_some hs
  have hr := evs_sim ht hx hl
  rw [← ha] at hr
  unfold foldS at h1
  split at h1
  case h_1 => cases h1
  rename_i x rest
  obtain ⟨x', r', he, hv, hr⟩ := hr.cons_inv
  rcases min_fold (P := E.P) (w := w) rest r' x x' v hr hv h1 with ⟨h2, h3⟩ | ⟨rfl, rfl, rfl⟩
  · exact Does.pure r (run_v (v := v) (by unfold Builtin.min_; rw [he]; exact h3)) h2
  · exact Does.pure r (run_v (v := x') (by unfold Builtin.min_; rw [he]; simp)) hv

/-! ### composite values -/
theorem LR.writeAt {l l' vs vs' : List Value} (h : LR m l l') (hv : LR m vs vs') (o : Nat) : LR m (writeAt l o vs) (writeAt l' o vs') := by
  induction vs generalizing l l' o vs' with
  | nil => rw [hv.nil_inv]; exact h
  | cons v vs ih =>
    obtain ⟨v', r', rfl, h1, h2⟩ := hv.cons_inv
    exact ih (h.set o h1) h2 (o + 1)

theorem fold_writeAt (off : Nat) : ∀ (vs : List Value) (k : Nat) (cs : Array Value),
    ((vs.zipIdx k).foldl (fun cs (cj : Value × Nat) => cs.setIfInBounds (off + cj.2) cj.1) cs).toList = writeAt cs.toList (off + k) vs := by
  intro vs
  induction vs with
  | nil => intro k cs; rfl
  | cons v vs ih =>
    intro k cs
    rw [List.zipIdx_cons, List.foldl_cons, ih]
    simp [Sh.writeAt, Nat.add_assoc]

theorem fill_sim {place : Nat → Option (Nat × Nat)} {parts : List (Nat × Operand)} {l : List (Nat × Nat × Operand)} (hc : compParts place parts = some l) (ht : TR nt m t a.tmps) :
    ∀ {ps : List (Nat × Nat × Value)} (_ : evp t l = some ps) {cs : List Value} {cs' : Array Value} (_ : LR m cs cs'.toList) {out : List Value} (_ : fillS cs ps = some out),
      ∃ out', Instr.fill place cs' (parts.map fun p => (p.1, a.eval p.2)) = some out' ∧ LR m out out'.toList := by
  induction parts generalizing l with
  | nil =>
    intro ps hp cs cs' hl out ho
    cases hc; cases hp; cases ho
    exact ⟨_, rfl, hl⟩
  | cons p r ih =>
    intro ps hp cs cs' hl out ho
    obtain ⟨i, x⟩ := p
    unfold compParts at hc
    split at hc
    case h_2 => cases hc
    rename_i o s l2 hpl hrest
    split at hc
    case isFalse => cases hc
    rename_i hok
    cases hc
    unfold evp at hp
    split at hp
    case h_2 => cases hp
    rename_i v vs hv hvs
    cases hp
    unfold fillS at ho
    simp only at ho
    split at ho
    case isFalse => cases ho
    rename_i hsz
    simp only [Bool.and_eq_true, beq_iff_eq, Nat.ble_eq] at hsz
    have hx := ev_sim ht hok hv
    have hcl := hx.cells
    have hlen : (a.eval x).cells.size = s := by rw [← hsz.1, hcl.1]; simp
    have hcs : cs'.size = cs.length := by have := hl.1; simp at this; omega
    obtain ⟨out', h1, h2⟩ := ih hrest hvs (cs' := (a.eval x).cells.zipIdx.foldl (fun cs (c, j) => cs.setIfInBounds (o + j) c) cs') (by
      have hfw := fold_writeAt o (a.eval x).cells.toList 0 cs'
      rw [← Array.foldl_toList, Array.toList_zipIdx]
      rw [show (fun (cs : Array Value) (x : Value × Nat) => match x with | (c, j) => cs.setIfInBounds (o + j) c) = (fun cs (cj : Value × Nat) => cs.setIfInBounds (o + cj.2) cj.1) from rfl]
      rw [hfw]
      exact hl.writeAt hcl o) ho
    refine ⟨out', ?_, h2⟩
    simp only [List.map_cons, Instr.fill, hpl]
    rw [if_neg (by simp; omega)]
    exact h1

theorem sz_info {P : Program} {e : TypeId} {n : Nat} (h : szOf P e = some n) : ∃ i, P.info? e = some i ∧ i.size = n := by
  unfold szOf at h
  cases hi : P.info? e with
  | none => rw [hi] at h; cases h
  | some i => rw [hi] at h; cases h; exact ⟨i, rfl, rfl⟩
theorem zero_info {P : Program} {e : TypeId} {z : List Value} (h : zeroOf P e = some z) : ∃ i v, P.info? e = some i ∧ i.zero = some v ∧ plainC v = true ∧ z = cellsL v := by
  unfold zeroOf at h
  split at h
  · rename_i v hv
    split at h
    · rename_i hp
      cases h
      cases hi : P.info? e with
      | none => rw [hi] at hv; cases hv
      | some i => rw [hi] at hv; exact ⟨i, v, rfl, hv, hp, rfl⟩
    · cases h
  · cases h

theorem places_of {P : Program} : ∀ (fs : List Field), fs.all (fun (f : Field) => (szOf P f.type).isSome) = true →
    ∃ places, fs.mapM (fun (f : Field) => (P.info? f.type).map fun i => (f.offset, i.size)) = some places ∧ ∀ (i : Nat), places[i]? = match fs[i]? with | some (f : Field) => (szOf P f.type).map fun s => (f.offset, s) | none => none := by
  intro fs
  induction fs with
  | nil => intro _; exact ⟨[], rfl, fun i => by simp⟩
  | cons f fs ih =>
    intro h
    simp only [List.all_cons, Bool.and_eq_true] at h
    obtain ⟨pl, h1, h2⟩ := ih h.2
    obtain ⟨s, hs⟩ := Option.isSome_iff_exists.1 h.1
    obtain ⟨i, hi, rfl⟩ := sz_info hs
    refine ⟨(f.offset, i.size) :: pl, ?_, fun j => ?_⟩
    · simp [List.mapM_cons, hi, h1]
    · cases j with
      | zero => simp [hs]
      | succ j => simpa using h2 j

theorem sim_buildStruct {E : Env} {h h' : SHeap} {d d' : List Nat} {w : World} (r : Rel E m h w) (ht : TR nt m t a.tmps) {ty : TypeId} {fs : Array Field} {z : List Value} {parts : Array (Nat × Operand)} {l : List (Nat × Nat × Operand)}
    (hu : E.P.underlying ty = some (.struct fs)) (hz : zeroOf E.P ty = some z) (hf : fs.toList.all (fun f => (szOf E.P f.type).isSome) = true) (hc : compParts (fieldPlaces E.P fs) parts.toList = some l)
    {v : Value} (hs : o_build z l t h d = some (v, h', d')) : Does E m h (do pure (Next.value (← Instr.build ty (parts.map fun (i, x) => (i, a.eval x))))) w v h' := by
  unfold o_build at hs
  split at hs
  case h_2 => cases hs
  rename_i ps hps
  split at hs
  case h_2 => cases hs
  rename_i out hout
  cases hs
  obtain ⟨i, zv, hi, hiz, hpl, rfl⟩ := zero_info hz
  obtain ⟨pl, h1, h2⟩ := places_of _ hf
  obtain ⟨out', h3, h4⟩ := fill_sim hc ht hps (cs' := zv.cells) (VR.plain hpl).cells hout
  refine Does.pure r (run_v (v := .agg out') (run_build w ty _ out' ?_)) (VR.agg (by simpa using h4.1) (by simpa using h4.2))
  unfold Program.built
  simp only [hi, hu, hiz, h1]
  have : (fun x => pl.toArray[x]?) = fieldPlaces E.P fs := by
    funext j
    simp only [List.getElem?_toArray, h2 j, Array.getElem?_toList]
    rfl
  rw [this]
  simpa using h3

theorem sim_buildArr {E : Env} {h h' : SHeap} {d d' : List Nat} {w : World} (r : Rel E m h w) (ht : TR nt m t a.tmps) {ty e : TypeId} {n s : Nat} {z : List Value} {parts : Array (Nat × Operand)} {l : List (Nat × Nat × Operand)}
    (hu : E.P.underlying ty = some (.array n e)) (hz : zeroOf E.P ty = some z) (hsz : szOf E.P e = some s) (hc : compParts (fun i => some (i * s, s)) parts.toList = some l)
    {v : Value} (hs : o_build z l t h d = some (v, h', d')) : Does E m h (do pure (Next.value (← Instr.build ty (parts.map fun (i, x) => (i, a.eval x))))) w v h' := by
  unfold o_build at hs
  split at hs
  case h_2 => cases hs
  rename_i ps hps
  split at hs
  case h_2 => cases hs
  rename_i out hout
  cases hs
  obtain ⟨i, zv, hi, hiz, hpl, rfl⟩ := zero_info hz
  obtain ⟨ie, hie, rfl⟩ := sz_info hsz
  obtain ⟨out', h3, h4⟩ := fill_sim hc ht hps (cs' := zv.cells) (VR.plain hpl).cells hout
  refine Does.pure r (run_v (v := .agg out') (run_build w ty _ out' ?_)) (VR.agg (by simpa using h4.1) (by simpa using h4.2))
  unfold Program.built
  simp only [hi, hu, hiz, hie]
  simpa using h3

end
end Go.Proofs.Ytecncmmkghmojaa.Sh
