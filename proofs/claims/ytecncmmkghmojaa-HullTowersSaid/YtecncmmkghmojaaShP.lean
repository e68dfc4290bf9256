/- The shadow machine: every operation but calls. -/
import Derived.Test.YtecncmmkghmojaaShO
set_option linter.all false
namespace Go.Proofs.Ytecncmmkghmojaa.Sh
open Go Go.RowKit

section
variable {nt : Nat} {m : Mp} {t : T} {a : Act}

theorem ifO' {α : Type} {b : Bool} {x : α} {y : α} (h : ifO b (some x) = some y) : b = true ∧ x = y := by
  obtain ⟨h1, h2⟩ := ifO_some h; cases h2; exact ⟨h1, rfl⟩
theorem map_some' {α β : Type} {f : α → β} {x : Option α} {y : β} (h : x.map f = some y) : ∃ u, x = some u ∧ f u = y := by
  cases x with
  | none => cases h
  | some u => cases h; exact ⟨u, rfl, rfl⟩

theorem and3 {a b c : Bool} (h : (a && b && c) = true) : a = true ∧ b = true ∧ c = true := by simpa [and_assoc] using h
theorem and2 {a b : Bool} (h : (a && b) = true) : a = true ∧ b = true := by simpa using h

/-- an operation that makes a block -/
theorem made_op {E : Env} (ht : TR nt m t a.tmps) {o : Oper} {so : SOp} (hc : compOp E.P o.op = some so) (hm : makes so = true) {cs : List Value} {el : TypeId} {pf : Bool} {mk : Nat → Value} (hs : opMade so t = some (cs, el, pf, mk)) :
    ∃ s : Sem Value, execOp a.eval o = (do pure (Next.value (← s))) ∧ MadeBy E.P m s cs el mk := by
  obtain ⟨dst, op, type, pos, after, guard⟩ := o
  simp only at hc
  unfold compOp at hc
  split at hc
  case h_4 =>
    obtain ⟨z, hz, rfl⟩ := map_some' hc
    cases hs
    exact ⟨_, rfl, made_alloc hz⟩
  case h_5 =>
    obtain ⟨hx, rfl⟩ := ifO' hc
    simp only [opMade] at hs
    split at hs
    · rename_i v hv
      cases hs
      exact ⟨_, rfl, made_box ht hx hv⟩
    · cases hs
  case h_7 ty len parts =>
    split at hc
    case h_2 => cases hc
    rename_i e hu
    split at hc
    case h_2 => cases hc
    rename_i s z hsz hz
    split at hc
    case isFalse => cases hc
    rename_i hcond
    simp only [Bool.and_eq_true, beq_iff_eq, Nat.blt_eq, Nat.ble_eq] at hcond
    obtain ⟨⟨c1, c2⟩, c3⟩ := hcond
    obtain ⟨l, hl, rfl⟩ := map_some' hc
    have hu' : E.P.underlying ty = some (.slice e) := by
      unfold isSliceT at hu
      split at hu
      · cases hu; assumption
      · cases hu
    simp only [opMade] at hs
    split at hs
    case h_2 => cases hs
    rename_i ps hps
    split at hs
    case h_2 => cases hs
    rename_i out hout
    cases hs
    exact ⟨_, rfl, made_buildSlice hu' hsz hz c1 c2 c3 ht hl hps hout⟩
  all_goals
    (try unfold compCall at hc)
    (try unfold ifO at hc)
    (repeat' split at hc)
    all_goals first
      | (cases hc; done)
      | (cases hc; cases hm; done)
      | (obtain ⟨_, _, rfl⟩ := map_some' hc; cases hm; done)

theorem arr_of {α : Type} {x : Array α} {l : List α} (h : x.toList = l) : x = l.toArray := by rw [← h]

theorem sliceT {P : Program} {ty e : TypeId} (h : isSliceT P ty = some e) : P.underlying ty = some (.slice e) := by
  unfold isSliceT at h
  split at h
  · cases h; assumption
  · cases h

theorem Does.of_run {E : Env} {h h' : SHeap} {s s' : Sem Next} {w : World} {v : Value} (e : s'.run E.P w = s.run E.P w) (k : Does E m h s w v h') : Does E m h s' w v h' := by
  unfold Does at *; rw [e]; exact k

/-- builtin calls -/
theorem builtin_sim {E : Env} {h h' : SHeap} {d d' : List Nat} {w : World} (r : Rel E m h w) (ht : TR nt m t a.tmps) {b : Builtin} {args : Array Operand} {argTypes : Array TypeId} {type : TypeId} {so : SOp}
    (hc : compCall E.P ⟨.builtin b, args, argTypes⟩ = some so) {R : Rec} {cx : Cx} {sl : Option Nat} {v : Value} (hs : opRun R cx sl so t h d = some (v, h', d')) {dst : Option Tmp} {pos : String} {after : Array Edge} {guard : Option (Nat × Bool)} :
    Does E m h (execOp a.eval ⟨dst, .call ⟨.builtin b, args, argTypes⟩, type, pos, after, guard⟩) w v h' := by
  unfold compCall at hc
  simp only at hc
  split at hc
  · -- len
    rename_i x ty hx hty
    have ha := arr_of hx
    have hb := arr_of hty
    subst ha hb
    split at hc
    case isFalse => cases hc
    rename_i hok
    split at hc
    · rename_i e hu
      cases hc
      refine Does.of_run (by simp [execOp, resolve, invoke, builtin]) <| sim_len (rt := type) r ht hu hok hs
    · rename_i n e hu
      cases hc
      have := sim_mov r ht (x := .const (.int .i64 n)) rfl hs
      obtain ⟨h1, rfl, rfl⟩ := same_some (show o_mov _ t h d = _ from hs)
      cases h1
      refine Does.of_run (by simp [execOp, resolve, invoke, builtin]) <| sim_lenArr (x := a.eval x) (rt := type) r hu
    · rename_i arr hu
      split at hc
      · rename_i n e hu2
        cases hc
        obtain ⟨h1, rfl, rfl⟩ := same_some (show o_mov _ t h d = _ from hs)
        cases h1
        refine Does.of_run (by simp [execOp, resolve, invoke, builtin]) <| sim_lenPtr (x := a.eval x) (rt := type) r hu hu2
      · cases hc
    · cases hc
  · -- append
    rename_i x y ty u hx hty
    have ha := arr_of hx
    have hb := arr_of hty
    subst ha hb
    split at hc
    case h_2 => cases hc
    rename_i e e2 hu hu2
    split at hc
    case h_2 => cases hc
    rename_i i z hi hz
    split at hc
    case isFalse => cases hc
    rename_i hcond
    simp only [Bool.and_eq_true, beq_iff_eq, Nat.blt_eq] at hcond
    obtain ⟨⟨⟨c1, c2⟩, c3⟩, c4⟩ := hcond
    cases hc
    obtain ⟨i2, zv, hi2, hzv, hp, rfl⟩ := zero_info hz
    rw [hi] at hi2; cases hi2
    have hcl := (VR.plain (m := m) hp).cells
    have hvs : zv.cells.size = i.size := by have := hcl.1; simp at this; omega
    refine Does.of_run (by simp [execOp, resolve, invoke, builtin]) <| sim_append (ty := type) r ht (sliceT hu) (sliceT hu2) hi hzv hvs c3 c1 c2 hs
  · -- copy
    rename_i x y ty u hx hty
    have ha := arr_of hx
    have hb := arr_of hty
    subst ha hb
    split at hc
    case h_2 => cases hc
    rename_i e e2 hu hu2
    split at hc
    case h_2 => cases hc
    rename_i i hi
    split at hc
    case isFalse => cases hc
    rename_i hcond
    simp only [Bool.and_eq_true, Nat.blt_eq] at hcond
    obtain ⟨⟨c1, c2⟩, c3⟩ := hcond
    cases hc
    refine Does.of_run (by simp [execOp, resolve, invoke, builtin]) <| sim_copy (ty2 := u) (rt := type) r ht (sliceT hu) (szOf_info hi) c3 c1 c2 hs
  · -- clear
    rename_i x ty hx hty
    have ha := arr_of hx
    have hb := arr_of hty
    subst ha hb
    split at hc
    case h_2 => cases hc
    rename_i e hu
    split at hc
    case h_2 => cases hc
    rename_i i z hi hz
    split at hc
    case isFalse => cases hc
    rename_i hcond
    simp only [Bool.and_eq_true, beq_iff_eq, Nat.blt_eq] at hcond
    obtain ⟨⟨c1, c2⟩, c3⟩ := hcond
    cases hc
    refine Does.of_run (by simp [execOp, resolve, invoke, builtin]) <| sim_clear (rt := type) r ht (sliceT hu) hi hz c2 c3 c1 hs
  · -- max
    split at hc
    case isFalse => cases hc
    rename_i hok
    cases hc
    refine Does.of_run (by simp [execOp, resolve, invoke, builtin]) <| sim_maxi (tys := argTypes) (rt := type) (args := args.map a.eval) r ht hok hs (by simp)
  · split at hc
    case isFalse => cases hc
    rename_i hok
    cases hc
    refine Does.of_run (by simp [execOp, resolve, invoke, builtin]) <| sim_mini (tys := argTypes) (rt := type) (args := args.map a.eval) r ht hok hs (by simp)
  · cases hc

theorem op_sim {E : Env} {h h' : SHeap} {d d' : List Nat} {w : World} (r : Rel E m h w) (ht : TR nt m t a.tmps) {o : Oper} {so : SOp} (hc : compOp E.P o.op = some so) (hm : makes so = false) (hcall : ∀ f args, so ≠ .call f args)
    {R : Rec} {cx : Cx} {sl : Option Nat} {v : Value} (hs : opRun R cx sl so t h d = some (v, h', d')) : Does E m h (execOp a.eval o) w v h' := by
  obtain ⟨dst, op, type, pos, after, guard⟩ := o
  simp only at hc
  unfold compOp at hc
  split at hc
  · obtain ⟨hx, rfl⟩ := ifO' hc
    exact sim_mov r ht hx hs
  · obtain ⟨hx, rfl⟩ := ifO' hc
    exact sim_mov r ht hx hs
  · obtain ⟨hx, rfl⟩ := ifO' hc
    obtain ⟨c1, c2, c3⟩ := and3 hx
    exact sim_pick r ht c1 c2 c3 hs
  · obtain ⟨z, _, rfl⟩ := map_some' hc
    cases hm
  · obtain ⟨_, rfl⟩ := ifO' hc
    cases hm
  · -- build
    rename_i ty parts
    split at hc
    · rename_i fs z hu hz
      split at hc
      case isFalse => cases hc
      rename_i hf
      obtain ⟨l, hl, rfl⟩ := map_some' hc
      exact sim_buildStruct r ht hu hz hf hl hs
    · rename_i n e z hu hz
      split at hc
      case h_2 => cases hc
      rename_i s hsz
      obtain ⟨l, hl, rfl⟩ := map_some' hc
      exact sim_buildArr r ht hu hz hsz hl hs
    · cases hc
  · -- buildSlice
    split at hc
    case h_2 => cases hc
    split at hc
    case h_2 => cases hc
    split at hc
    case isFalse => cases hc
    obtain ⟨l, hl, rfl⟩ := map_some' hc
    cases hm
  · -- load
    obtain ⟨hx, hc⟩ := ifO_some hc
    obtain ⟨g, hg, rfl⟩ := map_some' hc
    exact sim_load r ht hg hx hs
  · -- store
    obtain ⟨hx, hc⟩ := ifO_some hc
    obtain ⟨n, hn, rfl⟩ := map_some' hc
    obtain ⟨c1, c2⟩ := and2 hx
    exact (sim_store r ht hn c1 c2 hs).1
  · -- nilCheck
    obtain ⟨hx, rfl⟩ := ifO' hc
    exact sim_nilCheck r ht hx rfl hs
  · -- binOp
    rename_i op ty x y q
    split at hc
    case isFalse => cases hc
    rename_i hx
    obtain ⟨c1, c2⟩ := and2 hx
    split at hc
    · obtain ⟨k, hk, rfl⟩ := map_some' hc
      exact sim_eq (neg := false) r ht hk c1 c2 hs
    · obtain ⟨k, hk, rfl⟩ := map_some' hc
      exact sim_eq (neg := true) r ht hk c1 c2 hs
    · split at hc
      · cases hc
        exact sim_bin r ht c1 c2 hs
      · cases hc
  · -- unOp
    obtain ⟨hx, rfl⟩ := ifO' hc
    exact sim_un r ht hx hs
  · -- convert
    split at hc
    · rename_i q k h1 h2
      obtain ⟨hx, rfl⟩ := ifO' hc
      exact sim_conv r ht h1 h2 hx hs
    · cases hc
  · -- slice
    rename_i ty x lo hi mx
    split at hc
    case isFalse => cases hc
    rename_i hcond
    simp only [Bool.and_eq_true] at hcond
    obtain ⟨⟨⟨c1, c2⟩, c3⟩, c4⟩ := hcond
    split at hc
    · rename_i e hu
      obtain ⟨s, hsz, rfl⟩ := map_some' hc
      exact sim_slice r ht hu hsz c1 c2 c3 c4 hs
    · rename_i n e hu
      obtain ⟨s, hsz, rfl⟩ := map_some' hc
      exact sim_sliceArr r ht hu hsz c1 c2 c3 c4 hs
    · cases hc
  · -- fieldAddr
    split at hc
    case h_2 => cases hc
    rename_i fs hu
    split at hc
    case h_2 => cases hc
    rename_i f hf
    split at hc
    case h_2 => cases hc
    rename_i s hsz
    split at hc
    case isFalse => cases hc
    rename_i hcond
    simp only [Bool.and_eq_true, Nat.blt_eq] at hcond
    cases hc
    exact sim_fieldAddr r ht hu hf hsz hcond.2 hcond.1 hs
  · -- field
    split at hc
    case h_2 => cases hc
    rename_i fs hu
    split at hc
    case h_2 => cases hc
    rename_i f hf
    obtain ⟨hx, hc⟩ := ifO_some hc
    obtain ⟨g, hg, rfl⟩ := map_some' hc
    exact sim_field r ht hu hf hg hx hs
  · -- indexAddr
    split at hc
    case isFalse => cases hc
    rename_i hcond
    obtain ⟨c1, c2⟩ := and2 hcond
    split at hc
    · rename_i e hu
      obtain ⟨s, hsz, rfl⟩ := map_some' hc
      exact sim_idxSl r ht hu hsz c1 c2 hs
    · rename_i n e hu
      obtain ⟨s, hsz, rfl⟩ := map_some' hc
      exact sim_idxArr r ht hu hsz c1 c2 hs
    · cases hc
  · -- index
    split at hc
    case isFalse => cases hc
    rename_i hcond
    obtain ⟨c1, c2⟩ := and2 hcond
    split at hc
    · rename_i n e hu
      split at hc
      case h_2 => cases hc
      rename_i s g hsz hg
      cases hc
      exact sim_idx r ht hu hsz hg c1 c2 hs
    · rename_i hu
      cases hc
      exact sim_idxStr r ht hu c1 c2 hs
    · cases hc
  · -- makeFunc
    split at hc
    case h_2 => cases hc
    split at hc
    case isFalse => cases hc
    rename_i hcond
    obtain ⟨c1, c2⟩ := and2 hcond
    cases hc
    exact sim_makeFunc r ht c1 c2 hs
  · -- extract
    obtain ⟨hx, rfl⟩ := ifO' hc
    exact sim_extract r ht hx hs
  · -- call
    rename_i c
    obtain ⟨callee, args, argTypes⟩ := c
    cases callee with
    | value f =>
      unfold compCall at hc
      simp only at hc
      split at hc
      · cases hc; exact absurd rfl (hcall _ _)
      · cases hc
    | invoke x n => cases hc
    | builtin b => exact builtin_sim r ht hc hs
  · -- makeSlice
    split at hc
    case h_2 => cases hc
    rename_i e hu
    split at hc
    case h_2 => cases hc
    rename_i i z hi hz
    split at hc
    case isFalse => cases hc
    rename_i hcond
    simp only [Bool.and_eq_true, beq_iff_eq, Nat.blt_eq] at hcond
    obtain ⟨⟨⟨c1, c2⟩, c3⟩, c4⟩ := hcond
    cases hc
    exact sim_makeSlice r ht (sliceT hu) hi hz c3 c4 c1 c2 hs
  · cases hc

end
end Go.Proofs.Ytecncmmkghmojaa.Sh
