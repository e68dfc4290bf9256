/- The shadow machine: operations, one by one, third part: slices and what is made. -/
import Derived.Test.YtecncmmkghmojaaShI
set_option linter.all false
namespace Go.Proofs.Ytecncmmkghmojaa.Sh
open Go Go.RowKit

section
variable {P : Program} {nt : Nat} {m : Mp} {t : T} {a : Act}

theorem bnd_mono {x : Value} {y z l : Nat} (h : bnd x y = some l) (hz : y ≤ z) : bnd x z = some l := by
  unfold bnd at h ⊢
  split at h
  · split at h
    · rename_i k i hb
      simp only [Bool.and_eq_true, decide_eq_true_eq] at hb
      have h1 : i ≤ (z : Int) := by omega
      simp [hb.1, h1]; simpa using h
    · cases h
  · cases h
theorem bMx_mono {mx : Option Value} {c c' l : Nat} (h : bMx mx c = some l) (hc : c ≤ c') : (bMx mx c' = some l ∧ mx ≠ none) ∨ (mx = none ∧ l = c) := by
  unfold bMx at h
  split at h
  · exact .inl ⟨by unfold bMx; exact bnd_mono h hc, by simp⟩
  · cases h; exact .inr ⟨rfl, rfl⟩
theorem bHi_mono {hi : Option Value} {mm mm' len l : Nat} (h : bHi hi none mm len = some l) (hc : mm ≤ mm') : bHi hi none mm' len = some l := by
  unfold bHi at h ⊢
  split at h
  · exact bnd_mono h hc
  · exact h

/-- the value of a slice expression over a slice -/
theorem slice_val {E : Env} {w : World} {size : Nat} {x x' v : Value} {lo hi mx lo' hi' mx' : Option Value} (hx : VR m x x') (hs : sliceS size x lo hi mx = some v)
    (elo : (lo = none ∧ lo' = none) ∨ ∃ u u', lo = some u ∧ lo' = some u' ∧ VR m u u')
    (ehi : (hi = none ∧ hi' = none) ∨ ∃ u u', hi = some u ∧ hi' = some u' ∧ VR m u u')
    (emx : (mx = none ∧ mx' = none) ∨ ∃ u u', mx = some u ∧ mx' = some u' ∧ VR m u u') :
    ∃ (a' : Option Addr) (len cap l h mm : Nat), x' = .slice a' len cap ∧ (Instr.sliceBounds true len cap lo' hi' mx').run E.P w = .ok (l, h, mm) w ∧
      VR m v (.slice (if mm = l then a' else a'.map (fun (q : Addr) => q.add (l * size))) (h - l) (mm - l)) := by
  unfold sliceS at hs
  split at hs
  case h_2 => cases hs
  rename_i ad len cap
  split at hs
  case h_1 => cases hs
  rename_i mm hmm
  split at hs
  case h_1 => cases hs
  rename_i hh hhe
  split at hs
  case h_1 => cases hs
  rename_i l hle2
  have hll := bLo_le hle2
  -- what x' is
  obtain ⟨a', cap', rfl, hlc, hadr⟩ : ∃ a' cap', x' = .slice a' len cap' ∧ (ad ≠ none → len ≤ cap') ∧
      ((ad = none ∧ a' = none ∧ cap = cap' ∧ len = 0 ∧ cap = 0) ∨ (∃ b o A δ, ad = some ⟨b, o, none⟩ ∧ m.at b = some (A, δ) ∧ a' = some ⟨A, δ + o, none⟩ ∧ CapR m b o cap cap') ∨ (∃ b o a'' p, m.at b = some p ∧ ad = some ⟨b, o, none⟩ ∧ a' = some a'' ∧ len = 0 ∧ cap' = 0 ∧ (cap = 0 ∨ UNK ≤ cap))) := by
    cases hx with
    | sl0 => exact ⟨_, _, rfl, fun h => absurd rfl h, .inl ⟨rfl, rfl, rfl, rfl, rfl⟩⟩
    | sl hm hn h3 => exact ⟨_, _, rfl, fun _ => hn, .inr (.inl ⟨_, _, _, _, rfl, hm, rfl, h3⟩)⟩
    | slz hp h3 => exact ⟨_, _, rfl, fun _ => Nat.le_refl _, .inr (.inr ⟨_, _, _, _, hp, rfl, rfl, rfl, rfl, h3⟩)⟩
  rcases hadr with ⟨rfl, rfl, rfl, rfl, rfl⟩ | hadr
  · -- nil
    simp only at hs; cases hs
    have hb : Nat.ble UNK 0 = false := rfl
    rw [hb] at hmm
    simp only [Bool.false_eq_true, if_false] at hmm
    have hml := bMx_le hmm
    have hhm : hh ≤ mm := bHi_le hhe (fun h => Nat.zero_le _)
    refine ⟨none, 0, 0, l, hh, mm, rfl, bounds_run w hmm hhe hle2 elo ehi emx, ?_⟩
    have : (if mm = l then (none : Option Addr) else Option.map (fun (q : Addr) => q.add (l * size)) none) = none := by split <;> rfl
    have e1 : mm = 0 := by omega
    have e2 : l = 0 := by omega
    have e3 : hh = 0 := by omega
    subst e1 e2 e3
    rw [this]; exact .sl0
  · have hadn : ad ≠ none := by rcases hadr with ⟨_, _, _, _, h, _⟩ | ⟨_, _, _, _, _, h, _⟩ <;> rw [h] <;> simp
    have hlc1 := hlc hadn
    cases hb : Nat.ble UNK cap with
    | true =>
      have hcU : UNK ≤ cap := by simpa using hb
      rw [hb] at hmm hs
      simp only [if_true] at hmm
      rcases bMx_mono hmm hlc1 with ⟨hm2, hne⟩ | ⟨rfl, rfl⟩
      · -- a third index
        have hmn : mx.isNone = false := by cases mx <;> simp_all
        have hhm : hh ≤ mm := bHi_le hhe (fun h => absurd h hne)
        have hml := bMx_le hmm
        refine ⟨a', len, cap', l, hh, mm, rfl, bounds_run w hm2 hhe hle2 elo ehi emx, ?_⟩
        rcases hadr with ⟨b, o, A, δ, rfl, hm, rfl, hcr⟩ | ⟨b, o, a'', p, hp, rfl, rfl, h5, h6, h7⟩
        · simp only [hmn, Bool.and_false, Bool.false_eq_true, if_false] at hs
          split at hs
          case isFalse => cases hs
          rename_i hmu
          simp only [Nat.blt_eq] at hmu
          cases hs
          by_cases e : mm = l
          · simp only [e, beq_self_eq_true, if_true]
            exact .sl hm (by omega) (.inl ⟨rfl, by omega⟩)
          · simp only [beq_iff_eq, e, if_false, Option.map_some, addr_add, Nat.add_assoc]
            exact .sl hm (by omega) (.inl ⟨rfl, by omega⟩)
        · simp only [hmn, Bool.and_false, Bool.false_eq_true, if_false] at hs
          split at hs
          case isFalse => cases hs
          cases hs
          have e1 : mm = 0 := by omega
          have e2 : l = 0 := by omega
          have e3 : hh = 0 := by omega
          subst e1 e2 e3
          simp only [beq_self_eq_true, if_true]
          exact .slz hp (.inl rfl)
      · have hhm : hh ≤ mm := bHi_le hhe (fun _ => Nat.le_refl _)
        refine ⟨a', mm, cap', l, hh, cap', rfl, bounds_run w rfl (bHi_mono hhe hlc1) hle2 elo ehi emx, ?_⟩
        rcases hadr with ⟨b, o, A, δ, rfl, hm, rfl, hcr⟩ | ⟨b, o, a'', p, hp, rfl, rfl, h5, h6, h7⟩
        · simp only [Option.isNone_none, Bool.and_self, if_true] at hs
          split at hs
          case isFalse => cases hs
          rename_i hcs
          have hcs : cap = UNK + size := Nat.eq_of_beq_eq_true hcs
          cases hs
          by_cases e1 : cap' = l
          · have e2 : hh - l = 0 := by omega
            have e3 : cap' - l = 0 := by omega
            rw [if_pos e1, e2, e3]
            exact .slz hm (.inr (by omega))
          · rw [if_neg e1]
            simp only [Option.map_some, addr_add, Nat.add_assoc]
            obtain ⟨K, s, hK, hs2, hcb⟩ : ∃ K s, m.cp b = some (K, s) ∧ cap = UNK + s ∧ o + cap' * s ≤ K := by
              rcases hcr with ⟨_, h9⟩ | ⟨_, h9⟩
              · exact absurd h9 (by omega)
              · exact h9
            refine .sl hm (by omega) (.inr ⟨by omega, K, s, hK, ?_⟩)
            have hs3 : s = size := by omega
            subst hs3
            have h10 : l * s + (cap' - l) * s = cap' * s := by rw [← Nat.add_mul]; congr 1; omega
            exact ⟨hs2, by omega⟩
        · simp only [Option.isNone_none, Bool.and_self, if_true] at hs
          split at hs
          case isFalse => cases hs
          cases hs
          have e1 : cap' = 0 := by omega
          have e2 : l = 0 := by omega
          have e3 : hh = 0 := by omega
          subst e1 e2 e3
          simp only [if_true]
          exact .slz hp (.inr (by omega))
    | false =>
      have hcU : cap < UNK := by
        have h2 : ¬ UNK ≤ cap := by
          intro h3
          have h4 : Nat.ble UNK cap = true := by simpa using h3
          rw [h4] at hb; cases hb
        omega
      rw [hb] at hmm hs
      simp only [Bool.false_eq_true, if_false, Bool.false_and] at hmm hs
      rcases hadr with ⟨b, o, A, δ, rfl, hm, rfl, hcr⟩ | ⟨b, o, a'', p, hp, rfl, rfl, h5, h6, h7⟩
      · have hcc : cap = cap' := by
          rcases hcr with ⟨h9, _⟩ | ⟨h9, _⟩
          · exact h9
          · omega
        subst hcc
        have hml := bMx_le hmm
        have hhm : hh ≤ mm := bHi_le hhe (fun h => by subst h; cases hmm; exact hlc1)
        refine ⟨_, len, cap, l, hh, mm, rfl, bounds_run w hmm hhe hle2 elo ehi emx, ?_⟩
        simp only at hs
        split at hs
        case isFalse => cases hs
        cases hs
        by_cases e : mm = l
        · simp only [e, beq_self_eq_true, if_true]
          exact .sl hm (by omega) (.inl ⟨rfl, by omega⟩)
        · simp only [beq_iff_eq, e, if_false, Option.map_some, addr_add, Nat.add_assoc]
          exact .sl hm (by omega) (.inl ⟨rfl, by omega⟩)
      · have hc0 : cap = 0 := by omega
        subst hc0
        have hml := bMx_le hmm
        have hhm : hh ≤ mm := bHi_le hhe (fun h => by subst h; cases hmm; omega)
        subst h6
        refine ⟨_, len, 0, l, hh, mm, rfl, bounds_run w hmm hhe hle2 elo ehi emx, ?_⟩
        simp only at hs
        split at hs
        case isFalse => cases hs
        cases hs
        have e1 : mm = 0 := by omega
        have e2 : l = 0 := by omega
        have e3 : hh = 0 := by omega
        subst e1 e2 e3
        simp only [beq_self_eq_true, if_true]
        exact .slz hp (.inl rfl)

theorem sim_slice {E : Env} {h h' : SHeap} {d d' : List Nat} {w : World} (r : Rel E m h w) (ht : TR nt m t a.tmps) {ty e : TypeId} {s : Nat} {x : Operand} {lo hi mx : Option Operand} (hu : E.P.underlying ty = some (.slice e)) (hsz : szOf E.P e = some s) (hx : okO x = true)
    (hlo : lo.toList.all okO = true) (hhi : hi.toList.all okO = true) (hmx : mx.toList.all okO = true) {v : Value} (hs : o_slice s x lo hi mx t h d = some (v, h', d')) :
    Does E m h (do pure (Next.value (← Instr.sliceAt ty (a.eval x) (lo.map a.eval) (hi.map a.eval) (mx.map a.eval)))) w v h' := by
  unfold o_slice at hs
  split at hs
  · rename_i xv l0 h0 m0 h1 h2 h3 h4
    obtain ⟨h5, rfl, rfl⟩ := same_some hs
    obtain ⟨a', len, cap, l, hh, mm, hxe, hb, hv⟩ := slice_val (E := E) (w := w) (ev_sim ht hx h1) h5 (evo_sim ht hlo h2) (evo_sim ht hhi h3) (evo_sim ht hmx h4)
    refine Does.pure r (run_v ?_) hv
    rw [hxe]
    unfold Instr.sliceAt
    simp only [Sem.run_bind, run_underlying hu, Result.andThen_ok]
    unfold Instr.slice
    simp only [Sem.run_bind, run_underlying hu, Result.andThen_ok, hb, szOf_run hsz w, Sem.run_pure]
  · cases hs

theorem sim_sliceArr {E : Env} {h h' : SHeap} {d d' : List Nat} {w : World} (r : Rel E m h w) (ht : TR nt m t a.tmps) {ty e : TypeId} {n s : Nat} {x : Operand} {lo hi mx : Option Operand} (hu : E.P.underlying ty = some (.array n e)) (hsz : szOf E.P e = some s) (hx : okO x = true)
    (hlo : lo.toList.all okO = true) (hhi : hi.toList.all okO = true) (hmx : mx.toList.all okO = true) {v : Value} (hs : o_sliceArr n s x lo hi mx t h d = some (v, h', d')) :
    Does E m h (do pure (Next.value (← Instr.sliceAt ty (a.eval x) (lo.map a.eval) (hi.map a.eval) (mx.map a.eval)))) w v h' := by
  unfold o_sliceArr at hs
  split at hs
  · rename_i xv l0 h0 m0 h1 h2 h3 h4
    obtain ⟨h5, rfl, rfl⟩ := same_some hs
    unfold sliceArrS at h5
    split at h5
    case h_2 => cases h5
    rename_i b o
    split at h5
    case h_1 => cases h5
    rename_i mm hmm
    split at h5
    case h_1 => cases h5
    rename_i hh hhe
    split at h5
    case h_1 => cases h5
    rename_i l hle2
    split at h5
    case isFalse => cases h5
    rename_i hmu
    simp only [Nat.blt_eq] at hmu
    cases h5
    obtain ⟨A, δ, hm, hxe⟩ := (ev_sim ht hx h1).ptr_inv
    have hb1 := bounds_run (P := E.P) (isSlice := false) (len := n) (cap := n) (m0 := mm) (h0 := hh) (l0 := l) (lo := l0) (hi := h0) (mx := m0) w hmm hhe hle2 (evo_sim ht hlo h2) (evo_sim ht hhi h3) (evo_sim ht hmx h4)
    have hle3 : hh ≤ mm := bHi_le hhe (fun h => by subst h; cases hmm; exact Nat.le_refl _)
    have hll := bLo_le hle2
    refine Does.pure r (v' := .slice (some (if mm = l then ⟨A, δ + o, none⟩ else ⟨A, δ + o + l * s, none⟩)) (hh - l) (mm - l)) (run_v ?_) ?_
    · rw [hxe]
      unfold Instr.sliceAt
      simp only [Sem.run_bind, run_underlying hu, Result.andThen_ok, Instr.sureAddr, Sem.run_pure, hb1, szOf_run hsz w, addr_add]
    · by_cases e : mm = l
      · simp only [e, beq_self_eq_true, if_true]
        exact .sl hm (by omega) (.inl ⟨rfl, by omega⟩)
      · simp only [beq_iff_eq, e, if_false, Nat.add_assoc]
        exact .sl hm (by omega) (.inl ⟨rfl, by omega⟩)
  · cases hs

end
end Go.Proofs.Ytecncmmkghmojaa.Sh
