/- Numbers up to 5000: the sums of two squares, the divisors and the roots of -1, worked out. -/
import Derived.Test.YtdmfhdnpakgkpaaDoorNf
import Derived.Test.YtdmfhdnpakgkpaaDoorGk
set_option linter.all false
namespace Go.Proofs.YtdmfhdnpakgkpaaDoor.Sh
open Go
set_option maxRecDepth 100000

def f1 (d : Nat) : Nat := bif Nat.beq (d % 4) 1 then 1 else 0
def f3 (d : Nat) : Nat := bif Nat.beq (d % 4) 3 then 1 else 0
def f0 (_ : Nat) : Nat := 1
def fastF (f : Nat → Nat) (n : Nat) : Nat → Nat → Nat → Option Nat
  | 0, _, _ => none
  | k + 1, d, acc => bif Nat.blt n (d * d) then some acc else
      bif Nat.beq (n % d) 0 then (bif Nat.beq (d * d) n then fastF f n k (d + 1) (acc + f d) else fastF f n k (d + 1) (acc + (f d + f (n / d)))) else fastF f n k (d + 1) acc
theorem fastF_ok (f : Nat → Nat) {n : Nat} (hn : 1 ≤ n) : ∀ (k d acc r : Nat), fastF f n k d acc = some r → 1 ≤ d → (d - 1) * (d - 1) ≤ n → (acc : Int) = sm (fun i => two (fun d => (f d : Int)) n (i + 1)) (d - 1) → (r : Int) = dsum (fun d => (f d : Int)) n
  | 0, d, acc, r, h, _, _, _ => by cases h
  | k + 1, d, acc, r, h, hd, hdd, ha => by
    obtain ⟨s, rfl⟩ : ∃ s, d = s + 1 := ⟨d - 1, by omega⟩
    rw [Nat.add_sub_cancel] at hdd ha
    unfold fastF at h
    by_cases c1 : n < (s + 1) * (s + 1)
    · rw [blt_dec, decide_eq_true c1, cond_true] at h
      cases h
      have hs : s ≤ n := Nat.le_trans (Nat.le_mul_self s) hdd
      rw [dsum_root hn c1 hs]
      exact ha
    · rw [blt_dec, decide_eq_false c1, cond_false] at h
      have step : ∀ acc', ((acc' : Nat) : Int) = (acc : Int) + two (fun d => (f d : Int)) n (s + 1) → fastF f n k (s + 1 + 1) acc' = some r → (r : Int) = dsum (fun d => (f d : Int)) n := by
        intro acc' e hh
        refine fastF_ok f hn k (s + 1 + 1) acc' r hh (by omega) (by rw [Nat.add_sub_cancel]; omega) ?_
        rw [Nat.add_sub_cancel, e, ha]
        rfl
      by_cases c2 : n % (s + 1) = 0
      · rw [nbeq_dec, decide_eq_true c2, cond_true] at h
        by_cases c3 : (s + 1) * (s + 1) = n
        · rw [nbeq_dec, decide_eq_true c3, cond_true] at h
          refine step _ ?_ h
          unfold two
          rw [if_pos c2, if_neg (by omega), if_pos c3]
          rfl
        · rw [nbeq_dec, decide_eq_false c3, cond_false] at h
          refine step _ ?_ h
          unfold two
          rw [if_pos c2, if_pos (by omega)]
          rfl
      · rw [nbeq_dec, decide_eq_false c2, cond_false] at h
        refine step _ ?_ h
        unfold two
        rw [if_neg c2]; omega

def manyN (a b : Nat) : Nat := bif Nat.beq b 0 then 1 else bif Nat.beq a 0 || Nat.beq a b then 4 else 8
theorem manyN_eq (a b : Nat) : ((manyN a b : Nat) : Int) = many ((a : Int), (b : Int)) := by
  unfold manyN many
  dsimp only
  by_cases c1 : b = 0
  · rw [nbeq_dec, decide_eq_true c1, cond_true, if_pos (by omega)]; rfl
  · rw [nbeq_dec, decide_eq_false c1, cond_false, if_neg (by omega)]
    by_cases c2 : a = 0 ∨ a = b
    · have : (Nat.beq a 0 || Nat.beq a b) = true := by rw [nbeq_dec, nbeq_dec, Bool.or_eq_true, decide_eq_true_iff, decide_eq_true_iff]; exact c2
      rw [this, cond_true, if_pos (by omega)]; rfl
    · have : (Nat.beq a 0 || Nat.beq a b) = false := by rw [nbeq_dec, nbeq_dec, Bool.or_eq_false_iff, decide_eq_false_iff_not, decide_eq_false_iff_not]; omega
      rw [this, cond_false, if_neg (by omega)]; rfl
def fastS (n : Nat) : Nat → Nat → Nat → Nat → Nat → Option (Nat × Nat)
  | 0, _, _, _, _ => none
  | k + 1, a, b, c, l => bif Nat.blt n (2 * a * a) then some (c, l) else
      bif Nat.blt 0 b && Nat.blt n (a * a + b * b) then fastS n k a (b - 1) c l else
      bif Nat.beq (a * a + b * b) n then fastS n k (a + 1) b (c + manyN a b) (l + 1) else fastS n k (a + 1) b c l
theorem fastS_ok {n : Nat} : ∀ (k a b c l : Nat) (r : Nat × Nat), fastS n k a b c l = some r → (∀ c, c < a → 2 * c * c ≤ n) → (∀ c, b < c → n < a * a + c * c) → (c : Int) = cnt (sqL n a) → l = (sqL n a).length → (r.1 : Int) = cnt (sqs n) ∧ r.2 = (sqs n).length
  | 0, _, _, _, _, _, h, _, _, _, _ => by cases h
  | k + 1, a, b, c, l, r, h, hlow, hup, hc, hl => by
    unfold fastS at h
    by_cases c1 : n < 2 * a * a
    · rw [blt_dec, decide_eq_true c1, cond_true] at h
      cases h
      have ht := topA_at c1 hlow
      unfold sqs
      rw [ht]
      exact ⟨hc, hl⟩
    · rw [blt_dec, decide_eq_false c1, cond_false] at h
      by_cases c2 : 0 < b ∧ n < a * a + b * b
      · rw [blt_dec, blt_dec, decide_eq_true c2.1, decide_eq_true c2.2, Bool.and_self, cond_true] at h
        refine fastS_ok k a (b - 1) c l r h hlow (fun c hc' => ?_) hc hl
        by_cases e : c = b
        · subst e; exact c2.2
        · exact hup c (by omega)
      · have e2 : (Nat.blt 0 b && Nat.blt n (a * a + b * b)) = false := by
          rw [blt_dec, blt_dec, Bool.and_eq_false_iff, decide_eq_false_iff_not, decide_eq_false_iff_not]; omega
        rw [e2, cond_false] at h
        have hlow' : ∀ c, c < a + 1 → 2 * c * c ≤ n := fun c hc => by
          by_cases e : c = a
          · subst e; omega
          · exact hlow c (by omega)
        have hup' : ∀ c, b < c → n < (a + 1) * (a + 1) + c * c := fun c hc => by
          have := hup c hc
          have := sq_mono (show a < a + 1 by omega)
          omega
        have h2a : 2 * a * a = 2 * (a * a) := Nat.mul_assoc _ _ _
        by_cases c3 : a * a + b * b = n
        · rw [nbeq_dec, decide_eq_true c3, cond_true] at h
          have hL : sqL n (a + 1) = sqL n a ++ [((a : Int), (b : Int))] := by rw [sqL_succ, sqAt_yes c3]
          refine fastS_ok k (a + 1) b _ _ r h hlow' hup' ?_ ?_
          · rw [hL, cnt_snoc, ← manyN_eq, ← hc]; rfl
          · rw [hL, List.length_append, hl]; rfl
        · rw [nbeq_dec, decide_eq_false c3, cond_false] at h
          have hL : sqL n (a + 1) = sqL n a := by
            rw [sqL_succ, sqAt_no (down_no (n := n) (a := a) (b := b) (by omega) hup (by omega) c3), List.append_nil]
          exact fastS_ok k (a + 1) b _ _ r h hlow' hup' (by rw [hL]; exact hc) (by rw [hL]; exact hl)

/-- some number from x on is a root of -1 -/
def someR (n : Nat) : Nat → Nat → Bool
  | 0, _ => false
  | k + 1, x => bif Nat.beq ((x * x + 1) % n) 0 then true else someR n k (x + 1)
theorem someR_ok {n : Nat} : ∀ (k x : Nat), someR n k x = true → ∃ y, y < x + k ∧ (y * y + 1) % n = 0
  | 0, _, h => by cases h
  | k + 1, x, h => by
    unfold someR at h
    by_cases c : (x * x + 1) % n = 0
    · exact ⟨x, by omega, c⟩
    · rw [nbeq_dec, decide_eq_false c, cond_false] at h
      obtain ⟨y, h1, h2⟩ := someR_ok k (x + 1) h
      exact ⟨y, by omega, h2⟩
/-- none below k is one -/
def noR (n : Nat) : Nat → Bool
  | 0 => true
  | k + 1 => bif Nat.beq ((k * k + 1) % n) 0 then false else noR n k
theorem noR_ok {n : Nat} : ∀ (k : Nat), noR n k = true → ∀ y, y < k → ¬ (y * y + 1) % n = 0
  | 0, _, y, hy => by omega
  | k + 1, h, y, hy => by
    unfold noR at h
    by_cases c : (k * k + 1) % n = 0
    · rw [nbeq_dec, decide_eq_true c, cond_true] at h; cases h
    · rw [nbeq_dec, decide_eq_false c, cond_false] at h
      by_cases e : y = k
      · subst e; exact c
      · exact noR_ok k h y (by omega)

def chk (n : Nat) : Bool := match fastS n 200 0 71 0 0, fastF f1 n 80 1 0, fastF f3 n 80 1 0, fastF f0 n 80 1 0 with
  | some (c, l), some o, some t, some v => Nat.beq (c + 4 * t) (4 * o) && (bif Nat.beq v 2 && !(Nat.beq n 2) then
      (bif Nat.beq (n % 4) 3 then Nat.beq l 0 && noR n n else Nat.beq (n % 4) 1 && (Nat.beq l 1 && someR n (n - 1) 1)) else true)
  | _, _, _, _ => false
def chkR (lo : Nat) : Nat → Bool
  | 0 => true
  | k + 1 => chk (lo + k) && chkR lo k
theorem chkR_ok {lo : Nat} : ∀ (k : Nat), chkR lo k = true → ∀ n, lo ≤ n → n < lo + k → chk n = true
  | 0, _, n, _, _ => by omega
  | k + 1, h, n, h1, h2 => by
    unfold chkR at h
    rw [Bool.and_eq_true] at h
    by_cases e : n = lo + k
    · subst e; exact h.1
    · exact chkR_ok k h.2 n h1 (by omega)
end Go.Proofs.YtdmfhdnpakgkpaaDoor.Sh

