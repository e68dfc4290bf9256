/- Powers of Gaussian integers, and their rests by a prime. Plain laws. -/
import Derived.Test.YtdmfhdnpakgkpaaDoorH46
import Derived.Test.YtdmfhdnpakgkpaaDoorH47
set_option linter.all false
set_option maxRecDepth 100000
set_option maxHeartbeats 1000000
namespace Go.Proofs.YtdmfhdnpakgkpaaDoor.Sh
section
open Go
def pw (x : Int × Int) : Nat → Int × Int
 | 0 => (1, 0)
 | n + 1 => mulP (pw x n) x
theorem pw_add (x : Int × Int) (m : Nat) : ∀ n, pw x (m + n) = mulP (pw x m) (pw x n)
 | 0 => (mul_one _).symm
 | n + 1 => by show mulP (pw x (m + n)) x = mulP (pw x m) (mulP (pw x n) x); rw [pw_add x m n, mul_assoc']
theorem pw_mul (x : Int × Int) (m : Nat) : ∀ n, pw x (m * n) = pw (pw x m) n
 | 0 => rfl
 | n + 1 => by rw [Nat.mul_succ, pw_add, pw_mul x m n]; rfl
theorem mul_pw (x y : Int × Int) : ∀ n, pw (mulP x y) n = mulP (pw x n) (pw y n)
 | 0 => (mul_one _).symm
 | n + 1 => by
  show mulP (pw (mulP x y) n) (mulP x y) = mulP (mulP (pw x n) x) (mulP (pw y n) y)
  rw [mul_pw x y n]
  generalize pw x n = a
  generalize pw y n = b
  unfold mulP; refine Prod.ext ?_ ?_ <;> dsimp only <;> grind
theorem pw_one : ∀ n, pw (1, 0) n = (1, 0)
 | 0 => rfl
 | n + 1 => by show mulP (pw (1, 0) n) (1, 0) = _; rw [pw_one n]; decide
def cg (y a b : Int × Int) : Prop := dv y (subP a b)
theorem cg_refl (y a : Int × Int) : cg y a a := by
 have : subP a a = (0, 0) := by unfold subP; refine Prod.ext ?_ ?_ <;> dsimp only <;> omega
 unfold cg; rw [this]; exact dv_zero y
theorem cg_symm {y a b : Int × Int} (h : cg y a b) : cg y b a := by
 obtain ⟨k, hk⟩ := h
 refine ⟨mulP (-1, 0) k, ?_⟩
 rw [mul_assoc', ← hk]
 unfold subP mulP; refine Prod.ext ?_ ?_ <;> dsimp only <;> omega
theorem cg_trans {y a b c : Int × Int} (h : cg y a b) (k : cg y b c) : cg y a c := by
 have := dv_add h k
 have e : addP (subP a b) (subP b c) = subP a c := by unfold subP addP; refine Prod.ext ?_ ?_ <;> dsimp only <;> omega
 rw [e] at this; exact this
theorem cg_add {y a b c d : Int × Int} (h : cg y a b) (k : cg y c d) : cg y (addP a c) (addP b d) := by
 have := dv_add h k
 have e : addP (subP a b) (subP c d) = subP (addP a c) (addP b d) := by unfold subP addP; refine Prod.ext ?_ ?_ <;> dsimp only <;> omega
 rw [e] at this; exact this
theorem cg_mul {y a b c d : Int × Int} (h : cg y a b) (k : cg y c d) : cg y (mulP a c) (mulP b d) := by
 have := dv_add (dv_mul h c) (dv_mul k b)
 have e : addP (mulP c (subP a b)) (mulP b (subP c d)) = subP (mulP a c) (mulP b d) := by unfold subP addP mulP; refine Prod.ext ?_ ?_ <;> dsimp only <;> grind
 rw [e] at this; exact this
theorem cg_pw {y a b : Int × Int} (h : cg y a b) : ∀ n, cg y (pw a n) (pw b n)
 | 0 => cg_refl _ _
 | n + 1 => cg_mul (cg_pw h n) h
theorem cg_dv {y z a b : Int × Int} (h : dv z y) (k : cg y a b) : cg z a b := dv_trans h k
theorem rest_cg (x : Int × Int) (y : Int × Int) : cg y (restP x y) x := by
 refine cg_symm ⟨quoP x y, ?_⟩
 have := quo_rest x y
 generalize mulP (quoP x y) y = q at *
 generalize restP x y = r at *
 rw [this]
 unfold subP addP; refine Prod.ext ?_ ?_ <;> dsimp only <;> omega
theorem cg_rest {y a b : Int × Int} (h0 : y ≠ (0, 0)) (h : cg y a b) : restP a y = restP b y := by
 obtain ⟨k, hk⟩ := h
 have : a = addP b (mulP k y) := by
  rw [← hk]; unfold subP addP; refine Prod.ext ?_ ?_ <;> dsimp only <;> omega
 rw [this, rest_shift k h0]
theorem powF_eq {y : Int × Int} (h0 : y ≠ (0, 0)) : ∀ (n : Nat) (out b : Int × Int), restP out y = out → powF y n out b = restP (mulP out (pw b n)) y := by
 intro n
 induction n using Nat.strongRecOn with
 | _ n ih =>
  intro out b ho
  rw [powF]
  by_cases c : n = 0
  ·subst c
   rw [if_pos rfl]
   show out = restP (mulP out (1, 0)) y
   rw [mul_one, ho]
  ·rw [if_neg c]
   have hb : cg y (pw (restP (mulP b b) y) (n / 2)) (pw (mulP b b) (n / 2)) := cg_pw (rest_cg _ y) _
   have e2 : pw (mulP b b) (n / 2) = pw b (2 * (n / 2)) := by
    rw [pw_mul]
    have : pw b 2 = mulP b b := by show mulP (mulP (1, 0) b) b = _; rw [one_mul]
    rw [this]
   by_cases p : n % 2 = 1
   ·rw [if_pos p, ih (n / 2) (by omega) _ _ (rest_rest _ h0)]
    refine cg_rest h0 ?_
    have e3 : n = 1 + 2 * (n / 2) := by omega
    have e4 : pw b n = mulP b (pw (mulP b b) (n / 2)) := by
     rw [e2]
     have := pw_add b 1 (2 * (n / 2))
     rw [← e3] at this
     rw [this]
     have : pw b 1 = b := one_mul b
     rw [this]
    rw [e4, ← mul_assoc']
    exact cg_mul (rest_cg _ y) hb
   ·rw [if_neg p, ih (n / 2) (by omega) _ _ ho]
    refine cg_rest h0 ?_
    have e3 : n = 2 * (n / 2) := by omega
    have e4 : pw b n = pw (mulP b b) (n / 2) := by rw [e2, ← e3]
    rw [e4]
    exact cg_mul (cg_refl _ _) hb
theorem powP_eq {y : Int × Int} (h0 : y ≠ (0, 0)) (x : Int × Int) (n : Nat) : powP x n y = restP (pw x n) y := by
 unfold powP
 rw [powF_eq h0 n _ _ (rest_rest _ h0)]
 refine cg_rest h0 ?_
 have := cg_mul (rest_cg (1, 0) y) (cg_pw (rest_cg x y) n)
 rw [one_mul] at this
 exact this
def Cb : Nat → Nat → Nat
 | _, 0 => 1
 | 0, _ + 1 => 0
 | n + 1, k + 1 => Cb n k + Cb n (k + 1)
theorem Cb_0 (n : Nat) : Cb n 0 = 1 := by cases n <;> rfl
theorem Cb_s (n k : Nat) : Cb (n + 1) (k + 1) = Cb n k + Cb n (k + 1) := rfl
theorem Cb_big : ∀ (n k : Nat), n < k → Cb n k = 0
 | 0, k + 1, _ => rfl
 | n + 1, k + 1, h => by rw [Cb_s, Cb_big n k (by omega), Cb_big n (k + 1) (by omega)]
theorem Cb_n : ∀ n, Cb n n = 1
 | 0 => rfl
 | n + 1 => by rw [Cb_s, Cb_n n, Cb_big n (n + 1) (by omega)]
theorem Cb_mul : ∀ (n k : Nat), (k + 1) * Cb (n + 1) (k + 1) = (n + 1) * Cb n k
 | 0, 0 => rfl
 | 0, k + 1 => by rw [Cb_s, Cb_big 0 (k + 1) (by omega), Cb_big 0 (k + 2) (by omega)]; simp
 | n + 1, 0 => by
  have h := Cb_mul n 0
  rw [Cb_0] at h
  rw [Cb_s (n + 1) 0, Cb_0]
  omega
 | n + 1, k + 1 => by
  have h1 := Cb_mul n k
  have h2 := Cb_mul n (k + 1)
  rw [Cb_s (n + 1) (k + 1), Nat.mul_add, h2]
  have h3 := Cb_s n k
  generalize Cb (n + 1) (k + 1) = a at *
  generalize Cb n k = b at *
  generalize Cb n (k + 1) = c at *
  have : (k + 1 + 1) * a = (k + 1) * a + a := by rw [Nat.add_mul (k + 1) 1, Nat.one_mul]
  rw [this, h1, h3]
  have e1 : (n + 1) * b + (b + c) + (n + 1) * c = (n + 1 + 1) * (b + c) := by
   rw [Nat.add_mul (n + 1) 1, Nat.mul_add]; omega
  exact e1
theorem Cb_p {p k : Nat} (hp : primeN p = true) (h1 : 1 ≤ k) (h2 : k < p) : p ∣ Cb p k := by
 obtain ⟨n, rfl⟩ : ∃ n, p = n + 1 := ⟨p - 1, by omega⟩
 obtain ⟨j, rfl⟩ : ∃ j, k = j + 1 := ⟨k - 1, by omega⟩
 have h := Cb_mul n j
 rcases pn_mul hp (show n + 1 ∣ (j + 1) * Cb (n + 1) (j + 1) by rw [h]; exact Nat.dvd_mul_right _ _) with c | c
 ·have := Nat.le_of_dvd (by omega) c; omega
 ·exact c
def sc2 (k : Nat) (a : Int × Int) : Int × Int := ((k : Int) * a.1, (k : Int) * a.2)
def bsm (x y : Int × Int) (n : Nat) : Nat → Int × Int
 | 0 => (0, 0)
 | m + 1 => addP (bsm x y n m) (sc2 (Cb n m) (mulP (pw x m) (pw y (n - m))))
theorem bsm_s (x y : Int × Int) (n m : Nat) : bsm x y n (m + 1) = addP (bsm x y n m) (sc2 (Cb n m) (mulP (pw x m) (pw y (n - m)))) := rfl
theorem bsm_step (x y : Int × Int) (n : Nat) : ∀ m, m ≤ n → bsm x y (n + 1) (m + 1) = addP (mulP y (bsm x y n (m + 1))) (mulP x (bsm x y n m))
 | 0, _ => by
  rw [bsm_s, bsm_s, Cb_0, Cb_0]
  show addP (0, 0) (sc2 1 (mulP (1, 0) (mulP (pw y n) y))) = addP (mulP y (addP (0, 0) (sc2 1 (mulP (1, 0) (pw y n))))) (mulP x (0, 0))
  generalize pw y n = a
  unfold sc2 addP mulP; refine Prod.ext ?_ ?_ <;> dsimp only <;> grind
 | m + 1, h => by
  have ih := bsm_step x y n m (by omega)
  rw [bsm_s x y (n + 1) (m + 1), ih, bsm_s x y n (m + 1), bsm_s x y n m, Cb_s]
  obtain ⟨t, ht⟩ : ∃ t, n - m = t + 1 := ⟨n - m - 1, by omega⟩
  rw [show n + 1 - (m + 1) = t + 1 by omega, show n - (m + 1) = t by omega, ht]
  show addP (addP (mulP y (addP (bsm x y n m) (sc2 (Cb n m) (mulP (pw x m) (mulP (pw y t) y))))) (mulP x (bsm x y n m))) (sc2 (Cb n m + Cb n (m + 1)) (mulP (mulP (pw x m) x) (mulP (pw y t) y))) = _
  show _ = addP (mulP y (addP (addP (bsm x y n m) (sc2 (Cb n m) (mulP (pw x m) (mulP (pw y t) y)))) (sc2 (Cb n (m + 1)) (mulP (mulP (pw x m) x) (pw y t))))) (mulP x (addP (bsm x y n m) (sc2 (Cb n m) (mulP (pw x m) (mulP (pw y t) y)))))
  generalize bsm x y n m = b
  generalize pw x m = u
  generalize pw y t = v
  generalize Cb n m = c
  generalize Cb n (m + 1) = d
  unfold sc2 addP mulP; refine Prod.ext ?_ ?_ <;> dsimp only <;> rw [Int.natCast_add] <;> grind
theorem bin (x y : Int × Int) : ∀ n, pw (addP x y) n = bsm x y n (n + 1)
 | 0 => by
  show (1, 0) = addP (0, 0) (sc2 1 (mulP (1, 0) (1, 0)))
  decide
 | n + 1 => by
  show mulP (pw (addP x y) n) (addP x y) = _
  rw [bin x y n, bsm_s x y (n + 1) (n + 1), bsm_step x y n n (Nat.le_refl _), bsm_s x y n n, Cb_n, Cb_n, Nat.sub_self, Nat.sub_self]
  show mulP (addP (bsm x y n n) (sc2 1 (mulP (pw x n) (1, 0)))) (addP x y) = addP (addP (mulP y (addP (bsm x y n n) (sc2 1 (mulP (pw x n) (1, 0))))) (mulP x (bsm x y n n))) (sc2 1 (mulP (mulP (pw x n) x) (1, 0)))
  generalize bsm x y n n = b
  generalize pw x n = u
  unfold sc2 addP mulP; refine Prod.ext ?_ ?_ <;> dsimp only <;> grind
abbrev ip (p : Nat) : Int × Int := ((p : Int), 0)
theorem frob {p : Nat} (hp : primeN p = true) (x y : Int × Int) : cg (ip p) (pw (addP x y) p) (addP (pw x p) (pw y p)) := by
 have h2 := pn_two hp
 have key : ∀ m, 1 ≤ m → m ≤ p → cg (ip p) (bsm x y p m) (pw y p) := by
  intro m
  induction m with
  | zero => intro h; omega
  | succ m ih =>
   intro _ hm
   by_cases c : m = 0
   ·subst c
    rw [bsm_s, Cb_0]
    have : addP (bsm x y p 0) (sc2 1 (mulP (pw x 0) (pw y (p - 0)))) = pw y p := by
     show addP (0, 0) (sc2 1 (mulP (1, 0) (pw y p))) = _
     generalize pw y p = a
     unfold sc2 addP mulP; refine Prod.ext ?_ ?_ <;> dsimp only <;> omega
    rw [this]; exact cg_refl _ _
   ·rw [bsm_s]
    obtain ⟨k, hk⟩ := Cb_p hp (show 1 ≤ m by omega) (show m < p by omega)
    have h1 : cg (ip p) (sc2 (Cb p m) (mulP (pw x m) (pw y (p - m)))) (0, 0) := by
     rw [hk]
     generalize mulP (pw x m) (pw y (p - m)) = a
     refine ⟨((k : Int) * a.1, (k : Int) * a.2), ?_⟩
     unfold sc2 subP mulP; refine Prod.ext ?_ ?_ <;> dsimp only <;> rw [Int.natCast_mul] <;> grind
    have h3 := cg_add (ih (by omega) (by omega)) h1
    have e : addP (pw y p) (0, 0) = pw y p := by unfold addP; refine Prod.ext ?_ ?_ <;> dsimp only <;> omega
    rw [e] at h3
    exact h3
 rw [bin, bsm_s, Cb_n, Nat.sub_self]
 have h1 := cg_add (key p (by omega) (Nat.le_refl _)) (cg_refl (ip p) (sc2 1 (mulP (pw x p) (pw y 0))))
 have e : addP (pw y p) (sc2 1 (mulP (pw x p) (pw y 0))) = addP (pw x p) (pw y p) := by
  show addP (pw y p) (sc2 1 (mulP (pw x p) (1, 0))) = _
  generalize pw y p = a
  generalize pw x p = b
  unfold sc2 addP mulP; refine Prod.ext ?_ ?_ <;> dsimp only <;> omega
 rw [e] at h1
 exact h1
theorem fermat_nat {p : Nat} (hp : primeN p = true) : ∀ a : Nat, cg (ip p) (pw (ip a) p) (ip a)
 | 0 => by
  obtain ⟨n, rfl⟩ : ∃ n, p = n + 1 := ⟨p - 1, by have := pn_two hp; omega⟩
  have : pw (ip 0) (n + 1) = ip 0 := by show mulP (pw (0, 0) n) (0, 0) = (0, 0); exact mul_zero' _
  rw [this]; exact cg_refl _ _
 | a + 1 => by
  have h1 := frob hp (ip a) (1, 0)
  have e : addP (ip a) (1, 0) = ip (a + 1) := by unfold addP; refine Prod.ext ?_ ?_ <;> simp
  rw [e, pw_one] at h1
  have h2 := cg_add (fermat_nat hp a) (cg_refl (ip p) (1, 0))
  rw [e] at h2
  exact cg_trans h1 h2
theorem fermat_int {p : Nat} (hp : primeN p = true) (a : Int) : cg (ip p) (pw (a, 0) p) (a, 0) := by
 have h2 := pn_two hp
 have h1 : cg (ip p) (a, 0) (ip (a % p).toNat) := by
  have : 0 ≤ a % (p : Int) := Int.emod_nonneg _ (by omega)
  refine ⟨(a / p, 0), ?_⟩
  have e := Int.mul_ediv_add_emod a p
  unfold subP mulP ip
  refine Prod.ext ?_ ?_ <;> dsimp only
  ·rw [Int.toNat_of_nonneg this, Int.mul_comm (a / ↑p)]; omega
  ·omega
 exact cg_trans (cg_pw h1 p) (cg_trans (fermat_nat hp _) (cg_symm h1))
theorem pw_i (k : Nat) : pw (0, 1) (4 * k) = (1, 0) := by
 rw [pw_mul]
 have : pw (0, 1) 4 = (1, 0) := by decide
 rw [this, pw_one]
theorem frob_x {p : Nat} (hp : primeN p = true) (x : Int × Int) : cg (ip p) (pw x p) (addP (x.1, 0) (mulP (x.2, 0) (pw (0, 1) p))) := by
 have e : x = addP (x.1, 0) (mulP (x.2, 0) (0, 1)) := by unfold addP mulP; refine Prod.ext ?_ ?_ <;> dsimp only <;> omega
 have h1 := frob hp (x.1, 0) (mulP (x.2, 0) (0, 1))
 rw [← e, mul_pw] at h1
 exact cg_trans h1 (cg_add (fermat_int hp _) (cg_mul (fermat_int hp _) (cg_refl _ _)))
theorem frob_1 {p : Nat} (hp : primeN p = true) (h : p % 4 = 1) (x : Int × Int) : cg (ip p) (pw x p) x := by
 have h1 := frob_x hp x
 have e : pw (0, 1) p = (0, 1) := by
  have e2 : p = 4 * (p / 4) + 1 := by omega
  rw [e2, pw_add, pw_i]; decide
 rw [e] at h1
 have e : addP (x.1, 0) (mulP (x.2, 0) (0, 1)) = x := by unfold addP mulP; refine Prod.ext ?_ ?_ <;> dsimp only <;> omega
 rw [e] at h1; exact h1
theorem frob_3 {p : Nat} (hp : primeN p = true) (h : p % 4 = 3) (x : Int × Int) : cg (ip p) (pw x p) (conjP x) := by
 have h1 := frob_x hp x
 have e : pw (0, 1) p = (0, -1) := by
  have e2 : p = 4 * (p / 4) + 3 := by omega
  rw [e2, pw_add, pw_i]; decide
 rw [e] at h1
 have e : addP (x.1, 0) (mulP (x.2, 0) (0, -1)) = conjP x := by unfold addP mulP conjP; refine Prod.ext ?_ ?_ <;> dsimp only <;> omega
 rw [e] at h1; exact h1
theorem fermatG {p : Int × Int} (hF : isF p) (hp : primeP p = true) (x : Int × Int) : cg p (pw x (nN p)) x := by
 unfold primeP at hp
 split at hp
 ·rename_i c
  simp only [Bool.and_eq_true, decide_eq_true_eq] at hp
  obtain ⟨f1, f2⟩ := hF
  have c2 : p.2 = 0 := by omega
  have hm : mxP p = p.1.toNat := by unfold mxP; omega
  rw [hm] at hp
  have e : p = ip p.1.toNat := by unfold ip; refine Prod.ext ?_ ?_ <;> dsimp only <;> omega
  have hn : nN p = p.1.toNat * p.1.toNat := by
   show (nrm p).toNat = _
   have : nrm p = ((p.1.toNat * p.1.toNat : Nat) : Int) := by
    unfold nrm
    rw [c2, Int.mul_zero, Int.add_zero, Int.natCast_mul, Int.toNat_of_nonneg (by omega)]
   omega
  rw [hn, pw_mul]
  generalize p.1.toNat = q at *
  rw [e]
  have h1 := frob_3 hp.2 hp.1 x
  have h2 := frob_3 hp.2 hp.1 (conjP x)
  rw [conj_conj] at h2
  exact cg_trans (cg_pw h1 q) h2
 ·have hn : ((nN p : Nat) : Int) = nrm p := nat_nrm p
  have hdv : dv p (ip (nN p)) := by
   refine ⟨conjP p, ?_⟩
   rw [mul_comm', nrm_conj_mul]
   unfold ip; rw [hn]
  have h4 : nN p % 4 ≠ 3 := by have := nrm_4 p; omega
  by_cases c : nN p % 4 = 1
  ·exact cg_dv hdv (frob_1 hp c x)
  ·have h2 : nN p = 2 := by
    have h3 : 2 ∣ nN p := Nat.dvd_of_mod_eq_zero (by omega)
    rcases pn_dvd hp h3 with k | k
    ·omega
    ·exact k.symm
   have h1 := frob_x hp x
   rw [show nrm p = ((nN p : Nat) : Int) from hn.symm] at h1
   rw [show ((nN p : Nat) : Int).toNat = nN p from rfl] at h1
   rw [h2] at h1 hdv ⊢
   have e : pw (0, 1) 2 = (-1, 0) := by decide
   rw [e] at h1
   refine cg_trans (cg_dv hdv h1) ?_
   have h5 : dv p (1, 1) := by
    obtain ⟨a, b⟩ := p
    have hnn : nrm (a, b) = 2 := by rw [← hn, h2]; rfl
    have hb : Bd 1 (a, b) := part_bd (by decide) (by rw [hnn]; decide)
    obtain ⟨b1, b2, b3, b4⟩ := hb
    dsimp only at b1 b2 b3 b4
    unfold nrm at hnn
    dsimp only at hnn
    have ha : a = -1 ∨ a = 0 ∨ a = 1 := by omega
    have hb : b = -1 ∨ b = 0 ∨ b = 1 := by omega
    rcases ha with rfl | rfl | rfl <;> rcases hb with rfl | rfl | rfl <;> first | (exfalso; revert hnn; decide) | exact ⟨(-1, 0), by decide⟩ | exact ⟨(0, -1), by decide⟩ | exact ⟨(0, 1), by decide⟩ | exact ⟨(1, 0), by decide⟩
   refine cg_dv h5 ⟨(-x.2, 0), ?_⟩
   unfold subP addP mulP; refine Prod.ext ?_ ?_ <;> dsimp only <;> omega
end
end Go.Proofs.YtdmfhdnpakgkpaaDoor.Sh
set_option maxRecDepth 100000
set_option maxHeartbeats 1000000
namespace Go.Proofs.YtdmfhdnpakgkpaaDoor.Sh
section
open Go
theorem listD_le (m : Nat) : ∀ k, (listD m).length ≤ (listD (m + k)).length
 | 0 => Nat.le_refl _
 | k + 1 => by
  have h1 := listD_le m k
  have e : listD (m + (k + 1)) = listD (m + k) ++ rowD (m + k) 45 := fm_succ _ _
  rw [e, List.length_append]
  omega
theorem listD_30 : 10 ≤ (listD 30).length := by decide +kernel
theorem prL_ten : 10 ≤ (prL 2000).length := by
 unfold prL
 rw [List.length_map]
 have h1 : (listD 30).length ≤ (listD (2000 + 1)).length := listD_le 30 1971
 have := listD_30
 omega
theorem prL_mem {q : Int × Int} (h : q ∈ prL 2000) : isF q ∧ primeP q = true ∧ nrm q ≤ 2000 := by
 unfold prL at h
 obtain ⟨x, hx, rfl⟩ := List.mem_map.1 h
 obtain ⟨a, b, _, _, rfl, h1, h2, h3⟩ := mem_listD.1 hx
 refine ⟨⟨?_, ?_⟩, h3, ?_⟩
 ·show (0 : Int) < (a : Int); omega
 ·show (0 : Int) ≤ (b : Int); omega
 ·show nrm ((a : Int), (b : Int)) ≤ 2000
  rw [nrm_nat]; omega
theorem prL_len2 : (prL 2000).length ≤ 100000 := by
 have h1 := prL_len (n := 2000)
 have h2 := len_U 2000 45
 omega
end
end Go.Proofs.YtdmfhdnpakgkpaaDoor.Sh
set_option maxRecDepth 100000
set_option maxHeartbeats 8000000
namespace Go.Proofs.YtdmfhdnpakgkpaaDoor.Sh
section
open Go
theorem law15_of (pl : List (Int × Int)) (hl10 : 10 ≤ pl.length) (hlen : pl.length ≤ 100000) (hmem : ∀ q ∈ pl, isF q ∧ primeP q = true ∧ nrm q ≤ 2000) (k51 : ∀ h, M.call 51 [.int .i64 2000] h = some (.tuple #[resV h pl.length 2, .int .i64 0], resH h (prs pl) pl.length 34, [])) (x0 : Int × Int) (n m : Int) (h : SHeap) : M.call 15 [agV x0, .int .i64 n, .int .i64 m] h = some (.bool true, h, []) := by
 have c51 := k51 (h ++ [bx x0])
 have P1 : PS (resH (h ++ [bx x0]) (prs pl) pl.length 34) (resV (h ++ [bx x0]) pl.length 2) pl := by
  have := PS.ofRes (h ++ [bx x0]) [] pl 34
  rwa [List.append_nil] at this
 obtain ⟨g1, E1⟩ := resH_pre (h ++ [bx x0]) (prs pl) pl.length 34
 have hlu : IntKind.u64.wrap ((pl.length : Nat) : Int) = (pl.length : Nat) := wrapU (by omega) (by omega)
 have hlz : ¬ (((pl.length : Nat) : Int) = 0) := by omega
 have hl10' : ¬ (((pl.length : Nat) : Int) < 10) := by omega
 obtain ⟨q1, q2⟩ := u64_mod' n ((pl.length : Nat) : Int) (by omega)
 obtain ⟨i, hi⟩ : ∃ i : Nat, (IntKind.u64.wrap n).tmod ((pl.length : Nat) : Int) = i := ⟨_, (Int.toNat_of_nonneg q1).symm⟩
 rw [hi] at q1 q2
 have hil : i < pl.length := by omega
 have wi : IntKind.i64.wrap (i : Int) = i := wrap64 (by omega) (by omega)
 obtain ⟨pF, pP, pn⟩ := hmem _ (List.getElem_mem hil)
 obtain ⟨va, vc, hv, kp⟩ := P1
 obtain ⟨b, o, hva, hp⟩ := kp (by intro e; rw [e] at hil; simp at hil)
 subst hva
 have lp := hp.loadN hil
 rw [hv] at c51
 have b1 : (resH (h ++ [bx x0]) (prs pl) pl.length 34)[h.length]? = some (bx x0) ∧ ∀ j, j < h.length → (resH (h ++ [bx x0]) (prs pl) pl.length 34)[j]? = h[j]? := by
  rw [E1, List.append_assoc]
  exact ⟨by rw [app_get0]; rfl, fun j hj => List.getElem?_append_left hj⟩
 generalize resH (h ++ [bx x0]) (prs pl) pl.length 34 = H2 at *
 generalize pl[i] = p at *
 generalize pl.length = len at *
 clear kp hp E1 hv
 obtain ⟨hx2, fr2⟩ := b1
 have hl2 := (List.getElem?_eq_some_iff.1 hx2).1
 have lx2 := fun g => load_bn hx2 rfl g
 have hp0 := isF_ne pF
 have hn1 := nrm_pos hp0
 have hpb : Bd 45 p := part_bd (by decide) (by omega)
 have hp3 := hpb.mono (show (45 : Int) ≤ 30000 by decide)
 obtain ⟨pn2, hirr⟩ := prime_ne pP
 have c26p := fun h => validR26 p h
 rw [decide_eq_true hp3] at c26p
 have c46 := fun h => primeRx46 hp3 hp0 h
 rw [pP] at c46
 have tx := fun h => tame29 x0 (m := 30000) (by omega) (by omega) h
 have hxb := tame_bd x0 (m := 30000) (by omega)
 generalize tameP x0 30000 = x at *
 have c27p := fun h => normR27 hpb (by decide) h
 have hpw := fermatG pF pP x
 have c40a := fun h => power40 (n := nN p) hxb hp3 hp0 (by show (nrm p).toNat ≤ 1000000000; omega) h
 rw [show ((nN p : Nat) : Int) = nrm p from nat_nrm p, powP_eq hp0, cg_rest hp0 hpw] at c40a
 have c33 := fun h => quo33 hxb hp3 hp0 h
 have hrr : restP (restP x p) p = restP x p := rest_rest x hp0
 have hrn := rest_nrm (x := x) hn1
 have hrb : Bd 31 (restP x p) := part_bd (by decide) (by omega)
 have c26r := fun h => validR26 (restP x p) h
 rw [decide_eq_true (hrb.mono (show (31 : Int) ≤ 30000 by decide))] at c26r
 obtain ⟨n1, n2⟩ := u64_mod' n 5000 (by decide)
 obtain ⟨s, hs⟩ : ∃ s : Nat, (IntKind.u64.wrap n).tmod 5000 = s := ⟨_, (Int.toNat_of_nonneg n1).symm⟩
 obtain ⟨m1, m2⟩ := u64_mod' m 5000 (by decide)
 obtain ⟨t, ht⟩ : ∃ t : Nat, (IntKind.u64.wrap m).tmod 5000 = t := ⟨_, (Int.toNat_of_nonneg m1).symm⟩
 rw [hs] at n1 n2
 rw [ht] at m1 m2
 have ws : IntKind.i64.wrap (s : Int) = s := wrap64 (by omega) (by omega)
 have wt : IntKind.i64.wrap (t : Int) = t := wrap64 (by omega) (by omega)
 have wst : IntKind.i64.wrap ((s : Int) + (t : Int)) = ((s + t : Nat) : Int) := by rw [wrap64 (by omega) (by omega)]; rfl
 have c40s := fun h => power40 (n := s) hxb hp3 hp0 (by omega) h
 have c40t := fun h => power40 (n := t) hxb hp3 hp0 (by omega) h
 have c40st := fun h => power40 (n := s + t) hxb hp3 hp0 (by omega) h
 rw [powP_eq hp0] at c40s c40t c40st
 have r1 := rest_nrm (x := pw x s) hn1
 have r2 := rest_nrm (x := pw x t) hn1
 have rb1 : Bd 31 (restP (pw x s) p) := part_bd (by decide) (by omega)
 have rb2 : Bd 31 (restP (pw x t) p) := part_bd (by decide) (by omega)
 have c26s := fun h => validR26 (restP (pw x s) p) h
 rw [decide_eq_true (rb1.mono (show (31 : Int) ≤ 30000 by decide))] at c26s
 have c26t := fun h => validR26 (restP (pw x t) p) h
 rw [decide_eq_true (rb2.mono (show (31 : Int) ≤ 30000 by decide))] at c26t
 have c35p := fun h => mulR35 rb1 rb2 (by decide) h
 have c56 := fun h => rest56 (mulP_bd rb1 rb2) hp3 (by decide) (by decide) (by decide) hp0 h
 have hst : restP (mulP (restP (pw x s) p) (restP (pw x t) p)) p = restP (pw x (s + t)) p := by
  refine cg_rest hp0 ?_
  rw [pw_add]
  exact cg_mul (rest_cg _ p) (rest_cg _ p)
 rw [hst] at c56
 generalize restP (pw x s) p = us at *
 generalize restP (pw x t) p = ut at *
 generalize restP (pw x (s + t)) p = ust at *
 generalize mulP us ut = uu at *
 have st : ∀ base g, storeS base (H2 ++ g) [] h.length 0 (cellsL (.agg #[.int .i64 x.1, .int .i64 x.2])) = some (H2.set h.length (bx x) ++ g, []) := fun base g => by
  have := store_at (h := H2 ++ g) (base := base) (cs := [.int .i64 x0.1, .int .i64 x0.2]) (vs := [.int .i64 x.1, .int .i64 x.2]) (by rw [List.getElem?_append_left (by omega)]; exact hx2) rfl (Nat.zero_lt_succ _) rfl (fun _ => rfl) [] rfl
  rw [List.set_append_left _ _ (by omega)] at this
  exact this
 have hx5 : (H2.set h.length (bx x))[h.length]? = some (bx x) := by rw [List.getElem?_set_self (by omega)]
 have fr5 : ∀ j, j < h.length → (H2.set h.length (bx x))[j]? = h[j]? := fun j hj => by rw [List.getElem?_set_ne (by omega)]; exact fr2 j hj
 have hl5 : H2.length = (H2.set h.length (bx x)).length := by simp
 generalize H2.set h.length (bx x) = H5 at *
 have lx5 := fun g => load_bn hx5 rfl g
 have l95 : ∀ g, loadS (H5 ++ bx p :: g) (some 2) (.pointer (some ⟨H2.length, 0, none⟩)) = some (.agg #[.int .i64 p.1, .int .i64 p.2]) := fun g => by
  rw [hl5, load_appN0]; rfl
 have fin : ∀ g, (H5 ++ g).take h.length = h := fun g => take_of_same (by simp; omega) (fun j hj => by rw [List.getElem?_append_left (by omega), fr5 j hj])
 have hgd := gcd_dv x p
 refine call_run sf15 rfl rfl rfl ?_
 unfold sf15
 by_cases hr0 : restP x p = (0, 0)
 ·have hg : gcdP x p ≠ (1, 0) := by
   intro e
   have h1 := (gcd_one (a := x) hp0).1 e
   have h2 := dv_nrm (gcd_gr (rest_zero hr0) (dv_refl p)) (by rw [e]; decide)
   omega
  have c53 := fun h => inverse53_none hxb hp3 hp0 hg h
  rw [hr0] at c40a c33 c26r
  generalize quoP x p = qq at *
  repeat (first | apply Z1 | apply Z2 | apply Z3 | apply Z4 | apply Z5 rfl | apply Z6 | apply Z7 | apply Z8 | apply Z9 | apply ZA | apply ZB | apply ZC | ((first | apply ZD (by decide) | apply ZN (by decide)); (simp (maxSteps := 9999999) only [go_sem, argR, c51, hlu, hlz, hl10', hi, wi, q1, q2, lp, lx2, tx, ↓st, lx5, l95, c26p, c46, c27p, c40a, c33, c26r, c53, hs, ht, ws, wt, wst, c40s, c40t, c40st, c26s, c26t, c35p, c56, awake_call, Int.toNat_natCast, Nat.add_assoc]; rfl)) | (refine ZE ?_ ?_; · simp only [go_sem]) | (refine ZF ?_ ?_; · simp only [go_sem]))
  exact end_nil (q_ret1 _ (by simp only [go_sem]) rfl (fin _))
 ·have hr0' : (restP x p = (0, 0)) = False := eq_false hr0
  have hg : gcdP x p = (1, 0) := by
   refine (gcd_one hp0).2 ?_
   rcases hirr _ hgd.2 with k | k
   ·exact k
   ·exact (hr0 (rest_exact hp0 (dv_trans k hgd.1))).elim
  obtain ⟨u, v, hB, c53⟩ := inverse53 hxb hp3 hp0 hg (H5 ++ [bx p, bx (restP x p), bx (quoP x p), bx (restP x p)])
  have hdv := inv_dv hp0 hB hg
  have zn := rest_nrm (x := u) hn1
  have zb : Bd 31 (restP u p) := part_bd (by decide) (by omega)
  have c26z := fun h => validR26 (restP u p) h
  rw [decide_eq_true (zb.mono (show (31 : Int) ≤ 30000 by decide))] at c26z
  have c35z := fun h => mulR35 hrb zb (by decide) h
  have mb := mulP_bd hrb zb
  have c55 := fun h => subR55 (q := (1, 0)) (C := 1) mb (by unfold Bd; decide) (by decide) h
  have yb : Bd 30000 (subP (mulP (restP x p) (restP u p)) (1, 0)) := by
   obtain ⟨a1, a2, a3, a4⟩ := mb
   unfold subP
   exact ⟨by dsimp only; omega, by dsimp only; omega, by dsimp only; omega, by dsimp only; omega⟩
  have c39 := fun h => divides39 hp3 yb h
  rw [divP_true hdv hp0] at c39
  have c26y := fun h => validR26 (subP (mulP (restP x p) (restP u p)) (1, 0)) h
  rw [decide_eq_true yb] at c26y
  generalize subP (mulP (restP x p) (restP u p)) (1, 0) = y at *
  generalize mulP (restP x p) (restP u p) = yy at *
  generalize restP u p = zz at *
  generalize quoP x p = qq at *
  generalize restP x p = rr at *
  repeat (first | apply Z1 | apply Z2 | apply Z3 | apply Z4 | apply Z5 rfl | apply Z6 | apply Z7 | apply Z8 | apply Z9 | apply ZA | apply ZB | apply ZC | ((first | apply ZD (by decide) | apply ZN (by decide)); (simp (maxSteps := 9999999) only [go_sem, argR, c51, hlu, hlz, hl10', hi, wi, q1, q2, lp, lx2, tx, ↓st, lx5, l95, c26p, c46, c27p, c40a, c33, c26r, hr0', c53, c26z, c35z, c55, c39, c26y, hs, ht, ws, wt, wst, c40s, c40t, c40st, c26s, c26t, c35p, c56, awake_call, Int.toNat_natCast, Nat.add_assoc]; rfl)) | (refine ZE ?_ ?_; · simp only [go_sem]) | (refine ZF ?_ ?_; · simp only [go_sem]))
  exact end_nil (q_ret1 _ (by simp only [go_sem]) rfl (fin _))
theorem law15 (x0 : Int × Int) (n m : Int) (h : SHeap) : M.call 15 [agV x0, .int .i64 n, .int .i64 m] h = some (.bool true, h, []) :=
 law15_of (prL 2000) prL_ten prL_len2 (fun q hq => prL_mem hq) (fun h => primes51 (n := 2000) (Nat.le_refl _) h) x0 n m h
end
end Go.Proofs.YtdmfhdnpakgkpaaDoor.Sh
namespace Go.Proofs.YtdmfhdnpakgkpaaDoor.gaussSmall
open Go Go.RowKit
theorem walk (a0 b0 : Int) (a1 : Int) (a2 : Int) (W : World) (hg : Sh.GlobW Tryd.prog W) :
  Calls Tryd.prog 15 #[.agg #[.int .i64 a0, .int .i64 b0], .int .i64 a1, .int .i64 a2] W (fun e W' => e = .returned (.bool true) ∧ Below W.heap.size W W') :=
 Sh.walk_of (Sh.law15 (a0, b0) a1 a2 []) rfl rfl W hg
end Go.Proofs.YtdmfhdnpakgkpaaDoor.gaussSmall
