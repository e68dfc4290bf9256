/- Wrapping points: plain geometry of integers. -/
import Init
import Derived.Test.YtecncmmkghmojaaH3
set_option linter.all false
/- Wrapping points: plain geometry of integers. -/
namespace Go.Proofs.Ytecncmmkghmojaa.Geo

abbrev Pt := Int × Int
def crs (u v : Pt) : Int := u.1 * v.2 - u.2 * v.1
def dot (u v : Pt) : Int := u.1 * v.1 + u.2 * v.2
def sub (p q : Pt) : Pt := (p.1 - q.1, p.2 - q.2)
def turn (a b c : Pt) : Int := (b.1 - a.1) * (c.2 - b.2) - (b.2 - a.2) * (c.1 - b.1)
def far (a b : Pt) : Int := (a.1 - b.1) * (a.1 - b.1) + (a.2 - b.2) * (a.2 - b.2)

theorem turn_crs (a b c : Pt) : turn a b c = crs (sub b a) (sub c a) := by simp only [turn, crs, sub]; grind
theorem far_dot (a b : Pt) : far a b = dot (sub b a) (sub b a) := by simp only [far, dot, sub]; grind
theorem crs_anti (u v : Pt) : crs v u = - crs u v := by simp only [crs]; grind
theorem dot_comm (u v : Pt) : dot u v = dot v u := by simp only [dot]; grind
theorem plucker (d u v w : Pt) : crs d v * crs u w = crs d u * crs v w + crs d w * crs u v := by simp only [crs]; grind
theorem back_id (d u v : Pt) : dot d d * crs u v = dot d u * crs d v - dot d v * crs d u := by simp only [crs, dot]; grind
theorem lagr (u v : Pt) : dot u v * dot u v = dot u u * dot v v - crs u v * crs u v := by simp only [crs, dot]; grind
theorem para_id (d n u : Pt) : dot n n * crs d u = dot n u * crs d n + dot d n * crs n u := by simp only [crs, dot]; grind
theorem dd_id (d n u : Pt) : dot d d * dot n u = dot d n * dot d u + crs d n * crs d u := by simp only [crs, dot]; grind
theorem sq_nonneg (x : Int) : 0 ≤ x * x := by
  rcases Int.le_total 0 x with h | h
  · exact Int.mul_nonneg h h
  · have := Int.mul_nonneg (show 0 ≤ -x by omega) (show 0 ≤ -x by omega)
    rwa [Int.neg_mul_neg] at this
theorem sq_zero {x : Int} (h : x * x = 0) : x = 0 := by
  rcases Int.mul_eq_zero.1 h with h | h <;> exact h
theorem dot_nonneg (u : Pt) : 0 ≤ dot u u := by
  have := sq_nonneg u.1
  have := sq_nonneg u.2
  simp only [dot]; omega
theorem dot_zero {u : Pt} (h : dot u u = 0) : u = (0, 0) := by
  have h1 := sq_nonneg u.1
  have h2 := sq_nonneg u.2
  simp only [dot] at h
  have a := sq_zero (show u.1 * u.1 = 0 by omega)
  have b := sq_zero (show u.2 * u.2 = 0 by omega)
  exact Prod.ext a b
theorem dot_pos {u : Pt} (h : u ≠ (0, 0)) : 0 < dot u u := by
  have := dot_nonneg u
  by_cases e : dot u u = 0
  · exact (h (dot_zero e)).elim
  · omega
theorem sub_ne {p q : Pt} (h : p ≠ q) : sub p q ≠ (0, 0) := by
  intro e
  simp only [sub, Prod.mk.injEq] at e
  exact h (Prod.ext (by omega) (by omega))
/-- signs of products -/
theorem pos_of_mul {a b : Int} (ha : 0 < a) (h : 0 < a * b) : 0 < b := by
  rcases Int.lt_trichotomy b 0 with hb | hb | hb
  · have := Int.mul_neg_of_pos_of_neg ha hb; omega
  · subst hb; simp at h
  · exact hb
theorem nonneg_of_mul {a b : Int} (ha : 0 < a) (h : 0 ≤ a * b) : 0 ≤ b := by
  rcases Int.lt_trichotomy b 0 with hb | hb | hb
  · have := Int.mul_neg_of_pos_of_neg ha hb; omega
  · omega
  · omega

/-- to the left of a way, or behind its beginning -/
def HP (d u : Pt) : Prop := 0 < crs d u ∨ (crs d u = 0 ∧ dot d u < 0)
theorem HP.nonneg {d u : Pt} (h : HP d u) : 0 ≤ crs d u := by rcases h with h | h <;> omega
theorem HP.ne {d u : Pt} (h : HP d u) : u ≠ (0, 0) := by
  rintro rfl
  rcases h with h | h <;> simp [crs, dot] at h
theorem dd_pos {d v : Pt} (h : dot d v < 0) : 0 < dot d d := by
  apply dot_pos
  rintro rfl
  simp [dot] at h
/-- what lies behind the beginning comes last -/
theorem back_last {d u v : Pt} (h1 : crs d v = 0) (h2 : dot d v < 0) : dot d d * crs u v = (- dot d v) * crs d u := by
  have := back_id d u v
  rw [h1, Int.mul_zero] at this
  rw [this, Int.neg_mul]
  omega

theorem trans_ge {d u v w : Pt} (hu : HP d u) (hv : HP d v) (hw : HP d w) (h1 : 0 ≤ crs u v) (h2 : 0 ≤ crs v w) : 0 ≤ crs u w := by
  rcases hv with hv | ⟨hv1, hv2⟩
  · have := plucker d u v w
    have a := Int.mul_nonneg hu.nonneg h2
    have b := Int.mul_nonneg hw.nonneg h1
    exact nonneg_of_mul hv (by omega)
  · -- v lies behind: so does w
    have hd := dd_pos hv2
    have e1 := back_last (u := w) hv1 hv2
    have h3 : crs w v ≤ 0 := by rw [crs_anti v w]; omega
    have h4 : crs d w = 0 := by
      have a := hw.nonneg
      by_cases c : crs d w = 0
      · exact c
      · have b := Int.mul_pos (show 0 < - dot d v by omega) (show 0 < crs d w by omega)
        rw [← e1] at b
        have := pos_of_mul hd b
        omega
    have h5 : dot d w < 0 := by rcases hw with h | h <;> omega
    have e2 := back_last (u := u) h4 h5
    have b := Int.mul_nonneg (show 0 ≤ - dot d w by omega) hu.nonneg
    rw [← e2] at b
    exact nonneg_of_mul hd b

/-- parallel and both there: the same direction -/
theorem same_dir {d n u : Pt} (hn : HP d n) (hu : HP d u) (h : crs n u = 0) : 0 < dot n u := by
  rcases hn with h1 | ⟨h1, h2⟩
  · have e := para_id d n u
    rw [h, Int.mul_zero, Int.add_zero] at e
    have nn : 0 < dot n n := dot_pos (by rintro rfl; simp [crs] at h1)
    have a := Int.mul_nonneg (Int.le_of_lt nn) hu.nonneg
    rw [e, Int.mul_comm] at a
    have b := nonneg_of_mul h1 a
    by_cases c : dot n u = 0
    · have l := lagr n u
      rw [c, h] at l
      simp only [Int.mul_zero, Int.sub_zero] at l
      have uu := dot_pos hu.ne
      have := Int.mul_pos nn uu
      omega
    · omega
  · have hd := dd_pos h2
    have e := back_last (u := u) h1 h2
    have h3 : crs u n = 0 := by rw [crs_anti n u]; omega
    rw [h3, Int.mul_zero] at e
    have h4 : crs d u = 0 := by
      rcases Int.mul_eq_zero.1 e.symm with k | k
      · omega
      · exact k
    have h5 : dot d u < 0 := by rcases hu with k | k <;> omega
    have e2 := dd_id d n u
    rw [h1, Int.zero_mul, Int.add_zero] at e2
    have := Int.mul_pos_of_neg_of_neg h2 h5
    rw [← e2] at this
    exact pos_of_mul hd this

/-- b comes next round the points, seen from a: all others are on its left, or on the way -/
def Sup (l : List Pt) (a b : Pt) : Prop := b ≠ a ∧ b ∈ l ∧ ∀ q ∈ l, q ≠ a → 0 < crs (sub b a) (sub q a) ∨ (crs (sub b a) (sub q a) = 0 ∧ 0 < dot (sub b a) (sub q a) ∧ dot (sub b a) (sub q a) ≤ dot (sub b a) (sub b a))

def scanStep (a : Pt) (n p : Pt) : Pt := if p = a then n else if n = a ∨ turn a n p < 0 ∨ (turn a n p = 0 ∧ far a p > far a n) then p else n
def scan (a : Pt) (l : List Pt) : Pt := l.foldl (scanStep a) a

def Best (a : Pt) (done : List Pt) (n : Pt) : Prop := (n = a ∧ ∀ q ∈ done, q = a) ∨ (n ≠ a ∧ n ∈ done ∧ ∀ q ∈ done, q ≠ a → 0 ≤ turn a n q ∧ (turn a n q = 0 → far a q ≤ far a n))

theorem best_step {a d : Pt} {l done : List Pt} {n p : Pt} (hl : ∀ q ∈ l, q ≠ a → HP d (sub q a)) (hd : ∀ q ∈ done, q ∈ l) (hp : p ∈ l) (hb : Best a done n) : Best a (done ++ [p]) (scanStep a n p) := by
  unfold scanStep
  by_cases e : p = a
  · rw [if_pos e]
    rcases hb with ⟨h1, h2⟩ | ⟨h1, h2, h3⟩
    · refine .inl ⟨h1, fun q hq => ?_⟩
      rcases List.mem_append.1 hq with hq | hq
      · exact h2 q hq
      · simp at hq; rw [hq, e]
    · refine .inr ⟨h1, by simp [h2], fun q hq hqa => ?_⟩
      rcases List.mem_append.1 hq with hq | hq
      · exact h3 q hq hqa
      · simp at hq; exact (hqa (by rw [hq, e])).elim
  · rw [if_neg e]
    have tself : turn a p p = 0 := by rw [turn_crs]; simp only [crs]; grind
    rcases hb with ⟨h1, h2⟩ | ⟨h1, h2, h3⟩
    · rw [if_pos (.inl h1)]
      refine .inr ⟨e, by simp, fun q hq hqa => ?_⟩
      rcases List.mem_append.1 hq with hq | hq
      · exact (hqa (h2 q hq)).elim
      · simp at hq; subst hq; rw [tself]; exact ⟨Int.le_refl _, fun _ => Int.le_refl _⟩
    · have hn := hl n (hd n h2) h1
      have hpp := hl p hp e
      by_cases c : n = a ∨ turn a n p < 0 ∨ (turn a n p = 0 ∧ far a p > far a n)
      · rw [if_pos c]
        have c' := c.resolve_left h1
        refine .inr ⟨e, by simp, fun q hq hqa => ?_⟩
        rcases List.mem_append.1 hq with hq | hq
        · obtain ⟨g1, g2⟩ := h3 q hq hqa
          have hqq := hl q (hd q hq) hqa
          rw [turn_crs] at g1 g2 c' ⊢
          have pn : 0 ≤ crs (sub p a) (sub n a) := by
            rw [crs_anti (sub n a)]
            rcases c' with k | ⟨k, _⟩ <;> omega
          have pq := trans_ge hpp hn hqq pn g1
          refine ⟨pq, fun z => ?_⟩
          have qp : 0 ≤ crs (sub q a) (sub p a) := by rw [crs_anti (sub p a)]; omega
          rcases c' with k | ⟨k, kf⟩
          · have := trans_ge hn hqq hpp g1 qp
            omega
          · have qn := trans_ge hqq hpp hn qp pn
            have : crs (sub n a) (sub q a) ≤ 0 := by rw [crs_anti (sub q a)]; omega
            have := g2 (by omega)
            omega
        · simp at hq; subst hq; rw [tself]; exact ⟨Int.le_refl _, fun _ => Int.le_refl _⟩
      · rw [if_neg c]
        refine .inr ⟨h1, by simp [h2], fun q hq hqa => ?_⟩
        rcases List.mem_append.1 hq with hq | hq
        · exact h3 q hq hqa
        · simp at hq; subst hq
          refine ⟨by omega, fun z => by omega⟩

theorem best_scan {a d : Pt} {l : List Pt} (hl : ∀ q ∈ l, q ≠ a → HP d (sub q a)) : ∀ (rest done : List Pt) (n : Pt), (∀ q ∈ done, q ∈ l) → (∀ q ∈ rest, q ∈ l) → Best a done n → Best a (done ++ rest) (rest.foldl (scanStep a) n)
  | [], done, n, _, _, hb => by simpa using hb
  | p :: rest, done, n, h1, h2, hb => by
    have h3 := best_step hl h1 (h2 p (by simp)) hb
    have := best_scan hl rest (done ++ [p]) (scanStep a n p) (fun q hq => by
      rcases List.mem_append.1 hq with hq | hq
      · exact h1 q hq
      · simp at hq; rw [hq]; exact h2 p (by simp)) (fun q hq => h2 q (by simp [hq])) h3
    simpa using this

/-- the scan finds what comes next -/
theorem scan_sup {a d : Pt} {l : List Pt} (hl : ∀ q ∈ l, q ≠ a → HP d (sub q a)) : (scan a l = a ∧ ∀ q ∈ l, q = a) ∨ Sup l a (scan a l) := by
  have hb := best_scan hl l [] a (fun q hq => by simp at hq) (fun q hq => hq) (.inl ⟨rfl, fun q hq => by simp at hq⟩)
  rw [List.nil_append] at hb
  rcases hb with h | ⟨h1, h2, h3⟩
  · exact .inl h
  · refine .inr ⟨h1, h2, fun q hq hqa => ?_⟩
    obtain ⟨g1, g2⟩ := h3 q hq hqa
    rw [turn_crs] at g1 g2
    by_cases c : crs (sub (l.foldl (scanStep a) a) a) (sub q a) = 0
    · right
      have hn := hl _ h2 h1
      have hqq := hl q hq hqa
      have sd := same_dir hn hqq c
      have hf := g2 c
      rw [far_dot, far_dot] at hf
      refine ⟨c, sd, ?_⟩
      show dot (sub (l.foldl (scanStep a) a) a) (sub q a) ≤ dot (sub (l.foldl (scanStep a) a) a) (sub (l.foldl (scanStep a) a) a)
      generalize sub (l.foldl (scanStep a) a) a = n at *
      generalize sub q a = u at *
      have lg := lagr n u
      rw [c, Int.mul_zero, Int.sub_zero] at lg
      have nn := dot_nonneg n
      by_cases k : dot n u ≤ dot n n
      · exact k
      · have k1 := Int.mul_lt_mul_of_pos_left (show dot n n < dot n u by omega) sd
        have k2 := Int.mul_le_mul_of_nonneg_left hf nn
        have k3 := Int.mul_le_mul_of_nonneg_right (show dot n n ≤ dot n u by omega) nn
        have k4 : dot n u * dot n n = dot n n * dot n u := Int.mul_comm _ _
        omega
    · left
      show 0 < crs (sub (l.foldl (scanStep a) a) a) (sub q a)
      omega

/-- from the next one all others lie to the left of the way on, or behind -/
theorem sup_hp {l : List Pt} {a b : Pt} (h : Sup l a b) (ha : a ∈ l) : ∀ q ∈ l, q ≠ b → HP (sub b a) (sub q b) := by
  intro q hq hqb
  obtain ⟨h1, h2, h3⟩ := h
  have e1 : crs (sub b a) (sub q b) = crs (sub b a) (sub q a) := by simp only [crs, sub]; grind
  have e2 : dot (sub b a) (sub q b) = dot (sub b a) (sub q a) - dot (sub b a) (sub b a) := by simp only [dot, sub]; grind
  have nn := dot_pos (sub_ne h1)
  by_cases c : q = a
  · subst c
    right
    rw [e1, e2]
    have z1 : crs (sub b q) (sub q q) = 0 := by simp only [crs, sub]; grind
    have z2 : dot (sub b q) (sub q q) = 0 := by simp only [dot, sub]; grind
    rw [z1, z2]
    exact ⟨rfl, by omega⟩
  · rcases h3 q hq c with k | ⟨k1, k2, k3⟩
    · left; rw [e1]; exact k
    · right
      rw [e1, e2]
      refine ⟨k1, ?_⟩
      by_cases z : dot (sub b a) (sub q a) = dot (sub b a) (sub b a)
      · exfalso
        have lg := lagr (sub b a) (sub q a)
        rw [k1, Int.mul_zero, Int.sub_zero, z] at lg
        have uu : dot (sub q a) (sub q a) = dot (sub b a) (sub b a) := (Int.eq_of_mul_eq_mul_left (by omega) lg).symm
        have e3 : dot (sub q b) (sub q b) = dot (sub q a) (sub q a) - 2 * dot (sub b a) (sub q a) + dot (sub b a) (sub b a) := by simp only [dot, sub]; grind
        have := dot_zero (show dot (sub q b) (sub q b) = 0 by omega)
        exact sub_ne hqb this
      · omega

/-- before one comes one alone -/
theorem sup_inj {l : List Pt} {a a' b : Pt} (h : Sup l a b) (h' : Sup l a' b) (ha : a ∈ l) (ha' : a' ∈ l) : a = a' := by
  by_cases e : a' = a
  · exact e.symm
  · exfalso
    have k := h.2.2 a' ha' e
    have k' := h'.2.2 a ha (fun x => e x.symm)
    have e1 : crs (sub b a') (sub a a') = - crs (sub b a) (sub a' a) := by simp only [crs, sub]; grind
    have e2 : dot (sub b a') (sub a a') = dot (sub a' a) (sub a' a) - dot (sub b a) (sub a' a) := by simp only [dot, sub]; grind
    rw [e1, e2] at k'
    rcases k with k | ⟨k1, k2, k3⟩
    · rcases k' with k' | k' <;> omega
    · rcases k' with k' | ⟨_, k4, _⟩
      · omega
      · have lg := lagr (sub b a) (sub a' a)
        rw [k1, Int.mul_zero, Int.sub_zero] at lg
        generalize sub b a = n at *
        generalize sub a' a = u at *
        have m1 := Int.mul_lt_mul_of_pos_left (show dot n u < dot u u by omega) k2
        have m2 := Int.mul_le_mul_of_nonneg_right k3 (dot_nonneg u)
        omega

/-- a corner lies on no side but its own -/
theorem sup_strict {l : List Pt} {a b c c' : Pt} (h : Sup l a b) (hc : Sup l c c') (ha : a ∈ l) (hcl : c ∈ l) (h1 : c ≠ a) (h2 : c ≠ b) : 0 < turn a b c := by
  rw [turn_crs]
  rcases h.2.2 c hcl h1 with k | ⟨k1, k2, k3⟩
  · exact k
  · exfalso
    -- strictly between a and b
    have hb : HP (sub b a) (sub c b) := sup_hp h ha c hcl h2
    have e1 : crs (sub b a) (sub c b) = crs (sub b a) (sub c a) := by simp only [crs, sub]; grind
    have e2 : dot (sub b a) (sub c b) = dot (sub b a) (sub c a) - dot (sub b a) (sub b a) := by simp only [dot, sub]; grind
    have k4 : dot (sub b a) (sub c a) < dot (sub b a) (sub b a) := by
      rcases hb with z | ⟨_, z⟩ <;> omega
    have nn : 0 < dot (sub b a) (sub b a) := dot_pos (sub_ne h.1)
    -- seen from c, a and b lie on opposite sides
    have ka := hc.2.2 a ha (fun x => h1 x.symm)
    have kb := hc.2.2 b h.2.1 (fun x => h2 x.symm)
    have ia : ∀ w : Pt, dot (sub b a) (sub b a) * crs w (sub a c) = - dot (sub b a) (sub c a) * crs w (sub b a) - crs (sub b a) (sub c a) * dot w (sub b a) := by
      intro w; simp only [crs, dot, sub]; grind
    have ib : ∀ w : Pt, dot (sub b a) (sub b a) * crs w (sub b c) = (dot (sub b a) (sub b a) - dot (sub b a) (sub c a)) * crs w (sub b a) - crs (sub b a) (sub c a) * dot w (sub b a) := by
      intro w; simp only [crs, dot, sub]; grind
    have ja : ∀ w : Pt, dot (sub b a) (sub b a) * dot w (sub a c) = - dot (sub b a) (sub c a) * dot w (sub b a) + crs (sub b a) (sub c a) * crs w (sub b a) := by
      intro w; simp only [crs, dot, sub]; grind
    have jb : ∀ w : Pt, dot (sub b a) (sub b a) * dot w (sub b c) = (dot (sub b a) (sub b a) - dot (sub b a) (sub c a)) * dot w (sub b a) + crs (sub b a) (sub c a) * crs w (sub b a) := by
      intro w; simp only [crs, dot, sub]; grind
    have ia' := ia (sub c' c)
    have ib' := ib (sub c' c)
    have ja' := ja (sub c' c)
    have jb' := jb (sub c' c)
    rw [k1, Int.zero_mul, Int.sub_zero] at ia' ib'
    rw [k1, Int.zero_mul, Int.add_zero] at ja' jb'
    generalize crs (sub c' c) (sub b a) = X at *
    generalize dot (sub c' c) (sub b a) = Y at *
    generalize dot (sub b a) (sub b a) = N at *
    generalize dot (sub b a) (sub c a) = S at *
    have pa : 0 ≤ crs (sub c' c) (sub a c) := by rcases ka with z | z <;> omega
    have pb : 0 ≤ crs (sub c' c) (sub b c) := by rcases kb with z | z <;> omega
    have qa := Int.mul_nonneg (Int.le_of_lt nn) pa
    have qb := Int.mul_nonneg (Int.le_of_lt nn) pb
    rw [ia', Int.neg_mul] at qa
    rw [ib'] at qb
    have hX0 : 0 ≤ X := nonneg_of_mul (show 0 < N - S by omega) qb
    have hX1 : X = 0 := by
      by_cases z : X = 0
      · exact z
      · have := Int.mul_pos k2 (show 0 < X by omega); omega
    subst hX1
    rw [Int.mul_zero] at ia' ib'
    have za : crs (sub c' c) (sub a c) = 0 := by rcases Int.mul_eq_zero.1 ia' with z | z <;> omega
    have zb : crs (sub c' c) (sub b c) = 0 := by rcases Int.mul_eq_zero.1 ib' with z | z <;> omega
    have da : 0 < dot (sub c' c) (sub a c) := by rcases ka with z | z <;> omega
    have db : 0 < dot (sub c' c) (sub b c) := by rcases kb with z | z <;> omega
    have ra := Int.mul_pos nn da
    have rb := Int.mul_pos nn db
    rw [ja', Int.neg_mul] at ra
    rw [jb'] at rb
    have hY := pos_of_mul (show 0 < N - S by omega) rb
    have := Int.mul_pos k2 hY
    omega
end Go.Proofs.Ytecncmmkghmojaa.Geo


/- Wrapping points: the ring of corners is a hull. -/
namespace Go.Proofs.Ytecncmmkghmojaa.Geo

/-- comes before -/
def before (a b : Pt) : Bool := decide (a.1 < b.1 ∨ (a.1 = b.1 ∧ a.2 < b.2))
def leastStep (f p : Pt) : Pt := if before p f = true then p else f
def least (l : List Pt) (a : Pt) : Pt := l.foldl leastStep a
theorem before_trans {a b c : Pt} (h1 : before b a = false) (h2 : before c b = false) : before c a = false := by
  simp only [before, decide_eq_false_iff_not] at *
  omega
theorem least_spec : ∀ (l : List Pt) (a : Pt), (least l a = a ∨ least l a ∈ l) ∧ before a (least l a) = false ∧ ∀ q ∈ l, before q (least l a) = false
  | [], a => ⟨.inl rfl, by simp [least, before], fun q hq => by simp at hq⟩
  | p :: r, a => by
    obtain ⟨h1, h2, h3⟩ := least_spec r (leastStep a p)
    have e : least (p :: r) a = least r (leastStep a p) := rfl
    rw [e]
    unfold leastStep at h1 h2 h3 ⊢
    by_cases c : before p a = true
    · rw [if_pos c] at h1 h2 h3 ⊢
      have pa : before a p = false := by simp only [before, decide_eq_true_eq, decide_eq_false_iff_not] at *; omega
      refine ⟨.inr (by rcases h1 with z | z <;> simp [z]), before_trans h2 pa, fun q hq => ?_⟩
      rcases List.mem_cons.1 hq with rfl | hq
      · exact h2
      · exact h3 q hq
    · rw [if_neg c] at h1 h2 h3 ⊢
      refine ⟨by rcases h1 with z | z <;> simp [z], h2, fun q hq => ?_⟩
      rcases List.mem_cons.1 hq with rfl | hq
      · exact before_trans h2 (by simpa using c)
      · exact h3 q hq
/-- from the least point all others lie to one side -/
theorem least_hp {l : List Pt} {f : Pt} (h : ∀ q ∈ l, before q f = false) : ∀ q ∈ l, q ≠ f → HP (0, -1) (sub q f) := by
  intro q hq hqf
  have hb := h q hq
  simp only [before, decide_eq_false_iff_not] at hb
  have hne : ¬ (q.1 = f.1 ∧ q.2 = f.2) := fun e => hqf (Prod.ext e.1 e.2)
  simp only [HP, crs, dot, sub]
  omega

/-- corners in a row, each the next one of the one before -/
structure Ring (l : List Pt) (f : Pt) (acc : List Pt) (a : Pt) : Prop where
  head : acc[0]? = some f
  last : acc[acc.length - 1]? = some a
  mem : ∀ q ∈ acc, q ∈ l
  nodup : acc.Nodup
  sup : ∀ (i : Nat) (p q : Pt), acc[i]? = some p → acc[i + 1]? = some q → Sup l p q

theorem ring_one {l : List Pt} {f : Pt} (hf : f ∈ l) : Ring l f [f] f :=
  ⟨rfl, rfl, fun q hq => by simp at hq; rw [hq]; exact hf, by simp, fun i p q h1 h2 => by simp at h2⟩

/-- the way on from the last corner -/
theorem ring_hp {l : List Pt} {f a : Pt} {acc : List Pt} (hl : ∀ q ∈ l, before q f = false) (r : Ring l f acc a) : ∃ d, ∀ q ∈ l, q ≠ a → HP d (sub q a) := by
  have hlast := r.last
  have hpos : 0 < acc.length := (List.getElem?_eq_some_iff.1 r.head).1
  by_cases c : acc.length = 1
  · have hh := r.head
    rw [c] at hlast
    have : f = a := by
      have h0 : acc[0]? = some a := hlast
      rw [hh] at h0; exact Option.some.inj h0
    subst this
    exact ⟨_, least_hp hl⟩
  · obtain ⟨p, hp⟩ : ∃ p, acc[acc.length - 2]? = some p := ⟨_, List.getElem?_eq_getElem (by omega)⟩
    have s := r.sup (acc.length - 2) p a hp (by rw [show acc.length - 2 + 1 = acc.length - 1 by omega]; exact hlast)
    exact ⟨_, sup_hp s (r.mem p (List.mem_of_getElem? hp))⟩

theorem ring_next {l : List Pt} {f a n : Pt} {acc : List Pt} (r : Ring l f acc a) (hs : Sup l a n) (hn : n ≠ f) : Ring l f (acc ++ [n]) n := by
  have hpos : 0 < acc.length := (List.getElem?_eq_some_iff.1 r.head).1
  have hnot : n ∉ acc := by
    intro hin
    obtain ⟨j, hj⟩ := List.getElem?_of_mem hin
    have hjl := (List.getElem?_eq_some_iff.1 hj).1
    cases j with
    | zero => rw [r.head] at hj; exact hn (Option.some.inj hj).symm
    | succ j =>
      obtain ⟨p, hp⟩ : ∃ p, acc[j]? = some p := ⟨_, List.getElem?_eq_getElem (by omega)⟩
      have s := r.sup j p n hp hj
      have e := sup_inj s hs (r.mem p (List.mem_of_getElem? hp)) (r.mem a (List.mem_of_getElem? r.last))
      subst e
      have h1 := (List.getElem?_eq_some_iff.1 hp)
      have h2 := (List.getElem?_eq_some_iff.1 r.last)
      have := (List.getElem_inj r.nodup).1 (h1.2.trans h2.2.symm)
      omega
  refine ⟨?_, ?_, ?_, ?_, ?_⟩
  · rw [List.getElem?_append_left hpos]; exact r.head
  · simp
  · intro q hq
    rcases List.mem_append.1 hq with hq | hq
    · exact r.mem q hq
    · simp at hq; rw [hq]; exact hs.2.1
  · rw [List.nodup_append]
    refine ⟨r.nodup, by simp, fun x hx y hy => ?_⟩
    simp at hy
    subst hy
    intro e
    exact hnot (e ▸ hx)
  · intro i p q hp hq
    by_cases c : i + 1 < acc.length
    · rw [List.getElem?_append_left (by omega)] at hp
      rw [List.getElem?_append_left c] at hq
      exact r.sup i p q hp hq
    · have hil := (List.getElem?_eq_some_iff.1 hq).1
      simp at hil
      have ei : i = acc.length - 1 := by omega
      subst ei
      rw [List.getElem?_append_left (by omega), r.last] at hp
      rw [List.getElem?_append_right (by omega), show acc.length - 1 + 1 - acc.length = 0 by omega] at hq
      simp at hq
      cases hp
      subst hq
      exact hs

theorem nodup_len {l : List Pt} : ∀ {acc : List Pt}, acc.Nodup → (∀ q ∈ acc, q ∈ l) → acc.length ≤ l.length := by
  intro acc
  induction acc generalizing l with
  | nil => intro _ _; simp
  | cons p r ih =>
    intro hn hm
    rw [List.nodup_cons] at hn
    have hp := hm p (by simp)
    have := ih (l := l.erase p) hn.2 (fun q hq => (List.mem_erase_of_ne (show q ≠ p by rintro rfl; exact hn.1 hq)).2 (hm q (by simp [hq])))
    rw [List.length_erase_of_mem hp] at this
    have : 0 < l.length := List.length_pos_of_mem hp
    simp only [List.length_cons]
    omega

/-- each side has all other corners on its left -/
def HullP (o : List Pt) : Prop := ∀ (i k : Nat) (a b c : Pt), o[i]? = some a → o[(i + 1) % o.length]? = some b → o[k]? = some c → k ≠ i → k ≠ (i + 1) % o.length → 0 < turn a b c

theorem ring_closed {l : List Pt} {f a : Pt} {acc : List Pt} (r : Ring l f acc a) (hs : Sup l a f) : HullP acc := by
  have hpos : 0 < acc.length := (List.getElem?_eq_some_iff.1 r.head).1
  have all : ∀ (i : Nat) (p q : Pt), acc[i]? = some p → acc[(i + 1) % acc.length]? = some q → Sup l p q := by
    intro i p q hp hq
    have hil := (List.getElem?_eq_some_iff.1 hp).1
    by_cases c : i + 1 < acc.length
    · rw [Nat.mod_eq_of_lt c] at hq
      exact r.sup i p q hp hq
    · have ei : i + 1 = acc.length := by omega
      rw [ei, Nat.mod_self, r.head] at hq
      have : i = acc.length - 1 := by omega
      rw [this, r.last] at hp
      cases hp; cases hq
      exact hs
  intro i k a' b' c' ha hb hc h1 h2
  have hil := (List.getElem?_eq_some_iff.1 ha).1
  have hkl := (List.getElem?_eq_some_iff.1 hc).1
  have hml : (i + 1) % acc.length < acc.length := Nat.mod_lt _ hpos
  have s := all i a' b' ha hb
  obtain ⟨c2, hc2⟩ : ∃ q, acc[(k + 1) % acc.length]? = some q := ⟨_, List.getElem?_eq_getElem (Nat.mod_lt _ hpos)⟩
  have s2 := all k c' c2 hc hc2
  have inj : ∀ (x y : Nat) (p : Pt), acc[x]? = some p → acc[y]? = some p → x = y := by
    intro x y p hx hy
    exact (List.getElem_inj r.nodup).1 ((List.getElem?_eq_some_iff.1 hx).2.trans (List.getElem?_eq_some_iff.1 hy).2.symm)
  refine sup_strict s s2 (r.mem _ (List.mem_of_getElem? ha)) (r.mem _ (List.mem_of_getElem? hc)) ?_ ?_
  · intro e; subst e; exact h1 (inj _ _ _ hc ha)
  · intro e; subst e; exact h2 (inj _ _ _ hc hb)

/-- the corners, one after the other -/
def wrapGo (l : List Pt) (f : Pt) : Nat → List Pt → Pt → List Pt
  | 0, acc, _ => acc
  | k + 1, acc, a => if scan a l = f ∨ scan a l = a then acc else wrapGo l f k (acc ++ [scan a l]) (scan a l)
def wrap (l : List Pt) : List Pt := let f := least l (l.headD (0, 0)); wrapGo l f l.length [f] f

theorem wrapGo_spec {l : List Pt} {f : Pt} (hl : ∀ q ∈ l, before q f = false) : ∀ (k : Nat) (acc : List Pt) (a : Pt), l.length ≤ acc.length + k → Ring l f acc a → (∃ a', Ring l f (wrapGo l f k acc a) a') ∧ (3 ≤ (wrapGo l f k acc a).length → HullP (wrapGo l f k acc a))
  | 0, acc, a, hk, r => by
    refine ⟨⟨a, r⟩, fun h3 => ?_⟩
    obtain ⟨d, hd⟩ := ring_hp hl r
    rcases scan_sup hd with ⟨h1, h2⟩ | hs
    · exfalso
      have hpos : 1 < acc.length := by show 1 < (wrapGo l f 0 acc a).length; omega
      have e0 := h2 _ (r.mem _ (List.getElem_mem (show 0 < acc.length by omega)))
      have e1 := h2 _ (r.mem _ (List.getElem_mem hpos))
      have := (List.getElem_inj r.nodup).1 (e0.trans e1.symm)
      omega
    · by_cases e : scan a l = f
      · rw [e] at hs; exact ring_closed r hs
      · exfalso
        have r2 := ring_next r hs e
        have := nodup_len r2.nodup r2.mem
        simp at this
        omega
  | k + 1, acc, a, hk, r => by
    unfold wrapGo
    obtain ⟨d, hd⟩ := ring_hp hl r
    by_cases c : scan a l = f ∨ scan a l = a
    · rw [if_pos c]
      refine ⟨⟨a, r⟩, fun h3 => ?_⟩
      rcases scan_sup hd with ⟨h1, h2⟩ | hs
      · exfalso
        have e0 := h2 _ (r.mem _ (List.getElem_mem (show 0 < acc.length by omega)))
        have e1 := h2 _ (r.mem _ (List.getElem_mem (show 1 < acc.length by omega)))
        have := (List.getElem_inj r.nodup).1 (e0.trans e1.symm)
        omega
      · rcases c with c | c
        · rw [c] at hs; exact ring_closed r hs
        · exact (hs.1 c).elim
    · rw [if_neg c]
      have c1 : ¬ scan a l = f := fun x => c (.inl x)
      have c2 : ¬ scan a l = a := fun x => c (.inr x)
      rcases scan_sup hd with ⟨h1, _⟩ | hs
      · exact (c2 h1).elim
      · exact wrapGo_spec hl k _ _ (by simp; omega) (ring_next r hs c1)

theorem wrap_spec {l : List Pt} (hne : l ≠ []) : (∀ q ∈ wrap l, q ∈ l) ∧ (wrap l).length ≤ l.length ∧ 1 ≤ (wrap l).length ∧ (3 ≤ (wrap l).length → HullP (wrap l)) := by
  obtain ⟨p, r, rfl⟩ : ∃ p r, l = p :: r := by cases l with
    | nil => exact (hne rfl).elim
    | cons p r => exact ⟨p, r, rfl⟩
  obtain ⟨h1, h2, h3⟩ := least_spec (p :: r) p
  have hf : least (p :: r) p ∈ p :: r := by
    rcases h1 with z | z
    · rw [z]; simp
    · exact z
  obtain ⟨⟨a', ra⟩, hh⟩ := wrapGo_spec h3 (p :: r).length [least (p :: r) p] (least (p :: r) p) (by simp) (ring_one hf)
  have hpos : 0 < (wrap (p :: r)).length := (List.getElem?_eq_some_iff.1 ra.head).1
  exact ⟨ra.mem, nodup_len ra.nodup ra.mem, hpos, hh⟩
end Go.Proofs.Ytecncmmkghmojaa.Geo


/- Points of the document: turns, order, distances. -/
namespace Go.Proofs.Ytecncmmkghmojaa.Sh
open Go Geo
set_option maxRecDepth 100000

/-- a call of which the result shows at its end alone -/
theorem call_ex {FT : FuncId → Option SFunc} {C : FuncId → List Value → Option Value} {f : FuncId} {args : List Value} {h : SHeap} (P : Value × SHeap × List Nat → Prop) (sf : SFunc) (hf : FT f = some sf) (hC : C f args = none) (hl : Nat.blt args.length (2 ^ sf.dep) = true)
    (hw : Run (big FT C) ⟨h.length, none, f⟩ sf.dep sf.body [] (argR args) [] h [] (fun ex ρ ms h' d => ∃ r, P r ∧ callQ sf.res h.length r ex ρ ms h' d)) : ∃ r, P r ∧ (big FT C).call f args h = some r := by
  obtain ⟨k1, k2⟩ := args_get (dep := sf.dep) args (by simpa using hl)
  have hw' : RunW (big FT C) ⟨h.length, none, f⟩ sf.dep sf.body (argR args) [] h [] (fun ex ρ ms h' d => ∃ r, P r ∧ callQ sf.res h.length r ex ρ ms h' d) := by
    have := hw
    unfold Run at this
    unfold Ends at this
    exact this
  obtain ⟨ex, t', ms', h', d', e, f1, r, hr, k, k3⟩ := hw' _ k1 k2
  refine ⟨r, hr, big_call hC ?_⟩
  unfold stepCall
  rw [hf]
  simp only [hl, if_true, fNat_eq, fFill_eq]
  rw [e]
  cases ex with
  | normal => exact finW_ok rfl k3
  | ret => exact finW_ok rfl k3
  | exit id => cases k

def inR (p : Int × Int) : Prop := -20 ≤ p.1 ∧ p.1 ≤ 20 ∧ -20 ≤ p.2 ∧ p.2 ≤ 20

/-- Turn -/
theorem turn60 (a b c : Int × Int) (h : SHeap) (ha : inR a) (hb : inR b) (hc : inR c) : M.call 60 [.agg #[.int .i64 a.1, .int .i64 a.2], .agg #[.int .i64 b.1, .int .i64 b.2], .agg #[.int .i64 c.1, .int .i64 c.2]] h = some (.int .i64 (turn a b c), h, []) := by
  obtain ⟨a1, a2, a3, a4⟩ := ha
  obtain ⟨b1, b2, b3, b4⟩ := hb
  obtain ⟨c1, c2, c3, c4⟩ := hc
  have w1 : IntKind.i64.wrap (b.1 - a.1) = b.1 - a.1 := wrap64 (by omega) (by omega)
  have w2 : IntKind.i64.wrap (c.2 - b.2) = c.2 - b.2 := wrap64 (by omega) (by omega)
  have w3 : IntKind.i64.wrap (b.2 - a.2) = b.2 - a.2 := wrap64 (by omega) (by omega)
  have w4 : IntKind.i64.wrap (c.1 - b.1) = c.1 - b.1 := wrap64 (by omega) (by omega)
  have p1 : ((b.1 - a.1) * (c.2 - b.2)).natAbs ≤ 1600 := Nat.le_trans (mul_bound (m := 40) (n := 40) (by omega) (by omega)) (by decide)
  have p2 : ((b.2 - a.2) * (c.1 - b.1)).natAbs ≤ 1600 := Nat.le_trans (mul_bound (m := 40) (n := 40) (by omega) (by omega)) (by decide)
  have w5 : IntKind.i64.wrap ((b.1 - a.1) * (c.2 - b.2)) = (b.1 - a.1) * (c.2 - b.2) := wrap_abs (by omega)
  have w6 : IntKind.i64.wrap ((b.2 - a.2) * (c.1 - b.1)) = (b.2 - a.2) * (c.1 - b.1) := wrap_abs (by omega)
  have w7 : IntKind.i64.wrap ((b.1 - a.1) * (c.2 - b.2) - (b.2 - a.2) * (c.1 - b.1)) = turn a b c := wrap_abs (by omega)
  refine call_run sf60 rfl rfl rfl ?_
  unfold sf60
  repeat (first | apply run_seq | apply run_block | apply end_seq | apply end_blk_hit | apply end_blk_miss rfl | apply end_blk | apply end_seq_exit | apply end_seq_ret | apply end_blk_ret | apply run_skip | apply run_ret | apply run_exit | (apply run_region (by decide); (simp only [go_sem, argR, w1, w2, w3, w4, w5, w6, w7]; rfl)) | (refine run_cond_t ?_ ?_; · simp only [go_sem]) | (refine run_cond_f ?_ ?_; · simp only [go_sem]))
  exact end_nil (q_ret1 _ (by simp only [go_sem]) rfl (take_app _ _))

/-- Before -/
theorem before61 (a b : Int × Int) (h : SHeap) : M.call 61 [.agg #[.int .i64 a.1, .int .i64 a.2], .agg #[.int .i64 b.1, .int .i64 b.2]] h = some (.bool (before a b), h, []) := by
  refine call_run sf61 rfl rfl rfl ?_
  unfold sf61
  by_cases c1 : a.1 < b.1
  · have e : before a b = true := decide_eq_true (.inl c1)
    repeat (first | apply run_seq | apply run_block | apply end_seq | apply end_blk_hit | apply end_blk_miss rfl | apply end_blk | apply end_seq_exit | apply end_seq_ret | apply end_blk_ret | apply run_skip | apply run_ret | apply run_exit | (apply run_region (by decide); (simp only [go_sem, argR, c1]; rfl)) | (refine run_cond_t ?_ ?_; · simp only [go_sem]) | (refine run_cond_f ?_ ?_; · simp only [go_sem]))
    exact end_nil (q_ret1 _ (by simp only [go_sem, e]) rfl (take_app _ _))
  · by_cases c2 : a.1 = b.1
    · by_cases c3 : a.2 < b.2
      · have e : before a b = true := decide_eq_true (.inr ⟨c2, c3⟩)
        repeat (first | apply run_seq | apply run_block | apply end_seq | apply end_blk_hit | apply end_blk_miss rfl | apply end_blk | apply end_seq_exit | apply end_seq_ret | apply end_blk_ret | apply run_skip | apply run_ret | apply run_exit | (apply run_region (by decide); (simp only [go_sem, argR, c1, c2, c3, Int.lt_irrefl]; rfl)) | (refine run_cond_t ?_ ?_; · simp only [go_sem]) | (refine run_cond_f ?_ ?_; · simp only [go_sem]))
        exact end_nil (q_ret1 _ (by simp only [go_sem, e]) rfl (take_app _ _))
      · have e : before a b = false := decide_eq_false (by omega)
        repeat (first | apply run_seq | apply run_block | apply end_seq | apply end_blk_hit | apply end_blk_miss rfl | apply end_blk | apply end_seq_exit | apply end_seq_ret | apply end_blk_ret | apply run_skip | apply run_ret | apply run_exit | (apply run_region (by decide); (simp only [go_sem, argR, c1, c2, c3, Int.lt_irrefl]; rfl)) | (refine run_cond_t ?_ ?_; · simp only [go_sem]) | (refine run_cond_f ?_ ?_; · simp only [go_sem]))
        exact end_nil (q_ret1 _ (by simp only [go_sem, e]) rfl (take_app _ _))
    · have e : before a b = false := decide_eq_false (by omega)
      repeat (first | apply run_seq | apply run_block | apply end_seq | apply end_blk_hit | apply end_blk_miss rfl | apply end_blk | apply end_seq_exit | apply end_seq_ret | apply end_blk_ret | apply run_skip | apply run_ret | apply run_exit | (apply run_region (by decide); (simp only [go_sem, argR, c1, c2]; rfl)) | (refine run_cond_t ?_ ?_; · simp only [go_sem]) | (refine run_cond_f ?_ ?_; · simp only [go_sem]))
      exact end_nil (q_ret1 _ (by simp only [go_sem, e]) rfl (take_app _ _))

/-- far -/
theorem far97 (a b : Int × Int) (h : SHeap) (ha : inR a) (hb : inR b) : M.call 97 [.agg #[.int .i64 a.1, .int .i64 a.2], .agg #[.int .i64 b.1, .int .i64 b.2]] h = some (.int .i64 (far a b), h, []) := by
  obtain ⟨a1, a2, a3, a4⟩ := ha
  obtain ⟨b1, b2, b3, b4⟩ := hb
  have w1 : IntKind.i64.wrap (a.1 - b.1) = a.1 - b.1 := wrap64 (by omega) (by omega)
  have w3 : IntKind.i64.wrap (a.2 - b.2) = a.2 - b.2 := wrap64 (by omega) (by omega)
  have p1 : ((a.1 - b.1) * (a.1 - b.1)).natAbs ≤ 1600 := Nat.le_trans (mul_bound (m := 40) (n := 40) (by omega) (by omega)) (by decide)
  have p2 : ((a.2 - b.2) * (a.2 - b.2)).natAbs ≤ 1600 := Nat.le_trans (mul_bound (m := 40) (n := 40) (by omega) (by omega)) (by decide)
  have w5 : IntKind.i64.wrap ((a.1 - b.1) * (a.1 - b.1)) = (a.1 - b.1) * (a.1 - b.1) := wrap_abs (by omega)
  have w6 : IntKind.i64.wrap ((a.2 - b.2) * (a.2 - b.2)) = (a.2 - b.2) * (a.2 - b.2) := wrap_abs (by omega)
  have w7 : IntKind.i64.wrap ((a.1 - b.1) * (a.1 - b.1) + (a.2 - b.2) * (a.2 - b.2)) = far a b := wrap_abs (by omega)
  refine call_run sf97 rfl rfl rfl ?_
  unfold sf97
  repeat (first | apply run_seq | apply run_block | apply end_seq | apply end_blk_hit | apply end_blk_miss rfl | apply end_blk | apply end_seq_exit | apply end_seq_ret | apply end_blk_ret | apply run_skip | apply run_ret | apply run_exit | (apply run_region (by decide); (simp only [go_sem, argR, w1, w3, w5, w6, w7]; rfl)) | (refine run_cond_t ?_ ?_; · simp only [go_sem]) | (refine run_cond_f ?_ ?_; · simp only [go_sem]))
  exact end_nil (q_ret1 _ (by simp only [go_sem]) rfl (take_app _ _))
end Go.Proofs.Ytecncmmkghmojaa.Sh


