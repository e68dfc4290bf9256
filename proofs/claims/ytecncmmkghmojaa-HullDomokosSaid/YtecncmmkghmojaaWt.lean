/- Wrapping points: plain geometry of integers. -/
import Init
set_option linter.all false
namespace Go.Proofs.Ytecncmmkghmojaa.Geo

abbrev Pt := Int × Int
def crs (u v : Pt) : Int := u.1 * v.2 - u.2 * v.1
def dot (u v : Pt) : Int := u.1 * v.1 + u.2 * v.2
def sub (p q : Pt) : Pt := (p.1 - q.1, p.2 - q.2)
def turn (a b c : Pt) : Int := (b.1 - a.1) * (c.2 - b.2) - (b.2 - a.2) * (c.1 - b.1)
def far (a b : Pt) : Int := (a.1 - b.1) * (a.1 - b.1) + (a.2 - b.2) * (a.2 - b.2)

theorem turn_crs (a b c : Pt) : turn a b c = crs (sub b a) (sub c a) := by simp only [turn, crs, sub]; grind
theorem far_dot (a b : Pt) : far a b = dot (sub b a) (sub b a) := by simp only [far, dot, sub]; grind
theorem crs_anti (u v : Pt) : crs v u = - crs u v := by simp only [crs]; grind
theorem plucker (d u v w : Pt) : crs d v * crs u w = crs d u * crs v w + crs d w * crs u v := by simp only [crs]; grind
theorem back_id (d u v : Pt) : dot d d * crs u v = dot d u * crs d v - dot d v * crs d u := by simp only [crs, dot]; grind
theorem lagr (u v : Pt) : dot u v * dot u v = dot u u * dot v v - crs u v * crs u v := by simp only [crs, dot]; grind
theorem para_id (d n u : Pt) : dot n n * crs d u = dot n u * crs d n + dot d n * crs n u := by simp only [crs, dot]; grind
theorem dd_id (d n u : Pt) : dot d d * dot n u = dot d n * dot d u + crs d n * crs d u := by simp only [crs, dot]; grind
theorem sq_nonneg (x : Int) : 0 ≤ x * x := by
  rcases Int.le_total 0 x with h | h
  · exact Int.mul_nonneg h h
  · have := Int.mul_nonneg (show 0 ≤ -x by omega) (show 0 ≤ -x by omega)
    rwa [Int.neg_mul_neg] at this
theorem sq_zero {x : Int} (h : x * x = 0) : x = 0 := by
  rcases Int.mul_eq_zero.1 h with h | h <;> exact h
theorem dot_nonneg (u : Pt) : 0 ≤ dot u u := by
  have := sq_nonneg u.1
  have := sq_nonneg u.2
  simp only [dot]; omega
theorem dot_zero {u : Pt} (h : dot u u = 0) : u = (0, 0) := by
  have h1 := sq_nonneg u.1
  have h2 := sq_nonneg u.2
  simp only [dot] at h
  have a := sq_zero (show u.1 * u.1 = 0 by omega)
  have b := sq_zero (show u.2 * u.2 = 0 by omega)
  exact Prod.ext a b
theorem dot_pos {u : Pt} (h : u ≠ (0, 0)) : 0 < dot u u := by
  have := dot_nonneg u
  by_cases e : dot u u = 0
  · exact (h (dot_zero e)).elim
  · omega
theorem sub_ne {p q : Pt} (h : p ≠ q) : sub p q ≠ (0, 0) := by
  intro e
  simp only [sub, Prod.mk.injEq] at e
  exact h (Prod.ext (by omega) (by omega))
/-- signs of products -/
theorem pos_of_mul {a b : Int} (ha : 0 < a) (h : 0 < a * b) : 0 < b := by
  rcases Int.lt_trichotomy b 0 with hb | hb | hb
  · have := Int.mul_neg_of_pos_of_neg ha hb; omega
  · subst hb; simp at h
  · exact hb
theorem nonneg_of_mul {a b : Int} (ha : 0 < a) (h : 0 ≤ a * b) : 0 ≤ b := by
  rcases Int.lt_trichotomy b 0 with hb | hb | hb
  · have := Int.mul_neg_of_pos_of_neg ha hb; omega
  · omega
  · omega

/-- to the left of a way, or behind its beginning -/
def HP (d u : Pt) : Prop := 0 < crs d u ∨ (crs d u = 0 ∧ dot d u < 0)
theorem HP.nonneg {d u : Pt} (h : HP d u) : 0 ≤ crs d u := by rcases h with h | h <;> omega
theorem HP.ne {d u : Pt} (h : HP d u) : u ≠ (0, 0) := by
  rintro rfl
  rcases h with h | h <;> simp [crs, dot] at h
theorem dd_pos {d v : Pt} (h : dot d v < 0) : 0 < dot d d := by
  apply dot_pos
  rintro rfl
  simp [dot] at h
/-- what lies behind the beginning comes last -/
theorem back_last {d u v : Pt} (h1 : crs d v = 0) (h2 : dot d v < 0) : dot d d * crs u v = (- dot d v) * crs d u := by
  have := back_id d u v
  rw [h1, Int.mul_zero] at this
  rw [this, Int.neg_mul]
  omega

theorem trans_ge {d u v w : Pt} (hu : HP d u) (hv : HP d v) (hw : HP d w) (h1 : 0 ≤ crs u v) (h2 : 0 ≤ crs v w) : 0 ≤ crs u w := by
  rcases hv with hv | ⟨hv1, hv2⟩
  · have := plucker d u v w
    have a := Int.mul_nonneg hu.nonneg h2
    have b := Int.mul_nonneg hw.nonneg h1
    exact nonneg_of_mul hv (by omega)
  · -- v lies behind: so does w
    have hd := dd_pos hv2
    have e1 := back_last (u := w) hv1 hv2
    have h3 : crs w v ≤ 0 := by rw [crs_anti v w]; omega
    have h4 : crs d w = 0 := by
      have a := hw.nonneg
      by_cases c : crs d w = 0
      · exact c
      · have b := Int.mul_pos (show 0 < - dot d v by omega) (show 0 < crs d w by omega)
        rw [← e1] at b
        have := pos_of_mul hd b
        omega
    have h5 : dot d w < 0 := by rcases hw with h | h <;> omega
    have e2 := back_last (u := u) h4 h5
    have b := Int.mul_nonneg (show 0 ≤ - dot d w by omega) hu.nonneg
    rw [← e2] at b
    exact nonneg_of_mul hd b

/-- parallel and both there: the same direction -/
theorem same_dir {d n u : Pt} (hn : HP d n) (hu : HP d u) (h : crs n u = 0) : 0 < dot n u := by
  rcases hn with h1 | ⟨h1, h2⟩
  · have e := para_id d n u
    rw [h, Int.mul_zero, Int.add_zero] at e
    have nn : 0 < dot n n := dot_pos (by rintro rfl; simp [crs] at h1)
    have a := Int.mul_nonneg (Int.le_of_lt nn) hu.nonneg
    rw [e, Int.mul_comm] at a
    have b := nonneg_of_mul h1 a
    by_cases c : dot n u = 0
    · have l := lagr n u
      rw [c, h] at l
      simp only [Int.mul_zero, Int.sub_zero] at l
      have uu := dot_pos hu.ne
      have := Int.mul_pos nn uu
      omega
    · omega
  · have hd := dd_pos h2
    have e := back_last (u := u) h1 h2
    have h3 : crs u n = 0 := by rw [crs_anti n u]; omega
    rw [h3, Int.mul_zero] at e
    have h4 : crs d u = 0 := by
      rcases Int.mul_eq_zero.1 e.symm with k | k
      · omega
      · exact k
    have h5 : dot d u < 0 := by rcases hu with k | k <;> omega
    have e2 := dd_id d n u
    rw [h1, Int.zero_mul, Int.add_zero] at e2
    have := Int.mul_pos_of_neg_of_neg h2 h5
    rw [← e2] at this
    exact pos_of_mul hd this

/-- b comes next round the points, seen from a: all others are on its left, or on the way -/
def Sup (l : List Pt) (a b : Pt) : Prop := b ≠ a ∧ b ∈ l ∧ ∀ q ∈ l, q ≠ a → 0 < crs (sub b a) (sub q a) ∨ (crs (sub b a) (sub q a) = 0 ∧ 0 < dot (sub b a) (sub q a) ∧ dot (sub b a) (sub q a) ≤ dot (sub b a) (sub b a))

def scanStep (a : Pt) (n p : Pt) : Pt := if p = a then n else if n = a ∨ turn a n p < 0 ∨ (turn a n p = 0 ∧ far a p > far a n) then p else n
def scan (a : Pt) (l : List Pt) : Pt := l.foldl (scanStep a) a

def Best (a : Pt) (done : List Pt) (n : Pt) : Prop := (n = a ∧ ∀ q ∈ done, q = a) ∨ (n ≠ a ∧ n ∈ done ∧ ∀ q ∈ done, q ≠ a → 0 ≤ turn a n q ∧ (turn a n q = 0 → far a q ≤ far a n))

theorem best_step {a d : Pt} {l done : List Pt} {n p : Pt} (hl : ∀ q ∈ l, q ≠ a → HP d (sub q a)) (hd : ∀ q ∈ done, q ∈ l) (hp : p ∈ l) (hb : Best a done n) : Best a (done ++ [p]) (scanStep a n p) := by
  unfold scanStep
  by_cases e : p = a
  · rw [if_pos e]
    rcases hb with ⟨h1, h2⟩ | ⟨h1, h2, h3⟩
    · refine .inl ⟨h1, fun q hq => ?_⟩
      rcases List.mem_append.1 hq with hq | hq
      · exact h2 q hq
      · simp at hq; rw [hq, e]
    · refine .inr ⟨h1, by simp [h2], fun q hq hqa => ?_⟩
      rcases List.mem_append.1 hq with hq | hq
      · exact h3 q hq hqa
      · simp at hq; exact (hqa (by rw [hq, e])).elim
  · rw [if_neg e]
    have tself : turn a p p = 0 := by rw [turn_crs]; simp only [crs]; grind
    rcases hb with ⟨h1, h2⟩ | ⟨h1, h2, h3⟩
    · rw [if_pos (.inl h1)]
      refine .inr ⟨e, by simp, fun q hq hqa => ?_⟩
      rcases List.mem_append.1 hq with hq | hq
      · exact (hqa (h2 q hq)).elim
      · simp at hq; subst hq; rw [tself]; exact ⟨Int.le_refl _, fun _ => Int.le_refl _⟩
    · have hn := hl n (hd n h2) h1
      have hpp := hl p hp e
      by_cases c : n = a ∨ turn a n p < 0 ∨ (turn a n p = 0 ∧ far a p > far a n)
      · rw [if_pos c]
        have c' := c.resolve_left h1
        refine .inr ⟨e, by simp, fun q hq hqa => ?_⟩
        rcases List.mem_append.1 hq with hq | hq
        · obtain ⟨g1, g2⟩ := h3 q hq hqa
          have hqq := hl q (hd q hq) hqa
          rw [turn_crs] at g1 g2 c' ⊢
          have pn : 0 ≤ crs (sub p a) (sub n a) := by
            rw [crs_anti (sub n a)]
            rcases c' with k | ⟨k, _⟩ <;> omega
          have pq := trans_ge hpp hn hqq pn g1
          refine ⟨pq, fun z => ?_⟩
          have qp : 0 ≤ crs (sub q a) (sub p a) := by rw [crs_anti (sub p a)]; omega
          rcases c' with k | ⟨k, kf⟩
          · have := trans_ge hn hqq hpp g1 qp
            omega
          · have qn := trans_ge hqq hpp hn qp pn
            have : crs (sub n a) (sub q a) ≤ 0 := by rw [crs_anti (sub q a)]; omega
            have := g2 (by omega)
            omega
        · simp at hq; subst hq; rw [tself]; exact ⟨Int.le_refl _, fun _ => Int.le_refl _⟩
      · rw [if_neg c]
        refine .inr ⟨h1, by simp [h2], fun q hq hqa => ?_⟩
        rcases List.mem_append.1 hq with hq | hq
        · exact h3 q hq hqa
        · simp at hq; subst hq
          refine ⟨by omega, fun z => by omega⟩

theorem best_scan {a d : Pt} {l : List Pt} (hl : ∀ q ∈ l, q ≠ a → HP d (sub q a)) : ∀ (rest done : List Pt) (n : Pt), (∀ q ∈ done, q ∈ l) → (∀ q ∈ rest, q ∈ l) → Best a done n → Best a (done ++ rest) (rest.foldl (scanStep a) n)
  | [], done, n, _, _, hb => by simpa using hb
  | p :: rest, done, n, h1, h2, hb => by
    have h3 := best_step hl h1 (h2 p (by simp)) hb
    have := best_scan hl rest (done ++ [p]) (scanStep a n p) (fun q hq => by
      rcases List.mem_append.1 hq with hq | hq
      · exact h1 q hq
      · simp at hq; rw [hq]; exact h2 p (by simp)) (fun q hq => h2 q (by simp [hq])) h3
    simpa using this

/-- the scan finds what comes next -/
theorem scan_sup {a d : Pt} {l : List Pt} (hl : ∀ q ∈ l, q ≠ a → HP d (sub q a)) : (scan a l = a ∧ ∀ q ∈ l, q = a) ∨ Sup l a (scan a l) := by
  have hb := best_scan hl l [] a (fun q hq => by simp at hq) (fun q hq => hq) (.inl ⟨rfl, fun q hq => by simp at hq⟩)
  rw [List.nil_append] at hb
  rcases hb with h | ⟨h1, h2, h3⟩
  · exact .inl h
  · refine .inr ⟨h1, h2, fun q hq hqa => ?_⟩
    obtain ⟨g1, g2⟩ := h3 q hq hqa
    rw [turn_crs] at g1 g2
    by_cases c : crs (sub (l.foldl (scanStep a) a) a) (sub q a) = 0
    · right
      have hn := hl _ h2 h1
      have hqq := hl q hq hqa
      have sd := same_dir hn hqq c
      have hf := g2 c
      rw [far_dot, far_dot] at hf
      refine ⟨c, sd, ?_⟩
      show dot (sub (l.foldl (scanStep a) a) a) (sub q a) ≤ dot (sub (l.foldl (scanStep a) a) a) (sub (l.foldl (scanStep a) a) a)
      generalize sub (l.foldl (scanStep a) a) a = n at *
      generalize sub q a = u at *
      have lg := lagr n u
      rw [c, Int.mul_zero, Int.sub_zero] at lg
      have nn := dot_nonneg n
      by_cases k : dot n u ≤ dot n n
      · exact k
      · have k1 := Int.mul_lt_mul_of_pos_left (show dot n n < dot n u by omega) sd
        have k2 := Int.mul_le_mul_of_nonneg_left hf nn
        have k3 := Int.mul_le_mul_of_nonneg_right (show dot n n ≤ dot n u by omega) nn
        have k4 : dot n u * dot n n = dot n n * dot n u := Int.mul_comm _ _
        omega
    · left
      show 0 < crs (sub (l.foldl (scanStep a) a) a) (sub q a)
      omega

/-- from the next one all others lie to the left of the way on, or behind -/
theorem sup_hp {l : List Pt} {a b : Pt} (h : Sup l a b) (ha : a ∈ l) : ∀ q ∈ l, q ≠ b → HP (sub b a) (sub q b) := by
  intro q hq hqb
  obtain ⟨h1, h2, h3⟩ := h
  have e1 : crs (sub b a) (sub q b) = crs (sub b a) (sub q a) := by simp only [crs, sub]; grind
  have e2 : dot (sub b a) (sub q b) = dot (sub b a) (sub q a) - dot (sub b a) (sub b a) := by simp only [dot, sub]; grind
  have nn := dot_pos (sub_ne h1)
  by_cases c : q = a
  · subst c
    right
    rw [e1, e2]
    have z1 : crs (sub b q) (sub q q) = 0 := by simp only [crs, sub]; grind
    have z2 : dot (sub b q) (sub q q) = 0 := by simp only [dot, sub]; grind
    rw [z1, z2]
    exact ⟨rfl, by omega⟩
  · rcases h3 q hq c with k | ⟨k1, k2, k3⟩
    · left; rw [e1]; exact k
    · right
      rw [e1, e2]
      refine ⟨k1, ?_⟩
      by_cases z : dot (sub b a) (sub q a) = dot (sub b a) (sub b a)
      · exfalso
        have lg := lagr (sub b a) (sub q a)
        rw [k1, Int.mul_zero, Int.sub_zero, z] at lg
        have uu : dot (sub q a) (sub q a) = dot (sub b a) (sub b a) := (Int.eq_of_mul_eq_mul_left (by omega) lg).symm
        have e3 : dot (sub q b) (sub q b) = dot (sub q a) (sub q a) - 2 * dot (sub b a) (sub q a) + dot (sub b a) (sub b a) := by simp only [dot, sub]; grind
        have := dot_zero (show dot (sub q b) (sub q b) = 0 by omega)
        exact sub_ne hqb this
      · omega

/-- before one comes one alone -/
theorem sup_inj {l : List Pt} {a a' b : Pt} (h : Sup l a b) (h' : Sup l a' b) (ha : a ∈ l) (ha' : a' ∈ l) : a = a' := by
  by_cases e : a' = a
  · exact e.symm
  · exfalso
    have k := h.2.2 a' ha' e
    have k' := h'.2.2 a ha (fun x => e x.symm)
    have e1 : crs (sub b a') (sub a a') = - crs (sub b a) (sub a' a) := by simp only [crs, sub]; grind
    have e2 : dot (sub b a') (sub a a') = dot (sub a' a) (sub a' a) - dot (sub b a) (sub a' a) := by simp only [dot, sub]; grind
    rw [e1, e2] at k'
    rcases k with k | ⟨k1, k2, k3⟩
    · rcases k' with k' | k' <;> omega
    · rcases k' with k' | ⟨_, k4, _⟩
      · omega
      · have lg := lagr (sub b a) (sub a' a)
        rw [k1, Int.mul_zero, Int.sub_zero] at lg
        generalize sub b a = n at *
        generalize sub a' a = u at *
        have m1 := Int.mul_lt_mul_of_pos_left (show dot n u < dot u u by omega) k2
        have m2 := Int.mul_le_mul_of_nonneg_right k3 (dot_nonneg u)
        omega

/-- a corner lies on no side but its own -/
theorem sup_strict {l : List Pt} {a b c c' : Pt} (h : Sup l a b) (hc : Sup l c c') (ha : a ∈ l) (hcl : c ∈ l) (h1 : c ≠ a) (h2 : c ≠ b) : 0 < turn a b c := by
  rw [turn_crs]
  rcases h.2.2 c hcl h1 with k | ⟨k1, k2, k3⟩
  · exact k
  · exfalso
    -- strictly between a and b
    have hb : HP (sub b a) (sub c b) := sup_hp h ha c hcl h2
    have e1 : crs (sub b a) (sub c b) = crs (sub b a) (sub c a) := by simp only [crs, sub]; grind
    have e2 : dot (sub b a) (sub c b) = dot (sub b a) (sub c a) - dot (sub b a) (sub b a) := by simp only [dot, sub]; grind
    have k4 : dot (sub b a) (sub c a) < dot (sub b a) (sub b a) := by
      rcases hb with z | ⟨_, z⟩ <;> omega
    have nn : 0 < dot (sub b a) (sub b a) := dot_pos (sub_ne h.1)
    -- seen from c, a and b lie on opposite sides
    have ka := hc.2.2 a ha (fun x => h1 x.symm)
    have kb := hc.2.2 b h.2.1 (fun x => h2 x.symm)
    have ia : ∀ w : Pt, dot (sub b a) (sub b a) * crs w (sub a c) = - dot (sub b a) (sub c a) * crs w (sub b a) - crs (sub b a) (sub c a) * dot w (sub b a) := by
      intro w; simp only [crs, dot, sub]; grind
    have ib : ∀ w : Pt, dot (sub b a) (sub b a) * crs w (sub b c) = (dot (sub b a) (sub b a) - dot (sub b a) (sub c a)) * crs w (sub b a) - crs (sub b a) (sub c a) * dot w (sub b a) := by
      intro w; simp only [crs, dot, sub]; grind
    have ja : ∀ w : Pt, dot (sub b a) (sub b a) * dot w (sub a c) = - dot (sub b a) (sub c a) * dot w (sub b a) + crs (sub b a) (sub c a) * crs w (sub b a) := by
      intro w; simp only [crs, dot, sub]; grind
    have jb : ∀ w : Pt, dot (sub b a) (sub b a) * dot w (sub b c) = (dot (sub b a) (sub b a) - dot (sub b a) (sub c a)) * dot w (sub b a) + crs (sub b a) (sub c a) * crs w (sub b a) := by
      intro w; simp only [crs, dot, sub]; grind
    have ia' := ia (sub c' c)
    have ib' := ib (sub c' c)
    have ja' := ja (sub c' c)
    have jb' := jb (sub c' c)
    rw [k1, Int.zero_mul, Int.sub_zero] at ia' ib'
    rw [k1, Int.zero_mul, Int.add_zero] at ja' jb'
    generalize crs (sub c' c) (sub b a) = X at *
    generalize dot (sub c' c) (sub b a) = Y at *
    generalize dot (sub b a) (sub b a) = N at *
    generalize dot (sub b a) (sub c a) = S at *
    have pa : 0 ≤ crs (sub c' c) (sub a c) := by rcases ka with z | z <;> omega
    have pb : 0 ≤ crs (sub c' c) (sub b c) := by rcases kb with z | z <;> omega
    have qa := Int.mul_nonneg (Int.le_of_lt nn) pa
    have qb := Int.mul_nonneg (Int.le_of_lt nn) pb
    rw [ia', Int.neg_mul] at qa
    rw [ib'] at qb
    have hX0 : 0 ≤ X := nonneg_of_mul (show 0 < N - S by omega) qb
    have hX1 : X = 0 := by
      by_cases z : X = 0
      · exact z
      · have := Int.mul_pos k2 (show 0 < X by omega); omega
    subst hX1
    rw [Int.mul_zero] at ia' ib'
    have za : crs (sub c' c) (sub a c) = 0 := by rcases Int.mul_eq_zero.1 ia' with z | z <;> omega
    have zb : crs (sub c' c) (sub b c) = 0 := by rcases Int.mul_eq_zero.1 ib' with z | z <;> omega
    have da : 0 < dot (sub c' c) (sub a c) := by rcases ka with z | z <;> omega
    have db : 0 < dot (sub c' c) (sub b c) := by rcases kb with z | z <;> omega
    have ra := Int.mul_pos nn da
    have rb := Int.mul_pos nn db
    rw [ja', Int.neg_mul] at ra
    rw [jb'] at rb
    have hY := pos_of_mul (show 0 < N - S by omega) rb
    have := Int.mul_pos k2 hY
    omega
end Go.Proofs.Ytecncmmkghmojaa.Geo

