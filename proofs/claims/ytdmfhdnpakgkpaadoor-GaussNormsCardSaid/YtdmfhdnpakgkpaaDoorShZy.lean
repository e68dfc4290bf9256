/- The shadow machine: iterators over maps on symbolic states; calls that are known by contracts. -/
import Derived.Test.YtdmfhdnpakgkpaaDoorShZx
set_option linter.all false
namespace Go.Proofs.YtdmfhdnpakgkpaaDoor.Sh
open Go Go.RowKit

theorem WX_mono {R : Rec} {cx : Cx} {c : SCode} {s : St} {Q Q' : Ex → St → Prop} (hq : ∀ ex s, Q ex s → Q' ex s) (h : WX R cx c s Q) : WX R cx c s Q' := (Le.refl R).big.WX c s (fun _ => Q') Q hq h

/-- the code runs, whatever the order, and ends well -/
def RunX (R : Rec) (cx : Cx) (dep : Nat) (c : SCode) (ρ : Reg) (ms : List Nat) (h : SHeap) (d : List Nat) (Q : Post) : Prop :=
  ∀ t : T, Full dep t → t.get = ρ → WX R cx c ⟨t, ms, h, d⟩ (fun ex s => Full dep s.t ∧ Q ex s.t.get s.ms s.h s.d)

section
variable {R : Rec} {cx : Cx} {dep : Nat} {c a b : SCode} {ρ : Reg} {ms : List Nat} {h : SHeap} {d : List Nat} {Q : Post}
theorem x_plain (hi : hasIter c = false) (w : Run R cx dep c [] ρ ms h d Q) : RunX R cx dep c ρ ms h d Q := by
  intro t hf ht
  unfold Run Ends at w
  obtain ⟨ex, t', ms', h', d', e, f, k⟩ := w t hf ht
  exact (WX_plain hi).2 ⟨ex, _, e, f, k⟩
theorem x_seq (hi : hasIter (.seq a b) = true) (w : RunX R cx dep a ρ ms h d (fun ex ρ' ms' h' d' => (ex = .normal ∧ RunX R cx dep b ρ' ms' h' d' Q) ∨ (ex ≠ .normal ∧ Q ex ρ' ms' h' d'))) : RunX R cx dep (.seq a b) ρ ms h d Q := by
  intro t hf ht
  unfold WX
  rw [if_pos hi]
  refine WX_mono (fun ex s k => ?_) (w t hf ht)
  obtain ⟨f, k⟩ := k
  cases ex with
  | normal =>
    rcases k with k | k
    · exact k.2 s.t f rfl
    · exact (k.1 rfl).elim
  | exit id =>
    rcases k with k | k
    · exact nomatch k.1
    · exact ⟨f, k.2⟩
  | ret =>
    rcases k with k | k
    · exact nomatch k.1
    · exact ⟨f, k.2⟩
def blkQ (id : Nat) (Q : Post) : Post := fun ex => match ex with
  | .exit j => Q (if j == id then .normal else .exit j)
  | ex => Q ex
theorem x_block {id : Nat} (hi : hasIter (.block id c) = true) (w : RunX R cx dep c ρ ms h d (blkQ id Q)) : RunX R cx dep (.block id c) ρ ms h d Q := by
  intro t hf ht
  unfold WX
  rw [if_pos hi]
  refine WX_mono (fun ex s k => ?_) (w t hf ht)
  obtain ⟨f, k⟩ := k
  cases ex with
  | normal => exact ⟨f, k⟩
  | exit id => exact ⟨f, k⟩
  | ret => exact ⟨f, k⟩
theorem x_loop (hi : hasIter (.loop c) = true) (I : Nat → Reg → List Nat → SHeap → List Nat → Prop)
    (step : ∀ k ρ ms h d, I k ρ ms h d → RunX R cx dep c ρ ms h d (fun ex ρ' ms' h' d' => (ex = .normal ∧ ∃ k', k = k' + 1 ∧ I k' ρ' ms' h' d') ∨ (ex ≠ .normal ∧ Q ex ρ' ms' h' d'))) :
    ∀ k ρ ms h d, I k ρ ms h d → RunX R cx dep (.loop c) ρ ms h d Q := by
  have key : ∀ k ρ ms h d, I k ρ ms h d → ∀ t : T, Full dep t → t.get = ρ → loopX (WX R cx c) (k + 1) ⟨t, ms, h, d⟩ (fun ex s => Full dep s.t ∧ Q ex s.t.get s.ms s.h s.d) := by
    intro k
    induction k with
    | zero =>
      intro ρ ms h d hi t hf ht
      refine WX_mono (fun ex s k => ?_) (step 0 ρ ms h d hi t hf ht)
      obtain ⟨f, k⟩ := k
      rcases k with ⟨_, k', hk, _⟩ | ⟨he, k⟩
      · omega
      · cases ex with
        | normal => exact (he rfl).elim
        | exit id => exact ⟨f, k⟩
        | ret => exact ⟨f, k⟩
    | succ n ih =>
      intro ρ ms h d hi t hf ht
      refine WX_mono (fun ex s k => ?_) (step (n + 1) ρ ms h d hi t hf ht)
      obtain ⟨f, k⟩ := k
      rcases k with ⟨rfl, k', hk, k⟩ | ⟨he, k⟩
      · have : k' = n := by omega
        subst this
        exact ih _ _ _ _ k s.t f rfl
      · cases ex with
        | normal => exact (he rfl).elim
        | exit id => exact ⟨f, k⟩
        | ret => exact ⟨f, k⟩
  intro k ρ ms h d hI t hf ht
  unfold WX
  rw [if_pos hi]
  exact ⟨k + 1, key k ρ ms h d hI t hf ht⟩
theorem x_imp {Q' : Post} (w : RunX R cx dep c ρ ms h d Q) (hq : ∀ ex ρ' ms' h' d', Q ex ρ' ms' h' d' → Q' ex ρ' ms' h' d') : RunX R cx dep c ρ ms h d Q' :=
  fun t hf ht => WX_mono (fun ex s k => ⟨k.1, hq _ _ _ _ _ k.2⟩) (w t hf ht)
end

/-! ### the operations of an iterator -/
def opsX (R : Rec) (cx : Cx) : List SOper → Reg → SHeap → List Nat → (Reg → SHeap → List Nat → Prop) → Prop
  | [], ρ, h, d, K => K ρ h d
  | o :: r, ρ, h, d, K => o.gd = none ∧ match o.op with
    | .range x => ∃ b pf es, evR ρ x = some (.map (some b)) ∧ h[b]? = some (.map pf es) ∧ opsX R cx r (updO ρ o.dst (.pointer (some ⟨h.length, 0, none⟩))) (h ++ [.iter b [] es.length]) d K
    | .next x => ∃ b mb seen n pf es, evR ρ x = some (.pointer (some ⟨b, 0, none⟩)) ∧ h[b]? = some (.iter mb seen n) ∧ h[mb]? = some (.map pf es) ∧ es.length = n ∧
        ((∀ i, i < n → i ∈ seen) → opsX R cx r (updO ρ o.dst (.tuple #[.bool false])) h d K) ∧
        ∀ i e, i ∉ seen → es[i]? = some e → opsX R cx r (updO ρ o.dst (.tuple #[.bool true, e.1, e.2])) (h.set b (.iter mb (seen ++ [i]) n)) d K
    | .entry x => ∃ b mb seen n pf es i e, evR ρ x = some (.pointer (some ⟨b, 0, none⟩)) ∧ h[b]? = some (.iter mb seen n) ∧ h[mb]? = some (.map pf es) ∧ es.length = n ∧ seen.getLast? = some i ∧ es[i]? = some e ∧
        opsX R cx r (updO ρ o.dst (.tuple #[e.1, e.2])) h d K
    | op => ∃ v h' d', opE R cx (evR ρ) none op h d = some (v, h', d') ∧ opsX R cx r (updO ρ o.dst v) h' d' K

theorem bindL_of {α β : Type} {x : Option (List α)} {f : α → Option (List β)} {l : List α} (hx : x = some l) (hne : l ≠ []) {G : β → Prop} (h : ∀ a ∈ l, ∃ r, f a = some r ∧ r ≠ [] ∧ ∀ b ∈ r, G b) : ∃ L, bindL x f = some L ∧ L ≠ [] ∧ ∀ b ∈ L, G b := by
  subst hx
  have key : ∀ l : List α, (∀ a ∈ l, ∃ r, f a = some r ∧ r ≠ [] ∧ ∀ b ∈ r, G b) → ∃ r, mapO f l = some r ∧ r.length = l.length ∧ ∀ y ∈ r, y ≠ [] ∧ ∀ b ∈ y, G b := by
    intro l
    induction l with
    | nil => intro _; exact ⟨[], rfl, rfl, fun y hy => by cases hy⟩
    | cons a l ih =>
      intro h
      obtain ⟨r, h1, h2, h3⟩ := h a (by simp)
      obtain ⟨rs, k1, k2, k3⟩ := ih (fun a ha => h a (by simp [ha]))
      refine ⟨r :: rs, ?_, by simp [k2], fun y hy => ?_⟩
      · unfold mapO; rw [h1, k1]
      · rcases List.mem_cons.1 hy with rfl | hy
        · exact ⟨h2, h3⟩
        · exact k3 y hy
  obtain ⟨r, k1, k2, k3⟩ := key l h
  refine ⟨r.flatten, ?_, ?_, ?_⟩
  · unfold bindL; simp only [k1]
  · intro e
    cases r with
    | nil => exact hne (List.length_eq_zero_iff.1 (by rw [← k2]; rfl))
    | cons y r =>
      have := (k3 y (by simp)).1
      rw [List.flatten_cons] at e
      exact this (List.append_eq_nil_iff.1 e).1
  · intro b hb
    obtain ⟨y, hy, hb⟩ := List.mem_flatten.1 hb
    exact (k3 y hy).2 b hb
theorem opsX_ok {R : Rec} {cx : Cx} {dep : Nat} : ∀ {ops : List SOper} {t : T} {ms : List Nat} {h : SHeap} {d : List Nat} {K : Reg → SHeap → List Nat → Prop},
    okOs (2 ^ dep) ops = true → Full dep t → opsX R cx ops t.get h d K → ∃ l, opsL R cx ops ⟨t, ms, h, d⟩ = some l ∧ l ≠ [] ∧ ∀ s' ∈ l, Full dep s'.t ∧ s'.ms = ms ∧ K s'.t.get s'.h s'.d
  | [], t, ms, h, d, K, ok, hf, hs => ⟨_, rfl, by simp, fun s' hs' => by
      simp only [List.mem_singleton] at hs'
      subst hs'
      exact ⟨hf, rfl, hs⟩⟩
  | o :: r, t, ms, h, d, K, ok, hf, hs => by
    have ok' : okD (2 ^ dep) o.dst = true ∧ okOs (2 ^ dep) r = true := by simpa [okOs] using ok
    obtain ⟨hg, hs⟩ := hs
    have hw : wantedS t o.gd = true := by rw [hg]; rfl
    have goon : ∀ l0 : List (Value × SHeap × List Nat), opL R cx o.op t h d = some l0 → l0 ≠ [] → (∀ x ∈ l0, opsX R cx r (updO t.get o.dst x.1) x.2.1 x.2.2 K) →
        ∃ l, opsL R cx (o :: r) ⟨t, ms, h, d⟩ = some l ∧ l ≠ [] ∧ ∀ s' ∈ l, Full dep s'.t ∧ s'.ms = ms ∧ K s'.t.get s'.h s'.d := by
      intro l0 h1 h2 h3
      simp only [opsL]
      rw [if_pos hw]
      refine bindL_of h1 h2 (fun x hx => ?_)
      obtain ⟨g1, g2⟩ := sput_get (v := x.1) rfl hf ok'.1
      have := h3 x hx
      rw [← g1] at this
      exact opsX_ok ok'.2 g2 this
    have plain : (∃ v h' d', opE R cx (evR t.get) none o.op h d = some (v, h', d') ∧ opsX R cx r (updO t.get o.dst v) h' d' K) → isIter o.op = false →
        ∃ l, opsL R cx (o :: r) ⟨t, ms, h, d⟩ = some l ∧ l ≠ [] ∧ ∀ s' ∈ l, Full dep s'.t ∧ s'.ms = ms ∧ K s'.t.get s'.h s'.d := by
      rintro ⟨v, h', d', h1, h2⟩ hi
      rw [← ev_evR, ← opRun_E] at h1
      refine goon [(v, h', d')] ?_ (by simp) (fun x hx => by
        simp only [List.mem_singleton] at hx
        subst hx
        exact h2)
      generalize o.op = op at *
      cases op <;> first | (cases hi; done) | (simp only [opL, h1])
    split at hs
    · rename_i x e
      obtain ⟨b, pf, es, h1, h2, h3⟩ := hs
      rw [← ev_evR] at h1
      refine goon [(.pointer (some ⟨h.length, 0, none⟩), h ++ [.iter b [] es.length], d)] ?_ (by simp) (fun x hx => by
        simp only [List.mem_singleton] at hx
        subst hx
        exact h3)
      rw [e]; simp only [opL, h1, h2]
    · rename_i x e
      obtain ⟨b, mb, seen, n, pf, es, h1, h2, h3, h4, h5, h6⟩ := hs
      rw [← ev_evR] at h1
      have hn : Nat.beq es.length n = true := by simpa using h4
      have hmem : ∀ i, i ∈ (List.range n).filter (fun i => !(seen.contains i)) ↔ i < n ∧ i ∉ seen := by
        intro i; simp
      by_cases hz : (List.range n).filter (fun i => !(seen.contains i)) = []
      · refine goon [(.tuple #[.bool false], h, d)] ?_ (by simp) (fun x hx => ?_)
        · rw [e]; simp only [opL, h1, h2, h3, hn, if_true, hz]
        · simp only [List.mem_singleton] at hx
          subst hx
          refine h5 (fun i hi => ?_)
          by_cases c : i ∈ seen
          · exact c
          · have := (hmem i).2 ⟨hi, c⟩
            rw [hz] at this
            cases this
      · have key : ∀ l : List Nat, (∀ i ∈ l, i < n ∧ i ∉ seen) → ∃ L : List (Value × SHeap × List Nat), mapO (fun i => match es[i]? with
            | some e => some ((.tuple #[.bool true, e.1, e.2] : Value), h.set b (.iter mb (seen ++ [i]) n), d)
            | none => none) l = some L ∧ L.length = l.length ∧ ∀ x ∈ L, ∃ i e, i ∉ seen ∧ es[i]? = some e ∧ x = (.tuple #[.bool true, e.1, e.2], h.set b (.iter mb (seen ++ [i]) n), d) := by
          intro l
          induction l with
          | nil => intro _; exact ⟨[], rfl, rfl, fun x hx => by cases hx⟩
          | cons i l ih =>
            intro hl
            obtain ⟨L, k1, k2, k3⟩ := ih (fun i hi => hl i (by simp [hi]))
            obtain ⟨g1, g2⟩ := hl i (by simp)
            have ge : es[i]? = some es[i] := List.getElem?_eq_getElem (by omega)
            refine ⟨(.tuple #[.bool true, es[i].1, es[i].2], h.set b (.iter mb (seen ++ [i]) n), d) :: L, ?_, by simp [k2], fun x hx => ?_⟩
            · unfold mapO; rw [ge, k1]
            · rcases List.mem_cons.1 hx with rfl | hx
              · exact ⟨i, es[i], g2, ge, rfl⟩
              · exact k3 x hx
        obtain ⟨L, k1, k2, k3⟩ := key _ (fun i hi => (hmem i).1 hi)
        refine goon L ?_ ?_ (fun x hx => ?_)
        · rw [e]; simp only [opL, h1, h2, h3, hn, if_true]
          first
            | exact k1
            | (split
               · rename_i h0; exact (hz h0).elim
               · exact k1)
        · intro e0
          subst e0
          exact hz (List.length_eq_zero_iff.1 k2.symm)
        · obtain ⟨i, e', g1, g2, rfl⟩ := k3 x hx
          exact h6 i e' g1 g2
    · rename_i x e
      obtain ⟨b, mb, seen, n, pf, es, i, e', h1, h2, h3, h4, h5, h6, h7⟩ := hs
      rw [← ev_evR] at h1
      have hn : Nat.beq es.length n = true := by simpa using h4
      refine goon [(.tuple #[e'.1, e'.2], h, d)] ?_ (by simp) (fun x hx => by
        simp only [List.mem_singleton] at hx
        subst hx
        exact h7)
      rw [e]; simp only [opL, h1, h2, h3, h5, hn, if_true, h6]
    · rename_i n1 n2 n3
      refine plain hs ?_
      generalize hop : o.op = op at *
      cases op <;> first | rfl | exact (n1 _ rfl).elim | exact (n2 _ rfl).elim | exact (n3 _ rfl).elim
theorem x_region {R : Rec} {cx : Cx} {dep : Nat} {ops : List SOper} {ρ : Reg} {ms : List Nat} {h : SHeap} {d : List Nat} {Q : Post} (hi : hasIter (.region 0 ops) = true) (ok : okOs (2 ^ dep) ops = true) (w : opsX R cx ops ρ h d (fun ρ' h' d' => Q .normal ρ' ms h' d')) : RunX R cx dep (.region 0 ops) ρ ms h d Q := by
  intro t hf ht
  subst ht
  obtain ⟨l, h1, h2, h3⟩ := opsX_ok (ms := ms) ok hf w
  unfold WX
  rw [if_pos hi]
  refine ⟨rfl, l, h1, h2, fun s' hs' => ?_⟩
  obtain ⟨g1, g2, g3⟩ := h3 s' hs'
  exact ⟨g1, by rw [g2]; exact g3⟩

/-! ### what every end keeps -/
section
variable {R : Rec}
theorem plainX_keep (hC : CallKeep R) (hRo : RoundKeep R) (hL : LoopKeep R) {cx : Cx} {c : SCode} {s : St} {K : Ex → St → Prop} (hb : cx.base ≤ s.h.length) (h : plainX R cx c s K) : plainX R cx c s (fun ex s' => K ex s' ∧ StKeep cx s s') := by
  obtain ⟨ex, s', he, hk⟩ := h
  exact ⟨ex, s', he, hk, exec_keep hC hRo hL c s s' ex hb he⟩
theorem WX_keep (hC : CallKeep R) (hRo : RoundKeep R) (hL : LoopKeep R) {cx : Cx} : ∀ (c : SCode) (s : St) (K : Ex → St → Prop), cx.base ≤ s.h.length → WX R cx c s K → WX R cx c s (fun ex s' => K ex s' ∧ StKeep cx s s') := by
  have plain : ∀ (c : SCode) (s : St) (K : Ex → St → Prop), hasIter c = false → cx.base ≤ s.h.length → WX R cx c s K → WX R cx c s (fun ex s' => K ex s' ∧ StKeep cx s s') := by
    intro c s K hi hb h
    exact (WX_plain hi).2 (plainX_keep hC hRo hL hb ((WX_plain hi).1 h))
  intro c
  induction c with
  | skip => intro s K hb h; exact plain _ s K rfl hb h
  | exit id => intro s K hb h; exact plain _ s K rfl hb h
  | ret => intro s K hb h; exact plain _ s K rfl hb h
  | rangeFunc g ps x y ihx ihy => intro s K hb h; exact plainX_keep hC hRo hL hb h
  | region n ops =>
    intro s K hb h
    by_cases hi : hasIter (.region n ops) = true
    · unfold WX at h ⊢
      rw [if_pos hi] at h ⊢
      obtain ⟨hn, l, hl, hne, hall⟩ := h
      exact ⟨hn, l, hl, hne, fun s' hs' => ⟨hall s' hs', opsL_keep hC hRo ops s l hb hl s' hs'⟩⟩
    · exact plain _ s K (by simpa using hi) hb h
  | seq a b iha ihb =>
    intro s K hb h
    by_cases hi : hasIter (.seq a b) = true
    · unfold WX at h ⊢
      rw [if_pos hi] at h ⊢
      refine WX_mono (fun ex s1 k => ?_) (iha s _ hb h)
      obtain ⟨k1, p1⟩ := k
      cases ex with
      | normal => exact WX_mono (fun ex s2 k => ⟨k.1, p1.trans k.2⟩) (ihb s1 K (Nat.le_trans hb p1.1.2.1) k1)
      | exit id => exact ⟨k1, p1⟩
      | ret => exact ⟨k1, p1⟩
    · exact plain _ s K (by simpa using hi) hb h
  | cond c0 a b iha ihb =>
    intro s K hb h
    by_cases hi : hasIter (.cond c0 a b) = true
    · unfold WX at h ⊢
      rw [if_pos hi] at h ⊢
      split at h
      · rename_i v hv
        cases v with
        | true => exact iha s K hb h
        | false => exact ihb s K hb h
      · exact h.elim
    · exact plain _ s K (by simpa using hi) hb h
  | block id c0 ih =>
    intro s K hb h
    by_cases hi : hasIter (.block id c0) = true
    · unfold WX at h ⊢
      rw [if_pos hi] at h ⊢
      refine WX_mono (fun ex s1 k => ?_) (ih s _ hb h)
      obtain ⟨k1, p1⟩ := k
      cases ex with
      | normal => exact ⟨k1, p1⟩
      | exit j => exact ⟨k1, p1⟩
      | ret => exact ⟨k1, p1⟩
    · exact plain _ s K (by simpa using hi) hb h
  | loop c0 ih =>
    intro s K hb h
    by_cases hi : hasIter (.loop c0) = true
    · unfold WX at h ⊢
      rw [if_pos hi] at h ⊢
      obtain ⟨k, hk⟩ := h
      have rounds : ∀ (k : Nat) (s : St), cx.base ≤ s.h.length → loopX (WX R cx c0) k s K → loopX (WX R cx c0) k s (fun ex s' => K ex s' ∧ StKeep cx s s') := by
        intro k
        induction k with
        | zero => intro s _ h; exact h.elim
        | succ k ihk =>
          intro s hb h
          have mono : ∀ (k : Nat) (s : St) (Q Q' : Ex → St → Prop), (∀ ex s, Q ex s → Q' ex s) → loopX (WX R cx c0) k s Q → loopX (WX R cx c0) k s Q' := by
            intro k
            induction k with
            | zero => intro s Q Q' _ h; exact h.elim
            | succ k ih2 =>
              intro s Q Q' hq h
              exact WX_mono (contX_mono (fun s h => ih2 s Q Q' hq h) hq) h
          refine WX_mono (fun ex s1 k1 => ?_) (ih s _ hb h)
          obtain ⟨k1, p1⟩ := k1
          cases ex with
          | normal => exact mono k s1 _ _ (fun ex s2 k => ⟨k.1, p1.trans k.2⟩) (ihk s1 (Nat.le_trans hb p1.1.2.1) k1)
          | exit id => exact ⟨k1, p1⟩
          | ret => exact ⟨k1, p1⟩
      exact ⟨k, rounds k s hb hk⟩
    · exact plain _ s K (by simpa using hi) hb h
end

/-! ### what is known of a call, whatever the order -/
section
variable {P : Program}
theorem call_X {R : Rec} {k : Nat} (hmix : P.follows .mixedOrders = true) {FT1 : FuncId → Option SFunc} (hT : Tab P FT1) (S : Sound P R k) {f : FuncId} {args : List Value} {h : SHeap} {v : Value} {h' : SHeap} {d' : List Nat} {sf : SFunc} (hsf : FT1 f = some sf) (hlen : args.length < 2 ^ sf.dep)
    (hL : WX R ⟨h.length, none, f⟩ sf.body ⟨(T.blank sf.dep).fill 0 args, [], h, []⟩ (fun ex s => (ex = .normal ∨ ex = .ret) ∧ fin sf h.length s = some (v, h', d'))) (B : Nat) (w0 : World) (m : Mp) (w : World) (args' : List Value) (r : Rel ⟨P, B, w0⟩ m h w) (hl : LR m args args') :
    Known P f ∧ ∀ n, CallsIn Fence.wide n P f args'.toArray w (CallPost ⟨P, B, w0⟩ m h v h') := by
  have hL := WX_keep (cx := ⟨h.length, none, f⟩) S.ckeep S.rkeep S.lkeep sf.body _ _ (Nat.le_refl _) hL
  obtain ⟨fn, hfn, hcomp⟩ := hT f sf hsf
  unfold compFunc at hcomp
  split at hcomp
  · cases hcomp
  rename_i c hbody
  split at hcomp
  case h_2 => cases hcomp
  rename_i sc rs hsc hrs
  split at hcomp
  case isFalse => cases hcomp
  rename_i hcond
  simp only [Bool.and_eq_true] at hcond
  have hname : fn.name ≠ "runtime.NumGoroutine" := by simpa using hcond.2
  cases hcomp
  refine ⟨⟨fn, hfn, hname, by rw [hbody]; rfl⟩, fun n => ?_⟩
  refine callsIn_of_wp_marks (F := Fence.wide) hfn hbody trivial ?_
  refine WX_ok hmix S.call S.round S.loop c fn.ntmps ⟨h.length, none, f⟩ sc _ _ m _ w Fence.wide n _ hsc hcond.1 hL ⟨TR.args (Nat.lt_log2_self) hlen hl, .nil, r⟩ (.inl ⟨rfl, rfl⟩) ?_
  intro ex s e a' w' hmem hx
  obtain ⟨⟨hexn, hf⟩, hk⟩ := hmem
  obtain ⟨h1, l, hsh, hres, hcase⟩ := fin_out hf
  have hk2 : Keep h.length h h1 s.d := hk.1.2.trans (shut_keep h.length s.d s.ms s.h h1 (hk.2 (fun b hb => by simp at hb)) hsh) (fun _ h => h)
  obtain ⟨he, m', q1, q2, q3⟩ := hx
  have done : LeavesInM Fence.wide n P fn a'.tmps (CallPost ⟨P, B, w0⟩ m h v h') a'.defers .returning w' := by
    refine leaves_ok s.ms a'.defers s.h h1 w' q3.ds hsh q3.rel ?_
    intro w1 r1 g1
    obtain ⟨l', hl1, hl2⟩ := res_run q3.tr r1 fn.results.toList rs l hrs hres
    refine ⟨(if hh : l'.toArray.size = 1 then l'.toArray[0] else .tuple l'.toArray), ?_, ?_⟩
    · rw [results_eq, Array.mapM_eq_mapM_toList]
      simp [hl2]
    · have hv := oneV_sim hl1
      rcases hcase with ⟨hd, _, hg⟩ | ⟨rfl, rfl, _⟩
      · rw [hd] at hk2
        obtain ⟨m2, p1, p2, p3, p4⟩ := gc_ok r r1 q1 (q2.trans g1) hk2 hv hg
        exact ⟨m2, p1, p2, p3, p4⟩
      · exact ⟨m', hv, q1, r1, q2.trans g1⟩
  subst he
  rcases hexn with hexn | hexn
  · subst hexn; exact done
  · subst hexn; exact done
theorem keep_X {R : Rec} {k : Nat} (S : Sound P R k) {f : FuncId} {args : List Value} {h : SHeap} {v : Value} {h' : SHeap} {d' : List Nat} {sf : SFunc}
    (hL : WX R ⟨h.length, none, f⟩ sf.body ⟨(T.blank sf.dep).fill 0 args, [], h, []⟩ (fun ex s => (ex = .normal ∨ ex = .ret) ∧ fin sf h.length s = some (v, h', d'))) : Keep h.length h h' d' := by
  obtain ⟨ex, s, ⟨_, hf⟩, hk⟩ := WX_some (cx := ⟨h.length, none, f⟩) S.ckeep S.rkeep S.lkeep sf.body _ _ (Nat.le_refl _) hL
  obtain ⟨h1, l, hsh, _, hcase⟩ := fin_out hf
  have hk2 : Keep h.length h h1 s.d := hk.1.2.trans (shut_keep h.length s.d s.ms s.h h1 (hk.2 (fun b hb => by simp at hb)) hsh) (fun _ h => h)
  rcases hcase with ⟨hd, rfl, hg⟩ | ⟨_, rfl, rfl⟩
  · rw [hd] at hk2
    unfold gcS at hg
    simp only at hg
    split at hg
    case h_2 => cases hg
    rename_i v2 kept _ _
    cases hg
    refine ⟨by have := hk2.1; simp; omega, fun b o hb ho => ?_⟩
    obtain ⟨o', q1, q2⟩ := hk2.2 b o hb ho
    refine ⟨o', ?_, q2⟩
    have := hk2.1
    rw [List.getElem?_append_left (by simp; omega), List.getElem?_take, if_pos hb]
    exact q1
  · exact hk2

variable {FT : FuncId → Option SFunc} {C : Kn}
/-- a contract, shown on the machine without fuel -/
theorem known_X (hmix : P.follows .mixedOrders = true) (hT : Tab P FT) (hC : KnOK P C) {FT1 : FuncId → Option SFunc} (hT1 : Tab P FT1) {K : Kn}
    (hK : ∀ f args h r, K f args h = some r → ∃ sf, FT1 f = some sf ∧ Nat.blt args.length (2 ^ sf.dep) = true ∧ RunX (big FT C) ⟨h.length, none, f⟩ sf.dep sf.body (argR args) [] h [] (callQ sf.res h.length r)) : KnOK P K := by
  have main : ∀ f args h v h' d', K f args h = some (v, h', d') → ∃ sf n, FT1 f = some sf ∧ args.length < 2 ^ sf.dep ∧ WX (runC FT C n) ⟨h.length, none, f⟩ sf.body ⟨(T.blank sf.dep).fill 0 args, [], h, []⟩ (fun ex s => (ex = .normal ∨ ex = .ret) ∧ fin sf h.length s = some (v, h', d')) := by
    intro f args h v h' d' hk
    obtain ⟨sf, h1, h2, h3⟩ := hK f args h _ hk
    obtain ⟨k1, k2⟩ := args_get (dep := sf.dep) args (by simpa using h2)
    have h4 := h3 _ k1 k2
    have h5 : WX (big FT C) ⟨h.length, none, f⟩ sf.body ⟨(T.blank sf.dep).fill 0 args, [], h, []⟩ (fun ex s => (ex = .normal ∨ ex = .ret) ∧ fin sf h.length s = some (v, h', d')) := by
      refine WX_mono (fun ex s k => ?_) h4
      obtain ⟨_, q1, q2⟩ := k
      refine ⟨?_, finW_ok rfl q2⟩
      cases ex with
      | normal => exact .inl rfl
      | ret => exact .inr rfl
      | exit j => cases q1
    obtain ⟨n, h6⟩ := (big_big FT C).WX sf.body _ (fun _ => _) _ (fun ex s' k => (big_big FT C).all (fun _ => k)) h5
    exact ⟨sf, n, h1, by simpa using h2, h6 n (Nat.le_refl _)⟩
  refine ⟨?_, ?_⟩
  · intro B w0 f args h v h' d' m w args' hs r hl
    obtain ⟨sf, n, h1, h2, h3⟩ := main f args h v h' d' hs
    exact call_X hmix hT1 (soundC hmix hT hC n) h1 h2 h3 B w0 m w args' r hl
  · intro f args h v h' d' hs
    obtain ⟨sf, n, h1, h2, h3⟩ := main f args h v h' d' hs
    exact keep_X (soundC hmix hT hC n) h3

/-- two sorts of contracts -/
def bothK (K1 K2 : Kn) : Kn := fun f args h => match K1 f args h with
  | some r => some r
  | none => K2 f args h
theorem bothK_ok {K1 K2 : Kn} (h1 : KnOK P K1) (h2 : KnOK P K2) : KnOK P (bothK K1 K2) := by
  refine ⟨?_, ?_⟩
  · intro B w0 f args h v h' d' m w args' hs r hl
    simp only [knR, bothK] at hs
    split at hs
    · rename_i u hu
      cases hs
      exact h1.1 B w0 f args h v h' d' m w args' hu r hl
    · exact h2.1 B w0 f args h v h' d' m w args' hs r hl
  · intro f args h v h' d' hs
    simp only [knR, bothK] at hs
    split at hs
    · rename_i u hu
      cases hs
      exact h1.2 f args h v h' d' hu
    · exact h2.2 f args h v h' d' hs
/-- more contracts, of functions that the machine does not run itself: it answers as before -/
theorem big_more {K1 K2 : Kn} (hn : ∀ f args h, K1 f args h = none → K2 f args h ≠ none → FT f = none) : Le (big FT K1) (big FT (bothK K1 K2)) := by
  have key : ∀ n, Le (runC FT K1 n) (runC FT (bothK K1 K2) n) := by
    have ov : ∀ R R' : Rec, Le R R' → (∀ f a h, FT f = none → R.call f a h = none) → Le (over K1 R) (over (bothK K1 K2) R') := by
      intro R R' h hno
      refine ⟨fun f a e r k => ?_, h.2.1, h.2.2⟩
      simp only [over, bothK] at k ⊢
      split at k
      · rename_i u hu
        rw [hu]; exact k
      · rename_i hu
        rw [hu]
        dsimp only
        split
        · rename_i u2 hu2
          have := hno f a e (hn f a e hu (by rw [hu2]; simp))
          rw [this] at k; cases k
        · exact h.1 _ _ _ _ k
    intro n
    induction n with
    | zero => exact ov _ _ (Le.refl _) (fun _ _ _ _ => rfl)
    | succ n ih =>
      refine ov _ _ (stepR_mono ih) (fun f a h hf => ?_)
      simp only [stepR, stepCall, hf]
  refine ⟨fun f a h r k => ?_, fun b l a h r k => ?_, fun cx c s r k => ?_⟩
  · obtain ⟨n, k⟩ := sup_some k
    exact (le_big n).1 _ _ _ _ ((key n).1 _ _ _ _ k)
  · obtain ⟨n, k⟩ := sup_some k
    exact (le_big n).2.1 _ _ _ _ _ ((key n).2.1 _ _ _ _ _ k)
  · obtain ⟨n, k⟩ := sup_some k
    exact (le_big n).2.2 _ _ _ _ ((key n).2.2 _ _ _ _ k)
end
end Go.Proofs.YtdmfhdnpakgkpaaDoor.Sh

