/- Ranges over functions on symbolic states; the corners with their neighbours. -/
import Derived.Test.YtecncmmkghmojaaXa
set_option linter.all false
namespace Go.Proofs.Ytecncmmkghmojaa.Sh
open Go Geo
set_option maxRecDepth 100000

section
variable {FT : FuncId → Option SFunc} {C : FuncId → List Value → Option Value}

/-- a range over a function, outside of any other -/
theorem run_range {R : Rec} {cx : Cx} {dep : Nat} {f : Operand} {ps : List Nat} {as body : SCode} {st : List Fr} {ρ : Reg} {ms : List Nat} {h : SHeap} {d : List Nat} {Q : Post} {g : FuncId} {caps : Array Value}
    (hrnd : cx.rnd = none) (hv : evR ρ f = some (.func (.func g) #[] caps))
    (hw : ∀ t : T, Full dep t → t.get = ρ → ∃ v2 h2 d2, R.call g (.func (.yield (h.length + 1)) #[] #[] :: caps.toList) (h ++ [.deferred, .loop 0 cx.fn t ps as body none h.length]) = some (v2, h2, d2) ∧
      ∃ lst fn' t' ps' as' body' pend df, h2[h.length + 1]? = some (.loop lst fn' t' ps' as' body' pend df) ∧ (lst == 1) = false ∧
        ((pend = none ∧ Ends R cx dep .normal st ρ (h.length :: ms) (setLoop h2 (h.length + 1) 3 none) (dirts cx.base d2 d) Q) ∨
         (pend = some .ret ∧ Ends R cx dep .ret st ρ (h.length :: ms) (setLoop h2 (h.length + 1) 3 (some .ret)) (dirts cx.base d2 d) Q))) :
    Run R cx dep (.rangeFunc f ps as body) st ρ ms h d Q := by
  unfold Run
  intro t hf ht
  obtain ⟨v2, h2, d2, e1, lst, fn', t', ps', as', body', pend, df, e2, e3, e4⟩ := hw t hf ht
  have hv' : ev t f = some (.func (.func g) #[] caps) := by rw [ev_evR, ht]; exact hv
  have a1 : (h ++ [SO.deferred]).length = h.length + 1 := by simp
  have a2 : h ++ [SO.deferred] ++ [.loop 0 cx.fn t ps as body none h.length] = h ++ [.deferred, .loop 0 cx.fn t ps as body none h.length] := by simp
  have e1' : R.call g ((#[] : Array Value).toList ++ [.func (.yield (h.length + 1)) #[] #[]] ++ caps.toList) (h ++ [.deferred, .loop 0 cx.fn t ps as body none h.length]) = some (v2, h2, d2) := by
    simpa using e1
  rcases e4 with ⟨rfl, k⟩ | ⟨rfl, k⟩
  · refine ⟨.normal, t, h.length :: ms, setLoop h2 (h.length + 1) 3 none, dirts cx.base d2 d, ?_, hf, by rw [ht]; exact k⟩
    unfold exec
    simp only [hv', hrnd]
    simp only [a1, a2]
    rw [e1']
    simp only [e2, e3, if_false, Bool.false_eq_true]
  · refine ⟨.ret, t, h.length :: ms, setLoop h2 (h.length + 1) 3 (some .ret), dirts cx.base d2 d, ?_, hf, by rw [ht]; exact k⟩
    unfold exec
    simp only [hv', hrnd]
    simp only [a1, a2]
    rw [e1']
    simp only [e2, e3, if_false, Bool.false_eq_true]

def zipR (ρ : Reg) : List Nat → List Value → Reg
  | p :: ps, a :: as => zipR (upd ρ p a) ps as
  | _, _ => ρ
theorem zip_get {dep : Nat} : ∀ (ps : List Nat) (as : List Value) (t : T), Full dep t → (ps.all fun k => Nat.blt (k + 1) (2 ^ dep)) = true → Full dep (zipSet t ps as) ∧ (zipSet t ps as).get = zipR t.get ps as
  | [], as, t, hf, _ => by cases as <;> exact ⟨hf, rfl⟩
  | p :: ps, [], t, hf, _ => ⟨hf, rfl⟩
  | p :: ps, a :: as, t, hf, hp => by
    have hp' : Nat.blt (p + 1) (2 ^ dep) = true ∧ (ps.all fun k => Nat.blt (k + 1) (2 ^ dep)) = true := by simpa only [List.all_cons, Bool.and_eq_true] using hp
    have h1 : p + 1 < 2 ^ dep := by simpa using hp'.1
    obtain ⟨k1, k2⟩ := zip_get ps as (t.set p a) (full_set hf) hp'.2
    refine ⟨k1, ?_⟩
    show (zipSet (t.set p a) ps as).get = zipR (upd t.get p a) ps as
    rw [k2, get_set' a hf h1]

/-- one round of a range over a function -/
theorem round_rule {base L fn df dep : Nat} {t : T} {ps : List Nat} {as body : SCode} {args : List Value} {hh : SHeap} {ρ : Reg} (P : Value × SHeap × List Nat → Prop)
    (hL : hh[L]? = some (.loop 0 fn t ps as body none df)) (hf : Full dep t) (ht : t.get = ρ) (hps : (ps.all fun k => Nat.blt (k + 1) (2 ^ dep)) = true) (hlen : args.length = ps.length)
    (w : Run (big FT C) ⟨base, some L, fn⟩ dep as [] (zipR ρ ps args) [] hh [] (fun ex ρ1 ms1 h1 d1 => ex = .normal ∧ (∃ fn' t' ps' as' body' df', h1[L]? = some (.loop 0 fn' t' ps' as' body' none df')) ∧
      Run (big FT C) ⟨base, some L, fn⟩ dep body [] ρ1 ms1 (setLoop h1 L 1 none) d1 (fun ex2 ρ2 ms2 h2 d2 => (∃ st' fn' t' ps' as' body' pd df', h2[L]? = some (.loop st' fn' t' ps' as' body' pd df')) ∧
        P (.bool (exNormal ex2), setLoop h2 L (if exNormal ex2 = true then 0 else 2) (exCode ex2), d2)))) : ∃ r, P r ∧ (big FT C).round base L args hh = some r := by
  subst ht
  obtain ⟨k1, k2⟩ := zip_get ps args t hf hps
  unfold Run Ends at w
  obtain ⟨ex, t1, ms1, h1, d1, e1, f1, rfl, ⟨fn', t', ps', as', body', df', e2⟩, w2⟩ := w (zipSet t ps args) k1 k2
  unfold Ends at w2
  obtain ⟨ex2, t2, ms2, h2, d2, e3, f2, ⟨st3, fn3, t3, ps3, as3, body3, pd3, df3, e4⟩, hP⟩ := w2 t1 f1 rfl
  refine ⟨_, hP, big_round ?_⟩
  unfold stepRound
  simp only [hL, beq_iff_eq, hlen, if_true, fZip_eq, fH_eq, e1, e2, e3, e4]
end

theorem call_yield (R : Rec) (base l : Nat) (h : SHeap) (d : List Nat) (args : List Value) : callS R base h d (.func (.yield l) #[] #[]) args = match R.round base l args h with
    | some (v, h', d') => some (v, h', d' ++ d)
    | none => none := by simp [callS]; rfl
attribute [go_sem ↓] call_yield

/-- the neighbours of corner k -/
def nbr (l : List (Int × Int)) (k : Nat) : List Value :=
  let p := l.getD ((k + l.length - 1) % l.length) (0, 0)
  let q := l.getD k (0, 0)
  let r := l.getD ((k + 1) % l.length) (0, 0)
  [.int .i64 p.1, .int .i64 p.2, .int .i64 q.1, .int .i64 q.2, .int .i64 r.1, .int .i64 r.2]

theorem around_loop (cx : Cx) (L pb cb c : Nat) (l : List (Int × Int)) (hn1 : 1 ≤ l.length) (hn : l.length ≤ 12) (J : Nat → SHeap → List Nat → Prop)
    (happ : ∀ k hh dd g, J k hh dd → J k (hh ++ g) dd) (hfix : ∀ k hh dd, J k hh dd → loadS hh none (.pointer (some ⟨pb, 0, none⟩)) = some (.slice (some ⟨cb, 0, none⟩) l.length c) ∧ Prs hh cb 0 l)
    (hrd : ∀ k hh dd, k < l.length → J k hh dd → ∃ hh' d', M.round cx.base L [.int .i64 k, .agg (nbr l k).toArray] hh = some (.bool true, hh', d') ∧ J (k + 1) hh' (d' ++ dd)) :
    ∀ k ρ ms h' d', (∃ i : Nat, i + k = l.length ∧ ρ 0 = .func (.yield L) #[] #[] ∧ ρ 1 = .pointer (some ⟨pb, 0, none⟩) ∧ ρ 3 = .int .i64 l.length ∧ ρ 8 = .slice (some ⟨cb, 0, none⟩) l.length c ∧ ρ 9 = .int .i64 l.length ∧ ρ 10 = .int .i64 i ∧ J i h' d' ∧ ms = []) →
    LoopW M cx 6 sf109L0 ρ ms h' d' (fun ex ρ' ms' h' d' => ex = .exit 0 ∧ J l.length h' d' ∧ ms' = []) := by
  refine loop_run _ ?_
  rintro k ρ ms h' d' ⟨i, hi, h0, h1, h3, h8, h9, h10, hj, rfl⟩
  unfold sf109L0
  by_cases hk : k = 0
  · have e1 : ¬ ((i : Int) < l.length) := by omega
    have ei : i = l.length := by omega
    repeat (first | apply run_seq | apply run_block | apply end_seq | apply end_blk_hit | apply end_blk_miss rfl | apply end_blk | apply end_seq_exit | apply end_seq_ret | apply end_blk_ret | apply run_skip | apply run_ret | apply run_exit | (apply run_region (by decide); (simp only [go_sem, h9, h10, e1]; rfl)) | (refine run_cond_t ?_ ?_; · simp only [go_sem]) | (refine run_cond_f ?_ ?_; · simp only [go_sem]))
    exact end_nil ⟨rfl, by rw [← ei]; exact hj, rfl⟩
  · have e1 : (i : Int) < l.length := by omega
    have hil : i < l.length := by omega
    have e2 : (0 : Int) ≤ i := by omega
    have ew : IntKind.i64.wrap ((i : Int) + 1) = ((i + 1 : Nat) : Int) := by rw [wrap64 (by omega) (by omega)]; rfl
    obtain ⟨f1, f2⟩ := hfix i h' d' hj
    obtain ⟨g1, g2⟩ := hfix i _ d' (happ i h' d' [SO.cells [.int .i64 l[i].1, .int .i64 l[i].2] 77 true 0 []] hj)
    obtain ⟨hh', dd', r1, r2⟩ := hrd i _ d' hil (happ i h' d' [SO.cells [.int .i64 l[i].1, .int .i64 l[i].2] 77 true 0 []] hj)
    have l1 := f2.loadN hil
    rw [Nat.zero_add] at l1
    have hpm : (i + l.length - 1) % l.length < l.length := Nat.mod_lt _ (by omega)
    have hqm : (i + 1) % l.length < l.length := Nat.mod_lt _ (by omega)
    have lp := g2.loadN hpm
    have lq := g2.loadN hqm
    rw [Nat.zero_add] at lp lq
    have l5 : loadS (h' ++ [SO.cells [.int .i64 l[i].1, .int .i64 l[i].2] 77 true 0 []]) (some 2) (.pointer (some ⟨h'.length, 0, none⟩)) = some (.agg #[.int .i64 l[i].1, .int .i64 l[i].2]) := by
      rw [load_rdON, app_get0]; rfl
    have gd : ∀ j, (hj : j < l.length) → l.getD j (0, 0) = l[j] := fun j hj => by rw [List.getD_eq_getElem?_getD, List.getElem?_eq_getElem hj]; rfl
    have hnb : (nbr l i) = [.int .i64 l[(i + l.length - 1) % l.length].1, .int .i64 l[(i + l.length - 1) % l.length].2, .int .i64 l[i].1, .int .i64 l[i].2, .int .i64 l[(i + 1) % l.length].1, .int .i64 l[(i + 1) % l.length].2] := by
      simp only [nbr, gd _ hpm, gd _ hil, gd _ hqm]
    rw [hnb] at r1
    have v1 : IntKind.i64.wrap ((i : Int) + l.length) = ((i + l.length : Nat) : Int) := by rw [wrap64 (by omega) (by omega)]; rfl
    have v2 : IntKind.i64.wrap (((i + l.length : Nat) : Int) - 1) = ((i + l.length - 1 : Nat) : Int) := by rw [wrap64 (by omega) (by omega)]; omega
    have v3 : (((i + l.length - 1 : Nat) : Int)).tmod (l.length : Int) = (((i + l.length - 1) % l.length : Nat) : Int) := by rw [Int.tmod_eq_emod_of_nonneg (by omega)]; rfl
    have v4 : (((i + 1 : Nat) : Int)).tmod (l.length : Int) = (((i + 1) % l.length : Nat) : Int) := by rw [Int.tmod_eq_emod_of_nonneg (by omega)]; rfl
    have hz : ¬ ((l.length : Int) = 0) := by omega
    have p1 : (((i + l.length - 1) % l.length : Nat) : Int) < l.length := by omega
    have p2 : (0 : Int) ≤ (((i + l.length - 1) % l.length : Nat) : Int) := by omega
    have p3 : (((i + 1) % l.length : Nat) : Int) < l.length := by omega
    have p4 : (0 : Int) ≤ (((i + 1) % l.length : Nat) : Int) := by omega
    generalize (i + l.length - 1) % l.length = a1 at *
    generalize (i + 1) % l.length = a2 at *
    repeat (first | apply run_seq | apply run_block | apply end_seq | apply end_blk_hit | apply end_blk_miss rfl | apply end_blk | apply end_seq_exit | apply end_seq_ret | apply end_blk_ret | apply run_skip | apply run_ret | apply run_exit | (apply run_region (by decide); (simp only [go_sem, h0, h1, h3, h8, h9, h10, e1, e2, l1, lp, lq, l5, g1, v1, v2, v3, v4, hz, p1, p2, p3, p4, ew, Int.toNat_natCast, r1]; rfl)) | (refine run_cond_t ?_ ?_; · simp only [go_sem]) | (refine run_cond_f ?_ ?_; · simp only [go_sem]))
    exact end_nil ⟨k - 1, by omega, i + 1, by omega, by simp only [go_sem, h0], by simp only [go_sem, h1], by simp only [go_sem, h3], by simp only [go_sem, h8], by simp only [go_sem, h9], by simp only [go_sem, ew], r2, rfl⟩
end Go.Proofs.Ytecncmmkghmojaa.Sh

