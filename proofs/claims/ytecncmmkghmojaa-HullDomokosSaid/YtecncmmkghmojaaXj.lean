/- open: a hull is opened. -/
import Derived.Test.YtecncmmkghmojaaXi
set_option linter.all false
namespace Go.Proofs.Ytecncmmkghmojaa.Sh
open Go Geo
set_option maxRecDepth 100000

theorem gc_body {base i cb n c : Nat} {x y D : Int} {h : SHeap} {cs : List Value} {old : List Nat} (hb : h[i]? = some (.cells [.slice (some ⟨cb, 0, none⟩) n c, .int .i64 x, .int .i64 y, .int .i64 D] 79 false 0 [])) (hc : h[cb]? = some (.cells cs 77 true 0 old))
    (h1 : base ≤ i) (h2 : base ≤ cb) (h3 : cb ≠ i) (ho : ∀ c ∈ old, base ≤ c ∧ c ≠ i ∧ c ≠ cb) :
    gcS base (.tuple #[.pointer (some ⟨i, 0, none⟩), .int .i64 0]) h = some (.tuple #[.pointer (some ⟨base, 0, none⟩), .int .i64 0], h.take base ++ [.cells [.slice (some ⟨base + 1, 0, none⟩) n c, .int .i64 x, .int .i64 y, .int .i64 D] 79 false 0 [], .cells cs 77 true 0 []]) := by
  have ei : Nat.ble base i = true := by rw [ble_dec]; simpa using h1
  have ec : Nat.ble base cb = true := by rw [ble_dec]; simpa using h2
  have ep : ptrs 3 (.tuple #[.pointer (some ⟨i, 0, none⟩), .int .i64 0]) = [i] := rfl
  have eo : ptrsO (some (SO.cells [.slice (some ⟨cb, 0, none⟩) n c, .int .i64 x, .int .i64 y, .int .i64 D] 79 false 0 [])) = [cb] := rfl
  have eo2 : ptrsO (some (SO.cells cs 77 true 0 old)) = [] := rfl
  have e1 : reach base h 1000000 [i] [] = [i, cb] := by
    rw [show (1000000 : Nat) = 999997 + 1 + 1 + 1 from rfl, reach]
    simp only [ei, List.contains_nil, Bool.not_true, Bool.or_self, Bool.false_eq_true, if_false, hb, eo]
    rw [List.cons_append, reach]
    have : [i].contains cb = false := by simp [h3]
    simp only [ec, this, Bool.not_true, Bool.or_self, Bool.false_eq_true, if_false, hc, eo2, List.nil_append, List.cons_append]
    rw [reach]
  have e2 : ren base [i, cb] i = some base := by simp [ren, ei, posOf]
  have e3 : ren base [i, cb] cb = some (base + 1) := by
    have : Nat.beq i cb = false := by rw [nbeq_dec]; simp; omega
    simp [ren, ec, posOf, this]
  have er : renV base [i, cb] 3 (.tuple #[.pointer (some ⟨i, 0, none⟩), .int .i64 0]) = some (.tuple #[.pointer (some ⟨base, 0, none⟩), .int .i64 0]) := by
    simp [renV, mapO, e2]
  have es : renV base [i, cb] 3 (.slice (some ⟨cb, 0, none⟩) n c) = some (.slice (some ⟨base + 1, 0, none⟩) n c) := by
    simp [renV, e3]
  have ez : ∀ z : Int, renV base [i, cb] 3 (.int .i64 z) = some (.int .i64 z) := fun z => rfl
  have ef : ((0 : Nat) == 2) = false := rfl
  have eold : old.filterMap (ren base [i, cb]) = [] := by
    rw [List.filterMap_eq_nil_iff]
    intro a ha
    obtain ⟨a1, a2, a3⟩ := ho a ha
    have e4 : Nat.ble base a = true := by rw [ble_dec]; simpa using a1
    have e5 : Nat.beq i a = false := by rw [nbeq_dec]; simp; omega
    have e6 : Nat.beq cb a = false := by rw [nbeq_dec]; simp; omega
    simp [ren, e4, posOf, e5, e6]
  unfold gcS
  simp only [ep, e1, er, mapO, renO, hb, hc, es, ez, ef, eold, Bool.false_eq_true, if_false, if_true, List.filterMap_nil]

theorem open62 {h : SHeap} {v : Value} {l : List (Int × Int)} (hv : PS h v l) (T : Tame l) :
    M.call 62 [v] h = some (.tuple #[.pointer (some ⟨h.length, 0, none⟩), .int .i64 0], h ++ [.cells [.slice (some ⟨h.length + 1, 0, none⟩) l.length (UNK + 2), .int .i64 (mX l), .int .i64 (mY l), .int .i64 (mD l)] 79 false 0 [], .cells (prs l) 77 true 0 []], []) := by
  have T1 := T.lo
  have T2 := T.hi
  obtain ⟨a, c, rfl, hps⟩ := hv
  obtain ⟨b, o, rfl, hp⟩ := hps (by intro e; rw [e] at T1; simp at T1)
  refine call_run sf62 rfl rfl rfl ?_
  show Run M ⟨h.length, none, 62⟩ 8 sf62.body [] _ [] h [] (callQ [.cell none 2, .cell none 3] h.length _)
  unfold sf62
  dsimp only
  have e1 : ¬ ((l.length : Int) < 3) := by omega
  have e2 : ¬ ((12 : Int) < (l.length : Int)) := by omega
  have c85 := any98 (h := h ++ [SO.cells [.pointer none] 72 false 0 [], .cells [.int .i64 0] 24 true 0 []]) (v := .slice (some ⟨b, o, none⟩) l.length c) (l := l) ⟨_, _, rfl, fun _ => ⟨b, o, rfl, hp.app _⟩⟩ (by omega) T.inr
  repeat (first | apply run_seq | apply run_block | apply end_seq | apply end_blk_hit | apply end_blk_miss rfl | apply end_blk | apply end_seq_exit | apply end_seq_ret | apply end_blk_ret | apply run_skip | apply run_ret | apply run_exit | (apply run_region (by decide); (simp only [go_sem, ↓reduceIte, Int.reduceAdd, Int.reduceEq, Int.reduceLE, Int.reduceLT, Int.reduceMul, Int.reduceNeg, Int.reduceSub, Int.reduceToNat, Nat.reduceAdd, Nat.reduceBEq, Nat.reduceEqDiff, Nat.reduceLT, Nat.reduceLeDiff, Nat.reduceMul, Nat.reduceSub, argR, e1, e2, c85]; rfl)) | (refine run_cond_t ?_ ?_; · simp only [go_sem, ↓reduceIte, Nat.reduceEqDiff]) | (refine run_cond_f ?_ ?_; · simp only [go_sem, ↓reduceIte, Nat.reduceEqDiff]))
  refine run_loop (copy_loop _ (c := c) hp T2 (h ++ [SO.cells [.pointer none] 72 false 0 [], .cells [.int .i64 0] 24 true 0 []]) (fun j hj => List.getElem?_append_left hj) rfl l.length _ _ _ _ ⟨0, .slice none 0 0, by omega, by simp only [go_sem, ↓reduceIte, Int.reduceAdd, Int.reduceEq, Int.reduceLE, Int.reduceLT, Int.reduceMul, Int.reduceNeg, Int.reduceSub, Int.reduceToNat, Nat.reduceAdd, Nat.reduceBEq, Nat.reduceEqDiff, Nat.reduceLT, Nat.reduceLeDiff, Nat.reduceMul, Nat.reduceSub], by simp only [go_sem, ↓reduceIte, Int.reduceAdd, Int.reduceEq, Int.reduceLE, Int.reduceLT, Int.reduceMul, Int.reduceNeg, Int.reduceSub, Int.reduceToNat, Nat.reduceAdd, Nat.reduceBEq, Nat.reduceEqDiff, Nat.reduceLT, Nat.reduceLeDiff, Nat.reduceMul, Nat.reduceSub], by simp only [go_sem, ↓reduceIte, Int.reduceAdd, Int.reduceEq, Int.reduceLE, Int.reduceLT, Int.reduceMul, Int.reduceNeg, Int.reduceSub, Int.reduceToNat, Nat.reduceAdd, Nat.reduceBEq, Nat.reduceEqDiff, Nat.reduceLT, Nat.reduceLeDiff, Nat.reduceMul, Nat.reduceSub], by simp only [go_sem, ↓reduceIte, Int.reduceAdd, Int.reduceEq, Int.reduceLE, Int.reduceLT, Int.reduceMul, Int.reduceNeg, Int.reduceSub, Int.reduceToNat, Nat.reduceAdd, Nat.reduceBEq, Nat.reduceEqDiff, Nat.reduceLT, Nat.reduceLeDiff, Nat.reduceMul, Nat.reduceSub, argR], by simp only [go_sem, ↓reduceIte, Int.reduceAdd, Int.reduceEq, Int.reduceLE, Int.reduceLT, Int.reduceMul, Int.reduceNeg, Int.reduceSub, Int.reduceToNat, Nat.reduceAdd, Nat.reduceBEq, Nat.reduceEqDiff, Nat.reduceLT, Nat.reduceLeDiff, Nat.reduceMul, Nat.reduceSub, argR], by simp only [go_sem, ↓reduceIte, Int.reduceAdd, Int.reduceEq, Int.reduceLE, Int.reduceLT, Int.reduceMul, Int.reduceNeg, Int.reduceSub, Int.reduceToNat, Nat.reduceAdd, Nat.reduceBEq, Nat.reduceEqDiff, Nat.reduceLT, Nat.reduceLeDiff, Nat.reduceMul, Nat.reduceSub], by simp, ?_, ?_, .inl ⟨rfl, rfl, rfl⟩, rfl, rfl⟩) ?_
  · intro j hj
    rw [show ∀ x y z : SO, h ++ [x, y, z] = (h ++ [x, y]) ++ [z] by simp, List.getElem?_append_left (by simp; omega)]
  · rw [app_get]; rfl
  rintro ex ρ' ms' H2 d1 ⟨rfl, r2, r3, r4, v, hle, hsame, hbody, acc, rfl, rfl⟩
  rcases acc with ⟨z, _, _⟩ | ⟨cb, old, rfl, hcb, _, _, hcl, _, hold⟩
  · omega
  have hcb2 : cb < H2.length := (List.getElem?_eq_some_iff.1 hcb).1
  have hB2 : Body H2 (h.length + 2) cb (UNK + 2) l 0 0 0 := ⟨hbody, Prs.mk0 hcb rfl⟩
  have s0 : H2[h.length]? = some (.cells [.pointer none] 72 false 0 []) := by rw [hsame _ (by omega), app_get0]; rfl
  have s1 : H2[h.length + 1]? = some (.cells [.int .i64 0] 24 true 0 []) := by rw [hsame _ (by omega), app_get]; rfl
  have s2 : ∀ j, j < h.length → H2[j]? = h[j]? := fun j hj => by rw [hsame _ (by omega), List.getElem?_append_left hj]
  have lb2 := hB2.load
  have c99 := around99 cb l.length (UNK + 2) H2 hcb2
  repeat (first | apply run_seq | apply run_block | apply end_seq | apply end_blk_hit | apply end_blk_miss rfl | apply end_blk | apply end_seq_exit | apply end_seq_ret | apply end_blk_ret | apply run_skip | apply run_ret | apply run_exit | (apply run_region (by decide); (simp only [go_sem, ↓reduceIte, Int.reduceAdd, Int.reduceEq, Int.reduceLE, Int.reduceLT, Int.reduceMul, Int.reduceNeg, Int.reduceSub, Int.reduceToNat, Nat.reduceAdd, Nat.reduceBEq, Nat.reduceEqDiff, Nat.reduceLT, Nat.reduceLeDiff, Nat.reduceMul, Nat.reduceSub, r4, lb2, c99]; rfl)) | (refine run_cond_t ?_ ?_; · simp only [go_sem, ↓reduceIte, Nat.reduceEqDiff]) | (refine run_cond_f ?_ ?_; · simp only [go_sem, ↓reduceIte, Nat.reduceEqDiff]))
  -- the corners
  show Run M _ 8 (.rangeFunc (.tmp 52) [53, 54] rfA62_0 rfB62_0) _ _ _ _ _ _
  refine run_range (g := 109) (caps := #[.pointer (some ⟨H2.length, 0, none⟩)]) rfl (by simp only [go_sem, ↓reduceIte, Int.reduceAdd, Int.reduceEq, Int.reduceLE, Int.reduceLT, Int.reduceMul, Int.reduceNeg, Int.reduceSub, Int.reduceToNat, Nat.reduceAdd, Nat.reduceBEq, Nat.reduceEqDiff, Nat.reduceLT, Nat.reduceLeDiff, Nat.reduceMul, Nat.reduceSub]) ?_
  intro t hf ht
  rw [← ht]
  have t2 : t.get 2 = .pointer (some ⟨h.length, 0, none⟩) := by rw [ht]; simp only [go_sem, ↓reduceIte, Int.reduceAdd, Int.reduceEq, Int.reduceLE, Int.reduceLT, Int.reduceMul, Int.reduceNeg, Int.reduceSub, Int.reduceToNat, Nat.reduceAdd, Nat.reduceBEq, Nat.reduceEqDiff, Nat.reduceLT, Nat.reduceLeDiff, Nat.reduceMul, Nat.reduceSub, r2]
  have t3 : t.get 3 = .pointer (some ⟨h.length + 1, 0, none⟩) := by rw [ht]; simp only [go_sem, ↓reduceIte, Int.reduceAdd, Int.reduceEq, Int.reduceLE, Int.reduceLT, Int.reduceMul, Int.reduceNeg, Int.reduceSub, Int.reduceToNat, Nat.reduceAdd, Nat.reduceBEq, Nat.reduceEqDiff, Nat.reduceLT, Nat.reduceLeDiff, Nat.reduceMul, Nat.reduceSub, r3]
  have t4 : t.get 4 = .pointer (some ⟨h.length + 2, 0, none⟩) := by rw [ht]; simp only [go_sem, ↓reduceIte, Int.reduceAdd, Int.reduceEq, Int.reduceLE, Int.reduceLT, Int.reduceMul, Int.reduceNeg, Int.reduceSub, Int.reduceToNat, Nat.reduceAdd, Nat.reduceBEq, Nat.reduceEqDiff, Nat.reduceLT, Nat.reduceLeDiff, Nat.reduceMul, Nat.reduceSub, r4]
  clear ht
  have y1 : ∀ j, j < H2.length → (H2 ++ [SO.cells [.slice (some ⟨cb, 0, none⟩) l.length (UNK + 2)] 76 false 0 [], .deferred, .loop 0 62 t [53, 54] rfA62_0 rfB62_0 none (H2.length + 1)])[j]? = H2[j]? := fun j hj => List.getElem?_append_left hj
  have y0 : (H2 ++ [SO.cells [.slice (some ⟨cb, 0, none⟩) l.length (UNK + 2)] 76 false 0 [], .deferred, .loop 0 62 t [53, 54] rfA62_0 rfB62_0 none (H2.length + 1)])[H2.length]? = some (.cells [.slice (some ⟨cb, 0, none⟩) l.length (UNK + 2)] 76 false 0 []) := by rw [app_get0]; rfl
  have y2 : (H2 ++ [SO.cells [.slice (some ⟨cb, 0, none⟩) l.length (UNK + 2)] 76 false 0 [], .deferred, .loop 0 62 t [53, 54] rfA62_0 rfB62_0 none (H2.length + 1)])[H2.length + 1]? = some .deferred := by rw [app_get]; rfl
  have y3 : (H2 ++ [SO.cells [.slice (some ⟨cb, 0, none⟩) l.length (UNK + 2)] 76 false 0 [], .deferred, .loop 0 62 t [53, 54] rfA62_0 rfB62_0 none (H2.length + 1)])[H2.length + 2]? = some (.loop 0 62 t [53, 54] rfA62_0 rfB62_0 none (H2.length + 1)) := by rw [app_get]; rfl
  have y4 : (H2 ++ [SO.cells [.slice (some ⟨cb, 0, none⟩) l.length (UNK + 2)] 76 false 0 [], .deferred, .loop 0 62 t [53, 54] rfA62_0 rfB62_0 none (H2.length + 1)]).length = H2.length + 3 := by simp
  have y5 : (H2 ++ [SO.cells [.slice (some ⟨cb, 0, none⟩) l.length (UNK + 2)] 76 false 0 []]).length = H2.length + 1 := by simp
  have y6 : ∀ x y : SO, (H2 ++ [SO.cells [.slice (some ⟨cb, 0, none⟩) l.length (UNK + 2)] 76 false 0 []]) ++ [x, y] = H2 ++ [SO.cells [.slice (some ⟨cb, 0, none⟩) l.length (UNK + 2)] 76 false 0 [], x, y] := by simp
  rw [y5, y6]
  dsimp only
  generalize H2 ++ [SO.cells [.slice (some ⟨cb, 0, none⟩) l.length (UNK + 2)] 76 false 0 [], .deferred, .loop 0 62 t [53, 54] rfA62_0 rfB62_0 none (H2.length + 1)] = H0 at *
  obtain ⟨r, hr, hcall⟩ := around109 (h := H0) (L := H2.length + 2) (pb := H2.length) (cb := cb) (c := UNK + 2) (l := l) (by omega) T2 (JC H0)
    (fun k hh dd g J => J.app g)
    (fun k hh dd J => ⟨by rw [load_rdO, J.same _ (by omega), y0]; rfl, hB2.2.same (by rw [J.same _ (by omega), y1 _ hcb2])⟩)
    (fun k hh dd hk J => corner_round y3 T.inr hf k (by omega) (T.corner hk) hh dd J)
    ⟨Nat.le_refl _, fun j _ => rfl, rfl⟩
  obtain ⟨hh, dd, J, hr⟩ := hr
  have hdd := J.none
  subst hdd
  have hr' : r = (.tuple #[], hh.take H0.length, []) := by
    rcases hr with ⟨_, e⟩ | ⟨e, _⟩
    · exact e
    · exact (e rfl).elim
  subst hr'
  have htk : hh.take H0.length = H0 := take_of_same J.len J.same
  rw [htk] at hcall
  refine ⟨_, H0, [], hcall, _, _, _, _, _, _, _, _, y3, rfl, .inl ⟨rfl, ?_⟩⟩
  rw [setLoop_eq y3, dirts_nil]
  have w1 : ∀ j, j < H2.length → (H0.set (H2.length + 2) (.loop 3 62 t [53, 54] rfA62_0 rfB62_0 none (H2.length + 1)))[j]? = H2[j]? := fun j hj => by rw [List.getElem?_set_ne (by omega), y1 j hj]
  have w2 : (H0.set (H2.length + 2) (.loop 3 62 t [53, 54] rfA62_0 rfB62_0 none (H2.length + 1)))[H2.length + 1]? = some .deferred := by rw [List.getElem?_set_ne (by omega), y2]
  have w3 : (H0.set (H2.length + 2) (.loop 3 62 t [53, 54] rfA62_0 rfB62_0 none (H2.length + 1))).length = H2.length + 3 := by simp [y4]
  generalize H0.set (H2.length + 2) (.loop 3 62 t [53, 54] rfA62_0 rfB62_0 none (H2.length + 1)) = H3 at *
  clear hcall htk J hr y0 y1 y2 y3 y4 y5 y6 lb2 c99
  have hB3 : Body H3 (h.length + 2) cb (UNK + 2) l 0 0 0 := ⟨by rw [w1 _ (by omega)]; exact hB2.1, hB2.2.same (w1 _ hcb2)⟩
  have lb3 := hB3.load
  have lf := hB3.2.loadN (i := 0) (by omega)
  have gd : ∀ j, (hj : j < l.length) → l[j] = cn l j := fun j hj => by unfold cn; rw [List.getD_eq_getElem?_getD, List.getElem?_eq_getElem hj]; rfl
  rw [gd, Nat.zero_mul, Nat.add_zero] at lf
  have p0 : (0 : Int) < l.length := by omega
  repeat (first | apply run_seq | apply run_block | apply end_seq | apply end_blk_hit | apply end_blk_miss rfl | apply end_blk | apply end_seq_exit | apply end_seq_ret | apply end_blk_ret | apply run_skip | apply run_ret | apply run_exit | (apply run_region (by decide); (simp only [go_sem, ↓reduceIte, Int.reduceAdd, Int.reduceEq, Int.reduceLE, Int.reduceLT, Int.reduceMul, Int.reduceNeg, Int.reduceSub, Int.reduceToNat, Nat.reduceAdd, Nat.reduceBEq, Nat.reduceEqDiff, Nat.reduceLT, Nat.reduceLeDiff, Nat.reduceMul, Nat.reduceSub, t4, lb3, lf, p0]; rfl)) | (refine run_cond_t ?_ ?_; · simp only [go_sem, ↓reduceIte, Nat.reduceEqDiff]) | (refine run_cond_f ?_ ?_; · simp only [go_sem, ↓reduceIte, Nat.reduceEqDiff]))
  have x1 : ∀ j, j < H3.length → (H3 ++ [SO.cells [.int .i64 (cn l 0).1, .int .i64 (cn l 0).2] 77 true 0 []])[j]? = H3[j]? := fun j hj => List.getElem?_append_left hj
  have x2 : (H3 ++ [SO.cells [.int .i64 (cn l 0).1, .int .i64 (cn l 0).2] 77 true 0 []])[H3.length]? = some (.cells [.int .i64 (cn l 0).1, .int .i64 (cn l 0).2] 77 true 0 []) := by rw [app_get0]; rfl
  have x3 : (H3 ++ [SO.cells [.int .i64 (cn l 0).1, .int .i64 (cn l 0).2] 77 true 0 []]).length = H3.length + 1 := by simp
  have hB4 := hB3.app [SO.cells [.int .i64 (cn l 0).1, .int .i64 (cn l 0).2] 77 true 0 []]
  generalize H3 ++ [SO.cells [.int .i64 (cn l 0).1, .int .i64 (cn l 0).2] 77 true 0 []] = H4 at *
  have lf4 : loadS H4 (some 2) (.pointer (some ⟨H3.length, 0, none⟩)) = some (.agg #[.int .i64 (cn l 0).1, .int .i64 (cn l 0).2]) := by rw [load_rdON, x2]; rfl
  refine run_loop (fan_loop _ (f0 := H3.length) hB4 T.inr (by omega) T2 lf4 (fun i h1 h2 => T.fan i h1 h2) _ [H2.length + 1] (by simp only [go_sem, ↓reduceIte, Int.reduceAdd, Int.reduceEq, Int.reduceLE, Int.reduceLT, Int.reduceMul, Int.reduceNeg, Int.reduceSub, Int.reduceToNat, Nat.reduceAdd, Nat.reduceBEq, Nat.reduceEqDiff, Nat.reduceLT, Nat.reduceLeDiff, Nat.reduceMul, Nat.reduceSub, t4]) (by simp only [go_sem, ↓reduceIte, Int.reduceAdd, Int.reduceEq, Int.reduceLE, Int.reduceLT, Int.reduceMul, Int.reduceNeg, Int.reduceSub, Int.reduceToNat, Nat.reduceAdd, Nat.reduceBEq, Nat.reduceEqDiff, Nat.reduceLT, Nat.reduceLeDiff, Nat.reduceMul, Nat.reduceSub]) (l.length - 1) _ _ _ _ ⟨1, by omega, by omega, rfl, rfl, rfl, rfl, by simp only [go_sem, ↓reduceIte, Int.reduceAdd, Int.reduceEq, Int.reduceLE, Int.reduceLT, Int.reduceMul, Int.reduceNeg, Int.reduceSub, Int.reduceToNat, Nat.reduceAdd, Nat.reduceBEq, Nat.reduceEqDiff, Nat.reduceLT, Nat.reduceLeDiff, Nat.reduceMul, Nat.reduceSub], rfl, rfl, rfl⟩) ?_
  rintro ex ρ' ms' h1 d1 ⟨rfl, r2', r3', r4', rfl, rfl, rfl⟩
  have q2 : ρ' 2 = .pointer (some ⟨h.length, 0, none⟩) := by rw [r2']; simp only [go_sem, ↓reduceIte, Int.reduceAdd, Int.reduceEq, Int.reduceLE, Int.reduceLT, Int.reduceMul, Int.reduceNeg, Int.reduceSub, Int.reduceToNat, Nat.reduceAdd, Nat.reduceBEq, Nat.reduceEqDiff, Nat.reduceLT, Nat.reduceLeDiff, Nat.reduceMul, Nat.reduceSub, t2]
  have q3 : ρ' 3 = .pointer (some ⟨h.length + 1, 0, none⟩) := by rw [r3']; simp only [go_sem, ↓reduceIte, Int.reduceAdd, Int.reduceEq, Int.reduceLE, Int.reduceLT, Int.reduceMul, Int.reduceNeg, Int.reduceSub, Int.reduceToNat, Nat.reduceAdd, Nat.reduceBEq, Nat.reduceEqDiff, Nat.reduceLT, Nat.reduceLeDiff, Nat.reduceMul, Nat.reduceSub, t3]
  have q4 : ρ' 4 = .pointer (some ⟨h.length + 2, 0, none⟩) := by rw [r4']; simp only [go_sem, ↓reduceIte, Int.reduceAdd, Int.reduceEq, Int.reduceLE, Int.reduceLT, Int.reduceMul, Int.reduceNeg, Int.reduceSub, Int.reduceToNat, Nat.reduceAdd, Nat.reduceBEq, Nat.reduceEqDiff, Nat.reduceLT, Nat.reduceLeDiff, Nat.reduceMul, Nat.reduceSub, t4]
  clear r2' r3' r4' r2 r3 r4 t2 t3 t4 lf4 lf lb3
  have lb5 := (hB4.app [SO.cells [.slice none 0 0] 40 false 0 [], .cells [.slice none 0 0] 40 false 0 []]).load
  have v1 : ∀ j, j < H2.length → h1[j]? = H2[j]? := fun j hj => by rw [x1 j (by omega), w1 j hj]
  have v2 : h1[H2.length + 1]? = some .deferred := by rw [x1 _ (by omega), w2]
  have v3 : h1.length = H2.length + 4 := by omega
  clear w1 w2 x1 x2 hB3
  have c99 := around99 cb l.length (UNK + 2) (h1 ++ [SO.cells [.slice none 0 0] 40 false 0 [], .cells [.slice none 0 0] 40 false 0 []]) (by simp; omega)
  have u5 : (h1 ++ [SO.cells [.slice none 0 0] 40 false 0 [], .cells [.slice none 0 0] 40 false 0 []]).length = h1.length + 2 := by simp
  rw [u5, List.append_assoc] at c99
  have c99' : M.call 99 [.slice (some ⟨cb, 0, none⟩) l.length (UNK + 2)] (h1 ++ [SO.cells [.slice none 0 0] 40 false 0 [], .cells [.slice none 0 0] 40 false 0 []]) = some (.func (.func 109) #[] #[.pointer (some ⟨h1.length + 2, 0, none⟩)], h1 ++ [SO.cells [.slice none 0 0] 40 false 0 [], .cells [.slice none 0 0] 40 false 0 [], .cells [.slice (some ⟨cb, 0, none⟩) l.length (UNK + 2)] 76 false 0 []], []) := c99
  repeat (first | apply run_seq | apply run_block | apply end_seq | apply end_blk_hit | apply end_blk_miss rfl | apply end_blk | apply end_seq_exit | apply end_seq_ret | apply end_blk_ret | apply run_skip | apply run_ret | apply run_exit | (apply run_region (by decide); (simp only [go_sem, ↓reduceIte, Int.reduceAdd, Int.reduceEq, Int.reduceLE, Int.reduceLT, Int.reduceMul, Int.reduceNeg, Int.reduceSub, Int.reduceToNat, Nat.reduceAdd, Nat.reduceBEq, Nat.reduceEqDiff, Nat.reduceLT, Nat.reduceLeDiff, Nat.reduceMul, Nat.reduceSub, q4, lb5, c99']; rfl)) | (refine run_cond_t ?_ ?_; · simp only [go_sem, ↓reduceIte, Nat.reduceEqDiff]) | (refine run_cond_f ?_ ?_; · simp only [go_sem, ↓reduceIte, Nat.reduceEqDiff]))
  -- the sums
  show Run M _ 8 (.rangeFunc (.tmp 108) [109, 110] rfA62_1 rfB62_1) _ _ _ _ _ _
  refine run_range (g := 109) (caps := #[.pointer (some ⟨h1.length + 2, 0, none⟩)]) rfl (by simp only [go_sem, ↓reduceIte, Int.reduceAdd, Int.reduceEq, Int.reduceLE, Int.reduceLT, Int.reduceMul, Int.reduceNeg, Int.reduceSub, Int.reduceToNat, Nat.reduceAdd, Nat.reduceBEq, Nat.reduceEqDiff, Nat.reduceLT, Nat.reduceLeDiff, Nat.reduceMul, Nat.reduceSub]) ?_
  intro t hf ht
  rw [← ht]
  have t2 : t.get 2 = .pointer (some ⟨h.length, 0, none⟩) := by rw [ht]; simp only [go_sem, ↓reduceIte, Int.reduceAdd, Int.reduceEq, Int.reduceLE, Int.reduceLT, Int.reduceMul, Int.reduceNeg, Int.reduceSub, Int.reduceToNat, Nat.reduceAdd, Nat.reduceBEq, Nat.reduceEqDiff, Nat.reduceLT, Nat.reduceLeDiff, Nat.reduceMul, Nat.reduceSub, q2]
  have t3 : t.get 3 = .pointer (some ⟨h.length + 1, 0, none⟩) := by rw [ht]; simp only [go_sem, ↓reduceIte, Int.reduceAdd, Int.reduceEq, Int.reduceLE, Int.reduceLT, Int.reduceMul, Int.reduceNeg, Int.reduceSub, Int.reduceToNat, Nat.reduceAdd, Nat.reduceBEq, Nat.reduceEqDiff, Nat.reduceLT, Nat.reduceLeDiff, Nat.reduceMul, Nat.reduceSub, q3]
  have t4 : t.get 4 = .pointer (some ⟨h.length + 2, 0, none⟩) := by rw [ht]; simp only [go_sem, ↓reduceIte, Int.reduceAdd, Int.reduceEq, Int.reduceLE, Int.reduceLT, Int.reduceMul, Int.reduceNeg, Int.reduceSub, Int.reduceToNat, Nat.reduceAdd, Nat.reduceBEq, Nat.reduceEqDiff, Nat.reduceLT, Nat.reduceLeDiff, Nat.reduceMul, Nat.reduceSub, q4]
  have t11 : t.get 11 = .pointer (some ⟨h1.length, 0, none⟩) := by rw [ht]; simp only [go_sem, ↓reduceIte, Int.reduceAdd, Int.reduceEq, Int.reduceLE, Int.reduceLT, Int.reduceMul, Int.reduceNeg, Int.reduceSub, Int.reduceToNat, Nat.reduceAdd, Nat.reduceBEq, Nat.reduceEqDiff, Nat.reduceLT, Nat.reduceLeDiff, Nat.reduceMul, Nat.reduceSub]
  have t12 : t.get 12 = .pointer (some ⟨h1.length + 1, 0, none⟩) := by rw [ht]; simp only [go_sem, ↓reduceIte, Int.reduceAdd, Int.reduceEq, Int.reduceLE, Int.reduceLT, Int.reduceMul, Int.reduceNeg, Int.reduceSub, Int.reduceToNat, Nat.reduceAdd, Nat.reduceBEq, Nat.reduceEqDiff, Nat.reduceLT, Nat.reduceLeDiff, Nat.reduceMul, Nat.reduceSub]
  clear ht
  have y1 : ∀ j, j < h1.length → (h1 ++ [SO.cells [.slice none 0 0] 40 false 0 [], .cells [.slice none 0 0] 40 false 0 [], .cells [.slice (some ⟨cb, 0, none⟩) l.length (UNK + 2)] 76 false 0 [], .deferred, .loop 0 62 t [109, 110] rfA62_1 rfB62_1 none (h1.length + 3)])[j]? = h1[j]? := fun j hj => List.getElem?_append_left hj
  have yx : (h1 ++ [SO.cells [.slice none 0 0] 40 false 0 [], .cells [.slice none 0 0] 40 false 0 [], .cells [.slice (some ⟨cb, 0, none⟩) l.length (UNK + 2)] 76 false 0 [], .deferred, .loop 0 62 t [109, 110] rfA62_1 rfB62_1 none (h1.length + 3)])[h1.length]? = some (.cells [.slice none 0 0] 40 false 0 []) := by rw [app_get0]; rfl
  have yy : (h1 ++ [SO.cells [.slice none 0 0] 40 false 0 [], .cells [.slice none 0 0] 40 false 0 [], .cells [.slice (some ⟨cb, 0, none⟩) l.length (UNK + 2)] 76 false 0 [], .deferred, .loop 0 62 t [109, 110] rfA62_1 rfB62_1 none (h1.length + 3)])[h1.length + 1]? = some (.cells [.slice none 0 0] 40 false 0 []) := by rw [app_get]; rfl
  have y0 : (h1 ++ [SO.cells [.slice none 0 0] 40 false 0 [], .cells [.slice none 0 0] 40 false 0 [], .cells [.slice (some ⟨cb, 0, none⟩) l.length (UNK + 2)] 76 false 0 [], .deferred, .loop 0 62 t [109, 110] rfA62_1 rfB62_1 none (h1.length + 3)])[h1.length + 2]? = some (.cells [.slice (some ⟨cb, 0, none⟩) l.length (UNK + 2)] 76 false 0 []) := by rw [app_get]; rfl
  have y2 : (h1 ++ [SO.cells [.slice none 0 0] 40 false 0 [], .cells [.slice none 0 0] 40 false 0 [], .cells [.slice (some ⟨cb, 0, none⟩) l.length (UNK + 2)] 76 false 0 [], .deferred, .loop 0 62 t [109, 110] rfA62_1 rfB62_1 none (h1.length + 3)])[h1.length + 3]? = some .deferred := by rw [app_get]; rfl
  have y3 : (h1 ++ [SO.cells [.slice none 0 0] 40 false 0 [], .cells [.slice none 0 0] 40 false 0 [], .cells [.slice (some ⟨cb, 0, none⟩) l.length (UNK + 2)] 76 false 0 [], .deferred, .loop 0 62 t [109, 110] rfA62_1 rfB62_1 none (h1.length + 3)])[h1.length + 4]? = some (.loop 0 62 t [109, 110] rfA62_1 rfB62_1 none (h1.length + 3)) := by rw [app_get]; rfl
  have y4 : (h1 ++ [SO.cells [.slice none 0 0] 40 false 0 [], .cells [.slice none 0 0] 40 false 0 [], .cells [.slice (some ⟨cb, 0, none⟩) l.length (UNK + 2)] 76 false 0 [], .deferred, .loop 0 62 t [109, 110] rfA62_1 rfB62_1 none (h1.length + 3)]).length = h1.length + 5 := by simp
  have y5 : (h1 ++ [SO.cells [.slice none 0 0] 40 false 0 [], .cells [.slice none 0 0] 40 false 0 [], .cells [.slice (some ⟨cb, 0, none⟩) l.length (UNK + 2)] 76 false 0 []]).length = h1.length + 3 := by simp
  have y6 : ∀ x y : SO, (h1 ++ [SO.cells [.slice none 0 0] 40 false 0 [], .cells [.slice none 0 0] 40 false 0 [], .cells [.slice (some ⟨cb, 0, none⟩) l.length (UNK + 2)] 76 false 0 []]) ++ [x, y] = h1 ++ [SO.cells [.slice none 0 0] 40 false 0 [], .cells [.slice none 0 0] 40 false 0 [], .cells [.slice (some ⟨cb, 0, none⟩) l.length (UNK + 2)] 76 false 0 [], x, y] := by simp
  rw [y5, y6]
  dsimp only
  generalize (h1 ++ [SO.cells [.slice none 0 0] 40 false 0 [], .cells [.slice none 0 0] 40 false 0 [], .cells [.slice (some ⟨cb, 0, none⟩) l.length (UNK + 2)] 76 false 0 [], .deferred, .loop 0 62 t [109, 110] rfA62_1 rfB62_1 none (h1.length + 3)]) = HA at *
  obtain ⟨r, hr, hcall⟩ := around109 (h := HA) (L := h1.length + 4) (pb := h1.length + 2) (cb := cb) (c := UNK + 2) (l := l) (by omega) T2 (JM62 HA h1.length (h1.length + 4) 62 (h1.length + 3) t l)
    (fun k hh dd g J => J.app (by omega) (by omega) g)
    (fun k hh dd J => ⟨by rw [load_rdO, J.same _ (by omega) (by omega) (by omega) (by omega), y0]; rfl, hB4.2.same (by rw [J.same _ (by omega) (by omega) (by omega) (by omega), y1 _ (by omega)])⟩)
    (fun k hh dd hk J => middle_round (by omega) (by omega) T.inr hf t11 t12 k (by omega) hh dd J)
    ⟨Nat.le_refl _, fun j _ _ _ _ => rfl, y3, ⟨.slice none 0 0, .slice none 0 0, yx, yy, .inl ⟨rfl, rfl, rfl⟩, .inl ⟨rfl, rfl, rfl⟩, fun b b' e e' => by simp at e⟩, fun x hx => by simp at hx, fun h => (h rfl).elim⟩
  obtain ⟨hh, dd, J, ⟨rfl, _⟩ | ⟨hdd, rfl⟩⟩ := hr
  · exact (J.some (by omega) rfl).elim
  refine ⟨_, hh, dd, hcall, _, _, _, _, _, _, _, _, J.loop, rfl, .inl ⟨rfl, ?_⟩⟩
  rw [setLoop_eq J.loop]
  have jl := J.len
  obtain ⟨v, w, jx, jy, ax, ay, _⟩ := J.acc
  have hd : dirts h.length dd [] = [] := dirts_own (fun x hx => by rcases J.all x hx with e | e <;> omega) []
  have k0 : ∀ j, j < h1.length → (hh.set (h1.length + 4) (.loop 3 62 t [109, 110] rfA62_1 rfB62_1 none (h1.length + 3)))[j]? = h1[j]? := fun j hj => by rw [List.getElem?_set_ne (by omega), J.same j (by omega) (by omega) (by omega) (by omega), y1 j hj]
  have k2 : (hh.set (h1.length + 4) (.loop 3 62 t [109, 110] rfA62_1 rfB62_1 none (h1.length + 3)))[h1.length + 3]? = some .deferred := by rw [List.getElem?_set_ne (by omega), J.same _ (by omega) (by omega) (by omega) (by omega), y2]
  have kx : (hh.set (h1.length + 4) (.loop 3 62 t [109, 110] rfA62_1 rfB62_1 none (h1.length + 3)))[h1.length]? = some (.cells [v] 40 false 0 []) := by rw [List.getElem?_set_ne (by omega)]; exact jx
  have ky : (hh.set (h1.length + 4) (.loop 3 62 t [109, 110] rfA62_1 rfB62_1 none (h1.length + 3)))[h1.length + 1]? = some (.cells [w] 40 false 0 []) := by rw [List.getElem?_set_ne (by omega)]; exact jy
  have kax : Acc HA.length (hh.set (h1.length + 4) (.loop 3 62 t [109, 110] rfA62_1 rfB62_1 none (h1.length + 3))) v (vals (fX l) l.length) l.length 1 3 := ax.keep (fun b e => by have := ax.lt e; rw [List.getElem?_set_ne (by omega)])
  have kay : Acc HA.length (hh.set (h1.length + 4) (.loop 3 62 t [109, 110] rfA62_1 rfB62_1 none (h1.length + 3))) w (vals (fY l) l.length) l.length 1 3 := ay.keep (fun b e => by have := ay.lt e; rw [List.getElem?_set_ne (by omega)])
  have kl : h1.length + 5 ≤ (hh.set (h1.length + 4) (.loop 3 62 t [109, 110] rfA62_1 rfB62_1 none (h1.length + 3))).length := by simp; omega
  have hw1 := acc_vsame kay
  generalize (hh.set (h1.length + 4) (.loop 3 62 t [109, 110] rfA62_1 rfB62_1 none (h1.length + 3))) = K at *
  rw [hd]
  clear hcall y0 y1 y2 y3 y4 y5 y6 yx yy c99 c99' lb5 J ax ay jx jy
  have lx : loadS K none (.pointer (some ⟨h1.length, 0, none⟩)) = some v := by rw [load_rdO, kx]; rfl
  have ly : loadS K none (.pointer (some ⟨h1.length + 1, 0, none⟩)) = some w := by rw [load_rdO, ky]; rfl
  have sx := sum100 (Acc.is kax (by simp)) (by simp; omega) (by
    intro x hx
    simp at hx
    obtain ⟨k, _, rfl⟩ := hx
    exact Nat.le_trans (fX_bound T.inr k) (by decide))
  have sy := sum100 (Acc.is kay (by simp)) (by simp; omega) (by
    intro x hx
    simp at hx
    obtain ⟨k, _, rfl⟩ := hx
    exact Nat.le_trans (fY_bound T.inr k) (by decide))
  have sx' : M.call 100 [v] K = some (.int .i64 (midX l), K, []) := sx
  have sy' : M.call 100 [w] K = some (.int .i64 (midY l), K, []) := sy
  have hBK : Body K (h.length + 2) cb (UNK + 2) l 0 0 0 := ⟨by rw [k0 _ (by omega)]; exact hB4.1, hB4.2.same (k0 _ (by omega))⟩
  have sa := area63 hBK T.inr (by omega) T2
  have ba := area_bound T
  have wa : IntKind.i64.wrap (3 * areaZ l) = 3 * areaZ l := wrap_abs (by omega)
  have hb0 := hBK.1
  have hle2 : Nat.ble h.length (h.length + 2) = true := by rw [ble_dec]; simp
  have hdir : ∀ d, dirty h.length (h.length + 2) false d = d := fun d => by simp [dirty, hle2]
  have hset : ∀ x : SO, (K.set (h.length + 2) x)[h.length + 2]? = some x := fun x => List.getElem?_set_self (by omega)
  repeat (first | apply run_seq | apply run_block | apply end_seq | apply end_blk_hit | apply end_blk_miss rfl | apply end_blk | apply end_seq_exit | apply end_seq_ret | apply end_blk_ret | apply run_skip | apply run_ret | apply run_exit | (apply run_region (by decide); (simp only [go_sem, ↓reduceIte, Int.reduceAdd, Int.reduceEq, Int.reduceLE, Int.reduceLT, Int.reduceMul, Int.reduceNeg, Int.reduceSub, Int.reduceToNat, Nat.reduceAdd, Nat.reduceBEq, Nat.reduceEqDiff, Nat.reduceLT, Nat.reduceLeDiff, Nat.reduceMul, Nat.reduceSub, t4, t11, t12, lx, ly, hw1, sx', sy', sa, wa, hb0, hdir, hset, List.set_set]; rfl)) | (refine run_cond_t ?_ ?_; · simp only [go_sem, ↓reduceIte, Nat.reduceEqDiff]) | (refine run_cond_f ?_ ?_; · simp only [go_sem, ↓reduceIte, Nat.reduceEqDiff]))
  have hcK : K[cb]? = some (.cells (prs l) 77 true 0 old) := by rw [k0 _ (by omega), v1 _ (by omega)]; exact hcb
  have n0 : ∀ j, j ≠ h.length + 2 → (K.set (h.length + 2) (.cells [.slice (some ⟨cb, 0, none⟩) l.length (UNK + 2), .int .i64 (midX l), .int .i64 (midY l), .int .i64 (3 * areaZ l)] 79 false 0 []))[j]? = K[j]? := fun j hj => by rw [List.getElem?_set_ne (by omega)]
  have n1 : (K.set (h.length + 2) (.cells [.slice (some ⟨cb, 0, none⟩) l.length (UNK + 2), .int .i64 (midX l), .int .i64 (midY l), .int .i64 (3 * areaZ l)] 79 false 0 []))[h.length + 2]? = some (.cells [.slice (some ⟨cb, 0, none⟩) l.length (UNK + 2), .int .i64 (midX l), .int .i64 (midY l), .int .i64 (3 * areaZ l)] 79 false 0 []) := List.getElem?_set_self (by omega)
  have n2 : (K.set (h.length + 2) (.cells [.slice (some ⟨cb, 0, none⟩) l.length (UNK + 2), .int .i64 (midX l), .int .i64 (midY l), .int .i64 (3 * areaZ l)] 79 false 0 [])).length = K.length := by simp
  generalize (K.set (h.length + 2) (.cells [.slice (some ⟨cb, 0, none⟩) l.length (UNK + 2), .int .i64 (midX l), .int .i64 (midY l), .int .i64 (3 * areaZ l)] 79 false 0 [])) = K1 at *
  have m1 : ∀ e, (K1 ++ e)[h.length + 2]? = some (.cells [.slice (some ⟨cb, 0, none⟩) l.length (UNK + 2), .int .i64 (midX l), .int .i64 (midY l), .int .i64 (3 * areaZ l)] 79 false 0 []) := fun e => by rw [List.getElem?_append_left (by omega), n1]
  have m2 : ∀ e, loadS (K1 ++ e) none (.pointer (some ⟨h.length + 2, 1, none⟩)) = some (.int .i64 (midX l)) := fun e => by rw [load_rdO, m1]; rfl
  have m3 : ∀ e, loadS (K1 ++ e) none (.pointer (some ⟨h.length + 2, 2, none⟩)) = some (.int .i64 (midY l)) := fun e => by rw [load_rdO, m1]; rfl
  have m4 : ∀ e, loadS (K1 ++ e) none (.pointer (some ⟨h.length + 2, 3, none⟩)) = some (.int .i64 (3 * areaZ l)) := fun e => by rw [load_rdO, m1]; rfl
  have bx := midX_bound T
  have bY := midY_bound T
  have cd : M.call 101 [.slice (some ⟨K1.length, 0, none⟩) 3 3] (K1 ++ [SO.cells [.int .i64 (midX l), .int .i64 (midY l), .int .i64 (3 * areaZ l)] 3 true 0 []]) = some (.int .i64 (midG l), K1 ++ [SO.cells [.int .i64 (midX l), .int .i64 (midY l), .int .i64 (3 * areaZ l)] 3 true 0 []], []) :=
    divi K1.length 3 [midX l, midY l, 3 * areaZ l] _ ⟨3, true, 0, [], by rw [app_get0]; rfl, rfl⟩ (by simp) (by
      intro x hx
      simp at hx
      rcases hx with rfl | rfl | rfl <;> omega)
  apply run_regionN (by decide)
  · simp only [go_sem, ↓reduceIte, Int.reduceAdd, Int.reduceEq, Int.reduceLE, Int.reduceLT, Int.reduceMul, Int.reduceNeg, Int.reduceSub, Int.reduceToNat, Nat.reduceAdd, Nat.reduceBEq, Nat.reduceEqDiff, Nat.reduceLT, Nat.reduceLeDiff, Nat.reduceMul, Nat.reduceSub, t4, m2, m3, m4, cd, rep1, new_some]
    rfl
  have n3 : ∀ j, j < K1.length → (K1 ++ [SO.cells [.int .i64 (midX l), .int .i64 (midY l), .int .i64 (3 * areaZ l)] 3 true 0 []])[j]? = K1[j]? := fun j hj => List.getElem?_append_left hj
  have n4 : (K1 ++ [SO.cells [.int .i64 (midX l), .int .i64 (midY l), .int .i64 (3 * areaZ l)] 3 true 0 []]).length = K1.length + 1 := by simp
  generalize K1 ++ [SO.cells [.int .i64 (midX l), .int .i64 (midY l), .int .i64 (3 * areaZ l)] 3 true 0 []] = K2 at *
  clear m1 m2 m3 m4
  have m1 : K2[h.length + 2]? = some (.cells [.slice (some ⟨cb, 0, none⟩) l.length (UNK + 2), .int .i64 (midX l), .int .i64 (midY l), .int .i64 (3 * areaZ l)] 79 false 0 []) := by rw [n3 _ (by omega), n1]
  have m2 : loadS K2 none (.pointer (some ⟨h.length + 2, 1, none⟩)) = some (.int .i64 (midX l)) := by rw [load_rdO, m1]; rfl
  have m3 : loadS K2 none (.pointer (some ⟨h.length + 2, 2, none⟩)) = some (.int .i64 (midY l)) := by rw [load_rdO, m1]; rfl
  have m4 : loadS K2 none (.pointer (some ⟨h.length + 2, 3, none⟩)) = some (.int .i64 (3 * areaZ l)) := by rw [load_rdO, m1]; rfl
  have hgp := midG_pos T
  have hg0 : ¬ ((midG l : Int) = 0) := by omega
  have wx : IntKind.i64.wrap ((midX l).tdiv (midG l)) = mX l := wrap_abs (tdiv_le _ _ _ (by omega))
  have wy : IntKind.i64.wrap ((midY l).tdiv (midG l)) = mY l := wrap_abs (tdiv_le _ _ _ (by omega))
  have wd : IntKind.i64.wrap ((3 * areaZ l).tdiv (midG l)) = mD l := wrap_abs (tdiv_le _ _ _ (by omega))
  have hset2 : ∀ x : SO, (K2.set (h.length + 2) x)[h.length + 2]? = some x := fun x => List.getElem?_set_self (by omega)
  apply end_seq
  apply run_seq
  apply run_region (by decide)
  · simp only [go_sem, ↓reduceIte, Int.reduceAdd, Int.reduceEq, Int.reduceLE, Int.reduceLT, Int.reduceMul, Int.reduceNeg, Int.reduceSub, Int.reduceToNat, Nat.reduceAdd, Nat.reduceBEq, Nat.reduceEqDiff, Nat.reduceLT, Nat.reduceLeDiff, Nat.reduceMul, Nat.reduceSub, t4, m1, m2, m3, m4, hg0, wx, wy, wd, hdir, hset2, List.set_set]
    rfl
  have o0 : ∀ j, j < K.length → j ≠ h.length + 2 → (K2.set (h.length + 2) (.cells [.slice (some ⟨cb, 0, none⟩) l.length (UNK + 2), .int .i64 (mX l), .int .i64 (mY l), .int .i64 (mD l)] 79 false 0 []))[j]? = K[j]? := fun j hj hne => by rw [List.getElem?_set_ne (by omega), n3 j (by omega), n0 j hne]
  have o1 : (K2.set (h.length + 2) (.cells [.slice (some ⟨cb, 0, none⟩) l.length (UNK + 2), .int .i64 (mX l), .int .i64 (mY l), .int .i64 (mD l)] 79 false 0 []))[h.length + 2]? = some (.cells [.slice (some ⟨cb, 0, none⟩) l.length (UNK + 2), .int .i64 (mX l), .int .i64 (mY l), .int .i64 (mD l)] 79 false 0 []) := List.getElem?_set_self (by omega)
  have o2 : (K2.set (h.length + 2) (.cells [.slice (some ⟨cb, 0, none⟩) l.length (UNK + 2), .int .i64 (mX l), .int .i64 (mY l), .int .i64 (mD l)] 79 false 0 [])).length = K.length + 1 := by simp; omega
  generalize (K2.set (h.length + 2) (.cells [.slice (some ⟨cb, 0, none⟩) l.length (UNK + 2), .int .i64 (mX l), .int .i64 (mY l), .int .i64 (mD l)] 79 false 0 [])) = K3 at *
  have w0 : K3[h.length]? = some (.cells [.pointer none] 72 false 0 []) := by rw [o0 _ (by omega) (by omega), k0 _ (by omega), v1 _ (by omega), s0]
  have w1 : ∀ x : SO, (K3.set h.length x)[h.length + 1]? = some (.cells [.int .i64 0] 24 true 0 []) := fun x => by rw [List.getElem?_set_ne (by omega), o0 _ (by omega) (by omega), k0 _ (by omega), v1 _ (by omega), s1]
  have hleB : Nat.ble h.length h.length = true := by rw [ble_dec]; simp
  have hdirB : ∀ d, dirty h.length h.length false d = d := fun d => by simp [dirty, hleB]
  repeat (first | apply run_seq | apply run_block | apply end_seq | apply end_blk_hit | apply end_blk_miss rfl | apply end_blk | apply end_seq_exit | apply end_seq_ret | apply end_blk_ret | apply run_skip | apply run_ret | apply run_exit | (apply run_region (by decide); (simp only [go_sem, ↓reduceIte, Int.reduceAdd, Int.reduceEq, Int.reduceLE, Int.reduceLT, Int.reduceMul, Int.reduceNeg, Int.reduceSub, Int.reduceToNat, Nat.reduceAdd, Nat.reduceBEq, Nat.reduceEqDiff, Nat.reduceLT, Nat.reduceLeDiff, Nat.reduceMul, Nat.reduceSub, t2, t3, t4, w0, w1, hdirB]; rfl)) | (refine run_cond_t ?_ ?_; · simp only [go_sem, ↓reduceIte, Nat.reduceEqDiff]) | (refine run_cond_f ?_ ?_; · simp only [go_sem, ↓reduceIte, Nat.reduceEqDiff]))
  have z0 : ∀ j, j ≠ h.length → j ≠ h.length + 1 → ((K3.set h.length (.cells [.pointer (some ⟨h.length + 2, 0, none⟩)] 72 false 0 [])).set (h.length + 1) (.cells [.int .i64 0] 24 true 0 []))[j]? = K3[j]? := fun j h1 h2 => by rw [List.getElem?_set_ne (by omega), List.getElem?_set_ne (by omega)]
  have z1 : ((K3.set h.length (.cells [.pointer (some ⟨h.length + 2, 0, none⟩)] 72 false 0 [])).set (h.length + 1) (.cells [.int .i64 0] 24 true 0 []))[h.length]? = some (.cells [.pointer (some ⟨h.length + 2, 0, none⟩)] 72 false 0 []) := by rw [List.getElem?_set_ne (by omega), List.getElem?_set_self (by omega)]
  have z2 : ((K3.set h.length (.cells [.pointer (some ⟨h.length + 2, 0, none⟩)] 72 false 0 [])).set (h.length + 1) (.cells [.int .i64 0] 24 true 0 []))[h.length + 1]? = some (.cells [.int .i64 0] 24 true 0 []) := List.getElem?_set_self (by simp; omega)
  have z3 : ((K3.set h.length (.cells [.pointer (some ⟨h.length + 2, 0, none⟩)] 72 false 0 [])).set (h.length + 1) (.cells [.int .i64 0] 24 true 0 [])).length = K3.length := by simp
  generalize ((K3.set h.length (.cells [.pointer (some ⟨h.length + 2, 0, none⟩)] 72 false 0 [])).set (h.length + 1) (.cells [.int .i64 0] 24 true 0 [])) = K4 at *
  have d1 : K4[h1.length + 3]? = some .deferred := by rw [z0 _ (by omega) (by omega), o0 _ (by omega) (by omega), k2]
  have d2 : K4[H2.length + 1]? = some .deferred := by rw [z0 _ (by omega) (by omega), o0 _ (by omega) (by omega), k0 _ (by omega), v2]
  have g0 : ∀ j, j ≠ h1.length + 3 → j ≠ H2.length + 1 → ((K4.set (h1.length + 3) SO.gone).set (H2.length + 1) SO.gone)[j]? = K4[j]? := fun j h1 h2 => by rw [List.getElem?_set_ne (by omega), List.getElem?_set_ne (by omega)]
  have gl : ((K4.set (h1.length + 3) SO.gone).set (H2.length + 1) SO.gone).length = K4.length := by simp
  have hsh : shut K4 [h1.length + 3, H2.length + 1] = some ((K4.set (h1.length + 3) SO.gone).set (H2.length + 1) SO.gone) := by
    have : (K4.set (h1.length + 3) SO.gone)[H2.length + 1]? = some .deferred := by rw [List.getElem?_set_ne (by omega), d2]
    simp [shut, d1, this]
  refine end_nil ⟨rfl, _, hsh, ?_⟩
  generalize (K4.set (h1.length + 3) SO.gone).set (H2.length + 1) SO.gone = K5 at *
  have l1 : loadS K5 none (.pointer (some ⟨h.length, 0, none⟩)) = some (.pointer (some ⟨h.length + 2, 0, none⟩)) := by rw [load_rdO, g0 _ (by omega) (by omega), z1]; rfl
  have l2 : loadS K5 none (.pointer (some ⟨h.length + 1, 0, none⟩)) = some (.int .i64 0) := by rw [load_rdO, g0 _ (by omega) (by omega), z2]; rfl
  have f1 : K5[h.length + 2]? = some (.cells [.slice (some ⟨cb, 0, none⟩) l.length (UNK + 2), .int .i64 (mX l), .int .i64 (mY l), .int .i64 (mD l)] 79 false 0 []) := by rw [g0 _ (by omega) (by omega), z0 _ (by omega) (by omega), o1]
  have f2 : K5[cb]? = some (.cells (prs l) 77 true 0 old) := by rw [g0 _ (by omega) (by omega), z0 _ (by omega) (by omega), o0 _ (by omega) (by omega), hcK]
  have f3 : K5.take h.length = h := take_of_same (by omega) (fun j hj => by rw [g0 _ (by omega) (by omega), z0 _ (by omega) (by omega), o0 _ (by omega) (by omega), k0 _ (by omega), v1 _ (by omega), s2 _ hj])
  have hg := gc_body f1 f2 (base := h.length) (by omega) (by omega) (by omega) (fun c hc => by have := hold c hc; omega)
  rw [f3] at hg
  show opn _ fun a => ∃ v, loadS K5 none a = some v ∧ opn v fun v => opn _ fun b => ∃ w, loadS K5 none b = some w ∧ opn w fun w => endW h.length K5 [] _ [v, w]
  simp only [go_sem, ↓reduceIte, Int.reduceAdd, Int.reduceEq, Int.reduceLE, Int.reduceLT, Int.reduceMul, Int.reduceNeg, Int.reduceSub, Int.reduceToNat, Nat.reduceAdd, Nat.reduceBEq, Nat.reduceEqDiff, Nat.reduceLT, Nat.reduceLeDiff, Nat.reduceMul, Nat.reduceSub, t2, t3]
  exact ⟨_, l1, _, l2, _, _, hg, rfl⟩
end Go.Proofs.Ytecncmmkghmojaa.Sh

