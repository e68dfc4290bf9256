/- Arguments of the laws: basins that lie in the world. -/
import Derived.Test.YtioijehbmgmgkaaH46
import Derived.Test.YtioijehbmgmgkaaH45
import Derived.WideShapes
import Derived.ChangeArms
set_option linter.all false
namespace Go.Proofs.Ytioijehbmgmgkaa.Sh
open Go Go.RowKit Go.WideShapes Go.ChangeShapes
set_option maxRecDepth 100000
section
variable {H : Type} {enc : TypeId × Value → H} {P : Program} {w : World} {base : Nat} {spare : Nat → Bool} {held : Bool}
open DataW in
theorem open_tr {e e2 : TypeId} {fuel : Nat} {cs : List Value} {x : DataW H × List MemPlace} (he : P.underlying e = some (.array 3 e2)) (hi : P.underlying e2 = some (.int .i64)) (hc : P.cellsOf e = 3) (hc2 : P.cellsOf e2 = 1)
    (h : DataW.trod enc P w base spare held fuel e cs = some x) : ∃ t : T3, cs = cel3 t := by
  obtain ⟨xs, m, rfl, _, hl, hx, hj⟩ := DataW.trod_array he h
  rw [hc] at hl
  rw [hc2] at hj
  match cs, hl with
  | [c0, c1, c2], _ =>
    have j0 := hj 0 (by omega)
    have j1 := hj 1 (by omega)
    have j2 := hj 2 (by omega)
    simp only [Nat.zero_mul, Nat.one_mul, Nat.mul_one, List.drop_zero, List.drop_succ_cons, List.take_succ_cons, List.take_zero] at j0 j1 j2
    obtain ⟨y0, hy0⟩ : ∃ y, xs[0]? = some y := ⟨_, List.getElem?_eq_getElem (by omega)⟩
    obtain ⟨y1, hy1⟩ : ∃ y, xs[1]? = some y := ⟨_, List.getElem?_eq_getElem (by omega)⟩
    obtain ⟨y2, hy2⟩ : ∃ y, xs[2]? = some y := ⟨_, List.getElem?_eq_getElem (by omega)⟩
    rw [hy0] at j0
    rw [hy1] at j1
    rw [hy2] at j2
    obtain ⟨n0, e0, _, w0⟩ := DataW.trod_int hi j0
    obtain ⟨n1, e1, _, w1⟩ := DataW.trod_int hi j1
    obtain ⟨n2, e2, _, w2⟩ := DataW.trod_int hi j2
    simp at e0 e1 e2
    exact ⟨(n0, n1, n2), by rw [e0, e1, e2]; rfl⟩
theorem open_trs {t e e2 : TypeId} {fuel : Nat} {a : Addr} {len cap : Nat} {x : DataW H × List MemPlace} (ht : P.underlying t = some (.slice e)) (he : P.underlying e = some (.array 3 e2)) (hi : P.underlying e2 = some (.int .i64)) (hc : P.cellsOf e = 3) (hc2 : P.cellsOf e2 = 1)
    (hs : a.spot = none) (h : DataW.trod enc P w base spare held fuel t [.slice (some a) len cap] = some x) :
    ∃ l : List T3, l.length = len ∧ len ≤ cap ∧ cap ≤ maxLen ∧ ∀ (i : Nat) (p : T3), l[i]? = some p → w.cell? ⟨a.block, a.off + i * 3, none⟩ = some (.int .i64 p.1) ∧ w.cell? ⟨a.block, a.off + i * 3 + 1, none⟩ = some (.int .i64 p.2.1) ∧ w.cell? ⟨a.block, a.off + i * 3 + 2, none⟩ = some (.int .i64 p.2.2) := by
  rcases DataW.trod_slice ht h with ⟨h1, _⟩ | ⟨a', len', cap', elems, rest, n, rfl, h1, _, hb, hl, hm, hlen, hel, _⟩
  · simp at h1
  · simp only [List.cons.injEq, Value.slice.injEq, Option.some.injEq, and_true] at h1
    obtain ⟨rfl, rfl, rfl⟩ := h1
    have each : ∀ i, i < len → ∃ p : T3, w.cell? ⟨a.block, a.off + i * 3, none⟩ = some (.int .i64 p.1) ∧ w.cell? ⟨a.block, a.off + i * 3 + 1, none⟩ = some (.int .i64 p.2.1) ∧ w.cell? ⟨a.block, a.off + i * 3 + 2, none⟩ = some (.int .i64 p.2.2) := by
      intro i hi'
      have h2 := hel i hi'
      obtain ⟨y, hy⟩ : ∃ y, elems[i]? = some y := ⟨_, List.getElem?_eq_getElem (by omega)⟩
      rw [hy, Option.bind_eq_some_iff] at h2
      obtain ⟨cs, h3, h4⟩ := h2
      obtain ⟨p, rfl⟩ := open_tr he hi hc hc2 h4
      rw [hc] at h3
      unfold World.cells? at h3
      split at h3
      · have k0 := mapM_some_get h3 0 0 (by simp)
        have k1 := mapM_some_get h3 1 1 (by simp)
        have k2 := mapM_some_get h3 2 2 (by simp)
        have hs2 : (a.add (i * 3)).spot = none := by rw [add_at hs]
        rw [add_at hs2, add_at hs] at k0 k1 k2
        simp only [Nat.add_zero] at k0 k1 k2
        exact ⟨p, by simpa [cel3] using k0, by simpa [cel3] using k1, by simpa [cel3] using k2⟩
      · cases h3
    refine ⟨(List.range len).pmap (fun i hi => Classical.choose (each i hi)) (fun i hi => List.mem_range.1 hi), by simp, hl, hm, ?_⟩
    intro i p hp
    rw [List.getElem?_eq_some_iff] at hp
    obtain ⟨hil, rfl⟩ := hp
    simp at hil
    simp only [List.getElem_pmap, List.getElem_range]
    exact Classical.choose_spec (each i hil)
end
theorem trs_cells : ∀ (l : List T3) (f : Nat → Option Value), (∀ (i : Nat) (p : T3), l[i]? = some p → f (i * 3) = some (.int .i64 p.1) ∧ f (i * 3 + 1) = some (.int .i64 p.2.1) ∧ f (i * 3 + 2) = some (.int .i64 p.2.2)) →
    ∀ (i : Nat) (x : Value), (trs l)[i]? = some x → f i = some x
  | [], f, h, i, x, hx => by simp [trs] at hx
  | p :: l, f, h, i, x, hx => by
    match i with
    | 0 => simp [trs, cel3] at hx; subst hx; exact (h 0 p rfl).1
    | 1 => simp [trs, cel3] at hx; subst hx; exact (h 0 p rfl).2.1
    | 2 => simp [trs, cel3] at hx; subst hx; exact (h 0 p rfl).2.2
    | i + 3 =>
      simp [trs, cel3] at hx
      refine trs_cells l (fun i => f (i + 3)) ?_ i x hx
      intro j q hq
      have := h (j + 1) q (by simpa using hq)
      rw [show (j + 1) * 3 = j * 3 + 3 from by omega] at this
      exact ⟨this.1, by rw [← this.2.1], by rw [← this.2.2]⟩
def IsTrsW (W : World) (a : Option Addr) (len cap : Nat) (l : List T3) : Prop :=
  (a = none ∧ len = 0 ∧ cap = 0 ∧ l = []) ∨ ∃ x : Addr, a = some x ∧ x.spot = none ∧ l.length = len ∧ len ≤ cap ∧ cap ≤ maxLen ∧
    (∃ rcs rel fr, W.heap[x.block]? = some (.cells rcs rel fr) ∧ ∀ (i : Nat) (v : Value), (trs l)[i]? = some v → rcs[x.off + i]? = some v)
theorem isTrs_of {H : Type} {enc : TypeId × Value → H} {P : Program} {W : World} {base b0 : Nat} {spare : Nat → Bool} {held : Bool} {t e e2 : TypeId} {a : Option Addr} {len cap : Nat} {d : DataW H} {ps : List MemPlace}
    (ht : P.underlying t = some (.slice e)) (he : P.underlying e = some (.array 3 e2)) (hi : P.underlying e2 = some (.int .i64)) (hc : P.cellsOf e = 3) (hc2 : P.cellsOf e2 = 1)
    (hval : Value.okWide P W .any b0 t (.slice a len cap)) (h : DataW.Trod enc P W base spare held t (.slice a len cap) d ps) : ∃ l, IsTrsW W a len cap l := by
  obtain ⟨fuel, hf⟩ := h
  have hf' : DataW.trod enc P W base spare held fuel t [.slice a len cap] = some (d, ps) := hf
  cases a with
  | none =>
    rcases DataW.trod_slice ht hf' with ⟨h1, _⟩ | ⟨a', len', cap', elems, rest, n, rfl, h1, _⟩
    · simp at h1
      exact ⟨[], .inl ⟨rfl, h1.1, h1.2, rfl⟩⟩
    · simp at h1
  | some x =>
    have hk : x.spot = none ∧ ∃ row cells, W.shape? x.block = some (row, cells) := by
      simp only [Value.okWide, ht, Cell.okWide, Cell.ok, World.has] at hval
      obtain ⟨_, _, _, h2, row, cells, h3, _⟩ := hval
      exact ⟨h2, row, cells, h3⟩
    obtain ⟨hs, row, cells, hsh⟩ := hk
    obtain ⟨l, h1, h2, h3, h4⟩ := open_trs ht he hi hc hc2 hs hf'
    obtain ⟨rcs, rel, fr, hA⟩ : ∃ rcs rel fr, W.heap[x.block]? = some (.cells rcs rel fr) := by
      unfold World.shape? at hsh
      split at hsh
      · rename_i c el fr hx; exact ⟨c, el, fr, hx⟩
      · cases hsh
    have hcell : ∀ o, W.cell? ⟨x.block, o, none⟩ = rcs[o]? := by
      intro o
      simp only [World.cell?, hA]
      rfl
    refine ⟨l, .inr ⟨x, rfl, hs, h1, h2, h3, ⟨rcs, rel, fr, hA, ?_⟩⟩⟩
    refine trs_cells l (fun i => rcs[x.off + i]?) ?_
    intro i p hp
    have := h4 i p hp
    rw [hcell, hcell, hcell] at this
    rw [← Nat.add_assoc, ← Nat.add_assoc]
    exact this
theorem ro_at (pre b1 post : ROs) (x : (Nat × Nat) × List Value) : (pre ++ ([x] ++ post))[pre.length]? = some x := by
  rw [List.getElem?_append_right (Nat.le_refl _), Nat.sub_self]; rfl
theorem heap_at (pre post : ROs) (x : (Nat × Nat) × List Value) : (heapRO (pre ++ ([x] ++ post)))[pre.length]? = some (.cells x.2 0 true 3 []) := by
  unfold heapRO
  rw [List.getElem?_map, ro_at pre [] post x]; rfl
theorem ints_arg {W : World} {a : Option Addr} {len cap : Nat} {l : List Int} (h : IsIntsW W a len cap l) : l.length ≤ 9223372036854775807 ∧ ∃ b1 : ROs, ROin W b1 ∧ ∀ pre post : ROs, ∃ u, VR (mapRO (pre ++ (b1 ++ post))) u (.slice a len cap) ∧ IS (heapRO (pre ++ (b1 ++ post))) u l := by
  rcases h with ⟨rfl, rfl, rfl, rfl⟩ | ⟨x, rfl, hsp, hlen, hle, hm, ⟨rcs, rel, fr, hA, hcs⟩⟩
  · exact ⟨Nat.zero_le _, [], (fun x hx => by cases hx), fun pre post => ⟨.slice none 0 0, .sl0, none, 0, rfl, .inl ⟨Nat.le_refl _, by decide⟩, rfl, .inl ⟨rfl, by decide, rfl⟩⟩⟩
  · have hlt : cap < UNK := Nat.lt_of_le_of_lt hm (by decide)
    have hmx : maxLen ≤ 9223372036854775807 := by decide
    refine ⟨by omega, [((x.block, x.off), l.map mkI)], fun y hy => ?_, fun pre post => ⟨.slice (some ⟨pre.length, 0, none⟩) len cap, VR.ro (ro_at pre [] post _) hsp hle hlt, some ⟨pre.length, 0, none⟩, cap, by rw [hlen], .inl ⟨by omega, hlt⟩, by simp, .inr ⟨pre.length, 0, rfl, fun _ => ?_⟩⟩⟩
    · rw [List.mem_singleton] at hy
      subst hy
      exact ⟨mkI_sc l, rcs, rel, fr, hA, hcs⟩
    · exact Seg.mk0 (heap_at pre post ((x.block, x.off), l.map mkI)) rfl
theorem trs_arg {W : World} {a : Option Addr} {len cap : Nat} {l : List T3} (h : IsTrsW W a len cap l) : l.length ≤ 9223372036854775807 ∧ ∃ b1 : ROs, ROin W b1 ∧ ∀ pre post : ROs, ∃ u, VR (mapRO (pre ++ (b1 ++ post))) u (.slice a len cap) ∧ ES (heapRO (pre ++ (b1 ++ post))) u l := by
  rcases h with ⟨rfl, rfl, rfl, rfl⟩ | ⟨x, rfl, hsp, hlen, hle, hm, ⟨rcs, rel, fr, hA, hcs⟩⟩
  · exact ⟨Nat.zero_le _, [], (fun x hx => by cases hx), fun pre post => ⟨.slice none 0 0, .sl0, none, 0, rfl, .inl ⟨Nat.le_refl _, by decide⟩, rfl, .inl ⟨rfl, by decide, rfl⟩⟩⟩
  · have hlt : cap < UNK := Nat.lt_of_le_of_lt hm (by decide)
    have hmx : maxLen ≤ 9223372036854775807 := by decide
    refine ⟨by omega, [((x.block, x.off), trs l)], fun y hy => ?_, fun pre post => ⟨.slice (some ⟨pre.length, 0, none⟩) len cap, VR.ro (ro_at pre [] post _) hsp hle hlt, some ⟨pre.length, 0, none⟩, cap, by rw [hlen], .inl ⟨by omega, hlt⟩, trs_len l, .inr ⟨pre.length, 0, rfl, fun _ => ?_⟩⟩⟩
    · rw [List.mem_singleton] at hy
      subst hy
      exact ⟨trs_sc l, rcs, rel, fr, hA, hcs⟩
    · exact Seg.mk0 (heap_at pre post ((x.block, x.off), trs l)) rfl
theorem ROin.app {W : World} {a b : ROs} (h1 : ROin W a) (h2 : ROin W b) : ROin W (a ++ b) := fun x hx => by
  rw [List.mem_append] at hx
  exact hx.elim (h1 x) (h2 x)
structure IsBasW (W : World) (v : Value) (A F : List Int) (S : List T3) : Prop where
  ex : ∃ a1 n1 c1 a2 n2 c2 a3 n3 c3, v = .agg #[.slice a1 n1 c1, .slice a2 n2 c2, .slice a3 n3 c3] ∧ IsIntsW W a1 n1 c1 A ∧ IsIntsW W a2 n2 c2 F ∧ IsTrsW W a3 n3 c3 S
theorem bas_arg {W : World} {v : Value} {A F : List Int} {S : List T3} (h : IsBasW W v A F S) : (A.length ≤ 9223372036854775807 ∧ F.length ≤ 9223372036854775807 ∧ S.length ≤ 9223372036854775807) ∧ ∃ b1 : ROs, ROin W b1 ∧ ∀ pre post : ROs, ∃ u, VR (mapRO (pre ++ (b1 ++ post))) u v ∧ BV (heapRO (pre ++ (b1 ++ post))) u A F S := by
  obtain ⟨a1, n1, c1, a2, n2, c2, a3, n3, c3, rfl, h1, h2, h3⟩ := h.ex
  obtain ⟨x1, b1, r1, k1⟩ := ints_arg h1
  obtain ⟨x2, b2, r2, k2⟩ := ints_arg h2
  obtain ⟨x3, b3, r3, k3⟩ := trs_arg h3
  refine ⟨⟨x1, x2, x3⟩, b1 ++ (b2 ++ b3), r1.app (r2.app r3), fun pre post => ?_⟩
  obtain ⟨u1, v1, p1⟩ := k1 pre (b2 ++ (b3 ++ post))
  obtain ⟨u2, v2, p2⟩ := k2 (pre ++ b1) (b3 ++ post)
  obtain ⟨u3, v3, p3⟩ := k3 (pre ++ b1 ++ b2) post
  simp only [List.append_assoc] at v1 p1 v2 p2 v3 p3 ⊢
  exact ⟨.agg #[u1, u2, u3], VR.agg3 v1 v2 v3, u1, u2, u3, rfl, p1, p2, p3⟩
def st3 (d : Option TypeDesc) (t0 o0 t1 o1 t2 o2 : Nat) : Bool := match d with
  | some (.struct fs) => match fs.toList with
    | [f0, f1, f2] => Nat.beq f0.type t0 && Nat.beq f0.offset o0 && Nat.beq f1.type t1 && Nat.beq f1.offset o1 && Nat.beq f2.type t2 && Nat.beq f2.offset o2
    | _ => false
  | _ => false
theorem st3_ok {d : Option TypeDesc} {t0 o0 t1 o1 t2 o2 : Nat} (h : st3 d t0 o0 t1 o1 t2 o2 = true) : ∃ f0 f1 f2 : Field, d = some (.struct #[f0, f1, f2]) ∧ f0.type = t0 ∧ f0.offset = o0 ∧ f1.type = t1 ∧ f1.offset = o1 ∧ f2.type = t2 ∧ f2.offset = o2 := by
  unfold st3 at h
  split at h
  · rename_i fs
    split at h
    · rename_i f0 f1 f2 e
      have e2 : fs = #[f0, f1, f2] := Array.ext' e
      simp only [Bool.and_eq_true] at h
      have q := @Nat.eq_of_beq_eq_true
      exact ⟨f0, f1, f2, by rw [e2], q h.1.1.1.1.1, q h.1.1.1.1.2, q h.1.1.1.2, q h.1.1.2, q h.1.2, q h.2⟩
    · cases h
  · cases h
theorem u3 : Try.prog.underlying 3 = some (.int .i64) := by kernel_rfl
theorem u22 : Try.prog.underlying 22 = some (.slice 3) := by kernel_rfl
theorem u23 : Try.prog.underlying 23 = some (.slice 78) := by kernel_rfl
theorem u78 : Try.prog.underlying 78 = some (.array 3 3) := by kernel_rfl
theorem cells3 : Try.prog.cellsOf 3 = 1 := by kernel_rfl
theorem cells22 : Try.prog.cellsOf 22 = 1 := by kernel_rfl
theorem cells23 : Try.prog.cellsOf 23 = 1 := by kernel_rfl
theorem cells78 : Try.prog.cellsOf 78 = 3 := by kernel_rfl
theorem cells25 : Try.prog.cellsOf 25 = 3 := by kernel_rfl
theorem ct25 : Try.prog.cellTypes Try.prog.depth 25 = some [22, 22, 23] := by kernel_rfl
theorem u25 : ∃ f0 f1 f2 : Field, Try.prog.underlying 25 = some (.struct #[f0, f1, f2]) ∧ f0.type = 22 ∧ f0.offset = 0 ∧ f1.type = 22 ∧ f1.offset = 1 ∧ f2.type = 23 ∧ f2.offset = 2 := st3_ok (by kernel_rfl)
theorem trod_st3 {H : Type} {enc : TypeId × Value → H} {P : Program} {w : World} {base : Nat} {spare : Nat → Bool} {held : Bool} {t : TypeId} {f0 f1 f2 : Field} {fuel : Nat} {cs : List Value} {x : DataW H × List MemPlace} (ht : P.underlying t = some (.struct #[f0, f1, f2])) (h : DataW.trod enc P w base spare held fuel t cs = some x) :
    ∃ y0 y1 y2 n, cs.length = P.cellsOf t ∧ DataW.trod enc P w base spare held n f0.type ((cs.drop f0.offset).take (P.cellsOf f0.type)) = some y0 ∧
      DataW.trod enc P w base spare held n f1.type ((cs.drop f1.offset).take (P.cellsOf f1.type)) = some y1 ∧ DataW.trod enc P w base spare held n f2.type ((cs.drop f2.offset).take (P.cellsOf f2.type)) = some y2 := by
  obtain ⟨xs, n, _, rfl, hl, hlen, hf⟩ := DataW.trod_struct ht h
  match xs, hlen with
  | [y0, y1, y2], _ => exact ⟨y0, y1, y2, n, hl, by simpa using hf 0 f0 rfl, by simpa using hf 1 f1 rfl, by simpa using hf 2 f2 rfl⟩
theorem open_bas {H : Type} {enc : TypeId × Value → H} {W : World} {base b0 : Nat} {spare : Nat → Bool} {held : Bool} {v : Value} {d : DataW H} {ps : List MemPlace}
    (hval : Value.okWide Try.prog W .any b0 25 v) (h : DataW.Trod enc Try.prog W base spare held 25 v d ps) : ∃ A F S, IsBasW W v A F S := by
  obtain ⟨f0, f1, f2, hu, t0, o0, t1, o1, t2, o2⟩ := u25
  simp only [Value.okWide, hu] at hval
  obtain ⟨cs, rfl, hsz, ts, hts, _, hrow⟩ := hval
  rw [ct25] at hts
  cases hts
  obtain ⟨fuel, hf⟩ := h
  have hf' : DataW.trod enc Try.prog W base spare held fuel 25 cs.toList = some (d, ps) := hf
  obtain ⟨y0, y1, y2, n, hl, h0, h1, h2⟩ := trod_st3 hu hf'
  rw [cells25] at hl
  rw [t0, o0, cells22] at h0
  rw [t1, o1, cells22] at h1
  rw [t2, o2, cells23] at h2
  match hcs : cs.toList, hl with
  | [c0, c1, c2], _ =>
    rw [hcs] at h0 h1 h2
    simp only [List.drop_zero, List.drop_succ_cons, List.take_succ_cons, List.take_zero] at h0 h1 h2
    have e2 : cs = #[c0, c1, c2] := Array.ext' hcs
    obtain ⟨u, hu0, hok0⟩ := hrow 0 c0 (by rw [e2]; rfl)
    cases hu0
    obtain ⟨u, hu1, hok1⟩ := hrow 1 c1 (by rw [e2]; rfl)
    cases hu1
    obtain ⟨u, hu2, hok2⟩ := hrow 2 c2 (by rw [e2]; rfl)
    cases hu2
    have hv0 : Value.okWide Try.prog W .any b0 22 c0 := by simp only [Value.okWide, u22]; exact hok0
    have hv1 : Value.okWide Try.prog W .any b0 22 c1 := by simp only [Value.okWide, u22]; exact hok1
    have hv2 : Value.okWide Try.prog W .any b0 23 c2 := by simp only [Value.okWide, u23]; exact hok2
    obtain ⟨a1, len1, cap1, rfl⟩ := okWide_slice u22 hv0
    obtain ⟨a2, len2, cap2, rfl⟩ := okWide_slice u22 hv1
    obtain ⟨a3, len3, cap3, rfl⟩ := okWide_slice u23 hv2
    obtain ⟨l1, hl1⟩ := isInts_of u22 u3 cells3 hv0 (⟨n, h0⟩ : DataW.Trod enc Try.prog W base spare held 22 (.slice a1 len1 cap1) y0.1 y0.2)
    obtain ⟨l2, hl2⟩ := isInts_of u22 u3 cells3 hv1 (⟨n, h1⟩ : DataW.Trod enc Try.prog W base spare held 22 (.slice a2 len2 cap2) y1.1 y1.2)
    obtain ⟨l3, hl3⟩ := isTrs_of u23 u78 u3 cells78 cells3 hv2 (⟨n, h2⟩ : DataW.Trod enc Try.prog W base spare held 23 (.slice a3 len3 cap3) y2.1 y2.2)
    exact ⟨l1, l2, l3, ⟨a1, len1, cap1, a2, len2, cap2, a3, len3, cap3, by rw [e2], hl1, hl2, hl3⟩⟩
end Go.Proofs.Ytioijehbmgmgkaa.Sh

