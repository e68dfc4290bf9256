/- The shadow machine: dropping keeps the relation. -/
import Derived.Test.YtecncmmkghmojaaShZc
set_option linter.all false
namespace Go.Proofs.Ytecncmmkghmojaa.Sh
open Go Go.RowKit

theorem sc_cells {m m' : Mp} {x y : Value} (hx : (cellsL x).all sc = true) (h : VR m x y) : VR m' x y := by
  cases h with
  | agg ha ka =>
    refine .agg ha (fun i p q hp hq => sc_ok ?_ (ka i p q hp hq))
    exact List.all_eq_true.1 hx p (List.mem_of_getElem? hp)
  | bool b => exact .bool _
  | int k n => exact .int _ _
  | string s => exact .string _
  | _ => simp [cellsL, sc] at hx <;> first | constructor | skip

theorem shape_ren {base : Nat} {K : List Nat} {o o' : SO} (h : renO base K (some o) = some o') :
    (∃ cs el pf old, o = .cells cs el pf 2 old ∧ o' = .cells [] el true 2 []) ∨
    (∃ cs el pf own old cs', o = .cells cs el pf own old ∧ own ≠ 2 ∧ o' = .cells cs' el pf own (old.filterMap (ren base K)) ∧ cs'.length = cs.length ∧ ((pf = true ∧ cs' = cs) ∨ (pf = false ∧ mapO (renV base K 3) cs = some cs'))) ∨
    (∃ pf es es', o = .map pf es ∧ o' = .map pf es' ∧ ((pf = true ∧ es' = es) ∨ (pf = false ∧ mapO (renE base K) es = some es'))) := by
  unfold renO at h
  split at h
  · rename_i cs el pf own old he
    cases he
    split at h
    · rename_i h2
      simp only [beq_iff_eq] at h2
      subst h2
      cases h
      exact .inl ⟨_, _, _, _, rfl, rfl⟩
    · rename_i h2
      simp only [beq_iff_eq] at h2
      split at h
      · rename_i cs' hcs
        cases h
        refine .inr (.inl ⟨_, _, _, _, _, _, rfl, h2, rfl, ?_, ?_⟩)
        · split at hcs
          · cases hcs; rfl
          · exact mapO_len hcs
        · split at hcs
          · rename_i hp; cases hcs; exact .inl ⟨hp, rfl⟩
          · rename_i hp; exact .inr ⟨by simpa using hp, hcs⟩
      · cases h
  · rename_i pf es he
    cases he
    split at h
    · rename_i es' hes
      cases h
      refine .inr (.inr ⟨_, _, _, rfl, rfl, ?_⟩)
      split at hes
      · rename_i hp; cases hes; exact .inl ⟨hp, rfl⟩
      · rename_i hp; exact .inr ⟨by simpa using hp, hes⟩
    · cases h
  · cases h

theorem gc_ok {E : Env} {mi m : Mp} {h h1 h' : SHeap} {wi w : World} {v v' y : Value} (ri : Rel E mi h wi) (r : Rel E m h1 w) (hm : mi.le m) (hg : Ghost mi h m h1) (hk : Keep h.length h h1 []) (hv : VR m v y) (hgc : gcS h.length v h1 = some (v', h')) :
    ∃ m', VR m' v' y ∧ mi.le m' ∧ Rel E m' h' w ∧ Ghost mi h m' h' := by
  unfold gcS at hgc
  simp only at hgc
  obtain ⟨hnd, hge⟩ := reach_ok (base := h.length) (h := h1) 1000000 (ptrs 3 v) [] List.nodup_nil (fun b hb => by simp at hb)
  generalize reach h.length h1 1000000 (ptrs 3 v) [] = K at hgc hnd hge
  split at hgc
  case h_2 => cases hgc
  rename_i v2 kept hv2 hkept
  cases hgc
  have hbm : h.length ≤ m.length := by rw [r.len]; exact hk.1
  have hil : mi.length = h.length := ri.len
  have hlow : ∀ b, b < mi.length → (gcM h.length K m).full b = m.full b := fun b hb => gcM_low hbm (by omega)
  have hatl : ∀ b, b < h.length → (gcM h.length K m).at b = m.at b := fun b hb => by unfold Mp.at; rw [gcM_low hbm hb]
  have view : ∀ (b' : Nat) (o' : SO), (h1.take h.length ++ kept)[b']? = some o' → (b' < h.length ∧ h1[b']? = some o') ∨
      ∃ (i b : Nat) (o : SO), b' = h.length + i ∧ K[i]? = some b ∧ h.length ≤ b ∧ h1[b]? = some o ∧ renO h.length K (some o) = some o' := by
    intro b' o' hb'
    have htl : (h1.take h.length).length = h.length := by have := hk.1; simp; omega
    by_cases e : b' < h.length
    · rw [List.getElem?_append_left (by omega), List.getElem?_take, if_pos e] at hb'
      exact .inl ⟨e, hb'⟩
    · rw [List.getElem?_append_right (by omega), htl] at hb'
      obtain ⟨b, hb1, hb2⟩ := mapO_get hkept _ _ hb'
      cases ho : h1[b]? with
      | none => rw [ho] at hb2; cases hb2
      | some o =>
        rw [ho] at hb2
        exact .inr ⟨b' - h.length, b, o, by omega, hb1, hge b (List.mem_of_getElem? hb1), ho, hb2⟩
  have hkl : kept.length = K.length := mapO_len hkept
  have hatn : ∀ i b, K[i]? = some b → (gcM h.length K m).at (h.length + i) = m.at b := fun i b hb => by unfold Mp.at; rw [gcM_new hbm hb]
  have hcpn : ∀ i b, K[i]? = some b → (gcM h.length K m).cp (h.length + i) = m.cp b := fun i b hb => by unfold Mp.cp; rw [gcM_new hbm hb]
  have hcpl : ∀ b, b < h.length → (gcM h.length K m).cp b = m.cp b := fun b hb => by unfold Mp.cp; rw [gcM_low hbm hb]
  -- a block that lay there before
  have old_at : ∀ b p, b < h.length → m.at b = some p → mi.at b = some p := by
    intro b p hb hp
    have hb1 : h[b]? = some h[b] := by simp
    cases hmi : mi.at b with
    | none => rw [(hg b _ hb1 hmi).2] at hp; cases hp
    | some p' => rw [Mp.le_at hm hmi] at hp; exact hp
  have old_or : ∀ b o A δ, b < h.length → h1[b]? = some o → m.at b = some (A, δ) → OR E.P (gcM h.length K m) o A δ w := by
    intro b o A δ hb ho hma
    have hmi := old_at b _ hb hma
    obtain ⟨o1, ho1, hko⟩ := hk.2 b h[b] hb (by simp)
    rw [ho] at ho1; cases ho1
    have r0 := ri.obj b h[b] A δ (by simp) hmi
    have r1 := r.obj b o A δ ho hma
    generalize h[b] = o0 at hko r0
    rcases o0 with ⟨cs0, el0, pf0, own0, old0⟩ | ⟨a1, a2, a3, a4, a5, a6, a7, a8⟩ | _ | ⟨pf0, es0⟩ | _ <;> rcases o with ⟨cs, el, pf, own, old⟩ | ⟨b1, b2, b3, b4, b5, b6, b7, b8⟩ | _ | ⟨pf, es⟩ | _ <;> simp only [KO] at hko
    · -- cells
      obtain ⟨hel, hpfe, k3, k4, k5⟩ := hko
      subst hel hpfe
      rcases r1 with r1 | ⟨rcs, rel, fr, e1, e2, e3, e4, e5⟩
      · exact .inl r1
      · rcases r0 with r0 | ⟨rcs0, rel0, fr0, f1, f2, f3, f4, f5⟩
        · exact .inl (k5 r0)
        · refine .inr ⟨rcs, rel, fr, e1, ?_, e3, e4, ?_⟩
          · intro i x hx
            obtain ⟨z, hz1, hz2⟩ := e2 i x hx
            refine ⟨z, hz1, ?_⟩
            cases hpf : pf with
            | true => exact sc_ok (List.all_eq_true.1 (e4 hpf) x (List.mem_of_getElem? hx)) hz2
            | false =>
              have := k4 hpf (by simp)
              subst this
              obtain ⟨y0, _, hy0⟩ := f2 i x hx
              exact low_ok hlow hy0 _ hz2
          · intro c hc
            obtain ⟨p, hp⟩ := f5 c (k3 c hc)
            have hlt := Mp.at_lt hp
            exact ⟨p, by rw [hatl c (by omega)]; exact Mp.le_at hm hp⟩
    · -- loops
      obtain ⟨rfl, rfl, rfl, rfl, rfl, rfl⟩ := hko
      obtain ⟨f0, lr0, f1, f2⟩ := r0
      obtain ⟨e0, lr, e1, e2⟩ := r1
      refine ⟨e0, lr, e1, ⟨e2.hst, e2.hps, e2.has, e2.hbody, e2.hpend, ?_, ?_⟩⟩
      · have hlt := Mp.at_lt f2.hdf
        rw [hatl _ (by omega)]; exact e2.hdf
      · obtain ⟨nt, t1, t2⟩ := e2.htm
        obtain ⟨nt0, t3, _⟩ := f2.htm
        exact ⟨nt, ⟨t1.size, t1.deep, fun i => low_ok hlow (t3.get i) _ (t1.get i)⟩, t2⟩
    · exact r1
    · -- maps
      obtain ⟨hpfe, k4⟩ := hko
      subst hpfe
      obtain ⟨f0, ⟨rs0, cl0, f1, f2, f3, f4⟩, f5⟩ := r0
      obtain ⟨e0, ⟨rs, cl, e1, e2, e3, e4⟩, e5⟩ := r1
      refine ⟨e0, ⟨rs, cl, e1, ⟨e2.1, ?_⟩, ⟨e3.1, ?_⟩, e4⟩, e5⟩
      · intro i x z hx hz
        have hvv := e2.2 i x z hx hz
        cases hpf : pf with
        | true =>
          obtain ⟨en, hen, rfl⟩ : ∃ en, es[i]? = some en ∧ en.1 = x := by
            rw [List.getElem?_map] at hx
            cases hh : es[i]? with
            | none => rw [hh] at hx; cases hx
            | some en => rw [hh] at hx; cases hx; exact ⟨en, rfl, rfl⟩
          have := List.all_eq_true.1 (e5 hpf) en (List.mem_of_getElem? hen)
          simp only [Bool.and_eq_true] at this
          exact sc_cells this.1 hvv
        | false =>
          have := k4 hpf (by simp)
          subst this
          obtain ⟨y0, _, hy0⟩ := f2.get hx
          exact low_ok hlow hy0 _ hvv
      · intro i x z hx hz
        have hvv := e3.2 i x z hx hz
        cases hpf : pf with
        | true =>
          obtain ⟨en, hen, rfl⟩ : ∃ en, es[i]? = some en ∧ en.2 = x := by
            rw [List.getElem?_map] at hx
            cases hh : es[i]? with
            | none => rw [hh] at hx; cases hx
            | some en => rw [hh] at hx; cases hx; exact ⟨en, rfl, rfl⟩
          have := List.all_eq_true.1 (e5 hpf) en (List.mem_of_getElem? hen)
          simp only [Bool.and_eq_true] at this
          exact sc_cells this.2 hvv
        | false =>
          have := k4 hpf (by simp)
          subst this
          obtain ⟨y0, _, hy0⟩ := f3.get hx
          exact low_ok hlow hy0 _ hvv
    · trivial
  have new_or : ∀ (b : Nat) (o o' : SO) (A δ : Nat), h1[b]? = some o → renO h.length K (some o) = some o' → m.at b = some (A, δ) → OR E.P (gcM h.length K m) o' A δ w := by
    intro b o o' A δ ho hr hma
    have r1 := r.obj b o A δ ho hma
    rcases shape_ren hr with ⟨cs, el, pf, old, rfl, rfl⟩ | ⟨cs, el, pf, own, old, cs', rfl, h2, rfl, hlen, hcs⟩ | ⟨pf, es, es', rfl, rfl, hes⟩
    · exact .inl rfl
    · rcases r1 with r1 | ⟨rcs, rel, fr, e1, e2, e3, e4, e5⟩
      · exact absurd r1 h2
      · refine .inr ⟨rcs, rel, fr, e1, ?_, e3, ?_, ?_⟩
        · intro i x hx
          rcases hcs with ⟨hp, rfl⟩ | ⟨hp, hcs⟩
          · obtain ⟨z, hz1, hz2⟩ := e2 i x hx
            exact ⟨z, hz1, sc_ok (List.all_eq_true.1 (e4 hp) x (List.mem_of_getElem? hx)) hz2⟩
          · obtain ⟨x0, hx0, hf⟩ := mapO_get hcs i x hx
            obtain ⟨z, hz1, hz2⟩ := e2 i x0 hx0
            exact ⟨z, hz1, renV_ok hbm hz2 3 x hf⟩
        · intro hp
          rcases hcs with ⟨_, rfl⟩ | ⟨hp2, _⟩
          · exact e4 hp
          · rw [hp] at hp2; cases hp2
        · intro c hc
          obtain ⟨c0, hc0, hrc⟩ := List.mem_filterMap.1 hc
          obtain ⟨p, hp⟩ := e5 c0 hc0
          exact ⟨p, by rw [gcM_at hbm hrc]; exact hp⟩
    · obtain ⟨e0, ⟨rs, cl, e1, e2, e3, e4⟩, e5⟩ := r1
      rcases hes with ⟨hp, rfl⟩ | ⟨hp, hes⟩
      · refine ⟨e0, ⟨rs, cl, e1, ⟨e2.1, ?_⟩, ⟨e3.1, ?_⟩, e4⟩, e5⟩
        · intro i x z hx hz
          obtain ⟨en, hen, rfl⟩ : ∃ en, es'[i]? = some en ∧ en.1 = x := by
            rw [List.getElem?_map] at hx
            cases hh : es'[i]? with
            | none => rw [hh] at hx; cases hx
            | some en => rw [hh] at hx; cases hx; exact ⟨en, rfl, rfl⟩
          have := List.all_eq_true.1 (e5 hp) en (List.mem_of_getElem? hen)
          simp only [Bool.and_eq_true] at this
          exact sc_cells this.1 (e2.2 i _ z hx hz)
        · intro i x z hx hz
          obtain ⟨en, hen, rfl⟩ : ∃ en, es'[i]? = some en ∧ en.2 = x := by
            rw [List.getElem?_map] at hx
            cases hh : es'[i]? with
            | none => rw [hh] at hx; cases hx
            | some en => rw [hh] at hx; cases hx; exact ⟨en, rfl, rfl⟩
          have := List.all_eq_true.1 (e5 hp) en (List.mem_of_getElem? hen)
          simp only [Bool.and_eq_true] at this
          exact sc_cells this.2 (e3.2 i _ z hx hz)
      · have get : ∀ (i : Nat) (en' : Value × Value), es'[i]? = some en' → ∃ en : Value × Value, es[i]? = some en ∧ renV h.length K 3 en.1 = some en'.1 ∧ renV h.length K 3 en.2 = some en'.2 := by
          intro i en' hi
          obtain ⟨en, h3, h4⟩ := mapO_get hes i en' hi
          unfold renE at h4
          split at h4
          · rename_i p q hp hq; cases h4; exact ⟨en, h3, hp, hq⟩
          · cases h4
        have hl := mapO_len hes
        refine ⟨e0, ⟨rs, cl, e1, ⟨by have := e2.1; simp at this ⊢; omega, ?_⟩, ⟨by have := e3.1; simp at this ⊢; omega, ?_⟩, e4⟩, fun hp2 => by rw [hp] at hp2; cases hp2⟩
        · intro i x z hx hz
          rw [List.getElem?_map] at hx
          cases hh : es'[i]? with
          | none => rw [hh] at hx; cases hx
          | some en' =>
            rw [hh] at hx; cases hx
            obtain ⟨en, h3, h4, _⟩ := get i en' hh
            exact renV_ok hbm (e2.2 i en.1 z (by rw [List.getElem?_map, h3]; rfl) hz) 3 _ h4
        · intro i x z hx hz
          rw [List.getElem?_map] at hx
          cases hh : es'[i]? with
          | none => rw [hh] at hx; cases hx
          | some en' =>
            rw [hh] at hx; cases hx
            obtain ⟨en, h3, _, h4⟩ := get i en' hh
            exact renV_ok hbm (e3.2 i en.2 z (by rw [List.getElem?_map, h3]; rfl) hz) 3 _ h4
  have src : ∀ (b' : Nat) (o' : SO), (h1.take h.length ++ kept)[b']? = some o' → ∃ b o, h1[b]? = some o ∧ (gcM h.length K m).at b' = m.at b ∧ (gcM h.length K m).cp b' = m.cp b ∧ ren h.length K b = some b' ∧
      live o' = live o ∧ isRO o' = isRO o ∧ ((b' < h.length ∧ b = b' ∧ o' = o) ∨ (h.length ≤ b ∧ renO h.length K (some o) = some o')) := by
    intro b' o' hb'
    rcases view b' o' hb' with ⟨h2, h3⟩ | ⟨i, b, o, rfl, h2, h3, h4, h5⟩
    · exact ⟨b', o', h3, hatl b' h2, hcpl b' h2, ren_low h2, rfl, rfl, .inl ⟨h2, rfl, rfl⟩⟩
    · refine ⟨b, o, h4, hatn i b h2, hcpn i b h2, ren_get hnd h3 h2, ?_, ?_, .inr ⟨h3, h5⟩⟩
      · rcases shape_ren h5 with ⟨cs, el, pf, old, rfl, rfl⟩ | ⟨cs, el, pf, own, old, cs', rfl, h2, rfl, hlen, hcs⟩ | ⟨pf, es, es', rfl, rfl, hes⟩ <;> rfl
      · rcases shape_ren h5 with ⟨cs, el, pf, old, rfl, rfl⟩ | ⟨cs, el, pf, own, old, cs', rfl, h2, rfl, hlen, hcs⟩ | ⟨pf, es, es', rfl, rfl, hes⟩ <;> rfl
  have chain : ∀ b1' b2' o1' o2' b1 b2 o1 o2 δ1 δ2 A, h1[b2]? = some o2 → m.at b2 = some (A, δ2) → live o2 = true → ren h.length K b1 = some b1' →
      ((b1' < h.length ∧ b1 = b1' ∧ o1' = o1) ∨ (h.length ≤ b1 ∧ renO h.length K (some o1) = some o1')) → ((b2' < h.length ∧ b2 = b2' ∧ o2' = o2) ∨ (h.length ≤ b2 ∧ renO h.length K (some o2) = some o2')) →
      Chain b1 o1 δ1 o2 δ2 → Chain b1' o1' δ1 o2' δ2 := by
    intro b1' b2' o1' o2' b1 b2 o1 o2 δ1 δ2 A ho2 hm2 hl2 hr1 c1 c2 hch
    obtain ⟨cs1, el1, pf1, old1, cs2, el2, pf2, own2, old2, rfl, rfl, hmem, hle⟩ := hch
    obtain ⟨cs1', old1', rfl, hlen1⟩ : ∃ cs1' old1', o1' = .cells cs1' el1 pf1 1 old1' ∧ cs1'.length = cs1.length := by
      rcases c1 with ⟨_, _, rfl⟩ | ⟨_, hr⟩
      · exact ⟨_, _, rfl, rfl⟩
      · rcases shape_ren hr with ⟨cs, el, pf, old, e1, e2⟩ | ⟨cs, el, pf, own, old, cs', e1, h2, e2, hlen, hcs⟩ | ⟨pf, es, es', e1, e2, hes⟩
        · cases e1
        · cases e1; exact ⟨_, _, e2, hlen⟩
        · cases e1
    rcases c2 with ⟨hb2, rfl, rfl⟩ | ⟨_, hr⟩
    · -- the newer one lay there before
      obtain ⟨o3, ho3, hko⟩ := hk.2 b2 h[b2] hb2 (by simp)
      rw [ho2] at ho3; cases ho3
      have hmi := old_at b2 _ hb2 hm2
      have r0 := ri.obj b2 h[b2] A δ2 (by simp) hmi
      generalize h[b2] = o0 at hko r0
      rcases o0 with ⟨cs0, el0, pf0, own0, old0⟩ | ⟨a1, a2, a3, a4, a5, a6, a7, a8⟩ | _ | ⟨pf0, es0⟩ | _ <;> simp only [KO] at hko
      obtain ⟨_, _, k3, _, k5⟩ := hko
      rcases r0 with r0 | ⟨rcs0, rel0, fr0, f1, f2, f3, f4, f5⟩
      · have := k5 r0
        subst this
        simp [live] at hl2
      · obtain ⟨p, hp⟩ := f5 b1 (k3 b1 hmem)
        have hlt := Mp.at_lt hp
        rw [ren_low (by omega)] at hr1
        cases hr1
        exact ⟨_, _, _, _, _, _, _, _, _, rfl, rfl, hmem, by omega⟩
    · rcases shape_ren hr with ⟨cs, el, pf, old, e1, e2⟩ | ⟨cs, el, pf, own, old, cs', e1, h2, e2, hlen, hcs⟩ | ⟨pf, es, es', e1, e2, hes⟩
      · cases e1; simp [live] at hl2
      · cases e1
        subst e2
        exact ⟨_, _, _, _, _, _, _, _, _, rfl, rfl, List.mem_filterMap.2 ⟨b1, hmem, hr1⟩, by omega⟩
      · cases e1
  refine ⟨gcM h.length K m, renV_ok hbm hv 3 _ hv2, ?_, ⟨?_, ?_, ?_, ?_, ?_, ?_, ?_, r.below, r.bsz⟩, ?_⟩
  · intro b x hx
    have hlt := Mp.full_lt hx
    rw [hlow b hlt]; exact hm b x hx
  · unfold gcM
    have := hk.1
    simp [hkl]; omega
  · intro b' A δ hb
    have hlt := Mp.at_lt hb
    have hl2 : (gcM h.length K m).length = (h1.take h.length ++ kept).length := by
      unfold gcM
      have := hk.1
      simp [hkl]; omega
    obtain ⟨b, o, _, h3, _⟩ := src b' (h1.take h.length ++ kept)[b'] (by simp)
    rw [h3] at hb
    exact r.lt b A δ hb
  · intro b' o' A δ ho' hb
    obtain ⟨b, o, h2, h3, _, _, _, _, hc⟩ := src b' o' ho'
    rw [h3] at hb
    rcases hc with ⟨h4, rfl, rfl⟩ | ⟨h4, h5⟩
    · exact old_or b o' A δ h4 h2 hb
    · exact new_or b o o' A δ h2 h5 hb
  · intro b' o' A δ ho' hb hl hro
    obtain ⟨b, o, h2, h3, _, _, h5, h6, _⟩ := src b' o' ho'
    rw [h3] at hb
    exact r.base b o A δ h2 hb (by rw [← h5]; exact hl) (by rw [← h6]; exact hro)
  · intro b1' b2' o1' o2' A δ1 δ2 hne h1' h2' m1 m2 l1 l2
    obtain ⟨b1, o1, p1, p2, _, p3, p4, p5, p6⟩ := src b1' o1' h1'
    obtain ⟨b2, o2, q1, q2, _, q3, q4, q5, q6⟩ := src b2' o2' h2'
    rw [p2] at m1
    rw [q2] at m2
    have hne2 : b1 ≠ b2 := by
      intro e
      subst e
      rw [p3] at q3; cases q3
      exact hne rfl
    rcases r.sep b1 b2 o1 o2 A δ1 δ2 hne2 p1 q1 m1 m2 (by rw [← p4]; exact l1) (by rw [← q4]; exact l2) with ⟨g1, g2⟩ | g | g
    · exact .inl ⟨by rw [p5]; exact g1, by rw [q5]; exact g2⟩
    · exact .inr (.inl (chain b1' b2' o1' o2' b1 b2 o1 o2 δ1 δ2 A q1 m2 (by rw [← q4]; exact l2) p3 p6 q6 g))
    · exact .inr (.inr (chain b2' b1' o2' o1' b2 b1 o2 o1 δ2 δ1 A p1 m1 (by rw [← p4]; exact l1) q3 q6 p6 g))
  · intro b' A δ Kc s hb hc
    have hlt := Mp.at_lt hb
    have hl2 : (gcM h.length K m).length = (h1.take h.length ++ kept).length := by
      unfold gcM
      have := hk.1
      simp [hkl]; omega
    obtain ⟨b, o, _, h3, h4, _⟩ := src b' (h1.take h.length ++ kept)[b'] (by simp)
    rw [h3] at hb
    rw [h4] at hc
    exact r.cap b A δ Kc s hb hc
  · intro b' Kc s cs el pf own old hb hc
    obtain ⟨b, o, h2, h3, h4, _, _, _, h6⟩ := src b' _ hb
    rw [h4] at hc
    rcases h6 with ⟨_, rfl, rfl⟩ | ⟨_, hr⟩
    · exact r.csz b Kc s _ _ _ _ _ h2 hc
    · rcases shape_ren hr with ⟨cs, el, pf, old, e1, e2⟩ | ⟨cs, el, pf, own, old, cs', e1, h2', e2, hlen, hcs⟩ | ⟨pf, es, es', e1, e2, hes⟩
      · cases e2; subst e1; exact r.csz b Kc s _ _ _ _ _ h2 hc
      · cases e2; subst e1; exact r.csz b Kc s _ _ _ _ _ h2 hc
      · cases e2
  · intro b o hb hmb
    have hlt : b < h.length := (List.getElem?_eq_some_iff.1 hb).1
    obtain ⟨q1, q2⟩ := hg b o hb hmb
    refine ⟨?_, by rw [hatl b hlt]; exact q2⟩
    have := hk.1
    rw [List.getElem?_append_left (by simp; omega), List.getElem?_take, if_pos hlt]
    exact q1

end Go.Proofs.Ytecncmmkghmojaa.Sh
