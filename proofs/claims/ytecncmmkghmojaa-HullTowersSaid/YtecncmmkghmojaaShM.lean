/- The shadow machine: append, its value and its world. -/
import Derived.Test.YtecncmmkghmojaaShL
set_option linter.all false
namespace Go.Proofs.Ytecncmmkghmojaa.Sh
open Go Go.RowKit

section
variable {P : Program} {nt : Nat} {m : Mp} {t : T} {a : Act}

/-- what a computation of a value does -/
def DoesV (E : Env) (m : Mp) (h : SHeap) (s : Sem Value) (w : World) (v : Value) (h' : SHeap) : Prop :=
  ∃ v' w' m', s.run E.P w = .ok v' w' ∧ VR m' v v' ∧ m.le m' ∧ Rel E m' h' w' ∧ Ghost m h m' h'
theorem DoesV.does {E : Env} {h h' : SHeap} {s : Sem Value} {w : World} {v : Value} (k : DoesV E m h s w v h') : Does E m h (do pure (Next.value (← s))) w v h' :=
  let ⟨v', w', m', h1, h2⟩ := k
  ⟨v', w', m', .inl (run_v h1), h2⟩

theorem szOf_info {P : Program} {e : TypeId} {i : TypeInfo} (hi : P.info? e = some i) : szOf P e = some i.size := by
  unfold szOf; rw [hi]; rfl

theorem append_new {E : Env} {h : SHeap} {w : World} (r : Rel E m h w) {ts tx ty e ex : TypeId} {i : TypeInfo} {z : Value} (hu : E.P.underlying ts = some (.slice e)) (hux : E.P.underlying tx = some (.slice ex)) (hi : E.P.info? e = some i) (hz : i.zero = some z) (hzs : z.cells.size = i.size)
    {p : Option Addr} {len cap n : Nat} {y : Value} (hy : Builtin.lenOf y = pure n) {old old' new new' : List Value} (hlo : LR m old old') (hln : LR m new new') (hol : old'.length = len * i.size) (hnl : new'.length = n * i.size)
    (hf : ∀ w' : World, w'.heap = w.heap → (Builtin.firstCells i.size n y).run E.P w' = .ok new'.toArray w') (ho : ∀ w' : World, w'.heap = w.heap → (Builtin.firstCells i.size len (.slice p len cap)).run E.P w' = .ok old'.toArray w')
    (hno : cap < len + n) (hb : (len + n) * i.bytes ≤ 140737488355328) (hpos : 0 < i.bytes) {pf : Bool} (hpf : pf = true → (old ++ new).all sc = true)
    {h1 : SHeap} (r1 : Rel E m h1 w) (hg : Ghost m h m h1) (hl1 : h1.length = h.length) {older : List Nat} (holder : ∀ c ∈ older, ∃ x, m.at c = some x) :
    DoesV E m h (Builtin.append_ #[ts, tx] ty #[.slice p len cap, y]) w (.slice (some ⟨h.length, 0, none⟩) (len + n) (UNK + i.size)) (h1 ++ [.cells (old ++ new) e pf 0 older]) := by
  obtain ⟨k, rest, hk, hrl, hrun⟩ := append_grow (ty := ty) hu hux hi hz hy hf ho hno hb hpos
  refine ⟨_, _, m ++ [some ((w.heap.size, 0), some (k * i.size, i.size))], hrun, ?_, Mp.le_append _ _, ?_, hg.trans (Ghost.push r1.len)⟩
  · refine .sl (A := w.heap.size) (δ := 0) ?_ hk (.inr ⟨by omega, k * i.size, i.size, ?_, rfl, by simp⟩)
    · rw [← r.len, Mp.at_snoc]; rfl
    · rw [← r.len, Mp.cp_snoc]; rfl
  · have r2 : Rel E m h1 w.drew := r1.drew _
    refine Rel.push (o := .cells (old ++ new) e pf 0 older) (w := w.drew) (ob := .cells (old' ++ new' ++ rest).toArray e) r2 rfl (some (k * i.size, i.size)) (fun w' hw' => ?_) (fun K s e => ?_)
    · refine or_cells (cs' := old' ++ new') hw' ((hlo.append hln).mono (Mp.le_append _ _)) (fun j y hj => ?_) hpf (fun c hc => ?_)
      · have hjl : j < (old' ++ new').length := (List.getElem?_eq_some_iff.1 hj).1
        simp only [Nat.zero_add, List.getElem?_toArray]
        rw [List.getElem?_append_left hjl]; exact hj
      · obtain ⟨x, hx⟩ := holder c hc
        exact ⟨x, Mp.le_at (Mp.le_append _ _) hx⟩
    · cases e
      refine ⟨⟨_, _, _, rfl, ?_⟩, fun cs el pf' own old2 ho2 => by cases ho2; exact szOf_info hi⟩
      simp only [List.size_toArray, List.length_append, hol, hnl, hrl, hzs]
      have : k = (len + n) + (k - (len + n)) := by omega
      calc k * i.size = ((len + n) + (k - (len + n))) * i.size := by rw [← this]
        _ = _ := by rw [Nat.add_mul, Nat.add_mul]
        _ ≤ _ := Nat.le_refl _

theorem append_val {E : Env} {h h' : SHeap} {w : World} (r : Rel E m h w) {ts tx ty e ex : TypeId} {i : TypeInfo} {z : Value} (hu : E.P.underlying ts = some (.slice e)) (hux : E.P.underlying tx = some (.slice ex)) (hi : E.P.info? e = some i) (hz : i.zero = some z) (hzs : z.cells.size = i.size) (hsp : 0 < i.size)
    {base : Nat} {d d' : List Nat} {pf : Bool} {x x' y y' v : Value} (hx : VR m x x') (hy : VR m y y') (hs : appendS base h d e pf i.size i.bytes x y = some (v, h', d')) :
    DoesV E m h (Builtin.append_ #[ts, tx] ty #[x', y']) w v h' := by
  unfold appendS at hs
  split at hs
  case h_2 => cases hs
  rename_i ad len cap n hn
  have hylen := lenS_sim hn hy
  have hylz : ∀ p c, y = .slice p 0 c → n = 0 := by
    intro p c hyy; subst hyy; cases hn; rfl
  split at hs
  · -- nothing is appended
    rename_i h0
    simp at h0; subst h0
    cases hs
    have h1 : ∀ w' : World, w'.heap = w.heap → (Builtin.firstCells i.size 0 y').run E.P w' = .ok #[] w' := by
      intro w' _
      cases hy <;> first | (simp [lenS] at hn; done) | simp [Builtin.firstCells, loadCells, loadCellsFrom]
    cases hx with
    | sl0 =>
      refine ⟨.slice none 0 0, w, m, ?_, .sl0, m.le_refl, r, Ghost.refl _ _⟩
      simp [Builtin.append_, run_underlying hu, run_underlying hux, sizeOf, typeInfo, hi, hylen, h1 w rfl]
    | sl hm hle hc =>
      refine ⟨_, w, m, ?_, .sl hm hle hc, m.le_refl, r, Ghost.refl _ _⟩
      simp [Builtin.append_, run_underlying hu, run_underlying hux, sizeOf, typeInfo, hi, hylen, h1 w rfl, hle, storeCells]
    | @slz b o _ a' p hp hc =>
      refine ⟨.slice (some a') 0 0, w, m, ?_, .slz hp hc, m.le_refl, r, Ghost.refl _ _⟩
      simp [Builtin.append_, run_underlying hu, run_underlying hux, sizeOf, typeInfo, hi, hylen, h1 w rfl, storeCells]
  rename_i hn0
  simp at hn0
  split at hs
  case isFalse => cases hs
  rename_i hbytes
  simp only [Bool.and_eq_true, Nat.ble_eq, Nat.blt_eq] at hbytes
  obtain ⟨hbytes, hbpos⟩ := hbytes
  split at hs
  case h_2 => cases hs
  rename_i new old hnew hold
  split at hs
  case isFalse => cases hs
  rename_i hok
  simp only [Bool.and_eq_true] at hok
  obtain ⟨hone, hpf0⟩ := hok
  have hpf : pf = true → (old ++ new).all sc = true := mayPf hpf0
  obtain ⟨new', hln, hnl, hf⟩ := seen_run r hy hnew hylz
  obtain ⟨old', hlo, hol, ho⟩ := seen_run r hx hold (fun p c e => by cases e; rfl)
  have key : ∀ (p : Option Addr) (cap' : Nat), x' = .slice p len cap' → cap' < len + n → ∀ (h1 : SHeap) (older : List Nat), Rel E m h1 w → Ghost m h m h1 → h1.length = h.length → (∀ c ∈ older, ∃ x, m.at c = some x) →
      DoesV E m h (Builtin.append_ #[ts, tx] ty #[x', y']) w (.slice (some ⟨h.length, 0, none⟩) (len + n) (UNK + i.size)) (h1 ++ [.cells (old ++ new) e pf 0 older]) := by
    intro p cap' hx' hno h1 older r1 hg hl hold2
    subst hx'
    exact append_new r hu hux hi hz hzs hylen hlo hln hol hnl hf ho hno hbytes hbpos hpf r1 hg hl hold2
  cases hx with
  | sl0 =>
    simp only at hs
    cases hs
    exact key _ _ rfl (by omega) h [] r (Ghost.refl _ _) rfl (fun c hc => by cases hc)
  | @slz b o _ a' p hp hc =>
    simp only at hs
    split at hs
    · split at hs
      case h_2 => cases hs
      rename_i cs el' pf' own older hb
      split at hs
      case isFalse => cases hs
      rename_i hcond
      simp only [Bool.and_eq_true, beq_iff_eq, Nat.beq_eq] at hcond
      obtain ⟨⟨⟨rfl, rfl⟩, rfl⟩, rfl⟩ := hcond
      have holder : ∀ c ∈ b :: older, ∃ x, m.at c = some x := by
        intro c hc2
        rcases List.mem_cons.1 hc2 with rfl | hc2
        · exact ⟨p, hp⟩
        · rcases r.obj _ _ _ _ hb hp with h2 | ⟨_, _, _, _, _, _, _, h5⟩
          · cases h2
          · exact h5 c hc2
      split at hs
      · cases hs
        exact key _ _ rfl (by omega) _ _ (r.share hb) (Ghost.share hp) (share_len _ _) holder
      · cases hs
        exact key _ _ rfl (by omega) _ _ (r.killed_all _) (Ghost.killAll holder) (killAll_len _ _) (fun c hc => by cases hc)
    · rename_i hunk
      have hc0 : cap = 0 := by
        rcases hc with h0 | h0
        · exact h0
        · exact absurd (Nat.ble_eq ▸ h0 : Nat.ble UNK cap = true) hunk
      subst hc0
      split at hs
      · rename_i h0
        simp at h0; omega
      · cases hs
        exact key _ _ rfl (by omega) h [] r (Ghost.refl _ _) rfl (fun c hc => by cases hc)
  | @sl b o A δ _ _ cap' hm hle hc =>
    simp only at hs
    split at hs
    · rename_i hunk
      simp only [Nat.ble_eq] at hunk
      split at hs
      case h_2 => cases hs
      rename_i cs el' pf' own older hb
      split at hs
      case isFalse => cases hs
      rename_i hcond
      simp only [Bool.and_eq_true, beq_iff_eq, Nat.beq_eq] at hcond
      obtain ⟨⟨⟨rfl, rfl⟩, rfl⟩, rfl⟩ := hcond
      rcases r.obj _ _ _ _ hb hm with h2 | ⟨rcs, rel, fr, hw, h2, h3, h4, h5⟩
      · cases h2
      obtain ⟨rfl, rfl⟩ := h3.resolve_left (by omega)
      have hB : E.B ≤ A := r.base _ _ _ _ hb hm rfl rfl
      have hAl : A < w.heap.size := r.lt _ _ _ hm
      have holder : ∀ c ∈ b :: older, ∃ x, m.at c = some x := by
        intro c hc2
        rcases List.mem_cons.1 hc2 with rfl | hc2
        · exact ⟨_, hm⟩
        · exact h5 c hc2
      by_cases hroom : len + n ≤ cap'
      · -- in place
        obtain ⟨K, s, hK, hs1, hs2⟩ : ∃ K s, m.cp b = some (K, s) ∧ UNK + i.size = UNK + s ∧ o + cap' * s ≤ K := by
          rcases hc with ⟨_, h9⟩ | ⟨_, h9⟩
          · omega
          · exact h9
        have hs3 : s = i.size := by omega
        subst hs3
        obtain ⟨rcs2, rel2, fr2, hw2, hKs⟩ := r.cap _ _ _ _ _ hm hK
        rw [hw] at hw2; cases hw2
        have hmul : len * i.size + n * i.size ≤ cap' * i.size := by rw [← Nat.add_mul]; exact Nat.mul_le_mul_right _ hroom
        have hfit : δ + o + len * i.size + new'.length ≤ rcs.size := by rw [hnl]; omega
        have hrun := append_room (P := E.P) (ty := ty) hu hux hi (w := w) (A := A) (o := δ + o) (len := len) (cap := cap') hylen (hf w rfl) hroom
          (fun j hj => by rw [cell?_of hw]; have : δ + o + len * i.size + j < rcs.size := by omega
                          simp [this]) (fun j hj => by unfold World.frozen?; simp [hw])
          (fun v hv => by
            obtain ⟨j, hj⟩ := List.getElem?_of_mem hv
            obtain ⟨u, hu2, hr2⟩ := hln.get' hj
            obtain ⟨ha, hb2⟩ := hr2.oneC (mem_of_all hone hu2)
            cases v <;> first | rfl | (exact absurd rfl (ha _)) | (exact absurd rfl (hb2 _)))
        have hAt : (w.setCells A (δ + o + len * i.size) new').heap[A]? = some (.cells (writeA rcs (δ + o + len * i.size) new') rel (0, 0)) := by
          rw [← wsetL_eq]; exact wsetL_at w A _ new' hw
        have holdl : old.length = len * i.size := by rw [hlo.1, hol]
        have holdg : ∀ (j : Nat) (u : Value), old[j]? = some u → cs[o + j]? = some u := by
          intro j u hj
          unfold seenS at hold
          simp only at hold
          split at hold
          · cases hold; simp at hj
          · unfold Sh.rdN at hold
            rw [hb] at hold
            simp only at hold
            split at hold
            · cases hold
              rw [List.getElem?_take] at hj
              split at hj
              · rwa [List.getElem?_drop] at hj
              · cases hj
            · cases hold
        have hcells : ∀ (m' : Mp), m.le m' → ∀ (j : Nat) (u : Value), (old ++ new)[j]? = some u → ∃ y, (writeA rcs (δ + o + len * i.size) new')[δ + o + j]? = some y ∧ VR m' u y := by
          intro m' hmm j u hj
          rw [writeA_get rcs _ new' hfit]
          by_cases hjl : j < old.length
          · rw [List.getElem?_append_left hjl] at hj
            rw [if_neg (by omega)]
            obtain ⟨y, hy1, hy2⟩ := h2 _ _ (holdg j u hj)
            exact ⟨y, by rw [Nat.add_assoc]; exact hy1, hy2.mono hmm⟩
          · rw [List.getElem?_append_right (by omega)] at hj
            have hjn : j - old.length < new.length := (List.getElem?_eq_some_iff.1 hj).1
            have := hln.1
            rw [if_pos (by omega)]
            obtain ⟨y, hy1, hy2⟩ := hln.get hj
            exact ⟨y, by rw [show δ + o + j - (δ + o + len * i.size) = j - old.length by omega]; exact hy1, hy2.mono hmm⟩
        have hszl : (w.setCells A (δ + o + len * i.size) new').heap.size = w.heap.size := by rw [← wsetL_eq]; exact wsetL_size _ _ _ _
        have hval : ∀ m' : Mp, m' = m ++ [some ((A, δ + o), some (K - o, i.size))] → VR m' (.slice (some ⟨h.length, 0, none⟩) (len + n) (UNK + i.size)) (.slice (some ⟨A, δ + o, none⟩) (len + n) cap') := by
          intro m' hm'
          subst hm'
          refine .sl (A := A) (δ := δ + o) ?_ hroom (.inr ⟨by omega, K - o, i.size, ?_, rfl, by omega⟩)
          · rw [← r.len, Mp.at_snoc]; rfl
          · rw [← r.len, Mp.cp_snoc]; rfl
        have hcsz : szOf E.P rel = some i.size := szOf_info hi
        split at hs
        · rename_i hend
          have hend : o + len * i.size = cs.length := Nat.eq_of_beq_eq_true hend
          cases hs
          have rs := (r.share hb).above (m := m) hw hB hfit (fun c o2 δ2 hc2 hmc hl2 => by
            rw [share_get'] at hc2
            split at hc2
            · rename_i e2; subst e2; rw [hb] at hc2; cases hc2
              rw [hm] at hmc; cases hmc
              exact ⟨_, _, _, _, _, rfl, by omega⟩
            · rename_i e2
              obtain ⟨_, cs2, el2, pf2, old2, rfl, h4⟩ := r.others hb hm (fun k => e2 k.symm) hc2 hmc hl2
              exact ⟨_, _, _, _, _, rfl, by omega⟩)
          refine ⟨_, _, _, hrun, hval _ rfl, Mp.le_append _ _, Rel.alias (old := b :: older) rs ?_ hB (by rw [hszl]; exact hAl) ?_ ?_, (Ghost.share hm).trans (Ghost.push rs.len)⟩
          · exact .inr ⟨_, _, _, hAt, hcells _ (Mp.le_append _ _), .inr ⟨rfl, rfl⟩, hpf, fun c hc2 => let ⟨x, hx⟩ := holder c hc2; ⟨x, Mp.le_at (Mp.le_append _ _) hx⟩⟩
          · intro K2 s2 e2
            cases e2
            exact ⟨⟨_, _, _, hAt, by rw [writeA_size]; omega⟩, hcsz⟩
          · intro c o2 δ2 hc2 hmc hl2
            rw [share_get'] at hc2
            split at hc2
            · rename_i e2; subst e2; rw [hb] at hc2; cases hc2
              rw [hm] at hmc; cases hmc
              exact ⟨_, _, _, _, rfl, List.mem_cons_self, by simp; omega⟩
            · rename_i e2
              obtain ⟨h7, cs2, el2, pf2, old2, rfl, h4⟩ := r.others hb hm (fun k => e2 k.symm) hc2 hmc hl2
              exact ⟨_, _, _, _, rfl, List.mem_cons_of_mem _ h7, by simp; omega⟩
        · cases hs
          have dead : ∀ (c : Nat) (o2 : SO) (δ2 : Nat), (killAll h (b :: older))[c]? = some o2 → m.at c = some (A, δ2) → live o2 = true → False := by
            intro c o2 δ2 hc2 hmc hl2
            rw [killAll_get] at hc2
            split at hc2
            · rename_i hmem
              cases hh : h[c]? with
              | none => rw [hh] at hc2; cases hc2
              | some o3 =>
                rw [hh] at hc2; cases hc2
                have l3 := live_killed o3 hl2
                rcases List.mem_cons.1 hmem with rfl | hmem
                · rw [hb] at hh; cases hh; simp [killed, live] at hl2
                · have hne : c ≠ b := by
                    rintro rfl
                    rw [hb] at hh; cases hh; simp [killed, live] at hl2
                  obtain ⟨_, cs2, el2, pf2, old2, rfl, _⟩ := r.others hb hm hne hh hmc l3
                  simp [killed, live] at hl2
            · rename_i hmem
              have hne : c ≠ b := by rintro rfl; exact hmem List.mem_cons_self
              exact hmem (List.mem_cons_of_mem _ (r.others hb hm hne hc2 hmc hl2).1)
          have rs := (r.killed_all (b :: older)).above (m := m) hw hB hfit (fun c o2 δ2 hc2 hmc hl2 => (dead c o2 δ2 hc2 hmc hl2).elim)
          refine ⟨_, _, _, hrun, hval _ rfl, Mp.le_append _ _, Rel.alias rs ?_ hB (by rw [hszl]; exact hAl) ?_ ?_, (Ghost.killAll holder).trans (Ghost.push rs.len)⟩
          · exact .inr ⟨_, _, _, hAt, hcells _ (Mp.le_append _ _), .inr ⟨rfl, rfl⟩, hpf, fun c hc2 => by cases hc2⟩
          · intro K2 s2 e2
            cases e2
            exact ⟨⟨_, _, _, hAt, by rw [writeA_size]; omega⟩, hcsz⟩
          · intro c o2 δ2 hc2 hmc hl2
            exact (dead c o2 δ2 hc2 hmc hl2).elim
      · split at hs
        · cases hs
          exact key _ _ rfl (by omega) _ _ (r.share hb) (Ghost.share hm) (share_len _ _) holder
        · cases hs
          exact key _ _ rfl (by omega) _ _ (r.killed_all _) (Ghost.killAll holder) (killAll_len _ _) (fun c hc => by cases hc)
    · rename_i hunk
      have hcu : cap = cap' := by
        rcases hc with ⟨h0, _⟩ | ⟨h0, _⟩
        · exact h0
        · exact absurd (Nat.ble_eq ▸ h0 : Nat.ble UNK cap = true) hunk
      subst hcu
      split at hs
      · rename_i hroom
        simp only [Nat.ble_eq] at hroom
        split at hs
        case h_2 => cases hs
        rename_i h2 d2 hst
        cases hs
        obtain ⟨r2, k1, k2, k3, k4, k5⟩ := r.store hst hm hln
        have e1 : δ + (o + len * i.size) = δ + o + len * i.size := by omega
        rw [e1] at r2 k1 k2
        refine ⟨_, _, m, append_room hu hux hi hylen (hf w rfl) hroom k1 k2 k3, .sl hm hroom hc, m.le_refl, r2, k4⟩
      · rename_i hroom
        simp only [Nat.ble_eq] at hroom
        cases hs
        exact key _ _ rfl (by omega) h [] r (Ghost.refl _ _) rfl (fun c hc => by cases hc)

theorem sim_append {E : Env} {h h' : SHeap} {d d' : List Nat} {w : World} (r : Rel E m h w) (ht : TR nt m t a.tmps) {ts tx ty e ex : TypeId} {i : TypeInfo} {z : Value} (hu : E.P.underlying ts = some (.slice e)) (hux : E.P.underlying tx = some (.slice ex)) (hi : E.P.info? e = some i) (hz : i.zero = some z) (hzs : z.cells.size = i.size) (hsp : 0 < i.size)
    {cx : Cx} {pf : Bool} {x y : Operand} (hx : okO x = true) (hy : okO y = true) {v : Value} (hs : o_append cx e pf i.size i.bytes x y t h d = some (v, h', d')) :
    Does E m h (do pure (Next.value (← Builtin.append_ #[ts, tx] ty #[a.eval x, a.eval y]))) w v h' := by
  unfold o_append at hs
  split at hs
  · rename_i u v h1 h2
    exact (append_val r hu hux hi hz hzs hsp (ev_sim ht hx h1) (ev_sim ht hy h2) hs).does
  · cases hs

end
end Go.Proofs.Ytecncmmkghmojaa.Sh
