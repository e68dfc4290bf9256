/- Roll of the program and of the document. -/
import Derived.Test.YtecncmmkghmojaaXu
set_option linter.all false
namespace Go.Proofs.Ytecncmmkghmojaa.Sh
open Go Geo
set_option maxRecDepth 100000

theorem natV_len (M : List Nat) : (natV M).length = M.length := by simp [natV]
/-- numbers gathered so far, the first one in a slice of its own -/
def Out (lo : Nat) (H h : SHeap) (v : Value) (M : List Nat) : Prop :=
  AccS H h v (natV M) M.length 1 3 ∨ (M.length = 1 ∧ ∃ b, v = .slice (some ⟨b, 0, none⟩) 1 1 ∧ h[b]? = some (.cells (natV M) 3 true 0 []) ∧ lo ≤ b ∧ H.length ≤ h.length ∧ ∀ j, j < H.length → h[j]? = H[j]?)
theorem Out.le {lo : Nat} {H h : SHeap} {v : Value} {M : List Nat} (O : Out lo H h v M) : H.length ≤ h.length ∧ ∀ j, j < H.length → h[j]? = H[j]? := by
  rcases O with A | ⟨_, b, _, _, _, h1, h2⟩
  · exact ⟨A.le, A.same⟩
  · exact ⟨h1, h2⟩
theorem Out.prs {lo : Nat} {H h : SHeap} {v : Value} {M : List Nat} (O : Out lo H h v M) {b o : Nat} {l : List (Int × Int)} (hp : Prs H b o l) : Prs h b o l := hp.same (O.le.2 b hp.lt)
theorem Out.body {lo : Nat} {H h : SHeap} {v : Value} {M : List Nat} (O : Out lo H h v M) {b cb c : Nat} {l : List (Int × Int)} {X Y D : Int} (hb : Body H b cb c l X Y D) : Body h b cb c l X Y D :=
  ⟨by rw [O.le.2 b hb.lt]; exact hb.1, O.prs hb.2⟩
theorem Out.ps {lo : Nat} {H h : SHeap} {v : Value} {M : List Nat} (O : Out lo H h v M) {w : Value} {l : List (Int × Int)} (hw : PS H w l) : PS h w l := by
  obtain ⟨a, c, rfl, k⟩ := hw
  exact ⟨a, c, rfl, fun hn => let ⟨b, o, e, p⟩ := k hn; ⟨b, o, e, O.prs p⟩⟩
theorem Out.push {lo : Nat} {H h : SHeap} {v : Value} {M : List Nat} (O : Out lo H h v M) (hM : M.length ≤ 1000) (g : SHeap) (j : Nat) :
    ∃ H2 v2, (∀ (base : Nat) (d : List Nat), appendS base (h ++ (g ++ [SO.cells [.int .i64 (j : Int)] 3 true 0 []])) d 3 true 1 8 v (.slice (some ⟨h.length + g.length, 0, none⟩) 1 1) = some (v2, H2, d)) ∧ Out lo H H2 v2 (M ++ [j]) := by
  have hbs : (h ++ (g ++ [SO.cells [.int .i64 (j : Int)] 3 true 0 []]))[h.length + g.length]? = some (.cells [.int .i64 (j : Int)] 3 true 0 []) := by rw [app_get, app_get0]; rfl
  rcases O with A | ⟨h1, b, rfl, h3, h4, h5, h6⟩
  · obtain ⟨H2, v2, ap, -, A2, -, -⟩ := (A.app (g ++ [SO.cells [.int .i64 (j : Int)] 3 true 0 []])).push (bytes := 8) hbs rfl rfl (by decide) rfl (by decide) (by omega)
    refine ⟨H2, v2, ap, .inl ?_⟩
    rw [natV_app, natV_one, List.length_append]; exact A2
  · have hbl : b < h.length := (List.getElem?_eq_some_iff.1 h3).1
    obtain ⟨H2, v2, ap, A2⟩ := full_push (H0 := H) (h := h ++ (g ++ [SO.cells [.int .i64 (j : Int)] 3 true 0 []])) (b := b) (n := 1) (s := 1) (cs := natV M) (el := 3) (bytes := 8) (by simp; omega) (fun j hj => by rw [List.getElem?_append_left (by omega)]; exact h6 j hj)
      (by rw [List.getElem?_append_left hbl]; exact h3) rfl (by rw [natV_len, h1]) (by decide) (by decide) (natV_sc _) hbs rfl rfl (by decide) rfl (by decide) (by omega)
    refine ⟨H2, v2, ap, .inl ?_⟩
    rw [natV_app, natV_one, List.length_append, h1]; exact A2
/-- numbers gathered are returned -/
theorem Out.ret1 {lo : Nat} {H g h : SHeap} {v : Value} {M : List Nat} (O : Out lo (H ++ g) h v M) (hlo : H.length ≤ lo) {i : Nat} {ρ : Reg} (hv : ρ i = v) :
    ∃ r, (∃ u k, r = (u, H ++ k, []) ∧ IS (H ++ k) u (M.map fun (i : Nat) => (i : Int))) ∧ callQ [.tmp i] H.length r .ret ρ [] h [] := by
  rcases O with A | ⟨h1, b, rfl, h3, h4, h5, h6⟩
  · obtain ⟨k, hk⟩ := resH_app H (natV M) M.length 3
    have := IS.ofRes H [] M 3
    rw [hk, List.append_nil] at this
    exact ⟨_, ⟨resV H M.length 1, k, rfl, this⟩, A.q1 rfl hk.symm hv⟩
  · have ht : h.take H.length = H := take_of_same (by simp at h5; omega) (fun j hj => by rw [h6 j (by simp; omega), List.getElem?_append_left hj])
    refine ⟨_, ⟨_, _, rfl, ?_⟩, q_own1 hv ht h3 rfl (by omega)⟩
    exact ⟨_, 1, by rw [List.length_map, h1], fun _ => ⟨_, rfl, 3, true, 0, _, by rw [app_get0]; rfl, rfl⟩⟩
theorem Out.ret2 {lo : Nat} {H g h : SHeap} {v : Value} {M : List Nat} (O : Out lo (H ++ g) h v M) (hlo : H.length ≤ lo) {i j : Nat} {ρ : Reg} (w : Value) (hv : ρ i = v) (hj : ρ j = w) (hw : flat 1 w = true) :
    ∃ r, (∃ u k, r = (.tuple #[u, w], H ++ k, []) ∧ IS (H ++ k) u (M.map fun (i : Nat) => (i : Int))) ∧ callQ [.tmp i, .tmp j] H.length r .ret ρ [] h [] := by
  rcases O with A | ⟨h1, b, rfl, h3, h4, h5, h6⟩
  · obtain ⟨k, hk⟩ := resH_app H (natV M) M.length 3
    have := IS.ofRes H [] M 3
    rw [hk, List.append_nil] at this
    exact ⟨_, ⟨resV H M.length 1, k, rfl, this⟩, A.q2 w rfl hk.symm hv hj hw⟩
  · have ht : h.take H.length = H := take_of_same (by simp at h5; omega) (fun j hj => by rw [h6 j (by simp; omega), List.getElem?_append_left hj])
    refine ⟨_, ⟨_, _, rfl, ?_⟩, q_own2 hv hj hw ht h3 rfl (by omega)⟩
    exact ⟨_, 1, by rw [List.length_map, h1], fun _ => ⟨_, rfl, 3, true, 0, _, by rw [app_get0]; rfl, rfl⟩⟩
theorem Out.app {lo : Nat} {H h : SHeap} {v : Value} {M : List Nat} (O : Out lo H h v M) (g : SHeap) : Out lo H (h ++ g) v M := by
  rcases O with A | ⟨h1, b, h2, h3, h4, h5, h6⟩
  · exact .inl (A.app _)
  · have hbl : b < h.length := (List.getElem?_eq_some_iff.1 h3).1
    exact .inr ⟨h1, b, h2, by rw [List.getElem?_append_left hbl]; exact h3, h4, by simp; omega, fun j hj => by rw [List.getElem?_append_left (by omega)]; exact h6 j hj⟩
theorem Out.one {H : SHeap} {b : Nat} (i : Nat) (hb : H[b]? = some (.cells [.int .i64 (i : Int)] 3 true 0 [])) : Out b H H (.slice (some ⟨b, 0, none⟩) 1 1) [i] :=
  .inr ⟨rfl, b, rfl, hb, Nat.le_refl _, Nat.le_refl _, fun j hj => rfl⟩

end Go.Proofs.Ytecncmmkghmojaa.Sh

