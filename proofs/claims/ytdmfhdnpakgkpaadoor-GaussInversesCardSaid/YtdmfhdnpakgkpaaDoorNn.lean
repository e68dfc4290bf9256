/- Numbers of the chapter: the first of the associates, the program's and the document's. -/
import Derived.Test.YtdmfhdnpakgkpaaDoorNm
set_option linter.all false
namespace Go.Proofs.YtdmfhdnpakgkpaaDoor.Sh
open Go
set_option maxRecDepth 100000

theorem JF.cut {n : Nat} {x : Int × Int} {t : T} {H h : SHeap} (J : JF n x t H h) : JF n x t H (h.take (n + 5)) := by
  have jl := J.len
  have key : ∀ j, j < n + 5 → (h.take (n + 5))[j]? = h[j]? := fun j hj => by rw [List.getElem?_take, if_pos hj]
  exact ⟨by simp; omega, fun j hj => by rw [key j (by omega)]; exact J.low j hj, by rw [key _ (by omega)]; exact J.c0, by rw [key _ (by omega)]; exact J.c1, by rw [key _ (by omega)]; exact J.c2, by rw [key _ (by omega)]; exact J.df, by rw [key _ (by omega)]; exact J.lp⟩
theorem JG.cut {n : Nat} {x u : Int × Int} {t : T} {H h : SHeap} (J : JG n x u t H h) : JG n x u t H (h.take (n + 5)) := by
  have jl := J.len
  have key : ∀ j, j < n + 5 → (h.take (n + 5))[j]? = h[j]? := fun j hj => by rw [List.getElem?_take, if_pos hj]
  exact ⟨by simp; omega, fun j hj => by rw [key j (by omega)]; exact J.low j hj, by rw [key _ (by omega)]; exact J.c1, by rw [key _ (by omega)]; exact J.c2, by rw [key _ (by omega)]; exact J.df, by rw [key _ (by omega)]; exact J.lp⟩

theorem units109 {n : Nat} {x : Int × Int} {t : T} {H H1 : SHeap} (hx : Bd 1000000000 x) (hf : Full 5 t) (t1 : t.get 1 = .pointer (some ⟨n, 0, none⟩)) (t2 : t.get 2 = .pointer (some ⟨n + 1, 0, none⟩)) (t3 : t.get 3 = .pointer (some ⟨n + 2, 0, none⟩)) (J : JF n x t H H1) (hl : H1.length = n + 5) :
    ∃ hF, M.call 109 [.func (.yield (n + 4)) #[] #[]] H1 = some (.tuple #[], hF, []) ∧ (JG n x (firstU x) t H hF ∨ (firstU x = (1, 0) ∧ JF n x t H hF)) := by
  have key : ∃ r, (∃ hF, r = (Value.tuple #[], hF, ([] : List Nat)) ∧ (JG n x (firstU x) t H hF ∨ (firstU x = (1, 0) ∧ JF n x t H hF))) ∧ M.call 109 [.func (.yield (n + 4)) #[] #[]] H1 = some r := by
    refine call_ex (f := 109) _ sf109 rfl rfl rfl ?_
    unfold sf109
    repeat (first | apply run_seq | apply run_block | apply end_seq | apply end_blk_hit | apply end_blk_miss rfl | apply end_blk | apply end_seq_exit | apply end_seq_ret | apply end_blk_ret | apply run_skip | apply run_ret | apply run_exit | (apply run_region (by decide); (simp (maxSteps := 9999999) only [go_sem, argR]; rfl)) | (apply run_regionN (by decide); (simp (maxSteps := 9999999) only [go_sem, argR]; rfl)) | (refine run_cond_t ?_ ?_; · simp only [go_sem]) | (refine run_cond_f ?_ ?_; · simp only [go_sem]))
    refine run_loop (units_loop (H := H) _ hx hf t1 t2 t3 4 _ _ _ _ ⟨0, H1.length, rfl, by omega, by simp (maxSteps := 9999999) only [go_sem, argR], by simp (maxSteps := 9999999) only [go_sem], by omega, by rw [app_get0]; rfl, ?_, fun i hi => by omega, rfl, rfl⟩) ?_
    · have key : ∀ j, j < n + 5 → (H1 ++ [SO.cells [.int .i64 1, .int .i64 0] 68 true 0 []])[j]? = H1[j]? := fun j hj => List.getElem?_append_left (by omega)
      exact ⟨by simp; omega, fun j hj => by rw [key j (by omega)]; exact J.low j hj, by rw [key _ (by omega)]; exact J.c0, by rw [key _ (by omega)]; exact J.c1, by rw [key _ (by omega)]; exact J.c2, by rw [key _ (by omega)]; exact J.df, by rw [key _ (by omega)]; exact J.lp⟩
    rintro ex ρ' ms' h1 d1 ⟨rfl, rfl, ⟨rfl, G⟩ | ⟨rfl, hu, _, J'⟩⟩
    · repeat (first | apply run_seq | apply run_block | apply end_seq | apply end_blk_hit | apply end_blk_miss rfl | apply end_blk | apply end_seq_exit | apply end_seq_ret | apply end_blk_ret | apply run_skip | apply run_ret | apply run_exit | (apply run_region (by decide); (simp (maxSteps := 9999999) only [go_sem]; rfl)) | (apply run_regionN (by decide); (simp (maxSteps := 9999999) only [go_sem]; rfl)) | (refine run_cond_t ?_ ?_; · simp only [go_sem]) | (refine run_cond_f ?_ ?_; · simp only [go_sem]))
      exact end_nil ⟨_, ⟨h1.take (n + 5), rfl, .inl G.cut⟩, q_free [] rfl rfl rfl rfl (fun _ => rfl) (by rw [hl]) rfl⟩
    · repeat (first | apply run_seq | apply run_block | apply end_seq | apply end_blk_hit | apply end_blk_miss rfl | apply end_blk | apply end_seq_exit | apply end_seq_ret | apply end_blk_ret | apply run_skip | apply run_ret | apply run_exit | (apply run_region (by decide); (simp (maxSteps := 9999999) only [go_sem]; rfl)) | (apply run_regionN (by decide); (simp (maxSteps := 9999999) only [go_sem]; rfl)) | (refine run_cond_t ?_ ?_; · simp only [go_sem]) | (refine run_cond_f ?_ ?_; · simp only [go_sem]))
      exact end_nil ⟨_, ⟨h1.take (n + 5), rfl, .inr ⟨hu, J'.cut⟩⟩, q_free [] rfl rfl rfl rfl (fun _ => rfl) (by rw [hl]) rfl⟩
  obtain ⟨r, ⟨hF, rfl, k⟩, e⟩ := key
  exact ⟨hF, e, k⟩

/-- first -/
theorem first73 {x : Int × Int} (hx : Bd 1000000000 x) (h : SHeap) : M.call 73 [agV x] h = some (.tuple #[agV (firP x).1, agV (firP x).2], h, []) := by
  have c88 : ∀ h, M.call 88 [] h = some (.func (.func 109) #[] #[], h, []) := by
    intro h
    refine call_run sf88 rfl rfl rfl ?_
    unfold sf88
    repeat (first | apply run_seq | apply run_block | apply end_seq | apply end_blk_hit | apply end_blk_miss rfl | apply end_blk | apply end_seq_exit | apply end_seq_ret | apply end_blk_ret | apply run_skip | apply run_ret | apply run_exit | (apply run_region (by decide); (simp (maxSteps := 9999999) only [go_sem, argR]; rfl)) | (apply run_regionN (by decide); (simp (maxSteps := 9999999) only [go_sem, argR]; rfl)) | (refine run_cond_t ?_ ?_; · simp only [go_sem]) | (refine run_cond_f ?_ ?_; · simp only [go_sem]))
    exact end_nil (q_free [.func (.func 109) #[] #[]] (by simp (maxSteps := 9999999) only [go_sem]) rfl rfl rfl (fun _ => rfl) (take_self _) rfl)
  refine call_run sf73 rfl rfl rfl ?_
  unfold sf73
  repeat (first | apply run_seq | apply run_block | apply end_seq | apply end_blk_hit | apply end_blk_miss rfl | apply end_blk | apply end_seq_exit | apply end_seq_ret | apply end_blk_ret | apply run_skip | apply run_ret | apply run_exit | (apply run_region (by decide); (simp (maxSteps := 9999999) only [go_sem, argR, c88]; rfl)) | (apply run_regionN (by decide); (simp (maxSteps := 9999999) only [go_sem, argR, c88]; rfl)) | (refine run_cond_t ?_ ?_; · simp only [go_sem]) | (refine run_cond_f ?_ ?_; · simp only [go_sem]))
  show Run M _ 5 (.rangeFunc (.tmp 6) [7] rfA73_0 rfB73_0) _ _ _ _ _ _
  refine run_range (g := 109) (caps := #[]) rfl (by simp (maxSteps := 9999999) only [go_sem]) ?_
  intro t hf ht
  have t1 : t.get 1 = .pointer (some ⟨h.length, 0, none⟩) := by rw [ht]; simp (maxSteps := 9999999) only [go_sem]
  have t2 : t.get 2 = .pointer (some ⟨h.length + 1, 0, none⟩) := by rw [ht]; simp (maxSteps := 9999999) only [go_sem]
  have t3 : t.get 3 = .pointer (some ⟨h.length + 2, 0, none⟩) := by rw [ht]; simp (maxSteps := 9999999) only [go_sem]
  rw [← ht]
  have hl : (h ++ [SO.cells [.int .i64 x.1, .int .i64 x.2] 68 true 0 [], SO.cells [.int .i64 0, .int .i64 0] 68 true 0 [], SO.cells [.int .i64 0, .int .i64 0] 68 true 0 []]).length = h.length + 3 := by simp
  have J : JF h.length x t h (h ++ [SO.cells [.int .i64 x.1, .int .i64 x.2] 68 true 0 [], SO.cells [.int .i64 0, .int .i64 0] 68 true 0 [], SO.cells [.int .i64 0, .int .i64 0] 68 true 0 []] ++ [.deferred, .loop 0 73 t [7] rfA73_0 rfB73_0 none (h.length + 3)]) := by
    rw [List.append_assoc]
    exact ⟨by simp, fun j hj => List.getElem?_append_left hj, by rw [app_get0]; rfl, by rw [app_get]; rfl, by rw [app_get]; rfl, by rw [app_get]; rfl, by rw [app_get]; rfl⟩
  obtain ⟨hF, e, k⟩ := units109 hx hf t1 t2 t3 J (by simp)
  rw [hl]
  rcases k with G | ⟨hu, J'⟩
  · refine ⟨_, hF, [], e, _, _, _, _, _, _, _, _, G.lp, rfl, .inr ⟨rfl, ?_⟩⟩
    rw [setLoop_eq G.lp]
    have gl := G.len
    repeat (first | apply run_seq | apply run_block | apply end_seq | apply end_blk_hit | apply end_blk_miss rfl | apply end_blk | apply end_seq_exit | apply end_seq_ret | apply end_blk_ret | apply run_skip | apply run_ret | apply run_exit | (apply run_region (by decide); (simp (maxSteps := 9999999) only [go_sem]; rfl)) | (apply run_regionN (by decide); (simp (maxSteps := 9999999) only [go_sem]; rfl)) | (refine run_cond_t ?_ ?_; · simp only [go_sem]) | (refine run_cond_f ?_ ?_; · simp only [go_sem]))
    have sh : shut (hF.set (h.length + 4) (.loop 3 73 t [7] rfA73_0 rfB73_0 (some .ret) (h.length + 3))) [h.length + 3] = some ((hF.set (h.length + 4) (.loop 3 73 t [7] rfA73_0 rfB73_0 (some .ret) (h.length + 3))).set (h.length + 3) .gone) := by
      simp only [shut]
      rw [List.getElem?_set_ne (by omega), G.df]
    have l1 : loadS ((hF.set (h.length + 4) (.loop 3 73 t [7] rfA73_0 rfB73_0 (some .ret) (h.length + 3))).set (h.length + 3) .gone) (some 2) (.pointer (some ⟨h.length + 1, 0, none⟩)) = some (agV (mulP x (firstU x))) := by
      rw [load_rdON, List.getElem?_set_ne (by omega), List.getElem?_set_ne (by omega), G.c1]; rfl
    have l2 : loadS ((hF.set (h.length + 4) (.loop 3 73 t [7] rfA73_0 rfB73_0 (some .ret) (h.length + 3))).set (h.length + 3) .gone) (some 2) (.pointer (some ⟨h.length + 2, 0, none⟩)) = some (agV (conjP (firstU x))) := by
      rw [load_rdON, List.getElem?_set_ne (by omega), List.getElem?_set_ne (by omega), G.c2]; rfl
    refine end_nil (q_any [agV (mulP x (firstU x)), agV (conjP (firstU x))] sh (by simp (maxSteps := 9999999) only [go_sem, t2, t3, l1, l2]) rfl rfl rfl (fun _ => rfl) ?_ rfl)
    exact take_of_same (by simp; omega) (fun j hj => by rw [List.getElem?_set_ne (by omega), List.getElem?_set_ne (by omega)]; exact G.low j hj)
  · refine ⟨_, hF, [], e, _, _, _, _, _, _, _, _, J'.lp, rfl, .inl ⟨rfl, ?_⟩⟩
    rw [setLoop_eq J'.lp]
    have jl := J'.len
    have g0 : ∀ j, j ≠ h.length + 4 → (hF.set (h.length + 4) (.loop 3 73 t [7] rfA73_0 rfB73_0 none (h.length + 3)))[j]? = hF[j]? := fun j hj => by rw [List.getElem?_set_ne (by omega)]
    have gln : (hF.set (h.length + 4) (.loop 3 73 t [7] rfA73_0 rfB73_0 none (h.length + 3))).length = hF.length := by simp
    generalize hF.set (h.length + 4) (.loop 3 73 t [7] rfA73_0 rfB73_0 none (h.length + 3)) = G at *
    have b0 : loadS G (some 2) (.pointer (some ⟨h.length, 0, none⟩)) = some (.agg #[.int .i64 x.1, .int .i64 x.2]) := by
      rw [load_rdON, g0 _ (by omega), J'.c0]; rfl
    have b1 : G[h.length + 1]? = some (.cells [.int .i64 0, .int .i64 0] 68 true 0 []) := by rw [g0 _ (by omega), J'.c1]
    have b2 : ∀ X, (G.set (h.length + 1) X)[h.length + 2]? = some (.cells [.int .i64 0, .int .i64 0] 68 true 0 []) := fun X => by
      rw [List.getElem?_set_ne (by omega), g0 _ (by omega), J'.c2]
    have b0' : ∀ X, loadS (G.set (h.length + 1) X) (some 2) (.pointer (some ⟨h.length, 0, none⟩)) = some (.agg #[.int .i64 x.1, .int .i64 x.2]) := fun X => by
      rw [load_rdON, List.getElem?_set_ne (by omega), g0 _ (by omega), J'.c0]; rfl
    repeat (first | apply run_seq | apply run_block | apply end_seq | apply end_blk_hit | apply end_blk_miss rfl | apply end_blk | apply end_seq_exit | apply end_seq_ret | apply end_blk_ret | apply run_skip | apply run_ret | apply run_exit | (apply run_region (by decide); (simp (maxSteps := 9999999) only [go_sem, t1, t2, t3, b0, b1, b2, b0']; rfl)) | (apply run_regionN (by decide); (simp (maxSteps := 9999999) only [go_sem, t1, t2, t3, b0, b1, b2, b0']; rfl)) | (refine run_cond_t ?_ ?_; · simp only [go_sem]) | (refine run_cond_f ?_ ?_; · simp only [go_sem]))
    have f1 : (firP x).1 = x := by unfold firP; rw [hu, mul_one]
    have f2 : (firP x).2 = (1, 0) := by unfold firP; rw [hu]; show conjP (1, 0) = (1, 0); decide
    rw [f1, f2]
    have sh : ∀ X Y, shut ((G.set (h.length + 1) X).set (h.length + 2) Y) [h.length + 3] = some (((G.set (h.length + 1) X).set (h.length + 2) Y).set (h.length + 3) .gone) := fun X Y => by
      simp only [shut]
      rw [List.getElem?_set_ne (by omega), List.getElem?_set_ne (by omega), g0 _ (by omega), J'.df]
    have l1 : ∀ X Y Z, loadS (((G.set (h.length + 1) X).set (h.length + 2) Y).set (h.length + 3) Z) (some 2) (.pointer (some ⟨h.length + 1, 0, none⟩)) = rdON (some X) 0 2 := fun X Y Z => by
      rw [load_rdON, List.getElem?_set_ne (by omega), List.getElem?_set_ne (by omega), List.getElem?_set_self (by omega)]
    have l2 : ∀ X Y Z, loadS (((G.set (h.length + 1) X).set (h.length + 2) Y).set (h.length + 3) Z) (some 2) (.pointer (some ⟨h.length + 2, 0, none⟩)) = rdON (some Y) 0 2 := fun X Y Z => by
      rw [load_rdON, List.getElem?_set_ne (by omega), List.getElem?_set_self (by simp; omega)]
    refine end_nil (q_any [agV x, agV (1, 0)] (sh _ _) (by simp (maxSteps := 9999999) only [go_sem, t2, t3, l1, l2]) rfl rfl rfl (fun _ => rfl) ?_ rfl)
    exact take_of_same (by simp; omega) (fun j hj => by rw [List.getElem?_set_ne (by omega), List.getElem?_set_ne (by omega), List.getElem?_set_ne (by omega), g0 _ (by omega)]; exact J'.low j hj)
end Go.Proofs.YtdmfhdnpakgkpaaDoor.Sh

