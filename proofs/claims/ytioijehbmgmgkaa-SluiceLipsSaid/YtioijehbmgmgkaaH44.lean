/- awake of sluice answers true: what is known of it is known of the program. -/
import Derived.Test.YtioijehbmgmgkaaShAw
import Derived.Test.YtioijehbmgmgkaaShTb
import Derived.Test.YtioijehbmgmgkaaH41
set_option linter.all false
namespace Go.Proofs.Ytioijehbmgmgkaa.Sh
open Go Go.RowKit
set_option maxRecDepth 1000000
def CA : FuncId → List Value → Option Value
  | 20, [] => some (.bool true)
  | _, _ => none
noncomputable abbrev M : Rec := big FT (flatK CA)
theorem awake_call (h : SHeap) : M.call 20 [] h = some (.bool true, h, []) := big_known (by rfl)
theorem snd_step {R : Rec} {k : Nat} (S : Sound Try.prog R k) : Sound Try.prog (stepR FT R) (k + 1) :=
  ⟨call_ok mixed tab S.call S.round S.loop S.ckeep S.rkeep S.lkeep, round_ok mixed S.call S.round S.loop, loop_ok mixed S.call S.round S.loop,
   call_keep S.ckeep S.rkeep S.lkeep, round_keep S.ckeep S.rkeep S.lkeep, loop_keep S.ckeep S.rkeep S.lkeep⟩
theorem awake_known : Known Try.prog 20 ∧ Always Try.prog 20 [] (.bool true) := by
  have S0 : Sound Try.prog noRec 0 := snd 0
  have S1 := snd_step (overN_ok (notes_ok mixed tab (snd 60)) S0)
  have e : (stepR FT (overN notes noRec)).call 20 [] [] = some (.bool true, [], []) := rEq_eq awake_run
  exact always_of S1 (f := 20) (args := []) (v := .bool true) (h' := []) (d' := []) e rfl rfl
theorem CA_ok : ContractOK Try.prog CA := by
  intro f args v h
  unfold CA at h
  split at h
  · cases h
    exact ⟨rfl, rfl, awake_known.1, awake_known.2⟩
  · cases h
theorem only : ((List.range Try.prog.globals.size).all fun g => (laidG Try.prog g).isNone) = true := by kernel_rfl
theorem globW (W : World) : GlobW Try.prog W := by
  intro g l hg
  have hlt : g < Try.prog.globals.size := by
    unfold laidG at hg
    split at hg
    · rename_i v hv; exact (Array.getElem?_eq_some_iff.1 hv).1
    · cases hg
  have ho := List.all_eq_true.1 only g (List.mem_range.2 hlt)
  rw [hg] at ho
  cases ho
end Go.Proofs.Ytioijehbmgmgkaa.Sh

namespace Go.Proofs.Ytioijehbmgmgkaa.Sh
open Go
set_option maxRecDepth 100000
set_option maxHeartbeats 1000000
def Seg (h : SHeap) (b o : Nat) (cs : List Value) : Prop := ∃ pre post el pf own old, h[b]? = some (.cells (pre ++ (cs ++ post)) el pf own old) ∧ readable own = true ∧ pre.length = o
theorem Seg.lt {h : SHeap} {b o : Nat} {cs : List Value} (k : Seg h b o cs) : b < h.length := by
  obtain ⟨_, _, _, _, _, _, e, _⟩ := k
  exact (List.getElem?_eq_some_iff.1 e).1
theorem Seg.fr {h h' : SHeap} {b o : Nat} {cs : List Value} (k : Seg h b o cs) (e : h'[b]? = h[b]?) : Seg h' b o cs := by
  obtain ⟨pre, post, el, pf, own, old, h1, h2, h3⟩ := k
  exact ⟨pre, post, el, pf, own, old, by rw [e]; exact h1, h2, h3⟩
theorem Seg.ld1 {h : SHeap} {b o k : Nat} {cs : List Value} (s : Seg h b o cs) (hk : k < cs.length) : loadS h none (.pointer (some ⟨b, o + k, none⟩)) = cs[k]? := by
  obtain ⟨pre, post, el, pf, own, old, h1, h2, rfl⟩ := s
  rw [load_rdO, h1, rdO_cells, if_pos h2, List.getElem?_append_right (by omega), Nat.add_sub_cancel_left, List.getElem?_append_left hk]
theorem Seg.ldN {h : SHeap} {b o k n : Nat} {cs : List Value} (s : Seg h b o cs) (hk : k + n ≤ cs.length) : loadS h (some n) (.pointer (some ⟨b, o + k, none⟩)) = some (.agg ((cs.drop k).take n).toArray) := by
  obtain ⟨pre, post, el, pf, own, old, h1, h2, rfl⟩ := s
  have e1 : ((pre ++ (cs ++ post)).drop (pre.length + k)).take n = (cs.drop k).take n := by
    rw [List.drop_append, Nat.add_sub_cancel_left, List.drop_eq_nil_of_le (by omega), List.nil_append, List.drop_append_of_le_length (by omega), List.take_append_of_le_length (by rw [List.length_drop]; omega)]
  have e2 : Nat.ble (pre.length + k + n) (pre ++ (cs ++ post)).length = true := by rw [ble_dec]; simp; omega
  rw [load_rdON, h1, rdON_cells, h2, e2, e1]; rfl
theorem Seg.seen {h : SHeap} {b o n : Nat} {cs : List Value} (s : Seg h b o cs) (hn : n ≤ cs.length) : rdN h b o n = some (cs.take n) := by
  obtain ⟨pre, post, el, pf, own, old, h1, h2, rfl⟩ := s
  have e1 : ((pre ++ (cs ++ post)).drop pre.length).take n = cs.take n := by
    rw [List.drop_left, List.take_append_of_le_length hn]
  rw [rdN_def, h1]
  dsimp only
  rw [h2, ble_dec, decide_eq_true (by simp; omega), e1]; rfl
theorem Seg.mk0 {h : SHeap} {b : Nat} {cs : List Value} {el : TypeId} {pf : Bool} {own : Nat} {old : List Nat} (hb : h[b]? = some (.cells cs el pf own old)) (ho : readable own = true) : Seg h b 0 cs :=
  ⟨[], [], el, pf, own, old, by simpa using hb, ho, rfl⟩
theorem Seg.dropN {h : SHeap} {b o k : Nat} {cs : List Value} (s : Seg h b o cs) (hk : k ≤ cs.length) : Seg h b (o + k) (cs.drop k) := by
  obtain ⟨pre, post, el, pf, own, old, h1, h2, rfl⟩ := s
  refine ⟨pre ++ cs.take k, post, el, pf, own, old, ?_, h2, by simp; omega⟩
  rw [h1]
  have : pre ++ (cs ++ post) = pre ++ cs.take k ++ (cs.drop k ++ post) := by
    rw [List.append_assoc, ← List.append_assoc (cs.take k), List.take_append_drop]
  rw [this]
def capOK (n c s : Nat) : Prop := (n ≤ c ∧ c < UNK) ∨ c = UNK + s
def SL (h : SHeap) (v : Value) (cs : List Value) (n s : Nat) : Prop := ∃ a c, v = .slice a n c ∧ capOK n c s ∧ cs.length = n * s ∧ (a = none ∧ c < UNK ∧ n = 0 ∨ ∃ b o, a = some ⟨b, o, none⟩ ∧ (n ≠ 0 → Seg h b o cs))
theorem SL.fr {H h : SHeap} {v : Value} {cs : List Value} {n s : Nat} (k : SL H v cs n s) (fr : ∀ j, j < H.length → h[j]? = H[j]?) : SL h v cs n s := by
  obtain ⟨a, c, e, h1, h2, h3⟩ := k
  refine ⟨a, c, e, h1, h2, ?_⟩
  rcases h3 with h3 | ⟨b, o, h3, h4⟩
  · exact .inl h3
  · exact .inr ⟨b, o, h3, fun hn => (h4 hn).fr (fr b (h4 hn).lt)⟩
theorem SL.app {H : SHeap} {v : Value} {cs : List Value} {n s : Nat} (k : SL H v cs n s) (g : SHeap) : SL (H ++ g) v cs n s := k.fr (fun j hj => List.getElem?_append_left hj)
theorem SL.ld {H : SHeap} {v : Value} {cs : List Value} {n s : Nat} (k : SL H v cs n s) (hn : n ≠ 0) : ∃ b o c, v = .slice (some ⟨b, o, none⟩) n c ∧ Seg H b o cs := by
  obtain ⟨a, c, e, h1, h2, h3⟩ := k
  rcases h3 with ⟨_, _, h3⟩ | ⟨b, o, rfl, h4⟩
  · exact (hn h3).elim
  · exact ⟨b, o, c, e, h4 hn⟩
theorem SL.shape {H : SHeap} {v : Value} {cs : List Value} {n s : Nat} (k : SL H v cs n s) : ∃ a c, v = .slice a n c := by
  obtain ⟨a, c, e, _⟩ := k
  exact ⟨a, c, e⟩
theorem AccS.sl {H h : SHeap} {v : Value} {cs : List Value} {n s : Nat} {el : TypeId} (A : AccS H h v cs n s el) : SL h v cs n s := by
  rcases A.acc with ⟨rfl, rfl, rfl⟩ | ⟨b, old, rfl, h1, h2, _⟩
  · exact ⟨none, 0, rfl, .inl ⟨Nat.le_refl _, by decide⟩, by simp, .inl ⟨rfl, by decide, rfl⟩⟩
  · exact ⟨_, _, rfl, .inr rfl, h2, .inr ⟨b, 0, rfl, fun _ => Seg.mk0 h1 rfl⟩⟩
def IS (h : SHeap) (v : Value) (l : List Int) : Prop := SL h v (l.map mkI) l.length 1
theorem IS.fr {H h : SHeap} {v : Value} {l : List Int} (k : IS H v l) (fr : ∀ j, j < H.length → h[j]? = H[j]?) : IS h v l := SL.fr k fr
theorem IS.app {H : SHeap} {v : Value} {l : List Int} (k : IS H v l) (g : SHeap) : IS (H ++ g) v l := SL.app k g
theorem IS.ld {H : SHeap} {v : Value} {l : List Int} (k : IS H v l) (hl : 0 < l.length) : ∃ b o c, v = .slice (some ⟨b, o, none⟩) l.length c ∧ ∀ (i : Nat) (hi : i < l.length), loadS H none (.pointer (some ⟨b, o + i, none⟩)) = some (.int .i64 l[i]) := by
  obtain ⟨b, o, c, e, h⟩ := SL.ld k (by omega)
  refine ⟨b, o, c, e, fun i hi => ?_⟩
  rw [h.ld1 (by simpa using hi), List.getElem?_map, List.getElem?_eq_getElem hi]; rfl
abbrev T3 := Int × Int × Int
def cel3 (x : T3) : List Value := [.int .i64 x.1, .int .i64 x.2.1, .int .i64 x.2.2]
def trs : List T3 → List Value
  | [] => []
  | x :: l => cel3 x ++ trs l
theorem trs_len : ∀ l : List T3, (trs l).length = l.length * 3
  | [] => rfl
  | x :: l => by simp [trs, cel3, trs_len l]; omega
theorem trs_app : ∀ l m : List T3, trs (l ++ m) = trs l ++ trs m
  | [], _ => rfl
  | x :: l, m => by simp [trs, trs_app l m]
theorem trs_sc : ∀ l : List T3, (trs l).all sc = true
  | [] => rfl
  | x :: l => by rw [trs, List.all_append, trs_sc l]; rfl
theorem trs_drop : ∀ (l : List T3) (i : Nat), (trs l).drop (i * 3) = trs (l.drop i)
  | l, 0 => by simp
  | [], i + 1 => by simp [trs]
  | x :: l, i + 1 => by
    have := trs_drop l i
    rw [show (i + 1) * 3 = i * 3 + 3 from by omega]
    simpa [trs, cel3] using this
theorem trs_take : ∀ (l : List T3) (i : Nat), (trs l).take (i * 3) = trs (l.take i)
  | l, 0 => by simp [trs]
  | [], i + 1 => by simp [trs]
  | x :: l, i + 1 => by
    have := trs_take l i
    rw [show (i + 1) * 3 = i * 3 + 3 from by omega]
    simpa [trs, cel3] using this
theorem trs_at {l : List T3} {i : Nat} (hi : i < l.length) : (trs l).drop (i * 3) = cel3 l[i] ++ trs (l.drop (i + 1)) := by
  rw [trs_drop, List.drop_eq_getElem_cons hi]; rfl
theorem cel3_take (x : T3) (r : List Value) : (cel3 x ++ r).take 3 = cel3 x := rfl
def ES (h : SHeap) (v : Value) (l : List T3) : Prop := SL h v (trs l) l.length 3
theorem ES.fr {H h : SHeap} {v : Value} {l : List T3} (k : ES H v l) (fr : ∀ j, j < H.length → h[j]? = H[j]?) : ES h v l := SL.fr k fr
theorem ES.app {H : SHeap} {v : Value} {l : List T3} (k : ES H v l) (g : SHeap) : ES (H ++ g) v l := SL.app k g
theorem ES.ld {H : SHeap} {v : Value} {l : List T3} (k : ES H v l) (hl : 0 < l.length) : ∃ b o c, v = .slice (some ⟨b, o, none⟩) l.length c ∧ ∀ (i : Nat) (hi : i < l.length),
    loadS H (some 3) (.pointer (some ⟨b, o + i * 3, none⟩)) = some (.agg #[.int .i64 l[i].1, .int .i64 l[i].2.1, .int .i64 l[i].2.2]) ∧ loadS H none (.pointer (some ⟨b, o + i * 3, none⟩)) = some (.int .i64 l[i].1) ∧
    loadS H none (.pointer (some ⟨b, o + i * 3 + 1, none⟩)) = some (.int .i64 l[i].2.1) ∧ loadS H none (.pointer (some ⟨b, o + i * 3 + 2, none⟩)) = some (.int .i64 l[i].2.2) := by
  obtain ⟨b, o, c, e, h⟩ := SL.ld k (by omega)
  refine ⟨b, o, c, e, fun i hi => ?_⟩
  have hl := trs_len l
  have hd := trs_at hi
  have hg : ∀ j, j < 3 → (trs l)[i * 3 + j]? = (cel3 l[i])[j]? := fun j hj => by
    have e : (trs l)[i * 3 + j]? = ((trs l).drop (i * 3))[j]? := by rw [List.getElem?_drop]
    rw [e, hd, List.getElem?_append_left (by exact hj)]
  refine ⟨?_, ?_, ?_, ?_⟩
  · rw [h.ldN (by omega), hd, cel3_take]; rfl
  · rw [h.ld1 (by omega)]; exact hg 0 (by omega)
  · rw [Nat.add_assoc, h.ld1 (by omega)]; exact hg 1 (by omega)
  · rw [Nat.add_assoc, h.ld1 (by omega)]; exact hg 2 (by omega)
theorem slice_to' {a : Option Addr} {n c s k : Nat} (hk : k ≤ n) (hc : capOK n c s) (ha : a = none ∧ c < UNK ∨ ∃ b o, a = some ⟨b, o, none⟩) : sliceS s (.slice a n c) none (some (.int .i64 (k : Int))) none = some (.slice a k c) := by
  unfold sliceS
  rcases hc with ⟨h1, h2⟩ | rfl
  · have e1 : Nat.ble UNK c = false := by rw [ble_dec]; exact decide_eq_false (by omega)
    have e2 : Nat.blt c UNK = true := by rw [blt_dec]; simpa using h2
    have hkc : k ≤ c := by omega
    rcases ha with ⟨rfl, _⟩ | ⟨b, o, rfl⟩
    · simp [bMx, bHi, bLo, bnd, e1, hkc]
    · simp [bMx, bHi, bLo, bnd, e1, e2, hkc]
  · have e1 : Nat.ble UNK (UNK + s) = true := by rw [ble_dec]; simp
    have e3 : Nat.beq (UNK + s) (UNK + s) = true := Nat.beq_refl _
    rcases ha with ⟨_, h⟩ | ⟨b, o, rfl⟩
    · omega
    · simp [bMx, bHi, bLo, bnd, e1, e3, hk]
theorem SL.sl_to {h : SHeap} {a : Option Addr} {n c s k : Nat} {cs : List Value} (hv : SL h (.slice a n c) cs n s) (hk : k ≤ n) : sliceS s (.slice a n c) none (some (.int .i64 (k : Int))) none = some (.slice a k c) := by
  obtain ⟨a', c', e, h1, h2, h3⟩ := hv
  cases e
  exact slice_to' hk h1 (by rcases h3 with ⟨h3, h4, _⟩ | ⟨b, o, h3, _⟩; exact .inl ⟨h3, h4⟩; exact .inr ⟨b, o, h3⟩)
theorem append_nilS {h : SHeap} {b o k c s bytes : Nat} {el : TypeId} {cs : List Value} (hn : k ≠ 0) (hr : rdN h b o (k * s) = some cs) (hsc : cs.all sc = true) (hb0 : 0 < bytes) (hb : k * bytes ≤ 140737488355328) (base : Nat) (d : List Nat) : appendS base h d el true s bytes (.slice none 0 0) (.slice (some ⟨b, o, none⟩) k c) = some (.slice (some ⟨h.length, 0, none⟩) k (UNK + s), h ++ [.cells cs el true 0 []], d) := by
  have hn0 : (k == 0) = false := beq_eq_false_iff_ne.2 hn
  have e4 : Nat.ble ((0 + k) * bytes) 140737488355328 = true := by rw [ble_dec, Nat.zero_add]; simpa using hb
  have e5 : Nat.blt 0 bytes = true := by rw [blt_dec]; simpa using hb0
  have hone := all_sc_one cs hsc
  unfold appendS
  simp only [lenS, seenS, hr, hn0, e4, e5, hone, hsc]
  simp [-List.all_eq_true, hone, hsc]
theorem append_nil0 {h : SHeap} {a : Option Addr} {k c s bytes : Nat} {el : TypeId} (hk : k = 0) (base : Nat) (d : List Nat) : appendS base h d el true s bytes (.slice none 0 0) (.slice a k c) = some (.slice none 0 0, h, d) := by
  subst hk
  unfold appendS
  simp [lenS]
theorem SL.copy {h : SHeap} {a : Option Addr} {n c s k bytes : Nat} {cs : List Value} {el : TypeId} (hv : SL h (.slice a n c) cs n s) (hk : k ≤ n) (hsc : cs.all sc = true) (hb0 : 0 < bytes) (hb : k * bytes ≤ 140737488355328) :
    ∀ base d, appendS base h d el true s bytes (.slice none 0 0) (.slice a k c) = some (resV h k s, resH h (cs.take (k * s)) k el, d) := by
  intro base d
  by_cases c0 : k = 0
  · rw [append_nil0 c0]; simp [resV, resH, c0]
  · obtain ⟨a', c', e, h1, h2, h3⟩ := hv
    cases e
    rcases h3 with ⟨_, _, h3⟩ | ⟨b, o, rfl, h4⟩
    · omega
    · have hle : k * s ≤ cs.length := by rw [h2]; exact Nat.mul_le_mul_right s hk
      have hr := (h4 (by omega)).seen hle
      rw [append_nilS c0 hr (by rw [List.all_eq_true] at hsc ⊢; exact fun x hx => hsc x (List.mem_of_mem_take hx)) hb0 hb]
      simp [resV, resH, c0]
theorem ren_old' {base b : Nat} {K : List Nat} (h : b < base) : ren base K b = some b := by
  have : Nat.ble base b = false := by rw [ble_dec]; exact decide_eq_false (by omega)
  simp [ren, this]
theorem ren_at' {base b k : Nat} {K : List Nat} (h : base ≤ b) (hk : posOf b K = some k) : ren base K b = some (base + k) := by
  have : Nat.ble base b = true := by rw [ble_dec]; exact decide_eq_true h
  simp [ren, this, hk]
theorem reach_old' {base b n : Nat} {h : SHeap} {todo seen : List Nat} (hb : b < base) : reach base h (n + 1) (b :: todo) seen = reach base h n todo seen := by
  have : Nat.ble base b = false := by rw [ble_dec]; exact decide_eq_false (by omega)
  rw [reach, this]; rfl
theorem reach_new' {base b n : Nat} {h : SHeap} {todo seen : List Nat} (hb : base ≤ b) (hs : b ∉ seen) : reach base h (n + 1) (b :: todo) seen = reach base h n (ptrsO h[b]? ++ todo) (seen ++ [b]) := by
  have e1 : Nat.ble base b = true := by rw [ble_dec]; exact decide_eq_true hb
  have e2 : seen.contains b = false := by rw [← Bool.not_eq_true, List.contains_iff_mem]; exact hs
  rw [reach, e1, e2]; rfl
theorem reach_leaf {base : Nat} {h : SHeap} : ∀ (todo : List Nat) (n : Nat) (seen : List Nat), todo.length < n → (∀ x ∈ todo, base ≤ x → ptrsO h[x]? = []) →
    ∃ K, reach base h n todo seen = seen ++ K ∧ (∀ x ∈ todo, base ≤ x → x ∈ seen ++ K) ∧ ∀ x ∈ K, x ∈ todo ∧ base ≤ x
  | [], n, seen, hn, _ => ⟨[], by cases n with | zero => omega | succ n => simp [reach], (fun x hx => by cases hx), (fun x hx => by cases hx)⟩
  | b :: todo, 0, seen, hn, _ => by omega
  | b :: todo, n + 1, seen, hn, hl => by
    have hl' : ∀ x ∈ todo, base ≤ x → ptrsO h[x]? = [] := fun x hx => hl x (by simp [hx])
    have hn' : todo.length < n := by simp at hn; omega
    by_cases c : base ≤ b
    · by_cases c2 : b ∈ seen
      · obtain ⟨K, h1, h2, h3⟩ := reach_leaf todo n seen hn' hl'
        refine ⟨K, ?_, fun x hx hb => ?_, fun x hx => ⟨by simp [(h3 x hx).1], (h3 x hx).2⟩⟩
        · have e2 : seen.contains b = true := List.contains_iff_mem.2 c2
          rw [reach, e2, Bool.or_true, if_pos rfl]; exact h1
        · rcases List.mem_cons.1 hx with rfl | hx
          · simp [c2]
          · exact h2 x hx hb
      · obtain ⟨K, h1, h2, h3⟩ := reach_leaf todo n (seen ++ [b]) hn' hl'
        refine ⟨b :: K, ?_, fun x hx hb => ?_, fun x hx => ?_⟩
        · rw [reach_new' c c2, hl b (by simp) c, List.nil_append, h1]; simp
        · rcases List.mem_cons.1 hx with rfl | hx
          · simp
          · have := h2 x hx hb
            simpa using this
        · rcases List.mem_cons.1 hx with rfl | hx
          · exact ⟨by simp, c⟩
          · exact ⟨by simp [(h3 x hx).1], (h3 x hx).2⟩
    · obtain ⟨K, h1, h2, h3⟩ := reach_leaf todo n seen hn' hl'
      refine ⟨K, by rw [reach_old' (by omega)]; exact h1, fun x hx hb => ?_, fun x hx => ⟨by simp [(h3 x hx).1], (h3 x hx).2⟩⟩
      rcases List.mem_cons.1 hx with rfl | hx
      · omega
      · exact h2 x hx hb
theorem pos_mem : ∀ (K : List Nat) (x : Nat), x ∈ K → ∃ i, posOf x K = some i ∧ K[i]? = some x
  | a :: r, x, h => by
    by_cases c : x = a
    · subst c; exact ⟨0, by simp [posOf], rfl⟩
    · have hx : x ∈ r := by rcases List.mem_cons.1 h with e | e; exact (c e).elim; exact e
      obtain ⟨i, h1, h2⟩ := pos_mem r x hx
      have e : Nat.beq a x = false := by rw [nbeq_dec]; exact decide_eq_false (fun e => c e.symm)
      exact ⟨i + 1, by simp [posOf, e, h1], by simpa using h2⟩
theorem mapO_all {α β : Type} {f : α → Option β} : ∀ (l : List α), (∀ a ∈ l, ∃ b, f a = some b) → ∃ bs, mapO f l = some bs ∧ bs.length = l.length ∧ ∀ (i : Nat) (a : α), l[i]? = some a → ∃ b, f a = some b ∧ bs[i]? = some b
  | [], _ => ⟨[], rfl, rfl, fun i a h => by simp at h⟩
  | a :: l, h => by
    obtain ⟨b, hb⟩ := h a (by simp)
    obtain ⟨bs, h1, h2, h3⟩ := mapO_all l (fun x hx => h x (by simp [hx]))
    refine ⟨b :: bs, by simp [mapO, hb, h1], by simp [h2], fun i x hx => ?_⟩
    cases i with
    | zero => simp at hx; subst hx; exact ⟨b, hb, rfl⟩
    | succ i => simpa using h3 i x (by simpa using hx)
def rnV (g : Nat → Nat) : Nat → Value → Value
  | _, .slice (some ⟨b, o, none⟩) n c => .slice (some ⟨g b, o, none⟩) n c
  | n + 1, .agg cs => .agg (cs.toList.map (rnV g n)).toArray
  | n + 1, .tuple cs => .tuple (cs.toList.map (rnV g n)).toArray
  | _, v => v
def okV : Nat → Value → Bool
  | _, .int _ _ => true
  | _, .bool _ => true
  | _, .slice none _ _ => true
  | _, .slice (some ⟨_, _, none⟩) _ _ => true
  | n + 1, .agg cs => cs.toList.all (okV n)
  | n + 1, .tuple cs => cs.toList.all (okV n)
  | _, _ => false
theorem renV_rn {base : Nat} {K : List Nat} {g : Nat → Nat} : ∀ (n : Nat) (v : Value), okV n v = true → (∀ b ∈ ptrs n v, ren base K b = some (g b)) → renV base K n v = some (rnV g n v) := by
  have key : ∀ (n : Nat), (∀ v, okV n v = true → (∀ b ∈ ptrs n v, ren base K b = some (g b)) → renV base K n v = some (rnV g n v)) →
      ∀ l : List Value, l.all (okV n) = true → (∀ b ∈ l.flatMap (ptrs n), ren base K b = some (g b)) → mapO (renV base K n) l = some (l.map (rnV g n)) := by
    intro n ih l
    induction l with
    | nil => intro _ _; rfl
    | cons v l ih2 =>
      intro h1 h2
      simp only [List.all_cons, Bool.and_eq_true] at h1
      have e1 := ih v h1.1 (fun b hb => h2 b (by simp [hb]))
      have e2 := ih2 h1.2 (fun b hb => h2 b (by rw [List.flatMap_cons]; exact List.mem_append_right _ hb))
      simp [mapO, e1, e2]
  have slc : ∀ n b o k c, (∀ x ∈ ptrs n (.slice (some ⟨b, o, none⟩) k c), ren base K x = some (g x)) → renV base K n (.slice (some ⟨b, o, none⟩) k c) = some (.slice (some ⟨g b, o, none⟩) k c) := by
    intro n b o k c h
    have : ren base K b = some (g b) := h b (by cases n <;> simp [ptrs, ptr1])
    cases n <;> simp [renV, this]
  intro n
  induction n with
  | zero =>
    intro v ok h
    cases v with
    | int _ _ => rfl
    | bool _ => rfl
    | slice a k c =>
      cases a with
      | none => rfl
      | some x =>
        obtain ⟨b, o, sp⟩ := x
        cases sp with
        | none => exact slc _ _ _ _ _ h
        | some _ => cases ok
    | _ => cases ok
  | succ n ih =>
    intro v ok h
    cases v with
    | int _ _ => rfl
    | bool _ => rfl
    | slice a k c =>
      cases a with
      | none => rfl
      | some x =>
        obtain ⟨b, o, sp⟩ := x
        cases sp with
        | none => exact slc _ _ _ _ _ h
        | some _ => cases ok
    | agg cs =>
      have := key n ih cs.toList ok h
      simp [renV, rnV, this]
    | tuple cs =>
      have := key n ih cs.toList ok h
      simp [renV, rnV, this]
    | _ => cases ok
theorem gc_new {base : Nat} {h : SHeap} {v : Value} (ok : okV 3 v = true) (hlen : (ptrs 3 v).length < 999999) (hleaf : ∀ b ∈ ptrs 3 v, base ≤ b → ∃ cs el own old, h[b]? = some (.cells cs el true own old) ∧ (own == 2) = false) (hb : base ≤ h.length) :
    ∃ g kept, gcS base v h = some (rnV g 3 v, h.take base ++ kept) ∧ (∀ b, b < base → g b = b) ∧ ∀ b ∈ ptrs 3 v, base ≤ b → ∀ cs el own old, h[b]? = some (.cells cs el true own old) → base ≤ g b ∧ ∃ old', (h.take base ++ kept)[g b]? = some (.cells cs el true own old') := by
  obtain ⟨K, k1, k2, k3⟩ := reach_leaf (base := base) (h := h) (ptrs 3 v) 1000000 [] (by omega) (fun x hx hb => by
    obtain ⟨cs, el, own, old, e, _⟩ := hleaf x hx hb
    rw [e]; simp [ptrsO])
  rw [List.nil_append] at k1
  have hren : ∀ x ∈ ptrs 3 v, ∃ y, ren base K x = some y := fun x hx => by
    by_cases c : base ≤ x
    · obtain ⟨i, q1, q2⟩ := pos_mem K x (by simpa using k2 x hx c)
      exact ⟨_, ren_at' c q1⟩
    · exact ⟨_, ren_old' (by omega)⟩
  refine ⟨fun x => (ren base K x).getD x, ?_⟩
  have hg : ∀ x ∈ ptrs 3 v, ren base K x = some ((ren base K x).getD x) := fun x hx => by
    obtain ⟨y, e⟩ := hren x hx
    rw [e]; rfl
  have hv := renV_rn (g := fun x => (ren base K x).getD x) 3 v ok hg
  obtain ⟨kept, m1, m2, m3⟩ := mapO_all (f := fun k => renO base K h[k]?) K (fun x hx => by
    obtain ⟨q1, q2⟩ := k3 x hx
    obtain ⟨cs, el, own, old, e, ho⟩ := hleaf x q1 q2
    exact ⟨_, by rw [e]; simp [renO, ho]; rfl⟩)
  refine ⟨kept, ?_, fun b hb => by show (ren base K b).getD b = b; rw [ren_old' hb]; rfl, fun b hb hle cs el own old he => ?_⟩
  · unfold gcS
    simp only [k1, hv, m1]
  · obtain ⟨i, q1, q2⟩ := pos_mem K b (by simpa using k2 b hb hle)
    have e1 : (ren base K b).getD b = base + i := by rw [ren_at' hle q1]; rfl
    obtain ⟨cs', el', own', old', e', ho⟩ := hleaf b hb hle
    rw [he] at e'
    cases e'
    obtain ⟨o, r1, r2⟩ := m3 i b q2
    refine ⟨by show base ≤ (ren base K b).getD b; omega, old.filterMap (ren base K), ?_⟩
    show (h.take base ++ kept)[(ren base K b).getD b]? = _
    have hl : (h.take base).length = base := by rw [List.length_take]; omega
    rw [e1, List.getElem?_append_right (by omega), hl, Nat.add_sub_cancel_left, r2, ← r1, he]
    simp [renO, ho]
end Go.Proofs.Ytioijehbmgmgkaa.Sh

namespace Go.Proofs.Ytioijehbmgmgkaa.Sh
open Go
set_option maxRecDepth 100000
set_option maxHeartbeats 4000000
section
variable {E : Type} {cel : E → List Value} {c : E → E → Int} {g : FuncId} {n B cap : Nat} {el : TypeId} {h0 : SHeap} {old0 : List Nat}
def InsI (c : E → E → Int) (a i j : Nat) (f : Nat → E) : Prop := (∀ p q, a ≤ p → p < q → q ≤ i → p ≠ j → q ≠ j → ¬ c (f q) (f p) < 0) ∧ ∀ q, j < q → q ≤ i → c (f j) (f q) < 0
theorem InsI.start {a i : Nat} {f : Nat → E} (h : Ord c a i f) : InsI c a i i f := ⟨fun p q h1 h2 h3 h4 h5 => h p q h1 h2 (by omega), fun q h1 h2 => by omega⟩
theorem InsI.stop (C : Cmp M g cel c) {a i j : Nat} {f : Nat → E} (h : InsI c a i j f) (h2 : j ≤ a ∨ ¬ c (f j) (f (j - 1)) < 0) : Ord c a (i + 1) f := by
  intro p q h3 h4 h5
  by_cases e1 : p = j
  · subst e1; exact C.asym _ _ (h.2 q h4 (by omega))
  · by_cases e2 : q = j
    · subst e2
      rcases h2 with h2 | h2
      · omega
      · by_cases e3 : p = q - 1
        · subst e3; exact h2
        · exact C.ntr _ _ _ h2 (h.1 p (q - 1) h3 (by omega) (by omega) e1 (by omega))
    · exact h.1 p q h3 h4 (by omega) e1 e2
theorem InsI.step {a i j : Nat} {f : Nat → E} (h : InsI c a i j f) (hj : a < j) (hji : j ≤ i) (h2 : c (f j) (f (j - 1)) < 0) : InsI c a i (j - 1) (swp f j (j - 1)) := by
  constructor
  · intro p q h3 h4 h5 h6 h7
    by_cases e1 : p = j
    · subst e1
      rw [swp_l, swp_o f (by omega) (by omega)]
      exact h.1 (p - 1) q (by omega) (by omega) h5 (by omega) (by omega)
    · by_cases e2 : q = j
      · subst e2
        rw [swp_l, swp_o f (by omega) (by omega)]
        exact h.1 p (q - 1) h3 (by omega) (by omega) (by omega) (by omega)
      · rw [swp_o f e1 h6, swp_o f e2 h7]
        exact h.1 p q h3 h4 h5 e1 e2
  · intro q h3 h4
    rw [swp_r]
    by_cases e : q = j
    · subst e; rw [swp_l]; exact h2
    · rw [swp_o f e (by omega)]; exact h.2 q (by omega) h4
theorem ins_loopT (C : Cmp M g cel c) (hl : ∀ x, (cel x).length = 3) (hc : ∀ x, (cel x).all sc = true) (hn : n ≤ 1000000) {a b i : Nat} (hb : b ≤ n) (hi : i < b) (cx : Cx) (f0 : Nat → E) : ∀ k ρ ms h' d', (∃ (j : Nat) (f : Nat → E), j = k ∧ a ≤ j ∧ j ≤ i ∧ SA cel n B el h0 old0 h' f ∧ Sw a (i + 1) f0 f ∧ InsI c a i j f ∧ ρ 0 = .slice (some ⟨B, 0, none⟩) n cap ∧ ρ 1 = .int .i64 a ∧ ρ 2 = .int .i64 b ∧ ρ 3 = .func (.func g) #[] #[] ∧ ρ 8 = .int .i64 i ∧ ρ 9 = .int .i64 j ∧ ms = [] ∧ d' = []) →
    LoopW M cx 6 sf95L0 ρ ms h' d' (fun ex ρ' ms' h' d' => ex = .exit 2 ∧ ms' = [] ∧ d' = [] ∧ ∃ f : Nat → E, SA cel n B el h0 old0 h' f ∧ Sw a (i + 1) f0 f ∧ Ord c a (i + 1) f ∧ ρ' 0 = .slice (some ⟨B, 0, none⟩) n cap ∧ ρ' 1 = .int .i64 a ∧ ρ' 2 = .int .i64 b ∧ ρ' 3 = .func (.func g) #[] #[] ∧ ρ' 8 = .int .i64 i) := by
  refine loop_run _ ?_
  rintro k ρ ms h' d' ⟨j, f, rfl, ha, hji, S, W, I, r0, r1, r2, r3, r8, r9, rfl, rfl⟩
  unfold sf95L0
  by_cases hk : j = a
  · have e1 : ¬ ((a : Int) < j) := by omega
    repeat (first | apply Z1 | apply Z2 | apply Z3 | apply Z4 | apply Z5 rfl | apply Z6 | apply Z7 | apply Z8 | apply Z9 | apply ZA | apply ZB | apply ZC | ((first | apply ZD (by decide) | apply ZN (by decide)); (simp (maxSteps := 9999999) only [go_sem, r0, r1, r2, r3, r8, r9, e1]; rfl)) | (refine ZE ?_ ?_; · simp only [go_sem]) | (refine ZF ?_ ?_; · simp only [go_sem]))
    refine end_nil ⟨rfl, rfl, rfl, f, S, W, I.stop C (.inl (by omega)), ?_, ?_, ?_, ?_, ?_⟩
    · simp only [go_sem, r0]
    · simp only [go_sem, r1]
    · simp only [go_sem, r2]
    · simp only [go_sem, r3]
    · simp only [go_sem, r8]
  · have e1 : ((a : Int) < j) := by omega
    have e2 : (0 : Int) ≤ j := by omega
    have e3 : (j : Int) < n := by omega
    have e4 : (0 : Int) ≤ ((j - 1 : Nat) : Int) := by omega
    have e5 : ((j - 1 : Nat) : Int) < n := by omega
    have ew : IntKind.i64.wrap ((j : Int) - 1) = ((j - 1 : Nat) : Int) := by rw [wrap64 (by omega) (by omega)]; omega
    have l1 := S.load hl (show j < n by omega)
    have l2 := S.load hl (show j - 1 < n by omega)
    have cc := fun h => C.call (f j) (f (j - 1)) h
    by_cases hlt : c (f j) (f (j - 1)) < 0
    · obtain ⟨h1, h2, st1, st2, S2⟩ := S.swap hl hc (by decide) (show j < n by omega) (show j - 1 < n by omega)
      repeat (first | apply Z1 | apply Z2 | apply Z3 | apply Z4 | apply Z5 rfl | apply Z6 | apply Z7 | apply Z8 | apply Z9 | apply ZA | apply ZB | apply ZC | ((first | apply ZD (by decide) | apply ZN (by decide)); (simp (maxSteps := 9999999) only [go_sem, r0, r1, r2, r3, r8, r9, e1, e2, e3, e4, e5, ew, l1, l2, cc, hlt, hl, ↓st1, ↓st2]; rfl)) | (refine ZE ?_ ?_; · simp only [go_sem]) | (refine ZF ?_ ?_; · simp only [go_sem]))
      refine end_nil ⟨j - 1, by omega, j - 1, _, rfl, by omega, by omega, S2, W.step ha (by omega) (by omega) (by omega), I.step (by omega) hji hlt, ?_, ?_, ?_, ?_, ?_, ?_, rfl, rfl⟩
      · simp only [go_sem, r0]
      · simp only [go_sem, r1]
      · simp only [go_sem, r2]
      · simp only [go_sem, r3]
      · simp only [go_sem, r8]
      · simp only [go_sem, ew]
    · repeat (first | apply Z1 | apply Z2 | apply Z3 | apply Z4 | apply Z5 rfl | apply Z6 | apply Z7 | apply Z8 | apply Z9 | apply ZA | apply ZB | apply ZC | ((first | apply ZD (by decide) | apply ZN (by decide)); (simp (maxSteps := 9999999) only [go_sem, r0, r1, r2, r3, r8, r9, e1, e2, e3, e4, e5, ew, l1, l2, cc, hlt, hl]; rfl)) | (refine ZE ?_ ?_; · simp only [go_sem]) | (refine ZF ?_ ?_; · simp only [go_sem]))
      refine end_nil ⟨rfl, rfl, rfl, f, S, W, I.stop C (.inr hlt), ?_, ?_, ?_, ?_, ?_⟩
      · simp only [go_sem, r0]
      · simp only [go_sem, r1]
      · simp only [go_sem, r2]
      · simp only [go_sem, r3]
      · simp only [go_sem, r8]
theorem insO_loopT (C : Cmp M g cel c) (hl : ∀ x, (cel x).length = 3) (hc : ∀ x, (cel x).all sc = true) (hn : n ≤ 1000000) {a b : Nat} (hb : b ≤ n) (cx : Cx) (f0 : Nat → E) : ∀ k ρ ms h' d', (∃ (i : Nat) (f : Nat → E), b - i = k ∧ a < i ∧ SA cel n B el h0 old0 h' f ∧ Sw a b f0 f ∧ Ord c a (min i b) f ∧ ρ 0 = .slice (some ⟨B, 0, none⟩) n cap ∧ ρ 1 = .int .i64 a ∧ ρ 2 = .int .i64 b ∧ ρ 3 = .func (.func g) #[] #[] ∧ ρ 8 = .int .i64 i ∧ ms = [] ∧ d' = []) →
    LoopW M cx 6 sf95L1 ρ ms h' d' (fun ex ρ' ms' h' d' => ex = .exit 0 ∧ ms' = [] ∧ d' = [] ∧ ∃ f : Nat → E, SA cel n B el h0 old0 h' f ∧ Sw a b f0 f ∧ Ord c a b f) := by
  refine loop_run _ ?_
  rintro k ρ ms h' d' ⟨i, f, hk, ha, S, W, O, r0, r1, r2, r3, r8, rfl, rfl⟩
  unfold sf95L1
  by_cases hib : i < b
  · have e1 : (i : Int) < b := by omega
    have ew : IntKind.i64.wrap ((i : Int) + 1) = ((i + 1 : Nat) : Int) := by rw [wrap64 (by omega) (by omega)]; rfl
    rw [Nat.min_eq_left (by omega)] at O
    repeat (first | apply Z1 | apply Z2 | apply Z3 | apply Z4 | apply Z5 rfl | apply Z6 | apply Z7 | apply Z8 | apply Z9 | apply ZA | apply ZB | apply ZC | ((first | apply ZD (by decide) | apply ZN (by decide)); (simp (maxSteps := 9999999) only [go_sem, r0, r1, r2, r3, r8, e1]; rfl)) | (refine ZE ?_ ?_; · simp only [go_sem]) | (refine ZF ?_ ?_; · simp only [go_sem]))
    refine run_loop (ins_loopT (cap := cap) C hl hc hn hb hib cx f i _ _ _ _ ⟨i, f, rfl, by omega, by omega, S, .refl, InsI.start O, ?_, ?_, ?_, ?_, ?_, ?_, rfl, rfl⟩) ?_
    · simp only [go_sem, r0]
    · simp only [go_sem, r1]
    · simp only [go_sem, r2]
    · simp only [go_sem, r3]
    · simp only [go_sem, r8]
    · simp only [go_sem]
    rintro ex ρ' ms' h1 d1 ⟨rfl, rfl, rfl, f2, S2, W2, O2, k0, k1, k2, k3, k8⟩
    repeat (first | apply Z1 | apply Z2 | apply Z3 | apply Z4 | apply Z5 rfl | apply Z6 | apply Z7 | apply Z8 | apply Z9 | apply ZA | apply ZB | apply ZC | ((first | apply ZD (by decide) | apply ZN (by decide)); (simp (maxSteps := 9999999) only [go_sem, k0, k1, k2, k3, k8, ew]; rfl)) | (refine ZE ?_ ?_; · simp only [go_sem]) | (refine ZF ?_ ?_; · simp only [go_sem]))
    refine end_nil ⟨b - (i + 1), by omega, i + 1, f2, rfl, by omega, S2, W.trans (W2.mono (by omega) (by omega)), by rw [Nat.min_eq_left (by omega)]; exact O2, ?_, ?_, ?_, ?_, ?_, rfl, rfl⟩
    · simp only [go_sem, k0]
    · simp only [go_sem, k1]
    · simp only [go_sem, k2]
    · simp only [go_sem, k3]
    · simp only [go_sem, ew]
  · have e1 : ¬ (i : Int) < b := by omega
    repeat (first | apply Z1 | apply Z2 | apply Z3 | apply Z4 | apply Z5 rfl | apply Z6 | apply Z7 | apply Z8 | apply Z9 | apply ZA | apply ZB | apply ZC | ((first | apply ZD (by decide) | apply ZN (by decide)); (simp (maxSteps := 9999999) only [go_sem, r0, r1, r2, r3, r8, e1]; rfl)) | (refine ZE ?_ ?_; · simp only [go_sem]) | (refine ZF ?_ ?_; · simp only [go_sem]))
    exact end_nil ⟨rfl, rfl, rfl, f, S, W, by rw [Nat.min_eq_right (by omega)] at O; exact O⟩
theorem insT (C : Cmp M g cel c) (hl : ∀ x, (cel x).length = 3) (hc : ∀ x, (cel x).all sc = true) (hn : n ≤ 1000000) {a b : Nat} (hab : a ≤ b) (hb : b ≤ n) {h : SHeap} {f : Nat → E} (S : SA cel n B el h0 old0 h f) :
    ∃ h' f', M.call 95 [.slice (some ⟨B, 0, none⟩) n cap, .int .i64 a, .int .i64 b, .func (.func g) #[] #[]] h = some (.tuple #[], h', []) ∧ SA cel n B el h0 old0 h' f' ∧ Sw a b f f' ∧ Ord c a b f' := by
  have key : ∃ r, (∃ h' f', r = (Value.tuple #[], h', ([] : List Nat)) ∧ SA cel n B el h0 old0 h' f' ∧ Sw a b f f' ∧ Ord c a b f') ∧ M.call 95 [.slice (some ⟨B, 0, none⟩) n cap, .int .i64 a, .int .i64 b, .func (.func g) #[] #[]] h = some r := by
    refine call_ex (f := 95) _ sf95 rfl rfl rfl ?_
    unfold sf95
    have ew : IntKind.i64.wrap ((a : Int) + 1) = ((a + 1 : Nat) : Int) := by rw [wrap64 (by omega) (by omega)]; rfl
    repeat (first | apply Z1 | apply Z2 | apply Z3 | apply Z4 | apply Z5 rfl | apply Z6 | apply Z7 | apply Z8 | apply Z9 | apply ZA | apply ZB | apply ZC | ((first | apply ZD (by decide) | apply ZN (by decide)); (simp (maxSteps := 9999999) only [go_sem, argR, ew]; rfl)) | (refine ZE ?_ ?_; · simp only [go_sem]) | (refine ZF ?_ ?_; · simp only [go_sem]))
    refine run_loop (insO_loopT (a := a) (b := b) (cap := cap) (el := el) (h0 := h0) (old0 := old0) C hl hc hn hb _ f (b - (a + 1)) _ _ _ _ ⟨a + 1, f, rfl, by omega, S, .refl, Ord.nil c (by omega) f, ?_, ?_, ?_, ?_, ?_, rfl, rfl⟩) ?_
    · simp only [go_sem, argR]
    · simp only [go_sem, argR]
    · simp only [go_sem, argR]
    · simp only [go_sem, argR]
    · simp only [go_sem, ew]
    rintro ex ρ' ms' h1 d1 ⟨rfl, rfl, rfl, f2, S2, W2, O2⟩
    repeat (first | apply Z1 | apply Z2 | apply Z3 | apply Z4 | apply Z5 rfl | apply Z6 | apply Z7 | apply Z8 | apply Z9 | apply ZA | apply ZB | apply ZC | ((first | apply ZD (by decide) | apply ZN (by decide)); (simp (maxSteps := 9999999) only [go_sem]; rfl)) | (refine ZE ?_ ?_; · simp only [go_sem]) | (refine ZF ?_ ?_; · simp only [go_sem]))
    exact end_nil ⟨_, ⟨h1, f2, rfl, S2, W2, O2⟩, q_free [] rfl rfl rfl rfl (fun _ => rfl) (by rw [List.take_of_length_le]; rw [S2.len, S.len]; exact Nat.le_refl _) rfl⟩
  obtain ⟨r, ⟨h', f', rfl, k⟩, e⟩ := key
  exact ⟨h', f', e, k⟩
end
end Go.Proofs.Ytioijehbmgmgkaa.Sh

namespace Go.Proofs.Ytioijehbmgmgkaa.Sh
open Go
set_option maxRecDepth 100000
set_option maxHeartbeats 4000000
section
variable {E : Type} {cel : E → List Value} {c : E → E → Int} {g : FuncId} {n B cap : Nat} {el : TypeId} {h0 : SHeap} {old0 : List Nat}
def HP (c : E → E → Int) (a lo hi : Nat) (f : Nat → E) : Prop := ∀ i j, lo ≤ i → (j = 2 * i + 1 ∨ j = 2 * i + 2) → j < hi → ¬ c (f (a + i)) (f (a + j)) < 0
structure HX (c : E → E → Int) (a lo hi r : Nat) (f : Nat → E) : Prop where
  all : ∀ i j, lo ≤ i → i ≠ r → (j = 2 * i + 1 ∨ j = 2 * i + 2) → j < hi → ¬ c (f (a + i)) (f (a + j)) < 0
  up : ∀ p j, lo ≤ p → (r = 2 * p + 1 ∨ r = 2 * p + 2) → (j = 2 * r + 1 ∨ j = 2 * r + 2) → j < hi → ¬ c (f (a + p)) (f (a + j)) < 0
theorem HX.start {a lo hi : Nat} {f : Nat → E} (h : HP c a (lo + 1) hi f) : HX c a lo hi lo f :=
  ⟨fun i j h1 h2 h3 h4 => h i j (by omega) h3 h4, fun p j h1 h2 => by omega⟩
theorem HX.stop {a lo hi r : Nat} {f : Nat → E} (h : HX c a lo hi r f) (hr : ∀ j, (j = 2 * r + 1 ∨ j = 2 * r + 2) → j < hi → ¬ c (f (a + r)) (f (a + j)) < 0) : HP c a lo hi f := fun i j h1 h2 h3 => by
  by_cases e : i = r
  · subst e; exact hr j h2 h3
  · exact h.all i j h1 e h2 h3
theorem HX.step (C : Cmp M g cel c) {a lo hi r k : Nat} {f : Nat → E} (h : HX c a lo hi r f) (hr : lo ≤ r) (hk : k = 2 * r + 1 ∨ k = 2 * r + 2) (hkh : k < hi) (hlt : c (f (a + r)) (f (a + k)) < 0)
    (hbig : ∀ j, (j = 2 * r + 1 ∨ j = 2 * r + 2) → j < hi → ¬ c (f (a + k)) (f (a + j)) < 0) : HX c a lo hi k (swp f (a + r) (a + k)) := by
  constructor
  · intro i j h1 h2 h3 h4
    by_cases e1 : i = r
    · subst e1
      rw [swp_l]
      by_cases e2 : j = k
      · subst e2; rw [swp_r]; exact C.asym _ _ hlt
      · rw [swp_o f (by omega) (by omega)]; exact hbig j h3 h4
    · rw [swp_o f (i := a + r) (j := a + k) (k := a + i) (by omega) (by omega)]
      by_cases e2 : j = r
      · subst e2
        rw [swp_l]
        exact h.up i k h1 h3 hk hkh
      · by_cases e3 : j = k
        · omega
        · rw [swp_o f (by omega) (by omega)]
          exact h.all i j h1 e1 h3 h4
  · intro p j h1 h2 h3 h4
    have e : p = r := by omega
    subst e
    rw [swp_l, swp_o f (by omega) (by omega)]
    exact h.all k j (by omega) (by omega) h3 h4
theorem HP.top (C : Cmp M g cel c) {a hi : Nat} {f : Nat → E} (h : HP c a 0 hi f) : ∀ k, k < hi → ¬ c (f a) (f (a + k)) < 0 := by
  intro k
  induction k using Nat.strongRecOn with
  | _ k ih =>
    intro hk
    by_cases e : k = 0
    · subst e; exact C.irr _
    · exact C.ntr _ _ _ (ih ((k - 1) / 2) (by omega) (by omega)) (h ((k - 1) / 2) k (by omega) (by omega) hk)
theorem sift_loopT (C : Cmp M g cel c) (hl : ∀ x, (cel x).length = 3) (hc : ∀ x, (cel x).all sc = true) (hn : n ≤ 1000000) {a lo hi : Nat} (hh : a + hi ≤ n) (cx : Cx) (f0 : Nat → E) : ∀ k ρ ms h' d', (∃ (r : Nat) (f : Nat → E), hi - r = k ∧ lo ≤ r ∧ r ≤ hi ∧ SA cel n B el h0 old0 h' f ∧ Sw (a + lo) (a + hi) f0 f ∧ HX c a lo hi r f ∧ ρ 0 = .slice (some ⟨B, 0, none⟩) n cap ∧ ρ 2 = .int .i64 hi ∧ ρ 3 = .int .i64 a ∧ ρ 4 = .func (.func g) #[] #[] ∧ ρ 10 = .int .i64 r ∧ ms = [] ∧ d' = []) →
    LoopW M cx 7 sf107L0 ρ ms h' d' (fun ex ρ' ms' h' d' => (ex = .exit 0 ∨ ex = .ret) ∧ ms' = [] ∧ d' = [] ∧ ∃ f : Nat → E, SA cel n B el h0 old0 h' f ∧ Sw (a + lo) (a + hi) f0 f ∧ HP c a lo hi f) := by
  refine loop_run _ ?_
  rintro k ρ ms h' d' ⟨r, f, hk, hlo, hrh, S, W, I, r0, r2, r3, r4, r10, rfl, rfl⟩
  have w1 : IntKind.i64.wrap (2 * (r : Int)) = ((2 * r : Nat) : Int) := by rw [wrap64 (by omega) (by omega)]; rfl
  have w2 : IntKind.i64.wrap (((2 * r : Nat) : Int) + 1) = ((2 * r + 1 : Nat) : Int) := by rw [wrap64 (by omega) (by omega)]; rfl
  unfold sf107L0
  by_cases c1 : hi ≤ 2 * r + 1
  · have e1 : (hi : Int) ≤ ((2 * r + 1 : Nat) : Int) := by omega
    repeat (first | apply Z1 | apply Z2 | apply Z3 | apply Z4 | apply Z5 rfl | apply Z6 | apply Z7 | apply Z8 | apply Z9 | apply ZA | apply ZB | apply ZC | ((first | apply ZD (by decide) | apply ZN (by decide)); (simp (maxSteps := 9999999) only [go_sem, r0, r2, r3, r4, r10, w1, w2, e1]; rfl)) | (refine ZE ?_ ?_; · simp only [go_sem]) | (refine ZF ?_ ?_; · simp only [go_sem]))
    exact end_nil ⟨.inl rfl, rfl, rfl, f, S, W, I.stop (fun j h1 h2 => by omega)⟩
  · have e1 : ¬ (hi : Int) ≤ ((2 * r + 1 : Nat) : Int) := by omega
    have w3 : IntKind.i64.wrap (((2 * r + 1 : Nat) : Int) + 1) = ((2 * r + 1 + 1 : Nat) : Int) := by rw [wrap64 (by omega) (by omega)]; rfl
    have w4 : IntKind.i64.wrap ((a : Int) + ((2 * r + 1 : Nat) : Int)) = ((a + (2 * r + 1) : Nat) : Int) := by rw [wrap64 (by omega) (by omega)]; rfl
    have w5 : IntKind.i64.wrap (((a + (2 * r + 1) : Nat) : Int) + 1) = ((a + (2 * r + 1 + 1) : Nat) : Int) := by rw [wrap64 (by omega) (by omega)]; rfl
    have w6 : IntKind.i64.wrap ((a : Int) + (r : Int)) = ((a + r : Nat) : Int) := by rw [wrap64 (by omega) (by omega)]; rfl
    have w7 : IntKind.i64.wrap ((a : Int) + ((2 * r + 1 + 1 : Nat) : Int)) = ((a + (2 * r + 1 + 1) : Nat) : Int) := by rw [wrap64 (by omega) (by omega)]; rfl
    have p1 : (0 : Int) ≤ ((a + (2 * r + 1) : Nat) : Int) := by omega
    have p2 : ((a + (2 * r + 1) : Nat) : Int) < n := by omega
    have p3 : (0 : Int) ≤ ((a + r : Nat) : Int) := by omega
    have p4 : ((a + r : Nat) : Int) < n := by omega
    have p5 : (0 : Int) ≤ ((a + (2 * r + 1 + 1) : Nat) : Int) := by omega
    have l1 := S.load hl (show a + (2 * r + 1) < n by omega)
    have l2 := S.load hl (show a + r < n by omega)
    have key : ∀ kk : Nat, (kk = 2 * r + 1 ∨ kk = 2 * r + 2) → kk < hi → (∀ j, (j = 2 * r + 1 ∨ j = 2 * r + 2) → j < hi → ¬ c (f (a + kk)) (f (a + j)) < 0) → ¬ c (f (a + r)) (f (a + kk)) < 0 → HP c a lo hi f := fun kk h1 h2 h3 h4 =>
      I.stop (fun j h5 h6 => C.ntr _ _ _ h4 (h3 j h5 h6))
    by_cases c2 : 2 * r + 1 + 1 < hi
    · have e2 : ((2 * r + 1 + 1 : Nat) : Int) < hi := by omega
      have p6 : ((a + (2 * r + 1 + 1) : Nat) : Int) < n := by omega
      have l3 := S.load hl (show a + (2 * r + 1 + 1) < n by omega)
      have cc := fun h => C.call (f (a + (2 * r + 1))) (f (a + (2 * r + 1 + 1))) h
      by_cases c3 : c (f (a + (2 * r + 1))) (f (a + (2 * r + 1 + 1))) < 0
      · have cd := fun h => C.call (f (a + r)) (f (a + (2 * r + 1 + 1))) h
        have hb : ∀ j, (j = 2 * r + 1 ∨ j = 2 * r + 2) → j < hi → ¬ c (f (a + (2 * r + 1 + 1))) (f (a + j)) < 0 := fun j h1 h2 => by
          rcases h1 with h1 | h1
          · subst h1; exact C.asym _ _ c3
          · subst h1; exact C.irr _
        by_cases c4 : c (f (a + r)) (f (a + (2 * r + 1 + 1))) < 0
        · obtain ⟨h1, h2, st1, st2, S2⟩ := S.swap hl hc (by decide) (show a + r < n by omega) (show a + (2 * r + 1 + 1) < n by omega)
          repeat (first | apply Z1 | apply Z2 | apply Z3 | apply Z4 | apply Z5 rfl | apply Z6 | apply Z7 | apply Z8 | apply Z9 | apply ZA | apply ZB | apply ZC | ((first | apply ZD (by decide) | apply ZN (by decide)); (simp (maxSteps := 9999999) only [go_sem, r0, r2, r3, r4, r10, w1, w2, e1, w3, w4, w5, w6, w7, p1, p2, p3, p4, p5, p6, l1, l2, l3, e2, cc, c3, cd, c4, hl, ↓st1, ↓st2]; rfl)) | (refine ZE ?_ ?_; · simp only [go_sem]) | (refine ZF ?_ ?_; · simp only [go_sem]))
          refine end_nil ⟨hi - (2 * r + 1 + 1), by omega, 2 * r + 1 + 1, _, rfl, by omega, by omega, S2, W.step (by omega) (by omega) (by omega) (by omega), I.step C hlo (.inr rfl) c2 c4 hb, ?_, ?_, ?_, ?_, ?_, rfl, rfl⟩
          · simp only [go_sem, r0]
          · simp only [go_sem, r2]
          · simp only [go_sem, r3]
          · simp only [go_sem, r4]
          · simp only [go_sem, w3]
        · repeat (first | apply Z1 | apply Z2 | apply Z3 | apply Z4 | apply Z5 rfl | apply Z6 | apply Z7 | apply Z8 | apply Z9 | apply ZA | apply ZB | apply ZC | ((first | apply ZD (by decide) | apply ZN (by decide)); (simp (maxSteps := 9999999) only [go_sem, r0, r2, r3, r4, r10, w1, w2, e1, w3, w4, w5, w6, w7, p1, p2, p3, p4, p5, p6, l1, l2, l3, e2, cc, c3, cd, c4]; rfl)) | (refine ZE ?_ ?_; · simp only [go_sem]) | (refine ZF ?_ ?_; · simp only [go_sem]))
          exact end_nil ⟨.inr rfl, rfl, rfl, f, S, W, key _ (.inr rfl) c2 hb c4⟩
      · have cd := fun h => C.call (f (a + r)) (f (a + (2 * r + 1))) h
        have hb : ∀ j, (j = 2 * r + 1 ∨ j = 2 * r + 2) → j < hi → ¬ c (f (a + (2 * r + 1))) (f (a + j)) < 0 := fun j h1 h2 => by
          rcases h1 with h1 | h1
          · subst h1; exact C.irr _
          · subst h1; exact c3
        by_cases c4 : c (f (a + r)) (f (a + (2 * r + 1))) < 0
        · obtain ⟨h1, h2, st1, st2, S2⟩ := S.swap hl hc (by decide) (show a + r < n by omega) (show a + (2 * r + 1) < n by omega)
          repeat (first | apply Z1 | apply Z2 | apply Z3 | apply Z4 | apply Z5 rfl | apply Z6 | apply Z7 | apply Z8 | apply Z9 | apply ZA | apply ZB | apply ZC | ((first | apply ZD (by decide) | apply ZN (by decide)); (simp (maxSteps := 9999999) only [go_sem, r0, r2, r3, r4, r10, w1, w2, e1, w3, w4, w5, w6, w7, p1, p2, p3, p4, p5, p6, l1, l2, l3, e2, cc, c3, cd, c4, hl, ↓st1, ↓st2]; rfl)) | (refine ZE ?_ ?_; · simp only [go_sem]) | (refine ZF ?_ ?_; · simp only [go_sem]))
          refine end_nil ⟨hi - (2 * r + 1), by omega, 2 * r + 1, _, rfl, by omega, by omega, S2, W.step (by omega) (by omega) (by omega) (by omega), I.step C hlo (.inl rfl) (by omega) c4 hb, ?_, ?_, ?_, ?_, ?_, rfl, rfl⟩
          · simp only [go_sem, r0]
          · simp only [go_sem, r2]
          · simp only [go_sem, r3]
          · simp only [go_sem, r4]
          · simp only [go_sem, w2]
        · repeat (first | apply Z1 | apply Z2 | apply Z3 | apply Z4 | apply Z5 rfl | apply Z6 | apply Z7 | apply Z8 | apply Z9 | apply ZA | apply ZB | apply ZC | ((first | apply ZD (by decide) | apply ZN (by decide)); (simp (maxSteps := 9999999) only [go_sem, r0, r2, r3, r4, r10, w1, w2, e1, w3, w4, w5, w6, w7, p1, p2, p3, p4, p5, p6, l1, l2, l3, e2, cc, c3, cd, c4]; rfl)) | (refine ZE ?_ ?_; · simp only [go_sem]) | (refine ZF ?_ ?_; · simp only [go_sem]))
          exact end_nil ⟨.inr rfl, rfl, rfl, f, S, W, key _ (.inl rfl) (by omega) hb c4⟩
    · have e2 : ¬ ((2 * r + 1 + 1 : Nat) : Int) < hi := by omega
      have cd := fun h => C.call (f (a + r)) (f (a + (2 * r + 1))) h
      have hb : ∀ j, (j = 2 * r + 1 ∨ j = 2 * r + 2) → j < hi → ¬ c (f (a + (2 * r + 1))) (f (a + j)) < 0 := fun j h1 h2 => by
        rcases h1 with h1 | h1
        · subst h1; exact C.irr _
        · omega
      by_cases c4 : c (f (a + r)) (f (a + (2 * r + 1))) < 0
      · obtain ⟨h1, h2, st1, st2, S2⟩ := S.swap hl hc (by decide) (show a + r < n by omega) (show a + (2 * r + 1) < n by omega)
        repeat (first | apply Z1 | apply Z2 | apply Z3 | apply Z4 | apply Z5 rfl | apply Z6 | apply Z7 | apply Z8 | apply Z9 | apply ZA | apply ZB | apply ZC | ((first | apply ZD (by decide) | apply ZN (by decide)); (simp (maxSteps := 9999999) only [go_sem, r0, r2, r3, r4, r10, w1, w2, e1, w3, w4, w5, w6, w7, p1, p2, p3, p4, p5, l1, l2, e2, cd, c4, hl, ↓st1, ↓st2]; rfl)) | (refine ZE ?_ ?_; · simp only [go_sem]) | (refine ZF ?_ ?_; · simp only [go_sem]))
        refine end_nil ⟨hi - (2 * r + 1), by omega, 2 * r + 1, _, rfl, by omega, by omega, S2, W.step (by omega) (by omega) (by omega) (by omega), I.step C hlo (.inl rfl) (by omega) c4 hb, ?_, ?_, ?_, ?_, ?_, rfl, rfl⟩
        · simp only [go_sem, r0]
        · simp only [go_sem, r2]
        · simp only [go_sem, r3]
        · simp only [go_sem, r4]
        · simp only [go_sem, w2]
      · repeat (first | apply Z1 | apply Z2 | apply Z3 | apply Z4 | apply Z5 rfl | apply Z6 | apply Z7 | apply Z8 | apply Z9 | apply ZA | apply ZB | apply ZC | ((first | apply ZD (by decide) | apply ZN (by decide)); (simp (maxSteps := 9999999) only [go_sem, r0, r2, r3, r4, r10, w1, w2, e1, w3, w4, w5, w6, w7, p1, p2, p3, p4, p5, l1, l2, e2, cd, c4]; rfl)) | (refine ZE ?_ ?_; · simp only [go_sem]) | (refine ZF ?_ ?_; · simp only [go_sem]))
        exact end_nil ⟨.inr rfl, rfl, rfl, f, S, W, key _ (.inl rfl) (by omega) hb c4⟩
theorem siftT (C : Cmp M g cel c) (hl : ∀ x, (cel x).length = 3) (hc : ∀ x, (cel x).all sc = true) (hn : n ≤ 1000000) {a lo hi : Nat} (hlh : lo ≤ hi) (hh : a + hi ≤ n) {h : SHeap} {f : Nat → E} (S : SA cel n B el h0 old0 h f) (P : HP c a (lo + 1) hi f) :
    ∃ h' f', M.call 107 [.slice (some ⟨B, 0, none⟩) n cap, .int .i64 lo, .int .i64 hi, .int .i64 a, .func (.func g) #[] #[]] h = some (.tuple #[], h', []) ∧ SA cel n B el h0 old0 h' f' ∧ Sw (a + lo) (a + hi) f f' ∧ HP c a lo hi f' := by
  have key : ∃ r, (∃ h' f', r = (Value.tuple #[], h', ([] : List Nat)) ∧ SA cel n B el h0 old0 h' f' ∧ Sw (a + lo) (a + hi) f f' ∧ HP c a lo hi f') ∧ M.call 107 [.slice (some ⟨B, 0, none⟩) n cap, .int .i64 lo, .int .i64 hi, .int .i64 a, .func (.func g) #[] #[]] h = some r := by
    refine call_ex (f := 107) _ sf107 rfl rfl rfl ?_
    unfold sf107
    repeat (first | apply Z1 | apply Z2 | apply Z3 | apply Z4 | apply Z5 rfl | apply Z6 | apply Z7 | apply Z8 | apply Z9 | apply ZA | apply ZB | apply ZC | ((first | apply ZD (by decide) | apply ZN (by decide)); (simp (maxSteps := 9999999) only [go_sem, argR]; rfl)) | (refine ZE ?_ ?_; · simp only [go_sem]) | (refine ZF ?_ ?_; · simp only [go_sem]))
    refine run_loop (sift_loopT (cap := cap) (el := el) (h0 := h0) (old0 := old0) C hl hc hn (lo := lo) hh _ f (hi - lo) _ _ _ _ ⟨lo, f, rfl, Nat.le_refl _, hlh, S, .refl, HX.start P, ?_, ?_, ?_, ?_, ?_, rfl, rfl⟩) ?_
    · simp only [go_sem, argR]
    · simp only [go_sem, argR]
    · simp only [go_sem, argR]
    · simp only [go_sem, argR]
    · simp only [go_sem, argR]
    rintro ex ρ' ms' h1 d1 ⟨rfl | rfl, rfl, rfl, f2, S2, W2, O2⟩
    · repeat (first | apply Z1 | apply Z2 | apply Z3 | apply Z4 | apply Z5 rfl | apply Z6 | apply Z7 | apply Z8 | apply Z9 | apply ZA | apply ZB | apply ZC | ((first | apply ZD (by decide) | apply ZN (by decide)); (simp (maxSteps := 9999999) only [go_sem]; rfl)) | (refine ZE ?_ ?_; · simp only [go_sem]) | (refine ZF ?_ ?_; · simp only [go_sem]))
      exact end_nil ⟨_, ⟨h1, f2, rfl, S2, W2, O2⟩, q_free [] rfl rfl rfl rfl (fun _ => rfl) (by rw [List.take_of_length_le]; rw [S2.len, S.len]; exact Nat.le_refl _) rfl⟩
    · repeat (first | apply Z1 | apply Z2 | apply Z3 | apply Z4 | apply Z5 rfl | apply Z6 | apply Z7 | apply Z8 | apply Z9 | apply ZA | apply ZB | apply ZC | ((first | apply ZD (by decide) | apply ZN (by decide)); (simp (maxSteps := 9999999) only [go_sem]; rfl)) | (refine ZE ?_ ?_; · simp only [go_sem]) | (refine ZF ?_ ?_; · simp only [go_sem]))
      exact end_nil ⟨_, ⟨h1, f2, rfl, S2, W2, O2⟩, q_free [] rfl rfl rfl rfl (fun _ => rfl) (by rw [List.take_of_length_le]; rw [S2.len, S.len]; exact Nat.le_refl _) rfl⟩
  obtain ⟨r, ⟨h', f', rfl, k⟩, e⟩ := key
  exact ⟨h', f', e, k⟩
end
end Go.Proofs.Ytioijehbmgmgkaa.Sh

namespace Go.Proofs.Ytioijehbmgmgkaa.Sh
open Go
set_option maxRecDepth 100000
set_option maxHeartbeats 4000000
section
variable {E : Type} {cel : E → List Value} {c : E → E → Int} {g : FuncId} {n B cap : Nat} {el : TypeId} {h0 : SHeap} {old0 : List Nat}
theorem heapA_loopT (C : Cmp M g cel c) (hl : ∀ x, (cel x).length = 3) (hc : ∀ x, (cel x).all sc = true) (hn : n ≤ 1000000) {a hi : Nat} (hh : a + hi ≤ n) (cx : Cx) (f0 : Nat → E) : ∀ k ρ ms h' d', (∃ (f : Nat → E), k ≤ hi ∧ SA cel n B el h0 old0 h' f ∧ Sw a (a + hi) f0 f ∧ HP c a k hi f ∧ ρ 0 = .slice (some ⟨B, 0, none⟩) n cap ∧ ρ 3 = .func (.func g) #[] #[] ∧ ρ 8 = .int .i64 a ∧ ρ 9 = .int .i64 0 ∧ ρ 10 = .int .i64 hi ∧ ρ 11 = .int .i64 ((k : Int) - 1) ∧ ms = [] ∧ d' = []) →
    LoopW M cx 6 sf96L1 ρ ms h' d' (fun ex ρ' ms' h' d' => ex = .exit 0 ∧ ms' = [] ∧ d' = [] ∧ ∃ f : Nat → E, SA cel n B el h0 old0 h' f ∧ Sw a (a + hi) f0 f ∧ HP c a 0 hi f ∧ ρ' 0 = .slice (some ⟨B, 0, none⟩) n cap ∧ ρ' 3 = .func (.func g) #[] #[] ∧ ρ' 8 = .int .i64 a ∧ ρ' 9 = .int .i64 0 ∧ ρ' 10 = .int .i64 hi) := by
  refine loop_run _ ?_
  rintro k ρ ms h' d' ⟨f, hk, S, W, P, r0, r3, r8, r9, r10, r11, rfl, rfl⟩
  unfold sf96L1
  by_cases z : k = 0
  · have e1 : ¬ (0 : Int) ≤ (k : Int) - 1 := by omega
    subst z
    repeat (first | apply Z1 | apply Z2 | apply Z3 | apply Z4 | apply Z5 rfl | apply Z6 | apply Z7 | apply Z8 | apply Z9 | apply ZA | apply ZB | apply ZC | ((first | apply ZD (by decide) | apply ZN (by decide)); (simp (maxSteps := 9999999) only [go_sem, r0, r3, r8, r9, r10, r11, e1]; rfl)) | (refine ZE ?_ ?_; · simp only [go_sem]) | (refine ZF ?_ ?_; · simp only [go_sem]))
    refine end_nil ⟨rfl, rfl, rfl, f, S, W, P, ?_, ?_, ?_, ?_, ?_⟩
    · simp only [go_sem, r0]
    · simp only [go_sem, r3]
    · simp only [go_sem, r8]
    · simp only [go_sem, r9]
    · simp only [go_sem, r10]
  · obtain ⟨m, rfl⟩ : ∃ m, k = m + 1 := ⟨k - 1, by omega⟩
    have em : (((m + 1 : Nat) : Int) - 1) = (m : Int) := by omega
    rw [em] at r11
    have e1 : (0 : Int) ≤ (m : Int) := by omega
    have ew : IntKind.i64.wrap ((m : Int) - 1) = (m : Int) - 1 := wrap64 (by omega) (by omega)
    obtain ⟨h2, f2, e, S2, W2, P2⟩ := siftT (cap := cap) C hl hc hn (lo := m) (by omega) hh S P
    repeat (first | apply Z1 | apply Z2 | apply Z3 | apply Z4 | apply Z5 rfl | apply Z6 | apply Z7 | apply Z8 | apply Z9 | apply ZA | apply ZB | apply ZC | ((first | apply ZD (by decide) | apply ZN (by decide)); (simp (maxSteps := 9999999) only [go_sem, r0, r3, r8, r9, r10, r11, e1, e, ew]; rfl)) | (refine ZE ?_ ?_; · simp only [go_sem]) | (refine ZF ?_ ?_; · simp only [go_sem]))
    refine end_nil ⟨m, by omega, f2, by omega, S2, W.trans (W2.mono (by omega) (by omega)), P2, ?_, ?_, ?_, ?_, ?_, ?_, rfl, rfl⟩
    · simp only [go_sem, r0]
    · simp only [go_sem, r3]
    · simp only [go_sem, r8]
    · simp only [go_sem, r9]
    · simp only [go_sem, r10]
    · simp only [go_sem, ew]
theorem heapB_loopT (C : Cmp M g cel c) (hl : ∀ x, (cel x).length = 3) (hc : ∀ x, (cel x).all sc = true) (hn : n ≤ 1000000) {a hi : Nat} (hh : a + hi ≤ n) (cx : Cx) (f0 : Nat → E) : ∀ k ρ ms h' d', (∃ (f : Nat → E), k ≤ hi ∧ SA cel n B el h0 old0 h' f ∧ Sw a (a + hi) f0 f ∧ HP c a 0 k f ∧ Ord c (a + k) (a + hi) f ∧ (∀ p q, a ≤ p → p < a + k → a + k ≤ q → q < a + hi → ¬ c (f q) (f p) < 0) ∧ ρ 0 = .slice (some ⟨B, 0, none⟩) n cap ∧ ρ 3 = .func (.func g) #[] #[] ∧ ρ 8 = .int .i64 a ∧ ρ 9 = .int .i64 0 ∧ ρ 12 = .int .i64 ((k : Int) - 1) ∧ ms = [] ∧ d' = []) →
    LoopW M cx 6 sf96L0 ρ ms h' d' (fun ex ρ' ms' h' d' => ex = .exit 2 ∧ ms' = [] ∧ d' = [] ∧ ∃ f : Nat → E, SA cel n B el h0 old0 h' f ∧ Sw a (a + hi) f0 f ∧ Ord c a (a + hi) f) := by
  refine loop_run _ ?_
  rintro k ρ ms h' d' ⟨f, hk, S, W, P, O, hle, r0, r3, r8, r9, r12, rfl, rfl⟩
  unfold sf96L0
  by_cases z : k = 0
  · have e1 : ¬ (0 : Int) ≤ (k : Int) - 1 := by omega
    subst z
    repeat (first | apply Z1 | apply Z2 | apply Z3 | apply Z4 | apply Z5 rfl | apply Z6 | apply Z7 | apply Z8 | apply Z9 | apply ZA | apply ZB | apply ZC | ((first | apply ZD (by decide) | apply ZN (by decide)); (simp (maxSteps := 9999999) only [go_sem, r0, r3, r8, r9, r12, e1]; rfl)) | (refine ZE ?_ ?_; · simp only [go_sem]) | (refine ZF ?_ ?_; · simp only [go_sem]))
    exact end_nil ⟨rfl, rfl, rfl, f, S, W, O⟩
  · obtain ⟨m, rfl⟩ : ∃ m, k = m + 1 := ⟨k - 1, by omega⟩
    have em : (((m + 1 : Nat) : Int) - 1) = (m : Int) := by omega
    rw [em] at r12
    have e1 : (0 : Int) ≤ (m : Int) := by omega
    have ew : IntKind.i64.wrap ((m : Int) - 1) = (m : Int) - 1 := wrap64 (by omega) (by omega)
    have ea : IntKind.i64.wrap ((a : Int) + (m : Int)) = ((a + m : Nat) : Int) := by rw [wrap64 (by omega) (by omega)]; rfl
    have p1 : (0 : Int) ≤ ((a + m : Nat) : Int) := by omega
    have p2 : ((a + m : Nat) : Int) < n := by omega
    have p3 : (0 : Int) ≤ (a : Int) := by omega
    have p4 : (a : Int) < n := by omega
    have l1 := S.load hl (show a + m < n by omega)
    have l2 := S.load hl (show a < n by omega)
    obtain ⟨h1, h2, st1, st2, S2⟩ := S.swap hl hc (by decide) (show a < n by omega) (show a + m < n by omega)
    have P2 : HP c a (0 + 1) m (swp f a (a + m)) := fun i j h1 h2 h3 => by
      rw [swp_o f (by omega) (by omega), swp_o f (by omega) (by omega)]
      exact P i j (by omega) h2 (by omega)
    have top := P.top C
    obtain ⟨h3, f3, e, S3, W3, P3⟩ := siftT (cap := cap) C hl hc hn (lo := 0) (hi := m) (by omega) (by omega) S2 P2
    have ez : ((0 : Nat) : Int) = 0 := rfl
    rw [ez] at e
    have W3' : Sw a (a + m) (swp f a (a + m)) f3 := W3.mono (by omega) (by omega)
    -- what stays
    have f3m : f3 (a + m) = f a := by rw [W3'.out (by omega), swp_r]
    have f3o : ∀ q, a + m < q → f3 q = f q := fun q hq => by rw [W3'.out (by omega), swp_o f (by omega) (by omega)]
    have low : ∀ p, a ≤ p → p < a + m → ¬ c (f a) (f3 p) < 0 := W3'.all (P := fun x => ¬ c (f a) x < 0) (fun p h1 h2 => by
      by_cases e : p = a
      · subst e; rw [swp_l]; exact top m (by omega)
      · rw [swp_o f e (by omega)]
        have := top (p - a) (by omega)
        rwa [show a + (p - a) = p by omega] at this)
    have low2 : ∀ q, a + m < q → q < a + hi → ∀ p, a ≤ p → p < a + m → ¬ c (f q) (f3 p) < 0 := fun q q1 q2 p p1 p2 => C.ntr _ _ _ (hle a q (by omega) (by omega) (by omega) q2) (low p p1 p2)
    repeat (first | apply Z1 | apply Z2 | apply Z3 | apply Z4 | apply Z5 rfl | apply Z6 | apply Z7 | apply Z8 | apply Z9 | apply ZA | apply ZB | apply ZC | ((first | apply ZD (by decide) | apply ZN (by decide)); (simp (maxSteps := 9999999) only [go_sem, r0, r3, r8, r9, r12, e1, ea, p1, p2, p3, p4, l1, l2, hl, ↓st1, ↓st2, e, ew]; rfl)) | (refine ZE ?_ ?_; · simp only [go_sem]) | (refine ZF ?_ ?_; · simp only [go_sem]))
    refine end_nil ⟨m, by omega, f3, by omega, S3, (W.step (by omega) (by omega) (by omega) (by omega)).trans (W3'.mono (by omega) (by omega)), P3, ?_, ?_, ?_, ?_, ?_, ?_, ?_, rfl, rfl⟩
    · intro p q h1 h2 h3
      by_cases ep : p = a + m
      · subst ep
        rw [f3m, f3o q h2]
        exact hle a q (by omega) (by omega) (by omega) h3
      · rw [f3o p (by omega), f3o q (by omega)]
        exact O p q (by omega) h2 h3
    · intro p q h1 h2 h3 h4
      by_cases eq : q = a + m
      · subst eq; rw [f3m]; exact low p h1 h2
      · rw [f3o q (by omega)]; exact low2 q (by omega) h4 p h1 h2
    · simp only [go_sem, r0]
    · simp only [go_sem, r3]
    · simp only [go_sem, r8]
    · simp only [go_sem, r9]
    · simp only [go_sem, ew]
theorem heapT (C : Cmp M g cel c) (hl : ∀ x, (cel x).length = 3) (hc : ∀ x, (cel x).all sc = true) (hn : n ≤ 1000000) {a b : Nat} (hab : a < b) (hb : b ≤ n) {h : SHeap} {f : Nat → E} (S : SA cel n B el h0 old0 h f) :
    ∃ h' f', M.call 96 [.slice (some ⟨B, 0, none⟩) n cap, .int .i64 a, .int .i64 b, .func (.func g) #[] #[]] h = some (.tuple #[], h', []) ∧ SA cel n B el h0 old0 h' f' ∧ Sw a b f f' ∧ Ord c a b f' := by
  have key : ∃ r, (∃ h' f', r = (Value.tuple #[], h', ([] : List Nat)) ∧ SA cel n B el h0 old0 h' f' ∧ Sw a b f f' ∧ Ord c a b f') ∧ M.call 96 [.slice (some ⟨B, 0, none⟩) n cap, .int .i64 a, .int .i64 b, .func (.func g) #[] #[]] h = some r := by
    refine call_ex (f := 96) _ sf96 rfl rfl rfl ?_
    unfold sf96
    have w1 : IntKind.i64.wrap ((b : Int) - (a : Int)) = ((b - a : Nat) : Int) := by rw [wrap64 (by omega) (by omega)]; omega
    have w2 : IntKind.i64.wrap (((b - a : Nat) : Int) - 1) = ((b - a - 1 : Nat) : Int) := by rw [wrap64 (by omega) (by omega)]; omega
    have w3 : IntKind.i64.wrap (((b - a - 1 : Nat) : Int).tdiv 2) = (((b - a - 1) / 2 : Nat) : Int) := by rw [Int.tdiv_eq_ediv_of_nonneg (by omega), wrap64 (by omega) (by omega)]; rfl
    repeat (first | apply Z1 | apply Z2 | apply Z3 | apply Z4 | apply Z5 rfl | apply Z6 | apply Z7 | apply Z8 | apply Z9 | apply ZA | apply ZB | apply ZC | ((first | apply ZD (by decide) | apply ZN (by decide)); (simp (maxSteps := 9999999) only [go_sem, argR, w1, w2, w3]; rfl)) | (refine ZE ?_ ?_; · simp only [go_sem]) | (refine ZF ?_ ?_; · simp only [go_sem]))
    refine run_loop (heapA_loopT (cap := cap) (el := el) (h0 := h0) (old0 := old0) C hl hc hn (a := a) (hi := b - a) (by omega) _ f ((b - a - 1) / 2 + 1) _ _ _ _ ⟨f, by omega, S, .refl, fun i j h1 h2 h3 => by omega, ?_, ?_, ?_, ?_, ?_, ?_, rfl, rfl⟩) ?_
    · simp only [go_sem, argR]
    · simp only [go_sem, argR]
    · simp only [go_sem, argR]
    · simp only [go_sem]
    · simp only [go_sem]
    · simp only [go_sem]; congr 1; omega
    rintro ex ρ' ms' h1 d1 ⟨rfl, rfl, rfl, f2, S2, W2, P2, k0, k3, k8, k9, k10⟩
    repeat (first | apply Z1 | apply Z2 | apply Z3 | apply Z4 | apply Z5 rfl | apply Z6 | apply Z7 | apply Z8 | apply Z9 | apply ZA | apply ZB | apply ZC | ((first | apply ZD (by decide) | apply ZN (by decide)); (simp (maxSteps := 9999999) only [go_sem, k0, k3, k8, k9, k10, w2]; rfl)) | (refine ZE ?_ ?_; · simp only [go_sem]) | (refine ZF ?_ ?_; · simp only [go_sem]))
    refine run_loop (heapB_loopT (cap := cap) (el := el) (h0 := h0) (old0 := old0) C hl hc hn (a := a) (hi := b - a) (by omega) _ f2 (b - a) _ _ _ _ ⟨f2, Nat.le_refl _, S2, .refl, P2, Ord.nil c (by omega) _, fun p q _ _ h3 h4 => by omega, ?_, ?_, ?_, ?_, ?_, rfl, rfl⟩) ?_
    · simp only [go_sem, k0]
    · simp only [go_sem, k3]
    · simp only [go_sem, k8]
    · simp only [go_sem, k9]
    · simp only [go_sem]; congr 1; omega
    rintro ex ρ2 ms2 h3 d2 ⟨rfl, rfl, rfl, f3, S3, W3, O3⟩
    rw [show a + (b - a) = b by omega] at W2 W3 O3
    repeat (first | apply Z1 | apply Z2 | apply Z3 | apply Z4 | apply Z5 rfl | apply Z6 | apply Z7 | apply Z8 | apply Z9 | apply ZA | apply ZB | apply ZC | ((first | apply ZD (by decide) | apply ZN (by decide)); (simp (maxSteps := 9999999) only [go_sem]; rfl)) | (refine ZE ?_ ?_; · simp only [go_sem]) | (refine ZF ?_ ?_; · simp only [go_sem]))
    exact end_nil ⟨_, ⟨h3, f3, rfl, S3, W2.trans W3, O3⟩, q_free [] rfl rfl rfl rfl (fun _ => rfl) (by rw [List.take_of_length_le]; rw [S3.len, S.len]; exact Nat.le_refl _) rfl⟩
  obtain ⟨r, ⟨h', f', rfl, k⟩, e⟩ := key
  exact ⟨h', f', e, k⟩
end
end Go.Proofs.Ytioijehbmgmgkaa.Sh

namespace Go.Proofs.Ytioijehbmgmgkaa.Sh
open Go
set_option maxRecDepth 100000
set_option maxHeartbeats 4000000
theorem b_shl {k k' : IntKind} {a b : Int} (h : 0 ≤ b) : binS .shl (.int k a) (.int k' b) = some (.int k (k.wrap (a * 2 ^ (min b.toNat k.bits)))) := by
  show pureRun (Op.shift .shl k a k' b) = _
  unfold Op.shift
  rw [if_neg (by omega)]
  rfl
theorem b_shr {k k' : IntKind} {a b : Int} (h : 0 ≤ b) : binS .shr (.int k a) (.int k' b) = some (.int k (a.fdiv (2 ^ (min b.toNat k.bits)))) := by
  show pureRun (Op.shift .shr k a k' b) = _
  unfold Op.shift
  rw [if_neg (by omega)]
  rfl
def andU (a b : Int) : Int := IntKind.u64.wrap ((BitVec.ofInt 64 a &&& BitVec.ofInt 64 b).toNat)
def xorU (a b : Int) : Int := IntKind.u64.wrap ((BitVec.ofInt 64 a ^^^ BitVec.ofInt 64 b).toNat)
theorem b_andU (a b : Int) : binS .and (.int .u64 a) (.int .u64 b) = some (.int .u64 (andU a b)) := (rfl)
theorem b_xor (a b : Int) : binS .xor (.int .u64 a) (.int .u64 b) = some (.int .u64 (xorU a b)) := (rfl)
theorem andU_le (a : Int) {b : Nat} (hb : b < 18446744073709551616) : 0 ≤ andU a b ∧ andU a b ≤ b := by
  have h1 : (BitVec.ofInt 64 a &&& BitVec.ofInt 64 (b : Int)).toNat ≤ b := by
    rw [BitVec.toNat_and]
    refine Nat.le_trans Nat.and_le_right ?_
    rw [BitVec.toNat_ofInt]
    have : ((b : Int) % ((2 ^ 64 : Nat) : Int)).toNat = b := by
      have e64 : ((2 ^ 64 : Nat) : Int) = 18446744073709551616 := rfl
      rw [e64, Int.emod_eq_of_lt (by omega) (by omega)]; rfl
    exact Nat.le_of_eq this
  have h2 : andU a b = ((BitVec.ofInt 64 a &&& BitVec.ofInt 64 (b : Int)).toNat : Int) := by
    unfold andU
    have e1 : ∀ x, IntKind.u64.wrap x = x % 18446744073709551616 := fun x => by simp [IntKind.wrap, IntKind.signed, IntKind.bits]
    rw [e1]; omega
  rw [h2]; omega
attribute [go_sem ↓] b_andU b_xor
theorem E_idxStr (R : Rec) (cx : Cx) (e : Evl) (sl : Option Nat) (x i : Operand) (h : SHeap) (d : List Nat) : opE R cx e sl (.idxStr x i) h d = match e x, e i with
    | some (.string s), some (.int _ n) =>
      if decide (0 ≤ n) then match s.data.toList[n.toNat]? with
        | some b => some (.int .u8 b.toNat, h, d)
        | none => none
      else none
    | _, _ => none := (rfl)
attribute [go_sem ↓] E_idxStr
theorem wrapU' {x : Int} (h1 : 0 ≤ x) (h2 : x ≤ 18446744073709551615) : IntKind.u64.wrap x = x := by
  have e1 : IntKind.u64.wrap x = x % 18446744073709551616 := by simp [IntKind.wrap, IntKind.signed, IntKind.bits]
  rw [e1]; omega
def len8 (n : Nat) : Nat := if n = 0 then 0 else Nat.log2 n + 1
def lenTab : ByteArray := ⟨#[0, 1, 2, 2, 3, 3, 3, 3, 4, 4, 4, 4, 4, 4, 4, 4, 5, 5, 5, 5, 5, 5, 5, 5, 5, 5, 5, 5, 5, 5, 5, 5, 6, 6, 6, 6, 6, 6, 6, 6, 6, 6, 6, 6, 6, 6, 6, 6, 6, 6, 6, 6, 6, 6, 6, 6, 6, 6, 6, 6, 6, 6, 6, 6, 7, 7, 7, 7, 7, 7, 7, 7, 7, 7, 7, 7, 7, 7, 7, 7, 7, 7, 7, 7, 7, 7, 7, 7, 7, 7, 7, 7, 7, 7, 7, 7, 7, 7, 7, 7, 7, 7, 7, 7, 7, 7, 7, 7, 7, 7, 7, 7, 7, 7, 7, 7, 7, 7, 7, 7, 7, 7, 7, 7, 7, 7, 7, 7, 8, 8, 8, 8, 8, 8, 8, 8, 8, 8, 8, 8, 8, 8, 8, 8, 8, 8, 8, 8, 8, 8, 8, 8, 8, 8, 8, 8, 8, 8, 8, 8, 8, 8, 8, 8, 8, 8, 8, 8, 8, 8, 8, 8, 8, 8, 8, 8, 8, 8, 8, 8, 8, 8, 8, 8, 8, 8, 8, 8, 8, 8, 8, 8, 8, 8, 8, 8, 8, 8, 8, 8, 8, 8, 8, 8, 8, 8, 8, 8, 8, 8, 8, 8, 8, 8, 8, 8, 8, 8, 8, 8, 8, 8, 8, 8, 8, 8, 8, 8, 8, 8, 8, 8, 8, 8, 8, 8, 8, 8, 8, 8, 8, 8, 8, 8, 8, 8, 8, 8, 8, 8, 8, 8, 8, 8, 8, 8]⟩
theorem tab_at : ∀ n, n < 256 → lenTab.data.toList[n]? = some (UInt8.ofNat (len8 n)) := by decide +kernel
theorem len8_p : ∀ n, n < 256 → n < 2 ^ len8 n ∧ len8 n ≤ 8 ∧ (1 ≤ n → 2 ^ len8 n ≤ 2 * n) := by decide +kernel
def lenB (n : Nat) : Nat := if n < 256 then len8 n else 8 + len8 (n / 256)
theorem lenB_p {n : Nat} (hn : n < 65536) : n < 2 ^ lenB n ∧ lenB n ≤ 16 ∧ (1 ≤ n → 2 ^ lenB n ≤ 2 * n) := by
  unfold lenB
  by_cases c : n < 256
  · rw [if_pos c]
    have := len8_p n c
    exact ⟨this.1, by omega, this.2.2⟩
  · rw [if_neg c]
    obtain ⟨a1, a2, a3⟩ := len8_p (n / 256) (by omega)
    have a4 := a3 (by omega)
    rw [Nat.pow_add]
    have e : 2 ^ 8 = 256 := rfl
    rw [e]
    refine ⟨by omega, by omega, fun _ => by omega⟩
theorem len99 {n : Nat} (hn : n < 65536) (h : SHeap) : M.call 104 [.int .u64 n] h = some (.int .i64 (lenB n), h, []) := by
  have e1 : ¬ (4294967296 : Int) ≤ n := by omega
  have e2 : ¬ (65536 : Int) ≤ n := by omega
  have wu : ∀ z : Int, 0 ≤ z → z < 256 → IntKind.u8.wrap z = z := fun z h1 h2 => by
    have e1 : IntKind.u8.wrap z = z % 256 := by simp [IntKind.wrap, IntKind.signed, IntKind.bits]
    rw [e1]; omega
  refine call_run sf104 rfl rfl rfl ?_
  unfold sf104
  by_cases c : n < 256
  · have e3 : ¬ (256 : Int) ≤ n := by omega
    have hb : lenB n = len8 n := if_pos c
    rw [hb]
    have w1 := wu n (by omega) (by omega)
    have t1 := tab_at n c
    unfold lenTab at t1
    dsimp only at t1
    have t2 : ((UInt8.ofNat (len8 n)).toNat : Int) = len8 n := by
      have := (len8_p n c).2.1
      rw [UInt8.toNat_ofNat', Nat.mod_eq_of_lt (by omega)]
    have w2 : IntKind.i64.wrap (len8 n : Int) = len8 n := by
      have := (len8_p n c).2.1
      exact wrap64 (by omega) (by omega)
    have p0 : (0 : Int) ≤ n := by omega
    repeat (first | apply Z1 | apply Z2 | apply Z3 | apply Z4 | apply Z5 rfl | apply Z6 | apply Z7 | apply Z8 | apply Z9 | apply ZA | apply ZB | apply ZC | ((first | apply ZD (by decide) | apply ZN (by decide)); (simp (maxSteps := 9999999) only [go_sem, argR, e1, e2, e3, w1, p0, t1, t2, w2]; rfl)) | (refine ZE ?_ ?_; · simp only [go_sem]) | (refine ZF ?_ ?_; · simp only [go_sem]))
    exact end_nil (q_ret1 _ (by simp only [go_sem]) rfl (take_self _))
  · have e3 : (256 : Int) ≤ n := by omega
    have hb : lenB n = 8 + len8 (n / 256) := if_neg c
    rw [hb]
    have d1 : (n : Int).fdiv 256 = ((n / 256 : Nat) : Int) := by rw [Int.fdiv_eq_ediv_of_nonneg _ (by decide)]; rfl
    have sh : binS .shr (.int .u64 (n : Int)) (.int .u64 8) = some (.int .u64 ((n / 256 : Nat) : Int)) := by
      rw [b_shr (by decide)]
      show some (Value.int .u64 ((n : Int).fdiv 256)) = _
      rw [d1]
    have w1 := wu ((n / 256 : Nat) : Int) (by omega) (by omega)
    have t1 := tab_at (n / 256) (by omega)
    unfold lenTab at t1
    dsimp only at t1
    have hl := (len8_p (n / 256) (by omega)).2.1
    have t2 : ((UInt8.ofNat (len8 (n / 256))).toNat : Int) = len8 (n / 256) := by
      rw [UInt8.toNat_ofNat', Nat.mod_eq_of_lt (by omega)]
    have w2 : IntKind.i64.wrap (len8 (n / 256) : Int) = len8 (n / 256) := wrap64 (by omega) (by omega)
    have w3 : IntKind.i64.wrap (8 + (len8 (n / 256) : Int)) = ((8 + len8 (n / 256) : Nat) : Int) := by rw [wrap64 (by omega) (by omega)]; rfl
    have w8 : IntKind.i64.wrap 8 = 8 := rfl
    have p0 : (0 : Int) ≤ ((n / 256 : Nat) : Int) := by omega
    repeat (first | apply Z1 | apply Z2 | apply Z3 | apply Z4 | apply Z5 rfl | apply Z6 | apply Z7 | apply Z8 | apply Z9 | apply ZA | apply ZB | apply ZC | ((first | apply ZD (by decide) | apply ZN (by decide)); (simp (maxSteps := 9999999) only [go_sem, argR, e1, e2, e3, sh, w1, p0, t1, t2, w2, w3, w8]; rfl)) | (refine ZE ?_ ?_; · simp only [go_sem]) | (refine ZF ?_ ?_; · simp only [go_sem]))
    exact end_nil (q_ret1 _ (by simp only [go_sem]) rfl (take_self _))
theorem len82 {n : Nat} (hn : n < 65536) (h : SHeap) : M.call 90 [.int .u64 n] h = some (.int .i64 (lenB n), h, []) := by
  have c99 := fun h => len99 hn h
  refine call_run sf90 rfl rfl rfl ?_
  unfold sf90
  repeat (first | apply Z1 | apply Z2 | apply Z3 | apply Z4 | apply Z5 rfl | apply Z6 | apply Z7 | apply Z8 | apply Z9 | apply ZA | apply ZB | apply ZC | ((first | apply ZD (by decide) | apply ZN (by decide)); (simp (maxSteps := 9999999) only [go_sem, argR, c99]; rfl)) | (refine ZE ?_ ?_; · simp only [go_sem]) | (refine ZF ?_ ?_; · simp only [go_sem]))
  exact end_nil (q_ret1 _ (by simp only [go_sem]) rfl (take_self _))
theorem np111 {n : Nat} (hn : n < 65536) (h : SHeap) : M.call 108 [.int .i64 n] h = some (.int .u64 ((2 ^ lenB n : Nat) : Int), h, []) := by
  have c82 := fun h => len82 hn h
  have wu : IntKind.u64.wrap (n : Int) = n := wrapU' (by omega) (by omega)
  have hl := (lenB_p hn).2.1
  have hp : 2 ^ lenB n ≤ 2 ^ 16 := Nat.pow_le_pow_right (by decide) hl
  have sh : binS .shl (.int .u64 1) (.int .i64 (lenB n : Int)) = some (.int .u64 ((2 ^ lenB n : Nat) : Int)) := by
    rw [b_shl (by omega)]
    have e : min ((lenB n : Int)).toNat IntKind.u64.bits = lenB n := by
      show min ((lenB n : Int)).toNat 64 = lenB n
      omega
    rw [e, Int.one_mul]
    have : ((2 : Int) ^ lenB n) = ((2 ^ lenB n : Nat) : Int) := by simp
    rw [this]
    generalize 2 ^ lenB n = P at *
    rw [wrapU' (by omega) (by omega)]
  refine call_run sf108 rfl rfl rfl ?_
  unfold sf108
  repeat (first | apply Z1 | apply Z2 | apply Z3 | apply Z4 | apply Z5 rfl | apply Z6 | apply Z7 | apply Z8 | apply Z9 | apply ZA | apply ZB | apply ZC | ((first | apply ZD (by decide) | apply ZN (by decide)); (simp (maxSteps := 9999999) only [go_sem, argR, wu, c82, sh]; rfl)) | (refine ZE ?_ ?_; · simp only [go_sem]) | (refine ZF ?_ ?_; · simp only [go_sem]))
  exact end_nil (q_ret1 _ (by simp only [go_sem]) rfl (take_self _))
def nxt (z : Int) : Int :=
  let a := xorU z (IntKind.u64.wrap (z * 8192))
  let b := xorU a (a.fdiv 128)
  xorU b (IntKind.u64.wrap (b * 131072))
theorem xs112 {R : Nat} {z : Int} {h : SHeap} (hR : h[R]? = some (.cells [.int .u64 z] 158 true 0 [])) : M.call 109 [.pointer (some ⟨R, 0, none⟩)] h = some (.int .u64 (nxt z), h.set R (.cells [.int .u64 (nxt z)] 158 true 0 []), []) := by
  have hlt : R < h.length := (List.getElem?_eq_some_iff.1 hR).1
  have l0 : loadS h none (.pointer (some ⟨R, 0, none⟩)) = some (.int .u64 z) := by rw [load_rdO, hR]; rfl
  have l1 : ∀ X, loadS (h.set R X) none (.pointer (some ⟨R, 0, none⟩)) = rdO (some X) 0 := fun X => by rw [load_rdO, List.getElem?_set_self hlt]
  have g1 : ∀ X, (h.set R X)[R]? = some X := fun X => List.getElem?_set_self hlt
  have s1 : ∀ x : Int, binS .shl (.int .u64 x) (.int .u64 13) = some (.int .u64 (IntKind.u64.wrap (x * 8192))) := fun x => b_shl (by decide)
  have s2 : ∀ x : Int, binS .shr (.int .u64 x) (.int .u64 7) = some (.int .u64 (x.fdiv 128)) := fun x => b_shr (by decide)
  have s3 : ∀ x : Int, binS .shl (.int .u64 x) (.int .u64 17) = some (.int .u64 (IntKind.u64.wrap (x * 131072))) := fun x => b_shl (by decide)
  refine call_run sf109 rfl rfl rfl ?_
  unfold sf109
  repeat (first | apply Z1 | apply Z2 | apply Z3 | apply Z4 | apply Z5 rfl | apply Z6 | apply Z7 | apply Z8 | apply Z9 | apply ZA | apply ZB | apply ZC | ((first | apply ZD (by decide) | apply ZN (by decide)); (simp (maxSteps := 9999999) only [go_sem, argR, l0, hR, l1, g1, s1, s2, s3, List.set_set]; rfl)) | (refine ZE ?_ ?_; · simp only [go_sem]) | (refine ZF ?_ ?_; · simp only [go_sem]))
  refine end_nil (q_ret1 _ (by simp only [go_sem]; rfl) rfl ?_)
  rw [List.take_of_length_le (by simp)]
  rfl
end Go.Proofs.Ytioijehbmgmgkaa.Sh

namespace Go.Proofs.Ytioijehbmgmgkaa.Sh
open Go
set_option maxRecDepth 100000
set_option maxHeartbeats 4000000
section
variable {E : Type} {cel : E → List Value} {c : E → E → Int} {g : FuncId} {n B cap : Nat} {el : TypeId} {h0 : SHeap} {old0 : List Nat}
theorem rev_loopT (hl : ∀ x, (cel x).length = 3) (hc : ∀ x, (cel x).all sc = true) (hn : n ≤ 1000000) {a b : Nat} (hb : b ≤ n) (cx : Cx) (f0 : Nat → E) : ∀ k ρ ms h' d', (∃ (i j : Nat) (f : Nat → E), j - i = k ∧ a ≤ i ∧ i ≤ b ∧ a ≤ j + 1 ∧ j < b ∧ SA cel n B el h0 old0 h' f ∧ Sw a b f0 f ∧ ρ 0 = .slice (some ⟨B, 0, none⟩) n cap ∧ ρ 8 = .int .i64 i ∧ ρ 9 = .int .i64 j ∧ ms = [] ∧ d' = []) →
    LoopW M cx 6 sf99L0 ρ ms h' d' (fun ex ρ' ms' h' d' => ex = .exit 0 ∧ ms' = [] ∧ d' = [] ∧ ∃ f : Nat → E, SA cel n B el h0 old0 h' f ∧ Sw a b f0 f) := by
  refine loop_run _ ?_
  rintro k ρ ms h' d' ⟨i, j, f, hk, hai, hib, haj, hjb, S, W, r0, r8, r9, rfl, rfl⟩
  unfold sf99L0
  by_cases z : i < j
  · have e1 : (i : Int) < j := by omega
    have p1 : (0 : Int) ≤ (i : Int) := by omega
    have p2 : (i : Int) < n := by omega
    have p3 : (0 : Int) ≤ (j : Int) := by omega
    have p4 : (j : Int) < n := by omega
    have l1 := S.load hl (show i < n by omega)
    have l2 := S.load hl (show j < n by omega)
    obtain ⟨h1, h2, st1, st2, S2⟩ := S.swap hl hc (by decide) (show i < n by omega) (show j < n by omega)
    have w1 : IntKind.i64.wrap ((i : Int) + 1) = ((i + 1 : Nat) : Int) := by rw [wrap64 (by omega) (by omega)]; rfl
    have w2 : IntKind.i64.wrap ((j : Int) - 1) = ((j - 1 : Nat) : Int) := by rw [wrap64 (by omega) (by omega)]; omega
    repeat (first | apply Z1 | apply Z2 | apply Z3 | apply Z4 | apply Z5 rfl | apply Z6 | apply Z7 | apply Z8 | apply Z9 | apply ZA | apply ZB | apply ZC | ((first | apply ZD (by decide) | apply ZN (by decide)); (simp (maxSteps := 9999999) only [go_sem, r0, r8, r9, e1, p1, p2, p3, p4, l1, l2, hl, ↓st1, ↓st2, w1, w2]; rfl)) | (refine ZE ?_ ?_; · simp only [go_sem]) | (refine ZF ?_ ?_; · simp only [go_sem]))
    refine end_nil ⟨j - 1 - (i + 1), by omega, i + 1, j - 1, _, rfl, by omega, by omega, by omega, by omega, S2, W.step (by omega) (by omega) (by omega) (by omega), ?_, ?_, ?_, rfl, rfl⟩
    · simp only [go_sem, r0]
    · simp only [go_sem, w1]
    · simp only [go_sem, w2]
  · have e1 : ¬ (i : Int) < j := by omega
    repeat (first | apply Z1 | apply Z2 | apply Z3 | apply Z4 | apply Z5 rfl | apply Z6 | apply Z7 | apply Z8 | apply Z9 | apply ZA | apply ZB | apply ZC | ((first | apply ZD (by decide) | apply ZN (by decide)); (simp (maxSteps := 9999999) only [go_sem, r0, r8, r9, e1]; rfl)) | (refine ZE ?_ ?_; · simp only [go_sem]) | (refine ZF ?_ ?_; · simp only [go_sem]))
    exact end_nil ⟨rfl, rfl, rfl, f, S, W⟩
theorem revT (hl : ∀ x, (cel x).length = 3) (hc : ∀ x, (cel x).all sc = true) (hn : n ≤ 1000000) {a b : Nat} (hab : a < b) (hb : b ≤ n) (cf : Value) {h : SHeap} {f : Nat → E} (S : SA cel n B el h0 old0 h f) :
    ∃ h' f', M.call 99 [.slice (some ⟨B, 0, none⟩) n cap, .int .i64 a, .int .i64 b, cf] h = some (.tuple #[], h', []) ∧ SA cel n B el h0 old0 h' f' ∧ Sw a b f f' := by
  have key : ∃ r, (∃ h' f', r = (Value.tuple #[], h', ([] : List Nat)) ∧ SA cel n B el h0 old0 h' f' ∧ Sw a b f f') ∧ M.call 99 [.slice (some ⟨B, 0, none⟩) n cap, .int .i64 a, .int .i64 b, cf] h = some r := by
    refine call_ex (f := 99) _ sf99 rfl rfl rfl ?_
    unfold sf99
    have w1 : IntKind.i64.wrap ((b : Int) - 1) = ((b - 1 : Nat) : Int) := by rw [wrap64 (by omega) (by omega)]; omega
    repeat (first | apply Z1 | apply Z2 | apply Z3 | apply Z4 | apply Z5 rfl | apply Z6 | apply Z7 | apply Z8 | apply Z9 | apply ZA | apply ZB | apply ZC | ((first | apply ZD (by decide) | apply ZN (by decide)); (simp (maxSteps := 9999999) only [go_sem, argR, w1]; rfl)) | (refine ZE ?_ ?_; · simp only [go_sem]) | (refine ZF ?_ ?_; · simp only [go_sem]))
    refine run_loop (rev_loopT (cap := cap) (el := el) (h0 := h0) (old0 := old0) hl hc hn (a := a) hb _ f (b - 1 - a) _ _ _ _ ⟨a, b - 1, f, rfl, Nat.le_refl _, by omega, by omega, by omega, S, .refl, ?_, ?_, ?_, rfl, rfl⟩) ?_
    · simp only [go_sem, argR]
    · simp only [go_sem, argR]
    · simp only [go_sem, w1]
    rintro ex ρ' ms' h1 d1 ⟨rfl, rfl, rfl, f2, S2, W2⟩
    repeat (first | apply Z1 | apply Z2 | apply Z3 | apply Z4 | apply Z5 rfl | apply Z6 | apply Z7 | apply Z8 | apply Z9 | apply ZA | apply ZB | apply ZC | ((first | apply ZD (by decide) | apply ZN (by decide)); (simp (maxSteps := 9999999) only [go_sem]; rfl)) | (refine ZE ?_ ?_; · simp only [go_sem]) | (refine ZF ?_ ?_; · simp only [go_sem]))
    exact end_nil ⟨_, ⟨h1, f2, rfl, S2, W2⟩, q_free [] rfl rfl rfl rfl (fun _ => rfl) (by rw [List.take_of_length_le]; rw [S2.len, S.len]; exact Nat.le_refl _) rfl⟩
  obtain ⟨r, ⟨h', f', rfl, k⟩, e⟩ := key
  exact ⟨h', f', e, k⟩
abbrev xb (z : Int) : SO := .cells [.int .u64 z] 158 true 0 []
theorem SA.rnd (hlow : ∀ c ∈ old0, c < h0.length) {h : SHeap} {f : Nat → E} {z : Int} (hB : B < h0.length) (S : SA cel n B el (h0 ++ [xb z]) old0 h f) : h[h0.length]? = some (xb z) := by
  rw [S.same _ (by omega) (fun e => by have := hlow _ e; omega), app_get0]; rfl
theorem SA.setR {h : SHeap} {f : Nat → E} {z : Int} (hB : B < h0.length) (S : SA cel n B el (h0 ++ [xb z]) old0 h f) (z' : Int) : SA cel n B el (h0 ++ [xb z']) old0 (h.set h0.length (xb z')) f := by
  have hl := S.len
  simp at hl
  refine ⟨by simp [hl], fun j h1 h2 => ?_, ?_⟩
  · by_cases e : j = h0.length
    · subst e; rw [List.getElem?_set_self (by omega), app_get0]; rfl
    · rw [List.getElem?_set_ne (by omega), S.same j h1 h2]
      by_cases e2 : j < h0.length
      · rw [List.getElem?_append_left e2, List.getElem?_append_left e2]
      · rw [List.getElem?_eq_none (by simp; omega), List.getElem?_eq_none (by simp; omega)]
  · obtain ⟨old, ho, e⟩ := S.at_
    exact ⟨old, ho, by rw [List.getElem?_set_ne (by omega)]; exact e⟩
theorem SA.cut {h : SHeap} {f : Nat → E} {x : SO} (hB : B < h0.length) (S : SA cel n B el (h0 ++ [x]) old0 h f) : SA cel n B el h0 old0 (h.take h0.length) f := by
  have hl := S.len
  simp at hl
  refine ⟨by simp; omega, fun j h1 h2 => ?_, ?_⟩
  · by_cases e2 : j < h0.length
    · rw [List.getElem?_take, if_pos e2, S.same j h1 h2, List.getElem?_append_left e2]
    · rw [List.getElem?_eq_none (by simp; omega), List.getElem?_eq_none (by omega)]
  · obtain ⟨old, ho, e⟩ := S.at_
    exact ⟨old, ho, by rw [List.getElem?_take, if_pos hB]; exact e⟩
theorem SA.grow {h : SHeap} {f : Nat → E} (S : SA cel n B el h0 old0 h f) (x : SO) : SA cel n B el (h0 ++ [x]) old0 (h ++ [x]) f := by
  have hl := S.len
  refine ⟨by simp [hl], fun j h1 h2 => ?_, ?_⟩
  · by_cases e2 : j < h0.length
    · rw [List.getElem?_append_left (by omega), List.getElem?_append_left e2, S.same j h1 h2]
    · by_cases e3 : j = h0.length
      · subst e3; rw [app_get0, ← hl, app_get0]
      · rw [List.getElem?_eq_none (by simp; omega), List.getElem?_eq_none (by simp; omega)]
  · obtain ⟨old, ho, e⟩ := S.at_
    exact ⟨old, ho, by rw [List.getElem?_append_left S.lt]; exact e⟩
theorem brk_loopT (hl : ∀ x, (cel x).length = 3) (hc : ∀ x, (cel x).all sc = true) (hn : n ≤ 60000) {a b : Nat} (hab : a + 8 ≤ b) (hb : b ≤ n) (hlow : ∀ c ∈ old0, c < h0.length) (hB : B < h0.length) (cx : Cx) (f0 : Nat → E) : ∀ k ρ ms h' d', (∃ (i : Nat) (z : Int) (f : Nat → E), a + (b - a) / 4 * 2 + 2 - i = k ∧ a + (b - a) / 4 * 2 ≤ i + 1 ∧ i ≤ a + (b - a) / 4 * 2 + 2 ∧ SA cel n B el (h0 ++ [xb z]) old0 h' f ∧ Sw a b f0 f ∧ ρ 0 = .slice (some ⟨B, 0, none⟩) n cap ∧ ρ 1 = .int .i64 a ∧ ρ 8 = .int .i64 ((b - a : Nat) : Int) ∧ ρ 9 = .pointer (some ⟨h0.length, 0, none⟩) ∧ ρ 10 = .int .u64 ((2 ^ lenB (b - a) : Nat) : Int) ∧ ρ 11 = .int .i64 i ∧ ms = [] ∧ d' = []) →
    LoopW M cx 7 sf97L0 ρ ms h' d' (fun ex ρ' ms' h' d' => ex = .exit 0 ∧ ms' = [] ∧ d' = [] ∧ ∃ (f : Nat → E) (z : Int), SA cel n B el (h0 ++ [xb z]) old0 h' f ∧ Sw a b f0 f) := by
  refine loop_run _ ?_
  rintro k ρ ms h' d' ⟨i, z, f, hk, hi1, hi2, S, W, r0, r1, r8, r9, r10, r11, rfl, rfl⟩
  obtain ⟨b1, b2, b3⟩ := lenB_p (n := b - a) (by omega)
  have b3 := b3 (by omega)
  generalize hP : 2 ^ lenB (b - a) = P at *
  have d4 : IntKind.i64.wrap (((b - a : Nat) : Int).tdiv 4) = (((b - a) / 4 : Nat) : Int) := by rw [Int.tdiv_eq_ediv_of_nonneg (by omega), wrap64 (by omega) (by omega)]; rfl
  have m4 : IntKind.i64.wrap ((((b - a) / 4 : Nat) : Int) * 2) = (((b - a) / 4 * 2 : Nat) : Int) := by rw [wrap64 (by omega) (by omega)]; rfl
  have a4 : IntKind.i64.wrap ((a : Int) + (((b - a) / 4 * 2 : Nat) : Int)) = ((a + (b - a) / 4 * 2 : Nat) : Int) := by rw [wrap64 (by omega) (by omega)]; rfl
  have a5 : IntKind.i64.wrap (((a + (b - a) / 4 * 2 : Nat) : Int) + 1) = ((a + (b - a) / 4 * 2 + 1 : Nat) : Int) := by rw [wrap64 (by omega) (by omega)]; rfl
  unfold sf97L0
  by_cases zi : i ≤ a + (b - a) / 4 * 2 + 1
  · have e1 : (i : Int) ≤ ((a + (b - a) / 4 * 2 + 1 : Nat) : Int) := by omega
    have cx112 := xs112 (S.rnd hlow hB)
    have S1 := S.setR hB (nxt z)
    have w1 : IntKind.u64.wrap ((P : Int) - 1) = ((P - 1 : Nat) : Int) := by rw [wrapU' (by omega) (by omega)]; omega
    obtain ⟨u1, u2⟩ := andU_le (nxt z) (b := P - 1) (by omega)
    obtain ⟨r, hr⟩ : ∃ r : Nat, andU (nxt z) ((P - 1 : Nat) : Int) = r := ⟨(andU (nxt z) ((P - 1 : Nat) : Int)).toNat, by omega⟩
    rw [hr] at u1 u2
    have w2 : IntKind.i64.wrap (r : Int) = r := wrap64 (by omega) (by omega)
    have ew : IntKind.i64.wrap ((i : Int) + 1) = ((i + 1 : Nat) : Int) := by rw [wrap64 (by omega) (by omega)]; rfl
    have p1 : (0 : Int) ≤ (i : Int) := by omega
    have p2 : (i : Int) < n := by omega
    have l1 := S1.load hl (show i < n by omega)
    by_cases q : b - a ≤ r
    · have e2 : ((b - a : Nat) : Int) ≤ r := by omega
      have w3 : IntKind.i64.wrap ((r : Int) - ((b - a : Nat) : Int)) = ((r - (b - a) : Nat) : Int) := by rw [wrap64 (by omega) (by omega)]; omega
      have w4 : IntKind.i64.wrap ((a : Int) + ((r - (b - a) : Nat) : Int)) = ((a + (r - (b - a)) : Nat) : Int) := by rw [wrap64 (by omega) (by omega)]; rfl
      have p3 : (0 : Int) ≤ ((a + (r - (b - a)) : Nat) : Int) := by omega
      have p4 : ((a + (r - (b - a)) : Nat) : Int) < n := by omega
      have l2 := S1.load hl (show a + (r - (b - a)) < n by omega)
      obtain ⟨h1, h2, st1, st2, S2⟩ := S1.swap hl hc (by decide) (show i < n by omega) (show a + (r - (b - a)) < n by omega)
      repeat (first | apply Z1 | apply Z2 | apply Z3 | apply Z4 | apply Z5 rfl | apply Z6 | apply Z7 | apply Z8 | apply Z9 | apply ZA | apply ZB | apply ZC | ((first | apply ZD (by decide) | apply ZN (by decide)); (simp (maxSteps := 9999999) only [go_sem, r0, r1, r8, r9, r10, r11, d4, m4, a4, a5, e1, cx112, w1, hr, w2, e2, w3, w4, p1, p2, p3, p4, l1, l2, hl, ↓st1, ↓st2, ew]; rfl)) | (refine ZE ?_ ?_; · simp only [go_sem]) | (refine ZF ?_ ?_; · simp only [go_sem]))
      refine end_nil ⟨a + (b - a) / 4 * 2 + 2 - (i + 1), by omega, i + 1, nxt z, _, rfl, by omega, by omega, S2, W.step (by omega) (by omega) (by omega) (by omega), ?_, ?_, ?_, ?_, ?_, ?_, rfl, rfl⟩
      · simp only [go_sem, r0]
      · simp only [go_sem, r1]
      · simp only [go_sem, r8]
      · simp only [go_sem, r9]
      · simp only [go_sem, r10]
      · simp only [go_sem, ew]
    · have e2 : ¬ ((b - a : Nat) : Int) ≤ r := by omega
      have w4 : IntKind.i64.wrap ((a : Int) + (r : Int)) = ((a + r : Nat) : Int) := by rw [wrap64 (by omega) (by omega)]; rfl
      have p3 : (0 : Int) ≤ ((a + r : Nat) : Int) := by omega
      have p4 : ((a + r : Nat) : Int) < n := by omega
      have l2 := S1.load hl (show a + r < n by omega)
      obtain ⟨h1, h2, st1, st2, S2⟩ := S1.swap hl hc (by decide) (show i < n by omega) (show a + r < n by omega)
      repeat (first | apply Z1 | apply Z2 | apply Z3 | apply Z4 | apply Z5 rfl | apply Z6 | apply Z7 | apply Z8 | apply Z9 | apply ZA | apply ZB | apply ZC | ((first | apply ZD (by decide) | apply ZN (by decide)); (simp (maxSteps := 9999999) only [go_sem, r0, r1, r8, r9, r10, r11, d4, m4, a4, a5, e1, cx112, w1, hr, w2, e2, w4, p1, p2, p3, p4, l1, l2, hl, ↓st1, ↓st2, ew]; rfl)) | (refine ZE ?_ ?_; · simp only [go_sem]) | (refine ZF ?_ ?_; · simp only [go_sem]))
      refine end_nil ⟨a + (b - a) / 4 * 2 + 2 - (i + 1), by omega, i + 1, nxt z, _, rfl, by omega, by omega, S2, W.step (by omega) (by omega) (by omega) (by omega), ?_, ?_, ?_, ?_, ?_, ?_, rfl, rfl⟩
      · simp only [go_sem, r0]
      · simp only [go_sem, r1]
      · simp only [go_sem, r8]
      · simp only [go_sem, r9]
      · simp only [go_sem, r10]
      · simp only [go_sem, ew]
  · have e1 : ¬ (i : Int) ≤ ((a + (b - a) / 4 * 2 + 1 : Nat) : Int) := by omega
    repeat (first | apply Z1 | apply Z2 | apply Z3 | apply Z4 | apply Z5 rfl | apply Z6 | apply Z7 | apply Z8 | apply Z9 | apply ZA | apply ZB | apply ZC | ((first | apply ZD (by decide) | apply ZN (by decide)); (simp (maxSteps := 9999999) only [go_sem, r0, r1, r8, r9, r10, r11, d4, m4, a4, a5, e1]; rfl)) | (refine ZE ?_ ?_; · simp only [go_sem]) | (refine ZF ?_ ?_; · simp only [go_sem]))
    exact end_nil ⟨rfl, rfl, rfl, f, z, S, W⟩
theorem brkT (hl : ∀ x, (cel x).length = 3) (hc : ∀ x, (cel x).all sc = true) (hn : n ≤ 60000) {a b : Nat} (hab : a + 8 ≤ b) (hb : b ≤ n) (hlow : ∀ c ∈ old0, c < h0.length) (cf : Value) {h : SHeap} {f : Nat → E} (S : SA cel n B el h0 old0 h f) :
    ∃ h' f', M.call 97 [.slice (some ⟨B, 0, none⟩) n cap, .int .i64 a, .int .i64 b, cf] h = some (.tuple #[], h', []) ∧ SA cel n B el h0 old0 h' f' ∧ Sw a b f f' := by
  have hB := S.lt
  have hln := S.len
  have key : ∃ r, (∃ h' f', r = (Value.tuple #[], h', ([] : List Nat)) ∧ SA cel n B el h0 old0 h' f' ∧ Sw a b f f') ∧ M.call 97 [.slice (some ⟨B, 0, none⟩) n cap, .int .i64 a, .int .i64 b, cf] h = some r := by
    refine call_ex (f := 97) _ sf97 rfl rfl rfl ?_
    unfold sf97
    have w1 : IntKind.i64.wrap ((b : Int) - (a : Int)) = ((b - a : Nat) : Int) := by rw [wrap64 (by omega) (by omega)]; omega
    have e1 : (8 : Int) ≤ ((b - a : Nat) : Int) := by omega
    have wu : IntKind.u64.wrap ((b - a : Nat) : Int) = ((b - a : Nat) : Int) := wrapU' (by omega) (by omega)
    have cnp := fun h => np111 (n := b - a) (by omega) h
    have d4 : IntKind.i64.wrap (((b - a : Nat) : Int).tdiv 4) = (((b - a) / 4 : Nat) : Int) := by rw [Int.tdiv_eq_ediv_of_nonneg (by omega), wrap64 (by omega) (by omega)]; rfl
    have m4 : IntKind.i64.wrap ((((b - a) / 4 : Nat) : Int) * 2) = (((b - a) / 4 * 2 : Nat) : Int) := by rw [wrap64 (by omega) (by omega)]; rfl
    have a4 : IntKind.i64.wrap ((a : Int) + (((b - a) / 4 * 2 : Nat) : Int)) = ((a + (b - a) / 4 * 2 : Nat) : Int) := by rw [wrap64 (by omega) (by omega)]; rfl
    have a5 : IntKind.i64.wrap (((a + (b - a) / 4 * 2 : Nat) : Int) - 1) = ((a + (b - a) / 4 * 2 - 1 : Nat) : Int) := by rw [wrap64 (by omega) (by omega)]; omega
    repeat (first | apply Z1 | apply Z2 | apply Z3 | apply Z4 | apply Z5 rfl | apply Z6 | apply Z7 | apply Z8 | apply Z9 | apply ZA | apply ZB | apply ZC | ((first | apply ZD (by decide) | apply ZN (by decide)); (simp (maxSteps := 9999999) only [go_sem, argR, w1, e1, wu, cnp, d4, m4, a4, a5]; rfl)) | (refine ZE ?_ ?_; · simp only [go_sem]) | (refine ZF ?_ ?_; · simp only [go_sem]))
    refine run_loop (brk_loopT (cap := cap) (el := el) (h0 := h0) (old0 := old0) hl hc hn hab hb hlow (by omega) _ f (a + (b - a) / 4 * 2 + 2 - (a + (b - a) / 4 * 2 - 1)) _ _ _ _ ⟨a + (b - a) / 4 * 2 - 1, ((b - a : Nat) : Int), f, rfl, by omega, by omega, S.grow _, .refl, ?_, ?_, ?_, ?_, ?_, ?_, rfl, rfl⟩) ?_
    · simp only [go_sem, argR]
    · simp only [go_sem, argR]
    · simp only [go_sem]
    · simp only [go_sem]; rw [hln]
    · simp only [go_sem]
    · simp only [go_sem]
    rintro ex ρ' ms' h1 d1 ⟨rfl, rfl, rfl, f2, z, S2, W2⟩
    repeat (first | apply Z1 | apply Z2 | apply Z3 | apply Z4 | apply Z5 rfl | apply Z6 | apply Z7 | apply Z8 | apply Z9 | apply ZA | apply ZB | apply ZC | ((first | apply ZD (by decide) | apply ZN (by decide)); (simp (maxSteps := 9999999) only [go_sem]; rfl)) | (refine ZE ?_ ?_; · simp only [go_sem]) | (refine ZF ?_ ?_; · simp only [go_sem]))
    exact end_nil ⟨_, ⟨h1.take h0.length, f2, rfl, S2.cut (by omega), W2⟩, q_free [] rfl rfl rfl rfl (fun _ => rfl) (by rw [hln]) rfl⟩
  obtain ⟨r, ⟨h', f', rfl, k⟩, e⟩ := key
  exact ⟨h', f', e, k⟩
end
end Go.Proofs.Ytioijehbmgmgkaa.Sh

namespace Go.Proofs.Ytioijehbmgmgkaa.Sh
open Go
set_option maxRecDepth 100000
set_option maxHeartbeats 4000000
section
variable {E : Type} {cel : E → List Value} {c : E → E → Int} {g : FuncId} {n B cap R : Nat} {el : TypeId}
def Rd (cel : E → List Value) (n B : Nat) (el : TypeId) (h : SHeap) (f : Nat → E) : Prop := ∃ old, h[B]? = some (.cells (flF cel f n) el true 0 old)
theorem Rd.load {h : SHeap} {f : Nat → E} {s : Nat} (S : Rd cel n B el h f) (hl : ∀ x, (cel x).length = s) {i : Nat} (hi : i < n) : loadS h (some s) (.pointer (some ⟨B, i * s, none⟩)) = some (.agg (cel (f i)).toArray) := by
  obtain ⟨old, e⟩ := S
  exact SA.load (h0 := h) (old0 := old) ⟨rfl, fun _ _ _ => rfl, old, fun _ h => h, e⟩ hl hi
theorem Rd.set {h : SHeap} {f : Nat → E} (S : Rd cel n B el h f) (hR : R ≠ B) (x : SO) : Rd cel n B el (h.set R x) f := by
  obtain ⟨old, e⟩ := S
  exact ⟨old, by rw [List.getElem?_set_ne hR]; exact e⟩
abbrev wb (w : Nat) : SO := .cells [.int .i64 w] 3 true 0 []
theorem ordT (C : Cmp M g cel c) (hl : ∀ x, (cel x).length = 3) {h : SHeap} {f : Nat → E} (S : Rd cel n B el h f) (hRB : R ≠ B) {w : Nat} (hw : w ≤ 1000) (hR : h[R]? = some (wb w)) {i j : Nat} (hi : i < n) (hj : j < n) :
    ∃ p q w', ((p = i ∧ q = j) ∨ (p = j ∧ q = i)) ∧ w' ≤ w + 1 ∧ M.call 112 [.slice (some ⟨B, 0, none⟩) n cap, .int .i64 ((i : Nat) : Int), .int .i64 ((j : Nat) : Int), .pointer (some ⟨R, 0, none⟩), .func (.func g) #[] #[]] h = some (.tuple #[.int .i64 ((p : Nat) : Int), .int .i64 ((q : Nat) : Int)], h.set R (wb w'), []) := by
  have hlt : R < h.length := (List.getElem?_eq_some_iff.1 hR).1
  have p1 : (0 : Int) ≤ (i : Int) := by omega
  have p2 : (i : Int) < n := by omega
  have p3 : (0 : Int) ≤ (j : Int) := by omega
  have p4 : (j : Int) < n := by omega
  have l1 := S.load hl hi
  have l2 := S.load hl hj
  have cc := fun h => C.call (f j) (f i) h
  by_cases hlt2 : c (f j) (f i) < 0
  · refine ⟨j, i, w + 1, .inr ⟨rfl, rfl⟩, Nat.le_refl _, ?_⟩
    have l0 : loadS h none (.pointer (some ⟨R, 0, none⟩)) = some (.int .i64 w) := by rw [load_rdO, hR]; rfl
    have ew : IntKind.i64.wrap ((w : Int) + 1) = ((w + 1 : Nat) : Int) := by rw [wrap64 (by omega) (by omega)]; rfl
    refine call_run sf112 rfl rfl rfl ?_
    unfold sf112
    repeat (first | apply Z1 | apply Z2 | apply Z3 | apply Z4 | apply Z5 rfl | apply Z6 | apply Z7 | apply Z8 | apply Z9 | apply ZA | apply ZB | apply ZC | ((first | apply ZD (by decide) | apply ZN (by decide)); (simp (maxSteps := 9999999) only [go_sem, argR, p1, p2, p3, p4, l1, l2, cc, hlt2, l0, ew, hR]; rfl)) | (refine ZE ?_ ?_; · simp only [go_sem]) | (refine ZF ?_ ?_; · simp only [go_sem]))
    refine end_nil (q_free [.int .i64 j, .int .i64 i] (by simp only [go_sem]) rfl rfl rfl (fun _ => rfl) ?_ rfl)
    rw [List.take_of_length_le (by simp)]
  · refine ⟨i, j, w, .inl ⟨rfl, rfl⟩, by omega, ?_⟩
    have hs : h.set R (wb w) = h := by
      apply List.ext_getElem?
      intro k
      by_cases e : k = R
      · subst e; rw [List.getElem?_set_self hlt, hR]
      · rw [List.getElem?_set_ne (fun e2 => e e2.symm)]
    rw [hs]
    refine call_run sf112 rfl rfl rfl ?_
    unfold sf112
    repeat (first | apply Z1 | apply Z2 | apply Z3 | apply Z4 | apply Z5 rfl | apply Z6 | apply Z7 | apply Z8 | apply Z9 | apply ZA | apply ZB | apply ZC | ((first | apply ZD (by decide) | apply ZN (by decide)); (simp (maxSteps := 9999999) only [go_sem, argR, p1, p2, p3, p4, l1, l2, cc, hlt2]; rfl)) | (refine ZE ?_ ?_; · simp only [go_sem]) | (refine ZF ?_ ?_; · simp only [go_sem]))
    exact end_nil (q_free [.int .i64 i, .int .i64 j] (by simp only [go_sem]) rfl rfl rfl (fun _ => rfl) (take_self _) rfl)
theorem medT (C : Cmp M g cel c) (hl : ∀ x, (cel x).length = 3) {h : SHeap} {f : Nat → E} (S : Rd cel n B el h f) (hRB : R ≠ B) {w : Nat} (hw : w ≤ 500) (hR : h[R]? = some (wb w)) {i j k : Nat} (hi : i < n) (hj : j < n) (hk : k < n) :
    ∃ m w', (m = i ∨ m = j ∨ m = k) ∧ w' ≤ w + 3 ∧ M.call 111 [.slice (some ⟨B, 0, none⟩) n cap, .int .i64 ((i : Nat) : Int), .int .i64 ((j : Nat) : Int), .int .i64 ((k : Nat) : Int), .pointer (some ⟨R, 0, none⟩), .func (.func g) #[] #[]] h = some (.int .i64 ((m : Nat) : Int), h.set R (wb w'), []) := by
  have hlt : R < h.length := (List.getElem?_eq_some_iff.1 hR).1
  obtain ⟨i1, j1, w1, a1, b1, e1⟩ := ordT (cap := cap) C hl S hRB (by omega) hR hi hj
  have S1 := S.set hRB (wb w1)
  have g1 : (h.set R (wb w1))[R]? = some (wb w1) := List.getElem?_set_self hlt
  have hi1 : i1 < n := by omega
  have hj1 : j1 < n := by omega
  obtain ⟨j2, k2, w2, a2, b2, e2⟩ := ordT (cap := cap) C hl S1 hRB (by omega) g1 hj1 hk
  rw [List.set_set] at e2
  have S2 := S.set hRB (wb w2)
  have g2 : (h.set R (wb w2))[R]? = some (wb w2) := List.getElem?_set_self hlt
  have hj2 : j2 < n := by omega
  obtain ⟨i3, j3, w3, a3, b3, e3⟩ := ordT (cap := cap) C hl S2 hRB (by omega) g2 hi1 hj2
  rw [List.set_set] at e3
  refine ⟨j3, w3, by omega, by omega, ?_⟩
  refine call_run sf111 rfl rfl rfl ?_
  unfold sf111
  repeat (first | apply Z1 | apply Z2 | apply Z3 | apply Z4 | apply Z5 rfl | apply Z6 | apply Z7 | apply Z8 | apply Z9 | apply ZA | apply ZB | apply ZC | ((first | apply ZD (by decide) | apply ZN (by decide)); (simp (maxSteps := 9999999) only [go_sem, argR, e1, e2, e3]; rfl)) | (refine ZE ?_ ?_; · simp only [go_sem]) | (refine ZF ?_ ?_; · simp only [go_sem]))
  refine end_nil (q_free [.int .i64 j3] (by simp only [go_sem]) rfl rfl rfl (fun _ => rfl) ?_ rfl)
  rw [List.take_of_length_le (by simp)]
theorem madjT (C : Cmp M g cel c) (hl : ∀ x, (cel x).length = 3) {h : SHeap} {f : Nat → E} (S : Rd cel n B el h f) (hRB : R ≠ B) {w : Nat} (hw : w ≤ 500) (hR : h[R]? = some (wb w)) {i : Nat} (h1 : 1 ≤ i) (hi : i + 1 < n) (hn : n ≤ 1000000) :
    ∃ m w', (m + 1 = i ∨ m = i ∨ m = i + 1) ∧ w' ≤ w + 3 ∧ M.call 110 [.slice (some ⟨B, 0, none⟩) n cap, .int .i64 ((i : Nat) : Int), .pointer (some ⟨R, 0, none⟩), .func (.func g) #[] #[]] h = some (.int .i64 ((m : Nat) : Int), h.set R (wb w'), []) := by
  obtain ⟨m, w', a, b, e⟩ := medT (cap := cap) C hl S hRB hw hR (show i - 1 < n by omega) (show i < n by omega) hi
  refine ⟨m, w', by omega, b, ?_⟩
  have w1 : IntKind.i64.wrap ((i : Int) - 1) = ((i - 1 : Nat) : Int) := by rw [wrap64 (by omega) (by omega)]; omega
  have w2 : IntKind.i64.wrap ((i : Int) + 1) = ((i + 1 : Nat) : Int) := by rw [wrap64 (by omega) (by omega)]; rfl
  refine call_run sf110 rfl rfl rfl ?_
  unfold sf110
  repeat (first | apply Z1 | apply Z2 | apply Z3 | apply Z4 | apply Z5 rfl | apply Z6 | apply Z7 | apply Z8 | apply Z9 | apply ZA | apply ZB | apply ZC | ((first | apply ZD (by decide) | apply ZN (by decide)); (simp (maxSteps := 9999999) only [go_sem, argR, w1, w2, e]; rfl)) | (refine ZE ?_ ?_; · simp only [go_sem]) | (refine ZF ?_ ?_; · simp only [go_sem]))
  refine end_nil (q_free [.int .i64 m] (by simp only [go_sem]) rfl rfl rfl (fun _ => rfl) ?_ rfl)
  rw [List.take_of_length_le (by simp)]
theorem pivT (C : Cmp M g cel c) (hl : ∀ x, (cel x).length = 3) (hn : n ≤ 1000000) {h : SHeap} {f : Nat → E} (S : Rd cel n B el h f) {a b : Nat} (hab : a + 13 ≤ b) (hb : b ≤ n) :
    ∃ (p : Nat) (t : Int), a ≤ p ∧ p < b ∧ (t = 0 ∨ t = 1 ∨ t = 2) ∧ M.call 98 [.slice (some ⟨B, 0, none⟩) n cap, .int .i64 a, .int .i64 b, .func (.func g) #[] #[]] h = some (.tuple #[.int .i64 ((p : Nat) : Int), .int .i64 t], h, []) := by
  have hB : B < h.length := by obtain ⟨old, e⟩ := S; exact (List.getElem?_eq_some_iff.1 e).1
  have hRB : h.length ≠ B := by omega
  have q1 : 1 ≤ a + (b - a) / 4 := by omega
  have q2 : a + (b - a) / 4 + 1 < n := by omega
  have q3 : 1 ≤ a + (b - a) / 4 * 2 := by omega
  have q4 : a + (b - a) / 4 * 2 + 1 < n := by omega
  have q5 : 1 ≤ a + (b - a) / 4 * 3 := by omega
  have q6 : 50 ≤ b - a → a + (b - a) / 4 * 3 + 1 < n := by omega
  have q7 : a + (b - a) / 4 * 3 < n := by omega
  have r1 : ∀ i1 : Nat, (i1 + 1 = a + (b - a) / 4 ∨ i1 = a + (b - a) / 4 ∨ i1 = a + (b - a) / 4 + 1) → a ≤ i1 ∧ i1 < b ∧ i1 < n := by intro i1 h1; omega
  have r2 : ∀ i1 : Nat, (i1 + 1 = a + (b - a) / 4 * 2 ∨ i1 = a + (b - a) / 4 * 2 ∨ i1 = a + (b - a) / 4 * 2 + 1) → a ≤ i1 ∧ i1 < b ∧ i1 < n := by intro i1 h1; omega
  have r3 : ∀ i1 : Nat, 50 ≤ b - a → (i1 + 1 = a + (b - a) / 4 * 3 ∨ i1 = a + (b - a) / 4 * 3 ∨ i1 = a + (b - a) / 4 * 3 + 1) → a ≤ i1 ∧ i1 < b ∧ i1 < n := by intro i1 h0 h1; omega
  have r4 : ∀ m : Nat, (m = a + (b - a) / 4 ∨ m = a + (b - a) / 4 * 2 ∨ m = a + (b - a) / 4 * 3) → a ≤ m ∧ m < b := by intro m h1; omega
  have r5 : ∀ i j k m : Nat, (m = i ∨ m = j ∨ m = k) → (a ≤ i ∧ i < b ∧ i < n) → (a ≤ j ∧ j < b ∧ j < n) → (a ≤ k ∧ k < b ∧ k < n) → a ≤ m ∧ m < b := by intro i j k m h1 h2 h3 h4; omega
  have S0 : Rd cel n B el (h ++ [wb 0]) f := by obtain ⟨old, e⟩ := S; exact ⟨old, by rw [List.getElem?_append_left hB]; exact e⟩
  have g0 : (h ++ [wb 0])[h.length]? = some (wb 0) := by rw [app_get0]; rfl
  have hset : ∀ w x, (h ++ [wb w]).set h.length x = h ++ [x] := fun w x => by rw [app_set0]; rfl
  have w1 : IntKind.i64.wrap ((b : Int) - (a : Int)) = ((b - a : Nat) : Int) := by rw [wrap64 (by omega) (by omega)]; omega
  have d4 : IntKind.i64.wrap (((b - a : Nat) : Int).tdiv 4) = (((b - a) / 4 : Nat) : Int) := by rw [Int.tdiv_eq_ediv_of_nonneg (by omega), wrap64 (by omega) (by omega)]; rfl
  have m1 : IntKind.i64.wrap (((b - a) / 4 : Nat) : Int) = (((b - a) / 4 : Nat) : Int) := wrap64 (by omega) (by omega)
  have m2 : IntKind.i64.wrap ((((b - a) / 4 : Nat) : Int) * 2) = (((b - a) / 4 * 2 : Nat) : Int) := by rw [wrap64 (by omega) (by omega)]; rfl
  have m3 : IntKind.i64.wrap ((((b - a) / 4 : Nat) : Int) * 3) = (((b - a) / 4 * 3 : Nat) : Int) := by rw [wrap64 (by omega) (by omega)]; rfl
  have a1 : IntKind.i64.wrap ((a : Int) + (((b - a) / 4 : Nat) : Int)) = ((a + (b - a) / 4 : Nat) : Int) := by rw [wrap64 (by omega) (by omega)]; rfl
  have a2 : IntKind.i64.wrap ((a : Int) + (((b - a) / 4 * 2 : Nat) : Int)) = ((a + (b - a) / 4 * 2 : Nat) : Int) := by rw [wrap64 (by omega) (by omega)]; rfl
  have a3 : IntKind.i64.wrap ((a : Int) + (((b - a) / 4 * 3 : Nat) : Int)) = ((a + (b - a) / 4 * 3 : Nat) : Int) := by rw [wrap64 (by omega) (by omega)]; rfl
  have e8 : (8 : Int) ≤ ((b - a : Nat) : Int) := by omega
  have mul1 : ∀ z : Int, z * 1 = z := Int.mul_one
  have key : ∃ r, (∃ (p : Nat) (t : Int), a ≤ p ∧ p < b ∧ (t = 0 ∨ t = 1 ∨ t = 2) ∧ r = (Value.tuple #[.int .i64 ((p : Nat) : Int), .int .i64 t], h, ([] : List Nat))) ∧ M.call 98 [.slice (some ⟨B, 0, none⟩) n cap, .int .i64 a, .int .i64 b, .func (.func g) #[] #[]] h = some r := by
    refine call_ex (f := 98) _ sf98 rfl rfl rfl ?_
    unfold sf98
    by_cases c50 : 50 ≤ b - a
    · have e50 : (50 : Int) ≤ ((b - a : Nat) : Int) := by omega
      obtain ⟨i1, v1, x1, y1, z1⟩ := madjT (cap := cap) (w := 0) C hl S0 hRB (by decide) g0 q1 q2 hn
      rw [hset] at z1
      have S1 : Rd cel n B el (h ++ [wb v1]) f := by obtain ⟨old, e⟩ := S; exact ⟨old, by rw [List.getElem?_append_left hB]; exact e⟩
      obtain ⟨i2, v2, x2, y2, z2⟩ := madjT (cap := cap) (w := v1) C hl S1 hRB (Nat.le_trans y1 (by decide)) (by rw [app_get0]; rfl) q3 q4 hn
      rw [hset] at z2
      have S2 : Rd cel n B el (h ++ [wb v2]) f := by obtain ⟨old, e⟩ := S; exact ⟨old, by rw [List.getElem?_append_left hB]; exact e⟩
      obtain ⟨i3, v3, x3, y3, z3⟩ := madjT (cap := cap) (w := v2) C hl S2 hRB (Nat.le_trans y2 (Nat.le_trans (Nat.add_le_add_right y1 3) (by decide))) (by rw [app_get0]; rfl) q5 (q6 c50) hn
      rw [hset] at z3
      have S3 : Rd cel n B el (h ++ [wb v3]) f := by obtain ⟨old, e⟩ := S; exact ⟨old, by rw [List.getElem?_append_left hB]; exact e⟩
      obtain ⟨p, v4, x4, y4, z4⟩ := medT (cap := cap) (w := v3) C hl S3 hRB (Nat.le_trans y3 (Nat.le_trans (Nat.add_le_add_right (Nat.le_trans y2 (Nat.add_le_add_right y1 3)) 3) (by decide))) (by rw [app_get0]; rfl) (r1 _ x1).2.2 (r2 _ x2).2.2 (r3 _ c50 x3).2.2
      rw [hset] at z4
      have hp := r5 _ _ _ _ x4 (r1 _ x1) (r2 _ x2) (r3 _ c50 x3)
      have n0 : ((0 : Nat) : Int) = 0 := rfl
      simp only [wb, n0] at z1
      repeat (first | apply Z1 | apply Z2 | apply Z3 | apply Z4 | apply Z5 rfl | apply Z6 | apply Z7 | apply Z8 | apply Z9 | apply ZA | apply ZB | apply ZC | ((first | apply ZD (by decide) | apply ZN (by decide)); (simp (maxSteps := 9999999) only [go_sem, argR, w1, d4, m1, m2, m3, mul1, a1, a2, a3, e8, e50, z1, z2, z3, z4]; rfl)) | (refine ZE ?_ ?_; · simp only [go_sem]) | (refine ZF ?_ ?_; · simp only [go_sem]))
      by_cases t0 : v4 = 0
      · have t0' : (((v4 : Nat) : Int) = 0) = True := eq_true (by rw [t0]; rfl)
        refine run_cond_t (by simp only [go_sem, t0']) ?_
        repeat (first | apply Z1 | apply Z2 | apply Z3 | apply Z4 | apply Z5 rfl | apply Z6 | apply Z7 | apply Z8 | apply Z9 | apply ZA | apply ZB | apply ZC | ((first | apply ZD (by decide) | apply ZN (by decide)); (simp (maxSteps := 9999999) only [go_sem]; rfl)) | (refine ZE ?_ ?_; · simp only [go_sem]) | (refine ZF ?_ ?_; · simp only [go_sem]))
        exact end_nil ⟨_, ⟨p, 1, hp.1, hp.2, .inr (.inl rfl), rfl⟩, q_free [.int .i64 p, .int .i64 1] (by simp only [go_sem]) rfl rfl rfl (fun _ => rfl) (take_app _ _) rfl⟩
      · have t0' : (((v4 : Nat) : Int) = 0) = False := eq_false (fun e => t0 (Int.ofNat.inj e))
        refine run_cond_f (by simp only [go_sem, t0']) ?_
        repeat (first | apply Z1 | apply Z2 | apply Z3 | apply Z4 | apply Z5 rfl | apply Z6 | apply Z7 | apply Z8 | apply Z9 | apply ZA | apply ZB | apply ZC | ((first | apply ZD (by decide) | apply ZN (by decide)); (simp (maxSteps := 9999999) only [go_sem]; rfl)) | (refine ZE ?_ ?_; · simp only [go_sem]) | (refine ZF ?_ ?_; · simp only [go_sem]))
        by_cases t1 : v4 = 12
        · have t1' : (((v4 : Nat) : Int) = 12) = True := eq_true (by rw [t1]; rfl)
          refine run_cond_t (by simp only [go_sem, t1']) ?_
          repeat (first | apply Z1 | apply Z2 | apply Z3 | apply Z4 | apply Z5 rfl | apply Z6 | apply Z7 | apply Z8 | apply Z9 | apply ZA | apply ZB | apply ZC | ((first | apply ZD (by decide) | apply ZN (by decide)); (simp (maxSteps := 9999999) only [go_sem]; rfl)) | (refine ZE ?_ ?_; · simp only [go_sem]) | (refine ZF ?_ ?_; · simp only [go_sem]))
          exact end_nil ⟨_, ⟨p, 2, hp.1, hp.2, .inr (.inr rfl), rfl⟩, q_free [.int .i64 p, .int .i64 2] (by simp only [go_sem]) rfl rfl rfl (fun _ => rfl) (take_app _ _) rfl⟩
        · have t1' : (((v4 : Nat) : Int) = 12) = False := eq_false (fun e => t1 (Int.ofNat.inj e))
          refine run_cond_f (by simp only [go_sem, t1']) ?_
          repeat (first | apply Z1 | apply Z2 | apply Z3 | apply Z4 | apply Z5 rfl | apply Z6 | apply Z7 | apply Z8 | apply Z9 | apply ZA | apply ZB | apply ZC | ((first | apply ZD (by decide) | apply ZN (by decide)); (simp (maxSteps := 9999999) only [go_sem]; rfl)) | (refine ZE ?_ ?_; · simp only [go_sem]) | (refine ZF ?_ ?_; · simp only [go_sem]))
          exact end_nil ⟨_, ⟨p, 0, hp.1, hp.2, .inl rfl, rfl⟩, q_free [.int .i64 p, .int .i64 0] (by simp only [go_sem]) rfl rfl rfl (fun _ => rfl) (take_app _ _) rfl⟩
    · have e50 : ¬ (50 : Int) ≤ ((b - a : Nat) : Int) := by omega
      obtain ⟨p, v4, x4, y4, z4⟩ := medT (cap := cap) (w := 0) C hl S0 hRB (by decide) g0 (i := a + (b - a) / 4) (j := a + (b - a) / 4 * 2) (k := a + (b - a) / 4 * 3) (Nat.lt_of_succ_lt q2) (Nat.lt_of_succ_lt q4) q7
      have hp := r4 _ x4
      rw [hset] at z4
      have n0 : ((0 : Nat) : Int) = 0 := rfl
      simp only [wb, n0] at z4
      repeat (first | apply Z1 | apply Z2 | apply Z3 | apply Z4 | apply Z5 rfl | apply Z6 | apply Z7 | apply Z8 | apply Z9 | apply ZA | apply ZB | apply ZC | ((first | apply ZD (by decide) | apply ZN (by decide)); (simp (maxSteps := 9999999) only [go_sem, argR, w1, d4, m1, m2, m3, mul1, a1, a2, a3, e8, e50, z4]; rfl)) | (refine ZE ?_ ?_; · simp only [go_sem]) | (refine ZF ?_ ?_; · simp only [go_sem]))
      by_cases t0 : v4 = 0
      · have t0' : (((v4 : Nat) : Int) = 0) = True := eq_true (by rw [t0]; rfl)
        refine run_cond_t (by simp only [go_sem, t0']) ?_
        repeat (first | apply Z1 | apply Z2 | apply Z3 | apply Z4 | apply Z5 rfl | apply Z6 | apply Z7 | apply Z8 | apply Z9 | apply ZA | apply ZB | apply ZC | ((first | apply ZD (by decide) | apply ZN (by decide)); (simp (maxSteps := 9999999) only [go_sem]; rfl)) | (refine ZE ?_ ?_; · simp only [go_sem]) | (refine ZF ?_ ?_; · simp only [go_sem]))
        exact end_nil ⟨_, ⟨p, 1, hp.1, hp.2, .inr (.inl rfl), rfl⟩, q_free [.int .i64 p, .int .i64 1] (by simp only [go_sem]) rfl rfl rfl (fun _ => rfl) (take_app _ _) rfl⟩
      · have t0' : (((v4 : Nat) : Int) = 0) = False := eq_false (fun e => t0 (Int.ofNat.inj e))
        refine run_cond_f (by simp only [go_sem, t0']) ?_
        repeat (first | apply Z1 | apply Z2 | apply Z3 | apply Z4 | apply Z5 rfl | apply Z6 | apply Z7 | apply Z8 | apply Z9 | apply ZA | apply ZB | apply ZC | ((first | apply ZD (by decide) | apply ZN (by decide)); (simp (maxSteps := 9999999) only [go_sem]; rfl)) | (refine ZE ?_ ?_; · simp only [go_sem]) | (refine ZF ?_ ?_; · simp only [go_sem]))
        by_cases t1 : v4 = 12
        · have t1' : (((v4 : Nat) : Int) = 12) = True := eq_true (by rw [t1]; rfl)
          refine run_cond_t (by simp only [go_sem, t1']) ?_
          repeat (first | apply Z1 | apply Z2 | apply Z3 | apply Z4 | apply Z5 rfl | apply Z6 | apply Z7 | apply Z8 | apply Z9 | apply ZA | apply ZB | apply ZC | ((first | apply ZD (by decide) | apply ZN (by decide)); (simp (maxSteps := 9999999) only [go_sem]; rfl)) | (refine ZE ?_ ?_; · simp only [go_sem]) | (refine ZF ?_ ?_; · simp only [go_sem]))
          exact end_nil ⟨_, ⟨p, 2, hp.1, hp.2, .inr (.inr rfl), rfl⟩, q_free [.int .i64 p, .int .i64 2] (by simp only [go_sem]) rfl rfl rfl (fun _ => rfl) (take_app _ _) rfl⟩
        · have t1' : (((v4 : Nat) : Int) = 12) = False := eq_false (fun e => t1 (Int.ofNat.inj e))
          refine run_cond_f (by simp only [go_sem, t1']) ?_
          repeat (first | apply Z1 | apply Z2 | apply Z3 | apply Z4 | apply Z5 rfl | apply Z6 | apply Z7 | apply Z8 | apply Z9 | apply ZA | apply ZB | apply ZC | ((first | apply ZD (by decide) | apply ZN (by decide)); (simp (maxSteps := 9999999) only [go_sem]; rfl)) | (refine ZE ?_ ?_; · simp only [go_sem]) | (refine ZF ?_ ?_; · simp only [go_sem]))
          exact end_nil ⟨_, ⟨p, 0, hp.1, hp.2, .inl rfl, rfl⟩, q_free [.int .i64 p, .int .i64 0] (by simp only [go_sem]) rfl rfl rfl (fun _ => rfl) (take_app _ _) rfl⟩
  obtain ⟨r, ⟨p, t, x1, x2, x3, rfl⟩, e⟩ := key
  exact ⟨p, t, x1, x2, x3, e⟩
end
end Go.Proofs.Ytioijehbmgmgkaa.Sh

namespace Go.Proofs.Ytioijehbmgmgkaa.Sh
open Go
set_option maxRecDepth 100000
set_option maxHeartbeats 4000000
section
variable {E : Type} {cel : E → List Value} {c : E → E → Int} {g : FuncId} {n B cap : Nat} {el : TypeId} {h0 : SHeap} {old0 : List Nat}
def PK (n B cap : Nat) (g : FuncId) (a b : Nat) (ρ : Reg) : Prop := ρ 0 = .slice (some ⟨B, 0, none⟩) n cap ∧ ρ 1 = .int .i64 a ∧ ρ 2 = .int .i64 b ∧ ρ 3 = .func (.func g) #[] #[]
theorem pinA_loopT (C : Cmp M g cel c) (hl : ∀ x, (cel x).length = 3) (hn : n ≤ 1000000) {a b : Nat} (hb : b ≤ n) (cx : Cx) {h : SHeap} {f : Nat → E} (S : SA cel n B el h0 old0 h f) (t : Int) : ∀ k ρ ms h' d', (∃ i : Nat, b - i = k ∧ a < i ∧ i ≤ b ∧ Ord c a i f ∧ PK n B cap g a b ρ ∧ ρ 9 = .int .i64 i ∧ ρ 10 = .int .i64 t ∧ ms = [] ∧ h' = h ∧ d' = []) →
    LoopW M cx 8 sf100L2 ρ ms h' d' (fun ex ρ' ms' h' d' => ex = .exit 2 ∧ ms' = [] ∧ h' = h ∧ d' = [] ∧ ∃ i : Nat, a < i ∧ i ≤ b ∧ Ord c a i f ∧ PK n B cap g a b ρ' ∧ ρ' 9 = .int .i64 i ∧ ρ' 10 = .int .i64 t) := by
  refine loop_run _ ?_
  rintro k ρ ms h' d' ⟨i, hk, hai, hib, O, ⟨r0, r1, r2, r3⟩, r9, r10, rfl, rfl, rfl⟩
  unfold sf100L2
  by_cases z : i < b
  · have e1 : (i : Int) < b := by omega
    have p1 : (0 : Int) ≤ (i : Int) := by omega
    have p2 : (i : Int) < n := by omega
    have p3 : (0 : Int) ≤ ((i - 1 : Nat) : Int) := by omega
    have p4 : ((i - 1 : Nat) : Int) < n := by omega
    have w1 : IntKind.i64.wrap ((i : Int) - 1) = ((i - 1 : Nat) : Int) := by rw [wrap64 (by omega) (by omega)]; omega
    have w2 : IntKind.i64.wrap ((i : Int) + 1) = ((i + 1 : Nat) : Int) := by rw [wrap64 (by omega) (by omega)]; rfl
    have l1 := S.load hl (show i < n by omega)
    have l2 := S.load hl (show i - 1 < n by omega)
    have cc := fun h => C.call (f i) (f (i - 1)) h
    by_cases hlt : c (f i) (f (i - 1)) < 0
    · repeat (first | apply Z1 | apply Z2 | apply Z3 | apply Z4 | apply Z5 rfl | apply Z6 | apply Z7 | apply Z8 | apply Z9 | apply ZA | apply ZB | apply ZC | ((first | apply ZD (by decide) | apply ZN (by decide)); (simp (maxSteps := 9999999) only [go_sem, r0, r1, r2, r3, r9, e1, p1, p2, p3, p4, w1, l1, l2, cc, hlt]; rfl)) | (refine ZE ?_ ?_; · simp only [go_sem]) | (refine ZF ?_ ?_; · simp only [go_sem]))
      refine end_nil ⟨rfl, rfl, rfl, rfl, i, hai, hib, O, ⟨?_, ?_, ?_, ?_⟩, ?_, ?_⟩
      · simp only [go_sem, r0]
      · simp only [go_sem, r1]
      · simp only [go_sem, r2]
      · simp only [go_sem, r3]
      · simp only [go_sem, r9]
      · simp only [go_sem, r10]
    · repeat (first | apply Z1 | apply Z2 | apply Z3 | apply Z4 | apply Z5 rfl | apply Z6 | apply Z7 | apply Z8 | apply Z9 | apply ZA | apply ZB | apply ZC | ((first | apply ZD (by decide) | apply ZN (by decide)); (simp (maxSteps := 9999999) only [go_sem, r0, r1, r2, r3, r9, e1, p1, p2, p3, p4, w1, l1, l2, cc, hlt, w2]; rfl)) | (refine ZE ?_ ?_; · simp only [go_sem]) | (refine ZF ?_ ?_; · simp only [go_sem]))
      refine end_nil ⟨b - (i + 1), by omega, i + 1, rfl, by omega, by omega, O.snoc C (fun _ => hlt), ⟨?_, ?_, ?_, ?_⟩, ?_, ?_, rfl, rfl, rfl⟩
      · simp only [go_sem, r0]
      · simp only [go_sem, r1]
      · simp only [go_sem, r2]
      · simp only [go_sem, r3]
      · simp only [go_sem, w2]
      · simp only [go_sem, r10]
  · have e1 : ¬ (i : Int) < b := by omega
    repeat (first | apply Z1 | apply Z2 | apply Z3 | apply Z4 | apply Z5 rfl | apply Z6 | apply Z7 | apply Z8 | apply Z9 | apply ZA | apply ZB | apply ZC | ((first | apply ZD (by decide) | apply ZN (by decide)); (simp (maxSteps := 9999999) only [go_sem, r0, r1, r2, r3, r9, e1]; rfl)) | (refine ZE ?_ ?_; · simp only [go_sem]) | (refine ZF ?_ ?_; · simp only [go_sem]))
    refine end_nil ⟨rfl, rfl, rfl, rfl, i, hai, hib, O, ⟨?_, ?_, ?_, ?_⟩, ?_, ?_⟩
    · simp only [go_sem, r0]
    · simp only [go_sem, r1]
    · simp only [go_sem, r2]
    · simp only [go_sem, r3]
    · simp only [go_sem, r9]
    · simp only [go_sem, r10]
theorem pinB_loopT (C : Cmp M g cel c) (hl : ∀ x, (cel x).length = 3) (hc : ∀ x, (cel x).all sc = true) (hn : n ≤ 1000000) {a b i : Nat} (hb : b ≤ n) (hai : a + 1 < i) (hib : i < b) (cx : Cx) (f0 : Nat → E) (hpre : 0 < a → ∀ j, a ≤ j → j < i → ¬ c (f0 j) (f0 (a - 1)) < 0) (t : Int) : ∀ k ρ ms h' d', (∃ (j : Nat) (f : Nat → E), j = k ∧ a ≤ j ∧ j < i ∧ SA cel n B el h0 old0 h' f ∧ Sw a i f0 f ∧ InsI c a (i - 1) j f ∧ PK n B cap g a b ρ ∧ ρ 9 = .int .i64 i ∧ ρ 10 = .int .i64 t ∧ ρ 11 = .int .i64 j ∧ ms = [] ∧ d' = []) →
    LoopW M cx 8 sf100L1 ρ ms h' d' (fun ex ρ' ms' h' d' => ex = .exit 4 ∧ ms' = [] ∧ d' = [] ∧ ∃ f : Nat → E, SA cel n B el h0 old0 h' f ∧ Sw a i f0 f ∧ Ord c a i f ∧ PK n B cap g a b ρ' ∧ ρ' 9 = .int .i64 i ∧ ρ' 10 = .int .i64 t) := by
  refine loop_run _ ?_
  rintro k ρ ms h' d' ⟨j, f, rfl, haj, hji, S, W, I, ⟨r0, r1, r2, r3⟩, r9, r10, r11, rfl, rfl⟩
  have hord : (j ≤ a ∨ ¬ c (f j) (f (j - 1)) < 0) → Ord c a i f := fun h => by
    have := I.stop C h
    rwa [show i - 1 + 1 = i by omega] at this
  unfold sf100L1
  by_cases z : 1 ≤ j
  · have e1 : (1 : Int) ≤ j := by omega
    have p1 : (0 : Int) ≤ (j : Int) := by omega
    have p2 : (j : Int) < n := by omega
    have p3 : (0 : Int) ≤ ((j - 1 : Nat) : Int) := by omega
    have p4 : ((j - 1 : Nat) : Int) < n := by omega
    have w1 : IntKind.i64.wrap ((j : Int) - 1) = ((j - 1 : Nat) : Int) := by rw [wrap64 (by omega) (by omega)]; omega
    have l1 := S.load hl (show j < n by omega)
    have l2 := S.load hl (show j - 1 < n by omega)
    have cc := fun h => C.call (f j) (f (j - 1)) h
    by_cases hlt : c (f j) (f (j - 1)) < 0
    · -- so j is behind a
      have hja : a < j := by
        by_cases e : a < j
        · exact e
        · exfalso
          have ej : j = a := by omega
          subst ej
          have := W.all (P := fun x => ¬ c x (f0 (j - 1)) < 0) (hpre (by omega)) j (by omega) hji
          rw [← W.out (i := j - 1) (by omega)] at this
          exact this hlt
      obtain ⟨h1, h2, st1, st2, S2⟩ := S.swap hl hc (by decide) (show j < n by omega) (show j - 1 < n by omega)
      repeat (first | apply Z1 | apply Z2 | apply Z3 | apply Z4 | apply Z5 rfl | apply Z6 | apply Z7 | apply Z8 | apply Z9 | apply ZA | apply ZB | apply ZC | ((first | apply ZD (by decide) | apply ZN (by decide)); (simp (maxSteps := 9999999) only [go_sem, r0, r1, r2, r3, r9, r11, e1, p1, p2, p3, p4, w1, l1, l2, cc, hlt, hl, ↓st1, ↓st2]; rfl)) | (refine ZE ?_ ?_; · simp only [go_sem]) | (refine ZF ?_ ?_; · simp only [go_sem]))
      refine end_nil ⟨j - 1, by omega, j - 1, _, rfl, by omega, by omega, S2, W.step (by omega) (by omega) (by omega) (by omega), I.step hja (by omega) hlt, ⟨?_, ?_, ?_, ?_⟩, ?_, ?_, ?_, rfl, rfl⟩
      · simp only [go_sem, r0]
      · simp only [go_sem, r1]
      · simp only [go_sem, r2]
      · simp only [go_sem, r3]
      · simp only [go_sem, r9]
      · simp only [go_sem, r10]
      · simp only [go_sem, w1]
    · repeat (first | apply Z1 | apply Z2 | apply Z3 | apply Z4 | apply Z5 rfl | apply Z6 | apply Z7 | apply Z8 | apply Z9 | apply ZA | apply ZB | apply ZC | ((first | apply ZD (by decide) | apply ZN (by decide)); (simp (maxSteps := 9999999) only [go_sem, r0, r1, r2, r3, r9, r11, e1, p1, p2, p3, p4, w1, l1, l2, cc, hlt]; rfl)) | (refine ZE ?_ ?_; · simp only [go_sem]) | (refine ZF ?_ ?_; · simp only [go_sem]))
      refine end_nil ⟨rfl, rfl, rfl, f, S, W, hord (.inr hlt), ⟨?_, ?_, ?_, ?_⟩, ?_, ?_⟩
      · simp only [go_sem, r0]
      · simp only [go_sem, r1]
      · simp only [go_sem, r2]
      · simp only [go_sem, r3]
      · simp only [go_sem, r9]
      · simp only [go_sem, r10]
  · have e1 : ¬ (1 : Int) ≤ j := by omega
    repeat (first | apply Z1 | apply Z2 | apply Z3 | apply Z4 | apply Z5 rfl | apply Z6 | apply Z7 | apply Z8 | apply Z9 | apply ZA | apply ZB | apply ZC | ((first | apply ZD (by decide) | apply ZN (by decide)); (simp (maxSteps := 9999999) only [go_sem, r0, r1, r2, r3, r9, r11, e1]; rfl)) | (refine ZE ?_ ?_; · simp only [go_sem]) | (refine ZF ?_ ?_; · simp only [go_sem]))
    refine end_nil ⟨rfl, rfl, rfl, f, S, W, hord (.inl (by omega)), ⟨?_, ?_, ?_, ?_⟩, ?_, ?_⟩
    · simp only [go_sem, r0]
    · simp only [go_sem, r1]
    · simp only [go_sem, r2]
    · simp only [go_sem, r3]
    · simp only [go_sem, r9]
    · simp only [go_sem, r10]
theorem pinC_loopT (C : Cmp M g cel c) (hl : ∀ x, (cel x).length = 3) (hc : ∀ x, (cel x).all sc = true) (hn : n ≤ 1000000) {a b i : Nat} (hb : b ≤ n) (hib : i < b) (cx : Cx) (f0 : Nat → E) (t : Int) : ∀ k ρ ms h' d', (∃ (j : Nat) (f : Nat → E), b - j = k ∧ i < j ∧ j ≤ b ∧ SA cel n B el h0 old0 h' f ∧ Sw i b f0 f ∧ PK n B cap g a b ρ ∧ ρ 9 = .int .i64 i ∧ ρ 10 = .int .i64 t ∧ ρ 12 = .int .i64 j ∧ ms = [] ∧ d' = []) →
    LoopW M cx 8 sf100L0 ρ ms h' d' (fun ex ρ' ms' h' d' => ex = .exit 6 ∧ ms' = [] ∧ d' = [] ∧ ∃ f : Nat → E, SA cel n B el h0 old0 h' f ∧ Sw i b f0 f ∧ PK n B cap g a b ρ' ∧ ρ' 9 = .int .i64 i ∧ ρ' 10 = .int .i64 t) := by
  refine loop_run _ ?_
  rintro k ρ ms h' d' ⟨j, f, hk, hij, hjb, S, W, ⟨r0, r1, r2, r3⟩, r9, r10, r12, rfl, rfl⟩
  unfold sf100L0
  by_cases z : j < b
  · have e1 : (j : Int) < b := by omega
    have p1 : (0 : Int) ≤ (j : Int) := by omega
    have p2 : (j : Int) < n := by omega
    have p3 : (0 : Int) ≤ ((j - 1 : Nat) : Int) := by omega
    have p4 : ((j - 1 : Nat) : Int) < n := by omega
    have w1 : IntKind.i64.wrap ((j : Int) - 1) = ((j - 1 : Nat) : Int) := by rw [wrap64 (by omega) (by omega)]; omega
    have w2 : IntKind.i64.wrap ((j : Int) + 1) = ((j + 1 : Nat) : Int) := by rw [wrap64 (by omega) (by omega)]; rfl
    have l1 := S.load hl (show j < n by omega)
    have l2 := S.load hl (show j - 1 < n by omega)
    have cc := fun h => C.call (f j) (f (j - 1)) h
    by_cases hlt : c (f j) (f (j - 1)) < 0
    · obtain ⟨h1, h2, st1, st2, S2⟩ := S.swap hl hc (by decide) (show j < n by omega) (show j - 1 < n by omega)
      repeat (first | apply Z1 | apply Z2 | apply Z3 | apply Z4 | apply Z5 rfl | apply Z6 | apply Z7 | apply Z8 | apply Z9 | apply ZA | apply ZB | apply ZC | ((first | apply ZD (by decide) | apply ZN (by decide)); (simp (maxSteps := 9999999) only [go_sem, r0, r1, r2, r3, r9, r12, e1, p1, p2, p3, p4, w1, w2, l1, l2, cc, hlt, hl, ↓st1, ↓st2]; rfl)) | (refine ZE ?_ ?_; · simp only [go_sem]) | (refine ZF ?_ ?_; · simp only [go_sem]))
      refine end_nil ⟨b - (j + 1), by omega, j + 1, _, rfl, by omega, by omega, S2, W.step (by omega) (by omega) (by omega) (by omega), ⟨?_, ?_, ?_, ?_⟩, ?_, ?_, ?_, rfl, rfl⟩
      · simp only [go_sem, r0]
      · simp only [go_sem, r1]
      · simp only [go_sem, r2]
      · simp only [go_sem, r3]
      · simp only [go_sem, r9]
      · simp only [go_sem, r10]
      · simp only [go_sem, w2]
    · repeat (first | apply Z1 | apply Z2 | apply Z3 | apply Z4 | apply Z5 rfl | apply Z6 | apply Z7 | apply Z8 | apply Z9 | apply ZA | apply ZB | apply ZC | ((first | apply ZD (by decide) | apply ZN (by decide)); (simp (maxSteps := 9999999) only [go_sem, r0, r1, r2, r3, r9, r12, e1, p1, p2, p3, p4, w1, l1, l2, cc, hlt]; rfl)) | (refine ZE ?_ ?_; · simp only [go_sem]) | (refine ZF ?_ ?_; · simp only [go_sem]))
      refine end_nil ⟨rfl, rfl, rfl, f, S, W, ⟨?_, ?_, ?_, ?_⟩, ?_, ?_⟩
      · simp only [go_sem, r0]
      · simp only [go_sem, r1]
      · simp only [go_sem, r2]
      · simp only [go_sem, r3]
      · simp only [go_sem, r9]
      · simp only [go_sem, r10]
  · have e1 : ¬ (j : Int) < b := by omega
    repeat (first | apply Z1 | apply Z2 | apply Z3 | apply Z4 | apply Z5 rfl | apply Z6 | apply Z7 | apply Z8 | apply Z9 | apply ZA | apply ZB | apply ZC | ((first | apply ZD (by decide) | apply ZN (by decide)); (simp (maxSteps := 9999999) only [go_sem, r0, r1, r2, r3, r9, r12, e1]; rfl)) | (refine ZE ?_ ?_; · simp only [go_sem]) | (refine ZF ?_ ?_; · simp only [go_sem]))
    refine end_nil ⟨rfl, rfl, rfl, f, S, W, ⟨?_, ?_, ?_, ?_⟩, ?_, ?_⟩
    · simp only [go_sem, r0]
    · simp only [go_sem, r1]
    · simp only [go_sem, r2]
    · simp only [go_sem, r3]
    · simp only [go_sem, r9]
    · simp only [go_sem, r10]
theorem pinO_loopT (C : Cmp M g cel c) (hl : ∀ x, (cel x).length = 3) (hc : ∀ x, (cel x).all sc = true) (hn : n ≤ 1000000) {a b : Nat} (hb : b ≤ n) (cx : Cx) (f0 : Nat → E) (hpre : 0 < a → ∀ j, a ≤ j → j < b → ¬ c (f0 j) (f0 (a - 1)) < 0) : ∀ k ρ ms h' d', (∃ (t i : Nat) (f : Nat → E), t + k = 5 ∧ a < i ∧ i ≤ b ∧ SA cel n B el h0 old0 h' f ∧ Sw a b f0 f ∧ Ord c a i f ∧ PK n B cap g a b ρ ∧ ρ 9 = .int .i64 i ∧ ρ 10 = .int .i64 t ∧ ms = [] ∧ d' = []) →
    LoopW M cx 8 sf100L3 ρ ms h' d' (fun ex ρ' ms' h' d' => ms' = [] ∧ d' = [] ∧ ∃ f : Nat → E, SA cel n B el h0 old0 h' f ∧ Sw a b f0 f ∧ (ex = .exit 0 ∨ (ex = .ret ∧ ((ρ' 8 = .bool true ∧ Ord c a b f) ∨ ρ' 8 = .bool false)))) := by
  refine loop_run _ ?_
  rintro k ρ ms h' d' ⟨t, i, f, hk, hai, hib, S, W, O, P, r9, r10, rfl, rfl⟩
  unfold sf100L3
  by_cases z : t < 5
  · have e1 : (t : Int) < 5 := by omega
    have ew : IntKind.i64.wrap ((t : Int) + 1) = ((t + 1 : Nat) : Int) := by rw [wrap64 (by omega) (by omega)]; rfl
    repeat (first | apply Z1 | apply Z2 | apply Z3 | apply Z4 | apply Z5 rfl | apply Z6 | apply Z7 | apply Z8 | apply Z9 | apply ZA | apply ZB | apply ZC | ((first | apply ZD (by decide) | apply ZN (by decide)); (simp (maxSteps := 9999999) only [go_sem, r10, e1]; rfl)) | (refine ZE ?_ ?_; · simp only [go_sem]) | (refine ZF ?_ ?_; · simp only [go_sem]))
    obtain ⟨r0, r1, r2, r3⟩ := P
    refine run_loop (pinA_loopT (cap := cap) C hl hn (a := a) hb cx S t (b - i) _ _ _ _ ⟨i, rfl, hai, hib, O, ⟨by simp only [go_sem, r0], by simp only [go_sem, r1], by simp only [go_sem, r2], by simp only [go_sem, r3]⟩, by simp only [go_sem, r9], by simp only [go_sem, r10], rfl, rfl, rfl⟩) ?_
    rintro ex ρ1 ms1 h1 d1 ⟨rfl, rfl, rfl, rfl, i, hai, hib, O, ⟨r0, r1, r2, r3⟩, r9, r10⟩
    by_cases zi : i = b
    · have e2 : ((i : Int) = b) := by omega
      repeat (first | apply Z1 | apply Z2 | apply Z3 | apply Z4 | apply Z5 rfl | apply Z6 | apply Z7 | apply Z8 | apply Z9 | apply ZA | apply ZB | apply ZC | ((first | apply ZD (by decide) | apply ZN (by decide)); (simp (maxSteps := 9999999) only [go_sem, r0, r1, r2, r3, r9, r10, e2]; rfl)) | (refine ZE ?_ ?_; · simp only [go_sem]) | (refine ZF ?_ ?_; · simp only [go_sem]))
      exact end_nil ⟨rfl, rfl, f, S, W, .inr ⟨rfl, .inl ⟨by simp only [go_sem], by rw [zi] at O; exact O⟩⟩⟩
    · have e2 : ¬ ((i : Int) = b) := by omega
      have w1 : IntKind.i64.wrap ((b : Int) - (a : Int)) = ((b - a : Nat) : Int) := by rw [wrap64 (by omega) (by omega)]; omega
      by_cases z50 : b - a < 50
      · have e3 : ((b - a : Nat) : Int) < 50 := by omega
        repeat (first | apply Z1 | apply Z2 | apply Z3 | apply Z4 | apply Z5 rfl | apply Z6 | apply Z7 | apply Z8 | apply Z9 | apply ZA | apply ZB | apply ZC | ((first | apply ZD (by decide) | apply ZN (by decide)); (simp (maxSteps := 9999999) only [go_sem, r0, r1, r2, r3, r9, r10, e2, w1, e3]; rfl)) | (refine ZE ?_ ?_; · simp only [go_sem]) | (refine ZF ?_ ?_; · simp only [go_sem]))
        exact end_nil ⟨rfl, rfl, f, S, W, .inr ⟨rfl, .inr (by simp only [go_sem])⟩⟩
      · have e3 : ¬ ((b - a : Nat) : Int) < 50 := by omega
        have p1 : (0 : Int) ≤ (i : Int) := by omega
        have p2 : (i : Int) < n := by omega
        have p3 : (0 : Int) ≤ ((i - 1 : Nat) : Int) := by omega
        have p4 : ((i - 1 : Nat) : Int) < n := by omega
        have w2 : IntKind.i64.wrap ((i : Int) - 1) = ((i - 1 : Nat) : Int) := by rw [wrap64 (by omega) (by omega)]; omega
        have w3 : IntKind.i64.wrap ((i : Int) - (a : Int)) = ((i - a : Nat) : Int) := by rw [wrap64 (by omega) (by omega)]; omega
        have w4 : IntKind.i64.wrap ((b : Int) - (i : Int)) = ((b - i : Nat) : Int) := by rw [wrap64 (by omega) (by omega)]; omega
        have w5 : IntKind.i64.wrap ((i : Int) + 1) = ((i + 1 : Nat) : Int) := by rw [wrap64 (by omega) (by omega)]; rfl
        have l1 := S.load hl (show i < n by omega)
        have l2 := S.load hl (show i - 1 < n by omega)
        obtain ⟨h2, h3, st1, st2, S2⟩ := S.swap hl hc (by decide) (show i < n by omega) (show i - 1 < n by omega)
        have W2 : Sw a b f0 (swp f i (i - 1)) := W.step (by omega) (by omega) (by omega) (by omega)
        have O2 : Ord c a (i - 1) (swp f i (i - 1)) := (O.mono (Nat.le_refl _) (by omega)).congr (fun q q1 q2 => swp_o f (by omega) (by omega))
        have hpre2 : 0 < a → ∀ j, a ≤ j → j < i → ¬ c (swp f i (i - 1) j) (swp f i (i - 1) (a - 1)) < 0 := fun h0 j j1 j2 => by
          have := W2.all (P := fun x => ¬ c x (f0 (a - 1)) < 0) (hpre h0) j j1 (by omega)
          rwa [W2.out (i := a - 1) (by omega)]
        generalize swp f i (i - 1) = f2 at *
        by_cases z2 : 2 ≤ i - a
        · have e4 : (2 : Int) ≤ ((i - a : Nat) : Int) := by omega
          repeat (first | apply Z1 | apply Z2 | apply Z3 | apply Z4 | apply Z5 rfl | apply Z6 | apply Z7 | apply Z8 | apply Z9 | apply ZA | apply ZB | apply ZC | ((first | apply ZD (by decide) | apply ZN (by decide)); (simp (maxSteps := 9999999) only [go_sem, r0, r1, r2, r3, r9, r10, e2, w1, e3, p1, p2, p3, p4, w2, l1, l2, hl, ↓st1, ↓st2, w3, e4]; rfl)) | (refine ZE ?_ ?_; · simp only [go_sem]) | (refine ZF ?_ ?_; · simp only [go_sem]))
          refine run_loop (pinB_loopT (cap := cap) C hl hc hn (a := a) (i := i) hb (by omega) (by omega) cx f2 hpre2 t (i - 1) _ _ _ _ ⟨i - 1, f2, rfl, by omega, by omega, S2, .refl, InsI.start O2, ⟨by simp only [go_sem, r0], by simp only [go_sem, r1], by simp only [go_sem, r2], by simp only [go_sem, r3]⟩, by simp only [go_sem, r9], by simp only [go_sem, r10], by simp only [go_sem, w2], rfl, rfl⟩) ?_
          rintro ex ρ3 ms3 h4 d3 ⟨rfl, rfl, rfl, f3, S3, W3, O3, ⟨r0, r1, r2, r3⟩, r9, r10⟩
          have W3' : Sw a b f0 f3 := W2.trans (W3.mono (by omega) (by omega))
          by_cases z3 : 2 ≤ b - i
          · have e5 : (2 : Int) ≤ ((b - i : Nat) : Int) := by omega
            repeat (first | apply Z1 | apply Z2 | apply Z3 | apply Z4 | apply Z5 rfl | apply Z6 | apply Z7 | apply Z8 | apply Z9 | apply ZA | apply ZB | apply ZC | ((first | apply ZD (by decide) | apply ZN (by decide)); (simp (maxSteps := 9999999) only [go_sem, r0, r1, r2, r3, r9, r10, w4, e5, w5]; rfl)) | (refine ZE ?_ ?_; · simp only [go_sem]) | (refine ZF ?_ ?_; · simp only [go_sem]))
            refine run_loop (pinC_loopT (cap := cap) C hl hc hn (a := a) (i := i) hb (by omega) cx f3 t (b - (i + 1)) _ _ _ _ ⟨i + 1, f3, rfl, by omega, by omega, S3, .refl, ⟨by simp only [go_sem, r0], by simp only [go_sem, r1], by simp only [go_sem, r2], by simp only [go_sem, r3]⟩, by simp only [go_sem, r9], by simp only [go_sem, r10], by simp only [go_sem, w5], rfl, rfl⟩) ?_
            rintro ex ρ4 ms4 h5 d4 ⟨rfl, rfl, rfl, f4, S4, W4, ⟨r0, r1, r2, r3⟩, r9, r10⟩
            repeat (first | apply Z1 | apply Z2 | apply Z3 | apply Z4 | apply Z5 rfl | apply Z6 | apply Z7 | apply Z8 | apply Z9 | apply ZA | apply ZB | apply ZC | ((first | apply ZD (by decide) | apply ZN (by decide)); (simp (maxSteps := 9999999) only [go_sem, r0, r1, r2, r3, r9, r10, ew]; rfl)) | (refine ZE ?_ ?_; · simp only [go_sem]) | (refine ZF ?_ ?_; · simp only [go_sem]))
            exact end_nil ⟨k - 1, by omega, t + 1, i, f4, by omega, hai, hib, S4, W3'.trans (W4.mono (by omega) (by omega)), O3.congr (fun q q1 q2 => W4.out (by omega)), ⟨by simp only [go_sem, r0], by simp only [go_sem, r1], by simp only [go_sem, r2], by simp only [go_sem, r3]⟩, by simp only [go_sem, r9], by simp only [go_sem, ew], rfl, rfl⟩
          · have e5 : ¬ (2 : Int) ≤ ((b - i : Nat) : Int) := by omega
            repeat (first | apply Z1 | apply Z2 | apply Z3 | apply Z4 | apply Z5 rfl | apply Z6 | apply Z7 | apply Z8 | apply Z9 | apply ZA | apply ZB | apply ZC | ((first | apply ZD (by decide) | apply ZN (by decide)); (simp (maxSteps := 9999999) only [go_sem, r0, r1, r2, r3, r9, r10, w4, e5, w5, ew]; rfl)) | (refine ZE ?_ ?_; · simp only [go_sem]) | (refine ZF ?_ ?_; · simp only [go_sem]))
            exact end_nil ⟨k - 1, by omega, t + 1, i, f3, by omega, hai, hib, S3, W3', O3, ⟨by simp only [go_sem, r0], by simp only [go_sem, r1], by simp only [go_sem, r2], by simp only [go_sem, r3]⟩, by simp only [go_sem, r9], by simp only [go_sem, ew], rfl, rfl⟩
        · have e4 : ¬ (2 : Int) ≤ ((i - a : Nat) : Int) := by omega
          have O3 : Ord c a i f2 := Ord.nil c (by omega) _
          by_cases z3 : 2 ≤ b - i
          · have e5 : (2 : Int) ≤ ((b - i : Nat) : Int) := by omega
            repeat (first | apply Z1 | apply Z2 | apply Z3 | apply Z4 | apply Z5 rfl | apply Z6 | apply Z7 | apply Z8 | apply Z9 | apply ZA | apply ZB | apply ZC | ((first | apply ZD (by decide) | apply ZN (by decide)); (simp (maxSteps := 9999999) only [go_sem, r0, r1, r2, r3, r9, r10, e2, w1, e3, p1, p2, p3, p4, w2, l1, l2, hl, ↓st1, ↓st2, w3, e4, w4, e5, w5]; rfl)) | (refine ZE ?_ ?_; · simp only [go_sem]) | (refine ZF ?_ ?_; · simp only [go_sem]))
            refine run_loop (pinC_loopT (cap := cap) C hl hc hn (a := a) (i := i) hb (by omega) cx f2 t (b - (i + 1)) _ _ _ _ ⟨i + 1, f2, rfl, by omega, by omega, S2, .refl, ⟨by simp only [go_sem, r0], by simp only [go_sem, r1], by simp only [go_sem, r2], by simp only [go_sem, r3]⟩, by simp only [go_sem, r9], by simp only [go_sem, r10], by simp only [go_sem, w5], rfl, rfl⟩) ?_
            rintro ex ρ4 ms4 h5 d4 ⟨rfl, rfl, rfl, f4, S4, W4, ⟨r0, r1, r2, r3⟩, r9, r10⟩
            repeat (first | apply Z1 | apply Z2 | apply Z3 | apply Z4 | apply Z5 rfl | apply Z6 | apply Z7 | apply Z8 | apply Z9 | apply ZA | apply ZB | apply ZC | ((first | apply ZD (by decide) | apply ZN (by decide)); (simp (maxSteps := 9999999) only [go_sem, r0, r1, r2, r3, r9, r10, ew]; rfl)) | (refine ZE ?_ ?_; · simp only [go_sem]) | (refine ZF ?_ ?_; · simp only [go_sem]))
            exact end_nil ⟨k - 1, by omega, t + 1, i, f4, by omega, hai, hib, S4, W2.trans (W4.mono (by omega) (by omega)), O3.congr (fun q q1 q2 => W4.out (by omega)), ⟨by simp only [go_sem, r0], by simp only [go_sem, r1], by simp only [go_sem, r2], by simp only [go_sem, r3]⟩, by simp only [go_sem, r9], by simp only [go_sem, ew], rfl, rfl⟩
          · have e5 : ¬ (2 : Int) ≤ ((b - i : Nat) : Int) := by omega
            repeat (first | apply Z1 | apply Z2 | apply Z3 | apply Z4 | apply Z5 rfl | apply Z6 | apply Z7 | apply Z8 | apply Z9 | apply ZA | apply ZB | apply ZC | ((first | apply ZD (by decide) | apply ZN (by decide)); (simp (maxSteps := 9999999) only [go_sem, r0, r1, r2, r3, r9, r10, e2, w1, e3, p1, p2, p3, p4, w2, l1, l2, hl, ↓st1, ↓st2, w3, e4, w4, e5, w5, ew]; rfl)) | (refine ZE ?_ ?_; · simp only [go_sem]) | (refine ZF ?_ ?_; · simp only [go_sem]))
            exact end_nil ⟨k - 1, by omega, t + 1, i, f2, by omega, hai, hib, S2, W2, O3, ⟨by simp only [go_sem, r0], by simp only [go_sem, r1], by simp only [go_sem, r2], by simp only [go_sem, r3]⟩, by simp only [go_sem, r9], by simp only [go_sem, ew], rfl, rfl⟩
  · have e1 : ¬ (t : Int) < 5 := by omega
    repeat (first | apply Z1 | apply Z2 | apply Z3 | apply Z4 | apply Z5 rfl | apply Z6 | apply Z7 | apply Z8 | apply Z9 | apply ZA | apply ZB | apply ZC | ((first | apply ZD (by decide) | apply ZN (by decide)); (simp (maxSteps := 9999999) only [go_sem, r10, e1]; rfl)) | (refine ZE ?_ ?_; · simp only [go_sem]) | (refine ZF ?_ ?_; · simp only [go_sem]))
    exact end_nil ⟨rfl, rfl, f, S, W, .inl rfl⟩
theorem pinT (C : Cmp M g cel c) (hl : ∀ x, (cel x).length = 3) (hc : ∀ x, (cel x).all sc = true) (hn : n ≤ 1000000) {a b : Nat} (hab : a < b) (hb : b ≤ n) {h : SHeap} {f : Nat → E} (S : SA cel n B el h0 old0 h f) (hpre : 0 < a → ∀ j, a ≤ j → j < b → ¬ c (f j) (f (a - 1)) < 0) :
    ∃ h' f' r, M.call 100 [.slice (some ⟨B, 0, none⟩) n cap, .int .i64 a, .int .i64 b, .func (.func g) #[] #[]] h = some (.bool r, h', []) ∧ SA cel n B el h0 old0 h' f' ∧ Sw a b f f' ∧ (r = true → Ord c a b f') := by
  have key : ∃ r, (∃ h' f' q, r = (Value.bool q, h', ([] : List Nat)) ∧ SA cel n B el h0 old0 h' f' ∧ Sw a b f f' ∧ (q = true → Ord c a b f')) ∧ M.call 100 [.slice (some ⟨B, 0, none⟩) n cap, .int .i64 a, .int .i64 b, .func (.func g) #[] #[]] h = some r := by
    refine call_ex (f := 100) _ sf100 rfl rfl rfl ?_
    unfold sf100
    have ew : IntKind.i64.wrap ((a : Int) + 1) = ((a + 1 : Nat) : Int) := by rw [wrap64 (by omega) (by omega)]; rfl
    repeat (first | apply Z1 | apply Z2 | apply Z3 | apply Z4 | apply Z5 rfl | apply Z6 | apply Z7 | apply Z8 | apply Z9 | apply ZA | apply ZB | apply ZC | ((first | apply ZD (by decide) | apply ZN (by decide)); (simp (maxSteps := 9999999) only [go_sem, argR, ew]; rfl)) | (refine ZE ?_ ?_; · simp only [go_sem]) | (refine ZF ?_ ?_; · simp only [go_sem]))
    refine run_loop (pinO_loopT (cap := cap) (el := el) (h0 := h0) (old0 := old0) C hl hc hn (a := a) (b := b) hb _ f hpre 5 _ _ _ _ ⟨0, a + 1, f, rfl, by omega, by omega, S, .refl, Ord.nil c (by omega) f, ⟨by simp only [go_sem, argR], by simp only [go_sem, argR], by simp only [go_sem, argR], by simp only [go_sem, argR]⟩, by simp only [go_sem, ew], by (simp only [go_sem]) <;> rfl, rfl, rfl⟩) ?_
    rintro ex ρ' ms' h1 d1 ⟨rfl, rfl, f2, S2, W2, rfl | ⟨rfl, ⟨k8, O⟩ | k8⟩⟩
    · repeat (first | apply Z1 | apply Z2 | apply Z3 | apply Z4 | apply Z5 rfl | apply Z6 | apply Z7 | apply Z8 | apply Z9 | apply ZA | apply ZB | apply ZC | ((first | apply ZD (by decide) | apply ZN (by decide)); (simp (maxSteps := 9999999) only [go_sem]; rfl)) | (refine ZE ?_ ?_; · simp only [go_sem]) | (refine ZF ?_ ?_; · simp only [go_sem]))
      exact end_nil ⟨_, ⟨h1, f2, false, rfl, S2, W2, fun h => by cases h⟩, q_free [.bool false] (by simp only [go_sem]) rfl rfl rfl (fun _ => rfl) (by rw [List.take_of_length_le]; rw [S2.len, S.len]; exact Nat.le_refl _) rfl⟩
    · repeat (first | apply Z1 | apply Z2 | apply Z3 | apply Z4 | apply Z5 rfl | apply Z6 | apply Z7 | apply Z8 | apply Z9 | apply ZA | apply ZB | apply ZC | ((first | apply ZD (by decide) | apply ZN (by decide)); (simp (maxSteps := 9999999) only [go_sem]; rfl)) | (refine ZE ?_ ?_; · simp only [go_sem]) | (refine ZF ?_ ?_; · simp only [go_sem]))
      exact end_nil ⟨_, ⟨h1, f2, true, rfl, S2, W2, fun _ => O⟩, q_free [.bool true] (by simp only [go_sem, k8]) rfl rfl rfl (fun _ => rfl) (by rw [List.take_of_length_le]; rw [S2.len, S.len]; exact Nat.le_refl _) rfl⟩
    · repeat (first | apply Z1 | apply Z2 | apply Z3 | apply Z4 | apply Z5 rfl | apply Z6 | apply Z7 | apply Z8 | apply Z9 | apply ZA | apply ZB | apply ZC | ((first | apply ZD (by decide) | apply ZN (by decide)); (simp (maxSteps := 9999999) only [go_sem]; rfl)) | (refine ZE ?_ ?_; · simp only [go_sem]) | (refine ZF ?_ ?_; · simp only [go_sem]))
      exact end_nil ⟨_, ⟨h1, f2, false, rfl, S2, W2, fun h => by cases h⟩, q_free [.bool false] (by simp only [go_sem, k8]) rfl rfl rfl (fun _ => rfl) (by rw [List.take_of_length_le]; rw [S2.len, S.len]; exact Nat.le_refl _) rfl⟩
  obtain ⟨r, ⟨h', f', q, rfl, k⟩, e⟩ := key
  exact ⟨h', f', q, e, k⟩
end
end Go.Proofs.Ytioijehbmgmgkaa.Sh

namespace Go.Proofs.Ytioijehbmgmgkaa.Sh
open Go
set_option maxRecDepth 100000
set_option maxHeartbeats 4000000
section
variable {E : Type} {cel : E → List Value} {c : E → E → Int} {g : FuncId} {n B cap : Nat} {el : TypeId} {h0 : SHeap} {old0 : List Nat}
def KRT (n B cap : Nat) (g : FuncId) (a : Nat) (ρ : Reg) : Prop := ρ 0 = .slice (some ⟨B, 0, none⟩) n cap ∧ ρ 1 = .int .i64 a ∧ ρ 4 = .func (.func g) #[] #[]
theorem peqU_loopT (C : Cmp M g cel c) (hl : ∀ x, (cel x).length = 3) (hn : n ≤ 1000000) {a b j : Nat} (hb : b ≤ n) (hj : j < b) (haj : a ≤ j) (i0 : Nat) (cx : Cx) {h : SHeap} {f : Nat → E} (S : SA cel n B el h0 old0 h f) : ∀ k ρ ms h' d', (∃ i : Nat, j + 1 - i = k ∧ i0 ≤ i ∧ a < i ∧ i ≤ j + 1 ∧ (∀ q, a < q → q < i → ¬ c (f a) (f q) < 0) ∧ KRT n B cap g a ρ ∧ ρ 11 = .int .i64 i ∧ ρ 12 = .int .i64 j ∧ ms = [] ∧ h' = h ∧ d' = []) →
    LoopW M cx 7 sf101L1 ρ ms h' d' (fun ex ρ' ms' h' d' => ex = .exit 2 ∧ ms' = [] ∧ h' = h ∧ d' = [] ∧ ∃ i : Nat, i0 ≤ i ∧ a < i ∧ i ≤ j + 1 ∧ (∀ q, a < q → q < i → ¬ c (f a) (f q) < 0) ∧ (i ≤ j → ¬ ¬ c (f a) (f i) < 0) ∧ KRT n B cap g a ρ' ∧ ρ' 11 = .int .i64 i ∧ ρ' 12 = .int .i64 j) := by
  refine loop_run _ ?_
  rintro k ρ ms h' d' ⟨i, hk, h0i, hai, hij, hP, ⟨r0, r1, r4⟩, ri, rj, rfl, rfl, rfl⟩
  unfold sf101L1
  by_cases z : i ≤ j
  · have e1 : (i : Int) ≤ j := by omega
    have p1 : (0 : Int) ≤ (i : Int) := by omega
    have p2 : (i : Int) < n := by omega
    have p3 : (0 : Int) ≤ (a : Int) := by omega
    have p4 : (a : Int) < n := by omega
    have w1 : IntKind.i64.wrap ((i : Int) + 1) = ((i + 1 : Nat) : Int) := by rw [wrap64 (by omega) (by omega)]; rfl
    have l1 := S.load hl (show i < n by omega)
    have l2 := S.load hl (show a < n by omega)
    have cc := fun h => C.call (f a) (f i) h
    by_cases hlt : ¬ c (f a) (f i) < 0
    · repeat (first | apply Z1 | apply Z2 | apply Z3 | apply Z4 | apply Z5 rfl | apply Z6 | apply Z7 | apply Z8 | apply Z9 | apply ZA | apply ZB | apply ZC | ((first | apply ZD (by decide) | apply ZN (by decide)); (simp (maxSteps := 9999999) only [go_sem, r0, r1, r4, ri, rj, e1, p1, p2, p3, p4, w1, l1, l2, cc, hlt]; rfl)) | (refine ZE ?_ ?_; · simp only [go_sem]) | (refine ZF ?_ ?_; · simp only [go_sem]))
      refine end_nil ⟨j + 1 - (i + 1), by omega, i + 1, rfl, by omega, by omega, by omega, fun q q1 q2 => ?_, ⟨by simp only [go_sem, r0], by simp only [go_sem, r1], by simp only [go_sem, r4]⟩, by simp only [go_sem, w1], by simp only [go_sem, rj], rfl, rfl, rfl⟩
      by_cases e : q = i
      · subst e; exact hlt
      · exact hP q q1 (by omega)
    · have hlt2 := Classical.not_not.1 hlt
      repeat (first | apply Z1 | apply Z2 | apply Z3 | apply Z4 | apply Z5 rfl | apply Z6 | apply Z7 | apply Z8 | apply Z9 | apply ZA | apply ZB | apply ZC | ((first | apply ZD (by decide) | apply ZN (by decide)); (simp (maxSteps := 9999999) only [go_sem, r0, r1, r4, ri, rj, e1, p1, p2, p3, p4, l1, l2, cc, hlt2]; rfl)) | (refine ZE ?_ ?_; · simp only [go_sem]) | (refine ZF ?_ ?_; · simp only [go_sem]))
      exact end_nil ⟨rfl, rfl, rfl, rfl, i, h0i, hai, hij, hP, fun _ => hlt, ⟨by simp only [go_sem, r0], by simp only [go_sem, r1], by simp only [go_sem, r4]⟩, by simp only [go_sem, ri], by simp only [go_sem, rj]⟩
  · have e1 : ¬ (i : Int) ≤ j := by omega
    repeat (first | apply Z1 | apply Z2 | apply Z3 | apply Z4 | apply Z5 rfl | apply Z6 | apply Z7 | apply Z8 | apply Z9 | apply ZA | apply ZB | apply ZC | ((first | apply ZD (by decide) | apply ZN (by decide)); (simp (maxSteps := 9999999) only [go_sem, r0, r1, r4, ri, rj, e1]; rfl)) | (refine ZE ?_ ?_; · simp only [go_sem]) | (refine ZF ?_ ?_; · simp only [go_sem]))
    exact end_nil ⟨rfl, rfl, rfl, rfl, i, h0i, hai, hij, hP, fun h => (z h).elim, ⟨by simp only [go_sem, r0], by simp only [go_sem, r1], by simp only [go_sem, r4]⟩, by simp only [go_sem, ri], by simp only [go_sem, rj]⟩
theorem peqD_loopT (C : Cmp M g cel c) (hl : ∀ x, (cel x).length = 3) (hn : n ≤ 1000000) {a b i : Nat} (hb : b ≤ n) (hai : a < i) (j0 : Nat) (cx : Cx) {h : SHeap} {f : Nat → E} (S : SA cel n B el h0 old0 h f) : ∀ k ρ ms h' d', (∃ j : Nat, j + 1 - i = k ∧ j ≤ j0 ∧ j < b ∧ i ≤ j + 1 ∧ (∀ q, j < q → q < b → c (f a) (f q) < 0) ∧ KRT n B cap g a ρ ∧ ρ 11 = .int .i64 i ∧ ρ 12 = .int .i64 j ∧ ms = [] ∧ h' = h ∧ d' = []) →
    LoopW M cx 7 sf101L0 ρ ms h' d' (fun ex ρ' ms' h' d' => ex = .exit 4 ∧ ms' = [] ∧ h' = h ∧ d' = [] ∧ ∃ j : Nat, j ≤ j0 ∧ j < b ∧ i ≤ j + 1 ∧ (∀ q, j < q → q < b → c (f a) (f q) < 0) ∧ (i ≤ j → ¬ c (f a) (f j) < 0) ∧ KRT n B cap g a ρ' ∧ ρ' 11 = .int .i64 i ∧ ρ' 12 = .int .i64 j) := by
  refine loop_run _ ?_
  rintro k ρ ms h' d' ⟨j, hk, h0j, hjb, hij, hR, ⟨r0, r1, r4⟩, ri, rj, rfl, rfl, rfl⟩
  unfold sf101L0
  by_cases z : i ≤ j
  · have e1 : (i : Int) ≤ j := by omega
    have p1 : (0 : Int) ≤ (j : Int) := by omega
    have p2 : (j : Int) < n := by omega
    have p3 : (0 : Int) ≤ (a : Int) := by omega
    have p4 : (a : Int) < n := by omega
    have w1 : IntKind.i64.wrap ((j : Int) - 1) = ((j - 1 : Nat) : Int) := by rw [wrap64 (by omega) (by omega)]; omega
    have l1 := S.load hl (show j < n by omega)
    have l2 := S.load hl (show a < n by omega)
    have cc := fun h => C.call (f a) (f j) h
    by_cases hlt : c (f a) (f j) < 0
    · repeat (first | apply Z1 | apply Z2 | apply Z3 | apply Z4 | apply Z5 rfl | apply Z6 | apply Z7 | apply Z8 | apply Z9 | apply ZA | apply ZB | apply ZC | ((first | apply ZD (by decide) | apply ZN (by decide)); (simp (maxSteps := 9999999) only [go_sem, r0, r1, r4, ri, rj, e1, p1, p2, p3, p4, w1, l1, l2, cc, hlt]; rfl)) | (refine ZE ?_ ?_; · simp only [go_sem]) | (refine ZF ?_ ?_; · simp only [go_sem]))
      refine end_nil ⟨j - 1 + 1 - i, by omega, j - 1, rfl, by omega, by omega, by omega, fun q q1 q2 => ?_, ⟨by simp only [go_sem, r0], by simp only [go_sem, r1], by simp only [go_sem, r4]⟩, by simp only [go_sem, ri], by simp only [go_sem, w1], rfl, rfl, rfl⟩
      by_cases e : q = j
      · subst e; exact hlt
      · exact hR q (by omega) q2
    · have hlt2 := hlt
      repeat (first | apply Z1 | apply Z2 | apply Z3 | apply Z4 | apply Z5 rfl | apply Z6 | apply Z7 | apply Z8 | apply Z9 | apply ZA | apply ZB | apply ZC | ((first | apply ZD (by decide) | apply ZN (by decide)); (simp (maxSteps := 9999999) only [go_sem, r0, r1, r4, ri, rj, e1, p1, p2, p3, p4, l1, l2, cc, hlt2]; rfl)) | (refine ZE ?_ ?_; · simp only [go_sem]) | (refine ZF ?_ ?_; · simp only [go_sem]))
      exact end_nil ⟨rfl, rfl, rfl, rfl, j, h0j, hjb, hij, hR, fun _ => hlt, ⟨by simp only [go_sem, r0], by simp only [go_sem, r1], by simp only [go_sem, r4]⟩, by simp only [go_sem, ri], by simp only [go_sem, rj]⟩
  · have e1 : ¬ (i : Int) ≤ j := by omega
    repeat (first | apply Z1 | apply Z2 | apply Z3 | apply Z4 | apply Z5 rfl | apply Z6 | apply Z7 | apply Z8 | apply Z9 | apply ZA | apply ZB | apply ZC | ((first | apply ZD (by decide) | apply ZN (by decide)); (simp (maxSteps := 9999999) only [go_sem, r0, r1, r4, ri, rj, e1]; rfl)) | (refine ZE ?_ ?_; · simp only [go_sem]) | (refine ZF ?_ ?_; · simp only [go_sem]))
    exact end_nil ⟨rfl, rfl, rfl, rfl, j, h0j, hjb, hij, hR, fun h => (z h).elim, ⟨by simp only [go_sem, r0], by simp only [go_sem, r1], by simp only [go_sem, r4]⟩, by simp only [go_sem, ri], by simp only [go_sem, rj]⟩
theorem peqO_loopT (C : Cmp M g cel c) (hl : ∀ x, (cel x).length = 3) (hc : ∀ x, (cel x).all sc = true) (hn : n ≤ 1000000) {a b : Nat} (hb : b ≤ n) (cx : Cx) (f0 : Nat → E) : ∀ k ρ ms h' d', (∃ (i j : Nat) (f : Nat → E), j + 1 - i = k ∧ a < i ∧ i ≤ j + 1 ∧ j < b ∧ SA cel n B el h0 old0 h' f ∧ Sw (a + 1) b f0 f ∧ (∀ q, a < q → q < i → ¬ c (f a) (f q) < 0) ∧ (∀ q, j < q → q < b → c (f a) (f q) < 0) ∧ KRT n B cap g a ρ ∧ ρ 11 = .int .i64 i ∧ ρ 12 = .int .i64 j ∧ ms = [] ∧ d' = []) →
    LoopW M cx 7 sf101L2 ρ ms h' d' (fun ex ρ' ms' h' d' => ex = .exit 0 ∧ ms' = [] ∧ d' = [] ∧ ∃ (i : Nat) (f : Nat → E), a < i ∧ i ≤ b ∧ SA cel n B el h0 old0 h' f ∧ Sw (a + 1) b f0 f ∧ (∀ q, a < q → q < i → ¬ c (f a) (f q) < 0) ∧ (∀ q, i ≤ q → q < b → c (f a) (f q) < 0) ∧ ρ' 11 = .int .i64 i) := by
  refine loop_run _ ?_
  rintro k ρ ms h' d' ⟨i, j, f, hk, hai, hij, hjb, S, W, hP, hR, ⟨r0, r1, r4⟩, ri, rj, rfl, rfl⟩
  unfold sf101L2
  repeat (first | apply Z1 | apply Z2 | apply Z3 | apply Z4 | apply Z5 rfl | apply Z6 | apply Z7 | apply Z8 | apply Z9 | apply ZA | apply ZB | apply ZC | ((first | apply ZD (by decide) | apply ZN (by decide)); (simp (maxSteps := 9999999) only [go_sem]; rfl)) | (refine ZE ?_ ?_; · simp only [go_sem]) | (refine ZF ?_ ?_; · simp only [go_sem]))
  refine run_loop (peqU_loopT (cap := cap) C hl hn (a := a) hb hjb (by omega) i cx S (j + 1 - i) _ _ _ _ ⟨i, rfl, Nat.le_refl _, hai, hij, hP, ⟨by simp only [go_sem, r0], by simp only [go_sem, r1], by simp only [go_sem, r4]⟩, by simp only [go_sem, ri], by simp only [go_sem, rj], rfl, rfl, rfl⟩) ?_
  rintro ex ρ1 ms1 h1 d1 ⟨rfl, rfl, rfl, rfl, i2, h0i2, hai2, hij2, hP2, hstop1, ⟨r0, r1, r4⟩, ri, rj⟩
  repeat (first | apply Z1 | apply Z2 | apply Z3 | apply Z4 | apply Z5 rfl | apply Z6 | apply Z7 | apply Z8 | apply Z9 | apply ZA | apply ZB | apply ZC | ((first | apply ZD (by decide) | apply ZN (by decide)); (simp (maxSteps := 9999999) only [go_sem]; rfl)) | (refine ZE ?_ ?_; · simp only [go_sem]) | (refine ZF ?_ ?_; · simp only [go_sem]))
  refine run_loop (peqD_loopT (cap := cap) C hl hn (a := a) hb hai2 j cx S (j + 1 - i2) _ _ _ _ ⟨j, rfl, Nat.le_refl _, hjb, hij2, hR, ⟨by simp only [go_sem, r0], by simp only [go_sem, r1], by simp only [go_sem, r4]⟩, by simp only [go_sem, ri], by simp only [go_sem, rj], rfl, rfl, rfl⟩) ?_
  rintro ex ρ2 ms2 h2 d2 ⟨rfl, rfl, rfl, rfl, j2, h0j2, hjb2, hij3, hR2, hstop2, ⟨r0, r1, r4⟩, ri, rj⟩
  by_cases z : j2 < i2
  · have e1 : (j2 : Int) < i2 := by omega
    repeat (first | apply Z1 | apply Z2 | apply Z3 | apply Z4 | apply Z5 rfl | apply Z6 | apply Z7 | apply Z8 | apply Z9 | apply ZA | apply ZB | apply ZC | ((first | apply ZD (by decide) | apply ZN (by decide)); (simp (maxSteps := 9999999) only [go_sem, r0, r1, r4, ri, rj, e1]; rfl)) | (refine ZE ?_ ?_; · simp only [go_sem]) | (refine ZF ?_ ?_; · simp only [go_sem]))
    exact end_nil ⟨rfl, rfl, rfl, i2, f, hai2, by omega, S, W, hP2, fun q q1 q2 => hR2 q (by omega) q2, by simp only [go_sem, ri]⟩
  · have e1 : ¬ (j2 : Int) < i2 := by omega
    have n2 := hstop2 (by omega)
    have hlt : i2 < j2 := by
      by_cases e : i2 < j2
      · exact e
      · exfalso
        have e3 : i2 = j2 := by omega
        subst e3
        by_cases e4 : i2 ≤ j
        · exact n2 (Classical.not_not.1 (hstop1 e4))
        · exact n2 (hR i2 (by omega) hjb2)
    have m1 : c (f a) (f i2) < 0 := by
      by_cases e4 : i2 ≤ j
      · exact Classical.not_not.1 (hstop1 e4)
      · exact hR i2 (by omega) (by omega)
    have p1 : (0 : Int) ≤ (i2 : Int) := by omega
    have p2 : (i2 : Int) < n := by omega
    have p3 : (0 : Int) ≤ (j2 : Int) := by omega
    have p4 : (j2 : Int) < n := by omega
    have w1 : IntKind.i64.wrap ((i2 : Int) + 1) = ((i2 + 1 : Nat) : Int) := by rw [wrap64 (by omega) (by omega)]; rfl
    have w2 : IntKind.i64.wrap ((j2 : Int) - 1) = ((j2 - 1 : Nat) : Int) := by rw [wrap64 (by omega) (by omega)]; omega
    have l1 := S.load hl (show i2 < n by omega)
    have l2 := S.load hl (show j2 < n by omega)
    obtain ⟨h3, h4, st1, st2, S2⟩ := S.swap hl hc (by decide) (show i2 < n by omega) (show j2 < n by omega)
    repeat (first | apply Z1 | apply Z2 | apply Z3 | apply Z4 | apply Z5 rfl | apply Z6 | apply Z7 | apply Z8 | apply Z9 | apply ZA | apply ZB | apply ZC | ((first | apply ZD (by decide) | apply ZN (by decide)); (simp (maxSteps := 9999999) only [go_sem, r0, r1, r4, ri, rj, e1, p1, p2, p3, p4, l1, l2, hl, ↓st1, ↓st2, w1, w2]; rfl)) | (refine ZE ?_ ?_; · simp only [go_sem]) | (refine ZF ?_ ?_; · simp only [go_sem]))
    have ea : swp f i2 j2 a = f a := swp_o f (by omega) (by omega)
    refine end_nil ⟨j2 - 1 + 1 - (i2 + 1), by omega, i2 + 1, j2 - 1, _, rfl, by omega, by omega, by omega, S2, W.step (by omega) (by omega) (by omega) (by omega), fun q q1 q2 => ?_, fun q q1 q2 => ?_, ⟨by simp only [go_sem, r0], by simp only [go_sem, r1], by simp only [go_sem, r4]⟩, by simp only [go_sem, w1], by simp only [go_sem, w2], rfl, rfl⟩
    · rw [ea]
      by_cases e : q = i2
      · subst e; rw [swp_l]; exact n2
      · rw [swp_o f e (by omega)]; exact hP2 q q1 (by omega)
    · rw [ea]
      by_cases e : q = j2
      · subst e; rw [swp_r]; exact m1
      · rw [swp_o f (by omega) e]; exact hR2 q (by omega) q2
theorem peqT (C : Cmp M g cel c) (hl : ∀ x, (cel x).length = 3) (hc : ∀ x, (cel x).all sc = true) (hn : n ≤ 1000000) {a b p : Nat} (hap : a ≤ p) (hpb : p < b) (hb : b ≤ n) {h : SHeap} {f : Nat → E} (S : SA cel n B el h0 old0 h f) :
    ∃ h' f' m, M.call 101 [.slice (some ⟨B, 0, none⟩) n cap, .int .i64 a, .int .i64 b, .int .i64 ((p : Nat) : Int), .func (.func g) #[] #[]] h = some (.int .i64 ((m : Nat) : Int), h', []) ∧ SA cel n B el h0 old0 h' f' ∧ Sw a b f f' ∧ a < m ∧ m ≤ b ∧ f' a = f p ∧ (∀ q, a < q → q < m → ¬ c (f' a) (f' q) < 0) ∧ (∀ q, m ≤ q → q < b → c (f' a) (f' q) < 0) := by
  have key : ∃ r, (∃ h' f' m, r = (Value.int .i64 ((m : Nat) : Int), h', ([] : List Nat)) ∧ SA cel n B el h0 old0 h' f' ∧ Sw a b f f' ∧ a < m ∧ m ≤ b ∧ f' a = f p ∧ (∀ q, a < q → q < m → ¬ c (f' a) (f' q) < 0) ∧ (∀ q, m ≤ q → q < b → c (f' a) (f' q) < 0)) ∧ M.call 101 [.slice (some ⟨B, 0, none⟩) n cap, .int .i64 a, .int .i64 b, .int .i64 ((p : Nat) : Int), .func (.func g) #[] #[]] h = some r := by
    refine call_ex (f := 101) _ sf101 rfl rfl rfl ?_
    unfold sf101
    have p1 : (0 : Int) ≤ (a : Int) := by omega
    have p2 : (a : Int) < n := by omega
    have p3 : (0 : Int) ≤ (p : Int) := by omega
    have p4 : (p : Int) < n := by omega
    have w1 : IntKind.i64.wrap ((a : Int) + 1) = ((a + 1 : Nat) : Int) := by rw [wrap64 (by omega) (by omega)]; rfl
    have w2 : IntKind.i64.wrap ((b : Int) - 1) = ((b - 1 : Nat) : Int) := by rw [wrap64 (by omega) (by omega)]; omega
    have l1 := S.load hl (show a < n by omega)
    have l2 := S.load hl (show p < n by omega)
    obtain ⟨h3, h4, st1, st2, S2⟩ := S.swap hl hc (by decide) (show a < n by omega) (show p < n by omega)
    repeat (first | apply Z1 | apply Z2 | apply Z3 | apply Z4 | apply Z5 rfl | apply Z6 | apply Z7 | apply Z8 | apply Z9 | apply ZA | apply ZB | apply ZC | ((first | apply ZD (by decide) | apply ZN (by decide)); (simp (maxSteps := 9999999) only [go_sem, argR, p1, p2, p3, p4, l1, l2, hl, ↓st1, ↓st2, w1, w2]; rfl)) | (refine ZE ?_ ?_; · simp only [go_sem]) | (refine ZF ?_ ?_; · simp only [go_sem]))
    refine run_loop (peqO_loopT (cap := cap) (el := el) (h0 := h0) (old0 := old0) C hl hc hn (a := a) hb _ (swp f a p) (b - 1 + 1 - (a + 1)) _ _ _ _ ⟨a + 1, b - 1, _, rfl, by omega, by omega, by omega, S2, .refl, fun q q1 q2 => by omega, fun q q1 q2 => by omega, ⟨by simp only [go_sem, argR], by simp only [go_sem, argR], by simp only [go_sem, argR]⟩, by simp only [go_sem, w1], by simp only [go_sem, w2], rfl, rfl⟩) ?_
    rintro ex ρ' ms' h5 d1 ⟨rfl, rfl, rfl, m, f3, m1, m2, S3, W3, hP, hR, k11⟩
    repeat (first | apply Z1 | apply Z2 | apply Z3 | apply Z4 | apply Z5 rfl | apply Z6 | apply Z7 | apply Z8 | apply Z9 | apply ZA | apply ZB | apply ZC | ((first | apply ZD (by decide) | apply ZN (by decide)); (simp (maxSteps := 9999999) only [go_sem, k11]; rfl)) | (refine ZE ?_ ?_; · simp only [go_sem]) | (refine ZF ?_ ?_; · simp only [go_sem]))
    exact end_nil ⟨_, ⟨h5, f3, m, rfl, S3, (Sw.one f (by omega) (by omega) (by omega) (by omega)).trans (W3.mono (by omega) (by omega)), m1, m2, by rw [W3.out (by omega), swp_l], hP, hR⟩, q_free [.int .i64 m] (by simp only [go_sem]) rfl rfl rfl (fun _ => rfl) (by rw [List.take_of_length_le]; rw [S3.len, S.len]; exact Nat.le_refl _) rfl⟩
  obtain ⟨r, ⟨h', f', m, rfl, k⟩, e⟩ := key
  exact ⟨h', f', m, e, k⟩
theorem ptA_loopT (C : Cmp M g cel c) (hl : ∀ x, (cel x).length = 3) (hn : n ≤ 1000000) {a b j : Nat} (hb : b ≤ n) (hj : j < b) (haj : a ≤ j) (i0 : Nat) (cx : Cx) {h : SHeap} {f : Nat → E} (S : SA cel n B el h0 old0 h f) : ∀ k ρ ms h' d', (∃ i : Nat, j + 1 - i = k ∧ i0 ≤ i ∧ a < i ∧ i ≤ j + 1 ∧ (∀ q, a < q → q < i → c (f q) (f a) < 0) ∧ KRT n B cap g a ρ ∧ ρ 12 = .int .i64 i ∧ ρ 13 = .int .i64 j ∧ ms = [] ∧ h' = h ∧ d' = []) →
    LoopW M cx 8 sf102L4 ρ ms h' d' (fun ex ρ' ms' h' d' => ex = .exit 0 ∧ ms' = [] ∧ h' = h ∧ d' = [] ∧ ∃ i : Nat, i0 ≤ i ∧ a < i ∧ i ≤ j + 1 ∧ (∀ q, a < q → q < i → c (f q) (f a) < 0) ∧ (i ≤ j → ¬ c (f i) (f a) < 0) ∧ KRT n B cap g a ρ' ∧ ρ' 12 = .int .i64 i ∧ ρ' 13 = .int .i64 j) := by
  refine loop_run _ ?_
  rintro k ρ ms h' d' ⟨i, hk, h0i, hai, hij, hP, ⟨r0, r1, r4⟩, ri, rj, rfl, rfl, rfl⟩
  unfold sf102L4
  by_cases z : i ≤ j
  · have e1 : (i : Int) ≤ j := by omega
    have p1 : (0 : Int) ≤ (i : Int) := by omega
    have p2 : (i : Int) < n := by omega
    have p3 : (0 : Int) ≤ (a : Int) := by omega
    have p4 : (a : Int) < n := by omega
    have w1 : IntKind.i64.wrap ((i : Int) + 1) = ((i + 1 : Nat) : Int) := by rw [wrap64 (by omega) (by omega)]; rfl
    have l1 := S.load hl (show i < n by omega)
    have l2 := S.load hl (show a < n by omega)
    have cc := fun h => C.call (f i) (f a) h
    by_cases hlt : c (f i) (f a) < 0
    · repeat (first | apply Z1 | apply Z2 | apply Z3 | apply Z4 | apply Z5 rfl | apply Z6 | apply Z7 | apply Z8 | apply Z9 | apply ZA | apply ZB | apply ZC | ((first | apply ZD (by decide) | apply ZN (by decide)); (simp (maxSteps := 9999999) only [go_sem, r0, r1, r4, ri, rj, e1, p1, p2, p3, p4, w1, l1, l2, cc, hlt]; rfl)) | (refine ZE ?_ ?_; · simp only [go_sem]) | (refine ZF ?_ ?_; · simp only [go_sem]))
      refine end_nil ⟨j + 1 - (i + 1), by omega, i + 1, rfl, by omega, by omega, by omega, fun q q1 q2 => ?_, ⟨by simp only [go_sem, r0], by simp only [go_sem, r1], by simp only [go_sem, r4]⟩, by simp only [go_sem, w1], by simp only [go_sem, rj], rfl, rfl, rfl⟩
      by_cases e : q = i
      · subst e; exact hlt
      · exact hP q q1 (by omega)
    · have hlt2 := hlt
      repeat (first | apply Z1 | apply Z2 | apply Z3 | apply Z4 | apply Z5 rfl | apply Z6 | apply Z7 | apply Z8 | apply Z9 | apply ZA | apply ZB | apply ZC | ((first | apply ZD (by decide) | apply ZN (by decide)); (simp (maxSteps := 9999999) only [go_sem, r0, r1, r4, ri, rj, e1, p1, p2, p3, p4, l1, l2, cc, hlt2]; rfl)) | (refine ZE ?_ ?_; · simp only [go_sem]) | (refine ZF ?_ ?_; · simp only [go_sem]))
      exact end_nil ⟨rfl, rfl, rfl, rfl, i, h0i, hai, hij, hP, fun _ => hlt, ⟨by simp only [go_sem, r0], by simp only [go_sem, r1], by simp only [go_sem, r4]⟩, by simp only [go_sem, ri], by simp only [go_sem, rj]⟩
  · have e1 : ¬ (i : Int) ≤ j := by omega
    repeat (first | apply Z1 | apply Z2 | apply Z3 | apply Z4 | apply Z5 rfl | apply Z6 | apply Z7 | apply Z8 | apply Z9 | apply ZA | apply ZB | apply ZC | ((first | apply ZD (by decide) | apply ZN (by decide)); (simp (maxSteps := 9999999) only [go_sem, r0, r1, r4, ri, rj, e1]; rfl)) | (refine ZE ?_ ?_; · simp only [go_sem]) | (refine ZF ?_ ?_; · simp only [go_sem]))
    exact end_nil ⟨rfl, rfl, rfl, rfl, i, h0i, hai, hij, hP, fun h => (z h).elim, ⟨by simp only [go_sem, r0], by simp only [go_sem, r1], by simp only [go_sem, r4]⟩, by simp only [go_sem, ri], by simp only [go_sem, rj]⟩
theorem ptB_loopT (C : Cmp M g cel c) (hl : ∀ x, (cel x).length = 3) (hn : n ≤ 1000000) {a b i : Nat} (hb : b ≤ n) (hai : a < i) (j0 : Nat) (cx : Cx) {h : SHeap} {f : Nat → E} (S : SA cel n B el h0 old0 h f) : ∀ k ρ ms h' d', (∃ j : Nat, j + 1 - i = k ∧ j ≤ j0 ∧ j < b ∧ i ≤ j + 1 ∧ (∀ q, j < q → q < b → ¬ c (f q) (f a) < 0) ∧ KRT n B cap g a ρ ∧ ρ 12 = .int .i64 i ∧ ρ 13 = .int .i64 j ∧ ms = [] ∧ h' = h ∧ d' = []) →
    LoopW M cx 8 sf102L3 ρ ms h' d' (fun ex ρ' ms' h' d' => ex = .exit 2 ∧ ms' = [] ∧ h' = h ∧ d' = [] ∧ ∃ j : Nat, j ≤ j0 ∧ j < b ∧ i ≤ j + 1 ∧ (∀ q, j < q → q < b → ¬ c (f q) (f a) < 0) ∧ (i ≤ j → ¬ ¬ c (f j) (f a) < 0) ∧ KRT n B cap g a ρ' ∧ ρ' 12 = .int .i64 i ∧ ρ' 13 = .int .i64 j) := by
  refine loop_run _ ?_
  rintro k ρ ms h' d' ⟨j, hk, h0j, hjb, hij, hR, ⟨r0, r1, r4⟩, ri, rj, rfl, rfl, rfl⟩
  unfold sf102L3
  by_cases z : i ≤ j
  · have e1 : (i : Int) ≤ j := by omega
    have p1 : (0 : Int) ≤ (j : Int) := by omega
    have p2 : (j : Int) < n := by omega
    have p3 : (0 : Int) ≤ (a : Int) := by omega
    have p4 : (a : Int) < n := by omega
    have w1 : IntKind.i64.wrap ((j : Int) - 1) = ((j - 1 : Nat) : Int) := by rw [wrap64 (by omega) (by omega)]; omega
    have l1 := S.load hl (show j < n by omega)
    have l2 := S.load hl (show a < n by omega)
    have cc := fun h => C.call (f j) (f a) h
    by_cases hlt : ¬ c (f j) (f a) < 0
    · repeat (first | apply Z1 | apply Z2 | apply Z3 | apply Z4 | apply Z5 rfl | apply Z6 | apply Z7 | apply Z8 | apply Z9 | apply ZA | apply ZB | apply ZC | ((first | apply ZD (by decide) | apply ZN (by decide)); (simp (maxSteps := 9999999) only [go_sem, r0, r1, r4, ri, rj, e1, p1, p2, p3, p4, w1, l1, l2, cc, hlt]; rfl)) | (refine ZE ?_ ?_; · simp only [go_sem]) | (refine ZF ?_ ?_; · simp only [go_sem]))
      refine end_nil ⟨j - 1 + 1 - i, by omega, j - 1, rfl, by omega, by omega, by omega, fun q q1 q2 => ?_, ⟨by simp only [go_sem, r0], by simp only [go_sem, r1], by simp only [go_sem, r4]⟩, by simp only [go_sem, ri], by simp only [go_sem, w1], rfl, rfl, rfl⟩
      by_cases e : q = j
      · subst e; exact hlt
      · exact hR q (by omega) q2
    · have hlt2 := Classical.not_not.1 hlt
      repeat (first | apply Z1 | apply Z2 | apply Z3 | apply Z4 | apply Z5 rfl | apply Z6 | apply Z7 | apply Z8 | apply Z9 | apply ZA | apply ZB | apply ZC | ((first | apply ZD (by decide) | apply ZN (by decide)); (simp (maxSteps := 9999999) only [go_sem, r0, r1, r4, ri, rj, e1, p1, p2, p3, p4, l1, l2, cc, hlt2]; rfl)) | (refine ZE ?_ ?_; · simp only [go_sem]) | (refine ZF ?_ ?_; · simp only [go_sem]))
      exact end_nil ⟨rfl, rfl, rfl, rfl, j, h0j, hjb, hij, hR, fun _ => hlt, ⟨by simp only [go_sem, r0], by simp only [go_sem, r1], by simp only [go_sem, r4]⟩, by simp only [go_sem, ri], by simp only [go_sem, rj]⟩
  · have e1 : ¬ (i : Int) ≤ j := by omega
    repeat (first | apply Z1 | apply Z2 | apply Z3 | apply Z4 | apply Z5 rfl | apply Z6 | apply Z7 | apply Z8 | apply Z9 | apply ZA | apply ZB | apply ZC | ((first | apply ZD (by decide) | apply ZN (by decide)); (simp (maxSteps := 9999999) only [go_sem, r0, r1, r4, ri, rj, e1]; rfl)) | (refine ZE ?_ ?_; · simp only [go_sem]) | (refine ZF ?_ ?_; · simp only [go_sem]))
    exact end_nil ⟨rfl, rfl, rfl, rfl, j, h0j, hjb, hij, hR, fun h => (z h).elim, ⟨by simp only [go_sem, r0], by simp only [go_sem, r1], by simp only [go_sem, r4]⟩, by simp only [go_sem, ri], by simp only [go_sem, rj]⟩
theorem ptD_loopT (C : Cmp M g cel c) (hl : ∀ x, (cel x).length = 3) (hn : n ≤ 1000000) {a b j : Nat} (hb : b ≤ n) (hj : j < b) (haj : a ≤ j) (i0 : Nat) (cx : Cx) {h : SHeap} {f : Nat → E} (S : SA cel n B el h0 old0 h f) : ∀ k ρ ms h' d', (∃ i : Nat, j + 1 - i = k ∧ i0 ≤ i ∧ a < i ∧ i ≤ j + 1 ∧ (∀ q, a < q → q < i → c (f q) (f a) < 0) ∧ KRT n B cap g a ρ ∧ ρ 12 = .int .i64 i ∧ ρ 13 = .int .i64 j ∧ ms = [] ∧ h' = h ∧ d' = []) →
    LoopW M cx 8 sf102L1 ρ ms h' d' (fun ex ρ' ms' h' d' => ex = .exit 6 ∧ ms' = [] ∧ h' = h ∧ d' = [] ∧ ∃ i : Nat, i0 ≤ i ∧ a < i ∧ i ≤ j + 1 ∧ (∀ q, a < q → q < i → c (f q) (f a) < 0) ∧ (i ≤ j → ¬ c (f i) (f a) < 0) ∧ KRT n B cap g a ρ' ∧ ρ' 12 = .int .i64 i ∧ ρ' 13 = .int .i64 j) := by
  refine loop_run _ ?_
  rintro k ρ ms h' d' ⟨i, hk, h0i, hai, hij, hP, ⟨r0, r1, r4⟩, ri, rj, rfl, rfl, rfl⟩
  unfold sf102L1
  by_cases z : i ≤ j
  · have e1 : (i : Int) ≤ j := by omega
    have p1 : (0 : Int) ≤ (i : Int) := by omega
    have p2 : (i : Int) < n := by omega
    have p3 : (0 : Int) ≤ (a : Int) := by omega
    have p4 : (a : Int) < n := by omega
    have w1 : IntKind.i64.wrap ((i : Int) + 1) = ((i + 1 : Nat) : Int) := by rw [wrap64 (by omega) (by omega)]; rfl
    have l1 := S.load hl (show i < n by omega)
    have l2 := S.load hl (show a < n by omega)
    have cc := fun h => C.call (f i) (f a) h
    by_cases hlt : c (f i) (f a) < 0
    · repeat (first | apply Z1 | apply Z2 | apply Z3 | apply Z4 | apply Z5 rfl | apply Z6 | apply Z7 | apply Z8 | apply Z9 | apply ZA | apply ZB | apply ZC | ((first | apply ZD (by decide) | apply ZN (by decide)); (simp (maxSteps := 9999999) only [go_sem, r0, r1, r4, ri, rj, e1, p1, p2, p3, p4, w1, l1, l2, cc, hlt]; rfl)) | (refine ZE ?_ ?_; · simp only [go_sem]) | (refine ZF ?_ ?_; · simp only [go_sem]))
      refine end_nil ⟨j + 1 - (i + 1), by omega, i + 1, rfl, by omega, by omega, by omega, fun q q1 q2 => ?_, ⟨by simp only [go_sem, r0], by simp only [go_sem, r1], by simp only [go_sem, r4]⟩, by simp only [go_sem, w1], by simp only [go_sem, rj], rfl, rfl, rfl⟩
      by_cases e : q = i
      · subst e; exact hlt
      · exact hP q q1 (by omega)
    · have hlt2 := hlt
      repeat (first | apply Z1 | apply Z2 | apply Z3 | apply Z4 | apply Z5 rfl | apply Z6 | apply Z7 | apply Z8 | apply Z9 | apply ZA | apply ZB | apply ZC | ((first | apply ZD (by decide) | apply ZN (by decide)); (simp (maxSteps := 9999999) only [go_sem, r0, r1, r4, ri, rj, e1, p1, p2, p3, p4, l1, l2, cc, hlt2]; rfl)) | (refine ZE ?_ ?_; · simp only [go_sem]) | (refine ZF ?_ ?_; · simp only [go_sem]))
      exact end_nil ⟨rfl, rfl, rfl, rfl, i, h0i, hai, hij, hP, fun _ => hlt, ⟨by simp only [go_sem, r0], by simp only [go_sem, r1], by simp only [go_sem, r4]⟩, by simp only [go_sem, ri], by simp only [go_sem, rj]⟩
  · have e1 : ¬ (i : Int) ≤ j := by omega
    repeat (first | apply Z1 | apply Z2 | apply Z3 | apply Z4 | apply Z5 rfl | apply Z6 | apply Z7 | apply Z8 | apply Z9 | apply ZA | apply ZB | apply ZC | ((first | apply ZD (by decide) | apply ZN (by decide)); (simp (maxSteps := 9999999) only [go_sem, r0, r1, r4, ri, rj, e1]; rfl)) | (refine ZE ?_ ?_; · simp only [go_sem]) | (refine ZF ?_ ?_; · simp only [go_sem]))
    exact end_nil ⟨rfl, rfl, rfl, rfl, i, h0i, hai, hij, hP, fun h => (z h).elim, ⟨by simp only [go_sem, r0], by simp only [go_sem, r1], by simp only [go_sem, r4]⟩, by simp only [go_sem, ri], by simp only [go_sem, rj]⟩
theorem ptE_loopT (C : Cmp M g cel c) (hl : ∀ x, (cel x).length = 3) (hn : n ≤ 1000000) {a b i : Nat} (hb : b ≤ n) (hai : a < i) (j0 : Nat) (cx : Cx) {h : SHeap} {f : Nat → E} (S : SA cel n B el h0 old0 h f) : ∀ k ρ ms h' d', (∃ j : Nat, j + 1 - i = k ∧ j ≤ j0 ∧ j < b ∧ i ≤ j + 1 ∧ (∀ q, j < q → q < b → ¬ c (f q) (f a) < 0) ∧ KRT n B cap g a ρ ∧ ρ 12 = .int .i64 i ∧ ρ 13 = .int .i64 j ∧ ms = [] ∧ h' = h ∧ d' = []) →
    LoopW M cx 8 sf102L0 ρ ms h' d' (fun ex ρ' ms' h' d' => ex = .exit 8 ∧ ms' = [] ∧ h' = h ∧ d' = [] ∧ ∃ j : Nat, j ≤ j0 ∧ j < b ∧ i ≤ j + 1 ∧ (∀ q, j < q → q < b → ¬ c (f q) (f a) < 0) ∧ (i ≤ j → ¬ ¬ c (f j) (f a) < 0) ∧ KRT n B cap g a ρ' ∧ ρ' 12 = .int .i64 i ∧ ρ' 13 = .int .i64 j) := by
  refine loop_run _ ?_
  rintro k ρ ms h' d' ⟨j, hk, h0j, hjb, hij, hR, ⟨r0, r1, r4⟩, ri, rj, rfl, rfl, rfl⟩
  unfold sf102L0
  by_cases z : i ≤ j
  · have e1 : (i : Int) ≤ j := by omega
    have p1 : (0 : Int) ≤ (j : Int) := by omega
    have p2 : (j : Int) < n := by omega
    have p3 : (0 : Int) ≤ (a : Int) := by omega
    have p4 : (a : Int) < n := by omega
    have w1 : IntKind.i64.wrap ((j : Int) - 1) = ((j - 1 : Nat) : Int) := by rw [wrap64 (by omega) (by omega)]; omega
    have l1 := S.load hl (show j < n by omega)
    have l2 := S.load hl (show a < n by omega)
    have cc := fun h => C.call (f j) (f a) h
    by_cases hlt : ¬ c (f j) (f a) < 0
    · repeat (first | apply Z1 | apply Z2 | apply Z3 | apply Z4 | apply Z5 rfl | apply Z6 | apply Z7 | apply Z8 | apply Z9 | apply ZA | apply ZB | apply ZC | ((first | apply ZD (by decide) | apply ZN (by decide)); (simp (maxSteps := 9999999) only [go_sem, r0, r1, r4, ri, rj, e1, p1, p2, p3, p4, w1, l1, l2, cc, hlt]; rfl)) | (refine ZE ?_ ?_; · simp only [go_sem]) | (refine ZF ?_ ?_; · simp only [go_sem]))
      refine end_nil ⟨j - 1 + 1 - i, by omega, j - 1, rfl, by omega, by omega, by omega, fun q q1 q2 => ?_, ⟨by simp only [go_sem, r0], by simp only [go_sem, r1], by simp only [go_sem, r4]⟩, by simp only [go_sem, ri], by simp only [go_sem, w1], rfl, rfl, rfl⟩
      by_cases e : q = j
      · subst e; exact hlt
      · exact hR q (by omega) q2
    · have hlt2 := Classical.not_not.1 hlt
      repeat (first | apply Z1 | apply Z2 | apply Z3 | apply Z4 | apply Z5 rfl | apply Z6 | apply Z7 | apply Z8 | apply Z9 | apply ZA | apply ZB | apply ZC | ((first | apply ZD (by decide) | apply ZN (by decide)); (simp (maxSteps := 9999999) only [go_sem, r0, r1, r4, ri, rj, e1, p1, p2, p3, p4, l1, l2, cc, hlt2]; rfl)) | (refine ZE ?_ ?_; · simp only [go_sem]) | (refine ZF ?_ ?_; · simp only [go_sem]))
      exact end_nil ⟨rfl, rfl, rfl, rfl, j, h0j, hjb, hij, hR, fun _ => hlt, ⟨by simp only [go_sem, r0], by simp only [go_sem, r1], by simp only [go_sem, r4]⟩, by simp only [go_sem, ri], by simp only [go_sem, rj]⟩
  · have e1 : ¬ (i : Int) ≤ j := by omega
    repeat (first | apply Z1 | apply Z2 | apply Z3 | apply Z4 | apply Z5 rfl | apply Z6 | apply Z7 | apply Z8 | apply Z9 | apply ZA | apply ZB | apply ZC | ((first | apply ZD (by decide) | apply ZN (by decide)); (simp (maxSteps := 9999999) only [go_sem, r0, r1, r4, ri, rj, e1]; rfl)) | (refine ZE ?_ ?_; · simp only [go_sem]) | (refine ZF ?_ ?_; · simp only [go_sem]))
    exact end_nil ⟨rfl, rfl, rfl, rfl, j, h0j, hjb, hij, hR, fun h => (z h).elim, ⟨by simp only [go_sem, r0], by simp only [go_sem, r1], by simp only [go_sem, r4]⟩, by simp only [go_sem, ri], by simp only [go_sem, rj]⟩
theorem ptO_loopT (C : Cmp M g cel c) (hl : ∀ x, (cel x).length = 3) (hc : ∀ x, (cel x).all sc = true) (hn : n ≤ 1000000) {a b : Nat} (hb : b ≤ n) (cx : Cx) (f0 : Nat → E) : ∀ k ρ ms h' d', (∃ (i j : Nat) (f : Nat → E), j + 1 - i = k ∧ a < i ∧ i ≤ j + 1 ∧ j < b ∧ SA cel n B el h0 old0 h' f ∧ Sw (a + 1) b f0 f ∧ (∀ q, a < q → q < i → c (f q) (f a) < 0) ∧ (∀ q, j < q → q < b → ¬ c (f q) (f a) < 0) ∧ KRT n B cap g a ρ ∧ ρ 12 = .int .i64 i ∧ ρ 13 = .int .i64 j ∧ ms = [] ∧ d' = []) →
    LoopW M cx 8 sf102L2 ρ ms h' d' (fun ex ρ' ms' h' d' => ex = .exit 4 ∧ ms' = [] ∧ d' = [] ∧ ∃ (j : Nat) (f : Nat → E), a ≤ j ∧ j < b ∧ SA cel n B el h0 old0 h' f ∧ Sw (a + 1) b f0 f ∧ (∀ q, a < q → q ≤ j → c (f q) (f a) < 0) ∧ (∀ q, j < q → q < b → ¬ c (f q) (f a) < 0) ∧ KRT n B cap g a ρ' ∧ ρ' 13 = .int .i64 j) := by
  refine loop_run _ ?_
  rintro k ρ ms h' d' ⟨i, j, f, hk, hai, hij, hjb, S, W, hP, hR, ⟨r0, r1, r4⟩, ri, rj, rfl, rfl⟩
  unfold sf102L2
  repeat (first | apply Z1 | apply Z2 | apply Z3 | apply Z4 | apply Z5 rfl | apply Z6 | apply Z7 | apply Z8 | apply Z9 | apply ZA | apply ZB | apply ZC | ((first | apply ZD (by decide) | apply ZN (by decide)); (simp (maxSteps := 9999999) only [go_sem]; rfl)) | (refine ZE ?_ ?_; · simp only [go_sem]) | (refine ZF ?_ ?_; · simp only [go_sem]))
  refine run_loop (ptD_loopT (cap := cap) C hl hn (a := a) hb hjb (by omega) i cx S (j + 1 - i) _ _ _ _ ⟨i, rfl, Nat.le_refl _, hai, hij, hP, ⟨by simp only [go_sem, r0], by simp only [go_sem, r1], by simp only [go_sem, r4]⟩, by simp only [go_sem, ri], by simp only [go_sem, rj], rfl, rfl, rfl⟩) ?_
  rintro ex ρ1 ms1 h1 d1 ⟨rfl, rfl, rfl, rfl, i2, h0i2, hai2, hij2, hP2, hstop1, ⟨r0, r1, r4⟩, ri, rj⟩
  repeat (first | apply Z1 | apply Z2 | apply Z3 | apply Z4 | apply Z5 rfl | apply Z6 | apply Z7 | apply Z8 | apply Z9 | apply ZA | apply ZB | apply ZC | ((first | apply ZD (by decide) | apply ZN (by decide)); (simp (maxSteps := 9999999) only [go_sem]; rfl)) | (refine ZE ?_ ?_; · simp only [go_sem]) | (refine ZF ?_ ?_; · simp only [go_sem]))
  refine run_loop (ptE_loopT (cap := cap) C hl hn (a := a) hb hai2 j cx S (j + 1 - i2) _ _ _ _ ⟨j, rfl, Nat.le_refl _, hjb, hij2, hR, ⟨by simp only [go_sem, r0], by simp only [go_sem, r1], by simp only [go_sem, r4]⟩, by simp only [go_sem, ri], by simp only [go_sem, rj], rfl, rfl, rfl⟩) ?_
  rintro ex ρ2 ms2 h2 d2 ⟨rfl, rfl, rfl, rfl, j2, h0j2, hjb2, hij3, hR2, hstop2, ⟨r0, r1, r4⟩, ri, rj⟩
  by_cases z : j2 < i2
  · have e1 : (j2 : Int) < i2 := by omega
    repeat (first | apply Z1 | apply Z2 | apply Z3 | apply Z4 | apply Z5 rfl | apply Z6 | apply Z7 | apply Z8 | apply Z9 | apply ZA | apply ZB | apply ZC | ((first | apply ZD (by decide) | apply ZN (by decide)); (simp (maxSteps := 9999999) only [go_sem, r0, r1, r4, ri, rj, e1]; rfl)) | (refine ZE ?_ ?_; · simp only [go_sem]) | (refine ZF ?_ ?_; · simp only [go_sem]))
    exact end_nil ⟨rfl, rfl, rfl, j2, f, by omega, hjb2, S, W, fun q q1 q2 => hP2 q q1 (by omega), hR2, ⟨by simp only [go_sem, r0], by simp only [go_sem, r1], by simp only [go_sem, r4]⟩, by simp only [go_sem, rj]⟩
  · have e1 : ¬ (j2 : Int) < i2 := by omega
    have n2 := Classical.not_not.1 (hstop2 (by omega))
    have m1 : ¬ c (f i2) (f a) < 0 := by
      by_cases e4 : i2 ≤ j
      · exact hstop1 e4
      · exact hR i2 (by omega) (by omega)
    have hlt : i2 < j2 := by
      by_cases e : i2 < j2
      · exact e
      · exfalso
        have e3 : i2 = j2 := by omega
        subst e3
        exact m1 n2
    have p1 : (0 : Int) ≤ (i2 : Int) := by omega
    have p2 : (i2 : Int) < n := by omega
    have p3 : (0 : Int) ≤ (j2 : Int) := by omega
    have p4 : (j2 : Int) < n := by omega
    have w1 : IntKind.i64.wrap ((i2 : Int) + 1) = ((i2 + 1 : Nat) : Int) := by rw [wrap64 (by omega) (by omega)]; rfl
    have w2 : IntKind.i64.wrap ((j2 : Int) - 1) = ((j2 - 1 : Nat) : Int) := by rw [wrap64 (by omega) (by omega)]; omega
    have l1 := S.load hl (show i2 < n by omega)
    have l2 := S.load hl (show j2 < n by omega)
    obtain ⟨h3, h4, st1, st2, S2⟩ := S.swap hl hc (by decide) (show i2 < n by omega) (show j2 < n by omega)
    repeat (first | apply Z1 | apply Z2 | apply Z3 | apply Z4 | apply Z5 rfl | apply Z6 | apply Z7 | apply Z8 | apply Z9 | apply ZA | apply ZB | apply ZC | ((first | apply ZD (by decide) | apply ZN (by decide)); (simp (maxSteps := 9999999) only [go_sem, r0, r1, r4, ri, rj, e1, p1, p2, p3, p4, l1, l2, hl, ↓st1, ↓st2, w1, w2]; rfl)) | (refine ZE ?_ ?_; · simp only [go_sem]) | (refine ZF ?_ ?_; · simp only [go_sem]))
    have ea : swp f i2 j2 a = f a := swp_o f (by omega) (by omega)
    refine end_nil ⟨j2 - 1 + 1 - (i2 + 1), by omega, i2 + 1, j2 - 1, _, rfl, by omega, by omega, by omega, S2, W.step (by omega) (by omega) (by omega) (by omega), fun q q1 q2 => ?_, fun q q1 q2 => ?_, ⟨by simp only [go_sem, r0], by simp only [go_sem, r1], by simp only [go_sem, r4]⟩, by simp only [go_sem, w1], by simp only [go_sem, w2], rfl, rfl⟩
    · rw [ea]
      by_cases e : q = i2
      · subst e; rw [swp_l]; exact n2
      · rw [swp_o f e (by omega)]; exact hP2 q q1 (by omega)
    · rw [ea]
      by_cases e : q = j2
      · subst e; rw [swp_r]; exact m1
      · rw [swp_o f (by omega) e]; exact hR2 q (by omega) q2
theorem part_endT {a b j : Nat} {f : Nat → E} (haj : a ≤ j) (hjb : j < b) (hP : ∀ q, a < q → q ≤ j → c (f q) (f a) < 0) (hR : ∀ q, j < q → q < b → ¬ c (f q) (f a) < 0) :
    (∀ q, a ≤ q → q < j → c (swp f j a q) (swp f j a j) < 0) ∧ (∀ q, j < q → q < b → ¬ c (swp f j a q) (swp f j a j) < 0) ∧ swp f j a j = f a := by
  refine ⟨fun q q1 q2 => ?_, fun q q1 q2 => ?_, swp_l f j a⟩
  · rw [swp_l]
    by_cases e : q = a
    · subst e; rw [swp_r]; exact hP j (by omega) (Nat.le_refl _)
    · rw [swp_o f (by omega) e]; exact hP q (by omega) (by omega)
  · rw [swp_l, swp_o f (by omega) (by omega)]; exact hR q q1 q2
theorem partT (C : Cmp M g cel c) (hl : ∀ x, (cel x).length = 3) (hc : ∀ x, (cel x).all sc = true) (hn : n ≤ 1000000) {a b p : Nat} (hap : a ≤ p) (hpb : p < b) (hb : b ≤ n) {h : SHeap} {f : Nat → E} (S : SA cel n B el h0 old0 h f) :
    ∃ h' f' m q, M.call 102 [.slice (some ⟨B, 0, none⟩) n cap, .int .i64 a, .int .i64 b, .int .i64 ((p : Nat) : Int), .func (.func g) #[] #[]] h = some (.tuple #[.int .i64 ((m : Nat) : Int), .bool q], h', []) ∧ SA cel n B el h0 old0 h' f' ∧ Sw a b f f' ∧ a ≤ m ∧ m < b ∧ (∀ q, a ≤ q → q < m → c (f' q) (f' m) < 0) ∧ (∀ q, m < q → q < b → ¬ c (f' q) (f' m) < 0) := by
  have key : ∃ r, (∃ h' f' m q, r = (Value.tuple #[.int .i64 ((m : Nat) : Int), .bool q], h', ([] : List Nat)) ∧ SA cel n B el h0 old0 h' f' ∧ Sw a b f f' ∧ a ≤ m ∧ m < b ∧ (∀ q, a ≤ q → q < m → c (f' q) (f' m) < 0) ∧ (∀ q, m < q → q < b → ¬ c (f' q) (f' m) < 0)) ∧ M.call 102 [.slice (some ⟨B, 0, none⟩) n cap, .int .i64 a, .int .i64 b, .int .i64 ((p : Nat) : Int), .func (.func g) #[] #[]] h = some r := by
    refine call_ex (f := 102) _ sf102 rfl rfl rfl ?_
    unfold sf102
    have p1 : (0 : Int) ≤ (a : Int) := by omega
    have p2 : (a : Int) < n := by omega
    have p3 : (0 : Int) ≤ (p : Int) := by omega
    have p4 : (p : Int) < n := by omega
    have w1 : IntKind.i64.wrap ((a : Int) + 1) = ((a + 1 : Nat) : Int) := by rw [wrap64 (by omega) (by omega)]; rfl
    have w2 : IntKind.i64.wrap ((b : Int) - 1) = ((b - 1 : Nat) : Int) := by rw [wrap64 (by omega) (by omega)]; omega
    have l1 := S.load hl (show a < n by omega)
    have l2 := S.load hl (show p < n by omega)
    obtain ⟨h3, h4, st1, st2, S2⟩ := S.swap hl hc (by decide) (show a < n by omega) (show p < n by omega)
    have W1 : Sw a b f (swp f a p) := Sw.one f (by omega) (by omega) (by omega) (by omega)
    repeat (first | apply Z1 | apply Z2 | apply Z3 | apply Z4 | apply Z5 rfl | apply Z6 | apply Z7 | apply Z8 | apply Z9 | apply ZA | apply ZB | apply ZC | ((first | apply ZD (by decide) | apply ZN (by decide)); (simp (maxSteps := 9999999) only [go_sem, argR, p1, p2, p3, p4, l1, l2, hl, ↓st1, ↓st2, w1, w2]; rfl)) | (refine ZE ?_ ?_; · simp only [go_sem]) | (refine ZF ?_ ?_; · simp only [go_sem]))
    generalize swp f a p = f1 at *
    refine run_loop (ptA_loopT (cap := cap) C hl hn (a := a) (b := b) (j := b - 1) hb (by omega) (by omega) (a + 1) _ S2 (b - 1 + 1 - (a + 1)) _ _ _ _ ⟨a + 1, rfl, Nat.le_refl _, by omega, by omega, fun q q1 q2 => by omega, ⟨by simp only [go_sem, argR], by simp only [go_sem, argR], by simp only [go_sem, argR]⟩, by simp only [go_sem, w1], by simp only [go_sem, w2], rfl, rfl, rfl⟩) ?_
    rintro ex ρ1 ms1 h5 d1 ⟨rfl, rfl, rfl, rfl, i2, h0i2, hai2, hij2, hP2, hstop1, ⟨r0, r1, r4⟩, ri, rj⟩
    repeat (first | apply Z1 | apply Z2 | apply Z3 | apply Z4 | apply Z5 rfl | apply Z6 | apply Z7 | apply Z8 | apply Z9 | apply ZA | apply ZB | apply ZC | ((first | apply ZD (by decide) | apply ZN (by decide)); (simp (maxSteps := 9999999) only [go_sem]; rfl)) | (refine ZE ?_ ?_; · simp only [go_sem]) | (refine ZF ?_ ?_; · simp only [go_sem]))
    refine run_loop (ptB_loopT (cap := cap) C hl hn (a := a) (b := b) hb hai2 (b - 1) _ S2 (b - 1 + 1 - i2) _ _ _ _ ⟨b - 1, rfl, Nat.le_refl _, by omega, hij2, fun q q1 q2 => by omega, ⟨by simp only [go_sem, r0], by simp only [go_sem, r1], by simp only [go_sem, r4]⟩, by simp only [go_sem, ri], by simp only [go_sem, rj], rfl, rfl, rfl⟩) ?_
    rintro ex ρ2 ms2 h6 d2 ⟨rfl, rfl, rfl, rfl, j2, h0j2, hjb2, hij3, hR2, hstop2, ⟨r0, r1, r4⟩, ri, rj⟩
    have x1 : (0 : Int) ≤ (j2 : Int) := by omega
    have x2 : (j2 : Int) < n := by omega
    by_cases z : j2 < i2
    · have e1 : (j2 : Int) < i2 := by omega
      have y1 := S2.load hl (show j2 < n by omega)
      have y2 := S2.load hl (show a < n by omega)
      obtain ⟨h7, h8, st3, st4, S3⟩ := S2.swap hl hc (by decide) (show j2 < n by omega) (show a < n by omega)
      obtain ⟨pe1, pe2, pe3⟩ := part_endT (c := c) (show a ≤ j2 by omega) hjb2 (fun q q1 q2 => hP2 q q1 (by omega)) hR2
      repeat (first | apply Z1 | apply Z2 | apply Z3 | apply Z4 | apply Z5 rfl | apply Z6 | apply Z7 | apply Z8 | apply Z9 | apply ZA | apply ZB | apply ZC | ((first | apply ZD (by decide) | apply ZN (by decide)); (simp (maxSteps := 9999999) only [go_sem, r0, r1, r4, ri, rj, e1, p1, p2, x1, x2, y1, y2, hl, ↓st3, ↓st4]; rfl)) | (refine ZE ?_ ?_; · simp only [go_sem]) | (refine ZF ?_ ?_; · simp only [go_sem]))
      exact end_nil ⟨_, ⟨h8, _, j2, true, rfl, S3, W1.step (by omega) (by omega) (by omega) (by omega), by omega, hjb2, pe1, pe2⟩, q_free [.int .i64 j2, .bool true] (by simp only [go_sem]) rfl rfl rfl (fun _ => rfl) (by rw [List.take_of_length_le]; rw [S3.len, S.len]; exact Nat.le_refl _) rfl⟩
    · have e1 : ¬ (j2 : Int) < i2 := by omega
      have n2 := Classical.not_not.1 (hstop2 (by omega))
      have m1 : ¬ c (f1 i2) (f1 a) < 0 := hstop1 (by omega)
      have hlt : i2 < j2 := by
        by_cases e : i2 < j2
        · exact e
        · exfalso
          have e3 : i2 = j2 := by omega
          subst e3
          exact m1 n2
      have x3 : (0 : Int) ≤ (i2 : Int) := by omega
      have x4 : (i2 : Int) < n := by omega
      have w3 : IntKind.i64.wrap ((i2 : Int) + 1) = ((i2 + 1 : Nat) : Int) := by rw [wrap64 (by omega) (by omega)]; rfl
      have w4 : IntKind.i64.wrap ((j2 : Int) - 1) = ((j2 - 1 : Nat) : Int) := by rw [wrap64 (by omega) (by omega)]; omega
      have y1 := S2.load hl (show i2 < n by omega)
      have y2 := S2.load hl (show j2 < n by omega)
      obtain ⟨h7, h8, st3, st4, S3⟩ := S2.swap hl hc (by decide) (show i2 < n by omega) (show j2 < n by omega)
      have W2 : Sw a b f (swp f1 i2 j2) := W1.step (by omega) (by omega) (by omega) (by omega)
      have ea : swp f1 i2 j2 a = f1 a := swp_o f1 (by omega) (by omega)
      have hP3 : ∀ q, a < q → q < i2 + 1 → c (swp f1 i2 j2 q) (swp f1 i2 j2 a) < 0 := fun q q1 q2 => by
        rw [ea]
        by_cases e : q = i2
        · subst e; rw [swp_l]; exact n2
        · rw [swp_o f1 e (by omega)]; exact hP2 q q1 (by omega)
      have hR3 : ∀ q, j2 - 1 < q → q < b → ¬ c (swp f1 i2 j2 q) (swp f1 i2 j2 a) < 0 := fun q q1 q2 => by
        rw [ea]
        by_cases e : q = j2
        · subst e; rw [swp_r]; exact m1
        · rw [swp_o f1 (by omega) e]; exact hR2 q (by omega) q2
      repeat (first | apply Z1 | apply Z2 | apply Z3 | apply Z4 | apply Z5 rfl | apply Z6 | apply Z7 | apply Z8 | apply Z9 | apply ZA | apply ZB | apply ZC | ((first | apply ZD (by decide) | apply ZN (by decide)); (simp (maxSteps := 9999999) only [go_sem, r0, r1, r4, ri, rj, e1, x1, x2, x3, x4, y1, y2, hl, ↓st3, ↓st4, w3, w4]; rfl)) | (refine ZE ?_ ?_; · simp only [go_sem]) | (refine ZF ?_ ?_; · simp only [go_sem]))
      generalize swp f1 i2 j2 = f2 at *
      refine run_loop (ptO_loopT (cap := cap) C hl hc hn (a := a) (b := b) hb _ f2 (j2 - 1 + 1 - (i2 + 1)) _ _ _ _ ⟨i2 + 1, j2 - 1, f2, rfl, by omega, by omega, by omega, S3, .refl, hP3, hR3, ⟨by simp only [go_sem, r0], by simp only [go_sem, r1], by simp only [go_sem, r4]⟩, by simp only [go_sem, w3], by simp only [go_sem, w4], rfl, rfl⟩) ?_
      rintro ex ρ3 ms3 h9 d3 ⟨rfl, rfl, rfl, j3, f3, haj3, hjb3, S4, W3, hP4, hR4, ⟨r0, r1, r4⟩, rj⟩
      have x5 : (0 : Int) ≤ (j3 : Int) := by omega
      have x6 : (j3 : Int) < n := by omega
      have y3 := S4.load hl (show j3 < n by omega)
      have y4 := S4.load hl (show a < n by omega)
      obtain ⟨h10, h11, st5, st6, S5⟩ := S4.swap hl hc (by decide) (show j3 < n by omega) (show a < n by omega)
      obtain ⟨pe1, pe2, pe3⟩ := part_endT (c := c) haj3 hjb3 hP4 hR4
      repeat (first | apply Z1 | apply Z2 | apply Z3 | apply Z4 | apply Z5 rfl | apply Z6 | apply Z7 | apply Z8 | apply Z9 | apply ZA | apply ZB | apply ZC | ((first | apply ZD (by decide) | apply ZN (by decide)); (simp (maxSteps := 9999999) only [go_sem, r0, r1, r4, rj, p1, p2, x5, x6, y3, y4, hl, ↓st5, ↓st6]; rfl)) | (refine ZE ?_ ?_; · simp only [go_sem]) | (refine ZF ?_ ?_; · simp only [go_sem]))
      exact end_nil ⟨_, ⟨h11, _, j3, false, rfl, S5, (W2.trans (W3.mono (by omega) (by omega))).step (by omega) (by omega) (by omega) (by omega), by omega, hjb3, pe1, pe2⟩, q_free [.int .i64 j3, .bool false] (by simp only [go_sem]) rfl rfl rfl (fun _ => rfl) (by rw [List.take_of_length_le]; rw [S5.len, S.len]; exact Nat.le_refl _) rfl⟩
  obtain ⟨r, ⟨h', f', m, q, rfl, k⟩, e⟩ := key
  exact ⟨h', f', m, q, e, k⟩
end
end Go.Proofs.Ytioijehbmgmgkaa.Sh

namespace Go.Proofs.Ytioijehbmgmgkaa.Sh
open Go
set_option maxRecDepth 100000
set_option maxHeartbeats 4000000
theorem run_cutT {R : Rec} {cx : Cx} {dep : Nat} {a b : SCode} {st : List Fr} {ρ : Reg} {ms : List Nat} {h : SHeap} {d : List Nat} {Q : Post} (I : Post) (w : Run R cx dep a [] ρ ms h d I) (k : ∀ ex ρ' ms' h' d', I ex ρ' ms' h' d' → Ends R cx dep ex (.seq b :: st) ρ' ms' h' d' Q) : Run R cx dep (.seq a b) st ρ ms h d Q := by
  refine run_seq ?_
  unfold Run at *
  intro t hf ht
  obtain ⟨ex, t', ms', h', d', e, f, q⟩ := w t hf ht
  refine ⟨ex, t', ms', h', d', e, f, k _ _ _ _ _ ?_⟩
  unfold Ends at q
  exact q
section
variable {E : Type} {cel : E → List Value} {c : E → E → Int} {g : FuncId} {n B cap : Nat} {el : TypeId} {h0 : SHeap} {old0 : List Nat}
def PreT (c : E → E → Int) (a b : Nat) (f : Nat → E) : Prop := 0 < a → ∀ j, a ≤ j → j < b → ¬ c (f j) (f (a - 1)) < 0
theorem PreT.sw {a b : Nat} {f k : Nat → E} (h : PreT c a b f) (W : Sw a b f k) : PreT c a b k := fun h0 => by
  rw [W.out (i := a - 1) (by omega)]
  exact W.all (P := fun x => ¬ c x (f (a - 1)) < 0) (h h0)
def DnT (c : E → E → Int) (a0 b0 a b : Nat) (f : Nat → E) : Prop := ∀ i j, a0 ≤ i → i < j → j < b0 → ¬ (a ≤ i ∧ j < b) → ¬ c (f j) (f i) < 0
theorem DnT.sw {a0 b0 a b : Nat} {f k : Nat → E} (h : DnT c a0 b0 a b f) (W : Sw a b f k) (ha : a0 ≤ a) (hb : b ≤ b0) : DnT c a0 b0 a b k := by
  intro i j h1 h2 h3 h4
  by_cases c1 : a ≤ i ∧ i < b
  · by_cases c2 : a ≤ j ∧ j < b
    · omega
    · rw [W.out (i := j) (by omega)]
      exact W.all (P := fun x => ¬ c (f j) x < 0) (fun q q1 q2 => h q j (by omega) (by omega) h3 (by omega)) i c1.1 c1.2
  · by_cases c2 : a ≤ j ∧ j < b
    · rw [W.out (i := i) (by omega)]
      exact W.all (P := fun x => ¬ c x (f i) < 0) (fun q q1 q2 => h i q (by omega) (by omega) (by omega) (by omega)) j c2.1 c2.2
    · rw [W.out (i := i) (by omega), W.out (i := j) (by omega)]
      exact h i j h1 h2 h3 h4
theorem DnT.fin {a0 b0 a b : Nat} {f : Nat → E} (h : DnT c a0 b0 a b f) (O : Ord c a b f) : Ord c a0 b0 f := fun i j h1 h2 h3 => by
  by_cases e : a ≤ i ∧ j < b
  · exact O i j e.1 h2 e.2
  · exact h i j h1 h2 h3 e
def PdqOKT (c : E → E → Int) (cel : E → List Value) (g : FuncId) (n B cap : Nat) (el : TypeId) (h0 : SHeap) (old0 : List Nat) (L : Nat) : Prop :=
  ∀ (a b lim : Nat) (h : SHeap) (f : Nat → E), b - a < L → a ≤ b → b ≤ n → lim ≤ 1000 → SA cel n B el h0 old0 h f → PreT c a b f →
    ∃ h' f', M.call 89 [.slice (some ⟨B, 0, none⟩) n cap, .int .i64 a, .int .i64 b, .int .i64 lim, .func (.func g) #[] #[]] h = some (.tuple #[], h', []) ∧ SA cel n B el h0 old0 h' f' ∧ Sw a b f f' ∧ Ord c a b f'
structure PRT (n B cap : Nat) (g : FuncId) (a b lim : Nat) (wb wp : Bool) (ρ : Reg) : Prop where
  r0 : ρ 0 = .slice (some ⟨B, 0, none⟩) n cap
  r1 : ρ 1 = .int .i64 a
  r2 : ρ 2 = .int .i64 b
  r3 : ρ 3 = .int .i64 lim
  r4 : ρ 4 = .func (.func g) #[] #[]
  r10 : ρ 10 = .bool wb
  r11 : ρ 11 = .bool wp
theorem pdq_loopT (C : Cmp M g cel c) (hl : ∀ x, (cel x).length = 3) (hc : ∀ x, (cel x).all sc = true) (hn : n ≤ 60000) (hlow : ∀ c ∈ old0, c < h0.length) {a0 b0 : Nat} (hb0 : b0 ≤ n) (IH : PdqOKT c cel g n B cap el h0 old0 (b0 - a0)) (cx : Cx) (f0 : Nat → E) :
    ∀ k ρ ms h' d', (∃ (a b lim : Nat) (wb wp : Bool) (f : Nat → E), b - a = k ∧ a0 ≤ a ∧ a ≤ b ∧ b ≤ b0 ∧ lim ≤ 1000 ∧ SA cel n B el h0 old0 h' f ∧ Sw a0 b0 f0 f ∧ DnT c a0 b0 a b f ∧ PreT c a b f ∧ PRT n B cap g a b lim wb wp ρ ∧ ms = [] ∧ d' = []) →
    LoopW M cx 8 sf89L0 ρ ms h' d' (fun ex ρ' ms' h' d' => ex = .ret ∧ ms' = [] ∧ d' = [] ∧ ∃ f : Nat → E, SA cel n B el h0 old0 h' f ∧ Sw a0 b0 f0 f ∧ Ord c a0 b0 f) := by
  refine loop_run _ ?_
  rintro k ρ ms h' d' ⟨a, b, lim, wb, wp, f, hk, ha, hab, hb, hlim, S, W, D, P, ⟨r0, r1, r2, r3, r4, r10, r11⟩, rfl, rfl⟩
  have w1 : IntKind.i64.wrap ((b : Int) - (a : Int)) = ((b - a : Nat) : Int) := by rw [wrap64 (by omega) (by omega)]; omega
  unfold sf89L0
  by_cases c12 : b - a ≤ 12
  · have e12 : ((b - a : Nat) : Int) ≤ 12 := by omega
    obtain ⟨h2, f2, e, S2, W2, O2⟩ := insT (cap := cap) C hl hc (by omega) hab (by omega) S
    repeat (first | apply Z1 | apply Z2 | apply Z3 | apply Z4 | apply Z5 rfl | apply Z6 | apply Z7 | apply Z8 | apply Z9 | apply ZA | apply ZB | apply ZC | ((first | apply ZD (by decide) | apply ZN (by decide)); (simp (maxSteps := 9999999) only [go_sem, r0, r1, r2, r3, r4, w1, e12, e]; rfl)) | (refine ZE ?_ ?_; · simp only [go_sem]) | (refine ZF ?_ ?_; · simp only [go_sem]))
    exact end_nil ⟨rfl, rfl, rfl, f2, S2, W.trans (W2.mono ha hb), (D.sw W2 ha hb).fin O2⟩
  have e12 : ¬ ((b - a : Nat) : Int) ≤ 12 := by omega
  by_cases cl : lim = 0
  · have elim : ((lim : Nat) : Int) = 0 := by omega
    obtain ⟨h2, f2, e, S2, W2, O2⟩ := heapT (cap := cap) C hl hc (by omega) (show a < b by omega) (by omega) S
    repeat (first | apply Z1 | apply Z2 | apply Z3 | apply Z4 | apply Z5 rfl | apply Z6 | apply Z7 | apply Z8 | apply Z9 | apply ZA | apply ZB | apply ZC | ((first | apply ZD (by decide) | apply ZN (by decide)); (simp (maxSteps := 9999999) only [go_sem, r0, r1, r2, r3, r4, w1, e12, elim, e]; rfl)) | (refine ZE ?_ ?_; · simp only [go_sem]) | (refine ZF ?_ ?_; · simp only [go_sem]))
    exact end_nil ⟨rfl, rfl, rfl, f2, S2, W.trans (W2.mono ha hb), (D.sw W2 ha hb).fin O2⟩
  have elim : ¬ ((lim : Nat) : Int) = 0 := by omega
  -- breaking patterns
  have wl : IntKind.i64.wrap ((lim : Int) - 1) = ((lim - 1 : Nat) : Int) := by rw [wrap64 (by omega) (by omega)]; omega
  apply run_block
  apply run_seq
  apply run_region (by decide)
  · simp only [go_sem, r1, r2, w1]
    rfl
  apply end_seq
  refine run_cutT (fun ex ρ' ms' h2 d2 => ex = .normal ∧ ms' = [] ∧ h2 = h' ∧ d2 = [] ∧ PRT n B cap g a b lim wb wp ρ' ∧ ρ' 12 = .int .i64 ((b - a : Nat) : Int)) ?_ ?_
  · repeat (first | apply Z1 | apply Z2 | apply Z3 | apply Z4 | apply Z5 rfl | apply Z6 | apply Z7 | apply Z8 | apply Z9 | apply ZA | apply ZB | apply ZC | ((first | apply ZD (by decide) | apply ZN (by decide)); (simp (maxSteps := 9999999) only [go_sem, e12]; rfl)) | (refine ZE ?_ ?_; · simp only [go_sem]) | (refine ZF ?_ ?_; · simp only [go_sem]))
    exact end_nil ⟨rfl, rfl, rfl, rfl, ⟨by simp only [go_sem, r0], by simp only [go_sem, r1], by simp only [go_sem, r2], by simp only [go_sem, r3], by simp only [go_sem, r4], by simp only [go_sem, r10], by simp only [go_sem, r11]⟩, by simp only [go_sem]⟩
  rintro ex ρ ms h2 d ⟨rfl, rfl, rfl, rfl, ⟨r0, r1, r2, r3, r4, r10, r11⟩, r12⟩
  apply end_seq
  refine run_cutT (fun ex ρ' ms' h3 d2 => ex = .normal ∧ ms' = [] ∧ h3 = h2 ∧ d2 = [] ∧ PRT n B cap g a b lim wb wp ρ' ∧ ρ' 12 = .int .i64 ((b - a : Nat) : Int)) ?_ ?_
  · repeat (first | apply Z1 | apply Z2 | apply Z3 | apply Z4 | apply Z5 rfl | apply Z6 | apply Z7 | apply Z8 | apply Z9 | apply ZA | apply ZB | apply ZC | ((first | apply ZD (by decide) | apply ZN (by decide)); (simp (maxSteps := 9999999) only [go_sem, r3, elim]; rfl)) | (refine ZE ?_ ?_; · simp only [go_sem]) | (refine ZF ?_ ?_; · simp only [go_sem]))
    exact end_nil ⟨rfl, rfl, rfl, rfl, ⟨by simp only [go_sem, r0], by simp only [go_sem, r1], by simp only [go_sem, r2], by simp only [go_sem, r3], by simp only [go_sem, r4], by simp only [go_sem, r10], by simp only [go_sem, r11]⟩, by simp only [go_sem, r12]⟩
  rintro ex ρ ms h3 d ⟨rfl, rfl, rfl, rfl, ⟨r0, r1, r2, r3, r4, r10, r11⟩, r12⟩
  apply end_seq
  refine run_cutT (fun ex ρ' ms' h2 d2 => ex = .normal ∧ ms' = [] ∧ d2 = [] ∧ ∃ (lim' : Nat) (f' : Nat → E), lim' ≤ 1000 ∧ SA cel n B el h0 old0 h2 f' ∧ Sw a b f f' ∧ PRT n B cap g a b lim' wb wp ρ' ∧ ρ' 12 = .int .i64 ((b - a : Nat) : Int)) ?_ ?_
  · cases wb with
    | true =>
      repeat (first | apply Z1 | apply Z2 | apply Z3 | apply Z4 | apply Z5 rfl | apply Z6 | apply Z7 | apply Z8 | apply Z9 | apply ZA | apply ZB | apply ZC | ((first | apply ZD (by decide) | apply ZN (by decide)); (simp (maxSteps := 9999999) only [go_sem, r10]; rfl)) | (refine ZE ?_ ?_; · simp only [go_sem]) | (refine ZF ?_ ?_; · simp only [go_sem]))
      exact end_nil ⟨rfl, rfl, rfl, lim, f, hlim, S, .refl, ⟨by simp only [go_sem, r0], by simp only [go_sem, r1], by simp only [go_sem, r2], by simp only [go_sem, r3], by simp only [go_sem, r4], by simp only [go_sem, r10], by simp only [go_sem, r11]⟩, by simp only [go_sem, r12]⟩
    | false =>
      obtain ⟨h4, f4, e, S4, W4⟩ := brkT (cap := cap) hl hc hn (show a + 8 ≤ b by omega) (by omega) hlow (.func (.func g) #[] #[]) S
      repeat (first | apply Z1 | apply Z2 | apply Z3 | apply Z4 | apply Z5 rfl | apply Z6 | apply Z7 | apply Z8 | apply Z9 | apply ZA | apply ZB | apply ZC | ((first | apply ZD (by decide) | apply ZN (by decide)); (simp (maxSteps := 9999999) only [go_sem, r0, r1, r2, r3, r4, r10, e, wl]; rfl)) | (refine ZE ?_ ?_; · simp only [go_sem]) | (refine ZF ?_ ?_; · simp only [go_sem]))
      exact end_nil ⟨rfl, rfl, rfl, lim - 1, f4, by omega, S4, W4, ⟨by simp only [go_sem, r0], by simp only [go_sem, r1], by simp only [go_sem, r2], by simp only [go_sem, wl], by simp only [go_sem, r4], by simp only [go_sem, r10], by simp only [go_sem, r11]⟩, by simp only [go_sem, r12]⟩
  rintro ex ρ ms h3 d ⟨rfl, rfl, rfl, lim, f2, hlim, S2, W2, ⟨r0, r1, r2, r3, r4, r10, r11⟩, r12⟩
  have D2 := D.sw W2 ha hb
  have P2 := P.sw W2
  have W2' := W.trans (W2.mono ha hb)
  clear W D P S W2 wl elim cl
  -- the pivot
  obtain ⟨p, t, hp1, hp2, ht, epiv⟩ := pivT (cap := cap) C hl (by omega) (show Rd cel n B el h3 f2 by obtain ⟨old, _, e⟩ := S2.at_; exact ⟨old, e⟩) (show a + 13 ≤ b by omega) (by omega)
  apply end_seq
  apply run_seq
  apply run_region (by decide)
  · simp only [go_sem, r0, r1, r2, r4, epiv]
    rfl
  apply end_seq
  refine run_cutT (fun ex ρ' ms' h2 d2 => ex = .normal ∧ ms' = [] ∧ d2 = [] ∧ ∃ (f' : Nat → E) (p' : Nat) (t' : Int), a ≤ p' ∧ p' < b ∧ SA cel n B el h0 old0 h2 f' ∧ Sw a b f2 f' ∧ PRT n B cap g a b lim wb wp ρ' ∧ ρ' 12 = .int .i64 ((b - a : Nat) : Int) ∧ ρ' 13 = .int .i64 ((p' : Nat) : Int) ∧ ρ' 14 = .int .i64 t') ?_ ?_
  · by_cases ct : t = 2
    · obtain ⟨h4, f4, e, S4, W4⟩ := revT (cap := cap) hl hc (by omega) (show a < b by omega) (by omega) (.func (.func g) #[] #[]) S2
      have w2 : IntKind.i64.wrap ((b : Int) - 1) = ((b - 1 : Nat) : Int) := by rw [wrap64 (by omega) (by omega)]; omega
      have w3 : IntKind.i64.wrap ((p : Int) - (a : Int)) = ((p - a : Nat) : Int) := by rw [wrap64 (by omega) (by omega)]; omega
      have w4 : IntKind.i64.wrap (((b - 1 : Nat) : Int) - ((p - a : Nat) : Int)) = ((b - 1 - (p - a) : Nat) : Int) := by rw [wrap64 (by omega) (by omega)]; omega
      repeat (first | apply Z1 | apply Z2 | apply Z3 | apply Z4 | apply Z5 rfl | apply Z6 | apply Z7 | apply Z8 | apply Z9 | apply ZA | apply ZB | apply ZC | ((first | apply ZD (by decide) | apply ZN (by decide)); (simp (maxSteps := 9999999) only [go_sem, r0, r1, r2, r4, ct, e, w2, w3, w4]; rfl)) | (refine ZE ?_ ?_; · simp only [go_sem]) | (refine ZF ?_ ?_; · simp only [go_sem]))
      exact end_nil ⟨rfl, rfl, rfl, f4, b - 1 - (p - a), 1, by omega, by omega, S4, W4, ⟨by simp only [go_sem, r0], by simp only [go_sem, r1], by simp only [go_sem, r2], by simp only [go_sem, r3], by simp only [go_sem, r4], by simp only [go_sem, r10], by simp only [go_sem, r11]⟩, by simp only [go_sem, r12], by simp only [go_sem, w4], by simp only [go_sem]⟩
    · repeat (first | apply Z1 | apply Z2 | apply Z3 | apply Z4 | apply Z5 rfl | apply Z6 | apply Z7 | apply Z8 | apply Z9 | apply ZA | apply ZB | apply ZC | ((first | apply ZD (by decide) | apply ZN (by decide)); (simp (maxSteps := 9999999) only [go_sem, r0, r1, r2, r4, ct]; rfl)) | (refine ZE ?_ ?_; · simp only [go_sem]) | (refine ZF ?_ ?_; · simp only [go_sem]))
      exact end_nil ⟨rfl, rfl, rfl, f2, p, t, hp1, hp2, S2, .refl, ⟨by simp only [go_sem, r0], by simp only [go_sem, r1], by simp only [go_sem, r2], by simp only [go_sem, r3], by simp only [go_sem, r4], by simp only [go_sem, r10], by simp only [go_sem, r11]⟩, by simp only [go_sem, r12], by simp only [go_sem], by simp only [go_sem]⟩
  rintro ex ρ ms h4 d ⟨rfl, rfl, rfl, f3, p, t, hp1, hp2, S3, W3, ⟨r0, r1, r2, r3, r4, r10, r11⟩, r12, r13, r14⟩
  have D3 := D2.sw W3 ha hb
  have P3 := P2.sw W3
  have W3' := W2'.trans (W3.mono ha hb)
  clear D2 P2 W2' S2 W3 epiv ht
  -- nearly sorted
  apply end_seq
  refine run_cutT (fun ex ρ' ms' h2 d2 => ms' = [] ∧ d2 = [] ∧ ∃ f' : Nat → E, SA cel n B el h0 old0 h2 f' ∧ Sw a b f3 f' ∧ ((ex = .ret ∧ Ord c a b f') ∨ (ex = .normal ∧ PRT n B cap g a b lim wb wp ρ' ∧ ρ' 12 = .int .i64 ((b - a : Nat) : Int) ∧ ρ' 13 = .int .i64 ((p : Nat) : Int)))) ?_ ?_
  · by_cases ct : wb = true ∧ wp = true ∧ t = 1
    · obtain ⟨rfl, rfl, rfl⟩ := ct
      obtain ⟨h5, f5, q, e, S5, W5, O5⟩ := pinT (cap := cap) C hl hc (by omega) (show a < b by omega) (by omega) S3 P3
      cases q with
      | true =>
        repeat (first | apply Z1 | apply Z2 | apply Z3 | apply Z4 | apply Z5 rfl | apply Z6 | apply Z7 | apply Z8 | apply Z9 | apply ZA | apply ZB | apply ZC | ((first | apply ZD (by decide) | apply ZN (by decide)); (simp (maxSteps := 9999999) only [go_sem, r0, r1, r2, r4, r10, r11, r14, e]; rfl)) | (refine ZE ?_ ?_; · simp only [go_sem]) | (refine ZF ?_ ?_; · simp only [go_sem]))
        exact end_nil ⟨rfl, rfl, f5, S5, W5, .inl ⟨rfl, O5 rfl⟩⟩
      | false =>
        repeat (first | apply Z1 | apply Z2 | apply Z3 | apply Z4 | apply Z5 rfl | apply Z6 | apply Z7 | apply Z8 | apply Z9 | apply ZA | apply ZB | apply ZC | ((first | apply ZD (by decide) | apply ZN (by decide)); (simp (maxSteps := 9999999) only [go_sem, r0, r1, r2, r4, r10, r11, r14, e]; rfl)) | (refine ZE ?_ ?_; · simp only [go_sem]) | (refine ZF ?_ ?_; · simp only [go_sem]))
        exact end_nil ⟨rfl, rfl, f5, S5, W5, .inr ⟨rfl, ⟨by simp only [go_sem, r0], by simp only [go_sem, r1], by simp only [go_sem, r2], by simp only [go_sem, r3], by simp only [go_sem, r4], by simp only [go_sem, r10], by simp only [go_sem, r11]⟩, by simp only [go_sem, r12], by simp only [go_sem, r13]⟩⟩
    · have fin : ∀ ρ' : Reg, PRT n B cap g a b lim wb wp ρ' → ρ' 12 = .int .i64 ((b - a : Nat) : Int) → ρ' 13 = .int .i64 ((p : Nat) : Int) → (([] : List Nat) = [] ∧ ([] : List Nat) = [] ∧ ∃ f' : Nat → E, SA cel n B el h0 old0 h4 f' ∧ Sw a b f3 f' ∧ ((Ex.normal = .ret ∧ Ord c a b f') ∨ (Ex.normal = .normal ∧ PRT n B cap g a b lim wb wp ρ' ∧ ρ' 12 = .int .i64 ((b - a : Nat) : Int) ∧ ρ' 13 = .int .i64 ((p : Nat) : Int)))) :=
        fun ρ' a b c => ⟨rfl, rfl, f3, S3, .refl, .inr ⟨rfl, a, b, c⟩⟩
      cases wb with
      | false =>
        repeat (first | apply Z1 | apply Z2 | apply Z3 | apply Z4 | apply Z5 rfl | apply Z6 | apply Z7 | apply Z8 | apply Z9 | apply ZA | apply ZB | apply ZC | ((first | apply ZD (by decide) | apply ZN (by decide)); (simp (maxSteps := 9999999) only [go_sem, r10]; rfl)) | (refine ZE ?_ ?_; · simp only [go_sem]) | (refine ZF ?_ ?_; · simp only [go_sem]))
        exact end_nil (fin _ ⟨by simp only [go_sem, r0], by simp only [go_sem, r1], by simp only [go_sem, r2], by simp only [go_sem, r3], by simp only [go_sem, r4], by simp only [go_sem, r10], by simp only [go_sem, r11]⟩ (by simp only [go_sem, r12]) (by simp only [go_sem, r13]))
      | true =>
        cases wp with
        | false =>
          repeat (first | apply Z1 | apply Z2 | apply Z3 | apply Z4 | apply Z5 rfl | apply Z6 | apply Z7 | apply Z8 | apply Z9 | apply ZA | apply ZB | apply ZC | ((first | apply ZD (by decide) | apply ZN (by decide)); (simp (maxSteps := 9999999) only [go_sem, r10, r11]; rfl)) | (refine ZE ?_ ?_; · simp only [go_sem]) | (refine ZF ?_ ?_; · simp only [go_sem]))
          exact end_nil (fin _ ⟨by simp only [go_sem, r0], by simp only [go_sem, r1], by simp only [go_sem, r2], by simp only [go_sem, r3], by simp only [go_sem, r4], by simp only [go_sem, r10], by simp only [go_sem, r11]⟩ (by simp only [go_sem, r12]) (by simp only [go_sem, r13]))
        | true =>
          have ct' : ¬ t = 1 := fun e => ct ⟨rfl, rfl, e⟩
          repeat (first | apply Z1 | apply Z2 | apply Z3 | apply Z4 | apply Z5 rfl | apply Z6 | apply Z7 | apply Z8 | apply Z9 | apply ZA | apply ZB | apply ZC | ((first | apply ZD (by decide) | apply ZN (by decide)); (simp (maxSteps := 9999999) only [go_sem, r10, r11, r14, ct']; rfl)) | (refine ZE ?_ ?_; · simp only [go_sem]) | (refine ZF ?_ ?_; · simp only [go_sem]))
          exact end_nil (fin _ ⟨by simp only [go_sem, r0], by simp only [go_sem, r1], by simp only [go_sem, r2], by simp only [go_sem, r3], by simp only [go_sem, r4], by simp only [go_sem, r10], by simp only [go_sem, r11]⟩ (by simp only [go_sem, r12]) (by simp only [go_sem, r13]))
  rintro ex ρ ms h5 d ⟨rfl, rfl, f4, S4, W4, ⟨rfl, O4⟩ | ⟨rfl, ⟨r0, r1, r2, r3, r4, r10, r11⟩, r12, r13⟩⟩
  · repeat (first | apply Z1 | apply Z2 | apply Z3 | apply Z4 | apply Z5 rfl | apply Z6 | apply Z7 | apply Z8 | apply Z9 | apply ZA | apply ZB | apply ZC | ((first | apply ZD (by decide) | apply ZN (by decide)); (simp (maxSteps := 9999999) only [go_sem]; rfl)) | (refine ZE ?_ ?_; · simp only [go_sem]) | (refine ZF ?_ ?_; · simp only [go_sem]))
    exact end_nil ⟨rfl, rfl, rfl, f4, S4, W3'.trans (W4.mono ha hb), (D3.sw W4 ha hb).fin O4⟩
  have D4 := D3.sw W4 ha hb
  have P4 := P3.sw W4
  have W4' := W3'.trans (W4.mono ha hb)
  clear D3 P3 W3' S3 W4 r14
  have q1 : (0 : Int) ≤ ((a - 1 : Nat) : Int) := by omega
  have q2 : ((a - 1 : Nat) : Int) < n := by omega
  have q3 : (0 : Int) ≤ (p : Int) := by omega
  have q4 : (p : Int) < n := by omega
  have l1 := S4.load hl (show a - 1 < n by omega)
  have l2 := S4.load hl (show p < n by omega)
  have cc := fun h => C.call (f4 (a - 1)) (f4 p) h
  -- equal elements
  apply end_seq
  refine run_cutT (fun ex ρ' ms' h2 d2 => ms' = [] ∧ d2 = [] ∧ ((ex = .normal ∧ h2 = h5 ∧ PRT n B cap g a b lim wb wp ρ' ∧ ρ' 12 = .int .i64 ((b - a : Nat) : Int) ∧ ρ' 13 = .int .i64 ((p : Nat) : Int)) ∨
      (ex = .exit 1 ∧ 0 < a ∧ ¬ c (f4 (a - 1)) (f4 p) < 0 ∧ ∃ (f' : Nat → E) (m : Nat), SA cel n B el h0 old0 h2 f' ∧ Sw a b f4 f' ∧ a < m ∧ m ≤ b ∧ f' a = f4 p ∧ (∀ q, a < q → q < m → ¬ c (f' a) (f' q) < 0) ∧ (∀ q, m ≤ q → q < b → c (f' a) (f' q) < 0) ∧ PRT n B cap g m b lim wb wp ρ'))) ?_ ?_
  · by_cases z : 0 < a
    · have e1 : (0 : Int) < (a : Int) := by omega
      have wa : IntKind.i64.wrap ((a : Int) - 1) = ((a - 1 : Nat) : Int) := by rw [wrap64 (by omega) (by omega)]; omega
      by_cases hlt : c (f4 (a - 1)) (f4 p) < 0
      · repeat (first | apply Z1 | apply Z2 | apply Z3 | apply Z4 | apply Z5 rfl | apply Z6 | apply Z7 | apply Z8 | apply Z9 | apply ZA | apply ZB | apply ZC | ((first | apply ZD (by decide) | apply ZN (by decide)); (simp (maxSteps := 9999999) only [go_sem, r0, r1, r4, r13, e1, wa, q1, q2, q3, q4, l1, l2, cc, hlt]; rfl)) | (refine ZE ?_ ?_; · simp only [go_sem]) | (refine ZF ?_ ?_; · simp only [go_sem]))
        exact end_nil ⟨rfl, rfl, .inl ⟨rfl, rfl, ⟨by simp only [go_sem, r0], by simp only [go_sem, r1], by simp only [go_sem, r2], by simp only [go_sem, r3], by simp only [go_sem, r4], by simp only [go_sem, r10], by simp only [go_sem, r11]⟩, by simp only [go_sem, r12], by simp only [go_sem, r13]⟩⟩
      · obtain ⟨h6, f6, m, e, S6, W6, m1, m2, m3, m4, m5⟩ := peqT (cap := cap) C hl hc (by omega) hp1 hp2 (by omega) S4
        repeat (first | apply Z1 | apply Z2 | apply Z3 | apply Z4 | apply Z5 rfl | apply Z6 | apply Z7 | apply Z8 | apply Z9 | apply ZA | apply ZB | apply ZC | ((first | apply ZD (by decide) | apply ZN (by decide)); (simp (maxSteps := 9999999) only [go_sem, r0, r1, r2, r4, r13, e1, wa, q1, q2, q3, q4, l1, l2, cc, hlt, e]; rfl)) | (refine ZE ?_ ?_; · simp only [go_sem]) | (refine ZF ?_ ?_; · simp only [go_sem]))
        exact end_nil ⟨rfl, rfl, .inr ⟨rfl, z, hlt, f6, m, S6, W6, m1, m2, m3, m4, m5, ⟨by simp only [go_sem, r0], by simp only [go_sem], by simp only [go_sem, r2], by simp only [go_sem, r3], by simp only [go_sem, r4], by simp only [go_sem, r10], by simp only [go_sem, r11]⟩⟩⟩
    · have e1 : ¬ (0 : Int) < (a : Int) := by omega
      repeat (first | apply Z1 | apply Z2 | apply Z3 | apply Z4 | apply Z5 rfl | apply Z6 | apply Z7 | apply Z8 | apply Z9 | apply ZA | apply ZB | apply ZC | ((first | apply ZD (by decide) | apply ZN (by decide)); (simp (maxSteps := 9999999) only [go_sem, r1, e1]; rfl)) | (refine ZE ?_ ?_; · simp only [go_sem]) | (refine ZF ?_ ?_; · simp only [go_sem]))
      exact end_nil ⟨rfl, rfl, .inl ⟨rfl, rfl, ⟨by simp only [go_sem, r0], by simp only [go_sem, r1], by simp only [go_sem, r2], by simp only [go_sem, r3], by simp only [go_sem, r4], by simp only [go_sem, r10], by simp only [go_sem, r11]⟩, by simp only [go_sem, r12], by simp only [go_sem, r13]⟩⟩
  rintro ex ρ ms h6 d ⟨rfl, rfl, ⟨rfl, rfl, ⟨r0, r1, r2, r3, r4, r10, r11⟩, r12, r13⟩ | ⟨rfl, z, hge, f6, m, S6, W6, m1, m2, m3, m4, m5, PRm⟩⟩
  rotate_left
  · repeat (first | apply Z1 | apply Z2 | apply Z3 | apply Z4 | apply Z5 rfl | apply Z6 | apply Z7 | apply Z8 | apply Z9 | apply ZA | apply ZB | apply ZC | ((first | apply ZD (by decide) | apply ZN (by decide)); (simp (maxSteps := 9999999) only [go_sem]; rfl)) | (refine ZE ?_ ?_; · simp only [go_sem]) | (refine ZF ?_ ?_; · simp only [go_sem]))
    -- all up to m are equal to the least
    have D6 := D4.sw W6 ha hb
    have P6 := P4.sw W6 z
    have ha1 : f6 (a - 1) = f4 (a - 1) := W6.out (by omega)
    have low : ∀ q, a ≤ q → q < m → ¬ c (f6 (a - 1)) (f6 q) < 0 := fun q k1 k2 => by
      have h1 : ¬ c (f6 (a - 1)) (f6 a) < 0 := by rw [ha1, m3]; exact hge
      by_cases e : q = a
      · subst e; exact h1
      · exact C.ntr _ _ _ h1 (m4 q (by omega) k2)
    refine end_nil ⟨b - m, by omega, m, b, lim, wb, wp, f6, rfl, by omega, m2, hb, hlim, S6, W4'.trans (W6.mono ha hb), fun i j i1 i2 i3 i4 => ?_, fun _ j j1 j2 => ?_, PRm, rfl, rfl⟩
    · by_cases e : a ≤ i ∧ j < b
      · exact C.ntr _ _ _ (P6 j (by omega) e.2) (low i e.1 (by omega))
      · exact D6 i j i1 i2 i3 e
    · exact C.ntr _ _ _ (P6 j (by omega) j2) (low (m - 1) (by omega) (by omega))
  -- the partition
  clear cc l1 l2 q1 q2 q3 q4
  obtain ⟨h7, f7, m, q, e, S7, W7, m1, m2, m3, m4⟩ := partT (cap := cap) C hl hc (by omega) hp1 hp2 (by omega) S4
  have D7 := D4.sw W7 ha hb
  have P7 := P4.sw W7
  have W7' := W4'.trans (W7.mono ha hb)
  clear D4 P4 W4' W7 S4
  have v1 : IntKind.i64.wrap ((m : Int) - (a : Int)) = ((m - a : Nat) : Int) := by rw [wrap64 (by omega) (by omega)]; omega
  have v2 : IntKind.i64.wrap ((b : Int) - (m : Int)) = ((b - m : Nat) : Int) := by rw [wrap64 (by omega) (by omega)]; omega
  have v3 : IntKind.i64.wrap (((b - a : Nat) : Int).tdiv 8) = (((b - a) / 8 : Nat) : Int) := by rw [Int.tdiv_eq_ediv_of_nonneg (by omega), wrap64 (by omega) (by omega)]; rfl
  have v4 : IntKind.i64.wrap ((m : Int) + 1) = ((m + 1 : Nat) : Int) := by rw [wrap64 (by omega) (by omega)]; rfl
  by_cases lr : m - a < b - m
  · have e1 : ((m - a : Nat) : Int) < ((b - m : Nat) : Int) := by omega
    obtain ⟨h8, f8, e8, S8, W8, O8⟩ := IH a m lim h7 f7 (by omega) m1 (by omega) hlim S7 (fun z j j1 j2 => P7 z j j1 (by omega))
    have D8 := D7.sw (W8.mono (Nat.le_refl _) (by omega)) ha hb
    have f8m : ∀ q, m ≤ q → f8 q = f7 q := fun q hq => W8.out (by omega)
    have left : ∀ q, a ≤ q → q < m → c (f8 q) (f8 m) < 0 := by
      rw [f8m m (Nat.le_refl _)]
      exact W8.all (P := fun x => c x (f7 m) < 0) m3
    have right : ∀ q, m < q → q < b → ¬ c (f8 q) (f8 m) < 0 := fun q k1 k2 => by
      rw [f8m m (Nat.le_refl _), f8m q (by omega)]; exact m4 q k1 k2
    repeat (first | apply Z1 | apply Z2 | apply Z3 | apply Z4 | apply Z5 rfl | apply Z6 | apply Z7 | apply Z8 | apply Z9 | apply ZA | apply ZB | apply ZC | ((first | apply ZD (by decide) | apply ZN (by decide)); (simp (maxSteps := 9999999) only [go_sem, r0, r1, r2, r3, r4, r10, r11, r12, r13, e, v1, v2, v3, v4, e1, e8]; rfl)) | (refine ZE ?_ ?_; · simp only [go_sem]) | (refine ZF ?_ ?_; · simp only [go_sem]))
    refine end_nil ⟨b - (m + 1), by omega, m + 1, b, lim, decide (((b - a) / 8 : Nat) ≤ ((m - a : Nat))), q, f8, rfl, by omega, by omega, hb, hlim, S8, W7'.trans (W8.mono ha (by omega)), fun i j i1 i2 i3 i4 => ?_, fun _ j j1 j2 => ?_, ⟨by simp only [go_sem, r0], by simp only [go_sem, v4], by simp only [go_sem, r2], by simp only [go_sem, r3], by simp only [go_sem, r4], ?_, by simp only [go_sem]⟩, rfl, rfl⟩
    · by_cases ee : a ≤ i ∧ j < b
      · by_cases k1 : j < m
        · exact O8 i j ee.1 i2 k1
        · by_cases k2 : i < m
          · by_cases k3 : j = m
            · subst k3; exact C.asym _ _ (left i ee.1 k2)
            · exact C.ntr _ _ _ (right j (by omega) ee.2) (C.asym _ _ (left i ee.1 k2))
          · have : i = m := by omega
            subst this
            exact right j i2 ee.2
      · exact D8 i j i1 i2 i3 ee
    · rw [Nat.add_sub_cancel]; exact right j (by omega) j2
    · simp only [go_sem]
      congr 1
      by_cases e9 : (b - a) / 8 ≤ m - a
      · rw [decide_eq_true e9, decide_eq_true (by omega)]
      · rw [decide_eq_false e9, decide_eq_false (by omega)]
  · have e1 : ¬ ((m - a : Nat) : Int) < ((b - m : Nat) : Int) := by omega
    obtain ⟨h8, f8, e8, S8, W8, O8⟩ := IH (m + 1) b lim h7 f7 (by omega) (by omega) (by omega) hlim S7 (fun z j j1 j2 => by rw [Nat.add_sub_cancel]; exact m4 j (by omega) j2)
    have D8 := D7.sw (W8.mono (by omega) (Nat.le_refl _)) ha hb
    have f8m : ∀ q, q ≤ m → f8 q = f7 q := fun q hq => W8.out (by omega)
    have left : ∀ q, a ≤ q → q < m → c (f8 q) (f8 m) < 0 := fun q k1 k2 => by
      rw [f8m m (Nat.le_refl _), f8m q (by omega)]; exact m3 q k1 k2
    have right : ∀ q, m + 1 ≤ q → q < b → ¬ c (f8 q) (f8 m) < 0 := by
      rw [f8m m (Nat.le_refl _)]
      exact W8.all (P := fun x => ¬ c x (f7 m) < 0) (fun q k1 k2 => m4 q (by omega) k2)
    repeat (first | apply Z1 | apply Z2 | apply Z3 | apply Z4 | apply Z5 rfl | apply Z6 | apply Z7 | apply Z8 | apply Z9 | apply ZA | apply ZB | apply ZC | ((first | apply ZD (by decide) | apply ZN (by decide)); (simp (maxSteps := 9999999) only [go_sem, r0, r1, r2, r3, r4, r10, r11, r12, r13, e, v1, v2, v3, v4, e1, e8]; rfl)) | (refine ZE ?_ ?_; · simp only [go_sem]) | (refine ZF ?_ ?_; · simp only [go_sem]))
    refine end_nil ⟨m - a, by omega, a, m, lim, decide (((b - a) / 8 : Nat) ≤ ((b - m : Nat))), q, f8, rfl, ha, m1, by omega, hlim, S8, W7'.trans (W8.mono (by omega) hb), fun i j i1 i2 i3 i4 => ?_, fun z j j1 j2 => ?_, ⟨by simp only [go_sem, r0], by simp only [go_sem, r1], by simp only [go_sem], by simp only [go_sem, r3], by simp only [go_sem, r4], ?_, by simp only [go_sem]⟩, rfl, rfl⟩
    · by_cases ee : a ≤ i ∧ j < b
      · by_cases k1 : m + 1 ≤ i
        · exact O8 i j k1 i2 ee.2
        · by_cases k2 : i < m
          · by_cases k3 : j = m
            · subst k3; exact C.asym _ _ (left i ee.1 k2)
            · exact C.ntr _ _ _ (right j (by omega) ee.2) (C.asym _ _ (left i ee.1 k2))
          · have : i = m := by omega
            subst this
            exact right j i2 ee.2
      · exact D8 i j i1 i2 i3 ee
    · rw [f8m (a - 1) (by omega), f8m j (by omega)]; exact P7 z j j1 (by omega)
    · simp only [go_sem]
      congr 1
      by_cases e9 : (b - a) / 8 ≤ b - m
      · rw [decide_eq_true e9, decide_eq_true (by omega)]
      · rw [decide_eq_false e9, decide_eq_false (by omega)]
end
end Go.Proofs.Ytioijehbmgmgkaa.Sh

namespace Go.Proofs.Ytioijehbmgmgkaa.Sh
open Go
set_option maxRecDepth 100000
set_option maxHeartbeats 4000000
section
variable {E : Type} {cel : E → List Value} {c : E → E → Int} {g : FuncId} {n B cap : Nat} {el : TypeId} {h0 : SHeap} {old0 : List Nat}
theorem PdqOKT.mono {L L' : Nat} (h : PdqOKT c cel g n B cap el h0 old0 L) (hl : L' ≤ L) : PdqOKT c cel g n B cap el h0 old0 L' :=
  fun a b lim hh f h1 => h a b lim hh f (by omega)
theorem pdqT (C : Cmp M g cel c) (hl : ∀ x, (cel x).length = 3) (hc : ∀ x, (cel x).all sc = true) (hn : n ≤ 60000) (hlow : ∀ c ∈ old0, c < h0.length) : ∀ L, PdqOKT c cel g n B cap el h0 old0 L
  | 0 => fun a b lim hh f h1 => by omega
  | L + 1 => by
    intro a b lim h f hab1 hab hb hlim S P
    have IH := (pdqT C hl hc hn hlow L).mono (show b - a ≤ L by omega)
    have key : ∃ r, (∃ h' f', r = (Value.tuple #[], h', ([] : List Nat)) ∧ SA cel n B el h0 old0 h' f' ∧ Sw a b f f' ∧ Ord c a b f') ∧ M.call 89 [.slice (some ⟨B, 0, none⟩) n cap, .int .i64 a, .int .i64 b, .int .i64 lim, .func (.func g) #[] #[]] h = some r := by
      refine call_ex (f := 89) _ sf89 rfl rfl rfl ?_
      unfold sf89
      repeat (first | apply Z1 | apply Z2 | apply Z3 | apply Z4 | apply Z5 rfl | apply Z6 | apply Z7 | apply Z8 | apply Z9 | apply ZA | apply ZB | apply ZC | ((first | apply ZD (by decide) | apply ZN (by decide)); (simp (maxSteps := 9999999) only [go_sem, argR]; rfl)) | (refine ZE ?_ ?_; · simp only [go_sem]) | (refine ZF ?_ ?_; · simp only [go_sem]))
      refine run_loop (pdq_loopT (cap := cap) C hl hc hn hlow (a0 := a) (b0 := b) hb IH _ f (b - a) _ _ _ _ ⟨a, b, lim, true, true, f, rfl, Nat.le_refl _, hab, Nat.le_refl _, hlim, S, .refl, fun i j h1 h2 h3 h4 => by omega, P, ⟨by simp only [go_sem, argR], by simp only [go_sem, argR], by simp only [go_sem, argR], by simp only [go_sem, argR], by simp only [go_sem, argR], by simp only [go_sem], by simp only [go_sem]⟩, rfl, rfl⟩) ?_
      rintro ex ρ' ms' h1 d1 ⟨rfl, rfl, rfl, f2, S2, W2, O2⟩
      repeat (first | apply Z1 | apply Z2 | apply Z3 | apply Z4 | apply Z5 rfl | apply Z6 | apply Z7 | apply Z8 | apply Z9 | apply ZA | apply ZB | apply ZC | ((first | apply ZD (by decide) | apply ZN (by decide)); (simp (maxSteps := 9999999) only [go_sem]; rfl)) | (refine ZE ?_ ?_; · simp only [go_sem]) | (refine ZF ?_ ?_; · simp only [go_sem]))
      exact end_nil ⟨_, ⟨h1, f2, rfl, S2, W2, O2⟩, q_free [] rfl rfl rfl rfl (fun _ => rfl) (by rw [List.take_of_length_le]; rw [S2.len, S.len]; exact Nat.le_refl _) rfl⟩
    obtain ⟨r, ⟨h', f', rfl, k⟩, e⟩ := key
    exact ⟨h', f', e, k⟩
theorem sortT (C : Cmp M g cel c) (hl : ∀ x, (cel x).length = 3) (hc : ∀ x, (cel x).all sc = true) (hn : n ≤ 60000) (hlow : ∀ c ∈ old0, c < h0.length) {h : SHeap} {f : Nat → E} (S : SA cel n B el h0 old0 h f) :
    ∃ h' f', M.call 72 [.slice (some ⟨B, 0, none⟩) n cap, .func (.func g) #[] #[]] h = some (.tuple #[], h', []) ∧ SA cel n B el h0 old0 h' f' ∧ Sw 0 n f f' ∧ Ord c 0 n f' := by
  have hlen := lenB_p (n := n) (by omega)
  obtain ⟨h1, f1, e, S1, W1, O1⟩ := pdqT (cap := cap) C hl hc hn hlow (n + 1) 0 n (lenB n) h f (by omega) (Nat.zero_le _) (Nat.le_refl _) (by omega) S (fun h => absurd h (Nat.lt_irrefl 0))
  have ez : ((0 : Nat) : Int) = 0 := rfl
  rw [ez] at e
  have wu : IntKind.u64.wrap (n : Int) = n := wrapU' (by omega) (by omega)
  have c82 := fun h => len82 (n := n) (by omega) h
  refine ⟨h1, f1, ?_, S1, W1, O1⟩
  refine call_run sf72 rfl rfl rfl ?_
  unfold sf72
  repeat (first | apply Z1 | apply Z2 | apply Z3 | apply Z4 | apply Z5 rfl | apply Z6 | apply Z7 | apply Z8 | apply Z9 | apply ZA | apply ZB | apply ZC | ((first | apply ZD (by decide) | apply ZN (by decide)); (simp (maxSteps := 9999999) only [go_sem, argR, wu, c82, e]; rfl)) | (refine ZE ?_ ?_; · simp only [go_sem]) | (refine ZF ?_ ?_; · simp only [go_sem]))
  exact end_nil (q_free [] rfl rfl rfl rfl (fun _ => rfl) (by rw [List.take_of_length_le]; rw [S1.len, S.len]; exact Nat.le_refl _) rfl)
end
end Go.Proofs.Ytioijehbmgmgkaa.Sh

namespace Go.Proofs.Ytioijehbmgmgkaa.Sh
open Go
set_option maxRecDepth 100000
set_option maxHeartbeats 4000000
theorem ins0_loopT (cx : Cx) (H : SHeap) : ∀ (k : Nat) ρ ms h' d', (ρ 2 = .int .i64 0 ∧ ρ 8 = .int .i64 1 ∧ ms = [] ∧ h' = H ∧ d' = []) →
    LoopW M cx 6 sf95L1 ρ ms h' d' (fun ex ρ' ms' h' d' => ex = .exit 0 ∧ ms' = [] ∧ h' = H ∧ d' = []) := by
  refine loop_run _ ?_
  rintro k ρ ms h' d' ⟨r2, r8, rfl, rfl, rfl⟩
  unfold sf95L1
  repeat (first | apply Z1 | apply Z2 | apply Z3 | apply Z4 | apply Z5 rfl | apply Z6 | apply Z7 | apply Z8 | apply Z9 | apply ZA | apply ZB | apply ZC | ((first | apply ZD (by decide) | apply ZN (by decide)); (simp (maxSteps := 9999999) only [go_sem, r2, r8]; rfl)) | (refine ZE ?_ ?_; · simp only [go_sem]) | (refine ZF ?_ ?_; · simp only [go_sem]))
  exact end_nil ⟨rfl, rfl, rfl, rfl⟩
theorem ins0T (g : FuncId) (h : SHeap) : M.call 95 [.slice none 0 0, .int .i64 0, .int .i64 0, .func (.func g) #[] #[]] h = some (.tuple #[], h, []) := by
  refine call_run sf95 rfl rfl rfl ?_
  unfold sf95
  repeat (first | apply Z1 | apply Z2 | apply Z3 | apply Z4 | apply Z5 rfl | apply Z6 | apply Z7 | apply Z8 | apply Z9 | apply ZA | apply ZB | apply ZC | ((first | apply ZD (by decide) | apply ZN (by decide)); (simp (maxSteps := 9999999) only [go_sem, argR]; rfl)) | (refine ZE ?_ ?_; · simp only [go_sem]) | (refine ZF ?_ ?_; · simp only [go_sem]))
  refine run_loop (ins0_loopT _ h 0 _ _ _ _ ⟨by simp only [go_sem, argR], by simp only [go_sem, argR], rfl, rfl, rfl⟩) ?_
  rintro ex ρ' ms' h1 d1 ⟨rfl, rfl, rfl, rfl⟩
  repeat (first | apply Z1 | apply Z2 | apply Z3 | apply Z4 | apply Z5 rfl | apply Z6 | apply Z7 | apply Z8 | apply Z9 | apply ZA | apply ZB | apply ZC | ((first | apply ZD (by decide) | apply ZN (by decide)); (simp (maxSteps := 9999999) only [go_sem]; rfl)) | (refine ZE ?_ ?_; · simp only [go_sem]) | (refine ZF ?_ ?_; · simp only [go_sem]))
  exact end_nil (q_free [] rfl rfl rfl rfl (fun _ => rfl) (take_self _) rfl)
theorem pdq0_loopT (cx : Cx) (g : FuncId) (H : SHeap) : ∀ (k : Nat) ρ ms h' d', (ρ 0 = .slice none 0 0 ∧ ρ 1 = .int .i64 0 ∧ ρ 2 = .int .i64 0 ∧ ρ 4 = .func (.func g) #[] #[] ∧ ms = [] ∧ h' = H ∧ d' = []) →
    LoopW M cx 8 sf89L0 ρ ms h' d' (fun ex ρ' ms' h' d' => ex = .ret ∧ ms' = [] ∧ h' = H ∧ d' = []) := by
  refine loop_run _ ?_
  rintro k ρ ms h' d' ⟨r0, r1, r2, r4, rfl, rfl, rfl⟩
  unfold sf89L0
  have c := ins0T g
  have e1 : ((0 : Int) ≤ 12) = True := by decide
  have e2 : (0 : Int) - 0 = 0 := rfl
  have e3 : IntKind.i64.wrap 0 = 0 := rfl
  repeat (first | apply Z1 | apply Z2 | apply Z3 | apply Z4 | apply Z5 rfl | apply Z6 | apply Z7 | apply Z8 | apply Z9 | apply ZA | apply ZB | apply ZC | ((first | apply ZD (by decide) | apply ZN (by decide)); (simp (maxSteps := 9999999) only [go_sem, r0, r1, r2, r4, e1, e2, e3, c]; rfl)) | (refine ZE ?_ ?_; · simp only [go_sem]) | (refine ZF ?_ ?_; · simp only [go_sem]))
  exact end_nil ⟨rfl, rfl, rfl, rfl⟩
theorem pdq0T (g : FuncId) (lim : Int) (h : SHeap) : M.call 89 [.slice none 0 0, .int .i64 0, .int .i64 0, .int .i64 lim, .func (.func g) #[] #[]] h = some (.tuple #[], h, []) := by
  refine call_run sf89 rfl rfl rfl ?_
  unfold sf89
  repeat (first | apply Z1 | apply Z2 | apply Z3 | apply Z4 | apply Z5 rfl | apply Z6 | apply Z7 | apply Z8 | apply Z9 | apply ZA | apply ZB | apply ZC | ((first | apply ZD (by decide) | apply ZN (by decide)); (simp (maxSteps := 9999999) only [go_sem, argR]; rfl)) | (refine ZE ?_ ?_; · simp only [go_sem]) | (refine ZF ?_ ?_; · simp only [go_sem]))
  refine run_loop (pdq0_loopT _ g h 0 _ _ _ _ ⟨by simp only [go_sem, argR], by simp only [go_sem, argR], by simp only [go_sem, argR], by simp only [go_sem, argR], rfl, rfl, rfl⟩) ?_
  rintro ex ρ' ms' h1 d1 ⟨rfl, rfl, rfl, rfl⟩
  repeat (first | apply Z1 | apply Z2 | apply Z3 | apply Z4 | apply Z5 rfl | apply Z6 | apply Z7 | apply Z8 | apply Z9 | apply ZA | apply ZB | apply ZC | ((first | apply ZD (by decide) | apply ZN (by decide)); (simp (maxSteps := 9999999) only [go_sem]; rfl)) | (refine ZE ?_ ?_; · simp only [go_sem]) | (refine ZF ?_ ?_; · simp only [go_sem]))
  exact end_nil (q_free [] rfl rfl rfl rfl (fun _ => rfl) (take_self _) rfl)
theorem sort0T (g : FuncId) (h : SHeap) : M.call 72 [.slice none 0 0, .func (.func g) #[] #[]] h = some (.tuple #[], h, []) := by
  have c82 : ∀ h, M.call 90 [.int .u64 0] h = some (.int .i64 (lenB 0), h, []) := fun h => len82 (n := 0) (by omega) h
  have c := pdq0T g
  refine call_run sf72 rfl rfl rfl ?_
  unfold sf72
  have e3 : IntKind.u64.wrap 0 = 0 := rfl
  have e4 : ((0 : Nat) : Int) = 0 := rfl
  repeat (first | apply Z1 | apply Z2 | apply Z3 | apply Z4 | apply Z5 rfl | apply Z6 | apply Z7 | apply Z8 | apply Z9 | apply ZA | apply ZB | apply ZC | ((first | apply ZD (by decide) | apply ZN (by decide)); (simp (maxSteps := 9999999) only [go_sem, argR, e3, e4, c82, c]; rfl)) | (refine ZE ?_ ?_; · simp only [go_sem]) | (refine ZF ?_ ?_; · simp only [go_sem]))
  exact end_nil (q_free [] rfl rfl rfl rfl (fun _ => rfl) (take_self _) rfl)
end Go.Proofs.Ytioijehbmgmgkaa.Sh

