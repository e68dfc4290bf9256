/- The shadow machine: slices that grow in a call, and are returned. -/
import Derived.Test.YtioijehbmgmgkaaM3
set_option linter.all false
namespace Go.Proofs.Ytioijehbmgmgkaa.Sh
open Go
structure AccS (H0 h : SHeap) (v : Value) (cs : List Value) (n s : Nat) (el : TypeId) : Prop where
  acc : Acc H0.length h v cs n s el
  le : H0.length ≤ h.length
  same : ∀ j, j < H0.length → h[j]? = H0[j]?
theorem AccS.nil (H0 : SHeap) (g : SHeap) (s : Nat) (el : TypeId) : AccS H0 (H0 ++ g) (.slice none 0 0) [] 0 s el :=
  ⟨.inl ⟨rfl, rfl, rfl⟩, by simp, fun j hj => List.getElem?_append_left hj⟩
theorem AccS.nil0 (H0 : SHeap) (s : Nat) (el : TypeId) : AccS H0 H0 (.slice none 0 0) [] 0 s el :=
  ⟨.inl ⟨rfl, rfl, rfl⟩, Nat.le_refl _, fun j hj => rfl⟩
theorem AccS.app {H0 h : SHeap} {v : Value} {cs : List Value} {n s : Nat} {el : TypeId} (A : AccS H0 h v cs n s el) (g : SHeap) : AccS H0 (h ++ g) v cs n s el :=
  ⟨A.acc.keep (fun b e => by rw [List.getElem?_append_left (A.acc.lt e).2]), by have := A.le; simp; omega, fun j hj => by rw [List.getElem?_append_left (by have := A.le; omega)]; exact A.same j hj⟩
theorem AccS.prs {H0 h : SHeap} {v : Value} {cs : List Value} {n s : Nat} {el : TypeId} (A : AccS H0 h v cs n s el) {b o : Nat} {l : List (Int × Int)} (hp : Prs H0 b o l) : Prs h b o l := by
  have e := A.same b hp.lt
  obtain ⟨pre, post, el2, pf, own, old, h1, h2⟩ := hp
  exact ⟨pre, post, el2, pf, own, old, by rw [e]; exact h1, h2⟩
theorem AccS.push {H0 h : SHeap} {v : Value} {cs new : List Value} {n s bytes : Nat} {el : TypeId} (A : AccS H0 h v cs n s el) {bs : Nat} {el2 : TypeId} {pf2 : Bool} {own2 : Nat} {old2 : List Nat}
    (hs : h[bs]? = some (.cells new el2 pf2 own2 old2)) (hr : readable own2 = true) (hl : new.length = s) (hs0 : 0 < s) (hsc : new.all sc = true) (hb0 : 0 < bytes) (hb : (n + 1) * bytes ≤ 140737488355328) :
    ∃ H2 v2, (∀ (base : Nat) (d : List Nat), appendS base h d el true s bytes v (.slice (some ⟨bs, 0, none⟩) 1 1) = some (v2, H2, d)) ∧ (∃ b, v2 = .slice (some ⟨b, 0, none⟩) (n + 1) (UNK + s)) ∧ AccS H0 H2 v2 (cs ++ new) (n + 1) s el ∧ h.length < H2.length ∧
      (∀ j, j < h.length → (∀ b, v = .slice (some ⟨b, 0, none⟩) n (UNK + s) → j ≠ b) → H2[j]? = h[j]?) := by
  obtain ⟨old, ap, acc2, kp⟩ := acc_append (bytes := bytes) A.acc hs hr hl hs0 hsc hb0 hb A.le
  refine ⟨_, _, ap, ⟨_, rfl⟩, ⟨acc2, by have := A.le; simp [shv_len]; omega, fun j hj => ?_⟩, by simp [shv_len], kp⟩
  have := A.le
  rw [kp j (by omega) (fun b e => by have := A.acc.lt e; omega)]
  exact A.same j hj
def resV (h : SHeap) (n s : Nat) : Value := if n = 0 then .slice none 0 0 else .slice (some ⟨h.length, 0, none⟩) n (UNK + s)
def resH (h : SHeap) (cs : List Value) (n : Nat) (el : TypeId) : SHeap := if n = 0 then h else h ++ [.cells cs el true 0 []]
theorem ren_none' {h : SHeap} {b : Nat} {old : List Nat} (hold : ∀ c ∈ old, h.length ≤ c ∧ c < b) : old.filterMap (ren h.length [b]) = [] := by
  rw [List.filterMap_eq_nil_iff]
  intro a ha
  obtain ⟨a1, a2⟩ := hold a ha
  have e4 : Nat.ble h.length a = true := by rw [ble_dec]; simpa using a1
  have e5 : Nat.beq b a = false := by rw [nbeq_dec]; simp; omega
  simp [ren, e4, posOf, e5]
theorem AccS.shape {H0 h : SHeap} {v : Value} {cs : List Value} {n s : Nat} {el : TypeId} (A : AccS H0 h v cs n s el) : ∃ a c, v = .slice a n c := by
  rcases A.acc with ⟨rfl, rfl, _⟩ | ⟨b, old, rfl, _⟩
  · exact ⟨_, _, rfl⟩
  · exact ⟨_, _, rfl⟩
theorem AccS.take {H0 h : SHeap} {v : Value} {cs : List Value} {n s : Nat} {el : TypeId} (A : AccS H0 h v cs n s el) {H : SHeap} {g : SHeap} (e : H0 = H ++ g) : h.take H.length = H := by
  subst e
  have := A.le
  exact take_of_same (by simp at this; omega) (fun j hj => by rw [A.same j (by simp; omega), List.getElem?_append_left hj])
section
variable {H g h : SHeap} {v : Value} {cs : List Value} {n s : Nat} {el : TypeId}
theorem AccS.cellsAt (A : AccS (H ++ g) h v cs n s el) (hn : n ≠ 0) : ∃ b old, v = .slice (some ⟨b, 0, none⟩) n (UNK + s) ∧ h[b]? = some (.cells cs el true 0 old) ∧ H.length ≤ b ∧ ∀ c ∈ old, H.length ≤ c ∧ c < b := by
  rcases A.acc with ⟨e, _⟩ | ⟨b, old, rfl, h1, h2, h3, h4, h5, h6⟩
  · exact (hn e).elim
  · simp at h4
    exact ⟨b, old, rfl, h1, by omega, fun c hc => by have := h6 c hc; simp at this; omega⟩
theorem AccS.gc (A : AccS (H ++ g) h v cs n s el) : gcS H.length v h = some (resV H n s, resH H cs n el) := by
  by_cases hn : n = 0
  · rcases A.acc with ⟨_, rfl, _⟩ | ⟨b, old, rfl, h1, h2, h3, _⟩
    · rw [gc_nil, A.take rfl]; simp [resV, resH, hn]
    · exact (h3 hn).elim
  · obtain ⟨b, old, rfl, h1, h2, h3⟩ := A.cellsAt hn
    have ht := A.take rfl
    have eb : Nat.ble H.length b = true := by rw [ble_dec]; simpa using h2
    have e1 : reach H.length h 1000000 [b] [] = [b] := by
      rw [show (1000000 : Nat) = 999998 + 1 + 1 from rfl, reach]
      simp only [eb, List.contains_nil, Bool.not_true, Bool.or_self, Bool.false_eq_true, if_false, h1, ptrsO, Bool.true_or, if_true, List.nil_append]
      rw [reach]
    have e2 : ren H.length [b] b = some H.length := by simp [ren, eb, posOf]
    have e0 : ((0 : Nat) == 2) = false := rfl
    unfold gcS
    simp only [ptrs, ptr1, e1, renV, e2, mapO, renO, h1, e0, Bool.false_eq_true, if_false, if_true, ht, ren_none' h3]
    simp [resV, resH, hn]
theorem AccS.gc2 (A : AccS (H ++ g) h v cs n s el) (w : Value) (hw : flat 1 w = true) : gcS H.length (.tuple #[v, w]) h = some (.tuple #[resV H n s, w], resH H cs n el) := by
  have hp : ptrs 2 w = [] ∧ ∀ K, renV H.length K 2 w = some w := ⟨ptrs_flat 2 w (flat_up _ _ hw), fun K => renV_flat 2 w (flat_up _ _ hw)⟩
  by_cases hn : n = 0
  · have ht := A.take rfl
    have e3 := hp.2 []
    rcases A.acc with ⟨_, rfl, _⟩ | ⟨b, old, rfl, h1, h2, h3, _⟩
    · have e1 : ptrs 3 (.tuple #[.slice none 0 0, w]) = [] := by
        show ptrs 2 (.slice none 0 0) ++ (ptrs 2 w ++ []) = []
        rw [hp.1]; rfl
      unfold gcS
      rw [e1]
      rw [show (1000000 : Nat) = 999999 + 1 from rfl, reach]
      simp [renV, mapO, e3, ht, resV, resH, hn]
    · exact (h3 hn).elim
  · obtain ⟨b, old, rfl, h1, h2, h3⟩ := A.cellsAt hn
    have ht := A.take rfl
    have eb : Nat.ble H.length b = true := by rw [ble_dec]; simpa using h2
    have e1 : reach H.length h 1000000 [b] [] = [b] := by
      rw [show (1000000 : Nat) = 999998 + 1 + 1 from rfl, reach]
      simp only [eb, List.contains_nil, Bool.not_true, Bool.or_self, Bool.false_eq_true, if_false, h1, ptrsO, Bool.true_or, if_true, List.nil_append]
      rw [reach]
    have e2 : ren H.length [b] b = some H.length := by simp [ren, eb, posOf]
    have e0 : ((0 : Nat) == 2) = false := rfl
    have e3 := hp.2 [b]
    have e4 : ptrs 3 (.tuple #[.slice (some ⟨b, 0, none⟩) n (UNK + s), w]) = [b] := by
      show ptrs 2 (.slice (some ⟨b, 0, none⟩) n (UNK + s)) ++ (ptrs 2 w ++ []) = [b]
      rw [hp.1]; rfl
    unfold gcS
    simp only [e4, e1, renV, e2, e3, mapO, renO, h1, e0, Bool.false_eq_true, if_false, if_true, ht, ren_none' h3]
    simp [resV, resH, hn]
theorem AccS.ret1 (A : AccS (H ++ g) h v cs n s el) {i : Nat} {ρ : Reg} (hv : ρ i = v) : callQ [.tmp i] H.length (resV H n s, resH H cs n el, []) .ret ρ [] h [] := by
  obtain ⟨a, c, rfl⟩ := A.shape
  refine ⟨rfl, ?_⟩
  show opn (ρ i) fun v' => endW H.length h [] (_, _, []) [v']
  rw [hv]
  exact ⟨_, _, A.gc, rfl⟩
theorem AccS.ret2 (A : AccS (H ++ g) h v cs n s el) {i j : Nat} {ρ : Reg} (w : Value) (hv : ρ i = v) (hw : ρ j = w) (hf : flat 1 w = true) : callQ [.tmp i, .tmp j] H.length (.tuple #[resV H n s, w], resH H cs n el, []) .ret ρ [] h [] := by
  obtain ⟨a, c, rfl⟩ := A.shape
  refine ⟨rfl, ?_⟩
  show opn (ρ i) fun v' => opn (ρ j) fun w' => endW H.length h [] (_, _, []) [v', w']
  rw [hv, hw]
  show opn w fun w' => endW H.length h [] (_, _, []) [.slice a n c, w']
  exact opn_of hf ⟨_, _, A.gc2 w hf, rfl⟩
theorem AccS.q1 (A : AccS (H ++ g) h v cs n s el) {i : Nat} {ρ : Reg} {r : Value} {H' : SHeap} (hr : r = resV H n s) (hH : H' = resH H cs n el) (hv : ρ i = v) : callQ [.tmp i] H.length (r, H', []) .ret ρ [] h [] := by
  subst hr hH; exact A.ret1 hv
theorem AccS.q2 (A : AccS (H ++ g) h v cs n s el) {i j : Nat} {ρ : Reg} {r : Value} {H' : SHeap} (w : Value) (hr : r = .tuple #[resV H n s, w]) (hH : H' = resH H cs n el) (hv : ρ i = v) (hw : ρ j = w) (hf : flat 1 w = true) : callQ [.tmp i, .tmp j] H.length (r, H', []) .ret ρ [] h [] := by
  subst hr hH; exact A.ret2 w hv hw hf
theorem AccS.ofRes (h : SHeap) (el : TypeId) {cs : List Value} {n s : Nat} (hl : cs.length = n * s) (hsc : cs.all sc = true) : AccS h (resH h cs n el) (resV h n s) cs n s el := by
  by_cases hn : n = 0
  · subst hn
    have : cs = [] := by cases cs <;> simp_all
    subst this
    simp only [resH, resV, if_true]
    exact AccS.nil0 h s el
  · simp only [resH, resV, hn, if_false]
    exact ⟨.inr ⟨h.length, [], rfl, by rw [app_get0]; rfl, hl, hn, Nat.le_refl _, hsc, fun c hc => by simp at hc⟩, by simp, fun j hj => List.getElem?_append_left hj⟩
theorem resH_app (h : SHeap) (cs : List Value) (n : Nat) (el : TypeId) : ∃ g, resH h cs n el = h ++ g := by
  unfold resH; split
  · exact ⟨[], by simp⟩
  · exact ⟨_, rfl⟩
theorem AccS.at0 (A : AccS H h v cs n s el) : AccS (H ++ []) h v cs n s el := by rw [List.append_nil]; exact A
theorem resV_pos (h : SHeap) {n : Nat} (s : Nat) (hn : n ≠ 0) : Value.slice (some ⟨h.length, 0, none⟩) n (UNK + s) = resV h n s := by simp [resV, hn]
theorem resH_pos (h : SHeap) (cs : List Value) {n : Nat} (el : TypeId) (hn : n ≠ 0) : h ++ [SO.cells cs el true 0 []] = resH h cs n el := by simp [resH, hn]
end
section
variable {H0 H h : SHeap} {b n o c s : Nat} {cs : List Value} {el : TypeId} {own : Nat} {old : List Nat}
end
end Go.Proofs.Ytioijehbmgmgkaa.Sh

namespace Go.Proofs.Ytioijehbmgmgkaa.Sh
open Go Go.RowKit
section
variable {P : Program} {nt : Nat} {m : Mp} {t : T} {a : Act}
end
end Go.Proofs.Ytioijehbmgmgkaa.Sh

namespace Go.Proofs.Ytioijehbmgmgkaa.Sh
open Go Go.RowKit
section
variable {P : Program} {nt : Nat} {m : Mp} {a : Act} {B : Nat} {w0 : World}
end
end Go.Proofs.Ytioijehbmgmgkaa.Sh

namespace Go.Proofs.Ytioijehbmgmgkaa.Sh
open Go Go.RowKit
section
variable {P : Program} {B : Nat} {w0 : World} {R : Rec}
end
end Go.Proofs.Ytioijehbmgmgkaa.Sh

namespace Go.Proofs.Ytioijehbmgmgkaa.Sh
open Go Go.RowKit
section
variable {R : Rec}
theorem StKeep.trans {cx : Cx} {s s1 s2 : St} (h1 : StKeep cx s s1) (h2 : StKeep cx s1 s2) : StKeep cx s s2 := ⟨h1.1.trans h2.1, fun h => h2.2 (h1.2 h)⟩
end
end Go.Proofs.Ytioijehbmgmgkaa.Sh

namespace Go.Proofs.Ytioijehbmgmgkaa.Sh
open Go Go.RowKit
section
variable {P : Program} {R : Rec}
end
end Go.Proofs.Ytioijehbmgmgkaa.Sh

namespace Go.Proofs.Ytioijehbmgmgkaa.Sh
open Go
set_option maxRecDepth 100000
theorem rep1 : List.replicate 1 SO.gone = [SO.gone] := (rfl)
theorem rep2 : List.replicate 2 SO.gone = [SO.gone, SO.gone] := (rfl)
theorem rep3 : List.replicate 3 SO.gone = [SO.gone, SO.gone, SO.gone] := (rfl)
theorem new_some (h : SHeap) (b : Nat) (cs : List Value) (el : TypeId) (pf : Bool) : newS h (some b) cs el pf = if (!pf || cs.all sc) = true then (match h[b]? with
    | some .gone => some (b, h.set b (.cells cs el pf 0 []))
    | _ => none) else none := (rfl)
attribute [go_sem ↓] rep1 rep2 rep3 new_some
attribute [go_sem] Int.toNat_natCast
def opnB : Value → Bool
  | .bool _ | .int _ _ | .string _ | .pointer _ | .slice _ _ _ | .func _ _ _ | .agg _ | .tuple _ | .map _ | .nilFunc | .nilIface => true
  | _ => false
theorem opn_b {v : Value} {K : Value → Prop} (h : opnB v = true) (k : K v) : opn v K := by
  cases v <;> first | exact k | cases h
def resE (ρ : Reg) (h : SHeap) : List SRes → Option (List Value)
  | [] => some []
  | .tmp i :: r => match resE ρ h r with
    | some l => some (ρ i :: l)
    | none => none
  | .cell agg i :: r => match ρ i with
    | .pointer a => match loadS h agg (.pointer a), resE ρ h r with
      | some v, some l => some (v :: l)
      | _, _ => none
    | _ => none
theorem resE_nil (ρ : Reg) (h : SHeap) : resE ρ h [] = some [] := (rfl)
theorem resE_tmp (ρ : Reg) (h : SHeap) (i : Nat) (r : List SRes) : resE ρ h (.tmp i :: r) = match resE ρ h r with
    | some l => some (ρ i :: l)
    | none => none := (rfl)
theorem resE_cell (ρ : Reg) (h : SHeap) (agg : Option Nat) (i : Nat) (r : List SRes) : resE ρ h (.cell agg i :: r) = match ρ i with
    | .pointer a => match loadS h agg (.pointer a), resE ρ h r with
      | some v, some l => some (v :: l)
      | _, _ => none
    | _ => none := (rfl)
attribute [go_sem ↓] resE_nil resE_tmp resE_cell
theorem resE_ok {ρ : Reg} {h : SHeap} : ∀ {rs : List SRes} {l : List Value} {K : List Value → Prop}, resE ρ h rs = some l → l.all opnB = true → K l → resW ρ h rs K
  | [], l, K, he, ho, k => by cases he; exact k
  | .tmp i :: r, l, K, he, ho, k => by
    rw [resE_tmp] at he
    split at he
    · rename_i l' hl
      cases he
      rw [List.all_cons, Bool.and_eq_true] at ho
      exact opn_b ho.1 (resE_ok (K := fun l => K (ρ i :: l)) hl ho.2 k)
    · cases he
  | .cell agg i :: r, l, K, he, ho, k => by
    rw [resE_cell] at he
    split at he
    · rename_i a ha
      split at he
      · rename_i v l' hv hl
        cases he
        rw [List.all_cons, Bool.and_eq_true] at ho
        show opn (ρ i) fun a => ∃ v, loadS h agg a = some v ∧ opn v fun v => resW ρ h r fun l => K (v :: l)
        rw [ha]
        exact ⟨v, hv, opn_b ho.1 (resE_ok (K := fun l => K (v :: l)) hl ho.2 k)⟩
      · cases he
    · cases he
theorem gc_free {base : Nat} {v : Value} {h : SHeap} (hp : ptrs 3 v = []) (hr : ∀ K, renV base K 3 v = some v) : gcS base v h = some (v, h.take base) := by
  unfold gcS
  rw [hp]
  rw [show (1000000 : Nat) = 999999 + 1 from rfl, reach]
  simp [hr, mapO]
theorem q_any {rs : List SRes} {base : Nat} {ρ : Reg} {ms : List Nat} {h h2 h0 : SHeap} {v : Value} {ex : Ex} (l : List Value) (hs : shut h ms = some h2) (he : resE ρ h2 rs = some l) (ho : l.all opnB = true) (hv : oneV l = v) (hp : ptrs 3 v = []) (hr : ∀ K, renV base K 3 v = some v)
    (ht : h2.take base = h0) (hx : isEnd ex = true) : callQ rs base (v, h0, []) ex ρ ms h [] := by
  refine ⟨hx, ?_⟩
  subst hv ht
  have key : resW ρ h2 rs fun l' => endW base h2 [] (oneV l, h2.take base, []) l' := resE_ok he ho ⟨_, _, gc_free hp hr, rfl⟩
  cases ms with
  | nil =>
    have : h = h2 := by simpa [shut] using hs
    subst this
    exact key
  | cons m ms => exact ⟨h2, hs, key⟩
theorem q_free {rs : List SRes} {base : Nat} {ρ : Reg} {h h0 : SHeap} {v : Value} {ex : Ex} (l : List Value) (he : resE ρ h rs = some l) (ho : l.all opnB = true) (hv : oneV l = v) (hp : ptrs 3 v = []) (hr : ∀ K, renV base K 3 v = some v)
    (ht : h.take base = h0) (hx : isEnd ex = true) : callQ rs base (v, h0, []) ex ρ [] h [] := q_any l rfl he ho hv hp hr ht hx
theorem setLoop_eq {h : SHeap} {L st fn df st' : Nat} {t : T} {ps : List Nat} {as body : SCode} {pd pd' : Option SCode} (e : h[L]? = some (.loop st fn t ps as body pd df)) :
    setLoop h L st' pd' = h.set L (.loop st' fn t ps as body pd' df) := by
  unfold setLoop
  rw [e]
section
variable {FT : FuncId → Option SFunc} {C : Kn}
def zipR (ρ : Reg) : List Nat → List Value → Reg
  | p :: ps, a :: as => zipR (upd ρ p a) ps as
  | _, _ => ρ
theorem zip_get {dep : Nat} : ∀ (ps : List Nat) (as : List Value) (t : T), Full dep t → (ps.all fun k => Nat.blt (k + 1) (2 ^ dep)) = true → Full dep (zipSet t ps as) ∧ (zipSet t ps as).get = zipR t.get ps as
  | [], as, t, hf, _ => by cases as <;> exact ⟨hf, rfl⟩
  | p :: ps, [], t, hf, _ => ⟨hf, rfl⟩
  | p :: ps, a :: as, t, hf, hp => by
    have hp' : Nat.blt (p + 1) (2 ^ dep) = true ∧ (ps.all fun k => Nat.blt (k + 1) (2 ^ dep)) = true := by simpa only [List.all_cons, Bool.and_eq_true] using hp
    have h1 : p + 1 < 2 ^ dep := by simpa using hp'.1
    obtain ⟨k1, k2⟩ := zip_get ps as (t.set p a) (full_set hf) hp'.2
    refine ⟨k1, ?_⟩
    show (zipSet (t.set p a) ps as).get = zipR (upd t.get p a) ps as
    rw [k2, get_set' a hf h1]
theorem round_rule {base L fn df dep : Nat} {t : T} {ps : List Nat} {as body : SCode} {args : List Value} {hh : SHeap} {ρ : Reg} (P : Value × SHeap × List Nat → Prop)
    (hL : hh[L]? = some (.loop 0 fn t ps as body none df)) (hf : Full dep t) (ht : t.get = ρ) (hps : (ps.all fun k => Nat.blt (k + 1) (2 ^ dep)) = true) (hlen : args.length = ps.length)
    (w : Run (big FT C) ⟨base, some L, fn⟩ dep as [] (zipR ρ ps args) [] hh [] (fun ex ρ1 ms1 h1 d1 => ex = .normal ∧ (∃ fn' t' ps' as' body' df', h1[L]? = some (.loop 0 fn' t' ps' as' body' none df')) ∧
      Run (big FT C) ⟨base, some L, fn⟩ dep body [] ρ1 ms1 (setLoop h1 L 1 none) d1 (fun ex2 ρ2 ms2 h2 d2 => (∃ st' fn' t' ps' as' body' pd df', h2[L]? = some (.loop st' fn' t' ps' as' body' pd df')) ∧
        P (.bool (exNormal ex2), setLoop h2 L (if exNormal ex2 = true then 0 else 2) (exCode ex2), d2)))) : ∃ r, P r ∧ (big FT C).round base L args hh = some r := by
  subst ht
  obtain ⟨k1, k2⟩ := zip_get ps args t hf hps
  unfold Run Ends at w
  obtain ⟨ex, t1, ms1, h1, d1, e1, f1, rfl, ⟨fn', t', ps', as', body', df', e2⟩, w2⟩ := w (zipSet t ps args) k1 k2
  unfold Ends at w2
  obtain ⟨ex2, t2, ms2, h2, d2, e3, f2, ⟨st3, fn3, t3, ps3, as3, body3, pd3, df3, e4⟩, hP⟩ := w2 t1 f1 rfl
  refine ⟨_, hP, big_round ?_⟩
  unfold stepRound
  simp only [hL, beq_iff_eq, hlen, if_true, fZip_eq, fH_eq, e1, e2, e3, e4]
end
theorem call_ex {FT : FuncId → Option SFunc} {C : Kn} {f : FuncId} {args : List Value} {h : SHeap} (P : Value × SHeap × List Nat → Prop) (sf : SFunc) (hf : FT f = some sf) (hC : C f args h = none) (hl : Nat.blt args.length (2 ^ sf.dep) = true)
    (hw : Run (big FT C) ⟨h.length, none, f⟩ sf.dep sf.body [] (argR args) [] h [] (fun ex ρ ms h' d => ∃ r, P r ∧ callQ sf.res h.length r ex ρ ms h' d)) : ∃ r, P r ∧ (big FT C).call f args h = some r := by
  obtain ⟨k1, k2⟩ := args_get (dep := sf.dep) args (by simpa using hl)
  have hw' : RunW (big FT C) ⟨h.length, none, f⟩ sf.dep sf.body (argR args) [] h [] (fun ex ρ ms h' d => ∃ r, P r ∧ callQ sf.res h.length r ex ρ ms h' d) := by
    have := hw
    unfold Run at this
    unfold Ends at this
    exact this
  obtain ⟨ex, t', ms', h', d', e, f1, r, hr, k, k3⟩ := hw' _ k1 k2
  refine ⟨r, hr, big_call hC ?_⟩
  unfold stepCall
  rw [hf]
  simp only [hl, if_true, fNat_eq, fFill_eq]
  rw [e]
  cases ex with
  | normal => exact finW_ok rfl k3
  | ret => exact finW_ok rfl k3
  | exit id => cases k
theorem call_yield (R : Rec) (base l : Nat) (h : SHeap) (d : List Nat) (args : List Value) : callS R base h d (.func (.yield l) #[] #[]) args = match R.round base l args h with
    | some (v, h', d') => some (v, h', d' ++ d)
    | none => none := by simp [callS]; rfl
theorem zipR_nil (ρ : Reg) (as : List Value) : zipR ρ [] as = ρ := by cases as <;> rfl
theorem zipR_cons (ρ : Reg) (p : Nat) (ps : List Nat) (a : Value) (as : List Value) : zipR ρ (p :: ps) (a :: as) = zipR (upd ρ p a) ps as := (rfl)
attribute [go_sem ↓] call_yield zipR_nil zipR_cons
end Go.Proofs.Ytioijehbmgmgkaa.Sh

namespace Go.Proofs.Ytioijehbmgmgkaa.Sh
open Go
set_option maxRecDepth 100000
section
variable {E : Type}
def swp (f : Nat → E) (i j : Nat) : Nat → E := fun k => if k = i then f j else if k = j then f i else f k
theorem swp_l (f : Nat → E) (i j : Nat) : swp f i j i = f j := by simp [swp]
theorem swp_r (f : Nat → E) (i j : Nat) : swp f i j j = f i := by
  unfold swp; by_cases e : j = i
  · rw [if_pos e, e]
  · rw [if_neg e, if_pos rfl]
theorem swp_o (f : Nat → E) {i j k : Nat} (h1 : k ≠ i) (h2 : k ≠ j) : swp f i j k = f k := by simp [swp, h1, h2]
inductive Sw (a b : Nat) (f : Nat → E) : (Nat → E) → Prop
  | refl : Sw a b f f
  | step {g : Nat → E} {i j : Nat} : Sw a b f g → a ≤ i → i < b → a ≤ j → j < b → Sw a b f (swp g i j)
theorem Sw.trans {a b : Nat} {f g k : Nat → E} (h : Sw a b f g) (h2 : Sw a b g k) : Sw a b f k := by
  induction h2 with
  | refl => exact h
  | step _ a1 a2 a3 a4 ih => exact ih.step a1 a2 a3 a4
theorem Sw.mono {a b a' b' : Nat} {f g : Nat → E} (h : Sw a b f g) (ha : a' ≤ a) (hb : b ≤ b') : Sw a' b' f g := by
  induction h with
  | refl => exact .refl
  | step _ a1 a2 a3 a4 ih => exact ih.step (by omega) (by omega) (by omega) (by omega)
theorem Sw.out {a b : Nat} {f g : Nat → E} (h : Sw a b f g) {i : Nat} (hi : i < a ∨ b ≤ i) : g i = f i := by
  induction h with
  | refl => rfl
  | step _ a1 a2 a3 a4 ih => rw [swp_o _ (by omega) (by omega), ih]
theorem Sw.all {a b : Nat} {f g : Nat → E} (h : Sw a b f g) {P : E → Prop} (hp : ∀ i, a ≤ i → i < b → P (f i)) : ∀ i, a ≤ i → i < b → P (g i) := by
  induction h with
  | refl => exact hp
  | @step g i j _ a1 a2 a3 a4 ih =>
    intro k k1 k2
    by_cases e1 : k = i
    · subst e1; rw [swp_l]; exact ih j a3 a4
    · by_cases e2 : k = j
      · subst e2; rw [swp_r]; exact ih i a1 a2
      · rw [swp_o _ e1 e2]; exact ih k k1 k2
theorem Sw.one {a b i j : Nat} (f : Nat → E) (a1 : a ≤ i) (a2 : i < b) (a3 : a ≤ j) (a4 : j < b) : Sw a b f (swp f i j) := Sw.refl.step a1 a2 a3 a4
theorem perm_swap_range {n i j : Nat} (f : Nat → E) (hi : i < n) (hj : j < n) : ((List.range n).map (swp f i j)).Perm ((List.range n).map f) := by
  have key : ∀ (i j : Nat) (f : Nat → E), i < j → j < n → ((List.range n).map (swp f i j)).Perm ((List.range n).map f) := by
    intro i j f hij hj
    have e1 : List.range n = List.range i ++ (i :: ((List.range (j - i - 1)).map (· + (i + 1)) ++ (j :: (List.range (n - j - 1)).map (· + (j + 1))))) := by
      apply List.ext_getElem?
      intro k
      by_cases k1 : k < i
      · rw [List.getElem?_append_left (by simpa using k1)]
        simp [k1, show k < n by omega]
      · rw [List.getElem?_append_right (by simp; omega)]
        simp only [List.length_range]
        by_cases k2 : k = i
        · subst k2; rw [Nat.sub_self, List.getElem?_range (by omega)]; rfl
        · obtain ⟨m, rfl⟩ : ∃ m, k = i + 1 + m := ⟨k - i - 1, by omega⟩
          rw [show i + 1 + m - i = m + 1 by omega, List.getElem?_cons_succ]
          by_cases k3 : m < j - i - 1
          · rw [List.getElem?_append_left (by simpa using k3)]
            simp [k3, show i + 1 + m < n by omega]; omega
          · rw [List.getElem?_append_right (by simp; omega)]
            simp only [List.length_map, List.length_range]
            by_cases k4 : m = j - i - 1
            · subst k4; rw [Nat.sub_self, List.getElem?_range (by omega)]; show some _ = some _; congr 1; omega
            · obtain ⟨q, hq⟩ : ∃ q, m - (j - i - 1) = q + 1 := ⟨m - (j - i - 1) - 1, by omega⟩
              rw [hq, List.getElem?_cons_succ]
              by_cases k5 : q < n - j - 1
              · simp [k5, show i + 1 + m < n by omega]; omega
              · rw [List.getElem?_eq_none (by simp; omega), List.getElem?_eq_none (by simp; omega)]
    rw [e1]
    simp only [List.map_append, List.map_cons, List.map_map]
    have m1 : (List.range i).map (swp f i j) = (List.range i).map f := List.map_congr_left (fun k hk => swp_o f (by have := List.mem_range.1 hk; omega) (by have := List.mem_range.1 hk; omega))
    have m2 : (List.range (j - i - 1)).map (swp f i j ∘ (· + (i + 1))) = (List.range (j - i - 1)).map (f ∘ (· + (i + 1))) := List.map_congr_left (fun k hk => swp_o f (by show k + (i + 1) ≠ i; omega) (by have := List.mem_range.1 hk; show k + (i + 1) ≠ j; omega))
    have m3 : (List.range (n - j - 1)).map (swp f i j ∘ (· + (j + 1))) = (List.range (n - j - 1)).map (f ∘ (· + (j + 1))) := List.map_congr_left (fun k hk => swp_o f (by show k + (j + 1) ≠ i; omega) (by show k + (j + 1) ≠ j; omega))
    rw [m1, m2, m3, swp_l, swp_r]
    refine List.Perm.append_left _ ?_
    -- f j :: m ++ f i :: r  ~  f i :: m ++ f j :: r
    have p1 : (f j :: (((List.range (j - i - 1)).map (f ∘ (· + (i + 1)))) ++ (f i :: (List.range (n - j - 1)).map (f ∘ (· + (j + 1)))))).Perm (f j :: f i :: (((List.range (j - i - 1)).map (f ∘ (· + (i + 1)))) ++ (List.range (n - j - 1)).map (f ∘ (· + (j + 1))))) := List.Perm.cons _ List.perm_middle
    have p2 : (f i :: (((List.range (j - i - 1)).map (f ∘ (· + (i + 1)))) ++ (f j :: (List.range (n - j - 1)).map (f ∘ (· + (j + 1)))))).Perm (f i :: f j :: (((List.range (j - i - 1)).map (f ∘ (· + (i + 1)))) ++ (List.range (n - j - 1)).map (f ∘ (· + (j + 1))))) := List.Perm.cons _ List.perm_middle
    exact p1.trans ((List.Perm.swap _ _ _).trans p2.symm)
  by_cases c : i < j
  · exact key i j f c hj
  · by_cases c2 : i = j
    · subst c2
      have : swp f i i = f := by
        funext k
        by_cases e : k = i
        · subst e; rw [swp_l]
        · rw [swp_o f e e]
      rw [this]
    · have : swp f i j = swp f j i := by
        funext k
        unfold swp
        by_cases e1 : k = i
        · by_cases e2 : k = j
          · omega
          · rw [if_pos e1, if_neg e2, if_pos e1]
        · by_cases e2 : k = j
          · rw [if_neg e1, if_pos e2, if_pos e2]
          · rw [if_neg e1, if_neg e2, if_neg e2, if_neg e1]
      rw [this]
      exact key j i f (by omega) hi
theorem Sw.perm {a b n : Nat} {f g : Nat → E} (h : Sw a b f g) (hb : b ≤ n) : ((List.range n).map g).Perm ((List.range n).map f) := by
  induction h with
  | refl => exact .refl _
  | step _ a1 a2 a3 a4 ih => exact (perm_swap_range _ (by omega) (by omega)).trans ih
variable (cel : E → List Value) (s : Nat)
def flF (f : Nat → E) : Nat → List Value
  | 0 => []
  | n + 1 => flF f n ++ cel (f n)
variable {cel s}
theorem flF_len (hl : ∀ x, (cel x).length = s) (f : Nat → E) : ∀ n, (flF cel f n).length = n * s
  | 0 => by simp [flF]
  | n + 1 => by simp [flF, flF_len hl f n, hl, Nat.add_mul]
theorem flF_at (hl : ∀ x, (cel x).length = s) (f : Nat → E) : ∀ {n i : Nat}, i < n → ((flF cel f n).drop (i * s)).take s = cel (f i)
  | 0, i, h => by omega
  | n + 1, i, h => by
    have h1 := flF_len hl f n
    show ((flF cel f n ++ cel (f n)).drop (i * s)).take s = cel (f i)
    by_cases e : i = n
    · subst e
      rw [List.drop_append, List.drop_eq_nil_of_le (by omega), List.nil_append, h1, Nat.sub_self, List.drop_zero, List.take_of_length_le (by rw [hl]; exact Nat.le_refl _)]
    · have h2 : i * s + s ≤ n * s := by
        have := Nat.mul_le_mul_right s (show i + 1 ≤ n by omega)
        rw [Nat.add_mul] at this; omega
      rw [List.drop_append_of_le_length (by omega), List.take_append_of_le_length (by simp; omega)]
      exact flF_at hl f (by omega)
theorem write_get : ∀ (v cs : List Value) (o k : Nat), o + v.length ≤ cs.length → (writeAt cs o v)[k]? = if o ≤ k ∧ k < o + v.length then v[k - o]? else cs[k]?
  | [], cs, o, k, h => by
    rw [write_nil, if_neg (by simp)]
  | x :: v, cs, o, k, h => by
    simp only [List.length_cons] at h
    rw [write_cons, write_get v _ _ _ (by simp; omega)]
    simp only [List.length_cons]
    by_cases c1 : o + 1 ≤ k ∧ k < o + 1 + v.length
    · rw [if_pos c1, if_pos (by omega), show k - o = (k - (o + 1)) + 1 by omega, List.getElem?_cons_succ]
    · rw [if_neg c1]
      by_cases c2 : k = o
      · subst c2
        rw [if_pos (by omega), List.getElem?_set_self (by omega), Nat.sub_self]; rfl
      · rw [if_neg (by omega), List.getElem?_set_ne (by omega)]
theorem flF_get (hl : ∀ x, (cel x).length = s) (f : Nat → E) : ∀ {n i k : Nat}, i < n → k < s → (flF cel f n)[i * s + k]? = (cel (f i))[k]? := by
  intro n i k hi hk
  rw [← flF_at hl f hi, List.getElem?_take, if_pos hk, List.getElem?_drop]
theorem flF_write (hl : ∀ x, (cel x).length = s) (hs : 0 < s) {f g : Nat → E} {n i : Nat} (hi : i < n) (hg : ∀ k, k ≠ i → g k = f k) : writeAt (flF cel f n) (i * s) (cel (g i)) = flF cel g n := by
  have hfit : i * s + s ≤ n * s := by
    have := Nat.mul_le_mul_right s (show i + 1 ≤ n by omega)
    rw [Nat.add_mul] at this; omega
  apply List.ext_getElem?
  intro k
  rw [write_get _ _ _ _ (by rw [flF_len hl, hl]; exact hfit), hl]
  by_cases hk : k < n * s
  · have hd : k = k / s * s + k % s := by rw [Nat.mul_comm]; exact (Nat.div_add_mod k s).symm
    have hq : k / s < n := Nat.div_lt_of_lt_mul (by rw [Nat.mul_comm]; exact hk)
    have hr : k % s < s := Nat.mod_lt _ hs
    by_cases e : k / s = i
    · rw [if_pos (by rw [← e]; omega)]
      have h2 : k - i * s = k % s := by rw [← e]; omega
      rw [h2]
      conv => rhs; rw [hd]
      rw [flF_get hl g hq hr, e]
    · rw [if_neg]
      · conv => lhs; rw [hd]
        conv => rhs; rw [hd]
        rw [flF_get hl f hq hr, flF_get hl g hq hr, hg _ e]
      · rintro ⟨h1, h2⟩
        apply e
        exact Nat.div_eq_of_lt_le h1 (by rw [Nat.succ_mul]; exact h2)
  · rw [if_neg (by omega), List.getElem?_eq_none (by rw [flF_len hl]; omega), List.getElem?_eq_none (by rw [flF_len hl]; omega)]
structure SA (cel : E → List Value) (n B : Nat) (el : TypeId) (h0 : SHeap) (old0 : List Nat) (h : SHeap) (f : Nat → E) : Prop where
  len : h.length = h0.length
  same : ∀ j, j ≠ B → j ∉ old0 → h[j]? = h0[j]?
  at_ : ∃ old, (∀ c ∈ old, c ∈ old0) ∧ h[B]? = some (.cells (flF cel f n) el true 0 old)
theorem killAll_same : ∀ (l : List Nat) (h : SHeap) {j : Nat}, j ∉ l → (killAll h l)[j]? = h[j]? := by
  intro l
  induction l with
  | nil => intro h j _; rfl
  | cons b l ih =>
    intro h j hj
    unfold killAll
    rw [List.foldl_cons]
    have := ih (kill h b) (j := j) (fun e => hj (List.mem_cons_of_mem _ e))
    unfold killAll at this
    rw [this]
    unfold kill
    split
    · rw [List.getElem?_set_ne (fun e => hj (by rw [e]; exact List.mem_cons_self))]
    · rfl
variable {n B : Nat} {el : TypeId} {h0 h : SHeap} {old0 : List Nat} {f : Nat → E}
theorem SA.lt (S : SA cel n B el h0 old0 h f) : B < h.length := by
  obtain ⟨old, _, e⟩ := S.at_
  exact (List.getElem?_eq_some_iff.1 e).1
theorem SA.load (S : SA cel n B el h0 old0 h f) (hl : ∀ x, (cel x).length = s) {i : Nat} (hi : i < n) : loadS h (some s) (.pointer (some ⟨B, i * s, none⟩)) = some (.agg (cel (f i)).toArray) := by
  obtain ⟨old, _, e⟩ := S.at_
  have hfit : i * s + s ≤ n * s := by
    have := Nat.mul_le_mul_right s (show i + 1 ≤ n by omega)
    rw [Nat.add_mul] at this; omega
  rw [load_rdON, e, rdON_cells, readable_0, ble_dec, decide_eq_true (by rw [flF_len hl]; exact hfit), Bool.and_self, if_pos rfl, flF_at hl f hi]
theorem SA.store (S : SA cel n B el h0 old0 h f) (hl : ∀ x, (cel x).length = s) (hc : ∀ x, (cel x).all sc = true) (hs : 0 < s) {i : Nat} (hi : i < n) {g : Nat → E} (hg : ∀ k, k ≠ i → g k = f k) :
    ∃ h1, (∀ base d, storeS base h d B (i * s) (cel (g i)) = some (h1, d)) ∧ SA cel n B el h0 old0 h1 g := by
  obtain ⟨old, ho, e⟩ := S.at_
  have hfit : i * s + s ≤ n * s := by
    have := Nat.mul_le_mul_right s (show i + 1 ≤ n by omega)
    rw [Nat.add_mul] at this; omega
  have hB := S.lt
  refine ⟨(killAll h old).set B (.cells (flF cel g n) el true 0 []), fun base d => ?_, ?_⟩
  · have c1 := hc (g i)
    have c2 := all_sc_one _ c1
    have c3 : (cel (g i)).length = s := hl _
    rw [store_def, e]
    dsimp only
    rw [if_pos (by rw [c2, c1, ble_dec, blt_dec, c3, decide_eq_true (by rw [flF_len hl]; exact hfit), decide_eq_true hs]; rfl), flF_write hl hs hi hg, dirty_pf]
  · refine ⟨by simp [killAll_len _ _, S.len], fun j hj hjo => ?_, [], fun c hc => by simp at hc, ?_⟩
    · rw [List.getElem?_set_ne (fun e => hj e.symm), killAll_same _ _ (fun e => hjo (ho j e))]
      exact S.same j hj hjo
    · rw [List.getElem?_set_self (by rw [killAll_len]; exact hB)]
theorem SA.swap (S : SA cel n B el h0 old0 h f) (hl : ∀ x, (cel x).length = s) (hc : ∀ x, (cel x).all sc = true) (hs : 0 < s) {i j : Nat} (hi : i < n) (hj : j < n) :
    ∃ h1 h2, (∀ base d, storeS base h d B (i * s) (cellsL (.agg (cel (f j)).toArray)) = some (h1, d)) ∧ (∀ base d, storeS base h1 d B (j * s) (cellsL (.agg (cel (f i)).toArray)) = some (h2, d)) ∧ SA cel n B el h0 old0 h2 (swp f i j) := by
  obtain ⟨h1, e1, S1⟩ := S.store hl hc hs hi (g := fun k => if k = i then f j else f k) (fun k hk => by simp [hk])
  simp only [if_true] at e1
  obtain ⟨h2, e2, S2⟩ := S1.store hl hc hs hj (g := swp f i j) (fun k hk => by
    by_cases e : k = i
    · subst e; rw [swp_l]; simp
    · rw [swp_o f e hk]; simp [e])
  rw [swp_r] at e2
  exact ⟨h1, h2, e1, e2, S2⟩
theorem SA.trans {h1 h2 : SHeap} {old1 : List Nat} {g k : Nat → E} (S : SA cel n B el h0 old0 h1 g) (S2 : SA cel n B el h1 old1 h2 k) (ho : ∀ c ∈ old1, c ∈ old0) : SA cel n B el h0 old0 h2 k :=
  ⟨by rw [S2.len, S.len], fun j a b => by rw [S2.same j a (fun e => b (ho j e)), S.same j a b], let ⟨o, p, q⟩ := S2.at_; ⟨o, fun c hc => ho c (p c hc), q⟩⟩
theorem SA.take (S : SA cel n B el h0 old0 h f) : h.take h0.length = h := List.take_of_length_le (by rw [S.len]; exact Nat.le_refl _)
end
structure Cmp {E : Type} (M : Rec) (g : FuncId) (cel : E → List Value) (c : E → E → Int) : Prop where
  call : ∀ x y h, M.call g [.agg (cel x).toArray, .agg (cel y).toArray] h = some (.int .i64 (c x y), h, [])
  irr : ∀ x, ¬ c x x < 0
  asym : ∀ x y, c x y < 0 → ¬ c y x < 0
  ntr : ∀ x y z, ¬ c x y < 0 → ¬ c y z < 0 → ¬ c x z < 0
section
variable {E : Type} {M : Rec} {g : FuncId} {cel : E → List Value} {c : E → E → Int}
theorem Cmp.trans (C : Cmp M g cel c) {x y z : E} (h1 : c x y < 0) (h2 : ¬ c z y < 0) : c x z < 0 := by
  by_cases e : c x z < 0
  · exact e
  · exact (C.ntr _ _ _ e h2 h1).elim
def Ord (c : E → E → Int) (a b : Nat) (f : Nat → E) : Prop := ∀ i j, a ≤ i → i < j → j < b → ¬ c (f j) (f i) < 0
theorem Ord.nil (c : E → E → Int) {a b : Nat} (h : b ≤ a + 1) (f : Nat → E) : Ord c a b f := fun i j h1 h2 h3 => by omega
theorem Ord.congr {a b : Nat} {f k : Nat → E} (h : Ord c a b f) (e : ∀ i, a ≤ i → i < b → k i = f i) : Ord c a b k := fun i j h1 h2 h3 => by
  rw [e i h1 (by omega), e j (by omega) h3]; exact h i j h1 h2 h3
theorem Ord.mono {a b a' b' : Nat} {f : Nat → E} (h : Ord c a b f) (ha : a ≤ a') (hb : b' ≤ b) : Ord c a' b' f := fun i j h1 h2 h3 => h i j (by omega) h2 (by omega)
theorem Ord.snoc (C : Cmp M g cel c) {a b : Nat} {f : Nat → E} (h : Ord c a b f) (hl : a < b → ¬ c (f b) (f (b - 1)) < 0) : Ord c a (b + 1) f := by
  intro i j h1 h2 h3
  by_cases e : j = b
  · subst e
    by_cases e2 : i = j - 1
    · subst e2; exact hl (by omega)
    · exact C.ntr _ _ _ (hl (by omega)) (h i (j - 1) h1 (by omega) (by omega))
  · exact h i j h1 h2 (by omega)
end
end Go.Proofs.Ytioijehbmgmgkaa.Sh

namespace Go.Proofs.Ytioijehbmgmgkaa.Sh
open Go Go.RowKit
section
variable {F : (Rec → Prop) → Prop} {R : Rec}
theorem Big.list (B : Big F R) {α : Type} {p : α → Rec → Prop} : ∀ {l : List α}, (∀ x ∈ l, F (p x)) → F (fun R => ∀ x ∈ l, p x R)
  | [], _ => B.all (fun R x hx => by cases hx)
  | a :: l, h => B.mono (fun R hR x hx => by
      rcases List.mem_cons.1 hx with rfl | hx
      · exact hR.1
      · exact hR.2 x hx) (B.both (h a (by simp)) (B.list (l := l) (fun x hx => h x (by simp [hx]))))
theorem Big.mapO (B : Big F R) {α β : Type} {f : Rec → α → Option β} (hf : ∀ a r, f R a = some r → F (fun R' => f R' a = some r)) : ∀ {l : List α} {r : List β}, Sh.mapO (f R) l = some r → F (fun R' => Sh.mapO (f R') l = some r)
  | [], r, h => B.all (fun R => h)
  | a :: l, r, h => by
    unfold Sh.mapO at h
    split at h
    · rename_i z zs h1 h2
      refine B.mono (fun R' hR => ?_) (B.both (hf a z h1) (B.mapO hf h2))
      unfold Sh.mapO
      rw [hR.1, hR.2]; exact h
    · cases h
end
section
variable {P : Program} {B : Nat} {w0 : World} {R : Rec}
end
section
variable {R : Rec}
end
end Go.Proofs.Ytioijehbmgmgkaa.Sh

namespace Go.Proofs.Ytioijehbmgmgkaa.Sh
open Go Go.RowKit
section
variable {R : Rec} {cx : Cx} {dep : Nat} {c a b : SCode} {ρ : Reg} {ms : List Nat} {h : SHeap} {d : List Nat} {Q : Post}
end
section
variable {R : Rec}
end
section
variable {P : Program}
variable {FT : FuncId → Option SFunc} {C : Kn}
end
end Go.Proofs.Ytioijehbmgmgkaa.Sh

namespace Go.Proofs.Ytioijehbmgmgkaa.Sh
open Go
end Go.Proofs.Ytioijehbmgmgkaa.Sh

namespace Go.Proofs.Ytioijehbmgmgkaa.Sh
open Go
set_option maxRecDepth 100000
theorem wrapU {x : Int} (h1 : 0 ≤ x) (h2 : x ≤ 18446744073709551615) : IntKind.u64.wrap x = x := by
  have e1 : IntKind.u64.wrap x = x % 18446744073709551616 := by simp [IntKind.wrap, IntKind.signed, IntKind.bits]
  rw [e1]; omega
section
variable {h : SHeap}
theorem store_cell {b o base : Nat} {cs : List Value} {c : Value} {el : TypeId} {pf : Bool} (hb : h[b]? = some (.cells cs el pf 0 [])) (ho : o < cs.length) (h1 : oneC c = true) (hp : pf = true → sc c = true) (d : List Nat) : storeS base h d b o [c] = some (h.set b (.cells (cs.set o c) el pf 0 []), dirty base b pf d) := by
  rw [store_def, hb]
  dsimp only
  have e1 : ((0 : Nat) == 0) = true := rfl
  have e2 : Nat.ble (o + [c].length) cs.length = true := by rw [ble_dec]; simp; omega
  have e3 : Nat.blt 0 [c].length = true := rfl
  have e4 : (!pf || [c].all sc) = true := by
    cases pf with
    | false => rfl
    | true => simp [hp rfl]
  have e5 : [c].all oneC = true := by simp [h1]
  rw [e1, e2, e3, e4, e5]
  rfl
theorem store_at {b base : Nat} {cs vs : List Value} {el : TypeId} {pf : Bool} (hb : h[b]? = some (.cells cs el pf 0 [])) (hlen : vs.length = cs.length) (h0 : 0 < vs.length) (h1 : vs.all oneC = true) (hp : pf = true → vs.all sc = true) (d : List Nat) : storeS base h d b 0 vs = some (h.set b (.cells vs el pf 0 []), dirty base b pf d) := by
  have hw : ∀ (vs cs pre : List Value), vs.length = cs.length → writeAt (pre ++ cs) pre.length vs = pre ++ vs := by
    intro vs
    induction vs with
    | nil => intro cs pre h; rw [List.length_eq_zero_iff.1 h.symm]; rfl
    | cons v vs ih =>
      intro cs pre h
      cases cs with
      | nil => simp at h
      | cons c cs =>
        show writeAt ((pre ++ c :: cs).set pre.length v) (pre.length + 1) vs = _
        have e : (pre ++ c :: cs).set pre.length v = (pre ++ [v]) ++ cs := by simp
        have := ih cs (pre ++ [v]) (by simpa using h)
        rw [List.length_append, List.length_singleton] at this
        rw [e, this]; simp
  have hw0 := hw vs cs [] hlen
  rw [List.nil_append, List.nil_append] at hw0
  rw [store_def, hb]
  dsimp only
  have e1 : ((0 : Nat) == 0) = true := rfl
  have e2 : Nat.ble (0 + vs.length) cs.length = true := by rw [ble_dec]; simp; omega
  have e3 : Nat.blt 0 vs.length = true := by rw [blt_dec]; simpa using h0
  have e4 : (!pf || vs.all sc) = true := by
    cases pf with
    | false => rfl
    | true => rw [hp rfl]; rfl
  rw [e1, e2, e3, e4, h1]
  simp only [List.length_nil] at hw0
  rw [hw0]
  rfl
theorem dirty_own {base b : Nat} {pf : Bool} {d : List Nat} (h : base ≤ b) : dirty base b pf d = d := by
  unfold dirty
  have : Nat.ble base b = true := by rw [ble_dec]; simpa using h
  rw [this]; simp
theorem load_same' {h' : SHeap} {b o : Nat} (e : h'[b]? = h[b]?) (t : Option Nat) : loadS h' t (.pointer (some ⟨b, o, none⟩)) = loadS h t (.pointer (some ⟨b, o, none⟩)) := by
  cases t with
  | none => rw [load_rdO, load_rdO, e]
  | some n => rw [load_rdON, load_rdON, e]
end
theorem Acc.lo {lo lo' : Nat} {h : SHeap} {v : Value} {cs : List Value} {n s : Nat} {el : TypeId} (a : Acc lo h v cs n s el) (hl : lo' ≤ lo) : Acc lo' h v cs n s el := by
  rcases a with a | ⟨b, old, h0, h1, h2, h3, h4, h5, h6⟩
  · exact .inl a
  · exact .inr ⟨b, old, h0, h1, h2, h3, by omega, h5, fun c hc => ⟨by have := (h6 c hc).1; omega, (h6 c hc).2⟩⟩
theorem cells_map (r : Option Nat) : cellsL (.map r) = [.map r] := (rfl)
theorem one_map (r : Option Nat) : oneC (.map r) = true := (rfl)
theorem cells_func (f : Fn) (a b : Array Value) : cellsL (.func f a b) = [.func f a b] := (rfl)
theorem one_func (f : Fn) (a b : Array Value) : oneC (.func f a b) = true := (rfl)
theorem one_nilfunc : oneC .nilFunc = true := (rfl)
theorem cells_nilfunc : cellsL .nilFunc = [.nilFunc] := (rfl)
theorem call_clo (R : Rec) (base : Nat) (h : SHeap) (d : List Nat) (g : FuncId) (first cap : Array Value) (args : List Value) : callS R base h d (.func (.func g) first cap) args = match R.call g (first.toList ++ args ++ cap.toList) h with
    | some (v, h', d') => some (v, h', dirts base d' d)
    | none => none := (rfl)
attribute [go_sem ↓] cells_map one_map cells_func one_func one_nilfunc cells_nilfunc
attribute [go_sem] call_clo
def updV (cx : Cx) (q : EqK) (m k v : Option Value) (h : SHeap) (d : List Nat) : Option (Value × SHeap × List Nat) :=
  match m, k, v with
    | some (.map (some r)), some k, some v =>
      if keyS q k then
      match h[r]? with
      | some (.map pf es) =>
        if !pf || ((cellsL k).all sc && (cellsL v).all sc) then
          match updS q k v es with
          | some es' => some (udf, h.set r (.map pf es'), dirty cx.base r pf d)
          | none => none
        else none
      | _ => none
      else none
    | _, _, _ => none
def lookV (q : EqK) (zero : Value) (ok : Bool) (m k : Option Value) (h : SHeap) (d : List Nat) : Option (Value × SHeap × List Nat) :=
  match m, k with
    | some (.map (some r)), some k =>
      if keyS q k then
      match h[r]? with
      | some (.map _ es) => match findS q k es with
        | some (some v) => some (if ok then .tuple #[v, .bool true] else v, h, d)
        | some none => some (if ok then .tuple #[zero, .bool false] else zero, h, d)
        | none => none
      | _ => none
      else none
    | _, _ => none
theorem E_mapUpdate (R : Rec) (cx : Cx) (e : Evl) (sl : Option Nat) (q : EqK) (m k v : Operand) (h : SHeap) (d : List Nat) : opE R cx e sl (.mapUpdate q m k v) h d = updV cx q (e m) (e k) (e v) h d := (rfl)
theorem E_makeMap (R : Rec) (cx : Cx) (e : Evl) (sl : Option Nat) (pf : Bool) (h : SHeap) (d : List Nat) : opE R cx e sl (.makeMap pf) h d = some (.map (some h.length), h ++ [.map pf []], d) := (rfl)
theorem E_lookup (R : Rec) (cx : Cx) (e : Evl) (sl : Option Nat) (q : EqK) (zero : Value) (ok : Bool) (m k : Operand) (h : SHeap) (d : List Nat) : opE R cx e sl (.lookup q zero ok m k) h d = lookV q zero ok (e m) (e k) h d := (rfl)
theorem E_makeSlice (R : Rec) (cx : Cx) (e : Evl) (sl : Option Nat) (el : TypeId) (pf : Bool) (bytes : Nat) (zero : List Value) (l c : Operand) (h : SHeap) (d : List Nat) : opE R cx e sl (.makeSlice el pf bytes zero l c) h d = match e l, e c with
    | some (.int _ l), some (.int _ c) =>
      if decide (0 ≤ l) && decide (l ≤ c) && decide (c ≤ 1073741824) && Nat.ble (c.toNat * bytes) 140737488355328 then
        match newS h none (repeatL zero c.toNat) el pf with
        | some (b, h') => some (.slice (some ⟨b, 0, none⟩) l.toNat c.toNat, h', d)
        | none => none
      else none
    | _, _ => none := (rfl)
attribute [go_sem] E_mapUpdate E_makeMap E_lookup E_makeSlice
theorem updV_ok (cx : Cx) {q : EqK} {r : Nat} {k v : Value} {es es' : List (Value × Value)} {h : SHeap} (d : List Nat) (hk : keyS q k = true) (hm : h[r]? = some (.map true es)) (hs : ((cellsL k).all sc && (cellsL v).all sc) = true) (hu : updS q k v es = some es') : updV cx q (some (.map (some r))) (some k) (some v) h d = some (udf, h.set r (.map true es'), d) := by
  unfold updV
  dsimp only
  rw [hk, if_pos rfl, hm]
  dsimp only
  rw [hs, hu]
  rfl
def lkR (zero : Value) (ok : Bool) : Option Value → Value
  | some v => if ok then .tuple #[v, .bool true] else v
  | none => if ok then .tuple #[zero, .bool false] else zero
theorem lookV_ok {q : EqK} {zero : Value} {ok : Bool} {r : Nat} {k : Value} {pf : Bool} {es : List (Value × Value)} {h : SHeap} (d : List Nat) (hk : keyS q k = true) (hm : h[r]? = some (.map pf es)) {o : Option Value} (hf : findS q k es = some o) :
    lookV q zero ok (some (.map (some r))) (some k) h d = some (lkR zero ok o, h, d) := by
  unfold lookV
  dsimp only
  rw [hk, if_pos rfl, hm]
  dsimp only
  rw [hf]
  cases o <;> rfl
end Go.Proofs.Ytioijehbmgmgkaa.Sh

