/- Sorting: bits.Len, the next power of two, and the numbers of xorshift. -/
import Derived.Test.YtdmfhdnpakgkpaaDoorShSo
import Derived.Test.YtdmfhdnpakgkpaaDoorGb
set_option linter.all false
/- Sorting: bits.Len, the next power of two, and the numbers of xorshift. -/
namespace Go.Proofs.YtdmfhdnpakgkpaaDoor.Sh
open Go
set_option maxRecDepth 100000
set_option maxHeartbeats 4000000

theorem b_shl {k k' : IntKind} {a b : Int} (h : 0 ≤ b) : binS .shl (.int k a) (.int k' b) = some (.int k (k.wrap (a * 2 ^ (min b.toNat k.bits)))) := by
  show pureRun (Op.shift .shl k a k' b) = _
  unfold Op.shift
  rw [if_neg (by omega)]
  rfl
theorem b_shr {k k' : IntKind} {a b : Int} (h : 0 ≤ b) : binS .shr (.int k a) (.int k' b) = some (.int k (a.fdiv (2 ^ (min b.toNat k.bits)))) := by
  show pureRun (Op.shift .shr k a k' b) = _
  unfold Op.shift
  rw [if_neg (by omega)]
  rfl
def andU (a b : Int) : Int := IntKind.u64.wrap ((BitVec.ofInt 64 a &&& BitVec.ofInt 64 b).toNat)
def xorU (a b : Int) : Int := IntKind.u64.wrap ((BitVec.ofInt 64 a ^^^ BitVec.ofInt 64 b).toNat)
theorem b_and (a b : Int) : binS .and (.int .u64 a) (.int .u64 b) = some (.int .u64 (andU a b)) := (rfl)
theorem b_xor (a b : Int) : binS .xor (.int .u64 a) (.int .u64 b) = some (.int .u64 (xorU a b)) := (rfl)
theorem andU_le (a : Int) {b : Nat} (hb : b < 18446744073709551616) : 0 ≤ andU a b ∧ andU a b ≤ b := by
  have h1 : (BitVec.ofInt 64 a &&& BitVec.ofInt 64 (b : Int)).toNat ≤ b := by
    rw [BitVec.toNat_and]
    refine Nat.le_trans Nat.and_le_right ?_
    rw [BitVec.toNat_ofInt]
    have : ((b : Int) % ((2 ^ 64 : Nat) : Int)).toNat = b := by
      have e64 : ((2 ^ 64 : Nat) : Int) = 18446744073709551616 := rfl
      rw [e64, Int.emod_eq_of_lt (by omega) (by omega)]; rfl
    exact Nat.le_of_eq this
  have h2 : andU a b = ((BitVec.ofInt 64 a &&& BitVec.ofInt 64 (b : Int)).toNat : Int) := by
    unfold andU
    have e1 : ∀ x, IntKind.u64.wrap x = x % 18446744073709551616 := fun x => by simp [IntKind.wrap, IntKind.signed, IntKind.bits]
    rw [e1]; omega
  rw [h2]; omega
attribute [go_sem ↓] b_and b_xor
theorem E_idxStr (R : Rec) (cx : Cx) (e : Evl) (sl : Option Nat) (x i : Operand) (h : SHeap) (d : List Nat) : opE R cx e sl (.idxStr x i) h d = match e x, e i with
    | some (.string s), some (.int _ n) =>
      if decide (0 ≤ n) then match s.data.toList[n.toNat]? with
        | some b => some (.int .u8 b.toNat, h, d)
        | none => none
      else none
    | _, _ => none := (rfl)
attribute [go_sem ↓] E_idxStr

theorem wrapU' {x : Int} (h1 : 0 ≤ x) (h2 : x ≤ 18446744073709551615) : IntKind.u64.wrap x = x := by
  have e1 : IntKind.u64.wrap x = x % 18446744073709551616 := by simp [IntKind.wrap, IntKind.signed, IntKind.bits]
  rw [e1]; omega
/-- how many bits a number below 256 has -/
def len8 (n : Nat) : Nat := if n = 0 then 0 else Nat.log2 n + 1
def lenTab : ByteArray := ⟨#[0, 1, 2, 2, 3, 3, 3, 3, 4, 4, 4, 4, 4, 4, 4, 4, 5, 5, 5, 5, 5, 5, 5, 5, 5, 5, 5, 5, 5, 5, 5, 5, 6, 6, 6, 6, 6, 6, 6, 6, 6, 6, 6, 6, 6, 6, 6, 6, 6, 6, 6, 6, 6, 6, 6, 6, 6, 6, 6, 6, 6, 6, 6, 6, 7, 7, 7, 7, 7, 7, 7, 7, 7, 7, 7, 7, 7, 7, 7, 7, 7, 7, 7, 7, 7, 7, 7, 7, 7, 7, 7, 7, 7, 7, 7, 7, 7, 7, 7, 7, 7, 7, 7, 7, 7, 7, 7, 7, 7, 7, 7, 7, 7, 7, 7, 7, 7, 7, 7, 7, 7, 7, 7, 7, 7, 7, 7, 7, 8, 8, 8, 8, 8, 8, 8, 8, 8, 8, 8, 8, 8, 8, 8, 8, 8, 8, 8, 8, 8, 8, 8, 8, 8, 8, 8, 8, 8, 8, 8, 8, 8, 8, 8, 8, 8, 8, 8, 8, 8, 8, 8, 8, 8, 8, 8, 8, 8, 8, 8, 8, 8, 8, 8, 8, 8, 8, 8, 8, 8, 8, 8, 8, 8, 8, 8, 8, 8, 8, 8, 8, 8, 8, 8, 8, 8, 8, 8, 8, 8, 8, 8, 8, 8, 8, 8, 8, 8, 8, 8, 8, 8, 8, 8, 8, 8, 8, 8, 8, 8, 8, 8, 8, 8, 8, 8, 8, 8, 8, 8, 8, 8, 8, 8, 8, 8, 8, 8, 8, 8, 8, 8, 8, 8, 8, 8, 8]⟩
theorem tab_at : ∀ n, n < 256 → lenTab.data.toList[n]? = some (UInt8.ofNat (len8 n)) := by decide +kernel
theorem len8_p : ∀ n, n < 256 → n < 2 ^ len8 n ∧ len8 n ≤ 8 ∧ (1 ≤ n → 2 ^ len8 n ≤ 2 * n) := by decide +kernel
/-- how many bits a number below 65536 has -/
def lenB (n : Nat) : Nat := if n < 256 then len8 n else 8 + len8 (n / 256)
theorem lenB_p {n : Nat} (hn : n < 65536) : n < 2 ^ lenB n ∧ lenB n ≤ 16 ∧ (1 ≤ n → 2 ^ lenB n ≤ 2 * n) := by
  unfold lenB
  by_cases c : n < 256
  · rw [if_pos c]
    have := len8_p n c
    exact ⟨this.1, by omega, this.2.2⟩
  · rw [if_neg c]
    obtain ⟨a1, a2, a3⟩ := len8_p (n / 256) (by omega)
    have a4 := a3 (by omega)
    rw [Nat.pow_add]
    have e : 2 ^ 8 = 256 := rfl
    rw [e]
    refine ⟨by omega, by omega, fun _ => by omega⟩
theorem len99 {n : Nat} (hn : n < 65536) (h : SHeap) : M.call 99 [.int .u64 n] h = some (.int .i64 (lenB n), h, []) := by
  have e1 : ¬ (4294967296 : Int) ≤ n := by omega
  have e2 : ¬ (65536 : Int) ≤ n := by omega
  have wu : ∀ z : Int, 0 ≤ z → z < 256 → IntKind.u8.wrap z = z := fun z h1 h2 => by
    have e1 : IntKind.u8.wrap z = z % 256 := by simp [IntKind.wrap, IntKind.signed, IntKind.bits]
    rw [e1]; omega
  refine call_run sf99 rfl rfl rfl ?_
  unfold sf99
  by_cases c : n < 256
  · have e3 : ¬ (256 : Int) ≤ n := by omega
    have hb : lenB n = len8 n := if_pos c
    rw [hb]
    have w1 := wu n (by omega) (by omega)
    have t1 := tab_at n c
    unfold lenTab at t1
    dsimp only at t1
    have t2 : ((UInt8.ofNat (len8 n)).toNat : Int) = len8 n := by
      have := (len8_p n c).2.1
      rw [UInt8.toNat_ofNat', Nat.mod_eq_of_lt (by omega)]
    have w2 : IntKind.i64.wrap (len8 n : Int) = len8 n := by
      have := (len8_p n c).2.1
      exact wrap64 (by omega) (by omega)
    have p0 : (0 : Int) ≤ n := by omega
    repeat (first | apply run_seq | apply run_block | apply end_seq | apply end_blk_hit | apply end_blk_miss rfl | apply end_blk | apply end_seq_exit | apply end_seq_ret | apply end_blk_ret | apply run_skip | apply run_ret | apply run_exit | (apply run_region (by decide); (simp (maxSteps := 9999999) only [go_sem, argR, e1, e2, e3, w1, p0, t1, t2, w2]; rfl)) | (apply run_regionN (by decide); (simp (maxSteps := 9999999) only [go_sem, argR, e1, e2, e3, w1, p0, t1, t2, w2]; rfl)) | (refine run_cond_t ?_ ?_; · simp only [go_sem]) | (refine run_cond_f ?_ ?_; · simp only [go_sem]))
    exact end_nil (q_ret1 _ (by simp (maxSteps := 9999999) only [go_sem]) rfl (take_self _))
  · have e3 : (256 : Int) ≤ n := by omega
    have hb : lenB n = 8 + len8 (n / 256) := if_neg c
    rw [hb]
    have d1 : (n : Int).fdiv 256 = ((n / 256 : Nat) : Int) := by rw [Int.fdiv_eq_ediv_of_nonneg _ (by decide)]; rfl
    have sh : binS .shr (.int .u64 (n : Int)) (.int .u64 8) = some (.int .u64 ((n / 256 : Nat) : Int)) := by
      rw [b_shr (by decide)]
      show some (Value.int .u64 ((n : Int).fdiv 256)) = _
      rw [d1]
    have w1 := wu ((n / 256 : Nat) : Int) (by omega) (by omega)
    have t1 := tab_at (n / 256) (by omega)
    unfold lenTab at t1
    dsimp only at t1
    have hl := (len8_p (n / 256) (by omega)).2.1
    have t2 : ((UInt8.ofNat (len8 (n / 256))).toNat : Int) = len8 (n / 256) := by
      rw [UInt8.toNat_ofNat', Nat.mod_eq_of_lt (by omega)]
    have w2 : IntKind.i64.wrap (len8 (n / 256) : Int) = len8 (n / 256) := wrap64 (by omega) (by omega)
    have w3 : IntKind.i64.wrap (8 + (len8 (n / 256) : Int)) = ((8 + len8 (n / 256) : Nat) : Int) := by rw [wrap64 (by omega) (by omega)]; rfl
    have w8 : IntKind.i64.wrap 8 = 8 := rfl
    have p0 : (0 : Int) ≤ ((n / 256 : Nat) : Int) := by omega
    repeat (first | apply run_seq | apply run_block | apply end_seq | apply end_blk_hit | apply end_blk_miss rfl | apply end_blk | apply end_seq_exit | apply end_seq_ret | apply end_blk_ret | apply run_skip | apply run_ret | apply run_exit | (apply run_region (by decide); (simp (maxSteps := 9999999) only [go_sem, argR, e1, e2, e3, sh, w1, p0, t1, t2, w2, w3, w8]; rfl)) | (apply run_regionN (by decide); (simp (maxSteps := 9999999) only [go_sem, argR, e1, e2, e3, sh, w1, p0, t1, t2, w2, w3, w8]; rfl)) | (refine run_cond_t ?_ ?_; · simp only [go_sem]) | (refine run_cond_f ?_ ?_; · simp only [go_sem]))
    exact end_nil (q_ret1 _ (by simp (maxSteps := 9999999) only [go_sem]) rfl (take_self _))
theorem len82 {n : Nat} (hn : n < 65536) (h : SHeap) : M.call 82 [.int .u64 n] h = some (.int .i64 (lenB n), h, []) := by
  have c99 := fun h => len99 hn h
  refine call_run sf82 rfl rfl rfl ?_
  unfold sf82
  repeat (first | apply run_seq | apply run_block | apply end_seq | apply end_blk_hit | apply end_blk_miss rfl | apply end_blk | apply end_seq_exit | apply end_seq_ret | apply end_blk_ret | apply run_skip | apply run_ret | apply run_exit | (apply run_region (by decide); (simp (maxSteps := 9999999) only [go_sem, argR, c99]; rfl)) | (apply run_regionN (by decide); (simp (maxSteps := 9999999) only [go_sem, argR, c99]; rfl)) | (refine run_cond_t ?_ ?_; · simp only [go_sem]) | (refine run_cond_f ?_ ?_; · simp only [go_sem]))
  exact end_nil (q_ret1 _ (by simp (maxSteps := 9999999) only [go_sem]) rfl (take_self _))
/-- nextPowerOfTwo -/
theorem np111 {n : Nat} (hn : n < 65536) (h : SHeap) : M.call 111 [.int .i64 n] h = some (.int .u64 ((2 ^ lenB n : Nat) : Int), h, []) := by
  have c82 := fun h => len82 hn h
  have wu : IntKind.u64.wrap (n : Int) = n := wrapU' (by omega) (by omega)
  have hl := (lenB_p hn).2.1
  have hp : 2 ^ lenB n ≤ 2 ^ 16 := Nat.pow_le_pow_right (by decide) hl
  have sh : binS .shl (.int .u64 1) (.int .i64 (lenB n : Int)) = some (.int .u64 ((2 ^ lenB n : Nat) : Int)) := by
    rw [b_shl (by omega)]
    have e : min ((lenB n : Int)).toNat IntKind.u64.bits = lenB n := by
      show min ((lenB n : Int)).toNat 64 = lenB n
      omega
    rw [e, Int.one_mul]
    have : ((2 : Int) ^ lenB n) = ((2 ^ lenB n : Nat) : Int) := by simp
    rw [this]
    generalize 2 ^ lenB n = P at *
    rw [wrapU' (by omega) (by omega)]
  refine call_run sf111 rfl rfl rfl ?_
  unfold sf111
  repeat (first | apply run_seq | apply run_block | apply end_seq | apply end_blk_hit | apply end_blk_miss rfl | apply end_blk | apply end_seq_exit | apply end_seq_ret | apply end_blk_ret | apply run_skip | apply run_ret | apply run_exit | (apply run_region (by decide); (simp (maxSteps := 9999999) only [go_sem, argR, wu, c82, sh]; rfl)) | (apply run_regionN (by decide); (simp (maxSteps := 9999999) only [go_sem, argR, wu, c82, sh]; rfl)) | (refine run_cond_t ?_ ?_; · simp only [go_sem]) | (refine run_cond_f ?_ ?_; · simp only [go_sem]))
  exact end_nil (q_ret1 _ (by simp (maxSteps := 9999999) only [go_sem]) rfl (take_self _))
/-- the next number of xorshift -/
def nxt (z : Int) : Int :=
  let a := xorU z (IntKind.u64.wrap (z * 8192))
  let b := xorU a (a.fdiv 128)
  xorU b (IntKind.u64.wrap (b * 131072))
theorem xs112 {R : Nat} {z : Int} {h : SHeap} (hR : h[R]? = some (.cells [.int .u64 z] 117 true 0 [])) : M.call 112 [.pointer (some ⟨R, 0, none⟩)] h = some (.int .u64 (nxt z), h.set R (.cells [.int .u64 (nxt z)] 117 true 0 []), []) := by
  have hlt : R < h.length := (List.getElem?_eq_some_iff.1 hR).1
  have l0 : loadS h none (.pointer (some ⟨R, 0, none⟩)) = some (.int .u64 z) := by rw [load_rdO, hR]; rfl
  have l1 : ∀ X, loadS (h.set R X) none (.pointer (some ⟨R, 0, none⟩)) = rdO (some X) 0 := fun X => by rw [load_rdO, List.getElem?_set_self hlt]
  have g1 : ∀ X, (h.set R X)[R]? = some X := fun X => List.getElem?_set_self hlt
  have s1 : ∀ x : Int, binS .shl (.int .u64 x) (.int .u64 13) = some (.int .u64 (IntKind.u64.wrap (x * 8192))) := fun x => b_shl (by decide)
  have s2 : ∀ x : Int, binS .shr (.int .u64 x) (.int .u64 7) = some (.int .u64 (x.fdiv 128)) := fun x => b_shr (by decide)
  have s3 : ∀ x : Int, binS .shl (.int .u64 x) (.int .u64 17) = some (.int .u64 (IntKind.u64.wrap (x * 131072))) := fun x => b_shl (by decide)
  refine call_run sf112 rfl rfl rfl ?_
  unfold sf112
  repeat (first | apply run_seq | apply run_block | apply end_seq | apply end_blk_hit | apply end_blk_miss rfl | apply end_blk | apply end_seq_exit | apply end_seq_ret | apply end_blk_ret | apply run_skip | apply run_ret | apply run_exit | (apply run_region (by decide); (simp (maxSteps := 9999999) only [go_sem, argR, l0, hR, l1, g1, s1, s2, s3, List.set_set]; rfl)) | (apply run_regionN (by decide); (simp (maxSteps := 9999999) only [go_sem, argR, l0, hR, l1, g1, s1, s2, s3, List.set_set]; rfl)) | (refine run_cond_t ?_ ?_; · simp only [go_sem]) | (refine run_cond_f ?_ ?_; · simp only [go_sem]))
  refine end_nil (q_ret1 _ (by simp (maxSteps := 9999999) only [go_sem]; rfl) rfl ?_)
  rw [List.take_of_length_le (by simp)]
  rfl
end Go.Proofs.YtdmfhdnpakgkpaaDoor.Sh


