/- The shadow machine: a small deterministic interpreter for loaded code. Definitions alone. -/
import Derived.RangeFuncIn
import Derived.LoopNIn
import Derived.OrdersIn
import Derived.KernelRfl
set_option linter.all false
namespace Go.Proofs.Ytioijehbmgmgkaa.Sh
open Go
def UNK : Nat := 9223372036854775808
inductive CK where
  | int | bool | string
inductive EqK where
  | int | bool | string | ptr | slice | func
  | agg (l : List CK)
inductive SOp where
  | mov (x : Operand)
  | pick (c a b : Operand)
  | alloc (el : TypeId) (pf : Bool) (zero : List Value)
  | box (el : TypeId) (pf : Bool) (x : Operand)
  | build (zero : List Value) (parts : List (Nat × Nat × Operand))
  | buildSlice (el : TypeId) (pf : Bool) (zero : List Value) (len : Nat) (parts : List (Nat × Nat × Operand))
  | load (agg : Option Nat) (x : Operand)
  | store (n : Nat) (x v : Operand)
  | nilCheck (x : Operand)
  | bin (op : BinOp) (x y : Operand)
  | eq (k : EqK) (neg : Bool) (x y : Operand)
  | un (op : UnOp) (x : Operand)
  | conv (k : IntKind) (x : Operand)
  | fieldAddr (off : Nat) (x : Operand)
  | field (agg : Option Nat) (off : Nat) (x : Operand)
  | idxArr (len size : Nat) (x i : Operand)
  | idxSl (size : Nat) (x i : Operand)
  | idx (agg : Option Nat) (len size : Nat) (x i : Operand)
  | slice (el : TypeId) (size : Nat) (x : Operand) (lo hi mx : Option Operand)
  | sliceArr (n size : Nat) (x : Operand) (lo hi mx : Option Operand)
  | makeFunc (fn : FuncId) (first cap : List Operand)
  | extract (x : Operand) (i : Nat)
  | len (x : Operand)
  | append (el : TypeId) (pf : Bool) (size bytes : Nat) (x y : Operand)
  | copy (size : Nat) (x y : Operand)
  | maxi (xs : List Operand)
  | mini (xs : List Operand)
  | makeSlice (el : TypeId) (pf : Bool) (bytes : Nat) (zero : List Value) (len cap : Operand)
  | call (f : Operand) (args : List Operand)
  | makeMap (pf : Bool)
  | lookup (q : EqK) (zero : Value) (ok : Bool) (m k : Operand)
  | mapUpdate (q : EqK) (m k v : Operand)
  | mapLen (x : Operand)
  | idxStr (x i : Operand)
  | clear (size : Nat) (zero : List Value) (x : Operand)
  | range (x : Operand)
  | next (x : Operand)
  | entry (x : Operand)
structure SOper where
  dst : Option Nat
  sl : Option Nat
  op : SOp
  gd : Option (Nat × Bool)
  id : Nat
  lg : Bool
  chk : List Nat
inductive SCode where
  | skip
  | region (n : Nat) (ops : List SOper)
  | seq (a b : SCode)
  | cond (c : Operand) (thn els : SCode)
  | block (id : Nat) (body : SCode)
  | loop (body : SCode)
  | rangeFunc (f : Operand) (ps : List Nat) (as body : SCode)
  | exit (id : Nat)
  | ret
inductive Ex where
  | normal
  | exit (id : Nat)
  | ret
def udf : Value := .tuple #[]
inductive T where
  | leaf
  | node (l : T) (v : Value) (r : T)
def T.get : T → Nat → Value
  | .leaf, _ => udf
  | .node l v r, n => match n with
    | .zero => v
    | .succ m => match Nat.beq (Nat.land m 1) 0 with
      | true => l.get (Nat.shiftRight m 1)
      | false => r.get (Nat.shiftRight m 1)
def T.set (t : T) (n : Nat) (x : Value) : T :=
  match t with
  | .leaf => .leaf
  | .node l v r => match n with
    | .zero => .node l x r
    | .succ m => match Nat.beq (Nat.land m 1) 0 with
      | true => .node (l.set (Nat.shiftRight m 1) x) v r
      | false => .node l v (r.set (Nat.shiftRight m 1) x)
def T.blank : Nat → T
  | .zero => .leaf
  | .succ n => .node (T.blank n) udf (T.blank n)
def T.fill (t : T) (i : Nat) : List Value → T
  | [] => t
  | v :: vs => (t.set i v).fill (i + 1) vs
inductive SO where
  | cells (cs : List Value) (el : TypeId) (pf : Bool) (own : Nat) (older : List Nat)
  | loop (st : Nat) (fn : FuncId) (t : T) (ps : List Nat) (as body : SCode) (pend : Option SCode) (df : Nat)
  | deferred
  | map (pf : Bool) (es : List (Value × Value))
  | iter (mb : Nat) (seen : List Nat) (n : Nat)
  | gone
abbrev SHeap := List SO
inductive SRes where
  | tmp (t : Nat)
  | cell (agg : Option Nat) (t : Nat)
structure SFunc where
  dep : Nat
  res : List SRes
  body : SCode
structure St where
  t : T
  ms : List Nat
  h : SHeap
  d : List Nat
structure Cx where
  base : Nat
  rnd : Option Nat
  fn : FuncId
def tget (t : T) (i : Nat) : Value := t.get i
def ev (t : T) : Operand → Option Value
  | .tmp i => some (tget t i)
  | .const v => some v
  | .func f => some (.func (.func f) #[] #[])
  | .global _ => none
def evs (t : T) : List Operand → Option (List Value)
  | [] => some []
  | x :: xs => match ev t x, evs t xs with
    | some v, some vs => some (v :: vs)
    | _, _ => none
def evo (t : T) : Option Operand → Option (Option Value)
  | none => some none
  | some x => match ev t x with
    | some v => some (some v)
    | none => none
def sput (t : T) : Option Nat → Value → T
  | none, _ => t
  | some d, v => t.set d v
def sc : Value → Bool
  | .bool _ | .int _ _ | .string _ => true
  | _ => false
def plainC : Value → Bool
  | .bool _ | .int _ _ | .string _ | .nilFunc | .nilIface | .pointer none | .map none | .slice none 0 0 => true
  | .agg cs => cs.toList.all fun
    | .bool _ | .int _ _ | .string _ | .nilFunc | .nilIface | .pointer none | .map none | .slice none 0 0 => true
    | _ => false
  | _ => false
def oneC : Value → Bool
  | .agg _ | .tuple _ => false
  | _ => true
def cellsL : Value → List Value
  | .agg cs => cs.toList
  | v => [v]
def readable (own : Nat) : Bool := !(own == 2)
def rd1 (h : SHeap) (b o : Nat) : Option Value :=
  match h[b]? with
  | some (.cells cs _ _ own _) => if readable own then cs[o]? else none
  | _ => none
def rdN (h : SHeap) (b o n : Nat) : Option (List Value) :=
  match h[b]? with
  | some (.cells cs _ _ own _) => if readable own && Nat.ble (o + n) cs.length then some ((cs.drop o).take n) else none
  | _ => none
def loadS (h : SHeap) (agg : Option Nat) : Value → Option Value
  | .pointer (some ⟨b, o, none⟩) =>
    match agg with
    | none => rd1 h b o
    | some n => match rdN h b o n with
      | some l => some (.agg l.toArray)
      | none => none
  | _ => none
def kill (h : SHeap) (b : Nat) : SHeap :=
  match h[b]? with
  | some (.cells cs el pf _ older) => h.set b (.cells cs el pf 2 older)
  | _ => h
def killAll (h : SHeap) (l : List Nat) : SHeap := l.foldl kill h
def writeAt (cs : List Value) (o : Nat) : List Value → List Value
  | [] => cs
  | v :: vs => writeAt (cs.set o v) (o + 1) vs
def dirty (base b : Nat) (pf : Bool) (d : List Nat) : List Nat :=
  if pf || Nat.ble base b then d else b :: d
def storeS (base : Nat) (h : SHeap) (d : List Nat) (b o : Nat) (vs : List Value) : Option (SHeap × List Nat) :=
  match h[b]? with
  | some (.cells cs el pf own older) =>
    if own == 0 && Nat.ble (o + vs.length) cs.length && vs.all oneC && (!pf || vs.all sc) && Nat.blt 0 vs.length then
      some ((killAll h older).set b (.cells (writeAt cs o vs) el pf 0 []), dirty base b pf d)
    else none
  | _ => none
def newS (h : SHeap) (sl : Option Nat) (cs : List Value) (el : TypeId) (pf : Bool) : Option (Nat × SHeap) :=
  if !pf || cs.all sc then
    match sl with
    | none => some (h.length, h ++ [.cells cs el pf 0 []])
    | some b => match h[b]? with
      | some .gone => some (b, h.set b (.cells cs el pf 0 []))
      | _ => none
  else none
def fillS : List Value → List (Nat × Nat × Value) → Option (List Value)
  | cs, [] => some cs
  | cs, (off, size, v) :: r =>
    let l := cellsL v
    if l.length == size && Nat.ble (off + size) cs.length then fillS (writeAt cs off l) r else none
def evp (t : T) : List (Nat × Nat × Operand) → Option (List (Nat × Nat × Value))
  | [] => some []
  | (o, s, x) :: r => match ev t x, evp t r with
    | some v, some vs => some ((o, s, v) :: vs)
    | _, _ => none
def repeatL (z : List Value) : Nat → List Value
  | 0 => []
  | n + 1 => z ++ repeatL z n
def pureRun : Sem Value → Option Value
  | .pure v => some v
  | _ => none
def eqCell : CK → Value → Value → Option Bool
  | .bool, .bool a, .bool b => some (a == b)
  | .int, .int k a, .int k' b => if k = k' then some (a == b) else none
  | .string, .string a, .string b => some (a == b)
  | _, _, _ => none
def eqList : List CK → List Value → List Value → Option Bool
  | [], [], [] => some true
  | k :: ks, a :: as, b :: bs => match eqCell k a b with
    | some true => eqList ks as bs
    | some false => some false
    | none => none
  | _, _, _ => none
def eqS : EqK → Value → Value → Option Bool
  | .int, .int k a, .int k' b => if k = k' then some (a == b) else none
  | .bool, .bool a, .bool b => some (a == b)
  | .string, .string a, .string b => some (a == b)
  | .ptr, .pointer none, .pointer b => some b.isNone
  | .ptr, .pointer (some _), .pointer none => some false
  | .slice, .slice none _ _, .slice b _ _ => some b.isNone
  | .slice, .slice (some _) _ _, .slice none _ _ => some false
  | .func, .nilFunc, .nilFunc => some true
  | .func, .nilFunc, .func _ _ _ => some false
  | .func, .func _ _ _, .nilFunc => some false
  | .agg l, .agg a, .agg b => eqList l a.toList b.toList
  | _, _, _ => none
def binS (op : BinOp) (x y : Value) : Option Value :=
  match x, y with
  | .int k a, .int k' b =>
    match op with
    | .shl => pureRun (Op.shift .shl k a k' b)
    | .shr => pureRun (Op.shift .shr k a k' b)
    | .add => if k = k' then pureRun (Op.intArith .add k a b) else none
    | .sub => if k = k' then pureRun (Op.intArith .sub k a b) else none
    | .mul => if k = k' then pureRun (Op.intArith .mul k a b) else none
    | .quo => if k = k' then pureRun (Op.intDiv .quo k a b) else none
    | .rem => if k = k' then pureRun (Op.intDiv .rem k a b) else none
    | .and => if k = k' then pureRun (Op.intBits .and k a b) else none
    | .or => if k = k' then pureRun (Op.intBits .or k a b) else none
    | .xor => if k = k' then pureRun (Op.intBits .xor k a b) else none
    | .andNot => if k = k' then pureRun (Op.intBits .andNot k a b) else none
    | .lss => if k = k' then some (.bool (decide (a < b))) else none
    | .leq => if k = k' then some (.bool (decide (a ≤ b))) else none
    | .gtr => if k = k' then some (.bool (decide (a > b))) else none
    | .geq => if k = k' then some (.bool (decide (a ≥ b))) else none
    | _ => none
  | _, _ => none
def partS (agg : Option Nat) (cs : List Value) (off : Nat) : Option Value :=
  match agg with
  | some n => if Nat.ble (off + n) cs.length then some (.agg ((cs.drop off).take n).toArray) else none
  | none => cs[off]?
def bnd (x : Value) (y : Nat) : Option Nat :=
  match x with
  | .int _ i => if decide (0 ≤ i) && decide (i ≤ (y : Int)) then some i.toNat else none
  | _ => none
def bMx (mx : Option Value) (cap : Nat) : Option Nat :=
  match mx with
  | some v => bnd v cap
  | none => some cap
def bHi (hi mx : Option Value) (m len : Nat) : Option Nat :=
  match hi with
  | some v => bnd v m
  | none => match mx with
    | none => some len
    | some _ => none
def bLo (lo : Option Value) (h : Nat) : Option Nat :=
  match lo with
  | some v => bnd v h
  | none => some 0
def sliceS (size : Nat) (x : Value) (lo hi mx : Option Value) : Option Value :=
  match x with
  | .slice a len cap =>
    match bMx mx (if Nat.ble UNK cap then len else cap) with
    | none => none
    | some m => match bHi hi mx m len with
      | none => none
      | some h => match bLo lo h with
        | none => none
        | some l => match a with
          | none => some (.slice none (h - l) (m - l))
          | some ⟨b, o, none⟩ =>
            if Nat.ble UNK cap && mx.isNone then (if Nat.beq cap (UNK + size) then some (.slice (some ⟨b, o + l * size, none⟩) (h - l) cap) else none)
            else if Nat.blt m UNK then some (.slice (some (if m == l then ⟨b, o, none⟩ else ⟨b, o + l * size, none⟩)) (h - l) (m - l)) else none
          | _ => none
  | _ => none
def sliceArrS (n size : Nat) (x : Value) (lo hi mx : Option Value) : Option Value :=
  match x with
  | .pointer (some ⟨b, o, none⟩) =>
    match bMx mx n with
    | none => none
    | some m => match bHi hi mx m n with
      | none => none
      | some h => match bLo lo h with
        | none => none
        | some l => if Nat.blt m UNK then some (.slice (some (if m == l then ⟨b, o, none⟩ else ⟨b, o + l * size, none⟩)) (h - l) (m - l)) else none
  | _ => none
def seenS (h : SHeap) (size : Nat) : Value → Nat → Option (List Value)
  | .slice none _ _, n => if n == 0 then some [] else none
  | .slice (some ⟨b, o, none⟩) _ _, n => if n == 0 then some [] else rdN h b o (n * size)
  | _, _ => none
def lenS : Value → Option Nat
  | .slice _ n _ => some n
  | _ => none
def share (h : SHeap) (b : Nat) : SHeap :=
  match h[b]? with
  | some (.cells cs el pf _ older) => h.set b (.cells cs el pf 1 older)
  | _ => h
def appendS (base : Nat) (h : SHeap) (d : List Nat) (el : TypeId) (pf : Bool) (size bytes : Nat) (x y : Value) : Option (Value × SHeap × List Nat) :=
  match x, lenS y with
  | .slice a len cap, some n =>
    if n == 0 then some (x, h, d)
    else if Nat.ble ((len + n) * bytes) 140737488355328 && Nat.blt 0 bytes then
      match seenS h size y n, seenS h size x len with
      | some new, some old =>
        if new.all oneC && (!pf || (new.all sc && old.all sc)) then
          let nb : List Value := old ++ new
          match a with
          | none => some (.slice (some ⟨h.length, 0, none⟩) (len + n) (UNK + size), h ++ [.cells nb el pf 0 []], d)
          | some ⟨b, o, none⟩ =>
            if Nat.ble UNK cap then
              match h[b]? with
              | some (.cells cs el' pf' own older) =>
                if own == 0 && pf == pf' && el == el' && Nat.beq cap (UNK + size) then
                  if Nat.beq (o + len * size) cs.length then
                    some (.slice (some ⟨h.length, 0, none⟩) (len + n) (UNK + size), share h b ++ [.cells nb el pf 0 (b :: older)], d)
                  else
                    some (.slice (some ⟨h.length, 0, none⟩) (len + n) (UNK + size), killAll h (b :: older) ++ [.cells nb el pf 0 []], d)
                else none
              | _ => none
            else if Nat.ble (len + n) cap then
              match storeS base h d b (o + len * size) new with
              | some (h', d') => some (.slice a (len + n) cap, h', d')
              | none => none
            else some (.slice (some ⟨h.length, 0, none⟩) (len + n) (UNK + size), h ++ [.cells nb el pf 0 []], d)
          | _ => none
        else none
      | _, _ => none
    else none
  | _, _ => none
def copyS (base : Nat) (h : SHeap) (d : List Nat) (size : Nat) (x y : Value) : Option (Value × SHeap × List Nat) :=
  match x, lenS y with
  | .slice a len _, some m =>
    let n := Nat.min m len
    match seenS h size y n with
    | some new =>
      match a with
      | none => some (.int .i64 n, h, d)
      | some ⟨b, o, none⟩ =>
        if n == 0 then some (.int .i64 0, h, d) else
        match storeS base h d b o new with
        | some (h', d') => some (.int .i64 n, h', d')
        | none => none
      | _ => none
    | none => none
  | _, _ => none
def max2S : Value → Value → Option Value
  | .int k x, .int _ y => some (.int k (if y > x then y else x))
  | _, _ => none
def min2S : Value → Value → Option Value
  | .int k x, .int _ y => some (.int k (if y < x then y else x))
  | _, _ => none
def foldV (f : Value → Value → Option Value) (x : Value) : List Value → Option Value
  | [] => some x
  | y :: r => match f x y with
    | some z => foldV f z r
    | none => none
def foldS (f : Value → Value → Option Value) : List Value → Option Value
  | [] => none
  | x :: r => foldV f x r
def findS (q : EqK) (k : Value) : List (Value × Value) → Option (Option Value)
  | [] => some none
  | (a, v) :: r => match eqS q k a with
    | some true => some (some v)
    | some false => findS q k r
    | none => none
def updS (q : EqK) (k v : Value) : List (Value × Value) → Option (List (Value × Value))
  | [] => some [(k, v)]
  | (a, u) :: r => match eqS q k a with
    | some true => some ((k, v) :: r)
    | some false => match updS q k v r with
      | some r' => some ((a, u) :: r')
      | none => none
    | none => none
def isI : Value → Bool
  | .int _ _ => true
  | _ => false
def keyS : EqK → Value → Bool
  | .int, .int _ _ => true
  | .agg l, .agg p => Nat.beq p.toList.length l.length && p.toList.all isI
  | _, _ => false
structure Rec where
  call : FuncId → List Value → SHeap → Option (Value × SHeap × List Nat)
  round : Nat → Nat → List Value → SHeap → Option (Value × SHeap × List Nat)
  loop : Cx → SCode → St → Option (Ex × St)
def dirts (base : Nat) (d' d : List Nat) : List Nat := d'.filter (fun b => !(Nat.ble base b)) ++ d
def callS (R : Rec) (base : Nat) (h : SHeap) (d : List Nat) (f : Value) (args : List Value) : Option (Value × SHeap × List Nat) :=
  match f with
  | .func (.func g) first cap =>
    match R.call g (first.toList ++ args ++ cap.toList) h with
    | some (v, h', d') => some (v, h', dirts base d' d)
    | none => none
  | .func (.yield l) first cap =>
    if first.size == 0 && cap.size == 0 then
      match R.round base l args h with
      | some (v, h', d') => some (v, h', d' ++ d)
      | none => none
    else none
  | _ => none
def same (v : Option Value) (h : SHeap) (d : List Nat) : Option (Value × SHeap × List Nat) :=
  match v with
  | some v => some (v, h, d)
  | none => none
def o_mov  (x : Operand) (t : T) (h : SHeap) (d : List Nat) : Option (Value × SHeap × List Nat) :=
  same (ev t x) h d
def o_pick  (c a b : Operand) (t : T) (h : SHeap) (d : List Nat) : Option (Value × SHeap × List Nat) :=
  match ev t c with
    | some (.bool c) => same (if c then ev t a else ev t b) h d
    | _ => none
def o_alloc (sl : Option Nat) (el : TypeId) (pf : Bool) (zero : List Value) (t : T) (h : SHeap) (d : List Nat) : Option (Value × SHeap × List Nat) :=
  match newS h sl zero el pf with
    | some (b, h') => some (.pointer (some ⟨b, 0, none⟩), h', d)
    | none => none
def o_box (sl : Option Nat) (el : TypeId) (pf : Bool) (x : Operand) (t : T) (h : SHeap) (d : List Nat) : Option (Value × SHeap × List Nat) :=
  match ev t x with
    | some v => match newS h sl (cellsL v) el pf with
      | some (b, h') => some (.pointer (some ⟨b, 0, none⟩), h', d)
      | none => none
    | none => none
def o_build  (zero : List Value) (parts : List (Nat × Nat × Operand)) (t : T) (h : SHeap) (d : List Nat) : Option (Value × SHeap × List Nat) :=
  match evp t parts with
    | some ps => match fillS zero ps with
      | some l => some (.agg l.toArray, h, d)
      | none => none
    | none => none
def o_buildSlice (sl : Option Nat) (el : TypeId) (pf : Bool) (zero : List Value) (len : Nat) (parts : List (Nat × Nat × Operand)) (t : T) (h : SHeap) (d : List Nat) : Option (Value × SHeap × List Nat) :=
  match evp t parts with
    | some ps => match fillS (repeatL zero len) ps with
      | some l => match newS h sl l el pf with
        | some (b, h') => some (.slice (some ⟨b, 0, none⟩) len len, h', d)
        | none => none
      | none => none
    | none => none
def o_load  (agg : Option Nat) (x : Operand) (t : T) (h : SHeap) (d : List Nat) : Option (Value × SHeap × List Nat) :=
  match ev t x with
    | some a => same (loadS h agg a) h d
    | none => none
def o_store (cx : Cx) (n : Nat) (x v : Operand) (t : T) (h : SHeap) (d : List Nat) : Option (Value × SHeap × List Nat) :=
  match ev t x, ev t v with
    | some (.pointer (some ⟨b, o, none⟩)), some v =>
      if (cellsL v).length == n then
        match storeS cx.base h d b o (cellsL v) with
        | some (h', d') => some (udf, h', d')
        | none => none
      else none
    | _, _ => none
def o_nilCheck  (x : Operand) (t : T) (h : SHeap) (d : List Nat) : Option (Value × SHeap × List Nat) :=
  match ev t x with
    | some (.pointer (some a)) => some (.pointer (some a), h, d)
    | some (.func (.func f) a b) => some (.func (.func f) a b, h, d)
    | some (.func (.yield f) a b) => some (.func (.yield f) a b, h, d)
    | _ => none
def o_bin  (op : BinOp) (x y : Operand) (t : T) (h : SHeap) (d : List Nat) : Option (Value × SHeap × List Nat) :=
  match ev t x, ev t y with
    | some a, some b => same (binS op a b) h d
    | _, _ => none
def o_eq  (k : EqK) (neg : Bool) (x y : Operand) (t : T) (h : SHeap) (d : List Nat) : Option (Value × SHeap × List Nat) :=
  match ev t x, ev t y with
    | some a, some b => match eqS k a b with
      | some r => some (.bool (if neg then !r else r), h, d)
      | none => none
    | _, _ => none
def o_un  (op : UnOp) (x : Operand) (t : T) (h : SHeap) (d : List Nat) : Option (Value × SHeap × List Nat) :=
  match ev t x with
    | some (.int k n) => (match op with | .neg => same (pureRun (Op.unary .neg (.int k n))) h d | .xor => same (pureRun (Op.unary .xor (.int k n))) h d | _ => none)
    | some (.bool b) => (match op with | .not => some (.bool (!b), h, d) | _ => none)
    | _ => none
def o_conv  (k : IntKind) (x : Operand) (t : T) (h : SHeap) (d : List Nat) : Option (Value × SHeap × List Nat) :=
  match ev t x with
    | some (.int _ n) => some (.int k (k.wrap n), h, d)
    | _ => none
def o_fieldAddr  (off : Nat) (x : Operand) (t : T) (h : SHeap) (d : List Nat) : Option (Value × SHeap × List Nat) :=
  match ev t x with
    | some (.pointer (some ⟨b, o, none⟩)) => some (.pointer (some ⟨b, o + off, none⟩), h, d)
    | _ => none
def o_field  (agg : Option Nat) (off : Nat) (x : Operand) (t : T) (h : SHeap) (d : List Nat) : Option (Value × SHeap × List Nat) :=
  match ev t x with
    | some (.agg cs) => same (partS agg cs.toList off) h d
    | _ => none
def o_idxArr  (len size : Nat) (x i : Operand) (t : T) (h : SHeap) (d : List Nat) : Option (Value × SHeap × List Nat) :=
  match ev t x, ev t i with
    | some (.pointer (some ⟨b, o, none⟩)), some (.int _ n) =>
      if decide (0 ≤ n) && decide (n < (len : Int)) then some (.pointer (some ⟨b, o + n.toNat * size, none⟩), h, d) else none
    | _, _ => none
def o_idxSl  (size : Nat) (x i : Operand) (t : T) (h : SHeap) (d : List Nat) : Option (Value × SHeap × List Nat) :=
  match ev t x, ev t i with
    | some (.slice (some ⟨b, o, none⟩) len _), some (.int _ n) =>
      if decide (0 ≤ n) && decide (n < (len : Int)) then some (.pointer (some ⟨b, o + n.toNat * size, none⟩), h, d) else none
    | _, _ => none
def o_idx  (agg : Option Nat) (len size : Nat) (x i : Operand) (t : T) (h : SHeap) (d : List Nat) : Option (Value × SHeap × List Nat) :=
  match ev t x, ev t i with
    | some (.agg cs), some (.int _ n) =>
      if decide (0 ≤ n) && decide (n < (len : Int)) then same (partS agg cs.toList (n.toNat * size)) h d else none
    | _, _ => none
def o_slice  (size : Nat) (x : Operand) (lo hi mx : Option Operand) (t : T) (h : SHeap) (d : List Nat) : Option (Value × SHeap × List Nat) :=
  match ev t x, evo t lo, evo t hi, evo t mx with
    | some v, some l, some hh, some m => same (sliceS size v l hh m) h d
    | _, _, _, _ => none
def o_sliceArr  (n size : Nat) (x : Operand) (lo hi mx : Option Operand) (t : T) (h : SHeap) (d : List Nat) : Option (Value × SHeap × List Nat) :=
  match ev t x, evo t lo, evo t hi, evo t mx with
    | some v, some l, some hh, some m => same (sliceArrS n size v l hh m) h d
    | _, _, _, _ => none
def o_makeFunc  (fn : FuncId) (first cap : List Operand) (t : T) (h : SHeap) (d : List Nat) : Option (Value × SHeap × List Nat) :=
  match evs t first, evs t cap with
    | some a, some b => some (.func (.func fn) a.toArray b.toArray, h, d)
    | _, _ => none
def o_extract  (x : Operand) (i : Nat) (t : T) (h : SHeap) (d : List Nat) : Option (Value × SHeap × List Nat) :=
  match ev t x with
    | some (.tuple vs) => same (vs.toList[i]?) h d
    | _ => none
def o_len  (x : Operand) (t : T) (h : SHeap) (d : List Nat) : Option (Value × SHeap × List Nat) :=
  match ev t x with
    | some (.slice _ n _) => some (.int .i64 n, h, d)
    | _ => none
def o_append (cx : Cx) (el : TypeId) (pf : Bool) (size bytes : Nat) (x y : Operand) (t : T) (h : SHeap) (d : List Nat) : Option (Value × SHeap × List Nat) :=
  match ev t x, ev t y with
    | some a, some b => appendS cx.base h d el pf size bytes a b
    | _, _ => none
def o_copy (cx : Cx) (size : Nat) (x y : Operand) (t : T) (h : SHeap) (d : List Nat) : Option (Value × SHeap × List Nat) :=
  match ev t x, ev t y with
    | some a, some b => copyS cx.base h d size a b
    | _, _ => none
def o_maxi  (xs : List Operand) (t : T) (h : SHeap) (d : List Nat) : Option (Value × SHeap × List Nat) :=
  match evs t xs with
    | some l => same (foldS max2S l) h d
    | none => none
def o_mini  (xs : List Operand) (t : T) (h : SHeap) (d : List Nat) : Option (Value × SHeap × List Nat) :=
  match evs t xs with
    | some l => same (foldS min2S l) h d
    | none => none
def o_makeSlice  (el : TypeId) (pf : Bool) (bytes : Nat) (zero : List Value) (l c : Operand) (t : T) (h : SHeap) (d : List Nat) : Option (Value × SHeap × List Nat) :=
  match ev t l, ev t c with
    | some (.int _ l), some (.int _ c) =>
      if decide (0 ≤ l) && decide (l ≤ c) && decide (c ≤ 1073741824) && Nat.ble (c.toNat * bytes) 140737488355328 then
        match newS h none (repeatL zero c.toNat) el pf with
        | some (b, h') => some (.slice (some ⟨b, 0, none⟩) l.toNat c.toNat, h', d)
        | none => none
      else none
    | _, _ => none
def o_call (R : Rec) (cx : Cx) (f : Operand) (args : List Operand) (t : T) (h : SHeap) (d : List Nat) : Option (Value × SHeap × List Nat) :=
  match ev t f, evs t args with
    | some f, some vs => callS R cx.base h d f vs
    | _, _ => none
def o_makeMap  (pf : Bool) (t : T) (h : SHeap) (d : List Nat) : Option (Value × SHeap × List Nat) :=
  some (.map (some h.length), h ++ [.map pf []], d)
def o_lookup  (q : EqK) (zero : Value) (ok : Bool) (m k : Operand) (t : T) (h : SHeap) (d : List Nat) : Option (Value × SHeap × List Nat) :=
  match ev t m, ev t k with
    | some (.map (some r)), some k =>
      if keyS q k then
      match h[r]? with
      | some (.map _ es) => match findS q k es with
        | some (some v) => some (if ok then .tuple #[v, .bool true] else v, h, d)
        | some none => some (if ok then .tuple #[zero, .bool false] else zero, h, d)
        | none => none
      | _ => none
      else none
    | _, _ => none
def o_mapUpdate (cx : Cx) (q : EqK) (m k v : Operand) (t : T) (h : SHeap) (d : List Nat) : Option (Value × SHeap × List Nat) :=
  match ev t m, ev t k, ev t v with
    | some (.map (some r)), some k, some v =>
      if keyS q k then
      match h[r]? with
      | some (.map pf es) =>
        if !pf || ((cellsL k).all sc && (cellsL v).all sc) then
          match updS q k v es with
          | some es' => some (udf, h.set r (.map pf es'), dirty cx.base r pf d)
          | none => none
        else none
      | _ => none
      else none
    | _, _, _ => none
def o_mapLen  (x : Operand) (t : T) (h : SHeap) (d : List Nat) : Option (Value × SHeap × List Nat) :=
  match ev t x with
    | some (.map (some r)) => match h[r]? with
      | some (.map _ es) => some (.int .i64 es.length, h, d)
      | _ => none
    | _ => none
def o_idxStr  (x i : Operand) (t : T) (h : SHeap) (d : List Nat) : Option (Value × SHeap × List Nat) :=
  match ev t x, ev t i with
    | some (.string s), some (.int _ n) =>
      if decide (0 ≤ n) then match s.data.toList[n.toNat]? with
        | some b => some (.int .u8 b.toNat, h, d)
        | none => none
      else none
    | _, _ => none
def o_clear (cx : Cx) (size : Nat) (zero : List Value) (x : Operand) (t : T) (h : SHeap) (d : List Nat) : Option (Value × SHeap × List Nat) :=
  match ev t x with
    | some (.slice none _ _) => some (udf, h, d)
    | some (.slice (some ⟨b, o, none⟩) len _) =>
      if len == 0 then some (udf, h, d) else
      match storeS cx.base h d b o (repeatL zero len) with
      | some (h', d') => if Nat.beq (zero.length) size then some (udf, h', d') else none
      | none => none
    | _ => none
def opRun (R : Rec) (cx : Cx) (sl : Option Nat) (o : SOp) (t : T) (h : SHeap) (d : List Nat) : Option (Value × SHeap × List Nat) :=
  match o with
  | .mov x => o_mov  x t h d
  | .pick c a b => o_pick  c a b t h d
  | .alloc el pf zero => o_alloc sl el pf zero t h d
  | .box el pf x => o_box sl el pf x t h d
  | .build zero parts => o_build  zero parts t h d
  | .buildSlice el pf zero len parts => o_buildSlice sl el pf zero len parts t h d
  | .load agg x => o_load  agg x t h d
  | .store n x v => o_store cx n x v t h d
  | .nilCheck x => o_nilCheck  x t h d
  | .bin op x y => o_bin  op x y t h d
  | .eq k neg x y => o_eq  k neg x y t h d
  | .un op x => o_un  op x t h d
  | .conv k x => o_conv  k x t h d
  | .fieldAddr off x => o_fieldAddr  off x t h d
  | .field agg off x => o_field  agg off x t h d
  | .idxArr len size x i => o_idxArr  len size x i t h d
  | .idxSl size x i => o_idxSl  size x i t h d
  | .idx agg len size x i => o_idx  agg len size x i t h d
  | .slice _ size x lo hi mx => o_slice  size x lo hi mx t h d
  | .sliceArr n size x lo hi mx => o_sliceArr  n size x lo hi mx t h d
  | .makeFunc fn first cap => o_makeFunc  fn first cap t h d
  | .extract x i => o_extract  x i t h d
  | .len x => o_len  x t h d
  | .append el pf size bytes x y => o_append cx el pf size bytes x y t h d
  | .copy size x y => o_copy cx size x y t h d
  | .maxi xs => o_maxi  xs t h d
  | .mini xs => o_mini  xs t h d
  | .makeSlice el pf bytes zero l c => o_makeSlice  el pf bytes zero l c t h d
  | .call f args => o_call R cx f args t h d
  | .makeMap pf => o_makeMap  pf t h d
  | .lookup q zero ok m k => o_lookup  q zero ok m k t h d
  | .mapUpdate q m k v => o_mapUpdate cx q m k v t h d
  | .mapLen x => o_mapLen  x t h d
  | .idxStr x i => o_idxStr  x i t h d
  | .clear size zero x => o_clear cx size zero x t h d
  | .range _ => none
  | .next _ => none
  | .entry _ => none
section
variable {α β : Type}
def fNat (n : Nat) (k : Nat → α) : α :=
  match n with
  | .zero => k .zero
  | .succ m => k (.succ m)
def fInt (z : Int) (k : Int → α) : α :=
  match z with
  | .ofNat m => fNat m fun m => k (.ofNat m)
  | .negSucc m => fNat m fun m => k (.negSucc m)
def fBool (b : Bool) (k : Bool → α) : α :=
  match b with
  | true => k true
  | false => k false
def fList (f : β → (β → α) → α) : List β → (List β → α) → α
  | [], k => k []
  | a :: as, k => f a fun a => fList f as fun as => k (a :: as)
def fV : Nat → Value → (Value → α) → α
  | _, .bool b, k => fBool b fun b => k (.bool b)
  | _, .int kd z, k => fInt z fun z => k (.int kd z)
  | _, .pointer (some ⟨b, o, none⟩), k => fNat b fun b => fNat o fun o => k (.pointer (some ⟨b, o, none⟩))
  | _, .slice (some ⟨b, o, none⟩) n c, k => fNat b fun b => fNat o fun o => fNat n fun n => fNat c fun c => k (.slice (some ⟨b, o, none⟩) n c)
  | _, .slice none n c, k => fNat n fun n => fNat c fun c => k (.slice none n c)
  | _, .map (some r), k => fNat r fun r => k (.map (some r))
  | n + 1, .agg cs, k => fList (fV n) cs.toList fun l => k (.agg l.toArray)
  | n + 1, .tuple cs, k => fList (fV n) cs.toList fun l => k (.tuple l.toArray)
  | n + 1, .func f a b, k => fList (fV n) a.toList fun x => fList (fV n) b.toList fun y => k (.func f x.toArray y.toArray)
  | _, v, k => k v
def fSO (o : SO) (k : SO → α) : α :=
  match o with
  | .cells cs el pf own older => fList (fV 3) cs fun cs => fNat own fun own => fList fNat older fun older => k (.cells cs el pf own older)
  | .loop st fn t ps as body pend df => fNat st fun st => fNat df fun df => k (.loop st fn t ps as body pend df)
  | .map pf es => fList (fun (e : Value × Value) k => fV 3 e.1 fun a => fV 3 e.2 fun b => k (a, b)) es fun es => k (.map pf es)
  | .deferred => k .deferred
  | .iter mb seen n => k (.iter mb seen n)
  | .gone => k .gone
def fH (h : SHeap) (k : SHeap → α) : α := fList fSO h k
def fD (d : List Nat) (k : List Nat → α) : α := fList fNat d k
def fSet (t : T) (d : Nat) (x : Value) (k : T → α) : α :=
  match t with
  | .leaf => k .leaf
  | .node l v r => match d with
    | .zero => k (.node l x r)
    | .succ m => match Nat.beq (Nat.land m 1) 0 with
      | true => fSet l (Nat.shiftRight m 1) x fun l => k (.node l v r)
      | false => fSet r (Nat.shiftRight m 1) x fun r => k (.node l v r)
def fFill (t : T) (i : Nat) (l : List Value) (k : T → α) : α :=
  match l with
  | [] => k t
  | v :: vs => fSet t i v fun t => fFill t (i + 1) vs k
def fPut (t : T) (d : Option Nat) (v : Value) (k : T → α) : α :=
  match d with
  | none => k t
  | some d => fSet t d v k
theorem fNat_eq (n : Nat) (k : Nat → α) : fNat n k = k n := by cases n <;> rfl
theorem fInt_eq (n : Int) (k : Int → α) : fInt n k = k n := by cases n <;> simp [fInt, fNat_eq]
theorem fBool_eq (n : Bool) (k : Bool → α) : fBool n k = k n := by cases n <;> rfl
theorem fList_eq (f : β → (β → α) → α) (hf : ∀ a k, f a k = k a) (l : List β) (k : List β → α) : fList f l k = k l := by
  induction l generalizing k with
  | nil => rfl
  | cons a as ih => simp [fList, hf, ih]
theorem fV_eq (n : Nat) (v : Value) (k : Value → α) : fV n v k = k v := by
  induction n generalizing v k with
  | zero => unfold fV; split <;> simp [fBool_eq, fInt_eq, fNat_eq] at *
  | succ n ih => unfold fV; split <;> simp_all [fBool_eq, fInt_eq, fNat_eq, fList_eq]
theorem fSO_eq (o : SO) (k : SO → α) : fSO o k = k o := by
  cases o <;> simp [fSO, fNat_eq, fList_eq, fV_eq]
theorem fH_eq (h : SHeap) (k : SHeap → α) : fH h k = k h := fList_eq _ (fun a k => fSO_eq a k) h k
theorem fD_eq (h : List Nat) (k : List Nat → α) : fD h k = k h := fList_eq _ (fun a k => fNat_eq a k) h k
theorem fSet_eq (t : T) (d : Nat) (v : Value) (k : T → α) : fSet t d v k = k (t.set d v) := by
  induction t generalizing d k with
  | leaf => rfl
  | node l x r ihl ihr =>
    cases d with
    | zero => rfl
    | succ m => unfold fSet T.set; dsimp only; split <;> simp [ihl, ihr]
theorem fFill_eq (t : T) (i : Nat) (l : List Value) (k : T → α) : fFill t i l k = k (t.fill i l) := by
  induction l generalizing t i with
  | nil => rfl
  | cons v vs ih => simp [fFill, T.fill, fSet_eq, ih]
theorem fPut_eq (t : T) (d : Option Nat) (v : Value) (k : T → α) : fPut t d v k = k (sput t d v) := by
  cases d <;> simp [fPut, sput, fSet_eq]
end
def turns : SOp → Bool
  | .alloc .. | .box .. | .buildSlice .. | .store .. | .append .. | .copy .. | .makeSlice .. | .call .. | .makeMap .. | .mapUpdate .. | .clear .. => true
  | _ => false
def fHif {α : Type} (b : Bool) (h : SHeap) (d : List Nat) (k : SHeap → List Nat → α) : α :=
  match b with
  | true => fH h fun h => fD d fun d => k h d
  | false => k h d
theorem fHif_eq {α : Type} (b : Bool) (h : SHeap) (d : List Nat) (k : SHeap → List Nat → α) : fHif b h d k = k h d := by
  cases b <;> simp [fHif, fH_eq, fD_eq]
structure LogE where
  id : Nat
  agg : Option Nat
  a : Value
  v : Value
def vs0 : Value → Value → Bool
  | .bool a, .bool b => a == b
  | .int k a, .int k' b => decide (k = k') && a == b
  | .string a, .string b => decide (a = b)
  | .pointer a, .pointer b => decide (a = b)
  | .slice a n c, .slice a' n' c' => decide (a = a') && n == n' && c == c'
  | .map a, .map b => a == b
  | _, _ => false
def vsM : List Value → List Value → Bool
  | [], [] => true
  | a :: as, b :: bs => vs0 a b && vsM as bs
  | _, _ => false
def vs1 : Value → Value → Bool
  | .func (.func f) a b, .func (.func f') a' b' => Nat.beq f f' && vsM a.toList a'.toList && vsM b.toList b'.toList
  | a, b => vs0 a b
def vsL : List Value → List Value → Bool
  | [], [] => true
  | a :: as, b :: bs => vs1 a b && vsL as bs
  | _, _ => false
def vsame : Value → Value → Bool
  | .agg a, .agg b => vsL a.toList b.toList
  | a, b => vs1 a b
def chkAll (lg : List LogE) (ids : List Nat) (h : SHeap) : Bool :=
  lg.all fun e => !(ids.contains e.id) || (match loadS h e.agg e.a with | some v => vsame v e.v | none => false)
def wantedS (t : T) : Option (Nat × Bool) → Bool
  | none => true
  | some (i, want) => match tget t i with
    | .bool b => b == want
    | _ => false
def logOf (o : SOper) (t : T) (v : Value) : List LogE :=
  if o.lg then
    match o.op with
    | .load agg x => match ev t x with
      | some a => [⟨o.id, agg, a, v⟩]
      | none => []
    | _ => []
  else []
def slotOf (rb : Nat) : Option Nat → Option Nat
  | none => none
  | some k => some (rb + k)
def opsRun (R : Rec) (cx : Cx) (rb : Nat) : List SOper → List LogE → St → Option St
  | [], _, s => some s
  | o :: r, lg, s =>
    if wantedS s.t o.gd then
      match opRun R cx (slotOf rb o.sl) o.op s.t s.h s.d with
      | none => none
      | some (v, h, d) => fV 3 v fun v => fHif (turns o.op) h d fun h d => fPut s.t o.dst v fun t =>
        if chkAll lg o.chk h then opsRun R cx rb r (logOf o s.t v ++ lg) ⟨t, s.ms, h, d⟩ else none
    else fPut s.t o.dst udf fun t => opsRun R cx rb r lg ⟨t, s.ms, s.h, s.d⟩
def setLoop (h : SHeap) (l : Nat) (st : Nat) (pend : Option SCode) : SHeap :=
  match h[l]? with
  | some (.loop _ fn t ps as body _ df) => h.set l (.loop st fn t ps as body pend df)
  | _ => h
def exec (R : Rec) (cx : Cx) : SCode → St → Option (Ex × St)
  | .skip, s => some (.normal, s)
  | .region n ops, s => match opsRun R cx s.h.length ops [] { s with h := s.h ++ List.replicate n SO.gone } with
    | some s' => some (.normal, s')
    | none => none
  | .seq a b, s => match exec R cx a s with
    | some (.normal, s') => exec R cx b s'
    | r => r
  | .cond c a b, s => match ev s.t c with
    | some (.bool c) => if c then exec R cx a s else exec R cx b s
    | _ => none
  | .block id c, s => match exec R cx c s with
    | some (.exit j, s') => if j == id then some (.normal, s') else some (.exit j, s')
    | r => r
  | .loop c, s => R.loop cx c s
  | .exit id, s => some (.exit id, s)
  | .ret, s => some (.ret, s)
  | .rangeFunc f ps as body, s =>
    match ev s.t f with
    | some (.func (.func g) first cap) =>
      match (match cx.rnd with
        | none => some (s.h ++ [SO.deferred], s.h.length :: s.ms, s.h.length)
        | some l => match s.h[l]? with
          | some (.loop _ _ _ _ _ _ _ df) => some (s.h, s.ms, df)
          | _ => none) with
      | none => none
      | some (h1, mk, df) =>
        match R.call g (first.toList ++ [.func (.yield h1.length) #[] #[]] ++ cap.toList) (h1 ++ [.loop 0 cx.fn s.t ps as body none df]) with
        | none => none
        | some (_, h2, d2) =>
          match h2[h1.length]? with
          | some (.loop st _ _ _ _ _ pend _) =>
            if st == 1 then none
            else match pend with
              | none => some (.normal, ⟨s.t, mk, setLoop h2 h1.length 3 none, dirts cx.base d2 s.d⟩)
              | some .ret => some (.ret, ⟨s.t, mk, setLoop h2 h1.length 3 (some .ret), dirts cx.base d2 s.d⟩)
              | some (.exit id) => some (.exit id, ⟨s.t, mk, setLoop h2 h1.length 3 (some (.exit id)), dirts cx.base d2 s.d⟩)
              | _ => none
          | _ => none
    | _ => none
def ptr1 : Value → List Nat
  | .pointer (some a) => [a.block]
  | .slice (some a) _ _ => [a.block]
  | .map (some r) => [r]
  | _ => []
def ptrs : Nat → Value → List Nat
  | 0, v => ptr1 v
  | n + 1, .agg cs => cs.toList.flatMap (ptrs n)
  | n + 1, .tuple cs => cs.toList.flatMap (ptrs n)
  | n + 1, .func (.func _) a b => a.toList.flatMap (ptrs n) ++ b.toList.flatMap (ptrs n)
  | _ + 1, .func (.yield l) _ _ => [l]
  | _ + 1, v => ptr1 v
def ptrsO : Option SO → List Nat
  | some (.cells cs _ pf own _) => if pf || own == 2 then [] else cs.flatMap (ptrs 3)
  | some (.map pf es) => if pf then [] else es.flatMap fun e => ptrs 3 e.1 ++ ptrs 3 e.2
  | _ => []
def reach (base : Nat) (h : SHeap) : Nat → List Nat → List Nat → List Nat
  | 0, _, seen => seen
  | _ + 1, [], seen => seen
  | n + 1, b :: todo, seen =>
    if !(Nat.ble base b) || seen.contains b then reach base h n todo seen
    else reach base h n (ptrsO h[b]? ++ todo) (seen ++ [b])
def posOf (b : Nat) : List Nat → Option Nat
  | [] => none
  | a :: r => if Nat.beq a b then some 0 else match posOf b r with
    | some i => some (i + 1)
    | none => none
def ren (base : Nat) (K : List Nat) (b : Nat) : Option Nat :=
  if !(Nat.ble base b) then some b else match posOf b K with
    | some i => some (base + i)
    | none => none
def mapO {α β : Type} (f : α → Option β) : List α → Option (List β)
  | [] => some []
  | a :: as => match f a, mapO f as with
    | some b, some bs => some (b :: bs)
    | _, _ => none
def renV (base : Nat) (K : List Nat) : Nat → Value → Option Value
  | _, .bool b => some (.bool b)
  | _, .int k n => some (.int k n)
  | _, .string s => some (.string s)
  | _, .nilFunc => some .nilFunc
  | _, .nilIface => some .nilIface
  | _, .pointer none => some (.pointer none)
  | _, .pointer (some ⟨b, o, none⟩) => match ren base K b with
    | some b' => some (.pointer (some ⟨b', o, none⟩))
    | none => none
  | _, .slice none n c => some (.slice none n c)
  | _, .slice (some ⟨b, o, none⟩) n c => match ren base K b with
    | some b' => some (.slice (some ⟨b', o, none⟩) n c)
    | none => none
  | _, .map none => some (.map none)
  | _, .map (some b) => match ren base K b with
    | some b' => some (.map (some b'))
    | none => none
  | n + 1, .agg cs => match mapO (renV base K n) cs.toList with
    | some l => some (.agg l.toArray)
    | none => none
  | n + 1, .tuple cs => match mapO (renV base K n) cs.toList with
    | some l => some (.tuple l.toArray)
    | none => none
  | n + 1, .func (.func f) a b => match mapO (renV base K n) a.toList, mapO (renV base K n) b.toList with
    | some x, some y => some (.func (.func f) x.toArray y.toArray)
    | _, _ => none
  | _, _ => none
def renE (base : Nat) (K : List Nat) (e : Value × Value) : Option (Value × Value) :=
  match renV base K 3 e.1, renV base K 3 e.2 with
  | some a, some b => some (a, b)
  | _, _ => none
def renO (base : Nat) (K : List Nat) : Option SO → Option SO
  | some (.cells cs el pf own older) =>
    if own == 2 then some (.cells [] el true 2 [])
    else match (if pf then some cs else mapO (renV base K 3) cs) with
      | some cs' => some (.cells cs' el pf own (older.filterMap (ren base K)))
      | none => none
  | some (.map pf es) => match (if pf then some es else mapO (renE base K) es) with
    | some es' => some (.map pf es')
    | none => none
  | _ => none
def gcS (base : Nat) (v : Value) (h : SHeap) : Option (Value × SHeap) :=
  let K := reach base h 1000000 (ptrs 3 v) []
  match renV base K 3 v, mapO (fun k => renO base K h[k]?) K with
  | some v', some kept => some (v', h.take base ++ kept)
  | _, _ => none
def resS (t : T) (h : SHeap) : List SRes → Option (List Value)
  | [] => some []
  | .tmp i :: r => match resS t h r with
    | some l => some (tget t i :: l)
    | none => none
  | .cell agg i :: r => match loadS h agg (tget t i), resS t h r with
    | some v, some l => some (v :: l)
    | _, _ => none
def oneV : List Value → Value
  | [v] => v
  | l => .tuple l.toArray
def shut (h : SHeap) : List Nat → Option SHeap
  | [] => some h
  | b :: r => match h[b]? with
    | some .deferred => shut (h.set b SO.gone) r
    | _ => none
def fin (sf : SFunc) (base : Nat) (s : St) : Option (Value × SHeap × List Nat) :=
  match shut s.h s.ms with
  | none => none
  | some h => match resS s.t h sf.res with
    | none => none
    | some l =>
      if s.d.isEmpty then
        match gcS base (oneV l) h with
        | some (v, h') => fV 3 v fun v => fH h' fun h' => some (v, h', [])
        | none => none
      else some (oneV l, h, s.d)
def stepCall (FT : FuncId → Option SFunc) (R : Rec) (f : FuncId) (args : List Value) (h : SHeap) : Option (Value × SHeap × List Nat) :=
  match FT f with
  | none => none
  | some sf =>
    if Nat.blt args.length (2 ^ sf.dep) then
      fNat h.length fun base => fFill (T.blank sf.dep) 0 args fun t =>
      match exec R ⟨base, none, f⟩ sf.body ⟨t, [], h, []⟩ with
      | some (.normal, s) => fin sf base s
      | some (.ret, s) => fin sf base s
      | _ => none
    else none
def zipSet (t : T) : List Nat → List Value → T
  | p :: ps, a :: as => zipSet (t.set p a) ps as
  | _, _ => t
def fZip {α : Type} (t : T) (ps : List Nat) (as : List Value) (k : T → α) : α :=
  match ps, as with
  | p :: ps, a :: as => fSet t p a fun t => fZip t ps as k
  | _, _ => k t
theorem fZip_eq {α : Type} (t : T) (ps : List Nat) (as : List Value) (k : T → α) : fZip t ps as k = k (zipSet t ps as) := by
  induction ps generalizing t as with
  | nil => simp [fZip, zipSet]
  | cons p ps ih => cases as with
    | nil => simp [fZip, zipSet]
    | cons a as => simp [fZip, zipSet, fSet_eq, ih]
def exCode : Ex → Option SCode
  | .normal => none
  | .ret => some .ret
  | .exit id => some (.exit id)
def exNormal : Ex → Bool
  | .normal => true
  | _ => false
def stepRound (R : Rec) (base l : Nat) (args : List Value) (h : SHeap) : Option (Value × SHeap × List Nat) :=
  match h[l]? with
  | some (.loop 0 fn t ps as body _ _) =>
    if args.length == ps.length then
      fZip t ps args fun t1 => match exec R ⟨base, some l, fn⟩ as ⟨t1, [], h, []⟩ with
      | some (.normal, s1) =>
        match s1.h[l]? with
        | some (.loop 0 _ _ _ _ _ pend _) =>
          fH (setLoop s1.h l 1 pend) fun h1 => match exec R ⟨base, some l, fn⟩ body ⟨s1.t, s1.ms, h1, s1.d⟩ with
          | some (ex, s2) =>
            match s2.h[l]? with
            | some (.loop _ _ _ _ _ _ _ _) =>
              some (.bool (exNormal ex), setLoop s2.h l (if exNormal ex then 0 else 2) (exCode ex), s2.d)
            | _ => none
          | none => none
        | _ => none
      | _ => none
    else none
  | _ => none
def stepLoop (R : Rec) (cx : Cx) (c : SCode) (s : St) : Option (Ex × St) :=
  match exec R cx c s with
  | some (.normal, s') => R.loop cx c s'
  | r => r
def run (FT : FuncId → Option SFunc) : Nat → Rec
  | 0 => ⟨fun _ _ _ => none, fun _ _ _ _ => none, fun _ _ _ => none⟩
  | n + 1 => ⟨stepCall FT (run FT n), stepRound (run FT n), stepLoop (run FT n)⟩
end Go.Proofs.Ytioijehbmgmgkaa.Sh

