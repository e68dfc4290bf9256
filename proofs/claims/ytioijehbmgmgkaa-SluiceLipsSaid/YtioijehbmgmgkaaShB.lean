/- The shadow machine: from loaded code to shadow code. -/
import Derived.Test.YtioijehbmgmgkaaShA
set_option linter.all false
namespace Go.Proofs.Ytioijehbmgmgkaa.Sh
open Go
def okO : Operand → Bool
  | .tmp _ => true
  | .const v => plainC v
  | .func _ => true
  | .global _ => false
def ifO {α : Type} (b : Bool) (x : Option α) : Option α := if b then x else none
def aggOf (P : Program) (t : TypeId) : Option (Option Nat) :=
  match P.underlying t, P.info? t with
  | some (.struct _), some i => some (some i.size)
  | some (.array _ _), some i => some (some i.size)
  | some _, some i => if i.size == 1 then some none else none
  | _, _ => none
def szOf (P : Program) (t : TypeId) : Option Nat := (P.info? t).map (·.size)
def pfOf (P : Program) (t : TypeId) : Bool := match P.info? t with | some i => !i.hasPointers | none => false
def zeroOf (P : Program) (t : TypeId) : Option (List Value) :=
  match (P.info? t).bind (·.zero) with
  | some v => if plainC v then some (cellsL v) else none
  | none => none
def flatT (P : Program) (t : TypeId) : Option CK :=
  match P.info? t with
  | none => none
  | some i => if i.size == 1 then
    match P.underlying t with
    | some (.int _) => some .int
    | some .bool => some .bool
    | some .string => some .string
    | _ => none
    else none
def flatFields (P : Program) : Nat → List Field → Option (List CK)
  | _, [] => some []
  | n, f :: r => if f.name != "_" && f.offset == n then match flatT P f.type, flatFields P (n + 1) r with
    | some k, some l => some (k :: l)
    | _, _ => none
    else none
def eqKind (P : Program) (t : TypeId) : Option EqK :=
  match P.underlying t with
  | some (.int _) => some .int
  | some .bool => some .bool
  | some .string => some .string
  | some (.pointer _) => some .ptr
  | some (.slice _) => some .slice
  | some (.func _ _ _) => some .func
  | some (.array n e) => if !(P.eqGuardType P.depth t) then (flatT P e).map fun k => .agg (List.replicate n k) else none
  | some (.struct fs) => if !(P.eqGuardType P.depth t) && !(P.stoodInHeld t) then (flatFields P 0 fs.toList).map .agg else none
  | _ => none
def mapKey (P : Program) (kt : TypeId) : Option EqK :=
  match P.underlying kt with
  | some (.int _) => some .int
  | some (.array n e) => match flatT P e with
    | some .int => if !(P.eqGuardType P.depth kt) then some (.agg (List.replicate n .int)) else none
    | _ => none
  | _ => none
def laidAll : List (String × List Value) := [("careen/gauss.zero", [.int .i64 0, .int .i64 0]), ("careen/gauss.one", [.int .i64 1, .int .i64 0]), ("careen/supply.none", [.int .i64 0, .int .i64 0])]
def laidG (P : Program) (g : Nat) : Option (List Value) :=
  match P.globals[g]? with
  | some v => (laidAll.find? fun p => p.1 == v.name).map (·.2)
  | none => none
def loadG (P : Program) (t : TypeId) (g : Nat) : Option Value :=
  match laidG P g, aggOf P t with
  | some l, some (some n) => if Nat.beq n l.length && plainC (.agg l.toArray) then some (.agg l.toArray) else none
  | some [v], some none => if plainC v then some v else none
  | _, _ => none
def isSliceT (P : Program) (t : TypeId) : Option TypeId :=
  match P.underlying t with
  | some (.slice e) => some e
  | _ => none
def compParts (place : Nat → Option (Nat × Nat)) : List (Nat × Operand) → Option (List (Nat × Nat × Operand))
  | [] => some []
  | (i, x) :: r => match place i, compParts place r with
    | some (o, s), some l => if okO x then some ((o, s, x) :: l) else none
    | _, _ => none
def fieldPlaces (P : Program) (fs : Array Field) (i : Nat) : Option (Nat × Nat) :=
  match fs[i]? with
  | some f => (szOf P f.type).map fun s => (f.offset, s)
  | none => none
def compCall (P : Program) (c : Call) : Option SOp :=
  match c.callee with
  | .value f => if okO f && c.args.toList.all okO then some (.call f c.args.toList) else none
  | .invoke _ _ => none
  | .builtin b =>
    match b, c.args.toList, c.argTypes.toList with
    | .len, [x], [t] =>
      if okO x then
      match P.underlying t with
      | some (.slice _) => some (.len x)
      | some (.array n _) => some (.mov (.const (.int .i64 n)))
      | some (.pointer a) => match P.underlying a with
        | some (.array n _) => some (.mov (.const (.int .i64 n)))
        | _ => none
      | _ => none
      else none
    | .append, [x, y], [t, u] =>
      match isSliceT P t, isSliceT P u with
      | some e, some _ => match P.info? e, zeroOf P e with
        | some i, some z => if okO x && okO y && Nat.blt 0 i.size && z.length == i.size then some (.append e (!i.hasPointers) i.size i.bytes x y) else none
        | _, _ => none
      | _, _ => none
    | .copy, [x, y], [t, u] =>
      match isSliceT P t, isSliceT P u with
      | some e, some _ => match P.info? e with
        | some i => if okO x && okO y && Nat.blt 0 i.size then some (.copy i.size x y) else none
        | none => none
      | _, _ => none
    | .clear, [x], [t] =>
      match isSliceT P t with
      | some e => match P.info? e, zeroOf P e with
        | some i, some z => if okO x && z.length == i.size && Nat.blt 0 i.size then some (.clear i.size z x) else none
        | _, _ => none
      | none => none
    | .max, xs, _ => if xs.all okO then some (.maxi xs) else none
    | .min, xs, _ => if xs.all okO then some (.mini xs) else none
    | _, _, _ => none
def compOp (P : Program) (op : Op) : Option SOp :=
  match op with
  | .move x => ifO (okO x) (some (.mov x))
  | .assign x => ifO (okO x) (some (.mov x))
  | .pick c a b => ifO (okO c && okO a && okO b) (some (.pick c a b))
  | .alloc t => (zeroOf P t).map fun z => .alloc t (pfOf P t) z
  | .box t x => ifO (okO x) (some (.box t (pfOf P t) x))
  | .build t parts =>
    match P.underlying t, zeroOf P t with
    | some (.struct fs), some z => if fs.toList.all (fun f => (szOf P f.type).isSome) then (compParts (fieldPlaces P fs) parts.toList).map (.build z) else none
    | some (.array _ e), some z => match szOf P e with
      | some s => (compParts (fun i => some (i * s, s)) parts.toList).map (.build z)
      | none => none
    | _, _ => none
  | .buildSlice t len parts =>
    match isSliceT P t with
    | some e => match szOf P e, zeroOf P e with
      | some s, some z => if z.length == s && Nat.blt 0 s && Nat.ble (len * s) 16777216 then (compParts (fun i => some (i * s, s)) parts.toList).map (.buildSlice e (pfOf P e) z len) else none
      | _, _ => none
    | none => none
  | .load t (.global g) => (loadG P t g).map fun v => .mov (.const v)
  | .load t x => ifO (okO x) ((aggOf P t).map fun a => .load a x)
  | .makeMap t none =>
    match P.underlying t with
    | some (.map k e) => match mapKey P k, zeroOf P e with
      | some _, some _ => some (.makeMap (pfOf P k && pfOf P e))
      | _, _ => none
    | _ => none
  | .lookup t x k ok =>
    if okO x && okO k then
      match P.underlying t with
      | some (.map kt e) => match mapKey P kt, (P.info? e).bind (·.zero) with
        | some q, some z => if plainC z then some (.lookup q z ok x k) else none
        | _, _ => none
      | _ => none
    else none
  | .mapUpdate t x k v =>
    if okO x && okO k && okO v then
      match P.underlying t with
      | some (.map kt _) => (mapKey P kt).map fun q => .mapUpdate q x k v
      | _ => none
    else none
  | .range t x =>
    match P.underlying t with
    | some (.map _ _) => ifO (okO x) (some (.range x))
    | _ => none
  | .next x false => ifO (okO x) (some (.next x))
  | .entry x => ifO (okO x) (some (.entry x))
  | .store t x v => ifO (okO x && okO v) ((szOf P t).map fun n => .store n x v)
  | .nilCheck x => ifO (okO x) (some (.nilCheck x))
  | .binOp op t x y _ =>
    if okO x && okO y then
      match op with
      | .eql => (eqKind P t).map fun k => .eq k false x y
      | .neq => (eqKind P t).map fun k => .eq k true x y
      | _ => match P.underlying t with
        | some (.int _) => some (.bin op x y)
        | _ => none
    else none
  | .unOp op _ x => ifO (okO x) (some (.un op x))
  | .convert s t x => match P.underlying s, P.underlying t with
    | some _, some (.int k) => ifO (okO x) (some (.conv k x))
    | _, _ => none
  | .slice t x lo hi mx =>
    if okO x && lo.toList.all okO && hi.toList.all okO && mx.toList.all okO then
      match P.underlying t with
      | some (.slice e) => (szOf P e).map fun s => .slice e s x lo hi mx
      | some (.array n e) => (szOf P e).map fun s => .sliceArr n s x lo hi mx
      | _ => none
    else none
  | .fieldAddr t x f =>
    match P.underlying t with
    | some (.struct fs) => match fs[f]? with
      | some f => match szOf P f.type with
        | some s => if okO x && Nat.blt 0 s then some (.fieldAddr f.offset x) else none
        | none => none
      | none => none
    | _ => none
  | .field t x f =>
    match P.underlying t with
    | some (.struct fs) => match fs[f]? with
      | some f => ifO (okO x) ((aggOf P f.type).map fun a => .field a f.offset x)
      | none => none
    | _ => none
  | .indexAddr t x i =>
    if okO x && okO i then
      match P.underlying t with
      | some (.slice e) => (szOf P e).map fun s => .idxSl s x i
      | some (.array n e) => (szOf P e).map fun s => .idxArr n s x i
      | _ => none
    else none
  | .index t x i =>
    if okO x && okO i then
      match P.underlying t with
      | some (.array n e) => match szOf P e, aggOf P e with
        | some s, some a => some (.idx a n s x i)
        | _, _ => none
      | some .string => some (.idxStr x i)
      | _ => none
    else none
  | .makeFunc fn first cap => match fn with
    | .func f => if first.toList.all okO && cap.toList.all okO then some (.makeFunc f first.toList cap.toList) else none
    | _ => none
  | .extract x i => ifO (okO x) (some (.extract x i))
  | .call c => compCall P c
  | .makeSlice t l c =>
    match isSliceT P t with
    | some e => match P.info? e, zeroOf P e with
      | some i, some z => if okO l && okO c && z.length == i.size && Nat.blt 0 i.size then some (.makeSlice e (!i.hasPointers) i.bytes z l c) else none
      | _, _ => none
    | none => none
  | .insert t x k v =>
    if okO x && okO k && okO v then
      match P.underlying t with
      | some (.map kt _) => (mapKey P kt).map fun q => .mapUpdate q x k v
      | _ => none
    else none
  | .panic _ => some (.mov (.global 0))
  | .makeInterface _ _ => some (.mov (.global 0))
  | _ => none
def isE : SOp → Bool
  | .store .. | .append .. | .copy .. | .makeSlice .. | .call .. | .makeMap .. | .lookup .. | .mapLen .. | .mapUpdate .. | .clear .. | .range .. | .next .. | .entry .. => true
  | _ => false
def isLd : SOp → Bool
  | .load .. => true
  | _ => false
def compGuard (ops : Array Oper) (o : Oper) : Option (Option (Nat × Bool)) :=
  match o.guard with
  | none => some none
  | some (j, want) => match (ops[j]?).bind (·.dst) with
    | some t => some (some (t, want))
    | none => none
def compOper (P : Program) (ops : Array Oper) (i : Nat) : Option SOper :=
  match ops[i]? with
  | none => none
  | some o => match compOp P o.op, compGuard ops o with
    | some op, some g => some ⟨o.dst, none, op, g, i, false, []⟩
    | _, _ => none
def makes : SOp → Bool
  | .alloc .. | .box .. | .buildSlice .. => true
  | _ => false
def preOf : List SOper → Nat → List SOper
  | [], _ => []
  | o :: r, n => if makes o.op then { o with sl := some n } :: preOf r (n + 1) else o :: preOf r n
def countMakes (l : List SOper) : Nat := (l.filter fun o => makes o.op).length
def eager (ops : Array Oper) (so : List SOper) : Nat → Array Bool → Option (List Nat)
  | 0, listed => if Region.ready .any ops listed == [] then some [] else none
  | n + 1, listed =>
    let rs := Region.ready .any ops listed
    match rs.find? (fun i => (match so[i]? with | some o => !(isE o.op) | none => false) && Region.free .any ops listed i) with
    | some i => (eager ops so n (listed.setIfInBounds i true)).map (i :: ·)
    | none => match rs with
      | [] => some []
      | [i] => (eager ops so n (listed.setIfInBounds i true)).map (i :: ·)
      | _ => none
def opnds : SOp → List Operand
  | .mov x | .box _ _ x | .load _ x | .nilCheck x | .un _ x | .conv _ x | .fieldAddr _ x | .field _ _ x | .extract x _ | .len x | .mapLen x | .clear _ _ x | .range x | .next x | .entry x => [x]
  | .pick c a b => [c, a, b]
  | .alloc .. | .makeMap .. => []
  | .build _ ps | .buildSlice _ _ _ _ ps => ps.map (·.2.2)
  | .store _ x y | .bin _ x y | .eq _ _ x y | .idxArr _ _ x y | .idxSl _ x y | .idx _ _ _ x y | .append _ _ _ _ x y | .copy _ x y | .makeSlice _ _ _ _ x y | .lookup _ _ _ x y | .idxStr x y => [x, y]
  | .slice _ _ x lo hi mx | .sliceArr _ _ x lo hi mx => x :: (lo.toList ++ hi.toList ++ mx.toList)
  | .makeFunc _ a b => a ++ b
  | .maxi xs | .mini xs => xs
  | .call f xs => f :: xs
  | .mapUpdate _ x y z => [x, y, z]
def tmpOf : Operand → Option Nat
  | .tmp i => some i
  | _ => none
def ancOf (acc : List (Nat × List Nat)) (es : List Edge) : List Nat :=
  es.flatMap fun e => if Region.binds .any e then e.on :: (match acc.find? (fun p => Nat.beq p.1 e.on) with | some p => p.2 | none => []) else []
def toChk (done : List SOper) (anc : List Nat) : List Nat :=
  done.filterMap fun x => if isLd x.op && !(anc.any (Nat.beq x.id)) then some x.id else none
def annot (ops : Array Oper) (so : List SOper) : List SOper → List (Nat × List Nat) → List Nat → Option (List SOper)
  | _, _, [] => some []
  | done, acc, i :: r => match so[i]?, ops[i]? with
    | some o, some op =>
      let anc := (ancOf acc op.after.toList).eraseDups
      let o' := { o with lg := isLd o.op, chk := if isE o.op then toChk done anc else [] }
      (annot ops so (o' :: done) ((i, anc) :: acc) r).map (o' :: ·)
    | _, _ => none
def hasEdge (op : Oper) (p : Nat → Bool) : Bool := op.after.toList.any fun e => Region.binds .any e && p e.on
def freeOf (ops : Array Oper) (i : Nat) (op : Oper) (rest : List SOper) : Bool :=
  rest.all fun y => match ops[y.id]? with
    | some oy => hasEdge oy (Nat.beq i) || op.apart ops oy
    | none => false
def soloOf (ops : Array Oper) (done : List SOper) (rest : List SOper) : Bool :=
  rest.all fun y => match ops[y.id]? with
    | some oy => hasEdge oy fun j => done.all fun x => !(Nat.beq x.id j)
    | none => false
def placeOk (n : Nat) (o : SOper) (done : List SOper) : Bool :=
  !(makes o.op) || match o.sl with
    | some s => Nat.blt s n && done.all fun x => !(makes x.op) || match x.sl with
      | some s' => !(Nat.beq s s')
      | none => false
    | none => false
def oneOk (ops : Array Oper) (n : Nat) (acc : List (Nat × List Nat)) (done : List SOper) (o : SOper) (rest : List SOper) : Bool :=
  match ops[o.id]? with
  | none => false
  | some op =>
    done.all (fun x => !(Nat.beq x.id o.id)) &&
    op.after.toList.all (fun e => !(Region.binds .any e) || done.any fun x => Nat.beq x.id e.on) &&
    ((!(isE o.op) && freeOf ops o.id op rest) || soloOf ops done rest) &&
    ((opnds o.op).filterMap tmpOf).all (fun t => (op.looksAt ops).any (Nat.beq t)) &&
    (match o.gd with | some (t, _) => (op.looksAt ops).any (Nat.beq t) | none => true) &&
    placeOk n o done &&
    (!(isLd o.op) || o.lg) &&
    (!(isE o.op) || done.all fun x => !(isLd x.op) || o.chk.contains x.id || (ancOf acc op.after.toList).any (Nat.beq x.id))
def regOk (ops : Array Oper) (n : Nat) : List (Nat × List Nat) → List SOper → List SOper → Bool
  | _, _, [] => true
  | acc, done, o :: rest => oneOk ops n acc done o rest &&
    regOk ops n ((o.id, (ancOf acc (match ops[o.id]? with | some op => op.after.toList | none => [])).eraseDups) :: acc) (o :: done) rest
def isIter : SOp → Bool
  | .range .. | .next .. | .entry .. => true
  | _ => false
def compRegion (P : Program) (ops : Array Oper) (draw : Bool) : Option SCode :=
  match mapO (compOper P ops) (List.range ops.size) with
  | none => none
  | some so =>
    if draw then
      if so.any (fun o => isIter o.op) then none else
      match eager ops (preOf so 0) ops.size (Array.replicate ops.size false) with
      | some l => match annot ops (preOf so 0) [] [] l with
        | some al => if (List.range ops.size).all (fun i => al.any fun o => Nat.beq o.id i) && regOk ops (countMakes so) [] [] al then some (.region (countMakes so) al) else none
        | none => none
      | none => none
    else some (.region 0 so)
def compCode (P : Program) : Code → Option SCode
  | .skip => some .skip
  | .label _ => some .skip
  | .region _ ops draw => compRegion P ops draw
  | .scope c => compCode P c
  | .seq a b => match compCode P a, compCode P b with
    | some x, some y => some (.seq x y)
    | _, _ => none
  | .cond c a b => match compCode P a, compCode P b with
    | some x, some y => if okO c then some (.cond c x y) else none
    | _, _ => none
  | .block id c => (compCode P c).map (.block id)
  | .loop c => (compCode P c).map .loop
  | .rangeFunc f ps a b => match compCode P a, compCode P b with
    | some x, some y => if okO f then some (.rangeFunc f ps.toList x y) else none
    | _, _ => none
  | .exit id => some (.exit id)
  | .ret => some .ret
  | _ => none
def compRes (P : Program) : List ResultVar → Option (List SRes)
  | [] => some []
  | .tmp t :: r => (compRes P r).map (.tmp t :: ·)
  | .cell a t :: r => match aggOf P t, compRes P r with
    | some g, some l => some (.cell g a :: l)
    | _, _ => none
def bounded (nt : Nat) : SCode → Bool
  | .skip => true
  | .region _ ops => ops.all fun o => match o.dst with | some d => Nat.blt d nt | none => true
  | .seq a b => bounded nt a && bounded nt b
  | .cond _ a b => bounded nt a && bounded nt b
  | .block _ c => bounded nt c
  | .loop c => bounded nt c
  | .rangeFunc _ ps a b => ps.all (fun d => Nat.blt d nt) && bounded nt a && bounded nt b
  | .exit _ => true
  | .ret => true
def compFunc (P : Program) (fn : Func) : Option SFunc :=
  match fn.body with
  | none => none
  | some c => match compCode P c, compRes P fn.results.toList with
    | some sc, some rs => if bounded fn.ntmps sc && fn.name != "runtime.NumGoroutine" then some ⟨Nat.log2 fn.ntmps + 1, rs, sc⟩ else none
    | _, _ => none
end Go.Proofs.Ytioijehbmgmgkaa.Sh

