/- What one operation does to a frame read as data; and that the world does so. Part 1: the operations' readings. -/
import Derived.Test.YtcaokibfjjoimaaACore
namespace Go.Abs
open Go.RowKit
set_option linter.unusedVariables false
set_option linter.unusedSimpArgs false

def atomOf : Value → A
  | .bool b => .v (.bool b)
  | .int k n => .v (.int k n)
  | .string s => .v (.string s)
  | .nilIface => .v .nilIface
  | .slice none 0 0 => .nil
  | _ => .dead
def A.solid : A → Bool
  | .dead => false
  | .fr _ _ => false
  | _ => true
def constAV : Value → AV
  | .agg cs => if (cs.toList.map atomOf).all A.solid then .ag (cs.toList.map atomOf) else .at .dead
  | .tuple _ => .at .dead
  | v => .at (atomOf v)

def St.ev (σ : St) : Operand → AV
  | .tmp t => σ.t t
  | .const v => constAV v
  | _ => .at .dead

abbrev Res := Option (AV × Mem × Prop)

def aggT (P : Program) (t : TypeId) : Option Bool :=
  match P.underlying t with
  | some (.struct _) => some true
  | some (.array _ _) => some true
  | some _ => some false
  | none => none
def szT (P : Program) (t : TypeId) : Option Nat := (P.info? t).map (·.size)

def isStr (P : Program) (t : TypeId) : Bool :=
  match P.underlying t with
  | some .string => true
  | _ => false

def intBin : BinOp → IntKind → Int → Int → Option (Value × Prop)
  | .add, k, a, b => some (.int k (k.wrap (a + b)), True)
  | .sub, k, a, b => some (.int k (k.wrap (a - b)), True)
  | .mul, k, a, b => some (.int k (k.wrap (a * b)), True)
  | .quo, k, a, b => some (.int k (k.wrap (a.tdiv b)), b ≠ 0)
  | .rem, k, a, b => some (.int k (a.tmod b), b ≠ 0)
  | .and, k, a, b => some (.int k (k.wrap ((BitVec.ofInt k.bits a &&& BitVec.ofInt k.bits b).toNat)), True)
  | .or, k, a, b => some (.int k (k.wrap ((BitVec.ofInt k.bits a ||| BitVec.ofInt k.bits b).toNat)), True)
  | .xor, k, a, b => some (.int k (k.wrap ((BitVec.ofInt k.bits a ^^^ BitVec.ofInt k.bits b).toNat)), True)
  | .eql, _, a, b => some (.bool (a == b), True)
  | .neq, _, a, b => some (.bool (a != b), True)
  | .lss, _, a, b => some (.bool (a < b), True)
  | .leq, _, a, b => some (.bool (a ≤ b), True)
  | .gtr, _, a, b => some (.bool (a > b), True)
  | .geq, _, a, b => some (.bool (a ≥ b), True)
  | _, _, _, _ => none
def shBin : BinOp → IntKind → Int → Int → Option (Value × Prop)
  | .shl, k, a, b => some (.int k (k.wrap (a * 2 ^ (min b.toNat k.bits))), 0 ≤ b)
  | .shr, k, a, b => some (.int k (a.fdiv (2 ^ (min b.toNat k.bits))), 0 ≤ b)
  | _, _, _, _ => none
def strBin : BinOp → ByteArray → ByteArray → Option (Value × Prop)
  | .add, x, y => some (.string (x ++ y), x.size + y.size ≤ 9223372036854775807)
  | .eql, x, y => some (.bool (x.toList == y.toList), True)
  | .neq, x, y => some (.bool (!(x.toList == y.toList)), True)
  | _, _, _ => none

/-- The fields of two structs, compared: numbers and bools alone. -/
def eqCells (P : Program) : List Field → List A → List A → Option Bool
  | [], _, _ => some true
  | f :: fs, xs, ys =>
    if f.name = "_" then none else
    match P.underlying f.type, xs[f.offset]?, ys[f.offset]?, eqCells P fs xs ys with
    | some (.int _), some (.v (.int k a)), some (.v (.int k' b)), some r => if k = k' then some ((a == b) && r) else none
    | some .bool, some (.v (.bool a)), some (.v (.bool b)), some r => some ((a == b) && r)
    | _, _, _, _ => none

def binS (P : Program) (op : BinOp) (t : TypeId) : AV → AV → Option (Value × Prop)
  | .at (.v (.int k a)), .at (.v (.int k' b)) =>
    match op with
    | .shl => shBin .shl k a b
    | .shr => shBin .shr k a b
    | op => if k = k' then intBin op k a b else none
  | .at (.v (.string a)), .at (.v (.string b)) => strBin op a b
  | .at (.v (.bool a)), .at (.v (.bool b)) =>
    match P.underlying t, op with
    | some .bool, .eql => some (.bool (a == b), True)
    | some .bool, .neq => some (.bool (!(a == b)), True)
    | _, _ => none
  | .at .er, .at (.v .nilIface) =>
    match P.underlying t, op with
    | some (.interface _), .eql => some (.bool false, True)
    | some (.interface _), .neq => some (.bool true, True)
    | _, _ => none
  | .ag xs, .ag ys =>
    match P.underlying t with
    | some (.struct fs) =>
      match eqCells P fs.toList xs ys, op with
      | some r, .eql => some (.bool r, P.eqGuardType P.depth t = false ∧ P.stoodInHeld t = false)
      | some r, .neq => some (.bool (!r), P.eqGuardType P.depth t = false ∧ P.stoodInHeld t = false)
      | _, _ => none
    | _ => none
  | _, _ => none

def unS (op : UnOp) : AV → Option Value
  | .at (.v (.bool b)) => match op with | .not => some (.bool (!b)) | _ => none
  | .at (.v (.int k n)) => match op with | .neg => some (.int k (k.wrap (0 - n))) | _ => none
  | _ => none

def convS (P : Program) (src dst : TypeId) : AV → Option Value
  | .at (.v (.int _ n)) =>
    match P.underlying src, P.underlying dst with
    | some (.int _), some (.int k) => some (.int k (k.wrap n))
    | some (.int _), some .string => some (.string (Utf8.encode n))
    | _, _ => none
  | .at (.v (.string s)) =>
    match P.underlying src, P.underlying dst with
    | some .string, some .string => some (.string s)
    | _, _ => none
  | _ => none

def loadS (P : Program) (t : TypeId) (m : Mem) : AV → Option (AV × Prop)
  | .at (.bx k ver off) =>
    match m k with
    | .box ver' cells =>
      if ver = ver' then
        match aggT P t, szT P t with
        | some true, some s => some (.ag ((cells.drop off).take s), off + s ≤ cells.length)
        | some false, _ => match cells[off]? with | some a => some (.at a, True) | none => none
        | _, _ => none
      else none
    | _ => none
  | .at (.pa k ver sz i off) =>
    match m k with
    | .arr ver' sz' rows | .ice ver' sz' rows =>
      if ver = ver' ∧ sz = sz' then
        match aggT P t, szT P t with
        | some true, some s => some (.ag (((((rows.getD i []).drop off).take s)).map .v), i < rows.length ∧ off + s ≤ sz)
        | some false, _ => some (.at (.v ((rows.getD i []).getD off undef)), i < rows.length ∧ off < sz)
        | _, _ => none
      else none
    | _ => none
  | .at (.pi cs) =>
    match aggT P t, szT P t with
    | some true, some s => some (.ag ((cs.take s).map .v), s ≤ cs.length)
    | some false, _ => some (.at (.v (cs.getD 0 undef)), 0 < cs.length)
    | _, _ => none
  | _ => none

def atomsOf : AV → Option (List A)
  | .at a => if a.solid then some [a] else none
  | .ag cs => some cs
  | .tp _ => none
def vOf : A → Option Value
  | .v x => some x
  | _ => none
def valsOf : List A → Option (List Value)
  | [] => some []
  | .v x :: as => (valsOf as).map (x :: ·)
  | _ :: _ => none

def splice {β : Type} (l : List β) (off : Nat) (xs : List β) : List β := l.take off ++ xs ++ l.drop (off + xs.length)

def storeS (P : Program) (t : TypeId) (m : Mem) : AV → AV → Option (Mem × Prop)
  | .at (.bx k ver off), x =>
    match m k, atomsOf x, szT P t with
    | .box ver' cells, some as, some s => if ver = ver' ∧ as.length = s then some (upd m k (.box ver (splice cells off as)), off + s ≤ cells.length) else none
    | _, _, _ => none
  | .at (.pa k ver sz i off), x =>
    match m k, (atomsOf x).bind valsOf, szT P t with
    | .arr ver' sz' rows, some us, some s => if ver = ver' ∧ sz = sz' ∧ us.length = s then some (upd m k (.arr ver sz (rows.set i (splice (rows.getD i []) off us))), i < rows.length ∧ off + s ≤ sz) else none
    | _, _, _ => none
  | _, _ => none

def fieldAddrS (P : Program) (s : TypeId) (f : Nat) (x : AV) : Option AV :=
    match P.underlying s with
    | some (.struct fs) =>
      match fs[f]? with
      | some fd =>
        match szT P fd.type with
        | some (_ + 1) =>
          match x with
          | .at (.bx k ver off) => some (.at (.bx k ver (off + fd.offset)))
          | .at (.pa k ver sz i off) => some (.at (.pa k ver sz i (off + fd.offset)))
          | .at (.pi cs) => some (.at (.pi (cs.drop fd.offset)))
          | _ => none
        | _ => none
      | none => none
    | _ => none

def fieldS (P : Program) (s : TypeId) (f : Nat) : AV → Option (AV × Prop)
  | .ag cs =>
    match P.underlying s with
    | some (.struct fs) =>
      match fs[f]? with
      | some fd =>
        match aggT P fd.type, szT P fd.type with
        | some true, some n => some (.ag ((cs.drop fd.offset).take n), fd.offset + n ≤ cs.length)
        | some false, _ => match cs[fd.offset]? with | some a => some (.at a, True) | none => none
        | _, _ => none
      | none => none
    | _ => none
  | _ => none

def indexAddrS (P : Program) (t : TypeId) : AV → AV → Option (AV × Prop)
  | .at (.im sz rows), .at (.v (.int _ i)) =>
    match P.underlying t with
    | some (.slice e) => if szT P e = some sz then some (.at (.pi (rows.getD i.toNat [])), 0 ≤ i ∧ i < (rows.length : Int)) else none
    | _ => none
  | .at (.ow k ver sz n), .at (.v (.int _ i)) =>
    match P.underlying t with
    | some (.slice e) => if szT P e = some sz then some (.at (.pa k ver sz i.toNat 0), 0 ≤ i ∧ i < (n : Int)) else none
    | _ => none
  | _, _ => none

def indexS (P : Program) (t : TypeId) : AV → AV → Option (AV × Prop)
  | .at (.v (.string s)), .at (.v (.int _ i)) =>
    match P.underlying t with
    | some .string => some (.at (.v (.int .u8 ((s[i.toNat]?.getD 0).toNat : Int))), 0 ≤ i ∧ i < (s.size : Int))
    | _ => none
  | _, _ => none

def intOfAV : AV → Option Int
  | .at (.v (.int _ i)) => some i
  | _ => none
def boundS (σ : St) (x : Option Operand) (dflt : Int) : Option Int :=
  match x with
  | none => some dflt
  | some o => intOfAV (σ.ev o)

/-- 'quiet': a slice of memory of the call's own may not be cut here. -/
def sliceS (P : Program) (nx : Nat) (quiet : Bool) (t : TypeId) (σ : St) (x : AV) (lo hi mx : Option Operand) : Option (AV × Mem × Prop) :=
  match mx with
  | some _ => none
  | none =>
    match P.underlying t, x with
    | some .string, .at (.v (.string s)) =>
      match boundS σ lo 0, boundS σ hi s.size with
      | some l, some h => some (.at (.v (.string (s.extract l.toNat h.toNat))), σ.m, 0 ≤ l ∧ l ≤ h ∧ h ≤ (s.size : Int))
      | _, _ => none
    | some (.slice e), .at (.im sz rows) =>
      if szT P e = some sz then
        match boundS σ lo 0, boundS σ hi rows.length with
        | some l, some h => some (.at (.im sz ((rows.drop l.toNat).take (h.toNat - l.toNat))), σ.m, 0 ≤ l ∧ l ≤ h ∧ h ≤ (rows.length : Int))
        | _, _ => none
      else none
    | some (.slice e), .at .nil =>
      match boundS σ lo 0, boundS σ hi 0, szT P e with
      | some l, some h, some _ => some (.at .nil, σ.m, l = 0 ∧ h = 0)
      | _, _, _ => none
    | some (.slice e), .at (.ow k ver sz n) =>
      if szT P e = some sz ∧ quiet = false ∧ nx ≤ k then
        match boundS σ lo 0, boundS σ hi n, σ.m k with
        | some l, some h, .arr ver' sz' rows =>
          if ver = ver' ∧ sz = sz' then some (.at (.ow k (ver + 1) sz (h.toNat - l.toNat)), upd σ.m k (.arr (ver + 1) sz ((rows.drop l.toNat).take (h.toNat - l.toNat))), 0 ≤ l ∧ l ≤ h ∧ h ≤ (n : Int)) else none
        | _, _, _ => none
      else none
    | _, _ => none

def zeroAtoms (P : Program) (t : TypeId) : Option (List A) :=
  match P.info? t with
  | some i => i.zero.map fun z => z.cells.toList.map atomOf
  | none => none
def zeroVals (P : Program) (t : TypeId) : Option (List Value) :=
  match P.info? t with
  | some i => i.zero.map fun z => z.cells.toList
  | none => none

/-- The parts of a struct literal, laid one by one. -/
def fillS (fs : List Field) (P : Program) (σ : St) : List (Nat × Operand) → List A → Option (List A)
  | [], cells => some cells
  | (i, x) :: rest, cells =>
    match fs[i]?, atomsOf (σ.ev x) with
    | some fd, some as => if szT P fd.type = some as.length ∧ fd.offset + as.length ≤ cells.length then fillS fs P σ rest (splice cells fd.offset as) else none
    | _, _ => none
def fillRows (σ : St) (sz : Nat) : List (Nat × Operand) → List (List Value) → Option (List (List Value))
  | [], rows => some rows
  | (i, x) :: rest, rows =>
    match (atomsOf (σ.ev x)).bind valsOf with
    | some us => if us.length = sz ∧ i < rows.length then fillRows σ sz rest (rows.set i us) else none
    | none => none

def srcRows (m : Mem) : AV → Option (Nat × List (List Value))
  | .at (.im sz rows) => some (sz, rows)
  | .at (.ow k ver sz n) =>
    match m k with
    | .arr ver' sz' rows | .ice ver' sz' rows => if ver = ver' ∧ sz = sz' then some (sz, rows) else none
    | _ => none
  | _ => none


/-- 'src' behind 'dst': the rows, and the limit on room. -/
def appendS (P : Program) (κ : Nat) (nx : Nat) (t t2 : TypeId) (m : Mem) (dst src : AV) : Res :=
  match P.underlying t with
  | some (.slice e) =>
    match szT P e, (P.info? e).map (·.bytes) with
    | some (sz + 1), some by_ =>
      match (match src with
        | .at (.v (.string s)) => if sz = 0 ∧ isStr P t2 = true then some (s.data.toList.map fun (b : UInt8) => [Value.int .u8 (b.toNat : Int)]) else none
        | .at .nil => if t2 = t then some [] else none
        | x => (srcRows m x).bind fun p => if p.1 = sz + 1 ∧ t2 = t then some p.2 else none) with
      | some news =>
        match dst with
        | .at .nil =>
          match m κ with
          | .gone => if (zeroVals P e).map List.length = some (sz + 1) then some (.at (.ow κ 0 (sz + 1) news.length), upd m κ (.arr 0 (sz + 1) news), nx ≤ κ ∧ news.length * by_ ≤ 140737488355328 ∧ news.length ≤ 4611686018427387904) else none
          | _ => none
        | .at (.ow k ver sz' n) =>
          match m k with
          | .arr ver' sz'' rows =>
            if ver = ver' ∧ sz' = sz'' ∧ sz' = sz + 1 ∧ nx ≤ k ∧ (zeroVals P e).map List.length = some (sz + 1) then
              some (.at (.ow k (ver + 1) (sz + 1) (rows.length + news.length)), upd m k (.arr (ver + 1) (sz + 1) (rows ++ news)), (rows.length + news.length) * by_ ≤ 140737488355328 ∧ rows.length + news.length ≤ 4611686018427387904)
            else none
          | _ => none
        | _ => none
      | none => none
    | _, _ => none
  | _ => none

def lenS (P : Program) (t : TypeId) : AV → Option Value
  | .at (.v (.string s)) => match P.underlying t with | some .string => some (.int .i64 s.size) | _ => none
  | .at (.im _ rows) => match P.underlying t with | some (.slice _) => some (.int .i64 rows.length) | _ => none
  | .at (.ow _ _ _ n) => match P.underlying t with | some (.slice _) => some (.int .i64 n) | _ => none
  | .at .nil => match P.underlying t with | some (.slice _) => some (.int .i64 0) | _ => none
  | _ => none

def max2S : AV → AV → Option Value
  | .at (.v (.int k x)), .at (.v (.int _ y)) => some (.int k (if y > x then y else x))
  | _, _ => none
def min2S : AV → AV → Option Value
  | .at (.v (.int k x)), .at (.v (.int _ y)) => some (.int k (if y < x then y else x))
  | _, _ => none

def builtinS (P : Program) (κ nx : Nat) (b : Builtin) (args : List Operand) (ts : List TypeId) (σ : St) : Res :=
  match b, args, ts with
  | .len, [x], [t] => match lenS P t (σ.ev x) with | some v => some (.at (.v v), σ.m, True) | none => none
  | .max, [x, y], _ => match max2S (σ.ev x) (σ.ev y) with | some v => some (.at (.v v), σ.m, True) | none => none
  | .min, [x, y], _ => match min2S (σ.ev x) (σ.ev y) with | some v => some (.at (.v v), σ.m, True) | none => none
  | .append, [x, y], [t, t2] => appendS P κ nx t t2 σ.m (σ.ev x) (σ.ev y)
  | _, _, _ => none

def siteOf (d : Option Nat) : Nat := 1000 + 16 * d.getD 0

def opS (P : Program) (nx : Nat) (quiet : Bool) (o : Oper) (σ : St) : Res :=
  match o.op with
  | .move x => some (σ.ev x, σ.m, True)
  | .assign x => some (σ.ev x, σ.m, True)
  | .pick c a b =>
    match σ.ev c with
    | .at (.v (.bool true)) => some (σ.ev a, σ.m, True)
    | .at (.v (.bool false)) => some (σ.ev b, σ.m, True)
    | _ => none
  | .binOp op t x y _ => match binS P op t (σ.ev x) (σ.ev y) with | some (v, c) => some (.at (.v v), σ.m, c) | none => none
  | .unOp op _ x => match unS op (σ.ev x) with | some v => some (.at (.v v), σ.m, True) | none => none
  | .convert s d x => match convS P s d (σ.ev x) with | some v => some (.at (.v v), σ.m, True) | none => none
  | .load t x => match loadS P t σ.m (σ.ev x) with | some (v, c) => some (v, σ.m, c) | none => none
  | .store t p x => match storeS P t σ.m (σ.ev p) (σ.ev x) with | some (m', c) => some (.at .dead, m', c) | none => none
  | .fieldAddr s x f => match fieldAddrS P s f (σ.ev x) with | some v => some (v, σ.m, True) | none => none
  | .field s x f => match fieldS P s f (σ.ev x) with | some (v, c) => some (v, σ.m, c) | none => none
  | .indexAddr t x i => match indexAddrS P t (σ.ev x) (σ.ev i) with | some (v, c) => some (v, σ.m, c) | none => none
  | .index t x i => match indexS P t (σ.ev x) (σ.ev i) with | some (v, c) => some (v, σ.m, c) | none => none
  | .slice t x lo hi mx => sliceS P nx quiet t σ (σ.ev x) lo hi mx
  | .box _ x =>
    match σ.m (siteOf o.dst), atomsOf (σ.ev x) with
    | .gone, some as => some (.at (.bx (siteOf o.dst) 0 0), upd σ.m (siteOf o.dst) (.box 0 as), nx ≤ siteOf o.dst)
    | _, _ => none
  | .alloc t =>
    match σ.m (siteOf o.dst), zeroAtoms P t with
    | .gone, some as => if as.all A.solid then some (.at (.bx (siteOf o.dst) 0 0), upd σ.m (siteOf o.dst) (.box 0 as), nx ≤ siteOf o.dst) else none
    | _, _ => none
  | .build t parts =>
    match P.underlying t, zeroAtoms P t with
    | some (.struct fs), some as =>
      if as.all A.solid = true ∧ fs.toList.all (fun (fd : Field) => (szT P fd.type).isSome) = true then
        match fillS fs.toList P σ parts.toList as with
        | some cs => some (.ag cs, σ.m, True)
        | none => none
      else none
    | _, _ => none
  | .buildSlice t len parts =>
    match P.underlying t with
    | some (.slice e) =>
      match σ.m (siteOf o.dst), szT P e, zeroVals P e with
      | .gone, some (sz + 1), some z =>
        if z.length = sz + 1 ∧ z.all (·.oneCell') = true ∧ len * (sz + 1) ≤ 16777216 then
          match fillRows σ (sz + 1) parts.toList (List.replicate len z) with
          | some rows => some (.at (.ow (siteOf o.dst) 0 (sz + 1) len), upd σ.m (siteOf o.dst) (.arr 0 (sz + 1) rows), nx ≤ siteOf o.dst)
          | none => none
        else none
      | _, _, _ => none
    | _ => none
  | .makeSlice t l c =>
    match P.underlying t, σ.ev l, σ.ev c with
    | some (.slice e), .at (.v (.int _ n)), .at (.v (.int _ n')) =>
      match σ.m (siteOf o.dst), szT P e, zeroVals P e, (P.info? e).map (·.bytes) with
      | .gone, some (sz + 1), some z, some by_ =>
        if z.length = sz + 1 ∧ z.all (·.oneCell') = true then
          some (.at (.ow (siteOf o.dst) 0 (sz + 1) n.toNat), upd σ.m (siteOf o.dst) (.arr 0 (sz + 1) (List.replicate n.toNat z)), nx ≤ siteOf o.dst ∧ n = n' ∧ 0 ≤ n ∧ n ≤ 4611686018427387904 ∧ by_ * n ≤ 281474976710656)
        else none
      | _, _, _, _ => none
    | _, _, _ => none
  | .extract x i => match σ.ev x with | .tp xs => (match xs[i]? with | some v => some (v, σ.m, True) | none => none) | _ => none
  | .nilCheck x => match σ.ev x with | .at (.bx k ver off) => some (.at (.bx k ver off), σ.m, True) | _ => none
  | .call c => match c.callee with | .builtin b => builtinS P (siteOf o.dst) nx b c.args.toList c.argTypes.toList σ | _ => none
  | _ => none

end Go.Abs
