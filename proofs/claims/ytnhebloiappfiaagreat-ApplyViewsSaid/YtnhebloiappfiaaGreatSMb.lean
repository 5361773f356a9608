/- The S-machine, part b: what an operation does to the abstract state, and the weakest precondition of code. -/
import Derived.Test.YtnhebloiappfiaaGreatSMa
import Derived.Orders
namespace Go.SM
set_option linter.unusedVariables false

/-- What an operation comes to: nothing that we know; a value and blocks; these where an obligation is met. -/
inductive Res where
  | fail
  | ok (v : V) (b : List Blk)
  | ob (p : Prop) [d : Decidable p] (v : V) (b : List Blk)
def Res.then (r : Res) (K : V → List Blk → Prop) : Prop :=
  match r with
  | .fail => False
  | .ok v b => K v b
  | @Res.ob p _ v b => p ∧ K v b
/-- An obligation that can be decided. -/
structure Ob where
  p : Prop
  d : Decidable p

def cst : Cell → V := fun c => .e (.c c)
def E.cells : E → List Cell
  | .c x => [x]
  | .agg xs => xs
def St.get (st : St) (t : Nat) : V := st.tmps.getD t .dead
def put (l : List V) (d : Option Nat) (v : V) : List V := match d with | some d => l.set d v | none => l

/-! ### Constants -/
def constC : Value → Cell
  | .bool b => .bool b
  | .int .i64 n => if decide (-9223372036854775808 ≤ n) && decide (n < 9223372036854775808) then .i64 n else .dead
  | .int .u64 n => if decide (0 ≤ n) && decide (n < 18446744073709551616) then .u64 (UInt64.ofNat n.toNat) else .dead
  | .int .u8 n => if decide (0 ≤ n) && decide (n < 256) then .u8 (UInt8.ofNat n.toNat) else .dead
  | .string s => if s.data.toList.length ≤ big then .str s.data.toList else .dead
  | .pointer none => .nilp
  | .slice none 0 0 => .nils
  | .nilFunc => .nilfn
  | _ => .dead
def constV : Value → V
  | .agg cs => if cs.toList.all (·.oneCell') then .e (.agg (cs.toList.map constC)) else .dead
  | .tuple _ => .dead
  | v => .e (.c (constC v))
def ev (st : St) : Operand → V
  | .tmp t => st.get t
  | .const v => constV v
  | .func f => .e (.c (.fn f []))
  | .global _ => .dead
def evC (st : St) (o : Operand) : Cell := match ev st o with | .e (.c x) => x | _ => .dead
def evE (st : St) (o : Operand) : Option E := match ev st o with | .e x => some x | _ => none

/-! ### Types -/
def tyOf (P : Program) : Nat → TypeId → Option Ty
  | 0, _ => none
  | n + 1, T => match P.underlying T with
    | some .bool => some .bool
    | some (.int .i64) => some .i64
    | some (.int .u64) => some .u64
    | some (.int .u8) => some .u8
    | some .string => some .str
    | some (.slice e) => match tyOf P n e with | some t => if P.cellsOf e == t.size then some (.slice t) else none | none => none
    | some (.struct fs) => fs.toList.foldr (fun f acc => match tyOf P n f.type, acc with | some t, some r => some (.pair t r) | _, _ => none) (some .unit)
    | some (.array len e) => match tyOf P n e with | some t => some ((List.replicate len t).foldr .pair .unit) | none => none
    | _ => none
/-- An element type of slices, as data. -/
def elemTy (P : Program) (e : TypeId) : Option Ty :=
  match tyOf P 9 e with
  | some t => if P.cellsOf e == t.size && Nat.blt 0 t.size then some t else none
  | none => none
def isAggB (P : Program) (T : TypeId) : Option Bool :=
  match P.underlying T with
  | some (.struct _) | some (.array _ _) => some true
  | some _ => some false
  | none => none
/-- The model's zero cells of a type are the type's zero. -/
def zok : Ty → List Value → Option (List Value)
  | .i64, .int .i64 n :: r => if n == 0 then some r else none
  | .u64, .int .u64 n :: r => if n == 0 then some r else none
  | .u8, .int .u8 n :: r => if n == 0 then some r else none
  | .bool, .bool b :: r => if b then none else some r
  | .str, .string s :: r => if s.data.toList.isEmpty then some r else none
  | .unit, r => some r
  | .slice _, .slice none 0 0 :: r => some r
  | .pair a b, r => match zok a r with | some r' => zok b r' | none => none
  | _, _ => none
def zeroOk (P : Program) (e : TypeId) (t : Ty) : Bool :=
  match P.info? e with
  | some i => match i.zero with
    | some z => match zok t z.cells.toList with | some [] => true | _ => false
    | none => false
  | none => false

/-- The model's zero of a type has the type's size; a value takes some bytes. -/
def zlen (P : Program) (e : TypeId) : Bool :=
  match P.info? e with
  | some i => match i.zero with
    | some z => Nat.beq z.cells.size i.size && Nat.blt 0 i.bytes && Nat.blt 0 i.size
    | none => false
  | none => false

/-! ### Freezing: what is handed on as data -/
def low1 (b : List Blk) : Cell → Cell × List Blk
  | .ref k => match b[k]? with
    | some (.row T t xs _) => (.sl t xs, b.set k (.row T t xs true))
    | _ => (.ref k, b)
  | .win k lo n => match b[k]? with
    | some (.row T t xs _) => (.sl t ((xs.drop lo).take n), b.set k (.row T t xs true))
    | _ => (.win k lo n, b)
  | c => (c, b)
def lows (b : List Blk) : List Cell → List Cell × List Blk
  | [] => ([], b)
  | c :: r => ((low1 b c).1 :: (lows (low1 b c).2 r).1, (lows (low1 b c).2 r).2)
def lowE (b : List Blk) : E → E × List Blk
  | .c x => (.c (low1 b x).1, (low1 b x).2)
  | .agg xs => (.agg (lows b xs).1, (lows b xs).2)
def lowEs (b : List Blk) : List E → List E × List Blk
  | [] => ([], b)
  | c :: r => ((lowE b c).1 :: (lowEs (lowE b c).2 r).1, (lowEs (lowE b c).2 r).2)
def lowV (b : List Blk) : V → V × List Blk
  | .dead => (.dead, b)
  | .e x => (.e (lowE b x).1, (lowE b x).2)
  | .tup xs => (.tup (lowEs b xs).1, (lowEs b xs).2)

/-! ### Numbers -/
def w64 (n : Int) : Int := IntKind.i64.wrap n
def shlU (a : UInt64) (n : Nat) : UInt64 := UInt64.ofNat (a.toNat * 2 ^ (min n 64))
def shrU (a : UInt64) (n : Nat) : UInt64 := UInt64.ofNat (a.toNat / 2 ^ (min n 64))
def shl8 (a : UInt8) (n : Nat) : UInt8 := UInt8.ofNat (a.toNat * 2 ^ (min n 8))
def shr8 (a : UInt8) (n : Nat) : UInt8 := UInt8.ofNat (a.toNat / 2 ^ (min n 8))
def bitI (f : BitVec 64 → BitVec 64 → BitVec 64) (x y : Int) : Int := w64 ((f (BitVec.ofInt 64 x) (BitVec.ofInt 64 y)).toNat : Int)

def guarded (p : Option Ob) (v : V) (b : List Blk) : Res := match p with | none => .ok v b | some q => @Res.ob q.p q.d v b

def binR (P : Program) (op : BinOp) (T : TypeId) (b : List Blk) : Cell → Cell → Res
  | .i64 x, .i64 y => match op with
    | .add => .ok (cst (.i64 (w64 (x + y)))) b
    | .sub => .ok (cst (.i64 (w64 (x - y)))) b
    | .mul => .ok (cst (.i64 (w64 (x * y)))) b
    | .quo => .ob (y ≠ 0) (cst (.i64 (w64 (x.tdiv y)))) b
    | .rem => .ob (y ≠ 0) (cst (.i64 (x.tmod y))) b
    | .and => .ok (cst (.i64 (bitI (· &&& ·) x y))) b
    | .or => .ok (cst (.i64 (bitI (· ||| ·) x y))) b
    | .xor => .ok (cst (.i64 (bitI (· ^^^ ·) x y))) b
    | .shl => .ob (0 ≤ y) (cst (.i64 (w64 (x * 2 ^ (min y.toNat 64))))) b
    | .shr => .ob (0 ≤ y) (cst (.i64 (x / 2 ^ (min y.toNat 64)))) b
    | .eql => .ok (cst (.bool (decide (x = y)))) b
    | .neq => .ok (cst (.bool (!decide (x = y)))) b
    | .lss => .ok (cst (.bool (decide (x < y)))) b
    | .leq => .ok (cst (.bool (decide (x ≤ y)))) b
    | .gtr => .ok (cst (.bool (decide (y < x)))) b
    | .geq => .ok (cst (.bool (decide (y ≤ x)))) b
    | _ => .fail
  | .u64 x, .u64 y => match op with
    | .add => .ok (cst (.u64 (x + y))) b
    | .sub => .ok (cst (.u64 (x - y))) b
    | .mul => .ok (cst (.u64 (x * y))) b
    | .quo => .ob (y ≠ 0) (cst (.u64 (x / y))) b
    | .rem => .ob (y ≠ 0) (cst (.u64 (x % y))) b
    | .and => .ok (cst (.u64 (x &&& y))) b
    | .or => .ok (cst (.u64 (x ||| y))) b
    | .xor => .ok (cst (.u64 (x ^^^ y))) b
    | .shl => .ok (cst (.u64 (shlU x y.toNat))) b
    | .shr => .ok (cst (.u64 (shrU x y.toNat))) b
    | .eql => .ok (cst (.bool (decide (x = y)))) b
    | .neq => .ok (cst (.bool (!decide (x = y)))) b
    | .lss => .ok (cst (.bool (decide (x < y)))) b
    | .leq => .ok (cst (.bool (decide (x ≤ y)))) b
    | .gtr => .ok (cst (.bool (decide (y < x)))) b
    | .geq => .ok (cst (.bool (decide (y ≤ x)))) b
    | _ => .fail
  | .u64 x, .i64 y => match op with
    | .shl => .ob (0 ≤ y) (cst (.u64 (shlU x y.toNat))) b
    | .shr => .ob (0 ≤ y) (cst (.u64 (shrU x y.toNat))) b
    | _ => .fail
  | .i64 x, .u64 y => match op with
    | .shl => .ok (cst (.i64 (w64 (x * 2 ^ (min y.toNat 64))))) b
    | .shr => .ok (cst (.i64 (x / 2 ^ (min y.toNat 64)))) b
    | _ => .fail
  | .u8 x, .u8 y => match op with
    | .add => .ok (cst (.u8 (x + y))) b
    | .sub => .ok (cst (.u8 (x - y))) b
    | .and => .ok (cst (.u8 (x &&& y))) b
    | .or => .ok (cst (.u8 (x ||| y))) b
    | .eql => .ok (cst (.bool (decide (x = y)))) b
    | .neq => .ok (cst (.bool (!decide (x = y)))) b
    | .lss => .ok (cst (.bool (decide (x < y)))) b
    | .leq => .ok (cst (.bool (decide (x ≤ y)))) b
    | .gtr => .ok (cst (.bool (decide (y < x)))) b
    | .geq => .ok (cst (.bool (decide (y ≤ x)))) b
    | _ => .fail
  | .bool x, .bool y => match P.underlying T with
    | some .bool => match op with
      | .eql => .ok (cst (.bool (x == y))) b
      | .neq => .ok (cst (.bool (!(x == y)))) b
      | _ => .fail
    | _ => .fail
  | .str x, .str y => match op with
    | .eql => .ok (cst (.bool (decide (x = y)))) b
    | .neq => .ok (cst (.bool (!decide (x = y)))) b
    | _ => .fail
  | .ptr _ _, .nilp => match P.underlying T with
    | some (.pointer _) => match op with
      | .eql => .ok (cst (.bool false)) b
      | .neq => .ok (cst (.bool true)) b
      | _ => .fail
    | _ => .fail
  | .nilp, .nilp => match P.underlying T with
    | some (.pointer _) => match op with
      | .eql => .ok (cst (.bool true)) b
      | .neq => .ok (cst (.bool false)) b
      | _ => .fail
    | _ => .fail
  | .fn _ _, .nilfn => .fail
  | _, _ => .fail

def unR (op : UnOp) (b : List Blk) : Cell → Res
  | .i64 x => match op with
    | .neg => .ok (cst (.i64 (w64 (0 - x)))) b
    | _ => .fail
  | .u64 x => match op with
    | .neg => .ok (cst (.u64 (0 - x))) b
    | .xor => .ok (cst (.u64 (~~~x))) b
    | _ => .fail
  | .bool x => match op with
    | .not => .ok (cst (.bool (!x))) b
    | _ => .fail
  | _ => .fail

def convR (P : Program) (src dst : TypeId) (b : List Blk) (c : Cell) : Res :=
  match P.underlying src, P.underlying dst, c with
  | some _, some (.int .i64), .i64 x => .ok (cst (.i64 x)) b
  | some _, some (.int .u64), .i64 x => .ok (cst (.u64 (UInt64.ofNat (x % 18446744073709551616).toNat))) b
  | some _, some (.int .u8), .i64 x => .ok (cst (.u8 (UInt8.ofNat (x % 256).toNat))) b
  | some _, some (.int .i64), .u64 x => .ok (cst (.i64 (w64 (x.toNat : Int)))) b
  | some _, some (.int .u64), .u64 x => .ok (cst (.u64 x)) b
  | some _, some (.int .u8), .u64 x => .ok (cst (.u8 (UInt8.ofNat x.toNat))) b
  | some _, some (.int .i64), .u8 x => .ok (cst (.i64 (x.toNat : Int))) b
  | some _, some (.int .u64), .u8 x => .ok (cst (.u64 (UInt64.ofNat x.toNat))) b
  | some _, some (.int .u8), .u8 x => .ok (cst (.u8 x)) b
  | _, _, _ => .fail

/-! ### Memory -/
def at' {t : Ty} (xs : List t.den) (i : Nat) : t.den := xs.getD i t.zero
/-- A part of cells, as a value of a type. -/
def sub (P : Program) (T : TypeId) (cs : List Cell) : Option E :=
  match isAggB P T with
  | some true => if Nat.ble (P.cellsOf T) cs.length then some (.agg (cs.take (P.cellsOf T))) else none
  | some false => match cs with
    | c :: _ => some (.c c)
    | [] => none
  | none => none
def subR (P : Program) (T : TypeId) (cs : List Cell) (b : List Blk) (p : Option Ob) : Res :=
  match sub P T cs with
  | some e => guarded p (.e e) b
  | none => .fail
def loadR (P : Program) (T : TypeId) (b : List Blk) : Cell → Res
  | .ptr k off => match b[k]? with
    | some (.cells _ cs) => subR P T (cs.drop off) b none
    | _ => .fail
  | .eptr k i fo => match b[k]? with
    | some (.row _ t xs _) => subR P T ((inj t (at' xs i)).drop fo) b none
    | _ => .fail
  | .cptr t x fo => subR P T ((inj t x).drop fo) b none
  | _ => .fail
def splice (cs : List Cell) (off : Nat) (vs : List Cell) : List Cell := cs.take off ++ vs ++ cs.drop (off + vs.length)
def storeR (P : Program) (T : TypeId) (b : List Blk) (a : Cell) (e : E) : Res :=
  if Nat.beq e.cells.length (P.cellsOf T) && Nat.blt 0 (P.cellsOf T) then
  match a with
  | .ptr k off => match b[k]? with
    | some (.cells T' cs) => if Nat.ble (off + e.cells.length) cs.length then .ok .dead (b.set k (.cells T' (splice cs off e.cells))) else .fail
    | _ => .fail
  | .eptr k i fo => match (lows b e.cells).2[k]? with
    | some (.row T' t xs false) =>
      if Nat.beq fo 0 && Nat.beq e.cells.length t.size then
        match proj1 t (lows b e.cells).1 with
        | some x => .ok .dead ((lows b e.cells).2.set k (.row T' t (xs.set i x) false))
        | none => .fail
      else match proj1 t (splice (inj t (at' xs i)) fo (lows b e.cells).1) with
        | some x => .ok .dead ((lows b e.cells).2.set k (.row T' t (xs.set i x) false))
        | none => .fail
    | _ => .fail
  | _ => .fail
  else .fail
/-- A new block's pointer. -/
def newR (b : List Blk) (x : Blk) (c : Nat → Cell) : Res := .ok (cst (c b.length)) (b ++ [x])
def allocR (P : Program) (T : TypeId) (b : List Blk) : Res :=
  match P.info? T with
  | some i => match i.zero with
    | some z => if z.cells.toList.all (·.oneCell') then newR b (.cells T (z.cells.toList.map constC)) (.ptr · 0) else .fail
    | none => .fail
  | none => .fail
/-- Fields filled, one behind the other. -/
def fillC (place : Nat → Option (Nat × Nat)) (cs : List Cell) : List (Nat × E) → Option (List Cell)
  | [] => some cs
  | (i, e) :: r => match place i with
    | some (off, n) => if Nat.beq e.cells.length n && Nat.ble (off + n) cs.length then fillC place (splice cs off e.cells) r else none
    | none => none
def placeOf (P : Program) (T : TypeId) : Option (Nat → Option (Nat × Nat)) :=
  match P.underlying T with
  | some (.struct fs) => if fs.all (fun f => (P.info? f.type).isSome) then some fun i => fs[i]?.map fun f => (f.offset, P.cellsOf f.type) else none
  | some (.array _ e) => if (P.info? e).isSome then some fun i => some (i * P.cellsOf e, P.cellsOf e) else none
  | _ => none
def evParts (st : St) : List (Nat × Operand) → Option (List (Nat × E))
  | [] => some []
  | (i, o) :: r => match evE st o, evParts st r with
    | some e, some l => some ((i, e) :: l)
    | _, _ => none
def buildR (P : Program) (T : TypeId) (b : List Blk) (parts : List (Nat × E)) : Res :=
  match P.info? T, placeOf P T with
  | some i, some pl => match i.zero with
    | some z => if z.cells.toList.all (·.oneCell') then
        match fillC pl (z.cells.toList.map constC) parts with
        | some cs => .ok (.e (.agg cs)) b
        | none => .fail
      else .fail
    | none => .fail
  | _, _ => .fail
/-- The elements of a literal, in order. -/
def litElems (t : Ty) (b : List Blk) : Nat → List (Nat × E) → Option (List t.den × List Blk)
  | _, [] => some ([], b)
  | n, (i, e) :: r => if Nat.beq i n then
      match proj1 t (lowE b e).1.cells with
      | some x => match litElems t (lowE b e).2 (n + 1) r with
        | some (xs, b') => some (x :: xs, b')
        | none => none
      | none => none
    else none
def litCells (n : Nat) (size : Nat) : List (Nat × E) → Option (List Cell)
  | [] => some []
  | (i, e) :: r => if Nat.beq i n && Nat.beq e.cells.length size then
      match litCells (n + 1) size r with
      | some cs => some (e.cells ++ cs)
      | none => none
    else none
def sliceElem (P : Program) (T : TypeId) : Option TypeId := match P.underlying T with | some (.slice e) => some e | _ => none
def bytesOk (P : Program) (e : TypeId) (n : Nat) : Prop := n * P.bytesOf e ≤ 140737488355328
def buildSliceR (P : Program) (T : TypeId) (len : Nat) (b : List Blk) (parts : List (Nat × E)) : Res :=
  match sliceElem P T with
  | some e => if Nat.beq parts.length len && Nat.ble len 1000 && Nat.ble (P.cellsOf e) 10000 && zlen P e then
      if Nat.beq len 0 then .ok (cst .nils) b else
      match elemTy P e with
      | some t => match litElems t b 0 parts with
        | some (xs, b') => .ok (cst (.ref b'.length)) (b' ++ [.row e t xs false])
        | none => .fail
      | none => match litCells 0 (P.cellsOf e) parts with
        | some cs => .ok (cst (.ref b.length)) (b ++ [.cells e cs])
        | none => .fail
    else .fail
  | none => .fail
/-- A literal that nobody writes on: data at once. -/
def litR (P : Program) (T : TypeId) (len : Nat) (b : List Blk) (parts : List (Nat × E)) : Res :=
  match sliceElem P T with
  | some e => if Nat.beq parts.length len && Nat.ble len 1000 && Nat.ble (P.cellsOf e) 10000 && zlen P e then
      if Nat.beq len 0 then .ok (cst .nils) b else
      match elemTy P e with
      | some t => match litElems t b 0 parts with
        | some (xs, b') => .ok (cst (.sl t xs)) b'
        | none => .fail
      | none => .fail
    else .fail
  | none => .fail
def makeSliceR (P : Program) (T : TypeId) (b : List Blk) : Cell → Cell → Res
  | .i64 n, .i64 c => match sliceElem P T with
    | some e => match elemTy P e with
      | some t => if zeroOk P e t && Nat.blt 0 (P.bytesOf e) then
          .ob (0 ≤ n ∧ n ≤ c ∧ c * (P.bytesOf e : Int) ≤ 140737488355328) (cst (.ref b.length)) (b ++ [.row e t (List.replicate n.toNat t.zero) false])
        else .fail
      | none => .fail
    | none => .fail
  | _, _ => .fail
/-- What a slice holds, as data. -/
def dataOf (t : Ty) (b : List Blk) : Cell → Option (List t.den)
  | .nils => some []
  | .sl t' xs => if h : t' = t then some (h ▸ xs) else none
  | .ref k => match b[k]? with
    | some (.row _ t' xs _) => if h : t' = t then some (h ▸ xs) else none
    | _ => none
  | .win k lo n => match b[k]? with
    | some (.row _ t' xs _) => if h : t' = t then some (h ▸ (xs.drop lo).take n) else none
    | _ => none
  | _ => none
/-- What a slice of pointers holds. -/
def ptrsOf (e : TypeId) (b : List Blk) : Cell → Option (List Cell)
  | .nils => some []
  | .ref k => match b[k]? with
    | some (.cells T cs) => if Nat.beq T e then some cs else none
    | _ => none
  | _ => none
/-- Pointers are appended. -/
def appendP (P : Program) (e : TypeId) (b : List Blk) (s x : Cell) : Res :=
  match ptrsOf e b x with
  | some ys => if Nat.ble ys.length 10000 && Nat.blt 0 ys.length && Nat.ble (P.bytesOf e) 10000 then
      match s with
      | .nils => .ok (cst (.ref b.length)) (b ++ [.cells e ys])
      | .ref k => match b[k]? with
        | some (.cells T cs) => if Nat.beq T e && Nat.ble cs.length 10000 then .ok (cst (.ref b.length)) (b.set k .gone ++ [.cells e (cs ++ ys)]) else .fail
        | _ => .fail
      | _ => .fail
    else .fail
  | none => .fail
def appendR (P : Program) (T : TypeId) (b : List Blk) (s x : Cell) : Res :=
  match sliceElem P T with
  | some e => if zlen P e then
    if (elemTy P e).isNone then appendP P e b s x else
    match s with
    | .nils => match elemTy P e with
      | some t => match dataOf t b x with
        | some ys => .ob ((0 + ys.length) * P.bytesOf e ≤ 140737488355328) (cst (.ref b.length)) (b ++ [.row e t ys false])
        | none => .fail
      | none => .fail
    | .ref k => match b[k]? with
      | some (.row e' t xs false) => if Nat.beq e' e && decide (elemTy P e = some t) then
          match dataOf t b x with
          | some ys => .ob ((xs.length + ys.length) * P.bytesOf e ≤ 140737488355328) (cst (.ref b.length)) (b.set k .gone ++ [.row e t (xs ++ ys) false])
          | none => .fail
        else .fail
      | _ => .fail
    | _ => .fail
    else .fail
  | none => .fail
def bound (d : Int) : Option Cell → Option Int
  | none => some d
  | some (.i64 n) => some n
  | _ => none
/-- A part of a row that may still be written. -/
def winOf (b : List Blk) : Cell → Option (Nat × Nat × Nat × Ty)
  | .ref k => match b[k]? with
    | some (.row _ t xs _) => some (k, 0, xs.length, t)
    | _ => none
  | .win k lo n => match b[k]? with
    | some (.row _ t _ _) => some (k, lo, n, t)
    | _ => none
  | _ => none
def sliceR (P : Program) (T : TypeId) (b : List Blk) (x : Cell) (lo hi : Option Cell) : Res :=
  match winOf b x with
  | some (k, o, m, t) => match P.underlying T, bound 0 lo, bound (m : Int) hi with
    | some (.slice e), some l, some h => if P.cellsOf e == t.size && Nat.blt 0 t.size then
        .ob (0 ≤ l ∧ l ≤ h ∧ h ≤ (m : Int)) (cst (.win k (o + l.toNat) (h.toNat - l.toNat))) b else .fail
    | _, _, _ => .fail
  | none => match x with
  | .sl t xs => match P.underlying T, bound 0 lo, bound (xs.length : Int) hi with
    | some (.slice e), some l, some h => if P.cellsOf e == t.size && Nat.blt 0 t.size then
        .ob (0 ≤ l ∧ l ≤ h ∧ h ≤ xs.length) (cst (.sl t ((xs.take h.toNat).drop l.toNat))) b else .fail
    | _, _, _ => .fail
  | .str s => match P.underlying T, bound 0 lo, bound (s.length : Int) hi with
    | some .string, some l, some h => .ob (0 ≤ l ∧ l ≤ h ∧ h ≤ s.length) (cst (.str ((s.take h.toNat).drop l.toNat))) b
    | _, _, _ => .fail
  | _ => .fail
/-- 'x[:0:0]': nothing, with no room. -/
def slice3R (P : Program) (T : TypeId) (b : List Blk) (x : Cell) (lo hi : Option Cell) (mx : Cell) : Res :=
  match P.underlying T, bound 0 lo, hi, mx with
  | some (.slice e), some l, some (.i64 h), .i64 m => if l == 0 && (P.info? e).isSome then
      match x with
      | .sl _ _ => .ob (h = 0 ∧ m = 0) (cst .nils) b
      | .nils => .ob (h = 0 ∧ m = 0) (cst .nils) b
      | .ref k => match b[k]? with
        | some (.row _ _ _ _) => .ob (h = 0 ∧ m = 0) (cst .nils) b
        | _ => .fail
      | _ => .fail
    else .fail
  | _, _, _, _ => .fail
def moveAddr (b : List Blk) (o : Nat) : Cell → Option Cell
  | .ptr k off => some (.ptr k (off + o))
  | .eptr k i fo => match b[k]? with
    | some (.row _ _ _ _) => some (.eptr k i (fo + o))
    | _ => none
  | .cptr t x fo => some (.cptr t x (fo + o))
  | _ => none
def fieldAddrR (P : Program) (S : TypeId) (b : List Blk) (x : Cell) (f : Nat) : Res :=
  match P.underlying S with
  | some (.struct fs) => match fs[f]? with
    | some fd => match P.info? fd.type with
      | some i => if Nat.blt 0 i.size then match moveAddr b fd.offset x with
          | some c => .ok (cst c) b
          | none => .fail
        else .fail
      | none => .fail
    | none => .fail
  | _ => .fail
def fieldR (P : Program) (S : TypeId) (b : List Blk) (cs : List Cell) (f : Nat) : Res :=
  match P.underlying S with
  | some (.struct fs) => match fs[f]? with
    | some fd => subR P fd.type (cs.drop fd.offset) b none
    | none => .fail
  | _ => .fail
def indexAddrR (P : Program) (T : TypeId) (b : List Blk) (x i : Cell) : Res :=
  match i with
  | .i64 n => match P.underlying T with
    | some (.slice e) => match x with
      | .sl t xs => if P.cellsOf e == t.size && Nat.blt 0 t.size then .ob (0 ≤ n ∧ n < xs.length) (cst (.cptr t (at' xs n.toNat) 0)) b else .fail
      | .ref k => match b[k]? with
        | some (.row _ t xs _) => if P.cellsOf e == t.size && Nat.blt 0 t.size then .ob (0 ≤ n ∧ n < xs.length) (cst (.eptr k n.toNat 0)) b else .fail
        | some (.cells T' cs) => if Nat.blt 0 (P.cellsOf e) && Nat.beq T' e then .ob (0 ≤ n ∧ (n.toNat + 1) * P.cellsOf e ≤ cs.length) (cst (.ptr k (n.toNat * P.cellsOf e))) b else .fail
        | _ => .fail
      | .win k lo m => match b[k]? with
        | some (.row _ t xs _) => if P.cellsOf e == t.size && Nat.blt 0 t.size then .ob (0 ≤ n ∧ n < (m : Int)) (cst (.eptr k (lo + n.toNat) 0)) b else .fail
        | _ => .fail
      | _ => .fail
    | some (.array len e) => if (P.info? e).isSome && decide (0 ≤ n) && Nat.blt n.toNat len then match moveAddr b (n.toNat * P.cellsOf e) x with
        | some c => .ok (cst c) b
        | none => .fail
      else .fail
    | _ => .fail
  | _ => .fail
def indexR (P : Program) (T : TypeId) (b : List Blk) (x i : Cell) : Res :=
  match P.underlying T, x, i with
  | some .string, .str s, .i64 n => .ob (0 ≤ n ∧ n < s.length) (cst (.u8 (s.getD n.toNat 0))) b
  | _, _, _ => .fail
def lenR (P : Program) (T : TypeId) (b : List Blk) (x : Cell) : Res :=
  match P.underlying T, x with
  | some (.slice _), .sl t xs => .ok (cst (.i64 (xs.length : Int))) b
  | some (.slice _), .nils => .ok (cst (.i64 0)) b
  | some (.slice e), .ref k => match b[k]? with
    | some (.row _ t xs _) => .ok (cst (.i64 (xs.length : Int))) b
    | some (.cells T' cs) => if Nat.beq T' e && Nat.blt 0 (P.cellsOf e) && Nat.ble cs.length 10000 then .ok (cst (.i64 ((cs.length / P.cellsOf e : Nat) : Int))) b else .fail
    | _ => .fail
  | some (.slice e), .win k lo n => match b[k]? with
    | some (.row _ _ _ _) => .ok (cst (.i64 (n : Int))) b
    | _ => .fail
  | some .string, .str s => .ok (cst (.i64 (s.length : Int))) b
  | _, _ => .fail
def mmGo (mx : Bool) (acc : Int) : List Cell → Option Int
  | [] => some acc
  | .i64 y :: r => mmGo mx (if mx then max acc y else min acc y) r
  | _ => none
def minmax (mx : Bool) : List Cell → Option Int
  | .i64 x :: r => mmGo mx x r
  | _ => none

/-! ### One operation -/
def opR (P : Program) (st : St) (o : Oper) : Res :=
  match o.op with
  | .move x | .assign x => match ev st x with | .dead => .fail | v => .ok v st.blks
  | .pick c a b => match evC st c, ev st a, ev st b with
    | .bool true, v, _ => .ok v st.blks
    | .bool false, _, v => .ok v st.blks
    | _, _, _ => .fail
  | .alloc T => allocR P T st.blks
  | .box T x => match evE st x with
    | some e => newR st.blks (.cells T e.cells) (.ptr · 0)
    | none => .fail
  | .build T parts => match evParts st parts.toList with
    | some l => buildR P T st.blks l
    | none => .fail
  | .buildSlice T len parts => match evParts st parts.toList with
    | some l => buildSliceR P T len st.blks l
    | none => .fail
  | .load T a => loadR P T st.blks (evC st a)
  | .store T a x => match evE st x with
    | some e => storeR P T st.blks (evC st a) e
    | none => .fail
  | .nilCheck x => match evC st x with
    | .ptr k off => .ok (cst (.ptr k off)) st.blks
    | .cptr t y fo => .ok (cst (.cptr t y fo)) st.blks
    | _ => .fail
  | .binOp op T x y _ => binR P op T st.blks (evC st x) (evC st y)
  | .unOp op _ x => unR op st.blks (evC st x)
  | .convert s d x => convR P s d st.blks (evC st x)
  | .makeSlice T l c => makeSliceR P T st.blks (evC st l) (evC st c)
  | .slice T x lo hi mx => match mx with
    | none => sliceR P T st.blks (evC st x) (lo.map (evC st)) (hi.map (evC st))
    | some m => slice3R P T st.blks (evC st x) (lo.map (evC st)) (hi.map (evC st)) (evC st m)
  | .fieldAddr S x f => fieldAddrR P S st.blks (evC st x) f
  | .field S x f => match evE st x with
    | some (.agg cs) => fieldR P S st.blks cs f
    | _ => .fail
  | .indexAddr T x i => indexAddrR P T st.blks (evC st x) (evC st i)
  | .index T x i => indexR P T st.blks (evC st x) (evC st i)
  | .extract x i => match ev st x with
    | .tup xs => match xs[i]? with | some e => .ok (.e e) st.blks | none => .fail
    | _ => .fail
  | .makeFunc (.func f) first cap => match (cap.toList.map (evC st)).mapM (fun c => match c with | .ptr k 0 => some k | _ => none) with
    | some ks => if first.isEmpty then .ok (cst (.fn f ks)) st.blks else .fail
    | none => .fail
  | .call c => match c.callee with
    | .builtin .len => match c.args.toList, c.argTypes.toList with
      | [x], [T] => lenR P T st.blks (evC st x)
      | _, _ => .fail
    | .builtin .append => match c.args.toList, c.argTypes.toList with
      | [s, x], [T, T'] => if Nat.beq T T' then appendR P T st.blks (evC st s) (evC st x) else .fail
      | _, _ => .fail
    | .builtin .max => match minmax true (c.args.toList.map (evC st)) with | some n => .ok (cst (.i64 n)) st.blks | none => .fail
    | .builtin .min => match minmax false (c.args.toList.map (evC st)) with | some n => .ok (cst (.i64 n)) st.blks | none => .fail
    | _ => .fail
  | _ => .fail

/-! ### Calls -/
def Cell.ids : Cell → List Nat
  | .ref k => [k]
  | .ptr k _ => [k]
  | .eptr k _ _ => [k]
  | .win k _ _ => [k]
  | .fn _ cap => cap
  | _ => []
def E.ids (e : E) : List Nat := e.cells.flatMap Cell.ids
def Blk.ids : Blk → List Nat
  | .cells _ cs => cs.flatMap Cell.ids
  | _ => []
/-- The blocks that can be come by, in the order in which they are met. -/
def reach (b : List Blk) : Nat → List Nat → List Nat → List Nat
  | 0, _, acc => acc
  | _, [], acc => acc
  | n + 1, k :: r, acc => if acc.contains k then reach b n r acc else match b[k]? with
    | some .hole => reach b n r acc
    | some x => reach b n (x.ids ++ r) (acc ++ [k])
    | none => reach b n r acc
def rnC (ρ : Nat → Option Nat) : Cell → Cell
  | .ref k => match ρ k with | some k' => .ref k' | none => .dead
  | .ptr k o => match ρ k with | some k' => .ptr k' o | none => .dead
  | .eptr k i o => match ρ k with | some k' => .eptr k' i o | none => .dead
  | .win k i o => match ρ k with | some k' => .win k' i o | none => .dead
  | .fn f cap => match cap.mapM ρ with | some cap' => .fn f cap' | none => .dead
  | c => c
def rnE (ρ : Nat → Option Nat) : E → E
  | .c x => .c (rnC ρ x)
  | .agg xs => .agg (xs.map (rnC ρ))
def rnV (ρ : Nat → Option Nat) : V → V
  | .dead => .dead
  | .e x => .e (rnE ρ x)
  | .tup xs => .tup (xs.map (rnE ρ))
def rnB (ρ : Nat → Option Nat) : Blk → Blk
  | .cells T cs => .cells T (cs.map (rnC ρ))
  | x => x
def idx (l : List Nat) (k : Nat) : Option Nat := l.findIdx? (Nat.beq k)
/-- Blocks chosen and numbered anew. -/
def pickB (order : List Nat) (b : List Blk) : List Blk := order.map fun k => rnB (idx order) (b.getD k .gone)
/-- Blocks that were handed over and came back. -/
def backN (order : List Nat) (n : Nat) (j : Nat) : Option Nat := if Nat.blt j order.length then order[j]? else some (n + (j - order.length))
def backB (order : List Nat) (b b' : List Blk) : List Blk :=
  (List.range b.length).map (fun k => match idx order k with | some j => rnB (backN order b.length) (b'.getD j .gone) | none => b.getD k .gone) ++ (b'.drop order.length).map (rnB (backN order b.length))

/-- What a call hands back, as far as its kind goes. -/
structure Shape where
  T : Type
  f : T → V × List Blk
def Ty.e (t : Ty) (x : t.den) : E :=
  match t, inj t x with
  | .pair _ _, cs => .agg cs
  | .unit, cs => .agg cs
  | _, c :: _ => .c c
  | _, [] => .c .dead
@[reducible] def Tys.den : List Ty → Type
  | [] => Unit
  | [t] => t.den
  | t :: u :: r => t.den × Tys.den (u :: r)
def Tys.es : (l : List Ty) → Tys.den l → List E
  | [], _ => []
  | [t], x => [t.e x]
  | t :: u :: r, x => t.e x.1 :: Tys.es (u :: r) x.2
def wrap : List E → V
  | [e] => .e e
  | l => .tup l
/-- Data alone comes back. -/
def Shape.of (ts : List Ty) : Shape := ⟨Tys.den ts, fun x => (wrap (Tys.es ts x), [])⟩
def castE (t : Ty) (e : E) : Option t.den :=
  match t, e with
  | .pair a b, .agg cs => proj1 (.pair a b) cs
  | .unit, .agg cs => proj1 .unit cs
  | .pair _ _, .c _ => none
  | .unit, .c _ => none
  | t, .c x => proj1 t [x]
  | _, .agg _ => none
def castEs : (l : List Ty) → List E → Option (Tys.den l)
  | [], [] => some ()
  | [t], [e] => castE t e
  | t :: u :: r, e :: es => match castE t e, castEs (u :: r) es with
    | some x, some y => some (x, y)
    | _, _ => none
  | _, _ => none

/-- A result: data; or a row that is the caller's to write on. -/
inductive RT where
  | d (t : Ty)
  | r (T : TypeId) (t : Ty)
@[reducible] def RT.den : RT → Type
  | .d t => t.den
  | .r _ t => List t.den
@[reducible] def RTs.den : List RT → Type
  | [] => Unit
  | [t] => t.den
  | t :: u :: r => t.den × RTs.den (u :: r)
/-- A result's value, and the block that comes with it; 'n': the block's number. -/
def RT.val (n : Nat) : (t : RT) → t.den → E × List Blk
  | .d t, x => (t.e x, [])
  | .r T t, x => (.c (.ref n), [.row T t x false])
def RTs.vals : Nat → (l : List RT) → RTs.den l → List E × List Blk
  | _, [], _ => ([], [])
  | n, [t], x => ([(t.val n x).1], (t.val n x).2)
  | n, t :: u :: r, x => ((t.val n x.1).1 :: (RTs.vals (n + (t.val n x.1).2.length) (u :: r) x.2).1, (t.val n x.1).2 ++ (RTs.vals (n + (t.val n x.1).2.length) (u :: r) x.2).2)
def RTs.shape (l : List RT) (x : RTs.den l) : V × List Blk := (wrap (RTs.vals 0 l x).1, (RTs.vals 0 l x).2)
def Shape.ofR (l : List RT) : Shape := ⟨RTs.den l, RTs.shape l⟩
/-- Results in their form. -/
def outR (b : List Blk) : List RT → List E → Option (List E × List Blk)
  | [], [] => some ([], b)
  | .d t :: r, e :: es => match castE t (lowE b e).1 with
    | some x => match outR (lowE b e).2 r es with
      | some q => some (t.e x :: q.1, q.2)
      | none => none
    | none => none
  | .r T t :: r, .c .nils :: es => if Nat.blt 0 t.size then
      match outR (b ++ [.row T t [] false]) r es with
      | some q => some (.c (.ref b.length) :: q.1, q.2)
      | none => none
    else none
  | .r T t :: r, .c (.ref k) :: es => match b[k]? with
    | some (.row T' t' _ false) => if Nat.beq T' T && decide (t' = t) then
        match outR b r es with
        | some q => some (.c (.ref k) :: q.1, q.2)
        | none => none
      else none
    | _ => none
  | _, _ => none

/-- One way out of a loop: the exit, the slots that are live behind it, those of them that the loop sets, and those of which it alone gives a value. -/
structure LOut where
  e : Exit
  live : List Nat
  mod : List Nat
  more : List (Nat × Ty)
  fix : List Nat
structure Hint where
  byRef : FuncId → Bool
  keep : Bool
  live : Nat → List Nat
  low : Nat → List Nat
  opens : Nat → List (Nat × TypeId × Ty)
  openc : Nat → List (Nat × Nat × TypeId × Ty)
  tys : Nat → List (Nat × Ty)
  outs : Nat → List LOut
  res : Option (List RT)
  ret : FuncId → List E → List Blk → Shape

def evEs (st : St) : List Operand → Option (List E)
  | [] => some []
  | o :: r => match evE st o, evEs st r with
    | some e, some l => some (e :: l)
    | _, _ => none
def hasBody (P : Program) (f : FuncId) : Bool :=
  match P.funcs[f]? with
  | some fn => fn.body.isSome && !(fn.name == "runtime.NumGoroutine")
  | none => false
def lk {α : Type} (n : Nat) : List (Nat × List α) → List α
  | [] => []
  | (k, l) :: r => if Nat.beq n k then l else lk n r
def mores (P : Program) : List (Nat × TypeId) → List (Nat × Ty)
  | [] => []
  | (i, T) :: r => match tyOf P 9 T with
    | some t => (i, t) :: mores P r
    | none => mores P r
def openOf (P : Program) : List (Nat × TypeId) → List (Nat × TypeId × Ty)
  | [] => []
  | (i, T) :: r => match sliceElem P T with
    | some e => match elemTy P e with
      | some t => (i, e, t) :: openOf P r
      | none => openOf P r
    | none => openOf P r
def offOf (P : Program) : List (TypeId × Nat) → Nat
  | [] => 0
  | (S, f) :: r => (match P.underlying S with
    | some (.struct fs) => match fs[f]? with
      | some fd => fd.offset
      | none => 0
    | _ => 0) + offOf P r
def opencOf (P : Program) : List (Nat × List (TypeId × Nat) × TypeId) → List (Nat × Nat × TypeId × Ty)
  | [] => []
  | (i, path, T) :: r => match sliceElem P T with
    | some e => match elemTy P e with
      | some t => (i, offOf P path, e, t) :: opencOf P r
      | none => opencOf P r
    | none => opencOf P r
/-- Slots of which few hold something. -/
def slots : Nat → List (Nat × V) → List V
  | n, l => go l n 0
where
  at_ (i : Nat) : List (Nat × V) → V
    | [] => .dead
    | (k, v) :: r => if Nat.beq i k then v else at_ i r
  go (l : List (Nat × V)) : Nat → Nat → List V
    | 0, _ => []
    | n + 1, i => at_ i l :: go l n (i + 1)
def firstRegion : Code → Nat
  | .region id _ _ => id
  | .seq a _ => firstRegion a
  | .block _ b => firstRegion b
  | .scope b => firstRegion b
  | .loop b => firstRegion b
  | _ => 0
/-- The loop's body of which this is the first region. -/
def loopIn (id : Nat) : Code → Option Code
  | .loop b => if Nat.beq (firstRegion b) id then some b else loopIn id b
  | .seq a b => match loopIn id a with
    | some c => some c
    | none => loopIn id b
  | .cond _ a b => match loopIn id a with
    | some c => some c
    | none => loopIn id b
  | .block _ b => loopIn id b
  | .scope b => loopIn id b
  | _ => none
def loopOf (fn : Func) (id : Nat) : Code := ((fn.body.bind (loopIn id)).getD .skip)

/-- Data alone comes back, of the types that the function declares. -/
def retOf (P : Program) (g : FuncId) : Shape :=
  match P.funcs[g]? with
  | some fn => match fn.resultTypes.toList.mapM (tyOf P 9) with
    | some ts => Shape.ofR (ts.map RT.d)
    | none => ⟨Empty, fun e => nomatch e⟩
  | none => ⟨Empty, fun e => nomatch e⟩
def resOf (P : Program) (g : FuncId) : Option (List RT) :=
  match P.funcs[g]? with
  | some fn => fn.resultTypes.toList.mapM fun T => (tyOf P 9 T).map RT.d
  | none => none
def callS (P : Program) (H : Hint) (f : FuncId) (es : List E) (b : List Blk) (K : V → List Blk → Prop) : Prop :=
  ∃ x : (H.ret f (es.map (rnE (idx (reach b 1000 (es.flatMap E.ids) [])))) (pickB (reach b 1000 (es.flatMap E.ids) []) b)).T,
    CSem P f (es.map (rnE (idx (reach b 1000 (es.flatMap E.ids) [])))) (pickB (reach b 1000 (es.flatMap E.ids) []) b)
      (fun v b' => v = ((H.ret f (es.map (rnE (idx (reach b 1000 (es.flatMap E.ids) [])))) (pickB (reach b 1000 (es.flatMap E.ids) []) b)).f x).1 ∧
        b' = ((H.ret f (es.map (rnE (idx (reach b 1000 (es.flatMap E.ids) [])))) (pickB (reach b 1000 (es.flatMap E.ids) []) b)).f x).2) ∧
    K (rnV (backN (reach b 1000 (es.flatMap E.ids) []) b.length) ((H.ret f (es.map (rnE (idx (reach b 1000 (es.flatMap E.ids) [])))) (pickB (reach b 1000 (es.flatMap E.ids) []) b)).f x).1)
      (backB (reach b 1000 (es.flatMap E.ids) []) b ((H.ret f (es.map (rnE (idx (reach b 1000 (es.flatMap E.ids) [])))) (pickB (reach b 1000 (es.flatMap E.ids) []) b)).f x).2)
/-- The types of a value's cells. -/
def leaves : Ty → List Ty
  | .unit => []
  | .pair a b => leaves a ++ leaves b
  | t => [t]
/-- A nil slice is handed on as an empty one. -/
def fixC (t : Ty) (c : Cell) : Cell :=
  match c, t with
  | .nils, .slice u => .sl u []
  | c, _ => c
def fixCs : List Ty → List Cell → List Cell
  | t :: ts, c :: cs => fixC t c :: fixCs ts cs
  | _, cs => cs
def fixE (t : Option Ty) (e : E) : E :=
  match t, e with
  | some t, .c c => .c (fixC t c)
  | some t, .agg cs => .agg (fixCs (leaves t) cs)
  | none, e => e
def fixEs : List (Option Ty) → List E → List E
  | t :: ts, e :: es => fixE t e :: fixEs ts es
  | _, es => es
def parTys (P : Program) (g : FuncId) : List (Option Ty) :=
  match P.funcs[g]? with
  | some fn => fn.params.toList.map (tyOf P 9)
  | none => []
/-- The callee and what it is handed, where the operation is a call of a function with a body. -/
def callee (P : Program) (st : St) (o : Oper) : Option (FuncId × List E) :=
  match o.op with
  | .call c => match c.callee with
    | .value f => match evC st f with
      | .fn g cap => match evEs st c.args.toList with
        | some es => if hasBody P g then some (g, fixEs (parTys P g) (es ++ cap.map fun k => E.c (.ptr k 0))) else none
        | none => none
      | _ => none
    | _ => none
  | _ => none
/-- A test of a slice against nil: it may be nil only where it is empty. -/
def nilTest (P : Program) (st : St) (o : Oper) : Option Bool :=
  match o.op with
  | .binOp .eql T x (.const (.slice none 0 0)) _ => match P.underlying T, evC st x with
    | some (.slice _), .sl _ xs => some xs.isEmpty
    | _, _ => none
  | _ => none
def step (P : Program) (H : Hint) (st : St) (o : Oper) (K : V → List Blk → Prop) : Prop :=
  match callee P st o with
  | some (g, es) => if H.byRef g then callS P H g es st.blks K else callS P H g (lowEs st.blks es).1 (lowEs st.blks es).2 K
  | none => match nilTest P st o with
    | some e => ∀ g : Bool, (g = true → e = true) → K (cst (.bool g)) st.blks
    | none => (opR P st o).then K

/-- A test that is open: both ways. -/
def br (b : Bool) (A B : Prop) : Prop := match b with | true => A | false => B
theorem br_intro {b : Bool} {A B : Prop} (hA : b = true → A) (hB : b = false → B) : br b A B := by
  cases b
  · exact hB rfl
  · exact hA rfl

/-- Where later operations stand under a guard, its value is looked at in both ways at once. -/
def gs (flag : Bool) (v : V) (K : V → Prop) : Prop :=
  if flag then match v with
    | .e (.c (.bool y)) => br y (K (.e (.c (.bool true)))) (K (.e (.c (.bool false))))
    | v => K v
  else K v
theorem gs_eq (flag : Bool) (v : V) (K : V → Prop) : gs flag v K = K v := by
  unfold gs
  split
  · split
    · rename_i y
      cases y <;> rfl
    · rfl
  · rfl
def guards (ops : List Oper) (d : Option Nat) : Bool :=
  match d with
  | none => false
  | some d => ops.any fun o => match o.guard with
    | some (j, _) => match (ops[j]?).bind (·.dst) with
      | some e => Nat.beq e d
      | none => false
    | none => false
/-- An operation under its guard: done, or left out; what was left out itself yields nothing. -/
def dguard (ops : List Oper) (o : Oper) (st : St) (go skip : Prop) : Prop :=
  match o.guard with
  | none => go
  | some (j, want) => match ((ops[j]?).bind (·.dst)).map st.get with
    | some (.e (.c (.bool y))) => if want then br y go skip else br y skip go
    | some (.tup []) => skip
    | _ => False
/-- What stands in the slot of an operation that was left out. -/
def none0 : V := .tup []
def runOp (P : Program) (H : Hint) (ops : List Oper) (st : St) (o : Oper) (K : St → Prop) : Prop :=
  dguard ops o st (step P H st o fun v b => gs (guards ops o.dst) v fun v => K ⟨put st.tmps o.dst v, b⟩) (K ⟨put st.tmps o.dst none0, st.blks⟩)
def runOps (P : Program) (H : Hint) (ops : List Oper) : List Oper → St → (St → Prop) → Prop
  | [], st, K => K st
  | o :: r, st, K => runOp P H ops st o fun st' => runOps P H ops r st' K

/-! ### Code -/
def isIn (n : Nat) : List Nat → Bool
  | [] => false
  | k :: r => if Nat.beq n k then true else isIn n r
/-- The slots that are no longer looked at are forgotten. -/
def only (live : List Nat) : Nat → List V → List V
  | _, [] => []
  | i, v :: r => (if isIn i live then v else .dead) :: only live (i + 1) r
def lowSlots (st : St) : List Nat → St
  | [] => st
  | d :: r => lowSlots ⟨st.tmps.set d (lowV st.blks (st.get d)).1, (lowV st.blks (st.get d)).2⟩ r
def V.ids : V → List Nat
  | .dead => []
  | .e x => x.ids
  | .tup xs => xs.flatMap E.ids
/-- The state at a loop's head, in one form. -/
def pack (m : Nat) (st : St) : St :=
  ⟨st.tmps.map (rnV (idx (reach st.blks 1000 (st.tmps.flatMap V.ids) (List.range m)))), pickB (reach st.blks 1000 (st.tmps.flatMap V.ids) (List.range m)) st.blks⟩
def openSlots (st : St) : List (Nat × TypeId × Ty) → St
  | [] => st
  | (d, T, t) :: r => match st.get d with
    | .e (.c .nils) => if Nat.blt 0 t.size then openSlots ⟨st.tmps.set d (cst (.ref st.blks.length)), st.blks ++ [.row T t [] false]⟩ r else openSlots st r
    | _ => openSlots st r
/-- The same in a box's cell. -/
def openCells (st : St) : List (Nat × Nat × TypeId × Ty) → St
  | [] => st
  | (d, o, T, t) :: r => match st.get d with
    | .e (.c (.ptr k 0)) => match st.blks[k]? with
      | some (.cells T' cs) => match cs[o]? with
        | some .nils => if Nat.blt 0 t.size then openCells ⟨st.tmps, (st.blks ++ [Blk.row T t [] false]).set k (.cells T' (cs.set o (.ref st.blks.length)))⟩ r else openCells st r
        | _ => openCells st r
      | _ => openCells st r
    | _ => openCells st r
/-- Slots whose type is known hold data of that type. -/
def typeSlot (st : St) (d : Nat) (t : Ty) : St :=
  match (lowV st.blks (st.get d)).1 with
  | .e e => match castE t e with
    | some x => ⟨st.tmps.set d (.e (t.e x)), (lowV st.blks (st.get d)).2⟩
    | none => st
  | _ => st
def typeSlots (st : St) : List (Nat × Ty) → St
  | [] => st
  | (d, t) :: r => typeSlots (typeSlot st d t) r
def head (H : Hint) (m id : Nat) (st : St) : St := pack m (openCells (openSlots (typeSlots (lowSlots ⟨only (H.live id) 0 st.tmps, st.blks⟩ (H.low id)) (H.tys id)) (H.opens id)) (H.openc id))
/-- Values of a kind. -/
inductive G (α : Type) where
  | one (a : α)
  | all (T : Type) (f : T → α)
def G.both {α β γ : Type} (k : α → β → γ) : G α → G β → G γ
  | .one a, .one b => .one (k a b)
  | .one a, .all T f => .all T fun x => k a (f x)
  | .all T f, .one b => .all T fun x => k (f x) b
  | .all T f, .all U g => .all (T × U) fun x => k (f x.1) (g x.2)
def G.map {α β : Type} (k : α → β) : G α → G β
  | .one a => .one (k a)
  | .all T f => .all T fun x => k (f x)
def gC : Cell → G Cell
  | .i64 _ => .all Int .i64
  | .u64 _ => .all UInt64 .u64
  | .u8 _ => .all UInt8 .u8
  | .bool _ => .all Bool .bool
  | .str _ => .all (List UInt8) .str
  | .sl t _ => .all (List t.den) (.sl t)
  | c => .one c
def gCs : List Cell → G (List Cell)
  | [] => .one []
  | c :: r => G.both (· :: ·) (gC c) (gCs r)
def gV : V → G V
  | .e (.c c) => (gC c).map cst
  | .e (.agg cs) => (gCs cs).map fun cs => .e (.agg cs)
  | v => .one v
def gB : Blk → G Blk
  | .cells T cs => (gCs cs).map (.cells T)
  | .row T t _ false => .all (List t.den) fun xs => .row T t xs false
  | b => .one b
def gBs (keep : List Nat) : Nat → List Blk → G (List Blk)
  | _, [] => .one []
  | i, b :: r => G.both (· :: ·) (if isIn i keep then .one b else gB b) (gBs keep (i + 1) r)
def moreAt (i : Nat) : List (Nat × Ty) → Option Ty
  | [] => none
  | (k, t) :: r => if Nat.beq i k then some t else moreAt i r
def gVs (o : LOut) : Nat → List V → G (List V)
  | _, [] => .one []
  | i, v :: r => G.both (· :: ·) (match moreAt i o.more with
    | some t => .all t.den fun x => .e (t.e x)
    | none => if isIn i o.live then (if isIn i o.mod then gV v else .one v) else .one .dead) (gVs o (i + 1) r)
def gSt (o : LOut) (st : St) : G St := G.both St.mk (gVs o 0 st.tmps) (gBs (o.fix.flatMap fun d => (st.get d).ids) 0 st.blks)
def sameExit : Exit → Exit → Bool
  | .ret, .ret => true
  | .exit a, .exit b => Nat.beq a b
  | _, _ => false
def outAt (e : Exit) : List LOut → Option LOut
  | [] => none
  | o :: r => if sameExit o.e e then some o else outAt e r
/-- The state behind a loop, in one form. -/
def leave (H : Hint) (m id : Nat) (e : Exit) (st : St) : St :=
  match outAt e (H.outs id) with
  | some o => pack m (typeSlots ⟨only o.live 0 st.tmps, st.blks⟩ o.more)
  | none => st
/-- A loop, up to the form of what it leaves. -/
def LpK (P : Program) (H : Hint) (m id : Nat) (c : Code) (st : St) (K : Exit → St → Prop) : Prop := Lp P m c st fun e s => K e (leave H m id e s)
/-- What holds behind one round of a loop: again, or out. -/
def roundK (P : Program) (H : Hint) (m id : Nat) (c : Code) (K : Exit → St → Prop) : Exit → St → Prop := fun e st =>
  match e with
  | .normal => LpK P H m id c (head H m id st) K
  | e => K e (leave H m id e st)
def outOf (P : Program) (H : Hint) (m id : Nat) (c : Code) (st : St) (e : Exit) (Q : Exit → St → Prop) : G St → Prop
  | .one s => LpK P H m id c st (fun e' s' => e' = e ∧ s' = s) ∧ Q e s
  | .all T f => ∃ y : T, LpK P H m id c st (fun e' s' => e' = e ∧ s' = f y) ∧ Q e (f y)
/-- What is live behind a way out. -/
def outSt (m : Nat) (o : LOut) (st : St) : St := pack m ⟨only o.live 0 st.tmps, st.blks⟩
def outsOf (P : Program) (H : Hint) (m id : Nat) (c : Code) (st : St) (Q : Exit → St → Prop) : List LOut → Prop
  | [] => False
  | [o] => outOf P H m id c st o.e Q (gSt o (outSt m o st))
  | o :: r => outOf P H m id c st o.e Q (gSt o (outSt m o st)) ∨ outsOf P H m id c st Q r

/-! ### Regions whose order is open -/
inductive Cls where
  | ro | al | bs | sl | ap | st | call | no
  deriving DecidableEq
def cls (P : Program) : Op → Cls
  | .move _ | .assign _ | .pick .. | .binOp .. | .unOp .. | .convert .. | .load .. | .nilCheck _ | .fieldAddr .. | .field .. | .indexAddr .. | .index .. | .extract .. | .build .. | .makeFunc .. => .ro
  | .alloc _ | .box .. | .makeSlice .. => .al
  | .buildSlice T _ _ => match sliceElem P T with
    | some e => if (elemTy P e).isSome then .bs else .al
    | none => .bs
  | .slice .. => .sl
  | .store .. => .st
  | .call c => match c.callee with
    | .builtin .len | .builtin .max | .builtin .min => .ro
    | .builtin .append => .ap
    | .value _ => .call
    | _ => .no
  | _ => .no
/-- A literal of pointers: a new block. -/
def ptrLit (P : Program) (T : TypeId) (len : Nat) (parts : List (Nat × E)) : Option (Option Ob × Blk × (Nat → Cell)) :=
  match sliceElem P T with
  | some e => if Nat.beq parts.length len && Nat.ble len 1000 && Nat.ble (P.cellsOf e) 10000 && zlen P e && !Nat.beq len 0 then
      match elemTy P e with
      | none => match litCells 0 (P.cellsOf e) parts with
        | some cs => some (none, .cells e cs, .ref)
        | none => none
      | some _ => none
    else none
  | none => none
/-- A new block: under which condition, what it holds, how it is named. -/
def alX (P : Program) (st : St) (o : Oper) : Option (Option Ob × Blk × (Nat → Cell)) :=
  match o.op with
  | .alloc T => match allocR P T [] with
    | .ok _ [x] => some (none, x, (.ptr · 0))
    | _ => none
  | .box T x => match evE st x with
    | some e => some (none, .cells T e.cells, (.ptr · 0))
    | none => none
  | .makeSlice T l c => match makeSliceR P T [] (evC st l) (evC st c) with
    | @Res.ob p d _ [x] => some (some ⟨p, d⟩, x, .ref)
    | _ => none
  | .buildSlice T len parts => match evParts st parts.toList with
    | some l => ptrLit P T len l
    | none => none
  | _ => none
/-- A new block takes a place that was kept for it. -/
def alR (P : Program) (id : Nat) (st : St) (o : Oper) : Res :=
  match alX P st o, st.blks[id]? with
  | some (p, x, c), some .hole => guarded p (cst (c id)) (st.blks.set id x)
  | _, _ => .fail
def bsX (P : Program) (st : St) (o : Oper) : Option V :=
  match o.op with
  | .buildSlice T len parts => match evParts st parts.toList with
    | some l => if l.all (fun p => p.2.ids.isEmpty) then match litR P T len [] l with
        | .ok v _ => some v
        | _ => none
      else none
    | none => none
  | _ => none
def bsR (P : Program) (st : St) (o : Oper) : Res :=
  match bsX P st o with
  | some v => .ok v st.blks
  | none => .fail
def opIds (st : St) (o : Oper) : List Nat := o.op.operands.toList.flatMap fun x => match ev st x with | .e e => e.ids | .tup es => es.flatMap E.ids | .dead => []
/-- Blocks that an operation looks into. -/
def roIds (st : St) (o : Oper) : List Nat :=
  match o.op with
  | .load _ _ => opIds st o
  | .indexAddr .. => opIds st o
  | .call _ => opIds st o
  | .fieldAddr _ x _ => match evC st x with
    | .ptr _ _ => []
    | _ => opIds st o
  | _ => []
def dopR (P : Program) (id : Nat) (st : St) (o : Oper) : Res :=
  match cls P o.op with
  | .al => alR P id st o
  | .bs => bsR P st o
  | .sl => if (opIds st o).isEmpty then opR P st o else .fail
  | _ => opR P st o
def dstep (P : Program) (H : Hint) (id : Nat) (st : St) (o : Oper) (K : V → List Blk → Prop) : Prop :=
  match callee P st o with
  | some (g, es) => if H.byRef g then callS P H g es st.blks K else callS P H g (lowEs st.blks es).1 (lowEs st.blks es).2 K
  | none => (dopR P id st o).then K
/-- What an operation looks at, and what it changes. -/
def foot (P : Program) (H : Hint) (id : Nat) (st : St) (o : Oper) : List Nat × List Nat :=
  match callee P st o with
  | some (g, es) => if H.byRef g then ([], reach st.blks 1000 (es.flatMap E.ids) [])
      else (es.flatMap E.ids, reach (lowEs st.blks es).2 1000 ((lowEs st.blks es).1.flatMap E.ids) [])
  | none => match cls P o.op with
    | .ro => (roIds st o, [])
    | .al => ([], [id])
    | .st => match o.op with
      | .store _ a x => ([], (evC st a).ids)
      | _ => ([], [])
    | .ap => match o.op with
      | .call c => match c.args.toList with
        | [s, x] => ([], (evC st s).ids)
        | _ => ([], [])
      | _ => ([], [])
    | _ => ([], [])
def meets (x y : List Nat) : Bool := x.any fun k => y.any (Nat.beq k)
/-- Two operations whose order is open don't disturb each other. -/
def calm (f g : List Nat × List Nat) : Bool := !meets f.1 g.2 && !meets f.2 g.1 && !meets f.2 g.2
/-- May the first stand before or behind the second? -/
def compat : Cls → Cls → Bool
  | .ro, .no => false
  | .ro, _ => true
  | .al, .ro | .al, .al | .al, .bs | .al, .sl | .al, .call => true
  | .bs, .no | .sl, .no => false
  | .bs, _ | .sl, _ => true
  | _, _ => false
/-- Which operations stand before each one, as bits. -/
def before1 (acc : List Nat) (o : Oper) : Nat := o.after.toList.foldl (fun s e => if Region.binds .any e then s ||| (2 ^ e.on ||| acc.getD e.on 0) else s) 0
def befores : List Oper → List Nat → List Nat
  | [], acc => acc
  | o :: r, acc => befores r (acc ++ [before1 acc o])
/-- The bits hold what they should. -/
def bitsOk (bs : List Nat) : Nat → List Oper → Bool
  | _, [] => true
  | i, o :: r => Nat.beq (bs.getD i 0) (before1 bs o) && o.after.toList.all (fun e => !Region.binds .any e || Nat.blt e.on i) && bitsOk bs (i + 1) r
def pick1 (P : Program) (ops : List Oper) (bs : List Nat) (don : Nat) (free : Bool) : Nat → List Oper → Option Nat
  | _, [] => none
  | i, o :: r => if !don.testBit i && (bs.getD i 0 &&& don) == bs.getD i 0 && (!free || (match cls P o.op with | .ro | .al | .bs | .sl => true | _ => false)) then some i else pick1 P ops bs don free (i + 1) r
/-- One order: what may stand anywhere as early as it may. -/
def canon (P : Program) (ops : List Oper) (bs : List Nat) : Nat → Nat → List Nat
  | 0, _ => []
  | n + 1, don => match pick1 P ops bs don true 0 ops with
    | some i => i :: canon P ops bs n (don ||| 2 ^ i)
    | none => match pick1 P ops bs don false 0 ops with
      | some i => i :: canon P ops bs n (don ||| 2 ^ i)
      | none => []
def alRank (P : Program) (ops : List Oper) (i : Nat) : Nat := ((ops.take i).filter fun o => match cls P o.op with | .al => true | _ => false).length
structure Log where
  i : Nat
  c : Cls
  f : List Nat × List Nat
/-- The operation is at peace with all before it whose order to it is open. -/
def logOk (bs : List Nat) (i : Nat) (c : Cls) (f : List Nat × List Nat) (log : List Log) : Bool :=
  log.all fun l => (bs.getD i 0).testBit l.i || (compat l.c c && calm l.f f)
def drun (P : Program) (H : Hint) (ops : List Oper) (bs : List Nat) (base : Nat) : List Nat → List Log → St → (St → Prop) → Prop
  | [], _, st, K => K st
  | i :: r, log, st, K => match ops[i]? with
    | none => False
    | some o => dguard ops o st
        (if logOk bs i (cls P o.op) (foot P H (base + alRank P ops i) st o) log then
          dstep P H (base + alRank P ops i) st o fun v b => gs (guards ops o.dst) v fun v => drun P H ops bs base r (⟨i, cls P o.op, foot P H (base + alRank P ops i) st o⟩ :: log) ⟨put st.tmps o.dst v, b⟩ K
        else False)
        (drun P H ops bs base r log ⟨put st.tmps o.dst none0, st.blks⟩ K)
/-- Slots that two operations whose order is open would fight for: none. -/
def pairOk (P : Program) (ops : List Oper) (bs : List Nat) (c i : Nat) : Bool :=
  (bs.getD i 0).testBit c || (match ops[c]?, ops[i]? with | some x, some y => x.apart ops.toArray y && compat (cls P x.op) (cls P y.op) | _, _ => false)
def pairsOk (P : Program) (ops : List Oper) (bs : List Nat) : List Nat → Bool
  | [] => true
  | c :: r => r.all (fun i => pairOk P ops bs c i && !Nat.beq c i) && pairsOk P ops bs r
def allIn (l : List Nat) : Nat → Bool
  | 0 => true
  | n + 1 => l.any (Nat.beq n) && allIn l n
def isAl (P : Program) (o : Oper) : Bool := match cls P o.op with | .al => true | _ => false
def draw1 (P : Program) (H : Hint) (ops : List Oper) (bs l : List Nat) (st : St) (K : St → Prop) : Prop :=
  if P.follows .mixedOrders && Nat.beq l.length ops.length && allIn l ops.length && bitsOk bs 0 ops && pairsOk P ops bs l then
    drun P H ops bs st.blks.length l [] ⟨st.tmps, st.blks ++ List.replicate (ops.filter (isAl P)).length .hole⟩ K
  else False
def drawS (P : Program) (H : Hint) (id : Nat) (ops : List Oper) (st : St) (K : St → Prop) : Prop :=
  draw1 P H ops (befores ops []) (canon P ops (befores ops []) ops.length 0) (lowSlots st (H.low id)) K
/-- What a test told is kept in its slot. -/
def setB (st : St) (c : Operand) (y : Bool) : St :=
  match c with
  | .tmp t => ⟨st.tmps.set t (.e (.c (.bool y))), st.blks⟩
  | _ => st
def exec (P : Program) (H : Hint) (m : Nat) : Code → St → (Exit → St → Prop) → Prop
  | .skip, st, Q => Q .normal st
  | .region id ops draw, st, Q =>
    if draw then drawS P H id ops.toList st (Q .normal) else runOps P H ops.toList ops.toList st (Q .normal)
  | .seq a b, st, Q => exec P H m a st fun e st' => match e with | .normal => exec P H m b st' Q | e => Q e st'
  | .cond c a b, st, Q => match evC st c with
    | .bool y => br y (exec P H m a (setB st c true) Q) (exec P H m b (setB st c false) Q)
    | _ => False
  | .block id b, st, Q => exec P H m b st fun e st' => match e with | .exit id' => if Nat.beq id' id then Q .normal st' else Q (.exit id') st' | e => Q e st'
  | .loop b, st, Q => outsOf P H m (firstRegion b) b (head H m (firstRegion b) st) Q (H.outs (firstRegion b))
  | .exit id, st, Q => Q (.exit id) st
  | .scope b, st, Q => exec P H m b st fun e st' => match e with | .goto l => False | e => Q e st'
  | .label _, st, Q => Q .normal st
  | .goto l, st, Q => Q (.goto l) st
  | .ret, st, Q => Q .ret st
  | .rangeFunc .., _, _ => False
  | .refuse _, _, _ => False

/-! ### Functions -/
def resE (P : Program) (st : St) : ResultVar → Option E
  | .tmp t => match st.get t with | .e x => some x | _ => none
  | .cell a T => match st.get a with
    | .e (.c c) => match loadR P T st.blks c with
      | .ok (.e e) _ => some e
      | _ => none
    | _ => none
def resEs (P : Program) (st : St) : List ResultVar → Option (List E)
  | [] => some []
  | r :: l => match resE P st r, resEs P st l with
    | some e, some es => some (e :: es)
    | _, _ => none
/-- What the call hands back: the blocks that it was handed stay in place; of the others those remain that can be come by. -/
def done (H : Hint) (m : Nat) (es : List E) (b : List Blk) (post : V → List Blk → Prop) : Prop :=
  match H.res with
  | some ts => match outR b ts es with
    | some q => post (wrap (q.1.map (rnE (idx (reach q.2 1000 (q.1.flatMap E.ids) (List.range m)))))) (pickB (reach q.2 1000 (q.1.flatMap E.ids) (List.range m)) q.2)
    | none => False
  | none =>
    if H.keep then post (wrap (es.map (rnE (idx (reach b 1000 (es.flatMap E.ids) (List.range m)))))) (pickB (reach b 1000 (es.flatMap E.ids) (List.range m)) b)
    else post (wrap ((lowEs b es).1.map (rnE (idx (reach (lowEs b es).2 1000 ((lowEs b es).1.flatMap E.ids) (List.range m)))))) (pickB (reach (lowEs b es).2 1000 ((lowEs b es).1.flatMap E.ids) (List.range m)) (lowEs b es).2)
def fin (P : Program) (H : Hint) (fn : Func) (m : Nat) (post : V → List Blk → Prop) : Exit → St → Prop
  | .normal, st | .ret, st => match resEs P st fn.results.toList with
    | some es => done H m es st.blks post
    | none => False
  | _, _ => False
def start (fn : Func) (args : List E) (blks : List Blk) : St :=
  ⟨args.map .e ++ List.replicate (fn.ntmps - args.length) .dead, blks⟩
def body (P : Program) (H : Hint) (fn : Func) (args : List E) (blks : List Blk) (post : V → List Blk → Prop) : Prop :=
  match fn.body with
  | some c => exec P H blks.length c (start fn args blks) (fin P H fn blks.length post)
  | none => False
end Go.SM
