/- The abstract machine's operations: each is carried out over named blocks, or not at all. Nothing is assumed. -/
import Derived.Test.YtdllplhkcllgfaaGreatAmA
namespace Go.AM

def undefA : AV := .tuple []

def optMap {α β : Type} (f : α → Option β) : List α → Option (List β)
  | [] => some []
  | a :: as => match f a with
    | some b => match optMap f as with | some bs => some (b :: bs) | none => none
    | none => none

def ofScalar : Value → Option AV
  | .bool b => some (.bool b)
  | .int k n => some (.int k n)
  | .string s => some (.str s.data.toList)
  | .pointer none => some .nilp
  | .slice none 0 0 => some .nils
  | .map none => some .nilm
  | .nilFunc => some .nilf
  | .func (.func f) a c => match a.toList with
    | [] => match c.toList with
      | [] => some (.fn (.func f) [] [])
      | _ => none
    | _ => none
  | .nilIface => some .nili
  | _ => none

def ofConst : Value → Option AV
  | .agg cs => (optMap ofScalar cs.toList).map .agg
  | .tuple vs => match vs.toList with
    | [] => some undefA
    | _ => none
  | v => ofScalar v

def AV.cells : AV → List AV
  | .agg cs => cs
  | v => [v]

def AV.scalar : AV → Bool
  | .agg _ | .tuple _ => false
  | _ => true

def evalA (tmps : T AV) : Operand → Option AV
  | .tmp t => some ((tmps.get t).getD undefA)
  | .const v => ofConst v
  | .global _ => none
  | .func f => some (.fn (.func f) [] [])

def isAggA (P : Program) (t : TypeId) : Option Bool :=
  match P.underlying t with
  | some (.struct _) | some (.array _ _) => some true
  | some _ => some false
  | none => none

def sizeA (P : Program) (t : TypeId) : Option Nat := (P.info? t).map (·.size)
def bytesA (P : Program) (t : TypeId) : Option Nat := (P.info? t).map (·.bytes)
def zeroA (P : Program) (t : TypeId) : Option AV := match P.info? t with
  | some i => match i.zero with | some v => ofConst v | none => none
  | none => none

def nth {α : Type} : List α → Nat → Option α
  | [], _ => none
  | a :: _, 0 => some a
  | _ :: as, k + 1 => nth as k

def cut {α : Type} : List α → Nat → Nat → Option (List α)
  | _, 0, 0 => some []
  | [], _, _ => none
  | a :: as, 0, n + 1 => match cut as 0 n with | some r => some (a :: r) | none => none
  | _ :: as, k + 1, n => cut as k n

def splice {α : Type} : List α → Nat → List α → Option (List α)
  | cs, 0, [] => some cs
  | [], _, _ => none
  | _ :: cs, 0, v :: vs => match splice cs 0 vs with | some r => some (v :: r) | none => none
  | c :: cs, k + 1, vs => match splice cs k vs with | some r => some (c :: r) | none => none

def loadN (h : H) (b off n : Nat) : Option (List AV) :=
  match h.get b with
  | some (.cells cs _ _) => cut cs off n
  | _ => none

def storeN (h : H) (b off : Nat) (vs : List AV) : Option H :=
  match h.get b with
  | some (.cells cs tail fz) => if vs.all AV.scalar then match splice cs off vs with | some cs' => some (h.put b (.cells cs' tail fz)) | none => none else none
  | _ => none

/-- The cells of the first n elements of a slice, or bytes of a text. -/
def firstA (h : H) (size n : Nat) : AV → Option (List AV)
  | .nils => some []
  | .slice0 .. => if n = 0 then some [] else none
  | .slice b off _ _ _ => if n * size = 0 then some [] else loadN h b off (n * size)
  | .str s => some ((s.take n).map fun x => .int .u8 x.toNat)
  | _ => none

def lenA : AV → Option Nat
  | .nils => some 0
  | .slice0 .. => some 0
  | .slice _ _ _ n _ => some n
  | .str s => some s.length
  | _ => none

/-- Is it sure that a slice of unknown capacity has room for its length? -/
def sureCap (h : H) (b off offE len : Nat) (size : Nat) : Bool :=
  match h.get b with
  | some (.cells cs (some es) _) => es == size && 0 < es && off == offE * es && off + len * es ≤ cs.length
  | _ => false

/-- How many elements there surely is room for. -/
def knownCap (h : H) (b off size : Nat) : Nat :=
  match h.get b with
  | some (.cells cs _ _) => (cs.length - off) / size
  | _ => 0

def liveA (h : H) (b : Nat) : Bool := (h.get b).isSome
def fzA (h : H) (b : Nat) : Bool := match h.get b with | some (.cells _ _ fz) => fz | _ => true

def partA (P : Program) (t : TypeId) (cs : List AV) (off : Nat) : Option AV :=
  match isAggA P t with
  | some true => match sizeA P t with
    | some s => match cut cs off s with | some r => some (.agg r) | none => none
    | none => none
  | some false => nth cs off
  | none => none

mutual
/-- x == y; none: not decided here. -/
def eqA (P : Program) (h : H) : Nat → TypeId → AV → AV → Option Bool
  | 0, _, _, _ => none
  | d + 1, t, x, y =>
    match P.underlying t, x, y with
    | some .bool, .bool a, .bool b => some (a == b)
    | some (.int _), .int k a, .int k' b => if k = k' then some (a == b) else none
    | some .string, .str a, .str b => some (a == b)
    | some (.pointer _), .nilp, .nilp => some true
    | some (.pointer _), .nilp, .ptr _ _ | some (.pointer _), .ptr _ _, .nilp => some false
    | some (.pointer e), .ptr b o, .ptr b' o' =>
      match sizeA P e with
      | some (_ + 1) => if b = b' then some (o == o') else if liveA h b && liveA h b' && !fzA h b && !fzA h b' then some false else none
      | _ => none
    | some (.interface _), .nili, .nili => some true
    | some (.interface _), .nili, .iface _ _ | some (.interface _), .iface _ _, .nili => some false
    | some (.struct fs), .agg xs, .agg ys => if P.stoodInHeld t then none else eqFields P h d fs.toList xs ys
    | some (.slice _), .nils, .nils => some true
    | some (.slice _), .nils, .slice .. | some (.slice _), .slice .., .nils => some false
    | some (.slice _), .nils, .slice0 .. | some (.slice _), .slice0 .., .nils => some false
    | some (.map _ _), .nilm, .nilm => some true
    | some (.map _ _), .nilm, .map _ | some (.map _ _), .map _, .nilm => some false
    | some (.func _ _ _), .nilf, .nilf => some true
    | some (.func _ _ _), .nilf, .fn .. | some (.func _ _ _), .fn .., .nilf => some false
    | _, _, _ => none
def eqFields (P : Program) (h : H) : Nat → List Field → List AV → List AV → Option Bool
  | 0, _, _, _ => none
  | _ + 1, [], _, _ => some true
  | d + 1, f :: fs, xs, ys =>
    if f.name ≠ "_" then
      match partA P f.type xs f.offset, partA P f.type ys f.offset with
      | some a, some b => match eqA P h d f.type a b with
        | some true => eqFields P h d fs xs ys
        | some false => some false
        | none => none
      | _, _ => none
    else eqFields P h d fs xs ys
end

/-- The greatest number of a kind. -/
def topOf : IntKind → Nat
  | .i8 => 127 | .i16 => 32767 | .i32 => 2147483647 | .i64 => 9223372036854775807
  | .u8 => 255 | .u16 => 65535 | .u32 => 4294967295 | .u64 => 18446744073709551615

def wrapF (k : IntKind) : Int → Int
  | .ofNat m => match Nat.ble m (topOf k) with | true => .ofNat m | false => k.wrap (.ofNat m)
  | .negSucc m => k.wrap (.negSucc m)

def addF : Int → Int → Int
  | .ofNat m, .ofNat n => .ofNat (Nat.add m n)
  | a, b => a + b

def subF : Int → Int → Int
  | .ofNat m, .ofNat n => match Nat.ble n m with | true => .ofNat (Nat.sub m n) | false => (.ofNat m : Int) - .ofNat n
  | a, b => a - b

def eqF : Int → Int → Bool
  | .ofNat m, .ofNat n => Nat.beq m n
  | a, b => a == b

def ltF : Int → Int → Bool
  | .ofNat m, .ofNat n => Nat.blt m n
  | a, b => decide (a < b)

def leF : Int → Int → Bool
  | .ofNat m, .ofNat n => Nat.ble m n
  | a, b => decide (a ≤ b)

/-- The greater, or the lesser. -/
def mmF (mx : Bool) (x y : Int) : Int :=
  match mx with
  | true => match ltF x y with
    | true => y
    | false => x
  | false => match ltF y x with
    | true => y
    | false => x

inductive Bop where | and | or | xor
def Bop.nat : Bop → Nat → Nat → Nat
  | .and => Nat.land | .or => Nat.lor | .xor => Nat.xor
def Bop.bv {w : Nat} : Bop → BitVec w → BitVec w → BitVec w
  | .and, a, b => a &&& b | .or, a, b => a ||| b | .xor, a, b => a ^^^ b
def Bop.slow (o : Bop) (k : IntKind) (a b : Int) : Int := k.wrap (o.bv (BitVec.ofInt k.bits a) (BitVec.ofInt k.bits b)).toNat
def bitF (o : Bop) (k : IntKind) : Int → Int → Int
  | .ofNat m, .ofNat n => match Nat.ble m (topOf k), Nat.ble n (topOf k) with
    | true, true => .ofNat (o.nat m n)
    | _, _ => o.slow k (.ofNat m) (.ofNat n)
  | a, b => o.slow k a b

def shlF (k : IntKind) (a : Int) (n : Nat) : Int :=
  match a with
  | .ofNat m => wrapF k (.ofNat (Nat.mul m (Nat.pow 2 n)))
  | a => k.wrap (a * 2 ^ n)
def shrF (a : Int) (n : Nat) : Int :=
  match a with
  | .ofNat m => .ofNat (Nat.div m (Nat.pow 2 n))
  | a => a.fdiv (2 ^ n)

def shiftA (left : Bool) (k : IntKind) (a b : Int) : Option AV :=
  match b with
  | .ofNat n => some (.int k (if left then shlF k a (min n k.bits) else shrF a (min n k.bits)))
  | .negSucc _ => none

def intA (op : BinOp) (k : IntKind) (a b : Int) : Option AV :=
  match op with
  | .add => some (.int k (wrapF k (addF a b)))
  | .sub => some (.int k (wrapF k (subF a b)))
  | .mul => some (.int k (wrapF k (a * b)))
  | .quo => match eqF b 0 with | true => none | false => some (.int k (k.wrap (a.tdiv b)))
  | .rem => match eqF b 0 with | true => none | false => some (.int k (a.tmod b))
  | .and => some (.int k (bitF .and k a b))
  | .or => some (.int k (bitF .or k a b))
  | .xor => some (.int k (bitF .xor k a b))
  | .eql => some (.bool (eqF a b))
  | .neq => some (.bool (!eqF a b))
  | .lss => some (.bool (ltF a b))
  | .leq => some (.bool (leF a b))
  | .gtr => some (.bool (ltF b a))
  | .geq => some (.bool (leF b a))
  | _ => none

def strA (op : BinOp) (a b : List UInt8) : Option AV :=
  match op with
  | .add => if ((a.length + b.length : Nat) : Int) > IntKind.i64.max then none else some (.str (a ++ b))
  | .eql => some (.bool (a == b))
  | .neq => some (.bool !(a == b))
  | .lss => some (.bool (Op.bytesLess a b))
  | .leq => some (.bool (Op.bytesLess a b || a == b))
  | .gtr => some (.bool !(Op.bytesLess a b || a == b))
  | .geq => some (.bool !(Op.bytesLess a b))
  | _ => none

def asB : Option Bool → Option AV
  | some b => some (.bool b)
  | none => none
def asNB : Option Bool → Option AV
  | some b => some (.bool !b)
  | none => none

def eqlA (P : Program) (h : H) (t : TypeId) (x y : AV) : Option Bool :=
  match x, y with
  | .agg xs, .agg ys => match P.eqGuardType P.depth t with | true => none | false => eqA P h 200 t (.agg xs) (.agg ys)
  | .nili, .nili => none
  | x, y => eqA P h 1 t x y

/-- Two atoms: the same number of the same kind, or the same open value. -/
def atomEq : AV → AV → Bool
  | .int k a, .int k' b => k == k' && eqF a b
  | .sym i, .sym j => Nat.beq i j
  | _, _ => false

def findBin (op : BinOp) (x y : AV) : List Fact → Option AV
  | [] => none
  | .bin op' x' y' r :: fs => match op == op' && atomEq x x' && atomEq y y' with
    | true => some r
    | false => findBin op x y fs
  | _ :: fs => findBin op x y fs

def findConv (k : IntKind) (x : AV) : List Fact → Option AV
  | [] => none
  | .conv k' x' r :: fs => match k == k' && atomEq x x' with
    | true => some r
    | false => findConv k x fs
  | _ :: fs => findConv k x fs

def findMm (mx : Bool) (x y : AV) : List Fact → Option AV
  | [] => none
  | .mm mx' x' y' r :: fs => match mx == mx' && atomEq x x' && atomEq y y' with
    | true => some r
    | false => findMm mx x y fs
  | _ :: fs => findMm mx x y fs

/-- Two whole numbers. -/
def binInt (op : BinOp) (k : IntKind) (a : Int) (k' : IntKind) (b : Int) : Option AV :=
  match op with
  | .shl => shiftA true k a b
  | .shr => shiftA false k a b
  | op => if k = k' then intA op k a b else none

/-- The number that an atom is. -/
def numOf (env : Nat → Option Value) : AV → Option (IntKind × Int)
  | .int k n => some (k, n)
  | .sym i => match env i with
    | some (.int k n) => some (k, n)
    | _ => none
  | _ => none

/-- The value that an atom is. -/
def atomVal (env : Nat → Option Value) : AV → Option Value
  | .int k n => some (.int k n)
  | .bool b => some (.bool b)
  | .sym i => env i
  | _ => none

def Fact.Ok (env : Nat → Option Value) : Fact → Prop
  | .bin op x y r => ∃ k a k' b v z, numOf env x = some (k, a) ∧ numOf env y = some (k', b) ∧ binInt op k a k' b = some v ∧ atomVal env v = some z ∧ atomVal env r = some z
  | .conv k x r => ∃ k0 n, numOf env x = some (k0, n) ∧ atomVal env r = some (.int k (k.wrap n))
  | .mm mx x y r => ∃ k a b, numOf env x = some (k, a) ∧ numOf env y = some (k, b) ∧ atomVal env r = some (.int k (mmF mx a b))

def binA (P : Program) (h : H) (op : BinOp) (t : TypeId) (x y : AV) : Option AV :=
  match x with
  | .int k a => match y with
    | .int k' b => binInt op k a k' b
    | .sym j => findBin op (.int k a) (.sym j) h.facts
    | _ => none
  | .sym i => findBin op (.sym i) y h.facts
  | .str a => match y with
    | .str b => strA op a b
    | _ => none
  | x => match op with
    | .eql => asB (eqlA P h t x y)
    | .neq => asNB (eqlA P h t x y)
    | _ => none

def unA (op : UnOp) (x : AV) : Option AV :=
  match x with
  | .bool b => match op with | .not => some (.bool !b) | _ => none
  | .int k n => match op with
    | .neg => some (.int k (k.wrap (0 - n)))
    | .xor => some (.int k (Bop.xor.slow k (if k.signed then -1 else k.max) n))
    | _ => none
  | _ => none

def fillA (place : Nat → Option (Nat × Nat)) (cells : List AV) : List (Nat × AV) → Option (List AV)
  | [] => some cells
  | (i, v) :: rest =>
    match place i with
    | none => none
    | some (off, size) => if v.cells.length ≠ size ∨ cells.length < off + size then none else match splice cells off v.cells with | some cs => fillA place cs rest | none => none

def placeA (P : Program) (fs : Array Field) (i : Nat) : Option (Nat × Nat) :=
  match fs[i]? with
  | some f => match sizeA P f.type with | some s => some (f.offset, s) | none => none
  | none => none

def repA {α : Type} (z : List α) : Nat → List α
  | 0 => []
  | n + 1 => z ++ repA z n

/-- The bounds of a slice expression: the length, a capacity of which is known that it is at least 'least', and, if it is known, all of it. -/
def boundA (x : AV) (most : Nat) : Option Nat :=
  match x with
  | .int _ (.ofNat i) => match Nat.ble i most with | true => some i | false => none
  | _ => none

inductive ANext where
  | val (v : AV) (h : H)
  | skip (h : H)
  | enter (f : FuncId) (args : List AV) (h : H)
  | round (fr : AFrame) (h : H)
  | defer (d : ADef) (h : H)

inductive XKind where
  | mark0 | marked | load (k : IntKind) | store | add (k : IntKind) | cas (k : IntKind) | mclone

def cellA (h : H) (b off : Nat) : Option AV :=
  match h.get b with
  | some (.cells cs _ _) => nth cs off
  | _ => none

def externA (h : H) : XKind → List AV → Option (AV × H)
  | .mark0, [] => some (undefA, h)
  | .marked, [.ptr _ _] => some (undefA, h)
  | .load k, [.ptr b o] => match cellA h b o with | some (.int k' n) => if k = k' then some (.int k n, h) else none | _ => none
  | .store, [.ptr b o, .int k n] => match cellA h b o with
    | some (.int k' _) => if k = k' then match storeN h b o [.int k n] with | some h' => some (undefA, h') | none => none else none
    | _ => none
  | .add k, [.ptr b o, .int k' y] => match cellA h b o with
    | some (.int k'' x) => if k = k' ∧ k = k'' then match storeN h b o [.int k (k.wrap (x + y))] with | some h' => some (.int k (k.wrap (x + y)), h') | none => none else none
    | _ => none
  | .cas k, [.ptr b o, .int k' old, .int k'' new] => match cellA h b o with
    | some (.int k''' x) =>
      if k = k' ∧ k = k'' ∧ k = k''' then
        if x = old then match storeN h b o [.int k new] with | some h' => some (.bool true, h') | none => none else some (.bool false, h)
      else none
    | _ => none
  | .mclone, [.iface t (.map b)] => match h.get b with
    | some (.map es c) => some (.iface t (.map h.next), h.new (.map es c))
    | _ => none
  | _, _ => none

def keyEq (kind : TypeDesc) (a b : AV) : Option Bool :=
  match kind, a, b with
  | .int _, .int k x, .int k' y => if k = k' then some (x == y) else none
  | .string, .str x, .str y => some (x == y)
  | .bool, .bool x, .bool y => some (x == y)
  | _, _, _ => none

def findA (kind : TypeDesc) (k : AV) : List (AV × AV × Nat) → Nat → Option (Option (Nat × AV × Nat))
  | [], _ => some none
  | e :: es, i => match keyEq kind k e.1 with
    | some true => some (some (i, e.2.1, e.2.2))
    | some false => findA kind k es (i + 1)
    | none => none

def setNth {α : Type} : List α → Nat → α → List α
  | [], _, _ => []
  | _ :: as, 0, x => x :: as
  | a :: as, k + 1, x => a :: setNth as k x

def delNth {α : Type} : List α → Nat → List α
  | [], _ => []
  | _ :: as, 0 => as
  | a :: as, k + 1 => a :: delNth as k

def simpleKey : TypeDesc → AV → Bool
  | .int _, .int _ _ | .string, .str _ | .bool, .bool _ => true
  | _, _ => false

def mapOf (h : H) : AV → Option (List (AV × AV × Nat) × Nat)
  | .nilm => some ([], 0)
  | .map b => match h.get b with | some (.map es c) => some (es, c) | _ => none
  | _ => none

def lookupA (P : Program) (h : H) (t : TypeId) (x k : AV) (ok : Bool) : Option AV :=
  match P.underlying t with
  | some (.map kt et) => match P.underlying kt, mapOf h x with
    | some kind, some (es, _) =>
      if simpleKey kind k then
        match findA kind k es 0 with
        | some (some (_, v, _)) => some (if ok then .tuple [v, .bool true] else v)
        | some none => match zeroA P et with | some z => some (if ok then .tuple [z, .bool false] else z) | none => none
        | none => none
      else none
    | _, _ => none
  | _ => none

def updateA (P : Program) (h : H) (t : TypeId) (x k v : AV) : Option H :=
  match P.underlying t, x with
  | some (.map kt _), .map b => match P.underlying kt, h.get b with
    | some kind, some (.map es c) =>
      if simpleKey kind k then
        match findA kind k es 0 with
        | some (some (i, _, born)) => some (h.put b (.map (setNth es i (k, v, born)) c))
        | some none => some (h.put b (.map (es ++ [(k, v, c)]) (c + 1)))
        | none => none
      else none
    | _, _ => none
  | _, _ => none

def deleteA (P : Program) (h : H) (t : TypeId) (x k : AV) : Option H :=
  match P.underlying t, x with
  | some (.map _ _), .nilm => none
  | some (.map kt _), .map b => match P.underlying kt, h.get b with
    | some kind, some (.map es c) =>
      if simpleKey kind k then
        match findA kind k es 0 with
        | some (some (i, _, _)) => some (h.put b (.map (delNth es i) c))
        | some none => some h
        | none => none
      else none
    | _, _ => none
  | _, _ => none

def entryA (P : Program) (h : H) (t : TypeId) (x k : AV) : Option (AV × H) :=
  match P.underlying t, x with
  | some (.map kt et), .map b => match P.underlying kt, h.get b with
    | some kind, some (.map es c) =>
      if simpleKey kind k then
        match findA kind k es 0 with
        | some (some (i, v, born)) => some (.tuple [v, .int .i64 born], h.put b (.map (setNth es i (k, v, born)) c))
        | some none => match zeroA P et with
          | some z => some (.tuple [z, .int .i64 c], h.put b (.map (es ++ [(k, z, c)]) (c + 1)))
          | none => none
        | none => none
      else none
    | _, _ => none
  | _, _ => none

def findBorn (n : Nat) : List (AV × AV × Nat) → Nat → Option (Nat × AV)
  | [], _ => none
  | e :: es, i => if e.2.2 = n then some (i, e.1) else findBorn n es (i + 1)

def entryStoreA (h : H) (x s v : AV) : Option H :=
  match x, s with
  | .map b, .int _ n => match h.get b with
    | some (.map es c) => if 0 ≤ n then match findBorn n.toNat es 0 with | some (i, k) => some (h.put b (.map (setNth es i (k, v, n.toNat)) c)) | none => none else none
    | _ => none
  | _, _ => none

end Go.AM
