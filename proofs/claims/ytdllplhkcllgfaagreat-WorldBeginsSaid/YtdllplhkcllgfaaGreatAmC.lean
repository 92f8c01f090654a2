/- The abstract machine's step. Nothing is assumed. -/
import Derived.Test.YtdllplhkcllgfaaGreatAmB
namespace Go.AM

def setParams (n : Nat) : List (Tmp × AV) → T AV → Option (T AV)
  | [], t => some t
  | (p, v) :: r, t => if p < n then setParams n r (t.put p (some v)) else none

/-- A round's frame. -/
def roundA (l : Nat) (args : List AV) (h : H) : Option AFrame :=
  match h.get l with
  | some (.loop _ _ fn tmps n params assign body _) =>
    match Nat.beq args.length params.size with
    | true => match setParams n (params.toList.zip args) tmps with
      | some t => some ⟨fn, n, t, [.code assign, .beginRound, .code body], [], false, .normal, some l⟩
      | none => none
    | false => none
  | _ => none

/-- What the program's own tables leave to be named: which functions without a body are known. -/
abbrev Ext := FuncId → Option XKind

/-- An append's second operand: a slice, or a text. -/
def srcA (P : Program) (xt : TypeId) : Bool :=
  match P.underlying xt with
  | some (.slice _) => true
  | some .string => true
  | _ => false

/-- The append at a slice whose elements are 'old', of elements 'new'. -/
def append1A (h : H) (size : Nat) (s : AV) (n : Nat) (old new : List AV) : Option (AV × H) :=
  match s with
  | .nils => match Nat.beq n 0 with
    | true => some (.nils, h)
    | false => some (.slice h.next 0 0 n none, h.new (.cells new (some size) false))
  | .slice0 b off offE l sz true => match Nat.beq n 0 with
    | true => some (.slice0 b off offE l sz true, h)
    | false => some (.slice h.next 0 0 n none, h.new (.cells new (some size) false))
  | .slice b off offE sl (some c) => match Nat.ble (sl + n) c with
    | true => match storeN h b (off + sl * size) new with
      | some h' => some (.slice b off offE (sl + n) (some c), h')
      | none => none
    | false => some (.slice h.next 0 0 (sl + n) none, h.new (.cells (old ++ new) (some size) false))
  | .slice b off offE sl none => match sureCap h b off offE sl size with
    | true => match h.get b with
      | some (.cells cs _ fz) => match Nat.ble (off + (sl + n) * size) cs.length with
        | true => match storeN h b (off + sl * size) new with
          | some h' => some (.slice b off offE (sl + n) none, h')
          | none => none
        | false => some (.slice h.next 0 0 (sl + n) none, (h.new (.cells (old ++ new) (some size) fz)).del b)
      | _ => none
    | false => none
  | _ => none

def append2A (P : Program) (h : H) (elem : TypeId) (s x : AV) : Option (AV × H) :=
  match sizeA P elem, bytesA P elem, zeroA P elem with
  | some size, some bytes, some z => match lenA x, lenA s with
    | some n, some sl =>
      if z.cells.length ≠ size ∨ z.cells.all AV.scalar = false ∨ 0 = size ∨ (2 * (sl + n) + 1024) * bytes > 2 ^ 48 ∨ 2 ^ 62 < sl + n then none else
      match firstA h size n x, firstA h size sl s with
      | some new, some old => match Nat.beq (old.length + new.length) ((sl + n) * size) && new.all AV.scalar with
        | true => append1A h size s n old new
        | false => none
      | _, _ => none
    | _, _ => none
  | _, _, _ => none

def appendA (P : Program) (h : H) (argTypes : List TypeId) (s x : AV) : Option (AV × H) :=
  match argTypes with
  | [st, xt] => match P.underlying st with
    | some (.slice elem) => match srcA P xt with
      | true => append2A P h elem s x
      | false => none
    | _ => none
  | _ => none

/-- A slice's bounds: 'len' and a capacity (or, if it isn't known, at least 'len'). -/
def boundsA (len : Nat) (cap : Option Nat) (least : Nat) (lo hi mx : Option AV) : Option (Nat × Nat × Option Nat) :=
  let most := cap.getD least
  match mx, hi with
  | some m, some v => match boundA m most with
    | some m => match boundA v m with
      | some hh => match lo with
        | some l => match boundA l hh with | some l => some (l, hh, some m) | none => none
        | none => some (0, hh, some m)
      | none => none
    | none => none
  | some _, none => none
  | none, some v => match boundA v most with
    | some hh => match lo with
      | some l => match boundA l hh with | some l => some (l, hh, cap) | none => none
      | none => some (0, hh, cap)
    | none => none
  | none, none => match lo with
    | some l => match boundA l len with | some l => some (l, len, cap) | none => none
    | none => some (0, len, cap)

/-- s[:0:0], s[0:0:0]: whatever its capacity. -/
def cutNone (lo hi mx : Option AV) : Bool :=
  (match mx with | some (.int _ n) => n == 0 | _ => false) && (match hi with | some (.int _ n) => n == 0 | _ => false) && (match lo with | some (.int _ n) => n == 0 | none => true | _ => false)

def sliceA (P : Program) (h : H) (t : TypeId) (x : AV) (lo hi mx : Option AV) : Option AV :=
  match P.underlying t, x with
  | some (.array n elem), .ptr b off =>
    match boundsA n (some n) 0 lo hi mx, sizeA P elem with
    | some (l, hh, some m), some size => some (.slice b (if m = l then off else off + l * size) 0 (hh - l) (some (m - l)))
    | _, _ => none
  | some .string, .str s =>
    match mx with
    | some _ => none
    | none => match boundsA s.length (some s.length) 0 lo hi none with
      | some (l, hh, _) => some (.str ((s.drop l).take (hh - l)))
      | none => none
  | some (.slice elem), .nils =>
    match boundsA 0 (some 0) 0 lo hi mx, sizeA P elem with
    | some _, some _ => some .nils
    | _, _ => none
  | some (.slice elem), .slice b off _ len (some c) =>
    match boundsA len (some c) 0 lo hi mx, sizeA P elem with
    | some (l, hh, some m), some size => some (.slice b (if m = l then off else off + l * size) 0 (hh - l) (some (m - l)))
    | _, _ => none
  | some (.slice elem), .slice b off offE len none =>
    match sizeA P elem with
    | some size =>
      if sureCap h b off offE len size then
        match boundsA len none (knownCap h b off size) lo hi mx with
        | some (l, hh, some m) => some (.slice b (if m = l then off else off + l * size) 0 (hh - l) (some (m - l)))
        | some (l, hh, none) =>
          if l = 0 then some (.slice b off offE hh none)
          else if l < knownCap h b off size then some (.slice b (off + l * size) (offE + l) (hh - l) none)
          else some (.slice0 b off offE l size false)
        | none => none
      else if cutNone lo hi mx then some (.slice b off 0 0 (some 0)) else none
    | none => none
  | some (.slice elem), .slice0 b off offE l sz z =>
    match sizeA P elem with
    | some _ =>
      if cutNone lo hi mx then some (.slice0 b off offE l sz true) else
      match boundsA 0 none 0 lo hi none, mx with
      | some _, none => some (.slice0 b off offE l sz z)
      | _, _ => none
    | none => none
  | _, _ => none

/-- Conversions that make nothing. -/
def convA (P : Program) (h : H) (src dst : TypeId) (x : AV) : Option AV :=
  match P.underlying src, P.underlying dst, x with
  | some _, some (.int k), .int _ n => some (.int k (k.wrap n))
  | some _, some (.int k), .sym i => findConv k (.sym i) h.facts
  | some _, some .string, .str s => some (.str s)
  | some (.slice e), some .string, x =>
    match P.underlying e with
    | some (.int .u8) => match lenA x with
      | some n => match firstA h 1 n x with
        | some cs => match optMap (fun v => match v with | .int .u8 b => some (UInt8.ofNat b.toNat) | _ => none) cs with
          | some l => some (.str l)
          | none => none
        | none => none
      | none => none
    | _ => none
  | some (.pointer e), some .unsafePointer, .ptr b o =>
    match sizeA P e, cellA h b o with
    | some (_ + 1), some _ => some (.ptr b o)
    | _, _ => none
  | _, _, _ => none

def nextA (h : H) (it : AV) (isString : Bool) : Option (AV × H) :=
  match it with
  | .ptr r 0 => match h.get r, isString with
    | some (.siter s pos), true =>
      if pos < s.length then
        let cw := Utf8.decode ⟨s.toArray⟩ pos
        some (.tuple [.bool true, .int .i64 pos, .int .i32 cw.1], h.put r (.siter s (pos + cw.2)))
      else some (.tuple [.bool false], h)
    | some (.miter none _ _ _), false => some (.tuple [.bool false], h)
    | some (.miter (some m) since seen last), false => match h.get m with
      | some (.map es clock) =>
        if !seen.isEmpty && !es.isEmpty && es.all (fun e => decide (e.2.2 ≥ last)) then none else
        let left := es.filter fun e => !seen.contains e.2.2
        let old := left.filter fun e => decide (e.2.2 < since)
        let new := left.filter fun e => decide (e.2.2 ≥ since)
        match old, new with
        | [], [] => some (.tuple [.bool false], h)
        | [e], [] => some (.tuple [.bool true, e.1, e.2.1], h.put r (.miter (some m) since (seen ++ [e.2.2]) clock))
        | _, _ => none
      | _ => none
    | _, _ => none
  | _ => none

def rangeA (P : Program) (h : H) (t : TypeId) (x : AV) : Option (AV × H) :=
  match P.underlying t, x with
  | some .string, .str s => some (.ptr h.next 0, h.new (.siter s 0))
  | some (.map _ _), .nilm => some (.ptr h.next 0, h.new (.miter none 0 [] 0))
  | some (.map _ _), .map m => match h.get m with
    | some (.map _ clock) => some (.ptr h.next 0, h.new (.miter (some m) clock [] clock))
    | _ => none
  | _, _ => none

def curA (h : H) (it : AV) : Option AV :=
  match it with
  | .ptr r 0 => match h.get r with
    | some (.miter (some m) _ seen stepped) => match seen.getLast?, h.get m with
      | some stamp, some (.map es clock) => if clock = stepped then match es.find? (fun e => e.2.2 == stamp) with | some e => some (.tuple [e.1, e.2.1]) | none => none else none
      | _, _ => none
    | _ => none
  | _ => none

def callA (P : Program) (X : Ext) (h : H) (f : AV) (args : List AV) : Option ANext :=
  match f with
  | .fn (.func g) first captured =>
    match P.funcs[g]? with
    | some fn => if fn.name == "runtime.NumGoroutine" then none else match fn.body with
      | some _ => some (.enter g (first ++ args ++ captured) h)
      | none => match X g with
        | some k => match externA h k (first ++ args ++ captured) with | some (v, h') => some (.val v h') | none => none
        | none => none
    | none => none
  | .yld l => match roundA l args h with
    | some fr => some (.round fr h)
    | none => none
  | _ => none

def minmaxA (q : List Fact) (mx : Bool) : AV → List AV → Option AV
  | x, [] => some x
  | .int k x, .int k' y :: r => if k = k' then minmaxA q mx (.int k (mmF mx x y)) r else none
  | x, y :: r => match findMm mx x y q with
    | some z => minmaxA q mx z r
    | none => none

/-- What kind of operation: it reads; it makes a block and does nothing else; it acts. -/
inductive Kind where
  | read | make | act

def kindA (P : Program) : Op → Kind
  | .alloc _ | .box .. | .buildSlice .. | .makeMap .. | .makeSlice .. => .make
  | .store .. | .mapUpdate .. | .mapEntry .. | .entryStore .. | .next .. | .defer _ | .insert .. | .range .. | .go _ | .panic _ | .send .. | .recv .. | .select .. | .ready _ | .waits _ | .makeChan .. | .sliceToArrayPointer .. => .act
  | .convert _ dst _ => match P.underlying dst with | some (.slice _) => .act | _ => .read
  | .call c => match c.callee with
    | .builtin .len | .builtin .cap | .builtin .min | .builtin .max => .read
    | _ => .act
  | _ => .read

abbrev Env := Operand → Option AV

def cellsOk (v : AV) : Option AObj := match v.cells.all AV.scalar with | true => some (.cells v.cells none false) | false => none

def allocA (P : Program) (elem : TypeId) : Option (AObj × (Nat → AV)) :=
  match zeroA P elem with
  | some z => match cellsOk z with
    | some o => some (o, fun b => .ptr b 0)
    | none => none
  | none => none

def boxA (v : Option AV) : Option (AObj × (Nat → AV)) :=
  match v with
  | some v => match cellsOk v with
    | some o => some (o, fun b => .ptr b 0)
    | none => none
  | none => none

/-- A part's value: no tuple. -/
def partA1 (ρ : Env) (p : Nat × Operand) : Option (Nat × AV) :=
  match ρ p.2 with
  | some v => match v with
    | .tuple _ => none
    | v => some (p.1, v)
  | none => none

def partsA (ρ : Env) (parts : Array (Nat × Operand)) : Option (List (Nat × AV)) :=
  optMap (partA1 ρ) parts.toList

def buildSliceA (P : Program) (ρ : Env) (t : TypeId) (len : Nat) (parts : Array (Nat × Operand)) : Option (AObj × (Nat → AV)) :=
  match P.underlying t with
  | some (.slice elem) => match sizeA P elem with
    | some s => match zeroA P elem with
      | some z => match partsA ρ parts with
        | some ps =>
          if len * s > 2 ^ 24 ∨ z.cells.length ≠ s then none else
          match z.cells.all AV.scalar with
          | true => match fillA (fun i => some (i * s, s)) (repA z.cells len) ps with
            | some cs => some (.cells cs none false, fun b => .slice b 0 0 len (some len))
            | none => none
          | false => none
        | none => none
      | none => none
    | none => none
  | _ => none

def makeSliceA (P : Program) (t : TypeId) (l c : Option AV) : Option (AObj × (Nat → AV)) :=
  match P.underlying t with
  | some (.slice elem) => match l with
    | some (.int _ l) => match c with
      | some (.int _ c) => match sizeA P elem with
        | some s => match bytesA P elem with
          | some bytes => match zeroA P elem with
            | some z =>
              if 0 ≤ l ∧ l ≤ c ∧ c < 2 ^ 40 ∧ bytes * c ≤ 2 ^ 48 ∧ z.cells.length = s ∧ 0 < s then
                match z.cells.all AV.scalar with
                | true => some (.cells (repA z.cells c.toNat) none false, fun b => .slice b 0 0 l.toNat (some c.toNat))
                | false => none
              else none
            | none => none
          | none => none
        | none => none
      | _ => none
    | _ => none
  | _ => none

/-- The operations that make a block and do nothing else: what lies in it, and the value, by the block's name. -/
def mkA (P : Program) (ρ : Env) : Op → Option (AObj × (Nat → AV))
  | .alloc elem => allocA P elem
  | .box _ x => boxA (ρ x)
  | .buildSlice t len parts => buildSliceA P ρ t len parts
  | .makeMap _ none => some (.map [] 0, fun b => .map b)
  | .makeSlice t l c => makeSliceA P t (ρ l) (ρ c)
  | _ => none

def pickA (ρ : Env) (c a b : Operand) : Option AV :=
  match ρ c with
  | some (.bool true) => ρ a
  | some (.bool false) => ρ b
  | _ => none

def buildA (P : Program) (ρ : Env) (t : TypeId) (parts : Array (Nat × Operand)) : Option AV :=
  match zeroA P t with
  | some (.agg z) => match partsA ρ parts with
    | some ps => match P.underlying t with
      | some (.struct fs) => match (List.range fs.size).all fun i => (placeA P fs i).isSome with
        | true => match fillA (placeA P fs) z ps with
          | some cs => some (.agg cs)
          | none => none
        | false => none
      | some (.array _ elem) => match sizeA P elem with
        | some s => match fillA (fun i => some (i * s, s)) z ps with
          | some cs => some (.agg cs)
          | none => none
        | none => none
      | _ => none
    | none => none
  | _ => none

def loadA (P : Program) (h : H) (t : TypeId) (a : Option AV) : Option AV :=
  match a with
  | some (.ptr b off) => match isAggA P t with
    | some false => cellA h b off
    | some true => match sizeA P t with
      | some s => match loadN h b off s with
        | some cs => some (.agg cs)
        | none => none
      | none => none
    | none => none
  | _ => none

def nilCheckA (x : Option AV) : Option AV :=
  match x with
  | some (.ptr b off) => some (.ptr b off)
  | some (.fn (.func f) a c) => some (.fn (.func f) a c)
  | some (.yld l) => some (.yld l)
  | some (.iface t v) => some (.iface t v)
  | _ => none

def bin2A (P : Program) (h : H) (op : BinOp) (t : TypeId) (x y : Option AV) : Option AV :=
  match x with
  | some a => match y with
    | some b => binA P h op t a b
    | none => none
  | none => none

def un1A (op : UnOp) (x : Option AV) : Option AV :=
  match x with
  | some a => unA op a
  | none => none

def ifaceA (P : Program) (t : TypeId) (x : Option AV) : Option AV :=
  match x with
  | some v => match P.underlying t with
    | some (.interface _) => none
    | some _ => some (.iface t v)
    | none => none
  | none => none

def makeFuncA (ρ : Env) (fn : Fn) (first captured : Array Operand) : Option AV :=
  match fn with
  | .yield _ => none
  | fn => match optMap ρ first.toList with
    | some a => match optMap ρ captured.toList with
      | some c => some (.fn fn a c)
      | none => none
    | none => none

def fieldAddrA (P : Program) (s : TypeId) (x : Option AV) (f : Nat) : Option AV :=
  match x with
  | some (.ptr b off) => match P.underlying s with
    | some (.struct fs) => match fs[f]? with
      | some fd => match sizeA P fd.type with
        | some (_ + 1) => some (.ptr b (off + fd.offset))
        | _ => none
      | none => none
    | _ => none
  | _ => none

def fieldA (P : Program) (t : TypeId) (x : Option AV) (f : Nat) : Option AV :=
  match x with
  | some (.agg cs) => match P.underlying t with
    | some (.struct fs) => match fs[f]? with
      | some fd => partA P fd.type cs fd.offset
      | none => none
    | _ => none
  | _ => none

/-- An index within a length. -/
def ixA (ix : Option AV) (len : Nat) : Option Nat :=
  match ix with
  | some (.int _ (.ofNat i)) => match Nat.blt i len with | true => some i | false => none
  | _ => none

/-- Is it known that an index lies below an open length? -/
def belowA (q : List Fact) (i k : Nat) : Bool :=
  match findBin .lss (.int .i64 (.ofNat i)) (.sym k) q with
  | some (.bool true) => true
  | _ => false

def indexAddrA (P : Program) (q : List Fact) (t : TypeId) (x ix : Option AV) : Option AV :=
  match x with
  | some (.sliceS b off k) => match P.underlying t with
    | some (.slice elem) => match sizeA P elem with
      | some s => match ix with
        | some (.int .i64 (.ofNat i)) => match belowA q i k with
          | true => some (.ptr b (off + i * s))
          | false => none
        | _ => none
      | none => none
    | _ => none
  | some (.slice b off _ len _) => match P.underlying t with
    | some (.slice elem) => match sizeA P elem with
      | some s => match ixA ix len with
        | some i => some (.ptr b (off + i * s))
        | none => none
      | none => none
    | _ => none
  | some (.ptr b off) => match P.underlying t with
    | some (.array len elem) => match sizeA P elem with
      | some s => match ixA ix len with
        | some i => some (.ptr b (off + i * s))
        | none => none
      | none => none
    | _ => none
  | _ => none

def indexA (P : Program) (t : TypeId) (x ix : Option AV) : Option AV :=
  match x with
  | some (.agg cs) => match P.underlying t with
    | some (.array len elem) => match sizeA P elem with
      | some s => match ixA ix len with
        | some i => partA P elem cs (i * s)
        | none => none
      | none => none
    | _ => none
  | some (.str s) => match P.underlying t with
    | some .string => match ixA ix s.length with
      | some i => match nth s i with
        | some b => some (.int .u8 b.toNat)
        | none => none
      | none => none
    | _ => none
  | _ => none

def optO (ρ : Env) : Option Operand → Option (Option AV)
  | none => some none
  | some x => match ρ x with
    | some v => some (some v)
    | none => none

def slice4A (P : Program) (h : H) (ρ : Env) (t : TypeId) (x : Operand) (lo hi mx : Option Operand) : Option AV :=
  match ρ x with
  | some x => match optO ρ lo with
    | some lo => match optO ρ hi with
      | some hi => match optO ρ mx with
        | some mx => sliceA P h t x lo hi mx
        | none => none
      | none => none
    | none => none
  | none => none

def lookup2A (P : Program) (h : H) (t : TypeId) (x k : Option AV) (ok : Bool) : Option AV :=
  match x with
  | some x => match k with
    | some k => lookupA P h t x k ok
    | none => none
  | none => none

def conv1A (P : Program) (h : H) (src dst : TypeId) (x : Option AV) : Option AV :=
  match x with
  | some x => convA P h src dst x
  | none => none

def extractA (x : Option AV) (i : Nat) : Option AV :=
  match x with
  | some (.tuple vs) => nth vs i
  | _ => none

def assertA (P : Program) (x : Option AV) (t : TypeId) (ok : Bool) : Option AV :=
  match x with
  | some (.iface u v) => match P.underlying t with
    | some (.interface _) => none
    | some _ => if u = t then some (match ok with | true => .tuple [v, .bool true] | false => v) else none
    | none => none
  | _ => none

def entry1A (h : H) (x : Option AV) : Option AV :=
  match x with
  | some x => curA h x
  | none => none

def len1A (P : Program) (h : H) (t : Option TypeId) (x : Option AV) : Option AV :=
  match t with
  | none => none
  | some t => match x with
    | none => none
    | some x => match P.underlying t with
      | some .string => match x with
        | .str s => some (.int .i64 (.ofNat s.length))
        | _ => none
      | some (.slice _) => match x with
        | .nils => some (.int .i64 (.ofNat 0))
        | .slice0 .. => some (.int .i64 (.ofNat 0))
        | .slice _ _ _ n _ => some (.int .i64 (.ofNat n))
        | .sliceS _ _ k => some (.sym k)
        | _ => none
      | some (.map _ _) => match mapOf h x with
        | some (es, _) => some (.int .i64 (.ofNat es.length))
        | none => none
      | some (.array n _) => some (.int .i64 (.ofNat n))
      | _ => none

def cap1A (P : Program) (t : Option TypeId) (x : Option AV) : Option AV :=
  match t with
  | none => none
  | some t => match P.underlying t with
    | some (.slice _) => match x with
      | some .nils => some (.int .i64 (.ofNat 0))
      | some (.slice _ _ _ _ (some n)) => some (.int .i64 (.ofNat n))
      | _ => none
    | _ => none

def mmA (q : List Fact) (ρ : Env) (mx : Bool) : List Operand → Option AV
  | [] => none
  | x :: r => match ρ x with
    | some a => match optMap ρ r with
      | some r => minmaxA q mx a r
      | none => none
    | none => none

def builtinReadA (P : Program) (h : H) (ρ : Env) (b : Builtin) (args : List Operand) (t : Option TypeId) : Option AV :=
  match b with
  | .len => match args with | [x] => len1A P h t (ρ x) | _ => none
  | .cap => match args with | [x] => cap1A P t (ρ x) | _ => none
  | .min => mmA h.facts ρ false args
  | .max => mmA h.facts ρ true args
  | _ => none

/-- The reading operations. -/
def readA (P : Program) (h : H) (ρ : Env) : Op → Option AV
  | .move x | .assign x => ρ x
  | .pick c a b => pickA ρ c a b
  | .build t parts => buildA P ρ t parts
  | .load t a => loadA P h t (ρ a)
  | .nilCheck x => nilCheckA (ρ x)
  | .binOp op t x y _ => bin2A P h op t (ρ x) (ρ y)
  | .unOp op _ x => un1A op (ρ x)
  | .makeInterface t x => ifaceA P t (ρ x)
  | .makeFunc fn first captured => makeFuncA ρ fn first captured
  | .fieldAddr s x f => fieldAddrA P s (ρ x) f
  | .field t x f => fieldA P t (ρ x) f
  | .indexAddr t x ix => indexAddrA P h.facts t (ρ x) (ρ ix)
  | .index t x ix => indexA P t (ρ x) (ρ ix)
  | .slice t x lo hi mx => slice4A P h ρ t x lo hi mx
  | .lookup t x k ok => lookup2A P h t (ρ x) (ρ k) ok
  | .convert src dst x => conv1A P h src dst (ρ x)
  | .extract t i => extractA (ρ t) i
  | .typeAssert x _ t ok => assertA P (ρ x) t ok
  | .entry it => entry1A h (ρ it)
  | .call ⟨.builtin b, args, argTypes⟩ => builtinReadA P h ρ b args.toList argTypes[0]?
  | _ => none

def skipA : Option H → Option ANext
  | some h => some (.skip h)
  | none => none
def valA : Option (AV × H) → Option ANext
  | some (v, h) => some (.val v h)
  | none => none
def unitA : Option H → Option ANext
  | some h => some (.val undefA h)
  | none => none

def storeA (P : Program) (h : H) (t : TypeId) (a x : Option AV) : Option H :=
  match a with
  | some (.ptr b off) => match x with
    | some v => match sizeA P t with
      | some s => match Nat.beq s v.cells.length with
        | true => storeN h b off v.cells
        | false => none
      | none => none
    | none => none
  | _ => none

def toBytesA (P : Program) (h : H) (src dst : TypeId) (x : Option AV) : Option (AV × H) :=
  match x with
  | some (.str s) => match P.underlying src with
   | none => none
   | some _ => match P.underlying dst with
    | some (.slice e) => match P.underlying e with
      | some (.int .u8) => some (.slice h.next 0 0 s.length none, h.new (.cells (s.map fun b => .int .u8 b.toNat) (some 1) true))
      | _ => none
    | _ => none
  | _ => none

def opt2 {α : Type} (x y : Option AV) (f : AV → AV → Option α) : Option α :=
  match x with
  | some x => match y with
    | some y => f x y
    | none => none
  | none => none
def opt3 {α : Type} (x y z : Option AV) (f : AV → AV → AV → Option α) : Option α :=
  match x with
  | some x => match y with
    | some y => match z with
      | some z => f x y z
      | none => none
    | none => none
  | none => none

def range1A (P : Program) (h : H) (t : TypeId) (x : Option AV) : Option (AV × H) :=
  match x with
  | some x => rangeA P h t x
  | none => none
def next1A (h : H) (x : Option AV) (s : Bool) : Option (AV × H) :=
  match x with
  | some x => nextA h x s
  | none => none

def deferA (ρ : Env) (h : H) (c : Call) : Option ANext :=
  match c.callee with
  | .value f => match ρ f with
    | some (.fn (.func g) first captured) => match optMap ρ c.args.toList with
      | some args => some (.defer { target := some (g, captured), block := 0, args := first ++ args } h)
      | none => none
    | _ => none
  | _ => none

def clearA (P : Program) (h : H) (t : Option TypeId) (x : Option AV) : Option H :=
  match t with
  | none => none
  | some t => match P.underlying t with
    | some (.slice elem) => match x with
      | some .nils => some h
      | some (.slice0 ..) => some h
      | some (.slice b off _ n _) => match Nat.beq n 0 with
        | true => some h
        | false => match zeroA P elem with
          | some z => storeN h b off (repA z.cells n)
          | none => none
      | _ => none
    | _ => none

def builtinActA (P : Program) (h : H) (ρ : Env) (b : Builtin) (args : List Operand) (argTypes : Array TypeId) : Option ANext :=
  match b with
  | .append => match args with
    | [s, x] => valA (opt2 (ρ s) (ρ x) (appendA P h argTypes.toList))
    | _ => none
  | .delete => match args with
    | [m, k] => match argTypes[0]? with
      | some t => unitA (opt2 (ρ m) (ρ k) (deleteA P h t))
      | none => none
    | _ => none
  | .clear => match args with
    | [x] => unitA (clearA P h argTypes[0]? (ρ x))
    | _ => none
  | _ => none

def call1A (P : Program) (X : Ext) (h : H) (ρ : Env) (c : Call) : Option ANext :=
  match c.callee with
  | .value f => match ρ f with
    | some f => match optMap ρ c.args.toList with
      | some args => callA P X h f args
      | none => none
    | none => none
  | .builtin b => builtinActA P h ρ b c.args.toList c.argTypes
  | .invoke _ _ => none

/-- The writing operations, and calls. -/
def actA (P : Program) (X : Ext) (h : H) (ρ : Env) : Op → Option ANext
  | .store t a x => skipA (storeA P h t (ρ a) (ρ x))
  | .call c => call1A P X h ρ c
  | .convert src dst x => valA (toBytesA P h src dst (ρ x))
  | .range t x => valA (range1A P h t (ρ x))
  | .next it isString => valA (next1A h (ρ it) isString)
  | .mapUpdate t m k x => skipA (opt3 (ρ m) (ρ k) (ρ x) (updateA P h t))
  | .mapEntry t m k => valA (opt2 (ρ m) (ρ k) (entryA P h t))
  | .entryStore _ m s x => skipA (opt3 (ρ m) (ρ s) (ρ x) (entryStoreA h))
  | .defer c => deferA ρ h c
  | _ => none

/-- Any operation. -/
def opA (P : Program) (X : Ext) (h : H) (ρ : Env) (op : Op) : Option ANext :=
  match kindA P op with
  | .read => match readA P h ρ op with
    | some v => some (.val v h)
    | none => none
  | .make => match mkA P ρ op with
    | some (obj, f) => some (.val (f h.next) (h.new obj))
    | none => none
  | .act => actA P X h ρ op
end Go.AM
