/- The abstract machine's step. Nothing is assumed. -/
import Derived.Test.YtdllplhkcllgfaaGreatAmC
namespace Go.AM

mutual
def AV.beq : AV → AV → Bool
  | .bool a, .bool b => a == b
  | .int j a, .int k b => j == k && a == b
  | .str a, .str b => a == b
  | .nilp, .nilp => true
  | .ptr a o, .ptr b p => a == b && o == p
  | .nils, .nils => true
  | .slice a b c d e, .slice a' b' c' d' e' => a == a' && b == b' && c == c' && d == d' && e == e'
  | .slice0 a b c d e f, .slice0 a' b' c' d' e' f' => a == a' && b == b' && c == c' && d == d' && e == e' && f == f'
  | .sliceS a b c, .sliceS a' b' c' => a == a' && b == b' && c == c'
  | .nilm, .nilm => true
  | .map a, .map b => a == b
  | .nilf, .nilf => true
  | .fn (.func f) a c, .fn (.func g) b d => f == g && AV.beqs a b && AV.beqs c d
  | .yld a, .yld b => a == b
  | .nili, .nili => true
  | .iface t a, .iface u b => t == u && AV.beq a b
  | .agg a, .agg b => AV.beqs a b
  | .tuple a, .tuple b => AV.beqs a b
  | .sym a, .sym b => a == b
  | _, _ => false
def AV.beqs : List AV → List AV → Bool
  | [], [] => true
  | a :: as, b :: bs => AV.beq a b && AV.beqs as bs
  | _, _ => false
end

def actsA (P : Program) (op : Op) : Bool := match kindA P op with | .act => true | _ => false

def depsOf (o : Oper) : List Nat := (o.after.toList.filter (Region.binds .any)).map (·.on)

def actList (P : Program) (ops : Array Oper) : List Nat := (List.range ops.size).filter fun i => match ops[i]? with | some o => actsA P o.op | none => false

/-- Which operations lie behind each, as bits. -/
def ancs (ops : Array Oper) : List Nat :=
  ops.toList.foldl (fun acc o => acc ++ [(depsOf o).foldl (fun s d => s ||| 2 ^ d ||| (nth acc d).getD 0) 0]) []

/-- Which reading operations may be read, when 'done' have acted; as a list of Bools. -/
def eligs (P : Program) (ops : Array Oper) (done : List Nat) : List Bool :=
  ops.toList.foldl (fun acc o => acc ++ [!actsA P o.op && (depsOf o).all fun d => ((nth acc d).getD false) || done.contains d]) []

def tmpsOf (os : List Operand) : List Tmp := os.filterMap fun | .tmp t => some t | _ => none

def looks (ops : Array Oper) (o : Oper) : List Tmp :=
  tmpsOf o.op.operands.toList ++ (match o.guard with | some (g, _) => ((ops[g]?).bind (·.dst)).toList | none => [])

def chainTotal (an : List Nat) : List Nat → Bool
  | x :: y :: r => ((nth an y).getD 0).testBit x && chainTotal an (y :: r)
  | _ => true

def pairsApart (ds : List (Option Tmp)) : Bool :=
  match ds with
  | [] => true
  | none :: r => pairsApart r
  | some d :: r => r.all (fun x => match x with | some e => d != e | none => true) && pairsApart r

/-- What is asked of a region whose order is open. -/
def drawnOk (P : Program) (ops : Array Oper) : Bool :=
  let an := ancs ops
  let ch := actList P ops
  let ix := List.range ops.size
  (ix.all fun i => match ops[i]? with | some o => (depsOf o).all (· < i) | none => false) &&
  chainTotal an ch &&
  pairsApart (ops.toList.map (·.dst)) &&
  ix.all fun i => match ops[i]? with
    | some o => (match o.guard with | some (g, _) => (depsOf o).contains g | none => true) &&
      (looks ops o).all fun s => ix.all fun j => match ops[j]? with
        | some p => if p.dst = some s then (depsOf o).contains j || ch.any (fun e => (e == i || ((nth an e).getD 0).testBit i) && ((nth an j).getD 0).testBit e) else true
        | none => false
    | none => false

/-- Is a guarded operation wanted? -/
def wantedA (ops : Array Oper) (tmps : T AV) (o : Oper) : Option Bool :=
  match o.guard with
  | none => some true
  | some (j, want) => match (ops[j]?).bind (·.dst) with
    | none => some false
    | some d => match (tmps.get d).getD undefA with
      | .bool b => some (b == want)
      | .sym _ => none
      | _ => some false

def putA (n : Nat) (tmps : T AV) (dst : Option Tmp) (v : AV) : Option (T AV) :=
  match dst with
  | none => some tmps
  | some d => match Nat.blt d n with
    | true => some (tmps.put d (some v))
    | false => none

/-- A value that is read is the one that lies there. -/
def againA (n : Nat) (v : Option AV) (tmps : T AV) (dst : Option Tmp) : Bool :=
  match v with
  | some v => match dst with
    | some d => match Nat.blt d n with
      | true => match tmps.get d with
        | some v' => v.beq v'
        | none => false
      | false => false
    | none => true
  | none => false

/-- Read one operation. -/
def firstReadA (P : Program) (n : Nat) (o : Oper) (tmps : T AV) (h : H) : Option (T AV × H) :=
  match kindA P o.op with
  | .make => match mkA P (evalA tmps) o.op with
    | some (obj, f) => match putA n tmps o.dst (f h.next) with
      | some t => some (t, h.new obj)
      | none => none
    | none => none
  | .read => match readA P h (evalA tmps) o.op with
    | some v => match putA n tmps o.dst v with
      | some t => some (t, h)
      | none => none
    | none => none
  | .act => none

/-- Read all that can be read, but for what could be read before ('old'). -/
def batchA (P : Program) (ops : Array Oper) (n : Nat) (old : List Bool) : List Nat → T AV → H → Option (T AV × H)
  | [], tmps, h => some (tmps, h)
  | i :: r, tmps, h =>
    match (nth old i).getD false with
    | true => batchA P ops n old r tmps h
    | false => match ops[i]? with
      | none => none
      | some o => match wantedA ops tmps o with
        | none => none
        | some false => match putA n tmps o.dst undefA with
          | some t => batchA P ops n old r t h
          | none => none
        | some true => match firstReadA P n o tmps h with
          | some (t, h') => batchA P ops n old r t h'
          | none => none

def idOf : AV → Option Nat
  | .ptr b _ => some b
  | .slice b _ _ _ _ => some b
  | .map b => some b
  | _ => none

def objEq : AObj → AObj → Bool
  | .cells a s f, .cells b t g => AV.beqs a b && s == t && f == g
  | .map [] c, .map [] d => c == d
  | _, _ => false

/-- What lies there is what would be read now. -/
def validA (P : Program) (ops : Array Oper) (n : Nat) (tmps : T AV) (h : H) (i : Nat) : Bool :=
  match ops[i]? with
  | none => false
  | some o => match wantedA ops tmps o with
    | none => false
    | some false => againA n (some undefA) tmps o.dst
    | some true => match kindA P o.op with
      | .read => againA n (readA P h (evalA tmps) o.op) tmps o.dst
      | .make => match mkA P (evalA tmps) o.op with
        | some (obj, f) => match o.dst with
          | some d => match Nat.blt d n with
            | true => match tmps.get d with
              | some v => match idOf v with
                | some id => match h.get id with
                  | some obj' => v.beq (f id) && objEq obj obj'
                  | none => false
                | none => false
              | none => false
            | false => false
          | none => false
        | none => false
      | .act => false

def trueAt (l : List Bool) : List Nat := ((l.zipIdx).filter (·.1)).map (·.2)

/-- What has been read for sure, when 'done' have acted; as bits. -/
def sureA (ops : Array Oper) (done : List Nat) : Nat := done.foldl (fun s d => s ||| (nth (ancs ops) d).getD 0) 0

def oldA (P : Program) (ops : Array Oper) : List Nat → List Bool
  | [] => []
  | _ :: d => eligs P ops d

def batch (P : Program) (ops : Array Oper) (n : Nat) (done : List Nat) (tmps : T AV) (h : H) : Option (T AV × H) :=
  match batchA P ops n (oldA P ops done) (trueAt (eligs P ops done)) tmps h with
  | some (t, h') => match (trueAt (eligs P ops done)).all fun i => (sureA ops done).testBit i || validA P ops n t h' i with
    | true => some (t, h')
    | false => none
  | none => none

/-- A frame takes a value. -/
def finishA (v : AV) : AFrame → Option AFrame
  | ⟨fn, n, tmps, todo, defers, ret, kind, round⟩ =>
    match todo with
    | it :: k => match it with
      | .inRegion ops (i :: rest) => match ops[i]? with
        | some o => match putA n tmps o.dst v with
          | some t => some ⟨fn, n, t, .inRegion ops rest :: k, defers, ret, kind, round⟩
          | none => none
        | none => none
      | .inDrawn ops (i :: c) done => match ops[i]? with
        | some o => match putA n tmps o.dst v with
          | some t => some ⟨fn, n, t, .batch ops c (i :: done) :: k, defers, ret, kind, round⟩
          | none => none
        | none => none
      | .inRangeFunc l => some ⟨fn, n, tmps, .endRangeFunc l :: k, defers, ret, kind, round⟩
      | _ => none
    | [] => none

def ofArgs : List AV → Nat → T AV → T AV
  | [], _, t => t
  | a :: as, i, t => ofArgs as (i + 1) (t.put i (some a))

def enterA (P : Program) (f : FuncId) (args : List AV) (kind : CallKind) : Option AFrame :=
  match P.funcs[f]? with
  | some fn => match fn.body with
    | some c => some ⟨f, max fn.ntmps args.length, ofArgs args 0 .e, [.code c], [], false, kind, none⟩
    | none => none
  | none => none

def exitToA (id : Nat) : List AItem → Option (List AItem)
  | it :: k => match it with
    | .inBlock id' => match Nat.beq id' id with
      | true => some k
      | false => exitToA id k
    | _ => exitToA id k
  | [] => none

def one (fr : Option AFrame) (fs : List AFrame) (h : H) : Option Cfg :=
  match fr with
  | some fr => some ⟨fr :: fs, h⟩
  | none => none

def pushDefer (d : ADef) : AFrame → Option AFrame
  | ⟨fn, n, tmps, todo, defers, ret, kind, round⟩ => match round with
    | none => some ⟨fn, n, tmps, todo, d :: defers, ret, kind, none⟩
    | some _ => none

/-- What is done with an operation's outcome. -/
def afterA (P : Program) (fr : AFrame) (fs : List AFrame) : ANext → Option Cfg
  | .val v h => one (finishA v fr) fs h
  | .skip h => one (finishA undefA fr) fs h
  | .enter f args h => one (enterA P f args .normal) (fr :: fs) h
  | .defer d h => match pushDefer d fr with
    | some fr' => one (finishA undefA fr') fs h
    | none => none
  | .round g h => some ⟨g :: fr :: fs, h⟩

def resultA (P : Program) (h : H) (tmps : T AV) : ResultVar → Option AV
  | .tmp t => some ((tmps.get t).getD undefA)
  | .cell a t => loadA P h t (some ((tmps.get a).getD undefA))

/-- A frame's results. -/
def resultsA (P : Program) (h : H) : AFrame → Option AV
  | ⟨fn, _, tmps, _, _, _, _, _⟩ => match P.funcs[fn]? with
    | some fn => match optMap (resultA P h tmps) fn.results.toList with
      | some vs => match vs with
        | [v] => some v
        | vs => some (.tuple vs)
      | none => none
    | none => none

/-- A frame of a kind gives a value to the one below. -/
def giveA (kind : CallKind) (v : AV) (fs : List AFrame) (h : H) : Option Cfg :=
  match fs with
  | [] => none
  | c :: rest => match kind with
    | .normal => one (finishA v c) rest h
    | .deferred => match c.ret with
      | true => some ⟨c :: rest, h⟩
      | false => none
    | _ => none

def isRet : Option Code → Bool
  | none => true
  | some .ret => true
  | _ => false

/-- A round, or a function, is left. -/
def leaveA (jump : Option Code) (fr : AFrame) (fs : List AFrame) (h : H) : Option Cfg :=
  match fr with
  | ⟨fn, n, tmps, todo, defers, _, kind, round⟩ => match round with
    | none => match isRet jump with
      | true => some ⟨⟨fn, n, tmps, todo, defers, true, kind, none⟩ :: fs, h⟩
      | false => none
    | some l => match h.get l with
      | some (.loop _ _ fn tmps n params assign body d) =>
        giveA kind (.bool jump.isNone) fs (h.put l (.loop (match jump with | none => .ready | some _ => .done) jump fn tmps n params assign body d))
      | _ => none

/-- A frame that is left: its deferred calls, its results. -/
def retA (P : Program) (X : Ext) (fr : AFrame) (fs : List AFrame) (h : H) : Option Cfg :=
  match fr with
  | ⟨fn, n, tmps, todo, defers, ret, kind, round⟩ => match defers with
    | [] => match resultsA P h fr with
      | some v => giveA kind v fs h
      | none => none
    | ⟨target, block, args⟩ :: ds => match target with
      | none => match h.get block with
        | some (.deferred (some calls)) => some ⟨⟨fn, n, tmps, todo, calls ++ ds, ret, kind, round⟩ :: fs, h.put block (.deferred none)⟩
        | _ => none
      | some (g, captured) => match callA P X h (.fn (.func g) [] captured) args with
        | some (.enter f args h) => one (enterA P f args .deferred) (⟨fn, n, tmps, todo, ds, ret, kind, round⟩ :: fs) h
        | some (.val _ h) => some ⟨⟨fn, n, tmps, todo, ds, ret, kind, round⟩ :: fs, h⟩
        | _ => none

/-- A range over a function begins: the block for the rounds' deferred calls, and the mark of it. -/
def rangeBlock (round : Option Nat) (h : H) : Option (H × Nat × List ADef) :=
  match round with
  | some l => match h.get l with
    | some (.loop _ _ _ _ _ _ _ _ d) => some (h, d, [])
    | _ => none
  | none => some (h.new (.deferred (some [])), h.next, [⟨none, h.next, []⟩])

def rangeFuncA (P : Program) (X : Ext) (fr : AFrame) (fs : List AFrame) (h : H) (k : List AItem) (f : Operand) (params : Array Tmp) (assign body : Code) : Option Cfg :=
  match fr with
  | ⟨fn, n, tmps, _, defers, ret, kind, round⟩ => match evalA tmps f with
    | some fv => match rangeBlock round h with
      | some (h1, d, mark) =>
        match callA P X (h1.new (.loop .ready none fn tmps n params assign body d)) fv [.yld h1.next] with
        | some (.enter g args h3) => one (enterA P g args .normal) (⟨fn, n, tmps, .inRangeFunc h1.next :: k, mark ++ defers, ret, kind, round⟩ :: fs) h3
        | _ => none
      | none => none
    | none => none

def condA (tmps : T AV) (c : Operand) (a b : Code) : Option Code :=
  match evalA tmps c with
  | some (.bool true) => some a
  | some (.bool false) => some b
  | _ => none

/-- A frame with another list of things to do. -/
def to (fr : AFrame) (fs : List AFrame) (h : H) (todo : List AItem) : Option Cfg :=
  match fr with
  | ⟨fn, n, tmps, _, defers, ret, kind, round⟩ => some ⟨⟨fn, n, tmps, todo, defers, ret, kind, round⟩ :: fs, h⟩

def codeA (P : Program) (X : Ext) (fr : AFrame) (fs : List AFrame) (h : H) (k : List AItem) : Code → Option Cfg
  | .ret => leaveA (some .ret) fr fs h
  | .skip => to fr fs h k
  | .label _ => to fr fs h k
  | .seq a b => to fr fs h (.code a :: .code b :: k)
  | .cond c a b => match condA fr.tmps c a b with
    | some x => to fr fs h (.code x :: k)
    | none => none
  | .block id body => to fr fs h (.code body :: .inBlock id :: k)
  | .loop body => to fr fs h (.code body :: .inLoop body :: k)
  | .scope body => to fr fs h (.code body :: .inScope body :: k)
  | .exit id => match exitToA id k with
    | some k' => to fr fs h k'
    | none => leaveA (some (.exit id)) fr fs h
  | .goto _ => none
  | .rangeFunc f params assign body => rangeFuncA P X fr fs h k f params assign body
  | .refuse _ => none
  | .region _ ops draw => match draw with
    | false => to fr fs h (.inRegion ops (List.range ops.size) :: k)
    | true => match drawnOk P ops with
      | true => to fr fs h (.batch ops (actList P ops) [] :: k)
      | false => none

def beginRoundA (fr : AFrame) (fs : List AFrame) (h : H) (k : List AItem) : Option Cfg :=
  match fr.round with
  | some l => match h.get l with
    | some (.loop st pending fn tmps n params assign body d) => match st with
      | .ready => to fr fs (h.put l (.loop .busy pending fn tmps n params assign body d)) k
      | _ => none
    | _ => none
  | none => none

def endRangeA (fr : AFrame) (fs : List AFrame) (h : H) (k : List AItem) (l : Nat) : Option Cfg :=
  match h.get l with
  | some (.loop st pending fn tmps n params assign body d) => match st with
    | .busy => none
    | _ => to fr fs (h.put l (.loop .exhausted pending fn tmps n params assign body d)) (match pending with | some c => .code c :: k | none => k)
  | _ => none

def runOpA (P : Program) (X : Ext) (fr : AFrame) (fs : List AFrame) (h : H) (ops : Array Oper) (i : Nat) (drawn : Bool) : Option Cfg :=
  match ops[i]? with
  | some o => match wantedA ops fr.tmps o with
    | some true => match (match drawn with | true => actA P X h (evalA fr.tmps) o.op | false => opA P X h (evalA fr.tmps) o.op) with
      | some nx => afterA P fr fs nx
      | none => none
    | some false => one (finishA undefA fr) fs h
    | none => none
  | none => none

def allRead (P : Program) (ops : Array Oper) (done : List Nat) : Bool :=
  (eligs P ops done).zipIdx.all fun p => p.1 || done.contains p.2

def batch1A (P : Program) (fr : AFrame) (fs : List AFrame) (h : H) (k : List AItem) (ops : Array Oper) (chain done : List Nat) : Option Cfg :=
  match fr with
  | ⟨fn, n, tmps, _, defers, ret, kind, round⟩ => match batch P ops n done tmps h with
    | some (t, h') => some ⟨⟨fn, n, t, .inDrawn ops chain done :: k, defers, ret, kind, round⟩ :: fs, h'⟩
    | none => none

def itemA (P : Program) (X : Ext) (fr : AFrame) (fs : List AFrame) (h : H) (k : List AItem) : AItem → Option Cfg
  | .code c => codeA P X fr fs h k c
  | .inBlock _ => to fr fs h k
  | .inScope _ => to fr fs h k
  | .inLoop body => to fr fs h (.code body :: .inLoop body :: k)
  | .inRangeFunc _ => none
  | .beginRound => beginRoundA fr fs h k
  | .endRangeFunc l => endRangeA fr fs h k l
  | .batch ops chain done => batch1A P fr fs h k ops chain done
  | .inDrawn ops [] done => match allRead P ops done with
    | true => to fr fs h k
    | false => none
  | .inDrawn ops (i :: _) _ => runOpA P X fr fs h ops i true
  | .inRegion _ [] => to fr fs h k
  | .inRegion ops (i :: _) => runOpA P X fr fs h ops i false

def frameA (P : Program) (X : Ext) (fs : List AFrame) (h : H) (fr : AFrame) : Option Cfg :=
  match fr.ret with
  | true => retA P X fr fs h
  | false => match fr.todo with
    | [] => leaveA none fr fs h
    | it :: k => itemA P X fr fs h k it

def stepA (P : Program) (X : Ext) : Cfg → Option Cfg
  | ⟨[], _⟩ => none
  | ⟨fr :: fs, h⟩ => frameA P X fs h fr

/-- Run until the first frame is about to give its results. -/
def doneA : Cfg → Bool
  | ⟨[fr], _⟩ => fr.ret && fr.defers.isEmpty
  | _ => false

def runA (P : Program) (X : Ext) : Nat → Cfg → Option Cfg
  | 0, c => match doneA c with
    | true => some c
    | false => none
  | n + 1, c => match doneA c with
    | true => some c
    | false => match stepA P X c with
      | some c' => runA P X n c'
      | none => none
end Go.AM
