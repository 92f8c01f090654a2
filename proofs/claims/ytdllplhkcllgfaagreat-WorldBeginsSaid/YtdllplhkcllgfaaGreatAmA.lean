/- An abstract machine that runs a lone goroutine's code over named blocks: its data, its values, its step. Nothing is assumed. -/
import Derived.Control
namespace Go.AM

/-- A map from numbers, as a tree on the numbers' bits. -/
inductive T (α : Type) where
  | e
  | n (v : Option α) (l r : T α)
  deriving Inhabited

def T.get {α : Type} : T α → Nat → Option α
  | .e, _ => none
  | .n v l r, k => if k = 0 then v else if k % 2 = 1 then l.get (k / 2) else r.get (k / 2 - 1)

/-- Put a value (or none) at a number; the fuel is more than the number. -/
def T.setF {α : Type} : Nat → T α → Nat → Option α → T α
  | 0, t, _, _ => t
  | f + 1, t, k, x =>
    match t with
    | .e => if k = 0 then .n x .e .e else if k % 2 = 1 then .n none (T.setF f .e (k / 2) x) .e else .n none .e (T.setF f .e (k / 2 - 1) x)
    | .n v l r => if k = 0 then .n x l r else if k % 2 = 1 then .n v (T.setF f l (k / 2) x) r else .n v l (T.setF f r (k / 2 - 1) x)

def T.put {α : Type} (t : T α) (k : Nat) (x : Option α) : T α := T.setF (k + 1) t k x

theorem T.get_setF {α : Type} : ∀ (f : Nat) (t : T α) (k j : Nat) (x : Option α), k < f → (T.setF f t k x).get j = if j = k then x else t.get j
  | 0, _, _, _, _, h => by omega
  | f + 1, t, k, j, x, h => by
    cases t with
    | e =>
      simp only [T.setF]
      by_cases hk : k = 0
      · subst hk; simp only [if_true, T.get]
        by_cases hj : j = 0 <;> simp [hj]
      · simp only [hk, if_false]
        by_cases hp : k % 2 = 1
        · simp only [hp, if_true, T.get]
          rw [T.get_setF f .e (k / 2) (j / 2) x (by omega)]
          by_cases hj : j = 0
          · subst hj; simp; omega
          · simp only [hj, if_false]
            by_cases hjp : j % 2 = 1
            · simp only [hjp, if_true, T.get]
              have : (j / 2 = k / 2) ↔ (j = k) := by omega
              simp [this]
            · simp only [hjp, if_false, T.get]
              have : ¬ (j = k) := by omega
              simp [this]
        · simp only [hp, if_false, T.get]
          rw [T.get_setF f .e (k / 2 - 1) (j / 2 - 1) x (by omega)]
          by_cases hj : j = 0
          · subst hj; simp; omega
          · simp only [hj, if_false]
            by_cases hjp : j % 2 = 1
            · simp only [hjp, if_true, T.get]
              have : ¬ (j = k) := by omega
              simp [this]
            · simp only [hjp, if_false, T.get]
              have : (j / 2 - 1 = k / 2 - 1) ↔ (j = k) := by omega
              simp [this]
    | n v l r =>
      simp only [T.setF]
      by_cases hk : k = 0
      · subst hk; simp only [if_true, T.get]
        by_cases hj : j = 0 <;> simp [hj]
      · simp only [hk, if_false]
        by_cases hp : k % 2 = 1
        · simp only [hp, if_true, T.get]
          rw [T.get_setF f l (k / 2) (j / 2) x (by omega)]
          by_cases hj : j = 0
          · subst hj; simp; omega
          · simp only [hj, if_false]
            by_cases hjp : j % 2 = 1
            · simp only [hjp, if_true]
              have : (j / 2 = k / 2) ↔ (j = k) := by omega
              simp [this]
            · simp only [hjp, if_false]
              have : ¬ (j = k) := by omega
              simp [this]
        · simp only [hp, if_false, T.get]
          rw [T.get_setF f r (k / 2 - 1) (j / 2 - 1) x (by omega)]
          by_cases hj : j = 0
          · subst hj; simp; omega
          · simp only [hj, if_false]
            by_cases hjp : j % 2 = 1
            · simp only [hjp, if_true]
              have : ¬ (j = k) := by omega
              simp [this]
            · simp only [hjp, if_false]
              have : (j / 2 - 1 = k / 2 - 1) ↔ (j = k) := by omega
              simp [this]

theorem T.get_put {α : Type} (t : T α) (k j : Nat) (x : Option α) : (t.put k x).get j = if j = k then x else t.get j :=
  T.get_setF (k + 1) t k j x (by omega)

/-- Values: blocks are named; a capacity may be unknown. -/
inductive AV where
  | bool (b : Bool)
  | int (k : IntKind) (n : Int)
  | str (s : List UInt8)
  | nilp
  | ptr (b off : Nat)
  | nils
  | slice (b off offE len : Nat) (cap : Option Nat)
  | slice0 (b off offE l size : Nat) (capz : Bool)     -- s[l:], empty, of a slice of unknown capacity; capz: its capacity is cut to nothing
  | sliceS (b off k : Nat)     -- a slice as long as the open value k says
  | nilm
  | map (b : Nat)
  | nilf
  | fn (f : Fn) (first captured : List AV)
  | yld (l : Nat)
  | nili
  | iface (t : TypeId) (v : AV)
  | agg (cs : List AV)
  | tuple (vs : List AV)
  | sym (i : Nat)
  deriving Inhabited

/-- Where a named block lies: its number, the first cell, how many elements it has room for. -/
structure Place where
  blk : Nat
  base : Nat
  cap : Nat

/-- Where all blocks lie; what open values are. -/
structure Mp where
  at_ : Nat → Option Place
  env : Nat → Option Value

mutual
def AV.tr (M : Mp) : AV → Option Value
  | .bool b => some (.bool b)
  | .int k n => some (.int k n)
  | .str s => some (.string ⟨s.toArray⟩)
  | .nilp => some (.pointer none)
  | .ptr b off => match M.at_ b with | some p => some (.pointer (some ⟨p.blk, p.base + off, none⟩)) | none => none
  | .nils => some (.slice none 0 0)
  | .slice b off offE len cap => match M.at_ b with | some p => some (.slice (some ⟨p.blk, p.base + off, none⟩) len (cap.getD (p.cap - offE))) | none => none
  | .slice0 b off offE l size capz => match M.at_ b with
    | some p => some (.slice (some ⟨p.blk, p.base + (if p.cap - offE = l then off else off + l * size), none⟩) 0 (if capz then 0 else p.cap - offE - l))
    | none => none
  | .sliceS b off k => match M.at_ b, M.env k with
    | some p, some (.int .i64 (.ofNat n)) => some (.slice (some ⟨p.blk, p.base + off, none⟩) n p.cap)
    | _, _ => none
  | .nilm => some (.map none)
  | .map b => match M.at_ b with | some p => some (.map (some p.blk)) | none => none
  | .nilf => some .nilFunc
  | .fn f first captured => match f, AV.trs M first, AV.trs M captured with
    | .yield _, _, _ => none
    | f, some a, some b => some (.func f a.toArray b.toArray)
    | _, _, _ => none
  | .yld l => match M.at_ l with | some p => some (.func (.yield p.blk) #[] #[]) | none => none
  | .nili => some .nilIface
  | .iface t v => match AV.tr M v with | some x => some (.iface t x) | none => none
  | .agg cs => match AV.trs M cs with | some l => some (.agg l.toArray) | none => none
  | .tuple vs => match AV.trs M vs with | some l => some (.tuple l.toArray) | none => none
  | .sym i => M.env i
def AV.trs (M : Mp) : List AV → Option (List Value)
  | [] => some []
  | v :: vs => match AV.tr M v, AV.trs M vs with | some x, some xs => some (x :: xs) | _, _ => none
end

structure ADef where
  target : Option (FuncId × List AV)      -- a function and what it captured; none: a loop's block of deferred calls
  block : Nat
  args : List AV
  deriving Inhabited

/-- Named blocks. -/
inductive AObj where
  | cells (cs : List AV) (tail : Option Nat) (fz : Bool)     -- tail: an element's size, where there may be room behind; fz: cells behind may be a string's
  | map (es : List (AV × AV × Nat)) (clock : Nat)
  | miter (m : Option Nat) (since : Nat) (seen : List Nat) (stepped : Nat)
  | siter (s : List UInt8) (pos : Nat)
  | loop (state : LoopState) (pending : Option Code) (fn : FuncId) (tmps : T AV) (n : Nat) (params : Array Tmp) (assign body : Code) (defers : Nat)
  | deferred (ds : Option (List ADef))
  deriving Inhabited

/-- What is known of open values: x op y is r; x, as another kind of number; the greater or the lesser. -/
inductive Fact where
  | bin (op : BinOp) (x y r : AV)
  | conv (k : IntKind) (x r : AV)
  | mm (mx : Bool) (x y r : AV)
  deriving Inhabited

structure H where
  t : T AObj
  next : Nat
  facts : List Fact
  deriving Inhabited

def H.get : H → Nat → Option AObj
  | ⟨t, _, _⟩, b => t.get b
def H.new : H → AObj → H
  | ⟨t, n, q⟩, o => ⟨t.put n (some o), n + 1, q⟩
def H.put : H → Nat → AObj → H
  | ⟨t, n, q⟩, b, o => ⟨t.put b (some o), n, q⟩
def H.del : H → Nat → H
  | ⟨t, n, q⟩, b => ⟨t.put b none, n, q⟩

inductive AItem where
  | code (c : Code)
  | inBlock (id : Nat)
  | inLoop (body : Code)
  | inScope (body : Code)
  | inRegion (ops : Array Oper) (todo : List Nat)
  | batch (ops : Array Oper) (chain : List Nat) (done : List Nat)      -- a region whose order is open: what acts is done in order; what reads is to be read anew
  | inDrawn (ops : Array Oper) (chain : List Nat) (done : List Nat)    -- all is read that can be read
  | inRangeFunc (loop : Nat)
  | endRangeFunc (loop : Nat)
  | beginRound
  deriving Inhabited

structure AFrame where
  fn : FuncId
  n : Nat
  tmps : T AV
  todo : List AItem
  defers : List ADef
  ret : Bool
  kind : CallKind
  round : Option Nat
  deriving Inhabited

structure Cfg where
  frames : List AFrame
  heap : H
  deriving Inhabited
end Go.AM
