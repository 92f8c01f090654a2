/- The abstract machine's step in a form that the kernel carries out fast: the same function, its case distinctions closed. Nothing is assumed. -/
import Derived.Test.YtdllplhkcllgfaaGreatSeg
namespace Go.AM

noncomputable def ob {α β : Type} (x : Option α) (f : α → Option β) : Option β := @Option.rec α (fun _ => Option β) none f x
noncomputable def bif' {α : Type} (b : Bool) (x y : α) : α := @Bool.rec (fun _ => α) y x b
theorem ob_none {α β : Type} (f : α → Option β) : ob none f = none := rfl
theorem ob_some {α β : Type} (a : α) (f : α → Option β) : ob (some a) f = f a := rfl
theorem bif_true {α : Type} (x y : α) : bif' true x y = x := rfl
theorem bif_false {α : Type} (x y : α) : bif' false x y = y := rfl
theorem ob_eq {α β : Type} (x : Option α) (f : α → Option β) : ob x f = match x with | some a => f a | none => none := by cases x <;> rfl

noncomputable def vInt (v : AV) : (R : Type) → (IntKind → Int → R) → R → R :=
  @AV.rec (fun _ => (R : Type) → (IntKind → Int → R) → R → R) (fun _ => PUnit) (fun _ _R _ d => d) (fun k n _R f _ => f k n) (fun _ _R _ d => d) (fun _R _ d => d) (fun _ _ _R _ d => d) (fun _R _ d => d) (fun _ _ _ _ _ _R _ d => d) (fun _ _ _ _ _ _ _R _ d => d) (fun _ _ _ _R _ d => d) (fun _R _ d => d) (fun _ _R _ d => d) (fun _R _ d => d) (fun _ _ _ _ _ _R _ d => d) (fun _ _R _ d => d) (fun _R _ d => d) (fun _ _ _ _R _ d => d) (fun _ _ _R _ d => d) (fun _ _ _R _ d => d) (fun _ _R _ d => d) PUnit.unit (fun _ _ _ _ => PUnit.unit) v
theorem vInt_eq (v : AV) (R : Type) (f : IntKind → Int → R) (d : R) : vInt v R f d = match v with | .int k n => f k n | _ => d := by cases v <;> rfl
noncomputable def vPtr (v : AV) : (R : Type) → (Nat → Nat → R) → R → R :=
  @AV.rec (fun _ => (R : Type) → (Nat → Nat → R) → R → R) (fun _ => PUnit) (fun _ _R _ d => d) (fun _ _ _R _ d => d) (fun _ _R _ d => d) (fun _R _ d => d) (fun b off _R f _ => f b off) (fun _R _ d => d) (fun _ _ _ _ _ _R _ d => d) (fun _ _ _ _ _ _ _R _ d => d) (fun _ _ _ _R _ d => d) (fun _R _ d => d) (fun _ _R _ d => d) (fun _R _ d => d) (fun _ _ _ _ _ _R _ d => d) (fun _ _R _ d => d) (fun _R _ d => d) (fun _ _ _ _R _ d => d) (fun _ _ _R _ d => d) (fun _ _ _R _ d => d) (fun _ _R _ d => d) PUnit.unit (fun _ _ _ _ => PUnit.unit) v
theorem vPtr_eq (v : AV) (R : Type) (f : Nat → Nat → R) (d : R) : vPtr v R f d = match v with | .ptr b off => f b off | _ => d := by cases v <;> rfl
noncomputable def vBool (v : AV) : (R : Type) → (Bool → R) → R → R :=
  @AV.rec (fun _ => (R : Type) → (Bool → R) → R → R) (fun _ => PUnit) (fun b _R f _ => f b) (fun _ _ _R _ d => d) (fun _ _R _ d => d) (fun _R _ d => d) (fun _ _ _R _ d => d) (fun _R _ d => d) (fun _ _ _ _ _ _R _ d => d) (fun _ _ _ _ _ _ _R _ d => d) (fun _ _ _ _R _ d => d) (fun _R _ d => d) (fun _ _R _ d => d) (fun _R _ d => d) (fun _ _ _ _ _ _R _ d => d) (fun _ _R _ d => d) (fun _R _ d => d) (fun _ _ _ _R _ d => d) (fun _ _ _R _ d => d) (fun _ _ _R _ d => d) (fun _ _R _ d => d) PUnit.unit (fun _ _ _ _ => PUnit.unit) v
theorem vBool_eq (v : AV) (R : Type) (f : Bool → R) (d : R) : vBool v R f d = match v with | .bool b => f b | _ => d := by cases v <;> rfl
noncomputable def vTuple (v : AV) : (R : Type) → (List AV → R) → R → R :=
  @AV.rec (fun _ => (R : Type) → (List AV → R) → R → R) (fun _ => PUnit) (fun _ _R _ d => d) (fun _ _ _R _ d => d) (fun _ _R _ d => d) (fun _R _ d => d) (fun _ _ _R _ d => d) (fun _R _ d => d) (fun _ _ _ _ _ _R _ d => d) (fun _ _ _ _ _ _ _R _ d => d) (fun _ _ _ _R _ d => d) (fun _R _ d => d) (fun _ _R _ d => d) (fun _R _ d => d) (fun _ _ _ _ _ _R _ d => d) (fun _ _R _ d => d) (fun _R _ d => d) (fun _ _ _ _R _ d => d) (fun _ _ _R _ d => d) (fun vs _ _R f _ => f vs) (fun _ _R _ d => d) PUnit.unit (fun _ _ _ _ => PUnit.unit) v
theorem vTuple_eq (v : AV) (R : Type) (f : List AV → R) (d : R) : vTuple v R f d = match v with | .tuple vs => f vs | _ => d := by cases v <;> rfl
noncomputable def vAgg (v : AV) : (R : Type) → (List AV → R) → R → R :=
  @AV.rec (fun _ => (R : Type) → (List AV → R) → R → R) (fun _ => PUnit) (fun _ _R _ d => d) (fun _ _ _R _ d => d) (fun _ _R _ d => d) (fun _R _ d => d) (fun _ _ _R _ d => d) (fun _R _ d => d) (fun _ _ _ _ _ _R _ d => d) (fun _ _ _ _ _ _ _R _ d => d) (fun _ _ _ _R _ d => d) (fun _R _ d => d) (fun _ _R _ d => d) (fun _R _ d => d) (fun _ _ _ _ _ _R _ d => d) (fun _ _R _ d => d) (fun _R _ d => d) (fun _ _ _ _R _ d => d) (fun cs _ _R f _ => f cs) (fun _ _ _R _ d => d) (fun _ _R _ d => d) PUnit.unit (fun _ _ _ _ => PUnit.unit) v
theorem vAgg_eq (v : AV) (R : Type) (f : List AV → R) (d : R) : vAgg v R f d = match v with | .agg cs => f cs | _ => d := by cases v <;> rfl
noncomputable def scalarR (v : AV) : Bool := @AV.rec (fun _ => Bool) (fun _ => PUnit) (fun _ => true) (fun _ _ => true) (fun _ => true) true (fun _ _ => true) true (fun _ _ _ _ _ => true) (fun _ _ _ _ _ _ => true) (fun _ _ _ => true) true (fun _ => true) true (fun _ _ _ _ _ => true) (fun _ => true) true (fun _ _ _ => true) (fun _ _ => false) (fun _ _ => false) (fun _ => true) PUnit.unit (fun _ _ _ _ => PUnit.unit) v
theorem scalarR_eq (v : AV) : scalarR v = v.scalar := by cases v <;> rfl
noncomputable def vCells (v : AObj) : (R : Type) → (List AV → Option Nat → Bool → R) → R → R :=
  @AObj.rec (fun _ => (R : Type) → (List AV → Option Nat → Bool → R) → R → R) (fun cs tail fz _R f _ => f cs tail fz) (fun _ _ _R _ d => d) (fun _ _ _ _ _R _ d => d) (fun _ _ _R _ d => d) (fun _ _ _ _ _ _ _ _ _ _R _ d => d) (fun _ _R _ d => d) v
theorem vCells_eq (v : AObj) (R : Type) (f : List AV → Option Nat → Bool → R) (d : R) : vCells v R f d = match v with | .cells cs tail fz => f cs tail fz | _ => d := by cases v <;> rfl
noncomputable def vSlice (v : AV) : (R : Type) → (Nat → Nat → Nat → Nat → Option Nat → R) → R → R :=
  @AV.rec (fun _ => (R : Type) → (Nat → Nat → Nat → Nat → Option Nat → R) → R → R) (fun _ => PUnit) (fun _ _R _ d => d) (fun _ _ _R _ d => d) (fun _ _R _ d => d) (fun _R _ d => d) (fun _ _ _R _ d => d) (fun _R _ d => d) (fun b off offE len cap _R f _ => f b off offE len cap) (fun _ _ _ _ _ _ _R _ d => d) (fun _ _ _ _R _ d => d) (fun _R _ d => d) (fun _ _R _ d => d) (fun _R _ d => d) (fun _ _ _ _ _ _R _ d => d) (fun _ _R _ d => d) (fun _R _ d => d) (fun _ _ _ _R _ d => d) (fun _ _ _R _ d => d) (fun _ _ _R _ d => d) (fun _ _R _ d => d) PUnit.unit (fun _ _ _ _ => PUnit.unit) v
theorem vSlice_eq (v : AV) (R : Type) (f : Nat → Nat → Nat → Nat → Option Nat → R) (d : R) : vSlice v R f d = match v with | .slice b off offE len cap => f b off offE len cap | _ => d := by cases v <;> rfl

/-! Trees. -/
noncomputable def T.getR {α : Type} (t : T α) : Nat → Option α :=
  @T.rec α (fun _ => Nat → Option α) (fun _ => none)
    (fun v _ _ gl gr k => bif' (Nat.beq k 0) v (bif' (Nat.beq (Nat.mod k 2) 1) (gl (Nat.div k 2)) (gr (Nat.sub (Nat.div k 2) 1)))) t
theorem T.getR_eq {α : Type} : ∀ (t : T α) (k : Nat), t.getR k = t.get k
  | .e, _ => rfl
  | .n v l r, k => by
    have h1 : (T.n v l r).getR k = bif' (Nat.beq k 0) v (bif' (Nat.beq (Nat.mod k 2) 1) (l.getR (Nat.div k 2)) (r.getR (Nat.sub (Nat.div k 2) 1))) := rfl
    rw [h1, T.getR_eq l, T.getR_eq r]
    simp only [T.get]
    by_cases h0 : k = 0
    · subst h0; rfl
    · have : Nat.beq k 0 = false := by cases hb : Nat.beq k 0 with | false => rfl | true => exact absurd (Nat.eq_of_beq_eq_true hb) h0
      rw [this, if_neg h0]
      simp only [bif_false]
      have hm : Nat.mod k 2 = k % 2 := rfl
      have hd : Nat.div k 2 = k / 2 := rfl
      have hs : Nat.sub (k / 2) 1 = k / 2 - 1 := rfl
      rw [hm, hd, hs]
      by_cases h1 : k % 2 = 1
      · rw [if_pos h1, h1]; rfl
      · rw [if_neg h1]
        have : Nat.beq (k % 2) 1 = false := by cases hb : Nat.beq (k % 2) 1 with | false => rfl | true => exact absurd (Nat.eq_of_beq_eq_true hb) h1
        rw [this]; rfl

noncomputable def T.mkR {α : Type} (f : Nat) : Nat → Option α → T α :=
  @Nat.rec (fun _ => Nat → Option α → T α) (fun _ _ => .e)
    (fun _ ih k x => bif' (Nat.beq k 0) (.n x .e .e) (bif' (Nat.beq (Nat.mod k 2) 1) (.n none (ih (Nat.div k 2) x) .e) (.n none .e (ih (Nat.sub (Nat.div k 2) 1) x)))) f
noncomputable def T.putR {α : Type} (t : T α) : Nat → Option α → T α :=
  @T.rec α (fun _ => Nat → Option α → T α) (fun k x => T.mkR (Nat.succ k) k x)
    (fun v l r sl sr k x => bif' (Nat.beq k 0) (.n x l r) (bif' (Nat.beq (Nat.mod k 2) 1) (.n v (sl (Nat.div k 2) x) r) (.n v l (sr (Nat.sub (Nat.div k 2) 1) x)))) t
theorem beq_iff (k j : Nat) : Nat.beq k j = decide (k = j) := by
  by_cases h : k = j
  · subst h; simp
  · rw [decide_eq_false h]; cases hb : Nat.beq k j with | false => rfl | true => exact absurd (Nat.eq_of_beq_eq_true hb) h
theorem bif_dec {α : Type} (q : Prop) [Decidable q] (x y : α) : bif' (decide q) x y = if q then x else y := by by_cases h : q <;> simp [h, bif_true, bif_false]
theorem T.mkR_eq {α : Type} : ∀ (f k : Nat) (x : Option α), T.mkR f k x = T.setF f .e k x
  | 0, _, _ => rfl
  | f + 1, k, x => by
    have h1 : T.mkR (f + 1) k x = bif' (Nat.beq k 0) (.n x .e .e) (bif' (Nat.beq (Nat.mod k 2) 1) (.n none (T.mkR f (Nat.div k 2) x) .e) (.n none .e (T.mkR f (Nat.sub (Nat.div k 2) 1) x))) := rfl
    rw [h1, T.mkR_eq f, T.mkR_eq f, beq_iff, beq_iff, bif_dec, bif_dec]
    rfl
theorem T.setF_fuel {α : Type} : ∀ (f g : Nat) (t : T α) (k : Nat) (x : Option α), k < f → k < g → T.setF f t k x = T.setF g t k x
  | 0, _, _, _, _, h, _ => by omega
  | _, 0, _, _, _, _, h => by omega
  | f + 1, g + 1, t, k, x, h1, h2 => by
    cases t with
    | e =>
      simp only [T.setF]
      by_cases hk : k = 0
      · simp [hk]
      · simp only [hk, if_false]
        rw [T.setF_fuel f g .e (k / 2) x (by omega) (by omega), T.setF_fuel f g .e (k / 2 - 1) x (by omega) (by omega)]
    | n v l r =>
      simp only [T.setF]
      by_cases hk : k = 0
      · simp [hk]
      · simp only [hk, if_false]
        rw [T.setF_fuel f g l (k / 2) x (by omega) (by omega), T.setF_fuel f g r (k / 2 - 1) x (by omega) (by omega)]
theorem T.putR_eq {α : Type} : ∀ (t : T α) (k : Nat) (x : Option α), t.putR k x = t.put k x
  | .e, k, x => T.mkR_eq (k + 1) k x
  | .n v l r, k, x => by
    have h1 : (T.n v l r).putR k x = bif' (Nat.beq k 0) (.n x l r) (bif' (Nat.beq (Nat.mod k 2) 1) (.n v (l.putR (Nat.div k 2) x) r) (.n v l (r.putR (Nat.sub (Nat.div k 2) 1) x))) := rfl
    rw [h1, T.putR_eq l, T.putR_eq r, beq_iff, beq_iff, bif_dec, bif_dec]
    have e1 : (T.n v l r).put k x = if k = 0 then .n x l r else if k % 2 = 1 then .n v (T.setF k l (k / 2) x) r else .n v l (T.setF k r (k / 2 - 1) x) := by simp only [T.put, T.setF]
    have hm : Nat.mod k 2 = k % 2 := rfl
    have hd : Nat.div k 2 = k / 2 := rfl
    have hs : Nat.sub (k / 2) 1 = k / 2 - 1 := rfl
    rw [hm, hd, hs, e1]
    by_cases hk : k = 0
    · simp [hk]
    · simp only [hk, if_false, T.put]
      rw [T.setF_fuel (k / 2 + 1) k l (k / 2) x (by omega) (by omega), T.setF_fuel (k / 2 - 1 + 1) k r (k / 2 - 1) x (by omega) (by omega)]

/-! Lists. -/
noncomputable def nthR {α : Type} (l : List α) : Nat → Option α :=
  @List.rec α (fun _ => Nat → Option α) (fun _ => none) (fun a _ ih k => bif' (Nat.beq k 0) (some a) (ih (Nat.pred k))) l
theorem nthR_eq {α : Type} : ∀ (l : List α) (k : Nat), nthR l k = nth l k
  | [], _ => rfl
  | a :: l, 0 => rfl
  | a :: l, k + 1 => by
    have h : nthR (a :: l) (k + 1) = nthR l k := rfl
    rw [h, nthR_eq l]; rfl
noncomputable def opAt {α : Type} (ops : Array α) (i : Nat) : Option α := nthR ops.toList i
theorem opAt_eq {α : Type} (ops : Array α) (i : Nat) : opAt ops i = ops[i]? := by rw [opAt, nthR_eq, nth_eq]; simp

noncomputable def cutR {α : Type} (l : List α) : Nat → Nat → Option (List α) :=
  @List.rec α (fun _ => Nat → Nat → Option (List α)) (fun k n => cut [] k n)
    (fun a _ ih k n => bif' (Nat.beq k 0) (bif' (Nat.beq n 0) (some []) (ob (ih 0 (Nat.pred n)) fun r => some (a :: r))) (ih (Nat.pred k) n)) l
theorem cutR_eq {α : Type} : ∀ (l : List α) (k n : Nat), cutR l k n = cut l k n
  | [], k, n => rfl
  | a :: l, 0, 0 => by rw [show cutR (a :: l) 0 0 = some [] from rfl]; rfl
  | a :: l, 0, n + 1 => by
    rw [show cutR (a :: l) 0 (n + 1) = ob (cutR l 0 n) fun r => some (a :: r) from rfl, cutR_eq l]; simp only [cut]; cases cut l 0 n <;> rfl
  | a :: l, k + 1, n => by
    rw [show cutR (a :: l) (k + 1) n = cutR l k n from rfl, cutR_eq l]
    cases n <;> rfl
noncomputable def spliceR {α : Type} (l : List α) : Nat → List α → Option (List α) :=
  @List.rec α (fun _ => Nat → List α → Option (List α)) (fun k vs => splice [] k vs)
    (fun c cs ih k vs => @List.rec α (fun _ => Option (List α)) (bif' (Nat.beq k 0) (some (c :: cs)) (ob (ih (Nat.pred k) []) fun r => some (c :: r)))
      (fun v vs' _ => bif' (Nat.beq k 0) (ob (ih 0 vs') fun r => some (v :: r)) (ob (ih (Nat.pred k) (v :: vs')) fun r => some (c :: r))) vs) l
theorem spliceR_eq {α : Type} : ∀ (l : List α) (k : Nat) (vs : List α), spliceR l k vs = splice l k vs
  | [], k, vs => rfl
  | c :: cs, 0, [] => rfl
  | c :: cs, 0, v :: vs => by
    rw [show spliceR (c :: cs) 0 (v :: vs) = ob (spliceR cs 0 vs) fun r => some (v :: r) from rfl, spliceR_eq cs]; simp only [splice]; cases splice cs 0 vs <;> rfl
  | c :: cs, k + 1, [] => by
    rw [show spliceR (c :: cs) (k + 1) [] = ob (spliceR cs k []) fun r => some (c :: r) from rfl, spliceR_eq cs]; simp only [splice]; cases splice cs k [] <;> rfl
  | c :: cs, k + 1, v :: vs => by
    rw [show spliceR (c :: cs) (k + 1) (v :: vs) = ob (spliceR cs k (v :: vs)) fun r => some (c :: r) from rfl, spliceR_eq cs]; simp only [splice]; cases splice cs k (v :: vs) <;> rfl
noncomputable def optMapR {α β : Type} (f : α → Option β) (l : List α) : Option (List β) :=
  @List.rec α (fun _ => Option (List β)) (some []) (fun a _ ih => ob (f a) fun b => ob ih fun bs => some (b :: bs)) l
theorem optMapR_eq {α β : Type} (f : α → Option β) : ∀ (l : List α), optMapR f l = optMap f l
  | [] => rfl
  | a :: l => by
    rw [show optMapR f (a :: l) = ob (f a) (fun b => ob (optMapR f l) fun bs => some (b :: bs)) from rfl, optMapR_eq f l]
    simp only [optMap]
    cases f a with
    | none => rfl
    | some b => simp only [ob_some]; cases optMap f l <;> rfl

/-! Operands, numbers. -/
noncomputable def odef (x : Option AV) : AV := @Option.rec AV (fun _ => AV) undefA (fun v => v) x
theorem odef_eq (x : Option AV) : odef x = x.getD undefA := by cases x <;> rfl
noncomputable def evalR (tmps : T AV) (x : Operand) : Option AV :=
  @Operand.rec (fun _ => T AV → Option AV) (fun t tm => some (odef (T.getR tm t))) (fun v _ => ofConst v) (fun _ _ => none) (fun f _ => some (.fn (.func f) [] [])) x tmps
theorem evalR_eq (tmps : T AV) (x : Operand) : evalR tmps x = evalA tmps x := by
  cases x with
  | tmp t => show some (odef (T.getR tmps t)) = _; rw [odef_eq, T.getR_eq]; rfl
  | _ => rfl
theorem evalR_fun (tmps : T AV) : evalR tmps = evalA tmps := funext (evalR_eq tmps)

noncomputable def kIx (k : IntKind) : Nat := @IntKind.rec (fun _ => Nat) 0 1 2 3 4 5 6 7 k
noncomputable def kEq (a b : IntKind) : Bool := Nat.beq (kIx a) (kIx b)
theorem kEq_eq (a b : IntKind) : kEq a b = decide (a = b) := by cases a <;> cases b <;> rfl
noncomputable def topR (k : IntKind) : Nat := @IntKind.rec (fun _ => Nat) 127 32767 2147483647 9223372036854775807 255 65535 4294967295 18446744073709551615 k
theorem topR_eq (k : IntKind) : topR k = topOf k := by cases k <;> rfl
noncomputable def wrapR (k : IntKind) (n : Int) : Int := @Int.rec (fun _ => Int) (fun m => bif' (Nat.ble m (topR k)) (.ofNat m) (k.wrap (.ofNat m))) (fun m => k.wrap (.negSucc m)) n
theorem wrapR_eq (k : IntKind) (n : Int) : wrapR k n = wrapF k n := by
  cases n with
  | ofNat m => show bif' (Nat.ble m (topR k)) _ _ = _; rw [topR_eq]; simp only [wrapF]; cases Nat.ble m (topOf k) <;> rfl
  | negSucc m => rfl
noncomputable def addR (a b : Int) : Int := @Int.rec (fun _ => Int) (fun m => @Int.rec (fun _ => Int) (fun n => .ofNat (Nat.add m n)) (fun n => .ofNat m + .negSucc n) b) (fun m => .negSucc m + b) a
theorem addR_eq (a b : Int) : addR a b = addF a b := by cases a <;> cases b <;> rfl
noncomputable def subR (a b : Int) : Int := @Int.rec (fun _ => Int) (fun m => @Int.rec (fun _ => Int) (fun n => bif' (Nat.ble n m) (.ofNat (Nat.sub m n)) (.ofNat m - .ofNat n)) (fun n => .ofNat m - .negSucc n) b) (fun m => .negSucc m - b) a
theorem subR_eq (a b : Int) : subR a b = subF a b := by
  cases a with
  | ofNat m => cases b with
    | ofNat n => show bif' (Nat.ble n m) _ _ = _; simp only [subF]; cases Nat.ble n m <;> rfl
    | negSucc n => rfl
  | negSucc m => cases b <;> rfl
noncomputable def mulR (a b : Int) : Int := @Int.rec (fun _ => Int) (fun m => @Int.rec (fun _ => Int) (fun n => .ofNat (Nat.mul m n)) (fun n => .ofNat m * .negSucc n) b) (fun m => .negSucc m * b) a
theorem mulR_eq (a b : Int) : mulR a b = a * b := by cases a <;> cases b <;> rfl
noncomputable def cmpR (f : Nat → Nat → Bool) (s : Int → Int → Bool) (a b : Int) : Bool := @Int.rec (fun _ => Bool) (fun m => @Int.rec (fun _ => Bool) (fun n => f m n) (fun n => s (.ofNat m) (.negSucc n)) b) (fun m => s (.negSucc m) b) a
theorem cmpR_eqF (a b : Int) : cmpR Nat.beq eqF a b = eqF a b := by cases a <;> cases b <;> rfl
theorem cmpR_ltF (a b : Int) : cmpR Nat.blt ltF a b = ltF a b := by cases a <;> cases b <;> rfl
theorem cmpR_leF (a b : Int) : cmpR Nat.ble leF a b = leF a b := by cases a <;> cases b <;> rfl
noncomputable def bitR (g : Nat → Nat → Nat) (o : Bop) (k : IntKind) (a b : Int) : Int :=
  @Int.rec (fun _ => Int) (fun m => @Int.rec (fun _ => Int) (fun n => bif' (Nat.ble m (topR k)) (bif' (Nat.ble n (topR k)) (.ofNat (g m n)) (bitF o k (.ofNat m) (.ofNat n))) (bitF o k (.ofNat m) (.ofNat n))) (fun n => bitF o k (.ofNat m) (.negSucc n)) b) (fun m => bitF o k (.negSucc m) b) a
theorem bitR_eq (o : Bop) (k : IntKind) (a b : Int) : bitR o.nat o k a b = bitF o k a b := by
  cases a with
  | ofNat m => cases b with
    | ofNat n =>
      show bif' (Nat.ble m (topR k)) (bif' (Nat.ble n (topR k)) _ _) _ = _
      rw [topR_eq]
      cases h1 : Nat.ble m (topOf k) <;> cases h2 : Nat.ble n (topOf k) <;> simp only [bif_true, bif_false, bitF, h1, h2]
    | negSucc n => rfl
  | negSucc m => cases b <;> rfl
noncomputable def bitsR (k : IntKind) : Nat := @IntKind.rec (fun _ => Nat) 8 16 32 64 8 16 32 64 k
theorem bitsR_eq (k : IntKind) : bitsR k = k.bits := by cases k <;> rfl
noncomputable def minR (n m : Nat) : Nat := bif' (Nat.ble n m) n m
theorem minR_eq (n m : Nat) : minR n m = min n m := by
  unfold minR
  cases h : Nat.ble n m with
  | true => have := Nat.le_of_ble_eq_true h; simp only [bif_true]; omega
  | false => have : ¬ n ≤ m := fun h' => by rw [Nat.ble_eq_true_of_le h'] at h; cases h
             simp only [bif_false]; omega
noncomputable def shlR (k : IntKind) (a : Int) (n : Nat) : Int := @Int.rec (fun _ => Int) (fun m => wrapR k (.ofNat (Nat.mul m (Nat.pow 2 n)))) (fun m => k.wrap (.negSucc m * 2 ^ n)) a
theorem shlR_eq (k : IntKind) (a : Int) (n : Nat) : shlR k a n = shlF k a n := by
  cases a with
  | ofNat m => show wrapR k (.ofNat (Nat.mul m (Nat.pow 2 n))) = _; rw [wrapR_eq]; rfl
  | negSucc m => rfl
noncomputable def shrR (a : Int) (n : Nat) : Int := @Int.rec (fun _ => Int) (fun m => .ofNat (Nat.div m (Nat.pow 2 n))) (fun m => (Int.negSucc m).fdiv (2 ^ n)) a
theorem shrR_eq (a : Int) (n : Nat) : shrR a n = shrF a n := by cases a <;> rfl
noncomputable def shiftR (left : Bool) (k : IntKind) (a b : Int) : Option AV :=
  @Int.rec (fun _ => Option AV) (fun n => some (.int k (bif' left (shlR k a (minR n (bitsR k))) (shrR a (minR n (bitsR k)))))) (fun _ => none) b
theorem shiftR_eq (left : Bool) (k : IntKind) (a b : Int) : shiftR left k a b = shiftA left k a b := by
  cases b with
  | ofNat n =>
    show some (AV.int k (bif' left _ _)) = _
    rw [shlR_eq, shrR_eq, minR_eq, bitsR_eq]
    cases left <;> rfl
  | negSucc n => rfl

noncomputable def binIntR (op : BinOp) : IntKind → Int → IntKind → Int → Option AV :=
  @BinOp.rec (fun _ => IntKind → Int → IntKind → Int → Option AV) (fun k a k' b => bif' (kEq k k') (some (.int k (wrapR k (addR a b)))) none)
    (fun k a k' b => bif' (kEq k k') (some (.int k (wrapR k (subR a b)))) none)
    (fun k a k' b => bif' (kEq k k') (some (.int k (wrapR k (mulR a b)))) none)
    (fun k a k' b => bif' (kEq k k') (intA .quo k a b) none)
    (fun k a k' b => bif' (kEq k k') (intA .rem k a b) none)
    (fun k a k' b => bif' (kEq k k') (some (.int k (bitR Nat.land .and k a b))) none)
    (fun k a k' b => bif' (kEq k k') (some (.int k (bitR Nat.lor .or k a b))) none)
    (fun k a k' b => bif' (kEq k k') (some (.int k (bitR Nat.xor .xor k a b))) none)
    (fun k a _ b => shiftR true k a b)
    (fun k a _ b => shiftR false k a b)
    (fun k _ k' _ => bif' (kEq k k') (none) none)
    (fun k a k' b => bif' (kEq k k') (some (.bool (cmpR Nat.beq eqF a b))) none)
    (fun k a k' b => bif' (kEq k k') (some (.bool (not (cmpR Nat.beq eqF a b)))) none)
    (fun k a k' b => bif' (kEq k k') (some (.bool (cmpR Nat.blt ltF a b))) none)
    (fun k a k' b => bif' (kEq k k') (some (.bool (cmpR Nat.ble leF a b))) none)
    (fun k a k' b => bif' (kEq k k') (some (.bool (cmpR Nat.blt ltF b a))) none)
    (fun k a k' b => bif' (kEq k k') (some (.bool (cmpR Nat.ble leF b a))) none) op
theorem binIntR_eq (op : BinOp) (k : IntKind) (a : Int) (k' : IntKind) (b : Int) : binIntR op k a k' b = binInt op k a k' b := by
  cases op <;> first
    | exact shiftR_eq _ _ _ _
    | (show bif' (kEq k k') _ none = _
       rw [kEq_eq, bif_dec]
       simp only [binInt, intA]
       first
         | done
         | rfl
         | (rw [wrapR_eq, addR_eq]; done)
         | (rw [wrapR_eq, addR_eq])
         | (rw [wrapR_eq, subR_eq])
         | (rw [wrapR_eq, mulR_eq])
         | (rw [← bitR_eq]; rfl)
         | (rw [cmpR_eqF])
         | (rw [cmpR_ltF])
         | (rw [cmpR_leF]))

noncomputable def binR (P : Program) (h : H) (op : BinOp) (t : TypeId) (x y : AV) : Option AV :=
  vInt x (Option AV) (fun k a => vInt y (Option AV) (fun k' b => binIntR op k a k' b) (binA P h op t x y)) (binA P h op t x y)
theorem binR_eq (P : Program) (h : H) (op : BinOp) (t : TypeId) (x y : AV) : binR P h op t x y = binA P h op t x y := by
  unfold binR
  rw [vInt_eq]
  split
  · rw [vInt_eq]
    split
    · rw [binIntR_eq]; rfl
    · rfl
  · rfl

/-! Heaps. -/
noncomputable def hget (h : H) (b : Nat) : Option AObj := T.getR h.t b
theorem hget_eq (h : H) (b : Nat) : hget h b = h.get b := by obtain ⟨t, n, q⟩ := h; exact T.getR_eq t b
noncomputable def hput (h : H) (b : Nat) (o : AObj) : H := @H.rec (fun _ => Nat → AObj → H) (fun t n q b o => ⟨T.putR t b (some o), n, q⟩) h b o
theorem hput_eq (h : H) (b : Nat) (o : AObj) : hput h b o = h.put b o := by obtain ⟨t, n, q⟩ := h; show (⟨T.putR t b (some o), n, q⟩ : H) = _; rw [T.putR_eq]; rfl
noncomputable def hnew (h : H) (o : AObj) : H := @H.rec (fun _ => AObj → H) (fun t n q o => ⟨T.putR t n (some o), Nat.succ n, q⟩) h o
theorem hnew_eq (h : H) (o : AObj) : hnew h o = h.new o := by obtain ⟨t, n, q⟩ := h; show (⟨T.putR t n (some o), n + 1, q⟩ : H) = _; rw [T.putR_eq]; rfl
noncomputable def cellR (h : H) (b off : Nat) : Option AV := ob (hget h b) fun o => vCells o (Option AV) (fun cs _ _ => nthR cs off) none
theorem cellR_eq (h : H) (b off : Nat) : cellR h b off = cellA h b off := by
  unfold cellR cellA
  rw [hget_eq]
  cases h.get b with
  | none => rfl
  | some o => rw [ob_some, vCells_eq]; cases o <;> simp [nthR_eq]
noncomputable def loadNR (h : H) (b off n : Nat) : Option (List AV) := ob (hget h b) fun o => vCells o (Option (List AV)) (fun cs _ _ => cutR cs off n) none
theorem loadNR_eq (h : H) (b off n : Nat) : loadNR h b off n = loadN h b off n := by
  unfold loadNR loadN
  rw [hget_eq]
  cases h.get b with
  | none => rfl
  | some o => rw [ob_some, vCells_eq]; cases o <;> simp [cutR_eq]
noncomputable def allScalarR (vs : List AV) : Bool := @List.rec AV (fun _ => Bool) true (fun v _ ih => bif' (scalarR v) ih false) vs
theorem allScalarR_eq : ∀ (vs : List AV), allScalarR vs = vs.all AV.scalar
  | [] => rfl
  | v :: vs => by
    rw [show allScalarR (v :: vs) = bif' (scalarR v) (allScalarR vs) false from rfl, allScalarR_eq vs, scalarR_eq, List.all_cons]
    cases v.scalar <;> rfl
noncomputable def storeNR (h : H) (b off : Nat) (vs : List AV) : Option H :=
  ob (hget h b) fun o => vCells o (Option H) (fun cs tail fz => bif' (allScalarR vs) (ob (spliceR cs off vs) fun cs' => some (hput h b (.cells cs' tail fz))) none) none
theorem storeNR_eq (h : H) (b off : Nat) (vs : List AV) : storeNR h b off vs = storeN h b off vs := by
  unfold storeNR storeN
  rw [hget_eq]
  cases h.get b with
  | none => rfl
  | some o =>
    rw [ob_some, vCells_eq]
    cases o <;> simp only []
    rw [allScalarR_eq, spliceR_eq]
    simp only [hput_eq]
    rename_i cs tail fz
    cases vs.all AV.scalar with
    | false => rfl
    | true => simp only [bif_true]; cases splice cs off vs <;> rfl
noncomputable def cellsR (v : AV) : List AV := vAgg v (List AV) (fun cs => cs) [v]
theorem cellsR_eq (v : AV) : cellsR v = v.cells := by unfold cellsR; rw [vAgg_eq]; cases v <;> rfl
noncomputable def lenR {α : Type} (l : List α) : Nat := @List.rec α (fun _ => Nat) 0 (fun _ _ ih => Nat.succ ih) l
theorem lenR_eq {α : Type} : ∀ (l : List α), lenR l = l.length
  | [] => rfl
  | a :: l => by rw [show lenR (a :: l) = Nat.succ (lenR l) from rfl, lenR_eq l]; rfl

/-! Operations. -/
noncomputable def valR (h : H) (v : Option AV) : Option ANext := ob v fun v => some (.val v h)
noncomputable def loadR (P : Program) (h : H) (t : TypeId) (a : Option AV) : Option AV :=
  ob a fun v => vPtr v (Option AV) (fun b off => ob (isAggA P t) fun agg => bif' agg (ob (sizeA P t) fun s => ob (loadNR h b off s) fun cs => some (.agg cs)) (cellR h b off)) none
theorem loadR_eq (P : Program) (h : H) (t : TypeId) (a : Option AV) : loadR P h t a = loadA P h t a := by
  unfold loadR
  cases a with
  | none => rfl
  | some v =>
    rw [ob_some, vPtr_eq]
    cases v <;> try rfl
    simp only [loadA]
    cases isAggA P t with
    | none => rfl
    | some b =>
      cases b with
      | false => simp only [ob_some, bif_false]; exact cellR_eq _ _ _
      | true =>
        simp only [ob_some, bif_true]
        cases sizeA P t with
        | none => rfl
        | some s => simp only [ob_some, loadNR_eq]; cases loadN h _ _ s <;> rfl
noncomputable def storeR (P : Program) (h : H) (t : TypeId) (a x : Option AV) : Option H :=
  ob a fun v => vPtr v (Option H) (fun b off => ob x fun v => ob (sizeA P t) fun s => bif' (Nat.beq s (lenR (cellsR v))) (storeNR h b off (cellsR v)) none) none
theorem storeR_eq (P : Program) (h : H) (t : TypeId) (a x : Option AV) : storeR P h t a x = storeA P h t a x := by
  unfold storeR
  cases a with
  | none => rfl
  | some v =>
    rw [ob_some, vPtr_eq]
    cases v <;> try rfl
    simp only [storeA]
    cases x with
    | none => rfl
    | some v =>
      simp only [ob_some]
      cases sizeA P t with
      | none => rfl
      | some s =>
        simp only [ob_some, cellsR_eq, lenR_eq, storeNR_eq]
        cases Nat.beq s v.cells.length <;> rfl
/-- Where a field lies. -/
def fldOff (P : Program) (s : TypeId) (f : Nat) : Option Nat :=
  match P.underlying s with
  | some (.struct fs) => match fs[f]? with
    | some fd => match sizeA P fd.type with
      | some (_ + 1) => some fd.offset
      | _ => none
    | none => none
  | _ => none
noncomputable def fieldAddrR (P : Program) (s : TypeId) (x : Option AV) (f : Nat) : Option AV :=
  ob x fun v => vPtr v (Option AV) (fun b off => ob (fldOff P s f) fun d => some (.ptr b (Nat.add off d))) none
theorem fieldAddrR_eq (P : Program) (s : TypeId) (x : Option AV) (f : Nat) : fieldAddrR P s x f = fieldAddrA P s x f := by
  unfold fieldAddrR
  cases x with
  | none => rfl
  | some v =>
    rw [ob_some, vPtr_eq]
    cases v <;> try rfl
    simp only [fieldAddrA, fldOff]
    cases P.underlying s with
    | none => rfl
    | some d =>
      cases d <;> try rfl
      rename_i fs
      simp only []
      cases fs[f]? with
      | none => rfl
      | some fd =>
        simp only []
        cases sizeA P fd.type with
        | none => rfl
        | some n => cases n <;> rfl
/-- Which field, where it lies, its size (none: one cell). -/
def fldPart (P : Program) (t : TypeId) (f : Nat) : Option (Nat × Option Nat) :=
  match P.underlying t with
  | some (.struct fs) => match fs[f]? with
    | some fd => match isAggA P fd.type with
      | some true => match sizeA P fd.type with
        | some s => some (fd.offset, some s)
        | none => none
      | some false => some (fd.offset, none)
      | none => none
    | none => none
  | _ => none
noncomputable def fieldR (P : Program) (t : TypeId) (x : Option AV) (f : Nat) : Option AV :=
  ob x fun v => vAgg v (Option AV) (fun cs => ob (fldPart P t f) fun q => @Option.rec Nat (fun _ => Option AV) (nthR cs q.1) (fun s => ob (cutR cs q.1 s) fun r => some (.agg r)) q.2) none
theorem fieldR_eq (P : Program) (t : TypeId) (x : Option AV) (f : Nat) : fieldR P t x f = fieldA P t x f := by
  unfold fieldR
  cases x with
  | none => rfl
  | some v =>
    rw [ob_some, vAgg_eq]
    cases v <;> try rfl
    simp only [fieldA, fldPart, partA]
    cases P.underlying t with
    | none => rfl
    | some d =>
      cases d <;> try rfl
      rename_i fs
      simp only []
      cases fs[f]? with
      | none => rfl
      | some fd =>
        simp only []
        cases isAggA P fd.type with
        | none => rfl
        | some ag =>
          cases ag with
          | false => simp only [ob_some, nthR_eq]
          | true =>
            simp only []
            cases sizeA P fd.type with
            | none => rfl
            | some n => simp only [ob_some, cutR_eq]; cases cut _ fd.offset n <;> rfl
noncomputable def extractR (x : Option AV) (i : Nat) : Option AV := ob x fun v => vTuple v (Option AV) (fun vs => nthR vs i) none
theorem extractR_eq (x : Option AV) (i : Nat) : extractR x i = extractA x i := by
  unfold extractR extractA
  cases x with
  | none => rfl
  | some v => rw [ob_some, vTuple_eq]; cases v <;> simp [nthR_eq]
def elemSize (P : Program) (t : TypeId) : Option Nat :=
  match P.underlying t with
  | some (.slice elem) => sizeA P elem
  | _ => none
noncomputable def ixR (ix : Option AV) (len : Nat) : Option Nat := ob ix fun w => vInt w (Option Nat) (fun _ n => @Int.rec (fun _ => Option Nat) (fun i => bif' (Nat.blt i len) (some i) none) (fun _ => none) n) none
theorem ixR_eq (ix : Option AV) (len : Nat) : ixR ix len = ixA ix len := by
  unfold ixR
  cases ix with
  | none => rfl
  | some w =>
    rw [ob_some, vInt_eq]
    cases w <;> try rfl
    rename_i k n
    cases n with
    | negSucc n => rfl
    | ofNat n => show bif' (Nat.blt n len) _ _ = _; simp only [ixA]; cases Nat.blt n len <;> rfl
noncomputable def indexAddrR (P : Program) (q : List Fact) (t : TypeId) (x ix : Option AV) : Option AV :=
  ob x fun v => vSlice v (Option AV) (fun b off _ len _ => ob (elemSize P t) fun s => ob (ixR ix len) fun i => some (.ptr b (Nat.add off (Nat.mul i s)))) (indexAddrA P q t (some v) ix)
theorem indexAddrR_eq (P : Program) (q : List Fact) (t : TypeId) (x ix : Option AV) : indexAddrR P q t x ix = indexAddrA P q t x ix := by
  unfold indexAddrR
  cases x with
  | none => rfl
  | some v =>
    rw [ob_some, vSlice_eq]
    cases v <;> try rfl
    simp only [indexAddrA, elemSize, ixR_eq]
    cases P.underlying t with
    | none => rfl
    | some d =>
      cases d <;> try rfl
      rename_i elem
      simp only []
      cases sizeA P elem with
      | none => rfl
      | some s => simp only [ob_some]; cases ixA ix _ <;> rfl
noncomputable def pickR (ρ : Env) (c a b : Operand) : Option AV := ob (ρ c) fun v => vBool v (Option AV) (fun q => bif' q (ρ a) (ρ b)) none
theorem pickR_eq (ρ : Env) (c a b : Operand) : pickR ρ c a b = pickA ρ c a b := by
  unfold pickR pickA
  cases ρ c with
  | none => rfl
  | some v =>
    rw [ob_some, vBool_eq]
    cases v <;> try rfl
    rename_i q; cases q <;> rfl
def convInt (P : Program) (src dst : TypeId) : Option IntKind :=
  match P.underlying src, P.underlying dst with
  | some _, some (.int k) => some k
  | _, _ => none

noncomputable def callR (c : Call) (P : Program) (X : Ext) (h : H) (ρ : Env) : Option ANext :=
  @Callee.rec (fun _ => Call → Program → Ext → H → Env → Option ANext)
    (fun f c P X h ρ => ob (ρ f) fun f => ob (optMapR ρ c.args.toList) fun args => callA P X h f args)
    (fun _ _ c P X h ρ => opA P X h ρ (.call c)) (fun _ c P X h ρ => opA P X h ρ (.call c)) c.callee c P X h ρ
theorem callR_eq (c : Call) (P : Program) (X : Ext) (h : H) (ρ : Env) : callR c P X h ρ = opA P X h ρ (.call c) := by
  obtain ⟨callee, args, argTypes⟩ := c
  cases callee with
  | value f =>
    show (ob (ρ f) fun f => ob (optMapR ρ args.toList) fun args => callA P X h f args) = _
    simp only [opA, kindA, actA, call1A, optMapR_eq]
    cases ρ f with
    | none => rfl
    | some v => simp only [ob_some]; cases optMap ρ args.toList <;> rfl
  | invoke r m => rfl
  | builtin b => rfl
noncomputable def opR (op : Op) : Program → Ext → H → Env → Option ANext :=
  @Op.rec (fun _ => Program → Ext → H → Env → Option ANext)
    (fun x _ _ h ρ => valR h (ρ x))
    (fun x _ _ h ρ => valR h (ρ x))
    (fun c a b _ _ h ρ => valR h (pickR ρ c a b))
    (fun elem P X h ρ => opA P X h ρ (.alloc elem))
    (fun elem v P X h ρ => opA P X h ρ (.box elem v))
    (fun t parts P X h ρ => opA P X h ρ (.build t parts))
    (fun t len parts P X h ρ => opA P X h ρ (.buildSlice t len parts))
    (fun mt m key value P X h ρ => opA P X h ρ (.insert mt m key value))
    (fun t addr P _ h ρ => valR h (loadR P h t (ρ addr)))
    (fun t addr val P _ h ρ => ob (storeR P h t (ρ addr) (ρ val)) fun h => some (.skip h))
    (fun g P X h ρ => opA P X h ρ (.ready g))
    (fun g P X h ρ => opA P X h ρ (.waits g))
    (fun x P X h ρ => ob (ρ x) fun v => vPtr v (Option ANext) (fun b off => some (.val (.ptr b off) h)) (opA P X h ρ (.nilCheck x)))
    (fun op t x y _ P _ h ρ => ob (ρ x) fun a => ob (ρ y) fun b => valR h (binR P h op t a b))
    (fun op t x P X h ρ => opA P X h ρ (.unOp op t x))
    (fun src dst x P X h ρ => @Option.rec IntKind (fun _ => Option ANext) (opA P X h ρ (.convert src dst x)) (fun k => ob (ρ x) fun v => vInt v (Option ANext) (fun _ n => some (.val (.int k (wrapR k n)) h)) (opA P X h ρ (.convert src dst x))) (convInt P src dst))
    (fun dst x P X h ρ => opA P X h ρ (.sliceToArrayPointer dst x))
    (fun t x P X h ρ => opA P X h ρ (.makeInterface t x))
    (fun fn first captured P X h ρ => opA P X h ρ (.makeFunc fn first captured))
    (fun t reserve P X h ρ => opA P X h ρ (.makeMap t reserve))
    (fun t size P X h ρ => opA P X h ρ (.makeChan t size))
    (fun t len cap P X h ρ => opA P X h ρ (.makeSlice t len cap))
    (fun t x lo hi mx P X h ρ => opA P X h ρ (.slice t x lo hi mx))
    (fun t x f P _ h ρ => valR h (fieldAddrR P t (ρ x) f))
    (fun t x f P _ h ρ => valR h (fieldR P t (ρ x) f))
    (fun t x ix P _ h ρ => valR h (indexAddrR P h.facts t (ρ x) (ρ ix)))
    (fun t x ix P X h ρ => opA P X h ρ (.index t x ix))
    (fun t x ix ok P X h ρ => opA P X h ρ (.lookup t x ix ok))
    (fun t m k v P X h ρ => opA P X h ρ (.mapUpdate t m k v))
    (fun t m k P X h ρ => opA P X h ρ (.mapEntry t m k))
    (fun t m s v P X h ρ => opA P X h ρ (.entryStore t m s v))
    (fun t x P X h ρ => opA P X h ρ (.range t x))
    (fun it s P X h ρ => opA P X h ρ (.next it s))
    (fun it P X h ρ => opA P X h ρ (.entry it))
    (fun x t a ok P X h ρ => opA P X h ρ (.typeAssert x t a ok))
    (fun t i _ _ h ρ => valR h (extractR (ρ t) i))
    (fun c P X h ρ => callR c P X h ρ)
    (fun c P X h ρ => opA P X h ρ (.go c))
    (fun c P X h ρ => opA P X h ρ (.defer c))
    (fun x P X h ρ => opA P X h ρ (.panic x))
    (fun ch x P X h ρ => opA P X h ρ (.send ch x))
    (fun t ch ok P X h ρ => opA P X h ρ (.recv t ch ok))
    (fun cases bl P X h ρ => opA P X h ρ (.select cases bl)) op
theorem valR_eq (h : H) (v : Option AV) : valR h v = match v with | some v => some (.val v h) | none => none := by cases v <;> rfl
theorem opR_eq (op : Op) (P : Program) (X : Ext) (h : H) (ρ : Env) : opR op P X h ρ = opA P X h ρ op := by
  cases op with
  | move x => exact valR_eq _ _
  | assign x => exact valR_eq _ _
  | pick c a b => show valR h (pickR ρ c a b) = _; rw [pickR_eq]; exact valR_eq _ _
  | load t a => show valR h (loadR P h t (ρ a)) = _; rw [loadR_eq]; exact valR_eq _ _
  | store t a x => show (ob (storeR P h t (ρ a) (ρ x)) fun h => some (ANext.skip h)) = _; rw [storeR_eq]; simp only [opA, kindA, actA]; cases storeA P h t (ρ a) (ρ x) <;> rfl
  | nilCheck x =>
    show (ob (ρ x) fun v => vPtr v (Option ANext) (fun b off => some (.val (.ptr b off) h)) (opA P X h ρ (.nilCheck x))) = _
    simp only [opA, kindA, readA]
    cases ρ x with
    | none => rfl
    | some v => rw [ob_some, vPtr_eq]; cases v <;> rfl
  | binOp op t x y yt =>
    show (ob (ρ x) fun a => ob (ρ y) fun b => valR h (binR P h op t a b)) = _
    simp only [opA, kindA, readA, bin2A, binR_eq]
    cases ρ x with
    | none => rfl
    | some a =>
      simp only [ob_some]
      cases ρ y with
      | none => rfl
      | some b => exact valR_eq _ _
  | fieldAddr t x f => show valR h (fieldAddrR P t (ρ x) f) = _; rw [fieldAddrR_eq]; exact valR_eq _ _
  | field t x f => show valR h (fieldR P t (ρ x) f) = _; rw [fieldR_eq]; exact valR_eq _ _
  | indexAddr t x ix => show valR h (indexAddrR P h.facts t (ρ x) (ρ ix)) = _; rw [indexAddrR_eq]; exact valR_eq _ _
  | extract t i => show valR h (extractR (ρ t) i) = _; rw [extractR_eq]; exact valR_eq _ _
  | convert src dst x =>
    show @Option.rec IntKind (fun _ => Option ANext) (opA P X h ρ (.convert src dst x)) (fun k => ob (ρ x) fun v => vInt v (Option ANext) (fun _ n => some (.val (.int k (wrapR k n)) h)) (opA P X h ρ (.convert src dst x))) (convInt P src dst) = _
    cases hc : convInt P src dst with
    | none => rfl
    | some k =>
      simp only
      unfold convInt at hc
      split at hc
      case h_2 => cases hc
      rename_i d k' hs hd
      injection hc with hc; subst hc
      cases hx : ρ x with
      | none => simp only [ob_none, opA, kindA, hd, readA, conv1A, hx]
      | some v =>
        rw [ob_some, vInt_eq]
        cases v <;> try rfl
        rename_i k0 n
        simp only [opA, kindA, hd, readA, conv1A, hx, convA, hs, wrapR_eq]
        skip
        rw [wrapF_eq]
  | call c => exact callR_eq c P X h ρ
  | _ => rfl

noncomputable def actCallR (c : Call) (P : Program) (X : Ext) (h : H) (ρ : Env) : Option ANext :=
  @Callee.rec (fun _ => Call → Program → Ext → H → Env → Option ANext)
    (fun f c P X h ρ => ob (ρ f) fun f => ob (optMapR ρ c.args.toList) fun args => callA P X h f args)
    (fun _ _ c P X h ρ => actA P X h ρ (.call c)) (fun _ c P X h ρ => actA P X h ρ (.call c)) c.callee c P X h ρ
theorem actCallR_eq (c : Call) (P : Program) (X : Ext) (h : H) (ρ : Env) : actCallR c P X h ρ = actA P X h ρ (.call c) := by
  obtain ⟨callee, args, argTypes⟩ := c
  cases callee with
  | value f =>
    show (ob (ρ f) fun f => ob (optMapR ρ args.toList) fun args => callA P X h f args) = _
    simp only [actA, call1A, optMapR_eq]
    cases ρ f with
    | none => rfl
    | some v => simp only [ob_some]; cases optMap ρ args.toList <;> rfl
  | invoke r m => rfl
  | builtin b => rfl
noncomputable def actR (op : Op) : Program → Ext → H → Env → Option ANext :=
  @Op.rec (fun _ => Program → Ext → H → Env → Option ANext)
    (fun x P X h ρ => actA P X h ρ (.move x))
    (fun x P X h ρ => actA P X h ρ (.assign x))
    (fun c a b P X h ρ => actA P X h ρ (.pick c a b))
    (fun elem P X h ρ => actA P X h ρ (.alloc elem))
    (fun elem v P X h ρ => actA P X h ρ (.box elem v))
    (fun t parts P X h ρ => actA P X h ρ (.build t parts))
    (fun t len parts P X h ρ => actA P X h ρ (.buildSlice t len parts))
    (fun mt m key value P X h ρ => actA P X h ρ (.insert mt m key value))
    (fun t addr P X h ρ => actA P X h ρ (.load t addr))
    (fun t addr val P _ h ρ => ob (storeR P h t (ρ addr) (ρ val)) fun h => some (.skip h))
    (fun g P X h ρ => actA P X h ρ (.ready g))
    (fun g P X h ρ => actA P X h ρ (.waits g))
    (fun x P X h ρ => actA P X h ρ (.nilCheck x))
    (fun op t x y yt P X h ρ => actA P X h ρ (.binOp op t x y yt))
    (fun op t x P X h ρ => actA P X h ρ (.unOp op t x))
    (fun src dst x P X h ρ => actA P X h ρ (.convert src dst x))
    (fun dst x P X h ρ => actA P X h ρ (.sliceToArrayPointer dst x))
    (fun t x P X h ρ => actA P X h ρ (.makeInterface t x))
    (fun fn first captured P X h ρ => actA P X h ρ (.makeFunc fn first captured))
    (fun t reserve P X h ρ => actA P X h ρ (.makeMap t reserve))
    (fun t size P X h ρ => actA P X h ρ (.makeChan t size))
    (fun t len cap P X h ρ => actA P X h ρ (.makeSlice t len cap))
    (fun t x lo hi mx P X h ρ => actA P X h ρ (.slice t x lo hi mx))
    (fun t x f P X h ρ => actA P X h ρ (.fieldAddr t x f))
    (fun t x f P X h ρ => actA P X h ρ (.field t x f))
    (fun t x ix P X h ρ => actA P X h ρ (.indexAddr t x ix))
    (fun t x ix P X h ρ => actA P X h ρ (.index t x ix))
    (fun t x ix ok P X h ρ => actA P X h ρ (.lookup t x ix ok))
    (fun t m k v P X h ρ => actA P X h ρ (.mapUpdate t m k v))
    (fun t m k P X h ρ => actA P X h ρ (.mapEntry t m k))
    (fun t m s v P X h ρ => actA P X h ρ (.entryStore t m s v))
    (fun t x P X h ρ => actA P X h ρ (.range t x))
    (fun it s P X h ρ => actA P X h ρ (.next it s))
    (fun it P X h ρ => actA P X h ρ (.entry it))
    (fun x t a ok P X h ρ => actA P X h ρ (.typeAssert x t a ok))
    (fun t i P X h ρ => actA P X h ρ (.extract t i))
    (fun c P X h ρ => actCallR c P X h ρ)
    (fun c P X h ρ => actA P X h ρ (.go c))
    (fun c P X h ρ => actA P X h ρ (.defer c))
    (fun x P X h ρ => actA P X h ρ (.panic x))
    (fun ch x P X h ρ => actA P X h ρ (.send ch x))
    (fun t ch ok P X h ρ => actA P X h ρ (.recv t ch ok))
    (fun cases bl P X h ρ => actA P X h ρ (.select cases bl)) op
theorem actR_eq (op : Op) (P : Program) (X : Ext) (h : H) (ρ : Env) : actR op P X h ρ = actA P X h ρ op := by
  cases op with
  | store t a x => show (ob (storeR P h t (ρ a) (ρ x)) fun h => some (ANext.skip h)) = _; rw [storeR_eq]; simp only [actA]; cases storeA P h t (ρ a) (ρ x) <;> rfl
  | call c => exact actCallR_eq c P X h ρ
  | _ => rfl

/-! Frames. -/
noncomputable def putAR (n : Nat) (tmps : T AV) (dst : Option Tmp) (v : AV) : Option (T AV) :=
  @Option.rec Tmp (fun _ => Option (T AV)) (some tmps) (fun d => bif' (Nat.blt d n) (some (T.putR tmps d (some v))) none) dst
theorem putAR_eq (n : Nat) (tmps : T AV) (dst : Option Tmp) (v : AV) : putAR n tmps dst v = putA n tmps dst v := by
  cases dst with
  | none => rfl
  | some d => show bif' (Nat.blt d n) _ _ = _; rw [T.putR_eq]; simp only [putA]; cases Nat.blt d n <;> rfl

noncomputable def finishItemR (it : AItem) : List AItem → AV → FuncId → Nat → T AV → List ADef → Bool → CallKind → Option Nat → Option AFrame :=
  @AItem.rec (fun _ => List AItem → AV → FuncId → Nat → T AV → List ADef → Bool → CallKind → Option Nat → Option AFrame)
    (fun c k v fn n tmps defers ret kind round => finishA v ⟨fn, n, tmps, .code c :: k, defers, ret, kind, round⟩)
    (fun id k v fn n tmps defers ret kind round => finishA v ⟨fn, n, tmps, .inBlock id :: k, defers, ret, kind, round⟩)
    (fun body k v fn n tmps defers ret kind round => finishA v ⟨fn, n, tmps, .inLoop body :: k, defers, ret, kind, round⟩)
    (fun body k v fn n tmps defers ret kind round => finishA v ⟨fn, n, tmps, .inScope body :: k, defers, ret, kind, round⟩)
    (fun ops l k v fn n tmps defers ret kind round => @List.rec Nat (fun _ => Option AFrame) none (fun i rest _ => ob (opAt ops i) fun o => ob (putAR n tmps o.dst v) fun t => some ⟨fn, n, t, .inRegion ops rest :: k, defers, ret, kind, round⟩) l)
    (fun ops chain done k v fn n tmps defers ret kind round => finishA v ⟨fn, n, tmps, .batch ops chain done :: k, defers, ret, kind, round⟩)
    (fun ops chain done k v fn n tmps defers ret kind round => finishA v ⟨fn, n, tmps, .inDrawn ops chain done :: k, defers, ret, kind, round⟩)
    (fun loop k v fn n tmps defers ret kind round => finishA v ⟨fn, n, tmps, .inRangeFunc loop :: k, defers, ret, kind, round⟩)
    (fun loop k v fn n tmps defers ret kind round => finishA v ⟨fn, n, tmps, .endRangeFunc loop :: k, defers, ret, kind, round⟩)
    (fun  k v fn n tmps defers ret kind round => finishA v ⟨fn, n, tmps, .beginRound  :: k, defers, ret, kind, round⟩) it
noncomputable def finishR (v : AV) (fr : AFrame) : Option AFrame :=
  @AFrame.rec (fun _ => AV → Option AFrame) (fun fn n tmps todo defers ret kind round v => @List.rec AItem (fun _ => Option AFrame) none (fun it k _ => finishItemR it k v fn n tmps defers ret kind round) todo) fr v
theorem finishR_eq (v : AV) (fr : AFrame) : finishR v fr = finishA v fr := by
  obtain ⟨fn, n, tmps, todo, defers, ret, kind, round⟩ := fr
  cases todo with
  | nil => rfl
  | cons it k =>
    show finishItemR it k v fn n tmps defers ret kind round = _
    cases it <;> try rfl
    rename_i ops l
    cases l with
    | nil => rfl
    | cons i rest =>
      show (ob (opAt ops i) fun o => ob (putAR n tmps o.dst v) fun t => some (AFrame.mk fn n t (.inRegion ops rest :: k) defers ret kind round)) = _
      simp only [finishA, opAt_eq, putAR_eq]
      cases ops[i]? with
      | none => rfl
      | some o => simp only [ob_some]; cases putA n tmps o.dst v <;> rfl
noncomputable def oneR (fr : Option AFrame) (fs : List AFrame) (h : H) : Option Cfg := ob fr fun fr => some ⟨fr :: fs, h⟩
theorem oneR_eq (fr : Option AFrame) (fs : List AFrame) (h : H) : oneR fr fs h = one fr fs h := by cases fr <;> rfl
noncomputable def toR (fr : AFrame) (fs : List AFrame) (h : H) (todo : List AItem) : Option Cfg :=
  @AFrame.rec (fun _ => List AFrame → H → List AItem → Option Cfg) (fun fn n tmps _ defers ret kind round fs h todo => some ⟨⟨fn, n, tmps, todo, defers, ret, kind, round⟩ :: fs, h⟩) fr fs h todo
theorem toR_eq (fr : AFrame) (fs : List AFrame) (h : H) (todo : List AItem) : toR fr fs h todo = to fr fs h todo := by cases fr; rfl

noncomputable def afterR (nx : ANext) : Program → Mem → AFrame → List AFrame → Option Cfg :=
  @ANext.rec (fun _ => Program → Mem → AFrame → List AFrame → Option Cfg)
    (fun v h _ _ fr fs => oneR (finishR v fr) fs h) (fun h _ _ fr fs => oneR (finishR undefA fr) fs h) (fun f args h P mem fr fs => afterM P mem fr fs (.enter f args h))
    (fun g h P mem fr fs => afterM P mem fr fs (.round g h)) (fun d h P mem fr fs => afterM P mem fr fs (.defer d h)) nx
theorem afterR_eq (nx : ANext) (P : Program) (mem : Mem) (fr : AFrame) (fs : List AFrame) : afterR nx P mem fr fs = afterM P mem fr fs nx := by
  cases nx with
  | val v h => show oneR (finishR v fr) fs h = _; rw [oneR_eq, finishR_eq]; rfl
  | skip h => show oneR (finishR undefA fr) fs h = _; rw [oneR_eq, finishR_eq]; rfl
  | _ => rfl
noncomputable def runOpR (P : Program) (X : Ext) (mem : Mem) (fr : AFrame) (fs : List AFrame) (h : H) (ops : Array Oper) (i : Nat) (drawn : Bool) : Option Cfg :=
  ob (opAt ops i) fun o => @Option.rec (Nat × Bool) (fun _ => Option Cfg)
    (ob (bif' drawn (actR o.op P X h (evalR fr.tmps)) (opR o.op P X h (evalR fr.tmps))) fun nx => afterR nx P mem fr fs)
    (fun _ => runOpM P X mem fr fs h ops i drawn) o.guard
theorem runOpR_eq (P : Program) (X : Ext) (mem : Mem) (fr : AFrame) (fs : List AFrame) (h : H) (ops : Array Oper) (i : Nat) (drawn : Bool) : runOpR P X mem fr fs h ops i drawn = runOpM P X mem fr fs h ops i drawn := by
  unfold runOpR
  rw [opAt_eq]
  cases ho : ops[i]? with
  | none => simp only [ob_none, runOpM, ho]
  | some o =>
    rw [ob_some]
    cases hg : o.guard with
    | some g => rfl
    | none =>
      simp only [runOpM, ho, wantedA, hg, evalR_fun, actR_eq, opR_eq, afterR_eq]
      cases drawn with
      | true => simp only [bif_true]; cases actA P X h (evalA fr.tmps) o.op <;> rfl
      | false => simp only [bif_false]; cases opA P X h (evalA fr.tmps) o.op <;> rfl
/-! Code. -/
noncomputable def exitItemR (it : AItem) : Nat → List AItem → Option (List AItem) → Option (List AItem) :=
  @AItem.rec (fun _ => Nat → List AItem → Option (List AItem) → Option (List AItem)) (fun _ _ _ ih => ih) (fun id' id k ih => bif' (Nat.beq id' id) (some k) ih) (fun _ _ _ ih => ih) (fun _ _ _ ih => ih) (fun _ _ _ _ ih => ih) (fun _ _ _ _ _ ih => ih) (fun _ _ _ _ _ ih => ih) (fun _ _ _ ih => ih) (fun _ _ _ ih => ih) (fun _ _ ih => ih) it
noncomputable def exitR (id : Nat) (k : List AItem) : Option (List AItem) := @List.rec AItem (fun _ => Option (List AItem)) none (fun it k ih => exitItemR it id k ih) k
theorem exitR_eq (id : Nat) : ∀ (k : List AItem), exitR id k = exitToA id k
  | [] => rfl
  | it :: k => by
    show exitItemR it id k (exitR id k) = _
    rw [exitR_eq id k]
    cases it <;> try rfl
    rename_i id'
    show bif' (Nat.beq id' id) _ _ = _
    simp only [exitToA]
    cases Nat.beq id' id <;> rfl

noncomputable def codeR (c : Code) : Program → Ext → AFrame → List AFrame → H → List AItem → Option Cfg :=
  @Code.rec (fun _ => Program → Ext → AFrame → List AFrame → H → List AItem → Option Cfg)
    (fun  _ _ fr fs h k => toR fr fs h k)
    (fun id ops draw P X fr fs h k => bif' draw (codeA P X fr fs h k (.region id ops true)) (toR fr fs h (.inRegion ops (List.range ops.size) :: k)))
    (fun a b _ _ _ _ fr fs h k => toR fr fs h (.code a :: .code b :: k))
    (fun c a b _ _ _ _ fr fs h k => ob (evalR fr.tmps c) fun v => vBool v (Option Cfg) (fun q => bif' q (toR fr fs h (.code a :: k)) (toR fr fs h (.code b :: k))) none)
    (fun id body _ _ _ fr fs h k => toR fr fs h (.code body :: .inBlock id :: k))
    (fun body _ _ _ fr fs h k => toR fr fs h (.code body :: .inLoop body :: k))
    (fun f params assign body _ _ P X fr fs h k => codeA P X fr fs h k (.rangeFunc f params assign body))
    (fun id _ _ fr fs h k => @Option.rec (List AItem) (fun _ => Option Cfg) (leaveA (some (.exit id)) fr fs h) (fun k' => toR fr fs h k') (exitR id k))
    (fun body _ _ _ fr fs h k => toR fr fs h (.code body :: .inScope body :: k))
    (fun _ _ _ fr fs h k => toR fr fs h k)
    (fun l P X fr fs h k => codeA P X fr fs h k (.goto l))
    (fun  P X fr fs h k => codeA P X fr fs h k (.ret ))
    (fun why P X fr fs h k => codeA P X fr fs h k (.refuse why)) c
theorem codeR_eq (c : Code) (P : Program) (X : Ext) (fr : AFrame) (fs : List AFrame) (h : H) (k : List AItem) : codeR c P X fr fs h k = codeA P X fr fs h k c := by
  cases c with
  | skip => exact toR_eq _ _ _ _
  | label l => exact toR_eq _ _ _ _
  | seq a b => exact toR_eq _ _ _ _
  | block id b => exact toR_eq _ _ _ _
  | loop b => exact toR_eq _ _ _ _
  | scope b => exact toR_eq _ _ _ _
  | region id ops draw =>
    show bif' draw (codeA P X fr fs h k (.region id ops true)) (toR fr fs h (.inRegion ops (List.range ops.size) :: k)) = _
    cases draw with
    | true => rfl
    | false => exact toR_eq _ _ _ _
  | cond c a b =>
    show (ob (evalR fr.tmps c) fun v => vBool v (Option Cfg) (fun q => bif' q (toR fr fs h (.code a :: k)) (toR fr fs h (.code b :: k))) none) = _
    simp only [codeA, condA, evalR_eq, toR_eq]
    cases evalA fr.tmps c with
    | none => rfl
    | some v =>
      rw [ob_some, vBool_eq]
      cases v <;> try rfl
      rename_i q; cases q <;> rfl
  | exit id =>
    show @Option.rec (List AItem) (fun _ => Option Cfg) (leaveA (some (.exit id)) fr fs h) (fun k' => toR fr fs h k') (exitR id k) = _
    simp only [codeA, exitR_eq, toR_eq]
    cases exitToA id k <;> rfl
  | _ => rfl

noncomputable def itemR (it : AItem) : Program → Ext → Mem → AFrame → List AFrame → H → List AItem → Option Cfg :=
  @AItem.rec (fun _ => Program → Ext → Mem → AFrame → List AFrame → H → List AItem → Option Cfg)
    (fun c P X _ fr fs h k => codeR c P X fr fs h k)
    (fun _ _ _ _ fr fs h k => toR fr fs h k)
    (fun body _ _ _ fr fs h k => toR fr fs h (.code body :: .inLoop body :: k))
    (fun _ _ _ _ fr fs h k => toR fr fs h k)
    (fun ops l P X mem fr fs h k => @List.rec Nat (fun _ => Option Cfg) (toR fr fs h k) (fun i _ _ => runOpR P X mem fr fs h ops i false) l)
    (fun ops chain done P X _ fr fs h k => itemA P X fr fs h k (.batch ops chain done))
    (fun ops chain done P X mem fr fs h k => @List.rec Nat (fun _ => Option Cfg) (itemA P X fr fs h k (.inDrawn ops [] done)) (fun i _ _ => runOpR P X mem fr fs h ops i true) chain)
    (fun loop P X _ fr fs h k => itemA P X fr fs h k (.inRangeFunc loop))
    (fun loop P X _ fr fs h k => itemA P X fr fs h k (.endRangeFunc loop))
    (fun  P X _ fr fs h k => itemA P X fr fs h k (.beginRound )) it
noncomputable def frameR (P : Program) (X : Ext) (mem : Mem) (fs : List AFrame) (h : H) (fr : AFrame) : Option Cfg :=
  bif' fr.ret (retA P X fr fs h) (@List.rec AItem (fun _ => Option Cfg) (leaveA none fr fs h) (fun it k _ => itemR it P X mem fr fs h k) fr.todo)
theorem frameR_eq (P : Program) (X : Ext) (mem : Mem) (fs : List AFrame) (h : H) (fr : AFrame) : frameR P X mem fs h fr = frameM P X mem fs h fr := by
  unfold frameR frameM
  cases fr.ret with
  | true => rfl
  | false =>
    simp only [bif_false]
    cases fr.todo with
    | nil => rfl
    | cons it k =>
      show itemR it P X mem fr fs h k = _
      cases it with
      | code c => exact codeR_eq c P X fr fs h k
      | inBlock => exact toR_eq _ _ _ _
      | inScope => exact toR_eq _ _ _ _
      | inLoop => exact toR_eq _ _ _ _
      | inRegion ops l =>
        cases l with
        | nil => exact toR_eq _ _ _ _
        | cons i r => exact runOpR_eq _ _ _ _ _ _ _ _ _
      | inDrawn ops c d =>
        cases c with
        | nil => rfl
        | cons i r => exact runOpR_eq _ _ _ _ _ _ _ _ _
      | _ => rfl
noncomputable def stepR (P : Program) (X : Ext) (mem : Mem) (c : Cfg) : Option Cfg :=
  @Cfg.rec (fun _ => Option Cfg) (fun frames h => @List.rec AFrame (fun _ => Option Cfg) none (fun fr fs _ => frameR P X mem fs h fr) frames) c
theorem stepR_eq (P : Program) (X : Ext) (mem : Mem) (c : Cfg) : stepR P X mem c = stepM P X mem c := by
  obtain ⟨frames, h⟩ := c
  cases frames with
  | nil => rfl
  | cons fr fs => exact frameR_eq P X mem fs h fr
noncomputable def stepsR (P : Program) (X : Ext) (mem : Mem) (n : Nat) : Cfg → Option Cfg :=
  @Nat.rec (fun _ => Cfg → Option Cfg) (fun c => some c) (fun _ ih c => ob (stepR P X mem c) ih) n
theorem stepsR_eq (P : Program) (X : Ext) (mem : Mem) : ∀ (n : Nat) (c : Cfg), stepsR P X mem n c = stepsM P X mem n c
  | 0, c => rfl
  | n + 1, c => by
    show ob (stepR P X mem c) (stepsR P X mem n) = _
    rw [stepR_eq]
    simp only [stepsM]
    cases stepM P X mem c with
    | none => rfl
    | some c' => exact stepsR_eq P X mem n c'
noncomputable def segR (P : Program) (X : Ext) (mem : Mem) (n : Nat) (ks : List Nat) (c : Cfg) : Option Cfg := ob (stepsR P X mem n c) fun c' => some (keepC ks c')
theorem segR_eq (P : Program) (X : Ext) (mem : Mem) (n : Nat) (ks : List Nat) (c : Cfg) : segR P X mem n ks c = segM P X mem n ks c := by
  unfold segR segM
  rw [stepsR_eq]
  cases stepsM P X mem n c <;> rfl
end Go.AM
