/- Arithmetic, comparisons. Nothing is assumed. -/
import Derived.Test.YtdllplhkcllgfaaGreatAmG
import Derived.Laws.Strings
namespace Go.AM

variable {B : Nat → Prop} {w0 : World} {M : Mp} {h : H} {w : World} {P : Program}

theorem wrap_small (k : IntKind) (m : Nat) (hm : m ≤ topOf k) : k.wrap (m : Int) = m := by
  cases k <;> simp only [topOf] at hm <;> simp only [IntKind.wrap, IntKind.bits, IntKind.signed] <;> simp <;> omega

theorem wrapF_eq (k : IntKind) (n : Int) : wrapF k n = k.wrap n := by
  cases n with
  | ofNat m =>
    simp only [wrapF]
    split
    · rename_i hb; exact (wrap_small k m (by simpa using hb)).symm
    · rfl
  | negSucc m => rfl

theorem addF_eq (a b : Int) : addF a b = a + b := by cases a <;> cases b <;> rfl
theorem subF_eq (a b : Int) : subF a b = a - b := by
  cases a <;> cases b <;> simp only [subF]
  rename_i m n
  split
  · rename_i hb
    have : n ≤ m := by simpa using hb
    show ((m - n : Nat) : Int) = (m : Int) - (n : Int)
    omega
  · rfl
theorem leF_eq (a b : Int) : leF a b = decide (a ≤ b) := by
  cases a <;> cases b <;> simp only [leF]
  rename_i m n
  rw [Bool.eq_iff_iff]; simp

def expOf : IntKind → Nat
  | .i8 => 7 | .i16 => 15 | .i32 => 31 | .i64 => 63 | .u8 => 8 | .u16 => 16 | .u32 => 32 | .u64 => 64
theorem top_lt (k : IntKind) (m : Nat) : m ≤ topOf k ↔ m < 2 ^ expOf k := by cases k <;> simp [topOf, expOf] <;> omega
theorem exp_le (k : IntKind) : expOf k ≤ k.bits := by cases k <;> simp [expOf, IntKind.bits]

theorem bitF_eq (o : Bop) (k : IntKind) (a b : Int) : bitF o k a b = o.slow k a b := by
  cases a <;> cases b <;> simp only [bitF]
  rename_i m n
  split
  · rename_i hm hn
    have hm' : m ≤ topOf k := by simpa using hm
    have hn' : n ≤ topOf k := by simpa using hn
    have hm2 := (top_lt k m).1 hm'
    have hn2 := (top_lt k n).1 hn'
    have hle : 2 ^ expOf k ≤ 2 ^ k.bits := Nat.pow_le_pow_right (by omega) (exp_le k)
    have e1 : (BitVec.ofInt k.bits (Int.ofNat m)).toNat = m := by
      rw [show (Int.ofNat m) = ((m : Nat) : Int) from rfl, BitVec.ofInt_natCast, BitVec.toNat_ofNat, Nat.mod_eq_of_lt (by omega)]
    have e2 : (BitVec.ofInt k.bits (Int.ofNat n)).toNat = n := by
      rw [show (Int.ofNat n) = ((n : Nat) : Int) from rfl, BitVec.ofInt_natCast, BitVec.toNat_ofNat, Nat.mod_eq_of_lt (by omega)]
    cases o with
    | and =>
      show Int.ofNat (m &&& n) = k.wrap ((BitVec.ofInt k.bits (Int.ofNat m) &&& BitVec.ofInt k.bits (Int.ofNat n)).toNat : Int)
      rw [BitVec.toNat_and, e1, e2, wrap_small k _ ((top_lt k _).2 (Nat.lt_of_le_of_lt Nat.and_le_left hm2))]; rfl
    | or =>
      show Int.ofNat (m ||| n) = k.wrap ((BitVec.ofInt k.bits (Int.ofNat m) ||| BitVec.ofInt k.bits (Int.ofNat n)).toNat : Int)
      rw [BitVec.toNat_or, e1, e2, wrap_small k _ ((top_lt k _).2 (Nat.or_lt_two_pow hm2 hn2))]; rfl
    | xor =>
      show Int.ofNat (m ^^^ n) = k.wrap ((BitVec.ofInt k.bits (Int.ofNat m) ^^^ BitVec.ofInt k.bits (Int.ofNat n)).toNat : Int)
      rw [BitVec.toNat_xor, e1, e2, wrap_small k _ ((top_lt k _).2 (Nat.xor_lt_two_pow hm2 hn2))]; rfl
  · rfl

theorem shlF_eq (k : IntKind) (a : Int) (n : Nat) : shlF k a n = k.wrap (a * 2 ^ n) := by
  cases a with
  | ofNat m =>
    simp only [shlF, wrapF_eq]
    congr 1
  | negSucc m => rfl
theorem shrF_eq (a : Int) (n : Nat) : shrF a n = a.fdiv (2 ^ n) := by
  cases a with
  | ofNat m =>
    simp only [shrF]
    show ((m / 2 ^ n : Nat) : Int) = (m : Int).fdiv (2 ^ n)
    rw [Int.fdiv_eq_ediv_of_nonneg _ (Int.pow_nonneg (by omega))]; rfl
  | negSucc m => rfl

theorem shift_run {left : Bool} {k yk : IntKind} {a b : Int} {v : AV} (e : shiftA left k a b = some v) :
    ∃ x, v.tr M = some x ∧ (Op.shift (if left then .shl else .shr) k a yk b).run P w = .ok x w := by
  unfold shiftA at e
  split at e
  · rename_i n
    injection e with e; subst e
    refine ⟨_, by simp [AV.tr]; rfl, ?_⟩
    have : ¬ ((n : Int) < 0) := by omega
    cases left
    · simp [Op.shift, shrF_eq, this]
    · simp [Op.shift, shlF_eq, this]
  · cases e

theorem int_run {op : BinOp} {k : IntKind} {a b : Int} {v : AV} (ho : op ≠ .shl ∧ op ≠ .shr) (t : TypeId) (e : intA op k a b = some v) :
    ∃ x, v.tr M = some x ∧ (binOp op t (.int k a) (.int k b)).run P w = .ok x w := by
  cases op <;> simp only [intA] at e
  case add => injection e with e; subst e; exact ⟨_, rfl, by simp [binOp, Op.intArith, wrapF_eq, addF_eq]⟩
  case sub => injection e with e; subst e; exact ⟨_, rfl, by simp [binOp, Op.intArith, wrapF_eq, subF_eq]⟩
  case mul => injection e with e; subst e; exact ⟨_, rfl, by simp [binOp, Op.intArith, wrapF_eq]⟩
  case quo =>
    rw [eqF_eq] at e
    split at e
    · cases e
    · rename_i hb; injection e with e; subst e
      have hb' : b ≠ 0 := by simpa using hb
      exact ⟨_, rfl, by simp [binOp, Op.intDiv, hb']⟩
  case rem =>
    rw [eqF_eq] at e
    split at e
    · cases e
    · rename_i hb; injection e with e; subst e
      have hb' : b ≠ 0 := by simpa using hb
      exact ⟨_, rfl, by simp [binOp, Op.intDiv, hb']⟩
  case and => injection e with e; subst e; exact ⟨_, rfl, by simp [binOp, Op.intBits, bitF_eq, Bop.slow, Bop.bv]⟩
  case or => injection e with e; subst e; exact ⟨_, rfl, by simp [binOp, Op.intBits, bitF_eq, Bop.slow, Bop.bv]⟩
  case xor => injection e with e; subst e; exact ⟨_, rfl, by simp [binOp, Op.intBits, bitF_eq, Bop.slow, Bop.bv]⟩
  case eql => injection e with e; subst e; exact ⟨_, rfl, by simp [binOp, Op.intCmp, eqF_eq]⟩
  case neq => injection e with e; subst e; exact ⟨_, rfl, by simp [binOp, Op.intCmp, eqF_eq]; rfl⟩
  case lss => injection e with e; subst e; exact ⟨_, rfl, by simp [binOp, Op.intCmp, ltF_eq]⟩
  case leq => injection e with e; subst e; exact ⟨_, rfl, by simp [binOp, Op.intCmp, leF_eq]⟩
  case gtr => injection e with e; subst e; exact ⟨_, rfl, by simp [binOp, Op.intCmp, ltF_eq]⟩
  case geq => injection e with e; subst e; exact ⟨_, rfl, by simp [binOp, Op.intCmp, leF_eq]⟩
  all_goals cases e

theorem str_run {op : BinOp} {a b : List UInt8} {v : AV} (t : TypeId) (e : strA op a b = some v) :
    ∃ x, v.tr M = some x ∧ (binOp op t (.string ⟨a.toArray⟩) (.string ⟨b.toArray⟩)).run P w = .ok x w := by
  cases op <;> simp only [strA] at e
  case add =>
    split at e
    · cases e
    · rename_i hlen
      injection e with e; subst e
      refine ⟨_, rfl, ?_⟩
      have : ¬ ((((⟨a.toArray⟩ : ByteArray).size + (⟨b.toArray⟩ : ByteArray).size : Nat) : Int) > IntKind.i64.max) := by simpa [ByteArray.size] using hlen
      have e2 : (⟨a.toArray⟩ : ByteArray) ++ ⟨b.toArray⟩ = ⟨(a ++ b).toArray⟩ := by
        apply ByteArray.ext; simp
      simp only [binOp, Op.stringOp, if_neg this, e2, Sem.run_pure]
  case eql => injection e with e; subst e; exact ⟨_, rfl, by simp [binOp, Op.stringOp]⟩
  case neq => injection e with e; subst e; exact ⟨_, rfl, by simp [binOp, Op.stringOp]⟩
  case lss => injection e with e; subst e; exact ⟨_, rfl, by simp [binOp, Op.stringOp]⟩
  case leq => injection e with e; subst e; exact ⟨_, rfl, by simp [binOp, Op.stringOp]⟩
  case gtr => injection e with e; subst e; exact ⟨_, rfl, by simp [binOp, Op.stringOp]⟩
  case geq => injection e with e; subst e; exact ⟨_, rfl, by simp [binOp, Op.stringOp]⟩
  all_goals cases e

theorem un_reads {ρ : Env} {ρ' : Operand → Value} {op : UnOp} {t : TypeId} {a : Operand} {v : AV} (hρ : EnvRel M ρ ρ' (Op.unOp op t a).operands) (e : un1A op (ρ a) = some v) : Reads P M w ρ' (.unOp op t a) v := by
  unfold un1A at e
  split at e
  case h_2 => cases e
  rename_i y ha
  have h0 := hρ a (by simp [Op.operands]) _ ha
  unfold unA at e
  split at e
  · have h1 := tr_bool h0
    split at e
    · injection e with e; subst e
      refine ⟨_, rfl, ?_⟩
      rintro ⟨dst, op, ty, pos, after, guard⟩ rfl
      simp [execOp, h1, Op.unary]
    · cases e
  · have h1 := tr_int h0
    split at e
    · injection e with e; subst e
      refine ⟨_, rfl, ?_⟩
      rintro ⟨dst, op, ty, pos, after, guard⟩ rfl
      simp [execOp, h1, Op.unary, Op.intArith]
    · injection e with e; subst e
      refine ⟨_, rfl, ?_⟩
      rintro ⟨dst, op, ty, pos, after, guard⟩ rfl
      simp [execOp, h1, Op.unary, Op.intBits, Bop.slow, Bop.bv]
    · cases e
  · cases e

theorem minmax_run {mx : Bool} {q : List Fact} (hq : ∀ f ∈ q, f.Ok M.env) : ∀ {r : List AV} {a v : AV} {x : Value} {xs : List Value}, a.tr M = some x → AV.trs M r = some xs → minmaxA q mx a r = some v →
    ∃ y, v.tr M = some y ∧ (xs.foldlM (if mx then Builtin.max2 else Builtin.min2) x).run P w = .ok y w
  | [], a, v, x, xs, ha, hr, e => by
    simp [AV.trs] at hr; subst hr
    have : minmaxA q mx a [] = some a := by cases a <;> rfl
    rw [this] at e; injection e with e; subst e
    exact ⟨x, ha, by simp⟩
  | b :: r, a, v, x, xs, ha, hr, e => by
    obtain ⟨y, ys, hb, hr', rfl⟩ := AV.trs_cons.1 hr
    have two : ∀ (k : IntKind) (n n' : Int), x = .int k n → y = .int k n' → (((if mx then Builtin.max2 else Builtin.min2) x y) : Sem Value).run P w = .ok (.int k (mmF mx n n')) w := by
      rintro k n n' rfl rfl
      cases mx
      · simp only [mmF, ltF_eq]
        by_cases hlt : n' < n <;> simp [Builtin.min2, hlt]
      · simp only [mmF, ltF_eq]
        by_cases hlt : n < n' <;> simp [Builtin.max2, hlt]
    have go : ∀ (k : IntKind) (n n' : Int) (z : AV), x = .int k n → y = .int k n' → z.tr M = some (.int k (mmF mx n n')) → minmaxA q mx z r = some v →
        ∃ y', v.tr M = some y' ∧ ((y :: ys).foldlM (if mx then Builtin.max2 else Builtin.min2) x).run P w = .ok y' w := by
      intro k n n' z hx hy hz e'
      obtain ⟨u, hu, hrun⟩ := minmax_run hq hz hr' e'
      exact ⟨u, hu, by rw [List.foldlM_cons, Sem.run_bind, two k n n' hx hy]; exact hrun⟩
    have slow : (match findMm mx a b q with | some z => minmaxA q mx z r | none => none) = some v → ∃ y', v.tr M = some y' ∧ ((y :: ys).foldlM (if mx then Builtin.max2 else Builtin.min2) x).run P w = .ok y' w := by
      intro e'
      split at e'
      case h_2 => cases e'
      rename_i z hf
      obtain ⟨k, n, n', f1, f2, f3⟩ := findMm_sound hq hf
      have g1 := numOf_tr f1
      have g2 := numOf_tr f2
      rw [ha] at g1; rw [hb] at g2
      injection g1 with g1; injection g2 with g2
      exact go k n n' z g1 g2 (atomVal_tr f3) e'
    unfold minmaxA at e
    split at e
    · contradiction
    · rename_i heq
      injection heq with h1 h2; subst h1 h2
      split at e
      case isFalse => cases e
      rename_i hk; subst hk
      exact go _ _ _ _ (tr_int ha) (tr_int hb) rfl e
    · rename_i heq
      injection heq with h1 h2; subst h1 h2
      exact slow e

end Go.AM
