/- The reading operations: what the abstract machine reads, the model's reads. Nothing is assumed. -/
import Derived.Test.YtdllplhkcllgfaaGreatAmF
import Derived.Laws.Entries
namespace Go.AM

variable {B : Nat → Prop} {w0 : World} {M : Mp} {h : H} {w : World} {P : Program}

theorem info_run {t : TypeId} {i : TypeInfo} (hi : P.info? t = some i) : (typeInfo t).run P w = .ok i w := by simp [typeInfo, hi]
theorem size_run {t : TypeId} {s : Nat} (hs : sizeA P t = some s) : (sizeOf t).run P w = .ok s w := by
  unfold sizeA at hs
  cases hi : P.info? t with
  | none => simp [hi] at hs
  | some i => simp [hi] at hs; simp [sizeOf, info_run hi, hs]
theorem bytes_info {t : TypeId} {s : Nat} (hs : bytesA P t = some s) : ∃ i, P.info? t = some i ∧ i.bytes = s := by
  unfold bytesA at hs
  cases hi : P.info? t with
  | none => simp [hi] at hs
  | some i => exact ⟨i, rfl, by simpa [hi] using hs⟩
theorem agg_run {t : TypeId} {b : Bool} (hs : isAggA P t = some b) : (isAgg t).run P w = .ok b w := by
  unfold isAggA at hs
  cases hi : P.underlying t with
  | none => simp [hi] at hs
  | some d => simp only [hi] at hs; cases d <;> simp at hs <;> subst hs <;> simp [isAgg, run_underlying hi]

theorem optMap_spec {α β : Type} {f : α → Option β} : ∀ {l : List α} {r : List β}, optMap f l = some r → All2 (fun a b => f a = some b) l r
  | [], r, e => by simp [optMap] at e; subst e; exact .nil
  | a :: l, r, e => by
    simp only [optMap] at e
    cases ha : f a with
    | none => simp [ha] at e
    | some b =>
      cases hl : optMap f l with
      | none => simp [ha, hl] at e
      | some bs => simp [ha, hl] at e; subst e; exact .cons ha (optMap_spec hl)

theorem ofScalar_tr {v : Value} {a : AV} (e : ofScalar v = some a) (M : Mp) : a.tr M = some v := by
  unfold ofScalar at e
  split at e
  case h_8 =>
    rename_i f a' c'
    split at e
    · rename_i ha
      split at e
      · rename_i hc
        injection e with e; subst e
        have h1 : a' = #[] := by simpa using ha
        have h2 : c' = #[] := by simpa using hc
        subst h1 h2
        simp [AV.tr, AV.trs]
      · cases e
    · cases e
  all_goals first | (injection e with e; subst e; simp [AV.tr]; done) | cases e

theorem ofConst_tr {v : Value} {a : AV} (e : ofConst v = some a) (M : Mp) : a.tr M = some v := by
  unfold ofConst at e
  split at e
  · rename_i cs
    cases hm : optMap ofScalar cs.toList with
    | none => simp [hm] at e
    | some l =>
      simp [hm] at e; subst e
      have h2 := optMap_spec hm
      have : AV.trs M l = some cs.toList := by
        clear hm
        generalize cs.toList = xs at h2
        induction h2 with
        | nil => rfl
        | cons r _ ih => exact AV.trs_cons.2 ⟨_, _, ofScalar_tr r M, ih, rfl⟩
      simp [AV.tr, this]
  · rename_i vs
    split at e
    · rename_i hv
      have h1 : vs = #[] := by simpa using hv
      subst h1
      injection e with e; subst e; simp [undefA, AV.tr, AV.trs]
    · cases e
  · exact ofScalar_tr e M

theorem zero_run {t : TypeId} {z : AV} (hz : zeroA P t = some z) : ∃ v, (zeroValue t).run P w = .ok v w ∧ (∀ M, z.tr M = some v) := by
  unfold zeroA at hz
  cases hi : P.info? t with
  | none => simp [hi] at hz
  | some i =>
    cases hv : i.zero with
    | none => simp [hi, hv] at hz
    | some v => simp [hi, hv] at hz; exact ⟨v, by simp [zeroValue, info_run hi, hv], ofConst_tr hz⟩

theorem cells_tr {v : AV} {x : Value} (e : v.tr M = some x) (ht : ∀ vs, v ≠ .tuple vs) (hy : ∀ i x, M.env i = some x → isCell x = true) : AV.trs M v.cells = some x.cells.toList := by
  cases v with
  | agg cs =>
    simp only [AV.tr] at e
    cases hc : AV.trs M cs with
    | none => simp [hc] at e
    | some l => simp [hc] at e; subst e; simp [AV.cells, Value.cells, hc]
  | tuple vs => exact absurd rfl (ht vs)
  | _ =>
    have hc := AV.scalar_tr hy (v := _) (by first | rfl | simp [AV.scalar]) e
    have : x.cells = #[x] := by cases x <;> first | rfl | cases hc
    rw [this]
    exact AV.trs_cons.2 ⟨x, [], e, rfl, rfl⟩

/-- The operands' values. -/
def EnvRel (M : Mp) (ρ : Env) (ρ' : Operand → Value) (xs : Array Operand) : Prop := ∀ x ∈ xs, ∀ a, ρ x = some a → a.tr M = some (ρ' x)

theorem EnvRel.list {ρ : Env} {ρ' : Operand → Value} : ∀ {xs : List Operand} {as : List AV}, (∀ x ∈ xs, ∀ a, ρ x = some a → a.tr M = some (ρ' x)) → optMap ρ xs = some as → AV.trs M as = some (xs.map ρ')
  | [], as, _, e => by simp [optMap] at e; subst e; rfl
  | x :: xs, as, hr, e => by
    simp only [optMap] at e
    cases ha : ρ x with
    | none => simp [ha] at e
    | some b =>
      cases hl : optMap ρ xs with
      | none => simp [ha, hl] at e
      | some bs =>
        simp [ha, hl] at e; subst e
        exact AV.trs_cons.2 ⟨_, _, hr x (by simp) b ha, EnvRel.list (fun y hy => hr y (by simp [hy])) hl, rfl⟩

/-- What is read: a value of the model's, at the same world. -/
def Reads (P : Program) (M : Mp) (w : World) (ρ' : Operand → Value) (op : Op) (v : AV) : Prop :=
  ∃ x, v.tr M = some x ∧ ∀ o : Oper, o.op = op → (execOp ρ' o).run P w = .ok (.value x) w

theorem tr_ptr {b off : Nat} {x : Value} (e : (AV.ptr b off).tr M = some x) : ∃ p, M.at_ b = some p ∧ x = .pointer (some ⟨p.blk, p.base + off, none⟩) := by
  simp only [AV.tr] at e
  cases hb : M.at_ b with
  | none => simp [hb] at e
  | some p => exact ⟨p, rfl, by simpa [hb] using e.symm⟩
theorem tr_map {b : Nat} {x : Value} (e : (AV.map b).tr M = some x) : ∃ p, M.at_ b = some p ∧ x = .map (some p.blk) := by
  simp only [AV.tr] at e
  cases hb : M.at_ b with
  | none => simp [hb] at e
  | some p => exact ⟨p, rfl, by simpa [hb] using e.symm⟩
theorem tr_yld {b : Nat} {x : Value} (e : (AV.yld b).tr M = some x) : ∃ p, M.at_ b = some p ∧ x = .func (.yield p.blk) #[] #[] := by
  simp only [AV.tr] at e
  cases hb : M.at_ b with
  | none => simp [hb] at e
  | some p => exact ⟨p, rfl, by simpa [hb] using e.symm⟩
theorem tr_slice {b off offE len : Nat} {cap : Option Nat} {x : Value} (e : (AV.slice b off offE len cap).tr M = some x) :
    ∃ p, M.at_ b = some p ∧ x = .slice (some ⟨p.blk, p.base + off, none⟩) len (cap.getD (p.cap - offE)) := by
  simp only [AV.tr] at e
  cases hb : M.at_ b with
  | none => simp [hb] at e
  | some p => exact ⟨p, rfl, by simpa [hb] using e.symm⟩
theorem tr_slice0 {b off offE l size : Nat} {z : Bool} {x : Value} (e : (AV.slice0 b off offE l size z).tr M = some x) :
    ∃ p, M.at_ b = some p ∧ x = .slice (some ⟨p.blk, p.base + (if p.cap - offE = l then off else off + l * size), none⟩) 0 (if z then 0 else p.cap - offE - l) := by
  simp only [AV.tr] at e
  cases hb : M.at_ b with
  | none => simp [hb] at e
  | some p => exact ⟨p, rfl, by simpa [hb] using e.symm⟩
theorem tr_sliceS {b off k : Nat} {x : Value} (e : (AV.sliceS b off k).tr M = some x) :
    ∃ p n, M.at_ b = some p ∧ M.env k = some (.int .i64 (.ofNat n)) ∧ x = .slice (some ⟨p.blk, p.base + off, none⟩) n p.cap := by
  simp only [AV.tr] at e
  split at e
  · rename_i p n hb hk
    exact ⟨p, n, hb, hk, by simpa using e.symm⟩
  · cases e
theorem tr_agg {cs : List AV} {x : Value} (e : (AV.agg cs).tr M = some x) : ∃ l, AV.trs M cs = some l ∧ x = .agg l.toArray := by
  simp only [AV.tr] at e
  cases hb : AV.trs M cs with
  | none => simp [hb] at e
  | some p => exact ⟨p, rfl, by simpa [hb] using e.symm⟩
theorem tr_tuple {cs : List AV} {x : Value} (e : (AV.tuple cs).tr M = some x) : ∃ l, AV.trs M cs = some l ∧ x = .tuple l.toArray := by
  simp only [AV.tr] at e
  cases hb : AV.trs M cs with
  | none => simp [hb] at e
  | some p => exact ⟨p, rfl, by simpa [hb] using e.symm⟩
theorem tr_iface {t : TypeId} {v : AV} {x : Value} (e : (AV.iface t v).tr M = some x) : ∃ y, v.tr M = some y ∧ x = .iface t y := by
  simp only [AV.tr] at e
  cases hb : AV.tr M v with
  | none => simp [hb] at e
  | some p => exact ⟨p, rfl, by simpa [hb] using e.symm⟩
theorem tr_fn {f : Fn} {a c : List AV} {x : Value} (e : (AV.fn f a c).tr M = some x) : ∃ a' c', AV.trs M a = some a' ∧ AV.trs M c = some c' ∧ x = .func f a'.toArray c'.toArray ∧ ∀ l, f ≠ .yield l := by
  simp only [AV.tr] at e
  split at e
  · cases e
  · rename_i hf ha hc; simp at e; subst e; exact ⟨_, _, ha, hc, rfl, fun l hl => hf l hl⟩
  · cases e

theorem tr_bool {b : Bool} {x : Value} (e : (AV.bool b).tr M = some x) : x = .bool b := by simpa [AV.tr] using e.symm
theorem tr_int {k : IntKind} {n : Int} {x : Value} (e : (AV.int k n).tr M = some x) : x = .int k n := by simpa [AV.tr] using e.symm
theorem tr_str {s : List UInt8} {x : Value} (e : (AV.str s).tr M = some x) : x = .string ⟨s.toArray⟩ := by simpa [AV.tr] using e.symm

theorem pick_reads {ρ : Env} {ρ' : Operand → Value} {c a b : Operand} {v : AV} (hρ : EnvRel M ρ ρ' (Op.pick c a b).operands) (e : pickA ρ c a b = some v) : Reads P M w ρ' (.pick c a b) v := by
  unfold pickA at e
  split at e
  · rename_i hc
    have h1 := tr_bool (hρ c (by simp [Op.operands]) _ hc)
    refine ⟨ρ' a, hρ a (by simp [Op.operands]) _ e, ?_⟩
    rintro ⟨dst, op, ty, pos, after, guard⟩ rfl
    simp [execOp, h1, asBool]
  · rename_i hc
    have h1 := tr_bool (hρ c (by simp [Op.operands]) _ hc)
    refine ⟨ρ' b, hρ b (by simp [Op.operands]) _ e, ?_⟩
    rintro ⟨dst, op, ty, pos, after, guard⟩ rfl
    simp [execOp, h1, asBool]
  · cases e

theorem load_reads (hr : HRel B w0 M h w) {ρ : Env} {ρ' : Operand → Value} {t : TypeId} {a : Operand} {v : AV} (hρ : EnvRel M ρ ρ' (Op.load t a).operands) (e : loadA P h t (ρ a) = some v) : Reads P M w ρ' (.load t a) v := by
  unfold loadA at e
  split at e
  case h_2 => cases e
  rename_i b off ha
  obtain ⟨p, hp, h1⟩ := tr_ptr (hρ a (by simp [Op.operands]) _ ha)
  split at e
  · rename_i hagg
    unfold cellA at e
    split at e
    case h_2 => cases e
    rename_i cs tail fz hb
    rw [nth_eq] at e
    obtain ⟨x, hx, htr⟩ := hr.cell hb hp e
    refine ⟨x, htr, ?_⟩
    rintro ⟨dst, op, ty, pos, after, guard⟩ rfl
    simp [execOp, Instr.loadAt, h1, Instr.sureAddr, loadVar, agg_run hagg, hx]
  · rename_i hagg
    split at e
    case h_2 => cases e
    rename_i s hs
    split at e
    case h_2 => cases e
    rename_i cs hl
    injection e with e; subst e
    obtain ⟨xs, hxs, _, hrun⟩ := hr.loads (P := P) hl hp
    refine ⟨.agg xs.toArray, by simp [AV.tr, hxs], ?_⟩
    rintro ⟨dst, op, ty, pos, after, guard⟩ rfl
    simp [execOp, Instr.loadAt, h1, Instr.sureAddr, loadVar, agg_run hagg, size_run hs, hrun]
  · cases e

theorem nilCheck_reads {ρ : Env} {ρ' : Operand → Value} {a : Operand} {v : AV} (hρ : EnvRel M ρ ρ' (Op.nilCheck a).operands) (e : nilCheckA (ρ a) = some v) : Reads P M w ρ' (.nilCheck a) v := by
  unfold nilCheckA at e
  split at e
  · rename_i ha
    have h0 := hρ a (by simp [Op.operands]) _ ha
    obtain ⟨p, hp, h1⟩ := tr_ptr h0
    injection e with e; subst e
    refine ⟨_, h0, ?_⟩
    rintro ⟨dst, op, ty, pos, after, guard⟩ rfl
    simp [execOp, h1]
  · rename_i ha
    have h0 := hρ a (by simp [Op.operands]) _ ha
    obtain ⟨a', c', _, _, h1, _⟩ := tr_fn h0
    injection e with e; subst e
    refine ⟨_, h0, ?_⟩
    rintro ⟨dst, op, ty, pos, after, guard⟩ rfl
    simp [execOp, h1]
  · rename_i ha
    have h0 := hρ a (by simp [Op.operands]) _ ha
    obtain ⟨p, hp, h1⟩ := tr_yld h0
    injection e with e; subst e
    refine ⟨_, h0, ?_⟩
    rintro ⟨dst, op, ty, pos, after, guard⟩ rfl
    simp [execOp, h1]
  · rename_i ha
    have h0 := hρ a (by simp [Op.operands]) _ ha
    obtain ⟨y, hy, h1⟩ := tr_iface h0
    injection e with e; subst e
    refine ⟨_, h0, ?_⟩
    rintro ⟨dst, op, ty, pos, after, guard⟩ rfl
    simp [execOp, h1]
  · cases e

theorem iface_reads {ρ : Env} {ρ' : Operand → Value} {t : TypeId} {a : Operand} {v : AV} (hρ : EnvRel M ρ ρ' (Op.makeInterface t a).operands) (e : ifaceA P t (ρ a) = some v) : Reads P M w ρ' (.makeInterface t a) v := by
  unfold ifaceA at e
  split at e
  case h_2 => cases e
  rename_i y ha
  have h0 := hρ a (by simp [Op.operands]) _ ha
  split at e
  · cases e
  · rename_i d hd hu
    injection e with e; subst e
    refine ⟨.iface t (ρ' a), by simp [AV.tr, h0], ?_⟩
    rintro ⟨dst, op, ty, pos, after, guard⟩ rfl
    have : (Instr.makeInterface t (ρ' a)).run P w = .ok (.iface t (ρ' a)) w := by
      cases d <;> first | exact (hd _ rfl).elim | simp [Instr.makeInterface, run_underlying hu]
    simp [execOp, this]
  · cases e

theorem fieldAddr_reads {ρ : Env} {ρ' : Operand → Value} {s : TypeId} {a : Operand} {f : Nat} {v : AV} (hρ : EnvRel M ρ ρ' (Op.fieldAddr s a f).operands) (e : fieldAddrA P s (ρ a) f = some v) : Reads P M w ρ' (.fieldAddr s a f) v := by
  unfold fieldAddrA at e
  split at e
  case h_2 => cases e
  rename_i b off ha
  have h0 := hρ a (by simp [Op.operands]) _ ha
  obtain ⟨p, hp, h1⟩ := tr_ptr h0
  split at e
  case h_2 => cases e
  rename_i fs hu
  split at e
  case h_2 => cases e
  rename_i fd hf
  split at e
  case h_2 => cases e
  rename_i n hs
  injection e with e; subst e
  refine ⟨.pointer (some ⟨p.blk, p.base + (off + fd.offset), none⟩), by simp [AV.tr, hp], ?_⟩
  rintro ⟨dst, op, ty, pos, after, guard⟩ rfl
  simp [execOp, Instr.fieldAt, run_underlying hu, hf, h1, Instr.sureAddr, fieldPlace, size_run hs, add_plain, Nat.add_assoc]

theorem part_run {t : TypeId} {cs : List AV} {off : Nat} {v : AV} {l : List Value} (hl : AV.trs M cs = some l) (e : partA P t cs off = some v) :
    ∃ x, v.tr M = some x ∧ (part t l.toArray off).run P w = .ok x w := by
  unfold partA at e
  split at e
  · rename_i hagg
    split at e
    case h_2 => cases e
    rename_i s hs
    split at e
    case h_2 => cases e
    rename_i r hc
    injection e with e; subst e
    obtain ⟨h1, h2⟩ := cut_spec cs off s r hc
    obtain ⟨xs, hxs⟩ := AV.trs_of (M := M) (vs := r) (fun i v hi => by
      have hlt : i < s := by rw [← h1]; exact (List.getElem?_eq_some_iff.1 hi).1
      rw [h2 i hlt] at hi
      obtain ⟨x, _, hx⟩ := AV.trs_nth hl hi
      exact ⟨x, hx⟩)
    refine ⟨.agg xs.toArray, by simp [AV.tr, hxs], ?_⟩
    have hx : (l.drop off).take s = xs := by
      have hlen := AV.trs_length hxs
      apply List.ext_getElem?
      intro i
      by_cases hi : i < s
      · rw [List.getElem?_take, if_pos hi, List.getElem?_drop]
        have hr : ∃ a, r[i]? = some a := ⟨r[i]'(by omega), by simp⟩
        obtain ⟨a, ha⟩ := hr
        obtain ⟨y, hy, hy'⟩ := AV.trs_nth hxs ha
        rw [h2 i hi] at ha
        obtain ⟨z, hz, hz'⟩ := AV.trs_nth hl ha
        rw [hy'] at hz'; cases hz'
        rw [hy, hz]
      · rw [List.getElem?_take, if_neg hi, List.getElem?_eq_none (by omega)]
    simp [part, agg_run hagg, size_run hs, hx]
  · rename_i hagg
    rw [nth_eq] at e
    obtain ⟨x, hx, htr⟩ := AV.trs_nth hl e
    refine ⟨x, htr, ?_⟩
    simp [part, agg_run hagg, hx]
  · cases e

theorem field_reads {ρ : Env} {ρ' : Operand → Value} {t : TypeId} {a : Operand} {f : Nat} {v : AV} (hρ : EnvRel M ρ ρ' (Op.field t a f).operands) (e : fieldA P t (ρ a) f = some v) : Reads P M w ρ' (.field t a f) v := by
  unfold fieldA at e
  split at e
  case h_2 => cases e
  rename_i cs ha
  have h0 := hρ a (by simp [Op.operands]) _ ha
  obtain ⟨l, hl, h1⟩ := tr_agg h0
  split at e
  case h_2 => cases e
  rename_i fs hu
  split at e
  case h_2 => cases e
  rename_i fd hf
  obtain ⟨x, hx, hrun⟩ := part_run (P := P) (w := w) hl e
  refine ⟨x, hx, ?_⟩
  rintro ⟨dst, op, ty, pos, after, guard⟩ rfl
  simp [execOp, Instr.field, run_underlying hu, hf, h1, asAgg, hrun]

theorem ix_spec {ix : Option AV} {len i : Nat} (e : ixA ix len = some i) : ∃ k, ix = some (.int k (.ofNat i)) ∧ i < len := by
  unfold ixA at e
  split at e
  · rename_i k n
    split at e
    · rename_i hb; simp at e; subst e; exact ⟨k, rfl, by simpa [Nat.blt_eq] using hb⟩
    · cases e
  · cases e

theorem eqF_eq (a b : Int) : eqF a b = (a == b) := by
  cases a <;> cases b <;> simp only [eqF]
  rename_i m n
  rw [Bool.eq_iff_iff]; simp [Nat.beq_eq]; omega
theorem ltF_eq (a b : Int) : ltF a b = decide (a < b) := by
  cases a <;> cases b <;> simp only [ltF]
  rename_i m n
  rw [Bool.eq_iff_iff]; simp [Nat.blt_eq]

theorem atomEq_sound {env : Nat → Option Value} : ∀ {x y : AV}, atomEq x y = true → atomVal env x = atomVal env y ∧ numOf env x = numOf env y
  | .int k a, .int k' b, e => by
    simp only [atomEq, Bool.and_eq_true, beq_iff_eq, eqF_eq] at e
    obtain ⟨rfl, rfl⟩ := e
    exact ⟨rfl, rfl⟩
  | .sym i, .sym j, e => by
    have := Nat.eq_of_beq_eq_true e
    subst this
    exact ⟨rfl, rfl⟩
  | .int .., .bool _, e | .int .., .str _, e | .int .., .nilp, e | .int .., .ptr .., e | .int .., .nils, e | .int .., .slice .., e | .int .., .slice0 .., e | .int .., .sliceS .., e | .int .., .nilm, e | .int .., .map _, e | .int .., .nilf, e | .int .., .fn .., e | .int .., .yld _, e | .int .., .nili, e | .int .., .iface .., e | .int .., .agg _, e | .int .., .tuple _, e | .int .., .sym _, e => by simp [atomEq] at e
  | .sym _, .bool _, e | .sym _, .int .., e | .sym _, .str _, e | .sym _, .nilp, e | .sym _, .ptr .., e | .sym _, .nils, e | .sym _, .slice .., e | .sym _, .slice0 .., e | .sym _, .sliceS .., e | .sym _, .nilm, e | .sym _, .map _, e | .sym _, .nilf, e | .sym _, .fn .., e | .sym _, .yld _, e | .sym _, .nili, e | .sym _, .iface .., e | .sym _, .agg _, e | .sym _, .tuple _, e => by simp [atomEq] at e
  | .bool _, _, e | .str _, _, e | .nilp, _, e | .ptr .., _, e | .nils, _, e | .slice .., _, e | .slice0 .., _, e | .sliceS .., _, e | .nilm, _, e | .map _, _, e | .nilf, _, e | .fn .., _, e | .yld _, _, e | .nili, _, e | .iface .., _, e | .agg _, _, e | .tuple _, _, e => by simp [atomEq] at e

theorem findBin_sound {env : Nat → Option Value} {op : BinOp} {x y r : AV} : ∀ {q : List Fact}, (∀ f ∈ q, f.Ok env) → findBin op x y q = some r → (Fact.bin op x y r).Ok env
  | [], _, e => by simp [findBin] at e
  | .bin op' x' y' r' :: q, h, e => by
    simp only [findBin] at e
    split at e
    · rename_i hc
      injection e with e; subst e
      simp only [Bool.and_eq_true, beq_iff_eq] at hc
      obtain ⟨⟨rfl, h1⟩, h2⟩ := hc
      have := h _ (List.mem_cons_self ..)
      simp only [Fact.Ok] at this ⊢
      rw [(atomEq_sound h1).2, (atomEq_sound h2).2]; exact this
    · exact findBin_sound (fun f hf => h f (List.mem_cons_of_mem _ hf)) e
  | .conv .. :: q, h, e => by
    simp only [findBin] at e
    exact findBin_sound (fun f hf => h f (List.mem_cons_of_mem _ hf)) e
  | .mm .. :: q, h, e => by
    simp only [findBin] at e
    exact findBin_sound (fun f hf => h f (List.mem_cons_of_mem _ hf)) e

theorem findConv_sound {env : Nat → Option Value} {k : IntKind} {x r : AV} : ∀ {q : List Fact}, (∀ f ∈ q, f.Ok env) → findConv k x q = some r → (Fact.conv k x r).Ok env
  | [], _, e => by simp [findConv] at e
  | .conv k' x' r' :: q, h, e => by
    simp only [findConv] at e
    split at e
    · rename_i hc
      injection e with e; subst e
      simp only [Bool.and_eq_true, beq_iff_eq] at hc
      obtain ⟨rfl, h1⟩ := hc
      have := h _ (List.mem_cons_self ..)
      simp only [Fact.Ok] at this ⊢
      rw [(atomEq_sound h1).2]; exact this
    · exact findConv_sound (fun f hf => h f (List.mem_cons_of_mem _ hf)) e
  | .bin .. :: q, h, e => by
    simp only [findConv] at e
    exact findConv_sound (fun f hf => h f (List.mem_cons_of_mem _ hf)) e
  | .mm .. :: q, h, e => by
    simp only [findConv] at e
    exact findConv_sound (fun f hf => h f (List.mem_cons_of_mem _ hf)) e

theorem findMm_sound {env : Nat → Option Value} {mx : Bool} {x y r : AV} : ∀ {q : List Fact}, (∀ f ∈ q, f.Ok env) → findMm mx x y q = some r → (Fact.mm mx x y r).Ok env
  | [], _, e => by simp [findMm] at e
  | .mm mx' x' y' r' :: q, h, e => by
    simp only [findMm] at e
    split at e
    · rename_i hc
      injection e with e; subst e
      simp only [Bool.and_eq_true, beq_iff_eq] at hc
      obtain ⟨⟨rfl, h1⟩, h2⟩ := hc
      have := h _ (List.mem_cons_self ..)
      simp only [Fact.Ok] at this ⊢
      rw [(atomEq_sound h1).2, (atomEq_sound h2).2]; exact this
    · exact findMm_sound (fun f hf => h f (List.mem_cons_of_mem _ hf)) e
  | .bin .. :: q, h, e => by
    simp only [findMm] at e
    exact findMm_sound (fun f hf => h f (List.mem_cons_of_mem _ hf)) e
  | .conv .. :: q, h, e => by
    simp only [findMm] at e
    exact findMm_sound (fun f hf => h f (List.mem_cons_of_mem _ hf)) e

/-- What an atom is, and the number that it is. -/
theorem numOf_tr {M : Mp} {x : AV} {k : IntKind} {n : Int} (e : numOf M.env x = some (k, n)) : x.tr M = some (.int k n) := by
  unfold numOf at e
  split at e
  · injection e with e; injection e with e1 e2; subst e1 e2; rfl
  · split at e
    · rename_i i k' n' he
      injection e with e; injection e with e1 e2; subst e1 e2
      simp [AV.tr, he]
    · cases e
  · cases e
theorem atomVal_tr {M : Mp} {x : AV} {z : Value} (e : atomVal M.env x = some z) : x.tr M = some z := by
  unfold atomVal at e
  split at e
  · injection e with e; subst e; rfl
  · injection e with e; subst e; rfl
  · exact e
  · cases e

theorem indexAddr_reads {ρ : Env} {ρ' : Operand → Value} {t : TypeId} {a ix : Operand} {v : AV} (hρ : EnvRel M ρ ρ' (Op.indexAddr t a ix).operands) {q : List Fact} (hq : ∀ f ∈ q, f.Ok M.env) (e : indexAddrA P q t (ρ a) (ρ ix) = some v) : Reads P M w ρ' (.indexAddr t a ix) v := by
  unfold indexAddrA at e
  split at e
  · rename_i b off kk ha
    have h0 := hρ a (by simp [Op.operands]) _ ha
    obtain ⟨p, n, hp, hen, h1⟩ := tr_sliceS h0
    split at e
    case h_2 => cases e
    rename_i elem hu
    split at e
    case h_2 => cases e
    rename_i s hs
    split at e
    case h_2 => cases e
    rename_i i hix
    split at e
    case h_2 => cases e
    rename_i hb
    injection e with e; subst e
    have h2 := tr_int (hρ ix (by simp [Op.operands]) _ hix)
    have hlt : i < n := by
      unfold belowA at hb
      split at hb
      case h_2 => cases hb
      rename_i hf
      obtain ⟨k1, a1, k2, b1, v1, z1, f1, f2, f3, f4, f5⟩ := findBin_sound hq hf
      simp only [numOf] at f1
      injection f1 with f1; injection f1 with f1 f1'; subst f1 f1'
      simp only [numOf, hen] at f2
      injection f2 with f2; injection f2 with f2 f2'; subst f2 f2'
      simp only [binInt, if_true, intA] at f3
      injection f3 with f3; subst f3
      simp only [atomVal] at f4 f5
      rw [← f4] at f5
      simp only [ltF_eq] at f5
      simpa using f5
    refine ⟨.pointer (some ⟨p.blk, p.base + (off + i * s), none⟩), by simp [AV.tr, hp], ?_⟩
    rintro ⟨dst, op, ty, pos, after, guard⟩ rfl
    simp [execOp, Instr.indexAt, h2, asIntOf, run_underlying hu, h1, size_run hs, add_plain, hlt, Nat.add_assoc]
  · rename_i b off offE len cap ha
    have h0 := hρ a (by simp [Op.operands]) _ ha
    obtain ⟨p, hp, h1⟩ := tr_slice h0
    split at e
    case h_2 => cases e
    rename_i elem hu
    split at e
    case h_2 => cases e
    rename_i s hs
    split at e
    case h_2 => cases e
    rename_i i hi
    injection e with e; subst e
    obtain ⟨k, hk, hlt⟩ := ix_spec hi
    have h2 := tr_int (hρ ix (by simp [Op.operands]) _ hk)
    refine ⟨.pointer (some ⟨p.blk, p.base + (off + i * s), none⟩), by simp [AV.tr, hp], ?_⟩
    rintro ⟨dst, op, ty, pos, after, guard⟩ rfl
    simp [execOp, Instr.indexAt, h2, asIntOf, run_underlying hu, h1, size_run hs, add_plain, hlt, Nat.add_assoc]
  · rename_i b off ha
    have h0 := hρ a (by simp [Op.operands]) _ ha
    obtain ⟨p, hp, h1⟩ := tr_ptr h0
    split at e
    case h_2 => cases e
    rename_i len elem hu
    split at e
    case h_2 => cases e
    rename_i s hs
    split at e
    case h_2 => cases e
    rename_i i hi
    injection e with e; subst e
    obtain ⟨k, hk, hlt⟩ := ix_spec hi
    have h2 := tr_int (hρ ix (by simp [Op.operands]) _ hk)
    refine ⟨.pointer (some ⟨p.blk, p.base + (off + i * s), none⟩), by simp [AV.tr, hp], ?_⟩
    rintro ⟨dst, op, ty, pos, after, guard⟩ rfl
    simp [execOp, Instr.indexAt, h2, asIntOf, run_underlying hu, h1, Instr.sureAddr, size_run hs, add_plain, hlt, Nat.add_assoc]
  · cases e

theorem index_reads {ρ : Env} {ρ' : Operand → Value} {t : TypeId} {a ix : Operand} {v : AV} (hρ : EnvRel M ρ ρ' (Op.index t a ix).operands) (e : indexA P t (ρ a) (ρ ix) = some v) : Reads P M w ρ' (.index t a ix) v := by
  unfold indexA at e
  split at e
  · rename_i cs ha
    have h0 := hρ a (by simp [Op.operands]) _ ha
    obtain ⟨l, hl, h1⟩ := tr_agg h0
    split at e
    case h_2 => cases e
    rename_i len elem hu
    split at e
    case h_2 => cases e
    rename_i s hs
    split at e
    case h_2 => cases e
    rename_i i hi
    obtain ⟨k, hk, hlt⟩ := ix_spec hi
    have h2 := tr_int (hρ ix (by simp [Op.operands]) _ hk)
    obtain ⟨x, hx, hrun⟩ := part_run (P := P) (w := w) hl e
    refine ⟨x, hx, ?_⟩
    rintro ⟨dst, op, ty, pos, after, guard⟩ rfl
    simp [execOp, Instr.index, h2, asIntOf, run_underlying hu, h1, size_run hs, hlt, hrun]
  · rename_i s ha
    have h0 := hρ a (by simp [Op.operands]) _ ha
    have h1 := tr_str h0
    split at e
    case h_2 => cases e
    rename_i hu
    split at e
    case h_2 => cases e
    rename_i i hi
    obtain ⟨k, hk, hlt⟩ := ix_spec hi
    have h2 := tr_int (hρ ix (by simp [Op.operands]) _ hk)
    split at e
    case h_2 => cases e
    rename_i b hb
    injection e with e; subst e
    rw [nth_eq] at hb
    refine ⟨.int .u8 b.toNat, by simp [AV.tr], ?_⟩
    rintro ⟨dst, op, ty, pos, after, guard⟩ rfl
    have hget : (⟨s.toArray⟩ : ByteArray)[i]? = some b := by
      have hlt' : i < (⟨s.toArray⟩ : ByteArray).size := by simpa [ByteArray.size] using hlt
      rw [getElem?_pos _ i hlt']
      have := (List.getElem?_eq_some_iff.1 hb).2
      exact congrArg some this
    simp [execOp, Instr.index, h2, asIntOf, run_underlying hu, h1, hget]
  · cases e

theorem extract_reads {ρ : Env} {ρ' : Operand → Value} {a : Operand} {i : Nat} {v : AV} (hρ : EnvRel M ρ ρ' (Op.extract a i).operands) (e : extractA (ρ a) i = some v) : Reads P M w ρ' (.extract a i) v := by
  unfold extractA at e
  split at e
  case h_2 => cases e
  rename_i vs ha
  have h0 := hρ a (by simp [Op.operands]) _ ha
  obtain ⟨l, hl, h1⟩ := tr_tuple h0
  rw [nth_eq] at e
  obtain ⟨x, hx, htr⟩ := AV.trs_nth hl e
  refine ⟨x, htr, ?_⟩
  rintro ⟨dst, op, ty, pos, after, guard⟩ rfl
  simp [execOp, Instr.extract, h1, hx]

theorem assert_reads {ρ : Env} {ρ' : Operand → Value} {a : Operand} {xt t : TypeId} {ok : Bool} {v : AV} (hρ : EnvRel M ρ ρ' (Op.typeAssert a xt t ok).operands) (e : assertA P (ρ a) t ok = some v) : Reads P M w ρ' (.typeAssert a xt t ok) v := by
  unfold assertA at e
  split at e
  case h_2 => cases e
  rename_i u y ha
  have h0 := hρ a (by simp [Op.operands]) _ ha
  obtain ⟨z, hz, h1⟩ := tr_iface h0
  split at e
  · cases e
  · rename_i d hd hu
    split at e
    case isFalse => cases e
    rename_i hut
    subst hut
    injection e with e; subst e
    refine ⟨if ok then .tuple #[z, .bool true] else z, by cases ok <;> simp [AV.tr, AV.trs, hz], ?_⟩
    rintro ⟨dst, op, ty, pos, after, guard⟩ rfl
    have : (Instr.typeAssert (.iface u z) xt u ok).run P w = .ok (if ok then .tuple #[z, .bool true] else z) w := by
      cases d <;> first | exact (hd _ rfl).elim | simp [Instr.typeAssert, run_underlying hu]
    simp [execOp, h1, this]
  · cases e

theorem map_arr {α β : Type} (f : α → β) (a : Array α) : (List.map f a.toList).toArray = Array.map f a := by apply Array.ext'; simp

theorem makeFunc_reads {ρ : Env} {ρ' : Operand → Value} {fn : Fn} {first captured : Array Operand} {v : AV} (hρ : EnvRel M ρ ρ' (Op.makeFunc fn first captured).operands) (e : makeFuncA ρ fn first captured = some v) : Reads P M w ρ' (.makeFunc fn first captured) v := by
  unfold makeFuncA at e
  split at e
  · cases e
  · rename_i hf
    split at e
    case h_2 => cases e
    rename_i a ha
    split at e
    case h_2 => cases e
    rename_i c hc
    injection e with e; subst e
    have h1 := EnvRel.list (fun x hx => hρ x (by simp [Op.operands]; left; simpa using hx)) ha
    have h2 := EnvRel.list (fun x hx => hρ x (by simp [Op.operands]; right; simpa using hx)) hc
    refine ⟨.func fn (first.map ρ') (captured.map ρ'), ?_, ?_⟩
    · cases fn with
      | yield l => exact absurd rfl (hf l)
      | _ => simp [AV.tr, h1, h2, map_arr]
    · rintro ⟨dst, op, ty, pos, after, guard⟩ rfl
      simp [execOp, Instr.makeFunc]
end Go.AM
