/- The acting operations. Nothing is assumed. -/
import Derived.Test.YtdllplhkcllgfaaGreatAmN
namespace Go.AM

variable {B : Nat → Prop} {w0 : World} {M : Mp} {h : H} {w : World} {P : Program}

inductive ItemRel (M : Mp) : AItem → Item → Prop
  | code (c : Code) : ItemRel M (.code c) (.code c)
  | inBlock (id : Nat) : ItemRel M (.inBlock id) (.inBlock id)
  | inLoop (c : Code) : ItemRel M (.inLoop c) (.inLoop c)
  | inScope (c : Code) : ItemRel M (.inScope c) (.inScope c)
  | inRegion (ops : Array Oper) (l : List Nat) : ItemRel M (.inRegion ops l) (.inRegion ops l)
  | inRangeFunc {l : Nat} {q : Place} (h : M.at_ l = some q) : ItemRel M (.inRangeFunc l) (.inRangeFunc q.blk)
  | endRangeFunc {l : Nat} {q : Place} (h : M.at_ l = some q) : ItemRel M (.endRangeFunc l) (.endRangeFunc q.blk)
  | beginRound : ItemRel M .beginRound .beginRound

structure FrBase (M : Mp) (a : AFrame) (f : Frame) : Prop where
  fn : f.fn = a.fn
  mode : f.mode = if a.ret then .returning else .run
  kind : f.kind = a.kind
  round : match a.round with | none => f.roundOf = none | some l => ∃ q, M.at_ l = some q ∧ f.roundOf = some q.blk
  defers : All2 (DefRel M) a.defers f.defers

structure PlainFrame (M : Mp) (a : AFrame) (f : Frame) : Prop where
  base : FrBase M a f
  todo : All2 (ItemRel M) a.todo f.todo
  tmps : TmpsRel M a.tmps a.n f.tmps

/-- An operation's outcome. -/
def NextRel (M : Mp) (nx : ANext) (n : Next) : Prop :=
  match nx with
  | .val v _ => ∃ x, v.tr M = some x ∧ n = .value x
  | .skip _ => n = .skip
  | .enter f args _ => ∃ xs, AV.trs M args = some xs ∧ n = .enter f xs.toArray
  | .defer d _ => ∃ x, DefRel M d x ∧ n = .defer x
  | .round fr _ => ∃ l fn tmps assign body, n = .round l fn tmps assign body ∧ PlainFrame M fr (Frame.round l fn tmps assign body .normal)

def heapOf : ANext → H
  | .val _ h | .skip h | .enter _ _ h | .defer _ h | .round _ h => h

/-- What is done: the model's outcome, and the world behind it. -/
def Acts (P : Program) (B : Nat → Prop) (w0 : World) (M : Mp) (h : H) (w : World) (s : Sem Next) (nx : ANext) : Prop :=
  ∃ M' w' n, s.run P w = .ok n w' ∧ HRel B w0 M' (heapOf nx) w' ∧ Later h M (heapOf nx) M' ∧ NextRel M' nx n

theorem store_acts (hr : HRel B w0 M h w) {ρ : Env} {ρ' : Operand → Value} {t : TypeId} {a x : Operand} {nx : ANext} (hρ : EnvRel M ρ ρ' (Op.store t a x).operands) (e : skipA (storeA P h t (ρ a) (ρ x)) = some nx) (o : Oper) (ho : o.op = .store t a x) :
    Acts P B w0 M h w (execOp ρ' o) nx := by
  unfold skipA at e
  split at e
  case h_2 => cases e
  rename_i h' hst
  injection e with e; subst e
  unfold storeA at hst
  split at hst
  case h_2 => cases hst
  rename_i b off ha
  split at hst
  case h_2 => cases hst
  rename_i v hv
  split at hst
  case h_2 => cases hst
  rename_i s hs
  split at hst
  case h_2 => cases hst
  rename_i hbeq
  have hlen : s = v.cells.length := by simpa using hbeq
  obtain ⟨p, hp, h1⟩ := tr_ptr (hρ a (by simp [Op.operands]) _ ha)
  have h2 := hρ x (by simp [Op.operands]) _ hv
  have hsc : v.cells.all AV.scalar = true := by
    unfold storeN at hst
    split at hst
    · split at hst
      · assumption
      · cases hst
    · cases hst
  have hc := cells_tr h2 (scalar_tuple hsc) hr.env
  obtain ⟨w', hrun, hr', hl⟩ := hr.stores (P := P) hst hp hc
  refine ⟨M, w', .skip, ?_, hr', hl, rfl⟩
  obtain ⟨dst, op, ty, pos, after, guard⟩ := o
  simp only at ho; subst ho
  have hsz : (ρ' x).cells.size = s := by rw [← Array.length_toList, AV.trs_length hc, hlen]
  simp [execOp, Instr.storeAt, h1, Instr.sureAddr, storeVar, hsz, size_run hs, hrun]

theorem heap_put (w : World) (hp : Array Obj) : ({ w with heap := hp } : World).heap = hp := rfl

/-- A new block, whatever its content. -/
theorem HRel.allocNew (hr : HRel B w0 M h w) {o : AObj} {ob : Obj} {cap : Nat} (ho : ObjRel (M.set h.next ⟨w.heap.size, 0, cap⟩) ⟨w.heap.size, 0, cap⟩ o ob) :
    HRel B w0 (M.set h.next ⟨w.heap.size, 0, cap⟩) (h.new o) { w with heap := w.heap.push ob } ∧ Later h M (h.new o) (M.set h.next ⟨w.heap.size, 0, cap⟩) ∧
      (M.set h.next ⟨w.heap.size, 0, cap⟩).at_ h.next = some ⟨w.heap.size, 0, cap⟩ :=
  ⟨hr.alloc (hr.fresh _ (Nat.le_refl _)).1 (fun b => H.get_new h o b) (by rw [H.next_new]; omega) (by rw [H.next_new]; omega) (H.facts_new h o) ho, Later.alloc hr, by simp [Mp.set]⟩

theorem push_modify {α : Type} (xs : Array α) (a : α) (f : α → α) : (xs.push a).modify xs.size f = xs.push (f a) := by
  apply Array.ext_getElem?
  intro i
  rw [Array.getElem?_modify, Array.getElem?_push, Array.getElem?_push]
  by_cases hi : i = xs.size
  · subst hi; simp
  · rw [if_neg (fun h => hi h.symm), if_neg hi, if_neg hi]

theorem toBytes_acts (hr : HRel B w0 M h w) {ρ : Env} {ρ' : Operand → Value} {src dst : TypeId} {x : Operand} {nx : ANext} (hρ : EnvRel M ρ ρ' (Op.convert src dst x).operands) (e : valA (toBytesA P h src dst (ρ x)) = some nx) (o : Oper) (ho : o.op = .convert src dst x) :
    Acts P B w0 M h w (execOp ρ' o) nx := by
  unfold valA at e
  split at e
  case h_2 => cases e
  rename_i v h' hst
  injection e with e; subst e
  unfold toBytesA at hst
  split at hst
  case h_2 => cases hst
  rename_i s hx
  split at hst
  case h_1 => cases hst
  rename_i sd hsd
  split at hst
  case h_2 => cases hst
  rename_i el hu
  split at hst
  case h_2 => cases hst
  rename_i hel
  injection hst with hst; injection hst with e1 e2; subst e1 e2
  have h1 := tr_str (hρ x (by simp [Op.operands]) _ hx)
  obtain ⟨dd, op, ty, pos, after, guard⟩ := o
  simp only at ho; subst ho
  let cap := (Question.appendCap (⟨s.toArray⟩ : ByteArray).size 0 el).cut (w.tape w.drawn (.appendCap (⟨s.toArray⟩ : ByteArray).size 0 el))
  let arr : Array Value := ((⟨s.toArray⟩ : ByteArray).data.map fun b => .int .u8 b.toNat) ++ Array.replicate (cap - (⟨s.toArray⟩ : ByteArray).size) (.int .u8 0)
  have hsz : (⟨s.toArray⟩ : ByteArray).size = s.length := by simp [ByteArray.size]
  have hcap : s.length ≤ cap := by
    show s.length ≤ (⟨s.toArray⟩ : ByteArray).size + _
    rw [hsz]; omega
  have harr : arr.size = cap := by
    show (_ ++ _ : Array Value).size = _
    simp only [Array.size_append, Array.size_map, Array.size_replicate, hsz, List.size_toArray]; omega
  have hrun : (convert src dst (.string ⟨s.toArray⟩)).run P w = .ok (.slice (some ⟨w.heap.size, 0, none⟩) s.length cap) { ({ w with drawn := w.drawn + 1 } : World) with heap := w.heap.push (.cells arr el (arr.size, arr.size + 1)) } := by
    have hc : (convert src dst (.string ⟨s.toArray⟩)).run P w = (Conv.stringToBytes el ⟨s.toArray⟩).run P w := by
      cases sd <;> simp [convert, run_underlying hsd, run_underlying hu, run_underlying hel]
    rw [hc]
    unfold Conv.stringToBytes
    simp only [Sem.run_bind, run_choose, Question.forced, Bool.false_eq_true, if_false, Result.andThen_ok, newRow, run_newObj, Sem.run_pure, markStringish, run_shape]
    have hshape : ({ ({ w with drawn := w.drawn + 1 } : World) with heap := w.heap.push (.cells arr el) } : World).shape? w.heap.size = some (el, arr.size) := by
      simp [World.shape?]
    show ((match ({ ({ w with drawn := w.drawn + 1 } : World) with heap := w.heap.push (.cells arr el) } : World).shape? w.heap.size with
      | some (_, n) => freeze { block := w.heap.size, off := n } 1
      | x => Pure.pure ()).run P { ({ w with drawn := w.drawn + 1 } : World) with heap := w.heap.push (.cells arr el) }).andThen _ = _
    rw [hshape]
    simp only [run_freeze, Result.andThen_ok, World.freeze, hsz]
    rw [if_neg (by omega), push_modify]
    simp
    simp only [cap, hsz]
  obtain ⟨hr', hl, hat⟩ := (hr.drew (w.drawn + 1)).allocNew (o := .cells (s.map fun b => .int .u8 b.toNat) (some 1) true) (ob := .cells arr el (arr.size, arr.size + 1)) (cap := cap) (by
    refine ⟨arr, el, _, rfl, fun i av hi => ?_, ⟨?_, ?_⟩, .inr ⟨rfl, Nat.le_refl _⟩⟩
    · rw [List.getElem?_map] at hi
      cases hsi : s[i]? with
      | none => rw [hsi] at hi; cases hi
      | some b =>
        rw [hsi] at hi; simp at hi; subst hi
        have hlt : i < s.length := (List.getElem?_eq_some_iff.1 hsi).1
        refine ⟨.int .u8 b.toNat, ?_, rfl⟩
        show (_ ++ _ : Array Value)[0 + i]? = _
        rw [Nat.zero_add, Array.getElem?_append_left (by simpa using hlt)]
        simp [hsi]
    · rw [harr]; simpa using hcap
    · rw [harr]; simp)
  refine ⟨_, _, .value (.slice (some ⟨w.heap.size, 0, none⟩) s.length cap), ?_, hr', hl, _, ?_, rfl⟩
  · simp only [execOp, Sem.run_bind, h1, hrun, Result.andThen_ok, Sem.run_pure]
  · simp only [AV.tr, hat]; simp


theorem len_run {x : AV} {x' : Value} {n : Nat} (e : lenA x = some n) (hx : x.tr M = some x') : (Builtin.lenOf x').run P w = .ok n w := by
  unfold lenA at e
  split at e
  · injection e with e; subst e; simp [AV.tr] at hx; subst hx; simp [Builtin.lenOf]
  · injection e with e; subst e; obtain ⟨p, _, rfl⟩ := tr_slice0 hx; simp [Builtin.lenOf]
  · injection e with e; subst e; obtain ⟨p, _, rfl⟩ := tr_slice hx; simp [Builtin.lenOf]
  · injection e with e; subst e; rw [tr_str hx]; simp [Builtin.lenOf]; rfl
  · cases e

theorem first_run (hr : HRel B w0 M h w) {x : AV} {x' : Value} {size n : Nat} {l : List AV} (e : firstA h size n x = some l) (hx : x.tr M = some x') :
    ∃ xs, AV.trs M l = some xs ∧ (Builtin.firstCells size n x').run P w = .ok xs.toArray w := by
  unfold firstA at e
  split at e
  · injection e with e; subst e; simp [AV.tr] at hx; subst hx; exact ⟨[], rfl, by simp [Builtin.firstCells]⟩
  · split at e
    case isFalse => cases e
    rename_i hn; subst hn
    injection e with e; subst e; obtain ⟨p, _, rfl⟩ := tr_slice0 hx
    exact ⟨[], rfl, by simp [Builtin.firstCells, loadCells, loadCellsFrom]⟩
  · obtain ⟨p, hp, rfl⟩ := tr_slice hx
    split at e
    · rename_i hz
      injection e with e; subst e
      exact ⟨[], rfl, by simp [Builtin.firstCells, hz, loadCells, loadCellsFrom]⟩
    · obtain ⟨xs, hxs, _, hrun⟩ := hr.loads (P := P) e hp
      exact ⟨xs, hxs, by simp [Builtin.firstCells, hrun]⟩
  · rename_i s
    injection e with e; subst e
    rw [tr_str hx]
    have : AV.trs M ((s.take n).map fun x => AV.int .u8 x.toNat) = some ((s.take n).map fun x => Value.int .u8 x.toNat) := by
      generalize s.take n = t
      induction t with
      | nil => rfl
      | cons a t ih => exact AV.trs_cons.2 ⟨_, _, rfl, ih, rfl⟩
    refine ⟨_, this, ?_⟩
    simp only [Builtin.firstCells, Sem.run_pure]
    congr 1
    apply Array.ext'
    rw [ByteArray.data_extract]
    simp [List.extract_eq_take_drop]
  · cases e

theorem set_set {α : Type} (xs : Array α) (b : Nat) (x y : α) : (xs.setIfInBounds b x).setIfInBounds b y = xs.setIfInBounds b y := by
  apply Array.ext_getElem?
  intro i
  simp only [Array.getElem?_setIfInBounds, Array.size_setIfInBounds]
  split <;> rfl

/-- Scalars are stored into a block's cells that are there, and are not frozen. -/
theorem raw_stores {b : Nat} {e : TypeId} {fr : Nat × Nat} : ∀ (xs : List Value) (off j : Nat) (c : Array Value) (w : World), w.heap[b]? = some (.cells c e fr) → off + j + xs.length ≤ c.size → (fr.2 ≤ fr.1 ∨ c.size ≤ fr.1) → (∀ x ∈ xs, isCell x = true) →
    ∃ c' : Array Value, (storeCells ⟨b, off, none⟩ xs j).run P w = .ok () { w with heap := w.heap.setIfInBounds b (.cells c' e fr) } ∧ c'.size = c.size ∧ ∀ i : Nat, c'[i]? = if off + j ≤ i ∧ i < off + j + xs.length then xs[i - (off + j)]? else c[i]?
  | [], off, j, c, w, hb, _, _, _ => by
    refine ⟨c, ?_, rfl, fun i => by rw [if_neg (by simp)]⟩
    have : w.heap.setIfInBounds b (.cells c e fr) = w.heap := by
      apply Array.ext_getElem?
      intro i
      rw [Array.getElem?_setIfInBounds]
      split
      · subst_vars
        split
        · exact hb.symm
        · rename_i hlt; rw [Array.getElem?_eq_none (by omega)]
      · rfl
    rw [this]; rfl
  | x :: xs, off, j, c, w, hb, hl, hf, hx => by
    simp only [List.length_cons] at hl
    have hlt : off + j < c.size := by omega
    have hcell : w.cell? ⟨b, off + j, none⟩ = some c[off + j] := by simp [World.cell?, hb, hlt]
    have hfz : w.frozen? ⟨b, off + j, none⟩ = false := by
      obtain ⟨lo, hi⟩ := fr
      simp only [World.frozen?, hb]
      rcases hf with hf | hf <;> simp at hf ⊢ <;> omega
    have hbl : b < w.heap.size := (Array.getElem?_eq_some_iff.1 hb).1
    have hset : w.setCell ⟨b, off + j, none⟩ x = { w with heap := w.heap.setIfInBounds b (.cells (c.setIfInBounds (off + j) x) e fr) } := by
      unfold World.setCell
      congr 1
      apply Array.ext_getElem?
      intro i
      rw [Array.getElem?_modify, Array.getElem?_setIfInBounds]
      by_cases hi : b = i
      · subst hi
        have hbb := (Array.getElem?_eq_some_iff.1 hb).2
        simp [hbl, hbb]
      · simp [hi]
    obtain ⟨c', h1, h2, h3⟩ := raw_stores (e := e) (fr := fr) xs off (j + 1) (c.setIfInBounds (off + j) x) { w with heap := w.heap.setIfInBounds b (.cells (c.setIfInBounds (off + j) x) e fr) }
      (by show (w.heap.setIfInBounds b _)[b]? = _; rw [Array.getElem?_setIfInBounds]; simp [hbl]) (by simp; omega) (by simpa using hf) (fun y hy => hx y (by simp [hy]))
    refine ⟨c', ?_, by simpa using h2, fun i => ?_⟩
    · simp only [storeCells, Sem.run_bind]
      rw [add_plain, run_store _ _ _ _ _ (by have := hx x (by simp); cases x <;> first | rfl | cases this), hcell]
      simp only [hfz, Bool.false_eq_true, if_false, Result.andThen_ok]
      rw [hset, h1]
      simp only [set_set]
    · rw [h3 i]
      by_cases hc : off + (j + 1) ≤ i ∧ i < off + (j + 1) + xs.length
      · rw [if_pos hc, if_pos (by simp; omega), show i - (off + j) = (i - (off + (j + 1))) + 1 from by omega, List.getElem?_cons_succ]
      · rw [if_neg hc, Array.getElem?_setIfInBounds]
        by_cases hi : off + j = i
        · subst hi; rw [if_pos rfl, if_pos hlt]; simp
        · rw [if_neg hi, if_neg (by simp; omega)]
end Go.AM
