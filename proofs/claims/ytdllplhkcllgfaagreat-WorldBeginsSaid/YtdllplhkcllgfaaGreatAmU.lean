/- Regions whose order is open: what has been read ahead is what the model reads. Nothing is assumed. -/
import Derived.Test.YtdllplhkcllgfaaGreatAmT
namespace Go.AM

variable {B : Nat → Prop} {w0 : World} {M : Mp} {h : H} {w : World} {P : Program} {ops : Array Oper}

mutual
theorem AV.beq_sound : ∀ (a b : AV), AV.beq a b = true → a = b
  | .bool a, b, e => by cases b <;> simp [AV.beq] at e; rw [e]
  | .int k n, b, e => by cases b <;> simp [AV.beq] at e; rw [e.1, e.2]
  | .str s, b, e => by cases b <;> simp [AV.beq] at e; rw [e]
  | .nilp, b, e => by cases b <;> simp [AV.beq] at e; rfl
  | .ptr x y, b, e => by cases b <;> simp [AV.beq] at e; rw [e.1, e.2]
  | .nils, b, e => by cases b <;> simp [AV.beq] at e; rfl
  | .slice .., b, e => by cases b <;> simp [AV.beq] at e; obtain ⟨⟨⟨⟨h1, h2⟩, h3⟩, h4⟩, h5⟩ := e; rw [h1, h2, h3, h4, h5]
  | .slice0 .., b, e => by cases b <;> simp [AV.beq] at e; obtain ⟨⟨⟨⟨⟨h1, h2⟩, h3⟩, h4⟩, h5⟩, h6⟩ := e; rw [h1, h2, h3, h4, h5, h6]
  | .sliceS .., b, e => by cases b <;> simp [AV.beq] at e; obtain ⟨⟨h1, h2⟩, h3⟩ := e; rw [h1, h2, h3]
  | .nilm, b, e => by cases b <;> simp [AV.beq] at e; rfl
  | .map _, b, e => by cases b <;> simp [AV.beq] at e; rw [e]
  | .nilf, b, e => by cases b <;> simp [AV.beq] at e; rfl
  | .fn f a c, b, e => by
    cases b with
    | fn g x y =>
      cases f <;> cases g <;> simp [AV.beq] at e
      rw [e.1.1, AV.beqs_sound a x e.1.2, AV.beqs_sound c y e.2]
    | _ => cases f <;> simp [AV.beq] at e
  | .yld _, b, e => by cases b <;> simp [AV.beq] at e; rw [e]
  | .nili, b, e => by cases b <;> simp [AV.beq] at e; rfl
  | .iface t v, b, e => by
    cases b <;> simp [AV.beq] at e
    rw [e.1, AV.beq_sound v _ e.2]
  | .agg cs, b, e => by cases b <;> simp [AV.beq] at e; rw [AV.beqs_sound cs _ e]
  | .tuple cs, b, e => by cases b <;> simp [AV.beq] at e; rw [AV.beqs_sound cs _ e]
  | .sym _, b, e => by cases b <;> simp [AV.beq] at e; rw [e]
theorem AV.beqs_sound : ∀ (a b : List AV), AV.beqs a b = true → a = b
  | [], [], _ => rfl
  | [], _ :: _, e => by simp [AV.beqs] at e
  | _ :: _, [], e => by simp [AV.beqs] at e
  | a :: as, b :: bs, e => by
    simp only [AV.beqs, Bool.and_eq_true] at e
    rw [AV.beq_sound a b e.1, AV.beqs_sound as bs e.2]
end

theorem objEq_sound {o o' : AObj} (e : objEq o o' = true) : o = o' := by
  unfold objEq at e
  split at e
  · simp only [Bool.and_eq_true, beq_iff_eq] at e
    rw [AV.beqs_sound _ _ e.1.1, e.1.2, e.2]
  · simp only [beq_iff_eq] at e; rw [e]
  · cases e

theorem mk_id {ρ : Env} {op : Op} {obj : AObj} {f : Nat → AV} (e : mkA P ρ op = some (obj, f)) (id : Nat) : ∀ b, idOf (f id) = some b → b = id := by
  intro b hb
  unfold mkA at e
  split at e
  · unfold allocA at e
    split at e <;> try cases e
    split at e <;> cases e
    simpa [idOf] using hb.symm
  · unfold boxA at e
    split at e <;> try cases e
    split at e <;> cases e
    simpa [idOf] using hb.symm
  · unfold buildSliceA at e
    repeat' (split at e <;> try cases e)
    simpa [idOf] using hb.symm
  · cases e; simpa [idOf] using hb.symm
  · unfold makeSliceA at e
    repeat' (split at e <;> try cases e)
    simpa [idOf] using hb.symm
  · cases e

theorem HRel.reserve (hr : HRel B w0 M h w) (o : AObj) : HRel B w0 M (h.new o) w := by
  have hne : ∀ b p, M.at_ b = some p → b ≠ h.next := fun b p hp e => by
    have := (hr.fresh b (by omega)).1; rw [this] at hp; cases hp
  refine ⟨?_, ?_, hr.lo, ?_, hr.keep, hr.size, hr.tape, hr.os, hr.output, hr.env, by rw [H.facts_new]; exact hr.facts⟩
  · intro b o' p hb hp
    rw [H.get_new, if_neg (hne b p hp)] at hb
    exact hr.obj b o' p hb hp
  · intro b b' p p' hp hp' hs hs' heq
    rw [H.get_new, if_neg (hne b p hp)] at hs
    rw [H.get_new, if_neg (hne b' p' hp')] at hs'
    exact hr.inj b b' p p' hp hp' hs hs' heq
  · intro b hb
    rw [H.next_new] at hb
    have := hr.fresh b (by omega)
    refine ⟨this.1, ?_⟩
    rw [H.get_new, if_neg (by omega)]; exact this.2

def makesAt (P : Program) (ops : Array Oper) (i : Nat) : Bool := match ops[i]? with | some o => (match kindA P o.op with | .make => true | _ => false) | none => false

def oldAt (P : Program) (ops : Array Oper) (done : List Nat) (i : Nat) : Bool := (nth (oldA P ops done) i).getD false

def pend1 (P : Program) (ops : Array Oper) (E : Nat → Bool) (tmps : T AV) (i : Nat) : Option Nat :=
  if E i && makesAt P ops i then (dstAt ops i).bind fun d => (tmps.get d).bind idOf else none

def openSlot (ops : Array Oper) (E : Nat → Bool) (rest : List Nat) (s : Nat) : Prop := ∃ i ∈ rest, E i = true ∧ dstAt ops i = some s

def SlotsRel (M : Mp) (ops : Array Oper) (E : Nat → Bool) (rest : List Nat) (tmps : T AV) (n : Nat) (c : Array Value) : Prop :=
  c.size = n ∧ ∀ s, openSlot ops E rest s ∨ ((tmps.get s).getD undefA).tr M = some (c.getD s undef)

theorem SlotsRel.mono {M' : Mp} {E : Nat → Bool} {rest : List Nat} {tmps : T AV} {n : Nat} {c : Array Value} (hle : M.Gr M') (hs : SlotsRel M ops E rest tmps n c) : SlotsRel M' ops E rest tmps n c :=
  ⟨hs.1, fun s => (hs.2 s).imp id (AV.tr_mono hle _ _)⟩

/-- The names that have no place yet; Z: the others'. -/
structure Pend (M : Mp) (h : H) (Z : Nat → Prop) (P : Program) (ops : Array Oper) (E : Nat → Bool) (tmps : T AV) (rest : List Nat) : Prop where
  lt : ∀ j ∈ rest, ∀ b, pend1 P ops E tmps j = some b → b < h.next ∧ M.at_ b = none ∧ ¬ Z b
  inj : ∀ i ∈ rest, ∀ j ∈ rest, ∀ b, pend1 P ops E tmps i = some b → pend1 P ops E tmps j = some b → i = j

theorem evalA_rel {tmps : T AV} {ev : Operand → Value} {c : Array Value} (hev : ∀ x, ev x = match x with
    | .tmp t => c.getD t undef | .const v => v | .global g => .pointer (some ⟨g, 0, none⟩) | .func f => .func (.func f) #[] #[]) {xs : Array Operand}
    (hs : ∀ t, Operand.tmp t ∈ xs → ((tmps.get t).getD undefA).tr M = some (c.getD t undef)) : EnvRel M (evalA tmps) ev xs := by
  intro x hx a ha
  rw [hev]
  cases x with
  | tmp t => simp only [evalA] at ha; injection ha with ha; subst ha; exact hs t hx
  | const v => exact ofConst_tr ha M
  | global g => simp [evalA] at ha
  | func f => simp only [evalA] at ha; injection ha with ha; subst ha; simp [AV.tr, AV.trs]

theorem eval_frame (f : Frame) (x : Operand) : f.eval x = match x with
    | .tmp t => f.tmps.getD t undef | .const v => v | .global g => .pointer (some ⟨g, 0, none⟩) | .func f => .func (.func f) #[] #[] := by
  cases x <;> rfl

theorem tr_notBool {a : AV} {b : Bool} (ht : a.tr M = some (.bool b)) : a = .bool b ∨ ∃ i, a = .sym i := by
  cases a with
  | bool x => simp [AV.tr] at ht; subst ht; exact .inl rfl
  | sym i => exact .inr ⟨i, rfl⟩
  | ptr => simp only [AV.tr] at ht; split at ht <;> simp at ht
  | slice => simp only [AV.tr] at ht; split at ht <;> simp at ht
  | slice0 => simp only [AV.tr] at ht; split at ht <;> simp at ht
  | sliceS => simp only [AV.tr] at ht; split at ht <;> simp at ht
  | map => simp only [AV.tr] at ht; split at ht <;> simp at ht
  | yld => simp only [AV.tr] at ht; split at ht <;> simp at ht
  | iface => simp only [AV.tr] at ht; split at ht <;> simp at ht
  | agg => simp only [AV.tr] at ht; split at ht <;> simp at ht
  | tuple => simp only [AV.tr] at ht; split at ht <;> simp at ht
  | fn => simp only [AV.tr] at ht; split at ht <;> simp at ht
  | _ => simp [AV.tr] at ht

theorem wanted_rel {tmps : T AV} {c : Array Value} {o : Oper} {b : Bool}
    (hs : ∀ g wn d, o.guard = some (g, wn) → dstAt ops g = some d → ((tmps.get d).getD undefA).tr M = some (c.getD d undef)) (e : wantedA ops tmps o = some b) :
    Region.wanted o (yielded ops c) = b := by
  unfold wantedA at e
  unfold Region.wanted
  split at e
  · rename_i hg; injection e with e; rw [hg]; exact e
  · rename_i j want hg
    rw [hg]
    simp only
    split at e
    · rename_i hd
      injection e with e; subst e
      simp [yielded, hd]
    · rename_i d hd
      have hrel := hs j want d hg hd
      have hy : ∀ b, yielded ops c j = some b → c.getD d undef = .bool b := by
        intro b hb
        unfold yielded at hb
        rw [hd] at hb
        simp only [Option.bind_some] at hb
        split at hb
        · rename_i b' hc
          injection hb with hb; subst hb
          simp [hc]
        · cases hb
      split at e
      · rename_i b' hb
        injection e with e; subst e
        rw [hb] at hrel
        have hc : c.getD d undef = .bool b' := (tr_bool hrel).symm ▸ rfl
        have : yielded ops c j = some b' := by
          unfold yielded
          rw [hd]
          simp only [Option.bind_some]
          cases hx : c[d]? with
          | none => simp [hx, undef] at hc
          | some v => simp [hx] at hc; subst hc; rfl
        rw [this]; cases b' <;> cases want <;> rfl
      · cases e
      · rename_i h1 h2
        injection e with e; subst e
        cases hyl : yielded ops c j with
        | none => rfl
        | some b =>
          rw [hy b hyl] at hrel
          rcases tr_notBool hrel with h' | ⟨i, h'⟩
          · exact absurd h' (h1 b)
          · exact absurd h' (h2 i)

/-- One operation's step. -/
theorem stepG_oper {f : Frame} {cs : List Frame} {i : Nat} {rest : List Nat} {k : List Item} {o : Oper} (hm : f.mode = .run) (ht : f.todo = .inRegion ops (i :: rest) :: k) (ho : ops[i]? = some o)
    (hw : Region.wanted o (yielded ops f.tmps) = true) (hd : f.roundOf = none ∨ ∀ c, o.op ≠ .defer c) :
    stepG P true { frame := f, callers := cs, status := .running, dying := none } w = stepG.apply P true f cs none (execOp f.eval o) w := by
  obtain ⟨fn, tmps, todo, defers, mode, kind, ro⟩ := f
  simp only at hm ht hw hd
  subst hm ht
  simp only [stepG, stepG.exec, ho, Option.map_some, Option.getD_some, hw, if_true, stepG.oper, Frame.oper?]
  cases ro with
  | none => rfl
  | some l =>
    rcases hd with hd | hd
    · cases hd
    · split
      · rename_i c _ _ heq; exact absurd heq (hd _)
      · rfl

theorem finish_region {f : Frame} {i : Nat} {rest : List Nat} {k : List Item} (ht : f.todo = .inRegion ops (i :: rest) :: k) (v : Value) :
    f.finish v = { f with tmps := (match dstAt ops i with | some d => f.tmps.setIfInBounds d v | none => f.tmps), todo := .inRegion ops rest :: k } := by
  unfold Frame.finish
  rw [ht]
  simp only [dstAt]
  cases (ops[i]?).bind (fun x => x.dst) <;> rfl

theorem step_value {f : Frame} {cs : List Frame} {i : Nat} {rest : List Nat} {k : List Item} {o : Oper} {x : Value} {w' : World} (hm : f.mode = .run) (ht : f.todo = .inRegion ops (i :: rest) :: k) (ho : ops[i]? = some o)
    (hw : Region.wanted o (yielded ops f.tmps) = true) (hd : f.roundOf = none ∨ ∀ c, o.op ≠ .defer c) (hrun : (execOp f.eval o).run P w = .ok (.value x) w') :
    step P (lone f cs w) = .next (lone (f.finish x) cs w') :=
  step_lone_go (by rw [stepG_oper hm ht ho hw hd]; simp [stepG.apply, hrun])

theorem step_unwanted {f : Frame} {cs : List Frame} {i : Nat} {rest : List Nat} {k : List Item} {o : Oper} (hm : f.mode = .run) (ht : f.todo = .inRegion ops (i :: rest) :: k) (ho : ops[i]? = some o)
    (hw : Region.wanted o (yielded ops f.tmps) = false) : step P (lone f cs w) = .next (lone (f.finish undef) cs w) := by
  refine step_lone_go ?_
  obtain ⟨fn, tmps, todo, defers, mode, kind, ro⟩ := f
  simp only at hm ht hw
  subst hm ht
  simp [stepG, stepG.exec, ho, hw]

variable {chain done : List Nat} {Z : Nat → Prop}

/-- A slot is filled with what was promised. -/
theorem SlotsRel.fill {M' : Mp} {E : Nat → Bool} {i : Nat} {post : List Nat} {tmps : T AV} {n : Nat} {c : Array Value} {v : AV} {x : Value} (hs : SlotsRel M ops E (i :: post) tmps n c) (hle : M.Le M')
    (hd : ∀ d, dstAt ops i = some d → d < n ∧ (tmps.get d).getD undefA = v) (hx : v.tr M' = some x) :
    SlotsRel M' ops E post tmps n (match dstAt ops i with | some d => c.setIfInBounds d x | none => c) := by
  have hsz : (match dstAt ops i with | some d => c.setIfInBounds d x | none => c).size = n := by
    split
    · rw [Array.size_setIfInBounds]; exact hs.1
    · exact hs.1
  refine ⟨hsz, fun s => ?_⟩
  have old : ∀ (hne : dstAt ops i ≠ some s), openSlot ops E post s ∨ ((tmps.get s).getD undefA).tr M' = some (c.getD s undef) := by
    intro hne
    rcases hs.2 s with ⟨j, hj, hE, hdj⟩ | h1
    · rcases List.mem_cons.1 hj with h2 | h2
      · subst h2; exact absurd hdj hne
      · exact .inl ⟨j, h2, hE, hdj⟩
    · exact .inr (AV.tr_mono hle _ _ h1)
  cases hdi : dstAt ops i with
  | none => exact old (by rw [hdi]; simp)
  | some d =>
    by_cases hsd : s = d
    · subst hsd
      obtain ⟨h1, h2⟩ := hd s hdi
      right
      rw [h2, hx]
      have : s < c.size := by rw [hs.1]; exact h1
      simp [this]
    · rcases old (by rw [hdi]; simp; exact fun h => hsd h.symm) with h1 | h1
      · exact .inl h1
      · right; rw [h1]; simp [Ne.symm hsd]

theorem Pend.tail {E : Nat → Bool} {i : Nat} {post : List Nat} {tmps : T AV} {h' : H} {M' : Mp} (hp : Pend M h Z P ops E tmps (i :: post)) (hn : h.next ≤ h'.next)
    (hat : ∀ j ∈ post, ∀ b, pend1 P ops E tmps j = some b → M.at_ b = none → M'.at_ b = none) : Pend M' h' Z P ops E tmps post :=
  ⟨fun j hj b hb => let ⟨h1, h2, h3⟩ := hp.lt j (by simp [hj]) b hb; ⟨Nat.lt_of_lt_of_le h1 hn, hat j hj b hb h2, h3⟩,
   fun i' hi j hj b h1 h2 => hp.inj i' (by simp [hi]) j (by simp [hj]) b h1 h2⟩

theorem kind_acts {op : Op} (h : actsA P op = false) : kindA P op ≠ .act := by
  unfold actsA at h
  intro he
  rw [he] at h; cases h

/-- ONE OPERATION THAT WAS READ AHEAD is carried out. -/
theorem read_one {i : Nat} {post : List Nat} {o : Oper} {tmps : T AV} {n : Nat} {f : Frame} {k : List Item} (s : Stand P ops chain done (i :: post)) (ho : ops[i]? = some o) (ha : actsA P o.op = false)
    (hr : HRel B w0 M h w) (hs : SlotsRel M ops (eligAt P ops done) (i :: post) tmps n f.tmps) (hp : Pend M h Z P ops (eligAt P ops done) tmps (i :: post))
    (hv : validA P ops n tmps h i = true) (hm : f.mode = .run) (ht : f.todo = .inRegion ops (i :: post) :: k) :
    ∃ M' c' w', (∀ cs, step P (lone f cs w) = .next (lone { f with tmps := c', todo := .inRegion ops post :: k } cs w')) ∧ M.Le M' ∧ HRel B w0 M' h w' ∧
      SlotsRel M' ops (eligAt P ops done) post tmps n c' ∧ Pend M' h Z P ops (eligAt P ops done) tmps post ∧
      (∀ b, M.at_ b = none → pend1 P ops (eligAt P ops done) tmps i ≠ some b → M'.at_ b = none) := by
  have hel := s.head_elig ho ha
  have hslot : ∀ t ∈ looks ops o, ((tmps.get t).getD undefA).tr M = some (f.tmps.getD t undef) := by
    intro t htl
    rcases hs.2 t with ⟨j, hj, hE, hd⟩ | h1
    · exact absurd hd (s.head_looks ho htl hj hE)
    · exact h1
  have hρ : EnvRel M (evalA tmps) f.eval o.op.operands := evalA_rel (eval_frame f) fun t hto => hslot t (by
    unfold looks tmpsOf
    exact List.mem_append_left _ (List.mem_filterMap.2 ⟨.tmp t, by simpa using hto, rfl⟩))
  have hg : ∀ b, wantedA ops tmps o = some b → Region.wanted o (yielded ops f.tmps) = b := fun b hb => wanted_rel (fun g wn d hgu hdg => hslot d (by
    unfold looks
    refine List.mem_append_right _ ?_
    rw [hgu]
    simp only [dstAt] at hdg
    simp [hdg])) hb
  have hdef : f.roundOf = none ∨ ∀ c, o.op ≠ .defer c := .inr (by
    intro c hc; rw [hc] at ha; simp [actsA, kindA] at ha)
  have hdo : dstAt ops i = o.dst := by simp [dstAt, ho]
  -- what is at the slot
  have hagain : ∀ v, againA n (some v) tmps o.dst = true → ∀ d, dstAt ops i = some d → d < n ∧ (tmps.get d).getD undefA = v := by
    intro v hav d hd
    rw [hdo] at hd
    unfold againA at hav
    rw [hd] at hav
    simp only at hav
    split at hav
    · rename_i hlt
      split at hav
      · rename_i v' hv'
        have := AV.beq_sound _ _ hav
        subst this
        exact ⟨by simpa using hlt, by rw [hv']; rfl⟩
      · cases hav
    · cases hav
  have htail := hp.tail (M' := M) (Nat.le_refl _) (fun _ _ _ _ h1 => h1)
  unfold validA at hv
  rw [ho] at hv
  simp only at hv
  split at hv
  · cases hv
  · rename_i hwn
    refine ⟨M, _, w, fun cs => ?_, .refl M, hr, hs.fill (.refl M) (hagain _ hv) (by rfl), htail, fun b h1 _ => h1⟩
    rw [step_unwanted hm ht ho (hg _ hwn), finish_region ht]; rfl
  · rename_i hwn
    split at hv
    · rename_i hk
      cases hrd : readA P h (evalA tmps) o.op with
      | none => rw [hrd] at hv; simp [againA] at hv
      | some v =>
        rw [hrd] at hv
        obtain ⟨x, hx, hrun⟩ := read_sound hr hρ hrd
        refine ⟨M, _, w, fun cs => ?_, .refl M, hr, hs.fill (.refl M) (hagain _ hv) hx, htail, fun b h1 _ => h1⟩
        rw [step_value hm ht ho (hg _ hwn) hdef (hrun o rfl), finish_region ht]
    · rename_i hk
      split at hv
      case h_2 => cases hv
      rename_i obj fv hmk
      split at hv
      case h_2 => cases hv
      rename_i d hd
      split at hv
      case h_2 => cases hv
      rename_i hlt
      split at hv
      case h_2 => cases hv
      rename_i v hgv
      split at hv
      case h_2 => cases hv
      rename_i id hid
      split at hv
      case h_2 => cases hv
      rename_i obj' hob'
      rw [Bool.and_eq_true] at hv
      have hve := AV.beq_sound _ _ hv.1
      have hoe := objEq_sound hv.2
      subst hoe
      obtain ⟨ob, cap, hob, x, hx, hrun⟩ := mk_sound hr hρ hmk
      have hmi : makesAt P ops i = true := by unfold makesAt; rw [ho]; simp only [hk]
      have hpi : pend1 P ops (eligAt P ops done) tmps i = some id := by
        unfold pend1
        rw [hel, hmi, hdo, hd]
        simp [hgv, hid]
      obtain ⟨hlt', hat, hz⟩ := hp.lt i (by simp) id hpi
      have hle := Mp.set_le (p := ⟨w.heap.size, 0, cap⟩) hat
      have hr' := hr.alloc (h' := h) (o := obj) (ob := ob) (cap := cap) hat (fun b => by
        by_cases e : b = id
        · subst e; simp [hob']
        · simp [e]) (Nat.le_refl _) hlt' rfl (hob id _ hle (by simp [Mp.set]))
      refine ⟨_, _, _, fun cs => ?_, hle, hr', hs.fill hle (v := v) (x := x) (fun d' hd' => ?_) (by rw [hve]; exact hx id _ (by simp [Mp.set])), ?_, ?_⟩
      · rw [step_value hm ht ho (hg _ hwn) hdef (hrun o rfl), finish_region ht]
      · rw [hdo, hd] at hd'; injection hd' with hd'; subst hd'
        exact ⟨by simpa using hlt, by rw [hgv]; rfl⟩
      · refine hp.tail (Nat.le_refl _) fun j hj b hb h1 => ?_
        have : b ≠ id := by
          rintro rfl
          have := hp.inj i (by simp) j (by simp [hj]) b hpi hb
          subst this
          exact (List.nodup_cons.1 s.nodup).1 hj
        simp [Mp.set, this, h1]
      · intro b h1 h2
        have : b ≠ id := by rintro rfl; exact h2 hpi
        simp [Mp.set, this, h1]
    · cases hv

/-- ALL THAT COMES BEFORE THE NEXT THAT ACTS is carried out. -/
theorem read_all {tmps : T AV} {n : Nat} {k : List Item} : ∀ (rest : List Nat) (M : Mp) (w : World) (f : Frame), Stand P ops chain done rest →
    HRel B w0 M h w → SlotsRel M ops (eligAt P ops done) rest tmps n f.tmps → Pend M h Z P ops (eligAt P ops done) tmps rest →
    (∀ i ∈ rest, eligAt P ops done i = true → validA P ops n tmps h i = true) → f.mode = .run → f.todo = .inRegion ops rest :: k →
    ∃ M' c' w' rest', (∀ cs, Steps P (lone f cs w) (lone { f with tmps := c', todo := .inRegion ops rest' :: k } cs w')) ∧ M.Le M' ∧ HRel B w0 M' h w' ∧
      SlotsRel M' ops (eligAt P ops done) rest' tmps n c' ∧ Pend M' h Z P ops (eligAt P ops done) tmps rest' ∧ Stand P ops chain done rest' ∧
      (∀ b, M.at_ b = none → Z b → M'.at_ b = none) ∧ (rest' = [] ∨ ∃ i c post, chain = i :: c ∧ rest' = i :: post)
  | [], M, w, f, s, hr, hs, hp, _, hm, ht => by
    refine ⟨M, f.tmps, w, [], fun cs => ?_, .refl M, hr, hs, hp, s, fun _ h1 _ => h1, .inl rfl⟩
    rw [← ht]; exact .refl _ _
  | i :: post, M, w, f, s, hr, hs, hp, hv, hm, ht => by
    have hi := s.lt i (by simp)
    have ho : ops[i]? = some ops[i] := Array.getElem?_eq_getElem hi
    cases ha : actsA P ops[i].op with
    | true =>
      obtain ⟨c, hc⟩ := s.head_act ho ha
      refine ⟨M, f.tmps, w, i :: post, fun cs => ?_, .refl M, hr, hs, hp, s, fun _ h1 _ => h1, .inr ⟨i, c, post, hc, rfl⟩⟩
      rw [← ht]; exact .refl _ _
    | false =>
      obtain ⟨M1, c1, w1, h1, h2, h3, h4, h5, h6⟩ := read_one s ho ha hr hs hp (hv i (by simp) (s.head_elig ho ha)) hm ht
      have hic : i ∉ chain := fun h => by
        have : i ∈ actList P ops := by rw [s.acts]; exact List.mem_append_right _ h
        obtain ⟨o, ho', ha'⟩ := mem_actList.1 this
        rw [ho] at ho'; cases ho'
        rw [ha] at ha'; cases ha'
      obtain ⟨M2, c2, w2, rest', g1, g2, g3, g4, g5, g6, g7, g8⟩ := read_all post M1 w1 { f with tmps := c1, todo := .inRegion ops post :: k } (s.tail hic) h3 h4 h5 (fun j hj => hv j (by simp [hj])) hm rfl
      refine ⟨M2, c2, w2, rest', fun cs => .head (h1 cs) (g1 cs), h2.trans g2, g3, g4, g5, g6, fun b hb hz => g7 b (h6 b hb (fun hpb => ?_)) hz, g8⟩
      exact (hp.lt i (by simp) b hpb).2.2 hz

/-! What a batch does. -/

theorem mem_trueAt {l : List Bool} {i : Nat} : i ∈ trueAt l ↔ (nth l i).getD false = true := by
  unfold trueAt
  simp only [List.mem_map, List.mem_filter, nth_eq]
  constructor
  · rintro ⟨⟨b, j⟩, ⟨h1, h2⟩, rfl⟩
    rw [List.mem_zipIdx_iff_getElem?] at h1
    simp only at h1 h2
    rw [h1]; exact h2
  · intro h
    cases hl : l[i]? with
    | none => rw [hl] at h; cases h
    | some b =>
      rw [hl] at h
      simp at h; subst h
      exact ⟨(true, i), ⟨by rw [List.mem_zipIdx_iff_getElem?]; exact hl, rfl⟩, rfl⟩

theorem putA_spec {n : Nat} {t t' : T AV} {dst : Option Tmp} {v : AV} (e : putA n t dst v = some t') : (∀ j, t'.get j = if dst = some j then some v else t.get j) ∧ ∀ d, dst = some d → d < n := by
  unfold putA at e
  split at e
  · injection e with e; subst e; simp
  · rename_i d
    split at e
    · rename_i hlt
      injection e with e; subst e
      refine ⟨fun j => ?_, fun d' hd => by injection hd with hd; subst hd; simpa using hlt⟩
      rw [T.get_put]
      by_cases hj : j = d
      · subst hj; simp
      · simp [hj, Ne.symm hj]
    · cases e

structure BatchInv (B : Nat → Prop) (w0 : World) (M : Mp) (w : World) (Z : Nat → Prop) (P : Program) (ops : Array Oper) (E E' : Nat → Bool) (rest : List Nat) (n : Nat) (c : Array Value) (tmps : T AV) (h : H) : Prop where
  heap : HRel B w0 M h w
  slots : SlotsRel M ops E' rest tmps n c
  pend : Pend M h Z P ops E tmps rest

theorem batch_put {E E' : Nat → Bool} {rest : List Nat} {n : Nat} {c : Array Value} {tmps t' : T AV} {h h' : H} {i : Nat} {v : AV} (ok : DrawnOk P ops) (hb : BatchInv B w0 M w Z P ops E E' rest n c tmps h)
    (hput : putA n tmps (dstAt ops i) v = some t') (hheap : HRel B w0 M h' w) (hn : h.next ≤ h'.next) (hi : i ∈ rest) (hE : E i = false) (hE' : E' i = true)
    (hz : ∀ b, Z b → b < h.next) (hnew : ∀ b, makesAt P ops i = true → idOf v = some b → b = h.next ∧ b < h'.next) :
    BatchInv B w0 M w Z P ops (fun j => E j || j == i) E' rest n c t' h' := by
  obtain ⟨hg, hlt⟩ := putA_spec hput
  have hother : ∀ j, j ≠ i → pend1 P ops (fun j => E j || j == i) t' j = pend1 P ops E tmps j := by
    intro j hj
    unfold pend1
    have h1 : (E j || j == i) = E j := by simp [hj]
    simp only [h1]
    split
    · cases hd : dstAt ops j with
      | none => rfl
      | some d =>
        simp only [Option.bind_some]
        rw [hg]
        have : dstAt ops i ≠ some d := fun h => hj (ok.apart j i d hd h)
        simp [this]
    · rfl
  have hself : ∀ b, pend1 P ops (fun j => E j || j == i) t' i = some b → b = h.next ∧ b < h'.next := by
    intro b hb'
    unfold pend1 at hb'
    split at hb'
    · rename_i hcond
      simp only [Bool.and_eq_true] at hcond
      cases hd : dstAt ops i with
      | none => rw [hd] at hb'; simp at hb'
      | some d =>
        rw [hd] at hb'
        simp only [Option.bind_some, hg, hd, if_true] at hb'
        exact hnew b hcond.2 hb'
    · cases hb'
  refine ⟨hheap, ⟨hb.slots.1, fun s => ?_⟩, ⟨fun j hj b hpb => ?_, fun j hj k hk b h1 h2 => ?_⟩⟩
  · rw [hg]
    by_cases hs : dstAt ops i = some s
    · exact .inl ⟨i, hi, hE', hs⟩
    · rw [if_neg hs]; exact hb.slots.2 s
  · by_cases hji : j = i
    · subst hji
      obtain ⟨h1, h2⟩ := hself b hpb
      exact ⟨h2, (hb.heap.fresh b (by omega)).1, fun h3 => by have := hz b h3; omega⟩
    · rw [hother j hji] at hpb
      obtain ⟨h1, h2⟩ := hb.pend.lt j hj b hpb
      exact ⟨by omega, h2⟩
  · by_cases hji : j = i
    · subst hji
      by_cases hki : k = j
      · exact hki.symm
      · rw [hother k hki] at h2
        have := (hself b h1).1
        have := (hb.pend.lt k hk b h2).1
        omega
    · by_cases hki : k = i
      · subst hki
        rw [hother j hji] at h1
        have := (hself b h2).1
        have := (hb.pend.lt j hj b h1).1
        omega
      · rw [hother j hji] at h1
        rw [hother k hki] at h2
        exact hb.pend.inj j hj k hk b h1 h2

theorem BatchInv.congr {E F E' : Nat → Bool} {rest : List Nat} {n : Nat} {c : Array Value} {tmps : T AV} {h : H} (hb : BatchInv B w0 M w Z P ops E E' rest n c tmps h) (he : ∀ j, F j = E j) : BatchInv B w0 M w Z P ops F E' rest n c tmps h := by
  have : F = E := funext he
  rw [this]; exact hb

theorem batchA_inv {E' : Nat → Bool} {rest : List Nat} {n : Nat} {c : Array Value} {old : List Bool} (ok : DrawnOk P ops) (hel : ∀ i, (nth old i).getD false = false → E' i = true → i ∈ rest) :
    ∀ (l : List Nat) (E : Nat → Bool) (tmps : T AV) (h : H) (tmps' : T AV) (h' : H), l.Nodup → (∀ i ∈ l, E' i = true) → (∀ i ∈ l, (nth old i).getD false = false → E i = false) → (∀ i, (nth old i).getD false = true → E i = true) → (∀ b, Z b → b < h.next) →
      BatchInv B w0 M w Z P ops E E' rest n c tmps h → batchA P ops n old l tmps h = some (tmps', h') →
      BatchInv B w0 M w Z P ops (fun j => E j || l.contains j) E' rest n c tmps' h' ∧ h.next ≤ h'.next
  | [], E, tmps, h, tmps', h', _, _, _, _, _, hb, e => by
    simp only [batchA] at e
    injection e with e; injection e with e1 e2; subst e1 e2
    exact ⟨hb.congr (by simp), Nat.le_refl _⟩
  | i :: l, E, tmps, h, tmps', h', hnd, hl, hE, hold, hz, hb, e => by
    have hnd' := List.nodup_cons.1 hnd
    simp only [batchA] at e
    split at e
    · rename_i ho
      obtain ⟨h1, h2⟩ := batchA_inv ok hel l E tmps h tmps' h' hnd'.2 (fun j hj => hl j (by simp [hj])) (fun j hj => hE j (by simp [hj])) hold hz hb e
      refine ⟨h1.congr fun j => ?_, h2⟩
      by_cases hji : j = i
      · subst hji; simp [hold j ho]
      · simp [hji]
    · rename_i ho
      have ho' : (nth old i).getD false = false := by simpa using ho
      have hEi := hE i (by simp) ho'
      have hE'i := hl i (by simp)
      have hir := hel i ho' hE'i
      split at e
      case h_1 => cases e
      rename_i o hoi
      have hdo : dstAt ops i = o.dst := by simp [dstAt, hoi]
      have recur : ∀ (t1 : T AV) (h1 : H), h.next ≤ h1.next → BatchInv B w0 M w Z P ops (fun j => E j || j == i) E' rest n c t1 h1 → batchA P ops n old l t1 h1 = some (tmps', h') →
          BatchInv B w0 M w Z P ops (fun j => E j || (i :: l).contains j) E' rest n c tmps' h' ∧ h.next ≤ h'.next := by
        intro t1 h1 hn hb1 e1
        obtain ⟨g1, g2⟩ := batchA_inv ok hel l (fun j => E j || j == i) t1 h1 tmps' h' hnd'.2 (fun j hj => hl j (by simp [hj])) (fun j hj hoj => by
          have : j ≠ i := by rintro rfl; exact hnd'.1 hj
          simp [hE j (by simp [hj]) hoj, this]) (fun j hj => by simp [hold j hj]) (fun b hbz => by have := hz b hbz; omega) hb1 e1
        refine ⟨g1.congr fun j => ?_, by omega⟩
        rw [List.contains_cons, Bool.or_assoc]
      split at e
      · cases e
      · split at e
        case h_2 => cases e
        rename_i t1 ht1
        rw [← hdo] at ht1
        exact recur t1 h (Nat.le_refl _) (batch_put ok hb ht1 hb.heap (Nat.le_refl _) hir hEi hE'i hz (fun b _ hid => by simp [idOf, undefA] at hid)) e
      · split at e
        case h_2 => cases e
        rename_i t1 h1 hfr
        unfold firstReadA at hfr
        split at hfr
        · rename_i hk
          split at hfr
          case h_2 => cases hfr
          rename_i obj fv hmk
          split at hfr
          case h_2 => cases hfr
          rename_i t2 ht2
          injection hfr with hfr; injection hfr with e1 e2; subst e1 e2
          rw [← hdo] at ht2
          exact recur t2 _ (by rw [H.next_new]; omega) (batch_put ok hb ht2 (hb.heap.reserve obj) (by rw [H.next_new]; omega) hir hEi hE'i hz (fun b _ hid => by
            have := mk_id hmk h.next b hid
            subst this
            exact ⟨rfl, by rw [H.next_new]; omega⟩)) e
        · rename_i hk
          split at hfr
          case h_2 => cases hfr
          rename_i v hv
          split at hfr
          case h_2 => cases hfr
          rename_i t2 ht2
          injection hfr with hfr; injection hfr with e1 e2; subst e1 e2
          rw [← hdo] at ht2
          exact recur t2 h (Nat.le_refl _) (batch_put ok hb ht2 hb.heap (Nat.le_refl _) hir hEi hE'i hz (fun b hmi _ => by
            unfold makesAt at hmi; rw [hoi] at hmi; simp [hk] at hmi)) e
        · cases hfr
end Go.AM
