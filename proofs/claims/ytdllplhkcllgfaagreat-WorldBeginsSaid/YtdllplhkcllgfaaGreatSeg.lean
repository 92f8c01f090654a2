/- Runs in pieces: from one configuration to another; names that are no longer needed are struck. Nothing is assumed. -/
import Derived.Test.YtdllplhkcllgfaaGreatAmM
namespace Go.AM

def stepsM (P : Program) (X : Ext) (mem : Mem) : Nat → Cfg → Option Cfg
  | 0, c => some c
  | n + 1, c => match stepM P X mem c with
    | some c' => stepsM P X mem n c'
    | none => none

def restrict (t : T AObj) : List Nat → T AObj → T AObj
  | [], acc => acc
  | k :: ks, acc => restrict t ks (acc.put k (t.get k))

def keepC (ks : List Nat) : Cfg → Cfg
  | ⟨fs, ⟨t, n, q⟩⟩ => ⟨fs, ⟨restrict t ks .e, n, q⟩⟩

def segM (P : Program) (X : Ext) (mem : Mem) (n : Nat) (ks : List Nat) (c : Cfg) : Option Cfg :=
  match stepsM P X mem n c with
  | some c' => some (keepC ks c')
  | none => none

variable {B : Nat → Prop} {w0 : World} {M M' : Mp} {h h' : H} {w w' : World} {P : Program}
variable {a a' : AFrame} {f f' : Frame} {as : List AFrame} {fs : List Frame} {k' : List Item} {c c' c'' : Cfg}

theorem restrict_get (t : T AObj) (b : Nat) : ∀ (ks : List Nat) (acc : T AObj), ((restrict t ks acc).get b = acc.get b) ∨ ((restrict t ks acc).get b = t.get b)
  | [], acc => .inl rfl
  | k :: ks, acc => by
    simp only [restrict]
    rcases restrict_get t b ks (acc.put k (t.get k)) with h | h
    · rw [h, AM.T.get_put]
      by_cases e : b = k
      · subst e; simp
      · simp [e]
    · exact .inr h

/-- Fewer names. -/
theorem HRel.less (hr : HRel B w0 M h w) (hg : ∀ b o, h'.get b = some o → h.get b = some o) (hn : h'.next = h.next) (hq : ∀ q ∈ h'.facts, q.Ok M.env) : HRel B w0 M h' w := by
  have hs : ∀ b, (h'.get b).isSome = true → (h.get b).isSome = true := fun b hb => by
    obtain ⟨o, ho⟩ := Option.isSome_iff_exists.1 hb
    rw [hg b o ho]; rfl
  refine ⟨fun b o p hb => hr.obj b o p (hg b o hb), fun b b' p p' hp hp' h1 h2 => hr.inj b b' p p' hp hp' (hs b h1) (hs b' h2), hr.lo, fun b hb => ?_, hr.keep, hr.size, hr.tape, hr.os, hr.output, hr.env, hq⟩
  have := hr.fresh b (hn ▸ hb)
  refine ⟨this.1, ?_⟩
  cases ho : h'.get b with
  | none => rfl
  | some o => rw [hg b o ho] at this; cases this.2

theorem CRel.less {fr : List AFrame} (hc : CRel B w0 P M ⟨fr, h⟩ fs w) (hg : ∀ b o, h'.get b = some o → h.get b = some o) (hn : h'.next = h.next) (hq : ∀ q ∈ h'.facts, q.Ok M.env) : CRel B w0 P M ⟨fr, h'⟩ fs w :=
  ⟨hc.heap.less hg hn hq, let ⟨T, hT⟩ := hc.frames; ⟨T, hT.mono (Mp.Le.refl M).gr (Nat.le_of_eq hn.symm) fun _ _ h => h⟩⟩

theorem CRel.keepC (ks : List Nat) (hc : CRel B w0 P M c fs w) : CRel B w0 P M (keepC ks c) fs w := by
  obtain ⟨fr, ⟨t, n, q⟩⟩ := c
  refine hc.less (fun b o hb => ?_) rfl hc.heap.facts
  simp only [H.get] at hb ⊢
  rcases restrict_get t b ks .e with h | h
  · rw [h] at hb; cases hb
  · rw [h] at hb; exact hb

/-- From one configuration to another, whatever the world. -/
def Runs (P : Program) (c c' : Cfg) : Prop :=
  ∀ (B : Nat → Prop) (w0 : World) (M : Mp) (f : Frame) (fs : List Frame) (w : World) (cs : List Frame), CRel B w0 P M c (f :: fs) w → GoesAt B w0 P M f fs w c' cs

theorem Runs.refl : Runs P c c := fun _ _ M f fs w _ h => ⟨M, f, fs, w, .refl _ _, h, .refl M⟩

theorem Runs.trans (h1 : Runs P c c') (h2 : Runs P c' c'') : Runs P c c'' := fun B w0 M f fs w cs h => by
  obtain ⟨M1, f1, fs1, w1, a1, a2, a3⟩ := h1 B w0 M f fs w cs h
  obtain ⟨M2, f2, fs2, w2, b1, b2, b3⟩ := h2 B w0 M1 f1 fs1 w1 cs a2
  exact ⟨M2, f2, fs2, w2, a1.trans b1, b2, a3.trans b3⟩

theorem stepsM_runs {X : Ext} (hX : XOk P X) (hmix : P.follows .mixedOrders = true) {mem : Mem} (hmem : MemOk P mem) : ∀ (n : Nat) (c : Cfg), stepsM P X mem n c = some c' → Runs P c c'
  | 0, c, e => by simp only [stepsM] at e; injection e with e; subst e; exact .refl
  | n + 1, c, e => by
    simp only [stepsM] at e
    split at e
    case h_2 => cases e
    rename_i c1 h1
    refine Runs.trans (c' := c1) (fun B w0 M f fs w cs h => stepM_sound hX hmix hmem h h1 cs) (stepsM_runs hX hmix hmem n c1 e)

theorem segM_runs {X : Ext} (hX : XOk P X) (hmix : P.follows .mixedOrders = true) {mem : Mem} (hmem : MemOk P mem) {n : Nat} {ks : List Nat} (e : segM P X mem n ks c = some c') : Runs P c c' := by
  unfold segM at e
  split at e
  case h_2 => cases e
  rename_i c1 h1
  injection e with e; subst e
  exact (stepsM_runs hX hmix hmem n c h1).trans fun B w0 M f fs w cs h => ⟨M, f, fs, w, .refl _ _, h.keepC ks, .refl M⟩

/-- A CALL: what a run answers is what the call answers. -/
theorem calls_runs {g : FuncId} {args : List AV} {xs : List Value} {fr : AFrame} {c' : Cfg} {v : AV}
    (hr : HRel B w0 M h w) (ha : AV.trs M args = some xs) (he : enterA P g args .normal = some fr) (hrun : Runs P ⟨[fr], h⟩ c') (hd : doneA c' = true) (hv : answerA P g c' = some v) {R : Ending → World → Prop}
    (hR : ∀ M' x w', M.Le M' → HRel B w0 M' c'.heap w' → v.tr M' = some x → R (.returned x) w') : Calls P g xs.toArray w R := by
  intro cs
  obtain ⟨hpe, _⟩ := enter_sound he ha
  have hC : CRel B w0 P M ⟨[fr], h⟩ [Frame.enter P g xs.toArray .normal] w := ⟨hr, _, .cons (.plain hpe) .nil⟩
  obtain ⟨M', f', fs', w', h1, h2, h3⟩ := hrun _ _ M _ [] w cs hC
  obtain ⟨frames, hp⟩ := c'
  unfold answerA at hv
  split at hv
  case h_2 => cases hv
  rename_i a hp' heq
  injection heq with e1 e2; subst e1 e2
  split at hv
  case h_2 => cases hv
  rename_i hk
  split at hv
  case h_2 => cases hv
  rename_i hfn
  obtain ⟨hr', T0, hF0⟩ := h2
  obtain ⟨f2, fs2, S, T, heq, hf, hF⟩ := hF0.inv
  injection heq with e1 e2; subst e1 e2
  cases hF
  simp only [doneA, Bool.and_eq_true] at hd
  have hpl : PlainFrame M' a f' := by
    cases hf with
    | plain hp => exact hp
    | batch _ ho _ => rw [ho.run] at hd; simp at hd
    | drawn _ ho => rw [ho.run] at hd; simp at hd
    | ended _ ho => rw [ho.run] at hd; simp at hd
  obtain ⟨fd, x, g1, g2, g3⟩ := results_sound hr' hpl hv
  refine ⟨.returned x, w', f', hR M' x w' h3 hr' g2, ?_, ?_, ?_, ?_, ?_, fd, g1, g3⟩
  · exact h1
  · rw [hpl.base.fn]; exact Nat.eq_of_beq_eq_true hfn
  · rw [hpl.base.mode, hd.1]; rfl
  · have hd' := hpl.base.defers
    have : a.defers = [] := by simpa using hd.2
    rw [this] at hd'
    exact hd'.nil_inv
  · rw [hpl.base.kind]; exact hk
end Go.AM
namespace Go.AM
/-! Words for configurations. -/
def nI (n : Nat) : AV := .int .i64 (.ofNat n)
def nI8 (n : Nat) : AV := .int .i8 (.ofNat n)
def nI16 (n : Nat) : AV := .int .i16 (.ofNat n)
def nI32 (n : Nat) : AV := .int .i32 (.ofNat n)
def nU8 (n : Nat) : AV := .int .u8 (.ofNat n)
def nU16 (n : Nat) : AV := .int .u16 (.ofNat n)
def nU32 (n : Nat) : AV := .int .u32 (.ofNat n)
def nU64 (n : Nat) : AV := .int .u64 (.ofNat n)
def crcT : List AV := crcTable.map (AV.int .u32)
def cd1 : Code → List Nat → Code
  | c, [] => c
  | .seq a b, i :: p => match i with | 0 => cd1 a p | _ => cd1 b p
  | .cond _ a b, i :: p => match i with | 0 => cd1 a p | _ => cd1 b p
  | .block _ b, _ :: p => cd1 b p
  | .loop b, _ :: p => cd1 b p
  | .scope b, _ :: p => cd1 b p
  | .rangeFunc _ _ a b, i :: p => match i with | 0 => cd1 a p | _ => cd1 b p
  | c, _ => c
def cd (P : Program) (f : Nat) (p : List Nat) : Code :=
  match P.funcs[f]? with
  | some fn => match fn.body with
    | some c => cd1 c p
    | none => .skip
  | none => .skip
def opsAt (P : Program) (f : Nat) (p : List Nat) : Array Oper := match cd P f p with | .region _ ops _ => ops | _ => #[]
end Go.AM
namespace Go.AM

/-- Other names: what open values were, and what blocks were called. -/
structure Ren where
  val : Nat → Option AV
  blk : Nat → Option Nat

mutual
def AV.sub (σ : Ren) : AV → Option AV
  | .sym i => σ.val i
  | .sliceS b off k => match σ.val k with
    | some (.sym j) => match σ.blk b with
      | some b' => some (.sliceS b' off j)
      | none => none
    | _ => none
  | .ptr b off => match σ.blk b with | some b' => some (.ptr b' off) | none => none
  | .slice b off offE len cap => match σ.blk b with | some b' => some (.slice b' off offE len cap) | none => none
  | .slice0 b off offE l size z => match σ.blk b with | some b' => some (.slice0 b' off offE l size z) | none => none
  | .map b => match σ.blk b with | some b' => some (.map b') | none => none
  | .yld b => match σ.blk b with | some b' => some (.yld b') | none => none
  | .fn f a c => match AV.subs σ a with
    | some a' => match AV.subs σ c with
      | some c' => some (.fn f a' c')
      | none => none
    | none => none
  | .iface t v => match AV.sub σ v with
    | some v' => some (.iface t v')
    | none => none
  | .agg cs => match AV.subs σ cs with
    | some cs' => some (.agg cs')
    | none => none
  | .tuple cs => match AV.subs σ cs with
    | some cs' => some (.tuple cs')
    | none => none
  | .bool b => some (.bool b)
  | .int k n => some (.int k n)
  | .str s => some (.str s)
  | .nilp => some .nilp
  | .nils => some .nils
  | .nilm => some .nilm
  | .nilf => some .nilf
  | .nili => some .nili
def AV.subs (σ : Ren) : List AV → Option (List AV)
  | [] => some []
  | v :: vs => match AV.sub σ v with
    | some v' => match AV.subs σ vs with
      | some vs' => some (v' :: vs')
      | none => none
    | none => none
end

def T.mapM {α : Type} (g : α → Option α) : T α → Option (T α)
  | .e => some .e
  | .n v l r => match (match v with | some x => (match g x with | some y => some (some y) | none => none) | none => some none) with
    | some v' => match T.mapM g l with
      | some l' => match T.mapM g r with
        | some r' => some (.n v' l' r')
        | none => none
      | none => none
    | none => none

def ADef.sub (σ : Ren) : ADef → Option ADef
  | ⟨t, b, args⟩ => match AV.subs σ args with
    | some args' => match t with
      | none => match σ.blk b with
        | some b' => some ⟨none, b', args'⟩
        | none => none
      | some (g, c) => match AV.subs σ c with
        | some c' => some ⟨some (g, c'), b, args'⟩
        | none => none
    | none => none

def entrySub (σ : Ren) : AV × AV × Nat → Option (AV × AV × Nat)
  | (k, v, n) => match AV.sub σ k with
    | some k' => match AV.sub σ v with
      | some v' => some (k', v', n)
      | none => none
    | none => none

def AObj.sub (σ : Ren) : AObj → Option AObj
  | .cells cs tail fz => match AV.subs σ cs with
    | some cs' => some (.cells cs' tail fz)
    | none => none
  | .map es c => match optMap (entrySub σ) es with
    | some es' => some (.map es' c)
    | none => none
  | .miter m since seen st => match m with
    | none => some (.miter none since seen st)
    | some b => match σ.blk b with
      | some b' => some (.miter (some b') since seen st)
      | none => none
  | .siter s pos => some (.siter s pos)
  | .loop st pend fn tmps n params assign body d => match T.mapM (AV.sub σ) tmps with
    | some t' => match σ.blk d with
      | some d' => some (.loop st pend fn t' n params assign body d')
      | none => none
    | none => none
  | .deferred ds => match ds with
    | none => some (.deferred none)
    | some l => match optMap (ADef.sub σ) l with
      | some l' => some (.deferred (some l'))
      | none => none

def itemSub (σ : Ren) : AItem → Option AItem
  | .inRangeFunc l => match σ.blk l with | some l' => some (.inRangeFunc l') | none => none
  | .endRangeFunc l => match σ.blk l with | some l' => some (.endRangeFunc l') | none => none
  | .code c => some (.code c)
  | .inBlock id => some (.inBlock id)
  | .inLoop c => some (.inLoop c)
  | .inScope c => some (.inScope c)
  | .inRegion ops l => some (.inRegion ops l)
  | .beginRound => some .beginRound
  | .batch .. => none
  | .inDrawn .. => none

def roundSub (σ : Ren) : Option Nat → Option (Option Nat)
  | none => some none
  | some l => match σ.blk l with | some l' => some (some l') | none => none

/-- A frame that stands in no region whose order is open. -/
def AFrame.sub (σ : Ren) : AFrame → Option AFrame
  | ⟨fn, n, tmps, todo, defers, ret, kind, round⟩ => match T.mapM (AV.sub σ) tmps with
    | some t' => match optMap (ADef.sub σ) defers with
      | some d' => match optMap (itemSub σ) todo with
        | some todo' => match roundSub σ round with
          | some round' => some ⟨fn, n, t', todo', d', ret, kind, round'⟩
          | none => none
        | none => none
      | none => none
    | none => none

/-- The named blocks of a list, under their old names. -/
def renT (σ : Ren) (t : T AObj) : List Nat → T AObj → Option (T AObj)
  | [], acc => some acc
  | b :: bs, acc => match t.get b with
    | some o => match σ.blk b with
      | some b' => match AObj.sub σ o with
        | some o' => renT σ t bs (acc.put b' (some o'))
        | none => none
      | none => none
    | none => none

def nodupB : List Nat → Bool
  | [] => true
  | a :: as => as.all (fun b => !Nat.beq a b) && nodupB as

/-- The names lie below n, and no two had the same name. -/
def renOk (σ : Ren) (n : Nat) (ks : List Nat) : Bool :=
  ks.all (fun b => Nat.blt b n) && nodupB (ks.filterMap σ.blk)

/-- The old configuration; its facts are others; 'next' is the old one's. -/
def subC (σ : Ren) (ks : List Nat) (next : Nat) (q : List Fact) : Cfg → Option Cfg
  | ⟨fr, ⟨t, n, _⟩⟩ => match renOk σ n ks with
    | true => match optMap (AFrame.sub σ) fr with
      | some fr' => match renT σ t ks .e with
        | some t' => some ⟨fr', ⟨t', next, q⟩⟩
        | none => none
      | none => none
    | false => none

/-- What the new names are, told by the old ones. -/
structure Renames (σ : Ren) (M M' : Mp) : Prop where
  at_ : ∀ b b', σ.blk b = some b' → M'.at_ b = M.at_ b'
  env : ∀ i a, σ.val i = some a → a.tr M = M'.env i

variable {B : Nat → Prop} {w0 : World} {M M' : Mp} {h h' : H} {w w' : World} {P : Program} {σ : Ren} {ops : Array Oper} {Z : Nat → Prop}

mutual
theorem AV.sub_tr (hs : Renames σ M M') : ∀ {v v' : AV}, v.sub σ = some v' → v'.tr M = v.tr M'
  | .sym i, v', e => by
    simp only [AV.sub] at e
    rw [hs.env i v' e]; rfl
  | .sliceS b off k, v', e => by
    simp only [AV.sub] at e
    split at e
    case h_2 => cases e
    rename_i j hj
    split at e
    case h_2 => cases e
    rename_i b' hb
    injection e with e; subst e
    have := hs.env k _ hj
    simp only [AV.tr] at this ⊢
    rw [hs.at_ b b' hb, this]
  | .fn f a c, v', e => by
    simp only [AV.sub] at e
    split at e
    case h_2 => cases e
    rename_i a' ha
    split at e
    case h_2 => cases e
    rename_i c' hc
    injection e with e; subst e
    simp only [AV.tr, AV.subs_trs hs ha, AV.subs_trs hs hc]
  | .iface t v, v', e => by
    simp only [AV.sub] at e
    split at e
    case h_2 => cases e
    rename_i a' ha
    injection e with e; subst e
    simp only [AV.tr, AV.sub_tr hs ha]
  | .agg cs, v', e => by
    simp only [AV.sub] at e
    split at e
    case h_2 => cases e
    rename_i a' ha
    injection e with e; subst e
    simp only [AV.tr, AV.subs_trs hs ha]
  | .tuple cs, v', e => by
    simp only [AV.sub] at e
    split at e
    case h_2 => cases e
    rename_i a' ha
    injection e with e; subst e
    simp only [AV.tr, AV.subs_trs hs ha]
  | .bool _, v', e | .int .., v', e | .str _, v', e | .nilp, v', e | .nils, v', e | .nilm, v', e | .nilf, v', e | .nili, v', e => by
    simp only [AV.sub] at e; injection e with e; subst e; rfl
  | .ptr .., v', e | .slice .., v', e | .slice0 .., v', e | .map _, v', e | .yld _, v', e => by
    simp only [AV.sub] at e
    split at e
    case h_2 => cases e
    rename_i b' hb
    injection e with e; subst e; simp only [AV.tr, hs.at_ _ _ hb]
theorem AV.subs_trs (hs : Renames σ M M') : ∀ {vs vs' : List AV}, AV.subs σ vs = some vs' → AV.trs M vs' = AV.trs M' vs
  | [], vs', e => by simp only [AV.subs] at e; injection e with e; subst e; rfl
  | v :: vs, vs', e => by
    simp only [AV.subs] at e
    split at e
    case h_2 => cases e
    rename_i a ha
    split at e
    case h_2 => cases e
    rename_i as has
    injection e with e; subst e
    simp only [AV.trs, AV.sub_tr hs ha, AV.subs_trs hs has]
end

theorem AV.subs_length : ∀ {vs vs' : List AV}, AV.subs σ vs = some vs' → vs'.length = vs.length
  | [], vs', e => by simp only [AV.subs] at e; injection e with e; subst e; rfl
  | v :: vs, vs', e => by
    simp only [AV.subs] at e
    split at e
    case h_2 => cases e
    split at e
    case h_2 => cases e
    rename_i as has
    injection e with e; subst e
    simp [AV.subs_length has]

theorem AV.subs_get : ∀ {vs vs' : List AV} {i : Nat} {v : AV}, AV.subs σ vs = some vs' → vs[i]? = some v → ∃ v', vs'[i]? = some v' ∧ v.sub σ = some v'
  | [], vs', i, v, e, h => by simp at h
  | a :: vs, vs', i, v, e, h => by
    simp only [AV.subs] at e
    split at e
    case h_2 => cases e
    rename_i a' ha
    split at e
    case h_2 => cases e
    rename_i as has
    injection e with e; subst e
    cases i with
    | zero => simp at h; subst h; exact ⟨a', by simp, ha⟩
    | succ i => simp at h; obtain ⟨v', h1, h2⟩ := AV.subs_get has h; exact ⟨v', by simpa using h1, h2⟩

theorem T.mapM_get {α : Type} {g : α → Option α} : ∀ {t t' : T α} (i : Nat), T.mapM g t = some t' → match t.get i with | some v => ∃ v', t'.get i = some v' ∧ g v = some v' | none => t'.get i = none
  | .e, t', i, hm => by
    simp only [T.mapM] at hm; injection hm with hm; subst hm; simp [T.get]
  | .n v l r, t', i, hm => by
    simp only [T.mapM] at hm
    split at hm
    case h_2 => cases hm
    rename_i v' hv
    split at hm
    case h_2 => cases hm
    rename_i l' hl
    split at hm
    case h_2 => cases hm
    rename_i r' hr
    injection hm with hm; subst hm
    simp only [T.get]
    by_cases h0 : i = 0
    · simp only [h0, if_true]
      cases v with
      | none => simp only at hv; injection hv with hv; exact hv.symm
      | some x =>
        simp only at hv
        split at hv
        case h_2 => cases hv
        rename_i y hy
        injection hv with hv; subst hv
        exact ⟨y, rfl, hy⟩
    · simp only [h0, if_false]
      by_cases h1 : i % 2 = 1
      · simp only [h1, if_true]; exact T.mapM_get (i / 2) hl
      · simp only [h1, if_false]; exact T.mapM_get (i / 2 - 1) hr

theorem T.sub_tmp (hs : Renames σ M M') {t t' : T AV} (e : T.mapM (AV.sub σ) t = some t') (i : Nat) : ((t'.get i).getD undefA).tr M = ((t.get i).getD undefA).tr M' := by
  have := T.mapM_get i e
  split at this
  · rename_i v hv
    obtain ⟨v', h1, h2⟩ := this
    rw [hv, h1]; exact AV.sub_tr hs h2
  · rename_i hv
    rw [hv, this]; rfl

theorem optMap_all2 {α β : Type} {g : α → Option β} : ∀ {as : List α} {bs : List β}, optMap g as = some bs → All2 (fun a b => g a = some b) as bs
  | [], bs, e => by simp only [optMap] at e; injection e with e; subst e; exact .nil
  | a :: as, bs, e => by
    simp only [optMap] at e
    split at e
    case h_2 => cases e
    rename_i b hb
    split at e
    case h_2 => cases e
    rename_i bs' hbs
    injection e with e; subst e
    exact .cons hb (optMap_all2 hbs)

theorem All2.comp {α β γ : Type} {R : α → β → Prop} {S : β → γ → Prop} {T : α → γ → Prop} (h : ∀ a b c, R a b → S b c → T a c) : ∀ {as : List α} {bs : List β} {cs : List γ}, All2 R as bs → All2 S bs cs → All2 T as cs
  | _, _, _, .nil, .nil => .nil
  | _, _, _, .cons r rs, .cons s ss => .cons (h _ _ _ r s) (All2.comp h rs ss)

theorem ADef.sub_rel (hs : Renames σ M M') {d d' : ADef} {x : Deferred} (e : d.sub σ = some d') (hd : DefRel M d' x) : DefRel M' d x := by
  obtain ⟨t, b, args⟩ := d
  simp only [ADef.sub] at e
  split at e
  case h_2 => cases e
  rename_i args' ha
  split at e
  · split at e
    case h_2 => cases e
    rename_i b' hb
    injection e with e; subst e
    simp only [DefRel] at hd ⊢
    rw [hs.at_ _ _ hb]; exact hd
  · rename_i g c
    split at e
    case h_2 => cases e
    rename_i c' hc
    injection e with e; subst e
    simp only [DefRel] at hd ⊢
    rw [← AV.subs_trs hs hc, ← AV.subs_trs hs ha]; exact hd

theorem TmpsRel.sub (hs : Renames σ M M') {t t' : T AV} {n : Nat} {c : Array Value} (e : T.mapM (AV.sub σ) t = some t') (hr : TmpsRel M t' n c) : TmpsRel M' t n c :=
  ⟨hr.1, fun i => by rw [← T.sub_tmp hs e i]; exact hr.2 i⟩

theorem AObj.sub_rel (hs : Renames σ M M') {o o' : AObj} {p : Place} {ob : Obj} (e : o.sub σ = some o') (hr : ObjRel M p o' ob) : ObjRel M' p o ob := by
  cases o with
  | cells cs tail fz =>
    simp only [AObj.sub] at e
    split at e
    case h_2 => cases e
    rename_i cs' hcs
    injection e with e; subst e
    obtain ⟨c, et, fr, rfl, h1, h2, h3⟩ := hr
    refine ⟨c, et, fr, rfl, fun i av hi => ?_, by rw [← AV.subs_length hcs]; exact h2, h3⟩
    obtain ⟨v', g1, g2⟩ := AV.subs_get hcs hi
    obtain ⟨v, k1, k2⟩ := h1 i v' g1
    exact ⟨v, k1, by rw [← AV.sub_tr hs g2]; exact k2⟩
  | map es c =>
    simp only [AObj.sub] at e
    split at e
    case h_2 => cases e
    rename_i es' hes
    injection e with e; subst e
    obtain ⟨l, rfl, hl⟩ := hr
    refine ⟨l, rfl, (optMap_all2 hes).comp (fun a b x h1 h2 => ?_) hl⟩
    obtain ⟨k, v, n⟩ := a
    simp only [entrySub] at h1
    split at h1
    case h_2 => cases h1
    rename_i k' hk
    split at h1
    case h_2 => cases h1
    rename_i v' hv
    injection h1 with h1; subst h1
    obtain ⟨g1, g2, g3⟩ := h2
    exact ⟨by rw [← AV.sub_tr hs hk]; exact g1, by rw [← AV.sub_tr hs hv]; exact g2, g3⟩
  | miter m since seen st =>
    simp only [AObj.sub] at e
    split at e
    · injection e with e; subst e; exact hr
    · split at e
      case h_2 => cases e
      rename_i b b' hb
      injection e with e; subst e
      simp only [ObjRel] at hr ⊢
      rw [hs.at_ _ _ hb]; exact hr
  | siter s pos =>
    simp only [AObj.sub] at e
    injection e with e; subst e
    exact hr
  | loop st pend fn tmps n params assign body d =>
    simp only [AObj.sub] at e
    split at e
    case h_2 => cases e
    rename_i t' ht
    split at e
    case h_2 => cases e
    rename_i d' hd
    injection e with e; subst e
    obtain ⟨t, q, h1, h2, h3⟩ := hr
    exact ⟨t, q, by rw [hs.at_ _ _ hd]; exact h1, h2.sub hs ht, h3⟩
  | deferred ds =>
    simp only [AObj.sub] at e
    split at e
    · injection e with e; subst e; exact hr
    · split at e
      case h_2 => cases e
      rename_i l l' hl
      injection e with e; subst e
      obtain ⟨l2, h1, h2⟩ := hr
      exact ⟨l2, h1, All2.comp (R := fun a b => ADef.sub σ a = some b) (S := DefRel M) (T := DefRel M') (fun a b x h1 h2 => ADef.sub_rel hs h1 h2) (optMap_all2 hl) h2⟩

theorem itemSub_rel (hs : Renames σ M M') {a a' : AItem} {b : Item} (e : itemSub σ a = some a') (hi : ItemRel M a' b) : ItemRel M' a b := by
  cases a <;> simp only [itemSub] at e
  case inRangeFunc l =>
    split at e
    case h_2 => cases e
    rename_i l' hl
    injection e with e; subst e
    cases hi with | inRangeFunc h => exact .inRangeFunc (by rw [hs.at_ _ _ hl]; exact h)
  case endRangeFunc l =>
    split at e
    case h_2 => cases e
    rename_i l' hl
    injection e with e; subst e
    cases hi with | endRangeFunc h => exact .endRangeFunc (by rw [hs.at_ _ _ hl]; exact h)
  case batch => cases e
  case inDrawn => cases e
  all_goals
    injection e with e; subst e
    cases hi
    constructor

theorem itemSub_plain {a : AItem} {a' : AItem} (e : itemSub σ a = some a') : (∀ o c d, a' ≠ .batch o c d) ∧ ∀ o c d, a' ≠ .inDrawn o c d := by
  cases a <;> simp only [itemSub] at e
  case inRangeFunc l => split at e <;> cases e; exact ⟨by simp, by simp⟩
  case endRangeFunc l => split at e <;> cases e; exact ⟨by simp, by simp⟩
  case batch => cases e
  case inDrawn => cases e
  all_goals injection e with e; subst e; exact ⟨by simp, by simp⟩

theorem AFrame.sub_rel (hs : Renames σ M M') {a a' : AFrame} {f : Frame} {S : Nat → Prop} (e : a.sub σ = some a') (hr : FrRel P M h' Z a' f S) : PlainFrame M' a f := by
  obtain ⟨fn, n, tmps, todo, defers, ret, kind, round⟩ := a
  simp only [AFrame.sub] at e
  split at e
  case h_2 => cases e
  rename_i t' ht
  split at e
  case h_2 => cases e
  rename_i d' hd
  split at e
  case h_2 => cases e
  rename_i td' htd
  split at e
  case h_2 => cases e
  rename_i ro' hro
  injection e with e; subst e
  have base : FrBase M ⟨fn, n, t', td', d', ret, kind, ro'⟩ f → FrBase M' ⟨fn, n, tmps, todo, defers, ret, kind, round⟩ f := by
    intro hb
    refine ⟨hb.fn, hb.mode, hb.kind, ?_, All2.comp (R := fun a b => ADef.sub σ a = some b) (S := DefRel M) (T := DefRel M') (fun a b x h1 h2 => ADef.sub_rel hs h1 h2) (optMap_all2 hd) hb.defers⟩
    have := hb.round
    cases round with
    | none => simp only [roundSub] at hro; injection hro with hro; subst hro; exact this
    | some l =>
      simp only [roundSub] at hro
      split at hro
      case h_2 => cases hro
      rename_i l' hl
      injection hro with hro; subst hro
      obtain ⟨q, h1, h2⟩ := this
      exact ⟨q, by rw [hs.at_ _ _ hl]; exact h1, h2⟩
  have no : ∀ it k, td' = it :: k → (∀ o c d, it ≠ .batch o c d) ∧ ∀ o c d, it ≠ .inDrawn o c d := by
    rintro it k rfl
    cases todo with
    | nil => simp only [optMap] at htd; cases htd
    | cons a as =>
      simp only [optMap] at htd
      split at htd
      case h_2 => cases htd
      rename_i a' ha
      split at htd
      case h_2 => cases htd
      injection htd with htd
      injection htd with h1 h2; subst h1
      exact itemSub_plain ha
  cases hr with
  | plain hp => exact ⟨base hp.base, All2.comp (R := fun a b => itemSub σ a = some b) (S := ItemRel M) (T := ItemRel M') (fun a b x h1 h2 => itemSub_rel hs h1 h2) (optMap_all2 htd) hp.todo, hp.tmps.sub hs ht⟩
  | batch h1 ho hx => exact absurd rfl ((no _ _ h1).1 _ _ _)
  | drawn h1 ho => exact absurd rfl ((no _ _ h1).2 _ _ _)
  | ended h1 ho => exact absurd rfl ((no _ _ h1).2 _ _ _)

theorem FsRel.sub (hs : Renames σ M M') : ∀ {as as' : List AFrame} {fs : List Frame} {T : Nat → Prop}, All2 (fun a b => AFrame.sub σ a = some b) as as' → FsRel P M h' as' fs T → ∃ T', FsRel P M' h as fs T'
  | _, _, _, _, .nil, .nil => ⟨_, .nil⟩
  | _, _, _, _, .cons e es, .cons hf hr => let ⟨_, hT⟩ := FsRel.sub hs es hr; ⟨_, .cons (.plain (AFrame.sub_rel hs e hf)) hT⟩

theorem nodupB_inj {g : Nat → Option Nat} : ∀ {ks : List Nat}, nodupB (ks.filterMap g) = true → ∀ b b' x, b ∈ ks → b' ∈ ks → g b = some x → g b' = some x → b = b'
  | [], _, b, b', x, h, _, _, _ => by cases h
  | k :: ks, hn, b, b', x, h1, h2, e1, e2 => by
    have tl : ∀ y, g k = some y → ∀ c ∈ ks, g c ≠ some y := by
      intro y hy c hc hcy
      rw [List.filterMap_cons_some hy] at hn
      simp only [nodupB, Bool.and_eq_true, List.all_eq_true] at hn
      have := hn.1 y (List.mem_filterMap.2 ⟨c, hc, hcy⟩)
      simp at this
    have hn' : nodupB (ks.filterMap g) = true := by
      cases hk : g k with
      | none => rwa [List.filterMap_cons_none hk] at hn
      | some y =>
        rw [List.filterMap_cons_some hk] at hn
        simp only [nodupB, Bool.and_eq_true] at hn
        exact hn.2
    rcases List.mem_cons.1 h1 with g1 | g1 <;> rcases List.mem_cons.1 h2 with g2 | g2
    · rw [g1, g2]
    · subst g1; exact absurd e2 (tl x e1 b' g2)
    · subst g2; exact absurd e1 (tl x e2 b g1)
    · exact nodupB_inj hn' b b' x g1 g2 e1 e2

theorem renT_spec : ∀ {t : T AObj} {ks : List Nat} {acc r : T AObj}, renT σ t ks acc = some r → nodupB (ks.filterMap σ.blk) = true →
    (∀ b ∈ ks, ∃ o b' o', t.get b = some o ∧ σ.blk b = some b' ∧ AObj.sub σ o = some o' ∧ r.get b' = some o') ∧ ∀ b', (∀ b ∈ ks, σ.blk b ≠ some b') → r.get b' = acc.get b'
  | t, [], acc, r, e, _ => by
    simp only [renT] at e; injection e with e; subst e
    exact ⟨(fun b hb => by cases hb), fun _ _ => rfl⟩
  | t, k :: ks, acc, r, e, hn => by
    simp only [renT] at e
    split at e
    case h_2 => cases e
    rename_i o ho
    split at e
    case h_2 => cases e
    rename_i k' hk
    split at e
    case h_2 => cases e
    rename_i o' ho'
    rw [List.filterMap_cons_some hk] at hn
    simp only [nodupB, Bool.and_eq_true, List.all_eq_true] at hn
    obtain ⟨h1, h2⟩ := renT_spec e hn.2
    have hne : ∀ b ∈ ks, σ.blk b ≠ some k' := fun b hb hbk => by
      have := hn.1 k' (List.mem_filterMap.2 ⟨b, hb, hbk⟩)
      simp at this
    refine ⟨fun b hb => ?_, fun b' hb' => ?_⟩
    · rcases List.mem_cons.1 hb with rfl | hb
      · exact ⟨o, k', o', ho, hk, ho', by rw [h2 k' hne, AM.T.get_put, if_pos rfl]⟩
      · exact h1 b hb
    · rw [h2 b' fun b hb => hb' b (List.mem_cons_of_mem _ hb), AM.T.get_put, if_neg]
      rintro rfl
      exact hb' k (List.mem_cons_self ..) hk

theorem restrict_mem (t : T AObj) (b : Nat) : ∀ (ks : List Nat) (acc : T AObj) (o : AObj), (restrict t ks acc).get b = some o → (b ∈ ks ∧ t.get b = some o) ∨ acc.get b = some o
  | [], acc, o, e => .inr e
  | k :: ks, acc, o, e => by
    simp only [restrict] at e
    rcases restrict_mem t b ks _ o e with ⟨h1, h2⟩ | h
    · exact .inl ⟨List.mem_cons_of_mem _ h1, h2⟩
    · rw [AM.T.get_put] at h
      by_cases e : b = k
      · subst e; rw [if_pos rfl] at h; exact .inl ⟨List.mem_cons_self .., h⟩
      · rw [if_neg e] at h; exact .inr h

/-- THE SAME CONFIGURATION, under other names. -/
theorem CRel.sub {c c' : Cfg} {ks : List Nat} {next : Nat} {q : List Fact} {fs : List Frame} {E : Nat → Option Value} (e : subC σ ks next q c = some c') (hr : CRel B w0 P M c' fs w)
    (henv : ∀ i a, σ.val i = some a → a.tr M = E i) (hblk : ∀ b b', σ.blk b = some b' → b < c.heap.next) (hc : ∀ i x, E i = some x → isCell x = true) (hq : ∀ f ∈ c.heap.facts, f.Ok E) :
    ∃ M', M'.env = E ∧ CRel B w0 P M' (AM.keepC ks c) fs w := by
  obtain ⟨fr, ⟨t, n, q0⟩⟩ := c
  simp only [subC] at e
  split at e
  case h_2 => cases e
  rename_i hok
  split at e
  case h_2 => cases e
  rename_i fr' hfr
  split at e
  case h_2 => cases e
  rename_i t' ht
  injection e with e; subst e
  simp only [renOk, Bool.and_eq_true, List.all_eq_true] at hok
  obtain ⟨hlt, hnd⟩ := hok
  obtain ⟨hget, _⟩ := renT_spec ht hnd
  simp only at hblk hq
  let M' : Mp := ⟨fun b => match σ.blk b with | some b' => M.at_ b' | none => none, E⟩
  have hs : Renames σ M M' := ⟨fun b b' hb => by simp [M', hb], henv⟩
  obtain ⟨hh, T0, hT⟩ := hr
  have live : ∀ b o, (restrict t ks .e).get b = some o → b ∈ ks ∧ t.get b = some o := fun b o hb => by
    rcases restrict_mem t b ks .e o hb with h | h
    · exact h
    · cases h
  refine ⟨M', rfl, ⟨fun b o p hb hp => ?_, fun b b' p p' hp hp' h1 h2 heq => ?_, fun b p hp => ?_, fun b hb => ⟨?_, ?_⟩, hh.keep, hh.size, hh.tape, hh.os, hh.output, hc, hq⟩, FsRel.sub hs (optMap_all2 hfr) hT⟩
  · obtain ⟨hk, htb⟩ := live b o hb
    obtain ⟨o1, b', o', g1, g2, g3, g4⟩ := hget b hk
    rw [htb] at g1; injection g1 with g1; subst g1
    rw [hs.at_ b b' g2] at hp
    obtain ⟨ob, k1, k2⟩ := hh.obj b' o' p g4 hp
    exact ⟨ob, k1, AObj.sub_rel hs g3 k2⟩
  · obtain ⟨o1, e1⟩ := Option.isSome_iff_exists.1 h1
    obtain ⟨o2, e2⟩ := Option.isSome_iff_exists.1 h2
    obtain ⟨k1, _⟩ := live b o1 e1
    obtain ⟨k2, _⟩ := live b' o2 e2
    obtain ⟨_, x, ox, _, g2, _, g4⟩ := hget b k1
    obtain ⟨_, x', ox', _, j2, _, j4⟩ := hget b' k2
    rw [hs.at_ b x g2] at hp
    rw [hs.at_ b' x' j2] at hp'
    have := hh.inj x x' p p' hp hp' (by show (t'.get x).isSome = true; rw [g4]; rfl) (by show (t'.get x').isSome = true; rw [j4]; rfl) heq
    subst this
    exact nodupB_inj hnd b b' x k1 k2 g2 j2
  · have : ∃ b', σ.blk b = some b' := by
      cases hb : σ.blk b with
      | none => simp [M', hb] at hp
      | some b' => exact ⟨b', rfl⟩
    obtain ⟨b', hb⟩ := this
    rw [hs.at_ b b' hb] at hp
    exact hh.lo b' p hp
  · cases hx : σ.blk b with
    | none => simp [M', hx]
    | some b' => have := hblk b b' hx; simp only [AM.keepC] at hb; omega
  · cases hg : (restrict t ks .e).get b with
    | none => exact hg
    | some o =>
      have := hlt b (live b o hg).1
      simp [Nat.blt_eq] at this
      simp only [AM.keepC] at hb
      omega
end Go.AM
namespace Go.AM

variable {B : Nat → Prop} {w0 : World} {M M' : Mp} {h h' h1 h2 : H} {w w' : World} {P : Program} {ops : Array Oper}
variable {a a' : AFrame} {f f' : Frame} {as : List AFrame} {fs : List Frame} {T : Nat → Prop} {k' : List Item} {c c' : Cfg} {g : FuncId} {args : List AV} {v : AV}

def pauseOp (P : Program) (X : Ext) (a : AFrame) (as : List AFrame) (h : H) (ops : Array Oper) (i : Nat) (drawn : Bool) : Option (AFrame × List AFrame × FuncId × List AV × H) :=
  match ops[i]? with
  | some o => match wantedA ops a.tmps o with
    | some true => match (match drawn with | true => actA P X h (evalA a.tmps) o.op | false => opA P X h (evalA a.tmps) o.op) with
      | some (.enter g args h1) => some (a, as, g, args, h1)
      | _ => none
    | _ => none
  | none => none

/-- A configuration that is about to call: the frames, which function, with what. -/
def pausedA (P : Program) (X : Ext) : Cfg → Option (AFrame × List AFrame × FuncId × List AV × H)
  | ⟨a :: as, h⟩ => match a.ret with
    | true => none
    | false => match a.todo with
      | .inRegion ops (i :: _) :: _ => pauseOp P X a as h ops i false
      | .inDrawn ops (i :: _) _ :: _ => pauseOp P X a as h ops i true
      | _ => none
  | _ => none

/-- As 'Later', but open values may have come in. -/
structure LaterG (h : H) (M : Mp) (h' : H) (M' : Mp) : Prop where
  gr : M.Gr M'
  next : h.next ≤ h'.next
  same : ∀ b, b < h.next → M.at_ b = none → M'.at_ b = none

/-- What a call does, from one named heap to another; E: the open values ahead of it, E' behind. -/
def Contract (B : Nat → Prop) (w0 : World) (P : Program) (E E' : Nat → Option Value) (w : World) (g : FuncId) (args : List AV) (h1 : H) (v : AV) (h2 : H) : Prop :=
  ∀ (M : Mp) (xs : List Value), M.env = E → HRel B w0 M h1 w → AV.trs M args = some xs →
    Calls P g xs.toArray w fun e w' => ∃ x M', e = .returned x ∧ M'.env = E' ∧ LaterG h1 M h2 M' ∧ HRel B w0 M' h2 w' ∧ v.tr M' = some x

/-- From one configuration on, to another: somewhere there is a run that comes to it. -/
def Reach (B : Nat → Prop) (w0 : World) (P : Program) (m : Machine) (cs : List Frame) (c : Cfg) (E : Nat → Option Value) : Prop :=
  ∃ M f fs w, Steps P m (lone f (fs ++ cs) w) ∧ CRel B w0 P M c (f :: fs) w ∧ M.env = E

variable {m : Machine} {cs : List Frame} {E E' : Nat → Option Value}

theorem Reach.runs (hr : Reach B w0 P m cs c E) (h : Runs P c c') : Reach B w0 P m cs c' E := by
  obtain ⟨M, f, fs, w, h1, h2, h3⟩ := hr
  obtain ⟨M', f', fs', w', g1, g2, g3⟩ := h B w0 M f fs w cs h2
  exact ⟨M', f', fs', w', h1.trans g1, g2, g3.env.trans h3⟩

theorem Reach.facts {fr : List AFrame} {t : AM.T AObj} {n : Nat} {q q' : List Fact} (hr : Reach B w0 P m cs ⟨fr, ⟨t, n, q⟩⟩ E) (h : ∀ f ∈ q', f.Ok E) : Reach B w0 P m cs ⟨fr, ⟨t, n, q'⟩⟩ E := by
  obtain ⟨M, f, fs, w, h1, h2, h3⟩ := hr
  exact ⟨M, f, fs, w, h1, h2.less (fun _ _ h => h) rfl (by rw [h3]; exact h), h3⟩

theorem Reach.keep (ks : List Nat) (hr : Reach B w0 P m cs c E) : Reach B w0 P m cs (AM.keepC ks c) E := by
  obtain ⟨M, f, fs, w, h1, h2, h3⟩ := hr
  exact ⟨M, f, fs, w, h1, h2.keepC ks, h3⟩

/-- Under other names: c is the new configuration, c' the old one. -/
theorem Reach.ren {σ : Ren} {ks : List Nat} {next : Nat} {q : List Fact} (hr : Reach B w0 P m cs c' E) (e : subC σ ks next q c = some c')
    (henv : ∀ i a, σ.val i = some a → ∀ M : Mp, M.env = E → a.tr M = E' i) (hblk : ∀ b b', σ.blk b = some b' → b < c.heap.next) (hc : ∀ i x, E' i = some x → isCell x = true) (hq : ∀ f ∈ c.heap.facts, f.Ok E') :
    Reach B w0 P m cs (AM.keepC ks c) E' := by
  obtain ⟨M, f, fs, w, h1, h2, h3⟩ := hr
  obtain ⟨M', g1, g2⟩ := h2.sub e (fun i a h => henv i a h M h3) hblk hc hq
  exact ⟨M', f, fs, w, h1, g2, g1⟩

theorem called_sound {S : Nat → Prop} {s : Sem Next} {l : List Nat} (htd : f.todo = .inRegion ops l :: k') (hF : FsRel P M h as fs T) (hf : FrRel P M h T a f S)
    (hstep : ∀ cs, stepG P true { frame := f, callers := cs, status := .running, dying := none } w = stepG.apply P true f cs none s w)
    (hact : Acts P B w0 M h w s (.enter g args h1)) (hc : ∀ w, Contract B w0 P M.env E' w g args h1 v h2) (hfin : finishA v a = some a') (cs : List Frame) :
    ∃ M' f' fs' w', Steps P (lone f (fs ++ cs) w) (lone f' (fs' ++ cs) w') ∧ CRel B w0 P M' ⟨a' :: as, h2⟩ (f' :: fs') w' ∧ M'.env = E' := by
  obtain ⟨M1, w1, n, r1, r2, r3, r4⟩ := hact
  obtain ⟨xs, hxs, rfl⟩ := r4
  simp only [heapOf] at r2 r3
  obtain ⟨en, w2, fr2, ⟨x, M2, he, he', hl, hr2, hv⟩, hcomes, _, hleave⟩ := hc w1 M1 xs r3.le.env r2 hxs (f :: (fs ++ cs))
  subst he
  have hfr1 := (hf.later r3).mono hl.gr hl.next fun b hb h1 => hl.same b ((hf.later r3).free hb).1 h1
  have hF1 := (hF.later r3).mono hl.gr hl.next fun b hb h1 => hl.same b ((hF.later r3).free hb).1 h1
  obtain ⟨S', h3⟩ := finish_sound hfr1 hfin hv
  refine ⟨M2, f.finish x, fs, w2, .head (step_lone_go ?_) (Steps.trans hcomes (.one (step_leave_returned hleave))), ⟨hr2, _, .cons h3 hF1⟩, he'⟩
  rw [hstep]
  simp only [stepG.apply, Sem.runT_eq, r1, GStep.bare_after, if_true, htd]
  rfl

theorem pauseOp_sound {X : Ext} (hX : XOk P X) {S : Nat → Prop} {i : Nat} {rest : List Nat} {drawn : Bool} {a1 : AFrame} {as1 : List AFrame} (hF : FsRel P M h as fs T) (hr : HRel B w0 M h w) (hf : FrRel P M h T a f S) (hb : FrBase M a f) (hret : a.ret = false)
    (htd : f.todo = .inRegion ops (i :: rest) :: k') (hslot : ∀ o, ops[i]? = some o → ∀ t ∈ looks ops o, ((a.tmps.get t).getD undefA).tr M = some (f.tmps.getD t undef))
    (e : pauseOp P X a as h ops i drawn = some (a1, as1, g, args, h1)) (hc : ∀ w, Contract B w0 P M.env E' w g args h1 v h2) (hfin : finishA v a1 = some a') (cs : List Frame) :
    ∃ M' f' fs' w', Steps P (lone f (fs ++ cs) w) (lone f' (fs' ++ cs) w') ∧ CRel B w0 P M' ⟨a' :: as1, h2⟩ (f' :: fs') w' ∧ M'.env = E' := by
  have hm : f.mode = .run := by rw [hb.mode, hret]; rfl
  unfold pauseOp at e
  split at e
  case h_2 => cases e
  rename_i o ho
  split at e
  case h_2 => cases e
  rename_i hwn
  split at e
  case h_2 => cases e
  rename_i g' args' h1' hnx
  injection e with e
  injection e with e1 e
  injection e with e2 e
  injection e with e3 e
  injection e with e4 e5
  subst e1 e2 e3 e4 e5
  have hlook := hslot o ho
  have hρ : EnvRel M (evalA a.tmps) f.eval o.op.operands := evalA_rel (eval_frame f) fun t hto => hlook t (by
    unfold looks tmpsOf
    exact List.mem_append_left _ (List.mem_filterMap.2 ⟨.tmp t, by simpa using hto, rfl⟩))
  have hg : ∀ b, wantedA ops a.tmps o = some b → Region.wanted o (yielded ops f.tmps) = b := fun b hb => wanted_rel (fun g wn d hgu hdg => hlook d (by
    unfold looks
    refine List.mem_append_right _ ?_
    rw [hgu]
    simp only [dstAt] at hdg
    simp [hdg])) hb
  have hdef : f.roundOf = none ∨ ∀ c, o.op ≠ .defer c := by
    right
    intro c hc
    have : ∃ d, ANext.enter g' args' h1' = .defer d h := by
      cases drawn with
      | true => rw [hc] at hnx; simp only [actA] at hnx; exact deferA_shape hnx
      | false => rw [hc] at hnx; simp only [opA, kindA, actA] at hnx; exact deferA_shape hnx
    obtain ⟨d, hd⟩ := this
    cases hd
  have hact : Acts P B w0 M h w (execOp f.eval o) (.enter g' args' h1') := by
    cases drawn with
    | true => exact act_sound hX hr hρ hnx o rfl
    | false => exact op_sound hX hr hρ hnx o rfl
  exact called_sound htd hF hf (fun cs => stepG_oper hm htd ho (hg _ hwn) hdef) hact hc hfin cs

/-- A CALL BY ITS CONTRACT. -/
theorem Reach.called {X : Ext} (hX : XOk P X) {a1 : AFrame} {as1 : List AFrame} (hre : Reach B w0 P m cs c E) (e : pausedA P X c = some (a1, as1, g, args, h1)) (hc : ∀ w, Contract B w0 P E E' w g args h1 v h2) (hfin : finishA v a1 = some a') :
    Reach B w0 P m cs ⟨a' :: as1, h2⟩ E' := by
  obtain ⟨M, f, fs, w, hst, hC, rfl⟩ := hre
  have fin : (∃ M' f' fs' w', Steps P (lone f (fs ++ cs) w) (lone f' (fs' ++ cs) w') ∧ CRel B w0 P M' ⟨a' :: as1, h2⟩ (f' :: fs') w' ∧ M'.env = E') → Reach B w0 P m cs ⟨a' :: as1, h2⟩ E' :=
    fun ⟨M', f', fs', w', g1, g2, g3⟩ => ⟨M', f', fs', w', hst.trans g1, g2, g3⟩
  refine fin ?_
  obtain ⟨frames, hp⟩ := c
  obtain ⟨hr, T0, hF0⟩ := hC
  cases frames with
  | nil => cases hF0
  | cons a as =>
    obtain ⟨f2, fs2, S, T, heq, hf, hF⟩ := hF0.inv
    injection heq with e1 e2; subst e1 e2
    simp only at hf hF hr
    simp only [pausedA] at e
    cases hret : a.ret with
    | true => rw [hret] at e; cases e
    | false =>
      rw [hret] at e
      simp only at e
      split at e
      · rename_i ops i r k htd
        cases hf with
        | plain hpf =>
          obtain ⟨it', k', htd', hit, hk⟩ := plain_cons hpf htd
          cases hit
          exact pauseOp_sound hX hF hr (.plain hpf) hpf.base hret htd' (fun _ _ t _ => hpf.tmps.2 t) e hc hfin cs
        | batch ht _ _ => rw [ht] at htd; cases htd
        | drawn ht _ => rw [ht] at htd; cases htd
        | ended ht _ => rw [ht] at htd; cases htd
      · rename_i ops i r d k htd
        cases hf with
        | plain hpf =>
          obtain ⟨it', k', htd', hit, hk⟩ := plain_cons hpf htd
          cases hit
        | batch ht _ _ => rw [ht] at htd; cases htd
        | ended ht _ => rw [ht] at htd; cases htd
        | drawn ht ho =>
          rw [ht] at htd
          injection htd with h1 h2
          injection h1 with h3 h4 h5
          injection h4 with h6 h7
          subst h3 h6
          refine pauseOp_sound hX hF hr (.drawn ht ho) ho.base ho.run ho.todo (fun o hoi t htl => ?_) e hc hfin cs
          rcases ho.slots.2 t with ⟨j, hj, hE, hd⟩ | h1
          · exact absurd hd (ho.stand.head_looks hoi htl hj hE)
          · exact h1
      · cases e

/-- A run begins. -/
theorem Reach.start {xs : List Value} {fr : AFrame} (hr : HRel B w0 M h w) (ha : AV.trs M args = some xs) (he : enterA P g args .normal = some fr) (cs : List Frame) :
    Reach B w0 P (lone (Frame.enter P g xs.toArray .normal) cs w) cs ⟨[fr], h⟩ M.env := by
  obtain ⟨hpe, _⟩ := enter_sound he ha
  exact ⟨M, _, [], w, .refl _ _, ⟨hr, _, .cons (.plain hpe) .nil⟩, rfl⟩

/-- A CALL: what the runs answer is what the call answers. -/
theorem calls_reach {xs : List Value} {R : Ending → World → Prop}
    (hrun : ∀ cs, ∃ c' E v, Reach B w0 P (lone (Frame.enter P g xs.toArray .normal) cs w) cs c' E ∧ doneA c' = true ∧ answerA P g c' = some v ∧ ∀ M' x w', M'.env = E → HRel B w0 M' c'.heap w' → v.tr M' = some x → R (.returned x) w') :
    Calls P g xs.toArray w R := by
  intro cs
  obtain ⟨c', E, v, ⟨M', f', fs', w', h1, h2, h3⟩, hd, hv, hR⟩ := hrun cs
  obtain ⟨frames, hp⟩ := c'
  unfold answerA at hv
  split at hv
  case h_2 => cases hv
  rename_i a hp' heq
  injection heq with e1 e2; subst e1 e2
  split at hv
  case h_2 => cases hv
  rename_i hk
  split at hv
  case h_2 => cases hv
  rename_i hfn
  obtain ⟨hr', T0, hF0⟩ := h2
  obtain ⟨f2, fs2, S, T, heq, hf, hF⟩ := hF0.inv
  injection heq with e1 e2; subst e1 e2
  cases hF
  simp only [doneA, Bool.and_eq_true] at hd
  have hpl : PlainFrame M' a f' := by
    cases hf with
    | plain hp => exact hp
    | batch _ ho _ => rw [ho.run] at hd; simp at hd
    | drawn _ ho => rw [ho.run] at hd; simp at hd
    | ended _ ho => rw [ho.run] at hd; simp at hd
  obtain ⟨fd, x, g1, g2, g3⟩ := results_sound hr' hpl hv
  refine ⟨.returned x, w', f', hR M' x w' h3 hr' g2, ?_, ?_, ?_, ?_, ?_, fd, g1, g3⟩
  · exact h1
  · rw [hpl.base.fn]; exact Nat.eq_of_beq_eq_true hfn
  · rw [hpl.base.mode, hd.1]; rfl
  · have hd' := hpl.base.defers
    have : a.defers = [] := by simpa using hd.2
    rw [this] at hd'
    exact hd'.nil_inv
  · rw [hpl.base.kind]; exact hk
end Go.AM
