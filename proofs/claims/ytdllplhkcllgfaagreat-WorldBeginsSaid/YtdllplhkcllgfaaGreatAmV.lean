/- The abstract machine's frames stand for the model's. Nothing is assumed. -/
import Derived.Test.YtdllplhkcllgfaaGreatAmU
namespace Go.AM

variable {B : Nat → Prop} {w0 : World} {M M' : Mp} {h h' : H} {w w' : World} {P : Program} {ops : Array Oper} {Z : Nat → Prop}

def pset (P : Program) (ops : Array Oper) (E : Nat → Bool) (tmps : T AV) (rest : List Nat) (b : Nat) : Prop := ∃ j ∈ rest, pend1 P ops E tmps j = some b

structure OpenFrame (P : Program) (M : Mp) (h : H) (Z : Nat → Prop) (a : AFrame) (f : Frame) (ops : Array Oper) (chain done rest : List Nat) (E : Nat → Bool) (k : List AItem) (k' : List Item) : Prop where
  base : FrBase M a f
  run : a.ret = false
  todo : f.todo = .inRegion ops rest :: k'
  tail : All2 (ItemRel M) k k'
  stand : Stand P ops chain done rest
  slots : SlotsRel M ops E rest a.tmps a.n f.tmps
  pend : Pend M h Z P ops E a.tmps rest

inductive FrRel (P : Program) (M : Mp) (h : H) (Z : Nat → Prop) : AFrame → Frame → (Nat → Prop) → Prop
  | plain {a f} (hp : PlainFrame M a f) : FrRel P M h Z a f (fun _ => False)
  | batch {a f ops chain done rest k k'} (ht : a.todo = .batch ops chain done :: k) (ho : OpenFrame P M h Z a f ops chain done rest (oldAt P ops done) k k')
      (hx : ∀ (i : Nat) (o : Oper), ops[i]? = some o → i ∉ rest → actsA P o.op = false → oldAt P ops done i = true) : FrRel P M h Z a f (pset P ops (oldAt P ops done) a.tmps rest)
  | drawn {a f ops i c done post k k'} (ht : a.todo = .inDrawn ops (i :: c) done :: k) (ho : OpenFrame P M h Z a f ops (i :: c) done (i :: post) (eligAt P ops done) k k') :
      FrRel P M h Z a f (pset P ops (eligAt P ops done) a.tmps (i :: post))
  | ended {a f ops done k k'} (ht : a.todo = .inDrawn ops [] done :: k) (ho : OpenFrame P M h Z a f ops [] done [] (eligAt P ops done) k k') : FrRel P M h Z a f (fun _ => False)

inductive FsRel (P : Program) (M : Mp) (h : H) : List AFrame → List Frame → (Nat → Prop) → Prop
  | nil : FsRel P M h [] [] (fun _ => False)
  | cons {a as f fs S T} (hf : FrRel P M h T a f S) (hs : FsRel P M h as fs T) : FsRel P M h (a :: as) (f :: fs) (fun b => S b ∨ T b)

structure CRel (B : Nat → Prop) (w0 : World) (P : Program) (M : Mp) (c : Cfg) (fs : List Frame) (w : World) : Prop where
  heap : HRel B w0 M c.heap w
  frames : ∃ T, FsRel P M c.heap c.frames fs T

theorem FrBase.mono {a : AFrame} {f : Frame} (hle : M.Gr M') (hb : FrBase M a f) : FrBase M' a f := by
  refine ⟨hb.fn, hb.mode, hb.kind, ?_, hb.defers.imp fun _ _ => DefRel.mono hle⟩
  have := hb.round
  split at this
  · exact this
  · obtain ⟨q, h1, h2⟩ := this; exact ⟨q, hle.at_ _ _ h1, h2⟩

theorem ItemRel.mono {a : AItem} {b : Item} (hle : M.Gr M') (hi : ItemRel M a b) : ItemRel M' a b := by
  cases hi with
  | inRangeFunc h => exact .inRangeFunc (hle.at_ _ _ h)
  | endRangeFunc h => exact .endRangeFunc (hle.at_ _ _ h)
  | code => exact .code _
  | inBlock => exact .inBlock _
  | inLoop => exact .inLoop _
  | inScope => exact .inScope _
  | inRegion => exact .inRegion _ _
  | beginRound => exact .beginRound

theorem PlainFrame.mono {a : AFrame} {f : Frame} (hle : M.Gr M') (hp : PlainFrame M a f) : PlainFrame M' a f :=
  ⟨hp.base.mono hle, hp.todo.imp fun _ _ => ItemRel.mono hle, hp.tmps.mono hle⟩

theorem Pend.mono {E : Nat → Bool} {tmps : T AV} {rest : List Nat} (hn : h.next ≤ h'.next) (hat : ∀ b, pset P ops E tmps rest b → M.at_ b = none → M'.at_ b = none) (hp : Pend M h Z P ops E tmps rest) : Pend M' h' Z P ops E tmps rest :=
  ⟨fun j hj b hb => let ⟨h1, h2, h3⟩ := hp.lt j hj b hb; ⟨Nat.lt_of_lt_of_le h1 hn, hat b ⟨j, hj, hb⟩ h2, h3⟩, hp.inj⟩

theorem OpenFrame.mono {a : AFrame} {f : Frame} {chain done rest : List Nat} {E : Nat → Bool} {k : List AItem} {k' : List Item} (hle : M.Gr M') (hn : h.next ≤ h'.next) (hat : ∀ b, pset P ops E a.tmps rest b → M.at_ b = none → M'.at_ b = none)
    (ho : OpenFrame P M h Z a f ops chain done rest E k k') : OpenFrame P M' h' Z a f ops chain done rest E k k' :=
  ⟨ho.base.mono hle, ho.run, ho.todo, ho.tail.imp fun _ _ => ItemRel.mono hle, ho.stand, ho.slots.mono hle, ho.pend.mono hn hat⟩

theorem FrRel.mono {a : AFrame} {f : Frame} {S : Nat → Prop} (hle : M.Gr M') (hn : h.next ≤ h'.next) (hat : ∀ b, S b → M.at_ b = none → M'.at_ b = none) (hf : FrRel P M h Z a f S) : FrRel P M' h' Z a f S := by
  cases hf with
  | plain hp => exact .plain (hp.mono hle)
  | batch ht ho hx => exact .batch ht (ho.mono hle hn hat) hx
  | drawn ht ho => exact .drawn ht (ho.mono hle hn hat)
  | ended ht ho => exact .ended ht (ho.mono hle hn (fun b hb => by obtain ⟨j, hj, _⟩ := hb; cases hj))

theorem FsRel.mono {as : List AFrame} {fs : List Frame} {T : Nat → Prop} (hle : M.Gr M') (hn : h.next ≤ h'.next) (hs : FsRel P M h as fs T) (hat : ∀ b, T b → M.at_ b = none → M'.at_ b = none) : FsRel P M' h' as fs T := by
  induction hs with
  | nil => exact .nil
  | cons hf _ ih => exact .cons (hf.mono hle hn fun b hb => hat b (.inl hb)) (ih fun b hb => hat b (.inr hb))

theorem FrRel.free {a : AFrame} {f : Frame} {S : Nat → Prop} (hf : FrRel P M h Z a f S) {b : Nat} (hb : S b) : b < h.next ∧ M.at_ b = none ∧ ¬ Z b := by
  cases hf with
  | plain hp => exact hb.elim
  | batch ht ho hx => obtain ⟨j, hj, h1⟩ := hb; exact ho.pend.lt j hj b h1
  | drawn ht ho => obtain ⟨j, hj, h1⟩ := hb; exact ho.pend.lt j hj b h1
  | ended ht ho => exact hb.elim

theorem FsRel.free {as : List AFrame} {fs : List Frame} {T : Nat → Prop} (hs : FsRel P M h as fs T) : ∀ {b : Nat}, T b → b < h.next ∧ M.at_ b = none := by
  induction hs with
  | nil => intro b hb; exact hb.elim
  | cons hf _ ih =>
    intro b hb
    rcases hb with hb | hb
    · exact ⟨(hf.free hb).1, (hf.free hb).2.1⟩
    · exact ih hb

theorem FsRel.later {as : List AFrame} {fs : List Frame} {T : Nat → Prop} (hs : FsRel P M h as fs T) (hl : Later h M h' M') : FsRel P M' h' as fs T :=
  hs.mono hl.le hl.next fun b hb h1 => hl.same b (hs.free hb).1 h1

theorem FrRel.later {a : AFrame} {f : Frame} {S : Nat → Prop} (hf : FrRel P M h Z a f S) (hl : Later h M h' M') : FrRel P M' h' Z a f S :=
  hf.mono hl.le hl.next fun b hb h1 => hl.same b (hf.free hb).1 h1

/-! A frame takes a value. -/

def putV (c : Array Value) (dst : Option Tmp) (x : Value) : Array Value := match dst with | some d => c.setIfInBounds d x | none => c

theorem putV_size (c : Array Value) (dst : Option Tmp) (x : Value) : (putV c dst x).size = c.size := by
  cases dst <;> simp [putV]

theorem finish_region' {f : Frame} {i : Nat} {rest : List Nat} {k : List Item} (ht : f.todo = .inRegion ops (i :: rest) :: k) (v : Value) :
    f.finish v = { f with tmps := putV f.tmps (dstAt ops i) v, todo := .inRegion ops rest :: k } := finish_region ht v

theorem SlotsRel.put {E : Nat → Bool} {rest : List Nat} {tmps t' : T AV} {n : Nat} {c : Array Value} {dst : Option Tmp} {v : AV} {x : Value} (hs : SlotsRel M ops E rest tmps n c) (hput : putA n tmps dst v = some t') (hx : v.tr M = some x) :
    SlotsRel M ops E rest t' n (putV c dst x) := by
  obtain ⟨hg, hlt⟩ := putA_spec hput
  refine ⟨by rw [putV_size]; exact hs.1, fun s => ?_⟩
  rw [hg]
  cases dst with
  | none => simpa [putV] using hs.2 s
  | some d =>
    by_cases hsd : s = d
    · subst hsd
      right
      have : s < c.size := by rw [hs.1]; exact hlt s rfl
      simp [putV, this, hx]
    · have h1 : ¬ (some d = some s) := by simp; exact fun h => hsd h.symm
      rw [if_neg h1]
      rcases hs.2 s with h2 | h2
      · exact .inl h2
      · right; rw [h2]; simp [putV, Ne.symm hsd]

theorem TmpsRel.put {tmps t' : T AV} {n : Nat} {c : Array Value} {dst : Option Tmp} {v : AV} {x : Value} (hs : TmpsRel M tmps n c) (hput : putA n tmps dst v = some t') (hx : v.tr M = some x) :
    TmpsRel M t' n (putV c dst x) := by
  have h1 : SlotsRel M #[] (fun _ => false) [] tmps n c := ⟨hs.1, fun s => .inr (hs.2 s)⟩
  have h2 := h1.put hput hx
  refine ⟨h2.1, fun s => ?_⟩
  rcases h2.2 s with ⟨j, hj, _⟩ | h3
  · cases hj
  · exact h3

theorem finish_sound {a a' : AFrame} {f : Frame} {v : AV} {x : Value} {S : Nat → Prop} (hf : FrRel P M h Z a f S) (e : finishA v a = some a') (hx : v.tr M = some x) :
    ∃ S', FrRel P M h Z a' (f.finish x) S' := by
  obtain ⟨fn, n, tmps, todo, defers, ret, kind, round⟩ := a
  simp only [finishA] at e
  split at e
  case h_2 => cases e
  rename_i it k
  split at e
  case h_4 => cases e
  · rename_i ops i rest
    split at e
    case h_2 => cases e
    rename_i o ho
    split at e
    case h_2 => cases e
    rename_i t ht
    injection e with e; subst e
    cases hf with
    | batch h1 => simp at h1
    | drawn h1 => simp at h1
    | ended h1 => simp at h1
    | plain hp =>
      have htd : ∃ k', f.todo = .inRegion ops (i :: rest) :: k' ∧ All2 (ItemRel M) k k' := by
        have := hp.todo
        cases hf : f.todo with
        | nil => rw [hf] at this; cases this
        | cons y ys =>
          rw [hf] at this
          cases this with
          | cons r rs => cases r; exact ⟨_, rfl, rs⟩
      obtain ⟨k', htd, hk⟩ := htd
      refine ⟨_, .plain ?_⟩
      rw [finish_region' htd]
      have : dstAt ops i = o.dst := by simp [dstAt, ho]
      rw [this]
      exact ⟨⟨hp.base.fn, hp.base.mode, hp.base.kind, hp.base.round, hp.base.defers⟩, .cons (.inRegion _ _) hk, hp.tmps.put ht hx⟩
  · rename_i ops i c done
    split at e
    case h_2 => cases e
    rename_i o ho
    split at e
    case h_2 => cases e
    rename_i t ht
    injection e with e; subst e
    cases hf with
    | plain hp =>
      have h2 := hp.todo
      generalize f.todo = td at h2
      cases h2 with | cons r _ => cases r
    | batch h1 => simp at h1
    | ended h1 => simp at h1
    | @drawn _ _ _ _ post _ k' h1 hop =>
      simp only [List.cons.injEq, AItem.inDrawn.injEq] at h1
      obtain ⟨⟨rfl, ⟨rfl, rfl⟩, rfl⟩, rfl⟩ := h1
      have hdo : dstAt ops i = o.dst := by simp [dstAt, ho]
      have hact : actsA P o.op = true := by
        have : i ∈ actList P ops := by rw [hop.stand.acts]; simp
        obtain ⟨o', ho', ha⟩ := mem_actList.1 this
        rw [ho] at ho'; cases ho'; exact ha
      have hEi : eligAt P ops done i = false := by
        cases hE : eligAt P ops done i with
        | false => rfl
        | true =>
          obtain ⟨o', ho', ha, _⟩ := (elig_iff hop.stand.ok.low).1 hE
          rw [ho] at ho'; cases ho'
          rw [hact] at ha; cases ha
      have hst := hop.stand.acted
      have hsl := hop.slots.put ht hx
      rw [finish_region' hop.todo, hdo]
      refine ⟨_, .batch rfl ⟨⟨hop.base.fn, hop.base.mode, hop.base.kind, hop.base.round, hop.base.defers⟩, hop.run, rfl, hop.tail, hst, ?_, ?_⟩ ?_⟩
      · refine ⟨hsl.1, fun s => ?_⟩
        rcases hsl.2 s with ⟨j, hj, hE, hd⟩ | h2
        · rcases List.mem_cons.1 hj with h3 | h3
          · subst h3; rw [hEi] at hE; cases hE
          · exact .inl ⟨j, h3, hE, hd⟩
        · exact .inr h2
      · obtain ⟨hg, _⟩ := putA_spec ht
        have hsame : ∀ j ∈ post, pend1 P ops (oldAt P ops (i :: done)) t j = pend1 P ops (eligAt P ops done) tmps j := by
          intro j hj
          have hji : j ≠ i := by rintro rfl; exact (List.nodup_cons.1 hop.stand.nodup).1 hj
          show pend1 P ops (eligAt P ops done) t j = _
          unfold pend1
          split
          · cases hd : dstAt ops j with
            | none => rfl
            | some d =>
              simp only [Option.bind_some]
              rw [hg]
              have : ¬ (o.dst = some d) := fun h => hji (hop.stand.ok.apart j i d hd (by rw [hdo]; exact h))
              rw [if_neg this]
          · rfl
        refine ⟨fun j hj b hb => ?_, fun i' hi j hj b h2 h3 => ?_⟩
        · rw [hsame j hj] at hb; exact hop.pend.lt j (by simp [hj]) b hb
        · rw [hsame i' hi] at h2; rw [hsame j hj] at h3
          exact hop.pend.inj i' (by simp [hi]) j (by simp [hj]) b h2 h3
      · intro j p hp hj ha
        show eligAt P ops done j = true
        by_cases hji : j = i
        · subst hji; rw [ho] at hp; cases hp; rw [hact] at ha; cases ha
        · exact hop.stand.out_elig j p hp (by simp [hji, hj]) ha
  · rename_i l
    injection e with e; subst e
    cases hf with
    | batch h1 => simp at h1
    | drawn h1 => simp at h1
    | ended h1 => simp at h1
    | plain hp =>
      have htd : ∃ q k', M.at_ l = some q ∧ f.todo = .inRangeFunc q.blk :: k' ∧ All2 (ItemRel M) k k' := by
        have := hp.todo
        cases hf : f.todo with
        | nil => rw [hf] at this; cases this
        | cons y ys =>
          rw [hf] at this
          cases this with
          | cons r rs => cases r with | inRangeFunc hq => exact ⟨_, _, hq, rfl, rs⟩
      obtain ⟨q, k', hq, htd, hk⟩ := htd
      refine ⟨_, .plain ?_⟩
      have : f.finish x = { f with todo := .endRangeFunc q.blk :: k' } := by unfold Frame.finish; rw [htd]
      rw [this]
      exact ⟨⟨hp.base.fn, hp.base.mode, hp.base.kind, hp.base.round, hp.base.defers⟩, .cons (.endRangeFunc hq) hk, hp.tmps⟩

theorem ofArgs_get : ∀ (args : List AV) (i : Nat) (t : T AV) (j : Nat), (ofArgs args i t).get j = if i ≤ j ∧ j < i + args.length then args[j - i]? else t.get j
  | [], i, t, j => by
    have : ¬ (i ≤ j ∧ j < i + ([] : List AV).length) := by simp
    rw [if_neg this]; rfl
  | a :: as, i, t, j => by
    rw [ofArgs, ofArgs_get as (i + 1) _ j, T.get_put]
    by_cases h1 : i + 1 ≤ j ∧ j < i + 1 + as.length
    · rw [if_pos h1, if_pos (by simp only [List.length_cons]; omega)]
      obtain ⟨d, rfl⟩ : ∃ d, j = i + 1 + d := ⟨j - (i + 1), by omega⟩
      have e1 : i + 1 + d - (i + 1) = d := by omega
      have e2 : i + 1 + d - i = d + 1 := by omega
      rw [e1, e2]; simp
    · rw [if_neg h1]
      by_cases h2 : j = i
      · subst h2; rw [if_pos rfl, if_pos (by simp)]; simp
      · rw [if_neg h2, if_neg (by simp at h1 ⊢; omega)]

theorem enter_sound {f : FuncId} {args : List AV} {xs : List Value} {kind : CallKind} {a : AFrame} (e : enterA P f args kind = some a) (hx : AV.trs M args = some xs) :
    PlainFrame M a (Frame.enter P f xs.toArray kind) ∧ a.fn = f := by
  unfold enterA at e
  split at e
  case h_2 => cases e
  rename_i fn hfn
  split at e
  case h_2 => cases e
  rename_i c hc
  injection e with e; subst e
  have hlen := AV.trs_length hx
  refine ⟨⟨⟨rfl, rfl, rfl, rfl, .nil⟩, ?_, ?_⟩, rfl⟩
  · show All2 _ [AItem.code c] [_]
    simp only [hfn, Option.bind_some, hc, Option.getD_some]
    exact .cons (.code c) .nil
  · show TmpsRel M _ _ (xs.toArray ++ Array.replicate (((P.funcs[f]?).map (·.ntmps)).getD 0 - xs.toArray.size) undef)
    simp only [hfn, Option.map_some, Option.getD_some]
    refine ⟨by simp; omega, fun i => ?_⟩
    rw [ofArgs_get]
    by_cases hi : i < args.length
    · rw [if_pos (by omega)]
      simp only [Nat.sub_zero]
      obtain ⟨x, h1, h2⟩ := AV.trs_nth hx (List.getElem?_eq_getElem hi)
      rw [List.getElem?_eq_getElem hi]
      simp only [Option.getD_some]
      rw [h2]
      have : i < xs.length := by omega
      rw [Array.getD_eq_getD_getElem?, Array.getElem?_append_left (by simpa using this), List.getElem?_toArray, h1]; rfl
    · rw [if_neg (by omega)]
      have hi' : ¬ i < xs.length := by omega
      simp only [T.get, Option.getD_none]
      have : (xs.toArray ++ Array.replicate (fn.ntmps - xs.toArray.size) undef).getD i undef = undef := by
        rw [Array.getD_eq_getD_getElem?, Array.getElem?_append]
        simp only [List.size_toArray, hi', if_false, Array.getElem?_replicate]
        split <;> rfl
      rw [this]
      simp [undefA, undef, AV.tr, AV.trs]
end Go.AM
