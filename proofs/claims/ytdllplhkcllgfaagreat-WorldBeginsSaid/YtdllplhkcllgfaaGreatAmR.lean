/- Calls, functions without a body, ranges, deferred calls; all acting operations. Nothing is assumed. -/
import Derived.Test.YtdllplhkcllgfaaGreatAmQ
namespace Go.AM

variable {B : Nat → Prop} {w0 : World} {M : Mp} {h : H} {w : World} {P : Program}

def XFn : XKind → (Array Value → Sem Value) → Prop
  | .mark0, e => ∃ m, e = fun _ => do mark m; pure Extern.Race.none_
  | .marked, e => ∃ m, e = Extern.Race.marked m
  | .load k, e => e = Extern.Atomic.loadT (.int k)
  | .store, e => e = Extern.Atomic.storeT
  | .add k, e => e = Extern.Atomic.update (Op.intArith .add) k true
  | .cas k, e => e = Extern.Atomic.casT (.int k)
  | .mclone, e => e = Extern.MapsClone.clone

/-- The functions without a body that are known are what they are said to be. -/
def XOk (P : Program) (X : Ext) : Prop :=
  ∀ f k, X f = some k → ∃ fn e, P.funcs[f]? = some fn ∧ (fn.name == "runtime.NumGoroutine") = false ∧ fn.body.isNone = true ∧ Extern.findNext fn = none ∧ Extern.find fn = some e ∧ XFn k e

theorem HRel.storeOne (hr : HRel B w0 M h w) {b o : Nat} {p : Place} {v : AV} {x : Value} {h' : H} (hs : storeN h b o [v] = some h') (hp : M.at_ b = some p) (hx : v.tr M = some x) :
    HRel B w0 M h' (w.setCell ⟨p.blk, p.base + o, none⟩ x) := by
  have hsc : [v].all AV.scalar = true ∧ ∃ cs tail fz, h.get b = some (.cells cs tail fz) ∧ o < cs.length := by
    unfold storeN at hs
    split at hs
    case h_2 => cases hs
    rename_i cs tail fz hb
    split at hs
    case isFalse => cases hs
    rename_i hsc
    split at hs
    case h_2 => cases hs
    rename_i cs' hsp
    have := (splice_spec _ _ _ _ hsp).2.1
    exact ⟨hsc, cs, tail, fz, hb, by simp at this; omega⟩
  obtain ⟨hsc, cs, tail, fz, hb, hlt⟩ := hsc
  simp only [List.all_cons, List.all_nil, Bool.and_true] at hsc
  obtain ⟨w', h1, h2, _⟩ := hr.stores (P := default) hs hp (AV.trs_cons.2 ⟨x, [], hx, rfl, rfl⟩)
  obtain ⟨y, hy, _⟩ := hr.cell hb hp (i := o) (av := cs[o]) (by simp)
  have hcell := AV.scalar_tr hr.env hsc hx
  have : (storeCells ⟨p.blk, p.base + o, none⟩ [x]).run default w = .ok () (w.setCell ⟨p.blk, p.base + o, none⟩ x) := by
    simp only [storeCells, Sem.run_bind]
    rw [add_plain, Nat.add_zero, run_store _ _ _ _ _ (by cases x <;> first | rfl | cases hcell), hy]
    simp [hr.unfrozen hb hp hlt]
  rw [h1] at this
  injection this with _ hw
  rw [← hw]; exact h2

theorem cellA_spec (hr : HRel B w0 M h w) {b o : Nat} {p : Place} {v : AV} (e : cellA h b o = some v) (hp : M.at_ b = some p) :
    ∃ x, w.cell? ⟨p.blk, p.base + o, none⟩ = some x ∧ v.tr M = some x ∧ w.frozen? ⟨p.blk, p.base + o, none⟩ = false := by
  unfold cellA at e
  split at e
  case h_2 => cases e
  rename_i cs tail fz hb
  rw [nth_eq] at e
  obtain ⟨x, h1, h2⟩ := hr.cell hb hp e
  exact ⟨x, h1, h2, hr.unfrozen hb hp (List.getElem?_eq_some_iff.1 e).1⟩

theorem trs1 {a : AV} {xs : List Value} (e : AV.trs M [a] = some xs) : ∃ x, a.tr M = some x ∧ xs = [x] := by
  obtain ⟨x, ys, h1, h2, rfl⟩ := AV.trs_cons.1 e
  simp [AV.trs] at h2; subst h2; exact ⟨x, h1, rfl⟩
theorem trs2 {a b : AV} {xs : List Value} (e : AV.trs M [a, b] = some xs) : ∃ x y, a.tr M = some x ∧ b.tr M = some y ∧ xs = [x, y] := by
  obtain ⟨x, ys, h1, h2, rfl⟩ := AV.trs_cons.1 e
  obtain ⟨y, h3, rfl⟩ := trs1 h2; exact ⟨x, y, h1, h3, rfl⟩
theorem trs3 {a b c : AV} {xs : List Value} (e : AV.trs M [a, b, c] = some xs) : ∃ x y z, a.tr M = some x ∧ b.tr M = some y ∧ c.tr M = some z ∧ xs = [x, y, z] := by
  obtain ⟨x, ys, h1, h2, rfl⟩ := AV.trs_cons.1 e
  obtain ⟨y, z, h3, h4, rfl⟩ := trs2 h2; exact ⟨x, y, z, h1, h3, h4, rfl⟩

theorem extern_acts {X : Ext} (hX : XOk P X) (hr : HRel B w0 M h w) {f : FuncId} {k : XKind} {args : List AV} {xs : List Value} {v : AV} {h' : H} (hf : X f = some k) (ha : AV.trs M args = some xs) (e : externA h k args = some (v, h')) :
    ∃ M' w' x, (callFunc f xs.toArray).run P w = .ok (.value x) w' ∧ HRel B w0 M' h' w' ∧ Later h M h' M' ∧ v.tr M' = some x := by
  obtain ⟨fn, ex, g1, g2, g3, g4, g5, g6⟩ := hX f k hf
  unfold externA at e
  split at e
  · injection e with e; injection e with e1 e2; subst e1 e2
    simp [AV.trs] at ha; subst ha
    obtain ⟨m, rfl⟩ := g6
    exact ⟨M, w, _, run_call_mark0 g1 g2 g3 g4 m g5 w, hr, .refl _ _, rfl⟩
  · injection e with e; injection e with e1 e2; subst e1 e2
    obtain ⟨x, hx, rfl⟩ := trs1 ha
    obtain ⟨p, hp, rfl⟩ := tr_ptr hx
    obtain ⟨m, rfl⟩ := g6
    exact ⟨M, w, _, run_call_marked g1 g2 g3 g4 m g5 _ w, hr, .refl _ _, rfl⟩
  · rename_i kk b o
    obtain ⟨x, hx, rfl⟩ := trs1 ha
    obtain ⟨p, hp, rfl⟩ := tr_ptr hx
    split at e
    case h_2 => cases e
    rename_i k' n hc
    split at e
    case isFalse => cases e
    rename_i hk; subst hk
    injection e with e; injection e with e1 e2; subst e1 e2
    obtain ⟨y, c1, c2, c3⟩ := cellA_spec hr hc hp
    have := tr_int c2; subst this
    have g6' : ex = _ := g6
    subst g6'
    exact ⟨M, w, _, run_call_load g1 g2 g3 g4 kk g5 c1, hr, .refl _ _, rfl⟩
  · rename_i b o kk n
    obtain ⟨x, y, hx, hy, rfl⟩ := trs2 ha
    obtain ⟨p, hp, rfl⟩ := tr_ptr hx
    have := tr_int hy; subst this
    split at e
    case h_2 => cases e
    rename_i k' m hc
    split at e
    case isFalse => cases e
    rename_i hk; subst hk
    split at e
    case h_2 => cases e
    rename_i h1 hst
    injection e with e; injection e with e1 e2; subst e1 e2
    obtain ⟨z, c1, c2, c3⟩ := cellA_spec hr hc hp
    have g6' : ex = _ := g6
    subst g6'
    refine ⟨M, _, _, run_call_store g1 g2 g3 g4 g5 c1 c3, hr.storeOne hst hp rfl, ?_, rfl⟩
    obtain ⟨_, _, _, hl⟩ := hr.stores (P := default) hst hp (AV.trs_cons.2 ⟨_, [], rfl, rfl, rfl⟩)
    exact hl
  · rename_i kk b o k' n
    obtain ⟨x, y, hx, hy, rfl⟩ := trs2 ha
    obtain ⟨p, hp, rfl⟩ := tr_ptr hx
    have := tr_int hy; subst this
    split at e
    case h_2 => cases e
    rename_i k'' m hc
    split at e
    case isFalse => cases e
    rename_i hk; obtain ⟨rfl, rfl⟩ := hk
    split at e
    case h_2 => cases e
    rename_i h1 hst
    injection e with e; injection e with e1 e2; subst e1 e2
    obtain ⟨z, c1, c2, c3⟩ := cellA_spec hr hc hp
    have := tr_int c2; subst this
    have g6' : ex = _ := g6
    subst g6'
    refine ⟨M, _, _, run_call_add g1 g2 g3 g4 _ g5 c1 c3 (by simp [Op.intArith]), hr.storeOne hst hp rfl, ?_, rfl⟩
    obtain ⟨_, _, _, hl⟩ := hr.stores (P := default) hst hp (AV.trs_cons.2 ⟨_, [], rfl, rfl, rfl⟩)
    exact hl
  · rename_i kk b o k' old k'' new
    obtain ⟨x, y, z, hx, hy, hz, rfl⟩ := trs3 ha
    obtain ⟨p, hp, rfl⟩ := tr_ptr hx
    have := tr_int hy; subst this
    have := tr_int hz; subst this
    split at e
    case h_2 => cases e
    rename_i k3 m hc
    split at e
    case isFalse => cases e
    rename_i hk; obtain ⟨rfl, rfl, rfl⟩ := hk
    obtain ⟨z, c1, c2, c3⟩ := cellA_spec hr hc hp
    have := tr_int c2; subst this
    have g6' : ex = _ := g6
    subst g6'
    split at e
    · rename_i hmo; subst hmo
      split at e
      case h_2 => cases e
      rename_i h1 hst
      injection e with e; injection e with e1 e2; subst e1 e2
      refine ⟨M, _, _, run_call_cas_hit g1 g2 g3 g4 _ g5 c1 c3, hr.storeOne hst hp rfl, ?_, rfl⟩
      obtain ⟨_, _, _, hl⟩ := hr.stores (P := default) hst hp (AV.trs_cons.2 ⟨_, [], rfl, rfl, rfl⟩)
      exact hl
    · rename_i hmo
      injection e with e; injection e with e1 e2; subst e1 e2
      exact ⟨M, w, _, run_call_cas_miss g1 g2 g3 g4 _ g5 c1 c3 hmo, hr, .refl _ _, rfl⟩
  · rename_i t b
    obtain ⟨x, hx, rfl⟩ := trs1 ha
    obtain ⟨y, hy, rfl⟩ := tr_iface hx
    obtain ⟨p, hp, rfl⟩ := tr_map hy
    split at e
    case h_2 => cases e
    rename_i es c hb
    injection e with e; injection e with e1 e2; subst e1 e2
    obtain ⟨ob, ho, l, rfl, hl⟩ := hr.obj b _ p hb hp
    have hg := run_getObj (P := P) ho (by intros; simp)
    have g6' : ex = _ := g6
    subst g6'
    obtain ⟨hr', hla, hat⟩ := hr.allocNew (o := .map es c) (ob := .map l.toArray c) (cap := 0) ⟨l, rfl, hl.imp fun _ _ => EntryRel.mono (Mp.set_le (hr.fresh _ (Nat.le_refl _)).1).gr⟩
    refine ⟨_, _, .iface t (.map (some w.heap.size)), ?_, hr', hla, by simp [AV.tr, hat]⟩
    rw [run_callFunc_extern g1 g2 g3 g4 g5]
    change (Sem.run P (do
      let .map entries clock ← getObj p.blk | stuck "maps.clone: a map expected"
      pure (Value.iface t (.map (some (← newObj (.map entries clock)))))) w).andThen _ = _
    simp [hg]
  · cases e

theorem setParams_rel {n : Nat} : ∀ {ps : List (Tmp × AV)} {qs : List (Tmp × Value)} {t t' : T AV} {c : Array Value}, All2 (fun (a : Tmp × AV) (b : Tmp × Value) => a.1 = b.1 ∧ a.2.tr M = some b.2) ps qs → TmpsRel M t n c → setParams n ps t = some t' →
    TmpsRel M t' n (qs.foldl (fun (c : Array Value) (x : Tmp × Value) => c.setIfInBounds x.1 x.2) c)
  | _, _, t, t', c, .nil, ht, e => by simp only [setParams] at e; injection e with e; subst e; exact ht
  | _, _, t, t', c, .cons (a := a) (b := b) r rs, ht, e => by
    obtain ⟨p, v⟩ := a
    obtain ⟨q, x⟩ := b
    obtain ⟨r1, r2⟩ := r
    simp only at r1 r2; subst r1
    simp only [setParams] at e
    split at e
    case isFalse => cases e
    rename_i hlt
    rw [List.foldl_cons]
    refine setParams_rel (c := c.setIfInBounds p x) rs ⟨by rw [Array.size_setIfInBounds]; exact ht.1, fun i => ?_⟩ e
    rw [T.get_put]
    by_cases hi : i = p
    · subst hi
      have : i < c.size := by rw [ht.1]; exact hlt
      simp [this, r2]
    · rw [if_neg hi, ht.2 i]
      simp [Ne.symm hi]

theorem round_rel (hr : HRel B w0 M h w) {l : Nat} {q : Place} {args : List AV} {xs : List Value} {fr : AFrame} (hq : M.at_ l = some q) (ha : AV.trs M args = some xs) (e : roundA l args h = some fr) :
    ∃ fn tmps assign body, (Instr.yield q.blk xs.toArray).run P w = .ok (.round q.blk fn tmps assign body) w ∧ PlainFrame M fr (Frame.round q.blk fn tmps assign body .normal) := by
  unfold roundA at e
  split at e
  case h_2 => cases e
  rename_i st pe fn tmps n params assign body d hl
  split at e
  case h_2 => cases e
  rename_i hlen
  split at e
  case h_2 => cases e
  rename_i t hset
  injection e with e; subst e
  obtain ⟨ob, ho, c, dq, hdq, ht, rfl⟩ := hr.obj l _ q hl hq
  have hg := run_getObj (P := P) ho (by intros; simp)
  have hsz : xs.toArray.size = params.size := by
    have h1 : args.length = params.size := by simpa using hlen
    rw [List.size_toArray, AV.trs_length ha, h1]
  refine ⟨fn, (params.zip xs.toArray).foldl (fun tmps (t, a) => tmps.setIfInBounds t a) c, assign, body, ?_, ?_⟩
  · simp [Instr.yield, Instr.getLoop, hg]
    simp at hsz
    simp [hsz]
  · have hz : All2 (fun (a : Tmp × AV) (b : Tmp × Value) => a.1 = b.1 ∧ a.2.tr M = some b.2) (params.toList.zip args) (params.toList.zip xs) := by
      clear hset hsz hlen
      generalize params.toList = ps
      induction args generalizing ps xs with
      | nil => simp [AV.trs] at ha; subst ha; simp; exact .nil
      | cons a as ih =>
        obtain ⟨y, ys, h1, h2, rfl⟩ := AV.trs_cons.1 ha
        cases ps with
        | nil => exact .nil
        | cons p ps => exact .cons ⟨rfl, h1⟩ (ih h2 ps)
    have htm := setParams_rel hz ht hset
    refine ⟨⟨rfl, rfl, rfl, ⟨q, hq, rfl⟩, .nil⟩, .cons (.code _) (.cons .beginRound (.cons (.code _) .nil)), ?_⟩
    have : (Frame.round q.blk fn ((params.zip xs.toArray).foldl (fun tmps (t, a) => tmps.setIfInBounds t a) c) assign body .normal).tmps = (params.toList.zip xs).foldl (fun (c : Array Value) (x : Tmp × Value) => c.setIfInBounds x.1 x.2) c := by
      show (params.zip xs.toArray).foldl _ c = _
      rw [← Array.foldl_toList, Array.toList_zip]
    rw [this]; exact htm

/-- A call. -/
theorem call_acts {X : Ext} (hX : XOk P X) (hr : HRel B w0 M h w) {f : AV} {f' : Value} {args : List AV} {xs : List Value} {nx : ANext} (hf : f.tr M = some f') (ha : AV.trs M args = some xs) (e : callA P X h f args = some nx) :
    ∃ d : Deferred, (Deferred.ofValue f' xs.toArray).run P w = .ok d w ∧ Acts P B w0 M h w (invoke d.target d.args) nx := by
  unfold callA at e
  split at e
  · rename_i g first captured
    obtain ⟨a', c', h1, h2, rfl, _⟩ := tr_fn hf
    refine ⟨{ target := .fn (.func g) c'.toArray, args := a'.toArray ++ xs.toArray }, by simp [Deferred.ofValue], ?_⟩
    have hargs : AV.trs M (first ++ args ++ captured) = some (a' ++ xs ++ c') := AV.trs_append.2 ⟨_, _, AV.trs_append.2 ⟨_, _, h1, ha, rfl⟩, h2, rfl⟩
    have hinv : (invoke (.fn (.func g) c'.toArray) (a'.toArray ++ xs.toArray)) = callFunc g (a' ++ xs ++ c').toArray := by
      simp [invoke]
    split at e
    case h_2 => cases e
    rename_i fn hfn
    split at e
    case isTrue => cases e
    rename_i hname
    have hname' : (fn.name == "runtime.NumGoroutine") = false := by simpa using hname
    split at e
    · rename_i c hbody
      injection e with e; subst e
      refine ⟨M, w, .enter g (a' ++ xs ++ c').toArray, ?_, hr, .refl _ _, _, hargs, rfl⟩
      show (invoke (.fn (.func g) c'.toArray) (a'.toArray ++ xs.toArray)).run P w = _
      rw [hinv]
      have hn : fn.name ≠ "runtime.NumGoroutine" := by simpa using hname'
      simp [callFunc, hfn, hn, hbody]
    · rename_i hbody
      split at e
      case h_2 => cases e
      rename_i k hk
      split at e
      case h_2 => cases e
      rename_i v h1' hx
      injection e with e; subst e
      obtain ⟨M', w', x, r1, r2, r3, r4⟩ := extern_acts hX hr hk hargs hx
      exact ⟨M', w', .value x, by show (invoke (.fn (.func g) c'.toArray) (a'.toArray ++ xs.toArray)).run P w = _; rw [hinv]; exact r1, r2, r3, x, r4, rfl⟩
  · rename_i l
    obtain ⟨q, hq, rfl⟩ := tr_yld hf
    split at e
    case h_2 => cases e
    rename_i fr hfr
    injection e with e; subst e
    obtain ⟨fn, tmps, assign, body, h1, h2⟩ := round_rel (P := P) hr hq ha hfr
    refine ⟨{ target := .fn (.yield q.blk) #[], args := xs.toArray }, by simp [Deferred.ofValue], M, w, .round q.blk fn tmps assign body, ?_, hr, .refl _ _, q.blk, fn, tmps, assign, body, rfl, h2⟩
    show (Instr.yield q.blk xs.toArray).run P w = _
    exact h1
  · cases e
end Go.AM
