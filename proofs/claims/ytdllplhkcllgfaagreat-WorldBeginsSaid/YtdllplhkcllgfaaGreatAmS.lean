/- All acting operations; any operation. Nothing is assumed. -/
import Derived.Test.YtdllplhkcllgfaaGreatAmR
namespace Go.AM

variable {B : Nat → Prop} {w0 : World} {M : Mp} {h : H} {w : World} {P : Program}

theorem valA_spec {e : Option (AV × H)} {nx : ANext} (h : valA e = some nx) : ∃ v h', e = some (v, h') ∧ nx = .val v h' := by
  unfold valA at h; split at h
  · injection h with h; exact ⟨_, _, rfl, h.symm⟩
  · cases h
theorem skipA_spec {e : Option H} {nx : ANext} (h : skipA e = some nx) : ∃ h', e = some h' ∧ nx = .skip h' := by
  unfold skipA at h; split at h
  · injection h with h; exact ⟨_, rfl, h.symm⟩
  · cases h
theorem unitA_spec {e : Option H} {nx : ANext} (h : unitA e = some nx) : ∃ h', e = some h' ∧ nx = .val undefA h' := by
  unfold unitA at h; split at h
  · injection h with h; exact ⟨_, rfl, h.symm⟩
  · cases h
theorem opt2_spec {α : Type} {x y : Option AV} {f : AV → AV → Option α} {r : α} (h : opt2 x y f = some r) : ∃ a b, x = some a ∧ y = some b ∧ f a b = some r := by
  unfold opt2 at h; split at h
  · split at h
    · exact ⟨_, _, rfl, rfl, h⟩
    · cases h
  · cases h
theorem opt3_spec {α : Type} {x y z : Option AV} {f : AV → AV → AV → Option α} {r : α} (h : opt3 x y z f = some r) : ∃ a b c, x = some a ∧ y = some b ∧ z = some c ∧ f a b c = some r := by
  unfold opt3 at h; split at h
  · split at h
    · split at h
      · exact ⟨_, _, _, rfl, rfl, rfl, h⟩
      · cases h
    · cases h
  · cases h

theorem range_acts (hr : HRel B w0 M h w) {t : TypeId} {x v : AV} {x' : Value} {h' : H} (hx : x.tr M = some x') (e : rangeA P h t x = some (v, h')) :
    ∃ M' w' y, (Instr.range t x').run P w = .ok y w' ∧ HRel B w0 M' h' w' ∧ Later h M h' M' ∧ v.tr M' = some y := by
  unfold rangeA at e
  split at e
  · rename_i s hu
    injection e with e; injection e with e1 e2; subst e1 e2
    have := tr_str hx; subst this
    obtain ⟨hr', hl, hat⟩ := hr.allocNew (o := .siter s 0) (ob := .stringIter ⟨s.toArray⟩ 0) (cap := 0) ⟨rfl, rfl⟩
    exact ⟨_, _, _, by simp [Instr.range, run_underlying hu]; rfl, hr', hl, by simp [AV.tr, hat]⟩
  · rename_i hu
    injection e with e; injection e with e1 e2; subst e1 e2
    simp [AV.tr] at hx; subst hx
    obtain ⟨hr', hl, hat⟩ := hr.allocNew (o := .miter none 0 [] 0) (ob := .mapIter none 0 #[] 0) (cap := 0) ⟨rfl, rfl⟩
    exact ⟨_, _, _, by simp [Instr.range, run_underlying hu]; rfl, hr', hl, by simp [AV.tr, hat]⟩
  · rename_i m hu
    split at e
    case h_2 => cases e
    rename_i es clock hb
    injection e with e; injection e with e1 e2; subst e1 e2
    obtain ⟨p, hp, rfl⟩ := tr_map hx
    obtain ⟨ob, ho, l, rfl, hl0⟩ := hr.obj m _ p hb hp
    have hg := run_getObj (P := P) ho (by intros; simp)
    obtain ⟨hr', hl, hat⟩ := hr.allocNew (o := .miter (some m) clock [] clock) (ob := .mapIter (some p.blk) clock #[] clock) (cap := 0)
      ⟨p, (Mp.set_le (hr.fresh _ (Nat.le_refl _)).1).at_ _ _ hp, rfl, rfl⟩
    exact ⟨_, _, _, by simp [Instr.range, run_underlying hu, hg]; rfl, hr', hl, by simp [AV.tr, hat]⟩
  · cases e

theorem filter_rel {es : List (AV × AV × Nat)} {l : List MapEntry} (f : Nat → Bool) (h : All2 (EntryRel M) es l) : All2 (EntryRel M) (es.filter fun e => f e.2.2) (l.filter fun e => f e.born) := by
  induction h with
  | nil => exact .nil
  | cons r _ ih =>
    rename_i a b as bs
    rw [List.filter_cons, List.filter_cons, r.2.2]
    split
    · exact .cons r ih
    · exact ih

theorem all_rel {es : List (AV × AV × Nat)} {l : List MapEntry} (f : Nat → Bool) (h : All2 (EntryRel M) es l) : (es.all fun e => f e.2.2) = (l.all fun e => f e.born) := by
  induction h with
  | nil => rfl
  | cons r _ ih => simp only [List.all_cons, r.2.2, ih]

theorem next_acts (hr : HRel B w0 M h w) {x v : AV} {x' : Value} {s : Bool} {h' : H} (hx : x.tr M = some x') (e : nextA h x s = some (v, h')) (ty : TypeId) :
    ∃ w' y, (Instr.next x' s ty).run P w = .ok y w' ∧ HRel B w0 M h' w' ∧ Later h M h' M ∧ v.tr M = some y := by
  unfold nextA at e
  split at e
  case h_2 => cases e
  rename_i r
  obtain ⟨p, hp, rfl⟩ := tr_ptr hx
  split at e
  · rename_i str pos hb
    obtain ⟨ob, ho, h0, rfl⟩ := hr.obj r _ p hb hp
    have hg := run_getObj (P := P) ho (by intros; simp)
    have hsz : (⟨str.toArray⟩ : ByteArray).size = str.length := by simp [ByteArray.size]
    split at e
    · rename_i hlt
      injection e with e; injection e with e1 e2; subst e1 e2
      have hset := run_setObj (P := P) (o' := .stringIter ⟨str.toArray⟩ (pos + (Utf8.decode ⟨str.toArray⟩ pos).2)) ho (by intros; simp)
      refine ⟨_, .tuple #[.bool true, .int .i64 pos, .int .i32 (Utf8.decode ⟨str.toArray⟩ pos).1], ?_, hr.putObj hb hp (o' := .siter str (pos + (Utf8.decode ⟨str.toArray⟩ pos).2)) (ob' := .stringIter ⟨str.toArray⟩ (pos + (Utf8.decode ⟨str.toArray⟩ pos).2)) ⟨h0, rfl⟩, .put, by simp [AV.tr, AV.trs]⟩
      simp only [Instr.next, h0, Nat.add_zero, Sem.run_bind, hg, Result.andThen_ok, hsz, if_pos hlt, hset, Sem.run_pure, goInt]
    · rename_i hlt
      injection e with e; injection e with e1 e2; subst e1 e2
      refine ⟨w, .tuple #[.bool false], ?_, hr, .refl _ _, by simp [AV.tr, AV.trs]⟩
      simp only [Instr.next, h0, Nat.add_zero, Sem.run_bind, hg, Result.andThen_ok, hsz, if_neg hlt, Sem.run_pure]
  · rename_i since seen last hb
    injection e with e; injection e with e1 e2; subst e1 e2
    obtain ⟨ob, ho, h0, rfl⟩ := hr.obj r _ p hb hp
    have hg := run_getObj (P := P) ho (by intros; simp)
    refine ⟨w, .tuple #[.bool false], ?_, hr, .refl _ _, by simp [AV.tr, AV.trs]⟩
    simp only [Instr.next, h0, Nat.add_zero, Sem.run_bind, hg, Result.andThen_ok, Sem.run_pure]
  · rename_i m since seen last hb
    split at e
    case h_2 => cases e
    rename_i es clock hm
    obtain ⟨ob, ho, q, hq, h0, rfl⟩ := hr.obj r _ p hb hp
    have hg := run_getObj (P := P) ho (by intros; simp)
    obtain ⟨ob2, ho2, l, rfl, hl⟩ := hr.obj m _ q hm hq
    have hg2 := run_getObj (P := P) ho2 (by intros; simp)
    split at e
    case isTrue => cases e
    rename_i hcond
    have hemp : es.isEmpty = l.isEmpty := by cases hl <;> rfl
    have hcond' : (!seen.toArray.isEmpty && !l.toArray.isEmpty && l.toArray.all (·.born ≥ last)) = false := by
      have := all_rel (fun n => decide (n ≥ last)) hl
      rw [Bool.not_eq_true] at hcond
      rw [← hcond, this, hemp]; simp
    have f1 := filter_rel (fun n => !seen.contains n) hl
    have f2 := filter_rel (fun n => decide (n < since)) f1
    have f3 := filter_rel (fun n => decide (n ≥ since)) f1
    have a1 : (l.toArray.filter fun e => !seen.toArray.contains e.born) = (l.filter fun e => !seen.contains e.born).toArray := by simp
    generalize hL : (l.filter fun e => !seen.contains e.born) = L at f2 f3 a1
    have a2 : (L.toArray.filter fun e => decide (e.born < since)) = (L.filter fun e => decide (e.born < since)).toArray := by simp
    have a3 : (L.toArray.filter fun e => decide (e.born ≥ since)) = (L.filter fun e => decide (e.born ≥ since)).toArray := by simp
    generalize (L.filter fun e => decide (e.born < since)) = O at f2 a2
    generalize (L.filter fun e => decide (e.born ≥ since)) = N at f3 a3
    simp only at e
    generalize ((es.filter fun e => !seen.contains e.2.2).filter fun e => decide (e.2.2 < since)) = O' at e f2
    generalize ((es.filter fun e => !seen.contains e.2.2).filter fun e => decide (e.2.2 ≥ since)) = N' at e f3
    split at e
    · cases f2; cases f3
      injection e with e; injection e with e1 e2; subst e1 e2
      refine ⟨w, .tuple #[.bool false], ?_, hr, .refl _ _, by simp [AV.tr, AV.trs]⟩
      simp only [Instr.next, h0, Nat.add_zero, Sem.run_bind, hg, hg2, Result.andThen_ok]
      rw [if_neg (by rw [hcond']; simp), a1, a2, a3]
      simp [Question.forced]
    · rename_i en
      cases f2 with
      | cons hrel hrest =>
        rename_i en' _
        cases hrest; cases f3
        injection e with e; injection e with e1 e2; subst e1 e2
        have hset := run_setObj (P := P) (o' := .mapIter (some q.blk) since (seen.toArray.push en'.born) clock) ho (by intros; simp)
        refine ⟨_, .tuple #[.bool true, en'.key, en'.val], ?_, hr.putObj hb hp (o' := .miter (some m) since (seen ++ [en.2.2]) clock) (ob' := .mapIter (some q.blk) since (seen.toArray.push en'.born) clock) ?_, .put, by simp [AV.tr, AV.trs, hrel.1, hrel.2.1]⟩
        · simp only [Instr.next, h0, Nat.add_zero, Sem.run_bind, hg, hg2, Result.andThen_ok]
          rw [if_neg (by rw [hcond']; simp), a1, a2, a3]
          simp at hset
          simp [Question.forced, hset]
        · exact ⟨q, hq, h0, by rw [hrel.2.2]; simp⟩
    · cases e
  · cases e

theorem clear_acts (hr : HRel B w0 M h w) {argTypes : Array TypeId} {ty : TypeId} {x : Option AV} {x' : Value} {h' : H} (hx : ∀ a, x = some a → a.tr M = some x') (e : clearA P h argTypes[0]? x = some h') :
    ∃ w', (Builtin.clear_ argTypes ty #[x']).run P w = .ok (.tuple #[]) w' ∧ HRel B w0 M h' w' ∧ Later h M h' M := by
  unfold clearA at e
  split at e
  case h_1 => cases e
  rename_i t ht
  split at e
  case h_2 => cases e
  rename_i elem hu
  split at e
  · injection e with e; subst e
    have := hx _ rfl
    simp [AV.tr] at this; subst this
    exact ⟨w, by simp [Builtin.clear_, ht, run_underlying hu], hr, .refl _ _⟩
  · injection e with e; subst e
    obtain ⟨p, hp, rfl⟩ := tr_slice0 (hx _ rfl)
    exact ⟨w, by simp [Builtin.clear_, ht, run_underlying hu], hr, .refl _ _⟩
  · rename_i b off offE n cap
    obtain ⟨p, hp, rfl⟩ := tr_slice (hx _ rfl)
    split at e
    · rename_i hn
      injection e with e; subst e
      have : n = 0 := by simpa using hn
      subst this
      exact ⟨w, by simp [Builtin.clear_, ht, run_underlying hu], hr, .refl _ _⟩
    · rename_i hn
      split at e
      case h_2 => cases e
      rename_i z hz
      have hn' : n ≠ 0 := by rintro rfl; simp at hn
      have hsc : (repA z.cells n).all AV.scalar = true := by
        unfold storeN at e
        split at e
        · split at e
          · assumption
          · cases e
        · cases e
      have hzs : z.cells.all AV.scalar = true := by
        obtain ⟨k, rfl⟩ : ∃ k, n = k + 1 := ⟨n - 1, by omega⟩
        rw [repA, List.all_append, Bool.and_eq_true] at hsc
        exact hsc.1
      obtain ⟨xs, zv, h2, h1, _, h3⟩ := zeros_run (P := P) (w := w) (n := n) (M := M) hr.env hz rfl (scalar_tuple hzs)
      obtain ⟨w', r1, r2, r3⟩ := hr.stores (P := P) e hp h2
      refine ⟨w', ?_, r2, r3⟩
      obtain ⟨k, rfl⟩ : ∃ k, n = k + 1 := ⟨n - 1, by omega⟩
      have hzc : (Builtin.zeroCells zv.cells (k + 1)).toList = xs := by
        obtain ⟨zv2, q1, q2⟩ := zero_run (P := P) (w := w) hz
        rw [h1] at q1; injection q1 with q1 _; subst q1
        have hsz : zv.cells.size = z.cells.length := by rw [← Array.length_toList]; exact AV.trs_length (cells_tr (q2 M) (scalar_tuple hzs) hr.env)
        unfold Builtin.zeroCells
        rw [hsz]
        have := congrArg Array.toList h3
        rw [hsz] at this
        exact this
      simp [Builtin.clear_, ht, run_underlying hu, h1, hzc, r1]
  · cases e

theorem defer_acts (hr : HRel B w0 M h w) {ρ : Env} {ρ' : Operand → Value} {c : Call} {nx : ANext} (hρ : EnvRel M ρ ρ' (Op.defer c).operands) (e : deferA ρ h c = some nx) (o : Oper) (ho : o.op = .defer c) :
    Acts P B w0 M h w (execOp ρ' o) nx := by
  unfold deferA at e
  split at e
  case h_2 => cases e
  rename_i f hc
  split at e
  case h_2 => cases e
  rename_i g first captured hf
  split at e
  case h_2 => cases e
  rename_i args ha
  injection e with e; subst e
  obtain ⟨a', c', h1, h2, hf', _⟩ := tr_fn (hρ f (by simp [Op.operands, Call.operands, hc]) _ hf)
  have h3 := EnvRel.list (fun x hx => hρ x (by simp [Op.operands, Call.operands]; right; simpa using hx)) ha
  refine ⟨M, w, .defer { target := .fn (.func g) c'.toArray, args := (a' ++ c.args.toList.map ρ').toArray }, ?_, hr, .refl _ _, _, ?_, rfl⟩
  · obtain ⟨dst, op, ty, pos, after, guard⟩ := o
    simp only at ho; subst ho
    simp [execOp, resolve, hc, hf', Deferred.ofValue]
  · exact ⟨c', a' ++ c.args.toList.map ρ', h2, AV.trs_append.2 ⟨_, _, h1, h3, rfl⟩, rfl⟩

theorem actsVal {s : Sem Next} {v : AV} {h' : H} {M' : Mp} {w' : World} {y : Value} (h1 : s.run P w = .ok (.value y) w') (h2 : HRel B w0 M' h' w') (h3 : Later h M h' M') (h4 : v.tr M' = some y) : Acts P B w0 M h w s (.val v h') :=
  ⟨M', w', .value y, h1, h2, h3, y, h4, rfl⟩

/-- EVERY ACTING OPERATION. -/
theorem act_sound {X : Ext} (hX : XOk P X) (hr : HRel B w0 M h w) {ρ : Env} {ρ' : Operand → Value} {op : Op} {nx : ANext} (hρ : EnvRel M ρ ρ' op.operands) (e : actA P X h ρ op = some nx) (o : Oper) (ho : o.op = op) :
    Acts P B w0 M h w (execOp ρ' o) nx := by
  cases op
  case store t a x => exact store_acts hr hρ e o ho
  case convert src dst x => exact toBytes_acts hr hρ e o ho
  case range t x =>
    simp only [actA] at e
    obtain ⟨v, h', e1, rfl⟩ := valA_spec e
    unfold range1A at e1
    split at e1
    case h_2 => cases e1
    rename_i a hx
    obtain ⟨M', w', y, r1, r2, r3, r4⟩ := range_acts (P := P) hr (hρ x (by simp [Op.operands]) _ hx) e1
    refine actsVal (y := y) ?_ r2 r3 r4
    obtain ⟨dst, op, ty, pos, after, guard⟩ := o
    simp only at ho; subst ho
    simp [execOp, r1]
  case next it s =>
    simp only [actA] at e
    obtain ⟨v, h', e1, rfl⟩ := valA_spec e
    unfold next1A at e1
    split at e1
    case h_2 => cases e1
    rename_i a hx
    obtain ⟨w', y, r1, r2, r3, r4⟩ := next_acts (P := P) hr (hρ it (by simp [Op.operands]) _ hx) e1 o.type
    refine actsVal (y := y) ?_ r2 r3 r4
    obtain ⟨dst, op, ty, pos, after, guard⟩ := o
    simp only at ho; subst ho
    simp [execOp, r1]
  case mapUpdate t m k x =>
    simp only [actA] at e
    obtain ⟨h', e1, rfl⟩ := skipA_spec e
    obtain ⟨a, b, c, h1, h2, h3, e2⟩ := opt3_spec e1
    obtain ⟨w', r1, r2, r3⟩ := update_acts (P := P) hr (hρ m (by simp [Op.operands]) _ h1) (hρ k (by simp [Op.operands]) _ h2) (hρ x (by simp [Op.operands]) _ h3) e2
    refine ⟨M, w', .skip, ?_, r2, r3, rfl⟩
    obtain ⟨dst, op, ty, pos, after, guard⟩ := o
    simp only at ho; subst ho
    simp [execOp, r1]
  case mapEntry t m k =>
    simp only [actA] at e
    obtain ⟨v, h', e1, rfl⟩ := valA_spec e
    obtain ⟨a, b, h1, h2, e2⟩ := opt2_spec e1
    obtain ⟨w', y, r1, r2, r3, r4⟩ := entry_acts (P := P) hr (hρ m (by simp [Op.operands]) _ h1) (hρ k (by simp [Op.operands]) _ h2) e2
    refine actsVal (y := y) ?_ r2 r3 r4
    obtain ⟨dst, op, ty, pos, after, guard⟩ := o
    simp only at ho; subst ho
    simp [execOp, r1]
  case entryStore t m s x =>
    simp only [actA] at e
    obtain ⟨h', e1, rfl⟩ := skipA_spec e
    obtain ⟨a, b, c, h1, h2, h3, e2⟩ := opt3_spec e1
    obtain ⟨w', r1, r2, r3⟩ := entryStore_acts (P := P) (t := t) hr (hρ m (by simp [Op.operands]) _ h1) (hρ s (by simp [Op.operands]) _ h2) (hρ x (by simp [Op.operands]) _ h3) e2
    refine ⟨M, w', .skip, ?_, r2, r3, rfl⟩
    obtain ⟨dst, op, ty, pos, after, guard⟩ := o
    simp only at ho; subst ho
    simp [execOp, r1]
  case defer c => exact defer_acts hr hρ e o ho
  case call c =>
    simp only [actA, call1A] at e
    split at e
    · rename_i f hc
      split at e
      case h_2 => cases e
      rename_i fv hf
      split at e
      case h_2 => cases e
      rename_i args ha
      have h3 := EnvRel.list (fun x hx => hρ x (by simp [Op.operands, Call.operands]; right; simpa using hx)) ha
      obtain ⟨d, r1, M', w', n, r2, r3⟩ := call_acts hX hr (hρ f (by simp [Op.operands, Call.operands, hc]) _ hf) h3 e
      refine ⟨M', w', n, ?_, r3⟩
      obtain ⟨dst, op, ty, pos, after, guard⟩ := o
      simp only at ho; subst ho
      rw [map_arr] at r1
      simp [execOp, resolve, hc, r1, r2]
    · rename_i b hc
      obtain ⟨callee, args, argTypes⟩ := c
      simp only at hc; subst hc
      have hρ' : ∀ x ∈ args.toList, ∀ a, ρ x = some a → a.tr M = some (ρ' x) := fun x hx => hρ x (by simp [Op.operands, Call.operands]; simpa using hx)
      have hex := execBuiltin (ρ' := ρ') (b := b) (args := args) (argTypes := argTypes) o ho
      rw [hex]
      simp only [builtinActA] at e
      split at e
      · split at e
        case h_2 => cases e
        rename_i s x hargs
        have hargs' : args = #[s, x] := by apply Array.ext'; simpa using hargs
        subst hargs'
        obtain ⟨v, h', e1, rfl⟩ := valA_spec e
        obtain ⟨a, c, h1, h2, e2⟩ := opt2_spec e1
        cases hat : argTypes.toList with
        | nil => rw [hat] at e2; simp [appendA] at e2
        | cons st r => cases r with
          | nil => rw [hat] at e2; simp [appendA] at e2
          | cons xt r => cases r with
            | cons _ _ => rw [hat] at e2; simp [appendA] at e2
            | nil =>
              rw [hat] at e2
              have hargT : argTypes = #[st, xt] := by apply Array.ext'; simpa using hat
              subst hargT
              obtain ⟨M', w', y, r1, r2, r3, r4⟩ := append_ok (P := P) hr (hρ' s (by simp) _ h1) (hρ' x (by simp) _ h2) e2 o.type
              exact actsVal (y := y) (by simp [builtin, r1]) r2 r3 r4
      · split at e
        case h_2 => cases e
        rename_i m k hargs
        have hargs' : args = #[m, k] := by apply Array.ext'; simpa using hargs
        subst hargs'
        split at e
        case h_2 => cases e
        rename_i t ht
        obtain ⟨h', e1, rfl⟩ := unitA_spec e
        obtain ⟨a, c, h1, h2, e2⟩ := opt2_spec e1
        obtain ⟨w', r1, r2, r3⟩ := delete_acts (P := P) (ty := o.type) hr ht (hρ' m (by simp) _ h1) (hρ' k (by simp) _ h2) e2
        exact actsVal (y := .tuple #[]) (by simp [builtin, r1]) r2 r3 rfl
      · split at e
        case h_2 => cases e
        rename_i x hargs
        have hargs' : args = #[x] := by apply Array.ext'; simpa using hargs
        subst hargs'
        obtain ⟨h', e1, rfl⟩ := unitA_spec e
        obtain ⟨w', r1, r2, r3⟩ := clear_acts (P := P) (ty := o.type) hr (fun a ha => hρ' x (by simp) a ha) e1
        exact actsVal (y := .tuple #[]) (by simp [builtin, r1]) r2 r3 rfl
      · cases e
    · cases e
  all_goals simp [actA] at e

/-- EVERY OPERATION. -/
theorem op_sound {X : Ext} (hX : XOk P X) (hr : HRel B w0 M h w) {ρ : Env} {ρ' : Operand → Value} {op : Op} {nx : ANext} (hρ : EnvRel M ρ ρ' op.operands) (e : opA P X h ρ op = some nx) (o : Oper) (ho : o.op = op) :
    Acts P B w0 M h w (execOp ρ' o) nx := by
  unfold opA at e
  split at e
  · split at e
    case h_2 => cases e
    rename_i v hv
    injection e with e; subst e
    obtain ⟨x, hx, hrun⟩ := read_sound hr hρ hv
    exact actsVal (hrun o ho) hr (.refl _ _) hx
  · split at e
    case h_2 => cases e
    rename_i obj f hm
    injection e with e; subst e
    obtain ⟨ob, cap, hob, x, hx, hrun⟩ := mk_sound hr hρ hm
    have hfr := (hr.fresh h.next (Nat.le_refl _)).1
    obtain ⟨hr', hl, hat⟩ := hr.allocNew (o := obj) (ob := ob) (cap := cap) (hob h.next _ (Mp.set_le hfr) (by simp [Mp.set]))
    exact actsVal (hrun o ho) hr' hl (hx h.next _ hat)
  · exact act_sound hX hr hρ e o ho
end Go.AM
