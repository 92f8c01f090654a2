/- Maps that are read, conversions, builtins. Nothing is assumed. -/
import Derived.Test.YtdllplhkcllgfaaGreatAmJ
import Derived.Laws.BytesString
namespace Go.AM

variable {B : Nat → Prop} {w0 : World} {M : Mp} {h : H} {w : World} {P : Program}

theorem keyEq_run {kind : TypeDesc} {a b : AV} {a' b' : Value} {r : Bool} (e : keyEq kind a b = some r) (ha : a.tr M = some a') (hb : b.tr M = some b') :
    Instr.sameNow kind a' b' = some r ∧ (r = true → a = b) := by
  unfold keyEq at e
  split at e
  · split at e
    case isFalse => cases e
    rename_i hk; subst hk
    injection e with e; subst e
    rw [tr_int ha, tr_int hb]
    exact ⟨by simp [Instr.sameNow], fun h => by simp at h; rw [h]⟩
  · injection e with e; subst e
    rw [tr_str ha, tr_str hb]
    exact ⟨by simp [Instr.sameNow, beq_toListBytes], fun h => by simp at h; rw [h]⟩
  · injection e with e; subst e
    rw [tr_bool ha, tr_bool hb]
    exact ⟨by simp [Instr.sameNow], fun h => by simp at h; rw [h]⟩
  · cases e

theorem findA_run {kind : TypeDesc} {k : AV} {k' : Value} (hk : k.tr M = some k') : ∀ {es : List (AV × AV × Nat)} {l : List MapEntry} {i : Nat} {r : Option (Nat × AV × Nat)},
    All2 (EntryRel M) es l → findA kind k es i = some r →
    match r with
    | none => Instr.findNow kind k' l i = some none
    | some (j, v, born) => ∃ v', v.tr M = some v' ∧ Instr.findNow kind k' l i = some (some (j, v')) ∧ i ≤ j ∧ es[j - i]? = some (k, v, born)
  | _, _, i, r, .nil, e => by simp only [findA] at e; injection e with e; subst e; simp [Instr.findNow]
  | _, _, i, r, .cons (a := a) (b := b) (as := as) (bs := bs) hr hrs, e => by
    simp only [findA] at e
    split at e
    · rename_i hq
      injection e with e; subst e
      obtain ⟨h1, h2⟩ := keyEq_run hq hk hr.1
      have := h2 rfl
      refine ⟨b.val, hr.2.1, by simp [Instr.findNow, h1], Nat.le_refl _, ?_⟩
      obtain ⟨x, y, z⟩ := a
      simp at this; subst this; simp
    · rename_i hq
      obtain ⟨h1, _⟩ := keyEq_run hq hk hr.1
      have ih := findA_run hk hrs e
      cases r with
      | none => simp only at ih ⊢; simp [Instr.findNow, h1, ih]
      | some q =>
        obtain ⟨j, v, born⟩ := q
        obtain ⟨v', a1, a2, a3, a4⟩ := ih
        refine ⟨v', a1, by simp [Instr.findNow, h1, a2], by omega, ?_⟩
        rw [show j - i = (j - (i + 1)) + 1 from by omega, List.getElem?_cons_succ]; exact a4
    · cases e

theorem checkKey_run {b : Bool} {n : Nat} {kt : TypeId} {kind : TypeDesc} {k : AV} {k' : Value} (hu : P.underlying kt = some kind) (hs : simpleKey kind k = true) (hk : k.tr M = some k') :
    (Instr.checkKey b (n + 1) kt k').run P w = .ok () w := by
  unfold simpleKey at hs
  split at hs
  · rw [tr_int hk]; simp [Instr.checkKey, run_underlying hu]
  · rw [tr_str hk]; simp [Instr.checkKey, run_underlying hu]
  · rw [tr_bool hk]; simp [Instr.checkKey, run_underlying hu]
  · cases hs

theorem findKey_run {kt : TypeId} {kind : TypeDesc} {k' : Value} {l : List MapEntry} {r : Option (Nat × Value)} (hu : P.underlying kt = some kind) (h : Instr.findNow kind k' l 0 = some r) :
    (Instr.findKey kt k' l).run P w = .ok r w := by
  simp [Instr.findKey, run_underlying hu, h]

/-- A map's entries, as they lie. -/
theorem mapOf_run (hr : HRel B w0 M h w) {x : AV} {x' : Value} {es : List (AV × AV × Nat)} {c : Nat} (e : mapOf h x = some (es, c)) (hx : x.tr M = some x') :
    ∃ l, All2 (EntryRel M) es l ∧ ((x' = .map none ∧ l = []) ∨ ∃ r, x' = .map (some r) ∧ w.heap[r]? = some (.map l.toArray c)) := by
  unfold mapOf at e
  split at e
  · injection e with e; injection e with e1 e2; subst e1 e2
    simp [AV.tr] at hx; subst hx
    exact ⟨[], .nil, .inl ⟨rfl, rfl⟩⟩
  · split at e
    case h_2 => cases e
    rename_i b _ es' c' hb
    injection e with e; injection e with e1 e2; subst e1 e2
    obtain ⟨p, hp, rfl⟩ := tr_map hx
    obtain ⟨ob, ho, l, rfl, hl⟩ := hr.obj b _ p hb hp
    exact ⟨l, hl, .inr ⟨p.blk, rfl, ho⟩⟩
  · cases e

theorem lookup_reads (hr : HRel B w0 M h w) {ρ : Env} {ρ' : Operand → Value} {t : TypeId} {x k : Operand} {ok : Bool} {v : AV} (hρ : EnvRel M ρ ρ' (Op.lookup t x k ok).operands) (e : lookup2A P h t (ρ x) (ρ k) ok = some v) :
    Reads P M w ρ' (.lookup t x k ok) v := by
  unfold lookup2A at e
  split at e
  case h_2 => cases e
  rename_i a ha
  split at e
  case h_2 => cases e
  rename_i b hb
  have ta := hρ x (by simp [Op.operands]) _ ha
  have tb := hρ k (by simp [Op.operands]) _ hb
  unfold lookupA at e
  split at e
  case h_2 => cases e
  rename_i kt et hu
  split at e
  case h_2 => cases e
  rename_i kind es c huk hm
  split at e
  case isFalse => cases e
  rename_i hs
  obtain ⟨l, hl, hx⟩ := mapOf_run hr hm ta
  have hck : ∀ q, (Instr.checkKey q 10000 kt (ρ' k)).run P w = .ok () w := fun q => checkKey_run huk hs tb
  have fin : ∀ (y : Value) (f : Option (Nat × Value)), Instr.findNow kind (ρ' k) l 0 = some f →
      (match f with | some (_, v) => v = y | none => (zeroValue et).run P w = .ok y w) →
      ∀ o : Oper, o.op = .lookup t x k ok → (execOp ρ' o).run P w = .ok (.value (if ok then .tuple #[y, .bool f.isSome] else y)) w := by
    rintro y f hf hy ⟨dst, op, ty, pos, after, guard⟩ rfl
    have hfk := findKey_run (w := w) huk hf
    rcases hx with ⟨h1, h2⟩ | ⟨r, h1, h2⟩
    · subst h2
      cases f with
      | none => simp only at hy; simp [execOp, Instr.lookup, run_underlying hu, h1, hck, hfk, hy]
      | some q => obtain ⟨i, z⟩ := q; simp [Instr.findNow] at hf
    · have hg := run_getObj (P := P) h2 (by intros; simp)
      cases f with
      | none => simp only at hy; simp [execOp, Instr.lookup, run_underlying hu, h1, hck, hfk, hg, hy]
      | some q => obtain ⟨i, z⟩ := q; simp at hy; subst hy; simp [execOp, Instr.lookup, run_underlying hu, h1, hck, hfk, hg]
  split at e
  · rename_i i v1 born hf
    injection e with e; subst e
    obtain ⟨v', h1, h2, _⟩ := findA_run tb hl hf
    refine ⟨if ok then .tuple #[v', .bool true] else v', by cases ok <;> simp [AV.tr, AV.trs, h1], ?_⟩
    exact fin v' (some (i, v')) h2 rfl
  · rename_i hf
    have h2 := findA_run tb hl hf
    split at e
    case h_2 => cases e
    rename_i z hz
    injection e with e; subst e
    obtain ⟨v', h1, h3⟩ := zero_run (P := P) (w := w) hz
    refine ⟨if ok then .tuple #[v', .bool false] else v', by cases ok <;> simp [AV.tr, AV.trs, h3], ?_⟩
    exact fin v' none h2 h1
  · cases e

theorem getLast?_back {α : Type} (l : List α) : l.toArray.back? = l.getLast? := by simp

theorem entry_reads (hr : HRel B w0 M h w) {ρ : Env} {ρ' : Operand → Value} {it : Operand} {v : AV} (hρ : EnvRel M ρ ρ' (Op.entry it).operands) (e : entry1A h (ρ it) = some v) :
    Reads P M w ρ' (.entry it) v := by
  unfold entry1A at e
  split at e
  case h_2 => cases e
  rename_i a ha
  have ta := hρ it (by simp [Op.operands]) _ ha
  unfold curA at e
  split at e
  case h_2 => cases e
  rename_i r
  obtain ⟨p, hp, h1⟩ := tr_ptr ta
  split at e
  case h_2 => cases e
  rename_i m since seen stepped hb
  split at e
  case h_2 => cases e
  rename_i stamp es clock hst hm
  split at e
  case isFalse => cases e
  rename_i hcl
  split at e
  case h_2 => cases e
  rename_i en hfind
  injection e with e; subst e
  obtain ⟨ob, ho, q, hq, h0, rfl⟩ := hr.obj r _ p hb hp
  obtain ⟨ob2, ho2, l, rfl, hl⟩ := hr.obj m _ q hm hq
  have hfnd : ∃ en' : MapEntry, l.find? (fun e => e.born == stamp) = some en' ∧ EntryRel M en en' := by
    clear ho2 hm
    induction hl with
    | nil => simp at hfind
    | cons hr' hrs ih =>
      rename_i a b as bs
      rw [List.find?_cons] at hfind ⊢
      rw [← hr'.2.2]
      split at hfind
      · rename_i hc; injection hfind with hfind; subst hfind; exact ⟨b, rfl, hr'⟩
      · exact ih hfind
  obtain ⟨en', hf', hrel⟩ := hfnd
  refine ⟨.tuple #[en'.key, en'.val], by simp [AV.tr, AV.trs, hrel.1, hrel.2.1], ?_⟩
  rintro ⟨dst, op, ty, pos, after, guard⟩ rfl
  have hg1 := run_getObj (P := P) ho (by intros; simp)
  have hg2 := run_getObj (P := P) ho2 (by intros; simp)
  have hst' : seen.toArray.back? = some stamp := by simpa using hst
  simp [execOp, Instr.entry, h1, h0, hg1, hst', hg2, hcl, hf']
end Go.AM
