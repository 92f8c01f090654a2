/- The other acting operations; calls. Nothing is assumed. -/
import Derived.Test.YtdllplhkcllgfaaGreatAmP
namespace Go.AM

variable {B : Nat → Prop} {w0 : World} {M : Mp} {h : H} {w : World} {P : Program}

theorem setNth_eq {α : Type} : ∀ (l : List α) (i : Nat) (x : α), setNth l i x = l.set i x
  | [], _, _ => rfl
  | _ :: _, 0, _ => rfl
  | _ :: l, i + 1, x => by simp [setNth, setNth_eq l i x]
theorem delNth_eq {α : Type} : ∀ (l : List α) (i : Nat), delNth l i = l.eraseIdx i
  | [], _ => rfl
  | _ :: _, 0 => rfl
  | _ :: l, i + 1 => by simp [delNth, delNth_eq l i]

theorem All2.set {α β : Type} {R : α → β → Prop} : ∀ {as bs} (i : Nat) {a : α} {b : β}, All2 R as bs → R a b → All2 R (as.set i a) (bs.set i b)
  | _, _, _, _, _, .nil, _ => .nil
  | _, _, 0, _, _, .cons _ rs, r => .cons r rs
  | _, _, i + 1, _, _, .cons r0 rs, r => .cons r0 (rs.set i r)
theorem All2.erase {α β : Type} {R : α → β → Prop} : ∀ {as bs} (i : Nat), All2 R as bs → All2 R (as.eraseIdx i) (bs.eraseIdx i)
  | _, _, _, .nil => .nil
  | _, _, 0, .cons _ rs => rs
  | _, _, i + 1, .cons r0 rs => .cons r0 (rs.erase i)

theorem same_bits {kind : TypeDesc} {k : AV} {k' : Value} (hs : simpleKey kind k = true) (hk : k.tr M = some k') (n : Nat) : Instr.sameBits n k' k' = true := by
  unfold simpleKey at hs
  split at hs
  · rw [tr_int hk]; simp [Instr.sameBits]
  · rw [tr_str hk]; simp [Instr.sameBits, beq_toListBytes]
  · rw [tr_bool hk]; simp [Instr.sameBits]
  · cases hs

theorem update_acts (hr : HRel B w0 M h w) {t : TypeId} {x k v : AV} {x' k' v' : Value} {h' : H} (hx : x.tr M = some x') (hk : k.tr M = some k') (hv : v.tr M = some v') (e : updateA P h t x k v = some h') :
    ∃ w', (Instr.mapUpdate t x' k' v').run P w = .ok () w' ∧ HRel B w0 M h' w' ∧ Later h M h' M := by
  unfold updateA at e
  split at e
  case h_2 => cases e
  rename_i kt et b hu
  split at e
  case h_2 => cases e
  rename_i kind es c huk hb
  split at e
  case isFalse => cases e
  rename_i hs
  obtain ⟨p, hp, rfl⟩ := tr_map hx
  obtain ⟨ob, ho, l, rfl, hl⟩ := hr.obj b _ p hb hp
  have hg := run_getObj (P := P) ho (by intros; simp)
  have hck := checkKey_run (P := P) (w := w) (b := false) (n := 9999) huk hs hk
  split at e
  · rename_i i v1 born hf
    injection e with e; subst e
    obtain ⟨v2, h1, h2, h3, h4⟩ := findA_run hk hl hf
    simp only [Nat.sub_zero] at h4
    obtain ⟨en, hen, hrel⟩ := hl.get h4
    have hkey : en.key = k' := by have := hrel.1; rw [hk] at this; exact (Option.some.inj this).symm
    have hfk := findKey_run (w := w) huk h2
    have hstay : (Instr.keyThatStays (((l.toArray[i]?).map (·.key)).getD k') k').run P w = .ok k' w := by
      have : ((l.toArray[i]?).map (·.key)).getD k' = k' := by simp [hen, hkey]
      rw [this]; unfold Instr.keyThatStays; rw [if_pos (same_bits hs hk _)]; rfl
    have hset := run_setObj (P := P) (o' := .map (l.toArray.modify i fun e => { e with key := k', val := v' }) c) ho (by intros; simp)
    refine ⟨_, ?_, hr.putObj hb hp (o' := .map (setNth es i (k, v, born)) c) (ob' := .map (l.toArray.modify i fun e => { e with key := k', val := v' }) c) ?_, .put⟩
    · simp [Instr.mapUpdate, run_underlying hu, hg, hck, hfk]
      simp at hstay
      rw [hstay]; simp; simpa using hset
    · refine ⟨l.set i { en with key := k', val := v' }, ?_, ?_⟩
      · congr 1
        apply Array.ext_getElem?
        intro j
        rw [Array.getElem?_modify]
        simp only [List.getElem?_toArray, List.getElem?_set]
        have hlt := (List.getElem?_eq_some_iff.1 hen).1
        by_cases hij : i = j
        · subst hij
          have hen2 := (List.getElem?_eq_some_iff.1 hen).2
          simp [hlt, hen2]
        · simp [hij]
      · rw [setNth_eq]
        exact hl.set i ⟨hk, hv, hrel.2.2⟩
  · rename_i hf
    injection e with e; subst e
    have h2 := findA_run hk hl hf
    have hfk := findKey_run (w := w) huk h2
    have hset := run_setObj (P := P) (o' := .map (l.toArray.push { key := k', val := v', born := c }) (c + 1)) ho (by intros; simp)
    refine ⟨_, ?_, hr.putObj hb hp (o' := .map (es ++ [(k, v, c)]) (c + 1)) (ob' := .map (l.toArray.push { key := k', val := v', born := c }) (c + 1)) ?_, .put⟩
    · simp [Instr.mapUpdate, run_underlying hu, hg, hck, hfk]
      simpa using hset
    · refine ⟨l ++ [{ key := k', val := v', born := c }], by simp, hl.append (.cons ⟨hk, hv, rfl⟩ .nil)⟩
  · cases e

theorem entry_acts (hr : HRel B w0 M h w) {t : TypeId} {x k v : AV} {x' k' : Value} {h' : H} (hx : x.tr M = some x') (hk : k.tr M = some k') (e : entryA P h t x k = some (v, h')) :
    ∃ w' y, (Instr.mapEntry t x' k').run P w = .ok y w' ∧ HRel B w0 M h' w' ∧ Later h M h' M ∧ v.tr M = some y := by
  unfold entryA at e
  split at e
  case h_2 => cases e
  rename_i kt et b hu
  split at e
  case h_2 => cases e
  rename_i kind es c huk hb
  split at e
  case isFalse => cases e
  rename_i hs
  obtain ⟨p, hp, rfl⟩ := tr_map hx
  obtain ⟨ob, ho, l, rfl, hl⟩ := hr.obj b _ p hb hp
  have hg := run_getObj (P := P) ho (by intros; simp)
  have hck := checkKey_run (P := P) (w := w) (b := false) (n := 9999) huk hs hk
  split at e
  · rename_i i v1 born hf
    injection e with e; injection e with e1 e2; subst e1 e2
    obtain ⟨v2, h1, h2, h3, h4⟩ := findA_run hk hl hf
    simp only [Nat.sub_zero] at h4
    obtain ⟨en, hen, hrel⟩ := hl.get h4
    have hkey : en.key = k' := by have := hrel.1; rw [hk] at this; exact (Option.some.inj this).symm
    have hfk := findKey_run (w := w) huk h2
    have hstay : (Instr.keyThatStays (((l.toArray[i]?).map (·.key)).getD k') k').run P w = .ok k' w := by
      have : ((l.toArray[i]?).map (·.key)).getD k' = k' := by simp [hen, hkey]
      rw [this]; unfold Instr.keyThatStays; rw [if_pos (same_bits hs hk _)]; rfl
    have hset := run_setObj (P := P) (o' := .map (l.toArray.modify i fun e => { e with key := k' }) c) ho (by intros; simp)
    refine ⟨_, .tuple #[v2, goInt (((l.toArray[i]?).map (·.born)).getD 0)], ?_, hr.putObj hb hp (o' := .map (setNth es i (k, v1, born)) c) (ob' := .map (l.toArray.modify i fun e => { e with key := k' }) c) ?_, .put, ?_⟩
    · simp [Instr.mapEntry, run_underlying hu, hg, hck, hfk]
      simp at hstay
      simp at hset
      rw [hstay]; simp [hset]
    · refine ⟨l.set i { en with key := k' }, ?_, ?_⟩
      · congr 1
        apply Array.ext_getElem?
        intro j
        rw [Array.getElem?_modify]
        simp only [List.getElem?_toArray, List.getElem?_set]
        have hlt := (List.getElem?_eq_some_iff.1 hen).1
        by_cases hij : i = j
        · subst hij
          have hen2 := (List.getElem?_eq_some_iff.1 hen).2
          simp [hlt, hen2]
        · simp [hij]
      · rw [setNth_eq]
        exact hl.set i ⟨hk, hrel.2.1, hrel.2.2⟩
    · have hb2 : born = en.born := hrel.2.2
      simp [AV.tr, AV.trs, h1, hen, goInt, hb2]
  · rename_i hf
    split at e
    case h_2 => cases e
    rename_i z hz
    injection e with e; injection e with e1 e2; subst e1 e2
    obtain ⟨zv, z1, z2⟩ := zero_run (P := P) (w := w) hz
    have h2 := findA_run hk hl hf
    have hfk := findKey_run (w := w) huk h2
    have hset := run_setObj (P := P) (o' := .map (l.toArray.push { key := k', val := zv, born := c }) (c + 1)) ho (by intros; simp)
    refine ⟨_, .tuple #[zv, goInt c], ?_, hr.putObj hb hp (o' := .map (es ++ [(k, z, c)]) (c + 1)) (ob' := .map (l.toArray.push { key := k', val := zv, born := c }) (c + 1)) ?_, .put, ?_⟩
    · simp at hset
      simp [Instr.mapEntry, run_underlying hu, hg, hck, hfk, z1, hset]
    · refine ⟨l ++ [{ key := k', val := zv, born := c }], by simp, hl.append (.cons ⟨hk, z2 M, rfl⟩ .nil)⟩
    · simp [AV.tr, AV.trs, z2 M, goInt]
  · cases e

theorem findBorn_spec {n : Nat} : ∀ {es : List (AV × AV × Nat)} {l : List MapEntry} {j i : Nat} {k : AV}, All2 (EntryRel M) es l → findBorn n es j = some (i, k) →
    ∃ d e, i = j + d ∧ l.findIdx? (fun e => ((e.born : Nat) : Int) == (n : Int)) = some d ∧ es[d]? = some e ∧ e.1 = k ∧ e.2.2 = n
  | _, _, j, i, k, .nil, e => by simp [findBorn] at e
  | _, _, j, i, k, .cons (a := a) (b := b) (as := as) (bs := bs) r rs, e => by
    simp only [findBorn] at e
    by_cases hb : a.2.2 = n
    · rw [if_pos hb] at e
      injection e with e; injection e with e1 e2; subst e1 e2
      have : b.born = n := by rw [← r.2.2]; exact hb
      exact ⟨0, a, rfl, by simp [List.findIdx?_cons, this], by simp, rfl, hb⟩
    · rw [if_neg hb] at e
      obtain ⟨d, en, h1, h2, h3, h4, h5⟩ := findBorn_spec rs e
      have : b.born ≠ n := by rw [← r.2.2]; exact hb
      have h6 : (((b.born : Nat) : Int) == (n : Int)) = false := by simp; omega
      exact ⟨d + 1, en, by omega, by simp only [List.findIdx?_cons, h6]; rw [h2]; simp, by simpa using h3, h4, h5⟩

theorem entryStore_acts (hr : HRel B w0 M h w) {t : TypeId} {x s v : AV} {x' s' v' : Value} {h' : H} (hx : x.tr M = some x') (hs : s.tr M = some s') (hv : v.tr M = some v') (e : entryStoreA h x s v = some h') :
    ∃ w', (Instr.entryStore t x' s' v').run P w = .ok () w' ∧ HRel B w0 M h' w' ∧ Later h M h' M := by
  unfold entryStoreA at e
  split at e
  case h_2 => cases e
  rename_i b kd n
  split at e
  case h_2 => cases e
  rename_i es c hb
  split at e
  case isFalse => cases e
  rename_i hn
  split at e
  case h_2 => cases e
  rename_i i k hf
  injection e with e; subst e
  obtain ⟨p, hp, rfl⟩ := tr_map hx
  have hs' := tr_int hs
  subst hs'
  obtain ⟨ob, ho, l, rfl, hl⟩ := hr.obj b _ p hb hp
  have hg := run_getObj (P := P) ho (by intros; simp)
  obtain ⟨d, en, h1, h2, h3, h4, h5⟩ := findBorn_spec hl hf
  have hid : i = d := by omega
  subst hid
  obtain ⟨me, hme, hrel⟩ := hl.get h3
  have hnn : ((n.toNat : Nat) : Int) = n := Int.toNat_of_nonneg hn
  rw [hnn] at h2
  have hset := run_setObj (P := P) (o' := .map (l.toArray.modify i fun e => { e with val := v' }) c) ho (by intros; simp)
  refine ⟨_, ?_, hr.putObj hb hp (o' := .map (setNth es i (k, v, n.toNat)) c) (ob' := .map (l.toArray.modify i fun e => { e with val := v' }) c) ?_, .put⟩
  · have h2' : l.toArray.findIdx? (fun e => ((e.born : Nat) : Int) == n) = some i := by rw [List.findIdx?_toArray]; exact h2
    have hai : (asInt (.int kd n)).run P w = .ok n w := by simp [asInt, asIntOf]
    simp only [Instr.entryStore, Sem.run_bind, hg, Result.andThen_ok, hai, h2', hset]
  · refine ⟨l.set i { me with val := v' }, ?_, ?_⟩
    · congr 1
      apply Array.ext_getElem?
      intro j
      rw [Array.getElem?_modify]
      simp only [List.getElem?_toArray, List.getElem?_set]
      have hlt := (List.getElem?_eq_some_iff.1 hme).1
      by_cases hij : i = j
      · subst hij
        have hen2 := (List.getElem?_eq_some_iff.1 hme).2
        simp [hlt, hen2]
      · simp [hij]
    · rw [setNth_eq]
      refine hl.set i ⟨?_, hv, ?_⟩
      · rw [← h4]; exact hrel.1
      · rw [← h5]; exact hrel.2.2

theorem delete_acts (hr : HRel B w0 M h w) {t ty : TypeId} {argTypes : Array TypeId} {x k : AV} {x' k' : Value} {h' : H} (ht : argTypes[0]? = some t) (hx : x.tr M = some x') (hk : k.tr M = some k') (e : deleteA P h t x k = some h') :
    ∃ w', (Builtin.delete_ argTypes ty #[x', k']).run P w = .ok (.tuple #[]) w' ∧ HRel B w0 M h' w' ∧ Later h M h' M := by
  unfold deleteA at e
  split at e
  · cases e
  · rename_i kt et b hu
    split at e
    case h_2 => cases e
    rename_i kind es c huk hb
    split at e
    case isFalse => cases e
    rename_i hs
    obtain ⟨p, hp, rfl⟩ := tr_map hx
    obtain ⟨ob, ho, l, rfl, hl⟩ := hr.obj b _ p hb hp
    have hg := run_getObj (P := P) ho (by intros; simp)
    have hck := fun q => checkKey_run (P := P) (w := w) (b := q) (n := 9999) huk hs hk
    split at e
    · rename_i i v1 born hf
      injection e with e; subst e
      obtain ⟨v2, h1, h2, h3, h4⟩ := findA_run hk hl hf
      have hfk := findKey_run (w := w) huk h2
      have hset := run_setObj (P := P) (o' := .map (l.toArray.eraseIdxIfInBounds i) c) ho (by intros; simp)
      refine ⟨_, ?_, hr.putObj hb hp (o' := .map (delNth es i) c) (ob' := .map (l.toArray.eraseIdxIfInBounds i) c) ?_, .put⟩
      · simp [Builtin.delete_, ht, run_underlying hu, hg, hck, hfk]
        simp at hset; rw [hset]; rfl
      · refine ⟨l.eraseIdx i, ?_, by rw [delNth_eq]; exact hl.erase i⟩
        congr 1
        simp
    · rename_i hf
      injection e with e; subst e
      have h2 := findA_run hk hl hf
      have hfk := findKey_run (w := w) huk h2
      have hset := run_setObj (P := P) (o' := .map l.toArray c) ho (by intros; simp)
      refine ⟨_, ?_, (hr.putObj hb hp (o' := .map es c) (ob' := .map l.toArray c) ⟨l, rfl, hl⟩).congr (fun q => ?_) (by rw [H.next_put]) (by rw [H.facts_put]), .refl _ _⟩
      · simp [Builtin.delete_, ht, run_underlying hu, hg, hck, hfk]
        rw [hset]; rfl
      · rw [H.get_put]; split
        · subst_vars; exact hb
        · rfl
    · cases e
  · cases e
end Go.AM
