/- Memory: loads, stores, objects, of a named heap and of its world. Nothing is assumed. -/
import Derived.Test.YtdllplhkcllgfaaGreatAmE
import Derived.Laws.Sem
import Derived.Laws.World
namespace Go.AM

theorem add_plain (b o n : Nat) : (⟨b, o, none⟩ : Addr).add n = ⟨b, o + n, none⟩ := by
  unfold Addr.add; split
  · subst_vars; rfl
  · rfl

theorem cut_spec {α : Type} : ∀ (l : List α) (k n : Nat) (r : List α), cut l k n = some r → r.length = n ∧ ∀ i, i < n → r[i]? = l[k + i]?
  | _, 0, 0, r, h => by simp [cut] at h; subst h; exact ⟨rfl, fun i hi => by omega⟩
  | [], 0, n + 1, r, h => by simp [cut] at h
  | [], k + 1, n, r, h => by cases n <;> simp [cut] at h
  | a :: l, 0, n + 1, r, h => by
    simp only [cut] at h
    cases hc : cut l 0 n with
    | none => simp [hc] at h
    | some x =>
      simp [hc] at h; subst h
      obtain ⟨h1, h2⟩ := cut_spec l 0 n x hc
      refine ⟨by simp [h1], fun i hi => ?_⟩
      cases i with
      | zero => simp
      | succ i => have := h2 i (by omega); simpa using this
  | a :: l, k + 1, n, r, h => by
    have h' : cut l k n = some r := by
      cases n <;> simpa [cut] using h
    obtain ⟨h1, h2⟩ := cut_spec l k n r h'
    refine ⟨h1, fun i hi => ?_⟩
    have := h2 i hi
    rw [this, show k + 1 + i = (k + i) + 1 from by omega, List.getElem?_cons_succ]

theorem splice_spec {α : Type} : ∀ (cs : List α) (k : Nat) (vs r : List α), splice cs k vs = some r →
    r.length = cs.length ∧ (vs = [] ∨ k + vs.length ≤ cs.length) ∧ ∀ i, r[i]? = if k ≤ i ∧ i < k + vs.length then vs[i - k]? else cs[i]?
  | cs, 0, [], r, h => by simp [splice] at h; subst h; exact ⟨rfl, .inl rfl, fun i => by rw [if_neg (by simp)]⟩
  | [], 0, v :: vs, r, h => by simp [splice] at h
  | [], k + 1, vs, r, h => by cases vs <;> simp [splice] at h
  | c :: cs, 0, v :: vs, r, h => by
    simp only [splice] at h
    cases hs : splice cs 0 vs with
    | none => simp [hs] at h
    | some x =>
      simp [hs] at h; subst h
      obtain ⟨h1, h2, h3⟩ := splice_spec cs 0 vs x hs
      refine ⟨by simp [h1], .inr ?_, fun i => ?_⟩
      · rcases h2 with h2 | h2
        · subst h2; simp
        · simp at h2 ⊢; omega
      · cases i with
        | zero => simp
        | succ i => have := h3 i; simp at this ⊢; exact this
  | c :: cs, k + 1, vs, r, h => by
    have h' : (splice cs k vs).map (c :: ·) = some r := by
      rw [← h]; cases vs <;> (simp only [splice]; split <;> simp_all)
    cases hs : splice cs k vs with
    | none => simp [hs] at h'
    | some x =>
      simp [hs] at h'; subst h'
      obtain ⟨h1, h2, h3⟩ := splice_spec cs k vs x hs
      refine ⟨by simp [h1], ?_, fun i => ?_⟩
      · rcases h2 with h2 | h2
        · exact .inl h2
        · right; simp; omega
      · cases i with
        | zero => simp
        | succ i =>
          have := h3 i
          rw [List.getElem?_cons_succ, this, List.getElem?_cons_succ]
          by_cases hc : k ≤ i ∧ i < k + vs.length
          · rw [if_pos hc, if_pos (by omega), show i + 1 - (k + 1) = i - k from by omega]
          · rw [if_neg hc, if_neg (by omega)]

variable {B : Nat → Prop} {w0 : World} {M : Mp} {h : H} {w : World} {P : Program}

theorem HRel.congr {h' : H} (hr : HRel B w0 M h w) (hg : ∀ b, h'.get b = h.get b) (hn : h'.next = h.next) (hq : h'.facts = h.facts) : HRel B w0 M h' w :=
  ⟨fun b o p hb => hr.obj b o p (hg b ▸ hb), fun b b' p p' hp hp' hs hs' => hr.inj b b' p p' hp hp' (hg b ▸ hs) (hg b' ▸ hs'), hr.lo,
    fun b hb => ⟨(hr.fresh b (hn ▸ hb)).1, (hg b).trans (hr.fresh b (hn ▸ hb)).2⟩, hr.keep, hr.size, hr.tape, hr.os, hr.output, hr.env, hq ▸ hr.facts⟩

theorem HRel.cell (hr : HRel B w0 M h w) {b i : Nat} {p : Place} {cs : List AV} {tail : Option Nat} {fz : Bool} {av : AV}
    (hb : h.get b = some (.cells cs tail fz)) (hp : M.at_ b = some p) (hi : cs[i]? = some av) :
    ∃ v, w.cell? ⟨p.blk, p.base + i, none⟩ = some v ∧ av.tr M = some v := by
  obtain ⟨ob, ho, c, e, fr, rfl, hc, _, _⟩ := hr.obj b _ p hb hp
  obtain ⟨v, hv, ht⟩ := hc i av hi
  exact ⟨v, by simp [World.cell?, ho, hv], ht⟩

theorem HRel.unfrozen (hr : HRel B w0 M h w) {b i : Nat} {p : Place} {cs : List AV} {tail : Option Nat} {fz : Bool}
    (hb : h.get b = some (.cells cs tail fz)) (hp : M.at_ b = some p) (hi : i < cs.length) : w.frozen? ⟨p.blk, p.base + i, none⟩ = false := by
  obtain ⟨ob, ho, c, e, fr, rfl, _, ht, hf⟩ := hr.obj b _ p hb hp
  have := ht.1
  obtain ⟨lo, hi'⟩ := fr
  simp only [World.frozen?, ho]
  rcases hf with hf | ⟨_, hf⟩ <;> simp at hf ⊢ <;> omega

/-- One cell is stored. -/
theorem HRel.store1 (hr : HRel B w0 M h w) {b i : Nat} {p : Place} {cs : List AV} {tail : Option Nat} {fz : Bool} {av : AV} {x : Value}
    (hb : h.get b = some (.cells cs tail fz)) (hp : M.at_ b = some p) (hi : i < cs.length) (hx : av.tr M = some x) :
    HRel B w0 M (h.put b (.cells (cs.set i av) tail fz)) (w.setCell ⟨p.blk, p.base + i, none⟩ x) := by
  obtain ⟨ob, ho, c, e, fr, rfl, hc, ht, hf⟩ := hr.obj b _ p hb hp
  have hlt := (hr.lo b p hp).2
  refine hr.write hb hp (by simp) (fun k hk => ?_) (ob := .cells (c.setIfInBounds (p.base + i) x) e fr) ?_ ?_
  · rw [Array.getElem?_modify]; rw [if_neg (fun e => hk e.symm)]
  · rw [Array.getElem?_modify]; simp [ho]
  · refine ⟨_, e, fr, rfl, fun j a hj => ?_, ?_, ?_⟩
    · rw [List.getElem?_set] at hj
      by_cases hij : i = j
      · subst hij
        simp [hi] at hj; subst hj
        refine ⟨x, ?_, hx⟩
        have := ht.1
        rw [Array.getElem?_setIfInBounds]; simp; omega
      · rw [if_neg hij] at hj
        obtain ⟨v, hv, hv'⟩ := hc j a hj
        exact ⟨v, by rw [Array.getElem?_setIfInBounds, if_neg (by omega)]; exact hv, hv'⟩
    · simpa using ht
    · simpa using hf

theorem run_storeCells {b : Nat} {p : Place} {tail : Option Nat} {fz : Bool} : ∀ (vs : List AV) (xs : List Value) (cs : List AV) (off j : Nat) (h : H) (w : World),
    HRel B w0 M h w → h.get b = some (.cells cs tail fz) → M.at_ b = some p → (vs = [] ∨ off + j + vs.length ≤ cs.length) → AV.trs M vs = some xs → vs.all AV.scalar = true →
    ∃ w' cs', (storeCells ⟨p.blk, p.base + off, none⟩ xs j).run P w = .ok () w' ∧ HRel B w0 M (h.put b (.cells cs' tail fz)) w' ∧ cs'.length = cs.length ∧
      ∀ i, cs'[i]? = if off + j ≤ i ∧ i < off + j + vs.length then vs[i - (off + j)]? else cs[i]?
  | [], xs, cs, off, j, h, w, hr, hb, hp, _, hx, _ => by
    simp [AV.trs] at hx; subst hx
    refine ⟨w, cs, rfl, hr.congr (fun k => ?_) (by rw [H.next_put]) (by rw [H.facts_put]), rfl, fun i => by rw [if_neg (by simp)]⟩
    rw [H.get_put]; split
    · subst_vars; exact hb.symm
    · rfl
  | v :: vs, xs, cs, off, j, h, w, hr, hb, hp, hl, hx, hs => by
    obtain ⟨x, xs', hx1, hx2, rfl⟩ := AV.trs_cons.1 hx
    have hl' : off + j + (vs.length + 1) ≤ cs.length := by rcases hl with hl | hl <;> simp at hl; exact hl
    simp only [List.all_cons, Bool.and_eq_true] at hs
    have hcell := AV.scalar_tr hr.env hs.1 hx1
    have hst := hr.store1 hb hp (i := off + j) (by omega) hx1
    obtain ⟨w', cs', h1, h2, h3, h4⟩ := run_storeCells (tail := tail) (fz := fz) vs xs' (cs.set (off + j) v) off (j + 1) _ _ hst (by rw [H.get_put]; simp) hp
      (by right; simp; omega) hx2 hs.2
    have hv : ∃ a, cs[off + j]? = some a := ⟨cs[off + j], by simp⟩
    obtain ⟨a, ha⟩ := hv
    obtain ⟨y, hy, _⟩ := hr.cell hb hp ha
    refine ⟨w', cs', ?_, h2.congr (fun k => ?_) (by simp [H.next_put]) (by simp [H.facts_put]), by simpa using h3, fun i => ?_⟩
    · simp only [storeCells, Sem.run_bind]
      rw [add_plain, run_store _ _ _ _ _ (by cases x <;> first | rfl | cases hcell), show p.base + off + j = p.base + (off + j) from by omega, hy]
      simp only [hr.unfrozen hb hp (show off + j < cs.length by omega)]
      simpa using h1
    · simp only [H.get_put]; split <;> rfl
    · rw [h4 i]
      by_cases hc : off + (j + 1) ≤ i ∧ i < off + (j + 1) + vs.length
      · rw [if_pos hc, if_pos (by simp; omega), show i - (off + j) = (i - (off + (j + 1))) + 1 from by omega, List.getElem?_cons_succ]
      · rw [if_neg hc, List.getElem?_set]
        by_cases hi : off + j = i
        · subst hi; rw [if_pos rfl, if_pos (show off + j < cs.length by omega)]; simp
        · rw [if_neg hi, if_neg (by simp; omega)]

theorem run_loadCellsFrom {a : Addr} : ∀ (xs : List Value) (i : Nat) (acc : Array Value), (∀ j v, xs[j]? = some v → w.cell? (a.add (i + j)) = some v) →
    (loadCellsFrom a i xs.length acc).run P w = .ok (acc ++ xs.toArray) w
  | [], i, acc, _ => by simp [loadCellsFrom]
  | x :: xs, i, acc, hc => by
    have h0 : w.cell? (a.add i) = some x := by simpa using hc 0 x (by simp)
    have := run_loadCellsFrom xs (i + 1) (acc.push x) (fun j v hj => by have := hc (j + 1) v (by simpa using hj); rwa [show i + 1 + j = i + (j + 1) from by omega])
    simp only [List.length_cons, loadCellsFrom, Sem.run_bind, run_load, h0, Result.andThen_ok]
    rw [this]; simp

theorem HRel.loads (hr : HRel B w0 M h w) {b off n : Nat} {p : Place} {l : List AV} (hl : loadN h b off n = some l) (hp : M.at_ b = some p) :
    ∃ xs, AV.trs M l = some xs ∧ l.length = n ∧ (loadCells ⟨p.blk, p.base + off, none⟩ n).run P w = .ok xs.toArray w := by
  unfold loadN at hl
  split at hl
  case h_2 => cases hl
  rename_i cs tail fz hb
  obtain ⟨hlen, hget⟩ := cut_spec cs off n l hl
  have hall : ∀ (i : Nat) (v : AV), l[i]? = some v → ∃ x, v.tr M = some x ∧ w.cell? ⟨p.blk, p.base + off + i, none⟩ = some x := by
    intro i v hi
    have hlt : i < n := by rw [← hlen]; exact (List.getElem?_eq_some_iff.1 hi).1
    rw [hget i hlt] at hi
    obtain ⟨x, h1, h2⟩ := hr.cell hb hp hi
    exact ⟨x, h2, by rw [Nat.add_assoc]; exact h1⟩
  obtain ⟨xs, hxs⟩ := AV.trs_of (M := M) (vs := l) (fun i v hi => let ⟨x, hx, _⟩ := hall i v hi; ⟨x, hx⟩)
  refine ⟨xs, hxs, hlen, ?_⟩
  have hx := AV.trs_length hxs
  have := run_loadCellsFrom (P := P) (w := w) (a := ⟨p.blk, p.base + off, none⟩) xs 0 #[] (fun j v hj => by
    have hlt : j < l.length := by rw [← hx]; exact (List.getElem?_eq_some_iff.1 hj).1
    obtain ⟨x, h1, h2⟩ := hall j l[j] (by simp [hlt])
    obtain ⟨y, hy1, hy2⟩ := AV.trs_nth hxs (i := j) (v := l[j]) (by simp [hlt])
    rw [h1] at hy2; cases hy2; rw [hj] at hy1; cases hy1
    rw [add_plain, Nat.zero_add]; exact h2)
  unfold loadCells
  rw [← hlen, ← hx, this]; simp

/-- Several cells are stored. -/
theorem HRel.stores (hr : HRel B w0 M h w) {b off : Nat} {p : Place} {vs : List AV} {xs : List Value} {h' : H} (hs : storeN h b off vs = some h') (hp : M.at_ b = some p) (hx : AV.trs M vs = some xs) :
    ∃ w', (storeCells ⟨p.blk, p.base + off, none⟩ xs).run P w = .ok () w' ∧ HRel B w0 M h' w' ∧ Later h M h' M := by
  unfold storeN at hs
  split at hs
  case h_2 => cases hs
  rename_i cs tail fz hb
  split at hs
  case isFalse => cases hs
  rename_i hsc
  split at hs
  case h_2 => cases hs
  rename_i cs' hsp
  injection hs with hs; subst hs
  obtain ⟨h1, h2, h3⟩ := splice_spec cs off vs cs' hsp
  obtain ⟨w', cs'', hw, hr', hl, hg⟩ := run_storeCells (P := P) vs xs cs off 0 h w hr hb hp (by simpa using h2) hx hsc
  have : cs'' = cs' := by
    apply List.ext_getElem?
    intro i; rw [hg i, h3 i]; simp
  subst this
  exact ⟨w', hw, hr', .put⟩

theorem run_getObj {r : Nat} {o : Obj} (hg : w.heap[r]? = some o) (hc : ∀ c e f, o ≠ .cells c e f) : (getObj r).run P w = .ok o w := by
  cases o <;> first | exact absurd rfl (hc _ _ _) | simp [getObj, Sem.run, hg]

theorem run_setObj {r : Nat} {o o' : Obj} (hg : w.heap[r]? = some o) (hc : ∀ c e f, o ≠ .cells c e f) : (setObj r o').run P w = .ok () { w with heap := w.heap.setIfInBounds r o' } := by
  cases o <;> first | exact absurd rfl (hc _ _ _) | simp [setObj, Sem.run, hg]

/-- An object is put. -/
theorem HRel.putObj (hr : HRel B w0 M h w) {b : Nat} {p : Place} {o o' : AObj} {ob' : Obj} (hb : h.get b = some o) (hp : M.at_ b = some p) (ho : ObjRel M p o' ob') :
    HRel B w0 M (h.put b o') { w with heap := w.heap.setIfInBounds p.blk ob' } := by
  have hlt := (hr.lo b p hp).2
  refine hr.write hb hp (by simp) (fun k hk => ?_) (ob := ob') ?_ ho
  · rw [Array.getElem?_setIfInBounds, if_neg (fun e => hk e.symm)]
  · rw [Array.getElem?_setIfInBounds]; simp [hlt]
end Go.AM
