/- What a named heap says of a world. Nothing is assumed. -/
import Derived.Test.YtdllplhkcllgfaaGreatAmD
namespace Go.AM

structure Mp.Le (M M' : Mp) : Prop where
  at_ : ∀ b p, M.at_ b = some p → M'.at_ b = some p
  env : M'.env = M.env

/-- As 'Le', but open values may have come in. -/
structure Mp.Gr (M M' : Mp) : Prop where
  at_ : ∀ b p, M.at_ b = some p → M'.at_ b = some p
  env : ∀ i x, M.env i = some x → M'.env i = some x

theorem Mp.Le.gr {M M' : Mp} (h : M.Le M') : M.Gr M' := ⟨h.at_, fun i x e => by rw [h.env]; exact e⟩
instance {M M' : Mp} : Coe (M.Le M') (M.Gr M') := ⟨Mp.Le.gr⟩

theorem Mp.Le.refl (M : Mp) : M.Le M := ⟨fun _ _ h => h, rfl⟩
theorem Mp.Le.trans {A B C : Mp} (h : A.Le B) (k : B.Le C) : A.Le C := ⟨fun b p x => k.at_ b p (h.at_ b p x), k.env.trans h.env⟩

mutual
theorem AV.tr_mono {M M' : Mp} (h : M.Gr M') : ∀ (v : AV) (x : Value), v.tr M = some x → v.tr M' = some x
  | .bool _, _, e | .int _ _, _, e | .str _, _, e | .nilp, _, e | .nils, _, e | .nilm, _, e | .nilf, _, e | .nili, _, e => by simpa [AV.tr] using e
  | .ptr b off, x, e => by
    simp only [AV.tr] at e ⊢
    cases hb : M.at_ b with
    | none => simp [hb] at e
    | some p => rw [h.at_ b p hb]; simpa [hb] using e
  | .slice b off offE len cap, x, e => by
    simp only [AV.tr] at e ⊢
    cases hb : M.at_ b with
    | none => simp [hb] at e
    | some p => rw [h.at_ b p hb]; simpa [hb] using e
  | .slice0 b off offE l size z, x, e => by
    simp only [AV.tr] at e ⊢
    cases hb : M.at_ b with
    | none => simp [hb] at e
    | some p => rw [h.at_ b p hb]; simpa [hb] using e
  | .sliceS b off k, x, e => by
    simp only [AV.tr] at e ⊢
    cases hb : M.at_ b with
    | none => simp [hb] at e
    | some p =>
      rw [h.at_ b p hb]; simp only [hb] at e
      split at e
      · rename_i n heq hk; injection heq with heq; subst heq; rw [h.env k _ hk]; exact e
      · cases e
  | .map b, x, e => by
    simp only [AV.tr] at e ⊢
    cases hb : M.at_ b with
    | none => simp [hb] at e
    | some p => rw [h.at_ b p hb]; simpa [hb] using e
  | .yld b, x, e => by
    simp only [AV.tr] at e ⊢
    cases hb : M.at_ b with
    | none => simp [hb] at e
    | some p => rw [h.at_ b p hb]; simpa [hb] using e
  | .fn f first captured, x, e => by
    simp only [AV.tr] at e ⊢
    cases ha : AV.trs M first with
    | none => cases f <;> simp [ha] at e
    | some a =>
      cases hc : AV.trs M captured with
      | none => cases f <;> simp [ha, hc] at e
      | some c =>
        rw [AV.trs_mono h first a ha, AV.trs_mono h captured c hc]
        simpa [ha, hc] using e
  | .iface t v, x, e => by
    simp only [AV.tr] at e ⊢
    cases hv : AV.tr M v with
    | none => simp [hv] at e
    | some y => rw [AV.tr_mono h v y hv]; simpa [hv] using e
  | .agg cs, x, e => by
    simp only [AV.tr] at e ⊢
    cases hv : AV.trs M cs with
    | none => simp [hv] at e
    | some y => rw [AV.trs_mono h cs y hv]; simpa [hv] using e
  | .tuple cs, x, e => by
    simp only [AV.tr] at e ⊢
    cases hv : AV.trs M cs with
    | none => simp [hv] at e
    | some y => rw [AV.trs_mono h cs y hv]; simpa [hv] using e
  | .sym i, x, e => by simp only [AV.tr] at e ⊢; exact h.env i x e
theorem AV.trs_mono {M M' : Mp} (h : M.Gr M') : ∀ (vs : List AV) (xs : List Value), AV.trs M vs = some xs → AV.trs M' vs = some xs
  | [], xs, e => by simpa [AV.trs] using e
  | v :: vs, xs, e => by
    simp only [AV.trs] at e ⊢
    cases hv : AV.tr M v with
    | none => simp [hv] at e
    | some y =>
      cases hvs : AV.trs M vs with
      | none => simp [hv, hvs] at e
      | some ys => rw [AV.tr_mono h v y hv, AV.trs_mono h vs ys hvs]; simpa [hv, hvs] using e
end

theorem AV.trs_cons {M : Mp} {v : AV} {vs : List AV} {xs : List Value} : AV.trs M (v :: vs) = some xs ↔ ∃ y ys, v.tr M = some y ∧ AV.trs M vs = some ys ∧ xs = y :: ys := by
  simp only [AV.trs]
  constructor
  · intro e
    cases hv : AV.tr M v with
    | none => simp [hv] at e
    | some y =>
      cases hvs : AV.trs M vs with
      | none => simp [hv, hvs] at e
      | some ys => exact ⟨y, ys, rfl, rfl, by simpa [hv, hvs] using e.symm⟩
  · rintro ⟨y, ys, h, k, rfl⟩; simp [h, k]

theorem AV.trs_length {M : Mp} : ∀ {vs : List AV} {xs : List Value}, AV.trs M vs = some xs → xs.length = vs.length
  | [], xs, e => by simp [AV.trs] at e; subst e; rfl
  | v :: vs, xs, e => by obtain ⟨y, ys, _, h, rfl⟩ := AV.trs_cons.1 e; simp [AV.trs_length h]

theorem AV.trs_append {M : Mp} : ∀ {a b : List AV} {xs : List Value}, AV.trs M (a ++ b) = some xs ↔ ∃ x y, AV.trs M a = some x ∧ AV.trs M b = some y ∧ xs = x ++ y
  | [], b, xs => by simp [AV.trs]
  | v :: a, b, xs => by
    rw [List.cons_append, AV.trs_cons]
    constructor
    · rintro ⟨y, ys, hv, hs, rfl⟩
      obtain ⟨x, z, h1, h2, rfl⟩ := AV.trs_append.1 hs
      exact ⟨y :: x, z, AV.trs_cons.2 ⟨y, x, hv, h1, rfl⟩, h2, rfl⟩
    · rintro ⟨x, z, h1, h2, rfl⟩
      obtain ⟨y, ys, hv, hs, rfl⟩ := AV.trs_cons.1 h1
      exact ⟨y, ys ++ z, hv, AV.trs_append.2 ⟨ys, z, hs, h2, rfl⟩, rfl⟩

theorem nth_eq {α : Type} : ∀ (l : List α) (i : Nat), nth l i = l[i]?
  | [], i => by simp [nth]
  | a :: l, 0 => by simp [nth]
  | a :: l, i + 1 => by simp [nth, nth_eq l i]

theorem AV.trs_nth {M : Mp} : ∀ {vs : List AV} {xs : List Value} {i : Nat} {v : AV}, AV.trs M vs = some xs → vs[i]? = some v → ∃ x, xs[i]? = some x ∧ v.tr M = some x
  | [], xs, i, v, _, hi => by simp at hi
  | a :: vs, xs, 0, v, e, hi => by
    obtain ⟨y, ys, hv, _, rfl⟩ := AV.trs_cons.1 e
    simp at hi; subst hi; exact ⟨y, by simp, hv⟩
  | a :: vs, xs, i + 1, v, e, hi => by
    obtain ⟨y, ys, _, hs, rfl⟩ := AV.trs_cons.1 e
    simp at hi
    obtain ⟨x, hx, h⟩ := AV.trs_nth hs hi
    exact ⟨x, by simpa using hx, h⟩

theorem AV.trs_of {M : Mp} : ∀ {vs : List AV}, (∀ (i : Nat) (v : AV), vs[i]? = some v → ∃ x, v.tr M = some x) → ∃ xs, AV.trs M vs = some xs
  | [], _ => ⟨[], rfl⟩
  | v :: vs, h => by
    obtain ⟨x, hx⟩ := h 0 v (by simp)
    obtain ⟨xs, hxs⟩ := AV.trs_of (vs := vs) (fun i w hi => h (i + 1) w (by simpa using hi))
    exact ⟨x :: xs, AV.trs_cons.2 ⟨x, xs, hx, hxs, rfl⟩⟩

/-- A value that takes one cell. -/
def isCell : Value → Bool
  | .agg _ | .tuple _ => false
  | _ => true

theorem AV.scalar_tr {M : Mp} (he : ∀ i x, M.env i = some x → isCell x = true) {v : AV} {x : Value} (hs : v.scalar = true) (e : v.tr M = some x) : isCell x = true := by
  cases v with
  | agg => simp [AV.scalar] at hs
  | tuple => simp [AV.scalar] at hs
  | sym i => simp only [AV.tr] at e; exact he i x e
  | ptr b off => simp only [AV.tr] at e; split at e <;> simp at e; subst e; rfl
  | slice => simp only [AV.tr] at e; split at e <;> simp at e; subst e; rfl
  | slice0 => simp only [AV.tr] at e; split at e <;> simp at e; subst e; rfl
  | sliceS => simp only [AV.tr] at e; split at e <;> simp at e; subst e; rfl
  | map => simp only [AV.tr] at e; split at e <;> simp at e; subst e; rfl
  | yld => simp only [AV.tr] at e; split at e <;> simp at e; subst e; rfl
  | iface => simp only [AV.tr] at e; split at e <;> simp at e; subst e; rfl
  | fn f a c => simp only [AV.tr] at e; split at e <;> simp at e; subst e; rfl
  | _ => simp [AV.tr] at e; subst e; rfl

def EntryRel (M : Mp) (a : AV × AV × Nat) (e : MapEntry) : Prop := a.1.tr M = some e.key ∧ a.2.1.tr M = some e.val ∧ a.2.2 = e.born

inductive All2 {α β : Type} (R : α → β → Prop) : List α → List β → Prop
  | nil : All2 R [] []
  | cons {a b as bs} : R a b → All2 R as bs → All2 R (a :: as) (b :: bs)

theorem All2.imp {α β : Type} {R S : α → β → Prop} (h : ∀ a b, R a b → S a b) : ∀ {as bs}, All2 R as bs → All2 S as bs
  | _, _, .nil => .nil
  | _, _, .cons r rs => .cons (h _ _ r) (rs.imp h)
theorem All2.length {α β : Type} {R : α → β → Prop} : ∀ {as bs}, All2 R as bs → as.length = bs.length
  | _, _, .nil => rfl
  | _, _, .cons _ rs => by simp [rs.length]
theorem All2.append {α β : Type} {R : α → β → Prop} : ∀ {as bs cs ds}, All2 R as bs → All2 R cs ds → All2 R (as ++ cs) (bs ++ ds)
  | _, _, _, _, .nil, h => h
  | _, _, _, _, .cons r rs, h => .cons r (rs.append h)
theorem All2.get {α β : Type} {R : α → β → Prop} : ∀ {as bs} {i : Nat} {a : α}, All2 R as bs → as[i]? = some a → ∃ b, bs[i]? = some b ∧ R a b
  | _, _, 0, _, .cons r _, h => by simp at h; subst h; exact ⟨_, by simp, r⟩
  | _, _, i + 1, _, .cons _ rs, h => by simp at h; obtain ⟨b, hb, r⟩ := rs.get h; exact ⟨b, by simpa using hb, r⟩

def DefRel (M : Mp) (d : ADef) (x : Deferred) : Prop :=
  match d.target with
  | some (g, cap) => ∃ cv av, AV.trs M cap = some cv ∧ AV.trs M d.args = some av ∧ x = { target := .fn (.func g) cv.toArray, args := av.toArray }
  | none => ∃ q, M.at_ d.block = some q ∧ x = { target := .collected q.blk, args := #[] }

def TmpsRel (M : Mp) (tmps : T AV) (n : Nat) (c : Array Value) : Prop :=
  c.size = n ∧ ∀ i, ((tmps.get i).getD undefA).tr M = some (c.getD i undef)

def CellsRel (M : Mp) (base : Nat) (cs : List AV) (c : Array Value) : Prop :=
  ∀ i av, cs[i]? = some av → ∃ v, c[base + i]? = some v ∧ av.tr M = some v

def FrOk (fz : Bool) (fr : Nat × Nat) (n : Nat) : Prop := fr.2 ≤ fr.1 ∨ (fz = true ∧ n ≤ fr.1)

def TailOk (p : Place) (len : Nat) (tail : Option Nat) (size : Nat) : Prop :=
  p.base + len ≤ size ∧ match tail with | none => True | some es => size = p.base + p.cap * es

def ObjRel (M : Mp) (p : Place) (o : AObj) (ob : Obj) : Prop :=
  match o with
  | .cells cs tail fz => ∃ c e fr, ob = .cells c e fr ∧ CellsRel M p.base cs c ∧ TailOk p cs.length tail c.size ∧ FrOk fz fr c.size
  | .map es clock => ∃ l, ob = .map l.toArray clock ∧ All2 (EntryRel M) es l
  | .miter m since seen stepped => match m with
    | none => p.base = 0 ∧ ob = .mapIter none since seen.toArray stepped
    | some b => ∃ q, M.at_ b = some q ∧ p.base = 0 ∧ ob = .mapIter (some q.blk) since seen.toArray stepped
  | .siter s pos => p.base = 0 ∧ ob = .stringIter ⟨s.toArray⟩ pos
  | .loop st pending fn tmps n params assign body d => ∃ t q, M.at_ d = some q ∧ TmpsRel M tmps n t ∧
      ob = .loop { state := st, pending, fn, tmps := t, params, assign, body, defers := q.blk }
  | .deferred ds => match ds with
    | none => ob = .deferred none
    | some l => ∃ l', ob = .deferred (some l') ∧ All2 (DefRel M) l l'

theorem EntryRel.mono {M M' : Mp} (h : M.Gr M') {a : AV × AV × Nat} {e : MapEntry} (r : EntryRel M a e) : EntryRel M' a e :=
  ⟨AV.tr_mono h _ _ r.1, AV.tr_mono h _ _ r.2.1, r.2.2⟩
theorem DefRel.mono {M M' : Mp} (h : M.Gr M') {d : ADef} {x : Deferred} (r : DefRel M d x) : DefRel M' d x := by
  unfold DefRel at *
  split at r
  · obtain ⟨cv, av, h1, h2, rfl⟩ := r; exact ⟨cv, av, AV.trs_mono h _ _ h1, AV.trs_mono h _ _ h2, rfl⟩
  · obtain ⟨q, hq, rfl⟩ := r; exact ⟨q, h.at_ _ _ hq, rfl⟩
theorem TmpsRel.mono {M M' : Mp} (h : M.Gr M') {t : T AV} {n : Nat} {c : Array Value} (r : TmpsRel M t n c) : TmpsRel M' t n c :=
  ⟨r.1, fun i => AV.tr_mono h _ _ (r.2 i)⟩
theorem CellsRel.mono {M M' : Mp} (h : M.Gr M') {b : Nat} {cs : List AV} {c : Array Value} (r : CellsRel M b cs c) : CellsRel M' b cs c :=
  fun i av hi => let ⟨v, hv, ht⟩ := r i av hi; ⟨v, hv, AV.tr_mono h _ _ ht⟩
theorem ObjRel.mono {M M' : Mp} (h : M.Gr M') {p : Place} {o : AObj} {ob : Obj} (r : ObjRel M p o ob) : ObjRel M' p o ob := by
  cases o with
  | cells cs tail fz => obtain ⟨c, e, fr, rfl, hc, ht, hf⟩ := r; exact ⟨c, e, fr, rfl, hc.mono h, ht, hf⟩
  | map es clock => obtain ⟨l, rfl, hl⟩ := r; exact ⟨l, rfl, hl.imp fun _ _ => EntryRel.mono h⟩
  | miter m since seen stepped =>
    cases m with
    | none => exact r
    | some b => obtain ⟨q, hq, h0, rfl⟩ := r; exact ⟨q, h.at_ _ _ hq, h0, rfl⟩
  | siter => exact r
  | loop st pending fn tmps n params assign body d => obtain ⟨t, q, hq, ht, rfl⟩ := r; exact ⟨t, q, h.at_ _ _ hq, ht.mono h, rfl⟩
  | deferred ds =>
    cases ds with
    | none => exact r
    | some l => obtain ⟨l', rfl, hl⟩ := r; exact ⟨l', rfl, hl.imp fun _ _ => DefRel.mono h⟩

/-- What a named heap says of a world; the blocks B are as in w0. -/
structure HRel (B : Nat → Prop) (w0 : World) (M : Mp) (h : H) (w : World) : Prop where
  obj : ∀ b o p, h.get b = some o → M.at_ b = some p → ∃ ob, w.heap[p.blk]? = some ob ∧ ObjRel M p o ob
  inj : ∀ b b' p p', M.at_ b = some p → M.at_ b' = some p' → (h.get b).isSome = true → (h.get b').isSome = true → p.blk = p'.blk → b = b'
  lo : ∀ b p, M.at_ b = some p → ¬ B p.blk ∧ p.blk < w.heap.size
  fresh : ∀ b, h.next ≤ b → M.at_ b = none ∧ h.get b = none
  keep : ∀ k, B k → w.heap[k]? = w0.heap[k]?
  size : ∀ k, B k → k < w.heap.size
  tape : w.tape = w0.tape
  os : w.os = w0.os
  output : w.output = w0.output
  env : ∀ i x, M.env i = some x → isCell x = true
  facts : ∀ q ∈ h.facts, q.Ok M.env

/-- From one named heap to a later one: places stay; what had a name and no place is as it was. -/
structure Later (h : H) (M : Mp) (h' : H) (M' : Mp) : Prop where
  le : M.Le M'
  next : h.next ≤ h'.next
  same : ∀ b, b < h.next → M.at_ b = none → M'.at_ b = none

theorem Later.refl (h : H) (M : Mp) : Later h M h M := ⟨.refl M, Nat.le_refl _, fun _ _ k => k⟩
theorem Later.trans {h h' h'' : H} {M M' M'' : Mp} (a : Later h M h' M') (b : Later h' M' h'' M'') : Later h M h'' M'' :=
  ⟨a.le.trans b.le, Nat.le_trans a.next b.next, fun k hk hn => b.same k (Nat.lt_of_lt_of_le hk a.next) (a.same k hk hn)⟩

theorem H.get_new (h : H) (o : AObj) (b : Nat) : (h.new o).get b = if b = h.next then some o else h.get b := by
  cases h; simp [H.new, H.get, T.get_put]
theorem H.get_put (h : H) (k : Nat) (o : AObj) (b : Nat) : (h.put k o).get b = if b = k then some o else h.get b := by
  cases h; simp [H.put, H.get, T.get_put]
theorem H.get_del (h : H) (k : Nat) (b : Nat) : (h.del k).get b = if b = k then none else h.get b := by
  cases h; simp [H.del, H.get, T.get_put]
theorem H.next_new (h : H) (o : AObj) : (h.new o).next = h.next + 1 := by cases h; rfl
theorem H.next_put (h : H) (k : Nat) (o : AObj) : (h.put k o).next = h.next := by cases h; rfl
theorem H.next_del (h : H) (k : Nat) : (h.del k).next = h.next := by cases h; rfl
theorem H.facts_new (h : H) (o : AObj) : (h.new o).facts = h.facts := by cases h; rfl
theorem H.facts_put (h : H) (k : Nat) (o : AObj) : (h.put k o).facts = h.facts := by cases h; rfl
theorem H.facts_del (h : H) (k : Nat) : (h.del k).facts = h.facts := by cases h; rfl

/-- A map that places one name more. -/
def Mp.set (M : Mp) (b : Nat) (p : Place) : Mp := { M with at_ := fun k => if k = b then some p else M.at_ k }
theorem Mp.set_le {M : Mp} {b : Nat} {p : Place} (h : M.at_ b = none) : M.Le (M.set b p) :=
  ⟨fun k q hk => by
    by_cases e : k = b
    · subst e; rw [h] at hk; cases hk
    · simp [Mp.set, e, hk], rfl⟩

variable {B : Nat → Prop} {w0 : World} {M : Mp} {h : H} {w : World}

theorem HRel.drew (hr : HRel B w0 M h w) (k : Nat) : HRel B w0 M h { w with drawn := k } :=
  ⟨hr.obj, hr.inj, hr.lo, hr.fresh, hr.keep, hr.size, hr.tape, hr.os, hr.output, hr.env, hr.facts⟩

/-- A new block: the name may be an elder one that has no place yet. -/
theorem HRel.alloc (hr : HRel B w0 M h w) {h' : H} {id : Nat} {o : AObj} {ob : Obj} {cap : Nat} (hn : M.at_ id = none)
    (hget : ∀ b, h'.get b = if b = id then some o else h.get b) (hnext : h.next ≤ h'.next) (hid : id < h'.next) (hfacts : h'.facts = h.facts)
    (ho : ObjRel (M.set id ⟨w.heap.size, 0, cap⟩) ⟨w.heap.size, 0, cap⟩ o ob) :
    HRel B w0 (M.set id ⟨w.heap.size, 0, cap⟩) h' { w with heap := w.heap.push ob } := by
  have hle := Mp.set_le (p := ⟨w.heap.size, 0, cap⟩) hn
  have hpush : ∀ k, k < w.heap.size → (w.heap.push ob)[k]? = w.heap[k]? := fun k hk => by rw [Array.getElem?_push]; rw [if_neg (by omega)]
  refine ⟨?_, ?_, ?_, ?_, ?_, ?_, hr.tape, hr.os, hr.output, hr.env, by rw [hfacts]; exact hr.facts⟩
  · intro b o' p hb hp
    rw [hget] at hb
    by_cases e : b = id
    · subst e
      simp [Mp.set] at hp hb
      subst hp hb
      exact ⟨ob, by simp, ho⟩
    · simp [Mp.set, e] at hp
      rw [if_neg e] at hb
      obtain ⟨ob', h1, h2⟩ := hr.obj b o' p hb hp
      exact ⟨ob', by show (w.heap.push ob)[p.blk]? = _; rw [hpush _ (hr.lo b p hp).2]; exact h1, h2.mono hle⟩
  · intro b b' p p' hp hp' hs hs' heq
    rw [hget] at hs hs'
    by_cases e : b = id <;> by_cases e' : b' = id
    · rw [e, e']
    · subst e; simp [Mp.set] at hp; simp [Mp.set, e'] at hp'
      subst hp; have := (hr.lo b' p' hp').2; simp at heq; omega
    · subst e'; simp [Mp.set] at hp'; simp [Mp.set, e] at hp
      subst hp'; have := (hr.lo b p hp).2; simp at heq; omega
    · simp [Mp.set, e] at hp; simp [Mp.set, e'] at hp'
      rw [if_neg e] at hs; rw [if_neg e'] at hs'
      exact hr.inj b b' p p' hp hp' hs hs' heq
  · intro b p hp
    by_cases e : b = id
    · subst e; simp [Mp.set] at hp; subst hp; exact ⟨fun hb => Nat.lt_irrefl _ (hr.size _ hb), by simp⟩
    · simp [Mp.set, e] at hp; have := hr.lo b p hp; exact ⟨this.1, by simp; omega⟩
  · intro b hb
    have e : b ≠ id := by omega
    have := hr.fresh b (by omega)
    refine ⟨by simp [Mp.set, e, this.1], by rw [hget, if_neg e]; exact this.2⟩
  · intro k hk
    show (w.heap.push ob)[k]? = _
    rw [hpush k (hr.size k hk)]; exact hr.keep k hk
  · intro k hk
    have := hr.size k hk; simp; omega

theorem Later.alloc (hr : HRel B w0 M h w) {o : AObj} {p : Place} : Later h M (h.new o) (M.set h.next p) :=
  ⟨Mp.set_le (hr.fresh _ (Nat.le_refl _)).1, by rw [H.next_new]; omega, fun b hb hn => by
    have e : b ≠ h.next := by omega
    simp [Mp.set, e, hn]⟩

/-- A block is written. -/
theorem HRel.write (hr : HRel B w0 M h w) {b : Nat} {p : Place} {o o' : AObj} {heap' : Array Obj} {ob : Obj} (hb : h.get b = some o) (hp : M.at_ b = some p)
    (hsize : heap'.size = w.heap.size) (hother : ∀ k, k ≠ p.blk → heap'[k]? = w.heap[k]?) (hself : heap'[p.blk]? = some ob) (ho : ObjRel M p o' ob) :
    HRel B w0 M (h.put b o') { w with heap := heap' } := by
  refine ⟨?_, ?_, ?_, ?_, ?_, ?_, hr.tape, hr.os, hr.output, hr.env, by rw [H.facts_put]; exact hr.facts⟩
  · intro b' o'' p' hb' hp'
    rw [H.get_put] at hb'
    by_cases e : b' = b
    · subst e; rw [hp] at hp'; cases hp'; simp at hb'; subst hb'; exact ⟨ob, hself, ho⟩
    · rw [if_neg e] at hb'
      obtain ⟨ob', h1, h2⟩ := hr.obj b' o'' p' hb' hp'
      refine ⟨ob', ?_, h2⟩
      show heap'[p'.blk]? = _
      rw [hother _ (fun heq => e (hr.inj b' b p' p hp' hp (by simp [hb']) (by simp [hb]) heq))]; exact h1
  · intro c c' q q' hq hq' hs hs' heq
    refine hr.inj c c' q q' hq hq' ?_ ?_ heq
    · rw [H.get_put] at hs; by_cases e : c = b
      · subst e; simp [hb]
      · rwa [if_neg e] at hs
    · rw [H.get_put] at hs'; by_cases e : c' = b
      · subst e; simp [hb]
      · rwa [if_neg e] at hs'
  · intro c q hq; show ¬ B q.blk ∧ q.blk < heap'.size; rw [hsize]; exact hr.lo c q hq
  · intro c hc
    rw [H.next_put] at hc
    have := hr.fresh c hc
    refine ⟨this.1, ?_⟩
    rw [H.get_put]
    by_cases e : c = b
    · subst e; rw [hb] at this; cases this.2
    · rw [if_neg e]; exact this.2
  · intro k hk
    show heap'[k]? = _
    rw [hother k (fun e => (hr.lo b p hp).1 (e ▸ hk))]; exact hr.keep k hk
  · intro k hk; show k < heap'.size; rw [hsize]; exact hr.size k hk

theorem Later.put {b : Nat} {o : AObj} : Later h M (h.put b o) M := ⟨.refl M, by rw [H.next_put]; exact Nat.le_refl _, fun _ _ k => k⟩

/-- A name is struck. -/
theorem HRel.del (hr : HRel B w0 M h w) (b : Nat) : HRel B w0 M (h.del b) w := by
  refine ⟨?_, ?_, hr.lo, ?_, hr.keep, hr.size, hr.tape, hr.os, hr.output, hr.env, by rw [H.facts_del]; exact hr.facts⟩
  · intro b' o p hb' hp
    rw [H.get_del] at hb'
    by_cases e : b' = b
    · rw [if_pos e] at hb'; cases hb'
    · rw [if_neg e] at hb'; exact hr.obj b' o p hb' hp
  · intro c c' q q' hq hq' hs hs' heq
    rw [H.get_del] at hs hs'
    refine hr.inj c c' q q' hq hq' ?_ ?_ heq
    · split at hs
      · cases hs
      · exact hs
    · split at hs'
      · cases hs'
      · exact hs'
  · intro c hc
    rw [H.next_del] at hc
    have := hr.fresh c hc
    refine ⟨this.1, ?_⟩
    rw [H.get_del]; split
    · rfl
    · exact this.2
end Go.AM
