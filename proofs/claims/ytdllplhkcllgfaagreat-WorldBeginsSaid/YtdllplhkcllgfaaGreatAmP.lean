/- append. Nothing is assumed. -/
import Derived.Test.YtdllplhkcllgfaaGreatAmO
import Derived.Deep.AppendSrc
import Derived.Deep.Upon
namespace Go.AM

variable {B : Nat → Prop} {w0 : World} {M : Mp} {h : H} {w : World} {P : Program}

theorem next_cap {need old : Nat} (h : old < need) : Builtin.nextslicecap need old ≤ 2 * need + 1024 := by
  unfold Builtin.nextslicecap
  split
  · omega
  · split
    · omega
    · have grow : ∀ r c, c ≤ 2 * need + 1024 → Builtin.growBy need r c ≤ 2 * need + 1024 := by
        intro r
        induction r with
        | zero => intro c hc; exact hc
        | succ r ih =>
          intro c hc
          simp only [Builtin.growBy]
          split
          · exact hc
          · exact ih _ (by omega)
      exact grow 4 old (by omega)

/-- What an append is asked. -/
structure AppendAt (P : Program) (M : Mp) (w : World) (xt elem : TypeId) (i : TypeInfo) (z : Value) (n sl : Nat) (s' x' : Value) (old new : List AV) (olds news : List Value) : Prop where
  info : P.info? elem = some i
  zero : i.zero = some z
  zsize : z.cells.size = i.size
  pos : 0 < i.size
  small : (2 * (sl + n) + 1024) * i.bytes ≤ 2 ^ 48 ∧ sl + n ≤ 2 ^ 62
  src : Src P i.size xt x' n news w
  hold : (Builtin.firstCells i.size sl s').run P w.drew = .ok olds.toArray w.drew
  tnew : AV.trs M new = some news
  told : AV.trs M old = some olds
  lens : old.length + new.length = (sl + n) * i.size

variable {st xt elem : TypeId} {i : TypeInfo} {z : Value} {n sl : Nat} {s' x' : Value} {old new : List AV} {olds news : List Value}

/-- It grows: a new block. -/
theorem append_grows (hr : HRel B w0 M h w) (ha : AppendAt P M w xt elem i z n sl s' x' old new olds news) (hu : P.underlying st = some (.slice elem)) {base : Option Addr} {cap : Nat} (hs : s' = .slice base sl cap) (hc : cap < sl + n) (ty : TypeId) (fz : Bool) :
    ∃ M' w' y, (Builtin.append_ #[st, xt] ty #[s', x']).run P w = .ok y w' ∧ HRel B w0 M' (h.new (.cells (old ++ new) (some i.size) fz)) w' ∧ Later h M (h.new (.cells (old ++ new) (some i.size) fz)) M' ∧
      (AV.slice h.next 0 0 (sl + n) none).tr M' = some y := by
  subst hs
  have hsmall := ha.small
  have hnext : Builtin.nextslicecap (sl + n) cap * i.bytes ≤ 281474976710656 := Nat.le_trans (Nat.mul_le_mul_right _ (next_cap hc)) hsmall.1
  have hrun := run_append_grow_src w st xt ty elem i z hu ha.info ha.zero base sl cap olds ha.hold x' n news ha.src hc (by omega) hnext
  obtain ⟨k, hk⟩ : ∃ k, grownCap w (sl + n) cap elem = sl + n + k := ⟨_, rfl⟩
  rw [hk] at hrun
  have ho : olds.length + news.length = (sl + n) * i.size := by rw [AV.trs_length ha.told, AV.trs_length ha.tnew]; exact ha.lens
  let arr : Array Value := (olds ++ news).toArray ++ Builtin.zeroCells z.cells (sl + n + k - (sl + n))
  have harr : arr.size = (sl + n + k) * i.size := by
    show (_ ++ _ : Array Value).size = _
    simp only [Array.size_append, List.size_toArray, List.length_append, Builtin.zeroCells, Array.size_map, Array.size_range, ha.zsize]
    rw [ho, show sl + n + k - (sl + n) = k from by omega, ← Nat.add_mul]
  obtain ⟨hr', hl, hat⟩ := (hr.drew (w.drawn + 1)).allocNew (o := .cells (old ++ new) (some i.size) fz) (ob := .cells arr elem) (cap := sl + n + k) (by
    refine ⟨arr, elem, (0, 0), rfl, fun i' av hi => ?_, ⟨?_, ?_⟩, .inl (Nat.le_refl _)⟩
    · have htr : AV.trs M (old ++ new) = some (olds ++ news) := AV.trs_append.2 ⟨_, _, ha.told, ha.tnew, rfl⟩
      obtain ⟨v, hv, ht⟩ := AV.trs_nth htr hi
      refine ⟨v, ?_, AV.tr_mono (Mp.set_le (hr.fresh _ (Nat.le_refl _)).1).gr _ _ ht⟩
      have hlt := (List.getElem?_eq_some_iff.1 hv).1
      show (_ ++ _ : Array Value)[0 + i']? = _
      rw [Nat.zero_add, Array.getElem?_append_left (by simpa using hlt)]
      rw [← hv]; simp
    · rw [harr]; show 0 + (old ++ new).length ≤ _
      rw [List.length_append, ha.lens, Nat.zero_add]; exact Nat.mul_le_mul_right _ (by omega)
    · rw [harr]; simp)
  exact ⟨_, _, _, hrun, hr', hl, by simp only [AV.tr, hat]; simp⟩

/-- A new name takes a block over from an elder one, which is struck. -/
theorem HRel.takeOver (hr : HRel B w0 M h w) {b : Nat} {p : Place} {o0 o : AObj} {base cap : Nat} {ob : Obj} (hb : h.get b = some o0) (hp : M.at_ b = some p)
    (ho : ObjRel (M.set h.next ⟨p.blk, base, cap⟩) ⟨p.blk, base, cap⟩ o ob) :
    HRel B w0 (M.set h.next ⟨p.blk, base, cap⟩) ((h.new o).del b) { w with heap := w.heap.setIfInBounds p.blk ob } ∧ Later h M ((h.new o).del b) (M.set h.next ⟨p.blk, base, cap⟩) ∧
      (M.set h.next ⟨p.blk, base, cap⟩).at_ h.next = some ⟨p.blk, base, cap⟩ := by
  have hfr := hr.fresh h.next (Nat.le_refl _)
  have hle := Mp.set_le (p := ⟨p.blk, base, cap⟩) hfr.1
  have hbn : b ≠ h.next := by rintro rfl; rw [hb] at hfr; cases hfr.2
  have hlt := (hr.lo b p hp).2
  have hget : ∀ k, ((h.new o).del b).get k = if k = b then none else if k = h.next then some o else h.get k := fun k => by rw [H.get_del, H.get_new]
  refine ⟨⟨?_, ?_, ?_, ?_, ?_, ?_, hr.tape, hr.os, hr.output, hr.env, by rw [H.facts_del, H.facts_new]; exact hr.facts⟩, ⟨hle, by rw [H.next_del, H.next_new]; omega, fun k hk hn => ?_⟩, by simp [Mp.set]⟩
  · intro k o' q hk hq
    rw [hget] at hk
    split at hk
    · cases hk
    · rename_i hkb
      split at hk
      · rename_i hkn; subst hkn
        injection hk with hk; subst hk
        simp [Mp.set] at hq; subst hq
        refine ⟨ob, ?_, ho⟩
        show (w.heap.setIfInBounds p.blk ob)[p.blk]? = _
        rw [Array.getElem?_setIfInBounds]; simp [hlt]
      · rename_i hkn
        simp [Mp.set, hkn] at hq
        obtain ⟨ob', h1, h2⟩ := hr.obj k o' q hk hq
        refine ⟨ob', ?_, h2.mono hle⟩
        show (w.heap.setIfInBounds p.blk ob)[q.blk]? = _
        rw [Array.getElem?_setIfInBounds, if_neg (fun heq => hkb (hr.inj k b q p hq hp (by simp [hk]) (by simp [hb]) heq.symm))]
        exact h1
  · intro k k' q q' hq hq' hs hs' heq
    rw [hget] at hs hs'
    split at hs
    · cases hs
    · rename_i hkb
      split at hs'
      · cases hs'
      · rename_i hkb'
        by_cases e : k = h.next <;> by_cases e' : k' = h.next
        · rw [e, e']
        · subst e; simp [Mp.set] at hq; simp [Mp.set, e'] at hq'; rw [if_neg e'] at hs'
          subst hq
          exact absurd (hr.inj k' b q' p hq' hp hs' (by simp [hb]) heq.symm) hkb'
        · subst e'; simp [Mp.set] at hq'; simp [Mp.set, e] at hq; rw [if_neg e] at hs
          subst hq'
          exact absurd (hr.inj k b q p hq hp hs (by simp [hb]) heq) hkb
        · simp [Mp.set, e] at hq; simp [Mp.set, e'] at hq'
          rw [if_neg e] at hs; rw [if_neg e'] at hs'
          exact hr.inj k k' q q' hq hq' hs hs' heq
  · intro k q hq
    show ¬ B q.blk ∧ q.blk < (w.heap.setIfInBounds p.blk ob).size
    rw [Array.size_setIfInBounds]
    by_cases e : k = h.next
    · subst e; simp [Mp.set] at hq; subst hq; exact hr.lo b p hp
    · simp [Mp.set, e] at hq; exact hr.lo k q hq
  · intro k hk
    rw [H.next_del, H.next_new] at hk
    have := hr.fresh k (by omega)
    have e : k ≠ h.next := by omega
    refine ⟨by simp [Mp.set, e, this.1], ?_⟩
    rw [hget]; split
    · rfl
    · first | exact this.2 | (rw [if_neg e]; exact this.2)
  · intro k hk
    show (w.heap.setIfInBounds p.blk ob)[k]? = _
    rw [Array.getElem?_setIfInBounds, if_neg (fun e => (hr.lo b p hp).1 (by rw [e]; exact hk))]; exact hr.keep k hk
  · intro k hk
    show k < (w.heap.setIfInBounds p.blk ob).size
    rw [Array.size_setIfInBounds]; exact hr.size k hk
  · have e : k ≠ h.next := by omega
    simp [Mp.set, e, hn]

/-- What the model's append and the machine's come to. -/
def AppOk (P : Program) (B : Nat → Prop) (w0 : World) (M : Mp) (h : H) (w : World) (st xt ty : TypeId) (s' x' : Value) (v : AV) (h' : H) : Prop :=
  ∃ M' w' y, (Builtin.append_ #[st, xt] ty #[s', x']).run P w = .ok y w' ∧ HRel B w0 M' h' w' ∧ Later h M h' M' ∧ v.tr M' = some y

theorem append_stays (hr : HRel B w0 M h w) (ha : AppendAt P M w xt elem i z n sl s' x' old new olds news) (hu : P.underlying st = some (.slice elem)) {b off cap : Nat} {p : Place} (hp : M.at_ b = some p) (hs : s' = .slice (some ⟨p.blk, p.base + off, none⟩) sl cap)
    (hc : sl + n ≤ cap) {h' : H} (hst : storeN h b (off + sl * i.size) new = some h') (ty : TypeId) :
    ∃ w', (Builtin.append_ #[st, xt] ty #[s', x']).run P w = .ok (.slice (some ⟨p.blk, p.base + off, none⟩) (sl + n) cap) w' ∧ HRel B w0 M h' w' ∧ Later h M h' M := by
  subst hs
  obtain ⟨w', h1, h2, h3⟩ := hr.stores (P := P) hst hp ha.tnew
  have hin : ∃ cs tail fz, h.get b = some (.cells cs tail fz) ∧ (new = [] ∨ off + sl * i.size + new.length ≤ cs.length) := by
    unfold storeN at hst
    split at hst
    case h_2 => cases hst
    rename_i cs tail fz hb
    split at hst
    case isFalse => cases hst
    split at hst
    case h_2 => cases hst
    rename_i cs' hsp
    exact ⟨cs, tail, fz, hb, (splice_spec _ _ _ _ hsp).2.1⟩
  obtain ⟨cs, tail, fz, hb, hle⟩ := hin
  have hlen := AV.trs_length ha.tnew
  have hcell : ∀ j, j < news.length → off + sl * i.size + j < cs.length := fun j hj => by
    rcases hle with h | h
    · rw [h] at hlen; simp only [List.length_nil] at hlen; omega
    · omega
  have hisSome : ∀ j, j < news.length → (w.cell? ⟨p.blk, p.base + off + sl * i.size + j, none⟩).isSome = true := fun j hj => by
    obtain ⟨v, hv, _⟩ := hr.cell hb hp (i := off + sl * i.size + j) (av := cs[off + sl * i.size + j]'(hcell j hj)) (by simp)
    rw [show p.base + off + sl * i.size + j = p.base + (off + sl * i.size + j) from by omega, hv]; rfl
  have hfz : ∀ j, j < news.length → w.frozen? ⟨p.blk, p.base + off + sl * i.size + j, none⟩ = false := fun j hj => by
    have := hr.unfrozen hb hp (hcell j hj)
    rwa [show p.base + off + sl * i.size + j = p.base + (off + sl * i.size + j) from by omega]
  have hrun := run_append_room_src (P := P) w st xt ty elem i hu ha.info p.blk (p.base + off) sl cap x' n news ha.src hc hisSome hfz
  have hcells := run_storeCells_cells (P := P) p.blk (p.base + off + sl * i.size) news 0 w (by simpa using hisSome) (by simpa using hfz) ha.src.one
  rw [show p.base + (off + sl * i.size) = p.base + off + sl * i.size from by omega] at h1
  rw [h1] at hcells
  injection hcells with _ hw
  simp only [Nat.add_zero] at hw
  rw [← hw] at hrun
  exact ⟨w', hrun, h2, h3⟩

theorem append_maybe (hr : HRel B w0 M h w) (ha : AppendAt P M w xt elem i z n sl s' x' old new olds news) (hu : P.underlying st = some (.slice elem)) {b off offE : Nat} {p : Place} (hp : M.at_ b = some p) (hs : s' = .slice (some ⟨p.blk, p.base + off, none⟩) sl (p.cap - offE))
    (hsure : sureCap h b off offE sl i.size = true) {cs : List AV} {tail : Option Nat} {fz : Bool} (hb : h.get b = some (.cells cs tail fz)) (hold : firstA h i.size sl (.slice b off offE sl none) = some old) (ty : TypeId) :
    AppOk P B w0 M h w st xt ty s' x' (.slice h.next 0 0 (sl + n) none) ((h.new (.cells (old ++ new) (some i.size) fz)).del b) := by
  obtain ⟨cs', fz', hb', h0, ho, hl0, hcl, hck, hlk, hcs⟩ := sure_spec hr hsure hp
  rw [hb] at hb'; injection hb' with hb'; injection hb' with e1 e2 e3; subst e1 e2 e3
  by_cases hroom : sl + n ≤ p.cap - offE
  · subst hs
    obtain ⟨ob, hob, c, e, fr, rfl, hcc, ht, hf⟩ := hr.obj b _ p hb hp
    obtain ⟨ht1, ht2⟩ := ht
    simp only at ht2
    have hlen := AV.trs_length ha.tnew
    have hlens := ha.lens
    obtain ⟨holdl, holdg⟩ : old.length = sl * i.size ∧ ∀ k, k < sl * i.size → old[k]? = cs[off + k]? := by
      unfold firstA at hold
      simp only at hold
      split at hold
      · rename_i hz; injection hold with hold; subst hold; exact ⟨by simp [hz], fun k hk => by omega⟩
      · unfold loadN at hold; rw [hb] at hold; exact cut_spec _ _ _ _ hold
    have hnl : news.length = n * i.size := by rw [hlen]; rw [Nat.add_mul] at hlens; omega
    have hfit : p.base + off + sl * i.size + news.length ≤ c.size := by
      rw [ht2, hnl, ho]
      have : (offE + (sl + n)) * i.size ≤ p.cap * i.size := Nat.mul_le_mul_right _ (by omega)
      rw [Nat.add_mul, Nat.add_mul] at this; omega
    have hfro : fr.2 ≤ fr.1 ∨ c.size ≤ fr.1 := by rcases hf with hf | hf; exact .inl hf; exact .inr hf.2
    obtain ⟨c', h1, h2, h3⟩ := raw_stores (P := P) (e := e) (fr := fr) news (p.base + off + sl * i.size) 0 c w hob (by omega) hfro (fun x hx => by have := ha.src.one x hx; cases x <;> first | rfl | cases this)
    have hisSome : ∀ j, j < news.length → (w.cell? ⟨p.blk, p.base + off + sl * i.size + j, none⟩).isSome = true := fun j hj => by
      have : p.base + off + sl * i.size + j < c.size := by omega
      simp [World.cell?, hob, this]
    have hfz : ∀ j, j < news.length → w.frozen? ⟨p.blk, p.base + off + sl * i.size + j, none⟩ = false := fun j hj => by
      obtain ⟨lo, hi⟩ := fr
      simp only [World.frozen?, hob]
      rcases hfro with hf | hf <;> simp at hf ⊢ <;> omega
    have hrun := run_append_room_src (P := P) w st xt ty elem i hu ha.info p.blk (p.base + off) sl (p.cap - offE) x' n news ha.src hroom hisSome hfz
    have hcells := run_storeCells_cells (P := P) p.blk (p.base + off + sl * i.size) news 0 w (by simpa using hisSome) (by simpa using hfz) ha.src.one
    rw [h1] at hcells
    injection hcells with _ hw
    simp only [Nat.add_zero] at hw
    rw [← hw] at hrun
    obtain ⟨hr', hl', hat⟩ := hr.takeOver (o := .cells (old ++ new) (some i.size) fz) (base := p.base + off) (cap := p.cap - offE) (ob := .cells c' e fr) hb hp (by
      refine ⟨c', e, fr, rfl, fun k av hk => ?_, ⟨?_, ?_⟩, by rw [h2]; exact hf⟩
      · have hle := Mp.set_le (p := ⟨p.blk, p.base + off, p.cap - offE⟩) (hr.fresh _ (Nat.le_refl _)).1
        show ∃ v, c'[p.base + off + k]? = some v ∧ _
        rw [h3]
        by_cases hk2 : k < sl * i.size
        · rw [if_neg (by omega)]
          rw [List.getElem?_append_left (by omega)] at hk
          have hkc : cs[off + k]? = some av := by rw [← holdg k hk2]; exact hk
          obtain ⟨v, hv, hvt⟩ := hcc (off + k) av hkc
          exact ⟨v, by rw [Nat.add_assoc]; exact hv, AV.tr_mono hle _ _ hvt⟩
        · rw [List.getElem?_append_right (by omega), holdl] at hk
          have hlt : k - sl * i.size < new.length := (List.getElem?_eq_some_iff.1 hk).1
          obtain ⟨v, hv, hvt⟩ := AV.trs_nth ha.tnew hk
          rw [if_pos (by omega)]
          exact ⟨v, by rw [show p.base + off + k - (p.base + off + sl * i.size + 0) = k - sl * i.size from by omega]; exact hv, AV.tr_mono hle _ _ hvt⟩
      · rw [h2, List.length_append, holdl]; show p.base + off + _ ≤ _; omega
      · show c'.size = p.base + off + (p.cap - offE) * i.size
        rw [h2, ht2, ho, Nat.sub_mul]
        have : offE * i.size ≤ p.cap * i.size := Nat.mul_le_mul_right _ (by omega)
        omega)
    exact ⟨_, _, _, hrun, hr', hl', by simp only [AV.tr, hat]; simp⟩
  · obtain ⟨M', w', y, h1, h2, h3, h4⟩ := append_grows hr ha hu (base := some ⟨p.blk, p.base + off, none⟩) (cap := p.cap - offE) hs (by omega) ty fz
    exact ⟨M', w', y, h1, h2.del b, ⟨h3.le, by have := h3.next; rw [H.next_del]; exact this, h3.same⟩, h4⟩

theorem append1_ok (hr : HRel B w0 M h w) (ha : AppendAt P M w xt elem i z n sl s' x' old new olds news) (hu : P.underlying st = some (.slice elem)) {s v : AV} {h' : H} (hs : s.tr M = some s') (hsl : lenA s = some sl) (hold : firstA h i.size sl s = some old)
    (e : append1A h i.size s n old new = some (v, h')) (ty : TypeId) : AppOk P B w0 M h w st xt ty s' x' v h' := by
  have nothing : n = 0 → ∀ (base : Option Addr) (sl' cap : Nat), s' = .slice base sl' cap → sl' = sl → sl' ≤ cap → (Builtin.append_ #[st, xt] ty #[s', x']).run P w = .ok s' w := by
    intro hn base sl' cap hs' _ hle
    have hsrc := ha.src
    have : news = [] := by
      have := hsrc.newsLen; rw [hn] at this; simpa using this
    subst this hn hs'
    exact run_append_nothing w st xt ty elem i hu ha.info base sl' cap hle x' hsrc
  unfold append1A at e
  split at e
  · simp [AV.tr] at hs; subst hs
    simp [lenA] at hsl; subst hsl
    split at e
    · rename_i hn
      injection e with e; injection e with e1 e2; subst e1 e2
      exact ⟨M, w, _, nothing (by simpa using hn) none 0 0 rfl rfl (Nat.le_refl _), hr, .refl _ _, rfl⟩
    · rename_i hn
      injection e with e; injection e with e1 e2; subst e1 e2
      have hn' : n ≠ 0 := by intro h; subst h; simp at hn
      have hold' : old = [] := by unfold firstA at hold; simpa using hold.symm
      subst hold'
      obtain ⟨M', w', y, h1, h2, h3, h4⟩ := append_grows hr ha hu (base := none) (cap := 0) rfl (by omega) ty false
      simp only [List.nil_append, Nat.zero_add] at h2 h3 h4
      exact ⟨M', w', y, h1, h2, h3, h4⟩
  · rename_i b off offE l sz
    obtain ⟨p, hp, hs'⟩ := tr_slice0 hs
    simp only [if_true] at hs'
    simp [lenA] at hsl; subst hsl
    split at e
    · rename_i hn
      injection e with e; injection e with e1 e2; subst e1 e2
      exact ⟨M, w, _, nothing (by simpa using hn) _ _ _ hs' rfl (Nat.le_refl _), hr, .refl _ _, hs⟩
    · rename_i hn
      injection e with e; injection e with e1 e2; subst e1 e2
      have hn' : n ≠ 0 := by intro h; subst h; simp at hn
      have hold' : old = [] := by unfold firstA at hold; simpa using hold.symm
      subst hold'
      obtain ⟨M', w', y, h1, h2, h3, h4⟩ := append_grows hr ha hu hs' (by omega) ty false
      simp only [List.nil_append, Nat.zero_add] at h2 h3 h4
      exact ⟨M', w', y, h1, h2, h3, h4⟩
  · rename_i b off offE sl' c
    simp [lenA] at hsl; subst hsl
    obtain ⟨p, hp, hs'⟩ := tr_slice hs
    simp only [Option.getD_some] at hs'
    split at e
    · rename_i hle
      split at e
      case h_2 => cases e
      rename_i h1 hst
      injection e with e; injection e with e1 e2; subst e1 e2
      obtain ⟨w', r1, r2, r3⟩ := append_stays hr ha hu hp hs' (by simpa using hle) hst ty
      exact ⟨M, w', _, r1, r2, r3, by simp [AV.tr, hp]⟩
    · rename_i hle
      injection e with e; injection e with e1 e2; subst e1 e2
      have hlt : c < sl' + n := by
        refine Nat.lt_of_not_le fun hh => ?_
        rw [Nat.ble_eq_true_of_le hh] at hle; cases hle
      exact append_grows hr ha hu hs' hlt ty false
  · rename_i b off offE sl'
    simp [lenA] at hsl; subst hsl
    obtain ⟨p, hp, hs'⟩ := tr_slice hs
    simp only [Option.getD_none] at hs'
    split at e
    case h_2 => cases e
    rename_i hsure
    split at e
    case h_2 => cases e
    rename_i cs tail fz hb
    split at e
    · rename_i hle
      split at e
      case h_2 => cases e
      rename_i h1 hst
      injection e with e; injection e with e1 e2; subst e1 e2
      obtain ⟨cs', fz', hb', h0, ho, hl0, hcl, hck, hlk, hcs⟩ := sure_spec hr hsure hp
      rw [hb] at hb'; injection hb' with hb'; injection hb' with e1 e2 e3; subst e1 e2 e3
      have hle' : off + (sl' + n) * i.size ≤ cs.length := by simpa using hle
      have hroom : sl' + n ≤ p.cap - offE := by
        have : (offE + (sl' + n)) * i.size ≤ p.cap * i.size := by rw [Nat.add_mul]; omega
        have := Nat.le_of_mul_le_mul_right this h0
        omega
      obtain ⟨w', r1, r2, r3⟩ := append_stays hr ha hu hp hs' hroom hst ty
      exact ⟨M, w', _, r1, r2, r3, by simp [AV.tr, hp]⟩
    · injection e with e; injection e with e1 e2; subst e1 e2
      exact append_maybe hr ha hu hp hs' hsure hb hold ty
  · cases e

theorem srcA_spec {xt : TypeId} (e : srcA P xt = true) : (∃ e', P.underlying xt = some (.slice e')) ∨ P.underlying xt = some .string := by
  unfold srcA at e
  split at e
  · rename_i el hu; exact .inl ⟨el, hu⟩
  · rename_i hu; exact .inr hu
  · cases e

theorem scalars_one (hy : ∀ i x, M.env i = some x → isCell x = true) : ∀ {vs : List AV} {xs : List Value}, vs.all AV.scalar = true → AV.trs M vs = some xs → ∀ u ∈ xs, u.oneCell' = true
  | [], xs, _, e => by simp [AV.trs] at e; subst e; simp
  | v :: vs, xs, hs, e => by
    obtain ⟨y, ys, h1, h2, rfl⟩ := AV.trs_cons.1 e
    simp only [List.all_cons, Bool.and_eq_true] at hs
    intro u hu
    rcases List.mem_cons.1 hu with rfl | hu
    · have := AV.scalar_tr hy hs.1 h1
      cases u <;> first | rfl | cases this
    · exact scalars_one hy hs.2 h2 u hu

theorem first_len {x : AV} {size n : Nat} {l : List AV} (hn : lenA x = some n) (e : firstA h size n x = some l) (hs : (∃ s, x = .str s) → size = 1 ∨ l.length = n * size) : l.length = n * size := by
  unfold firstA at e
  split at e
  · injection e with e; subst e; simp [lenA] at hn; subst hn; simp
  · split at e
    case isFalse => cases e
    rename_i hz; subst hz; injection e with e; subst e; simp
  · split at e
    · rename_i hz; injection e with e; subst e; rw [hz]; rfl
    · unfold loadN at e
      split at e
      case h_2 => cases e
      exact (cut_spec _ _ _ _ e).1
  · rename_i s
    simp [lenA] at hn; subst hn
    rcases hs ⟨s, rfl⟩ with h1 | h1
    · injection e with e; subst e; simp [h1]
    · exact h1
  · cases e

theorem append_ok (hr : HRel B w0 M h w) {st xt : TypeId} {s x v : AV} {s' x' : Value} {h' : H} (hs : s.tr M = some s') (hx : x.tr M = some x') (e : appendA P h [st, xt] s x = some (v, h')) (ty : TypeId) : AppOk P B w0 M h w st xt ty s' x' v h' := by
  simp only [appendA] at e
  split at e
  case h_2 => cases e
  rename_i elem hu
  split at e
  case h_2 => cases e
  rename_i hsrc
  unfold append2A at e
  split at e
  case h_2 => cases e
  rename_i size bytes z hsz hby hz
  split at e
  case h_2 => cases e
  rename_i n sl hn hsl
  split at e
  case isTrue => cases e
  rename_i hcond
  simp only [not_or, Nat.not_lt, Decidable.not_not, gt_iff_lt, Bool.not_eq_false] at hcond
  obtain ⟨c1, c2, c3, c4, c5⟩ := hcond
  split at e
  case h_2 => cases e
  rename_i new old hnew hold
  split at e
  case h_2 => cases e
  rename_i hb
  simp only [Bool.and_eq_true, Nat.beq_eq] at hb
  obtain ⟨hb1, hb2⟩ := hb
  obtain ⟨i, hi, hib⟩ := bytes_info hby
  have hisz : i.size = size := by unfold sizeA at hsz; rw [hi] at hsz; simpa using hsz
  subst hisz
  subst hib
  have hzv : ∃ zv, i.zero = some zv ∧ z.tr M = some zv := by
    unfold zeroA at hz
    rw [hi] at hz
    simp only at hz
    cases hzz : i.zero with
    | none => rw [hzz] at hz; cases hz
    | some zv => rw [hzz] at hz; exact ⟨zv, rfl, ofConst_tr hz M⟩
  obtain ⟨zv, hzv, hzt⟩ := hzv
  have hzc := cells_tr hzt (scalar_tuple c2) hr.env
  obtain ⟨news, tnew, rnew⟩ := first_run (P := P) hr hnew hx
  obtain ⟨news2, tnew2, rnew2⟩ := first_run (P := P) (hr.drew (w.drawn + 1)) hnew hx
  obtain ⟨olds, told, rold⟩ := first_run (P := P) (hr.drew (w.drawn + 1)) hold hs
  have : news2 = news := by rw [tnew] at tnew2; exact (Option.some.inj tnew2).symm
  subst this
  have hnl : new.length = n * i.size := by
    by_cases hstr : ∃ q, x = .str q
    · have h1 := first_len hn hnew (fun _ => by
        right
        have hol : old.length = sl * i.size := first_len hsl hold (fun ⟨q, hq⟩ => by
          subst hq
          simp [append1A] at e)
        rw [Nat.add_mul] at hb1; omega)
      exact h1
    · exact first_len hn hnew (fun hh => absurd hh hstr)
  refine append1_ok (i := i) (z := zv) (x' := x') (new := new) (olds := olds) (news := news2) hr ?_ hu hs hsl hold e ty
  exact {
    info := hi
    zero := hzv
    zsize := by rw [← Array.length_toList, AV.trs_length hzc]; exact c1
    pos := by omega
    small := ⟨c4, c5⟩
    src := ⟨srcA_spec hsrc, fun w' => len_run hn hx, rnew, rnew2, by rw [AV.trs_length tnew]; exact hnl, scalars_one hr.env hb2 tnew⟩
    hold := rold
    tnew := tnew
    told := told
    lens := hb1 }
end Go.AM
