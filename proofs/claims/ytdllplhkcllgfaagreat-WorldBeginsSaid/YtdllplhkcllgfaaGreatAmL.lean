/- Conversions, literals, builtins; all reading operations, all making ones. Nothing is assumed. -/
import Derived.Test.YtdllplhkcllgfaaGreatAmK
import Derived.Laws.LoneSync
namespace Go.AM

variable {B : Nat → Prop} {w0 : World} {M : Mp} {h : H} {w : World} {P : Program}

theorem bytes_of {cs : List AV} {l : List UInt8} (e : optMap (fun v => match v with | .int .u8 b => some (UInt8.ofNat b.toNat) | _ => none) cs = some l) :
    ∃ ns : List Int, cs = ns.map (AV.int .u8) ∧ l = ns.map fun n => UInt8.ofNat n.toNat := by
  have := optMap_spec e
  clear e
  induction this with
  | nil => exact ⟨[], rfl, rfl⟩
  | cons r _ ih =>
    obtain ⟨ns, rfl, rfl⟩ := ih
    split at r
    · rename_i n; injection r with r; subst r; exact ⟨n :: ns, rfl, rfl⟩
    · cases r

theorem trs_bytes {ns : List Int} {xs : List Value} (e : AV.trs M (ns.map (AV.int .u8)) = some xs) : xs = ns.map (Value.int .u8) := by
  induction ns generalizing xs with
  | nil => simp [AV.trs] at e; exact e ▸ rfl
  | cons n ns ih =>
    obtain ⟨y, ys, h1, h2, rfl⟩ := AV.trs_cons.1 e
    rw [tr_int h1, ih h2]; rfl

theorem push_bytes : ∀ (ns : List Int) (l : List UInt8), ns.foldl (fun r n => r.push (UInt8.ofNat n.toNat)) (⟨l.toArray⟩ : ByteArray) = ⟨(l ++ ns.map fun n => UInt8.ofNat n.toNat).toArray⟩
  | [], l => by simp
  | n :: ns, l => by
    simp only [List.foldl_cons]
    rw [show (⟨l.toArray⟩ : ByteArray).push (UInt8.ofNat n.toNat) = ⟨(l ++ [UInt8.ofNat n.toNat]).toArray⟩ from by apply ByteArray.ext; simp [ByteArray.push], push_bytes ns]
    simp

theorem conv_reads (hr : HRel B w0 M h w) {ρ : Env} {ρ' : Operand → Value} {src dst : TypeId} {x : Operand} {v : AV} (hρ : EnvRel M ρ ρ' (Op.convert src dst x).operands) (e : conv1A P h src dst (ρ x) = some v) :
    Reads P M w ρ' (.convert src dst x) v := by
  unfold conv1A at e
  split at e
  case h_2 => cases e
  rename_i a ha
  have ta := hρ x (by simp [Op.operands]) _ ha
  have fin : ∀ y, v.tr M = some y → (convert src dst (ρ' x)).run P w = .ok y w → Reads P M w ρ' (.convert src dst x) v := by
    intro y hy hrun
    refine ⟨y, hy, ?_⟩
    rintro ⟨d, op, ty, pos, after, guard⟩ rfl
    simp [execOp, hrun]
  unfold convA at e
  split at e
  · rename_i d1 k kk n hs hd
    injection e with e; subst e
    refine fin _ rfl ?_
    rw [tr_int ta]
    simp [convert, run_underlying hs, run_underlying hd, Conv.intToInt]
  · rename_i d1 k i hs hd
    obtain ⟨k0, n, f1, f2⟩ := findConv_sound hr.facts e
    have g1 := numOf_tr f1
    rw [ta] at g1; injection g1 with g1
    refine fin _ (atomVal_tr f2) ?_
    rw [g1]
    simp [convert, run_underlying hs, run_underlying hd, Conv.intToInt]
  · rename_i d1 s hs hd
    injection e with e; subst e
    refine fin _ ta ?_
    rw [tr_str ta]
    cases d1 <;> simp [convert, run_underlying hs, run_underlying hd]
  · rename_i el hs hd hns
    split at e
    case h_2 => cases e
    rename_i he
    split at e
    case h_2 => cases e
    rename_i n hn
    split at e
    case h_2 => cases e
    rename_i cs hcs
    split at e
    case h_2 => cases e
    rename_i l hl
    injection e with e; subst e
    obtain ⟨ns, rfl, rfl⟩ := bytes_of hl
    have key : ∀ (a0 : Addr) (len cap : Nat), ρ' x = .slice (some a0) len cap → (loadCells a0 len).run P w = .ok (ns.map (Value.int .u8)).toArray w →
        (convert src dst (ρ' x)).run P w = .ok (.string ⟨(ns.map fun n => UInt8.ofNat n.toNat).toArray⟩) w := by
      intro a0 len cap hx hld
      rw [hx, run_convert_bytes_string w src dst el _ _ _ hs he hd, run_bytesToString w a0 len cap ns hld]
      have := push_bytes ns []
      simp only [List.nil_append] at this
      rw [← this]; rfl
    unfold firstA at hcs
    split at hcs
    · have : ns = [] := by simpa using hcs.symm
      subst this
      refine fin _ rfl ?_
      simp [AV.tr] at ta; rw [← ta, run_convert_bytes_string w src dst el _ _ _ hs he hd]
      simp [Conv.bytesToString]; rfl
    · split at hcs
      case isFalse => cases hcs
      have : ns = [] := by simpa using hcs.symm
      subst this
      obtain ⟨p, hp, hx⟩ := tr_slice0 ta
      exact fin _ rfl (key _ _ _ hx (by simp [loadCells, loadCellsFrom]))
    · rename_i b off offE len cap
      simp [lenA] at hn; subst hn
      obtain ⟨p, hp, hx⟩ := tr_slice ta
      split at hcs
      · rename_i hz
        have : ns = [] := by simpa using hcs.symm
        subst this
        have hz' : len = 0 := by simpa using hz
        subst hz'
        exact fin _ rfl (key _ _ _ hx (by simp [loadCells, loadCellsFrom]))
      · obtain ⟨xs, hxs, _, hld⟩ := hr.loads (P := P) hcs hp
        rw [trs_bytes hxs] at hld
        exact fin _ rfl (key _ _ _ hx (by simpa using hld))
    · exact (hns _ rfl).elim
    · cases hcs
  · rename_i el b o hs hd
    split at e
    case h_2 => cases e
    rename_i n c hsz hcell
    injection e with e; subst e
    obtain ⟨p, hp, hx⟩ := tr_ptr ta
    refine fin _ ta ?_
    unfold cellA at hcell
    split at hcell
    case h_2 => cases hcell
    rename_i cs tail fz hb
    rw [nth_eq] at hcell
    obtain ⟨y, hy, _⟩ := hr.cell hb hp hcell
    rw [hx]
    refine run_convert_to_unsafe hs hd ?_ hy
    unfold sizeA at hsz
    cases hi : P.info? el with
    | none => simp [hi] at hsz
    | some i => simp [hi] at hsz; simp [hsz]
  · cases e

theorem partA1_spec {ρ : Env} {p : Nat × Operand} {q : Nat × AV} (e : partA1 ρ p = some q) : ρ p.2 = some q.2 ∧ q.1 = p.1 ∧ ∀ vs, q.2 ≠ .tuple vs := by
  unfold partA1 at e
  split at e
  · rename_i v hv
    split at e
    · cases e
    · rename_i hn; injection e with e; subst e; exact ⟨hv, rfl, fun vs h => hn vs h⟩
  · cases e

theorem parts_rel {ρ : Env} {ρ' : Operand → Value} {parts : Array (Nat × Operand)} {ps : List (Nat × AV)} (hρ : ∀ p ∈ parts.toList, ∀ a, ρ p.2 = some a → a.tr M = some (ρ' p.2)) (e : partsA ρ parts = some ps) :
    All2 (fun (a : Nat × AV) (b : Nat × Value) => a.1 = b.1 ∧ a.2.tr M = some b.2) ps (parts.map fun (i, x) => (i, ρ' x)).toList ∧ ∀ p ∈ ps, ∀ vs, p.2 ≠ .tuple vs := by
  have h := optMap_spec e
  rw [Array.toList_map]
  generalize parts.toList = l at h hρ
  clear e
  induction h with
  | nil => exact ⟨.nil, fun p hp => by simp at hp⟩
  | cons r _ ih =>
    obtain ⟨h1, h2⟩ := ih (fun p hp => hρ p (by simp [hp]))
    obtain ⟨a, b, c⟩ := partA1_spec r
    refine ⟨.cons ⟨b, hρ _ (by simp) _ a⟩ h1, fun p hp => ?_⟩
    rcases List.mem_cons.1 hp with rfl | hp
    · exact c
    · exact h2 p hp

theorem foldl_set_get : ∀ (vs : List Value) (k off : Nat) (cells : Array Value), off + k + vs.length ≤ cells.size →
    (((vs.zipIdx k).foldl (fun cs (x : Value × Nat) => cs.setIfInBounds (off + x.2) x.1) cells).size = cells.size) ∧
    ∀ i, ((vs.zipIdx k).foldl (fun cs (x : Value × Nat) => cs.setIfInBounds (off + x.2) x.1) cells)[i]? = if off + k ≤ i ∧ i < off + k + vs.length then vs[i - (off + k)]? else cells[i]?
  | [], k, off, cells, _ => ⟨rfl, fun i => by rw [if_neg (by simp)]; rfl⟩
  | v :: vs, k, off, cells, hl => by
    simp only [List.length_cons] at hl
    rw [List.zipIdx_cons, List.foldl_cons]
    obtain ⟨h1, h2⟩ := foldl_set_get vs (k + 1) off (cells.setIfInBounds (off + k) v) (by simp; omega)
    refine ⟨by rw [h1]; simp, fun i => ?_⟩
    rw [h2 i]
    by_cases hc : off + (k + 1) ≤ i ∧ i < off + (k + 1) + vs.length
    · rw [if_pos hc, if_pos (by simp; omega), show i - (off + k) = (i - (off + (k + 1))) + 1 from by omega, List.getElem?_cons_succ]
    · rw [if_neg hc, Array.getElem?_setIfInBounds]
      by_cases hi : off + k = i
      · subst hi; rw [if_pos rfl, if_pos (show off + k < cells.size by omega)]; simp
      · rw [if_neg hi, if_neg (by simp; omega)]

theorem AV.trs_ext : ∀ {cs : List AV} {xs : List Value}, xs.length = cs.length → (∀ (k : Nat) (a : AV), cs[k]? = some a → ∃ x, xs[k]? = some x ∧ a.tr M = some x) → AV.trs M cs = some xs
  | [], [], _, _ => rfl
  | [], _ :: _, h, _ => by simp at h
  | _ :: _, [], h, _ => by simp at h
  | c :: cs, x :: xs, h, hg => by
    obtain ⟨y, hy, ht⟩ := hg 0 c (by simp)
    simp at hy; subst hy
    exact AV.trs_cons.2 ⟨x, xs, ht, AV.trs_ext (by simpa using h) (fun k a hk => by have := hg (k + 1) a (by simpa using hk); simpa using this), rfl⟩

theorem fill_run {place : Nat → Option (Nat × Nat)} (hy : ∀ i x, M.env i = some x → isCell x = true) : ∀ {ps : List (Nat × AV)} {qs : List (Nat × Value)} {cells cs : List AV} {xs : List Value},
    All2 (fun (a : Nat × AV) (b : Nat × Value) => a.1 = b.1 ∧ a.2.tr M = some b.2) ps qs → AV.trs M cells = some xs → (∀ p ∈ ps, ∀ vs, p.2 ≠ .tuple vs) → fillA place cells ps = some cs →
    ∃ ys, AV.trs M cs = some ys ∧ Instr.fill place xs.toArray qs = some ys.toArray
  | _, _, cells, cs, xs, .nil, hx, _, e => by simp only [fillA] at e; injection e with e; subst e; exact ⟨xs, hx, by simp [Instr.fill]⟩
  | _, _, cells, cs, xs, .cons (a := a) (b := b) (as := as) (bs := bs) hr hrs, hx, ht, e => by
    obtain ⟨i, v⟩ := a
    obtain ⟨j, x⟩ := b
    obtain ⟨h1, h2⟩ := hr
    simp only at h1 h2; subst h1
    simp only [fillA] at e
    split at e
    case h_1 => cases e
    rename_i off size hp
    split at e
    case isTrue => cases e
    rename_i hsz
    split at e
    case h_2 => cases e
    rename_i cs1 hsp
    have hc := cells_tr h2 (ht (i, v) (by simp)) hy
    obtain ⟨s1, s2, s3⟩ := splice_spec cells off v.cells cs1 hsp
    have hlen := AV.trs_length hc
    have hlx := AV.trs_length hx
    simp only [not_or, Decidable.not_not, Nat.not_lt] at hsz
    have hsize : x.cells.size = size := by rw [← Array.length_toList, hlen]; exact hsz.1
    have hin : off + 0 + x.cells.toList.length ≤ xs.toArray.size := by
      rw [List.size_toArray, hlx, hlen]; omega
    obtain ⟨f1, f2⟩ := foldl_set_get x.cells.toList 0 off xs.toArray hin
    have hnew : AV.trs M cs1 = some ((x.cells.toList.zipIdx 0).foldl (fun cs (x : Value × Nat) => cs.setIfInBounds (off + x.2) x.1) xs.toArray).toList := by
      refine AV.trs_ext ?_ ?_
      · rw [Array.length_toList, f1, List.size_toArray, hlx, s1]
      · intro k a hk
        rw [s3 k] at hk
        rw [Array.getElem?_toList, f2 k]
        by_cases hcc : off ≤ k ∧ k < off + v.cells.length
        · rw [if_pos hcc] at hk
          rw [if_pos (by rw [hlen]; omega)]
          have := AV.trs_nth hc hk
          simpa using this
        · rw [if_neg hcc] at hk
          rw [if_neg (by rw [hlen]; omega)]
          have := AV.trs_nth hx hk
          simpa using this
    obtain ⟨ys, h3, h4⟩ := fill_run hy hrs hnew (fun p hp => ht p (by simp [hp])) e
    refine ⟨ys, h3, ?_⟩
    have hcond : (decide (x.cells.size ≠ size) || decide (off + x.cells.size > xs.toArray.size)) = false := by
      rw [hsize, List.size_toArray, hlx]; simp; omega
    simp only [Instr.fill, hp, hcond, Bool.false_eq_true, if_false]
    rw [← h4, ← Array.foldl_toList, Array.toList_zipIdx]

theorem mapM_run {α β : Type} {f : α → Sem β} {w : World} : ∀ {l : List α} {r : List β}, All2 (fun a b => (f a).run P w = .ok b w) l r → (l.mapM f).run P w = .ok r w
  | [], [], .nil => by simp
  | _, _, .cons h hs => by simp [h, mapM_run hs]

theorem mapM_arr {α β : Type} {f : α → Sem β} {w : World} {a : Array α} {r : List β} (h : All2 (fun a b => (f a).run P w = .ok b w) a.toList r) : (a.mapM f).run P w = .ok r.toArray w := by
  rw [Array.mapM_eq_mapM_toList, Sem.run_map, mapM_run h]; rfl

theorem place_run {fs : Array Field} (hall : (List.range fs.size).all (fun i => (placeA P fs i).isSome) = true) :
    ∃ r : List (Nat × Nat), ((fs.mapM fun f => do pure (f.offset, ← sizeOf f.type)) : Sem (Array (Nat × Nat))).run P w = .ok r.toArray w ∧ ∀ i, r[i]? = placeA P fs i := by
  have key : ∀ (l : List Field) (k : Nat), (∀ i, i < l.length → ∃ q, placeA P fs (k + i) = some q ∧ fs[k + i]? = l[i]?) →
      ∃ r : List (Nat × Nat), All2 (fun (f : Field) (q : Nat × Nat) => ((do pure (f.offset, ← sizeOf f.type)) : Sem (Nat × Nat)).run P w = .ok q w) l r ∧ ∀ i, i < l.length → r[i]? = placeA P fs (k + i) := by
    intro l
    induction l with
    | nil => intro k _; exact ⟨[], .nil, fun i hi => by simp at hi⟩
    | cons f l ih =>
      intro k h
      obtain ⟨q, hq, hf⟩ := h 0 (by simp)
      obtain ⟨r, h1, h2⟩ := ih (k + 1) (fun i hi => by
        obtain ⟨q, a, b⟩ := h (i + 1) (by simp; omega)
        exact ⟨q, by rw [show k + 1 + i = k + (i + 1) from by omega]; exact a, by rw [show k + 1 + i = k + (i + 1) from by omega, b]; simp⟩)
      refine ⟨q :: r, .cons ?_ h1, fun i hi => ?_⟩
      · simp at hf
        unfold placeA at hq
        simp only [Nat.add_zero, hf] at hq
        split at hq
        · rename_i s hs; injection hq with hq; subst hq; simp [size_run hs]
        · cases hq
      · cases i with
        | zero => rw [hq]; simp
        | succ i => simp only [List.getElem?_cons_succ]; rw [h2 i (by simp at hi; omega)]; congr 1; omega
  obtain ⟨r, h1, h2⟩ := key fs.toList 0 (fun i hi => by
    have := List.all_eq_true.1 hall i (by simpa using hi)
    obtain ⟨q, hq⟩ := Option.isSome_iff_exists.1 this
    exact ⟨q, by simpa using hq, by simp⟩)
  refine ⟨r, mapM_arr h1, fun i => ?_⟩
  by_cases hi : i < fs.toList.length
  · have := h2 i hi; simpa using this
  · rw [List.getElem?_eq_none (by rw [← h1.length]; omega)]
    unfold placeA
    rw [Array.getElem?_eq_none (by simpa using hi)]

theorem build_reads (hr : HRel B w0 M h w) {ρ : Env} {ρ' : Operand → Value} {t : TypeId} {parts : Array (Nat × Operand)} {v : AV} (hρ : EnvRel M ρ ρ' (Op.build t parts).operands) (e : buildA P ρ t parts = some v) :
    Reads P M w ρ' (.build t parts) v := by
  unfold buildA at e
  split at e
  case h_2 => cases e
  rename_i z hz
  split at e
  case h_2 => cases e
  rename_i ps hps
  obtain ⟨hrel, htup⟩ := parts_rel (M := M) (ρ := ρ) (ρ' := ρ') (fun p hp => hρ p.2 (by simp [Op.operands]; exact ⟨p.1, by simpa using hp⟩)) hps
  obtain ⟨zv, hz1, hz2⟩ := zero_run (P := P) (w := w) hz
  obtain ⟨zl, hzl, rfl⟩ := tr_agg (hz2 M)
  split at e
  · rename_i fs hu
    split at e
    case h_2 => cases e
    rename_i hall
    split at e
    case h_2 => cases e
    rename_i cs hcs
    injection e with e; subst e
    obtain ⟨r, hr1, hr2⟩ := place_run (P := P) (w := w) hall
    obtain ⟨ys, h1, h2⟩ := fill_run hr.env hrel hzl htup hcs
    have hpl : (fun i => r.toArray[i]?) = placeA P fs := by funext i; rw [← hr2 i]; simp
    refine ⟨.agg ys.toArray, by simp [AV.tr, h1], ?_⟩
    rintro ⟨dst, op, ty, pos, after, guard⟩ rfl
    have : (Instr.build t (parts.map fun (i, x) => (i, ρ' x))).run P w = .ok (.agg ys.toArray) w := by
      simp only [Instr.build, Sem.run_bind, hz1, Result.andThen_ok, run_underlying hu, hr1, Value.cells, hpl, h2, Sem.run_pure]
    simp only [execOp, Sem.run_bind, this, Result.andThen_ok, Sem.run_pure]
  · rename_i n elem hu
    split at e
    case h_2 => cases e
    rename_i s hs
    split at e
    case h_2 => cases e
    rename_i cs hcs
    injection e with e; subst e
    obtain ⟨ys, h1, h2⟩ := fill_run hr.env hrel hzl htup hcs
    refine ⟨.agg ys.toArray, by simp [AV.tr, h1], ?_⟩
    rintro ⟨dst, op, ty, pos, after, guard⟩ rfl
    have : (Instr.build t (parts.map fun (i, x) => (i, ρ' x))).run P w = .ok (.agg ys.toArray) w := by
      simp only [Instr.build, Sem.run_bind, hz1, Result.andThen_ok, run_underlying hu, size_run hs, Value.cells, h2, Sem.run_pure]
    simp only [execOp, Sem.run_bind, this, Result.andThen_ok, Sem.run_pure]
  · cases e
end Go.AM
