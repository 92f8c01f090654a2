/- Equality. Nothing is assumed. -/
import Derived.Test.YtdllplhkcllgfaaGreatAmH
import Derived.Laws.StructEq
namespace Go.AM

variable {B : Nat → Prop} {w0 : World} {M : Mp} {h : H} {w : World} {P : Program}

theorem HRel.plain (hr : HRel B w0 M h w) {b : Nat} {p : Place} (hf : fzA h b = false) (hp : M.at_ b = some p) :
    (∃ e n, w.shape? p.blk = some (e, n)) ∧ ∀ k s, w.frozen? ⟨p.blk, k, s⟩ = false := by
  unfold fzA at hf
  split at hf
  · rename_i cs tail fz hb
    subst hf
    obtain ⟨ob, ho, c, e, fr, rfl, _, _, hfr⟩ := hr.obj b _ p hb hp
    refine ⟨⟨e, c.size, by simp [World.shape?, ho]⟩, fun k s => ?_⟩
    obtain ⟨lo, hi⟩ := fr
    simp only [World.frozen?, ho]
    rcases hfr with hfr | ⟨hfr, _⟩
    · simp at hfr ⊢; omega
    · cases hfr
  · cases hf

theorem HRel.sameAddr (hr : HRel B w0 M h w) {b b' o o' : Nat} {p p' : Place} (hp : M.at_ b = some p) (hp' : M.at_ b' = some p') {r : Bool}
    (e : (if b = b' then some (o == o') else if liveA h b && liveA h b' && !fzA h b && !fzA h b' then some false else none) = some r) :
    (sameAddr ⟨p.blk, p.base + o, none⟩ ⟨p'.blk, p'.base + o', none⟩).run P w = .ok r w := by
  split at e
  · rename_i hb; subst hb
    rw [hp] at hp'; cases hp'
    injection e with e; subst e
    simp only [Go.sameAddr, beq_self_eq_true, if_true]
    rw [Sem.run_pure]
    congr 1
    rw [Bool.eq_iff_iff]; simp
  · split at e
    case isFalse => cases e
    rename_i hne hl
    injection e with e; subst e
    simp only [Bool.and_eq_true, Bool.not_eq_true'] at hl
    obtain ⟨⟨⟨hl1, hl2⟩, hf1⟩, hf2⟩ := hl
    have hblk : p.blk ≠ p'.blk := fun heq => hne (hr.inj b b' p p' hp hp' hl1 hl2 heq)
    obtain ⟨⟨e1, n1, hs1⟩, hz1⟩ := hr.plain hf1 hp
    obtain ⟨⟨e2, n2, hs2⟩, hz2⟩ := hr.plain hf2 hp'
    have hbeq : (p.blk == p'.blk) = false := by simpa using hblk
    simp [Go.sameAddr, hbeq, hz1, hz2, noView, viewAt, hs1, hs2, mayBeOne, stringish]

theorem eq_run (hr : HRel B w0 M h w) : ∀ d : Nat,
    (∀ t x y r D x' y', eqA P h d t x y = some r → d ≤ D → x.tr M = some x' → y.tr M = some y' → (Op.equalIn D t x' y').run P w = .ok r w) ∧
    (∀ fs xs ys r D xs' ys', eqFields P h d fs xs ys = some r → d ≤ D → AV.trs M xs = some xs' → AV.trs M ys = some ys' → (Op.eqFields D xs'.toArray ys'.toArray fs).run P w = .ok r w)
  | 0 => ⟨fun t x y r D x' y' e => by simp [eqA] at e, fun fs xs ys r D xs' ys' e => by simp [eqFields] at e⟩
  | d + 1 => by
    obtain ⟨ih1, ih2⟩ := eq_run hr d
    constructor
    · intro t x y r D x' y' e hD hx hy
      obtain ⟨D, rfl⟩ : ∃ n, D = n + 1 := ⟨D - 1, by omega⟩
      simp only [eqA] at e
      split at e
      · rename_i hu; injection e with e; subst e
        rw [tr_bool hx, tr_bool hy]; exact run_equalIn_bool' w D t _ _ hu
      · rename_i hu
        split at e
        case isFalse => cases e
        rename_i hk; subst hk
        injection e with e; subst e
        rw [tr_int hx, tr_int hy]; exact run_equalIn_int w D t _ _ _ _ hu
      · rename_i hu; injection e with e; subst e
        rw [tr_str hx, tr_str hy, run_equalIn_string w D t _ _ hu]; simp
      · rename_i hu; injection e with e; subst e
        simp [AV.tr] at hx hy; subst hx hy; simp [Op.equalIn, run_underlying hu]
      · rename_i hu; injection e with e; subst e
        obtain ⟨p, _, rfl⟩ := tr_ptr hy
        simp [AV.tr] at hx; subst hx; simp [Op.equalIn, run_underlying hu]
      · rename_i hu; injection e with e; subst e
        obtain ⟨p, _, rfl⟩ := tr_ptr hx
        simp [AV.tr] at hy; subst hy; simp [Op.equalIn, run_underlying hu]
      · rename_i hu
        split at e
        case h_2 => cases e
        rename_i n hs
        obtain ⟨p, hp, rfl⟩ := tr_ptr hx
        obtain ⟨p', hp', rfl⟩ := tr_ptr hy
        have := hr.sameAddr (P := P) hp hp' e
        simp [Op.equalIn, run_underlying hu, size_run hs, this]
      · rename_i hu; injection e with e; subst e
        simp [AV.tr] at hx hy; subst hx hy; simp [Op.equalIn, run_underlying hu]
      · rename_i hu; injection e with e; subst e
        obtain ⟨p, _, rfl⟩ := tr_iface hy
        simp [AV.tr] at hx; subst hx; simp [Op.equalIn, run_underlying hu]
      · rename_i hu; injection e with e; subst e
        obtain ⟨p, _, rfl⟩ := tr_iface hx
        simp [AV.tr] at hy; subst hy; simp [Op.equalIn, run_underlying hu]
      · split at e
        case isTrue => cases e
        rename_i fs xs ys hu hs
        obtain ⟨l, hl, rfl⟩ := tr_agg hx
        obtain ⟨l', hl', rfl⟩ := tr_agg hy
        have hf : P.fieldsOf t = fs := by unfold Program.fieldsOf; rw [hu]
        rw [run_equalIn_struct w D t _ _ (by rw [hf]; exact hu) (by simpa using hs), hf]
        exact ih2 _ _ _ _ _ _ _ e (by omega) hl hl'
      · rename_i hu; injection e with e; subst e
        simp [AV.tr] at hx hy; subst hx hy; simp [Op.equalIn, run_underlying hu]
      · rename_i hu; injection e with e; subst e
        obtain ⟨p, _, rfl⟩ := tr_slice hy
        simp [AV.tr] at hx; subst hx; simp [Op.equalIn, run_underlying hu]
      · rename_i hu; injection e with e; subst e
        obtain ⟨p, _, rfl⟩ := tr_slice hx
        simp [AV.tr] at hy; subst hy; simp [Op.equalIn, run_underlying hu]
      · rename_i hu; injection e with e; subst e
        obtain ⟨p, _, rfl⟩ := tr_slice0 hy
        simp [AV.tr] at hx; subst hx; simp [Op.equalIn, run_underlying hu]
      · rename_i hu; injection e with e; subst e
        obtain ⟨p, _, rfl⟩ := tr_slice0 hx
        simp [AV.tr] at hy; subst hy; simp [Op.equalIn, run_underlying hu]
      · rename_i hu; injection e with e; subst e
        simp [AV.tr] at hx hy; subst hx hy; simp [Op.equalIn, run_underlying hu]
      · rename_i hu; injection e with e; subst e
        obtain ⟨p, _, rfl⟩ := tr_map hy
        simp [AV.tr] at hx; subst hx; simp [Op.equalIn, run_underlying hu]
      · rename_i hu; injection e with e; subst e
        obtain ⟨p, _, rfl⟩ := tr_map hx
        simp [AV.tr] at hy; subst hy; simp [Op.equalIn, run_underlying hu]
      · rename_i hu; injection e with e; subst e
        simp [AV.tr] at hx hy; subst hx hy; simp [Op.equalIn, run_underlying hu]
      · rename_i hu; injection e with e; subst e
        obtain ⟨p, _, _, _, rfl, _⟩ := tr_fn hy
        simp [AV.tr] at hx; subst hx; simp [Op.equalIn, run_underlying hu]
      · rename_i hu; injection e with e; subst e
        obtain ⟨p, _, _, _, rfl, _⟩ := tr_fn hx
        simp [AV.tr] at hy; subst hy; simp [Op.equalIn, run_underlying hu]
      · cases e
    · intro fs xs ys r D xs' ys' e hD hx hy
      cases fs with
      | nil => simp [eqFields] at e; subst e; simp [Op.eqFields]
      | cons f fs =>
        simp only [eqFields] at e
        split at e
        · rename_i hn
          split at e
          case h_2 => cases e
          rename_i a b ha hb
          obtain ⟨a', ha', hra⟩ := part_run (P := P) (w := w) hx ha
          obtain ⟨b', hb', hrb⟩ := part_run (P := P) (w := w) hy hb
          split at e
          · rename_i he
            have h1 := ih1 _ _ _ _ D _ _ he (by omega) ha' hb'
            have h2 := ih2 _ _ _ _ D _ _ e (by omega) hx hy
            simp [Op.eqFields, hn, hra, hrb, h1, h2]
          · rename_i he
            have h1 := ih1 _ _ _ _ D _ _ he (by omega) ha' hb'
            injection e with e; subst e
            simp [Op.eqFields, hn, hra, hrb, h1]
          · cases e
        · rename_i hn
          have h2 := ih2 _ _ _ _ D _ _ e (by omega) hx hy
          simp only [Op.eqFields, if_neg hn]; exact h2

theorem eqGuard_other (op : BinOp) (t : TypeId) (x y : Operand) (a b : Value) (h1 : ¬ (a = .nilIface ∧ b = .nilIface)) (h2 : ∀ xs ys, ¬ (a = .agg xs ∧ b = .agg ys)) :
    (eqGuard op t x y a b).run P w = .ok () w := by
  unfold eqGuard
  cases a <;> cases b <;> first
    | exact absurd ⟨rfl, rfl⟩ h1
    | exact absurd ⟨rfl, rfl⟩ (h2 _ _)
    | (cases op <;> simp)

theorem eqA_dummy : True := trivial

theorem eqA_symL (d : Nat) (t : TypeId) (i : Nat) (y : AV) : eqA P h d t (.sym i) y = none := by
  cases d with
  | zero => rfl
  | succ d => unfold eqA; split <;> first | rfl | contradiction

theorem tr_nili {a : AV} (e : a.tr M = some .nilIface) : a = .nili ∨ ∃ i, a = .sym i := by
  cases a with
  | nili => exact .inl rfl
  | sym i => exact .inr ⟨i, rfl⟩
  | ptr => obtain ⟨_, _, h⟩ := tr_ptr e; cases h
  | slice => obtain ⟨_, _, h⟩ := tr_slice e; cases h
  | slice0 => obtain ⟨_, _, h⟩ := tr_slice0 e; cases h
  | sliceS => obtain ⟨_, _, _, _, h⟩ := tr_sliceS e; cases h
  | map => obtain ⟨_, _, h⟩ := tr_map e; cases h
  | yld => obtain ⟨_, _, h⟩ := tr_yld e; cases h
  | fn => obtain ⟨_, _, _, _, h, _⟩ := tr_fn e; cases h
  | iface => obtain ⟨_, _, h⟩ := tr_iface e; cases h
  | agg => obtain ⟨_, _, h⟩ := tr_agg e; cases h
  | tuple => obtain ⟨_, _, h⟩ := tr_tuple e; cases h
  | _ => simp [AV.tr] at e

theorem tr_isAgg {a : AV} {cs : Array Value} (hy : ∀ i x, M.env i = some x → isCell x = true) (e : a.tr M = some (.agg cs)) : ∃ l, a = .agg l := by
  cases a with
  | agg l => exact ⟨l, rfl⟩
  | sym i => simp only [AV.tr] at e; have := hy i _ e; cases this
  | ptr => obtain ⟨_, _, h⟩ := tr_ptr e; cases h
  | slice => obtain ⟨_, _, h⟩ := tr_slice e; cases h
  | slice0 => obtain ⟨_, _, h⟩ := tr_slice0 e; cases h
  | sliceS => obtain ⟨_, _, _, _, h⟩ := tr_sliceS e; cases h
  | map => obtain ⟨_, _, h⟩ := tr_map e; cases h
  | yld => obtain ⟨_, _, h⟩ := tr_yld e; cases h
  | fn => obtain ⟨_, _, _, _, h, _⟩ := tr_fn e; cases h
  | iface => obtain ⟨_, _, h⟩ := tr_iface e; cases h
  | tuple => obtain ⟨_, _, h⟩ := tr_tuple e; cases h
  | _ => simp [AV.tr] at e

theorem eqlA_run (hr : HRel B w0 M h w) {t : TypeId} {a b : AV} {r : Bool} (e : eqlA P h t a b = some r) {a' b' : Value} (ha : a.tr M = some a') (hb : b.tr M = some b') :
    (Op.equalIn 10000 t a' b').run P w = .ok r w ∧ ∀ op x y, (eqGuard op t x y a' b').run P w = .ok () w := by
  unfold eqlA at e
  split at e
  · split at e
    · cases e
    · rename_i hg
      obtain ⟨l, hl, rfl⟩ := tr_agg ha
      obtain ⟨l', hl', rfl⟩ := tr_agg hb
      exact ⟨(eq_run hr 200).1 _ _ _ _ 10000 _ _ e (by omega) ha hb, fun op x y => run_eqGuard_agg w op t x y _ _ hg⟩
  · cases e
  · rename_i h1 h2
    refine ⟨(eq_run hr 1).1 _ _ _ _ 10000 _ _ e (by omega) ha hb, fun op x y => ?_⟩
    refine eqGuard_other op t x y a' b' ?_ ?_
    · rintro ⟨rfl, rfl⟩
      rcases tr_nili ha with rfl | ⟨i, rfl⟩
      · rcases tr_nili hb with rfl | ⟨i, rfl⟩
        · exact h2 rfl rfl
        · have : eqA P h 1 t .nili (.sym i) = none := by unfold eqA; split <;> first | rfl | contradiction
          rw [this] at e; cases e
      · rw [eqA_symL] at e; cases e
    · rintro xs ys ⟨rfl, rfl⟩
      obtain ⟨l, rfl⟩ := tr_isAgg hr.env ha
      obtain ⟨l', rfl⟩ := tr_isAgg hr.env hb
      exact h1 l l' rfl rfl

theorem run_eql {t : TypeId} {a b : Value} {r : Bool} (hi : ∀ k n j m, ¬ (a = .int k n ∧ b = .int j m)) (hs : ∀ s s', ¬ (a = .string s ∧ b = .string s')) (hf : ∀ k n j m, ¬ (a = .float k n ∧ b = .float j m))
    (hc : ∀ k n n' j m m', ¬ (a = .complex k n n' ∧ b = .complex j m m')) (e : (Op.equalIn 10000 t a b).run P w = .ok r w) :
    (binOp .eql t a b).run P w = .ok (.bool r) w ∧ (binOp .neq t a b).run P w = .ok (.bool !r) w := by
  have e' : (Op.equal t a b).run P w = .ok r w := e
  cases a <;> cases b <;> first
    | exact absurd ⟨rfl, rfl⟩ (hi _ _ _ _)
    | exact absurd ⟨rfl, rfl⟩ (hs _ _)
    | exact absurd ⟨rfl, rfl⟩ (hf _ _ _ _)
    | exact absurd ⟨rfl, rfl⟩ (hc _ _ _ _ _ _)
    | (refine ⟨?_, ?_⟩ <;> simp [binOp, e'])

def isNum : Value → Bool
  | .int .. | .string _ | .float .. | .complex .. => true
  | _ => false

theorem tr_num {a : AV} {v : Value} (hv : isNum v = true) (e : a.tr M = some v) : (∃ k n, a = .int k n) ∨ (∃ s, a = .str s) ∨ ∃ i, a = .sym i := by
  cases a with
  | int k n => exact .inl ⟨k, n, rfl⟩
  | str s => exact .inr (.inl ⟨s, rfl⟩)
  | sym i => exact .inr (.inr ⟨i, rfl⟩)
  | ptr => obtain ⟨_, _, h⟩ := tr_ptr e; subst h; cases hv
  | slice => obtain ⟨_, _, h⟩ := tr_slice e; subst h; cases hv
  | slice0 => obtain ⟨_, _, h⟩ := tr_slice0 e; subst h; cases hv
  | sliceS => obtain ⟨_, _, _, _, h⟩ := tr_sliceS e; subst h; cases hv
  | map => obtain ⟨_, _, h⟩ := tr_map e; subst h; cases hv
  | yld => obtain ⟨_, _, h⟩ := tr_yld e; subst h; cases hv
  | fn => obtain ⟨_, _, _, _, h, _⟩ := tr_fn e; subst h; cases hv
  | iface => obtain ⟨_, _, h⟩ := tr_iface e; subst h; cases hv
  | agg => obtain ⟨_, _, h⟩ := tr_agg e; subst h; cases hv
  | tuple => obtain ⟨_, _, h⟩ := tr_tuple e; subst h; cases hv
  | _ => simp [AV.tr] at e; subst e; cases hv

theorem eqlA_symL {t : TypeId} {i : Nat} {b : AV} : eqlA P h t (.sym i) b = none := by
  unfold eqlA; split
  · contradiction
  · contradiction
  · exact eqA_symL _ _ _ _

theorem bin_reads (hr : HRel B w0 M h w) {ρ : Env} {ρ' : Operand → Value} {op : BinOp} {t yt : TypeId} {x y : Operand} {v : AV} (hρ : EnvRel M ρ ρ' (Op.binOp op t x y yt).operands) (e : bin2A P h op t (ρ x) (ρ y) = some v) :
    Reads P M w ρ' (.binOp op t x y yt) v := by
  unfold bin2A at e
  split at e
  case h_2 => cases e
  rename_i a ha
  split at e
  case h_2 => cases e
  rename_i b hb
  have ta := hρ x (by simp [Op.operands]) _ ha
  have tb := hρ y (by simp [Op.operands]) _ hb
  have done : ∀ z, v.tr M = some z → (eqGuard op t x y (ρ' x) (ρ' y)).run P w = .ok () w → (binOp op t (ρ' x) (ρ' y)).run P w = .ok z w → Reads P M w ρ' (.binOp op t x y yt) v := by
    intro z hz hg hrun
    refine ⟨z, hz, ?_⟩
    rintro ⟨dst, op', ty, pos, after, guard⟩ rfl
    simp [execOp, hg, hrun]
  have ints : ∀ k n k' n' u, ρ' x = .int k n → ρ' y = .int k' n' → binInt op k n k' n' = some u → ∃ z, u.tr M = some z ∧ (eqGuard op t x y (ρ' x) (ρ' y)).run P w = .ok () w ∧ (binOp op t (ρ' x) (ρ' y)).run P w = .ok z w := by
    intro k n k' n' u h1 h2 e
    have hg : ∀ op, (eqGuard op t x y (ρ' x) (ρ' y)).run P w = .ok () w := fun op => by
      rw [h1, h2]; exact eqGuard_other op t x y _ _ (by simp) (by simp)
    unfold binInt at e
    split at e
    · obtain ⟨z, hz, hrun⟩ := shift_run (M := M) (w := w) (P := P) (yk := k') e
      exact ⟨z, hz, hg _, by rw [h1, h2]; exact hrun⟩
    · obtain ⟨z, hz, hrun⟩ := shift_run (M := M) (w := w) (P := P) (yk := k') e
      exact ⟨z, hz, hg _, by rw [h1, h2]; exact hrun⟩
    · rename_i n1 n2
      split at e
      case isFalse => cases e
      rename_i hk; subst hk
      obtain ⟨z, hz, hrun⟩ := int_run (M := M) (w := w) (P := P) ⟨fun hh => n1 hh, fun hh => n2 hh⟩ t e
      exact ⟨z, hz, hg _, by rw [h1, h2]; exact hrun⟩
  have opened : findBin op a b h.facts = some v → Reads P M w ρ' (.binOp op t x y yt) v := by
    intro hf
    obtain ⟨k, n, k', n', u, z, f1, f2, f3, f4, f5⟩ := findBin_sound hr.facts hf
    have g1 := numOf_tr f1
    have g2 := numOf_tr f2
    rw [ta] at g1; rw [tb] at g2
    injection g1 with g1; injection g2 with g2
    obtain ⟨z', hz', hg, hrun⟩ := ints k n k' n' u g1 g2 f3
    have := atomVal_tr f4
    rw [hz'] at this; injection this with this; subst this
    exact done z' (atomVal_tr f5) hg hrun
  unfold binA at e
  split at e
  · rename_i k n
    have h1 := tr_int ta
    split at e
    · rename_i k' n'
      obtain ⟨z, hz, hg, hrun⟩ := ints k n k' n' v h1 (tr_int tb) e
      exact done z hz hg hrun
    · exact opened e
    · cases e
  · exact opened e
  · rename_i s
    have h1 := tr_str ta
    split at e
    case h_2 => cases e
    rename_i s'
    have h2 := tr_str tb
    obtain ⟨z, hz, hrun⟩ := str_run (M := M) (w := w) (P := P) t e
    exact done z hz (by rw [h1, h2]; exact eqGuard_other op t x y _ _ (by simp) (by simp)) (by rw [h1, h2]; exact hrun)
  · rename_i ni nsy ns
    have key : ∀ r, eqlA P h t a b = some r → (eqGuard op t x y (ρ' x) (ρ' y)).run P w = .ok () w ∧ (binOp .eql t (ρ' x) (ρ' y)).run P w = .ok (.bool r) w ∧ (binOp .neq t (ρ' x) (ρ' y)).run P w = .ok (.bool !r) w := by
      intro r hq
      obtain ⟨h1, h2⟩ := eqlA_run hr hq ta tb
      refine ⟨h2 op x y, run_eql ?_ ?_ ?_ ?_ h1⟩
      all_goals
        intros
        rintro ⟨e1, e2⟩
        rcases tr_num (by rw [e1]; rfl) ta with ⟨k, n, rfl⟩ | ⟨s, rfl⟩ | ⟨i, rfl⟩
        · exact ni _ _ rfl
        · exact ns _ rfl
        · exact nsy _ rfl
    split at e
    · unfold asB at e
      split at e
      · rename_i r hq; injection e with e; subst e
        obtain ⟨g1, g2, _⟩ := key r hq
        exact done _ rfl g1 g2
      · cases e
    · unfold asNB at e
      split at e
      · rename_i r hq; injection e with e; subst e
        obtain ⟨g1, _, g3⟩ := key r hq
        exact done _ rfl g1 g3
      · cases e
    · cases e

end Go.AM
