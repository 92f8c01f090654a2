/- Slice expressions. Nothing is assumed. -/
import Derived.Test.YtdllplhkcllgfaaGreatAmI
namespace Go.AM

variable {B : Nat → Prop} {w0 : World} {M : Mp} {h : H} {w : World} {P : Program}

def OptRel (M : Mp) : Option AV → Option Value → Prop
  | none, none => True
  | some a, some x => a.tr M = some x
  | _, _ => False

theorem bound_spec {x : AV} {most i : Nat} (e : boundA x most = some i) : ∃ k, x = .int k (.ofNat i) ∧ i ≤ most := by
  unfold boundA at e
  split at e
  · split at e
    · rename_i hb; injection e with e; subst e; exact ⟨_, rfl, by simpa using hb⟩
    · cases e
  · cases e

theorem bound_run {x : AV} {x' : Value} {most i y : Nat} {code : BoundsCode} (e : boundA x most = some i) (hx : x.tr M = some x') (hy : most ≤ y) :
    (Instr.sliceBound x' y code).run P w = .ok i w := by
  obtain ⟨k, rfl, hi⟩ := bound_spec e
  have := tr_int hx; subst this
  have h1 : (i : Int) ≤ (y : Int) := by omega
  simp [Instr.sliceBound, asIntOf, h1]

theorem bounds_run {isS : Bool} {len capC least l hh : Nat} {cap m : Option Nat} {lo hi mx : Option AV} {lo' hi' mx' : Option Value} (e : boundsA len cap least lo hi mx = some (l, hh, m))
    (hc : cap.getD least ≤ capC) (hc' : ∀ c, cap = some c → capC = c) (h1 : OptRel M lo lo') (h2 : OptRel M hi hi') (h3 : OptRel M mx mx') :
    (Instr.sliceBounds isS len capC lo' hi' mx').run P w = .ok (l, hh, m.getD capC) w ∧ l ≤ hh ∧ (hh ≤ len ∨ hh ≤ cap.getD least) ∧ (mx = none → m = cap) ∧ (∀ n, m = some n → n ≤ capC) := by
  unfold boundsA at e
  cases mx with
  | some mv =>
    cases hi with
    | none => simp at e
    | some hv =>
      cases mx' with
      | none => exact h3.elim
      | some mv' =>
      cases hi' with
      | none => exact h2.elim
      | some hv' =>
        simp only at e
        split at e
        case h_2 => cases e
        rename_i m1 hm
        split at e
        case h_2 => cases e
        rename_i hh1 hh2
        have r1 := bound_run (P := P) (w := w) (y := capC) (code := if isS then .slice3Acap else .slice3Alen) hm h3 hc
        have r2 := bound_run (P := P) (w := w) (y := m1) (code := .slice3B) hh2 h2 (Nat.le_refl _)
        obtain ⟨_, _, b1⟩ := bound_spec hm
        obtain ⟨_, _, b2⟩ := bound_spec hh2
        cases lo with
        | none =>
          cases lo' with
          | some _ => exact h1.elim
          | none =>
            simp only at e
            injection e with e; injection e with e1 e2; injection e2 with e2 e3; subst e1 e2 e3
            exact ⟨by simp [Instr.sliceBounds, r1, r2], by omega, by omega, (by intro h; cases h), fun n hn => by cases hn; omega⟩
        | some lv =>
          cases lo' with
          | none => exact h1.elim
          | some lv' =>
            simp only at e
            split at e
            case h_2 => cases e
            rename_i l1 hl1
            injection e with e; injection e with e1 e2; injection e2 with e2 e3; subst e1 e2 e3
            have r3 := bound_run (P := P) (w := w) (y := hh1) (code := .slice3C) hl1 h1 (Nat.le_refl _)
            obtain ⟨_, _, b3⟩ := bound_spec hl1
            exact ⟨by simp [Instr.sliceBounds, r1, r2, r3], by omega, by omega, (by intro h; cases h), fun n hn => by cases hn; omega⟩
  | none =>
    cases mx' with
    | some _ => exact h3.elim
    | none =>
    cases hi with
    | some hv =>
      cases hi' with
      | none => exact h2.elim
      | some hv' =>
        simp only at e
        split at e
        case h_2 => cases e
        rename_i hh1 hh2
        have r2 := bound_run (P := P) (w := w) (y := capC) (code := if isS then .sliceAcap else .sliceAlen) hh2 h2 hc
        obtain ⟨_, _, b2⟩ := bound_spec hh2
        have hmc : cap.getD capC = capC := by cases cap with | none => rfl | some c => exact (hc' c rfl).symm
        cases lo with
        | none =>
          cases lo' with
          | some _ => exact h1.elim
          | none =>
            simp only at e
            injection e with e; injection e with e1 e2; injection e2 with e2 e3; subst e1 e2 e3
            exact ⟨by simp [Instr.sliceBounds, r2, hmc], by omega, by omega, (fun _ => rfl), fun n hn => by have := hc' n hn; omega⟩
        | some lv =>
          cases lo' with
          | none => exact h1.elim
          | some lv' =>
            simp only at e
            split at e
            case h_2 => cases e
            rename_i l1 hl1
            injection e with e; injection e with e1 e2; injection e2 with e2 e3; subst e1 e2 e3
            have r3 := bound_run (P := P) (w := w) (y := hh1) (code := .sliceB) hl1 h1 (Nat.le_refl _)
            obtain ⟨_, _, b3⟩ := bound_spec hl1
            exact ⟨by simp [Instr.sliceBounds, r2, r3, hmc], by omega, by omega, (fun _ => rfl), fun n hn => by have := hc' n hn; omega⟩
    | none =>
      cases hi' with
      | some _ => exact h2.elim
      | none =>
        have hmc : cap.getD capC = capC := by cases cap with | none => rfl | some c => exact (hc' c rfl).symm
        cases lo with
        | none =>
          cases lo' with
          | some _ => exact h1.elim
          | none =>
            simp only at e
            injection e with e; injection e with e1 e2; injection e2 with e2 e3; subst e1 e2 e3
            exact ⟨by simp [Instr.sliceBounds, hmc], by omega, by omega, (fun _ => rfl), fun n hn => by have := hc' n hn; omega⟩
        | some lv =>
          cases lo' with
          | none => exact h1.elim
          | some lv' =>
            simp only at e
            split at e
            case h_2 => cases e
            rename_i l1 hl1
            injection e with e; injection e with e1 e2; injection e2 with e2 e3; subst e1 e2 e3
            have r3 := bound_run (P := P) (w := w) (y := len) (code := .sliceB) hl1 h1 (Nat.le_refl _)
            obtain ⟨_, _, b3⟩ := bound_spec hl1
            exact ⟨by simp [Instr.sliceBounds, r3, hmc], by omega, by omega, (fun _ => rfl), fun n hn => by have := hc' n hn; omega⟩

theorem sure_spec (hr : HRel B w0 M h w) {b off offE len size : Nat} {p : Place} (hs : sureCap h b off offE len size = true) (hp : M.at_ b = some p) :
    ∃ cs fz, h.get b = some (.cells cs (some size) fz) ∧ 0 < size ∧ off = offE * size ∧ off + len * size ≤ cs.length ∧ offE + len ≤ p.cap ∧
      offE + knownCap h b off size ≤ p.cap ∧ len ≤ knownCap h b off size ∧ cs.length ≤ p.cap * size := by
  unfold sureCap at hs
  split at hs
  case h_2 => cases hs
  rename_i cs es fz hb
  simp only [Bool.and_eq_true, beq_iff_eq, decide_eq_true_eq] at hs
  obtain ⟨⟨⟨rfl, h0⟩, rfl⟩, hl⟩ := hs
  obtain ⟨ob, ho, c, e, fr, rfl, _, ht, _⟩ := hr.obj b _ p hb hp
  obtain ⟨ht1, ht2⟩ := ht
  simp only at ht2
  have hcs : cs.length ≤ p.cap * es := by omega
  refine ⟨cs, fz, hb, h0, rfl, hl, ?_, ?_, ?_, hcs⟩
  · rw [← Nat.add_mul] at hl
    exact Nat.le_of_mul_le_mul_right (Nat.le_trans hl hcs) h0
  · unfold knownCap; rw [hb]
    have h2 : (cs.length - offE * es) / es * es ≤ cs.length - offE * es := Nat.div_mul_le_self _ _
    have h3 : offE * es ≤ cs.length := by omega
    have h4 : (offE + (cs.length - offE * es) / es) * es ≤ p.cap * es := by rw [Nat.add_mul]; omega
    exact Nat.le_of_mul_le_mul_right h4 h0
  · unfold knownCap; rw [hb]
    rw [Nat.le_div_iff_mul_le h0]; omega

theorem cutNone_spec {lo hi mx : Option AV} (e : cutNone lo hi mx = true) : (∃ k, mx = some (.int k 0)) ∧ (∃ k, hi = some (.int k 0)) ∧ (lo = none ∨ ∃ k, lo = some (.int k 0)) := by
  unfold cutNone at e
  simp only [Bool.and_eq_true] at e
  obtain ⟨⟨e1, e2⟩, e3⟩ := e
  refine ⟨?_, ?_, ?_⟩
  · split at e1
    · simp at e1; subst e1; exact ⟨_, rfl⟩
    · cases e1
  · split at e2
    · simp at e2; subst e2; exact ⟨_, rfl⟩
    · cases e2
  · split at e3
    · simp at e3; subst e3; exact .inr ⟨_, rfl⟩
    · exact .inl rfl
    · cases e3

theorem cutNone_run {isS : Bool} {len capC : Nat} {lo hi mx : Option AV} {lo' hi' mx' : Option Value} (e : cutNone lo hi mx = true) (h1 : OptRel M lo lo') (h2 : OptRel M hi hi') (h3 : OptRel M mx mx') :
    (Instr.sliceBounds isS len capC lo' hi' mx').run P w = .ok (0, 0, 0) w := by
  obtain ⟨⟨k1, rfl⟩, ⟨k2, rfl⟩, h4⟩ := cutNone_spec e
  cases mx' with
  | none => exact h3.elim
  | some m => cases hi' with
    | none => exact h2.elim
    | some v =>
      have := tr_int h3; subst this
      have := tr_int h2; subst this
      rcases h4 with rfl | ⟨k3, rfl⟩
      · cases lo' with
        | some _ => exact h1.elim
        | none => simp [Instr.sliceBounds, Instr.sliceBound, asIntOf]
      · cases lo' with
        | none => exact h1.elim
        | some v => have := tr_int h1; subst this; simp [Instr.sliceBounds, Instr.sliceBound, asIntOf]

theorem slice_run (hr : HRel B w0 M h w) {t : TypeId} {x v : AV} {x' : Value} {lo hi mx : Option AV} {lo' hi' mx' : Option Value} (e : sliceA P h t x lo hi mx = some v) (hx : x.tr M = some x')
    (h1 : OptRel M lo lo') (h2 : OptRel M hi hi') (h3 : OptRel M mx mx') : ∃ y, v.tr M = some y ∧ (Instr.sliceAt t x' lo' hi' mx').run P w = .ok y w := by
  unfold sliceA at e
  split at e
  · rename_i n elem b off hu
    obtain ⟨p, hp, rfl⟩ := tr_ptr hx
    split at e
    case h_2 => cases e
    rename_i l hh m size hb hs
    injection e with e; subst e
    obtain ⟨r, hl, _⟩ := bounds_run (P := P) (w := w) (isS := false) (capC := n) hb (by simp) (by simp) h1 h2 h3
    refine ⟨_, by simp [AV.tr, hp]; rfl, ?_⟩
    simp only [Instr.sliceAt, Sem.run_bind, run_underlying hu, Result.andThen_ok, Instr.sureAddr, Sem.run_pure, r, size_run hs, Option.getD_some]
    split <;> simp [add_plain, Nat.add_assoc]
  · rename_i s hu
    have := tr_str hx; subst this
    split at e
    case h_1 => cases e
    cases mx' with
    | some _ => exact h3.elim
    | none =>
      split at e
      case h_2 => cases e
      rename_i l hh m hb
      injection e with e; subst e
      obtain ⟨r, hl, _⟩ := bounds_run (P := P) (w := w) (isS := false) (capC := s.length) hb (by simp) (by simp) h1 h2 (mx' := none) trivial
      refine ⟨.string ((⟨s.toArray⟩ : ByteArray).extract l hh), ?_, ?_⟩
      · simp only [AV.tr, Option.some.injEq, Value.string.injEq]
        apply ByteArray.ext
        rw [ByteArray.data_extract]
        simp [List.extract_eq_take_drop]
      · have hsz : (⟨s.toArray⟩ : ByteArray).size = s.length := by simp [ByteArray.size]
        simp [Instr.sliceAt, Instr.slice, run_underlying hu, hsz, r]
  · rename_i elem hu
    split at e
    case h_2 => cases e
    rename_i q size hb hs
    obtain ⟨l, hh, m⟩ := q
    injection e with e; subst e
    simp [AV.tr] at hx; subst hx
    obtain ⟨r, hl, hle, hm1, hm2⟩ := bounds_run (P := P) (w := w) (isS := true) (capC := 0) hb (by simp) (by simp) h1 h2 h3
    have hh0 : hh = 0 := by rcases hle with h | h <;> simp at h <;> exact h
    have hl0 : l = 0 := by omega
    have hm0 : m.getD 0 = 0 := by
      cases m with
      | none => rfl
      | some n => have := hm2 n rfl; simp; omega
    subst hh0 hl0
    rw [hm0] at r
    refine ⟨_, rfl, ?_⟩
    simp [Instr.sliceAt, Instr.slice, run_underlying hu, r, size_run hs]
  · rename_i elem b off offE len c hu
    obtain ⟨p, hp, rfl⟩ := tr_slice hx
    split at e
    case h_2 => cases e
    rename_i l hh m size hb hs
    injection e with e; subst e
    obtain ⟨r, hl, _⟩ := bounds_run (P := P) (w := w) (isS := true) (capC := c) hb (by simp) (by simp) h1 h2 h3
    refine ⟨_, by simp [AV.tr, hp]; rfl, ?_⟩
    simp only [Instr.sliceAt, Instr.slice, Sem.run_bind, run_underlying hu, Result.andThen_ok, Sem.run_pure, Option.getD_some, r, size_run hs]
    split <;> simp [add_plain, Nat.add_assoc]
  · rename_i elem b off offE len hu
    obtain ⟨p, hp, rfl⟩ := tr_slice hx
    split at e
    case h_2 => cases e
    rename_i size hs
    split at e
    · rename_i hsure
      obtain ⟨cs, fz, hb, h0, ho, hl0, hcl, hck, hlk, hcs⟩ := sure_spec hr hsure hp
      split at e
      · rename_i l hh m hbd
        injection e with e; subst e
        obtain ⟨r, hl, _⟩ := bounds_run (P := P) (w := w) (isS := true) (capC := p.cap - offE) hbd (by simp; omega) (by simp) h1 h2 h3
        refine ⟨_, by simp [AV.tr, hp]; rfl, ?_⟩
        simp only [Instr.sliceAt, Instr.slice, Sem.run_bind, run_underlying hu, Result.andThen_ok, Sem.run_pure, Option.getD_some, Option.getD_none, r, size_run hs]
        split <;> simp [add_plain, Nat.add_assoc]
      · rename_i l hh hbd
        obtain ⟨r, hl, hle, _⟩ := bounds_run (P := P) (w := w) (isS := true) (capC := p.cap - offE) hbd (by simp; omega) (by simp) h1 h2 h3
        simp only [Option.getD_none] at r hle
        split at e
        · rename_i hz; subst hz
          injection e with e; subst e
          refine ⟨_, by simp [AV.tr, hp]; rfl, ?_⟩
          simp only [Instr.sliceAt, Instr.slice, Sem.run_bind, run_underlying hu, Result.andThen_ok, Sem.run_pure, Option.getD_none, r, size_run hs]
          split <;> simp [add_plain]
        · rename_i hz
          split at e
          · rename_i hlt
            injection e with e; subst e
            refine ⟨_, by simp [AV.tr, hp]; rfl, ?_⟩
            simp only [Instr.sliceAt, Instr.slice, Sem.run_bind, run_underlying hu, Result.andThen_ok, Sem.run_pure, Option.getD_none, r, size_run hs]
            rw [if_neg (by omega)]
            simp [add_plain, Nat.add_assoc]; omega
          · rename_i hlt
            injection e with e; subst e
            have hlh : hh - l = 0 := by rcases hle with h | h <;> omega
            refine ⟨_, by simp [AV.tr, hp]; rfl, ?_⟩
            simp only [Instr.sliceAt, Instr.slice, Sem.run_bind, run_underlying hu, Result.andThen_ok, Sem.run_pure, Option.getD_none, r, size_run hs, hlh]
            by_cases hq : p.cap - offE = l
            · simp [hq]
            · simp [hq, add_plain, Nat.add_assoc]
      · cases e
    · split at e
      case isFalse => cases e
      rename_i hcn
      injection e with e; subst e
      have r := cutNone_run (P := P) (w := w) (isS := true) (len := len) (capC := p.cap - offE) hcn h1 h2 h3
      refine ⟨_, by simp [AV.tr, hp]; rfl, ?_⟩
      simp [Instr.sliceAt, Instr.slice, run_underlying hu, r, size_run hs]
  · rename_i elem b off offE l sz z hu
    obtain ⟨p, hp, rfl⟩ := tr_slice0 hx
    split at e
    case h_2 => cases e
    rename_i size hs
    split at e
    · rename_i hcn
      injection e with e; subst e
      have r := cutNone_run (P := P) (w := w) (isS := true) (len := 0) (capC := if z then 0 else p.cap - offE - l) hcn h1 h2 h3
      refine ⟨_, by simp [AV.tr, hp]; rfl, ?_⟩
      simp [Instr.sliceAt, Instr.slice, run_underlying hu, r, size_run hs]
    · generalize hb : boundsA 0 none 0 lo hi none = bd at e
      cases bd with
      | none => cases e
      | some q =>
      cases mx with
      | some _ => cases e
      | none =>
      obtain ⟨l1, hh, m⟩ := q
      injection e with e; subst e
      cases mx' with
      | some _ => exact h3.elim
      | none =>
        obtain ⟨r, hl, hle, hm, _⟩ := bounds_run (P := P) (w := w) (isS := true) (capC := if z then 0 else p.cap - offE - l) hb (by simp) (by simp) h1 h2 (mx' := none) trivial
        have := hm rfl; subst this
        have hh0 : hh = 0 := by rcases hle with h | h <;> simp at h <;> exact h
        have hl0 : l1 = 0 := by omega
        subst hh0 hl0
        refine ⟨_, by simp [AV.tr, hp]; rfl, ?_⟩
        simp only [Option.getD_none] at r
        simp only [Instr.sliceAt, Instr.slice, Sem.run_bind, run_underlying hu, Result.andThen_ok, Sem.run_pure, r, size_run hs]
        split <;> simp [add_plain]
  · cases e

theorem opt_rel {ρ : Env} {ρ' : Operand → Value} {x : Option Operand} {a : Option AV} (hρ : ∀ y, x = some y → ∀ b, ρ y = some b → b.tr M = some (ρ' y)) (e : optO ρ x = some a) : OptRel M a (x.map ρ') := by
  unfold optO at e
  split at e
  · injection e with e; subst e; trivial
  · split at e
    · rename_i hy; injection e with e; subst e; exact hρ _ rfl _ hy
    · cases e

theorem slice_reads (hr : HRel B w0 M h w) {ρ : Env} {ρ' : Operand → Value} {t : TypeId} {x : Operand} {lo hi mx : Option Operand} {v : AV} (hρ : EnvRel M ρ ρ' (Op.slice t x lo hi mx).operands) (e : slice4A P h ρ t x lo hi mx = some v) :
    Reads P M w ρ' (.slice t x lo hi mx) v := by
  unfold slice4A at e
  split at e
  case h_2 => cases e
  rename_i a ha
  split at e
  case h_2 => cases e
  rename_i lo1 h1
  split at e
  case h_2 => cases e
  rename_i hi1 h2
  split at e
  case h_2 => cases e
  rename_i mx1 h3
  obtain ⟨y, hy, hrun⟩ := slice_run (P := P) hr e (hρ x (by simp [Op.operands]) _ ha)
    (opt_rel (fun y hy => hρ y (by subst hy; simp [Op.operands])) h1) (opt_rel (fun y hy => hρ y (by subst hy; simp [Op.operands])) h2) (opt_rel (fun y hy => hρ y (by subst hy; simp [Op.operands])) h3)
  refine ⟨y, hy, ?_⟩
  rintro ⟨dst, op, ty, pos, after, guard⟩ rfl
  simp [execOp, hrun]
end Go.AM
