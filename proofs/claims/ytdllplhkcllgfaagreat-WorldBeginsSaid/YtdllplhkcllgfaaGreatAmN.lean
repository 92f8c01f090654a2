/- All reading operations; all making ones. Nothing is assumed. -/
import Derived.Test.YtdllplhkcllgfaaGreatAmL
namespace Go.AM

variable {B : Nat → Prop} {w0 : World} {M : Mp} {h : H} {w : World} {P : Program}

theorem execBuiltin {ρ' : Operand → Value} {b : Builtin} {args : Array Operand} {argTypes : Array TypeId} (o : Oper) (ho : o.op = .call ⟨.builtin b, args, argTypes⟩) :
    (execOp ρ' o) = builtin b argTypes o.type (args.map fun | .const _ => true | _ => false) (args.map ρ') := by
  obtain ⟨dst, op, ty, pos, after, guard⟩ := o
  simp only at ho
  subst ho
  rfl

theorem len_reads (hr : HRel B w0 M h w) {ρ : Env} {ρ' : Operand → Value} {x : Operand} {args : Array Operand} {argTypes : Array TypeId} {v : AV} (ha : args.toList = [x]) (hρ : ∀ a, ρ x = some a → a.tr M = some (ρ' x))
    (e : len1A P h argTypes[0]? (ρ x) = some v) : Reads P M w ρ' (.call ⟨.builtin .len, args, argTypes⟩) v := by
  have hargs : args = #[x] := by apply Array.ext'; simpa using ha
  subst hargs
  have fin : ∀ (y : Value) (t : TypeId), argTypes[0]? = some t → v.tr M = some y → (Builtin.len_ argTypes 0 #[ρ' x]).run P w = .ok y w → Reads P M w ρ' (.call ⟨.builtin .len, #[x], argTypes⟩) v := by
    intro y t _ hy hrun
    refine ⟨y, hy, ?_⟩
    intro o ho
    rw [execBuiltin o ho]
    have : (Builtin.len_ argTypes o.type #[ρ' x]).run P w = .ok y w := hrun
    simp [builtin, this]
  unfold len1A at e
  split at e
  case h_1 => cases e
  rename_i t ht
  split at e
  case h_1 => cases e
  rename_i a hx
  have ta := hρ a hx
  split at e
  · rename_i hu
    split at e
    case h_2 => cases e
    injection e with e; subst e
    refine fin _ t ht rfl ?_
    rw [tr_str ta]
    simp [Builtin.len_, ht, run_underlying hu, goInt]; rfl
  · rename_i hu
    split at e
    · injection e with e; subst e
      refine fin _ t ht rfl ?_
      simp [AV.tr] at ta; rw [← ta]
      simp [Builtin.len_, ht, run_underlying hu, goInt]
    · injection e with e; subst e
      obtain ⟨p, _, hv⟩ := tr_slice0 ta
      refine fin _ t ht rfl ?_
      rw [hv]; simp [Builtin.len_, ht, run_underlying hu, goInt]
    · injection e with e; subst e
      obtain ⟨p, _, hv⟩ := tr_slice ta
      refine fin _ t ht rfl ?_
      rw [hv]; simp [Builtin.len_, ht, run_underlying hu, goInt]
    · injection e with e; subst e
      obtain ⟨p, n, _, hen, hv⟩ := tr_sliceS ta
      refine fin (.int .i64 (.ofNat n)) t ht (by simp [AV.tr, hen]) ?_
      rw [hv]; simp [Builtin.len_, ht, run_underlying hu, goInt]
    · cases e
  · rename_i hu
    split at e
    case h_2 => cases e
    rename_i es c hm
    injection e with e; subst e
    obtain ⟨l, hl, hx'⟩ := mapOf_run hr hm ta
    refine fin _ t ht rfl ?_
    rcases hx' with ⟨h1, h2⟩ | ⟨r, h1, h2⟩
    · subst h2
      have : es = [] := by cases hl; rfl
      subst this
      rw [h1]; simp [Builtin.len_, ht, run_underlying hu, goInt]
    · have hg := run_getObj (P := P) h2 (by intros; simp)
      rw [h1]; simp [Builtin.len_, ht, run_underlying hu, goInt, hg, hl.length]
  · rename_i hu
    injection e with e; subst e
    refine fin _ t ht rfl ?_
    simp [Builtin.len_, ht, run_underlying hu, goInt]
  · cases e

theorem cap_reads {ρ : Env} {ρ' : Operand → Value} {x : Operand} {args : Array Operand} {argTypes : Array TypeId} {v : AV} (ha : args.toList = [x]) (hρ : ∀ a, ρ x = some a → a.tr M = some (ρ' x))
    (e : cap1A P argTypes[0]? (ρ x) = some v) : Reads P M w ρ' (.call ⟨.builtin .cap, args, argTypes⟩) v := by
  have hargs : args = #[x] := by apply Array.ext'; simpa using ha
  subst hargs
  unfold cap1A at e
  split at e
  case h_1 => cases e
  rename_i t ht
  split at e
  case h_2 => cases e
  rename_i hu
  split at e
  · rename_i hx
    have ta := hρ _ hx
    injection e with e; subst e
    refine ⟨_, rfl, fun o ho => ?_⟩
    rw [execBuiltin o ho]
    simp [AV.tr] at ta
    have : (Builtin.cap_ argTypes o.type #[ρ' x]).run P w = .ok (.int .i64 0) w := by rw [← ta]; simp [Builtin.cap_, ht, run_underlying hu, goInt]
    simp [builtin, this]
  · rename_i hx
    have ta := hρ _ hx
    injection e with e; subst e
    obtain ⟨p, _, hv⟩ := tr_slice ta
    refine ⟨_, rfl, fun o ho => ?_⟩
    rw [execBuiltin o ho]
    rename_i n _
    have : (Builtin.cap_ argTypes o.type #[ρ' x]).run P w = .ok (.int .i64 n) w := by rw [hv]; simp [Builtin.cap_, ht, run_underlying hu, goInt]
    simp [builtin, this]
  · cases e

theorem mm_reads {ρ : Env} {ρ' : Operand → Value} {mx : Bool} {args : Array Operand} {argTypes : Array TypeId} {v : AV} (hρ : ∀ x ∈ args.toList, ∀ a, ρ x = some a → a.tr M = some (ρ' x))
    {q : List Fact} (hq : ∀ f ∈ q, f.Ok M.env) (e : mmA q ρ mx args.toList = some v) : Reads P M w ρ' (.call ⟨.builtin (if mx then .max else .min), args, argTypes⟩) v := by
  unfold mmA at e
  split at e
  case h_1 => cases e
  rename_i x r hargs
  split at e
  case h_2 => cases e
  rename_i a ha
  split at e
  case h_2 => cases e
  rename_i as has
  obtain ⟨y, hy, hrun⟩ := minmax_run (P := P) (w := w) hq (hρ x (by rw [hargs]; simp) a ha) (EnvRel.list (fun z hz => hρ z (by rw [hargs]; simp [hz])) has) e
  refine ⟨y, hy, fun o ho => ?_⟩
  rw [execBuiltin o ho]
  have hl : (args.map ρ').toList = ρ' x :: r.map ρ' := by simp [hargs]
  cases mx
  · have : (Builtin.min_ argTypes o.type (args.map ρ')).run P w = .ok y w := by unfold Builtin.min_; rw [hl]; exact hrun
    simp [builtin, this]
  · have : (Builtin.max_ argTypes o.type (args.map ρ')).run P w = .ok y w := by unfold Builtin.max_; rw [hl]; exact hrun
    simp [builtin, this]

/-- EVERY READING OPERATION. -/
theorem read_sound (hr : HRel B w0 M h w) {ρ : Env} {ρ' : Operand → Value} {op : Op} {v : AV} (hρ : EnvRel M ρ ρ' op.operands) (e : readA P h ρ op = some v) : Reads P M w ρ' op v := by
  cases op
  case move x =>
    simp only [readA] at e
    refine ⟨ρ' x, hρ x (by simp [Op.operands]) _ e, ?_⟩
    rintro ⟨dst, op, ty, pos, after, guard⟩ rfl
    simp [execOp]
  case assign x =>
    simp only [readA] at e
    refine ⟨ρ' x, hρ x (by simp [Op.operands]) _ e, ?_⟩
    rintro ⟨dst, op, ty, pos, after, guard⟩ rfl
    simp [execOp]
  case pick => exact pick_reads hρ e
  case build => exact build_reads hr hρ e
  case load => exact load_reads hr hρ e
  case nilCheck => exact nilCheck_reads hρ e
  case binOp => exact bin_reads hr hρ e
  case unOp => exact un_reads hρ e
  case makeInterface => exact iface_reads hρ e
  case makeFunc => exact makeFunc_reads hρ e
  case fieldAddr => exact fieldAddr_reads hρ e
  case field => exact field_reads hρ e
  case indexAddr => exact indexAddr_reads hρ hr.facts e
  case index => exact index_reads hρ e
  case slice => exact slice_reads hr hρ e
  case lookup => exact lookup_reads hr hρ e
  case convert => exact conv_reads hr hρ e
  case extract => exact extract_reads hρ e
  case typeAssert => exact assert_reads hρ e
  case entry => exact entry_reads hr hρ e
  case call c =>
    obtain ⟨callee, args, argTypes⟩ := c
    cases callee with
    | value f => simp [readA] at e
    | invoke r m => simp [readA] at e
    | builtin b =>
      have hρ' : ∀ x ∈ args.toList, ∀ a, ρ x = some a → a.tr M = some (ρ' x) := fun x hx => hρ x (by simp [Op.operands, Call.operands]; simpa using hx)
      simp only [readA, builtinReadA] at e
      split at e
      · split at e
        · rename_i x hx; exact len_reads hr hx (hρ' x (by rw [hx]; simp)) e
        · cases e
      · split at e
        · rename_i x hx; exact cap_reads hx (hρ' x (by rw [hx]; simp)) e
        · cases e
      · exact mm_reads (mx := false) hρ' hr.facts e
      · exact mm_reads (mx := true) hρ' hr.facts e
      · cases e
  all_goals simp [readA] at e

/-- What is made: a new block of that content, and its value. -/
def Makes (P : Program) (M : Mp) (w : World) (ρ' : Operand → Value) (op : Op) (obj : AObj) (f : Nat → AV) : Prop :=
  ∃ ob cap, (∀ (id : Nat) (M' : Mp), M.Le M' → M'.at_ id = some ⟨w.heap.size, 0, cap⟩ → ObjRel M' ⟨w.heap.size, 0, cap⟩ obj ob) ∧
    ∃ x, (∀ (id : Nat) (M' : Mp), M'.at_ id = some ⟨w.heap.size, 0, cap⟩ → (f id).tr M' = some x) ∧
      ∀ o : Oper, o.op = op → (execOp ρ' o).run P w = .ok (.value x) { w with heap := w.heap.push ob }

theorem trs_mono' {M M' : Mp} (hle : M.Le M') {vs : List AV} {xs : List Value} (e : AV.trs M vs = some xs) : AV.trs M' vs = some xs := AV.trs_mono hle vs xs e

theorem cells_obj {M : Mp} {cs : List AV} {xs : List Value} {e : TypeId} {n : Nat} {fz : Bool} (hx : AV.trs M cs = some xs) : ObjRel M ⟨n, 0, 0⟩ (.cells cs none fz) (.cells xs.toArray e) := by
  refine ⟨xs.toArray, e, (0, 0), rfl, fun i av hi => ?_, ⟨?_, trivial⟩, .inl (Nat.le_refl _)⟩
  · obtain ⟨x, h1, h2⟩ := AV.trs_nth hx hi
    exact ⟨x, by simpa using h1, h2⟩
  · rw [List.size_toArray, AV.trs_length hx]; simp

theorem cellsOk_spec {v : AV} {o : AObj} (e : cellsOk v = some o) : o = .cells v.cells none false ∧ ∀ vs, v ≠ .tuple vs := by
  unfold cellsOk at e
  split at e
  · rename_i ha
    injection e with e; subst e
    refine ⟨rfl, fun vs hv => ?_⟩
    subst hv; simp [AV.cells, AV.scalar] at ha
  · cases e

theorem box_makes {v : AV} {x : Value} {o : AObj} {op : Op} {ρ' : Operand → Value} (hy : ∀ i x, M.env i = some x → isCell x = true) (hv : v.tr M = some x) (hc : cellsOk v = some o) (elem : TypeId)
    (hrun : ∀ o : Oper, o.op = op → (execOp ρ' o).run P w = .ok (.value (.pointer (some ⟨w.heap.size, 0, none⟩))) { w with heap := w.heap.push (.cells x.cells elem) }) :
    Makes P M w ρ' op o (fun b => .ptr b 0) := by
  obtain ⟨rfl, ht⟩ := cellsOk_spec hc
  have hx := cells_tr hv ht hy
  refine ⟨.cells x.cells elem, 0, fun id M' hle _ => ?_, _, fun id M' hat => ?_, hrun⟩
  · have := cells_obj (M := M') (e := elem) (n := w.heap.size) (fz := false) (trs_mono' hle hx)
    simpa using this
  · simp [AV.tr, hat]

theorem rep_trs {zc : List AV} {zs : List Value} (hz : AV.trs M zc = some zs) : ∀ n : Nat, AV.trs M (repA zc n) = some ((List.range (n * zs.length)).map fun i => zs.toArray[i % zs.toArray.size]!)
  | 0 => by simp [repA, AV.trs]
  | n + 1 => by
    rw [repA, AV.trs_append]
    refine ⟨zs, _, hz, rep_trs hz n, ?_⟩
    rw [show (n + 1) * zs.length = zs.length + n * zs.length from by rw [Nat.add_mul]; omega, List.range_add, List.map_append]
    congr 1
    · apply List.ext_getElem?
      intro i
      by_cases hi : i < zs.length
      · simp [hi, Nat.mod_eq_of_lt hi]
      · have h' : zs.length ≤ i := by omega
        simp [h']
    · simp

theorem rep_len {α : Type} (z : List α) : ∀ n : Nat, (repA z n).length = n * z.length
  | 0 => by simp [repA]
  | n + 1 => by rw [repA, List.length_append, rep_len z n, Nat.add_mul]; omega

theorem range_arr {β : Type} (f : Nat → β) (n : Nat) : (Array.range n).map f = ((List.range n).map f).toArray := by
  apply Array.ext'; simp

theorem zeros_run {elem : TypeId} {z : AV} {s n : Nat} (hy : ∀ i x, M.env i = some x → isCell x = true) (hz : zeroA P elem = some z) (hs : z.cells.length = s) (ht : ∀ vs, z ≠ .tuple vs) :
    ∃ (xs : List Value) (zv : Value), AV.trs M (repA z.cells n) = some xs ∧ (zeroValue elem).run P w = .ok zv w ∧ (n * s = 0 → xs = []) ∧
      (Array.range (n * s)).map (fun i => zv.cells[i % zv.cells.size]!) = xs.toArray := by
  obtain ⟨zv, h1, h2⟩ := zero_run (P := P) (w := w) hz
  have hc := cells_tr (h2 M) ht hy
  have hl : zv.cells.toList.length = s := by rw [AV.trs_length hc, hs]
  have hr := rep_trs hc n
  refine ⟨_, zv, hr, h1, fun h0 => by rw [hl, h0]; rfl, ?_⟩
  rw [range_arr, hl]

theorem scalar_tuple {z : AV} (h : z.cells.all AV.scalar = true) : ∀ vs, z ≠ .tuple vs := by
  rintro vs rfl; simp [AV.cells, AV.scalar] at h

theorem mk_sound (hr : HRel B w0 M h w) {ρ : Env} {ρ' : Operand → Value} {op : Op} {obj : AObj} {f : Nat → AV} (hρ : EnvRel M ρ ρ' op.operands) (e : mkA P ρ op = some (obj, f)) : Makes P M w ρ' op obj f := by
  cases op
  case alloc elem =>
    simp only [mkA, allocA] at e
    split at e
    case h_2 => cases e
    rename_i z hz
    split at e
    case h_2 => cases e
    rename_i o ho
    injection e with e; injection e with e1 e2; subst e1 e2
    obtain ⟨zv, h1, h2⟩ := zero_run (P := P) (w := w) hz
    refine box_makes hr.env (h2 M) ho elem ?_
    rintro ⟨dst, op, ty, pos, after, guard⟩ rfl
    simp [execOp, Instr.alloc, h1, newVar, newRow]
  case box elem x =>
    simp only [mkA, boxA] at e
    split at e
    case h_2 => cases e
    rename_i v hv
    split at e
    case h_2 => cases e
    rename_i o ho
    injection e with e; injection e with e1 e2; subst e1 e2
    refine box_makes hr.env (hρ x (by simp [Op.operands]) _ hv) ho elem ?_
    rintro ⟨dst, op, ty, pos, after, guard⟩ rfl
    simp [execOp, Instr.box, newVar, newRow]
  case makeMap t r =>
    cases r with
    | some _ => simp [mkA] at e
    | none =>
      simp only [mkA] at e
      injection e with e; injection e with e1 e2; subst e1 e2
      refine ⟨.map #[] 0, 0, fun id M' hle _ => ⟨[], rfl, .nil⟩, .map (some w.heap.size), fun id M' hat => by simp [AV.tr, hat], ?_⟩
      rintro ⟨dst, op, ty, pos, after, guard⟩ rfl
      simp [execOp, Instr.makeMap]
  case buildSlice t len parts =>
    simp only [mkA, buildSliceA] at e
    split at e
    case h_2 => cases e
    rename_i elem hu
    split at e
    case h_2 => cases e
    rename_i s hs
    split at e
    case h_2 => cases e
    rename_i z hz
    split at e
    case h_2 => cases e
    rename_i ps hps
    split at e
    case isTrue => cases e
    rename_i hsz
    split at e
    case h_2 => cases e
    rename_i hza
    split at e
    case h_2 => cases e
    rename_i cs hcs
    injection e with e; injection e with e1 e2; subst e1 e2
    simp only [not_or, Nat.not_lt, Decidable.not_not, gt_iff_lt] at hsz
    obtain ⟨hsz1, hsz2⟩ := hsz
    obtain ⟨hrel, htup⟩ := parts_rel (M := M) (ρ := ρ) (ρ' := ρ') (fun p hp => hρ p.2 (by simp [Op.operands]; exact ⟨p.1, by simpa using hp⟩)) hps
    obtain ⟨xs, zv, h2, h1, h0, h3⟩ := zeros_run (P := P) (w := w) (n := len) hr.env hz hsz2 (scalar_tuple hza)
    obtain ⟨ys, h4, h5⟩ := fill_run hr.env hrel h2 htup hcs
    refine ⟨.cells ys.toArray elem, 0, fun id M' hle _ => cells_obj (trs_mono' hle h4), .slice (some ⟨w.heap.size, 0, none⟩) len len, fun id M' hat => by simp [AV.tr, hat], ?_⟩
    rintro ⟨dst, op, ty, pos, after, guard⟩ rfl
    have : (Instr.buildSlice t len (parts.map fun (i, x) => (i, ρ' x))).run P w = .ok (.slice (some ⟨w.heap.size, 0, none⟩) len len) { w with heap := w.heap.push (.cells ys.toArray elem) } := by
      simp only [Instr.buildSlice, Sem.run_bind, run_underlying hu, Result.andThen_ok, size_run hs, if_neg (show ¬ (len * s > 2 ^ 24) by omega)]
      by_cases hz0 : len * s = 0
      · have := h0 hz0; subst this
        have hempty : ∀ za : Array Value, (Array.range (len * s)).map (fun i => za[i % za.size]!) = #[] := fun za => by rw [hz0]; simp
        rw [if_pos hz0]
        simp only [Sem.run_bind, Sem.run_pure, Result.andThen_ok, hempty]
        rw [show (#[] : Array Value) = ([] : List Value).toArray from rfl, h5]
        simp [newRow]
      · rw [if_neg hz0]
        simp only [Sem.run_bind, h1, Result.andThen_ok, Sem.run_pure, h3, h5]
        simp [newRow]
    simp only [execOp, Sem.run_bind, this, Result.andThen_ok, Sem.run_pure]
  case makeSlice t l c =>
    simp only [mkA, makeSliceA] at e
    split at e
    case h_2 => cases e
    rename_i elem hu
    split at e
    case h_2 => cases e
    rename_i k1 l' hl
    split at e
    case h_2 => cases e
    rename_i k2 c' hc
    split at e
    case h_2 => cases e
    rename_i s hs
    split at e
    case h_2 => cases e
    rename_i bytes hb
    split at e
    case h_2 => cases e
    rename_i z hz
    split at e
    case isFalse => cases e
    rename_i hcond
    obtain ⟨c1, c2, c3, c4, c5, c6⟩ := hcond
    split at e
    case h_2 => cases e
    rename_i hza
    injection e with e; injection e with e1 e2; subst e1 e2
    have hl' := tr_int (hρ l (by simp [Op.operands]) _ hl)
    have hc' := tr_int (hρ c (by simp [Op.operands]) _ hc)
    obtain ⟨xs, zv, h2, h1, h0, h3⟩ := zeros_run (P := P) (w := w) (n := c'.toNat) hr.env hz c5 (scalar_tuple hza)
    obtain ⟨i, hi, hib⟩ := bytes_info hb
    have w1 : IntKind.i64.wrap l' = l' := by
      have := wrap_small .i64 l'.toNat (by simp [topOf]; omega)
      rwa [Int.toNat_of_nonneg c1] at this
    have w2 : IntKind.i64.wrap c' = c' := by
      have := wrap_small .i64 c'.toNat (by simp [topOf]; omega)
      rwa [Int.toNat_of_nonneg (by omega)] at this
    refine ⟨.cells xs.toArray elem, 0, fun id M' hle _ => cells_obj (trs_mono' hle h2), .slice (some ⟨w.heap.size, 0, none⟩) l'.toNat c'.toNat, fun id M' hat => by simp [AV.tr, hat], ?_⟩
    rintro ⟨dst, op, ty, pos, after, guard⟩ rfl
    have hcnd : (decide (c' < 0) || decide ((i.bytes : Int) * c' > 2 ^ 48) || decide (l' < 0) || decide (l' > c')) = false := by
      rw [hib]; simp; omega
    have : (Instr.makeSlice t (ρ' l) (ρ' c)).run P w = .ok (.slice (some ⟨w.heap.size, 0, none⟩) l'.toNat c'.toNat) { w with heap := w.heap.push (.cells xs.toArray elem) } := by
      rw [hl', hc']
      simp only [Instr.makeSlice, Sem.run_bind, run_underlying hu, Result.andThen_ok, asInt, asIntOf, Sem.run_pure, info_run hi, w1, w2]
      rw [if_neg (by rw [hcnd]; simp)]
      simp only [Sem.run_bind, run_askRoom, Result.andThen_ok, size_run hs]
      by_cases hz0 : c'.toNat * s = 0
      · have := h0 hz0; subst this
        have hempty : ∀ za : Array Value, (Array.range (c'.toNat * s)).map (fun i => za[i % za.size]!) = #[] := fun za => by rw [hz0]; simp
        rw [if_pos hz0]
        simp only [Sem.run_bind, Sem.run_pure, Result.andThen_ok, hempty]
        simp [newRow]
      · rw [if_neg hz0]
        simp only [Sem.run_bind, h1, Result.andThen_ok, Sem.run_pure, h3]
        simp [newRow]
    simp only [execOp, Sem.run_bind, this, Result.andThen_ok, Sem.run_pure]
  all_goals simp [mkA] at e
end Go.AM
