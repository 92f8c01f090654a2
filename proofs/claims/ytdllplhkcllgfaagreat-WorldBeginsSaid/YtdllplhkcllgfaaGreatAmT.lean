/- Regions whose order is open: which operations lie behind which. Nothing is assumed. -/
import Derived.Test.YtdllplhkcllgfaaGreatAmS
import Derived.Orders
namespace Go.AM

variable {P : Program} {ops : Array Oper}

theorem scan_spec {α β : Type} (g : List β → α → β) : ∀ (l : List α) (acc : List β),
    ∃ tl, l.foldl (fun acc o => acc ++ [g acc o]) acc = acc ++ tl ∧ tl.length = l.length ∧ ∀ i o, l[i]? = some o → tl[i]? = some (g (acc ++ tl.take i) o)
  | [], acc => ⟨[], by simp, rfl, by simp⟩
  | o :: l, acc => by
    obtain ⟨tl, h1, h2, h3⟩ := scan_spec g l (acc ++ [g acc o])
    refine ⟨g acc o :: tl, ?_, by simp [h2], ?_⟩
    · simp [List.foldl_cons, h1]
    · intro i o' hi
      cases i with
      | zero => simp at hi; subst hi; simp
      | succ i => simp at hi; have := h3 i o' hi; simpa using this

def Low (ops : Array Oper) : Prop := ∀ (i : Nat) (o : Oper), ops[i]? = some o → ∀ d ∈ depsOf o, d < i

def eligAt (P : Program) (ops : Array Oper) (done : List Nat) (i : Nat) : Bool := (nth (eligs P ops done) i).getD false
def ancAt (ops : Array Oper) (i : Nat) : Nat := (nth (ancs ops) i).getD 0

theorem nth_take {β : Type} {l : List β} {i d : Nat} (h : d < i) : nth (l.take i) d = nth l d := by
  rw [nth_eq, nth_eq, List.getElem?_take, if_pos h]

theorem elig_iff (hl : Low ops) {done : List Nat} {i : Nat} : eligAt P ops done i = true ↔
    ∃ o, ops[i]? = some o ∧ actsA P o.op = false ∧ ∀ d ∈ depsOf o, eligAt P ops done d = true ∨ d ∈ done := by
  obtain ⟨tl, h1, h2, h3⟩ := scan_spec (fun (acc : List Bool) (o : Oper) => !actsA P o.op && (depsOf o).all fun d => ((nth acc d).getD false) || done.contains d) ops.toList []
  have he : eligs P ops done = tl := by unfold eligs; rw [h1]; simp
  unfold eligAt
  rw [he]
  cases ho : ops[i]? with
  | none =>
    have : nth tl i = none := by
      rw [nth_eq, List.getElem?_eq_none]; rw [h2]; simp at ho ⊢; exact ho
    rw [this]; simp
  | some o =>
    have h4 := h3 i o (by simpa using ho)
    rw [nth_eq tl i, h4]
    simp only [Option.getD_some, Option.some.injEq, exists_eq_left', Bool.and_eq_true, Bool.not_eq_true', List.all_eq_true, Bool.or_eq_true, List.contains_iff_mem, List.nil_append]
    constructor
    · rintro ⟨ha, hd⟩
      refine ⟨ha, fun d hd' => ?_⟩
      have := hd d hd'
      rw [nth_take (hl i o ho d hd')] at this
      exact this
    · rintro ⟨ha, hd⟩
      refine ⟨ha, fun d hd' => ?_⟩
      rw [nth_take (hl i o ho d hd')]
      exact hd d hd'

theorem bits_foldl {x : Nat → Nat} {a : Nat} : ∀ (l : List Nat) (s : Nat), (l.foldl (fun s d => s ||| 2 ^ d ||| x d) s).testBit a = true →
    s.testBit a = true ∨ ∃ d ∈ l, a = d ∨ (x d).testBit a = true
  | [], s, h => .inl h
  | d :: l, s, h => by
    rcases bits_foldl l _ h with h | ⟨e, he, h⟩
    · rw [Nat.testBit_or, Nat.testBit_or, Nat.testBit_two_pow] at h
      simp only [Bool.or_eq_true, decide_eq_true_eq] at h
      rcases h with (h | h) | h
      · exact .inl h
      · exact .inr ⟨d, by simp, .inl h.symm⟩
      · exact .inr ⟨d, by simp, .inr h⟩
    · exact .inr ⟨e, by simp [he], h⟩

theorem anc_spec (hl : Low ops) {i a : Nat} (h : (ancAt ops i).testBit a = true) : ∃ o, ops[i]? = some o ∧ ∃ d ∈ depsOf o, a = d ∨ (ancAt ops d).testBit a = true := by
  obtain ⟨tl, h1, h2, h3⟩ := scan_spec (fun (acc : List Nat) (o : Oper) => (depsOf o).foldl (fun s d => s ||| 2 ^ d ||| (nth acc d).getD 0) 0) ops.toList []
  have he : ancs ops = tl := by unfold ancs; rw [h1]; simp
  unfold ancAt at *
  rw [he] at h ⊢
  cases ho : ops[i]? with
  | none =>
    have : nth tl i = none := by rw [nth_eq, List.getElem?_eq_none]; rw [h2]; simp at ho ⊢; exact ho
    rw [this] at h; simp at h
  | some o =>
    have h4 := h3 i o (by simpa using ho)
    rw [nth_eq tl i, h4] at h
    simp only [Option.getD_some, List.nil_append] at h
    rcases bits_foldl _ _ h with h | ⟨d, hd, h⟩
    · simp at h
    · refine ⟨o, rfl, d, hd, h.imp id fun h => ?_⟩
      rw [nth_take (hl i o ho d hd)] at h
      exact h

def dstAt (ops : Array Oper) (i : Nat) : Option Tmp := (ops[i]?).bind (·.dst)

/-- What is asked of a region whose order is open, word by word. -/
structure DrawnOk (P : Program) (ops : Array Oper) : Prop where
  low : Low ops
  chain : chainTotal (ancs ops) (actList P ops) = true
  apart : ∀ (i j : Nat) (d : Tmp), dstAt ops i = some d → dstAt ops j = some d → i = j
  guard : ∀ (i : Nat) (o : Oper) (g : Nat) (w : Bool), ops[i]? = some o → o.guard = some (g, w) → g ∈ depsOf o
  looks : ∀ (i : Nat) (o : Oper) (s : Tmp) (j : Nat) (p : Oper), ops[i]? = some o → s ∈ looks ops o → ops[j]? = some p → p.dst = some s →
    j ∈ depsOf o ∨ ∃ e ∈ actList P ops, (e = i ∨ (ancAt ops e).testBit i = true) ∧ (ancAt ops j).testBit e = true

theorem pairsApart_spec : ∀ {ds : List (Option Tmp)}, pairsApart ds = true → ∀ (i j : Nat) (d : Tmp), ds[i]? = some (some d) → ds[j]? = some (some d) → i = j
  | [], _, i, j, d, h, _ => by simp at h
  | none :: r, h, i, j, d, hi, hj => by
    simp only [pairsApart] at h
    cases i with
    | zero => simp at hi
    | succ i => cases j with
      | zero => simp at hj
      | succ j => rw [pairsApart_spec h i j d (by simpa using hi) (by simpa using hj)]
  | some x :: r, h, i, j, d, hi, hj => by
    simp only [pairsApart, Bool.and_eq_true, List.all_eq_true] at h
    cases i with
    | zero =>
      cases j with
      | zero => rfl
      | succ j =>
        simp at hi hj; subst hi
        have := h.1 (some x) (List.mem_of_getElem? hj)
        simp at this
    | succ i =>
      cases j with
      | zero =>
        simp at hi hj; subst hj
        have := h.1 (some x) (List.mem_of_getElem? hi)
        simp at this
      | succ j => rw [pairsApart_spec h.2 i j d (by simpa using hi) (by simpa using hj)]

theorem drawnOk_spec (h : drawnOk P ops = true) : DrawnOk P ops := by
  simp only [drawnOk, Bool.and_eq_true, List.all_eq_true, List.mem_range] at h
  obtain ⟨⟨⟨h1, h2⟩, h3⟩, h4⟩ := h
  have lt : ∀ {i : Nat} {o : Oper}, ops[i]? = some o → i < ops.size := fun ho => (Array.getElem?_eq_some_iff.1 ho).1
  refine ⟨?_, h2, ?_, ?_, ?_⟩
  · intro i o ho d hd
    have := h1 i (lt ho)
    simp only [ho, List.all_eq_true, decide_eq_true_eq] at this
    exact this d hd
  · intro i j d hi hj
    refine pairsApart_spec h3 i j d ?_ ?_
    · unfold dstAt at hi
      cases ho : ops[i]? with
      | none => simp [ho] at hi
      | some o => simp [ho] at hi; simp [ho, hi]
    · unfold dstAt at hj
      cases ho : ops[j]? with
      | none => simp [ho] at hj
      | some o => simp [ho] at hj; simp [ho, hj]
  · intro i o g w ho hg
    have := h4 i (lt ho)
    simp only [ho, hg, Bool.and_eq_true, List.contains_iff_mem] at this
    exact this.1
  · intro i o s j p ho hs hp hd
    have := h4 i (lt ho)
    simp only [ho, Bool.and_eq_true] at this
    have := List.all_eq_true.1 this.2 s hs
    have := List.all_eq_true.1 this j (List.mem_range.2 (lt hp))
    simp only [hp, hd, if_true, Bool.or_eq_true, List.contains_iff_mem, List.any_eq_true, Bool.and_eq_true, beq_iff_eq] at this
    exact this

/-- Where a region whose order is open stands: 'rest' is still to be done. -/
structure Stand (P : Program) (ops : Array Oper) (chain done rest : List Nat) : Prop where
  ok : DrawnOk P ops
  nodup : rest.Nodup
  lt : ∀ i ∈ rest, i < ops.size
  topo : ∀ (pre : List Nat) (i : Nat) (post : List Nat) (o : Oper), rest = pre ++ i :: post → ops[i]? = some o → ∀ d ∈ depsOf o, d ∉ i :: post
  closed : ∀ (i : Nat) (o : Oper), ops[i]? = some o → i ∉ rest → ∀ d ∈ depsOf o, d ∉ rest
  acts : actList P ops = done.reverse ++ chain
  out : ∀ i ∈ done, i ∉ rest
  inn : ∀ i ∈ chain, i ∈ rest

theorem mem_actList {i : Nat} : i ∈ actList P ops ↔ ∃ o, ops[i]? = some o ∧ actsA P o.op = true := by
  unfold actList
  simp only [List.mem_filter, List.mem_range]
  constructor
  · rintro ⟨h1, h2⟩
    cases ho : ops[i]? with
    | none => simp [ho] at h2
    | some o => exact ⟨o, rfl, by simpa [ho] using h2⟩
  · rintro ⟨o, ho, ha⟩
    exact ⟨(Array.getElem?_eq_some_iff.1 ho).1, by simpa [ho] using ha⟩

variable {chain done rest : List Nat}

theorem Stand.anc_out (s : Stand P ops chain done rest) {a : Nat} : ∀ (i : Nat), (ancAt ops i).testBit a = true → i ∉ rest → a ∉ rest := by
  intro i
  induction i using Nat.strongRecOn with
  | _ i ih =>
    intro h hi
    obtain ⟨o, ho, d, hd, h⟩ := anc_spec s.ok.low h
    have := s.closed i o ho hi d hd
    rcases h with rfl | h
    · exact this
    · exact ih d (s.ok.low i o ho d hd) h this

theorem Stand.act_done (s : Stand P ops chain done rest) {i : Nat} {o : Oper} (ho : ops[i]? = some o) (ha : actsA P o.op = true) (h : i ∉ rest) : i ∈ done := by
  have : i ∈ actList P ops := mem_actList.2 ⟨o, ho, ha⟩
  rw [s.acts] at this
  rcases List.mem_append.1 this with h' | h'
  · simpa using h'
  · exact absurd (s.inn i h') h

/-- What has been done and does not act could be read. -/
theorem Stand.out_elig (s : Stand P ops chain done rest) : ∀ (i : Nat) (o : Oper), ops[i]? = some o → i ∉ rest → actsA P o.op = false → eligAt P ops done i = true := by
  intro i
  induction i using Nat.strongRecOn with
  | _ i ih =>
    intro o ho hi ha
    refine (elig_iff s.ok.low).2 ⟨o, ho, ha, fun d hd => ?_⟩
    have hd' := s.closed i o ho hi d hd
    have hlt := s.ok.low i o ho d hd
    have hsz := (Array.getElem?_eq_some_iff.1 ho).1
    have hod : ops[d]? = some ops[d] := Array.getElem?_eq_getElem (by omega)
    cases had : actsA P (ops[d]'(by omega)).op with
    | true => exact .inr (s.act_done hod had hd')
    | false => exact .inl (ih d hlt _ hod hd' had)

theorem Stand.head_deps {i : Nat} {post : List Nat} (s : Stand P ops chain done (i :: post)) {o : Oper} (ho : ops[i]? = some o) : ∀ d ∈ depsOf o, d ∉ i :: post :=
  s.topo [] i post o rfl ho

theorem Stand.head_elig {i : Nat} {post : List Nat} (s : Stand P ops chain done (i :: post)) {o : Oper} (ho : ops[i]? = some o) (ha : actsA P o.op = false) : eligAt P ops done i = true := by
  refine (elig_iff s.ok.low).2 ⟨o, ho, ha, fun d hd => ?_⟩
  have hd' := s.head_deps ho d hd
  have hlt := s.ok.low i o ho d hd
  have hsz := (Array.getElem?_eq_some_iff.1 ho).1
  have hod : ops[d]? = some ops[d] := Array.getElem?_eq_getElem (by omega)
  cases had : actsA P (ops[d]'(by omega)).op with
  | true => exact .inr (s.act_done hod had hd')
  | false => exact .inl (s.out_elig d _ hod hd' had)

/-- What can be read has all that acts behind it done. -/
theorem Stand.elig_anc (s : Stand P ops chain done rest) {a : Nat} (ha : a ∈ actList P ops) : ∀ (i : Nat), eligAt P ops done i = true → (ancAt ops i).testBit a = true → a ∈ done := by
  intro i
  induction i using Nat.strongRecOn with
  | _ i ih =>
    intro he h
    obtain ⟨o, ho, d, hd, h⟩ := anc_spec s.ok.low h
    obtain ⟨o', ho', _, hall⟩ := (elig_iff s.ok.low).1 he
    rw [ho] at ho'; cases ho'
    have hlt := s.ok.low i o ho d hd
    obtain ⟨oa, hoa, haa⟩ := mem_actList.1 ha
    rcases h with rfl | h
    · rcases hall a hd with h' | h'
      · obtain ⟨o'', ho'', hn, _⟩ := (elig_iff s.ok.low).1 h'
        rw [hoa] at ho''; cases ho''
        rw [haa] at hn; cases hn
      · exact h'
    · rcases hall d hd with h' | h'
      · exact ih d hlt h' h
      · exact s.act_done hoa haa (s.anc_out d h (s.out d h'))

/-- The first that acts is the chain's first. -/
theorem chain_first (hb : ∀ i a, (ancAt ops i).testBit a = true → i ∉ rest → a ∉ rest) {j : Nat} (hj : ∀ a, (ancAt ops j).testBit a = true → a ∉ rest) :
    ∀ (c : Nat) (l : List Nat), chainTotal (ancs ops) (c :: l) = true → c ∈ rest → (∀ x ∈ l, x ∈ rest) → j ∈ c :: l → j = c
  | c, [], _, _, _, h => by simpa using h
  | c, y :: l, ht, hc, hl, h => by
    simp only [chainTotal, Bool.and_eq_true] at ht
    rcases List.mem_cons.1 h with h | h
    · exact h
    · have := chain_first hb hj y l ht.2 (hl y (by simp)) (fun x hx => hl x (by simp [hx])) h
      subst this
      exact absurd hc (hj c ht.1)

theorem chainTotal_append : ∀ (a b : List Nat), chainTotal (ancs ops) (a ++ b) = true → chainTotal (ancs ops) b = true
  | [], b, h => h
  | [x], [], h => rfl
  | [x], y :: b, h => by simp only [List.cons_append, List.nil_append, chainTotal, Bool.and_eq_true] at h; exact h.2
  | x :: y :: a, b, h => by
    simp only [List.cons_append, chainTotal, Bool.and_eq_true] at h
    exact chainTotal_append (y :: a) b h.2

theorem Stand.head_act {i : Nat} {post : List Nat} (s : Stand P ops chain done (i :: post)) {o : Oper} (ho : ops[i]? = some o) (ha : actsA P o.op = true) : ∃ c, chain = i :: c := by
  have hin : i ∈ actList P ops := mem_actList.2 ⟨o, ho, ha⟩
  have ht := s.ok.chain
  rw [s.acts] at hin ht
  have hi : i ∈ chain := by
    rcases List.mem_append.1 hin with h | h
    · exact absurd (by simp) (s.out i (by simpa using h))
    · exact h
  have ht := chainTotal_append _ _ ht
  cases hc : chain with
  | nil => rw [hc] at hi; cases hi
  | cons c l =>
    rw [hc] at hi ht
    have h1 : i = c := by
      refine chain_first (rest := i :: post) (fun i a => s.anc_out i) ?_ c l ht (s.inn c (by simp [hc])) (fun x hx => s.inn x (by simp [hc, hx])) hi
      intro a h
      obtain ⟨o', ho', d, hd, h⟩ := anc_spec s.ok.low h
      rw [ho] at ho'; cases ho'
      have := s.head_deps ho d hd
      rcases h with rfl | h
      · exact this
      · exact s.anc_out d h this
    exact ⟨l, by rw [h1]⟩

theorem sure_foldl {x : Nat → Nat} {a : Nat} : ∀ (l : List Nat) (s : Nat), (l.foldl (fun s d => s ||| x d) s).testBit a = true →
    s.testBit a = true ∨ ∃ d ∈ l, (x d).testBit a = true
  | [], s, h => .inl h
  | d :: l, s, h => by
    rcases sure_foldl l _ h with h | ⟨e, he, h⟩
    · rw [Nat.testBit_or] at h
      simp only [Bool.or_eq_true] at h
      rcases h with h | h
      · exact .inl h
      · exact .inr ⟨d, by simp, h⟩
    · exact .inr ⟨e, by simp [he], h⟩

theorem Stand.sure_out (s : Stand P ops chain done rest) {j : Nat} (h : (sureA ops done).testBit j = true) : j ∉ rest := by
  unfold sureA at h
  rcases sure_foldl (x := fun d => (nth (ancs ops) d).getD 0) _ _ h with h | ⟨d, hd, h⟩
  · simp at h
  · exact s.anc_out d h (s.out d hd)

/-- What the head looks at is no promise. -/
theorem Stand.head_looks {i : Nat} {post : List Nat} (s : Stand P ops chain done (i :: post)) {o : Oper} (ho : ops[i]? = some o) {t : Tmp} (ht : t ∈ looks ops o) {j : Nat}
    (hj : j ∈ i :: post) (he : eligAt P ops done j = true) : dstAt ops j ≠ some t := by
  intro hd
  unfold dstAt at hd
  cases hp : ops[j]? with
  | none => simp [hp] at hd
  | some p =>
    simp [hp] at hd
    rcases s.ok.looks i o t j p ho ht hp hd with h | ⟨e, h1, h2, h3⟩
    · exact s.head_deps ho j h hj
    · have h4 := s.elig_anc h1 j he h3
      have h5 := s.out e h4
      rcases h2 with rfl | h2
      · exact h5 (by simp)
      · exact s.anc_out e h2 h5 (by simp)

/-- The head is done. -/
theorem Stand.tail {i : Nat} {post : List Nat} (s : Stand P ops chain done (i :: post)) (hi : i ∉ chain) : Stand P ops chain done post := by
  have hnd := List.nodup_cons.1 s.nodup
  refine ⟨s.ok, hnd.2, fun j hj => s.lt j (by simp [hj]), ?_, ?_, s.acts, fun j hj h => s.out j hj (by simp [h]), ?_⟩
  · intro pre j post' o h ho d hd
    exact s.topo (i :: pre) j post' o (by rw [h]; rfl) ho d hd
  · intro j o ho hj d hd hm
    by_cases h : j = i
    · subst h; exact s.head_deps ho d hd (by simp [hm])
    · exact s.closed j o ho (by simp [h, hj]) d hd (by simp [hm])
  · intro j hj
    have := s.inn j hj
    rcases List.mem_cons.1 this with h | h
    · subst h; exact absurd hj hi
    · exact h

theorem actList_nodup : (actList P ops).Nodup := by
  unfold actList
  exact List.nodup_range.filter _

/-- The head acted. -/
theorem Stand.acted {i : Nat} {c post : List Nat} (s : Stand P ops (i :: c) done (i :: post)) : Stand P ops c (i :: done) post := by
  have hnd := List.nodup_cons.1 s.nodup
  have hac : (done.reverse ++ i :: c).Nodup := by rw [← s.acts]; exact actList_nodup
  have hic : i ∉ c := (List.nodup_cons.1 (List.nodup_append.1 hac).2.1).1
  refine ⟨s.ok, hnd.2, fun j hj => s.lt j (by simp [hj]), ?_, ?_, by rw [s.acts]; simp, ?_, ?_⟩
  · intro pre j post' o h ho d hd
    exact s.topo (i :: pre) j post' o (by rw [h]; rfl) ho d hd
  · intro j o ho hj d hd hm
    by_cases h : j = i
    · subst h; exact s.head_deps ho d hd (by simp [hm])
    · exact s.closed j o ho (by simp [h, hj]) d hd (by simp [hm])
  · intro j hj h
    rcases List.mem_cons.1 hj with e | e
    · subst e; exact hnd.1 h
    · exact s.out j e (by simp [h])
  · intro j hj
    rcases List.mem_cons.1 (s.inn j (by simp [hj])) with h | h
    · subst h; exact absurd hj hic
    · exact h

theorem elig_mono (hl : Low ops) {d d' : List Nat} (h : ∀ x ∈ d, x ∈ d') : ∀ i, eligAt P ops d i = true → eligAt P ops d' i = true := by
  intro i
  induction i using Nat.strongRecOn with
  | _ i ih =>
    intro he
    obtain ⟨o, ho, ha, hall⟩ := (elig_iff hl).1 he
    exact (elig_iff hl).2 ⟨o, ho, ha, fun x hx => (hall x hx).imp (ih x (hl i o ho x hx)) (h x)⟩

/-- The orders that may be drawn. -/
theorem any_order (ok : DrawnOk P ops) (t : Nat) : Stand P ops (actList P ops) [] (Region.linearise .any ops t) ∧ ∀ i, i < ops.size → i ∈ Region.linearise .any ops t := by
  have key : ∀ (fuel t : Nat) (listed : Array Bool), listed.size = ops.size →
      (∀ i o, ops[i]? = some o → listed.getD i true = true → ∀ d ∈ depsOf o, listed.getD d false = true) →
      (fuel = ((List.range ops.size).filter fun i => !listed.getD i true).length) →
      (Region.linearise.go .any ops fuel t listed []).Nodup ∧ (∀ i, i ∈ Region.linearise.go .any ops fuel t listed [] ↔ i < ops.size ∧ listed.getD i true = false) ∧
      (∀ pre i post o, Region.linearise.go .any ops fuel t listed [] = pre ++ i :: post → ops[i]? = some o → ∀ d ∈ depsOf o, d ∉ i :: post) := by
    intro fuel
    induction fuel with
    | zero =>
      intro t listed hsz hcl hf
      simp only [Region.linearise.go, List.reverse_nil]
      refine ⟨.nil, fun i => ⟨fun h => (by cases h), fun h => ?_⟩, fun pre i post o h => (by simp at h)⟩
      have : i ∈ (List.range ops.size).filter fun i => !listed.getD i true := by simp [List.mem_filter, List.mem_range, h.1]; simpa using h.2
      rw [List.eq_nil_of_length_eq_zero hf.symm] at this
      cases this
    | succ fuel ih =>
      intro t listed hsz hcl hf
      have hne : Region.ready .any ops listed ≠ [] := by
        -- the least that is not listed is ready
        have hex : ∃ i, i < ops.size ∧ listed.getD i true = false := by
          cases hl : (List.range ops.size).filter fun i => !listed.getD i true with
          | nil => rw [hl] at hf; simp at hf
          | cons x xs =>
            have : x ∈ (List.range ops.size).filter fun i => !listed.getD i true := by rw [hl]; simp
            simp only [List.mem_filter, List.mem_range, Bool.not_eq_true'] at this
            exact ⟨x, this⟩
        obtain ⟨i, hi⟩ := hex
        have : ∃ j, j ∈ Region.ready .any ops listed := by
          induction i using Nat.strongRecOn with
          | _ i ihi =>
            have hoi : ops[i]? = some ops[i] := Array.getElem?_eq_getElem hi.1
            by_cases hd : ∃ d ∈ depsOf ops[i], listed.getD d false = false
            · obtain ⟨d, hd, hld⟩ := hd
              have hlt := ok.low i _ hoi d hd
              refine ihi d hlt ⟨by omega, ?_⟩
              have : d < listed.size := by omega
              simp [this] at hld ⊢; exact hld
            · refine ⟨i, mem_ready.2 ⟨hi.2, _, hoi, fun e he hb => ?_⟩⟩
              cases hx : listed.getD e.on false with
              | true => rfl
              | false =>
                refine absurd ⟨e.on, ?_, hx⟩ hd
                unfold depsOf
                simp only [List.mem_map, List.mem_filter]
                exact ⟨e, ⟨by simpa using he, hb⟩, rfl⟩
        obtain ⟨j, hj⟩ := this
        intro h; rw [h] at hj; cases hj
      simp only [Region.linearise.go]
      change (match (Region.ready .any ops listed)[t % (Region.ready .any ops listed).length]? with
        | some i => Region.linearise.go .any ops fuel (t / (Region.ready .any ops listed).length) (listed.setIfInBounds i true) [i]
        | none => [].reverse).Nodup ∧ (∀ i, i ∈ (match (Region.ready .any ops listed)[t % (Region.ready .any ops listed).length]? with
        | some i => Region.linearise.go .any ops fuel (t / (Region.ready .any ops listed).length) (listed.setIfInBounds i true) [i]
        | none => [].reverse) ↔ i < ops.size ∧ listed.getD i true = false) ∧ (∀ pre i post o, (match (Region.ready .any ops listed)[t % (Region.ready .any ops listed).length]? with
        | some i => Region.linearise.go .any ops fuel (t / (Region.ready .any ops listed).length) (listed.setIfInBounds i true) [i]
        | none => [].reverse) = pre ++ i :: post → ops[i]? = some o → ∀ d ∈ depsOf o, d ∉ i :: post)
      cases hi : (Region.ready .any ops listed)[t % (Region.ready .any ops listed).length]? with
      | none =>
        exfalso
        rw [List.getElem?_eq_none_iff] at hi
        have : t % (Region.ready .any ops listed).length < (Region.ready .any ops listed).length := Nat.mod_lt _ (by
          rcases Nat.eq_zero_or_pos (Region.ready .any ops listed).length with h | h
          · exact absurd (List.eq_nil_of_length_eq_zero h) hne
          · exact h)
        omega
      | some i =>
        simp only []
        rw [linearise_go_acc, List.reverse_singleton, List.singleton_append]
        obtain ⟨hun, o, ho, hall⟩ := mem_ready.1 (List.mem_of_getElem? hi)
        have hlt : i < ops.size := (Array.getElem?_eq_some_iff.1 ho).1
        have hdeps : ∀ d ∈ depsOf o, listed.getD d false = true := by
          intro d hd
          unfold depsOf at hd
          simp only [List.mem_map, List.mem_filter] at hd
          obtain ⟨e, ⟨he, hb⟩, rfl⟩ := hd
          exact hall e (by simpa using he) hb
        have hself : ∀ b, (listed.setIfInBounds i true).getD i b = true := by intro b; simp [hsz, hlt]
        obtain ⟨n1, n2, n3⟩ := ih (t / (Region.ready .any ops listed).length) (listed.setIfInBounds i true) (by simpa using hsz) (by
          intro j p hp hj d hd
          by_cases hji : i = j
          · subst hji; rw [ho] at hp; cases hp
            exact getD_set_true (hdeps d hd)
          · rw [getD_set_ne true hji] at hj
            exact getD_set_true (hcl j p hp hj d hd)) (by
          have hperm : ((List.range ops.size).filter fun j => !listed.getD j true).length = ((List.range ops.size).filter fun j => !(listed.setIfInBounds i true).getD j true).length + 1 := by
            have h1 : ((List.range ops.size).filter fun j => !(listed.setIfInBounds i true).getD j true) = ((List.range ops.size).filter fun j => !listed.getD j true).erase i := by
              rw [List.Nodup.erase_eq_filter (List.nodup_range.filter _), List.filter_filter]
              apply List.filter_congr
              intro j _
              by_cases hji : i = j
              · subst hji; rw [hself]; simp
              · rw [getD_set_ne true hji]
                have : (j != i) = true := by simp; exact fun h => hji h.symm
                simp [this]
            have h2 : i ∈ (List.range ops.size).filter fun j => !listed.getD j true := by
              simp only [List.mem_filter, List.mem_range, Bool.not_eq_true']; exact ⟨hlt, hun⟩
            rw [h1, List.length_erase_of_mem h2]
            have := List.length_pos_of_mem h2
            omega
          omega)
        refine ⟨List.nodup_cons.2 ⟨fun h => ?_, n1⟩, ?_, ?_⟩
        · have := ((n2 i).1 h).2
          rw [hself] at this; cases this
        · intro j
          rw [List.mem_cons, n2]
          constructor
          · rintro (rfl | ⟨h1, h2⟩)
            · exact ⟨hlt, hun⟩
            · refine ⟨h1, ?_⟩
              by_cases hji : i = j
              · subst hji; rw [hself] at h2; cases h2
              · rwa [getD_set_ne true hji] at h2
          · rintro ⟨h1, h2⟩
            by_cases hji : i = j
            · exact .inl hji.symm
            · exact .inr ⟨h1, by rwa [getD_set_ne true hji]⟩
        · intro pre j post p hp hop d hd
          have hno : ∀ x, listed.getD x false = true → x ∉ i :: Region.linearise.go .any ops fuel (t / (Region.ready .any ops listed).length) (listed.setIfInBounds i true) [] := by
            intro x hx hm
            have hxs : x < listed.size := by
              rcases Nat.lt_or_ge x listed.size with h | h
              · exact h
              · simp [Array.getElem?_eq_none h] at hx
            have hxt : listed.getD x true = true := by simp [hxs] at hx ⊢; exact hx
            rcases List.mem_cons.1 hm with h | h
            · subst h; rw [hxt] at hun; cases hun
            · have := ((n2 x).1 h).2
              by_cases hji : i = x
              · subst hji; rw [hself] at this; cases this
              · rw [getD_set_ne true hji, hxt] at this; cases this
          cases pre with
          | nil =>
            simp only [List.nil_append, List.cons.injEq] at hp
            obtain ⟨rfl, rfl⟩ := hp
            rw [ho] at hop; cases hop
            exact hno d (hdeps d hd)
          | cons x pre =>
            simp only [List.cons_append, List.cons.injEq] at hp
            exact n3 pre j post p hp.2 hop d hd
  have hz : ∀ i b, i < ops.size → (Array.replicate ops.size false).getD i b = false := by intro i b h; simp [h]
  obtain ⟨n1, n2, n3⟩ := key ops.size t (Array.replicate ops.size false) (by simp) (by
    intro i o ho h
    rw [hz i true (Array.getElem?_eq_some_iff.1 ho).1] at h; cases h) (by
    rw [List.filter_eq_self.2]
    · simp
    · intro i hi; rw [hz i true (List.mem_range.1 hi)]; rfl)
  unfold Region.linearise
  refine ⟨⟨ok, n1, fun i hi => ((n2 i).1 hi).1, n3, ?_, by simp, by simp, ?_⟩, fun i hi => (n2 i).2 ⟨hi, hz i true hi⟩⟩
  · intro i o ho hi
    exact absurd ((n2 i).2 ⟨(Array.getElem?_eq_some_iff.1 ho).1, hz i true (Array.getElem?_eq_some_iff.1 ho).1⟩) hi
  · intro i hi
    obtain ⟨o, ho, _⟩ := mem_actList.1 hi
    exact (n2 i).2 ⟨(Array.getElem?_eq_some_iff.1 ho).1, hz i true (Array.getElem?_eq_some_iff.1 ho).1⟩
end Go.AM
