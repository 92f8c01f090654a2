/- WorldBegins, called with any numbers and any levels: true; what was there is as it was. Nothing is assumed. -/
import Derived.Test.YtdllplhkcllgfaaGreatW
import Derived.Test.YtdllplhkcllgfaaGreatKn
import Derived.Test.YtdllplhkcllgfaaGreatClone
import Derived.Test.YtdllplhkcllgfaaGreatLawK
set_option maxRecDepth 1000000
namespace Go.Proofs.YtdllplhkcllgfaaGreat
open Go.AM Go.RowKit

/-- What the open values are. -/
def env (a pc rm : Int) (lv s2 s3 s4 s5 s6 s8 : Value) (n : Nat) : Nat → Option Value
  | 0 => some (.int .i64 a) | 1 => some lv | 2 => some s2 | 3 => some s3 | 4 => some s4 | 5 => some s5 | 6 => some s6 | 7 => some (.int .i64 pc) | 8 => some s8 | 9 => some (.int .i64 rm)
  | 10 => some (.int .i64 (mmF false pc 1024)) | 11 => some (.int .i64 (mmF true 1 (mmF false pc 1024))) | 13 => some (.int .i64 (.ofNat n))
  | _ => none

theorem ends_of {c : Option Cfg} (h : ends c = some (true, some (.bool true))) : ∃ c', c = some c' ∧ doneA c' = true ∧ answerA P 3 c' = some (.bool true) := by
  obtain ⟨c', rfl, h2⟩ := ob_some' h
  injection h2 with h2
  injection h2 with h3 h4
  exact ⟨c', rfl, h3, h4⟩
theorem calls_of {c : Option Cfg} {g : FuncId} {args : List AV} {o : Option AObj} (h : calls c = some (g, args, o)) : ∃ c' a al hp, c = some c' ∧ pausedA P xs c' = some (a, al, g, args, hp) ∧ hp.get 634 = o := by
  obtain ⟨r, h1, h2⟩ := ob_some' h
  obtain ⟨c', rfl, h3⟩ := ob_some' h1
  injection h2 with h2
  injection h2 with h4 h5
  injection h5 with h5 h6
  obtain ⟨a, al, g', args', hp⟩ := r
  simp only at h4 h5 h6
  subst h4 h5
  exact ⟨c', a, al, hp, rfl, h3, h6⟩
theorem after_of {c1 : Cfg} {c : Cfg} {v : H → AV × H} {a : AFrame} {al : List AFrame} {g : FuncId} {args : List AV} {hp : H} (hpa : pausedA P xs c1 = some (a, al, g, args, hp)) (h : after v (some c1) = some c) :
    ∃ a', finishA (v hp).1 a = some a' ∧ c = ⟨a' :: al, (v hp).2⟩ := by
  obtain ⟨r, h1, h2⟩ := ob_some' h
  obtain ⟨c', h3, h4⟩ := ob_some' h1
  injection h3 with h3; subst h3
  rw [hpa] at h4; injection h4 with h4; subst h4
  obtain ⟨a', h5, h6⟩ := ob_some' h2
  injection h6 with h6
  exact ⟨a', h5, h6.symm⟩
theorem on_of {n : Nat} {c : Option Cfg} {c' : Cfg} (h : on n c = some c') : ∃ c1, c = some c1 ∧ stepsR P xs mem n c1 = some c' := ob_some' h

section
variable {w0 : World} {a pc rm : Int} {lv s2 s3 s4 s5 s6 s8 : Value} {n : Nat}
abbrev Old (w : World) : Nat → Prop := fun k => k < w.heap.size

/-- slices.Clone of nil. -/
theorem contract_nil (hp : H) (w : World) : Contract (Old w0) w0 P (env a pc rm (.slice none 0 0) s2 s3 s4 s5 s6 s8 n) (env a pc rm (.slice none 0 0) s2 s3 s4 s5 s6 s8 n) w 29 [.sym 1] hp .nils hp := by
  intro M xs hE hr ha
  obtain ⟨x, hx, rfl⟩ := trs1 ha
  simp only [AV.tr, hE, env] at hx
  injection hx with hx; subst hx
  refine (clone_nil 0 0 w).mono ?_
  rintro e w' ⟨rfl, rfl⟩
  exact ⟨_, M, rfl, hE, LaterG.refl _ _, hr, rfl⟩

/-- What slices.Clone makes gets a name. -/
theorem named {M : Mp} {hp : H} {w w' : World} {v' : Value} {zs : List Int} (hr : HRel (Old w0) w0 M hp w) (hE : M.env 13 = some (.int .i64 (.ofNat zs.length)))
    (hown : w'.ownsRow w.heap.size 5 1 v' zs.length (zs.map (Value.int .u8))) (hne : v' ≠ .slice none 0 0) (hb : Below w.heap.size w w') :
    ∃ M', M'.env = M.env ∧ LaterG hp M (hp.new (.cells (zs.map (AV.int .u8)) none false)) M' ∧ HRel (Old w0) w0 M' (hp.new (.cells (zs.map (AV.int .u8)) none false)) w' ∧ (AV.sliceS hp.next 0 13).tr M' = some v' := by
  rcases hown.2 with ⟨h1, _⟩ | ⟨g, cap, cur, rfl, hg, hob, hn, _, hsz, htake⟩
  · exact absurd h1 hne
  · refine ⟨M.set hp.next ⟨g, 0, cap⟩, rfl, LaterG.named hr _ _, hr.named hb hg hob ?_, ?_⟩
    · refine ⟨cur, 5, (0, 0), rfl, fun i av hi => ?_, ⟨by simp; omega, trivial⟩, .inl (Nat.le_refl _)⟩
      rw [List.getElem?_map] at hi
      cases hz : zs[i]? with
      | none => rw [hz] at hi; cases hi
      | some z =>
        rw [hz] at hi
        injection hi with hi; subst hi
        refine ⟨.int .u8 z, ?_, rfl⟩
        have hlt := (List.getElem?_eq_some_iff.1 hz).1
        have : (cur.toList.take (zs.length * 1))[i]? = some (.int .u8 z) := by rw [htake, List.getElem?_map, hz]; rfl
        rw [List.getElem?_take_of_lt (by omega)] at this
        simpa using this
    · simp [AV.tr, Mp.set, hE]

theorem zs_one (zs : List Int) : ∀ u ∈ zs.map (Value.int .u8), u.oneCell' = true := by
  intro u hu
  obtain ⟨z, _, rfl⟩ := List.mem_map.1 hu
  rfl

/-- slices.Clone of what came in. -/
theorem contract_new {ad : Addr} {cap : Nat} {zs : List Int} (hbig : zs.length ≤ 140737488355328) (hc : ∀ i z, zs[i]? = some z → w0.cell? (ad.add i) = some (.int .u8 z)) (hp : H) (w : World) :
    Contract (Old w0) w0 P (env a pc rm (.slice (some ad) zs.length cap) s2 s3 s4 s5 s6 s8 zs.length) (env a pc rm (.slice (some ad) zs.length cap) s2 s3 s4 s5 s6 s8 zs.length) w 29 [.sym 1] hp (vNew (zs.map (AV.int .u8)) hp).1 (vNew (zs.map (AV.int .u8)) hp).2 := by
  intro M xs hE hr ha
  obtain ⟨x, hx, rfl⟩ := trs1 ha
  simp only [AV.tr, hE, env] at hx
  injection hx with hx; subst hx
  refine (clone_calls ad zs.length cap (zs.map (Value.int .u8)) w (by simp) (zs_one zs) (by omega) ?_).mono ?_
  · intro j u hj
    rw [List.getElem?_map] at hj
    cases hz : zs[j]? with
    | none => rw [hz] at hj; cases hj
    | some z =>
      rw [hz] at hj
      injection hj with hj; subst hj
      rw [← hc j z hz]
      have hold : ad.block < w0.heap.size := by
        have h0 := hc j z hz
        have e : (ad.add j).block = ad.block := by unfold Addr.add; split <;> rfl
        unfold World.cell? at h0
        rw [e] at h0
        cases hb : w0.heap[ad.block]? with
        | none => rw [hb] at h0; cases h0
        | some o => exact (Array.getElem?_eq_some_iff.1 hb).1
      have hk := hr.keep ad.block hold
      have e : (ad.add j).block = ad.block := by unfold Addr.add; split <;> rfl
      exact World.cell?_of_block (by rw [e]; exact hk)
  · rintro e w' ⟨v', rfl, hown, hne, hb⟩
    obtain ⟨M', h1, h2, h3, h4⟩ := named hr (by rw [hE]; rfl) hown hne hb
    exact ⟨v', M', rfl, h1.trans hE, h2, h3, h4⟩

/-- slices.Clone of what it made. -/
theorem contract_again {zs : List Int} (hbig : zs.length ≤ 140737488355328) (hp : H) (hget : hp.get 634 = some (.cells (zs.map (AV.int .u8)) none false)) (w : World) :
    Contract (Old w0) w0 P (env a pc rm lv s2 s3 s4 s5 s6 s8 zs.length) (env a pc rm lv s2 s3 s4 s5 s6 s8 zs.length) w 29 [.sliceS 634 0 13] hp (vNew (zs.map (AV.int .u8)) hp).1 (vNew (zs.map (AV.int .u8)) hp).2 := by
  intro M xs hE hr ha
  obtain ⟨x, hx, rfl⟩ := trs1 ha
  obtain ⟨p, n', hat, hen, rfl⟩ := tr_sliceS hx
  rw [hE] at hen
  simp only [env] at hen
  injection hen with hen
  injection hen with _ hen
  injection hen with hen
  subst hen
  refine (clone_calls ⟨p.blk, p.base + 0, none⟩ zs.length p.cap (zs.map (Value.int .u8)) w (by simp) (zs_one zs) (by omega) ?_).mono ?_
  · intro j u hj
    rw [List.getElem?_map] at hj
    cases hz : zs[j]? with
    | none => rw [hz] at hj; cases hj
    | some z =>
      rw [hz] at hj
      injection hj with hj; subst hj
      obtain ⟨v, h1, h2⟩ := hr.cell hget hat (i := j) (av := .int .u8 z) (by rw [List.getElem?_map, hz]; rfl)
      have := tr_int (M := M) h2
      subst this
      rw [Addr.add_lit, Nat.add_zero]
      exact h1
  · rintro e w' ⟨v', rfl, hown, hne, hb⟩
    obtain ⟨M', h1, h2, h3, h4⟩ := named hr (by rw [hE]; rfl) hown hne hb
    exact ⟨v', M', rfl, h1.trans hE, h2, h3, h4⟩

/-! The law. -/
variable {m : Machine} {cs : List Frame} {E : Nat → Option Value}

theorem with_facts {q : List Fact} (hr : AM.Reach (Old w0) w0 P m cs L6 E) (hq : ∀ f ∈ q, f.Ok E) : AM.Reach (Old w0) w0 P m cs (withF q L6) E := by
  have h : AM.Reach (Old w0) w0 P m cs ⟨L6.frames, ⟨L6.heap.t, L6.heap.next, L6.heap.facts⟩⟩ E := hr
  exact h.facts hq

theorem l_enter : enterA P 3 [.agg [.sym 0, .sym 1, .sym 2, .sym 3, .sym 4, .sym 5, .sym 6, .sym 7, .sym 8, .sym 9]] .normal = some fr0 := by kernel_rfl

def Good (w0 : World) (m : Machine) (cs : List Frame) (E : Nat → Option Value) : Prop := ∃ c', AM.Reach (Old w0) w0 P m cs c' E ∧ doneA c' = true ∧ answerA P 3 c' = some (.bool true)

theorem good_out {q : List Fact} {k : Nat} (hr : AM.Reach (Old w0) w0 P m cs L6 E) (hq : ∀ f ∈ q, f.Ok E) (h : ends (on k (some (withF q L6))) = some (true, some (.bool true))) : Good w0 m cs E := by
  obtain ⟨c', h1, h2, h3⟩ := ends_of h
  obtain ⟨c1, h4, h5⟩ := on_of h1
  injection h4 with h4; subst h4
  exact ⟨c', (with_facts hr hq).steps xok mixed memOk h5, h2, h3⟩

theorem good_nil {k j : Nat} (hr : AM.Reach (Old w0) w0 P m cs L6 (env a pc rm (.slice none 0 0) s2 s3 s4 s5 s6 s8 n)) (hq : ∀ f ∈ qIn k, f.Ok (env a pc rm (.slice none 0 0) s2 s3 s4 s5 s6 s8 n))
    (hf : calls (A1 k) = some (29, [.sym 1], none)) (h : ends (N2 k j) = some (true, some (.bool true))) : Good w0 m cs (env a pc rm (.slice none 0 0) s2 s3 s4 s5 s6 s8 n) := by
  obtain ⟨c1, fa, al, hp, h1, h2, _⟩ := calls_of hf
  obtain ⟨c0, h3, h4⟩ := on_of h1
  injection h3 with h3; subst h3
  obtain ⟨c', h5, h6, h7⟩ := ends_of h
  obtain ⟨c2, h8, h9⟩ := on_of h5
  rw [h1] at h8
  obtain ⟨a', h10, rfl⟩ := after_of h2 h8
  exact ⟨c', (((with_facts hr hq).steps xok mixed memOk h4).called xok h2 (contract_nil hp) h10).steps xok mixed memOk h9, h6, h7⟩

theorem good_new {ad : Addr} {cap k j : Nat} {zs : List Int} (hbig : zs.length ≤ 140737488355328) (hc : ∀ i z, zs[i]? = some z → w0.cell? (ad.add i) = some (.int .u8 z))
    (hr : AM.Reach (Old w0) w0 P m cs L6 (env a pc rm (.slice (some ad) zs.length cap) s2 s3 s4 s5 s6 s8 zs.length)) (hq : ∀ f ∈ qIn k, f.Ok (env a pc rm (.slice (some ad) zs.length cap) s2 s3 s4 s5 s6 s8 zs.length))
    (hf : calls (A1 k) = some (29, [.sym 1], none)) (hs : ∀ bs, calls (B2 k bs) = some (29, [.sliceS 634 0 13], some (.cells bs none false))) (h : ∀ bs, ends (B3 k bs j) = some (true, some (.bool true))) :
    Good w0 m cs (env a pc rm (.slice (some ad) zs.length cap) s2 s3 s4 s5 s6 s8 zs.length) := by
  obtain ⟨c1, fa, al, hp, h1, h2, _⟩ := calls_of hf
  obtain ⟨c0, h3, h4⟩ := on_of h1
  injection h3 with h3; subst h3
  obtain ⟨c3, fa3, al3, hp3, k1, k2, k3⟩ := calls_of (hs (zs.map (AV.int .u8)))
  obtain ⟨c2, h8, h9⟩ := on_of k1
  rw [h1] at h8
  obtain ⟨a', h10, rfl⟩ := after_of h2 h8
  obtain ⟨c', h5, h6, h7⟩ := ends_of (h (zs.map (AV.int .u8)))
  obtain ⟨c4, k8, k9⟩ := on_of h5
  rw [k1] at k8
  obtain ⟨a3', k10, rfl⟩ := after_of k2 k8
  exact ⟨c', (((((with_facts hr hq).steps xok mixed memOk h4).called xok h2 (contract_new hbig hc hp) h10).steps xok mixed memOk h9).called xok k2 (contract_again hbig hp3 k3) k10).steps xok mixed memOk k9, h6, h7⟩

theorem facts_in {k : Nat} (hk : 1 ≤ k ∧ k ≤ 4) (hrm : ¬ rm < 1) : ∀ f ∈ qIn k, f.Ok (env (k : Nat) pc rm lv s2 s3 s4 s5 s6 s8 n) := by
  intro f hf
  have e0 : numOf (env (k : Nat) pc rm lv s2 s3 s4 s5 s6 s8 n) (.sym 0) = some (.i64, ((k : Nat) : Int)) := rfl
  have e9 : numOf (env (k : Nat) pc rm lv s2 s3 s4 s5 s6 s8 n) (.sym 9) = some (.i64, rm) := rfl
  simp only [qIn, List.mem_append, List.mem_cons, List.mem_map, List.mem_range, List.not_mem_nil, or_false] at hf
  rcases hf with ((rfl | rfl | rfl) | ⟨i, hi, rfl⟩) | rfl | rfl | rfl | rfl
  · exact ok_lss e0 (b := 1) rfl (by simp; omega)
  · exact ok_gtr e0 (b := 4) rfl (by simp; omega)
  · exact ok_lss e9 (b := 1) rfl (by simpa using hrm)
  · refine ok_lss (x := .int .i64 (.ofNat i)) (a := (i : Nat)) (b := (k : Nat)) rfl e0 ?_
    rw [Bool.eq_iff_iff]; simp [Nat.blt_eq]
  · exact ok_mm (k := .i64) (a := pc) (b := 1024) rfl rfl rfl
  · exact ok_mm (k := .i64) (a := 1) (b := mmF false pc 1024) rfl rfl rfl
  · exact ok_geq e0 (b := (k : Nat)) rfl (by simp)
  · exact ok_lss e0 (b := 0) rfl (by simp)

theorem law_calls {w : World} {a pc rm : Int} {lv s2 s3 s4 s5 s6 s8 : Value} (i2 : isCell s2 = true) (i3 : isCell s3 = true) (i4 : isCell s4 = true) (i5 : isCell s5 = true) (i6 : isCell s6 = true) (i8 : isCell s8 = true)
    (hl : lv = .slice none 0 0 ∨ ∃ (ad : Addr) (cap : Nat) (zs : List Int), lv = .slice (some ad) zs.length cap ∧ zs.length ≤ 140737488355328 ∧ ∀ i z, zs[i]? = some z → w.cell? (ad.add i) = some (.int .u8 z)) :
    Calls P 3 #[.agg #[.int .i64 a, lv, s2, s3, s4, s5, s6, .int .i64 pc, s8, .int .i64 rm]] w fun e w' => e = .returned (.bool true) ∧ Below w.heap.size w w' := by
  have key : ∀ n, (∀ m cs, AM.Reach (Old w) w P m cs L6 (env a pc rm lv s2 s3 s4 s5 s6 s8 n) → Good w m cs (env a pc rm lv s2 s3 s4 s5 s6 s8 n)) → isCell lv = true →
      Calls P 3 #[.agg #[.int .i64 a, lv, s2, s3, s4, s5, s6, .int .i64 pc, s8, .int .i64 rm]] w fun e w' => e = .returned (.bool true) ∧ Below w.heap.size w w' := by
    intro n hgood il
    refine calls_reach (B := Old w) (w0 := w) (xs := [.agg #[.int .i64 a, lv, s2, s3, s4, s5, s6, .int .i64 pc, s8, .int .i64 rm]]) fun cs => ?_
    have hr : HRel (Old w) w ⟨fun _ => none, env a pc rm lv s2 s3 s4 s5 s6 s8 n⟩ ⟨.e, 0, []⟩ w := by
      refine ⟨?_, ?_, ?_, ?_, fun _ _ => rfl, fun k hk => hk, rfl, rfl, rfl, ?_, (fun _ hq => by cases hq)⟩
      · intro b o p _ hp; cases hp
      · intro b b' p p' hp; cases hp
      · intro b p hp; cases hp
      · intro b _; exact ⟨rfl, rfl⟩
      · intro i x hx
        have hx' : env a pc rm lv s2 s3 s4 s5 s6 s8 n i = some x := hx
        unfold env at hx'
        split at hx' <;> first | (injection hx' with hx'; subst hx'; first | rfl | assumption) | cases hx'
    have st : AM.Reach (Old w) w P (lone (Frame.enter P 3 [.agg #[.int .i64 a, lv, s2, s3, s4, s5, s6, .int .i64 pc, s8, .int .i64 rm]].toArray .normal) cs w) cs L0 (env a pc rm lv s2 s3 s4 s5 s6 s8 n)   := AM.Reach.start (g := 3) (args := [.agg [.sym 0, .sym 1, .sym 2, .sym 3, .sym 4, .sym 5, .sym 6, .sym 7, .sym 8, .sym 9]]) (fr := fr0) hr rfl l_enter cs
    obtain ⟨c', h1, h2, h3⟩ := hgood _ _ (st.runs lRuns)
    refine ⟨c', _, _, h1, h2, h3, fun M' x w' hE hr' hx => ⟨by rw [tr_bool hx], ?_⟩⟩
    refine ⟨hr'.os, hr'.tape, hr'.output, ?_, fun k hk => hr'.keep k hk⟩
    rcases Nat.lt_or_ge w'.heap.size w.heap.size with hlt | hge
    · have := hr'.size _ hlt; omega
    · exact hge
  have pick : ∀ n, isCell lv = true → (∀ k : Nat, 1 ≤ k ∧ k ≤ 4 → a = k → ¬ rm < 1 → ∀ m cs, AM.Reach (Old w) w P m cs L6 (env a pc rm lv s2 s3 s4 s5 s6 s8 n) → Good w m cs (env a pc rm lv s2 s3 s4 s5 s6 s8 n)) →
      Calls P 3 #[.agg #[.int .i64 a, lv, s2, s3, s4, s5, s6, .int .i64 pc, s8, .int .i64 rm]] w fun e w' => e = .returned (.bool true) ∧ Below w.heap.size w w' := by
    intro n il hin
    have e0 : numOf (env a pc rm lv s2 s3 s4 s5 s6 s8 n) (.sym 0) = some (.i64, a) := rfl
    have e9 : numOf (env a pc rm lv s2 s3 s4 s5 s6 s8 n) (.sym 9) = some (.i64, rm) := rfl
    refine key n (fun m cs hr => ?_) il
    by_cases h1 : a < 1
    · refine good_out hr (fun f hf => ?_) low_ends
      simp only [qLow, List.mem_cons, List.not_mem_nil, or_false] at hf
      subst hf
      exact ok_lss e0 (b := 1) rfl (by simpa using h1)
    by_cases h4 : 4 < a
    · refine good_out hr (fun f hf => ?_) high_ends
      simp only [qHigh, List.mem_cons, List.not_mem_nil, or_false] at hf
      rcases hf with rfl | rfl
      · exact ok_lss e0 (b := 1) rfl (by simpa using h1)
      · exact ok_gtr e0 (b := 4) rfl (by simpa using h4)
    by_cases hm : rm < 1
    · refine good_out hr (fun f hf => ?_) room_ends
      simp only [qRoom, List.mem_cons, List.not_mem_nil, or_false] at hf
      rcases hf with rfl | rfl | rfl
      · exact ok_lss e0 (b := 1) rfl (by simpa using h1)
      · exact ok_gtr e0 (b := 4) rfl (by simpa using h4)
      · exact ok_lss e9 (b := 1) rfl (by simpa using hm)
    · exact hin a.toNat ⟨by omega, by omega⟩ (by omega) hm m cs hr
  have four : ∀ k : Nat, 1 ≤ k ∧ k ≤ 4 → k = 1 ∨ k = 2 ∨ k = 3 ∨ k = 4 := fun k hk => by omega
  rcases hl with rfl | ⟨ad, cap, zs, rfl, hbig, hc⟩
  · refine pick 0 rfl fun k hk ha hm m cs hr => ?_
    subst ha
    rcases four k hk with rfl | rfl | rfl | rfl
    · exact good_nil hr (facts_in (k := 1) hk hm) first1 nil1
    · exact good_nil hr (facts_in (k := 2) hk hm) first2 nil2
    · exact good_nil hr (facts_in (k := 3) hk hm) first3 nil3
    · exact good_nil hr (facts_in (k := 4) hk hm) first4 nil4
  · refine pick zs.length rfl fun k hk ha hm m cs hr => ?_
    subst ha
    rcases four k hk with rfl | rfl | rfl | rfl
    · exact good_new hbig hc hr (facts_in (k := 1) hk hm) first1 second1 non1
    · exact good_new hbig hc hr (facts_in (k := 2) hk hm) first2 second2 non2
    · exact good_new hbig hc hr (facts_in (k := 3) hk hm) first3 second3 non3
    · exact good_new hbig hc hr (facts_in (k := 4) hk hm) first4 second4 non4
end
end Go.Proofs.YtdllplhkcllgfaaGreat
