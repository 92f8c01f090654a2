/- The law's own part, as the kernel carries it out: from the comparison of the clients' number on. Nothing is assumed. -/
import Derived.Test.YtdllplhkcllgfaaGreatW0
set_option maxRecDepth 1000000
namespace Go.Proofs.YtdllplhkcllgfaaGreat
open Go.AM

/-- What is known of the numbers: which worlds there may not be. -/
def qLow : List Fact := [.bin .lss (.sym 0) (.int .i64 1) (.bool true)]
def qHigh : List Fact := [.bin .lss (.sym 0) (.int .i64 1) (.bool false), .bin .gtr (.sym 0) (.int .i64 4) (.bool true)]
def qRoom : List Fact := [.bin .lss (.sym 0) (.int .i64 1) (.bool false), .bin .gtr (.sym 0) (.int .i64 4) (.bool false), .bin .lss (.sym 9) (.int .i64 1) (.bool true)]
/-- .. and which there may be: with k clients. -/
def qIn (k : Nat) : List Fact :=
  [.bin .lss (.sym 0) (.int .i64 1) (.bool false), .bin .gtr (.sym 0) (.int .i64 4) (.bool false), .bin .lss (.sym 9) (.int .i64 1) (.bool false)] ++
  (List.range (k+1)).map (fun i => .bin .lss (.int .i64 (.ofNat i)) (.sym 0) (.bool (Nat.blt i k))) ++
  [.mm false (.sym 7) (.int .i64 1024) (.sym 10), .mm true (.int .i64 1) (.sym 10) (.sym 11), .bin .geq (.sym 0) (.int .i64 (.ofNat k)) (.bool true), .bin .lss (.sym 0) (.int .i64 0) (.bool false)]

noncomputable def withF (q : List Fact) (c : Cfg) : Cfg := ⟨c.frames, ⟨c.heap.t, c.heap.next, q⟩⟩
noncomputable def pa (c : Option Cfg) : Option (AFrame × List AFrame × FuncId × List AV × H) := ob c fun c => pausedA P xs c
/-- Behind a call: its value, the heap. -/
noncomputable def after (v : H → AV × H) (c : Option Cfg) : Option Cfg :=
  ob (pa c) fun r => ob (finishA (v r.2.2.2.2).1 r.1) fun a' => some ⟨a' :: r.2.1, (v r.2.2.2.2).2⟩
noncomputable def on (n : Nat) (c : Option Cfg) : Option Cfg := ob c fun c => stepsR P xs mem n c
noncomputable def ends (c : Option Cfg) : Option (Bool × Option AV) := ob c fun c => some (doneA c, answerA P 3 c)
noncomputable def calls (c : Option Cfg) : Option (FuncId × List AV × Option AObj) := ob (pa c) fun r => some (r.2.2.1, r.2.2.2.1, r.2.2.2.2.get 634)

noncomputable def vNil : H → AV × H := fun h => (.nils, h)
noncomputable def vNew (bs : List AV) : H → AV × H := fun h => (.sliceS h.next 0 13, h.new (.cells bs none false))
noncomputable def A1 (k : Nat) : Option Cfg := on 27 (some (withF (qIn k) L6))
noncomputable def N2 (k : Nat) (m : Nat) : Option Cfg := on m (after vNil (A1 k))
noncomputable def B2 (k : Nat) (bs : List AV) : Option Cfg := on 14 (after (vNew bs) (A1 k))
noncomputable def B3 (k : Nat) (bs : List AV) (m : Nat) : Option Cfg := on m (after (vNew bs) (B2 k bs))
theorem low_ends : ends (on 55 (some (withF qLow L6))) = some (true, some (.bool true)) := by kernel_rfl
theorem high_ends : ends (on 55 (some (withF qHigh L6))) = some (true, some (.bool true)) := by kernel_rfl
theorem room_ends : ends (on 55 (some (withF qRoom L6))) = some (true, some (.bool true)) := by kernel_rfl
end Go.Proofs.YtdllplhkcllgfaaGreat
