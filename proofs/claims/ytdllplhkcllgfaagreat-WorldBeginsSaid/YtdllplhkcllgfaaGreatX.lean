/- The functions without a body are what they are said to be; the program's order. Nothing is assumed. -/
import Derived.Test.YtdllplhkcllgfaaGreatW0
set_option maxRecDepth 1000000
namespace Go.Proofs.YtdllplhkcllgfaaGreat
open Go.AM

theorem mixed : P.follows .mixedOrders = true := by kernel_rfl

def XAt (f : FuncId) (k : XKind) : Prop := ∃ fn e, P.funcs[f]? = some fn ∧ (fn.name == "runtime.NumGoroutine") = false ∧ fn.body.isNone = true ∧ Extern.findNext fn = none ∧ Extern.find fn = some e ∧ XFn k e
theorem x107 : XAt 107 .store := ⟨Tryz.f107, Extern.Atomic.storeT, Tryz.func107, by kernel_rfl, by kernel_rfl, by rfl, by rfl, rfl⟩
theorem x185 : XAt 185 (.load .i32) := ⟨Tryz.f185, Extern.Atomic.loadT (.int .i32), Tryz.func185, by kernel_rfl, by kernel_rfl, by rfl, by rfl, rfl⟩
theorem x186 : XAt 186 .store := ⟨Tryz.f186, Extern.Atomic.storeT, Tryz.func186, by kernel_rfl, by kernel_rfl, by rfl, by rfl, rfl⟩
theorem x202 : XAt 202 (.add .i32) := ⟨Tryz.f202, Extern.Atomic.update (Op.intArith .add) .i32 true, Tryz.func202, by kernel_rfl, by kernel_rfl, by rfl, by rfl, rfl⟩
theorem x251 : XAt 251 (.load .u32) := ⟨Tryz.f251, Extern.Atomic.loadT (.int .u32), Tryz.func251, by kernel_rfl, by kernel_rfl, by rfl, by rfl, rfl⟩
theorem x262 : XAt 262 (.cas .u32) := ⟨Tryz.f262, Extern.Atomic.casT (.int .u32), Tryz.func262, by kernel_rfl, by kernel_rfl, by rfl, by rfl, rfl⟩
theorem x290 : XAt 290 (.add .u64) := ⟨Tryz.f290, Extern.Atomic.update (Op.intArith .add) .u64 true, Tryz.func290, by kernel_rfl, by kernel_rfl, by rfl, by rfl, rfl⟩
theorem x383 : XAt 383 (.load .u64) := ⟨Tryz.f383, Extern.Atomic.loadT (.int .u64), Tryz.func383, by kernel_rfl, by kernel_rfl, by rfl, by rfl, rfl⟩
theorem x405 : XAt 405 .mark0 := ⟨Tryz.f405, fun _ => do mark .disable; pure Extern.Race.none_, Tryz.func405, by kernel_rfl, by kernel_rfl, by rfl, by rfl, ⟨_, rfl⟩⟩
theorem x406 : XAt 406 (.cas .i32) := ⟨Tryz.f406, Extern.Atomic.casT (.int .i32), Tryz.func406, by kernel_rfl, by kernel_rfl, by rfl, by rfl, rfl⟩
theorem x407 : XAt 407 .mark0 := ⟨Tryz.f407, fun _ => do mark .enable; pure Extern.Race.none_, Tryz.func407, by kernel_rfl, by kernel_rfl, by rfl, by rfl, ⟨_, rfl⟩⟩
theorem x408 : XAt 408 .marked := ⟨Tryz.f408, Extern.Race.marked .acquire, Tryz.func408, by kernel_rfl, by kernel_rfl, by rfl, by rfl, ⟨_, rfl⟩⟩
theorem x410 : XAt 410 .marked := ⟨Tryz.f410, Extern.Race.marked .releaseMerge, Tryz.func410, by kernel_rfl, by kernel_rfl, by rfl, by rfl, ⟨_, rfl⟩⟩
theorem x412 : XAt 412 .mclone := ⟨Tryz.f412, Extern.MapsClone.clone, Tryz.func412, by kernel_rfl, by kernel_rfl, by rfl, by rfl, rfl⟩
theorem xok : XOk P xs := by
  intro f k h
  unfold xs at h
  split at h
  · injection h with h; subst h; exact x107
  · injection h with h; subst h; exact x185
  · injection h with h; subst h; exact x186
  · injection h with h; subst h; exact x202
  · injection h with h; subst h; exact x251
  · injection h with h; subst h; exact x262
  · injection h with h; subst h; exact x290
  · injection h with h; subst h; exact x383
  · injection h with h; subst h; exact x405
  · injection h with h; subst h; exact x406
  · injection h with h; subst h; exact x407
  · injection h with h; subst h; exact x408
  · injection h with h; subst h; exact x410
  · injection h with h; subst h; exact x412
  · cases h
end Go.Proofs.YtdllplhkcllgfaaGreat
