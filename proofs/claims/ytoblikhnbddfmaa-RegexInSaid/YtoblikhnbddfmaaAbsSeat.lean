import Derived.Test.YtoblikhnbddfmaaAbsLaw
import Derived.Test.YtoblikhnbddfmaaAbsLim
import Derived.Test.YtoblikhnbddfmaaRows
/-! The seat's closed facts. -/
namespace Go.Proofs.Ytoblikhnbddfmaa.AbsSeat
open Go Go.Abs
/-- functions that write to what was there, or hand out what they made as it lies. -/
def raws : List Nat := [13, 14, 19, 24, 28, 30, 40, 42, 47, 54, 57, 58, 62, 63, 64, 65, 70, 71, 73, 78, 79, 82, 83, 84, 85, 86, 87, 90, 91, 96, 101, 102, 103, 104, 105, 106, 107, 108, 109, 111, 112, 115, 116, 117, 118, 119, 121, 125, 126, 129, 130, 131, 132]
/-- closed functions: run in an empty heap. -/
def shuts : List Nat := [19, 24, 42]
noncomputable def cfg : Cfg := { P := Try.prog, pure := fun f => !raws.contains f, ok := fun _ => true, shut := fun f => shuts.contains f }
theorem own : ownKnob Try.prog.godebug = none := by kernel_rfl
theorem laidOut : laidOutB Try.prog = true := by kernel_rfl
theorem countB : (Try.prog.funcs.all fun fn => !(fn.name == "runtime.NumGoroutine")) = true := by kernel_rfl
theorem regsB : (Try.prog.funcs.all fun fn => match fn.body with | some c => regsOk c | none => true) = true := by kernel_rfl
theorem fits : Fits cfg where
  noCount f fn h := by
    have h1 := countB
    rw [Array.all_eq_true_iff_forall_mem] at h1
    have h2 := h1 fn (Array.mem_of_getElem? h)
    simpa using h2
  mixed := Try.checked.mixed
  regs f fn c _ h hb := by
    have h1 := regsB
    rw [Array.all_eq_true_iff_forall_mem] at h1
    have h2 := h1 fn (Array.mem_of_getElem? h)
    rw [hb] at h2; exact h2
end Go.Proofs.Ytoblikhnbddfmaa.AbsSeat
