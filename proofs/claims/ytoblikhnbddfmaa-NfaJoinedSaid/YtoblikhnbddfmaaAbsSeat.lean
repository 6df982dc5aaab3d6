import Derived.Test.YtoblikhnbddfmaaAbsLaw
import Derived.Test.YtoblikhnbddfmaaAbsLim
import Derived.Test.YtoblikhnbddfmaaRows
/-! The seat's closed facts. -/
namespace Go.Proofs.Ytoblikhnbddfmaa.AbsSeat
open Go Go.Abs
/-- functions that write to what was there, or hand out what they made as it lies. -/
def raws : List Nat := [13, 14, 19, 24, 28, 30, 42, 54, 57, 58, 62, 63, 70, 71, 73, 78, 79, 82, 83, 84, 85, 86, 87, 90, 91, 96, 97, 102, 103, 104, 105, 106, 107, 108, 109, 111, 112, 115, 116, 117, 118, 119, 121, 125, 126, 129, 130, 131, 132]
/-- closed functions: run in an empty heap. -/
def shuts : List Nat := [19, 24, 42, 97]
/-- functions that write to what was there, and hand out trees. -/
def trims : List Nat := [57, 58, 82, 83, 84, 85, 102, 103, 115, 116, 117, 118, 125, 126, 129, 130, 131, 132]
/-- functions that hand back parts of rows that came in. -/
def eats : List Nat := [77]
noncomputable def cfg : Cfg := { P := Try.prog, pure := fun f => !raws.contains f, ok := fun _ => true, shut := fun f => shuts.contains f, trim := fun f => trims.contains f, eats := fun f => eats.contains f }
theorem own : ownKnob Try.prog.godebug = none := by kernel_rfl
theorem laidOut : laidOutB Try.prog = true := by kernel_rfl
theorem countB : (Try.prog.funcs.all fun fn => !(fn.name == "runtime.NumGoroutine")) = true := by kernel_rfl
theorem regsB : (Try.prog.funcs.all fun fn => match fn.body with | some c => regsOk c | none => true) = true := by kernel_rfl
theorem fits : Fits cfg where
  noCount f fn h := by
    have h1 := countB
    rw [Array.all_eq_true_iff_forall_mem] at h1
    have h2 := h1 fn (Array.mem_of_getElem? h)
    simpa using h2
  mixed := Try.checked.mixed
  regs f fn c _ h hb := by
    have h1 := regsB
    rw [Array.all_eq_true_iff_forall_mem] at h1
    have h2 := h1 fn (Array.mem_of_getElem? h)
    rw [hb] at h2; exact h2
end Go.Proofs.Ytoblikhnbddfmaa.AbsSeat
