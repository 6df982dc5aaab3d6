import Derived.Test.YtimbhlbkidmplaaDoorAbsLaw
import Derived.Test.YtimbhlbkidmplaaDoorAbsLim
import Derived.Test.YtimbhlbkidmplaaDoorRows
import Derived.LaidHandle
import Derived.LaidLaws
/-! The seat's closed facts. -/
namespace Go.Proofs.YtimbhlbkidmplaaDoor.AbsSeat
open Go Go.Abs
/-- functions that write to what was there, or hand out what they made as it lies. -/
def raws : List Nat := [12, 20, 21, 22, 28, 29, 30, 31, 32, 48, 58, 61, 69]
/-- closed functions: run in an empty heap. -/
def shuts : List Nat := [12]
/-- functions that write to what was there, and hand out trees. -/
def trims : List Nat := [48, 61]
/-- functions that hand back parts of rows that came in. -/
def eats : List Nat := [7]
noncomputable def cfg : Cfg := { P := Tryd.prog, pure := fun f => !raws.contains f, ok := fun _ => true, shut := fun f => shuts.contains f, trim := fun f => trims.contains f, eats := fun f => eats.contains f }
/-- what errors.errorType holds. -/
def ET : AV := .iface 120 (.agg [.adr ⟨2, 77, none⟩])
/-- the heap at a law's beginning. -/
def H0 : Heap := [Blk.cells (gver 0) [ET]]
theorem et : Tryd.prog.globalNamed "errors.errorType" = some 0 := by kernel_rfl
theorem rt : (Tryd.prog.cutTypes.find? (·.1 == "internal/reflectlite.rtype")).map (·.2) = some 120 := by kernel_rfl
theorem oneRow : ((List.range 179).filter fun t => Tryd.prog.rowNamed t [101, 114, 114, 111, 114]) = [77] := by kernel_rfl
theorem size : Tryd.prog.types.size = 179 := by kernel_rfl
theorem handle : typeHandle Tryd.prog 77 = .pointer (some ⟨2, 77, none⟩) := by kernel_rfl
theorem handle_of_laid {W : World} (h : laidMetH Tryd.prog [("errors.errorType", Rows.laid_errors_errorType)] W) : W.cell? ⟨0, 0, none⟩ = some (.iface 120 (.agg #[.pointer (some ⟨2, 77, none⟩)])) := by
  have h' : laidMet Tryd.prog [] W ∧ handlesMet Tryd.prog [("errors.errorType", Rows.laid_errors_errorType)] W := h
  obtain ⟨name, u, ty, e1, e2, e3, e4, e5⟩ := h'.2 _ (List.mem_singleton.2 rfl)
  have en : name = [101, 114, 114, 111, 114] := (Option.some.inj e1).symm
  subst en
  obtain rfl := Option.some.inj (rt.symm.trans e2)
  have hm : ty ∈ (List.range 179).filter fun t => Tryd.prog.rowNamed t [101, 114, 114, 111, 114] := List.mem_filter.2 ⟨List.mem_range.2 (by rw [← size]; exact e3), e4⟩
  rw [oneRow] at hm
  obtain rfl := List.mem_singleton.1 hm
  rw [handle] at e5
  simpa using World.var?_cell et e5 0
theorem et_rel (E : Env) : VRel E ET (.iface 120 (.agg #[.pointer (some ⟨2, 77, none⟩)])) := .iface _ _ _ (.agg _ _ rfl fun j hj => match j, hj with | 0, _ => .adr _)
theorem own : ownKnob Tryd.prog.godebug = none := by kernel_rfl
theorem laidOut : laidOutB Tryd.prog = true := by kernel_rfl
theorem countB : (Tryd.prog.funcs.all fun fn => !(fn.name == "runtime.NumGoroutine")) = true := by kernel_rfl
theorem regsB : (Tryd.prog.funcs.all fun fn => match fn.body with | some c => regsOk c | none => true) = true := by kernel_rfl
theorem fits : Fits cfg where
  noCount f fn h := by
    have h1 := countB
    rw [Array.all_eq_true_iff_forall_mem] at h1
    have h2 := h1 fn (Array.mem_of_getElem? h)
    simpa using h2
  mixed := Tryd.checked.mixed
  regs f fn c _ h hb := by
    have h1 := regsB
    rw [Array.all_eq_true_iff_forall_mem] at h1
    have h2 := h1 fn (Array.mem_of_getElem? h)
    rw [hb] at h2; exact h2
end Go.Proofs.YtimbhlbkidmplaaDoor.AbsSeat
