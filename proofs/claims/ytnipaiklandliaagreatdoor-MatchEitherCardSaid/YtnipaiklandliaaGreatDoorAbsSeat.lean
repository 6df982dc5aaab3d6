import Derived.Test.YtnipaiklandliaaGreatDoorAbsLaw
import Derived.Test.YtnipaiklandliaaGreatDoorAbsLim
import Derived.Test.YtnipaiklandliaaGreatDoorRows
import Derived.LaidHandle
import Derived.LaidLaws
/-! The seat's closed facts. -/
namespace Go.Proofs.YtnipaiklandliaaGreatDoor.AbsSeat
open Go Go.Abs
/-- functions that write to what was there, or hand out what they made as it lies. -/
def raws : List Nat := [9, 18, 22, 32, 33, 40, 42, 43, 47, 58, 66, 67, 73, 79, 80, 82, 95, 96, 97, 98, 99, 100, 101, 102, 116, 129, 130, 136, 138, 147, 152, 155, 156, 163, 164, 168, 171, 172, 173, 176, 177, 184, 186, 193, 194, 199, 200, 203, 226]
/-- closed functions: run in an empty heap. -/
def shuts : List Nat := [9, 18, 22, 47, 58, 67, 82]
/-- functions that write to what was there, and hand out trees. -/
def trims : List Nat := [147, 152, 171, 172, 173, 186, 193, 194, 199, 200, 203]
/-- functions that hand back parts of rows that came in. -/
def eats : List Nat := [8, 20]
noncomputable def cfg : Cfg := { P := Tryz.prog, pure := fun f => !raws.contains f, ok := fun _ => true, shut := fun f => shuts.contains f, trim := fun f => trims.contains f, eats := fun f => eats.contains f }
/-- what errors.errorType holds. -/
def ET : AV := .iface 260 (.agg [.adr ⟨4, 76, none⟩])
/-- the heap at a law's beginning. -/
def H0 : Heap := [Blk.cells (gver 1) [ET]]
theorem et : Tryz.prog.globalNamed "errors.errorType" = some 1 := by kernel_rfl
theorem rt : (Tryz.prog.cutTypes.find? (·.1 == "internal/reflectlite.rtype")).map (·.2) = some 260 := by kernel_rfl
theorem oneRow : ((List.range 320).filter fun t => Tryz.prog.rowNamed t [101, 114, 114, 111, 114]) = [76] := by kernel_rfl
theorem size : Tryz.prog.types.size = 320 := by kernel_rfl
theorem handle : typeHandle Tryz.prog 76 = .pointer (some ⟨4, 76, none⟩) := by kernel_rfl
theorem handle_of_laid {W : World} (h : laidMetH Tryz.prog [("errors.errorType", Rows.laid_errors_errorType)] W) : W.cell? ⟨1, 0, none⟩ = some (.iface 260 (.agg #[.pointer (some ⟨4, 76, none⟩)])) := by
  have h' : laidMet Tryz.prog [] W ∧ handlesMet Tryz.prog [("errors.errorType", Rows.laid_errors_errorType)] W := h
  obtain ⟨name, u, ty, e1, e2, e3, e4, e5⟩ := h'.2 _ (List.mem_singleton.2 rfl)
  have en : name = [101, 114, 114, 111, 114] := (Option.some.inj e1).symm
  subst en
  obtain rfl := Option.some.inj (rt.symm.trans e2)
  have hm : ty ∈ (List.range 320).filter fun t => Tryz.prog.rowNamed t [101, 114, 114, 111, 114] := List.mem_filter.2 ⟨List.mem_range.2 (by rw [← size]; exact e3), e4⟩
  rw [oneRow] at hm
  obtain rfl := List.mem_singleton.1 hm
  rw [handle] at e5
  simpa using World.var?_cell et e5 0
theorem et_rel (E : Env) : VRel E ET (.iface 260 (.agg #[.pointer (some ⟨4, 76, none⟩)])) := .iface _ _ _ (.agg _ _ rfl fun j hj => match j, hj with | 0, _ => .adr _)
theorem own : ownKnob Tryz.prog.godebug = none := by kernel_rfl
theorem laidOut : laidOutB Tryz.prog = true := by kernel_rfl
theorem countB : (Tryz.prog.funcs.all fun fn => !(fn.name == "runtime.NumGoroutine")) = true := by kernel_rfl
theorem regsB : (Tryz.prog.funcs.all fun fn => match fn.body with | some c => regsOk c | none => true) = true := by kernel_rfl
theorem fits : Fits cfg where
  noCount f fn h := by
    have h1 := countB
    rw [Array.all_eq_true_iff_forall_mem] at h1
    have h2 := h1 fn (Array.mem_of_getElem? h)
    simpa using h2
  mixed := Tryz.checked.mixed
  regs f fn c _ h hb := by
    have h1 := regsB
    rw [Array.all_eq_true_iff_forall_mem] at h1
    have h2 := h1 fn (Array.mem_of_getElem? h)
    rw [hb] at h2; exact h2
end Go.Proofs.YtnipaiklandliaaGreatDoor.AbsSeat
