import Derived.Test.YtnipaiklandliaaGreatDoorAbsLaw
import Derived.Test.YtnipaiklandliaaGreatDoorAbsLim
import Derived.Test.YtnipaiklandliaaGreatDoorAbsOwn
import Derived.Test.YtnipaiklandliaaGreatDoorRows
import Derived.LaidHandle
import Derived.LaidLaws
namespace Go.Proofs.YtnipaiklandliaaGreatDoor.AbsSeat
open Go Go.Abs
def raws : List Nat := [9, 18, 22, 32, 33, 40, 42, 43, 47, 58, 59, 66, 67, 73, 79, 80, 82, 95, 96, 97, 98, 99, 100, 101, 102, 116, 129, 130, 136, 138, 147, 152, 155, 156, 163, 164, 168, 171, 172, 173, 176, 177, 184, 186, 193, 194, 199, 200, 203, 226]
def shuts : List Nat := [9, 18, 22, 47, 58, 67, 82]
def trims : List Nat := [147, 152, 171, 172, 173, 186, 193, 194, 199, 200, 203]
def eats : List Nat := [8, 20]
def ren156 : Go.Shelf.Ren := ⟨fun | 156 => 59 | 165 => 79 | 166 => 42 | 169 => 43 | 240 => 73 | 241 => 116 | 276 => 112 | 277 => 149 | n => n, fun | 31 => 106 | 9 => 9 | 3 => 3 | 4 => 4 | 0 => 0 | 20 => 20 | 72 => 74 | 76 => 80 | 70 => 71 | 37 => 72 | 75 => 76 | 127 => 124 | 164 => 164 | 5 => 5 | 80 => 33 | n => n, fun | n => n⟩
theorem lays156 : Go.Proofs.Lays.n156 Tryz.prog ren156 where
 mixed := by kernel_rfl
 f156 := Tryz.func59.trans (congrArg some (by kernel_rfl))
 f165 := Tryz.func79.trans (congrArg some (by kernel_rfl))
 f166 := Tryz.func42.trans (congrArg some (by kernel_rfl))
 f169 := Tryz.func43.trans (congrArg some (by kernel_rfl))
 f240 := Tryz.func73.trans (congrArg some (by kernel_rfl))
 f241 := Tryz.func116.trans (congrArg some (by kernel_rfl))
 f276 := Tryz.func112.trans (congrArg some (by kernel_rfl))
 f277 := Tryz.func149.trans (congrArg some (by kernel_rfl))
 t0 := Tryz.underlying0
 a0 := Tryz.isAgg0
 z0 := Tryz.sizeOf0
 v0 := Tryz.zeroValue0
 t3 := Tryz.underlying3
 a3 := Tryz.isAgg3
 z3 := Tryz.sizeOf3
 v3 := Tryz.zeroValue3
 t4 := Tryz.underlying4
 a4 := Tryz.isAgg4
 z4 := Tryz.sizeOf4
 v4 := Tryz.zeroValue4
 t9 := Tryz.underlying9
 a9 := Tryz.isAgg9
 z9 := Tryz.sizeOf9
 v9 := Tryz.zeroValue9
 t20 := Tryz.underlying20
 a20 := Tryz.isAgg20
 z20 := Tryz.sizeOf20
 v20 := Tryz.zeroValue20
 t31 := Tryz.underlying106
 a31 := Tryz.isAgg106
 z31 := Tryz.sizeOf106
 v31 := Tryz.zeroValue106
 t37 := Tryz.underlying72
 a37 := Tryz.isAgg72
 z37 := Tryz.sizeOf72
 v37 := Tryz.zeroValue72
 t70 := Tryz.underlying71
 a70 := Tryz.isAgg71
 z70 := Tryz.sizeOf71
 v70 := Tryz.zeroValue71
 t72 := Tryz.underlying74
 a72 := Tryz.isAgg74
 z72 := Tryz.sizeOf74
 v72 := Tryz.zeroValue74
 t75 := Tryz.underlying76
 a75 := Tryz.isAgg76
 z75 := Tryz.sizeOf76
 v75 := Tryz.zeroValue76
 t76 := Tryz.underlying80
 a76 := Tryz.isAgg80
 z76 := Tryz.sizeOf80
 v76 := Tryz.zeroValue80
 t127 := Tryz.underlying124
 a127 := Tryz.isAgg124
 z127 := Tryz.sizeOf124
 v127 := Tryz.zeroValue124
 t164 := Tryz.underlying164
 a164 := Tryz.isAgg164
 z164 := Tryz.sizeOf164
 v164 := Tryz.zeroValue164
theorem extra156 : Go.Proofs.Builder.Extra Tryz.prog ren156 where
 sizeBuilder := by kernel_rfl
 liesBuilder := by kernel_rfl
 t5 := Tryz.underlying5
 a5 := Tryz.isAgg5
 z5 := Tryz.sizeOf5
 v5 := Tryz.zeroValue5
 infoByte := by kernel_rfl
 cellsByte := by kernel_rfl
 sizeByte := by kernel_rfl
 neB5 := by decide
theorem joinBody : Tryz.f59.body.isSome = true := by kernel_rfl
noncomputable def cfg : Cfg := { P := Tryz.prog, pure := fun f => !raws.contains f, ok := fun f => f != 59, shut := fun f => shuts.contains f, trim := fun f => trims.contains f, eats := fun f => eats.contains f, own := joinOwn 59 }
def ET : AV := .iface 260 (.agg [.adr ⟨4, 76, none⟩])
def H0 : Heap := [Blk.cells (gver 1) [ET]]
theorem et : Tryz.prog.globalNamed "errors.errorType" = some 1 := by kernel_rfl
theorem rt : (Tryz.prog.cutTypes.find? (·.1 == "internal/reflectlite.rtype")).map (·.2) = some 260 := by kernel_rfl
theorem oneRow : ((List.range 320).filter fun t => Tryz.prog.rowNamed t [101, 114, 114, 111, 114]) = [76] := by kernel_rfl
theorem size : Tryz.prog.types.size = 320 := by kernel_rfl
theorem handle : typeHandle Tryz.prog 76 = .pointer (some ⟨4, 76, none⟩) := by kernel_rfl
theorem handle_of_laid {W : World} (h : laidMetH Tryz.prog [("errors.errorType", Rows.laid_errors_errorType)] W) : W.cell? ⟨1, 0, none⟩ = some (.iface 260 (.agg #[.pointer (some ⟨4, 76, none⟩)])) := by
 have h' : laidMet Tryz.prog [] W ∧ handlesMet Tryz.prog [("errors.errorType", Rows.laid_errors_errorType)] W := h
 obtain ⟨name, u, ty, e1, e2, e3, e4, e5⟩ := h'.2 _ (List.mem_singleton.2 rfl)
 have en : name = [101, 114, 114, 111, 114] := (Option.some.inj e1).symm
 subst en
 obtain rfl := Option.some.inj (rt.symm.trans e2)
 have hm : ty ∈ (List.range 320).filter fun t => Tryz.prog.rowNamed t [101, 114, 114, 111, 114] := List.mem_filter.2 ⟨List.mem_range.2 (by rw [← size]; exact e3), e4⟩
 rw [oneRow] at hm
 obtain rfl := List.mem_singleton.1 hm
 rw [handle] at e5
 simpa using World.var?_cell et e5 0
theorem et_rel (E : Env) : VRel E ET (.iface 260 (.agg #[.pointer (some ⟨4, 76, none⟩)])) := .iface _ _ _ (.agg _ _ rfl fun j hj => match j, hj with | 0, _ => .adr _)
theorem own : ownKnob Tryz.prog.godebug = none := by kernel_rfl
theorem laidOut : laidOutB Tryz.prog = true := by kernel_rfl
theorem countB : (Tryz.prog.funcs.all fun fn => !(fn.name == "runtime.NumGoroutine")) = true := by kernel_rfl
theorem regsB : (Tryz.prog.funcs.all fun fn => match fn.body with | some c => regsOk c | none => true) = true := by kernel_rfl
theorem fits : Fits cfg where
 noCount f fn h := by
  have h1 := countB
  rw [Array.all_eq_true_iff_forall_mem] at h1
  have h2 := h1 fn (Array.mem_of_getElem? h)
  simpa using h2
 mixed := Tryz.checked.mixed
 own := by
  obtain ⟨c, hc⟩ := Option.isSome_iff_exists.1 joinBody
  exact joinOwn_ok lays156 extra156 Tryz.func59 hc
 regs f fn c _ h hb := by
  have h1 := regsB
  rw [Array.all_eq_true_iff_forall_mem] at h1
  have h2 := h1 fn (Array.mem_of_getElem? h)
  rw [hb] at h2; exact h2
end Go.Proofs.YtnipaiklandliaaGreatDoor.AbsSeat

