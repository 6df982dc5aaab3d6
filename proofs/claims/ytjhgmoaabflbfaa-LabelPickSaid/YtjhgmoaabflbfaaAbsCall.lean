import Derived.Test.YtjhgmoaabflbfaaAbsCode
/-! A call: the abstract one is what Go's comes to. -/
namespace Go.Abs
open Go

/-- while nobody writes below 'base' -/
def Env.shut (E : Env) (base : Nat) : Env := { E with ip := base }

theorem KeepAll.shut {E : Env} {base : Nat} (h : E.ip ≤ base) : KeepAll E (E.shut base) :=
  ⟨⟨fun _ hi => ⟨⟨hi.1, fun ⟨b, h1, h2, h3⟩ => hi.2 ⟨b, Nat.le_trans h h1, h2, h3⟩⟩, rfl⟩⟩, Nat.le_refl _, fun _ v' cs' _ h => ⟨v', cs', h, Nat.le_refl _, fun _ => rfl⟩, fun _ es' _ h => ⟨⟨es', h⟩, rfl⟩, fun _ cc _ z h => ⟨cc, z, h, rfl⟩⟩

theorem HRel.shut {E : Env} (hE : HRel E) {base : Nat} (h : E.ip ≤ base) : HRel (E.shut base) :=
  .mk' (fun _ _ hb ha => let ⟨o, ho, hr⟩ := hE.blk hb ha; ⟨o, ho, hr.mono (KeepAll.shut h)⟩) hE.inj hE.ge hE.lo

theorem snap_ok {E : Env} (hE : HRel E) (hip : E.ip ≤ E.H.length) : ∀ {l l' : List AV} {a : List Value} {b : Bool}, snap E.H l = some (l', b) → LRel E l a.toArray →
    LRel (E.shut E.H.length) l' a.toArray ∧ (b = false → l' = l)
  | [], l', a, b, h, hl => by
    simp only [snap, Option.some.injEq, Prod.mk.injEq] at h
    obtain ⟨rfl, rfl⟩ := h
    exact ⟨hl.mono (KeepAll.shut hip), fun _ => rfl⟩
  | v :: r, l', a, b, h, hl => by
    rw [LRel.list] at hl
    cases a with
    | nil => simp at hl
    | cons u a =>
      have hv := hl.2 0
      simp only [List.getD_cons_zero] at hv
      have hr : LRel E r a.toArray := LRel.list.2 ⟨by simpa using hl.1, fun j => by simpa using hl.2 (j + 1)⟩
      have other : (snap E.H r).map (fun (l, b) => (v :: l, b)) = some (l', b) → LRel (E.shut E.H.length) l' (u :: a).toArray ∧ (b = false → l' = v :: r) := by
        intro h
        simp only [Option.map_eq_some_iff, Prod.mk.injEq] at h
        obtain ⟨⟨l1, b1⟩, h1, rfl, rfl⟩ := h
        obtain ⟨h2, h3⟩ := snap_ok hE hip h1 hr
        exact ⟨.cons (hv.mono (KeepAll.shut hip)) h2, fun hb => by rw [h3 hb]⟩
      cases v with
      | bs s =>
        simp only [snap] at h
        split at h
        case isFalse => cases h
        rename_i hcond
        obtain ⟨h0, hag⟩ := hcond
        simp only [Option.bind_eq_some_iff] at h
        obtain ⟨cs, hcs, w, hwin, h⟩ := h
        split at h
        case isFalse => cases h
        rename_i hpl
        simp only [Option.map_eq_some_iff, Prod.mk.injEq] at h
        obtain ⟨⟨l1, b1⟩, h1, rfl, rfl⟩ := h
        obtain ⟨h2, _⟩ := snap_ok hE hip h1 hr
        refine ⟨.cons ?_ h2, fun hb => by cases hb⟩
        cases hv with
        | bs _ ad c hb hvr hlc hx h' =>
          obtain ⟨ha, _⟩ := h' cs hcs
          have hES := hE.shut hip
          have hca : CellsAt (E.shut E.H.length) (E.ρ s.b).1 ((E.ρ s.b).2 + s.off) w := (hES.cellsAt (b := s.b) (ver := s.ver) hcs).win hwin
          have hleaf := win_leaf (hE.leaf hcs) hwin
          rw [ha]
          refine tree_ok h0 hag (win_spec hwin).2.2 hca hpl (fun v hv => List.all_eq_true.1 hleaf v hv) ⟨hE.lt (.inl ⟨_, _, alive_of_hget hcs⟩), ?_⟩ hlc (fun hq => by cases hq)
          rintro ⟨b, h3, h4, _⟩
          have := alive_lt h4
          simp only [Env.shut] at h3 this
          omega
      | _ => exact other h

section
variable {C : Cfg}

/-- what is asked of the program, once: closed facts. -/
structure Fits (C : Cfg) : Prop where
  noCount : NoCount C.P
  mixed : C.P.follows .mixedOrders = true
  regs : ∀ (f : FuncId) (fn : Func) (c : Code), C.ok f = true → C.P.funcs[f]? = some fn → fn.body = some c → regsOk c = true

theorem aBody_ok (hF : Fits C) {call : CallT} (hcall : CallOk C.P call) {N prot : Nat} {f : FuncId} {fn : Func} {c : Code} (hok : C.ok f = true) (hfn : C.P.funcs[f]? = some fn) (hb : fn.body = some c)
    {E : Env} {args : List AV} {args' : Array Value} {r : AV} {H' : Heap} (hE : HRel E) (hip : E.ip ≤ prot) (ha : LRel E args args') (h : aBody C.P call (iter N) prot fn c args E.H = some (r, H')) :
    Calls C.P f args' E.w fun e w' => ∃ v' E', e = .returned v' ∧ E'.w = w' ∧ E'.H = H' ∧ HRel E' ∧ Step prot E E' ∧ VRel E' r v' := by
  unfold aBody at h
  simp only [Option.bind_eq_some_iff] at h
  obtain ⟨⟨e, fr, H1⟩, h1, h⟩ := h
  dsimp only at h
  refine calls_of_wp hfn hb ?_
  have hf0 : LRel E (args ++ List.replicate (fn.ntmps - args.length) (.tup [])) (args' ++ Array.replicate (fn.ntmps - args'.size) undef) := by
    have e1 : args.length = args'.size := ha.1
    rw [e1]
    refine ha.append (.of (by simp) fun j hj => ?_)
    have hj' : j < fn.ntmps - args'.size := by simpa using hj
    rw [Array.getD_eq_getD_getElem?, Array.getElem?_replicate, if_pos hj']
    simp only [List.getElem_replicate, Option.getD_some]
    exact .undef E
  refine wp_mono (aCode_ok (P := C.P) (call := call) (prot := prot) (N := N) hF.noCount hcall hF.mixed c (hF.regs f fn c hok hfn hb) E _ { tmps := args' ++ Array.replicate (fn.ntmps - args'.size) undef, defers := [] } e fr H1 hE hip hf0 h1) ?_
  intro ex a w' hp
  obtain ⟨hex, E', rfl, rfl, hE', hst, hf, hd⟩ := hp
  have fin : (aResults C.P fr E'.H fn.results.toList).map (fun l => (packR l, E'.H)) = some (r, H') → a.defers = [] ∧ ∃ v, (results fn a.tmps).run C.P E'.w = .ok v E'.w ∧ ∃ v' E2, Ending.returned v = .returned v' ∧ E2.w = E'.w ∧ E2.H = H' ∧ HRel E2 ∧ Step prot E E2 ∧ VRel E2 r v' := by
    intro h
    simp only [Option.map_eq_some_iff, Prod.mk.injEq] at h
    obtain ⟨vs, hvs, rfl, rfl⟩ := h
    obtain ⟨v', h2, h3⟩ := results_ok (P := C.P) hE' hf hvs
    exact ⟨hd, v', h2, v', E', rfl, rfl, rfl, hE', hst, h3⟩
  subst hex
  cases e with
  | exit id => cases h
  | normal => exact fin h
  | ret => exact fin h

theorem idxByte_run (P : Program) (w : World) (s : List UInt8) (c : Int) : (Extern.BytealgIndexByte.indexByte #[.string ⟨s.toArray⟩, .int .u8 c]).run P w = .ok (.int .i64 (idxByte s c.toNat.toUInt8)) w := by
  have h0 : Extern.BytealgIndexByte.indexByte #[.string ⟨s.toArray⟩, .int .u8 c] = (match (List.range (ByteArray.mk s.toArray).size).find? fun i => (ByteArray.mk s.toArray)[i]! == c.toNat.toUInt8 with
    | some i => pure (goInt i)
    | none => pure (goInt (-1))) := rfl
  have e : (fun i => (⟨s.toArray⟩ : ByteArray)[i]! == c.toNat.toUInt8) = fun i => s.getD i 0 == c.toNat.toUInt8 := by
    funext i
    congr 1
    by_cases hi : i < s.length
    · rw [getElem!_pos _ _ (by exact hi)]
      show s.toArray[i] = _
      simp [List.getD, hi]
    · rw [getElem!_neg _ _ (by exact hi)]
      simp [List.getD, hi]; rfl
  have e2 : (ByteArray.mk s.toArray).size = s.length := rfl
  rw [h0, e, e2]
  unfold idxByte
  cases (List.range s.length).find? fun i => s.getD i 0 == c.toNat.toUInt8 <;> rfl
theorem aExt_ok {P : Program} (hN : NoCount P) {f : FuncId} {fn : Func} (hfn : P.funcs[f]? = some fn) (hb : fn.body = none) {E : Env} {H : Heap} (hEH : E.H = H) (hE : HRel E) {prot : Nat} {args : List AV} {args' : Array Value} (ha : LRel E args args') {v : AV}
    (h : aExt fn args = some v) : ∃ v' E', (callFunc f args').run P E.w = .ok (.value v') E'.w ∧ E'.H = (none : Option Heap).getD H ∧ HRel E' ∧ Step prot E E' ∧ VRel E' v v' := by
  unfold aExt at h
  split at h
  case isFalse hno =>
    split at h
    case isFalse => cases h
    rename_i hn
    split at h
    case h_2 => cases h
    rename_i x
    simp only [Option.some.injEq] at h
    subst h
    obtain ⟨x', rfl, hx⟩ := ha.single
    have h1 : Extern.findNext fn = none := by
      simp only [Extern.findNext, hn.1, hn.2]
      kernel_rfl
    have h2 : Extern.find fn = some Extern.AbiNoEscape.same := by
      simp only [Extern.find, hn.1, hn.2]
      kernel_rfl
    refine ⟨x', E, ?_, hEH, hE, Step.refl _ _, hx⟩
    have h3 : (Extern.AbiNoEscape.same #[x']).run P E.w = .ok x' E.w := rfl
    simp only [callFunc, Sem.run_bind, run_program, Result.andThen_ok, hfn, hN _ _ hfn, Bool.false_eq_true, if_false, hb, Option.isNone_none, if_true, run_mark, h1, h2, h3, Sem.run_pure]
  rename_i hn
  split at h
  case h_2 => cases h
  rename_i s c
  simp only [Option.some.injEq] at h
  subst h
  obtain ⟨x', y', rfl, hx, hy⟩ := ha.two
  cases hx
  cases hy
  have h1 : Extern.findNext fn = none := by
    simp only [Extern.findNext, hn.1, hn.2]
    kernel_rfl
  have h2 : Extern.find fn = some Extern.BytealgIndexByte.indexByte := by
    simp only [Extern.find, hn.1, hn.2]
    kernel_rfl
  refine ⟨.int .i64 (idxByte s c.toNat.toUInt8), E, ?_, hEH, hE, Step.refl _ _, .int _ _⟩
  have h3 : (Extern.BytealgIndexByte.indexByte #[.string ⟨s.toArray⟩, .int .u8 c]).run P E.w = .ok (.int .i64 (idxByte s c.toNat.toUInt8)) E.w := by
    exact idxByte_run P E.w s c
  simp only [callFunc, Sem.run_bind, run_program, Result.andThen_ok, hfn, hN _ _ hfn, Bool.false_eq_true, if_false, hb, Option.isNone_none, if_true, run_mark, h1, h2, h3, Sem.run_pure]

theorem aCall_ok (hF : Fits C) : ∀ k, CallOk C.P (aCall C k) := by
  intro k
  induction k with
  | zero => intro prot f args H r h hh; simp [aCall] at hh
  | succ k ih =>
    intro prot f args H r h hh
    simp only [aCall] at hh
    split at hh
    · cases hh
    rename_i hok
    simp only [Bool.not_eq_false] at hok
    simp only [Option.bind_eq_some_iff] at hh
    obtain ⟨fn, hfn, hh⟩ := hh
    cases hb : fn.body with
    | none =>
      simp only [hb, Option.map_eq_some_iff] at hh
      obtain ⟨v, hv, hh⟩ := hh
      simp only [Prod.mk.injEq] at hh
      obtain ⟨rfl, rfl⟩ := hh
      exact .inr ⟨fn, hfn, hb, fun E args' hEH hE hip ha => aExt_ok hF.noCount hfn hb hEH hE ha hv⟩
    | some c =>
    simp only [hb] at hh
    refine .inl ⟨fn, c, hfn, hb, fun E args' hEH hE hip ha => ?_⟩
    subst hEH
    split at hh
    · -- what came in stays, trees come out
      split at hh
      case isFalse => cases hh
      rename_i hpl
      simp only [Option.bind_eq_some_iff] at hh
      obtain ⟨⟨args1, sn⟩, hsn, ⟨r1, H1⟩, hbody, r2, hfr, hh⟩ := hh
      dsimp only at hbody hfr hh
      have hipH : E.ip ≤ E.H.length := Nat.le_trans hip hpl
      have ha' : LRel E args args'.toList.toArray := by simpa using ha
      obtain ⟨hsnap, hsnf⟩ := snap_ok hE hipH hsn ha'
      -- the callee's surroundings: where trees were made of rows that came in, nobody writes below
      obtain ⟨ip0, hip0, hip0', hargs0, hflag⟩ : ∃ ip0, E.ip ≤ ip0 ∧ ip0 ≤ E.H.length ∧ LRel (E.shut ip0) args1 args' ∧ (sn = true ∨ ip0 = E.ip) := by
        cases sn with
        | true => exact ⟨E.H.length, hipH, Nat.le_refl _, by simpa using hsnap, .inl rfl⟩
        | false =>
          refine ⟨E.ip, Nat.le_refl _, hipH, ?_, .inr rfl⟩
          rw [hsnf rfl]
          exact ha.mono (KeepAll.shut (Nat.le_refl _))
      have hE0 := hE.shut hip0
      have hrun := aBody_ok hF ih hok hfn hb (E := E.shut ip0) (prot := E.H.length) hE0 hip0' hargs0 hbody
      refine hrun.mono ?_
      rintro e w' ⟨v', E1, rfl, rfl, rfl, hE1, hst, hv⟩
      have hkeepH : ∀ b, b < E.H.length → E1.H[b]? = E.H[b]? ∧ E1.ρ b = E.ρ b ∧ (alive E.H b → E1.w.heap[(E.ρ b).1]? = E.w.heap[(E.ρ b).1]?) := fun b hb => hst.prot b hb hb
      have hal1 : ∀ b, alive E.H b → alive E1.H b := fun b hb => by
        unfold alive at *; rw [(hkeepH b (alive_lt hb)).1]; exact hb
      -- behind the call
      let E2 : Nat → Env := fun ip => { ρ := E.ρ, H := E.H, w := E1.w, ip := ip, lo := E.lo }
      have hkeep : KeepAll E (E2 E.ip) := by
        refine ⟨⟨fun cb hi => ?_⟩, Nat.le_refl _, fun _ v' cs' _ h => ⟨v', cs', h, Nat.le_refl _, fun _ => rfl⟩, fun _ es' _ h => ⟨⟨es', h⟩, rfl⟩, fun cb cc e z h => hst.shape cb cc e z h⟩
        have h0 : Imm (E.shut ip0) cb := ((KeepAll.shut hip0).imm cb hi).1
        exact ⟨⟨Nat.lt_of_lt_of_le hi.1 hst.size, hi.2⟩, (hst.imm cb h0).2⟩
      have hH2 : HRel (E2 E.ip) := by
        refine .mk' (fun b blk hb ha => ?_) hE.inj hE.ge (Nat.le_trans hE.lo hst.size)
        obtain ⟨o, ho, hr⟩ := hE.blk hb ha
        exact ⟨o, by rw [← ho]; exact (hkeepH b (alive_lt ha)).2.2 ha, hr.mono hkeep⟩
      have hstep : Step prot E (E2 E.ip) := ⟨Nat.le_refl _, hkeep.cell, hkeep.map, hkeep.imm, hkeep.shape,
        fun b _ hl => ⟨rfl, rfl, (hkeepH b hl).2.2⟩, hst.size, hst.os, hst.tape, hst.output, rfl, rfl⟩
      have hfz : FrzOk E1 (E2 ip0) E.H.length := by
        refine ⟨rfl, ⟨fun cb hi => ⟨⟨hi.1, ?_⟩, rfl⟩⟩, fun b hb ha => ⟨hE1.lt ha, ?_⟩⟩
        · rintro ⟨b, h1, h2, h3⟩
          refine hi.2 ⟨b, ?_, hal1 b h2, ?_⟩
          · rw [hst.ip]; exact h1
          · rw [(hkeepH b (alive_lt h2)).2.1]; exact h3
        · rintro ⟨b2, h1, h2, h3⟩
          have hlt := alive_lt h2
          have := hE1.inj b2 b (hal1 b2 h2) ha (by rw [(hkeepH b2 hlt).2.1]; exact h3)
          simp only [E2] at hlt
          omega
      obtain ⟨hr2, _, _⟩ := (frP_ok hE1 hfz _).1 _ _ _ hv hfr
      have hfin : ∀ h, h = none → VRel (E2 E.ip) r2 v' → ∃ v'' E', Ending.returned v' = .returned v'' ∧ E'.w = E1.w ∧ E'.H = Option.getD h E.H ∧ HRel E' ∧ Step prot E E' ∧ VRel E' r2 v'' := by
        intro h hn hv2
        subst hn
        exact ⟨v', E2 E.ip, rfl, rfl, rfl, hH2, hstep, hv2⟩
      split at hh
      · split at hh
        case isFalse => cases hh
        rename_i hfl
        simp only [Option.some.injEq, Prod.mk.injEq] at hh
        obtain ⟨rfl, rfl⟩ := hh
        exact hfin _ rfl (flat_rel hr2 hfl)
      · rename_i hsnn
        simp only [Option.some.injEq, Prod.mk.injEq] at hh
        obtain ⟨rfl, rfl⟩ := hh
        have : ip0 = E.ip := by
          rcases hflag with h | h
          · exact absurd h hsnn
          · exact h
        subst this
        exact hfin _ rfl hr2
    · split at hh
      · -- in an empty heap
        split at hh
        case isFalse => cases hh
        rename_i hpl
        simp only [Option.bind_eq_some_iff] at hh
        obtain ⟨⟨r1, H1⟩, hbody, hh⟩ := hh
        dsimp only at hh
        split at hh
        case isFalse => cases hh
        rename_i hfl
        simp only [Option.some.injEq, Prod.mk.injEq] at hh
        obtain ⟨rfl, rfl⟩ := hh
        let E0 : Env := { ρ := E.ρ, H := [], w := E.w, ip := 0, lo := E.w.heap.size }
        have hno : ∀ b, ¬ alive E0.H b := by
          rintro b (⟨v, cs, h⟩ | ⟨es, h⟩) <;> simp [E0] at h
        have hE0 : HRel E0 := .mk' (fun b _ _ ha => (hno b ha).elim) (fun b _ ha => (hno b ha).elim) (fun b ha => (hno b ha).elim) (Nat.le_refl _)
        have him : ∀ cb, cb < E.w.heap.size → Imm E0 cb := fun cb h => ⟨h, fun ⟨b, _, ha, _⟩ => hno b ha⟩
        have hk0 : Keep E E0 := ⟨fun cb hi => ⟨him cb hi.1, rfl⟩⟩
        have ha0 : LRel E0 args args' := by
          exact .of ha.1 fun j hj => (ha.get j hj).plain hk0 (plL_get hpl j hj)
        refine (aBody_ok hF ih hok hfn hb (E := E0) (prot := 0) hE0 (Nat.le_refl _) ha0 hbody).mono ?_
        rintro e w' ⟨v', E1, rfl, rfl, rfl, hE1, hst, hv⟩
        have hsame : ∀ cb, cb < E.w.heap.size → E1.w.heap[cb]? = E.w.heap[cb]? := fun cb h => (hst.imm cb (him cb h)).2
        let E2 : Env := { ρ := E.ρ, H := E.H, w := E1.w, ip := E.ip, lo := E.lo }
        have hkeep : KeepAll E E2 := by
          refine ⟨⟨fun cb hi => ⟨⟨Nat.lt_of_lt_of_le hi.1 hst.size, hi.2⟩, hsame cb hi.1⟩⟩, Nat.le_refl _, fun _ v' cs' _ h => ⟨v', cs', h, Nat.le_refl _, fun _ => rfl⟩, fun _ es' _ h => ⟨⟨es', h⟩, rfl⟩, fun cb cc e z h => hst.shape cb cc e z h⟩
        have hH2 : HRel E2 := by
          refine .mk' (fun b blk hb ha => ?_) hE.inj hE.ge (Nat.le_trans hE.lo hst.size)
          obtain ⟨o, ho, hr⟩ := hE.blk hb ha
          exact ⟨o, by rw [← ho]; exact hsame _ (hE.lt ha), hr.mono hkeep⟩
        exact ⟨v', E2, rfl, rfl, rfl, hH2, ⟨Nat.le_refl _, hkeep.cell, hkeep.map, hkeep.imm, hkeep.shape,
          fun b _ hl => ⟨rfl, rfl, fun ha => hsame _ (hE.lt ha)⟩, hst.size, hst.os, hst.tape, hst.output, rfl, rfl⟩, flat_rel hv hfl⟩
      · simp only [Option.map_eq_some_iff, Prod.mk.injEq] at hh
        obtain ⟨⟨r1, H1⟩, hbody, rfl, rfl⟩ := hh
        exact aBody_ok hF ih hok hfn hb hE hip ha hbody

end
end Go.Abs
