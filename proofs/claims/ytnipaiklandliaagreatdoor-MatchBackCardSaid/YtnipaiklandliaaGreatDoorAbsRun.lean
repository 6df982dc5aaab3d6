import Derived.Test.YtnipaiklandliaaGreatDoorAbsIface
namespace Go.Abs
open Go
def CallOk (P : Program) (call : CallT) : Prop := ∀ prot f args H r h, call prot f args H = some (r, h) →
 (∃ fn c, P.funcs[f]? = some fn ∧ fn.body = some c ∧
  ∀ (E : Env) (args' : Array Value), E.H = H → HRel E → E.ip ≤ prot → LRel E args args' →
  Calls P f args' E.w fun e w' => ∃ v' E', e = .returned v' ∧ E'.w = w' ∧ E'.H = h.getD H ∧ HRel E' ∧ Step prot E E' ∧ VRel E' r v') ∨
 (∃ fn, P.funcs[f]? = some fn ∧ fn.body = none ∧
  ∀ (E : Env) (args' : Array Value), E.H = H → HRel E → E.ip ≤ prot → LRel E args args' →
  ∃ v' E', (callFunc f args').run P E.w = .ok (.value v') E'.w ∧ E'.H = h.getD H ∧ HRel E' ∧ Step prot E E' ∧ VRel E' r v')
def NoCount (P : Program) : Prop := ∀ (f : FuncId) (fn : Func), P.funcs[f]? = some fn → (fn.name == "runtime.NumGoroutine") = false
section
variable {P : Program} {E : Env}
def After (E : Env) (prot : Nat) (a : Act) (dst : Option Tmp) (v : AV) (h : Option Heap) (K : Act → World → Prop) : Prop :=
 ∀ E' v', E'.H = h.getD E.H → HRel E' → Step prot E E' → VRel E' v v' → K (a.put dst v') E'.w
theorem wp_value {prot : Nat} {o : Oper} {a : Act} {s : Sem Value} {r : AV} {h : Option Heap} {K : Act → World → Prop} {Q : Exit → Act → World → Prop}
  (he : execOp a.eval o = (do pure (.value (← s)))) (hout : Outcome1 P E prot s r h) (hK : After E prot a o.dst r h K) : o.wp P a E.w K Q := by
 obtain ⟨v', E', h1, h2, h3, h4, h5⟩ := hout
 unfold Oper.wp
 rw [he]
 simp only [Sem.run_bind, h1, Result.andThen_ok, Sem.run_pure, Oper.upon]
 exact hK E' v' h2 h3 h4 h5
theorem wp_unit {prot : Nat} {o : Oper} {a : Act} {s : Sem Unit} {H' : Heap} {K : Act → World → Prop} {Q : Exit → Act → World → Prop}
  (he : execOp a.eval o = (do s; pure .skip)) (hout : ∃ E', E'.H = H' ∧ HRel E' ∧ Step prot E E' ∧ s.run P E.w = .ok () E'.w) (hK : After E prot a o.dst (.tup []) (some H') K) : o.wp P a E.w K Q := by
 obtain ⟨E', h2, h3, h4, h1⟩ := hout
 unfold Oper.wp
 rw [he]
 simp only [Sem.run_bind, h1, Result.andThen_ok, Sem.run_pure, Oper.upon]
 exact hK E' undef h2 h3 h4 (.undef E')
theorem quiet_spec {v : Option AV} {r : AV} {h : Option Heap} (hq : quiet v = some (r, h)) : v = some r ∧ h = none := by
 simp only [quiet, Option.map_eq_some_iff, Prod.mk.injEq] at hq
 obtain ⟨x, hx, rfl, rfl⟩ := hq
 exact ⟨hx, rfl⟩
theorem loud_spec {v : Option Heap} {r : AV} {h : Option Heap} (hq : loud v = some (r, h)) : ∃ H', v = some H' ∧ r = .tup [] ∧ h = some H' := by
 simp only [loud, Option.map_eq_some_iff, Prod.mk.injEq] at hq
 obtain ⟨x, hx, rfl, rfl⟩ := hq
 exact ⟨x, hx, rfl, rfl⟩
theorem Outcome1.of (hE : HRel E) {prot : Nat} {s : Sem Value} {r : AV} (h : ∃ v', s.run P E.w = .ok v' E.w ∧ VRel E r v') : Outcome1 P E prot s r none :=
 let ⟨_, h1, h2⟩ := h; .quiet hE h1 h2
theorem evals_arr {fr : List AV} {a : Act} (hf : LRel E fr a.tmps) {l : Array Operand} {vs : List AV} (h : aEvals fr l.toList = some vs) : LRel E vs (l.map a.eval) := by
 have := aEvals_ok hf h
 have e : (l.toList.map a.eval).toArray = l.map a.eval := by apply Array.ext'; simp
 rw [e] at this; exact this
theorem LRel.two {x y : AV} {a : Array Value} (h : LRel E [x, y] a) : ∃ x' y', a = #[x', y'] ∧ VRel E x x' ∧ VRel E y y' := by
 obtain ⟨l⟩ := a
 match l, h with
 | [x', y'], h => exact ⟨x', y', rfl, by simpa using h.2 0, by simpa using h.2 1⟩
 | [], h => simp [LRel] at h
 | [_], h => simp [LRel] at h
 | _ :: _ :: _ :: _, h => simp [LRel] at h
theorem LRel.single {x : AV} {a : Array Value} (h : LRel E [x] a) : ∃ x', a = #[x'] ∧ VRel E x x' := by
 obtain ⟨l⟩ := a
 match l, h with
 | [x'], h => exact ⟨x', rfl, by simpa using h.2 0⟩
 | [], h => simp [LRel] at h
 | _ :: _ :: _, h => simp [LRel] at h
theorem ORel.of {fr : List AV} {a : Act} (hf : LRel E fr a.tmps) {x : Option Operand} {v : Option AV} (h : aOpt fr x = some v) : ORel E v (x.map a.eval) := by
 cases x with
 | none => simp only [aOpt, Option.some.injEq] at h; subst h; trivial
 | some x =>
  simp only [aOpt, Option.map_eq_some_iff] at h
  obtain ⟨y, hy, rfl⟩ := h
  exact aEval_ok hf hy
theorem arr2 {ts : Array TypeId} (h : ts.size = 2) : ∃ x y, ts = #[x, y] := by
 obtain ⟨l⟩ := ts
 match l, h with
 | [x, y], _ => exact ⟨x, y, rfl⟩
theorem aBuiltin_ok (hE : HRel E) {prot : Nat} {fr : List AV} {a : Act} {o : Oper} {c : Call} {b : Builtin} {args : List AV} {r : AV} {h : Option Heap} {K : Act → World → Prop} {Q : Exit → Act → World → Prop}
  (hip : E.ip ≤ prot) (ho : o.op = .call c) (hc : c.callee = .builtin b) (hf : LRel E fr a.tmps) (ha : aEvals fr c.args.toList = some args)
  (hh : aBuiltin P prot E.H b c.argTypes o.type args = some (r, h)) (hK : After E prot a o.dst r h K) : o.wp P a E.w K Q := by
 have hargs := evals_arr hf ha
 have hex : ∀ s : Sem Value, builtin b c.argTypes o.type (c.args.map fun | .const _ => true | _ => false) (c.args.map a.eval) = (do pure (.value (← s))) → execOp a.eval o = (do pure (.value (← s))) := by
  intro s hs
  rw [← hs]
  unfold execOp
  rw [ho]
  simp only [resolve, hc]
  rfl
 unfold aBuiltin at hh
 split at hh
 ·obtain ⟨s', x', e, hs, hx⟩ := hargs.two
  split at hh
  case isFalse => cases hh
  rename_i hts
  refine wp_value (hex (Builtin.append_ c.argTypes o.type (c.args.map a.eval)) rfl) ?_ hK
  rw [e]
  exact aAppend_ok hE hip hs hx hts hh
 ·obtain ⟨s', x', e, hs, hx⟩ := hargs.two
  refine wp_value (hex (Builtin.copy_ c.argTypes o.type (c.args.map a.eval)) rfl) ?_ hK
  rw [e]
  exact aCopy_ok hE hip hs hx hh
 ·obtain ⟨x', e, hx⟩ := hargs.single
  obtain ⟨hq, rfl⟩ := quiet_spec hh
  simp only [Option.bind_eq_some_iff] at hq
  obtain ⟨t, ht, hl⟩ := hq
  refine wp_value (hex (Builtin.len_ c.argTypes o.type (c.args.map a.eval)) rfl) ?_ hK
  rw [e]
  exact .of hE (aLen_ok hE ht hx hl)
 ·obtain ⟨x', e, hx⟩ := hargs.single
  obtain ⟨hq, rfl⟩ := quiet_spec hh
  simp only [Option.some.injEq] at hq
  subst hq
  refine wp_value (hex (Builtin.unsafeSliceData_ c.argTypes o.type (c.args.map a.eval)) rfl) ?_ hK
  rw [e]
  cases hx
  exact .quiet hE (v' := .pointer none) rfl .nil
 ·obtain ⟨x', e, hx⟩ := hargs.single
  split at hh
  case isFalse => cases hh
  rename_i h0
  obtain ⟨hq, rfl⟩ := quiet_spec hh
  simp only [Option.some.injEq] at hq
  subst hq
  refine wp_value (hex (Builtin.unsafeSliceData_ c.argTypes o.type (c.args.map a.eval)) rfl) ?_ hK
  rw [e]
  exact .of hE (sliceData_ok _ _ hx h0)
 ·obtain ⟨p', n', e, hp, hn⟩ := hargs.two
  obtain ⟨hq, rfl⟩ := quiet_spec hh
  split at hq
  case isFalse => cases hq
  rename_i hts
  simp only [Option.some.injEq] at hq
  subst hq
  cases hp
  cases hn
  refine wp_value (hex (Builtin.unsafeString_ c.argTypes o.type (c.args.map a.eval)) rfl) ?_ hK
  rw [e]
  obtain ⟨pt, it, hat⟩ := arr2 hts
  rw [hat]
  exact .quiet hE (v' := .string .empty) (Lib.run_unsafeString_none E.w pt it _ none) (.str [])
 ·obtain ⟨p', n', e, hp, hn⟩ := hargs.two
  split at hh
  case isFalse => cases hh
  rename_i hc
  obtain ⟨hts, rfl, hv, hpb, hn0, hn1, hc5⟩ := hc
  obtain ⟨pt, it, hat⟩ := arr2 hts
  simp only [hat, List.getElem?_toArray, List.getElem?_cons_zero, Option.bind_some] at hh
  split at hh
  case h_2 => cases hh
  rename_i e0 hpt
  split at hh
  case isFalse => cases hh
  rename_i he
  subst he
  simp only [Option.bind_eq_some_iff] at hh
  obtain ⟨cs, hcs, ws, hws, hh⟩ := hh
  split at hh
  case isFalse => cases hh
  rename_i hok
  simp only [Option.map_eq_some_iff, Prod.mk.injEq] at hh
  obtain ⟨l, hl, rfl, rfl⟩ := hh
  refine wp_value (hex (Builtin.unsafeString_ c.argTypes o.type (c.args.map a.eval)) rfl) ?_ hK
  rw [e, hat]
  cases hn
  exact unsafeString_ok hE hip hpb hp hv hc5 hpt hcs hn0 hn1 hws hok hl
 ·obtain ⟨m', e, hm⟩ := hargs.single
  obtain ⟨H', hq, rfl, rfl⟩ := loud_spec hh
  simp only [Option.bind_eq_some_iff] at hq
  obtain ⟨t, ht, d, hu, hd⟩ := hq
  obtain ⟨E', e1, e2, e3, e4⟩ := aClear_ok (P := P) (ty := o.type) hE hip ht hu hm hd
  refine wp_value (hex (Builtin.clear_ c.argTypes o.type (c.args.map a.eval)) rfl) ?_ hK
  rw [e]
  exact ⟨.tuple #[], E', e4, e1, e2, e3, .undef E'⟩
 ·obtain ⟨m', k', e, hm, hk⟩ := hargs.two
  obtain ⟨H', hq, rfl, rfl⟩ := loud_spec hh
  simp only [Option.bind_eq_some_iff] at hq
  obtain ⟨t, ht, hd⟩ := hq
  obtain ⟨E', e1, e2, e3, e4⟩ := aDelete_ok (P := P) (ty := o.type) hE hip ht hm hk hd
  refine wp_value (hex (Builtin.delete_ c.argTypes o.type (c.args.map a.eval)) rfl) ?_ hK
  rw [e]
  exact ⟨.tuple #[], E', e4, e1, e2, e3, .undef E'⟩
 ·obtain ⟨hq, rfl⟩ := quiet_spec hh
  obtain ⟨v', h1, h2⟩ := aMinMax_ok hargs hq
  rcases h1 with ⟨_, h1⟩ | ⟨hb, _⟩
  ·exact wp_value (hex (Builtin.max_ c.argTypes o.type (c.args.map a.eval)) rfl) (.quiet hE h1 h2) hK
  ·cases hb
 ·obtain ⟨hq, rfl⟩ := quiet_spec hh
  obtain ⟨v', h1, h2⟩ := aMinMax_ok hargs hq
  rcases h1 with ⟨hb, _⟩ | ⟨_, h1⟩
  ·cases hb
  ·exact wp_value (hex (Builtin.min_ c.argTypes o.type (c.args.map a.eval)) rfl) (.quiet hE h1 h2) hK
 ·cases hh
theorem aCallOp_ok (hN : NoCount P) (hE : HRel E) {call : CallT} (hcall : CallOk P call) {prot : Nat} {a : Act} {o : Oper} {c : Call} {fo : Operand} {g : FuncId} {first args caps : List AV} {args' : Array Value} {r : AV} {h : Option Heap}
  {K : Act → World → Prop} {Q : Exit → Act → World → Prop} (hip : E.ip ≤ prot) (ho : o.op = .call c) (hc : c.callee = .value fo) (hargs : LRel E args args') (hargs' : c.args.map a.eval = args')
  (hfo : VRel E (.func g first caps) (a.eval fo)) (hh : call prot g (first ++ args ++ caps) E.H = some (r, h)) (hK : After E prot a o.dst r h K) : o.wp P a E.w K Q := by
 rcases hcall _ _ _ _ _ _ hh with ⟨fn, cd, hfn, hbody, hcl⟩ | ⟨fn, hfn, hbody, hcl⟩
 case inr =>
  generalize hfe : a.eval fo = fv at hfo
  cases hfo with
  | func _ _ _ first' caps' h1 h2 hr1 hr2 =>
   obtain ⟨v', E', hrun, h3, h4, h5, h6⟩ := hcl E (first' ++ args' ++ caps') rfl hE hip (((LRel.of h1 hr1).append hargs).append (LRel.of h2 hr2))
   have hrun' : (execOp a.eval o).run P E.w = .ok (.value v') E'.w := by
    unfold execOp
    rw [ho]
    simp only [resolve, hc, hfe, hargs', Deferred.ofValue, invoke, Sem.run_bind, Sem.run_pure, Result.andThen_ok]
    exact hrun
   unfold Oper.wp
   rw [hrun']
   exact hK E' v' h3 h4 h5 h6
 generalize hfe : a.eval fo = fv at hfo
 cases hfo with
 | func _ _ _ first' caps' h1 h2 hr1 hr2 =>
  have hcl' := hcl E (first' ++ args' ++ caps') rfl hE hip (((LRel.of h1 hr1).append hargs).append (LRel.of h2 hr2))
  have hrun : (execOp a.eval o).run P E.w = .ok (.enter g (first' ++ args' ++ caps')) E.w := by
   unfold execOp
   rw [ho]
   simp only [resolve, hc, hfe, hargs', Deferred.ofValue, invoke, callFunc, Sem.run_bind, Sem.run_pure, Result.andThen_ok, run_program, hfn, hN _ _ hfn, Bool.false_eq_true, if_false, hbody, Option.isNone_some]
  unfold Oper.wp
  rw [hrun, Oper.upon_enter]
  refine hcl'.mono fun e w' he => ?_
  obtain ⟨v', E', rfl, rfl, h3, h4, h5, h6⟩ := he
  exact hK E' v' h3 h4 h5 h6
theorem callF_ok (hN : NoCount P) (hE : HRel E) {call : CallT} (hcall : CallOk P call) {prot : Nat} {a : Act} {o : Oper} {g : FuncId} {args : List AV} {args' : Array Value} {r : AV} {h : Option Heap}
  {K : Act → World → Prop} {Q : Exit → Act → World → Prop} (hip : E.ip ≤ prot) (hargs : LRel E args args') (hex : (execOp a.eval o).run P E.w = (callFunc g args').run P E.w)
  (hh : call prot g args E.H = some (r, h)) (hK : After E prot a o.dst r h K) : o.wp P a E.w K Q := by
 rcases hcall _ _ _ _ _ _ hh with ⟨fn, cd, hfn, hbody, hcl⟩ | ⟨fn, hfn, hbody, hcl⟩
 case inr =>
  obtain ⟨v', E', hrun, h3, h4, h5, h6⟩ := hcl E args' rfl hE hip hargs
  unfold Oper.wp
  rw [hex, hrun]
  exact hK E' v' h3 h4 h5 h6
 have hcl' := hcl E args' rfl hE hip hargs
 have hrun : (execOp a.eval o).run P E.w = .ok (.enter g args') E.w := by
  rw [hex]
  simp only [callFunc, Sem.run_bind, Sem.run_pure, Result.andThen_ok, run_program, hfn, hN _ _ hfn, Bool.false_eq_true, if_false, hbody, Option.isNone_some]
 unfold Oper.wp
 rw [hrun, Oper.upon_enter]
 refine hcl'.mono fun e w' he => ?_
 obtain ⟨v', E', rfl, rfl, h3, h4, h5, h6⟩ := he
 exact hK E' v' h3 h4 h5 h6
theorem aInvoke_ok (hN : NoCount P) (hE : HRel E) {call : CallT} (hcall : CallOk P call) {prot : Nat} {a : Act} {o : Oper} {c : Call} {rc : Operand} {name : String} {t : TypeId} {v r0 : AV} {f : FuncId} {args : List AV} {r : AV} {h : Option Heap}
  {K : Act → World → Prop} {Q : Exit → Act → World → Prop} (hip : E.ip ≤ prot) (ho : o.op = .call c) (hc : c.callee = .invoke rc name) (hargs : LRel E args (c.args.map a.eval))
  (hrc : VRel E (.iface t v) (a.eval rc)) (hm : aMethod P t v name = some (f, r0)) (hh : call prot f (r0 :: args) E.H = some (r, h)) (hK : After E prot a o.dst r h K) : o.wp P a E.w K Q := by
 generalize hce : a.eval rc = rv at hrc
 cases hrc with
 | iface _ _ v' hv =>
  obtain ⟨rc', h1, h2⟩ := aMethod_ok (P := P) hv hm (P.types.size + 99)
  generalize hA : c.args.map a.eval = A at hargs
  obtain ⟨l⟩ := A
  refine callF_ok hN hE hcall hip (args' := (rc' :: l).toArray) (LRel.cons h2 hargs) ?_ hh hK
  unfold execOp
  rw [ho]
  simp only [resolve, hc, hce, hA, invoke, Sem.run_bind, Sem.run_pure, Result.andThen_ok, List.append_toArray, List.singleton_append, List.getElem?_toArray, List.getElem?_cons_zero, callMethod, run_program]
  rw [show P.types.size + Made.depth = P.types.size + 99 + 1 from rfl, h1]
  simp
theorem wp_ok {prot : Nat} {o : Oper} {a : Act} {v' : Value} {r : AV} {h : Option Heap} {K : Act → World → Prop} {Q : Exit → Act → World → Prop} {E' : Env}
  (he : (execOp a.eval o).run P E.w = .ok (.value v') E'.w) (h2 : E'.H = h.getD E.H) (h3 : HRel E') (h4 : Step prot E E') (h5 : VRel E' r v') (hK : After E prot a o.dst r h K) : o.wp P a E.w K Q := by
 unfold Oper.wp
 rw [he]
 exact hK E' v' h2 h3 h4 h5
theorem parts_map (ps : Array (Nat × Operand)) (a : Act) : (ps.map fun (i, x) => (i, a.eval x)).toList = ps.toList.map fun (i, x) => (i, a.eval x) := by simp
theorem aOp_ok (hN : NoCount P) (hE : HRel E) {call : CallT} (hcall : CallOk P call) {prot : Nat} {fr : List AV} {a : Act} {o : Oper} {r : AV} {h : Option Heap} {K : Act → World → Prop}
  {Q : Exit → Act → World → Prop} (hip : E.ip ≤ prot) (hf : LRel E fr a.tmps) (hh : aOp P call prot fr o E.H = some (r, h)) (hK : After E prot a o.dst r h K) : o.wp P a E.w K Q := by
 unfold aOp at hh
 split at hh
 ·-- move
  rename_i x ho
  obtain ⟨hq, rfl⟩ := quiet_spec hh
  exact wp_ok (by unfold execOp; rw [ho]; rfl) rfl hE (Step.refl _ _) (aEval_ok hf hq) hK
 ·-- assign
  rename_i x ho
  obtain ⟨hq, rfl⟩ := quiet_spec hh
  exact wp_ok (by unfold execOp; rw [ho]; rfl) rfl hE (Step.refl _ _) (aEval_ok hf hq) hK
 ·-- pick
  rename_i c x y ho
  obtain ⟨hq, rfl⟩ := quiet_spec hh
  simp only [Option.bind_eq_some_iff] at hq
  obtain ⟨cv, hc, hq⟩ := hq
  have hcr := aEval_ok hf hc
  split at hq
  ·rename_i t
   simp only [Option.bind_eq_some_iff, Option.map_eq_some_iff] at hq
   obtain ⟨u, hu, v, hv, rfl⟩ := hq
   generalize hce : a.eval c = cv' at hcr
   cases hcr
   refine wp_ok (v' := if t then a.eval x else a.eval y) (by unfold execOp; rw [ho]; simp [hce, asBool]) rfl hE (Step.refl _ _) ?_ hK
   cases t
   ·exact aEval_ok hf hv
   ·exact aEval_ok hf hu
  ·cases hq
 ·-- alloc
  rename_i e ho
  simp only [Option.bind_eq_some_iff] at hh
  obtain ⟨z, hz, hh⟩ := hh
  split at hh
  case isFalse => cases hh
  rename_i hl
  simp only [aNew, Option.some.injEq, Prod.mk.injEq] at hh
  obtain ⟨rfl, rfl⟩ := hh
  obtain ⟨v', E', h1, h2, h3, h4, h5⟩ := alloc_ok hE prot hz hl
  exact wp_value (r := .ptr E.H.length (tagT P e) 0) (h := some (E.H ++ [Blk.cells (tagT P e) z.cells])) (s := Instr.alloc e true (.tuple #[])) (by unfold execOp; rw [ho]) ⟨v', E', h1, h2, h3, h4, h5⟩ hK
 ·-- box
  rename_i e x ho
  simp only [Option.bind_eq_some_iff] at hh
  obtain ⟨v, hv, hh⟩ := hh
  split at hh
  case isFalse => cases hh
  rename_i hl
  simp only [aNew, Option.some.injEq, Prod.mk.injEq] at hh
  obtain ⟨rfl, rfl⟩ := hh
  obtain ⟨v', E', h1, h2, h3, h4, h5⟩ := box_ok (P := P) (e := e) hE prot (aEval_ok hf hv) hl
  exact wp_value (r := .ptr E.H.length (tagT P e) 0) (h := some (E.H ++ [Blk.cells (tagT P e) v.cells])) (s := Instr.box e (a.eval x)) (by unfold execOp; rw [ho]) ⟨v', E', h1, h2, h3, h4, h5⟩ hK
 ·-- build
  rename_i t ps ho
  obtain ⟨hq, rfl⟩ := quiet_spec hh
  simp only [Option.bind_eq_some_iff] at hq
  obtain ⟨l, hl, hq⟩ := hq
  have hp := aParts_ok hf hl
  rw [← parts_map] at hp
  exact wp_value (s := Instr.build t (ps.map fun (i, x) => (i, a.eval x))) (by unfold execOp; rw [ho]) (.of hE (aBuild_ok hp hq)) hK
 ·-- buildSlice
  rename_i t n ps ho
  simp only [Option.bind_eq_some_iff] at hh
  obtain ⟨l, hl, hh⟩ := hh
  have hp := aParts_ok hf hl
  rw [← parts_map] at hp
  exact wp_value (s := Instr.buildSlice t n (ps.map fun (i, x) => (i, a.eval x))) (by unfold execOp; rw [ho]) (aBuildSlice_ok hE hp hh) hK
 ·-- load
  rename_i t x ho
  split at hh
  ·rename_i g
   obtain ⟨hq, rfl⟩ := quiet_spec hh
   exact wp_value (s := Instr.loadAt t (a.eval (.global g))) (by unfold execOp; rw [ho]) (.of hE (gload_ok hE hq)) hK
  obtain ⟨hq, rfl⟩ := quiet_spec hh
  simp only [Option.bind_eq_some_iff] at hq
  obtain ⟨v, hv, hq⟩ := hq
  exact wp_value (s := Instr.loadAt t (a.eval x)) (by unfold execOp; rw [ho]) (.of hE (aLoad_ok hE (aEval_ok hf hv) hq)) hK
 ·-- store
  rename_i t x y ho
  obtain ⟨H', hq, rfl, rfl⟩ := loud_spec hh
  simp only [Option.bind_eq_some_iff] at hq
  obtain ⟨u, hu, v, hv, hq⟩ := hq
  exact wp_unit (s := Instr.storeAt t (a.eval x) (a.eval y)) (by unfold execOp; rw [ho]) (aStore_ok hE hip (aEval_ok hf hu) (aEval_ok hf hv) hq) hK
 ·-- nilCheck
  rename_i x ho
  obtain ⟨hq, rfl⟩ := quiet_spec hh
  simp only [Option.bind_eq_some_iff] at hq
  obtain ⟨u, hu, hq⟩ := hq
  have hr := aEval_ok hf hu
  generalize hce : a.eval x = x' at hr
  have hr0 := hr
  split at hq
  ·simp only [Option.some.injEq] at hq; subst hq
   cases hr
   exact wp_ok (by unfold execOp; rw [ho]; simp only [hce]; rfl) rfl hE (Step.refl _ _) hr0 hK
  ·simp only [Option.some.injEq] at hq; subst hq
   cases hr
   exact wp_ok (by unfold execOp; rw [ho]; simp only [hce]; rfl) rfl hE (Step.refl _ _) hr0 hK
  ·cases hq
 ·-- binOp
  rename_i op t x y yt ho
  obtain ⟨hq, rfl⟩ := quiet_spec hh
  simp only [Option.bind_eq_some_iff] at hq
  obtain ⟨u, hu, v, hv, hq⟩ := hq
  exact wp_value (s := (do eqGuard op t x y (a.eval x) (a.eval y); binOp op t (a.eval x) (a.eval y))) (by unfold execOp; rw [ho]) (.of hE (aBinH_ok (aEval_ok hf hu) (aEval_ok hf hv) hq)) hK
 ·-- unOp
  rename_i op t x ho
  obtain ⟨hq, rfl⟩ := quiet_spec hh
  rw [Option.bind_eq_some_iff] at hq
  obtain ⟨u, hu, hq⟩ := hq
  exact wp_value (s := Op.unary op (a.eval x)) (by unfold execOp; rw [ho]) (.of hE (aUn_ok (aEval_ok hf hu) hq)) hK
 ·-- convert
  rename_i s d x ho
  simp only [Option.bind_eq_some_iff] at hh
  obtain ⟨u, hu, hh⟩ := hh
  exact wp_value (s := convert s d (a.eval x)) (by unfold execOp; rw [ho]) (aConvert_ok hE (aEval_ok hf hu) hh) hK
 ·-- makeInterface
  rename_i t x ho
  obtain ⟨hq, rfl⟩ := quiet_spec hh
  simp only [Option.bind_eq_some_iff] at hq
  obtain ⟨u, hu, hq⟩ := hq
  split at hq
  ·cases hq
  ·cases hq
  ·rename_i d hni hd
   simp only [Option.some.injEq] at hq; subst hq
   refine wp_value (s := Instr.makeInterface t (a.eval x)) (by unfold execOp; rw [ho]) (.quiet hE (v' := .iface t (a.eval x)) ?_ (.iface _ _ _ (aEval_ok hf hu))) hK
   simp only [Instr.makeInterface, Sem.run_bind, run_underlying hd, Result.andThen_ok]
   cases d <;> first | rfl | exact absurd rfl (hni _)
 ·-- makeFunc
  rename_i f first caps ho
  obtain ⟨hq, rfl⟩ := quiet_spec hh
  simp only [Option.bind_eq_some_iff, Option.map_eq_some_iff] at hq
  obtain ⟨u, hu, v, hv, rfl⟩ := hq
  have h1 := evals_arr hf hu
  have h2 := evals_arr hf hv
  exact wp_value (s := Instr.makeFunc (.func f) (first.map a.eval) (caps.map a.eval)) (by unfold execOp; rw [ho]) (.quiet hE (v' := .func (.func f) (first.map a.eval) (caps.map a.eval)) rfl (.func _ _ _ _ _ h1.1 h2.1 h1.get h2.get)) hK
 ·-- makeMap
  rename_i t ho
  simp only [Option.some.injEq, Prod.mk.injEq] at hh
  obtain ⟨rfl, rfl⟩ := hh
  have hB : BRel E (E.w.heap.size, 0) (.map []) (.map #[] 0) := .map [] _ (.map [] #[] 0 rfl rfl fun j h => by simp at h)
  refine wp_value (s := Instr.makeMap t none) (by unfold execOp; rw [ho]; rfl) ⟨.map (some E.w.heap.size), E.alloc (.map []) (.map #[] 0), rfl, rfl, hE.alloc _ _ hB, Step.alloc prot hE _ _, .map _ _ (by simp [Env.alloc]) fun es _ => by simp [Env.alloc, upd]⟩ hK
 ·-- makeSlice
  rename_i t l c ho
  simp only [Option.bind_eq_some_iff] at hh
  obtain ⟨u, hu, v, hv, hh⟩ := hh
  exact wp_value (s := Instr.makeSlice t (a.eval l) (a.eval c)) (by unfold execOp; rw [ho]) (aMakeSlice_ok hE (aEval_ok hf hu) (aEval_ok hf hv) hh) hK
 ·-- slice
  rename_i t x lo hi mx ho
  obtain ⟨hq, rfl⟩ := quiet_spec hh
  simp only [Option.bind_eq_some_iff] at hq
  obtain ⟨u, hu, l, hl, h', hh', m, hm, hq⟩ := hq
  exact wp_value (s := Instr.sliceAt t (a.eval x) (lo.map a.eval) (hi.map a.eval) (mx.map a.eval)) (by unfold execOp; rw [ho]) (.of hE (aSlice_ok (aEval_ok hf hu) (.of hf hl) (.of hf hh') (.of hf hm) hq)) hK
 ·-- fieldAddr
  rename_i s x f ho
  obtain ⟨hq, rfl⟩ := quiet_spec hh
  simp only [Option.bind_eq_some_iff] at hq
  obtain ⟨u, hu, hq⟩ := hq
  exact wp_value (s := Instr.fieldAt s (a.eval x) f) (by unfold execOp; rw [ho]) (.of hE ((aEval_ok hf hu).fieldAt hq)) hK
 ·-- field
  rename_i s x f ho
  obtain ⟨hq, rfl⟩ := quiet_spec hh
  simp only [Option.bind_eq_some_iff] at hq
  obtain ⟨u, hu, hq⟩ := hq
  exact wp_value (s := Instr.field s (a.eval x) f) (by unfold execOp; rw [ho]) (.of hE (aField_ok (aEval_ok hf hu) hq)) hK
 ·-- indexAddr
  rename_i t x i ho
  obtain ⟨hq, rfl⟩ := quiet_spec hh
  simp only [Option.bind_eq_some_iff] at hq
  obtain ⟨u, hu, v, hv, hq⟩ := hq
  exact wp_value (s := Instr.indexAt t (a.eval x) (a.eval i)) (by unfold execOp; rw [ho]) (.of hE (aIndexAddr_ok (aEval_ok hf hu) (aEval_ok hf hv) hq)) hK
 ·-- index
  rename_i t x i ho
  obtain ⟨hq, rfl⟩ := quiet_spec hh
  simp only [Option.bind_eq_some_iff] at hq
  obtain ⟨u, hu, v, hv, hq⟩ := hq
  exact wp_value (s := Instr.index t (a.eval x) (a.eval i)) (by unfold execOp; rw [ho]) (.of hE (aIndex_ok (aEval_ok hf hu) (aEval_ok hf hv) hq)) hK
 ·-- lookup
  rename_i t m k ok ho
  obtain ⟨hq, rfl⟩ := quiet_spec hh
  simp only [Option.bind_eq_some_iff] at hq
  obtain ⟨u, hu, v, hv, hq⟩ := hq
  exact wp_value (s := Instr.lookup t (a.eval m) (a.eval k) ok) (by unfold execOp; rw [ho]) (.of hE (aLookup_ok hE (aEval_ok hf hu) (aEval_ok hf hv) hq)) hK
 ·-- mapUpdate
  rename_i t m k x ho
  obtain ⟨H', hq, rfl, rfl⟩ := loud_spec hh
  simp only [Option.bind_eq_some_iff] at hq
  obtain ⟨u, hu, v, hv, y, hy, hq⟩ := hq
  exact wp_unit (s := Instr.mapUpdate t (a.eval m) (a.eval k) (a.eval x)) (by unfold execOp; rw [ho]) (aMapPut_ok hE hip (aEval_ok hf hu) (aEval_ok hf hv) (aEval_ok hf hy) hq) hK
 ·-- insert
  rename_i t m k x ho
  obtain ⟨H', hq, rfl, rfl⟩ := loud_spec hh
  simp only [Option.bind_eq_some_iff] at hq
  obtain ⟨u, hu, v, hv, y, hy, hq⟩ := hq
  exact wp_unit (s := Instr.mapUpdate t (a.eval m) (a.eval k) (a.eval x)) (by unfold execOp; rw [ho]) (aMapPut_ok hE hip (aEval_ok hf hu) (aEval_ok hf hv) (aEval_ok hf hy) hq) hK
 ·-- extract
  rename_i x i ho
  obtain ⟨hq, rfl⟩ := quiet_spec hh
  simp only [Option.bind_eq_some_iff] at hq
  obtain ⟨u, hu, hq⟩ := hq
  have hr := aEval_ok hf hu
  generalize hce : a.eval x = x' at hr
  split at hq
  ·rename_i xs
   cases hr with
   | tup _ cs' hl hr =>
    obtain ⟨hlt, rfl⟩ := List.getElem?_eq_some_iff.1 hq
    have h1 := hr i hlt
    refine wp_value (s := Instr.extract (a.eval x) i) (by unfold execOp; rw [ho]) (.quiet hE (v' := cs'.getD i undef) ?_ h1) hK
    rw [hce]
    simp [Instr.extract, Array.getD_eq_getD_getElem?, show i < cs'.size by omega]
  ·cases hq
 ·-- call
  rename_i c ho
  simp only [Option.bind_eq_some_iff] at hh
  obtain ⟨args, ha, hh⟩ := hh
  split at hh
  ·rename_i b hc
   exact aBuiltin_ok hE hip ho hc hf ha hh hK
  ·rename_i fo hc
   simp only [Option.bind_eq_some_iff] at hh
   obtain ⟨fv, hfv, hh⟩ := hh
   split at hh
   ·exact aCallOp_ok hN hE hcall hip ho hc (evals_arr hf ha) rfl (aEval_ok hf hfv) hh hK
   ·cases hh
  ·rename_i rc name hc
   simp only [Option.bind_eq_some_iff] at hh
   obtain ⟨fv, hfv, hh⟩ := hh
   split at hh
   ·simp only [Option.bind_eq_some_iff] at hh
    obtain ⟨⟨f, r0⟩, hm, hh⟩ := hh
    exact aInvoke_ok hN hE hcall hip ho hc (evals_arr hf ha) (aEval_ok hf hfv) hm hh hK
   ·cases hh
 ·-- typeAssert
  rename_i x xT t ok ho
  obtain ⟨hq, rfl⟩ := quiet_spec hh
  simp only [Option.bind_eq_some_iff] at hq
  obtain ⟨u, hu, hq⟩ := hq
  exact wp_value (s := Instr.typeAssert (a.eval x) xT t ok) (by unfold execOp; rw [ho]) (.of hE (aAssert_ok (aEval_ok hf hu) hq)) hK
 ·-- range
  rename_i t x ho
  simp only [Option.bind_eq_some_iff] at hh
  obtain ⟨u, hu, hh⟩ := hh
  exact wp_value (s := Instr.range t (a.eval x)) (by unfold execOp; rw [ho]) (aRange_ok hE (aEval_ok hf hu) hh) hK
 ·-- next
  rename_i x ho
  simp only [Option.bind_eq_some_iff] at hh
  obtain ⟨u, hu, hh⟩ := hh
  exact wp_value (s := Instr.next (a.eval x) true o.type) (by unfold execOp; rw [ho]) (aNext_ok hE hip (aEval_ok hf hu) hh) hK
 ·cases hh
end
end Go.Abs

