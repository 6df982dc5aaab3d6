import Derived.Test.YtnipaiklandliaaGreatDoorAbsDraw4
import Derived.Scope
namespace Go.Abs
open Go
def exOf : AExit → Exit
 | .normal => .normal
 | .exit id => .exit id
 | .ret => .ret
def CodePost (prot : Nat) (E : Env) (d : List Deferred) (e : AExit) (fr' : List AV) (H' : Heap) : Exit → Act → World → Prop := fun ex a' w' =>
 ex = exOf e ∧ ∃ E', E'.w = w' ∧ E'.H = H' ∧ HRel E' ∧ Step prot E E' ∧ LRel E' fr' a'.tmps ∧ a'.defers = d
section
variable {P : Program} {call : CallT} {prot N : Nat}
def RunOk (P : Program) (prot : Nat) (c : Code) (body : RunT) : Prop := ∀ (E : Env) (fr : List AV) (a : Act) (e : AExit) (fr' : List AV) (H' : Heap), HRel E → E.ip ≤ prot → LRel E fr a.tmps →
 body fr E.H = some (e, fr', H') → c.wp P (CodePost prot E a.defers e fr' H') a E.w
theorem CodePost.step {E E1 : Env} {d : List Deferred} {e : AExit} {fr' : List AV} {H' : Heap} (h : Step prot E E1) {ex : Exit} {a' : Act} {w' : World} (hp : CodePost prot E1 d e fr' H' ex a' w') : CodePost prot E d e fr' H' ex a' w' := by
 obtain ⟨h1, E', h2, h3, h4, h5, h6, h7⟩ := hp
 exact ⟨h1, E', h2, h3, h4, h.trans h5, h6, h7⟩
theorem iter_ok {c : Code} {body : RunT} (hb : RunOk P prot c body) : ∀ (n : Nat) (E : Env) (fr : List AV) (a : Act) (e : AExit) (fr' : List AV) (H' : Heap), HRel E → E.ip ≤ prot → LRel E fr a.tmps →
  iter n body fr E.H = some (e, fr', H') → ∀ (b : Frame) (k : List Item) (cs : List Frame),
   ∃ ex a' w', CodePost prot E a.defers e fr' H' ex a' w' ∧ Arrives P (lone (b.at a (.code c :: .inLoop c :: k)) cs E.w) b k cs ex a' w' := by
 intro n
 induction n with
 | zero => intro E fr a e fr' H' _ _ _ h; simp [iter] at h
 | succ n ih =>
  intro E fr a e fr' H' hE hip hf h b k cs
  simp only [iter, Option.bind_eq_some_iff] at h
  obtain ⟨⟨e1, fr1, H1⟩, h1, h⟩ := h
  obtain ⟨ex, a1, w1, ⟨hex, E1, rfl, rfl, hE1, hst, hf1, hd⟩, harr⟩ := hb E fr a e1 fr1 H1 hE hip hf h1 b (.inLoop c :: k) cs
  subst hex
  cases e1 with
  | normal =>
   dsimp only at h
   obtain ⟨ex2, a2, w2, hp, harr2⟩ := ih E1 fr1 a1 e fr' H' hE1 (by rw [hst.ip]; exact hip) hf1 h b k cs
   rw [hd] at hp
   exact ⟨ex2, a2, w2, hp.step hst, .of_steps (Steps.trans harr (.one step_inLoop)) harr2⟩
  | exit id =>
   simp only [Option.some.injEq, Prod.mk.injEq] at h
   obtain ⟨rfl, rfl, rfl⟩ := h
   exact ⟨_, a1, _, ⟨rfl, E1, rfl, rfl, hE1, hst, hf1, hd⟩, .pass (x := .inLoop c) rfl (fun _ _ => .inl (by simp [exOf])) harr⟩
  | ret =>
   simp only [Option.some.injEq, Prod.mk.injEq] at h
   obtain ⟨rfl, rfl, rfl⟩ := h
   exact ⟨_, a1, _, ⟨rfl, E1, rfl, rfl, hE1, hst, hf1, hd⟩, .pass (x := .inLoop c) rfl (fun _ _ => .inl (by simp [exOf])) harr⟩
theorem aCode_ok (hN : NoCount P) (hcall : CallOk P call) (hmix : P.follows .mixedOrders = true) : ∀ (c : Code), regsOk c = true → RunOk P prot c (aCode P call (iter N) prot c) := by
 intro c
 induction c with
 | skip =>
  intro _ E fr a e fr' H' hE hip hf h
  simp only [aCode, Option.some.injEq, Prod.mk.injEq] at h
  obtain ⟨rfl, rfl, rfl⟩ := h
  exact wp_skip ⟨rfl, E, rfl, rfl, hE, Step.refl _ _, hf, rfl⟩
 | region id ops draw =>
  intro hreg E fr a e fr' H' hE hip hf h
  simp only [aCode] at h
  cases draw with
  | false =>
   simp only [Bool.false_eq_true, if_false, Option.map_eq_some_iff, Prod.mk.injEq] at h
   obtain ⟨⟨f1, H1⟩, hs, rfl, rfl, rfl⟩ := h
   refine wp_region ?_
   have := aSeq_ok (Q := CodePost prot E a.defers .normal f1 H1) hN hcall ops.toList 0 rfl E fr a f1 H1 hE hip hf hs fun E' a' h1 h2 h3 h4 h5 => ⟨rfl, E', rfl, h1, h2, h3, h4, h5⟩
   rw [List.range_eq_range']
   simpa using this
  | true =>
   simp only [if_true, Option.bind_eq_some_iff] at h
   obtain ⟨⟨recs, f1, H1⟩, ht, h⟩ := h
   dsimp only at h
   split at h
   case isFalse => cases h
   rename_i hok
   simp only [Option.some.injEq, Prod.mk.injEq] at h
   obtain ⟨rfl, rfl, rfl⟩ := h
   refine wp_region_any hmix ?_
   have hss : ssaOk ops = true := by simpa [regsOk] using hreg
   rcases Bool.or_eq_true_iff.1 hok with hok | hok
   ·refine aDraw_ok (E0 := E.drew) (a0 := a) hN hcall hss hip ht hok (fun E' a' h1 h2 h3 h4 h5 => ⟨rfl, E', rfl, h1, h2, (Step.drew prot E).trans h3, h4, h5⟩) _ _ 0 E.drew a ⟨by simp, ?_, Nat.zero_le _, ?_, rfl, hE.drew, Step.refl _ _, ?_, rfl⟩ ?_
    ·intro j o _ hl
     rw [Array.getD_eq_getD_getElem?, Array.getElem?_replicate] at hl
     split at hl <;> simp at hl
    ·intro n hn
     constructor
     ·intro hl
      rw [Array.getD_eq_getD_getElem?, Array.getElem?_replicate] at hl
      split at hl <;> simp at hl
     ·intro h; omega
    ·have : recs.filter (fun r => (Array.replicate ops.size false).getD r.i false) = [] := by
      rw [List.filter_eq_nil_iff]
      intro r _ hl
      rw [Array.getD_eq_getD_getElem?, Array.getElem?_replicate] at hl
      split at hl <;> simp at hl
     rw [this]
     exact hf.mono (Step.drew prot E).all
    ·simp
   ·refine aDraw2_ok (E0 := E.drew) (a0 := a) hN hcall hss hip ht hok (fun E' a' h1 h2 h3 h4 h5 => ⟨rfl, E', rfl, h1, h2, (Step.drew prot E).trans h3, h4, h5⟩) _ _ E.drew a ⟨by simp, ?_, ?_, hE.drew, Step.refl _ _, ?_, rfl⟩ ?_
    ·intro j o _ hl
     rw [Array.getD_eq_getD_getElem?, Array.getElem?_replicate] at hl
     split at hl <;> simp at hl
    ·have hz : ∀ (l : List Rec) (H : Heap), KDl P call prot (zOf l fun i => (Array.replicate ops.size false).getD i false) H = some H := by
      intro l H
      induction l with
      | nil => rfl
      | cons e l ih =>
       have h0 : (Array.replicate ops.size false).getD e.i false = false := by
        rw [Array.getD_eq_getD_getElem?, Array.getElem?_replicate]
        split <;> rfl
       simp only [zOf, List.map_cons, KDl, h0, Bool.false_eq_true, if_false]
       exact ih
     exact hz _ _
    ·have : recs.filter (fun r => (Array.replicate ops.size false).getD r.i false) = [] := by
      rw [List.filter_eq_nil_iff]
      intro r _ hl
      rw [Array.getD_eq_getD_getElem?, Array.getElem?_replicate] at hl
      split at hl <;> simp at hl
     rw [this]
     exact hf.mono (Step.drew prot E).all
    ·simp
 | seq x y ihx ihy =>
  intro hreg E fr a e fr' H' hE hip hf h
  simp only [regsOk, Bool.and_eq_true] at hreg
  simp only [aCode, Option.bind_eq_some_iff] at h
  obtain ⟨⟨e1, fr1, H1⟩, h1, h⟩ := h
  refine wp_seq (wp_mono (ihx hreg.1 E fr a e1 fr1 H1 hE hip hf h1) ?_)
  intro ex a1 w1 hp
  obtain ⟨hex, E1, rfl, rfl, hE1, hst, hf1, hd⟩ := hp
  subst hex
  cases e1 with
  | normal =>
   dsimp only at h
   exact wp_mono (ihy hreg.2 E1 fr1 a1 e fr' H' hE1 (by rw [hst.ip]; exact hip) hf1 h) fun ex2 a2 w2 hp2 => by rw [hd] at hp2; exact hp2.step hst
  | exit id =>
   simp only [Option.some.injEq, Prod.mk.injEq] at h
   obtain ⟨rfl, rfl, rfl⟩ := h
   exact ⟨rfl, E1, rfl, rfl, hE1, hst, hf1, hd⟩
  | ret =>
   simp only [Option.some.injEq, Prod.mk.injEq] at h
   obtain ⟨rfl, rfl, rfl⟩ := h
   exact ⟨rfl, E1, rfl, rfl, hE1, hst, hf1, hd⟩
 | cond c x y ihx ihy =>
  intro hreg E fr a e fr' H' hE hip hf h
  simp only [regsOk, Bool.and_eq_true] at hreg
  simp only [aCode, Option.bind_eq_some_iff] at h
  obtain ⟨v, hv, h⟩ := h
  have hr := aEval_ok hf hv
  split at h
  ·rename_i t
   generalize hc : a.eval c = cv at hr
   cases hr
   refine wp_cond hc ?_
   cases t with
   | true => exact ihx hreg.1 E fr a e fr' H' hE hip hf (by simpa using h)
   | false => exact ihy hreg.2 E fr a e fr' H' hE hip hf (by simpa using h)
  ·cases h
 | block id c ih =>
  intro hreg E fr a e fr' H' hE hip hf h
  simp only [aCode, Option.map_eq_some_iff, Prod.mk.injEq] at h
  obtain ⟨⟨e1, fr1, H1⟩, h1, rfl, rfl, rfl⟩ := h
  refine wp_block (wp_mono (ih hreg E fr a e1 fr1 H1 hE hip hf h1) ?_)
  intro ex a1 w1 hp
  obtain ⟨hex, E1, rfl, rfl, hE1, hst, hf1, hd⟩ := hp
  subst hex
  cases e1 with
  | normal => exact ⟨rfl, E1, rfl, rfl, hE1, hst, hf1, hd⟩
  | ret => exact ⟨rfl, E1, rfl, rfl, hE1, hst, hf1, hd⟩
  | exit id' =>
   simp only [exOf, Exit.inBlock]
   by_cases hid : id' = id
   ·subst hid
    simp only [if_true]
    exact ⟨rfl, E1, rfl, rfl, hE1, hst, hf1, hd⟩
   ·simp only [hid, if_false]
    have : (AExit.exit id' = AExit.exit id) = False := by simp [hid]
    refine ⟨?_, E1, rfl, rfl, hE1, hst, hf1, hd⟩
    simp [hid, exOf]
 | loop c ih =>
  intro hreg E fr a e fr' H' hE hip hf h
  intro b k cs
  obtain ⟨ex, a', w', hp, harr⟩ := iter_ok (ih hreg) N E fr a e fr' H' hE hip hf h b k cs
  exact ⟨ex, a', w', hp, .of_steps (.one step_loop) harr⟩
 | exit id =>
  intro _ E fr a e fr' H' hE hip hf h
  simp only [aCode, Option.some.injEq, Prod.mk.injEq] at h
  obtain ⟨rfl, rfl, rfl⟩ := h
  exact wp_exit ⟨rfl, E, rfl, rfl, hE, Step.refl _ _, hf, rfl⟩
 | ret =>
  intro _ E fr a e fr' H' hE hip hf h
  simp only [aCode, Option.some.injEq, Prod.mk.injEq] at h
  obtain ⟨rfl, rfl, rfl⟩ := h
  exact wp_ret ⟨rfl, E, rfl, rfl, hE, Step.refl _ _, hf, rfl⟩
 | scope c ih =>
  intro hreg E fr a e fr' H' hE hip hf h
  refine wp_scope_straight (wp_mono (ih hreg E fr a e fr' H' hE hip hf h) ?_)
  intro ex a1 w1 hp
  obtain ⟨hex, hr⟩ := hp
  subst hex
  cases e <;> exact ⟨rfl, hr⟩
 | label l =>
  intro _ E fr a e fr' H' hE hip hf h
  simp only [aCode, Option.some.injEq, Prod.mk.injEq] at h
  obtain ⟨rfl, rfl, rfl⟩ := h
  exact wp_label ⟨rfl, E, rfl, rfl, hE, Step.refl _ _, hf, rfl⟩
 | _ => intro _ E fr a e fr' H' _ _ _ h; simp [aCode] at h
theorem aResult_ok {E : Env} (hE : HRel E) {fr : List AV} {a : Array Value} (hf : LRel E fr a) {r : ResultVar} {v : AV} (h : aResult P fr E.H r = some v) :
  ∃ v', (match r with | .tmp t => pure (a.getD t undef) | .cell x t => do loadVar t (← asAddr (a.getD x undef)) : Sem Value).run P E.w = .ok v' E.w ∧ VRel E v v' := by
 cases r with
 | tmp t =>
  simp only [aResult, Option.some.injEq] at h; subst h
  exact ⟨_, rfl, hf.2 t⟩
 | cell x t =>
  simp only [aResult] at h
  have hx := hf.2 x
  obtain ⟨v', h1, h2⟩ := aLoad_ok (P := P) hE hx h
  refine ⟨v', ?_, h2⟩
  have hx' : VRel E (fget fr x) (a.getD x undef) := hx
  show (do loadVar t (← asAddr (a.getD x undef)) : Sem Value).run P E.w = _
  generalize a.getD x undef = y at *
  generalize fget fr x = z at *
  cases hx' with
  | ptr => simpa [Instr.loadAt, Instr.sureAddr, asAddr] using h1
  | vptr => simpa [Instr.loadAt, Instr.sureAddr, asAddr] using h1
  | _ => simp [aLoad] at h
theorem aResults_ok {E : Env} (hE : HRel E) {fr : List AV} {a : Array Value} (hf : LRel E fr a) : ∀ {l : List ResultVar} {vs : List AV}, aResults P fr E.H l = some vs →
  ∃ vs' : List Value, (l.mapM fun | .tmp t => pure (a.getD t undef) | .cell x t => do loadVar t (← asAddr (a.getD x undef)) : Sem (List Value)).run P E.w = .ok vs' E.w ∧ LRel E vs vs'.toArray
 | [], vs, h => by
  simp only [aResults, Option.some.injEq] at h; subst h
  exact ⟨[], by simp, .nil E⟩
 | r :: l, vs, h => by
  simp only [aResults, Option.bind_eq_some_iff, Option.map_eq_some_iff] at h
  obtain ⟨v, hv, ws, hws, rfl⟩ := h
  obtain ⟨v', h1, h2⟩ := aResult_ok (P := P) hE hf hv
  obtain ⟨ws', h3, h4⟩ := aResults_ok hE hf hws
  refine ⟨v' :: ws', ?_, .cons h2 h4⟩
  rw [List.mapM_cons]
  simp only [Sem.run_bind]
  rw [h1]
  simp only [Result.andThen_ok]
  rw [h3]
  simp
theorem results_ok {E : Env} (hE : HRel E) {fr : List AV} {a : Array Value} (hf : LRel E fr a) {fn : Func} {vs : List AV} (h : aResults P fr E.H fn.results.toList = some vs) :
  ∃ v', (results fn a).run P E.w = .ok v' E.w ∧ VRel E (packR vs) v' := by
 obtain ⟨vs', h1, h2⟩ := aResults_ok hE hf h
 refine ⟨if hh : vs'.toArray.size = 1 then vs'.toArray[0] else .tuple vs'.toArray, ?_, ?_⟩
 ·unfold results
  rw [Array.mapM_eq_mapM_toList]
  simp only [Sem.run_bind, Sem.run_map]
  erw [h1]
  rfl
 ·rw [LRel.list] at h2
  match vs, vs', h2 with
  | [v], [v'], h2 => simpa [packR] using h2.2 0
  | [], [], _ => exact .tup [] #[] rfl fun j h => by simp at h
  | v :: w :: r, v' :: w' :: r', h2 =>
   have h3 : LRel E (v :: w :: r) (v' :: w' :: r').toArray := LRel.list.2 h2
   have : ¬ ((v' :: w' :: r').toArray.size = 1) := by simp
   rw [dif_neg this]
   exact .tup _ _ h3.1 h3.get
  | [], _ :: _, h2 => simp at h2
  | [_], [], h2 => simp at h2
  | [_], _ :: _ :: _, h2 => simp at h2
  | _ :: _ :: _, [], h2 => simp at h2
  | _ :: _ :: _, [_], h2 => simp at h2
def FrzOk (E1 E2 : Env) (base : Nat) : Prop := E2.w = E1.w ∧ Keep E1 E2 ∧ ∀ b, base ≤ b → alive E1.H b → Imm E2 (E1.ρ b).1
theorem frL_length {H : Heap} {base : Nat} : ∀ {n : Nat} {l r : List AV}, frL H base n l = some r → r.length = l.length := by
 intro n
 induction n with
 | zero => intro l r h; cases l <;> simp [frL] at h; rw [h]
 | succ n ih =>
  intro l r h
  cases l with
  | nil => simp only [frL, Option.some.injEq] at h; rw [← h]
  | cons v l =>
   simp only [frL, Option.bind_eq_some_iff, Option.map_eq_some_iff] at h
   obtain ⟨u, _, w, hw, rfl⟩ := h
   simp [ih hw]
theorem frP_ok {E1 E2 : Env} {base : Nat} (hE : HRel E1) (hz : FrzOk E1 E2 base) : ∀ (n : Nat),
  (∀ (v r : AV) (v' : Value), VRel E1 v v' → frP E1.H base n v = some r → VRel E2 r v' ∧ AV.pl r = true ∧ (v.leaf = true → r.leaf = true)) ∧
  (∀ (l r : List AV), frL E1.H base n l = some r → ∀ j (h : j < l.length) (h' : j < r.length), (∀ v', VRel E1 l[j] v' → VRel E2 r[j] v') ∧ ((∃ v', VRel E1 l[j] v') → AV.pl r[j] = true ∧ (l[j].leaf = true → r[j].leaf = true))) := by
 obtain ⟨hw, hk, hi⟩ := hz
 intro n
 induction n with
 | zero =>
  refine ⟨fun v r v' _ h => by simp [frP] at h, fun l r h j hj => ?_⟩
  cases l <;> simp [frL] at h
  simp at hj
 | succ n ih =>
  have hP : ∀ (v r : AV) (v' : Value), VRel E1 v v' → frP E1.H base (n + 1) v = some r → VRel E2 r v' ∧ AV.pl r = true ∧ (v.leaf = true → r.leaf = true) := by
   intro v r v' hv h
   have hlist : ∀ (cs r : List AV) (cs' : Array Value), cs.length = cs'.size → (∀ j (h : j < cs.length), VRel E1 cs[j] (cs'.getD j undef)) → frL E1.H base n cs = some r →
     r.length = cs'.size ∧ (∀ j (h : j < r.length), VRel E2 r[j] (cs'.getD j undef)) ∧ AV.plL r = true := by
    intro cs r cs' hl hr h
    have hlen := frL_length h
    refine ⟨by omega, fun j hj => (ih.2 cs r h j (by omega) hj).1 _ (hr j (by omega)), plL_of fun j hj => ((ih.2 cs r h j (by omega) hj).2 ⟨_, hr j (by omega)⟩).1⟩
   cases hv with
   | bs s a c hb hvr hlc hx h' =>
    simp only [frP] at h
    split at h
    case isFalse => cases h
    rename_i hcond
    obtain ⟨hbase, h0, hag⟩ := hcond
    simp only [Option.bind_eq_some_iff, Option.map_eq_some_iff] at h
    obtain ⟨cs, hcs, w, hwin, c', hfl, rfl⟩ := h
    obtain ⟨ha, _⟩ := h' cs hcs
    have hca := (hE.cellsAt hcs).win hwin
    have hwl := (win_spec hwin).2.2
    have hlen := frL_length hfl
    have hleaf := win_leaf (hE.leaf hcs) hwin
    have hca2 : CellsAt E2 (E1.ρ s.b).1 ((E1.ρ s.b).2 + s.off) c' := by
     intro j hj
     obtain ⟨u, h1, h2⟩ := hca j (by omega)
     exact ⟨u, by rw [hw]; exact h1, (ih.2 w c' hfl j (by omega) hj).1 u h2⟩
    have hpl : AV.plL c' = true := plL_of fun j hj => by
     obtain ⟨u, _, h2⟩ := hca j (by omega)
     exact ((ih.2 w c' hfl j (by omega) hj).2 ⟨u, h2⟩).1
    have hlf : ∀ v ∈ c', v.leaf = true := fun v hv => by
     obtain ⟨j, hj, rfl⟩ := List.getElem_of_mem hv
     obtain ⟨u, _, h2⟩ := hca j (by omega)
     exact ((ih.2 w c' hfl j (by omega) hj).2 ⟨u, h2⟩).2 (all_get hleaf j (by omega))
    refine ⟨?_, by simp only [AV.pl]; exact chunk_pl hpl, fun _ => rfl⟩
    rw [ha]
    refine tree_ok h0 hag (by omega) hca2 hpl hlf (hi _ hbase (.inl ⟨_, _, alive_of_hget hcs⟩)) hlc fun hq => ?_
    simp only [Bool.and_eq_true, beq_iff_eq] at hq
    rw [hx hq.1]; exact hq.2
   | agg cs cs' hl hr =>
    simp only [frP, Option.map_eq_some_iff] at h
    obtain ⟨r, hr', rfl⟩ := h
    obtain ⟨h1, h2, h3⟩ := hlist cs r cs' hl hr hr'
    exact ⟨.agg _ _ h1 h2, h3, fun e => by cases e⟩
   | tup cs cs' hl hr =>
    simp only [frP, Option.map_eq_some_iff] at h
    obtain ⟨r, hr', rfl⟩ := h
    obtain ⟨h1, h2, h3⟩ := hlist cs r cs' hl hr hr'
    exact ⟨.tup _ _ h1 h2, h3, fun e => by cases e⟩
   | iface t v v' hv =>
    simp only [frP, Option.map_eq_some_iff] at h
    obtain ⟨r, hr', rfl⟩ := h
    obtain ⟨h1, h2, _⟩ := ih.1 _ _ _ hv hr'
    exact ⟨.iface _ _ _ h1, h2, fun _ => rfl⟩
   | ptr b ver off a hb hvr h' =>
    simp only [frP] at h
    split at h
    case isFalse => cases h
    rename_i hbase
    simp only [Option.bind_eq_some_iff, Option.map_eq_some_iff] at h
    obtain ⟨cs, hcs, c', hfl, rfl⟩ := h
    have ha := h' cs hcs
    have hca := hE.cellsAt hcs
    have hlen := frL_length hfl
    have hpl : AV.plL c' = true := plL_of fun j hj => by
     obtain ⟨u, _, h2⟩ := hca j (by omega)
     exact ((ih.2 cs c' hfl j (by omega) hj).2 ⟨u, h2⟩).1
    have hex : ∀ j, ∃ u, j < c'.length → E2.w.cell? ⟨(E1.ρ b).1, (E1.ρ b).2 + j, none⟩ = some u ∧ ∀ hj : j < c'.length, VRel E2 c'[j] u := fun j => by
     by_cases hj : j < c'.length
     ·obtain ⟨u, h1, h2⟩ := hca j (by omega)
      exact ⟨u, fun _ => ⟨by rw [hw]; exact h1, fun hj => (ih.2 cs c' hfl j (by omega) hj).1 u h2⟩⟩
     ·exact ⟨undef, fun h => absurd h hj⟩
    refine ⟨?_, by simpa only [AV.pl] using hpl, fun _ => rfl⟩
    subst ha
    exact .vptr c' off _ (E1.ρ b).2 (fun j => Classical.choose (hex j)) hpl (hi _ hbase (.inl ⟨_, _, alive_of_hget hcs⟩)) rfl rfl
     (fun j hj => (Classical.choose_spec (hex j) hj).1) (fun j hj => (Classical.choose_spec (hex j) hj).2 hj)
   | map => simp [frP] at h
   | func f first caps first' caps' h1 h2 hr1 hr2 =>
    simp only [frP] at h
    split at h
    ·rename_i hpl
     simp only [Option.some.injEq] at h; subst h
     exact ⟨VRel.plain hk (.func f first caps first' caps' h1 h2 hr1 hr2) hpl, hpl, fun _ => rfl⟩
    ·cases h
   | vs es full a c sz f hp hc hf hi' hz' hv' hr =>
    simp only [frP, Option.some.injEq] at h; subst h
    exact ⟨VRel.plain hk (.vs es full a c sz f hp hc hf hi' hz' hv' hr) hp, hp, fun _ => rfl⟩
   | vptr cs off a o f hp hi' hs ho hc hr =>
    simp only [frP, Option.some.injEq] at h; subst h
    exact ⟨VRel.plain hk (.vptr cs off a o f hp hi' hs ho hc hr) hp, hp, fun _ => rfl⟩
   | bool b => simp only [frP, Option.some.injEq] at h; subst h; exact ⟨.bool _, rfl, fun _ => rfl⟩
   | int k n => simp only [frP, Option.some.injEq] at h; subst h; exact ⟨.int _ _, rfl, fun _ => rfl⟩
   | str s => simp only [frP, Option.some.injEq] at h; subst h; exact ⟨.str _, rfl, fun _ => rfl⟩
   | nil => simp only [frP, Option.some.injEq] at h; subst h; exact ⟨.nil, rfl, fun _ => rfl⟩
   | nilS => simp only [frP, Option.some.injEq] at h; subst h; exact ⟨.nilS, rfl, fun _ => rfl⟩
   | nilM => simp only [frP, Option.some.injEq] at h; subst h; exact ⟨.nilM, rfl, fun _ => rfl⟩
   | nilF => simp only [frP, Option.some.injEq] at h; subst h; exact ⟨.nilF, rfl, fun _ => rfl⟩
   | nilI => simp only [frP, Option.some.injEq] at h; subst h; exact ⟨.nilI, rfl, fun _ => rfl⟩
   | adr a => simp only [frP, Option.some.injEq] at h; subst h; exact ⟨.adr a, rfl, fun _ => rfl⟩
   | it => simp [frP] at h
  refine ⟨hP, fun l r h j hj hj' => ?_⟩
  cases l with
  | nil => simp at hj
  | cons v l =>
   simp only [frL, Option.bind_eq_some_iff, Option.map_eq_some_iff] at h
   obtain ⟨u, hu, w, hw', rfl⟩ := h
   cases j with
   | zero => exact ⟨fun v' hv => (ih.1 _ _ _ hv hu).1, fun ⟨v', hv⟩ => (ih.1 _ _ _ hv hu).2⟩
   | succ j => exact ih.2 l w hw' j (by simpa using hj) (by simpa using hj')
theorem flat_rel {E E' : Env} {v : AV} {v' : Value} (h : VRel E v v') (hf : flat v = true) : VRel E' v v' := by
 have h0 : ∀ {v : AV} {v' : Value}, VRel E v v' → flat0 v = true → VRel E' v v' := fun {v v'} h hf => by
  cases h <;> simp only [flat0, Bool.false_eq_true] at hf
  ·exact .bool _
  ·exact .int _ _
  ·exact .str _
  ·exact .nil
  ·exact .nilS
  ·exact .nilM
  ·exact .nilF
  ·exact .nilI
  ·exact .adr _
 have h1 : ∀ {v : AV} {v' : Value}, VRel E v v' → flat1 v = true → VRel E' v v' := fun {v v'} h hf => by
  have hc := h
  cases h with
  | agg cs cs' hl hr =>
   simp only [flat1, List.all_eq_true] at hf
   exact .agg _ _ hl fun j hj => h0 (hr j hj) (hf _ (List.getElem_mem hj))
  | iface t v v' h => exact .iface _ _ _ (h0 h (by simpa [flat1] using hf))
  | _ => exact h0 hc hf
 have hc := h
 cases h with
 | tup cs cs' hl hr =>
  simp only [flat, List.all_eq_true] at hf
  exact .tup _ _ hl fun j hj => h1 (hr j hj) (hf _ (List.getElem_mem hj))
 | _ => exact h1 hc hf
end
end Go.Abs

