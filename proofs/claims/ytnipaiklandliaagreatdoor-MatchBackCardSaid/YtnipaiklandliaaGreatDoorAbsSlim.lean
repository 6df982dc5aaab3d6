import Derived.Test.YtnipaiklandliaaGreatDoorAbsLim
import Derived.Test.YtnipaiklandliaaGreatDoorAbsDraw2
namespace Go.Abs
open Go
def opKind (C : Cfg) (o : Oper) : Nat :=
 match o.op with
 | .move _ | .assign _ | .pick .. | .build .. | .nilCheck _ | .unOp .. | .makeInterface .. | .makeFunc .. | .slice .. | .fieldAddr .. | .field .. | .indexAddr .. | .index .. | .extract .. => 0
 | .load .. | .lookup .. => 1
 | .binOp _ t _ _ _ => match C.P.underlying t with | some (.pointer _) => 1 | _ => 0
 | .buildSlice t _ _ => match (sliceElem C.P t).bind fun e => (zeroT C.P e).bind fun z => (isAggT C.P e).bind fun ag => (sizeT C.P e).map fun sz => litOk z ag sz with
  | some true => 0
  | _ => 2
 | .convert s d _ => match C.P.underlying s, C.P.underlying d with
  | some (.int _), some (.int _) => 0
  | some (.slice _), some .string => 1
  | _, _ => 2
 | .call c => match c.callee with
  | .builtin .len | .builtin .max | .builtin .min => 1
  | .value (.func f) => if C.pure f && !C.eats f then 1 else 2
  | _ => 2
 | _ => 2
theorem quiet_none {v : Option AV} {r : AV × Option Heap} (h : quiet v = some r) : r.2 = none := by
 unfold quiet at h
 simp only [Option.map_eq_some_iff] at h
 obtain ⟨_, _, rfl⟩ := h
 rfl
theorem aLim_pure_none {C : Cfg} {prot : Nat} {f : FuncId} {args : List AV} {H : Heap} {r : AV × Option Heap} (hp : C.pure f = true) (he : C.eats f = false) (h : aLim C prot f args H = some r) : r.2 = none := by
 obtain ⟨n, hn⟩ := aLim_ev h
 replace h := hn (n + 1) (by omega)
 simp only [aCall, hp, if_true, Bool.true_or, Bool.true_and] at h
 split at h
 ·cases h
 simp only [Option.bind_eq_some_iff] at h
 obtain ⟨fn, hfn, h⟩ := h
 split at h
 ·split at h
  ·cases h
  simp only [Option.bind_eq_some_iff] at h
  obtain ⟨x, _, h⟩ := h
  split at h
  ·cases h
  ·rename_i hx
   cases h
   simpa using hx
 split at h
 ·simp only [Option.bind_eq_some_iff] at h
  obtain ⟨_, _, _, _, _, _, h⟩ := h
  split at h
  ·split at h
   ·cases h; rfl
   ·first | (cases h; done) | (simp only [he, if_true] at h; cases h)
  ·cases h; rfl
 ·cases h
theorem kind_ok {C : Cfg} {prot : Nat} {fr : List AV} {o : Oper} {H : Heap} {r : AV × Option Heap} (hk : opKind C o < 2) (h : aOp C.P (aLim C) prot fr o H = some r) :
  r.2 = none ∧ (opKind C o = 0 → ∀ K, aOp C.P (aLim C) prot fr o K = some r) := by
 cases hop : o.op with
 | buildSlice t n ps =>
  simp only [opKind, hop] at hk ⊢
  split at hk
  case h_2 => omega
  rename_i hz
  simp only [Option.bind_eq_some_iff, Option.map_eq_some_iff] at hz
  obtain ⟨e, he, z, hze, ag, hag, sz, hsz, hz⟩ := hz
  simp only [aOp, hop, Option.bind_eq_some_iff, aBuildSlice, he, hsz, hag, hze, Option.bind_some, hz, if_true] at h ⊢
  obtain ⟨l, hl, h⟩ := h
  split at h
  case isFalse => cases h
  simp only [Option.bind_eq_some_iff] at h
  obtain ⟨cs, hcs, h⟩ := h
  split at h
  case isFalse => cases h
  split at h
  case isFalse => cases h
  cases h
  rename_i h1 h2 h3
  exact ⟨rfl, fun _ K => ⟨l, hl, by simp only [h1, and_self, if_true, hcs, Option.bind_some, h2, h3]⟩⟩
 | binOp op t x y yt =>
  simp only [opKind, hop] at hk ⊢
  simp only [aOp, hop] at h ⊢
  refine ⟨quiet_none h, fun h0 K => ?_⟩
  have e : ∀ a b, aBinH C.P K op t x y a b = aBinH C.P H op t x y a b := fun a b => by
   unfold aBinH
   split at h0
   ·cases h0
   ·rename_i hnp
    cases hu : C.P.underlying t with
    | none => rfl
    | some d =>
     cases d with
     | pointer e => exact absurd hu (hnp e)
     | interface ms => cases a <;> cases b <;> rfl
     | _ => rfl
  simp only [e]
  exact h
 | convert s d x =>
  simp only [opKind, hop] at hk ⊢
  simp only [aOp, hop, Option.bind_eq_some_iff] at h ⊢
  obtain ⟨a, ha, h⟩ := h
  split at hk
  ·rename_i k1 k2 h1 h2
   have e : ∀ K, aConvert C.P K s d a = ((toV1 a).bind fun v => ((pureOf C.P (convert s d v)).bind ofV1).map fun r => (r, none)) := fun K => by
    simp only [aConvert, h1, h2]
   rw [e H] at h
   refine ⟨?_, fun _ K => ⟨a, ha, by rw [e K]; exact h⟩⟩
   simp only [Option.bind_eq_some_iff, Option.map_eq_some_iff] at h
   obtain ⟨_, _, _, _, rfl⟩ := h
   rfl
  ·rename_i k1 h1 h2
   refine ⟨?_, fun h0 => by cases h0⟩
   unfold aConvert at h
   simp only [h1, h2] at h
   split at h
   ·split at h
    ·cases h
    ·simp only [Option.bind_eq_some_iff, Option.map_eq_some_iff] at h
     obtain ⟨_, _, _, _, rfl⟩ := h
     rfl
   ·split at h
    ·cases h
    ·simp only [Option.bind_eq_some_iff, Option.map_eq_some_iff] at h
     obtain ⟨_, _, _, _, rfl⟩ := h
     rfl
   ·cases h
  ·omega
 | call c =>
  simp only [opKind, hop] at hk ⊢
  cases hc : c.callee with
  | builtin b =>
   simp only [hc] at hk ⊢
   simp only [aOp, hop, hc, Option.bind_eq_some_iff] at h
   obtain ⟨args, ha, h⟩ := h
   cases b with
   | len =>
    refine ⟨?_, fun h0 => by simp at h0⟩
    unfold aBuiltin at h
    split at h <;> first | exact quiet_none h | (simp_all; done) | cases h
   | max =>
    refine ⟨?_, fun h0 => by simp at h0⟩
    unfold aBuiltin at h
    split at h <;> first | exact quiet_none h | (simp_all; done) | cases h
   | min =>
    refine ⟨?_, fun h0 => by simp at h0⟩
    unfold aBuiltin at h
    split at h <;> first | exact quiet_none h | (simp_all; done) | cases h
   | _ => simp at hk
  | value f =>
   cases f with
   | func g =>
    simp only [hc] at hk ⊢
    split at hk
    case isFalse => omega
    rename_i hp
    simp only [aOp, hop, hc, Option.bind_eq_some_iff, aEval_func, Option.some.injEq] at h
    obtain ⟨args, ha, v, rfl, h⟩ := h
    have hp' : C.pure g = true ∧ C.eats g = false := by simpa using hp
    exact ⟨aLim_pure_none hp'.1 hp'.2 h, fun h0 => by simp [hp'.1, hp'.2] at h0⟩
   | _ => simp [hc] at hk
  | _ => simp [hc] at hk
 | load t a => cases a <;> simp only [aOp, hop] at h <;> exact ⟨quiet_none h, fun h0 => by simp [opKind, hop] at h0⟩
 | lookup t m k ok => simp only [aOp, hop] at h; exact ⟨quiet_none h, fun h0 => by simp [opKind, hop] at h0⟩
 | makeFunc g a b => cases g <;> simp only [aOp, hop] at h ⊢ <;> first | exact ⟨quiet_none h, fun _ K => h⟩ | cases h
 | _ => first
  | (simp only [opKind, hop] at hk; omega)
  | (simp only [aOp, hop] at h ⊢; exact ⟨quiet_none h, fun _ K => h⟩)
theorem beq_refl (a : AV) : AV.beq a a = true :=
 AV.rec (motive_1 := fun a => AV.beq a a = true) (motive_2 := fun l => AV.beqL l l = true)
  (fun x => by simp [AV.beq]) (fun k n => by simp [AV.beq]) (fun s => by simp [AV.beq]) (by simp [AV.beq]) (fun x y z => by simp [AV.beq])
  (fun cs o ih => by simp [AV.beq, ih]) (by simp [AV.beq]) (fun es f ih => by simp [AV.beq, ih]) (fun s => by simp [AV.beq]) (by simp [AV.beq]) (fun r => by simp [AV.beq]) (by simp [AV.beq])
  (fun f x y ih1 ih2 => by simp [AV.beq, ih1, ih2]) (by simp [AV.beq]) (fun t v ih => by simp [AV.beq, ih]) (fun cs ih => by simp [AV.beq, ih]) (fun cs ih => by simp [AV.beq, ih]) (fun a => by simp [AV.beq]) (fun r => by simp [AV.beq])
  (by simp [AV.beqL]) (fun x l ihx ihl => by simp [AV.beqL, ihx, ihl]) a
def drawStatic (C : Cfg) (ops : Array Oper) : Bool :=
 let B := befs [] ops.toList
 let n := ops.size
 (List.range n).all fun i => (List.range n).all fun j => decide (j ≤ i) ||
  match ops[i]?, ops[j]? with
  | some a, some b => let x := opKind C a; let y := opKind C b; !((x == 2 && 0 < y) || (0 < x && y == 2)) || bound B i j
  | _, _ => true
theorem static_bound {C : Cfg} {ops : Array Oper} (h : drawStatic C ops = true) {i j : Nat} {a b : Oper} (hij : i < j) (ha : ops[i]? = some a) (hb : ops[j]? = some b) (hk : opKind C a = 2 ∧ 0 < opKind C b ∨ 0 < opKind C a ∧ opKind C b = 2) :
  bound (befs [] ops.toList) i j = true := by
 unfold drawStatic at h
 have hi : i < ops.size := (Array.getElem?_eq_some_iff.1 ha).1
 have hj : j < ops.size := (Array.getElem?_eq_some_iff.1 hb).1
 have h1 := List.all_eq_true.1 (List.all_eq_true.1 h i (List.mem_range.2 hi)) j (List.mem_range.2 hj)
 simp only [ha, hb, Bool.or_eq_true, decide_eq_true_eq, Bool.not_eq_true', Bool.or_eq_false_iff] at h1
 rcases h1 with h1 | h1 | h1
 ·omega
 ·rcases hk with ⟨h2, h3⟩ | ⟨h2, h3⟩
  ·have := h1.1; simp [h2] at this; omega
  ·have := h1.2; simp [h3] at this; omega
 ·exact h1
theorem trace_spec {P : Program} {call : CallT} {prot : Nat} {ops : Array Oper} : ∀ {l : List Oper} {i : Nat} {fr fr' : List AV} {H H' : Heap}, ops.toList.drop i = l → aSeq P call prot ops l fr H = some (fr', H') →
  ∃ recs, aTrace P call prot ops i l fr H = some (recs, fr', H') ∧ recs.Pairwise (fun a b => a.i < b.i) ∧ ∀ r ∈ recs, i ≤ r.i ∧ ops[r.i]? = some r.o ∧ (r.wanted = true → aOp P call prot r.fr r.o r.H = some (r.v, r.eff)) ∧ (r.wanted = false → r.eff = none) := by
 intro l
 induction l with
 | nil =>
  intro i fr fr' H H' _ h
  simp only [aSeq, Option.some.injEq, Prod.mk.injEq] at h
  obtain ⟨rfl, rfl⟩ := h
  exact ⟨[], rfl, .nil, fun r hr => by cases hr⟩
 | cons o l ih =>
  intro i fr fr' H H' hd h
  have ho : ops[i]? = some o := by
   have : ops.toList[i]? = some o := by
    have := congrArg (fun x => x[0]?) hd
    simpa [List.getElem?_drop] using this
   simpa using this
  have hd' : ops.toList.drop (i + 1) = l := by rw [← List.drop_drop, hd]; rfl
  simp only [aSeq] at h
  split at h
  ·rename_i hw
   simp only [Option.bind_eq_some_iff] at h
   obtain ⟨⟨v, e⟩, h1, h2⟩ := h
   obtain ⟨recs, h3, hpw, h4⟩ := ih hd' h2
   refine ⟨⟨i, o, fr, H, true, v, e⟩ :: recs, by simp only [aTrace, hw, if_true, h1, Option.bind_some, h3, Option.map_some], .cons (fun r hr => (h4 r hr).1) hpw, fun r hr => ?_⟩
   rcases List.mem_cons.1 hr with rfl | hr
   ·exact ⟨Nat.le_refl _, ho, fun _ => h1, fun h => by cases h⟩
   ·obtain ⟨a, b⟩ := h4 r hr; exact ⟨by omega, b⟩
  ·rename_i hw
   obtain ⟨recs, h3, hpw, h4⟩ := ih hd' h
   refine ⟨⟨i, o, fr, H, false, .tup [], none⟩ :: recs, by simp only [aTrace, if_neg hw, h3, Option.map_some], .cons (fun r hr => (h4 r hr).1) hpw, fun r hr => ?_⟩
   rcases List.mem_cons.1 hr with rfl | hr
   ·exact ⟨Nat.le_refl _, ho, fun h => (by cases h), fun _ => rfl⟩
   ·obtain ⟨a, b⟩ := h4 r hr; exact ⟨by omega, b⟩
theorem chained_of {bef : List Nat} : ∀ {l : List Rec}, l.Pairwise (fun a b => bound bef a.i b.i = true) → chained bef l = true
 | [], _ => rfl
 | [_], _ => rfl
 | a :: b :: r, h => by
  cases h with
  | cons h1 h2 =>
   simp only [chained, Bool.and_eq_true]
   exact ⟨h1 b (by simp), chained_of h2⟩
theorem count_drop {α : Type} (p : α → Bool) (l : List α) (k : Nat) (h : k < (l.filter p).length) : ∃ e ∈ l.drop k, p e = true := by
 apply Classical.byContradiction
 intro hn
 have h1 : (l.drop k).filter p = [] := List.filter_eq_nil_iff.2 fun e he hp => hn ⟨e, he, hp⟩
 have h2 : l.filter p = (l.take k).filter p ++ (l.drop k).filter p := by rw [← List.filter_append, List.take_append_drop]
 rw [h2, h1, List.append_nil] at h
 have h3 := List.length_filter_le p (l.take k)
 have h4 : (l.take k).length ≤ k := by simp; omega
 omega
theorem count_take {α : Type} (p : α → Bool) (l : List α) (k : Nat) (hk : k ≤ l.length) (h : (l.filter p).length < k) : ∃ e ∈ l.take k, p e = false := by
 apply Classical.byContradiction
 intro hn
 have h1 : (l.take k).filter p = l.take k := List.filter_eq_self.2 fun e he => by
  cases hp : p e with
  | true => rfl
  | false => exact absurd ⟨e, he, hp⟩ hn
 have h2 : l.filter p = (l.take k).filter p ++ (l.drop k).filter p := by rw [← List.filter_append, List.take_append_drop]
 rw [h2, h1] at h
 simp at h
 omega
theorem rec_inj {recs : List Rec} (hp : recs.Pairwise (fun a b => a.i < b.i)) {a b : Rec} (ha : a ∈ recs) (hb : b ∈ recs) (h : a.i = b.i) : a = b := by
 obtain ⟨i, hi, rfl⟩ := List.getElem_of_mem ha
 obtain ⟨j, hj, rfl⟩ := List.getElem_of_mem hb
 rw [List.pairwise_iff_getElem] at hp
 rcases Nat.lt_trichotomy i j with h1 | h1 | h1
 ·have := hp i j hi hj h1; omega
 ·subst h1; rfl
 ·have := hp j i hj hi h1; omega
theorem draw_ok {C : Cfg} {prot : Nat} {ops : Array Oper} {recs : List Rec} {H : Heap} (hs : drawStatic C ops = true) (hp : recs.Pairwise (fun a b => a.i < b.i))
  (hr : ∀ r ∈ recs, 0 ≤ r.i ∧ ops[r.i]? = some r.o ∧ (r.wanted = true → aOp C.P (aLim C) prot r.fr r.o r.H = some (r.v, r.eff)) ∧ (r.wanted = false → r.eff = none)) :
  drawOk C.P (aLim C) prot (befs [] ops.toList) recs H = true := by
 have hkind : ∀ r ∈ recs, r.eff.isSome = true → opKind C r.o = 2 := fun r hm he => by
  obtain ⟨_, _, h1, h2⟩ := hr r hm
  have hw : r.wanted = true := by
   cases hw : r.wanted with
   | true => rfl
   | false => rw [h2 hw] at he; cases he
  by_cases hk : opKind C r.o < 2
  ·have := (kind_ok hk (h1 hw)).1
   simp only at this
   rw [this] at he; cases he
  ·have : ∀ o, opKind C o ≤ 2 := fun o => by unfold opKind; (repeat' split) <;> omega
   have := this r.o; omega
 unfold drawOk
 simp only [Bool.and_eq_true]
 constructor
 ·refine chained_of ?_
  refine List.Pairwise.imp_of_mem (R := fun a b => a.i < b.i) ?_ (hp.filter _)
  intro a b ha hb hab
  obtain ⟨ha1, ha2⟩ := List.mem_filter.1 ha
  obtain ⟨hb1, hb2⟩ := List.mem_filter.1 hb
  exact static_bound hs hab (hr a ha1).2.1 (hr b hb1).2.1 (.inl ⟨hkind a ha1 ha2, by rw [hkind b hb1 hb2]; omega⟩)
 ·refine List.all_eq_true.2 fun r hm => ?_
  simp only [Bool.or_eq_true]
  by_cases he : r.eff.isSome = true
  ·exact .inl (.inl he)
  by_cases hw : r.wanted = true
  case neg => exact .inl (.inr (by simp [hw]))
  refine .inr (List.all_eq_true.2 fun k hk => ?_)
  have hk' : k < (recs.filter fun x => x.eff.isSome).length + 1 := List.mem_range.1 hk
  simp only [Bool.or_eq_true, beq_iff_eq, Bool.not_eq_true']
  obtain ⟨_, ho, h1, _⟩ := hr r hm
  by_cases h0 : opKind C r.o = 0
  ·right
   obtain ⟨h2, h3⟩ := kind_ok (by omega) (h1 hw)
   simp only at h2
   have h4 := h3 h0 ((H :: (recs.filter fun x => x.eff.isSome).map fun e => e.eff.getD []).getD k [])
   rw [h2] at h4
   unfold sameAt
   rw [h4]
   exact beq_refl _
  ·left
   by_cases hc : k = ((recs.filter fun x => x.eff.isSome).filter fun e => decide (e.i < r.i)).length
   ·exact .inl hc
   right
   cases hmay : mayAt (befs [] ops.toList) (recs.filter fun x => x.eff.isSome) r.i k with
   | false => rfl
   | true =>
    exfalso
    unfold mayAt at hmay
    simp only [Bool.and_eq_true, List.all_eq_true, Bool.not_eq_true'] at hmay
    rcases Nat.lt_or_gt_of_ne hc with hlt | hgt
    ·obtain ⟨e, hed, hei⟩ := count_drop _ _ k hlt
     have h5 := hmay.2 e hed
     obtain ⟨he1, he2⟩ := List.mem_filter.1 (List.mem_of_mem_drop hed)
     have := static_bound hs (by simpa using hei) (hr e he1).2.1 ho (.inl ⟨hkind e he1 he2, by omega⟩)
     rw [this] at h5; cases h5
    ·obtain ⟨e, hed, hei⟩ := count_take _ _ k (by omega) hgt
     have h5 := hmay.1 e hed
     obtain ⟨he1, he2⟩ := List.mem_filter.1 (List.mem_of_mem_take hed)
     have hne : e.i ≠ r.i := fun h => by rw [rec_inj hp he1 hm h] at he2; exact he he2
     have hlt : r.i < e.i := by simp at hei; omega
     have := static_bound hs hlt ho (hr e he1).2.1 (.inr ⟨by omega, hkind e he1 he2⟩)
     rw [this] at h5; cases h5
def slimO (o : Oper) : Oper := { o with pos := "", after := #[] }
def slim (C : Cfg) : Code → Code
 | .region id ops draw => if draw && !drawStatic C ops then .region id ops true else .region id (ops.map slimO) false
 | .seq a b => .seq (slim C a) (slim C b)
 | .cond c a b => .cond c (slim C a) (slim C b)
 | .block id c => .block id (slim C c)
 | .loop c => .loop (slim C c)
 | .scope c => .scope (slim C c)
 | c => c
theorem slim_wanted (ops : Array Oper) (fr : List AV) (o : Oper) : aWanted (ops.map slimO) fr (slimO o) = aWanted ops fr o := by
 have e : ∀ j, aYield (ops.map slimO) fr j = aYield ops fr j := fun j => by
  unfold aYield
  rw [Array.getElem?_map]
  cases ops[j]? <;> rfl
 unfold aWanted
 rw [show aYield (ops.map slimO) fr = aYield ops fr from funext e]
 rfl
theorem slim_seq {P : Program} {call : CallT} {prot : Nat} {ops : Array Oper} : ∀ (l : List Oper) (fr : List AV) (H : Heap), aSeq P call prot (ops.map slimO) (l.map slimO) fr H = aSeq P call prot ops l fr H
 | [], _, _ => rfl
 | o :: l, fr, H => by
  simp only [List.map_cons, aSeq, slim_wanted]
  have e1 : aOp P call prot fr (slimO o) H = aOp P call prot fr o H := rfl
  have e2 : (slimO o).dst = o.dst := rfl
  simp only [e1, e2, slim_seq l]
theorem loopL_mono {b b' : RunT} (h : ∀ fr H x, b fr H = some x → b' fr H = some x) {fr : List AV} {H : Heap} {x : AExit × List AV × Heap} (hl : loopL b fr H = some x) : loopL b' fr H = some x := by
 obtain ⟨n, hn⟩ := loopL_iter hl
 refine loopL_of (n := n) ?_
 clear hl
 induction n generalizing fr H with
 | zero => simp [iter] at hn
 | succ n ih =>
  simp only [iter, Option.bind_eq_some_iff] at hn ⊢
  obtain ⟨⟨e, f1, H1⟩, h1, h2⟩ := hn
  refine ⟨_, h _ _ _ h1, ?_⟩
  cases e with
  | normal => exact ih h2
  | exit id => exact h2
  | ret => exact h2
theorem slim_ok (X : Ctx) : ∀ (c : Code) {fr : List AV} {H : Heap} {x : AExit × List AV × Heap}, codeL X (slim X.C c) fr H = some x → codeL X c fr H = some x := by
 intro c
 unfold codeL
 induction c with
 | region id ops draw =>
  intro fr H x h
  simp only [slim] at h
  split at h
  ·rename_i hd
   simp only [Bool.and_eq_true] at hd
   rw [hd.1]; exact h
  ·rename_i hd
   simp only [aCode, Bool.false_eq_true, if_false, Option.map_eq_some_iff] at h
   obtain ⟨⟨f1, H1⟩, h1, rfl⟩ := h
   have e : (ops.map slimO).toList = ops.toList.map slimO := by simp
   rw [e, slim_seq] at h1
   cases draw with
   | false => simp only [aCode, Bool.false_eq_true, if_false, h1, Option.map_some]
   | true =>
    have hs : drawStatic X.C ops = true := by simpa using hd
    obtain ⟨recs, h2, h3, h4⟩ := trace_spec (i := 0) rfl h1
    have h5 := draw_ok (H := H) (prot := X.prot) hs h3 h4
    simp only [aCode, if_true]
    refine Option.bind_eq_some_iff.2 ⟨_, h2, ?_⟩
    exact if_pos (by rw [h5]; rfl)
 | seq a b iha ihb =>
  intro fr H x h
  simp only [slim, aCode, Option.bind_eq_some_iff] at h ⊢
  obtain ⟨⟨e, f1, H1⟩, h1, h2⟩ := h
  refine ⟨_, iha h1, ?_⟩
  cases e with
  | normal => exact ihb h2
  | exit id => exact h2
  | ret => exact h2
 | cond k a b iha ihb =>
  intro fr H x h
  simp only [slim, aCode, Option.bind_eq_some_iff] at h ⊢
  obtain ⟨v, h1, h2⟩ := h
  refine ⟨v, h1, ?_⟩
  cases v with
  | bool t =>
   cases t with
   | true => exact iha (by simpa using h2)
   | false => exact ihb (by simpa using h2)
  | _ => cases h2
 | block id a iha =>
  intro fr H x h
  simp only [slim, aCode, Option.map_eq_some_iff] at h ⊢
  obtain ⟨y, h1, h2⟩ := h
  exact ⟨y, iha h1, h2⟩
 | loop a iha =>
  intro fr H x h
  simp only [slim, aCode] at h ⊢
  exact loopL_mono (fun _ _ _ h => iha h) h
 | scope a iha => intro fr H x h; exact iha h
 | _ => intro fr H x h; exact h
theorem R_slim {X : Ctx} {c : Code} {κ : List K} {fr : List AV} {H : Heap} {r : AV × Option Heap} (h : R X (slim X.C c) κ fr H r) : R X c κ fr H r := by
 obtain ⟨e, f1, H1, h1, h2⟩ := h
 exact ⟨e, f1, H1, slim_ok X c h1, h2⟩
theorem pure_slim {C : Cfg} {prot : Nat} {f : FuncId} {args args' : List AV} {sn : Bool} {H : Heap} {fn : Func} {c : Code} {r : AV × Option Heap} (hok : C.ok f = true) (hp : C.pure f = true) (hfn : C.P.funcs[f]? = some fn) (hb : fn.body.map (slim C) = some c)
  (hpr : prot ≤ H.length) (hs : snap H args = some (args', sn)) (hl : args'.length ≤ fn.ntmps)
  (h : ∀ fr, fr.length = fn.ntmps → Has fr 0 args' → R ⟨C, H.length, fn.results.toList, .pure sn⟩ c [] fr H r) : aLim C prot f args H = some r := by
 rw [Option.map_eq_some_iff] at hb
 obtain ⟨c0, h0, rfl⟩ := hb
 exact lim_pure hok hp hfn h0 hpr hs hl fun fr h1 h2 => R_slim (h fr h1 h2)
theorem trim_slim {C : Cfg} {prot : Nat} {f : FuncId} {args : List AV} {H : Heap} {fn : Func} {c : Code} {r : AV × Option Heap} (hok : C.ok f = true) (hp : C.pure f = false) (hsh : C.shut f = false) (htr : C.trim f = true) (hfn : C.P.funcs[f]? = some fn) (hb : fn.body.map (slim C) = some c)
  (hl : args.length ≤ fn.ntmps)
  (h : ∀ fr, fr.length = fn.ntmps → Has fr 0 args → R ⟨C, prot, fn.results.toList, .trim H⟩ c [] fr H r) : aLim C prot f args H = some r := by
 rw [Option.map_eq_some_iff] at hb
 obtain ⟨c0, h0, rfl⟩ := hb
 exact lim_trim hok hp hsh htr hfn h0 hl fun fr h1 h2 => R_slim (h fr h1 h2)
theorem raw_slim {C : Cfg} {prot : Nat} {f : FuncId} {args : List AV} {H : Heap} {fn : Func} {c : Code} {r : AV × Option Heap} (hok : C.ok f = true) (hp : C.pure f = false) (hsh : C.shut f = false) (htr : C.trim f = false) (hfn : C.P.funcs[f]? = some fn) (hb : fn.body.map (slim C) = some c)
  (hl : args.length ≤ fn.ntmps)
  (h : ∀ fr, fr.length = fn.ntmps → Has fr 0 args → R ⟨C, prot, fn.results.toList, .raw⟩ c [] fr H r) : aLim C prot f args H = some r := by
 rw [Option.map_eq_some_iff] at hb
 obtain ⟨c0, h0, rfl⟩ := hb
 exact lim_raw hok hp hsh htr hfn h0 hl fun fr h1 h2 => R_slim (h fr h1 h2)
def T (X : Ctx) (ops : Array Oper) (i : Nat) (l : List Oper) (acc : List Rec) (H0 : Heap) (κ : List K) (fr : List AV) (H : Heap) (r : AV × Option Heap) : Prop :=
 ∃ recs fr' H', aTrace X.C.P (aLim X.C) X.prot ops i l fr H = some (recs, fr', H') ∧ (drawOk X.C.P (aLim X.C) X.prot (befs [] ops.toList) (acc.reverse ++ recs) H0 || drawOk2 X.C.P (aLim X.C) X.prot (befs [] ops.toList) (acc.reverse ++ recs) H0 H') = true ∧ U X κ .normal fr' H' r
def T1 (X : Ctx) (ops : Array Oper) (i : Nat) (o : Oper) (l : List Oper) (acc : List Rec) (H0 : Heap) (κ : List K) (fr : List AV) (H : Heap) (x : Option (AV × Option Heap)) (r : AV × Option Heap) : Prop :=
 ∃ v h, x = some (v, h) ∧ T X ops (i + 1) l (⟨i, o, fr, H, true, v, h⟩ :: acc) H0 κ (fput fr o.dst v) (h.getD H) r
section
variable {X : Ctx} {κ : List K} {fr : List AV} {H H0 : Heap} {r : AV × Option Heap} {ops : Array Oper} {i : Nat} {acc : List Rec}
theorem R_draw (id : Nat) (ops : Array Oper) : R X (.region id ops true) κ fr H r ↔ T X ops 0 ops.toList [] H κ fr H r := by
 unfold R T codeL
 simp only [aCode, if_true, Option.bind_eq_some_iff, List.reverse_nil, List.nil_append]
 constructor
 ·rintro ⟨e, f1, H1, ⟨⟨recs, f2, H2⟩, h1, h2⟩, h3⟩
  dsimp only at h2
  split at h2
  ·cases h2; rename_i hd; exact ⟨recs, _, _, h1, hd, h3⟩
  ·cases h2
 ·rintro ⟨recs, f1, H1, h1, h2, h3⟩
  exact ⟨.normal, f1, H1, ⟨_, h1, if_pos h2⟩, h3⟩
theorem T_nil : T X ops i [] acc H0 κ fr H r ↔ (drawOk X.C.P (aLim X.C) X.prot (befs [] ops.toList) acc.reverse H0 || drawOk2 X.C.P (aLim X.C) X.prot (befs [] ops.toList) acc.reverse H0 H) = true ∧ U X κ .normal fr H r := by
 unfold T
 simp only [aTrace, Option.some.injEq, Prod.mk.injEq]
 constructor
 ·rintro ⟨_, _, _, ⟨rfl, rfl, rfl⟩, h1, h2⟩; rw [List.append_nil] at h1; exact ⟨h1, h2⟩
 ·rintro ⟨h1, h2⟩; exact ⟨_, _, _, ⟨rfl, rfl, rfl⟩, by rw [List.append_nil]; exact h1, h2⟩
theorem T_cons (o : Oper) (l : List Oper) : T X ops i (o :: l) acc H0 κ fr H r ↔ if aWanted ops fr o then T1 X ops i o l acc H0 κ fr H (aOp X.C.P (aLim X.C) X.prot fr o H) r
  else T X ops (i + 1) l (⟨i, o, fr, H, false, .tup [], none⟩ :: acc) H0 κ (fput fr o.dst (.tup [])) H r := by
 unfold T1 T
 simp only [aTrace]
 by_cases hw : aWanted ops fr o = true
 ·simp only [hw, if_true, Option.bind_eq_some_iff, Option.map_eq_some_iff]
  constructor
  ·rintro ⟨recs, f1, H1, ⟨⟨v, h⟩, h1, ⟨recs', f2, H2⟩, h2, h3⟩, h4, h5⟩
   cases h3
   exact ⟨v, h, h1, recs', _, _, h2, by simpa using h4, h5⟩
  ·rintro ⟨v, h, h1, recs', f2, H2, h2, h4, h5⟩
   exact ⟨_, _, _, ⟨_, h1, _, h2, rfl⟩, by simpa using h4, h5⟩
 ·simp only [if_neg hw, Option.map_eq_some_iff]
  constructor
  ·rintro ⟨recs, f1, H1, ⟨⟨recs', f2, H2⟩, h2, h3⟩, h4, h5⟩
   cases h3
   exact ⟨recs', _, _, h2, by simpa using h4, h5⟩
  ·rintro ⟨recs', f2, H2, h2, h4, h5⟩
   exact ⟨_, _, _, ⟨_, h2, rfl⟩, by simpa using h4, h5⟩
theorem T1_none (o : Oper) (l : List Oper) (v : AV) : T1 X ops i o l acc H0 κ fr H (some (v, none)) r ↔ T X ops (i + 1) l (⟨i, o, fr, H, true, v, none⟩ :: acc) H0 κ (fput fr o.dst v) H r := by
 unfold T1
 constructor
 ·rintro ⟨_, _, h, h2⟩; cases h; exact h2
 ·intro h; exact ⟨_, _, rfl, h⟩
theorem T1_some (o : Oper) (l : List Oper) (v : AV) (H' : Heap) : T1 X ops i o l acc H0 κ fr H (some (v, some H')) r ↔ T X ops (i + 1) l (⟨i, o, fr, H, true, v, some H'⟩ :: acc) H0 κ (fput fr o.dst v) H' r := by
 unfold T1
 constructor
 ·rintro ⟨_, _, h, h2⟩; cases h; exact h2
 ·intro h; exact ⟨_, _, rfl, h⟩
end
end Go.Abs

