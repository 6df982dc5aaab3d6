import Derived.Test.YtnipaiklandliaaGreatDoorAbsDraw
namespace Go.Abs
open Go
theorem AV.beq_eq (a : AV) : ∀ b, AV.beq a b = true → a = b :=
 AV.rec (motive_1 := fun a => ∀ b, AV.beq a b = true → a = b) (motive_2 := fun l => ∀ m, AV.beqL l m = true → l = m)
  (fun x b h => by cases b <;> simp [AV.beq] at h; rw [h])
  (fun k n b h => by cases b <;> simp [AV.beq] at h; rw [h.1, h.2])
  (fun s b h => by cases b <;> simp [AV.beq] at h; rw [h])
  (fun b h => by cases b <;> simp [AV.beq] at h; rfl)
  (fun x y z b h => by cases b <;> simp [AV.beq] at h; rw [h.1.1, h.1.2, h.2])
  (fun cs o ih b h => by cases b <;> simp [AV.beq] at h; rw [h.1, ih _ h.2])
  (fun b h => by cases b <;> simp [AV.beq] at h; rfl)
  (fun es f ih b h => by cases b <;> simp [AV.beq] at h; rw [h.1, ih _ h.2])
  (fun s b h => by cases b <;> simp [AV.beq] at h; rw [h])
  (fun b h => by cases b <;> simp [AV.beq] at h; rfl)
  (fun r b h => by cases b <;> simp [AV.beq] at h; rw [h])
  (fun b h => by cases b <;> simp [AV.beq] at h; rfl)
  (fun f x y ih1 ih2 b h => by cases b <;> simp [AV.beq] at h; rw [h.1.1, ih1 _ h.1.2, ih2 _ h.2])
  (fun b h => by cases b <;> simp [AV.beq] at h; rfl)
  (fun t v ih b h => by cases b <;> simp [AV.beq] at h; rw [h.1, ih _ h.2])
  (fun cs ih b h => by cases b <;> simp [AV.beq] at h; rw [ih _ h])
  (fun cs ih b h => by cases b <;> simp [AV.beq] at h; rw [ih _ h])
  (fun a b h => by cases b <;> simp [AV.beq] at h; rw [h])
  (fun r b h => by cases b <;> simp [AV.beq] at h; rw [h])
  (fun m h => by cases m with | nil => rfl | cons y m => simp [AV.beqL] at h)
  (fun x l ihx ihl m h => by cases m with | nil => simp [AV.beqL] at h | cons y m => simp only [AV.beqL, Bool.and_eq_true] at h; rw [ihx y h.1, ihl m h.2]) a
section
variable {E : Env}
theorem LRel.put {fr : List AV} {a : Act} (h : LRel E fr a.tmps) {d : Option Tmp} {v : AV} {v' : Value} (hv : VRel E v v') : LRel E (fput fr d v) (a.put d v').tmps := by
 cases d with
 | none => exact h
 | some d =>
  refine ⟨by simp [fput, Act.put, h.1], fun j => ?_⟩
  have hj := h.2 j
  have hs := h.1
  simp only [fput, Act.put, List.getD, Array.getD_eq_getD_getElem?, List.getElem?_set, Array.getElem?_setIfInBounds] at hj ⊢
  by_cases e : d = j
  ·subst e
   simp only [if_true]
   by_cases hlt : d < fr.length
   ·rw [if_pos hlt, if_pos (hs ▸ hlt)]; exact hv
   ·rw [if_neg hlt, if_neg (hs ▸ hlt)]; exact .undef E
  ·simp only [e, if_false]; exact hj
theorem Act.put_defers (a : Act) (d : Option Tmp) (v : Value) : (a.put d v).defers = a.defers := by cases d <;> rfl
theorem yield_rel {ops : Array Oper} {fr : List AV} {a : Array Value} (h : LRel E fr a) (j : Nat) : aYield ops fr j = yielded ops a j := by
 unfold aYield yielded
 cases hd : (ops[j]?).bind (·.dst) with
 | none => rfl
 | some d =>
  simp only [Option.bind_some]
  have hs := h.1
  by_cases hlt : d < fr.length
  ·have := h.get d hlt
   have hlt' : d < a.size := hs ▸ hlt
   rw [List.getElem?_eq_getElem hlt, Array.getElem?_eq_getElem hlt']
   rw [Array.getD_eq_getD_getElem?, Array.getElem?_eq_getElem hlt'] at this
   simp only [Option.getD_some] at this
   generalize fr[d] = x at this ⊢
   generalize a[d] = y at this ⊢
   cases this <;> rfl
  ·rw [List.getElem?_eq_none (Nat.le_of_not_lt hlt), Array.getElem?_eq_none (hs ▸ Nat.le_of_not_lt hlt)]
theorem wanted_rel {ops : Array Oper} {fr : List AV} {a : Array Value} (h : LRel E fr a) (o : Oper) : aWanted ops fr o = Region.wanted o (yielded ops a) := by
 unfold aWanted
 congr 1
 funext j
 exact yield_rel h j
theorem aSeq_ok {P : Program} (hN : NoCount P) {call : CallT} (hcall : CallOk P call) {prot : Nat} {ops : Array Oper} {Q : Exit → Act → World → Prop} : ∀ (l : List Oper) (i : Nat), ops.toList.drop i = l →
  ∀ (E : Env) (fr : List AV) (a : Act) (fr' : List AV) (H' : Heap), HRel E → E.ip ≤ prot → LRel E fr a.tmps → aSeq P call prot ops l fr E.H = some (fr', H') →
   (∀ E' a', E'.H = H' → HRel E' → Step prot E E' → LRel E' fr' a'.tmps → a'.defers = a.defers → Q .normal a' E'.w) → wpOps P ops Q (List.range' i l.length) a E.w := by
 intro l
 induction l with
 | nil =>
  intro i _ E fr a fr' H' hE _ hf h hQ
  simp only [aSeq, Option.some.injEq, Prod.mk.injEq] at h
  obtain ⟨rfl, rfl⟩ := h
  exact hQ E a rfl hE (Step.refl _ _) hf rfl
 | cons o l ih =>
  intro i hl E fr a fr' H' hE hip hf h hQ
  have hi : ops[i]? = some o := by
   have := congrArg (fun l => l[0]?) hl
   simpa using this
  have hl' : ops.toList.drop (i + 1) = l := by
   have := congrArg List.tail hl
   simpa using this
  rw [List.length_cons, List.range'_succ, wpOps_cons]
  unfold wpOp
  simp only [hi, ← wanted_rel hf]
  simp only [aSeq] at h
  split at h
  ·rename_i hw
   simp only [hw, if_true]
   simp only [Option.bind_eq_some_iff] at h
   obtain ⟨⟨v, eff⟩, ho, h⟩ := h
   dsimp only at h
   refine .inl (aOp_ok hN hE hcall hip hf ho ?_)
   intro E' v' e1 e2 e3 e4
   refine ih (i + 1) hl' E' (fput fr o.dst v) (a.put o.dst v') fr' H' e2 (by rw [e3.ip]; exact hip) ((hf.mono e3.all).put e4) (by rw [e1]; exact h) ?_
   intro E2 a2 g1 g2 g3 g4 g5
   exact hQ E2 a2 g1 g2 (e3.trans g3) g4 (g5.trans (Act.put_defers _ _ _))
  ·rename_i hw
   simp only [hw, Bool.false_eq_true, if_false]
   refine ih (i + 1) hl' E (fput fr o.dst (.tup [])) (a.put o.dst undef) fr' H' hE hip (hf.put (.undef E)) h ?_
   intro E2 a2 g1 g2 g3 g4 g5
   exact hQ E2 a2 g1 g2 g3 g4 (g5.trans (Act.put_defers _ _ _))
theorem ssaOk_spec {ops : Array Oper} (h : ssaOk ops = true) :
  (∀ (j : Nat) (o : Oper), ops.toList[j]? = some o → ∀ e ∈ o.after.toList, Region.binds .any e = true → e.on < j) ∧
  (∀ (i j : Nat) (q o : Oper), ops.toList[i]? = some q → ops.toList[j]? = some o → i ≠ j → ∀ t, q.dst = some t → o.dst ≠ some t) ∧
  (∀ (i j : Nat) (q o : Oper), ops.toList[i]? = some q → ops.toList[j]? = some o → i ≠ j → ∀ t, q.dst = some t → t ∈ namesOf ops o → (i < j ∧ bound (befs [] ops.toList) i j = true) ∨ (j < i ∧ bound (befs [] ops.toList) j i = true)) := by
 unfold ssaOk at h
 simp only [List.all_eq_true] at h
 have mem : ∀ (j : Nat) (o : Oper), ops.toList[j]? = some o → (o, j) ∈ ops.toList.zipIdx := fun j o hj => by
  rw [List.mem_zipIdx_iff_getElem?]; exact hj
 refine ⟨fun j o hj e he hb => ?_, fun i j q o hi hj hne t hq ho => ?_, fun i j q o hi hj hne t hq ht => ?_⟩
 ·have := h _ (mem j o hj)
  simp only [Bool.and_eq_true, List.all_eq_true] at this
  have h1 := this.1 e he
  simpa [hb] using h1
 ·have := h _ (mem j o hj)
  simp only [Bool.and_eq_true, List.all_eq_true] at this
  have h1 := this.2 _ (mem i q hi)
  simp [hne, hq, ho] at h1
 ·have := h _ (mem j o hj)
  simp only [Bool.and_eq_true, List.all_eq_true] at this
  have h1 := this.2 _ (mem i q hi)
  simp only [hq, Bool.or_eq_true, beq_iff_eq, hne, false_or, Bool.and_eq_true] at h1
  have h2 := h1.2
  simp only [List.contains_eq_mem, ht, decide_true, Bool.not_true, Bool.false_eq_true, false_or] at h2
  split at h2
  ·rename_i hlt; exact .inl ⟨hlt, h2⟩
  ·rename_i hlt; exact .inr ⟨by omega, h2⟩
structure Mid (prot : Nat) (ops : Array Oper) (recs : List Rec) (fr : List AV) (E0 : Env) (d0 : List Deferred) (listed : Array Bool) (k : Nat) (E : Env) (a : Act) : Prop where
 size : listed.size = ops.size
 closed : ∀ (j : Nat) (o : Oper), ops.toList[j]? = some o → listed.getD j false = true → ∀ e ∈ o.after.toList, Region.binds .any e = true → listed.getD e.on false = true
 le : k ≤ (recs.filter (·.eff.isSome)).length
 pre : ∀ n (h : n < (recs.filter (·.eff.isSome)).length), listed.getD ((recs.filter (·.eff.isSome))[n]).i false = true ↔ n < k
 heap : E.H = foldH E0.H ((recs.filter (·.eff.isSome)).take k)
 hrel : HRel E
 step : Step prot E0 E
 frame : LRel E (foldF fr (recs.filter fun r => listed.getD r.i false)) a.tmps
 defers : a.defers = d0
theorem mem_ready {ops : Array Oper} {listed : Array Bool} (hs : listed.size = ops.size) {j : Nat} : j ∈ Region.ready .any ops listed ↔
  ∃ o, ops.toList[j]? = some o ∧ listed.getD j false = false ∧ ∀ e ∈ o.after.toList, Region.binds .any e = true → listed.getD e.on false = true := by
 unfold Region.ready
 rw [List.mem_filter, List.mem_range]
 constructor
 ·rintro ⟨hj, h⟩
  rw [Bool.and_eq_true] at h
  have ho : ops[j]? = some ops[j] := Array.getElem?_eq_getElem hj
  refine ⟨ops[j], by simp, ?_, ?_⟩
  ·have h1 := h.1
   rw [Array.getD_eq_getD_getElem?, Array.getElem?_eq_getElem (by omega)] at h1 ⊢
   simpa using h1
  ·have h2 := h.2
   rw [ho] at h2
   simp only [Option.map_some, Option.getD_some, Array.all_eq_true_iff_forall_mem] at h2
   intro e he hb
   have := h2 e (by simpa using he)
   simpa [hb] using this
 ·rintro ⟨o, ho, h1, h2⟩
  have hj : j < ops.size := by
   have := (List.getElem?_eq_some_iff.1 ho).1; simpa using this
  have ho' : ops[j]? = some o := by simpa using ho
  refine ⟨hj, ?_⟩
  rw [Bool.and_eq_true]
  refine ⟨?_, ?_⟩
  ·rw [Array.getD_eq_getD_getElem?, Array.getElem?_eq_getElem (by omega)] at h1 ⊢
   simpa using h1
  ·rw [ho']
   simp only [Option.map_some, Option.getD_some, Array.all_eq_true_iff_forall_mem]
   intro e he
   cases hb : Region.binds .any e with
   | false => simp
   | true => simp [h2 e (by simpa using he) hb]
theorem getD_set {l : Array Bool} {i j : Nat} (h : i < l.size) : (l.setIfInBounds i true).getD j false = if j = i then true else l.getD j false := by
 rw [Array.getD_eq_getD_getElem?, Array.getElem?_setIfInBounds]
 split
 ·rename_i e; subst e; simp
 ·rename_i e; rw [if_neg (fun hh => e hh.symm), ← Array.getD_eq_getD_getElem?]
theorem filter_split {recs : List Rec} {p : Rec → Bool} {j : Nat} (hj : j < recs.length) (hp : p recs[j] = false) (q : Rec → Bool) (hq : ∀ r ∈ recs, q r = (p r || decide (r.i = recs[j].i)))
  (hi : ∀ k (h : k < recs.length), recs[k].i = k) : recs.filter p = (recs.take j).filter p ++ (recs.drop (j + 1)).filter p ∧ recs.filter q = (recs.take j).filter p ++ recs[j] :: (recs.drop (j + 1)).filter p := by
 have e : recs = recs.take j ++ recs[j] :: recs.drop (j + 1) := by rw [← List.drop_eq_getElem_cons hj, List.take_append_drop]
 have ht : ∀ r ∈ recs.take j, q r = p r := fun r hr => by
  obtain ⟨k, hk, rfl⟩ := List.getElem_of_mem hr
  rw [hq _ (List.mem_of_mem_take hr)]
  simp only [List.getElem_take]
  have hk' : k < j := by simp at hk; omega
  rw [hi k (by omega), hi j hj]; simp; omega
 have hd : ∀ r ∈ recs.drop (j + 1), q r = p r := fun r hr => by
  obtain ⟨k, hk, rfl⟩ := List.getElem_of_mem hr
  rw [hq _ (List.mem_of_mem_drop hr)]
  simp only [List.getElem_drop]
  have hk' : j + 1 + k < recs.length := by simp at hk; omega
  rw [hi _ hk', hi j hj]; simp; omega
 constructor
 ·conv => lhs; rw [e]
  rw [List.filter_append, List.filter_cons, hp]; simp
 ·conv => lhs; rw [e]
  rw [List.filter_append, List.filter_cons, hq recs[j] (List.getElem_mem hj)]
  simp only [decide_true, Bool.or_true, if_true]
  rw [List.filter_congr ht, List.filter_congr hd]
theorem chained_spec {bef : List Nat} : ∀ {es : List Rec}, chained bef es = true → ∀ n (h : n + 1 < es.length), bound bef es[n].i es[n + 1].i = true
 | [], _, n, h => by simp at h
 | [_], _, n, h => by simp at h
 | a :: b :: r, hc, n, h => by
  simp only [chained, Bool.and_eq_true] at hc
  cases n with
  | zero => exact hc.1
  | succ n => exact chained_spec hc.2 n (by simpa using h)
end
end Go.Abs

