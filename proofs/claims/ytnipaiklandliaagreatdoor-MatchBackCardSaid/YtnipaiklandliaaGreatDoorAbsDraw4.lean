import Derived.Test.YtnipaiklandliaaGreatDoorAbsDraw3
namespace Go.Abs
open Go
theorem beqBlk_eq {a b : Blk} (h : beqBlk a b = true) : a = b := by
 have hl : ∀ (l m : List AV), AV.beqL l m = true → l = m := by
  intro l
  induction l with
  | nil => intro m h; cases m with
   | nil => rfl
   | cons y m => simp [AV.beqL] at h
  | cons x l ih => intro m h; cases m with
   | nil => simp [AV.beqL] at h
   | cons y m => simp only [AV.beqL, Bool.and_eq_true] at h; rw [AV.beq_eq _ _ h.1, ih m h.2]
 have he : ∀ (l m : List (AV × AV)), beqE l m = true → l = m := by
  intro l
  induction l with
  | nil => intro m h; cases m with
   | nil => rfl
   | cons y m => simp [beqE] at h
  | cons x l ih => intro m h; cases m with
   | nil => simp [beqE] at h
   | cons y m =>
    obtain ⟨a, b⟩ := x
    obtain ⟨c, d⟩ := y
    simp only [beqE, Bool.and_eq_true] at h; rw [AV.beq_eq _ _ h.1.1, AV.beq_eq _ _ h.1.2, ih m h.2]
 cases a <;> cases b <;> simp only [beqBlk, Bool.and_eq_true, decide_eq_true_eq, Bool.false_eq_true] at h
 ·rw [h.1, hl _ _ h.2]
 ·rw [he _ _ h]
 ·rfl
theorem beqHp_eq : ∀ {a b : Heap}, beqHp a b = true → a = b
 | [], [], _ => rfl
 | x :: a, y :: b, h => by simp only [beqHp, Bool.and_eq_true] at h; rw [beqBlk_eq h.1, beqHp_eq h.2]
 | [], _ :: _, h => by simp [beqHp] at h
 | _ :: _, [], h => by simp [beqHp] at h
theorem downs_all {bef : List Nat} {f : Nat → Bool} : ∀ (l done : List Rec) (Ds : List (List Bool)), (∀ e ∈ done ++ l, f e.i = true → ∀ x ∈ done ++ l, bound bef x.i e.i = true → f x.i = true) →
  done.map (fun e => f e.i) ∈ Ds → (done ++ l).map (fun e => f e.i) ∈ downs bef done l Ds
 | [], done, Ds, _, h => by simpa [downs] using h
 | e :: l, done, Ds, hc, h => by
  have e1 : done ++ e :: l = done ++ [e] ++ l := by simp
  rw [downs, e1]
  refine downs_all l (done ++ [e]) _ (by rw [← e1]; exact hc) ?_
  rw [List.map_append, List.mem_append]
  cases hf : f e.i with
  | false => exact .inl (List.mem_map.2 ⟨_, h, by simp [hf]⟩)
  | true =>
   refine .inr (List.mem_map.2 ⟨_, List.mem_filter.2 ⟨h, ?_⟩, by simp [hf]⟩)
   rw [List.all_eq_true]
   rintro ⟨x, b⟩ hx
   rw [List.zip_map_right, List.mem_map] at hx
   obtain ⟨⟨y, z⟩, hy, hz⟩ := hx
   simp only [Prod.map, id, Prod.mk.injEq] at hz
   obtain ⟨rfl, rfl⟩ := hz
   have hyz : y = z ∧ y ∈ done := by
    have := List.mem_iff_getElem.1 hy
    obtain ⟨n, hn, he⟩ := this
    simp only [List.getElem_zip, Prod.mk.injEq] at he
    exact ⟨he.1.symm.trans he.2, by rw [← he.1]; exact List.getElem_mem _⟩
   obtain ⟨rfl, hyd⟩ := hyz
   show (!bound bef y.i e.i || f y.i) = true
   cases hb : bound bef y.i e.i with
   | false => rfl
   | true => rw [hc e (by simp) hf y (by simp [hyd]) hb]; rfl
def zOf (es : List Rec) (f : Nat → Bool) : List (Rec × Bool) := es.map fun e => (e, f e.i)
theorem zip_zOf (es : List Rec) (f : Nat → Bool) : es.zip (es.map fun e => f e.i) = zOf es f := by
 induction es with
 | nil => rfl
 | cons e es ih => simp only [List.map_cons, List.zip_cons_cons, zOf]; rw [← zOf, ← ih]
theorem addD_zOf (es : List Rec) (f : Nat → Bool) (j : Nat) : addD (zOf es f) j = zOf es fun i => f i || i == j := by
 simp [addD, zOf]
structure Mid2 (P : Program) (call : CallT) (prot : Nat) (ops : Array Oper) (recs : List Rec) (fr : List AV) (E0 : Env) (d0 : List Deferred) (listed : Array Bool) (E : Env) (a : Act) : Prop where
 size : listed.size = ops.size
 closed : ∀ (j : Nat) (o : Oper), ops.toList[j]? = some o → listed.getD j false = true → ∀ e ∈ o.after.toList, Region.binds .any e = true → listed.getD e.on false = true
 heap : KDl P call prot (zOf (recs.filter (·.eff.isSome)) fun i => listed.getD i false) E0.H = some E.H
 hrel : HRel E
 step : Step prot E0 E
 frame : LRel E (foldF fr (recs.filter fun r => listed.getD r.i false)) a.tmps
 defers : a.defers = d0
section
variable {P : Program} {call : CallT} {prot : Nat} {ops : Array Oper} {Q : Exit → Act → World → Prop}
theorem aDraw2_ok (hN : NoCount P) (hcall : CallOk P call) (hssa : ssaOk ops = true) {E0 : Env} {fr fr' : List AV} {a0 : Act} {recs : List Rec} {H' : Heap} (hip : E0.ip ≤ prot)
  (ht : aTrace P call prot ops 0 ops.toList fr E0.H = some (recs, fr', H')) (hok : drawOk2 P call prot (befs [] ops.toList) recs E0.H H' = true)
  (hQ : ∀ E' a', E'.H = H' → HRel E' → Step prot E0 E' → LRel E' fr' a'.tmps → a'.defers = a0.defers → Q .normal a' E'.w) :
  ∀ (fuel : Nat) (listed : Array Bool) (E : Env) (a : Act), Mid2 P call prot ops recs fr E0 a0.defers listed E a → listed.toList.count false = fuel → wpAny P .any ops Q fuel listed a E.w := by
 obtain ⟨hback, hdist, hord⟩ := ssaOk_spec hssa
 obtain ⟨hlen, hfr', hH', hrec⟩ := aTrace_spec _ _ _ _ _ _ _ ht
 simp only [Nat.zero_add] at hrec
 have hidx : ∀ k (h : k < recs.length), recs[k].i = k := fun k h => (hrec k h).1
 have hops : ∀ k (h : k < recs.length), ops.toList[k]? = some recs[k].o := fun k h => (hrec k h).2.1
 have hpw : recs.Pairwise fun a b => a.i < b.i := by
  rw [List.pairwise_iff_getElem]
  intro i j hi hj hij
  rw [hidx i hi, hidx j hj]; exact hij
 have hein : ∀ e ∈ recs.filter (·.eff.isSome), e.i < ops.size ∧ ∃ h : e.i < recs.length, recs[e.i] = e := fun e he => by
  obtain ⟨q, hq, rfl⟩ := List.getElem_of_mem (mem_of_filter he)
  have h1 : recs[q].i = q := hidx q hq
  refine ⟨by rw [h1]; rw [hlen] at hq; simpa using hq, by rw [h1]; exact hq, by simp only [h1]⟩
 unfold drawOk2 at hok
 simp only [Bool.and_eq_true] at hok
 obtain ⟨hall, hlast⟩ := hok
 rw [List.all_eq_true] at hall
 intro fuel
 induction fuel with
 | zero =>
  intro listed E a hM hc
  have hall' : ∀ j, j < ops.size → listed.getD j false = true := by
   intro j hj
   have hmem : false ∉ listed.toList := List.count_eq_zero.1 hc
   cases hb : listed.getD j false with
   | true => rfl
   | false =>
    exfalso
    apply hmem
    rw [Array.getD_eq_getD_getElem?, Array.getElem?_eq_getElem (by rw [hM.size]; exact hj), Option.getD_some] at hb
    rw [← hb]; simp
  constructor
  ·rw [List.eq_nil_iff_forall_not_mem]
   intro j hj
   obtain ⟨o, ho, h1, _⟩ := (mem_ready hM.size).1 hj
   rw [hall' j (by have := (List.getElem?_eq_some_iff.1 ho).1; simpa using this)] at h1
   cases h1
  ·refine hQ E a ?_ hM.hrel hM.step ?_ hM.defers
   ·have hz : zOf (recs.filter (·.eff.isSome)) (fun i => listed.getD i false) = (recs.filter (·.eff.isSome)).map fun e => (e, true) := by
     unfold zOf
     refine List.map_congr_left fun e he => ?_
     show (e, listed.getD e.i false) = (e, true)
     rw [hall' e.i (hein e he).1]
    have h1 := hM.heap
    rw [hz] at h1
    rw [h1] at hlast
    exact beqHp_eq hlast
   ·have hf := hM.frame
    rw [hfr']
    have : recs.filter (fun r => listed.getD r.i false) = recs := by
     rw [List.filter_eq_self]
     intro r hr
     obtain ⟨q, hq, rfl⟩ := List.getElem_of_mem hr
     rw [hidx q hq]; exact hall' q (by rw [hlen] at hq; simpa using hq)
    rw [this] at hf; exact hf
 | succ fuel ih =>
  intro listed E a hM hc
  have hL := hM.closed
  refine ⟨fun hnil => ?_, fun j hj => ?_⟩
  ·exfalso
   have hex : ∃ j, j < ops.size ∧ listed.getD j false = false := by
    have hmem : false ∈ listed.toList := List.count_pos_iff.1 (by omega)
    obtain ⟨j, hj, he⟩ := List.getElem_of_mem hmem
    have hj' : j < listed.size := by simpa using hj
    refine ⟨j, by rw [← hM.size]; exact hj', ?_⟩
    rw [Array.getD_eq_getD_getElem?, Array.getElem?_eq_getElem hj', Option.getD_some]
    simpa using he
   have hmin : ∀ n, (∃ j, j < n ∧ j < ops.size ∧ listed.getD j false = false) → ∃ j, j < ops.size ∧ listed.getD j false = false ∧ ∀ i, i < j → listed.getD i false = true := by
    intro n
    induction n with
    | zero => rintro ⟨j, h, _⟩; omega
    | succ n ihn =>
     rintro ⟨j, h1, h2, h3⟩
     by_cases h : ∃ j, j < n ∧ j < ops.size ∧ listed.getD j false = false
     ·exact ihn h
     ·refine ⟨j, h2, h3, fun i hi => ?_⟩
      cases hb : listed.getD i false with
      | true => rfl
      | false => exact absurd ⟨i, by omega, by omega, hb⟩ h
   obtain ⟨j0, hj0, hb0⟩ := hex
   obtain ⟨j, hj, hb, hm⟩ := hmin (j0 + 1) ⟨j0, by omega, hj0, hb0⟩
   have ho : ops.toList[j]? = some ops[j] := by simp [hj]
   have : j ∈ Region.ready .any ops listed := (mem_ready hM.size).2 ⟨ops[j], ho, hb, fun e he hbi => hm _ (hback j _ ho e he hbi)⟩
   rw [hnil] at this; cases this
  ·obtain ⟨o, ho, hun, hedge⟩ := (mem_ready hM.size).1 hj
   have hjs : j < ops.size := by have := (List.getElem?_eq_some_iff.1 ho).1; simpa using this
   have hjr : j < recs.length := by rw [hlen]; simpa using hjs
   obtain ⟨g1, g2, g3, g4, g5, g6, g7⟩ := hrec j hjr
   have hro : recs[j].o = o := by rw [ho] at g2; exact (Option.some.inj g2).symm
   have hin : ∀ e ∈ o.after.toList, Region.binds .any e = true → e.on < ops.toList.length := fun e he hb => by
    have := hback j o ho e he hb; simp; omega
   have hanc : ∀ i, bound (befs [] ops.toList) i j = true → listed.getD i false = true := fun i hi => bound_ready (L := fun j => listed.getD j false = true) hL ho hedge hin hi
   have hdes : ∀ i, i < ops.size → listed.getD i false = true → bound (befs [] ops.toList) j i = false := fun i hi hl => by
    cases hb : bound (befs [] ops.toList) j i with
    | false => rfl
    | true =>
     have h9 : listed.getD j false = true := bound_listed (L := fun j => listed.getD j false = true) hL i (by simpa using hi) hl j hb
     rw [hun] at h9; cases h9
   have hagree : ∀ t ∈ namesOf ops o, fget (foldF fr (recs.filter fun r => listed.getD r.i false)) t = fget recs[j].fr t := by
    intro t htn
    rw [g3]
    by_cases hex : ∃ i, ∃ hi : i < recs.length, i ≠ j ∧ recs[i].o.dst = some t
    ·obtain ⟨i, hi, hne, hd⟩ := hex
     have huniq : ∀ r ∈ recs, r.o.dst = some t → r.i ≠ j → r = recs[i] := by
      intro r hr hrd hrj
      obtain ⟨q, hq, rfl⟩ := List.getElem_of_mem hr
      by_cases e : q = i
      ·subst e; rfl
      ·exact absurd hd (hdist q i _ _ (hops q hq) (hops i hi) e t hrd)
     have hi' : i < ops.size := by rw [hlen] at hi; simpa using hi
     rcases hord i j _ o (hops i hi) ho hne t hd htn with ⟨hlt, hb⟩ | ⟨hlt, hb⟩
     ·have h1 : recs[i] ∈ recs.filter (fun r => listed.getD r.i false) := List.mem_filter.2 ⟨List.getElem_mem hi, by simp only [hidx i hi]; exact hanc i hb⟩
      have h2 : recs[i] ∈ recs.take j := by
       rw [List.mem_take_iff_getElem]; exact ⟨i, by omega, rfl⟩
      have k1 : ∀ r' ∈ recs.filter (fun r => listed.getD r.i false), r'.o.dst = some t → r' = recs[i] := fun r' hr' hd' => huniq r' (List.mem_filter.1 hr').1 hd' fun e => by
       have h9 := (List.mem_filter.1 hr').2
       simp only [e] at h9; rw [hun] at h9; cases h9
      have k2 : ∀ r' ∈ recs.take j, r'.o.dst = some t → r' = recs[i] := fun r' hr' hd' => huniq r' (List.mem_of_mem_take hr') hd' fun e => by
       rw [List.mem_take_iff_getElem] at hr'
       obtain ⟨q, hq, rfl⟩ := hr'
       rw [hidx] at e; omega
      rw [fold_one h1 hd k1, fold_one h2 hd k2]
     ·have hnl : listed.getD i false = false := by
       cases hbl : listed.getD i false with
       | false => rfl
       | true => have := hdes i hi' hbl; rw [hb] at this; cases this
      rw [fold_none, fold_none]
      ·intro r hr hrd
       rw [List.mem_take_iff_getElem] at hr
       obtain ⟨q, hq, rfl⟩ := hr
       have := huniq _ (List.getElem_mem (by omega)) hrd (by rw [hidx]; omega)
       have h2 := congrArg Rec.i this
       rw [hidx, hidx] at h2; omega
      ·intro r hr hrd
       have hf := (List.mem_filter.1 hr).2
       have := huniq r (List.mem_filter.1 hr).1 hrd fun e => by simp only [e] at hf; rw [hun] at hf; cases hf
       rw [this] at hf
       simp only [hidx i hi] at hf; rw [hnl] at hf; cases hf
    ·rw [fold_none, fold_none]
     ·intro r hr hrd
      rw [List.mem_take_iff_getElem] at hr
      obtain ⟨q, hq, rfl⟩ := hr
      exact hex ⟨q, by omega, by omega, hrd⟩
     ·intro r hr hrd
      obtain ⟨q, hq, rfl⟩ := List.getElem_of_mem (List.mem_filter.1 hr).1
      have hf := (List.mem_filter.1 hr).2
      refine hex ⟨q, hq, fun e => ?_, hrd⟩
      have h8 : recs[q].i = j := by rw [hidx q hq]; exact e
      simp only [h8] at hf; rw [hun] at hf; cases hf
   have hlencur : (foldF fr (recs.filter fun r => listed.getD r.i false)).length = recs[j].fr.length := by rw [g3, foldF_length, foldF_length]
   have hopc : ∀ H, aOp P call prot (foldF fr (recs.filter fun r => listed.getD r.i false)) o H = aOp P call prot recs[j].fr o H := fun H => aOp_congr P call prot o H fun x hx => by
    cases x with
    | tmp t => simp only [aEval]; rw [hagree t (by unfold namesOf; rw [List.mem_append]; exact .inl (List.mem_filterMap.2 ⟨.tmp t, hx, rfl⟩))]
    | _ => rfl
   have hwc : aWanted ops (foldF fr (recs.filter fun r => listed.getD r.i false)) o = recs[j].wanted := by
    rw [g5, hro]
    unfold aWanted Region.wanted
    cases hg : o.guard with
    | none => rfl
    | some p =>
     obtain ⟨gj, want⟩ := p
     show (aYield ops _ gj == some want) = (aYield ops _ gj == some want)
     congr 1
     unfold aYield
     cases hd : (ops[gj]?).bind (·.dst) with
     | none => rfl
     | some d =>
      simp only [Option.bind_some]
      have : d ∈ namesOf ops o := by unfold namesOf; rw [List.mem_append, hg]; exact .inr (by simp [hd])
      rw [get_of_fget hlencur (hagree d this)]
   have hnext : ∀ (E' : Env) (v' : Value), KDl P call prot (zOf (recs.filter (·.eff.isSome)) fun i => (listed.setIfInBounds j true).getD i false) E0.H = some E'.H → HRel E' → Step prot E E' → VRel E' recs[j].v v' → wpAny P .any ops Q fuel (listed.setIfInBounds j true) (a.put o.dst v') E'.w := by
    intro E' v' hH hHR hst hv
    have hjl : j < listed.size := by rw [hM.size]; exact hjs
    refine ih _ E' _ ⟨by simp [hM.size], ?_, hH, hHR, hM.step.trans hst, ?_, ?_⟩ ?_
    ·intro i q hq hl e he hb
     rw [getD_set hjl] at hl ⊢
     by_cases ei : i = j
     ·subst ei
      rw [ho] at hq; cases hq
      split
      ·rfl
      ·exact hedge e he hb
     ·rw [if_neg ei] at hl
      split
      ·rfl
      ·exact hL i q hq hl e he hb
    ·have hsp := filter_split (p := fun r => listed.getD r.i false) hjr (by simp only [hidx j hjr]; exact hun) (fun r => (listed.setIfInBounds j true).getD r.i false)
      (fun r hr => by
       rw [getD_set hjl, hidx j hjr]
       split
       ·rename_i e; simp [e]
       ·rename_i e; simp [e]) hidx
     have hfm := hM.frame.mono hst.all
     rw [hsp.1] at hfm
     rw [hsp.2, foldF_append]
     have hp := hfm.put (d := o.dst) hv
     have e1 : foldF (foldF fr ((recs.take j).filter fun r => listed.getD r.i false)) (recs[j] :: (recs.drop (j + 1)).filter fun r => listed.getD r.i false) =
       fput (foldF fr ((recs.take j).filter (fun r => listed.getD r.i false) ++ (recs.drop (j + 1)).filter fun r => listed.getD r.i false)) o.dst recs[j].v := by
      rw [foldF_append]
      show foldF (fput _ recs[j].o.dst recs[j].v) _ = _
      rw [hro]
      refine foldF_put fun r hr t hd => ?_
      obtain ⟨q, hq, rfl⟩ := List.getElem_of_mem (mem_of_filter hr)
      simp only [List.getElem_drop]
      have hq' : j + 1 + q < recs.length := by simp at hq; omega
      exact hdist j (j + 1 + q) o _ ho (hops _ hq') (by omega) t hd
     rw [e1]; exact hp
    ·rw [Act.put_defers]; exact hM.defers
    ·rw [Array.toList_setIfInBounds, List.count_set (by simpa using hjl)]
     have : listed.toList[j]'(by simpa using hjl) = false := by
      rw [Array.getD_eq_getD_getElem?, Array.getElem?_eq_getElem hjl, Option.getD_some] at hun
      simpa using hun
     rw [this, hc]; simp
   have hset : ∀ e ∈ recs.filter (·.eff.isSome), (listed.setIfInBounds j true).getD e.i false = (listed.getD e.i false || e.i == j) := fun e _ => by
    rw [getD_set (by rw [hM.size]; exact hjs)]
    by_cases h : e.i = j <;> simp [h]
   have hsame : recs[j].eff = none → (zOf (recs.filter (·.eff.isSome)) fun i => (listed.setIfInBounds j true).getD i false) = zOf (recs.filter (·.eff.isSome)) fun i => listed.getD i false := fun hnone => by
    unfold zOf
    refine List.map_congr_left fun e he => ?_
    show (e, (listed.setIfInBounds j true).getD e.i false) = (e, listed.getD e.i false)
    rw [hset e he]
    have hne : e.i ≠ j := fun h => by
     obtain ⟨_, h1, h2⟩ := hein e he
     have h3 := (List.mem_filter.1 he).2
     have h4 : recs[e.i] = recs[j] := by simp only [h]
     rw [← h2, h4, hnone] at h3; cases h3
    simp [hne]
   have hD : (recs.filter (·.eff.isSome)).map (fun e => listed.getD e.i false) ∈ downs (befs [] ops.toList) [] (recs.filter (·.eff.isSome)) [[]] := by
    have := downs_all (bef := befs [] ops.toList) (f := fun i => listed.getD i false) (recs.filter (·.eff.isSome)) [] [[]] (fun e he hl x hx hb =>
     bound_listed (L := fun j => listed.getD j false = true) hL e.i (by simpa using (hein e (by simpa using he)).1) hl x.i hb) (by simp)
    simpa using this
   have hchk := hall _ hD
   rw [zip_zOf _ (fun i => listed.getD i false), hM.heap] at hchk
   simp only [Bool.and_eq_true, List.all_eq_true] at hchk
   have hcompat : compatD (befs [] ops.toList) (zOf (recs.filter (·.eff.isSome)) fun i => listed.getD i false) recs[j] = true := by
    unfold compatD zOf
    rw [List.all_map, List.all_eq_true]
    intro x hx
    simp only [Function.comp_apply, Bool.and_eq_true, Bool.or_eq_true, Bool.not_eq_true', hidx j hjr]
    constructor
    ·cases hb : bound (befs [] ops.toList) x.i j with
     | false => exact .inl rfl
     | true => exact .inr (hanc _ hb)
    ·cases hl : listed.getD x.i false with
     | false => exact .inl rfl
     | true => exact .inr (hdes _ (hein x hx).1 hl)
   have hops' : ops[j]? = some o := by simpa using ho
   unfold wpOp
   simp only [hops', ← wanted_rel hM.frame, hwc]
   cases hw : recs[j].wanted with
   | false =>
    simp only [Bool.false_eq_true, if_false]
    obtain ⟨hv, heff⟩ := g7 hw
    exact hnext E undef (by rw [hsame heff]; exact hM.heap) hM.hrel (Step.refl _ _) (by rw [hv]; exact .undef E)
   | true =>
    simp only [if_true]
    have hip' : E.ip ≤ prot := by rw [hM.step.ip]; exact hip
    cases heff : recs[j].eff with
    | none =>
     have hrun : aOp P call prot recs[j].fr o E.H = some (recs[j].v, none) := by
      have h1 := hchk.2 recs[j] (List.getElem_mem hjr)
      simp only [heff, Option.isSome_none, hw, Bool.not_true, Bool.or_self, Bool.false_or, hcompat] at h1
      unfold sameAt at h1
      rw [hro] at h1
      split at h1
      ·rename_i v hv
       rw [hv, AV.beq_eq _ _ h1]
      ·cases h1
     refine .inl (aOp_ok hN hM.hrel hcall hip' hM.frame (by rw [hopc]; exact hrun) ?_)
     intro E' v' e1 e2 e3 e4
     exact hnext E' v' (by rw [hsame heff, e1]; exact hM.heap) e2 e3 e4
    | some Hn =>
     have hmem : recs[j] ∈ recs.filter (·.eff.isSome) := List.mem_filter.2 ⟨List.getElem_mem hjr, by rw [heff]; rfl⟩
     have hm2 : (recs[j], false) ∈ zOf (recs.filter (·.eff.isSome)) fun i => listed.getD i false := List.mem_map.2 ⟨recs[j], hmem, by rw [hidx j hjr]; show (recs[j], listed.getD j false) = _; rw [hun]⟩
     have h1 := hchk.1 _ hm2
     simp only [Bool.false_or, hcompat, Bool.not_true, hidx j hjr, addD_zOf] at h1
     have hz : (zOf (recs.filter (·.eff.isSome)) fun i => (listed.setIfInBounds j true).getD i false) = zOf (recs.filter (·.eff.isSome)) fun i => listed.getD i false || i == j := by
      unfold zOf
      exact List.map_congr_left fun e he => by show (e, (listed.setIfInBounds j true).getD e.i false) = (e, (listed.getD e.i false || e.i == j)); rw [hset e he]
     split at h1
     ·rename_i v K1 K2 ha hk
      simp only [Bool.and_eq_true] at h1
      have ev := AV.beq_eq _ _ h1.1
      have eh := beqHp_eq h1.2
      subst ev
      subst eh
      rw [hro] at ha
      refine .inl (aOp_ok hN hM.hrel hcall hip' hM.frame (by rw [hopc]; exact ha) ?_)
      intro E' v' e1 e2 e3 e4
      exact hnext E' v' (by rw [hz, hk, e1]; rfl) e2 e3 e4
     ·cases h1
end
end Go.Abs

