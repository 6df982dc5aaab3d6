import Derived.Test.YtnipaiklandliaaGreatDoorAbsDraw2
namespace Go.Abs
open Go
theorem mem_of_filter {α : Type} {p : α → Bool} {l : List α} {x : α} (h : x ∈ l.filter p) : x ∈ l := (List.mem_filter.1 h).1
theorem foldF_append (f : List AV) (a b : List Rec) : foldF f (a ++ b) = foldF (foldF f a) b := by simp [foldF]
theorem foldH_append (H : Heap) (a b : List Rec) : foldH H (a ++ b) = foldH (foldH H a) b := by simp [foldH]
theorem get_of_fget {f g : List AV} (hl : f.length = g.length) {t : Nat} (h : fget f t = fget g t) : f[t]? = g[t]? := by
 by_cases ht : t < f.length
 ·have ht' : t < g.length := hl ▸ ht
  simp only [fget, List.getD, List.getElem?_eq_getElem ht, List.getElem?_eq_getElem ht', Option.getD_some] at h
  rw [List.getElem?_eq_getElem ht, List.getElem?_eq_getElem ht', h]
 ·rw [List.getElem?_eq_none (Nat.le_of_not_lt ht), List.getElem?_eq_none (by rw [← hl]; exact Nat.le_of_not_lt ht)]
section
variable {P : Program} {call : CallT} {prot : Nat} {ops : Array Oper} {Q : Exit → Act → World → Prop}
theorem aDraw_ok (hN : NoCount P) (hcall : CallOk P call) (hssa : ssaOk ops = true) {E0 : Env} {fr fr' : List AV} {a0 : Act} {recs : List Rec} {H' : Heap} (hip : E0.ip ≤ prot)
  (ht : aTrace P call prot ops 0 ops.toList fr E0.H = some (recs, fr', H')) (hok : drawOk P call prot (befs [] ops.toList) recs E0.H = true)
  (hQ : ∀ E' a', E'.H = H' → HRel E' → Step prot E0 E' → LRel E' fr' a'.tmps → a'.defers = a0.defers → Q .normal a' E'.w) :
  ∀ (fuel : Nat) (listed : Array Bool) (k : Nat) (E : Env) (a : Act), Mid prot ops recs fr E0 a0.defers listed k E a → listed.toList.count false = fuel → wpAny P .any ops Q fuel listed a E.w := by
 obtain ⟨hback, hdist, hord⟩ := ssaOk_spec hssa
 obtain ⟨hlen, hfr', hH', hrec⟩ := aTrace_spec _ _ _ _ _ _ _ ht
 simp only [Nat.zero_add] at hrec
 have hidx : ∀ k (h : k < recs.length), recs[k].i = k := fun k h => (hrec k h).1
 have hops : ∀ k (h : k < recs.length), ops.toList[k]? = some recs[k].o := fun k h => (hrec k h).2.1
 have hpw : recs.Pairwise fun a b => a.i < b.i := by
  rw [List.pairwise_iff_getElem]
  intro i j hi hj hij
  rw [hidx i hi, hidx j hj]; exact hij
 have hes := hpw.filter (·.eff.isSome)
 have heinj : ∀ n m (hn : n < (recs.filter (·.eff.isSome)).length) (hm : m < (recs.filter (·.eff.isSome)).length), (recs.filter (·.eff.isSome))[n].i = (recs.filter (·.eff.isSome))[m].i → n = m := by
  intro n m hn hm h
  rw [List.pairwise_iff_getElem] at hes
  rcases Nat.lt_trichotomy n m with h1 | h1 | h1
  ·have := hes n m hn hm h1; omega
  ·exact h1
  ·have := hes m n hm hn h1; omega
 have hesome : ∀ e ∈ recs.filter (·.eff.isSome), e.eff.isSome = true := fun e he => (List.mem_filter.1 he).2
 unfold drawOk at hok
 simp only [Bool.and_eq_true] at hok
 obtain ⟨hch, hall⟩ := hok
 rw [List.all_eq_true] at hall
 intro fuel
 induction fuel with
 | zero =>
  intro listed k E a hM hc
  have hall' : ∀ j, j < ops.size → listed.getD j false = true := by
   intro j hj
   have hmem : false ∉ listed.toList := List.count_eq_zero.1 hc
   cases hb : listed.getD j false with
   | true => rfl
   | false =>
    exfalso
    apply hmem
    rw [Array.getD_eq_getD_getElem?, Array.getElem?_eq_getElem (by rw [hM.size]; exact hj), Option.getD_some] at hb
    rw [← hb]; simp
  have hk : k = (recs.filter (·.eff.isSome)).length := by
   have := hM.le
   rcases Nat.lt_or_ge k (recs.filter (·.eff.isSome)).length with h | h
   ·have h1 := (hM.pre k h).1 (hall' _ (by
     have hm := mem_of_filter (List.getElem_mem h)
     obtain ⟨q, hq, he⟩ := List.getElem_of_mem hm
     rw [← he, hidx q hq]; rw [hlen] at hq; simpa using hq))
    omega
   ·omega
  constructor
  ·rw [List.eq_nil_iff_forall_not_mem]
   intro j hj
   obtain ⟨o, ho, h1, _⟩ := (mem_ready hM.size).1 hj
   rw [hall' j (by have := (List.getElem?_eq_some_iff.1 ho).1; simpa using this)] at h1
   cases h1
  ·refine hQ E a ?_ hM.hrel hM.step ?_ hM.defers
   ·rw [hM.heap, hk, List.take_length, foldH_filter, hH']
   ·have hf := hM.frame
    rw [hfr']
    have : recs.filter (fun r => listed.getD r.i false) = recs := by
     rw [List.filter_eq_self]
     intro r hr
     obtain ⟨q, hq, rfl⟩ := List.getElem_of_mem hr
     rw [hidx q hq]; exact hall' q (by rw [hlen] at hq; simpa using hq)
    rw [this] at hf; exact hf
 | succ fuel ih =>
  intro listed k E a hM hc
  have hL := hM.closed
  refine ⟨fun hnil => ?_, fun j hj => ?_⟩
  ·exfalso
   have hex : ∃ j, j < ops.size ∧ listed.getD j false = false := by
    have hmem : false ∈ listed.toList := List.count_pos_iff.1 (by omega)
    obtain ⟨j, hj, he⟩ := List.getElem_of_mem hmem
    have hj' : j < listed.size := by simpa using hj
    refine ⟨j, by rw [← hM.size]; exact hj', ?_⟩
    rw [Array.getD_eq_getD_getElem?, Array.getElem?_eq_getElem hj', Option.getD_some]
    simpa using he
   have hmin : ∀ n, (∃ j, j < n ∧ j < ops.size ∧ listed.getD j false = false) → ∃ j, j < ops.size ∧ listed.getD j false = false ∧ ∀ i, i < j → listed.getD i false = true := by
    intro n
    induction n with
    | zero => rintro ⟨j, h, _⟩; omega
    | succ n ihn =>
     rintro ⟨j, h1, h2, h3⟩
     by_cases h : ∃ j, j < n ∧ j < ops.size ∧ listed.getD j false = false
     ·exact ihn h
     ·refine ⟨j, h2, h3, fun i hi => ?_⟩
      cases hb : listed.getD i false with
      | true => rfl
      | false => exact absurd ⟨i, by omega, by omega, hb⟩ h
   obtain ⟨j0, hj0, hb0⟩ := hex
   obtain ⟨j, hj, hb, hm⟩ := hmin (j0 + 1) ⟨j0, by omega, hj0, hb0⟩
   have ho : ops.toList[j]? = some ops[j] := by simp [hj]
   have : j ∈ Region.ready .any ops listed := (mem_ready hM.size).2 ⟨ops[j], ho, hb, fun e he hbi => hm _ (hback j _ ho e he hbi)⟩
   rw [hnil] at this; cases this
  ·obtain ⟨o, ho, hun, hedge⟩ := (mem_ready hM.size).1 hj
   have hjs : j < ops.size := by have := (List.getElem?_eq_some_iff.1 ho).1; simpa using this
   have hjr : j < recs.length := by rw [hlen]; simpa using hjs
   obtain ⟨g1, g2, g3, g4, g5, g6, g7⟩ := hrec j hjr
   have hro : recs[j].o = o := by rw [ho] at g2; exact (Option.some.inj g2).symm
   have hin : ∀ e ∈ o.after.toList, Region.binds .any e = true → e.on < ops.toList.length := fun e he hb => by
    have := hback j o ho e he hb; simp; omega
   have hanc : ∀ i, bound (befs [] ops.toList) i j = true → listed.getD i false = true := fun i hi => bound_ready (L := fun j => listed.getD j false = true) hL ho hedge hin hi
   have hdes : ∀ i, i < ops.size → listed.getD i false = true → bound (befs [] ops.toList) j i = false := fun i hi hl => by
    cases hb : bound (befs [] ops.toList) j i with
    | false => rfl
    | true =>
     have h9 : listed.getD j false = true := bound_listed (L := fun j => listed.getD j false = true) hL i (by simpa using hi) hl j hb
     rw [hun] at h9; cases h9
   have hagree : ∀ t ∈ namesOf ops o, fget (foldF fr (recs.filter fun r => listed.getD r.i false)) t = fget recs[j].fr t := by
    intro t htn
    rw [g3]
    by_cases hex : ∃ i, ∃ hi : i < recs.length, i ≠ j ∧ recs[i].o.dst = some t
    ·obtain ⟨i, hi, hne, hd⟩ := hex
     have huniq : ∀ r ∈ recs, r.o.dst = some t → r.i ≠ j → r = recs[i] := by
      intro r hr hrd hrj
      obtain ⟨q, hq, rfl⟩ := List.getElem_of_mem hr
      by_cases e : q = i
      ·subst e; rfl
      ·exact absurd hd (hdist q i _ _ (hops q hq) (hops i hi) e t hrd)
     have hi' : i < ops.size := by rw [hlen] at hi; simpa using hi
     rcases hord i j _ o (hops i hi) ho hne t hd htn with ⟨hlt, hb⟩ | ⟨hlt, hb⟩
     ·have h1 : recs[i] ∈ recs.filter (fun r => listed.getD r.i false) := List.mem_filter.2 ⟨List.getElem_mem hi, by simp only [hidx i hi]; exact hanc i hb⟩
      have h2 : recs[i] ∈ recs.take j := by
       rw [List.mem_take_iff_getElem]; exact ⟨i, by omega, rfl⟩
      have k1 : ∀ r' ∈ recs.filter (fun r => listed.getD r.i false), r'.o.dst = some t → r' = recs[i] := fun r' hr' hd' => huniq r' (List.mem_filter.1 hr').1 hd' fun e => by
       have h9 := (List.mem_filter.1 hr').2
       simp only [e] at h9; rw [hun] at h9; cases h9
      have k2 : ∀ r' ∈ recs.take j, r'.o.dst = some t → r' = recs[i] := fun r' hr' hd' => huniq r' (List.mem_of_mem_take hr') hd' fun e => by
       rw [List.mem_take_iff_getElem] at hr'
       obtain ⟨q, hq, rfl⟩ := hr'
       rw [hidx] at e; omega
      rw [fold_one h1 hd k1, fold_one h2 hd k2]
     ·have hnl : listed.getD i false = false := by
       cases hbl : listed.getD i false with
       | false => rfl
       | true => have := hdes i hi' hbl; rw [hb] at this; cases this
      rw [fold_none, fold_none]
      ·intro r hr hrd
       rw [List.mem_take_iff_getElem] at hr
       obtain ⟨q, hq, rfl⟩ := hr
       have := huniq _ (List.getElem_mem (by omega)) hrd (by rw [hidx]; omega)
       have h2 := congrArg Rec.i this
       rw [hidx, hidx] at h2; omega
      ·intro r hr hrd
       have hf := (List.mem_filter.1 hr).2
       have := huniq r (List.mem_filter.1 hr).1 hrd fun e => by simp only [e] at hf; rw [hun] at hf; cases hf
       rw [this] at hf
       simp only [hidx i hi] at hf; rw [hnl] at hf; cases hf
    ·rw [fold_none, fold_none]
     ·intro r hr hrd
      rw [List.mem_take_iff_getElem] at hr
      obtain ⟨q, hq, rfl⟩ := hr
      exact hex ⟨q, by omega, by omega, hrd⟩
     ·intro r hr hrd
      obtain ⟨q, hq, rfl⟩ := List.getElem_of_mem (List.mem_filter.1 hr).1
      have hf := (List.mem_filter.1 hr).2
      refine hex ⟨q, hq, fun e => ?_, hrd⟩
      have h8 : recs[q].i = j := by rw [hidx q hq]; exact e
      simp only [h8] at hf; rw [hun] at hf; cases hf
   have hlencur : (foldF fr (recs.filter fun r => listed.getD r.i false)).length = recs[j].fr.length := by rw [g3, foldF_length, foldF_length]
   have hopc : ∀ H, aOp P call prot (foldF fr (recs.filter fun r => listed.getD r.i false)) o H = aOp P call prot recs[j].fr o H := fun H => aOp_congr P call prot o H fun x hx => by
    cases x with
    | tmp t => simp only [aEval]; rw [hagree t (by unfold namesOf; rw [List.mem_append]; exact .inl (List.mem_filterMap.2 ⟨.tmp t, hx, rfl⟩))]
    | _ => rfl
   have hwc : aWanted ops (foldF fr (recs.filter fun r => listed.getD r.i false)) o = recs[j].wanted := by
    rw [g5, hro]
    unfold aWanted Region.wanted
    cases hg : o.guard with
    | none => rfl
    | some p =>
     obtain ⟨gj, want⟩ := p
     show (aYield ops _ gj == some want) = (aYield ops _ gj == some want)
     congr 1
     unfold aYield
     cases hd : (ops[gj]?).bind (·.dst) with
     | none => rfl
     | some d =>
      simp only [Option.bind_some]
      have : d ∈ namesOf ops o := by unfold namesOf; rw [List.mem_append, hg]; exact .inr (by simp [hd])
      rw [get_of_fget hlencur (hagree d this)]
   have hm : (recs.take j).filter (·.eff.isSome) = (recs.filter (·.eff.isSome)).take ((recs.take j).filter (·.eff.isSome)).length := filter_take _ _ _
   have hrH : recs[j].H = foldH E0.H ((recs.filter (·.eff.isSome)).take ((recs.take j).filter (·.eff.isSome)).length) := by rw [g4, ← hm, foldH_filter]
   have hnext : ∀ (k' : Nat) (E' : Env) (v' : Value), k' ≤ (recs.filter (·.eff.isSome)).length → (∀ n (h : n < (recs.filter (·.eff.isSome)).length), (recs.filter (·.eff.isSome))[n].i = j ∨ listed.getD ((recs.filter (·.eff.isSome))[n]).i false = true ↔ n < k') →
     E'.H = foldH E0.H ((recs.filter (·.eff.isSome)).take k') → HRel E' → Step prot E E' → VRel E' recs[j].v v' → wpAny P .any ops Q fuel (listed.setIfInBounds j true) (a.put o.dst v') E'.w := by
    intro k' E' v' hk' hpre hH hHR hst hv
    have hjl : j < listed.size := by rw [hM.size]; exact hjs
    refine ih _ k' E' _ ⟨by simp [hM.size], ?_, hk', ?_, hH, hHR, hM.step.trans hst, ?_, ?_⟩ ?_
    ·intro i q hq hl e he hb
     rw [getD_set hjl] at hl ⊢
     by_cases ei : i = j
     ·subst ei
      rw [ho] at hq; cases hq
      split
      ·rfl
      ·exact hedge e he hb
     ·rw [if_neg ei] at hl
      split
      ·rfl
      ·exact hL i q hq hl e he hb
    ·intro n hn
     rw [getD_set hjl, ← hpre n hn]
     split
     ·rename_i e; simp [e]
     ·rename_i e; simp [e]
    ·have hsp := filter_split (p := fun r => listed.getD r.i false) hjr (by simp only [hidx j hjr]; exact hun) (fun r => (listed.setIfInBounds j true).getD r.i false)
      (fun r hr => by
       rw [getD_set hjl, hidx j hjr]
       split
       ·rename_i e; simp [e]
       ·rename_i e; simp [e]) hidx
     have hfm := hM.frame.mono hst.all
     rw [hsp.1] at hfm
     rw [hsp.2, foldF_append]
     have hp := hfm.put (d := o.dst) hv
     have e1 : foldF (foldF fr ((recs.take j).filter fun r => listed.getD r.i false)) (recs[j] :: (recs.drop (j + 1)).filter fun r => listed.getD r.i false) =
       fput (foldF fr ((recs.take j).filter (fun r => listed.getD r.i false) ++ (recs.drop (j + 1)).filter fun r => listed.getD r.i false)) o.dst recs[j].v := by
      rw [foldF_append]
      show foldF (fput _ recs[j].o.dst recs[j].v) _ = _
      rw [hro]
      refine foldF_put fun r hr t hd => ?_
      obtain ⟨q, hq, rfl⟩ := List.getElem_of_mem (mem_of_filter hr)
      simp only [List.getElem_drop]
      have hq' : j + 1 + q < recs.length := by simp at hq; omega
      exact hdist j (j + 1 + q) o _ ho (hops _ hq') (by omega) t hd
     rw [e1]; exact hp
    ·rw [Act.put_defers]; exact hM.defers
    ·rw [Array.toList_setIfInBounds, List.count_set (by simpa using hjl)]
     have : listed.toList[j]'(by simpa using hjl) = false := by
      rw [Array.getD_eq_getD_getElem?, Array.getElem?_eq_getElem hjl, Option.getD_some] at hun
      simpa using hun
     rw [this, hc]; simp
   have hni : ∀ n (h : n < (recs.filter (·.eff.isSome)).length), recs[j].eff = none → (recs.filter (·.eff.isSome))[n].i ≠ j := fun n h hnone e => by
    have hmem := List.mem_filter.1 (List.getElem_mem h)
    obtain ⟨q, hq, he⟩ := List.getElem_of_mem hmem.1
    have : q = j := by rw [← he, hidx q hq] at e; exact e
    subst this
    have h2 := hmem.2
    rw [← he, hnone] at h2; cases h2
   have hpre0 : recs[j].eff = none → ∀ n (h : n < (recs.filter (·.eff.isSome)).length), (recs.filter (·.eff.isSome))[n].i = j ∨ listed.getD ((recs.filter (·.eff.isSome))[n]).i false = true ↔ n < k := fun hnone n h => by
    rw [← hM.pre n h]
    constructor
    ·rintro (h1 | h1)
     ·exact absurd h1 (hni n h hnone)
     ·exact h1
    ·exact .inr
   have hops' : ops[j]? = some o := by simpa using ho
   unfold wpOp
   simp only [hops', ← wanted_rel hM.frame, hwc]
   cases hw : recs[j].wanted with
   | false =>
    simp only [Bool.false_eq_true, if_false]
    obtain ⟨hv, heff⟩ := g7 hw
    exact hnext k E undef hM.le (hpre0 heff) hM.heap hM.hrel (Step.refl _ _) (by rw [hv]; exact .undef E)
   | true =>
    simp only [if_true]
    have htr := g6 hw
    rw [hro] at htr
    have hip' : E.ip ≤ prot := by rw [hM.step.ip]; exact hip
    cases heff : recs[j].eff with
    | none =>
     have hrun : aOp P call prot recs[j].fr o E.H = some (recs[j].v, none) := by
      have h1 := hall recs[j] (List.getElem_mem hjr)
      simp only [heff, Option.isSome_none, hw, Bool.not_true, Bool.or_self, Bool.false_or, List.all_eq_true] at h1
      have h2 := h1 k (List.mem_range.2 (Nat.lt_succ_of_le hM.le))
      simp only [Bool.or_eq_true, beq_iff_eq, Bool.not_eq_true'] at h2
      rcases h2 with (h2 | h2) | h2
      ·have e1 : (recs.filter (·.eff.isSome)).filter (fun e => decide (e.i < recs[j].i)) = (recs.take j).filter (·.eff.isSome) := by
        rw [List.filter_filter, hidx j hjr]
        have := filter_lt recs 0 j (fun q hq => by rw [hidx q hq]; omega)
        simp only [Nat.zero_add] at this
        rw [← this, List.filter_filter]
        exact List.filter_congr fun x _ => Bool.and_comm _ _
       rw [e1] at h2
       rw [hM.heap, h2, ← hrH, htr, heff]
      ·exfalso
       have : mayAt (befs [] ops.toList) (recs.filter (·.eff.isSome)) recs[j].i k = true := by
        unfold mayAt
        rw [hidx j hjr, Bool.and_eq_true, List.all_eq_true, List.all_eq_true]
        have hin' : ∀ e ∈ recs.filter (·.eff.isSome), e.i < ops.size := fun e he => by
         obtain ⟨q, hq, rfl⟩ := List.getElem_of_mem (List.mem_filter.1 he).1
         rw [hidx q hq]; rw [hlen] at hq; simpa using hq
        constructor
        ·intro e he
         rw [List.mem_take_iff_getElem] at he
         obtain ⟨n, hn, rfl⟩ := he
         have hl := (hM.pre n (by omega)).2 (by omega)
         rw [hdes _ (hin' _ (List.getElem_mem _)) hl]; rfl
        ·intro e he
         obtain ⟨n, hn, rfl⟩ := List.getElem_of_mem he
         simp only [List.getElem_drop]
         have hn' : k + n < (recs.filter (·.eff.isSome)).length := by simp at hn; omega
         cases hb : bound (befs [] ops.toList) ((recs.filter (·.eff.isSome))[k + n]).i j with
         | false => rfl
         | true =>
          have := (hM.pre (k + n) hn').1 (hanc _ hb)
          omega
       rw [this] at h2; cases h2
      ·have hks : (E0.H :: (recs.filter (·.eff.isSome)).map fun e => e.eff.getD []).getD k [] = E.H := by rw [heaps_get E0.H _ hesome k hM.le, hM.heap]
       rw [hks] at h2
       unfold sameAt at h2
       rw [hro] at h2
       split at h2
       ·rename_i v hv
        rw [hv, AV.beq_eq _ _ h2]
       ·cases h2
     refine .inl (aOp_ok hN hM.hrel hcall hip' hM.frame (by rw [hopc]; exact hrun) ?_)
     intro E' v' e1 e2 e3 e4
     exact hnext k E' v' hM.le (hpre0 heff) (by rw [e1]; exact hM.heap) e2 e3 e4
    | some Hn =>
     have hsplit : recs.filter (·.eff.isSome) = (recs.take j).filter (·.eff.isSome) ++ recs[j] :: (recs.drop (j + 1)).filter (·.eff.isSome) := by
      conv => lhs; rw [show recs = recs.take j ++ recs[j] :: recs.drop (j + 1) by rw [← List.drop_eq_getElem_cons hjr, List.take_append_drop]]
      rw [List.filter_append, List.filter_cons, heff]; rfl
     generalize hmm : ((recs.take j).filter (·.eff.isSome)).length = m at hm hrH
     have hml : m < (recs.filter (·.eff.isSome)).length := by rw [hsplit]; simp; omega
     have hem : (recs.filter (·.eff.isSome))[m] = recs[j] := by
      apply Option.some.inj
      rw [← List.getElem?_eq_getElem hml, hsplit, List.getElem?_append_right (by omega), hmm, Nat.sub_self]; rfl
     have hmk : m = k := by
      have h1 : ¬ m < k := fun h => by
       have := (hM.pre m hml).2 h
       rw [hem, hidx j hjr, hun] at this; cases this
      have h2 : m ≤ k := by
       cases m with
       | zero => omega
       | succ m =>
        have hb := chained_spec hch m hml
        rw [hem, hidx j hjr] at hb
        have := (hM.pre m (by omega)).1 (hanc _ hb)
        omega
      omega
     subst hmk
     have hHk : E.H = recs[j].H := by rw [hM.heap, hrH]
     refine .inl (aOp_ok hN hM.hrel hcall hip' hM.frame (by rw [hopc, hHk]; exact htr) ?_)
     intro E' v' e1 e2 e3 e4
     refine hnext (m + 1) E' v' hml ?_ ?_ e2 e3 e4
     ·intro n hn
      by_cases hnm : n = m
      ·subst hnm
       simp [hem, hidx j hjr]
      ·have hne : (recs.filter (·.eff.isSome))[n].i ≠ j := fun e => hnm (heinj n m hn hml (by rw [e, hem, hidx j hjr]))
       rw [hM.pre n hn]
       constructor
       ·rintro (h | h)
        ·exact absurd h hne
        ·omega
       ·intro h; exact .inr (by omega)
     ·rw [List.take_succ_eq_append_getElem hml, foldH_append, ← hM.heap, e1, hem]
      simp [foldH, heff]
end
end Go.Abs

