import Derived.Test.YtnipaiklandliaaGreatDoorAbsRun
namespace Go.Abs
open Go
theorem aEvals_congr {f g : List AV} {l : List Operand} (h : ∀ x ∈ l, aEval f x = aEval g x) : aEvals f l = aEvals g l := by
 induction l with
 | nil => rfl
 | cons x r ih => simp only [aEvals, h x (by simp), ih fun y hy => h y (by simp [hy])]
theorem aParts_congr {f g : List AV} {l : List (Nat × Operand)} (h : ∀ x ∈ l.map (·.2), aEval f x = aEval g x) : aParts f l = aParts g l := by
 induction l with
 | nil => rfl
 | cons x r ih =>
  obtain ⟨i, x⟩ := x
  simp only [aParts, h x (by simp), ih fun y hy => h y (by simp only [List.map_cons, List.mem_cons]; exact .inr hy)]
theorem aOpt_congr {f g : List AV} {x : Option Operand} (h : ∀ y ∈ x, aEval f y = aEval g y) : aOpt f x = aOpt g x := by
 cases x with
 | none => rfl
 | some x => simp only [aOpt, h x rfl]
theorem aOp_congr (P : Program) (call : CallT) (prot : Nat) {f g : List AV} (o : Oper) (H : Heap) (h : ∀ x ∈ o.op.operands.toList, aEval f x = aEval g x) :
  aOp P call prot f o H = aOp P call prot g o H := by
 unfold aOp
 generalize o.op = op at h
 cases op <;> try rfl
 case move x => simp only [h x (by simp [Op.operands])]
 case assign x => simp only [h x (by simp [Op.operands])]
 case pick a b c => simp only [h a (by simp [Op.operands]), h b (by simp [Op.operands]), h c (by simp [Op.operands])]
 case box e v => simp only [h v (by simp [Op.operands])]
 case build t ps => simp only [aParts_congr (l := ps.toList) fun x hx => h x (by simpa [Op.operands] using hx)]
 case buildSlice t n ps => simp only [aParts_congr (l := ps.toList) fun x hx => h x (by simpa [Op.operands] using hx)]
 case insert t m k v => simp only [h m (by simp [Op.operands]), h k (by simp [Op.operands]), h v (by simp [Op.operands])]
 case load t a =>
  have h1 : aEval f a = aEval g a := h a (by simp [Op.operands])
  cases a <;> first | rfl | simp only [h1]
 case typeAssert x xT t ok => simp only [h x (by simp [Op.operands])]
 case range t x => simp only [h x (by simp [Op.operands])]
 case next x b => cases b <;> first | rfl | simp only [h x (by simp [Op.operands])]
 case store t a v => simp only [h a (by simp [Op.operands]), h v (by simp [Op.operands])]
 case nilCheck x => simp only [h x (by simp [Op.operands])]
 case binOp op t x y yt => simp only [h x (by simp [Op.operands]), h y (by simp [Op.operands])]
 case unOp op t x => simp only [h x (by simp [Op.operands])]
 case convert s d x => simp only [h x (by simp [Op.operands])]
 case makeInterface t x => simp only [h x (by simp [Op.operands])]
 case makeFunc fn first caps =>
  cases fn <;> try rfl
  simp only [aEvals_congr (l := first.toList) fun x hx => h x (by simp [Op.operands] at hx ⊢; exact .inl hx), aEvals_congr (l := caps.toList) fun x hx => h x (by simp [Op.operands] at hx ⊢; exact .inr hx)]
 case makeMap t r => cases r <;> rfl
 case makeSlice t l c => simp only [h l (by simp [Op.operands]), h c (by simp [Op.operands])]
 case slice t x lo hi mx =>
  simp only [h x (by simp [Op.operands]), aOpt_congr (x := lo) fun y hy => h y (by simp [Op.operands, Option.mem_def.1 hy]), aOpt_congr (x := hi) fun y hy => h y (by simp [Op.operands, Option.mem_def.1 hy]),
   aOpt_congr (x := mx) fun y hy => h y (by simp [Op.operands, Option.mem_def.1 hy])]
 case fieldAddr s x f => simp only [h x (by simp [Op.operands])]
 case field s x f => simp only [h x (by simp [Op.operands])]
 case indexAddr t x i => simp only [h x (by simp [Op.operands]), h i (by simp [Op.operands])]
 case index t x i => simp only [h x (by simp [Op.operands]), h i (by simp [Op.operands])]
 case lookup t m k ok => simp only [h m (by simp [Op.operands]), h k (by simp [Op.operands])]
 case mapUpdate t m k v => simp only [h m (by simp [Op.operands]), h k (by simp [Op.operands]), h v (by simp [Op.operands])]
 case extract t i => simp only [h t (by simp [Op.operands])]
 case call c =>
  obtain ⟨callee, args, tys⟩ := c
  simp only [aEvals_congr (l := args.toList) fun x hx => h x (by simp only [Op.operands, Call.operands]; simp at hx ⊢; exact .inr hx)]
  cases callee with
  | value fo => simp only [h fo (by simp [Op.operands, Call.operands])]
  | invoke rc name => simp only [h rc (by simp [Op.operands, Call.operands])]
  | _ => rfl
theorem mask_spec {acc : List Nat} {o : Oper} {i : Nat} (h : (mask acc o).testBit i = true) : ∃ e ∈ o.after.toList, Region.binds .any e = true ∧ (i = e.on ∨ (acc.getD e.on 0).testBit i = true) := by
 unfold mask at h
 have key : ∀ (l : List Edge) (s : Nat), (l.foldl (fun s e => if Region.binds .any e then s ||| 2 ^ e.on ||| acc.getD e.on 0 else s) s).testBit i = true →
   s.testBit i = true ∨ ∃ e ∈ l, Region.binds .any e = true ∧ (i = e.on ∨ (acc.getD e.on 0).testBit i = true) := by
  intro l
  induction l with
  | nil => intro s h; exact .inl h
  | cons e r ih =>
   intro s h
   rw [List.foldl_cons] at h
   rcases ih _ h with h1 | ⟨e', he', h1⟩
   ·split at h1
    ·rename_i hb
     rw [Nat.testBit_or, Nat.testBit_or, Bool.or_eq_true, Bool.or_eq_true] at h1
     rcases h1 with (h1 | h1) | h1
     ·exact .inl h1
     ·rw [Nat.testBit_two_pow] at h1
      exact .inr ⟨e, by simp, hb, .inl (of_decide_eq_true h1).symm⟩
     ·exact .inr ⟨e, by simp, hb, .inr h1⟩
    ·exact .inl h1
   ·exact .inr ⟨e', by simp [he'], h1⟩
 rcases key _ _ h with h1 | h1
 ·simp at h1
 ·exact h1
theorem befs_acc (l : List Oper) : ∀ (acc : List Nat), ∃ r, befs acc l = acc ++ r ∧ r.length = l.length ∧ ∀ k (h : k < l.length), r.getD k 0 = mask (acc ++ r.take k) l[k] := by
 induction l with
 | nil => intro acc; exact ⟨[], by simp [befs], rfl, fun k h => by simp at h⟩
 | cons o l ih =>
  intro acc
  obtain ⟨r, h1, h2, h3⟩ := ih (acc ++ [mask acc o])
  refine ⟨mask acc o :: r, by simp [befs, h1], by simp [h2], fun k hk => ?_⟩
  cases k with
  | zero => simp
  | succ k =>
   have := h3 k (by simpa using hk)
   simpa [List.append_assoc] using this
theorem bound_listed {ops : List Oper} {L : Nat → Prop} (hL : ∀ j o, ops[j]? = some o → L j → ∀ e ∈ o.after.toList, Region.binds .any e = true → L e.on) :
  ∀ (j : Nat), j < ops.length → L j → ∀ i, bound (befs [] ops) i j = true → L i := by
 obtain ⟨r, h1, h2, h3⟩ := befs_acc ops []
 simp only [List.nil_append] at h1 h3
 intro j
 induction j using Nat.strongRecOn with
 | _ j ih =>
  intro hj hl i hb
  unfold bound at hb
  rw [h1, h3 j hj] at hb
  obtain ⟨e, he, hbind, h⟩ := mask_spec hb
  have hle := hL j ops[j] (List.getElem?_eq_getElem hj) hl e he hbind
  rcases h with rfl | h
  ·exact hle
  ·by_cases hej : e.on < j
   ·refine ih e.on hej (by omega) hle i ?_
    unfold bound
    rw [h1]
    rw [List.getD, List.getElem?_take_of_lt hej] at h
    exact h
   ·rw [List.getD, List.getElem?_eq_none (by simp; omega)] at h
    simp at h
theorem bound_ready {ops : List Oper} {L : Nat → Prop} (hL : ∀ j o, ops[j]? = some o → L j → ∀ e ∈ o.after.toList, Region.binds .any e = true → L e.on)
  {j : Nat} {o : Oper} (ho : ops[j]? = some o) (hr : ∀ e ∈ o.after.toList, Region.binds .any e = true → L e.on) (hin : ∀ e ∈ o.after.toList, Region.binds .any e = true → e.on < ops.length) {i : Nat} (hb : bound (befs [] ops) i j = true) : L i := by
 obtain ⟨r, h1, h2, h3⟩ := befs_acc ops []
 simp only [List.nil_append] at h1 h3
 obtain ⟨hj, rfl⟩ := List.getElem?_eq_some_iff.1 ho
 have hb' := hb
 unfold bound at hb
 rw [h1, h3 j hj] at hb
 obtain ⟨e, he, hbind, h⟩ := mask_spec hb
 rcases h with rfl | h
 ·exact hr e he hbind
 ·by_cases hej : e.on < j
  ·refine bound_listed hL e.on (hin e he hbind) (hr e he hbind) i ?_
   unfold bound
   rw [h1]
   rw [List.getD, List.getElem?_take_of_lt hej] at h
   exact h
  ·rw [List.getD, List.getElem?_eq_none (by simp; omega)] at h
   simp at h
theorem fput_comm {f : List AV} {d e : Option Tmp} {u v : AV} (h : ∀ t, d = some t → e ≠ some t) : fput (fput f d u) e v = fput (fput f e v) d u := by
 cases d with
 | none => rfl
 | some d => cases e with
  | none => rfl
  | some e => simp only [fput]; exact List.set_comm _ _ (fun hh => h d rfl (by rw [hh]))
def foldF (f : List AV) (l : List Rec) : List AV := l.foldl (fun f r => fput f r.o.dst r.v) f
def foldH (H : Heap) (l : List Rec) : Heap := l.foldl (fun H r => r.eff.getD H) H
theorem fput_length (f : List AV) (d : Option Tmp) (v : AV) : (fput f d v).length = f.length := by cases d <;> simp [fput]
theorem foldF_length (f : List AV) (l : List Rec) : (foldF f l).length = f.length := by
 induction l generalizing f with
 | nil => rfl
 | cons r l ih => simp only [foldF, List.foldl_cons] at ih ⊢; rw [ih, fput_length]
theorem foldF_put {f : List AV} {d : Option Tmp} {v : AV} {l : List Rec} (h : ∀ r ∈ l, ∀ t, d = some t → r.o.dst ≠ some t) : foldF (fput f d v) l = fput (foldF f l) d v := by
 induction l generalizing f with
 | nil => rfl
 | cons r l ih =>
  simp only [foldF, List.foldl_cons] at ih ⊢
  rw [fput_comm (fun t ht => h r (by simp) t ht), ih fun r' hr' => h r' (by simp [hr'])]
theorem fget_put_ne {f : List AV} {d : Option Tmp} {v : AV} {t : Tmp} (h : d ≠ some t) : fget (fput f d v) t = fget f t := by
 cases d with
 | none => rfl
 | some d => simp only [fput, fget, List.getD]; rw [List.getElem?_set_ne (fun hh => h (by rw [hh]))]
theorem fold_none {f : List AV} {l : List Rec} {t : Tmp} (h : ∀ r ∈ l, r.o.dst ≠ some t) : fget (foldF f l) t = fget f t := by
 induction l generalizing f with
 | nil => rfl
 | cons r l ih =>
  simp only [foldF, List.foldl_cons] at ih ⊢
  rw [ih fun r' hr' => h r' (by simp [hr']), fget_put_ne (h r (by simp))]
theorem fold_one {f : List AV} {l : List Rec} {t : Tmp} {r : Rec} (hr : r ∈ l) (hd : r.o.dst = some t) (hu : ∀ r' ∈ l, r'.o.dst = some t → r' = r) : fget (foldF f l) t = fget (fput f (some t) r.v) t := by
 induction l generalizing f with
 | nil => simp at hr
 | cons q l ih =>
  simp only [foldF, List.foldl_cons] at ih ⊢
  by_cases hq : q.o.dst = some t
  ·have e := hu q (by simp) hq
   subst e
   rw [hq]
   by_cases hin : q ∈ l
   ·rw [ih hin fun r' hr' => hu r' (by simp [hr'])]
    simp [fput, fget]
   ·exact fold_none (l := l) fun r' hr' hd' => hin (by rw [← hu r' (by simp [hr']) hd']; exact hr')
  ·have hin : r ∈ l := by
    rcases List.mem_cons.1 hr with e | e
    ·exact absurd (e ▸ hd) hq
    ·exact e
   rw [ih hin fun r' hr' => hu r' (by simp [hr'])]
   rw [show fput f (some t) r.v = f.set t r.v from rfl]
   cases hqd : q.o.dst with
   | none => rfl
   | some d =>
    have hne : d ≠ t := fun hh => hq (by rw [hqd, hh])
    simp only [fput, fget, List.getD, List.getElem?_set]
    simp
theorem foldH_filter (H : Heap) (l : List Rec) : foldH H (l.filter (·.eff.isSome)) = foldH H l := by
 induction l generalizing H with
 | nil => rfl
 | cons r l ih =>
  simp only [List.filter_cons]
  cases he : r.eff with
  | none => simp only [Option.isSome_none, Bool.false_eq_true, if_false, foldH, List.foldl_cons, he, Option.getD_none] at ih ⊢; exact ih H
  | some h => simp only [Option.isSome_some, if_true, foldH, List.foldl_cons, he] at ih ⊢; exact ih _
theorem heaps_get (H : Heap) (es : List Rec) (h : ∀ e ∈ es, e.eff.isSome = true) : ∀ n, n ≤ es.length → (H :: es.map fun e => e.eff.getD []).getD n [] = foldH H (es.take n) := by
 intro n hn
 cases n with
 | zero => rfl
 | succ n =>
  have hlt : n < es.length := by omega
  have e1 : es.take (n + 1) = es.take n ++ [es[n]] := by rw [List.take_succ_eq_append_getElem hlt]
  rw [e1, foldH, List.foldl_append]
  simp only [List.foldl_cons, List.foldl_nil, List.getD_cons_succ]
  obtain ⟨x, hx⟩ := Option.isSome_iff_exists.1 (h _ (List.getElem_mem hlt))
  simp [List.getD, hlt, hx]
theorem filter_take {α : Type} (p : α → Bool) (l : List α) (n : Nat) : (l.take n).filter p = (l.filter p).take ((l.take n).filter p).length := by
 have h : l.filter p = (l.take n).filter p ++ (l.drop n).filter p := by rw [← List.filter_append, List.take_append_drop]
 rw [h, List.take_left]
theorem filter_lt (l : List Rec) : ∀ (i0 n : Nat), (∀ k (h : k < l.length), l[k].i = i0 + k) → l.filter (fun r => decide (r.i < i0 + n)) = l.take n := by
 induction l with
 | nil => intro i0 n _; simp
 | cons r l ih =>
  intro i0 n h
  have h0 := h 0 (by simp)
  simp only [List.getElem_cons_zero, Nat.add_zero] at h0
  cases n with
  | zero =>
   rw [List.take_zero, List.filter_eq_nil_iff]
   intro q hq
   obtain ⟨k, hk, rfl⟩ := List.getElem_of_mem hq
   rw [h k hk]; simp
  | succ n =>
   rw [List.filter_cons, if_pos (by rw [h0]; simp), List.take_succ_cons]
   have := ih (i0 + 1) n (fun k hk => by have := h (k + 1) (by simpa using hk); simp only [List.getElem_cons_succ] at this; omega)
   rw [← this]
   congr 2
   funext q
   rw [show i0 + (n + 1) = i0 + 1 + n by omega]
section
variable {P : Program} {call : CallT} {prot : Nat} {ops : Array Oper}
theorem aTrace_spec : ∀ (l : List Oper) (i0 : Nat) (fr : List AV) (H : Heap) (recs : List Rec) (fr' : List AV) (H' : Heap), aTrace P call prot ops i0 l fr H = some (recs, fr', H') →
  recs.length = l.length ∧ fr' = foldF fr recs ∧ H' = foldH H recs ∧ ∀ k (hk : k < recs.length), recs[k].i = i0 + k ∧ l[k]? = some recs[k].o ∧ recs[k].fr = foldF fr (recs.take k) ∧ recs[k].H = foldH H (recs.take k) ∧
   recs[k].wanted = aWanted ops recs[k].fr recs[k].o ∧ (recs[k].wanted = true → aOp P call prot recs[k].fr recs[k].o recs[k].H = some (recs[k].v, recs[k].eff)) ∧
   (recs[k].wanted = false → recs[k].v = .tup [] ∧ recs[k].eff = none) := by
 intro l
 induction l with
 | nil =>
  intro i0 fr H recs fr' H' h
  simp only [aTrace, Option.some.injEq, Prod.mk.injEq] at h
  obtain ⟨rfl, rfl, rfl⟩ := h
  exact ⟨rfl, rfl, rfl, fun k hk => by simp at hk⟩
 | cons o l ih =>
  intro i0 fr H recs fr' H' h
  simp only [aTrace] at h
  have fin : ∀ (q : Rec) (rest : List Rec), q.i = i0 → q.o = o → q.fr = fr → q.H = H → q.wanted = aWanted ops fr o → (q.wanted = true → aOp P call prot fr o H = some (q.v, q.eff)) →
    (q.wanted = false → q.v = .tup [] ∧ q.eff = none) → aTrace P call prot ops (i0 + 1) l (fput fr o.dst q.v) (q.eff.getD H) = some (rest, fr', H') → recs = q :: rest →
    recs.length = (o :: l).length ∧ fr' = foldF fr recs ∧ H' = foldH H recs ∧ ∀ k (hk : k < recs.length), recs[k].i = i0 + k ∧ (o :: l)[k]? = some recs[k].o ∧ recs[k].fr = foldF fr (recs.take k) ∧ recs[k].H = foldH H (recs.take k) ∧
     recs[k].wanted = aWanted ops recs[k].fr recs[k].o ∧ (recs[k].wanted = true → aOp P call prot recs[k].fr recs[k].o recs[k].H = some (recs[k].v, recs[k].eff)) ∧
     (recs[k].wanted = false → recs[k].v = .tup [] ∧ recs[k].eff = none) := by
   intro q rest e1 e2 e3 e4 e5 e6 e7 ht hr
   subst hr
   obtain ⟨h1, h2, h3, h4⟩ := ih _ _ _ _ _ _ ht
   refine ⟨by simp [h1], by rw [h2]; simp only [foldF, List.foldl_cons, e2], by rw [h3]; simp only [foldH, List.foldl_cons], fun k hk => ?_⟩
   cases k with
   | zero => simp only [List.getElem_cons_zero, List.take_zero]; rw [e1, e2, e3, e4]; exact ⟨rfl, rfl, rfl, rfl, e5, e6, e7⟩
   | succ k =>
    obtain ⟨g1, g2, g3, g4, g5, g6, g7⟩ := h4 k (by simpa using hk)
    simp only [List.getElem_cons_succ, List.take_succ_cons, List.getElem?_cons_succ]
    refine ⟨by omega, g2, by rw [g3]; simp only [foldF, List.foldl_cons, e2], by rw [g4]; simp only [foldH, List.foldl_cons], g5, g6, g7⟩
  split at h
  ·rename_i hw
   simp only [Option.bind_eq_some_iff, Option.map_eq_some_iff, Prod.mk.injEq] at h
   obtain ⟨⟨v, eff⟩, ho, ⟨rest, f1, H1⟩, ht, rfl, rfl, rfl⟩ := h
   exact fin ⟨i0, o, fr, H, true, v, eff⟩ rest rfl rfl rfl rfl hw.symm (fun _ => ho) (fun e => by cases e) ht rfl
  ·rename_i hw
   simp only [Option.map_eq_some_iff, Prod.mk.injEq] at h
   obtain ⟨⟨rest, f1, H1⟩, ht, rfl, rfl, rfl⟩ := h
   exact fin ⟨i0, o, fr, H, false, .tup [], none⟩ rest rfl rfl rfl rfl (by simpa using hw) (fun e => by cases e) (fun _ => ⟨rfl, rfl⟩) ht rfl
end
end Go.Abs

