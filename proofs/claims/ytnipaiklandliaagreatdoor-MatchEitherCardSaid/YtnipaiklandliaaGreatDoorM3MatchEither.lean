import Derived.Test.YtnipaiklandliaaGreatDoorM2MatchEither
/-! Part 3 of the proof of MatchEither. -/
set_option linter.unusedSimpArgs false
/- Chapter 16: a machine's run, walked. -/
namespace Go.Proofs.YtnipaiklandliaaGreatDoor
open Go Go.Abs AbsSeat Ty
open Nat (reduceEqDiff reduceLT reduceAdd reduceLeDiff reduceMul reduceMod)
def Caps (H : Heap) (L : List (Nat × List AV)) : Prop := ∀ p ∈ L, hget H p.1 0 = some p.2
def TellOk (prot f : Nat) (caps : List AV) {σ : Type} (L : σ → List (Nat × List AV)) (upd : σ → Nat → List Nat → σ) (Q : Nat → σ → Prop) (n lim top : Nat) : Prop :=
 ∀ (q : σ) (i a s r : Nat) (v : AV) (o : List Nat) (H : Heap), SetAt H s r v o → o.Nodup → (∀ x ∈ o, x < n) → a ≤ lim → i ≤ lim → Q i q → Caps H (L q) → top ≤ r → r < s → Q (i + 1) (upd q a o) ∧
   ∃ H', (Caps H' (L (upd q a o)) ∧ H.length = H'.length ∧ (∀ z ver cs, top ≤ z → hget H z ver = some cs → hget H' z ver = some cs) ∧ (∀ z es, hmap H z = some es → hmap H' z = some es)) ∧ aLim cfg prot f ([.int .i64 (a : Nat), .ptr s 0 0] ++ caps) H = some (.tup [], some H')
inductive RunRel (l : List St) (s : List UInt8) : Nat → List Nat → List (Nat × List Nat) → Prop where
 | done {k : Nat} {o : List Nat} (h : s.length ≤ k) : RunRel l s k o []
 | bad {k : Nat} {o : List Nat} (h : k < s.length) (he : (nextU (s.drop k)).2.2 ≠ 0) : RunRel l s k o []
 | step {k : Nat} {o o' : List Nat} {os : List (Nat × List Nat)} (h : k < s.length) (he : (nextU (s.drop k)).2.2 = 0) (hnd : o'.Nodup) (hlt : ∀ x ∈ o', x < l.length) (hm : ∀ x, x ∈ o' ↔ ∃ k0 ∈ o, ∃ y, tk l (nextU (s.drop k)).1 k0 y ∧ Rch l y x)
     (hr : RunRel l s (k + (nextU (s.drop k)).2.1) o' os) : RunRel l s k o ((k + (nextU (s.drop k)).2.1, o') :: os)
def told {σ : Type} (upd : σ → Nat → List Nat → σ) (q : σ) (os : List (Nat × List Nat)) : σ := os.foldl (fun q p => upd q p.1 p.2) q
theorem told_snoc {σ : Type} (upd : σ → Nat → List Nat → σ) (q : σ) (os : List (Nat × List Nat)) (p : Nat × List Nat) : told upd q (os ++ [p]) = upd (told upd q os) p.1 p.2 := by simp [told]
theorem runes_end {s : List UInt8} {k : Nat} (h : s.length ≤ k) : (runesU (s.drop k)).isSome = true := by
 have : s.drop k = [] := List.drop_eq_nil_of_le h
 rw [this, runesU_nil]; rfl
theorem run_okX (l : List St) (hr : RightM l) (hsp : ∀ s ∈ l, s.sp.length < 1000000000) (a : Nat) (ha : a < l.length) (hln : l.length ≤ 100000) (s : List UInt8) (hs : s.length ≤ 10000) (f : Nat) (caps : List AV) {σ : Type} (L : σ → List (Nat × List AV)) (upd : σ → Nat → List Nat → σ) (Q : Nat → σ → Prop) (q0 : σ)
   (prot : Nat) (H : Heap) (hp : prot ≤ H.length) (hT : TellOk prot f caps L upd Q l.length 20000 H.length) (hQ : Q 0 q0) (hc : Caps H (L q0)) (ht : ∀ q, ∀ p ∈ L q, p.1 < H.length) :
   ∃ H', (∃ o0 os, o0.Nodup ∧ (∀ x ∈ o0, x < l.length) ∧ (∀ x, x ∈ o0 ↔ Rch l a x) ∧ RunRel l s 0 o0 os ∧ Caps H' (L (told upd q0 ((0, o0) :: os)))) ∧
     aLim cfg prot 129 [encM l a, .str s, .func f [] caps] H = some (.bool (runesU s).isSome, some H') := by
 have hset0 : SetAt (H ++ [Blk.map []] ++ [Blk.cells 0 [.map H.length, .nilS]]) (H.length + 1) H.length .nilS [] := by
   refine ⟨by rw [hget_new (by simp), if_pos rfl], ?_, Row.nil⟩
   refine hmap_mono ?_ _
   simp [hmap]
 have hl1 : (H ++ [Blk.map []]).length = H.length + 1 := by simp
 obtain ⟨K1, ⟨v1, o1, hse1, hnd1, hlt1, hm1, f1⟩, n1⟩ := enter_ok l hr a a ha hln (H.length + 1) H.length prot .nilS [] _ hp (by omega) hset0 .nil (by simp) (fun x hx => nomatch hx)
 have hc1 : Caps K1 (L q0) := fun p hp => by
   have := ht _ p hp
   exact f1.keep _ _ _ (by omega) (by omega) (fun _ h => by cases h) (hget_mono (hget_mono (hc p hp) _) _)
 obtain ⟨hQ1, K2, ⟨hc2, hl2, k2, m2⟩, n2⟩ := hT q0 0 0 (H.length + 1) H.length v1 o1 K1 hse1 hnd1 hlt1 (by omega) (by omega) hQ hc1 (by omega) (by omega)
 have n2' : aLim cfg prot f (.int .i64 0 :: .ptr (H.length + 1) 0 0 :: caps) K1 = some (.tup [], some K2) := n2
 have cv := fun K => conv_sb Tryz.underlying9 Tryz.underlying72 Tryz.underlying5 K s
 have hle1 := f1.len
 simp only [List.length_append, List.length_singleton] at hle1
 have keepS : ∀ {K K' : Heap} {v : AV} {o : List Nat}, SetAt K (H.length + 1) H.length v o → (∀ z ver cs, H.length ≤ z → hget K z ver = some cs → hget K' z ver = some cs) → (∀ z es, hmap K z = some es → hmap K' z = some es) → SetAt K' (H.length + 1) H.length v o := fun {K K' v o} h h1 h2 => by
   obtain ⟨g1, g2, g3⟩ := h
   refine ⟨h1 _ _ _ (by omega) g1, h2 _ _ g2, ?_⟩
   rcases g3 with g3 | ⟨b, ver, rfl, e2, e3, e4⟩
   · exact .inl g3
   · exact .inr ⟨b, ver, rfl, e2, h1 _ _ _ (by omega) e3, e4⟩
 have hse2 := keepS hse1 k2 m2
 have hbl : ∀ K, aLen Tryz.prog K 72 (.bs ⟨K2.length, 0, 0, s.length, 0, 1, false, false⟩) = some (.int .i64 s.length) := fun K => by simp [aLen, Tryz.underlying72]
 refine raw_slimE rfl (by kernel_rfl) (by kernel_rfl) (by kernel_rfl) Tryz.func129 s129 (by simp [Tryz.f129]) fun fr hlen h => ?_
 simp only [Has, Nat.zero_add] at h
 obtain ⟨a0, a1, a2, -⟩ := h
 simp only [Tryz.f129] at hlen ⊢
 unfold g129
 unfold encM at a0 n1
 simp only [w9, AV.cells, AV.leaf, reduceEqDiff, reduceLT, reduceAdd, reduceLeDiff, reduceCtorEq, reduceMul, reduceMod, u163, hlen, a0, a1, a2, hl1, n1, n2', cv]
 refine loop_ruleE (fun m fr H' => ∃ (k i : Nat) (v : AV) (o : List Nat) (pre : List (Nat × List Nat)), m = s.length - k ∧ k ≤ s.length ∧ i ≤ k + 1 ∧ fr.length = 53 ∧ fget fr 0 = .vptr [slv encSt l, .int .i64 (a : Nat)] 0 ∧ fget fr 2 = .func f [] caps ∧ fget fr 7 = .ptr (H.length + 1) 0 0 ∧ fget fr 8 = .bs ⟨K2.length, 0, 0, s.length, 0, 1, false, false⟩ ∧ fget fr 9 = .int .i64 (k : Nat) ∧
   SetAt H' (H.length + 1) H.length v o ∧ o.Nodup ∧ (∀ x ∈ o, x < l.length) ∧ hget H' K2.length 0 = some (cellsOf encB s) ∧ (∀ b, v = .bs b → b.b ≠ K2.length) ∧ Q i (told upd q0 ((0, o1) :: pre)) ∧ Caps H' (L (told upd q0 ((0, o1) :: pre))) ∧
   (∀ os, RunRel l s k o os → RunRel l s 0 o1 (pre ++ os)) ∧ (runesU s).isSome = (runesU (s.drop k)).isSome) ?_ s.length _ _
   ⟨0, 1, v1, o1, [], by omega, by omega, by omega, by simp [w9, AV.cells, AV.leaf, reduceEqDiff, reduceLT, reduceAdd, reduceLeDiff, reduceCtorEq, reduceMul, reduceMod, u163, hlen], by simp [w9, AV.cells, AV.leaf, reduceEqDiff, reduceLT, reduceAdd, reduceLeDiff, reduceCtorEq, reduceMul, reduceMod, u163, hlen, a0], by simp [w9, AV.cells, AV.leaf, reduceEqDiff, reduceLT, reduceAdd, reduceLeDiff, reduceCtorEq, reduceMul, reduceMod, u163, hlen, a2], by simp [w9, AV.cells, AV.leaf, reduceEqDiff, reduceLT, reduceAdd, reduceLeDiff, reduceCtorEq, reduceMul, reduceMod, u163, hlen], by simp [w9, AV.cells, AV.leaf, reduceEqDiff, reduceLT, reduceAdd, reduceLeDiff, reduceCtorEq, reduceMul, reduceMod, u163, hlen], by simp [w9, AV.cells, AV.leaf, reduceEqDiff, reduceLT, reduceAdd, reduceLeDiff, reduceCtorEq, reduceMul, reduceMod, u163, hlen], hse2.more _, hnd1, hlt1, by rw [hget_new rfl]; rfl, fun b hb => by have := hse2.blk b hb; omega, hQ1, fun p hp => hget_mono (hc2 p hp) _, fun os h => h, rfl⟩
 clear a0 a1 a2 hlen fr
 rintro m fr H' ⟨k, i, v, o, pre, rfl, hk, hik, hlen, b0, b2, b7, b8, b9, hse, hnd, hlt, hg, hvb, hQi, hci, hrel, hval⟩ ih
 by_cases hks : k < s.length
 · have d1 : decide (((k : Nat) : Int) < (s.length : Nat)) = true := decide_eq_true (by omega)
   obtain ⟨b2', e1, e2⟩ := bytes_cut Tryz.underlying72 sz5 hg hks
   have hgl := hget_lt hg
   have e3 := next_ok (s.drop k) b2' _ true (.vs _ _) (by simp; omega) prot H' (by omega) e2
   have hpos := nextU_pos (b := s.drop k)
   have hst := runesU_step hks
   rw [hst] at hval
   simp only [List.length_drop] at hpos
   have hstepR := fun (o' : List Nat) (os : List (Nat × List Nat)) => RunRel.step (l := l) (s := s) (k := k) (o := o) (o' := o') (os := os) hks
   have hbadR := RunRel.bad (l := l) (s := s) (k := k) (o := o) hks
   generalize nextU (s.drop k) = w at *
   obtain ⟨c, wd, e⟩ := w
   dsimp only at hpos e3 hval hstepR hbadR
   by_cases he : e = 0
   · subst he
     obtain ⟨hw0, hwl⟩ := hpos rfl
     rw [dif_pos rfl] at hval
     have w1 : IntKind.i64.wrap ((k : Int) + (wd : Int)) = ((k + wd : Nat) : Int) := by rw [wrap64 (by omega) (by omega)]; simp
     have d2 : decide (¬ (0 : Int) = 0) = false := rfl
     obtain ⟨K3, ⟨v3, o3, hse3, hnd3, hlt3, hcl3, hm3, f3⟩, n3⟩ := step_ok l hr hsp a c hln (H.length + 1) H.length prot v o H' hp (by omega) hse hnd hlt
     have hle3 := f3.len
     have hc3 : Caps K3 (L (told upd q0 ((0, o1) :: pre))) := fun p hp => by
       have := ht _ p hp
       exact f3.keep _ _ _ (by omega) (by omega) (fun b hb => by have := hse.blk b hb; omega) (hci p hp)
     have hg3 := f3.keep _ _ _ (by omega) (by omega) hvb hg
     have hvb3 : ∀ b, v3 = .bs b → b.b ≠ K2.length := fun b hb => by
       rcases f3.blk b hb with ⟨b0', q1, q2⟩ | h
       · rw [q2]; exact hvb b0' q1
       · omega
     obtain ⟨hQ4, K4, ⟨hc4, hl4, k4, m4⟩, n4⟩ := hT _ i (k + wd) (H.length + 1) H.length v3 o3 K3 hse3 hnd3 hlt3 (by omega) (by omega) hQi hc3 (by omega) (by omega)
     have n4' : aLim cfg prot f (.int .i64 ((k + wd : Nat) : Int) :: .ptr (H.length + 1) 0 0 :: caps) K3 = some (.tup [], some K4) := n4
     have htl := told_snoc upd q0 ((0, o1) :: pre) (k + wd, o3)
     dsimp only at htl
     rw [← htl] at hQ4 hc4
     unfold encM at n3
     simp only [w9, AV.cells, AV.leaf, reduceEqDiff, reduceLT, reduceAdd, reduceLeDiff, reduceCtorEq, reduceMul, reduceMod, u163, hlen, b0, b2, b7, b8, b9, hbl, d1, e1, e3, d2, w1, n3, n4']
     refine ih _ _ (s.length - (k + wd)) (by omega) ⟨k + wd, i + 1, v3, o3, pre ++ [(k + wd, o3)], rfl, by omega, by omega, by simp [w9, AV.cells, AV.leaf, reduceEqDiff, reduceLT, reduceAdd, reduceLeDiff, reduceCtorEq, reduceMul, reduceMod, u163, hlen], by simp [w9, AV.cells, AV.leaf, reduceEqDiff, reduceLT, reduceAdd, reduceLeDiff, reduceCtorEq, reduceMul, reduceMod, u163, hlen, b0], by simp [w9, AV.cells, AV.leaf, reduceEqDiff, reduceLT, reduceAdd, reduceLeDiff, reduceCtorEq, reduceMul, reduceMod, u163, hlen, b2], by simp [w9, AV.cells, AV.leaf, reduceEqDiff, reduceLT, reduceAdd, reduceLeDiff, reduceCtorEq, reduceMul, reduceMod, u163, hlen, b7], by simp [w9, AV.cells, AV.leaf, reduceEqDiff, reduceLT, reduceAdd, reduceLeDiff, reduceCtorEq, reduceMul, reduceMod, u163, hlen, b8], by simp [w9, AV.cells, AV.leaf, reduceEqDiff, reduceLT, reduceAdd, reduceLeDiff, reduceCtorEq, reduceMul, reduceMod, u163, hlen], keepS hse3 k4 m4, hnd3, hlt3, k4 _ _ _ (by omega) hg3, hvb3, hQ4, hc4, fun os hos => ?_, ?_⟩
     · rw [List.append_assoc]
       exact hrel _ (hstepR o3 os rfl hnd3 hlt3 hm3 hos)
     · rw [hval]; cases runesU (s.drop (k + wd)) <;> rfl
   · rw [dif_neg he] at hval
     have d2 : decide (¬ e = 0) = true := decide_eq_true he
     have hrr := hrel [] (hbadR he)
     rw [List.append_nil] at hrr
     simp only [w9, AV.cells, AV.leaf, reduceEqDiff, reduceLT, reduceAdd, reduceLeDiff, reduceCtorEq, reduceMul, reduceMod, u163, hlen, b0, b2, b7, b8, b9, hbl, d1, e1, e3, d2]
     rw [hval]
     exact ⟨_, ⟨o1, pre, hnd1, hlt1, fun x => by rw [hm1]; simp, hrr, hci⟩, Fin_raw (l := [.bool false]) (by simp [w9, AV.cells, AV.leaf, reduceEqDiff, reduceLT, reduceAdd, reduceLeDiff, reduceCtorEq, reduceMul, reduceMod, u163, hlen, aResults, aResult])⟩
 · have d1 : decide (((k : Nat) : Int) < (s.length : Nat)) = false := decide_eq_false (by omega)
   rw [runes_end (by omega)] at hval
   have hrr := hrel [] (.done (by omega))
   rw [List.append_nil] at hrr
   simp only [w9, AV.cells, AV.leaf, reduceEqDiff, reduceLT, reduceAdd, reduceLeDiff, reduceCtorEq, reduceMul, reduceMod, u163, hlen, b0, b2, b7, b8, b9, hbl, d1]
   rw [hval]
   exact ⟨_, ⟨o1, pre, hnd1, hlt1, fun x => by rw [hm1]; simp, hrr, hci⟩, Fin_raw (l := [.bool true]) (by simp [w9, AV.cells, AV.leaf, reduceEqDiff, reduceLT, reduceAdd, reduceLeDiff, reduceCtorEq, reduceMul, reduceMod, u163, hlen, aResults, aResult])⟩
end Go.Proofs.YtnipaiklandliaaGreatDoor
namespace Go.Proofs.YtnipaiklandliaaGreatDoor
open Go Go.Abs AbsSeat Ty
open Nat (reduceEqDiff reduceLT reduceAdd reduceLeDiff reduceMul reduceMod)
theorem nilM (cs : List AV) (xo yo : Operand) : aBin Tryz.prog .eql 98 xo yo (.vptr cs 0) .nil = some (.bool false) := by simp [aBin, aNilNe, Tryz.underlying98]
def kd (l : List St) (k : Nat) : Int := match l[k]? with | some s => s.kind | none => 0
def haltS (l : List St) (o : List Nat) : Bool := o.any fun k => decide (kd l k = 3)
theorem halts_ok (l : List St) (a s r : Nat) (v : AV) (o : List Nat) (H : Heap) (hse : SetAt H s r v o) (hlt : ∀ x ∈ o, x < l.length) (hol : o.length ≤ 1000000) (prot : Nat) (hp : prot ≤ H.length) :
   aLim cfg prot 131 [.ptr s 0 0, encM l a] H = some (.bool (haltS l o), none) := by
 have hsnap : snap H [.ptr s 0 0, encM l a] = some ([.ptr s 0 0, encM l a], false) := rfl
 have hvS := slv_sl encSt l
 have hvl := hse.2.2.len (P := Tryz.prog) Tryz.underlying145
 refine pure_slim rfl (by kernel_rfl) Tryz.func131 s131 hp hsnap (by simp [Tryz.f131]) fun fr hlen h => ?_
 simp only [Has, Nat.zero_add] at h
 obtain ⟨a0, a1, -⟩ := h
 simp only [Tryz.f131] at hlen ⊢
 unfold g131
 unfold encM at a1
 simp only [w9, AV.cells, AV.leaf, reduceEqDiff, reduceLT, reduceAdd, reduceLeDiff, reduceCtorEq, reduceMul, reduceMod, u163, hlen, a0, a1, hse.1, hvl]
 refine loop_rule (fun m fr H' => ∃ (i : Nat), m = o.length - i ∧ i ≤ o.length ∧ fr.length = 26 ∧ fget fr 1 = .vptr [slv encSt l, .int .i64 (a : Nat)] 0 ∧ fget fr 10 = v ∧ fget fr 11 = .int .i64 (o.length : Nat) ∧ fget fr 12 = .int .i64 (i : Nat) ∧ H' = H ∧ haltS l o = haltS l (o.drop i)) ?_ o.length _ _
   ⟨0, by omega, by omega, by simp [w9, AV.cells, AV.leaf, reduceEqDiff, reduceLT, reduceAdd, reduceLeDiff, reduceCtorEq, reduceMul, reduceMod, u163, hlen], by simp [w9, AV.cells, AV.leaf, reduceEqDiff, reduceLT, reduceAdd, reduceLeDiff, reduceCtorEq, reduceMul, reduceMod, u163, hlen, a1], by simp [w9, AV.cells, AV.leaf, reduceEqDiff, reduceLT, reduceAdd, reduceLeDiff, reduceCtorEq, reduceMul, reduceMod, u163, hlen], by simp [w9, AV.cells, AV.leaf, reduceEqDiff, reduceLT, reduceAdd, reduceLeDiff, reduceCtorEq, reduceMul, reduceMod, u163, hlen], by simp [w9, AV.cells, AV.leaf, reduceEqDiff, reduceLT, reduceAdd, reduceLeDiff, reduceCtorEq, reduceMul, reduceMod, u163, hlen], rfl, rfl⟩
 clear a0 a1 hlen fr
 rintro m fr H' ⟨i, rfl, hi, hlen, b1, b10, b11, b12, rfl, hc⟩ ih
 by_cases hil : i < o.length
 · have d1 : decide (((i : Nat) : Int) < (o.length : Nat)) = true := decide_eq_true (by omega)
   have hw : IntKind.i64.wrap ((i : Int) + 1) = ((i + 1 : Nat) : Int) := by rw [wrap64 (by omega) (by omega)]; simp
   obtain ⟨vb, ver, eI, eg, ec⟩ := rowK_at hse.2.2 hil
   have hd : o.drop i = o[i] :: o.drop (i + 1) := by simp
   have hj0 := hlt o[i] (List.getElem_mem hil)
   generalize o[i] = j at *
   rw [hd] at hc
   have e1 := hvS.at (P := Tryz.prog) (k := .i64) (i := j) Tryz.underlying179 sz219 encSt_T.len hj0
   have hkd : kd l j = l[j].kind := by unfold kd; rw [List.getElem?_eq_getElem hj0]
   generalize l[j] = sj at *
   simp only [encSt, AV.cells] at e1
   have hcc : haltS l (j :: o.drop (i + 1)) = (decide (sj.kind = 3) || haltS l (o.drop (i + 1))) := by unfold haltS; rw [List.any_cons, hkd]
   rw [hcc] at hc
   by_cases h3 : sj.kind = 3
   · have d2 : decide (sj.kind = 3) = true := decide_eq_true h3
     rw [d2, Bool.true_or] at hc
     rw [hc]
     simp only [w9, AV.cells, AV.leaf, reduceEqDiff, reduceLT, reduceAdd, reduceLeDiff, reduceCtorEq, reduceMul, reduceMod, u163, hlen, b1, b10, b11, b12, d1, eI, eg, ec, e1, d2]
     exact Fin_pure (l := [.bool true]) (by simp [w9, AV.cells, AV.leaf, reduceEqDiff, reduceLT, reduceAdd, reduceLeDiff, reduceCtorEq, reduceMul, reduceMod, u163, aResults, aResult, hlen]) (.still rfl) (by simp)
   · have d2 : decide (sj.kind = 3) = false := decide_eq_false h3
     rw [d2, Bool.false_or] at hc
     simp only [w9, AV.cells, AV.leaf, reduceEqDiff, reduceLT, reduceAdd, reduceLeDiff, reduceCtorEq, reduceMul, reduceMod, u163, hlen, b1, b10, b11, b12, d1, eI, eg, ec, e1, d2, hw]
     exact ih _ _ (o.length - (i + 1)) (by omega) ⟨i + 1, rfl, by omega, by simp [w9, AV.cells, AV.leaf, reduceEqDiff, reduceLT, reduceAdd, reduceLeDiff, reduceCtorEq, reduceMul, reduceMod, u163, hlen], by simp [w9, AV.cells, AV.leaf, reduceEqDiff, reduceLT, reduceAdd, reduceLeDiff, reduceCtorEq, reduceMul, reduceMod, u163, hlen, b1], by simp [w9, AV.cells, AV.leaf, reduceEqDiff, reduceLT, reduceAdd, reduceLeDiff, reduceCtorEq, reduceMul, reduceMod, u163, hlen, b10], by simp [w9, AV.cells, AV.leaf, reduceEqDiff, reduceLT, reduceAdd, reduceLeDiff, reduceCtorEq, reduceMul, reduceMod, u163, hlen, b11], by simp [w9, AV.cells, AV.leaf, reduceEqDiff, reduceLT, reduceAdd, reduceLeDiff, reduceCtorEq, reduceMul, reduceMod, u163, hlen], rfl, hc⟩
 · have d1 : decide (((i : Nat) : Int) < (o.length : Nat)) = false := decide_eq_false (by omega)
   rw [List.drop_of_length_le (by omega)] at hc
   have : haltS l [] = false := rfl
   rw [this] at hc
   rw [hc]
   simp only [w9, AV.cells, AV.leaf, reduceEqDiff, reduceLT, reduceAdd, reduceLeDiff, reduceCtorEq, reduceMul, reduceMod, u163, hlen, b1, b10, b11, b12, d1]
   exact Fin_pure (l := [.bool false]) (by simp [w9, AV.cells, AV.leaf, reduceEqDiff, reduceLT, reduceAdd, reduceLeDiff, reduceCtorEq, reduceMul, reduceMod, u163, aResults, aResult, hlen]) (.still rfl) (by simp)
theorem match1_ok (l : List St) (a0' : Nat) (s : List UInt8) (c1 c2 c3 prot top : Nat) (hn : l.length ≤ 100000) (hp : prot ≤ c1) (h12 : c1 < c2) (h23 : c2 < c3) (hct : c3 < top) :
   TellOk prot 130 [.ptr c2 0 0, .ptr c1 0 0, .ptr c3 0 0] (fun q : Bool => [(c1, [encM l a0']), (c2, [.str s]), (c3, [.bool q])]) (fun _ a o => decide (a = s.length) && haltS l o) (fun _ _ => True) l.length 20000 top := by
 intro q i a sb r v o H hse hnd hlt ha hi hQ hc htr hrs
 have hol := nodup_len l.length o hnd hlt
 refine ⟨trivial, ?_⟩
 show ∃ H', _ ∧ aLim cfg prot 130 [.int .i64 (a : Nat), .ptr sb 0 0, .ptr c2 0 0, .ptr c1 0 0, .ptr c3 0 0] H = _
 have g1 := hc (c1, [encM l a0']) (by simp)
 have g2 := hc (c2, [.str s]) (by simp)
 have g3 := hc (c3, [.bool q]) (by simp)
 dsimp only at g1 g2 g3
 have hl1 := hget_lt g3
 have hln : ∀ K, aLen Tryz.prog K 9 (.str s) = some (.int .i64 s.length) := fun K => str_len Tryz.underlying9 s K
 have n1 := halts_ok l a0' sb r v o H hse hlt (by omega) prot (by omega)
 have hput1 : ∀ b : Bool, hput prot H c3 0 0 [.bool b] = some (H.set c3 (.cells 0 [.bool b])) := fun b => by
   rw [hput_eq g3 (by omega) (by simp) (by simp [AV.leaf])]; rfl
 have hde : decide (((a : Nat) : Int) = (s.length : Nat)) = decide (a = s.length) := by
   by_cases h : a = s.length
   · subst h; simp
   · rw [decide_eq_false h, decide_eq_false (by omega)]
 have fin : ∀ b : Bool, Caps (H.set c3 (.cells 0 [.bool b])) [(c1, [encM l a0']), (c2, [.str s]), (c3, [.bool b])] ∧ H.length = (H.set c3 (.cells 0 [.bool b])).length ∧ (∀ z ver cs, top ≤ z → hget H z ver = some cs → hget (H.set c3 (.cells 0 [.bool b])) z ver = some cs) ∧ (∀ z es, hmap H z = some es → hmap (H.set c3 (.cells 0 [.bool b])) z = some es) := fun b => by
   refine ⟨fun p hp => ?_, by simp, fun z ver cs hz h => by rw [hget_set_ne (by omega)]; exact h, fun z es h => ?_⟩
   · simp only [List.mem_cons, List.not_mem_nil, or_false] at hp
     rcases hp with rfl | rfl | rfl
     · dsimp only; rw [hget_set_ne (by omega)]; exact g1
     · dsimp only; rw [hget_set_ne (by omega)]; exact g2
     · exact hget_set_at hl1
   · by_cases hz : z = c3
     · subst hz
       unfold hmap at h; unfold hget at g3
       split at g3
       · rename_i h2; rw [h2] at h; cases h
       · cases g3
     · rw [hmap_set_ne hz]; exact h
 unfold encM at n1 g1
 by_cases has : a = s.length
 · rw [decide_eq_true has] at hde
   have fin := fin (haltS l o)
   simp only [decide_eq_true has, Bool.true_and]
   refine raw_slimE rfl (by kernel_rfl) (by kernel_rfl) (by kernel_rfl) Tryz.func130 s130 (by simp [Tryz.f130]) fun fr hlen h => ?_
   simp only [Has, Nat.zero_add] at h
   obtain ⟨a0, a1, a2, a3, a4, -⟩ := h
   simp only [Tryz.f130] at hlen ⊢
   unfold g130
   simp only [w9, AV.cells, AV.leaf, reduceEqDiff, reduceLT, reduceAdd, reduceLeDiff, reduceCtorEq, reduceMul, reduceMod, u163, hlen, a0, a1, a2, a3, a4, g1, g2, g3, hln, hde, n1, hput1]
   exact ⟨_, fin, Fin_raw (l := []) (by simp [w9, AV.cells, AV.leaf, reduceEqDiff, reduceLT, reduceAdd, reduceLeDiff, reduceCtorEq, reduceMul, reduceMod, u163, hlen, aResults, aResult])⟩
 · rw [decide_eq_false has] at hde
   have fin := fin false
   simp only [decide_eq_false has, Bool.false_and]
   refine raw_slimE rfl (by kernel_rfl) (by kernel_rfl) (by kernel_rfl) Tryz.func130 s130 (by simp [Tryz.f130]) fun fr hlen h => ?_
   simp only [Has, Nat.zero_add] at h
   obtain ⟨a0, a1, a2, a3, a4, -⟩ := h
   simp only [Tryz.f130] at hlen ⊢
   unfold g130
   simp only [w9, AV.cells, AV.leaf, reduceEqDiff, reduceLT, reduceAdd, reduceLeDiff, reduceCtorEq, reduceMul, reduceMod, u163, hlen, a0, a1, a2, a3, a4, g1, g2, g3, hln, hde, n1, hput1, none_beq]
   exact ⟨_, fin, Fin_raw (l := []) (by simp [w9, AV.cells, AV.leaf, reduceEqDiff, reduceLT, reduceAdd, reduceLeDiff, reduceCtorEq, reduceMul, reduceMod, u163, hlen, aResults, aResult])⟩
theorem match_ok (l : List St) (hr : RightM l) (hsp : ∀ s ∈ l, s.sp.length < 1000000000) (a : Nat) (ha : a < l.length) (hln : l.length ≤ 100000) (s : List UInt8) (hs : s.length ≤ 10000) (prot : Nat) (H : Heap) (hp : prot ≤ H.length) :
   ∃ o0 os, (o0.Nodup ∧ (∀ x ∈ o0, x < l.length) ∧ (∀ x, x ∈ o0 ↔ Rch l a x) ∧ RunRel l s 0 o0 os) ∧ aLim cfg prot 92 [encM l a, .str s] H = some (.bool ((runesU s).isSome && told (fun (_ : Bool) a o => decide (a = s.length) && haltS l o) false ((0, o0) :: os)), none) := by
 have hsnap : snap H [encM l a, .str s] = some ([encM l a, .str s], false) := by
   unfold encM; cases l <;> rfl
 have hb : ∀ X Y Z : List AV, (H ++ [Blk.cells 0 X] ++ [Blk.cells 0 Y] ++ [Blk.cells 0 Z]).length = H.length + 3 := fun X Y Z => by simp
 have hl1 : ∀ X, (H ++ [Blk.cells 0 X]).length = H.length + 1 := fun X => by simp
 have hl2 : ∀ X Y, (H ++ [Blk.cells 0 X] ++ [Blk.cells 0 Y]).length = H.length + 2 := fun X Y => by simp
 have g0 : ∀ X Y Z, hget (H ++ [Blk.cells 0 X] ++ [Blk.cells 0 Y] ++ [Blk.cells 0 Z]) H.length 0 = some X := fun X Y Z => hget_mono (hget_mono (by rw [hget_new rfl, if_pos rfl]) _) _
 have g1 : ∀ X Y Z, hget (H ++ [Blk.cells 0 X] ++ [Blk.cells 0 Y] ++ [Blk.cells 0 Z]) (H.length + 1) 0 = some Y := fun X Y Z => hget_mono (by rw [hget_new (hl1 X).symm, if_pos rfl]) _
 have g2 : ∀ X Y Z, hget (H ++ [Blk.cells 0 X] ++ [Blk.cells 0 Y] ++ [Blk.cells 0 Z]) (H.length + 2) 0 = some Z := fun X Y Z => by rw [hget_new (hl2 X Y).symm, if_pos rfl]
 obtain ⟨K, ⟨o0, os, h1, h2, h3, h4, hc⟩, n1⟩ := run_okX l hr hsp a ha hln s hs 130 [.ptr (H.length + 1) 0 0, .ptr H.length 0 0, .ptr (H.length + 2) 0 0] (fun q : Bool => [(H.length, [encM l a]), (H.length + 1, [.str s]), (H.length + 2, [.bool q])]) (fun _ a o => decide (a = s.length) && haltS l o) (fun _ _ => True) false H.length (H ++ [Blk.cells 0 [encM l a]] ++ [Blk.cells 0 [.str s]] ++ [Blk.cells 0 [.bool false]]) (by rw [hb]; omega)
   (match1_ok l a s H.length (H.length + 1) (H.length + 2) H.length _ hln (Nat.le_refl _) (by omega) (by omega) (by rw [hb]; omega)) trivial (fun p hp => by
     simp only [List.mem_cons, List.not_mem_nil, or_false] at hp
     rcases hp with rfl | rfl | rfl
     · exact g0 _ _ _
     · exact g1 _ _ _
     · exact g2 _ _ _) (fun q p hp => by
     simp only [List.mem_cons, List.not_mem_nil, or_false] at hp
     rw [hb]
     rcases hp with rfl | rfl | rfl <;> dsimp only <;> omega)
 refine ⟨o0, os, ⟨h1, h2, h3, h4⟩, ?_⟩
 have hg := hc (H.length + 2, [.bool (told (fun (_ : Bool) a o => decide (a = s.length) && haltS l o) false ((0, o0) :: os))]) (by simp)
 dsimp only at hg
 generalize told (fun (_ : Bool) a o => decide (a = s.length) && haltS l o) false ((0, o0) :: os) = t at *
 generalize (runesU s).isSome = vd at *
 have hpb : hput H.length (H ++ [Blk.cells 0 [encM l a]] ++ [Blk.cells 0 [.str s]] ++ [Blk.cells 0 [.bool false]]) (H.length + 2) 0 0 [.bool false] = some (H ++ [Blk.cells 0 [encM l a]] ++ [Blk.cells 0 [.str s]] ++ [Blk.cells 0 [.bool false]]) := by
   rw [hput_new (hl2 _ _).symm (by rw [hl2]; omega) (by simp) (by simp [AV.leaf])]; rfl
 refine pure_slim rfl (by kernel_rfl) Tryz.func92 s92 hp hsnap (by simp [Tryz.f92]) fun fr hlen h => ?_
 simp only [Has, Nat.zero_add] at h
 obtain ⟨a0, a1, -⟩ := h
 simp only [Tryz.f92] at hlen ⊢
 unfold g92
 unfold encM at a0 n1 hpb
 cases vd with
 | true =>
   simp only [Bool.true_and]
   simp only [w9, AV.cells, AV.leaf, reduceEqDiff, reduceLT, reduceAdd, reduceLeDiff, reduceCtorEq, reduceMul, reduceMod, u163, hlen, a0, a1, hl1, hl2, g0, g1, g2, hpb, nilM, n1, hg, none_beq]
   exact Fin_pure (l := [.bool t]) (by simp [w9, AV.cells, AV.leaf, reduceEqDiff, reduceLT, reduceAdd, reduceLeDiff, reduceCtorEq, reduceMul, reduceMod, u163, aResults, aResult, hlen]) (.still rfl) (by simp)
 | false =>
   simp only [Bool.false_and]
   simp only [w9, AV.cells, AV.leaf, reduceEqDiff, reduceLT, reduceAdd, reduceLeDiff, reduceCtorEq, reduceMul, reduceMod, u163, hlen, a0, a1, hl1, hl2, g0, g1, g2, hpb, nilM, n1, hg, none_beq]
   exact Fin_pure (l := [.bool false]) (by simp [w9, AV.cells, AV.leaf, reduceEqDiff, reduceLT, reduceAdd, reduceLeDiff, reduceCtorEq, reduceMul, reduceMod, u163, aResults, aResult, hlen]) (.still rfl) (by simp)
end Go.Proofs.YtnipaiklandliaaGreatDoor
/- Chapter 16: a machine of states, walked. -/
namespace Go.Proofs.YtnipaiklandliaaGreatDoor
open Go Go.Abs AbsSeat Ty
open Nat (reduceEqDiff reduceLT reduceAdd reduceLeDiff reduceMul reduceMod)
inductive Two {α β : Type} (P : α → β → Prop) : List α → List β → Prop where
 | nil : Two P [] []
 | cons {a : α} {b : β} {l : List α} {m : List β} (h : P a b) (t : Two P l m) : Two P (a :: l) (b :: m)
theorem Two.length {α β : Type} {P : α → β → Prop} {l : List α} {m : List β} (h : Two P l m) : l.length = m.length := by
 induction h with
 | nil => rfl
 | cons _ _ ih => simp [ih]
theorem Two.imp {α β : Type} {P Q : α → β → Prop} (hi : ∀ a b, P a b → Q a b) {l : List α} {m : List β} (h : Two P l m) : Two Q l m := by
 induction h with
 | nil => exact .nil
 | cons h _ ih => exact .cons (hi _ _ h) ih
theorem Two.snoc {α β : Type} {P : α → β → Prop} {l : List α} {m : List β} (h : Two P l m) {a : α} {b : β} (ha : P a b) : Two P (l ++ [a]) (m ++ [b]) := by
 induction h with
 | nil => exact .cons ha .nil
 | cons h _ ih => exact .cons h ih
def LikeN (base rb : Nat) (H : Heap) (h : HS) (s : St) : Prop := (h.kind = s.kind ∧ h.no = s.no ∧ h.one = s.one ∧ h.two = s.two) ∧ Row encG 2 true base H h.sv s.sp ∧ (h.sv = .nilS ∨ s.sp ≠ []) ∧ ∀ b, h.sv = .bs b → b.b ≠ rb
theorem rowG_keep {base : Nat} {H K : Heap} {v : AV} {l : List Sg} (h : Row encG 2 true base H v l) (k : ∀ b, v = .bs b → ∀ ver cs, hget H b.b ver = some cs → hget K b.b ver = some cs) : Row encG 2 true base K v l := by
 rcases h with h | ⟨b, ver, rfl, g2, g3, g4⟩
 · exact .inl h
 · exact .inr ⟨b, ver, rfl, g2, k _ rfl _ _ g3, g4⟩
theorem rowG_lt {base : Nat} {H : Heap} {v : AV} {l : List Sg} (h : Row encG 2 true base H v l) : ∀ b, v = .bs b → base ≤ b.b ∧ b.b < H.length := by
 intro b hb
 rcases h with ⟨q, _⟩ | ⟨c, ver, q, g2, g3, g4⟩
 · rw [q] at hb; cases hb
 · rw [q] at hb; cases hb; exact ⟨g2, hget_lt g3⟩
def NRow (base : Nat) (H : Heap) (v : AV) (l : List St) : Prop := (v = .nilS ∧ l = []) ∨ ∃ rb ver hls, v = .bs ⟨rb, ver, 0, l.length, 0, 5, true, false⟩ ∧ base ≤ rb ∧ hget H rb ver = some (cellsOf encH hls) ∧ Two (LikeN base rb H) hls l ∧ ver % 4 = 0 ∧ l ≠ []
theorem NRow.keep {base : Nat} {H K : Heap} {v : AV} {l : List St} (h : NRow base H v l) (k : ∀ z ver cs, base ≤ z → hget H z ver = some cs → hget K z ver = some cs) : NRow base K v l := by
 rcases h with h | ⟨rb, ver, hls, h1, h2, h3, h4, h5⟩
 · exact .inl h
 · refine .inr ⟨rb, ver, hls, h1, h2, k _ _ _ h2 h3, h4.imp fun a b ⟨q1, q2, q3, q4⟩ => ⟨q1, rowG_keep q2 fun b hb ver cs hg => k _ _ _ (rowG_lt q2 b hb).1 hg, q3, q4⟩, h5⟩
theorem two_frozen {base rb low : Nat} {H : Heap} (hlow : low ≤ base) {hl : List HS} {l : List St} (h : Two (LikeN base rb H) hl l) : FrzL H low (cellsOf encH hl) (cellsOf encSt l) := by
 induction h with
 | nil => exact .nil
 | @cons h s hl l a b ih =>
   obtain ⟨⟨a1, a2, a3, a4⟩, a5, a6, -⟩ := a
   have e1 : cellsOf encH (h :: hl) = .int .i64 h.kind :: .bool h.no :: h.sv :: .int .i64 h.one :: .int .i64 h.two :: cellsOf encH hl := by simp [cellsOf, encH, AV.cells]
   have e2 : cellsOf encSt (s :: l) = .int .i64 s.kind :: .bool s.no :: slv encG s.sp :: .int .i64 s.one :: .int .i64 s.two :: cellsOf encSt l := by simp [cellsOf, encSt, AV.cells]
   rw [e1, e2, a1, a2, a3, a4]
   exact .cons (.still rfl) (.cons (.still rfl) (.cons ((a5.low hlow).frozen encG_T (by decide) rfl a6) (.cons (.still rfl) (.cons (.still rfl) ih))))
theorem NRow.frozen {base low : Nat} {H : Heap} {v : AV} {l : List St} (h : NRow base H v l) (hlow : low ≤ base) : Frz H low v (slv encSt l) := by
 rcases h with ⟨rfl, rfl⟩ | ⟨rb, ver, hls, rfl, h2, h3, h4, h5⟩
 · exact .still rfl
 · have hll := h4.length
   have hw : win (cellsOf encH hls) 0 (l.length * 5) = some (cellsOf encH hls) := by
     have := encH_L.length hls
     simp only [win, Nat.zero_add, List.drop_zero]
     rw [if_pos (by omega), List.take_of_length_le (by omega)]
   have := Frz.bs (H := H) (base := low) (s := ⟨rb, ver, 0, l.length, 0, 5, true, false⟩) (Nat.le_trans hlow h2) (Nat.succ_pos 4) rfl h3 hw (two_frozen hlow h4)
   rw [chunk_cellsOf encSt_T (by decide)] at this
   cases l with
   | nil => exact absurd rfl h5.2
   | cons x r => exact this
theorem nrow_put {K3 : Heap} {b0 base prot : Nat} {vr ia : AV} {l0 : List St} {x : HS} {s : St} (hb : b0 < base) (hbase : base ≤ K3.length) (hg : hget K3 b0 0 = some [vr, ia]) (hn : NRow base K3 vr l0) (h1 : x.kind = s.kind ∧ x.no = s.no ∧ x.one = s.one ∧ x.two = s.two) (h2 : Row encG 2 true base K3 x.sv s.sp) (h3 : x.sv = .nilS ∨ s.sp ≠ [])
   (hf : ∀ b, x.sv = .bs b → ∀ b', vr = .bs b' → b'.b ≠ b.b) (hl : l0.length ≤ 100000) (hp : prot ≤ b0) :
   ∃ K5 K6 v', aAppend Tryz.prog prot (K3 ++ [Blk.cells 0 (encH x).cells]) #[179, 179] vr (.bs ⟨K3.length, 0, 0, 1, 1, 5, true, true⟩) = some (v', some K5) ∧ (v'.leaf = true ∧ v'.cells = [v']) ∧ hput prot K5 b0 0 0 [v'] = some K6 ∧ hget K6 b0 0 = some [v', ia] ∧ NRow base K6 v' (l0 ++ [s]) ∧ K3.length ≤ K6.length := by
 have hel := elemH x K3
 have hg2 := hget_mono hg [Blk.cells 0 (encH x).cells]
 have hlt := hget_lt hg
 rcases hn with ⟨rfl, rfl⟩ | ⟨rb, ver, hls, rfl, n2, n3, n4, n5, n6⟩
 · have happ := encH_L.app0 (prot := prot) (m := [x]) rowSt hxtSt hel (by simp) (show roomy 1 56 = true from by decide)
   have g3 := hget_mono hg2 [Blk.cells 0 (cellsOf encH [x])]
   have hl4 : (K3 ++ [Blk.cells 0 (encH x).cells]).length = K3.length + 1 := by simp
   have g4 : hget (K3 ++ [Blk.cells 0 (encH x).cells] ++ [Blk.cells 0 (cellsOf encH [x])]) (K3.length + 1) 0 = some (cellsOf encH [x]) := by rw [hget_new hl4.symm, if_pos rfl]
   rw [hl4] at happ
   have hk : ∀ z ver cs, z ≠ b0 → hget K3 z ver = some cs → hget ((K3 ++ [Blk.cells 0 (encH x).cells] ++ [Blk.cells 0 (cellsOf encH [x])]).set b0 (.cells 0 [.bs ⟨K3.length + 1, 0, 0, 1, 0, 5, true, false⟩, ia])) z ver = some cs := fun z ver cs hz h => by rw [hget_set_ne hz]; exact hget_mono (hget_mono h _) _
   refine ⟨_, _, _, happ, ⟨rfl, rfl⟩, by rw [hput_eq g3 hp (by simp) (by simp [AV.leaf])]; rfl, hget_set_at (hget_lt g3), .inr ⟨K3.length + 1, 0, [x], rfl, by omega, by rw [hget_set_ne (by omega)]; exact g4, .cons ⟨h1, rowG_keep h2 fun b hb ver cs h => hk _ _ _ (by have := rowG_lt h2 b hb; omega) h, h3, fun b hb => by have := rowG_lt h2 b hb; omega⟩ .nil, rfl, by simp⟩, by simp⟩
 · have hll := n4.length
   have g2' := hget_mono n3 [Blk.cells 0 (encH x).cells]
   have happ := encH_L.app (prot := prot) (m := [x]) rowSt hxtSt g2' n5 hel (by simp) (by simp [roomy]; omega) (by omega)
   rw [hll] at happ
   have g3 : hget ((K3 ++ [Blk.cells 0 (encH x).cells]).set rb (.cells (ver + 4) (cellsOf encH (hls ++ [x])))) b0 0 = some [.bs ⟨rb, ver, 0, l0.length, 0, 5, true, false⟩, ia] := by rw [hget_set_ne (by omega)]; exact hg2
   have g4 : hget ((K3 ++ [Blk.cells 0 (encH x).cells]).set rb (.cells (ver + 4) (cellsOf encH (hls ++ [x])))) rb (ver + 4) = some (cellsOf encH (hls ++ [x])) := by rw [hget_set_same (hget_lt g2'), if_pos rfl]
   have hk : ∀ z v cs, z ≠ b0 → z ≠ rb → hget K3 z v = some cs → hget (((K3 ++ [Blk.cells 0 (encH x).cells]).set rb (.cells (ver + 4) (cellsOf encH (hls ++ [x])))).set b0 (.cells 0 [.bs ⟨rb, ver + 4, 0, l0.length + [x].length, 0, 5, true, false⟩, ia])) z v = some cs := fun z v cs hz hz2 h => by rw [hget_set_ne hz, hget_set_ne hz2]; exact hget_mono h _
   refine ⟨_, _, _, happ, ⟨rfl, rfl⟩, by rw [hput_eq g3 hp (by simp) (by simp [AV.leaf])]; rfl, hget_set_at (hget_lt g3), .inr ⟨rb, ver + 4, hls ++ [x], by rw [List.length_append]; rfl, n2, by rw [hget_set_ne (by omega)]; exact g4, Two.snoc (n4.imp fun a b ⟨q1, q2, q3, q4⟩ => ⟨q1, rowG_keep q2 fun b hb ver cs h => hk _ _ _ (by have := rowG_lt q2 b hb; omega) (q4 b hb) h, q3, q4⟩) ⟨h1, rowG_keep h2 fun b hb ver cs h => hk _ _ _ (by have := rowG_lt h2 b hb; omega) (Ne.symm (hf b hb _ rfl)) h, h3, fun b hb => Ne.symm (hf b hb _ rfl)⟩, by omega, by simp⟩, by simp⟩
def inN (n : Nat) (k : Int) : Bool := decide (0 ≤ k) && decide (k < n)
def rightB (n : Nat) (s : St) : Bool := if s.kind = 2 then inN n s.two && inN n s.one else if s.kind = 1 then inN n s.one else decide (s.kind = 3)
theorem inn_ok (l : List St) (v : AV) (hv : Sl encSt v l) (k : Int) (prot : Nat) (H : Heap) (hp : prot ≤ H.length) : aLim cfg prot 157 [v, .int .i64 k] H = some (.bool (inN l.length k), none) := by
 have hsnap : snap H [v, .int .i64 k] = some ([v, .int .i64 k], false) := by cases hv <;> rfl
 have hvl := hv.len (P := Tryz.prog) (H := H) Tryz.underlying179
 unfold inN
 refine pure_slim rfl (by kernel_rfl) Tryz.func157 s157 hp hsnap (by simp [Tryz.f157]) fun fr hlen h => ?_
 simp only [Has, Nat.zero_add] at h
 obtain ⟨a0, a1, -⟩ := h
 simp only [Tryz.f157] at hlen ⊢
 unfold g157
 by_cases h : 0 ≤ k
 · have d1 : decide (k ≥ 0) = true := decide_eq_true h
   rw [decide_eq_true h, Bool.true_and]
   simp only [w9, AV.cells, AV.leaf, reduceEqDiff, reduceLT, reduceAdd, reduceLeDiff, reduceCtorEq, reduceMul, reduceMod, u163, hlen, a0, a1, d1, hvl]
   exact Fin_pure (l := [.bool (decide (k < (l.length : Nat)))]) (by simp [w9, AV.cells, AV.leaf, reduceEqDiff, reduceLT, reduceAdd, reduceLeDiff, reduceCtorEq, reduceMul, reduceMod, u163, aResults, aResult, hlen]) (.still rfl) (by simp)
 · have d1 : decide (k ≥ 0) = false := decide_eq_false h
   rw [decide_eq_false h, Bool.false_and]
   simp only [w9, AV.cells, AV.leaf, reduceEqDiff, reduceLT, reduceAdd, reduceLeDiff, reduceCtorEq, reduceMul, reduceMod, u163, hlen, a0, a1, d1, hvl, none_beq]
   exact Fin_pure (l := [.bool false]) (by simp [w9, AV.cells, AV.leaf, reduceEqDiff, reduceLT, reduceAdd, reduceLeDiff, reduceCtorEq, reduceMul, reduceMod, u163, aResults, aResult, hlen]) (.still rfl) (by simp)
theorem rightN_ok (l : List St) (v : AV) (hv : Sl encSt v l) (s : St) (prot : Nat) (H : Heap) (hp : prot ≤ H.length) : aLim cfg prot 158 [v, encSt s] H = some (.bool (rightB l.length s), none) := by
 have hsnap : snap H [v, encSt s] = some ([v, encSt s], false) := by
   have := slvG_leaf s.sp
   unfold encSt
   cases hv <;> cases s.sp <;> rfl
 have n1 := fun (k : Int) (K : Heap) (hK : H.length ≤ K.length) => inn_ok l v hv k H.length K hK
 have hspl := slvG_leaf s.sp
 have hle : ∀ Z, H.length ≤ (H ++ [Blk.cells 0 Z]).length := fun Z => by simp
 unfold AV.leaf at hspl
 unfold rightB
 refine pure_slim rfl (by kernel_rfl) Tryz.func158 s158 hp hsnap (by simp [Tryz.f158]) fun fr hlen h => ?_
 simp only [Has, Nat.zero_add] at h
 obtain ⟨a0, a1, -⟩ := h
 simp only [Tryz.f158] at hlen ⊢
 unfold g158
 unfold encSt at a1
 by_cases h2 : s.kind = 2
 · have d2 : decide (s.kind = 2) = true := decide_eq_true h2
   rw [if_pos h2]
   by_cases ht : inN l.length s.two = true
   · have n1t := fun (K : Heap) (hK : H.length ≤ K.length) => n1 s.two K hK
     rw [ht] at n1t ⊢
     rw [Bool.true_and]
     simp only [w9, AV.cells, AV.leaf, reduceEqDiff, reduceLT, reduceAdd, reduceLeDiff, reduceCtorEq, reduceMul, reduceMod, u163, hlen, a0, a1, hspl, d2, hle, n1t, n1]
     exact Fin_pure (l := [.bool (inN l.length s.one)]) (by simp [w9, AV.cells, AV.leaf, reduceEqDiff, reduceLT, reduceAdd, reduceLeDiff, reduceCtorEq, reduceMul, reduceMod, u163, aResults, aResult, hlen]) (.still rfl) (by simp)
   · have ht := Bool.eq_false_iff.2 ht
     rw [ht, Bool.false_and]
     simp only [w9, AV.cells, AV.leaf, reduceEqDiff, reduceLT, reduceAdd, reduceLeDiff, reduceCtorEq, reduceMul, reduceMod, u163, hlen, a0, a1, hspl, d2, hle, n1, ht]
     exact Fin_pure (l := [.bool false]) (by simp [w9, AV.cells, AV.leaf, reduceEqDiff, reduceLT, reduceAdd, reduceLeDiff, reduceCtorEq, reduceMul, reduceMod, u163, aResults, aResult, hlen]) (.still rfl) (by simp)
 · have d2 : decide (s.kind = 2) = false := decide_eq_false h2
   rw [if_neg h2]
   by_cases h1 : s.kind = 1
   · have d1 : decide (s.kind = 1) = true := decide_eq_true h1
     rw [if_pos h1]
     simp only [w9, AV.cells, AV.leaf, reduceEqDiff, reduceLT, reduceAdd, reduceLeDiff, reduceCtorEq, reduceMul, reduceMod, u163, hlen, a0, a1, hspl, d2, d1, hle, n1, none_beq]
     exact Fin_pure (l := [.bool (inN l.length s.one)]) (by simp [w9, AV.cells, AV.leaf, reduceEqDiff, reduceLT, reduceAdd, reduceLeDiff, reduceCtorEq, reduceMul, reduceMod, u163, aResults, aResult, hlen]) (.still rfl) (by simp)
   · have d1 : decide (s.kind = 1) = false := decide_eq_false h1
     rw [if_neg h1]
     simp only [w9, AV.cells, AV.leaf, reduceEqDiff, reduceLT, reduceAdd, reduceLeDiff, reduceCtorEq, reduceMul, reduceMod, u163, hlen, a0, a1, hspl, d2, d1, hle, none_beq]
     exact Fin_pure (l := [.bool (decide (s.kind = 3))]) (by simp [w9, AV.cells, AV.leaf, reduceEqDiff, reduceLT, reduceAdd, reduceLeDiff, reduceCtorEq, reduceMul, reduceMod, u163, aResults, aResult, hlen]) (.still rfl) (by simp)
def newS (l : List St) (a : Int) : AV := if decide (l.length ≤ 401) && inN l.length a && l.all (rightB l.length) then .tup [.vptr [slv encSt l, .int .i64 a] 0, .int .i64 0] else .tup [.nil, .int .i64 1]
end Go.Proofs.YtnipaiklandliaaGreatDoor
namespace Go.Proofs.YtnipaiklandliaaGreatDoor
open Go Go.Abs AbsSeat Ty
open Nat (reduceEqDiff reduceLT reduceAdd reduceLeDiff reduceMul reduceMod)
theorem nnew_ok (l : List St) (v : AV) (hv : Sl encSt v l) (hll : l.length ≤ 100000) (hsp : ∀ s ∈ l, s.sp.length ≤ 10000000) (a : Int) (prot : Nat) (H : Heap) (hp : prot ≤ H.length) : aLim cfg prot 122 [v, .int .i64 a] H = some (newS l a, none) := by
 have hsnap : snap H [v, .int .i64 a] = some ([v, .int .i64 a], false) := by cases hv <;> rfl
 have hvl := fun K : Heap => hv.len (P := Tryz.prog) (H := K) Tryz.underlying179
 have n1 := fun (K : Heap) (hK : H.length ≤ K.length) => inn_ok l v hv a H.length K hK
 unfold newS
 by_cases hg : l.length ≤ 401
 · have d1 : decide ((401 : Int) < (l.length : Nat)) = false := decide_eq_false (by omega)
   rw [decide_eq_true hg, Bool.true_and]
   by_cases hin : inN l.length a = true
   · rw [hin] at n1 ⊢
     rw [Bool.true_and]
     have hm0 : hget (H ++ [Blk.cells 0 [.nilS, .int .i64 a]]) H.length 0 = some [.nilS, .int .i64 a] := by rw [hget_new rfl, if_pos rfl]
     refine pure_slim rfl (by kernel_rfl) Tryz.func122 s122 hp hsnap (by simp [Tryz.f122]) fun fr hlen h => ?_
     simp only [Has, Nat.zero_add] at h
     obtain ⟨a0, a1, -⟩ := h
     simp only [Tryz.f122] at hlen ⊢
     unfold g122
     simp only [w9, AV.cells, AV.leaf, reduceEqDiff, reduceLT, reduceAdd, reduceLeDiff, reduceCtorEq, reduceMul, reduceMod, u163, hlen, a0, a1, hvl, d1, n1, none_beq]
     refine loop_rule (fun m fr H' => ∃ (i : Nat) (vr : AV), m = l.length - i ∧ i ≤ l.length ∧ fr.length = 47 ∧ fget fr 0 = v ∧ fget fr 6 = .ptr H.length 0 0 ∧ fget fr 21 = v ∧ fget fr 22 = .int .i64 (l.length : Nat) ∧ fget fr 23 = .int .i64 (i : Nat) ∧ H.length + 1 ≤ H'.length ∧
       hget H' H.length 0 = some [vr, .int .i64 a] ∧ NRow (H.length + 1) H' vr (l.take i) ∧ (∀ s ∈ l.take i, rightB l.length s = true)) ?_ l.length _ _
       ⟨0, .nilS, by omega, by omega, by simp [w9, AV.cells, AV.leaf, reduceEqDiff, reduceLT, reduceAdd, reduceLeDiff, reduceCtorEq, reduceMul, reduceMod, u163, hlen], by simp [w9, AV.cells, AV.leaf, reduceEqDiff, reduceLT, reduceAdd, reduceLeDiff, reduceCtorEq, reduceMul, reduceMod, u163, hlen, a0], by simp [w9, AV.cells, AV.leaf, reduceEqDiff, reduceLT, reduceAdd, reduceLeDiff, reduceCtorEq, reduceMul, reduceMod, u163, hlen], by simp [w9, AV.cells, AV.leaf, reduceEqDiff, reduceLT, reduceAdd, reduceLeDiff, reduceCtorEq, reduceMul, reduceMod, u163, hlen], by simp [w9, AV.cells, AV.leaf, reduceEqDiff, reduceLT, reduceAdd, reduceLeDiff, reduceCtorEq, reduceMul, reduceMod, u163, hlen], by simp [w9, AV.cells, AV.leaf, reduceEqDiff, reduceLT, reduceAdd, reduceLeDiff, reduceCtorEq, reduceMul, reduceMod, u163, hlen], by simp, hm0, .inl ⟨rfl, rfl⟩, by simp⟩
     clear a0 a1 hlen fr hm0
     rintro m fr H' ⟨i, vr, rfl, hi, hlen, b0, b6, b21, b22, b23, hH, hm, hrow, hrt⟩ ih
     by_cases hil : i < l.length
     · have d2 : decide (((i : Nat) : Int) < (l.length : Nat)) = true := decide_eq_true (by omega)
       have hw : IntKind.i64.wrap ((i : Int) + 1) = ((i + 1 : Nat) : Int) := by rw [wrap64 (by omega) (by omega)]; simp
       have e1 := hv.at (P := Tryz.prog) (k := .i64) (i := i) Tryz.underlying179 sz219 encSt_T.len hil
       have htk : l.take (i + 1) = l.take i ++ [l[i]] := by simp
       have hsi := hsp l[i] (List.getElem_mem _)
       have hmem := List.getElem_mem hil
       have n2 := fun (K : Heap) (hK : H.length ≤ K.length) => rightN_ok l v hv l[i] H.length K hK
       generalize l[i] = s at *
       have hspl := slvG_leaf s.sp
       unfold AV.leaf at hspl
       simp only [encSt, AV.cells] at e1 n2
       have hlZ : ∀ Z, (H' ++ [Blk.cells 0 Z]).length = H'.length + 1 := fun Z => by simp
       have hpl : H.length ≤ H'.length + 1 := by omega
       have hH0 : H.length ≤ H'.length := by omega
       by_cases hr : rightB l.length s = true
       · rw [hr] at n2
         have g8 : hget (H' ++ [Blk.cells 0 [.int .i64 s.kind, .bool s.no, slv encG s.sp, .int .i64 s.one, .int .i64 s.two]]) H'.length 0 = some [.int .i64 s.kind, .bool s.no, slv encG s.sp, .int .i64 s.one, .int .i64 s.two] := by rw [hget_new rfl, if_pos rfl]
         have hm1 := hget_mono hm [Blk.cells 0 [.int .i64 s.kind, .bool s.no, slv encG s.sp, .int .i64 s.one, .int .i64 s.two]]
         have hrow1 := hrow.keep (K := H' ++ [Blk.cells 0 [.int .i64 s.kind, .bool s.no, slv encG s.sp, .int .i64 s.one, .int .i64 s.two]]) fun z ver cs _ h => hget_mono h _
         have hrt2 : ∀ t ∈ l.take (i + 1), rightB l.length t = true := fun t ht => by
           rw [htk] at ht
           rcases List.mem_append.1 ht with h | h
           · exact hrt t h
           · rw [List.mem_singleton.1 h]; exact hr
         have hsa := spans_app (slv encG s.sp) s.sp (slv_sl encG s.sp) hsi H.length (H.length + 1) (H' ++ [Blk.cells 0 [.int .i64 s.kind, .bool s.no, slv encG s.sp, .int .i64 s.one, .int .i64 s.two]]) (by rw [hlZ]; omega)
         have hlt1 : ∀ b, vr = .bs b → b.b < H'.length := fun b hb => by
           rcases hrow with ⟨q, _⟩ | ⟨rb, ver, hls, q, q2, q3, _⟩
           · rw [q] at hb; cases hb
           · rw [q] at hb; cases hb; exact hget_lt q3
         rcases hsa with ⟨hsp0, happ⟩ | ⟨hne, K', happ, hKe, hrowG⟩
         · have g8' : hget (H' ++ [Blk.cells 0 [.int .i64 s.kind, .bool s.no, slv encG s.sp, .int .i64 s.one, .int .i64 s.two]]) H'.length 0 = some [.int .i64 s.kind, .bool s.no, slv encG s.sp, .int .i64 s.one, .int .i64 s.two] := g8
           have hput1 : hput H.length (H' ++ [Blk.cells 0 [.int .i64 s.kind, .bool s.no, slv encG s.sp, .int .i64 s.one, .int .i64 s.two]]) H'.length 0 2 [.nilS] = some ((H' ++ [Blk.cells 0 [.int .i64 s.kind, .bool s.no, slv encG s.sp, .int .i64 s.one, .int .i64 s.two]]).set H'.length (.cells 0 [.int .i64 s.kind, .bool s.no, .nilS, .int .i64 s.one, .int .i64 s.two])) := by rw [hput_eq g8' (by omega) (by simp) (by simp [AV.leaf])]; rfl
           have k3a : hget ((H' ++ [Blk.cells 0 [.int .i64 s.kind, .bool s.no, slv encG s.sp, .int .i64 s.one, .int .i64 s.two]]).set H'.length (.cells 0 [.int .i64 s.kind, .bool s.no, .nilS, .int .i64 s.one, .int .i64 s.two])) H'.length 0 = some [.int .i64 s.kind, .bool s.no, .nilS, .int .i64 s.one, .int .i64 s.two] := hget_set_at (hget_lt g8')
           have k3m : hget ((H' ++ [Blk.cells 0 [.int .i64 s.kind, .bool s.no, slv encG s.sp, .int .i64 s.one, .int .i64 s.two]]).set H'.length (.cells 0 [.int .i64 s.kind, .bool s.no, .nilS, .int .i64 s.one, .int .i64 s.two])) H.length 0 = some [vr, .int .i64 a] := by rw [hget_set_ne (by omega)]; exact hm1
           have k3k : ∀ z ver cs, H.length + 1 ≤ z → hget H' z ver = some cs → hget ((H' ++ [Blk.cells 0 [.int .i64 s.kind, .bool s.no, slv encG s.sp, .int .i64 s.one, .int .i64 s.two]]).set H'.length (.cells 0 [.int .i64 s.kind, .bool s.no, .nilS, .int .i64 s.one, .int .i64 s.two])) z ver = some cs := fun z ver cs _ h => by rw [hget_set_ne (by have := hget_lt h; omega)]; exact hget_mono h _
           have k3l : ((H' ++ [Blk.cells 0 [.int .i64 s.kind, .bool s.no, slv encG s.sp, .int .i64 s.one, .int .i64 s.two]]).set H'.length (.cells 0 [.int .i64 s.kind, .bool s.no, .nilS, .int .i64 s.one, .int .i64 s.two])).length = H'.length + 1 := by simp
           have hrow3 := hrow.keep k3k
           generalize (H' ++ [Blk.cells 0 [.int .i64 s.kind, .bool s.no, slv encG s.sp, .int .i64 s.one, .int .i64 s.two]]).set H'.length (.cells 0 [.int .i64 s.kind, .bool s.no, .nilS, .int .i64 s.one, .int .i64 s.two]) = K3 at *
           obtain ⟨K5, K6, v', q1, ⟨q2, q2'⟩, q3, q4, q5, q6⟩ := nrow_put (prot := H.length) (x := ⟨s.kind, s.no, .nilS, rfl, s.one, s.two⟩) (s := s) (by omega) (by omega) k3m hrow3 ⟨rfl, rfl, rfl, rfl⟩ (by rw [hsp0]; exact Row.nil) (.inl rfl) (fun b hb => nomatch hb) (by simp; omega) (Nat.le_refl _)
           have hlit := litH ⟨s.kind, s.no, .nilS, rfl, s.one, s.two⟩ K3
           simp only [encH, AV.cells] at hlit q1
           rw [k3l] at hlit q1
           unfold AV.leaf at q2; unfold AV.cells at q2'
           have hk3m := hget_mono k3m [Blk.cells 0 [.int .i64 s.kind, .bool s.no, .nilS, .int .i64 s.one, .int .i64 s.two]]
           simp only [w9, AV.cells, AV.leaf, reduceEqDiff, reduceLT, reduceAdd, reduceLeDiff, reduceCtorEq, reduceMul, reduceMod, u163, hlen, b0, b6, b21, b22, b23, d2, e1, hspl, hlZ, hH0, hpl, n2, g8, happ, g8', hput1, k3m, k3a, hlit, q1, q2, q2', q3, hw, k3l]
           refine ⟨?_, ?_⟩
           · rw [show befs [] _ = [0, 0, 2, 6, 14, 0, 32, 126, 255, 511, 1023] from by kernel_rfl]
             simp [w9, AV.cells, AV.leaf, reduceEqDiff, reduceLT, reduceAdd, reduceLeDiff, reduceCtorEq, reduceMul, reduceMod, u163, hlen, drawOk, chained, mayAt, sameAt, bound, List.range_succ, Nat.testBit, b0, b6, k3m, k3a, hk3m, hlit, q1, q2, q2', q3, k3l, avbeq_refl]
           refine ih _ _ (l.length - (i + 1)) (by omega) ⟨i + 1, v', rfl, by omega, by simp [w9, AV.cells, AV.leaf, reduceEqDiff, reduceLT, reduceAdd, reduceLeDiff, reduceCtorEq, reduceMul, reduceMod, u163, hlen], by simp [w9, AV.cells, AV.leaf, reduceEqDiff, reduceLT, reduceAdd, reduceLeDiff, reduceCtorEq, reduceMul, reduceMod, u163, hlen, b0], by simp [w9, AV.cells, AV.leaf, reduceEqDiff, reduceLT, reduceAdd, reduceLeDiff, reduceCtorEq, reduceMul, reduceMod, u163, hlen, b6], by simp [w9, AV.cells, AV.leaf, reduceEqDiff, reduceLT, reduceAdd, reduceLeDiff, reduceCtorEq, reduceMul, reduceMod, u163, hlen, b21], by simp [w9, AV.cells, AV.leaf, reduceEqDiff, reduceLT, reduceAdd, reduceLeDiff, reduceCtorEq, reduceMul, reduceMod, u163, hlen, b22], by simp [w9, AV.cells, AV.leaf, reduceEqDiff, reduceLT, reduceAdd, reduceLeDiff, reduceCtorEq, reduceMul, reduceMod, u163, hlen], by omega, q4, by rw [htk]; exact q5, hrt2⟩
         · subst hKe
           rw [hlZ] at happ hrowG
           have g8' : hget ((H' ++ [Blk.cells 0 [.int .i64 s.kind, .bool s.no, slv encG s.sp, .int .i64 s.one, .int .i64 s.two]]) ++ [Blk.cells 0 (cellsOf encG s.sp)]) H'.length 0 = some [.int .i64 s.kind, .bool s.no, slv encG s.sp, .int .i64 s.one, .int .i64 s.two] := hget_mono g8 _
           have hput1 : hput H.length ((H' ++ [Blk.cells 0 [.int .i64 s.kind, .bool s.no, slv encG s.sp, .int .i64 s.one, .int .i64 s.two]]) ++ [Blk.cells 0 (cellsOf encG s.sp)]) H'.length 0 2 [(.bs ⟨H'.length + 1, 0, 0, s.sp.length, 0, 2, true, false⟩)] = some (((H' ++ [Blk.cells 0 [.int .i64 s.kind, .bool s.no, slv encG s.sp, .int .i64 s.one, .int .i64 s.two]]) ++ [Blk.cells 0 (cellsOf encG s.sp)]).set H'.length (.cells 0 [.int .i64 s.kind, .bool s.no, (.bs ⟨H'.length + 1, 0, 0, s.sp.length, 0, 2, true, false⟩), .int .i64 s.one, .int .i64 s.two])) := by rw [hput_eq g8' (by omega) (by simp) (by simp [AV.leaf])]; rfl
           have k3a : hget (((H' ++ [Blk.cells 0 [.int .i64 s.kind, .bool s.no, slv encG s.sp, .int .i64 s.one, .int .i64 s.two]]) ++ [Blk.cells 0 (cellsOf encG s.sp)]).set H'.length (.cells 0 [.int .i64 s.kind, .bool s.no, (.bs ⟨H'.length + 1, 0, 0, s.sp.length, 0, 2, true, false⟩), .int .i64 s.one, .int .i64 s.two])) H'.length 0 = some [.int .i64 s.kind, .bool s.no, (.bs ⟨H'.length + 1, 0, 0, s.sp.length, 0, 2, true, false⟩), .int .i64 s.one, .int .i64 s.two] := hget_set_at (hget_lt g8')
           have k3m : hget (((H' ++ [Blk.cells 0 [.int .i64 s.kind, .bool s.no, slv encG s.sp, .int .i64 s.one, .int .i64 s.two]]) ++ [Blk.cells 0 (cellsOf encG s.sp)]).set H'.length (.cells 0 [.int .i64 s.kind, .bool s.no, (.bs ⟨H'.length + 1, 0, 0, s.sp.length, 0, 2, true, false⟩), .int .i64 s.one, .int .i64 s.two])) H.length 0 = some [vr, .int .i64 a] := by rw [hget_set_ne (by omega)]; exact hget_mono hm1 _
           have k3k : ∀ z ver cs, H.length + 1 ≤ z → hget H' z ver = some cs → hget (((H' ++ [Blk.cells 0 [.int .i64 s.kind, .bool s.no, slv encG s.sp, .int .i64 s.one, .int .i64 s.two]]) ++ [Blk.cells 0 (cellsOf encG s.sp)]).set H'.length (.cells 0 [.int .i64 s.kind, .bool s.no, (.bs ⟨H'.length + 1, 0, 0, s.sp.length, 0, 2, true, false⟩), .int .i64 s.one, .int .i64 s.two])) z ver = some cs := fun z ver cs _ h => by rw [hget_set_ne (by have := hget_lt h; omega)]; exact hget_mono (hget_mono h _) _
           have hrowG3 : Row encG 2 true (H.length + 1) (((H' ++ [Blk.cells 0 [.int .i64 s.kind, .bool s.no, slv encG s.sp, .int .i64 s.one, .int .i64 s.two]]) ++ [Blk.cells 0 (cellsOf encG s.sp)]).set H'.length (.cells 0 [.int .i64 s.kind, .bool s.no, (.bs ⟨H'.length + 1, 0, 0, s.sp.length, 0, 2, true, false⟩), .int .i64 s.one, .int .i64 s.two])) (.bs ⟨H'.length + 1, 0, 0, s.sp.length, 0, 2, true, false⟩) s.sp := rowG_keep hrowG fun b hb ver cs h => by cases hb; rw [hget_set_ne (by simp)]; exact h
           have k3l : (((H' ++ [Blk.cells 0 [.int .i64 s.kind, .bool s.no, slv encG s.sp, .int .i64 s.one, .int .i64 s.two]]) ++ [Blk.cells 0 (cellsOf encG s.sp)]).set H'.length (.cells 0 [.int .i64 s.kind, .bool s.no, (.bs ⟨H'.length + 1, 0, 0, s.sp.length, 0, 2, true, false⟩), .int .i64 s.one, .int .i64 s.two])).length = H'.length + 2 := by simp
           have hrow3 := hrow.keep k3k
           generalize ((H' ++ [Blk.cells 0 [.int .i64 s.kind, .bool s.no, slv encG s.sp, .int .i64 s.one, .int .i64 s.two]]) ++ [Blk.cells 0 (cellsOf encG s.sp)]).set H'.length (.cells 0 [.int .i64 s.kind, .bool s.no, (.bs ⟨H'.length + 1, 0, 0, s.sp.length, 0, 2, true, false⟩), .int .i64 s.one, .int .i64 s.two]) = K3 at *
           obtain ⟨K5, K6, v', q1, ⟨q2, q2'⟩, q3, q4, q5, q6⟩ := nrow_put (prot := H.length) (x := ⟨s.kind, s.no, (.bs ⟨H'.length + 1, 0, 0, s.sp.length, 0, 2, true, false⟩), rfl, s.one, s.two⟩) (s := s) (by omega) (by omega) k3m hrow3 ⟨rfl, rfl, rfl, rfl⟩ hrowG3 (.inr hne) (fun b hb b' hb' => by cases hb; have := hlt1 b' hb'; simp; omega) (by simp; omega) (Nat.le_refl _)
           have hlit := litH ⟨s.kind, s.no, (.bs ⟨H'.length + 1, 0, 0, s.sp.length, 0, 2, true, false⟩), rfl, s.one, s.two⟩ K3
           simp only [encH, AV.cells] at hlit q1
           rw [k3l] at hlit q1
           unfold AV.leaf at q2; unfold AV.cells at q2'
           have hk3m := hget_mono k3m [Blk.cells 0 [.int .i64 s.kind, .bool s.no, (.bs ⟨H'.length + 1, 0, 0, s.sp.length, 0, 2, true, false⟩), .int .i64 s.one, .int .i64 s.two]]
           simp only [w9, AV.cells, AV.leaf, reduceEqDiff, reduceLT, reduceAdd, reduceLeDiff, reduceCtorEq, reduceMul, reduceMod, u163, hlen, b0, b6, b21, b22, b23, d2, e1, hspl, hlZ, hH0, hpl, n2, g8, happ, g8', hput1, k3m, k3a, hlit, q1, q2, q2', q3, hw, k3l]
           refine ⟨?_, ?_⟩
           · rw [show befs [] _ = [0, 0, 2, 6, 14, 0, 32, 126, 255, 511, 1023] from by kernel_rfl]
             simp [w9, AV.cells, AV.leaf, reduceEqDiff, reduceLT, reduceAdd, reduceLeDiff, reduceCtorEq, reduceMul, reduceMod, u163, hlen, drawOk, chained, mayAt, sameAt, bound, List.range_succ, Nat.testBit, b0, b6, k3m, k3a, hk3m, hlit, q1, q2, q2', q3, k3l, avbeq_refl]
           refine ih _ _ (l.length - (i + 1)) (by omega) ⟨i + 1, v', rfl, by omega, by simp [w9, AV.cells, AV.leaf, reduceEqDiff, reduceLT, reduceAdd, reduceLeDiff, reduceCtorEq, reduceMul, reduceMod, u163, hlen], by simp [w9, AV.cells, AV.leaf, reduceEqDiff, reduceLT, reduceAdd, reduceLeDiff, reduceCtorEq, reduceMul, reduceMod, u163, hlen, b0], by simp [w9, AV.cells, AV.leaf, reduceEqDiff, reduceLT, reduceAdd, reduceLeDiff, reduceCtorEq, reduceMul, reduceMod, u163, hlen, b6], by simp [w9, AV.cells, AV.leaf, reduceEqDiff, reduceLT, reduceAdd, reduceLeDiff, reduceCtorEq, reduceMul, reduceMod, u163, hlen, b21], by simp [w9, AV.cells, AV.leaf, reduceEqDiff, reduceLT, reduceAdd, reduceLeDiff, reduceCtorEq, reduceMul, reduceMod, u163, hlen, b22], by simp [w9, AV.cells, AV.leaf, reduceEqDiff, reduceLT, reduceAdd, reduceLeDiff, reduceCtorEq, reduceMul, reduceMod, u163, hlen], by omega, q4, by rw [htk]; exact q5, hrt2⟩
       · have hr := Bool.eq_false_iff.2 hr
         rw [hr] at n2
         have hal : l.all (rightB l.length) = false := by
           rw [List.all_eq_false]
           exact ⟨s, hmem, by simp [hr]⟩
         rw [hal]
         simp only [w9, AV.cells, AV.leaf, reduceEqDiff, reduceLT, reduceAdd, reduceLeDiff, reduceCtorEq, reduceMul, reduceMod, u163, hlen, b0, b6, b21, b22, b23, d2, e1, hspl, hlZ, hH0, hpl, n2]
         exact Fin_pure (l := [.nil, .int .i64 1]) (by simp [w9, AV.cells, AV.leaf, reduceEqDiff, reduceLT, reduceAdd, reduceLeDiff, reduceCtorEq, reduceMul, reduceMod, u163, hlen, aResults, aResult]) (.tup (.cons (.still rfl) (.cons (.still rfl) .nil))) (by simp)
     · have d2 : decide (((i : Nat) : Int) < (l.length : Nat)) = false := decide_eq_false (by omega)
       rw [List.take_of_length_le (by omega)] at hrow hrt
       have hal : l.all (rightB l.length) = true := List.all_eq_true.2 hrt
       rw [hal]
       simp only [w9, AV.cells, AV.leaf, reduceEqDiff, reduceLT, reduceAdd, reduceLeDiff, reduceCtorEq, reduceMul, reduceMod, u163, hlen, b0, b6, b21, b22, b23, d2]
       exact Fin_pure (l := [.ptr H.length 0 0, .int .i64 0]) (by simp [w9, AV.cells, AV.leaf, reduceEqDiff, reduceLT, reduceAdd, reduceLeDiff, reduceCtorEq, reduceMul, reduceMod, u163, hlen, aResults, aResult]) (.tup (.cons (.ptr (Nat.le_refl _) hm (.cons (hrow.frozen (by omega)) (.cons (.still rfl) .nil))) (.cons (.still rfl) .nil))) (by simp)
   · have hin := Bool.eq_false_iff.2 hin
     rw [hin] at n1 ⊢
     rw [Bool.false_and]
     refine pure_slim rfl (by kernel_rfl) Tryz.func122 s122 hp hsnap (by simp [Tryz.f122]) fun fr hlen h => ?_
     simp only [Has, Nat.zero_add] at h
     obtain ⟨a0, a1, -⟩ := h
     simp only [Tryz.f122] at hlen ⊢
     unfold g122
     simp only [w9, AV.cells, AV.leaf, reduceEqDiff, reduceLT, reduceAdd, reduceLeDiff, reduceCtorEq, reduceMul, reduceMod, u163, hlen, a0, a1, hvl, d1, n1, none_beq]
     exact Fin_pure (l := [.nil, .int .i64 1]) (by simp [w9, AV.cells, AV.leaf, reduceEqDiff, reduceLT, reduceAdd, reduceLeDiff, reduceCtorEq, reduceMul, reduceMod, u163, hlen, aResults, aResult]) (.tup (.cons (.still rfl) (.cons (.still rfl) .nil))) (by simp)
 · have d1 : decide ((401 : Int) < (l.length : Nat)) = true := decide_eq_true (by omega)
   rw [decide_eq_false hg, Bool.false_and, Bool.false_and]
   refine pure_slim rfl (by kernel_rfl) Tryz.func122 s122 hp hsnap (by simp [Tryz.f122]) fun fr hlen h => ?_
   simp only [Has, Nat.zero_add] at h
   obtain ⟨a0, a1, -⟩ := h
   simp only [Tryz.f122] at hlen ⊢
   unfold g122
   simp only [w9, AV.cells, AV.leaf, reduceEqDiff, reduceLT, reduceAdd, reduceLeDiff, reduceCtorEq, reduceMul, reduceMod, u163, hlen, a0, a1, hvl, d1, none_beq]
   exact Fin_pure (l := [.nil, .int .i64 1]) (by simp [w9, AV.cells, AV.leaf, reduceEqDiff, reduceLT, reduceAdd, reduceLeDiff, reduceCtorEq, reduceMul, reduceMod, u163, hlen, aResults, aResult]) (.tup (.cons (.still rfl) (.cons (.still rfl) .nil))) (by simp)
end Go.Proofs.YtnipaiklandliaaGreatDoor
/- Chapter 15: nodes, and classes, walked. -/
namespace Go.Abs
open Go
open Nat (reduceEqDiff reduceLT reduceAdd reduceLeDiff reduceMul reduceMod)
theorem Row.appK {α : Type} {enc : α → AV} {sz : Nat} {ag : Bool} {base : Nat} {H : Heap} {v : AV} {l : List α} (h : Row enc sz ag base H v l) (he : EncT enc sz ag) {P : Program} {t xt e : TypeId} {by_ prot : Nat} (ht : RowT P t e sz by_ ag) (hxt : (∃ e', P.underlying xt = some (.slice e')) ∨ P.underlying xt = some .string) {x : AV} {m : List α}
   (hx : elemCells H sz x = some (m.length, cellsOf enc m)) (hm : 0 < m.length) (hr : roomy (l.length + m.length) by_ = true) (hp : prot ≤ base) (hb : base ≤ H.length) {H0 : Heap} {b0 : Nat} {c : List AV} (hk : Kp H0 b0 c H) (h0 : H0.length ≤ base) :
   ∃ v' H', aAppend P prot H #[t, xt] v x = some (v', some H') ∧ Row enc sz ag base H' v' (l ++ m) ∧ H.length ≤ H'.length ∧ v' ≠ .nilS ∧ Kp H0 b0 c H' ∧
     ∀ b ver cs, b < base → hget H b ver = some cs → hget H' b ver = some cs := by
 obtain ⟨v', H', h1, h2, h3, h4, h5, h6⟩ := h.appB he ht hxt hx hm hr hp hb
 have h7 : ∀ b ver cs, b < base → hget H b ver = some cs → hget H' b ver = some cs := fun b ver cs hlt hg => h5 b ver cs hg fun s hs => by
   rcases h with ⟨q, _⟩ | ⟨b', ver', q, hb', _⟩
   · rw [q] at hs; cases hs
   · rw [q] at hs; cases hs; simp; omega
 refine ⟨v', H', h1, h2, h3, h4, ?_, h7⟩
 obtain ⟨z, hz, hzl⟩ := ht.zero
 have hm0 : ¬ m.length = 0 := by omega
 have hlf := cellsOf_leaf he m
 rcases h with ⟨rfl, rfl⟩ | ⟨b, ver, rfl, g2, g3, hv4⟩
 · simp only [List.length_nil, Nat.zero_add] at hr
   have e : aAppend P prot H #[t, xt] .nilS x = some (.bs ⟨H.length, 0, 0, m.length, 0, sz, ag, false⟩, some (H ++ [Blk.cells 0 (cellsOf enc m)])) := by
     rcases hxt with ⟨e', hu⟩ | hu <;> unfold aAppend <;>
     simp only [ht.row0, List.getElem?_toArray, List.getElem?_cons_zero, List.getElem?_cons_succ, Option.bind_some, ht.elem, ht.size, ht.bytes, ht.agg, hz, hzl, hu, hx, ne_eq, not_true_eq_false, if_false, hlf, if_true, hm0, hr]
   rw [e] at h1
   cases h1
   exact hk.app _
 · have e : aAppend P prot H #[t, xt] (.bs ⟨b, ver, 0, l.length, 0, sz, ag, false⟩) x = some (.bs ⟨b, ver + 4, 0, l.length + m.length, 0, sz, ag, false⟩, some (H.set b (Blk.cells (ver + 4) (cellsOf enc l ++ cellsOf enc m)))) := by
     have hw : win (cellsOf enc l) 0 (l.length * sz) = some (cellsOf enc l) := by
       have := cellsOf_length he l
       simp only [win, Nat.zero_add, List.drop_zero]
       rw [if_pos (by omega), List.take_of_length_le (by omega)]
     rcases hxt with ⟨e', hu⟩ | hu <;> unfold aAppend <;>
     simp only [List.getElem?_toArray, List.getElem?_cons_zero, List.getElem?_cons_succ, Option.bind_some, ht.elem, ht.size, ht.bytes, ht.agg, hz, hzl, hu, hx, ne_eq, not_true_eq_false, if_false, hlf, if_true, hm0, hr, g3, hw, Bool.false_eq_true,
       Nat.le_trans hp g2, rowOk_zero hv4, and_self]
   rw [e] at h1
   cases h1
   exact hk.new (Nat.le_trans h0 g2) _
end Go.Abs
namespace Go.Proofs.YtnipaiklandliaaGreatDoor
open Go Go.Abs AbsSeat Ty
open Nat (reduceEqDiff reduceLT reduceAdd reduceLeDiff reduceMul reduceMod)
inductive Nd where
 | mk (kind : Int) (no : Bool) (sf : Bool) (sp : List Sg) (least most : Int) (kf : Bool) (kids : List Nd)
def slF {α : Type} (f : Bool) (enc : α → AV) : List α → AV
 | [] => .nilS
 | l => .vs (l.map enc) f
theorem slF_slv {α : Type} (enc : α → AV) (l : List α) : slF false enc l = slv enc l := by cases l <;> rfl
theorem slF_sl {α : Type} (f : Bool) (enc : α → AV) (l : List α) : Sl enc (slF f enc l) l := by
 cases l with
 | nil => exact .nil
 | cons x r => exact .vs (x :: r) f
mutual
def encN : Nd → AV
 | .mk kind no sf sp least most kf kids => .agg [.int .i64 kind, .bool no, slF sf encG sp, .int .i64 least, .int .i64 most, match kids with | [] => .nilS | x :: r => .vs (encN x :: encNs r) kf]
def encNs : List Nd → List AV
 | [] => []
 | x :: r => encN x :: encNs r
end
theorem encNs_map (l : List Nd) : encNs l = l.map encN := by
 induction l with
 | nil => rfl
 | cons x r ih => rw [encNs, ih]; rfl
theorem encN_eq (kind : Int) (no sf : Bool) (sp : List Sg) (least most : Int) (kf : Bool) (kids : List Nd) : encN (.mk kind no sf sp least most kf kids) = .agg [.int .i64 kind, .bool no, slF sf encG sp, .int .i64 least, .int .i64 most, slF kf encN kids] := by
 cases kids with
 | nil => simp only [encN]; rfl
 | cons x r => simp only [encN, encNs_map]; rfl
theorem slF_leaf {α : Type} (f : Bool) (enc : α → AV) (l : List α) : (slF f enc l).leaf = true := by cases l <;> rfl
theorem slF_still {α : Type} (f : Bool) (enc : α → AV) (l : List α) : still (slF f enc l) = true := by cases l <;> rfl
theorem encN_len (x : Nd) : (encN x).cells.length = 6 := by cases x; rw [encN_eq]; rfl
theorem encN_T : EncT encN 6 true where
 len x := encN_len x
 leaf x c hc := by
   cases x; rw [encN_eq] at hc
   simp only [AV.cells, List.mem_cons, List.not_mem_nil, or_false] at hc
   rcases hc with rfl | rfl | rfl | rfl | rfl | rfl <;> first | rfl | exact slF_leaf _ _ _
 still x c hc := by
   cases x; rw [encN_eq] at hc
   simp only [AV.cells, List.mem_cons, List.not_mem_nil, or_false] at hc
   rcases hc with rfl | rfl | rfl | rfl | rfl | rfl <;> first | rfl | exact slF_still _ _ _
 shape x := by cases x; rw [encN_eq]; rfl
theorem rowN : RowT Tryz.prog 174 176 6 80 true where
 un := Tryz.underlying174
 size := sz176
 bytes := by176
 agg := ag176
 zero := ⟨_, ze176, rfl⟩
 pos := by decide
 tree := rfl
theorem escS_len (c : Int) : 0 < (escSX c).1.length ∧ (escSX c).1.length ≤ 4 := by
 unfold escSX
 repeat' split
 all_goals exact ⟨by simp, by simp⟩
theorem hxtG : (∃ e', Tryz.prog.underlying 173 = some (.slice e')) ∨ Tryz.prog.underlying 173 = some .string := .inl ⟨_, Tryz.underlying173⟩
def cls1 : List UInt8 := [91, 93, 94, 45]
def cls2 : List UInt8 := [91, 93, 94, 45, 92]
def classGo (l : List Int) : Nat → Nat → List Sg → List Sg × Nat × Bool
 | 0, j, acc => (acc, j, false)
 | k + 1, j, acc =>
   if pk l j = 93 then (acc, j + 1, true)
   else if pk l j = 92 then
     if (escSX (pk l (j + 1))).2 = true then classGo l k (j + 2) (acc ++ (escSX (pk l (j + 1))).1) else (acc, j + 2, false)
   else if pk l j = -1 ∨ hasS cls1 (pk l j) = true then (acc, j + 1, false)
   else if pk l (j + 1) = 45 then
     if pk l (j + 2) < pk l j ∨ hasS cls2 (pk l (j + 2)) = true then (acc, j + 3, false) else classGo l k (j + 3) (acc ++ [⟨pk l j, pk l (j + 2)⟩])
   else classGo l k (j + 1) (acc ++ [⟨pk l j, pk l j⟩])
structure Rd where
 n : Nd
 at_ : Nat
 ok : Bool
def classS (l : List Int) (j : Nat) : Rd :=
 let i := if pk l j = 94 then j + 1 else j
 let g := classGo l (l.length + 2) i []
 ⟨.mk 1 (decide (pk l j = 94)) false g.1 0 0 false [], g.2.1, g.2.2 && decide (0 < g.1.length)⟩
theorem cls_end {prot : Nat} {res : List ResultVar} {fr : List AV} {H K : Heap} {b : Nat} {L : AV} {j : Nat} {v : AV} {acc : List Sg} {X : Blk} {nt ok : Bool} (kp : Kp H b [L, .int .i64 (j : Nat)] K) (hrow : Row encG 2 true (H.length + 2) K v acc) (hne : v = .nilS ∨ acc ≠ [])
   (h1 : aResults cfg.P fr (K.set H.length X) res = some [.agg [.int .i64 1, .bool nt, v, .int .i64 0, .int .i64 0, .nilS], .bool ok]) :
   Fin ⟨cfg, prot, res, .trim H⟩ fr (K.set H.length X) (.tup [encN (.mk 1 nt false acc 0 0 false []), .bool ok], some (H.set b (.cells 0 [L, .int .i64 (j : Nat)]))) := by
 have hf := ((hrow.setne (b' := H.length) (by omega) X).low (base' := H.length) (by omega)).frozen encG_T (by decide) rfl hne
 refine (kp.new (Nat.le_refl _) X).fin h1 ?_
 rw [encN_eq, slF_slv]
 exact .tup (.cons (.agg (.cons (.still rfl) (.cons (.still rfl) (.cons hf (.cons (.still rfl) (.cons (.still rfl) (.cons (.still rfl) .nil))))))) (.cons (.still rfl) .nil))
theorem u199 : type_of% (And.intro (show tagT Tryz.prog 176 = 0 from by kernel_rfl) (And.intro ag1 (And.intro sz1 (And.intro by1 (And.intro ze1 (And.intro Tryz.underlying1 (And.intro ag3 (And.intro sz3 (And.intro by3 (And.intro ze3 (And.intro Tryz.underlying3 (And.intro ag4 (And.intro sz4 (And.intro by4 (And.intro ze4 (And.intro Tryz.underlying4 (And.intro ag9 (And.intro sz9 (And.intro by9 (And.intro ze9 (And.intro Tryz.underlying9 (And.intro ag21 (And.intro sz21 (And.intro by21 (And.intro ze21 (And.intro Tryz.underlying21 (And.intro ag173 (And.intro sz173 (And.intro by173 (And.intro se173 (And.intro ze173 (And.intro Tryz.underlying173 (And.intro ag174 (And.intro sz174 (And.intro by174 (And.intro se174 (And.intro ze174 (And.intro Tryz.underlying174 (And.intro ag176 (And.intro sz176 (And.intro by176 (And.intro ze176 (And.intro bu176 (And.intro Tryz.underlying176 (And.intro ag205 (And.intro sz205 (And.intro by205 (And.intro ze205 (And.intro Tryz.underlying205 (And.intro ag209 (And.intro sz209 (And.intro by209 (And.intro ze209 (And.intro bu209 (And.intro Tryz.underlying209 (And.intro ag276 (And.intro sz276 (And.intro by276 (And.intro ze276 (And.intro bu276 (And.intro Tryz.underlying276 (And.intro fa176_1 (And.intro fd176_1 (And.intro fa176_2 (And.intro fd176_2 (And.intro fa209_1 fd209_1)))))))))))))))))))))))))))))))))))))))))))))))))))))))))))))))))) := And.intro (show tagT Tryz.prog 176 = 0 from by kernel_rfl) (And.intro ag1 (And.intro sz1 (And.intro by1 (And.intro ze1 (And.intro Tryz.underlying1 (And.intro ag3 (And.intro sz3 (And.intro by3 (And.intro ze3 (And.intro Tryz.underlying3 (And.intro ag4 (And.intro sz4 (And.intro by4 (And.intro ze4 (And.intro Tryz.underlying4 (And.intro ag9 (And.intro sz9 (And.intro by9 (And.intro ze9 (And.intro Tryz.underlying9 (And.intro ag21 (And.intro sz21 (And.intro by21 (And.intro ze21 (And.intro Tryz.underlying21 (And.intro ag173 (And.intro sz173 (And.intro by173 (And.intro se173 (And.intro ze173 (And.intro Tryz.underlying173 (And.intro ag174 (And.intro sz174 (And.intro by174 (And.intro se174 (And.intro ze174 (And.intro Tryz.underlying174 (And.intro ag176 (And.intro sz176 (And.intro by176 (And.intro ze176 (And.intro bu176 (And.intro Tryz.underlying176 (And.intro ag205 (And.intro sz205 (And.intro by205 (And.intro ze205 (And.intro Tryz.underlying205 (And.intro ag209 (And.intro sz209 (And.intro by209 (And.intro ze209 (And.intro bu209 (And.intro Tryz.underlying209 (And.intro ag276 (And.intro sz276 (And.intro by276 (And.intro ze276 (And.intro bu276 (And.intro Tryz.underlying276 (And.intro fa176_1 (And.intro fd176_1 (And.intro fa176_2 (And.intro fd176_2 (And.intro fa209_1 fd209_1)))))))))))))))))))))))))))))))))))))))))))))))))))))))))))))))))
def g199 : Code :=
 .seq (.region 0 #[q 2 (.alloc 176) 0, q 3 (.assign (.const (.bool false))) 4] false) (.seq (.region 1 #[q 9 (cl 201 #[.const (.slice none 0 0)] #[173]) 176, q 4 (.alloc 176) 0, qn (.store 176 (.tmp 4) (.tmp 9)) 0] false) (.seq (.region 2 #[q 10 (.move (.tmp 0)) 205, q 11 (cl 173 #[.tmp 10, .const (.int .i32 94)] #[205, 21]) 4, q 12 (.fieldAddr 176 (.tmp 4) 1) 0, qn (.store 4 (.tmp 12) (.tmp 11)) 0] false) (.seq (.block 0 (.loop (.seq (.seq (.region 3 #[q 13 (.move (.tmp 0)) 205, q 14 (cl 173 #[.tmp 13, .const (.int .i32 93)] #[205, 21]) 4, q 15 (.unOp .not 4 (.tmp 14)) 4] false) (.cond (.tmp 15) .skip (.exit 0))) (.block 1 (.seq (.region 4 #[q 16 (.move (.tmp 0)) 205, q 17 (cl 185 #[.tmp 16] #[205]) 21, q 5 (.assign (.tmp 17)) 21] false) (.seq (.region 5 #[q 18 (.move (.tmp 0)) 205, q 19 (.nilCheck (.tmp 18)) 0, q 20 (.fieldAddr 209 (.tmp 19) 1) 0, q 21 (.load 3 (.tmp 20)) 3, q 22 (.binOp .add 3 (.tmp 21) (ik 1) 3) 3, q 23 (.nilCheck (.tmp 18)) 0, q 24 (.fieldAddr 209 (.tmp 23) 1) 0, qn (.store 3 (.tmp 24) (.tmp 22)) 0] false) (.seq (.block 2 (.seq (.region 6 #[q 26 (.move (.tmp 5)) 21, q 27 (.binOp .eql 21 (.tmp 26) (.const (.int .i32 92)) 21) 4, q 25 (.assign (.tmp 27)) 4] false) (.cond (.tmp 25) (.seq (.region 7 #[q 29 (.move (.tmp 0)) 205, q 30 (cl 200 #[.tmp 29] #[205]) 290, q 28 (.move (.tmp 30)) 290, q 31 (.extract (.tmp 28) 0) 173, q 32 (.extract (.tmp 28) 1) 4, q 6 (.assign (.tmp 31)) 173, q 7 (.assign (.tmp 32)) 4] false) (.seq (.seq (.region 8 #[q 33 (.move (.tmp 7)) 4, q 34 (.unOp .not 4 (.tmp 33)) 4] false) (.cond (.tmp 34) (.seq (.region 9 #[q 35 (.load 176 (.tmp 4)) 176, qn (.store 176 (.tmp 2) (.tmp 35)) 0, q 3 (.assign (.const (.bool false))) 4] false) .ret) .skip)) (.seq (.region 10 #[q 36 (.fieldAddr 176 (.tmp 4) 2) 0, q 37 (.load 173 (.tmp 36)) 173, q 38 (.move (.tmp 6)) 173, q 39 (bi .append #[.tmp 37, .tmp 38] #[173, 173]) 173, q 40 (.fieldAddr 176 (.tmp 4) 2) 0, qn (.store 173 (.tmp 40) (.tmp 39)) 0] false) (.exit 1)))) (.seq (.region 11 #[q 42 (.move (.tmp 5)) 21, q 43 (.binOp .eql 21 (.tmp 42) (.const (.int .i32 (-1))) 21) 4, q 44 (.move (.tmp 43)) 4, qg 45 (.move (.tmp 5)) 21 2 false, qg 46 (cl 202 #[.const (.string { data := #[91, 93, 94, 45] }), .tmp 45] #[9, 21]) 4 2 false, q 47 (.pick (.tmp 44) (.const (.bool true)) (.tmp 46)) 4, q 41 (.assign (.tmp 47)) 4] false) (.cond (.tmp 41) (.seq (.region 12 #[q 48 (.load 176 (.tmp 4)) 176, qn (.store 176 (.tmp 2) (.tmp 48)) 0, q 3 (.assign (.const (.bool false))) 4] false) .ret) .skip))))) (.seq (.region 13 #[q 49 (.move (.tmp 5)) 21, q 8 (.assign (.tmp 49)) 21] false) (.seq (.seq (.region 14 #[q 50 (.move (.tmp 0)) 205, q 51 (cl 173 #[.tmp 50, .const (.int .i32 45)] #[205, 21]) 4] false) (.cond (.tmp 51) (.seq (.region 15 #[q 52 (.move (.tmp 0)) 205, q 53 (cl 185 #[.tmp 52] #[205]) 21, q 8 (.assign (.tmp 53)) 21] false) (.seq (.region 16 #[q 54 (.move (.tmp 0)) 205, q 55 (.nilCheck (.tmp 54)) 0, q 56 (.fieldAddr 209 (.tmp 55) 1) 0, q 57 (.load 3 (.tmp 56)) 3, q 58 (.binOp .add 3 (.tmp 57) (ik 1) 3) 3, q 59 (.nilCheck (.tmp 54)) 0, q 60 (.fieldAddr 209 (.tmp 59) 1) 0, qn (.store 3 (.tmp 60) (.tmp 58)) 0] false) (.seq (.region 17 #[q 61 (.move (.tmp 8)) 21, q 62 (.move (.tmp 5)) 21, q 63 (.binOp .lss 21 (.tmp 61) (.tmp 62) 21) 4, q 64 (.move (.tmp 63)) 4, qg 65 (.move (.tmp 8)) 21 3 false, qg 66 (cl 202 #[.const (.string { data := #[91, 93, 94, 45, 92] }), .tmp 65] #[9, 21]) 4 3 false, q 67 (.pick (.tmp 64) (.const (.bool true)) (.tmp 66)) 4] false) (.cond (.tmp 67) (.seq (.region 18 #[q 68 (.load 176 (.tmp 4)) 176, qn (.store 176 (.tmp 2) (.tmp 68)) 0, q 3 (.assign (.const (.bool false))) 4] false) .ret) .skip)))) .skip)) (.region 19 #[q 69 (.fieldAddr 176 (.tmp 4) 2) 0, q 70 (.load 173 (.tmp 69)) 173, q 71 (.move (.tmp 5)) 21, q 72 (.move (.tmp 8)) 21, q 73 (.build 276 #[(0, .tmp 71), (1, .tmp 72)]) 276, q 74 (.buildSlice 173 1 #[(0, .tmp 73)]) 173, q 75 (bi .append #[.tmp 70, .tmp 74] #[173, 173]) 173, q 76 (.fieldAddr 176 (.tmp 4) 2) 0, qn (.store 173 (.tmp 76) (.tmp 75)) 0] false)))))))))) (.seq (.region 20 #[{ dst := some 77, op := .load 176 (.tmp 4), type := 176, pos := "regex.go:122", after := #[], guard := none }, { dst := some 78, op := .fieldAddr 176 (.tmp 4) 2, type := 0, pos := "regex.go:122", after := #[], guard := none }, { dst := some 79, op := .load 173 (.tmp 78), type := 173, pos := "regex.go:122", after := #[{ on := 1, ground := .data }], guard := none }, { dst := some 80, op := bi .len #[.tmp 79] #[173], type := 3, pos := "regex.go:122", after := #[{ on := 2, ground := .data }], guard := none }, { dst := some 81, op := .binOp .gtr 3 (.tmp 80) (ik 0) 3, type := 4, pos := "regex.go:122", after := #[{ on := 3, ground := .data }, { on := 5, ground := .gcOnly .lateStores }], guard := none }, { dst := none, op := .store 176 (.tmp 2) (.tmp 77), type := 0, pos := "regex.go:122", after := #[{ on := 0, ground := .data }, { on := 0, ground := .phase }, { on := 1, ground := .textOnly .lateStores }, { on := 2, ground := .textOnly .lateStores }, { on := 3, ground := .textOnly .lateStoresUnsure }, { on := 4, ground := .textOnly .lateStores }], guard := none }, { dst := some 3, op := .assign (.tmp 81), type := 4, pos := "regex.go:122", after := #[{ on := 4, ground := .data }, { on := 5, ground := .chain }, { on := 0, ground := .phase }, { on := 1, ground := .phase }, { on := 2, ground := .phase }, { on := 3, ground := .phase }, { on := 4, ground := .phase }, { on := 5, ground := .phase }], guard := none }] true) .ret))))
theorem s199 : Tryz.f199.body.map (slim cfg) = some g199 := by kernel_rfl
def g193 : Code :=
 .seq (.region 0 #[q 4 (.alloc 176) 0, q 5 (.assign (.const (.bool false))) 4] false) (.seq (.region 1 #[q 11 (.move (.tmp 0)) 205, q 12 (cl 185 #[.tmp 11] #[205]) 21, q 6 (.assign (.tmp 12)) 21] false) (.seq (.region 2 #[q 13 (.move (.tmp 0)) 205, q 14 (.nilCheck (.tmp 13)) 0, q 15 (.fieldAddr 209 (.tmp 14) 1) 0, q 16 (.load 3 (.tmp 15)) 3, q 17 (.binOp .add 3 (.tmp 16) (ik 1) 3) 3, q 18 (.nilCheck (.tmp 13)) 0, q 19 (.fieldAddr 209 (.tmp 18) 1) 0, qn (.store 3 (.tmp 19) (.tmp 17)) 0] false) (.seq (.seq (.region 3 #[q 20 (.move (.tmp 6)) 21] false) (.block 0 (.seq (.region 4 #[q 22 (.binOp .eql 21 (.tmp 20) (.const (.int .i32 40)) 21) 4, q 21 (.assign (.tmp 22)) 4] false) (.cond (.tmp 21) (.seq (.seq (.region 5 #[q 23 (.move (.tmp 1)) 3, q 24 (.binOp .geq 3 (.tmp 23) (ik 16) 3) 4] false) (.cond (.tmp 24) (.seq (.region 6 #[q 25 (.build 176 #[]) 176, qn (.store 176 (.tmp 4) (.tmp 25)) 0, q 5 (.assign (.const (.bool false))) 4] false) .ret) .skip)) (.seq (.region 7 #[q 27 (.move (.tmp 0)) 205, q 28 (.move (.tmp 1)) 3, q 29 (.binOp .add 3 (.tmp 28) (ik 1) 3) 3, q 30 (cl 152 #[.tmp 27, .tmp 29] #[205, 3]) 210, q 26 (.move (.tmp 30)) 210, q 31 (.extract (.tmp 26) 0) 176, q 32 (.extract (.tmp 26) 1) 4, q 7 (.alloc 176) 0, qn (.store 176 (.tmp 7) (.tmp 31)) 0, q 8 (.assign (.tmp 32)) 4] false) (.seq (.region 8 #[{ dst := some 33, op := .load 176 (.tmp 7), type := 176, pos := "regex.go:135", after := #[], guard := none }, { dst := some 34, op := .move (.tmp 8), type := 4, pos := "regex.go:135", after := #[], guard := none }, { dst := some 35, op := .move (.tmp 34), type := 4, pos := "regex.go:135", after := #[{ on := 1, ground := .data }], guard := none }, { dst := some 36, op := .move (.tmp 0), type := 205, pos := "regex.go:135", after := #[{ on := 2, ground := .guard }], guard := some (2, true) }, { dst := some 37, op := cl 173 #[.tmp 36, .const (.int .i32 41)] #[205, 21], type := 4, pos := "regex.go:135", after := #[{ on := 3, ground := .data }, { on := 2, ground := .chain }, { on := 2, ground := .guard }], guard := some (2, true) }, { dst := some 38, op := .pick (.tmp 35) (.tmp 37) (.const (.bool false)), type := 4, pos := "regex.go:135", after := #[{ on := 2, ground := .data }, { on := 4, ground := .data }, { on := 6, ground := .gcOnly .lateStores }], guard := none }, { dst := none, op := .store 176 (.tmp 4) (.tmp 33), type := 0, pos := "regex.go:135", after := #[{ on := 0, ground := .data }, { on := 4, ground := .chain }, { on := 0, ground := .phase }, { on := 1, ground := .textOnly .lateStores }, { on := 2, ground := .textOnly .lateStores }, { on := 3, ground := .textOnly .lateStores }, { on := 4, ground := .textOnly .lateStoresUnsure }, { on := 5, ground := .textOnly .lateStores }], guard := none }, { dst := some 5, op := .assign (.tmp 38), type := 4, pos := "regex.go:135", after := #[{ on := 5, ground := .data }, { on := 6, ground := .chain }, { on := 0, ground := .phase }, { on := 1, ground := .phase }, { on := 2, ground := .phase }, { on := 3, ground := .phase }, { on := 4, ground := .phase }, { on := 5, ground := .phase }, { on := 6, ground := .phase }], guard := none }] true) .ret))) (.seq (.region 9 #[q 40 (.binOp .eql 21 (.tmp 20) (.const (.int .i32 91)) 21) 4, q 39 (.assign (.tmp 40)) 4] false) (.cond (.tmp 39) (.seq (.region 10 #[q 41 (.move (.tmp 0)) 205, q 42 (cl 199 #[.tmp 41] #[205]) 210, q 43 (.extract (.tmp 42) 0) 176, q 44 (.extract (.tmp 42) 1) 4, qn (.store 176 (.tmp 4) (.tmp 43)) 0, q 5 (.assign (.tmp 44)) 4] false) .ret) (.seq (.region 11 #[q 46 (.binOp .eql 21 (.tmp 20) (.const (.int .i32 46)) 21) 4, q 45 (.assign (.tmp 46)) 4] false) (.cond (.tmp 45) (.seq (.region 12 #[q 47 (.build 176 #[(0, ik 1), (1, .const (.bool true))]) 176, qn (.store 176 (.tmp 4) (.tmp 47)) 0, q 5 (.assign (.const (.bool true))) 4] false) .ret) (.seq (.region 13 #[q 49 (.binOp .eql 21 (.tmp 20) (.const (.int .i32 92)) 21) 4, q 48 (.assign (.tmp 49)) 4] false) (.cond (.tmp 48) (.seq (.region 14 #[q 51 (.move (.tmp 0)) 205, q 52 (cl 200 #[.tmp 51] #[205]) 290, q 50 (.move (.tmp 52)) 290, q 53 (.extract (.tmp 50) 0) 173, q 54 (.extract (.tmp 50) 1) 4, q 9 (.assign (.tmp 53)) 173, q 10 (.assign (.tmp 54)) 4] false) (.seq (.region 15 #[q 55 (.move (.tmp 9)) 173, q 56 (cl 201 #[.tmp 55] #[173]) 176, q 57 (.move (.tmp 10)) 4, qn (.store 176 (.tmp 4) (.tmp 56)) 0, q 5 (.assign (.tmp 57)) 4] false) .ret)) .skip)))))))))) (.seq (.region 16 #[q 58 (.move (.tmp 6)) 21, q 59 (.move (.tmp 6)) 21, q 60 (.build 276 #[(0, .tmp 58), (1, .tmp 59)]) 276, q 61 (.buildSlice 173 1 #[(0, .tmp 60)]) 173, q 62 (cl 201 #[.tmp 61] #[173]) 176, q 63 (.move (.tmp 6)) 21, q 64 (.binOp .neq 21 (.tmp 63) (.const (.int .i32 (-1))) 21) 4, q 65 (.move (.tmp 64)) 4, qg 66 (.move (.tmp 6)) 21 7 true, qg 67 (cl 202 #[.const (.string { data := #[124, 42, 43, 63, 41, 93, 123, 125] }), .tmp 66] #[9, 21]) 4 7 true, qg 68 (.unOp .not 4 (.tmp 67)) 4 7 true, q 69 (.pick (.tmp 65) (.tmp 68) (.const (.bool false))) 4, qn (.store 176 (.tmp 4) (.tmp 62)) 0, q 5 (.assign (.tmp 69)) 4] false) .ret))))
theorem s193 : Tryz.f193.body.map (slim cfg) = some g193 := by kernel_rfl
def g186 : Code :=
 .seq (.region 0 #[q 4 (.alloc 176) 0, q 5 (.assign (.const (.bool false))) 4] false) (.seq (.region 1 #[q 11 (.move (.tmp 0)) 205, q 12 (.move (.tmp 1)) 3, q 13 (cl 193 #[.tmp 11, .tmp 12] #[205, 3]) 210, q 10 (.move (.tmp 13)) 210, q 14 (.extract (.tmp 10) 0) 176, q 15 (.extract (.tmp 10) 1) 4, q 6 (.alloc 176) 0, qn (.store 176 (.tmp 6) (.tmp 14)) 0, q 7 (.assign (.tmp 15)) 4] false) (.seq (.seq (.region 2 #[q 16 (.move (.tmp 7)) 4, q 17 (.unOp .not 4 (.tmp 16)) 4] false) (.cond (.tmp 17) (.seq (.region 3 #[q 18 (.load 176 (.tmp 6)) 176, qn (.store 176 (.tmp 4) (.tmp 18)) 0, q 5 (.assign (.const (.bool false))) 4] false) .ret) .skip)) (.seq (.region 4 #[q 8 (.assign (ik 0)) 3, q 9 (.assign (ik (-1))) 3] false) (.seq (.seq (.region 5 #[q 19 (.move (.tmp 0)) 205, q 20 (cl 185 #[.tmp 19] #[205]) 21] false) (.block 0 (.seq (.block 5 (.seq (.block 4 (.seq (.block 3 (.seq (.block 2 (.seq (.block 1 (.seq (.seq (.seq (.region 6 #[q 22 (.binOp .eql 21 (.tmp 20) (.const (.int .i32 43)) 21) 4, q 21 (.assign (.tmp 22)) 4] false) (.cond (.tmp 21) (.exit 1) .skip)) (.seq (.seq (.region 7 #[q 24 (.binOp .eql 21 (.tmp 20) (.const (.int .i32 42)) 21) 4, q 23 (.assign (.tmp 24)) 4] false) (.cond (.tmp 23) (.exit 2) .skip)) (.seq (.seq (.region 8 #[q 26 (.binOp .eql 21 (.tmp 20) (.const (.int .i32 63)) 21) 4, q 25 (.assign (.tmp 26)) 4] false) (.cond (.tmp 25) (.exit 3) .skip)) (.seq (.region 9 #[q 28 (.binOp .eql 21 (.tmp 20) (.const (.int .i32 123)) 21) 4, q 27 (.assign (.tmp 28)) 4] false) (.cond (.tmp 27) (.exit 4) .skip))))) (.exit 5))) (.region 10 #[q 8 (.assign (ik 1)) 3] false))) (.seq (.region 11 #[q 29 (.move (.tmp 0)) 205, q 30 (.nilCheck (.tmp 29)) 0, q 31 (.fieldAddr 209 (.tmp 30) 1) 0, q 32 (.load 3 (.tmp 31)) 3, q 33 (.binOp .add 3 (.tmp 32) (ik 1) 3) 3, q 34 (.nilCheck (.tmp 29)) 0, q 35 (.fieldAddr 209 (.tmp 34) 1) 0, qn (.store 3 (.tmp 35) (.tmp 33)) 0] false) (.exit 0)))) (.seq (.seq (.region 12 #[q 36 (.move (.tmp 0)) 205, q 37 (.nilCheck (.tmp 36)) 0, q 38 (.fieldAddr 209 (.tmp 37) 1) 0, q 39 (.load 3 (.tmp 38)) 3, q 40 (.binOp .add 3 (.tmp 39) (ik 1) 3) 3, q 41 (.nilCheck (.tmp 36)) 0, q 42 (.fieldAddr 209 (.tmp 41) 1) 0, qn (.store 3 (.tmp 42) (.tmp 40)) 0] false) (.region 13 #[q 9 (.assign (ik 1)) 3] false)) (.exit 0)))) (.seq (.seq (.region 14 #[q 43 (.move (.tmp 0)) 205, q 44 (.nilCheck (.tmp 43)) 0, q 45 (.fieldAddr 209 (.tmp 44) 1) 0, q 46 (.load 3 (.tmp 45)) 3, q 47 (.binOp .add 3 (.tmp 46) (ik 1) 3) 3, q 48 (.nilCheck (.tmp 43)) 0, q 49 (.fieldAddr 209 (.tmp 48) 1) 0, qn (.store 3 (.tmp 49) (.tmp 47)) 0] false) (.region 15 #[q 51 (.move (.tmp 0)) 205, q 52 (cl 194 #[.tmp 51] #[205]) 283, q 50 (.move (.tmp 52)) 283, q 53 (.extract (.tmp 50) 0) 3, q 54 (.extract (.tmp 50) 1) 3, q 55 (.extract (.tmp 50) 2) 4, q 8 (.assign (.tmp 53)) 3, q 9 (.assign (.tmp 54)) 3, q 7 (.assign (.tmp 55)) 4] false)) (.exit 0)))) (.seq (.seq (.region 16 #[q 56 (.load 176 (.tmp 6)) 176, qn (.store 176 (.tmp 4) (.tmp 56)) 0, q 5 (.assign (.const (.bool true))) 4] false) .ret) (.exit 0))))) (.seq (.region 17 #[q 57 (.move (.tmp 8)) 3, q 58 (.move (.tmp 9)) 3, q 59 (.load 176 (.tmp 6)) 176, q 60 (.buildSlice 174 1 #[(0, .tmp 59)]) 174, q 61 (.build 176 #[(0, ik 4), (3, .tmp 57), (4, .tmp 58), (5, .tmp 60)]) 176, q 62 (.move (.tmp 7)) 4, qn (.store 176 (.tmp 4) (.tmp 61)) 0, q 5 (.assign (.tmp 62)) 4] false) .ret)))))
theorem s186 : Tryz.f186.body.map (slim cfg) = some g186 := by kernel_rfl
def g172 : Code :=
 .seq (.region 0 #[q 4 (.alloc 176) 0, q 5 (.assign (.const (.bool false))) 4] false) (.seq (.region 1 #[q 6 (.assign (.const (.slice none 0 0))) 174] false) (.seq (.block 0 (.loop (.seq (.seq (.region 2 #[q 9 (.move (.tmp 0)) 205, q 10 (cl 185 #[.tmp 9] #[205]) 21, q 11 (.binOp .neq 21 (.tmp 10) (.const (.int .i32 (-1))) 21) 4, q 12 (.move (.tmp 11)) 4, qg 13 (.move (.tmp 0)) 205 3 true, qg 14 (cl 185 #[.tmp 13] #[205]) 21 3 true, qg 15 (.binOp .neq 21 (.tmp 14) (.const (.int .i32 124)) 21) 4 3 true, q 16 (.pick (.tmp 12) (.tmp 15) (.const (.bool false))) 4, q 17 (.move (.tmp 16)) 4, qg 18 (.move (.tmp 0)) 205 8 true, qg 19 (cl 185 #[.tmp 18] #[205]) 21 8 true, qg 20 (.binOp .neq 21 (.tmp 19) (.const (.int .i32 41)) 21) 4 8 true, q 21 (.pick (.tmp 17) (.tmp 20) (.const (.bool false))) 4] false) (.cond (.tmp 21) .skip (.exit 0))) (.block 1 (.seq (.region 3 #[q 23 (.move (.tmp 0)) 205, q 24 (.move (.tmp 1)) 3, q 25 (cl 186 #[.tmp 23, .tmp 24] #[205, 3]) 210, q 22 (.move (.tmp 25)) 210, q 26 (.extract (.tmp 22) 0) 176, q 27 (.extract (.tmp 22) 1) 4, q 7 (.alloc 176) 0, qn (.store 176 (.tmp 7) (.tmp 26)) 0, q 8 (.assign (.tmp 27)) 4] false) (.seq (.seq (.region 4 #[q 28 (.move (.tmp 8)) 4, q 29 (.unOp .not 4 (.tmp 28)) 4] false) (.cond (.tmp 29) (.seq (.region 5 #[q 30 (.load 176 (.tmp 7)) 176, qn (.store 176 (.tmp 4) (.tmp 30)) 0, q 5 (.assign (.const (.bool false))) 4] false) .ret) .skip)) (.region 6 #[q 31 (.move (.tmp 6)) 174, q 32 (.load 176 (.tmp 7)) 176, q 33 (.buildSlice 174 1 #[(0, .tmp 32)]) 174, q 34 (bi .append #[.tmp 31, .tmp 33] #[174, 174]) 174, q 6 (.assign (.tmp 34)) 174] false))))))) (.seq (.seq (.region 7 #[q 35 (.move (.tmp 6)) 174, q 36 (bi .len #[.tmp 35] #[174]) 3] false) (.block 2 (.seq (.region 8 #[q 38 (.binOp .eql 3 (.tmp 36) (ik 0) 3) 4, q 37 (.assign (.tmp 38)) 4] false) (.cond (.tmp 37) (.seq (.region 9 #[q 39 (.build 176 #[]) 176, qn (.store 176 (.tmp 4) (.tmp 39)) 0, q 5 (.assign (.const (.bool true))) 4] false) .ret) (.seq (.region 10 #[q 41 (.binOp .eql 3 (.tmp 36) (ik 1) 3) 4, q 40 (.assign (.tmp 41)) 4] false) (.cond (.tmp 40) (.seq (.region 11 #[q 42 (.move (.tmp 6)) 174, q 43 (.indexAddr 174 (.tmp 42) (ik 0)) 0, q 44 (.load 176 (.tmp 43)) 176, qn (.store 176 (.tmp 4) (.tmp 44)) 0, q 5 (.assign (.const (.bool true))) 4] false) .ret) .skip)))))) (.seq (.region 12 #[q 45 (.move (.tmp 6)) 174, q 46 (.build 176 #[(0, ik 2), (5, .tmp 45)]) 176, qn (.store 176 (.tmp 4) (.tmp 46)) 0, q 5 (.assign (.const (.bool true))) 4] false) .ret))))
theorem s172 : Tryz.f172.body.map (slim cfg) = some g172 := by kernel_rfl
def g152 : Code :=
 .seq (.region 0 #[q 4 (.alloc 176) 0, q 5 (.assign (.const (.bool false))) 4] false) (.seq (.region 1 #[q 6 (.assign (.const (.slice none 0 0))) 174] false) (.seq (.block 0 (.loop (.block 1 (.seq (.region 2 #[q 10 (.move (.tmp 0)) 205, q 11 (.move (.tmp 1)) 3, q 12 (cl 172 #[.tmp 10, .tmp 11] #[205, 3]) 210, q 9 (.move (.tmp 12)) 210, q 13 (.extract (.tmp 9) 0) 176, q 14 (.extract (.tmp 9) 1) 4, q 7 (.alloc 176) 0, qn (.store 176 (.tmp 7) (.tmp 13)) 0, q 8 (.assign (.tmp 14)) 4] false) (.seq (.seq (.region 3 #[q 15 (.move (.tmp 8)) 4, q 16 (.unOp .not 4 (.tmp 15)) 4] false) (.cond (.tmp 16) (.seq (.region 4 #[q 17 (.load 176 (.tmp 7)) 176, qn (.store 176 (.tmp 4) (.tmp 17)) 0, q 5 (.assign (.const (.bool false))) 4] false) .ret) .skip)) (.seq (.region 5 #[q 18 (.move (.tmp 6)) 174, q 19 (.load 176 (.tmp 7)) 176, q 20 (.buildSlice 174 1 #[(0, .tmp 19)]) 174, q 21 (bi .append #[.tmp 18, .tmp 20] #[174, 174]) 174, q 6 (.assign (.tmp 21)) 174] false) (.seq (.region 6 #[q 22 (.move (.tmp 0)) 205, q 23 (cl 173 #[.tmp 22, .const (.int .i32 124)] #[205, 21]) 4, q 24 (.unOp .not 4 (.tmp 23)) 4] false) (.cond (.tmp 24) (.exit 0) .skip)))))))) (.seq (.seq (.region 7 #[q 25 (.move (.tmp 6)) 174, q 26 (bi .len #[.tmp 25] #[174]) 3, q 27 (.binOp .eql 3 (.tmp 26) (ik 1) 3) 4] false) (.cond (.tmp 27) (.seq (.region 8 #[q 28 (.move (.tmp 6)) 174, q 29 (.indexAddr 174 (.tmp 28) (ik 0)) 0, q 30 (.load 176 (.tmp 29)) 176, qn (.store 176 (.tmp 4) (.tmp 30)) 0, q 5 (.assign (.const (.bool true))) 4] false) .ret) .skip)) (.seq (.region 9 #[q 31 (.move (.tmp 6)) 174, q 32 (.build 176 #[(0, ik 3), (5, .tmp 31)]) 176, qn (.store 176 (.tmp 4) (.tmp 32)) 0, q 5 (.assign (.const (.bool true))) 4] false) .ret))))
theorem s152 : Tryz.f152.body.map (slim cfg) = some g152 := by kernel_rfl
theorem class_ok (l : List Int) (L : AV) (hL : Sl encI L l) (hl : Runes l) (at_ b : Nat) (hat : at_ ≤ l.length) (prot : Nat) (H : Heap) (hp : prot ≤ b) (hg : hget H b 0 = some [L, .int .i64 at_]) :
   aLim cfg prot 199 [.ptr b 0 0] H = some (.tup [encN (classS l at_).n, .bool (classS l at_).ok], some (H.set b (.cells 0 [L, .int .i64 ((classS l at_).at_ : Nat)]))) := by
 have hb := hget_lt hg
 have hll := hl.1
 have hlZ : ∀ Z, (H ++ [Blk.cells 0 Z]).length = H.length + 1 := fun Z => by simp
 have n0 := fun (K : Heap) (hK : prot ≤ K.length) => one_ok .nilS rfl rfl (fun _ _ => .still rfl) prot K hK rfl
 have hpl1 : prot ≤ H.length + 1 := by omega
 have hLb : ∀ x : Int, AV.blwL H.length [L, .int .i64 x] = true := fun x => plL_blwL _ _ (slI_plain hL _)
 have hK0l : (H ++ [Blk.cells 0 [.int .i64 0, .bool false, .nilS, .int .i64 0, .int .i64 0, .nilS]] ++ [Blk.cells 0 [.int .i64 1, .bool false, .nilS, .int .i64 0, .int .i64 0, .nilS]]).length = H.length + 2 := by simp
 have hK0k : Kp H b [L, .int .i64 at_] (H ++ [Blk.cells 0 [.int .i64 0, .bool false, .nilS, .int .i64 0, .int .i64 0, .nilS]] ++ [Blk.cells 0 [.int .i64 1, .bool false, .nilS, .int .i64 0, .int .i64 0, .nilS]]) := ((Kp.start hg).app _).app _
 have hK0z : hget (H ++ [Blk.cells 0 [.int .i64 0, .bool false, .nilS, .int .i64 0, .int .i64 0, .nilS]] ++ [Blk.cells 0 [.int .i64 1, .bool false, .nilS, .int .i64 0, .int .i64 0, .nilS]]) H.length 0 = some [.int .i64 0, .bool false, .nilS, .int .i64 0, .int .i64 0, .nilS] := hget_mono (by simp [hget]) _
 have hK0n : hget (H ++ [Blk.cells 0 [.int .i64 0, .bool false, .nilS, .int .i64 0, .int .i64 0, .nilS]] ++ [Blk.cells 0 [.int .i64 1, .bool false, .nilS, .int .i64 0, .int .i64 0, .nilS]]) (H.length + 1) 0 = some [.int .i64 1, .bool false, .nilS, .int .i64 0, .int .i64 0, .nilS] := by
   rw [← hlZ [.int .i64 0, .bool false, .nilS, .int .i64 0, .int .i64 0, .nilS]]; simp [hget]
 have hcS : classS l at_ = ⟨.mk 1 (decide (pk l at_ = 94)) false (classGo l (l.length + 2) (if pk l at_ = 94 then at_ + 1 else at_) []).1 0 0 false [], (classGo l (l.length + 2) (if pk l at_ = 94 then at_ + 1 else at_) []).2.1, (classGo l (l.length + 2) (if pk l at_ = 94 then at_ + 1 else at_) []).2.2 && decide (0 < (classGo l (l.length + 2) (if pk l at_ = 94 then at_ + 1 else at_) []).1.length)⟩ := rfl
 rw [hcS]
 have hj0 : (if pk l at_ = 94 then at_ + 1 else at_) ≤ l.length := by
   split
   · rename_i h; have := pk_in (l := l) (i := at_) (by rw [h]; decide); omega
   · exact hat
 refine trim_slim rfl (by kernel_rfl) (by kernel_rfl) (by kernel_rfl) Tryz.func199 s199 (by simp [Tryz.f199]) fun fr hlen h => ?_
 simp only [Has, Nat.zero_add] at h
 obtain ⟨a0, -⟩ := h
 simp only [Tryz.f199] at hlen ⊢
 unfold g199
 simp only [w9, AV.cells, AV.leaf, reduceEqDiff, reduceLT, reduceAdd, reduceLeDiff, reduceCtorEq, reduceMul, reduceMod, u199, hlen, a0, n0, hpl1, hlZ]
 generalize H ++ [Blk.cells 0 [.int .i64 0, .bool false, .nilS, .int .i64 0, .int .i64 0, .nilS]] ++ [Blk.cells 0 [.int .i64 1, .bool false, .nilS, .int .i64 0, .int .i64 0, .nilS]] = K0 at *
 have n1 := take_ok l L hL hl at_ b 94 (by omega) prot K0 hp hK0k.get
 generalize hnt : decide (pk l at_ = 94) = nt at *
 generalize (if pk l at_ = 94 then at_ + 1 else at_) = i at *
 have hK1k := hK0k.put (hLb (i : Nat))
 have hK1z : hget (K0.set b (.cells 0 [L, .int .i64 (i : Nat)])) H.length 0 = some [.int .i64 0, .bool false, .nilS, .int .i64 0, .int .i64 0, .nilS] := by rw [hget_set_ne (by omega)]; exact hK0z
 have hK1n : hget (K0.set b (.cells 0 [L, .int .i64 (i : Nat)])) (H.length + 1) 0 = some [.int .i64 1, .bool false, .nilS, .int .i64 0, .int .i64 0, .nilS] := by rw [hget_set_ne (by omega)]; exact hK0n
 have hK1l : (K0.set b (.cells 0 [L, .int .i64 (i : Nat)])).length = H.length + 2 := by simp [hK0l]
 generalize K0.set b (.cells 0 [L, .int .i64 (i : Nat)]) = K1 at *
 have hput1 : hput prot K1 (H.length + 1) 0 1 [.bool nt] = some (K1.set (H.length + 1) (.cells 0 [.int .i64 1, .bool nt, .nilS, .int .i64 0, .int .i64 0, .nilS])) := by
   rw [hput_eq hK1n (by omega) (by simp) (by simp [AV.leaf])]; rfl
 have hK2k := hK1k.new (b' := H.length + 1) (by omega) (.cells 0 [.int .i64 1, .bool nt, .nilS, .int .i64 0, .int .i64 0, .nilS])
 have hK2z : hget (K1.set (H.length + 1) (.cells 0 [.int .i64 1, .bool nt, .nilS, .int .i64 0, .int .i64 0, .nilS])) H.length 0 = some [.int .i64 0, .bool false, .nilS, .int .i64 0, .int .i64 0, .nilS] := by rw [hget_set_ne (by omega)]; exact hK1z
 have hK2n : hget (K1.set (H.length + 1) (.cells 0 [.int .i64 1, .bool nt, .nilS, .int .i64 0, .int .i64 0, .nilS])) (H.length + 1) 0 = some [.int .i64 1, .bool nt, .nilS, .int .i64 0, .int .i64 0, .nilS] := by rw [hget_set_at (by omega)]
 have hK2l : (K1.set (H.length + 1) (.cells 0 [.int .i64 1, .bool nt, .nilS, .int .i64 0, .int .i64 0, .nilS])).length = H.length + 2 := by simp [hK1l]
 simp only [w9, AV.cells, AV.leaf, reduceEqDiff, reduceLT, reduceAdd, reduceLeDiff, reduceCtorEq, reduceMul, reduceMod, u199, hlen, a0, n1, hput1]
 generalize K1.set (H.length + 1) (.cells 0 [.int .i64 1, .bool nt, .nilS, .int .i64 0, .int .i64 0, .nilS]) = K2 at *
 refine loop_rule (fun m fr H' => ∃ (k j : Nat) (acc : List Sg) (v : AV), m = k ∧ j ≤ l.length ∧ l.length < j + k ∧ acc.length ≤ 4 * j ∧ fr.length = 82 ∧ fget fr 0 = .ptr b 0 0 ∧ fget fr 2 = .ptr H.length 0 0 ∧ fget fr 4 = .ptr (H.length + 1) 0 0
   ∧ H.length + 2 ≤ H'.length ∧ Kp H b [L, .int .i64 (j : Nat)] H' ∧ hget H' H.length 0 = some [.int .i64 0, .bool false, .nilS, .int .i64 0, .int .i64 0, .nilS] ∧ hget H' (H.length + 1) 0 = some [.int .i64 1, .bool nt, v, .int .i64 0, .int .i64 0, .nilS]
   ∧ Row encG 2 true (H.length + 2) H' v acc ∧ (v = .nilS ∨ acc ≠ []) ∧ classGo l (l.length + 2) i [] = classGo l k j acc) ?_ (l.length + 2) _ _ ⟨l.length + 2, i, [], .nilS, by
     refine ⟨rfl, hj0, by omega, by simp, ?_⟩
     simp [w9, AV.cells, AV.leaf, reduceEqDiff, reduceLT, reduceAdd, reduceLeDiff, reduceCtorEq, reduceMul, reduceMod, u199, hlen, a0, hK2l, hK2k, hK2z, hK2n, Row.nil]⟩
 clear hK2k hK2z hK2n hK2l K2 hput1 hK1k hK1z hK1n hK1l n1 hK0k hK0z hK0n hK0l a0 hlen fr
 rintro m fr H' ⟨k, j, acc, v, rfl, hjl, hjk, hal, hlen, a0, a2, a4, hH', kp, hz, hn, hrow, hne, hc⟩ ih
 obtain ⟨k, rfl⟩ : ∃ k', m = k' + 1 := ⟨m - 1, by omega⟩
 rw [hc]
 have n1 := take_ok l L hL hl j b 93 (by omega) prot H' hp kp.get
 have hbe : b < H'.length := by omega
 have hset : ∀ (c d : List AV), (H'.set b (.cells 0 c)).set b (.cells 0 d) = H'.set b (.cells 0 d) := fun c d => List.set_set ..
 have hgs : ∀ c, hget (H'.set b (.cells 0 c)) b 0 = some c := fun c => hget_set_at hbe
 have kps := fun x : Int => kp.put (hLb x)
 have hzs : ∀ c, hget (H'.set b (.cells 0 c)) H.length 0 = some [.int .i64 0, .bool false, .nilS, .int .i64 0, .int .i64 0, .nilS] := fun c => by rw [hget_set_ne (by omega)]; exact hz
 have hns : ∀ c, hget (H'.set b (.cells 0 c)) (H.length + 1) 0 = some [.int .i64 1, .bool nt, v, .int .i64 0, .int .i64 0, .nilS] := fun c => by rw [hget_set_ne (by omega)]; exact hn
 have hrs : ∀ c, Row encG 2 true (H.length + 2) (H'.set b (.cells 0 c)) v acc := fun c => hrow.setne (by omega) _
 have hvl : v.leaf = true := by rcases hrow with ⟨q, _⟩ | ⟨b, ver, q, _⟩ <;> rw [q] <;> rfl
 have hputZ : ∀ c, hput prot (H'.set b (.cells 0 c)) H.length 0 0 [.int .i64 1, .bool nt, v, .int .i64 0, .int .i64 0, .nilS] = some ((H'.set b (.cells 0 c)).set H.length (.cells 0 [.int .i64 1, .bool nt, v, .int .i64 0, .int .i64 0, .nilS])) := fun c => by
   rw [hput_eq (hzs c) (by omega) (by simp) (by simp only [List.all_cons, List.all_nil, hvl]; rfl)]; rfl
 have hgZ : ∀ c d, hget ((H'.set b (.cells 0 c)).set H.length (.cells 0 d)) H.length 0 = some d := fun c d => hget_set_at (by simp; omega)
 have step : ∀ (j' : Nat) (es : List Sg), 0 < es.length → acc.length + es.length ≤ 10000000 → ∃ o H3, aAppend Tryz.prog prot (H'.set b (.cells 0 [L, .int .i64 (j' : Nat)])) #[173, 173] v (.vs (es.map encG) true) = some (o, some H3) ∧
     hput prot H3 (H.length + 1) 0 2 [o] = some (H3.set (H.length + 1) (.cells 0 [.int .i64 1, .bool nt, o, .int .i64 0, .int .i64 0, .nilS])) ∧ (o.leaf = true ∧ o.cells = [o]) ∧ H.length + 2 ≤ (H3.set (H.length + 1) (.cells 0 [.int .i64 1, .bool nt, o, .int .i64 0, .int .i64 0, .nilS])).length ∧
     Kp H b [L, .int .i64 (j' : Nat)] (H3.set (H.length + 1) (.cells 0 [.int .i64 1, .bool nt, o, .int .i64 0, .int .i64 0, .nilS])) ∧ hget (H3.set (H.length + 1) (.cells 0 [.int .i64 1, .bool nt, o, .int .i64 0, .int .i64 0, .nilS])) H.length 0 = some [.int .i64 0, .bool false, .nilS, .int .i64 0, .int .i64 0, .nilS] ∧
     hget (H3.set (H.length + 1) (.cells 0 [.int .i64 1, .bool nt, o, .int .i64 0, .int .i64 0, .nilS])) (H.length + 1) 0 = some [.int .i64 1, .bool nt, o, .int .i64 0, .int .i64 0, .nilS] ∧
     Row encG 2 true (H.length + 2) (H3.set (H.length + 1) (.cells 0 [.int .i64 1, .bool nt, o, .int .i64 0, .int .i64 0, .nilS])) o (acc ++ es) ∧ (o = .nilS ∨ acc ++ es ≠ []) := fun j' es h0 hle => by
   obtain ⟨o, H3, happ, hrow3, hle3, hno, hk3, hold⟩ := (hrs [L, .int .i64 (j' : Nat)]).appK (prot := prot) (xt := 173) encG_T rowG hxtG (elem_vs encG_T es true) h0 (by simp [roomy]; omega) (by omega) (by simp; omega) (kps (j' : Nat)) (by omega)
   have hz3 := hold _ _ _ (by omega) (hzs [L, .int .i64 (j' : Nat)])
   have hn3 := hold _ _ _ (by omega) (hns [L, .int .i64 (j' : Nat)])
   have hol : o.leaf = true := by rcases hrow3 with ⟨q, _⟩ | ⟨b, ver, q, _⟩ <;> rw [q] <;> rfl
   have hle4 : H.length + 2 ≤ H3.length := by simp at hle3; omega
   have hol2 : o.cells = [o] := by rcases hrow3 with ⟨q, _⟩ | ⟨b, ver, q, _⟩ <;> rw [q] <;> rfl
   refine ⟨o, H3, happ, ?_, ⟨hol, hol2⟩, by simpa using hle4, hk3.new (by omega) _, by rw [hget_set_ne (by omega)]; exact hz3, hget_set_at (by omega), hrow3.setne (by omega) _, .inr (by intro h; have := congrArg List.length h; rw [List.length_append, List.length_nil] at this; omega)⟩
   rw [hput_eq hn3 (by omega) (by simp) (by simp only [List.all_cons, List.all_nil, hol]; rfl)]; rfl
 by_cases h1 : pk l j = 93
 · have e : classGo l (k + 1) j acc = (acc, j + 1, true) := by simp [classGo, h1]
   rw [e]
   simp only [h1, if_true, decide_true, Bool.true_and] at n1 ⊢
   have hlen2 := (hrs [L, .int .i64 ((j + 1 : Nat))]).len Tryz.underlying173
   have hnsZ : ∀ c d, hget ((H'.set b (.cells 0 c)).set H.length (.cells 0 d)) (H.length + 1) 0 = some [.int .i64 1, .bool nt, v, .int .i64 0, .int .i64 0, .nilS] := fun c d => by rw [hget_set_ne (by omega)]; exact hns c
   have hlenZ : ∀ c d, aLen Tryz.prog ((H'.set b (.cells 0 c)).set H.length (.cells 0 d)) 173 v = some (.int .i64 (acc.length : Nat)) := fun c d => ((hrs c).setne (b' := H.length) (by omega) _).len Tryz.underlying173
   have hlen2' : decide ((0 : Int) < (acc.length : Nat)) = decide (0 < acc.length) := by simp
   simp only [w9, AV.cells, AV.leaf, reduceEqDiff, reduceLT, reduceAdd, reduceLeDiff, reduceCtorEq, reduceMul, reduceMod, u199, hlen, a0, a2, a4, n1, hns, hlen2, hputZ, hlen2']
   refine ⟨?_, ?_⟩
   · rw [show befs [] _ = [0, 0, 2, 6, 14, 1, 63] from by kernel_rfl]
     simp [w9, AV.cells, AV.leaf, reduceEqDiff, reduceLT, reduceAdd, reduceLeDiff, reduceCtorEq, reduceMul, reduceMod, u199, hlen, drawOk, chained, mayAt, sameAt, bound, List.range_succ, Nat.testBit, a0, a2, a4, hns, hlen2, hputZ, hgZ, hnsZ, hlenZ, avbeq_refl]
   exact cls_end (kps _) (hrs _) hne (by simp [w9, AV.cells, AV.leaf, reduceEqDiff, reduceLT, reduceAdd, reduceLeDiff, reduceCtorEq, reduceMul, reduceMod, u199, hlen, a0, a2, a4, hgZ, aResults, aResult])
 have d1 : decide (pk l j = 93) = false := decide_eq_false h1
 simp only [h1, if_false, decide_false] at n1
 rw [set_self kp.get] at n1
 have n2 := peek_ok l L hL hl j b prot H' (by omega) kp.get
 have hput1 : hput prot H' b 0 1 [.int .i64 ((j + 1 : Nat))] = some (H'.set b (.cells 0 [L, .int .i64 ((j + 1 : Nat))])) := by
   rw [hput_eq kp.get hp (by simp) (by simp [AV.leaf])]; rfl
 have hww : IntKind.i64.wrap ((j : Int) + 1) = ((j + 1 : Nat) : Int) := by rw [wrap64 (by omega) (by omega)]; simp
 by_cases h2 : pk l j = 92
 · have hjl := pk_in (l := l) (i := j) (by rw [h2]; decide)
   have n3 := esc_ok l L hL hl (j + 1) b (by omega) prot _ hp (hgs [L, .int .i64 ((j + 1 : Nat))])
   rw [hset] at n3
   have h3 := escS_len (pk l (j + 1))
   cases hok : (escSX (pk l (j + 1))).2 with
   | false =>
     have e : classGo l (k + 1) j acc = (acc, j + 2, false) := by simp [classGo, h2, hok]
     rw [e]
     simp only [Bool.false_and]
     simp only [w9, AV.cells, AV.leaf, reduceEqDiff, reduceLT, reduceAdd, reduceLeDiff, reduceCtorEq, reduceMul, reduceMod, u199, hlen, a0, a2, a4, n1, n2, kp.get, hww, hput1, h2, n3, hok, hns, hputZ]
     exact cls_end (kps _) (hrs _) hne (by simp [w9, AV.cells, AV.leaf, reduceEqDiff, reduceLT, reduceAdd, reduceLeDiff, reduceCtorEq, reduceMul, reduceMod, u199, hlen, a0, a2, a4, hgZ, aResults, aResult])
   | true =>
     have e : classGo l (k + 1) j acc = classGo l k (j + 2) (acc ++ (escSX (pk l (j + 1))).1) := by simp [classGo, h2, hok]
     rw [← hc]; rw [e] at hc
     have hjl2 : j + 1 < l.length := pk_in (l := l) fun h => by rw [h] at hok; exact absurd hok (by decide)
     obtain ⟨o, H3, happ, hput3, ⟨hol, hol2⟩, hres⟩ := step (j + 2) (escSX (pk l (j + 1))).1 h3.1 (by omega)
     unfold AV.leaf at hol; unfold AV.cells at hol2
     simp only [w9, AV.cells, AV.leaf, reduceEqDiff, reduceLT, reduceAdd, reduceLeDiff, reduceCtorEq, reduceMul, reduceMod, u199, hlen, a0, a2, a4, n1, n2, kp.get, hww, hput1, h2, n3, hok, hns, happ, hol, hol2, hput3]
     refine ih _ _ k (by omega) ⟨k, j + 2, acc ++ (escSX (pk l (j + 1))).1, o, rfl, by omega, by omega, by rw [List.length_append]; omega, ?_⟩
     exact ⟨by simp [w9, AV.cells, AV.leaf, reduceEqDiff, reduceLT, reduceAdd, reduceLeDiff, reduceCtorEq, reduceMul, reduceMod, u199, hlen], by simp [w9, AV.cells, AV.leaf, reduceEqDiff, reduceLT, reduceAdd, reduceLeDiff, reduceCtorEq, reduceMul, reduceMod, u199, hlen, a0], by simp [w9, AV.cells, AV.leaf, reduceEqDiff, reduceLT, reduceAdd, reduceLeDiff, reduceCtorEq, reduceMul, reduceMod, u199, hlen, a2], by simp [w9, AV.cells, AV.leaf, reduceEqDiff, reduceLT, reduceAdd, reduceLeDiff, reduceCtorEq, reduceMul, reduceMod, u199, hlen, a4], hres.1, hres.2.1, hres.2.2.1, hres.2.2.2.1, hres.2.2.2.2.1, hres.2.2.2.2.2, hc⟩
 · have d2 : decide (pk l j = 92) = false := decide_eq_false h2
   have n3 := has_ok cls1 (pk l j) (by decide) prot (H'.set b (.cells 0 [L, .int .i64 ((j + 1 : Nat))])) (by simp; omega)
   by_cases h3 : pk l j = -1 ∨ hasS cls1 (pk l j) = true
   · have e : classGo l (k + 1) j acc = (acc, j + 1, false) := by
       rw [classGo, if_neg h1, if_neg h2, if_pos h3]
     rw [e]
     simp only [Bool.false_and]
     by_cases h4 : pk l j = -1
     · have d3 : decide (pk l j = -1) = true := decide_eq_true h4
       simp only [w9, AV.cells, AV.leaf, reduceEqDiff, reduceLT, reduceAdd, reduceLeDiff, reduceCtorEq, reduceMul, reduceMod, u199, hlen, a0, a2, a4, n1, n2, kp.get, hww, hput1, d2, d3, hns, hputZ, none_beq]
       exact cls_end (kps _) (hrs _) hne (by simp [w9, AV.cells, AV.leaf, reduceEqDiff, reduceLT, reduceAdd, reduceLeDiff, reduceCtorEq, reduceMul, reduceMod, u199, hlen, a0, a2, a4, hgZ, aResults, aResult])
     · have d3 : decide (pk l j = -1) = false := decide_eq_false h4
       have h5 : hasS cls1 (pk l j) = true := h3.resolve_left h4
       rw [h5] at n3
       unfold cls1 at n3
       simp only [w9, AV.cells, AV.leaf, reduceEqDiff, reduceLT, reduceAdd, reduceLeDiff, reduceCtorEq, reduceMul, reduceMod, u199, hlen, a0, a2, a4, n1, n2, kp.get, hww, hput1, d2, d3, n3, hns, hputZ, none_beq]
       exact cls_end (kps _) (hrs _) hne (by simp [w9, AV.cells, AV.leaf, reduceEqDiff, reduceLT, reduceAdd, reduceLeDiff, reduceCtorEq, reduceMul, reduceMod, u199, hlen, a0, a2, a4, hgZ, aResults, aResult])
   · have h4 : ¬ pk l j = -1 := fun h => h3 (.inl h)
     have d3 : decide (pk l j = -1) = false := decide_eq_false h4
     have h5 : hasS cls1 (pk l j) = false := Bool.eq_false_iff.2 fun h => h3 (.inr h)
     have hjl := pk_in h4
     rw [h5] at n3
     unfold cls1 at n3
     have n4 := take_ok l L hL hl (j + 1) b 45 (by omega) prot _ hp (hgs [L, .int .i64 ((j + 1 : Nat))])
     by_cases h6 : pk l (j + 1) = 45
     · have hjl1 := pk_in (l := l) (i := j + 1) (by rw [h6]; decide)
       simp only [h6, if_true, decide_true, hset] at n4
       have n5 := peek_ok l L hL hl (j + 2) b prot _ (by simp; omega) (hgs [L, .int .i64 ((j + 1 + 1 : Nat))])
       have hww2 : IntKind.i64.wrap (((j + 1 + 1 : Nat) : Int) + 1) = ((j + 3 : Nat) : Int) := by rw [wrap64 (by omega) (by omega)]; omega
       have hput2 : hput prot (H'.set b (.cells 0 [L, .int .i64 ((j + 1 + 1 : Nat))])) b 0 1 [.int .i64 ((j + 3 : Nat))] = some (H'.set b (.cells 0 [L, .int .i64 ((j + 3 : Nat))])) := by
         rw [hput_eq (hgs _) hp (by simp) (by simp [AV.leaf]), hset]; rfl
       have n6 := has_ok cls2 (pk l (j + 2)) (by decide) prot (H'.set b (.cells 0 [L, .int .i64 ((j + 3 : Nat))])) (by simp; omega)
       by_cases h7 : pk l (j + 2) < pk l j ∨ hasS cls2 (pk l (j + 2)) = true
       · have e : classGo l (k + 1) j acc = (acc, j + 3, false) := by
           rw [classGo, if_neg h1, if_neg h2, if_neg h3, if_pos h6, if_pos h7]
         rw [e]
         simp only [Bool.false_and]
         by_cases h8 : pk l (j + 2) < pk l j
         · have d8 : decide (pk l (j + 2) < pk l j) = true := decide_eq_true h8
           simp only [w9, AV.cells, AV.leaf, reduceEqDiff, reduceLT, reduceAdd, reduceLeDiff, reduceCtorEq, reduceMul, reduceMod, u199, hlen, a0, a2, a4, n1, n2, kp.get, hgs, hww, hput1, d2, d3, n3, n4, n5, hww2, hput2, d8, hns, hputZ, none_beq]
           exact cls_end (kps _) (hrs _) hne (by simp [w9, AV.cells, AV.leaf, reduceEqDiff, reduceLT, reduceAdd, reduceLeDiff, reduceCtorEq, reduceMul, reduceMod, u199, hlen, a0, a2, a4, hgZ, aResults, aResult])
         · have d8 : decide (pk l (j + 2) < pk l j) = false := decide_eq_false h8
           rw [h7.resolve_left h8] at n6
           unfold cls2 at n6
           simp only [w9, AV.cells, AV.leaf, reduceEqDiff, reduceLT, reduceAdd, reduceLeDiff, reduceCtorEq, reduceMul, reduceMod, u199, hlen, a0, a2, a4, n1, n2, kp.get, hgs, hww, hput1, d2, d3, n3, n4, n5, hww2, hput2, d8, n6, hns, hputZ, none_beq]
           exact cls_end (kps _) (hrs _) hne (by simp [w9, AV.cells, AV.leaf, reduceEqDiff, reduceLT, reduceAdd, reduceLeDiff, reduceCtorEq, reduceMul, reduceMod, u199, hlen, a0, a2, a4, hgZ, aResults, aResult])
       · have d8 : decide (pk l (j + 2) < pk l j) = false := decide_eq_false fun h => h7 (.inl h)
         have h9 : hasS cls2 (pk l (j + 2)) = false := Bool.eq_false_iff.2 fun h => h7 (.inr h)
         rw [h9] at n6
         unfold cls2 at n6
         have e : classGo l (k + 1) j acc = classGo l k (j + 3) (acc ++ [⟨pk l j, pk l (j + 2)⟩]) := by
           rw [classGo, if_neg h1, if_neg h2, if_neg h3, if_pos h6, if_neg h7]
         rw [← hc]; rw [e] at hc
         have hjl2 : j + 2 < l.length := pk_in (l := l) fun h => h7 (.inl (by rw [h]; have := pk_nn hl j; omega))
         obtain ⟨o, H3, happ, hput3, ⟨hol, hol2⟩, hres⟩ := step (j + 3) [⟨pk l j, pk l (j + 2)⟩] (by simp) (by simp; omega)
         unfold AV.leaf at hol; unfold AV.cells at hol2
         simp only [w9, AV.cells, AV.leaf, reduceEqDiff, reduceLT, reduceAdd, reduceLeDiff, reduceCtorEq, reduceMul, reduceMod, u199, hlen, a0, a2, a4, n1, n2, kp.get, hgs, hww, hput1, d2, d3, n3, n4, n5, hww2, hput2, d8, n6, hns, litG1, happ, hol, hol2, hput3, none_beq]
         refine ih _ _ k (by omega) ⟨k, j + 3, acc ++ [⟨pk l j, pk l (j + 2)⟩], o, rfl, by omega, by omega, by simp; omega, ?_⟩
         exact ⟨by simp [w9, AV.cells, AV.leaf, reduceEqDiff, reduceLT, reduceAdd, reduceLeDiff, reduceCtorEq, reduceMul, reduceMod, u199, hlen], by simp [w9, AV.cells, AV.leaf, reduceEqDiff, reduceLT, reduceAdd, reduceLeDiff, reduceCtorEq, reduceMul, reduceMod, u199, hlen, a0], by simp [w9, AV.cells, AV.leaf, reduceEqDiff, reduceLT, reduceAdd, reduceLeDiff, reduceCtorEq, reduceMul, reduceMod, u199, hlen, a2], by simp [w9, AV.cells, AV.leaf, reduceEqDiff, reduceLT, reduceAdd, reduceLeDiff, reduceCtorEq, reduceMul, reduceMod, u199, hlen, a4], hres.1, hres.2.1, hres.2.2.1, hres.2.2.2.1, hres.2.2.2.2.1, hres.2.2.2.2.2, hc⟩
     · have e : classGo l (k + 1) j acc = classGo l k (j + 1) (acc ++ [⟨pk l j, pk l j⟩]) := by
         rw [classGo, if_neg h1, if_neg h2, if_neg h3, if_neg h6]
       rw [← hc]; rw [e] at hc
       simp only [h6, if_false, decide_false, hset] at n4
       obtain ⟨o, H3, happ, hput3, ⟨hol, hol2⟩, hres⟩ := step (j + 1) [⟨pk l j, pk l j⟩] (by simp) (by simp; omega)
       unfold AV.leaf at hol; unfold AV.cells at hol2
       simp only [w9, AV.cells, AV.leaf, reduceEqDiff, reduceLT, reduceAdd, reduceLeDiff, reduceCtorEq, reduceMul, reduceMod, u199, hlen, a0, a2, a4, n1, n2, kp.get, hgs, hww, hput1, d2, d3, n3, n4, hns, litG1, happ, hol, hol2, hput3, none_beq]
       refine ih _ _ k (by omega) ⟨k, j + 1, acc ++ [⟨pk l j, pk l j⟩], o, rfl, by omega, by omega, by simp; omega, ?_⟩
       exact ⟨by simp [w9, AV.cells, AV.leaf, reduceEqDiff, reduceLT, reduceAdd, reduceLeDiff, reduceCtorEq, reduceMul, reduceMod, u199, hlen], by simp [w9, AV.cells, AV.leaf, reduceEqDiff, reduceLT, reduceAdd, reduceLeDiff, reduceCtorEq, reduceMul, reduceMod, u199, hlen, a0], by simp [w9, AV.cells, AV.leaf, reduceEqDiff, reduceLT, reduceAdd, reduceLeDiff, reduceCtorEq, reduceMul, reduceMod, u199, hlen, a2], by simp [w9, AV.cells, AV.leaf, reduceEqDiff, reduceLT, reduceAdd, reduceLeDiff, reduceCtorEq, reduceMul, reduceMod, u199, hlen, a4], hres.1, hres.2.1, hres.2.2.1, hres.2.2.2.1, hres.2.2.2.2.1, hres.2.2.2.2.2, hc⟩
end Go.Proofs.YtnipaiklandliaaGreatDoor
namespace Go.Proofs.YtnipaiklandliaaGreatDoor
open Go Go.Abs AbsSeat Ty
open Nat (reduceEqDiff reduceLT reduceAdd reduceLeDiff reduceMul reduceMod)
def ndZ : Nd := .mk 0 false false [] 0 0 false []
def ndR (x : Nd) (a b : Int) : Nd := .mk 4 false false [] a b true [x]
def conN : List Nd → Nd
 | [] => ndZ
 | [x] => x
 | l => .mk 2 false false [] 0 0 false l
def eitN : List Nd → Nd
 | [x] => x
 | l => .mk 3 false false [] 0 0 false l
def ats : List UInt8 := [124, 42, 43, 63, 41, 93, 123, 125]
mutual
def atomS (l : List Int) : Nat → Nat → Nat → Rd
 | 0, j, _ => ⟨ndZ, j, false⟩
 | k + 1, j, d =>
   if pk l j = 40 then
     if 16 ≤ d then ⟨ndZ, j + 1, false⟩
     else
       let r := eitherS l k (j + 1) (d + 1) []
       if r.ok = true then (if pk l r.at_ = 41 then ⟨r.n, r.at_ + 1, true⟩ else ⟨r.n, r.at_, false⟩) else ⟨r.n, r.at_, false⟩
   else if pk l j = 91 then classS l (j + 1)
   else if pk l j = 46 then ⟨.mk 1 true false [] 0 0 false [], j + 1, true⟩
   else if pk l j = 92 then ⟨.mk 1 false true (escSX (pk l (j + 1))).1 0 0 false [], j + 2, (escSX (pk l (j + 1))).2⟩
   else ⟨.mk 1 false true [⟨pk l j, pk l j⟩] 0 0 false [], j + 1, decide (pk l j ≠ -1) && !hasS ats (pk l j)⟩
def pieceS (l : List Int) : Nat → Nat → Nat → Rd
 | 0, j, _ => ⟨ndZ, j, false⟩
 | k + 1, j, d =>
   let r := atomS l k j d
   if r.ok = true then
     if pk l r.at_ = 43 then ⟨ndR r.n 1 (-1), r.at_ + 1, true⟩
     else if pk l r.at_ = 42 then ⟨ndR r.n 0 (-1), r.at_ + 1, true⟩
     else if pk l r.at_ = 63 then ⟨ndR r.n 0 1, r.at_ + 1, true⟩
     else if pk l r.at_ = 123 then ⟨ndR r.n (timesS l (r.at_ + 1)).lo (timesS l (r.at_ + 1)).hi, (timesS l (r.at_ + 1)).at_, (timesS l (r.at_ + 1)).ok⟩
     else r
   else r
def concatS (l : List Int) : Nat → Nat → Nat → List Nd → Rd
 | 0, j, _, _ => ⟨ndZ, j, false⟩
 | k + 1, j, d, acc =>
   if pk l j = -1 ∨ pk l j = 124 ∨ pk l j = 41 then ⟨conN acc, j, true⟩
   else
     let r := pieceS l k j d
     if r.ok = true then concatS l k r.at_ d (acc ++ [r.n]) else r
def eitherS (l : List Int) : Nat → Nat → Nat → List Nd → Rd
 | 0, j, _, _ => ⟨ndZ, j, false⟩
 | k + 1, j, d, acc =>
   let r := concatS l k j d []
   if r.ok = true then
     if pk l r.at_ = 124 then eitherS l k (r.at_ + 1) d (acc ++ [r.n]) else ⟨eitN (acc ++ [r.n]), r.at_, true⟩
   else r
end
theorem timesS_in {l : List Int} {i : Nat} (h : (timesS l i).ok = true) : i < (timesS l i).at_ ∧ (timesS l i).at_ ≤ l.length := by
 unfold timesS at h ⊢
 dsimp only at h ⊢
 split at h
 · rename_i h1
   rw [if_pos h1]
   split at h
   · rename_i h2
     rw [if_pos h2]
     split at h
     · rename_i h3
       rw [if_pos h3]
       have := pk_in (l := l) (i := i + numL l i + 1) (by rw [h3]; decide)
       dsimp only; omega
     · rename_i h3
       rw [if_neg h3]
       split at h
       · rename_i h4
         rw [if_pos h4]
         split at h
         · rename_i h5
           rw [if_pos h5]
           have := pk_in (l := l) (i := i + numL l i + 1 + numL l (i + numL l i + 1)) (by rw [h5]; decide)
           dsimp only; omega
         · cases h
       · cases h
   · rename_i h2
     rw [if_neg h2]
     split at h
     · rename_i h3
       rw [if_pos h3]
       have := pk_in (l := l) (i := i + numL l i) (by rw [h3]; decide)
       dsimp only; omega
     · cases h
 · cases h
theorem classGo_in {l : List Int} : ∀ (k j : Nat) (acc : List Sg), (classGo l k j acc).2.2 = true → j < (classGo l k j acc).2.1 ∧ (classGo l k j acc).2.1 ≤ l.length
 | 0, j, acc, h => by cases h
 | k + 1, j, acc, h => by
   rw [classGo] at h ⊢
   split at h
   · rename_i h1
     rw [if_pos h1]
     have := pk_in (l := l) (i := j) (by rw [h1]; decide)
     dsimp only; omega
   · rename_i h1
     rw [if_neg h1]
     split at h
     · rename_i h2
       rw [if_pos h2]
       split at h
       · rename_i h3
         rw [if_pos h3]
         have := classGo_in k _ _ h
         omega
       · cases h
     · rename_i h2
       rw [if_neg h2]
       split at h
       · cases h
       · rename_i h3
         rw [if_neg h3]
         split at h
         · rename_i h4
           rw [if_pos h4]
           split at h
           · cases h
           · rename_i h5
             rw [if_neg h5]
             have := classGo_in k _ _ h
             omega
         · rename_i h4
           rw [if_neg h4]
           have := classGo_in k _ _ h
           omega
theorem classS_in {l : List Int} {j : Nat} (h : (classS l j).ok = true) : j < (classS l j).at_ ∧ (classS l j).at_ ≤ l.length := by
 unfold classS at h ⊢
 dsimp only at h ⊢
 have hi : j ≤ if pk l j = 94 then j + 1 else j := by split <;> omega
 generalize (if pk l j = 94 then j + 1 else j) = i at *
 have := classGo_in (l := l) (l.length + 2) i [] (by revert h; cases (classGo l (l.length + 2) i []).2.2 <;> simp)
 omega
theorem readS_in (l : List Int) : ∀ k : Nat, (∀ j d, (atomS l k j d).ok = true → j < (atomS l k j d).at_ ∧ (atomS l k j d).at_ ≤ l.length) ∧ (∀ j d, (pieceS l k j d).ok = true → j < (pieceS l k j d).at_ ∧ (pieceS l k j d).at_ ≤ l.length) ∧
   (∀ j d acc, j ≤ l.length → (concatS l k j d acc).ok = true → j ≤ (concatS l k j d acc).at_ ∧ (concatS l k j d acc).at_ ≤ l.length) ∧ ∀ j d acc, j ≤ l.length → (eitherS l k j d acc).ok = true → j ≤ (eitherS l k j d acc).at_ ∧ (eitherS l k j d acc).at_ ≤ l.length
 | 0 => ⟨fun j d h => by simp [atomS] at h, fun j d h => by simp [pieceS] at h, fun j d acc _ h => by simp [concatS] at h, fun j d acc _ h => by simp [eitherS] at h⟩
 | k + 1 => by
   obtain ⟨ha, hp, hc, he⟩ := readS_in l k
   refine ⟨fun j d h => ?_, fun j d h => ?_, fun j d acc hj h => ?_, fun j d acc hj h => ?_⟩
   · rw [atomS] at h ⊢
     try dsimp only at h ⊢
     split at h
     · rename_i h1
       rw [if_pos h1]
       have hj := pk_in (l := l) (i := j) (by rw [h1]; decide)
       split at h
       · cases h
       · rename_i h2
         rw [if_neg h2]
         split at h
         · rename_i h3
           rw [if_pos h3]
           have := he (j + 1) (d + 1) [] (by omega) h3
           split at h
           · rename_i h4
             rw [if_pos h4]
             have := pk_in (l := l) (i := (eitherS l k (j + 1) (d + 1) []).at_) (by rw [h4]; decide)
             dsimp only; omega
           · cases h
         · cases h
     · rename_i h1
       rw [if_neg h1]
       split at h
       · rename_i h2
         rw [if_pos h2]
         have := classS_in h
         omega
       · rename_i h2
         rw [if_neg h2]
         split at h
         · rename_i h3
           rw [if_pos h3]
           have := pk_in (l := l) (i := j) (by rw [h3]; decide)
           dsimp only; omega
         · rename_i h3
           rw [if_neg h3]
           split at h
           · rename_i h4
             rw [if_pos h4]
             try dsimp only at h ⊢
             have : pk l (j + 1) ≠ -1 := fun q => by rw [q] at h; exact absurd h (by decide)
             have := pk_in this
             omega
           · rename_i h4
             rw [if_neg h4]
             try dsimp only at h ⊢
             simp only [Bool.and_eq_true, decide_eq_true_eq] at h
             have := pk_in h.1
             omega
   · rw [pieceS] at h ⊢
     try dsimp only at h ⊢
     split at h
     · rename_i h1
       rw [if_pos h1]
       have h0 := ha j d h1
       split at h
       · rename_i h2
         rw [if_pos h2]
         have := pk_in (l := l) (i := (atomS l k j d).at_) (by rw [h2]; decide)
         dsimp only; omega
       · rename_i h2
         rw [if_neg h2]
         split at h
         · rename_i h3
           rw [if_pos h3]
           have := pk_in (l := l) (i := (atomS l k j d).at_) (by rw [h3]; decide)
           dsimp only; omega
         · rename_i h3
           rw [if_neg h3]
           split at h
           · rename_i h4
             rw [if_pos h4]
             have := pk_in (l := l) (i := (atomS l k j d).at_) (by rw [h4]; decide)
             dsimp only; omega
           · rename_i h4
             rw [if_neg h4]
             split at h
             · rename_i h5
               rw [if_pos h5]
               have := timesS_in h
               dsimp only; omega
             · rename_i h5
               rw [if_neg h5]
               exact h0
     · rename_i h1
       exact absurd h h1
   · rw [concatS] at h ⊢
     try dsimp only at h ⊢
     split at h
     · rename_i h1
       rw [if_pos h1]
       exact ⟨Nat.le_refl _, hj⟩
     · rename_i h1
       rw [if_neg h1]
       split at h
       · rename_i h2
         rw [if_pos h2]
         have h0 := hp j d h2
         have := hc _ d _ h0.2 h
         omega
       · rename_i h2
         exact absurd h h2
   · rw [eitherS] at h ⊢
     try dsimp only at h ⊢
     split at h
     · rename_i h1
       rw [if_pos h1]
       have h0 := hc j d [] hj h1
       split at h
       · rename_i h2
         rw [if_pos h2]
         have := pk_in (l := l) (i := (concatS l k j d []).at_) (by rw [h2]; decide)
         have := he _ d _ (by omega) h
         omega
       · rename_i h2
         rw [if_neg h2]
         exact h0
     · rename_i h1
       exact absurd h h1
theorem encN_sh (x : Nd) : ∃ k no s a b t, encN x = .agg [.int .i64 k, .bool no, s, .int .i64 a, .int .i64 b, t] ∧ s.leaf = true ∧ t.leaf = true ∧ still s = true ∧ still t = true := by
 cases x
 exact ⟨_, _, _, _, _, _, encN_eq .., slF_leaf .., slF_leaf .., slF_still .., slF_still ..⟩
end Go.Proofs.YtnipaiklandliaaGreatDoor
namespace Go.Proofs.YtnipaiklandliaaGreatDoor
open Go Go.Abs AbsSeat Ty
open Nat (reduceEqDiff reduceLT reduceAdd reduceLeDiff reduceMul reduceMod)
def Rok (f need : Nat) (l : List Int) (k : Nat) (S : Nat → Nat → Rd) (far : Nat) : Prop := ∀ (L : AV), Sl encI L l → ∀ (at_ d b prot : Nat) (H : Heap), prot ≤ b → hget H b 0 = some [L, .int .i64 (at_ : Nat)] → at_ + far ≤ l.length → d ≤ 16 → 5 * (l.length - at_) + need ≤ k →
 aLim cfg prot f [.ptr b 0 0, .int .i64 (d : Nat)] H = some (.tup [encN (S at_ d).n, .bool (S at_ d).ok], some (H.set b (.cells 0 [L, .int .i64 ((S at_ d).at_ : Nat)])))
theorem nd_end {prot : Nat} {res : List ResultVar} {fr : List AV} {H K : Heap} {b : Nat} {L : AV} {j : Nat} {s t : AV} {X : Blk} {no ok : Bool} {k a c : Int} (kp : Kp H b [L, .int .i64 (j : Nat)] K) (hs : still s = true) (ht : still t = true)
   (h1 : aResults cfg.P fr (K.set H.length X) res = some [.agg [.int .i64 k, .bool no, s, .int .i64 a, .int .i64 c, t], .bool ok]) :
   Fin ⟨cfg, prot, res, .trim H⟩ fr (K.set H.length X) (.tup [.agg [.int .i64 k, .bool no, s, .int .i64 a, .int .i64 c, t], .bool ok], some (H.set b (.cells 0 [L, .int .i64 (j : Nat)]))) :=
 (kp.new (Nat.le_refl _) X).fin h1 (.tup (.cons (.agg (.cons (.still rfl) (.cons (.still rfl) (.cons (.still hs) (.cons (.still rfl) (.cons (.still rfl) (.cons (.still ht) .nil))))))) (.cons (.still rfl) .nil)))
theorem slF_ne {α : Type} (f : Bool) (enc : α → AV) {l : List α} (h : 0 < l.length) : slF f enc l = .vs (l.map enc) f := by
 cases l with
 | nil => simp at h
 | cons x r => rfl
theorem hput6 {prot z : Nat} {K : Heap} {cs : List AV} (hg : hget K z 0 = some cs) (hc : cs.length = 6) (hp : prot ≤ z) (k : Int) (n : Bool) (s : AV) (x y : Int) (t : AV) (h1 : s.leaf = true) (h2 : t.leaf = true) :
   hput prot K z 0 0 [.int .i64 k, .bool n, s, .int .i64 x, .int .i64 y, t] = some (K.set z (.cells 0 [.int .i64 k, .bool n, s, .int .i64 x, .int .i64 y, t])) := by
 rw [hput_eq hg hp (by simp [hc]) (by simp only [List.all_cons, List.all_nil, h1, h2]; rfl)]
 have : splice cs 0 [.int .i64 k, .bool n, s, .int .i64 x, .int .i64 y, t] = [.int .i64 k, .bool n, s, .int .i64 x, .int .i64 y, t] := by
   unfold splice; simp [hc]
 rw [this]
theorem atom_ok (l : List Int) (hl : Runes l) (k : Nat) (hE : Rok 152 4 l k (fun j d => eitherS l k j d []) 0) : Rok 193 1 l (k + 1) (atomS l (k + 1)) 1 := by
 intro L hL at_ d b prot H hp hg hat hd hk
 have hb := hget_lt hg
 have hll := hl.1
 have hlZ : ∀ Z, (H ++ [Blk.cells 0 Z]).length = H.length + 1 := fun Z => by simp
 have hLb : ∀ x : Int, AV.blwL H.length [L, .int .i64 x] = true := fun x => plL_blwL _ _ (slI_plain hL _)
 have kp0 : Kp H b [L, .int .i64 at_] (H ++ [Blk.cells 0 [.int .i64 0, .bool false, .nilS, .int .i64 0, .int .i64 0, .nilS]]) := (Kp.start hg).app _
 have hz0 : hget (H ++ [Blk.cells 0 [.int .i64 0, .bool false, .nilS, .int .i64 0, .int .i64 0, .nilS]]) H.length 0 = some [.int .i64 0, .bool false, .nilS, .int .i64 0, .int .i64 0, .nilS] := by simp [hget]
 have hK0l := hlZ [.int .i64 0, .bool false, .nilS, .int .i64 0, .int .i64 0, .nilS]
 have hww : IntKind.i64.wrap ((at_ : Int) + 1) = ((at_ + 1 : Nat) : Int) := by rw [wrap64 (by omega) (by omega)]; simp
 have hwd : IntKind.i64.wrap ((d : Int) + 1) = ((d + 1 : Nat) : Int) := by rw [wrap64 (by omega) (by omega)]; simp
 have n0 := fun (es : List Sg) (K : Heap) (hK : prot ≤ K.length) => one_ok (.vs (es.map encG) true) rfl rfl (fun _ _ => .still rfl) prot K hK rfl
 refine trim_slim rfl (by kernel_rfl) (by kernel_rfl) (by kernel_rfl) Tryz.func193 s193 (by simp [Tryz.f193]) fun fr hlen h => ?_
 simp only [Has, Nat.zero_add] at h
 obtain ⟨a0, a1, -⟩ := h
 simp only [Tryz.f193] at hlen ⊢
 unfold g193
 simp only [w9, AV.cells, AV.leaf, reduceEqDiff, reduceLT, reduceAdd, reduceLeDiff, reduceCtorEq, reduceMul, reduceMod, u199, hlen, a0, a1, hlZ]
 generalize H ++ [Blk.cells 0 [.int .i64 0, .bool false, .nilS, .int .i64 0, .int .i64 0, .nilS]] = K0 at *
 have hbe : b < K0.length := by omega
 have n1 := peek_ok l L hL hl at_ b prot K0 (by omega) kp0.get
 have hput1 : hput prot K0 b 0 1 [.int .i64 ((at_ + 1 : Nat))] = some (K0.set b (.cells 0 [L, .int .i64 ((at_ + 1 : Nat))])) := by
   rw [hput_eq kp0.get hp (by simp) (by simp [AV.leaf])]; rfl
 have hset : ∀ (c d : List AV), (K0.set b (.cells 0 c)).set b (.cells 0 d) = K0.set b (.cells 0 d) := fun c d => List.set_set ..
 have hgs : ∀ c, hget (K0.set b (.cells 0 c)) b 0 = some c := fun c => hget_set_at hbe
 have kps := fun x : Int => kp0.put (hLb x)
 have hzs : ∀ c, hget (K0.set b (.cells 0 c)) H.length 0 = some [.int .i64 0, .bool false, .nilS, .int .i64 0, .int .i64 0, .nilS] := fun c => by rw [hget_set_ne (by omega)]; exact hz0
 have hputZ : ∀ c k n s x y t, s.leaf = true → t.leaf = true → hput prot (K0.set b (.cells 0 c)) H.length 0 0 [.int .i64 k, .bool n, s, .int .i64 x, .int .i64 y, t] = some ((K0.set b (.cells 0 c)).set H.length (.cells 0 [.int .i64 k, .bool n, s, .int .i64 x, .int .i64 y, t])) := fun c k n s x y t h1 h2 => by
   exact hput6 (hzs c) rfl (by omega) k n s x y t h1 h2
 have hgZ : ∀ c d, hget ((K0.set b (.cells 0 c)).set H.length (.cells 0 d)) H.length 0 = some d := fun c d => hget_set_at (by simp; omega)
 have hlK : ∀ c, prot ≤ (K0.set b (.cells 0 c)).length := fun c => by simp; omega
 unfold atomS
 by_cases h1 : pk l at_ = 40
 · simp only [h1, if_true]
   by_cases h2 : 16 ≤ d
   · simp only [h2, if_true]
     have d1 : decide (16 ≤ (d : Int)) = true := decide_eq_true (by omega)
     have hp1 := hputZ [L, .int .i64 ((at_ + 1 : Nat))] 0 false .nilS 0 0 .nilS rfl rfl
     simp only [w9, AV.cells, AV.leaf, reduceEqDiff, reduceLT, reduceAdd, reduceLeDiff, reduceCtorEq, reduceMul, reduceMod, u199, hlen, a0, a1, n1, h1, kp0.get, hww, hput1, d1, hp1]
     exact nd_end (s := .nilS) (t := .nilS) (kps _) rfl rfl (by simp [w9, AV.cells, AV.leaf, reduceEqDiff, reduceLT, reduceAdd, reduceLeDiff, reduceCtorEq, reduceMul, reduceMod, u199, hlen, a0, a1, hgZ, aResults, aResult])
   · simp only [h2, if_false]
     have d1 : decide (16 ≤ (d : Int)) = false := decide_eq_false (by omega)
     have n2 := hE L hL (at_ + 1) (d + 1) b prot _ hp (hgs [L, .int .i64 ((at_ + 1 : Nat))]) (by omega) (by omega) (by omega)
     rw [hset] at n2
     dsimp only at n2
     generalize hr : eitherS l k (at_ + 1) (d + 1) [] = r at *
     obtain ⟨x, j, ok⟩ := r
     obtain ⟨k', no, s, x1, x2, t, hx, hs, ht, hs2, ht2⟩ := encN_sh x
     dsimp only at n2 ⊢
     rw [hx] at n2
     have hs' := hs
     have ht' := ht
     unfold AV.leaf at hs ht
     have hls : ∀ c, (K0.set b (.cells 0 c)).length = H.length + 1 := fun c => by simp [hK0l]
     have hpl1 : prot ≤ H.length + 1 := by omega
     have kp2 := (kps (j : Nat)).app [Blk.cells 0 [.int .i64 k', .bool no, s, .int .i64 x1, .int .i64 x2, t]]
     have hz2 := hget_mono (hzs [L, .int .i64 (j : Nat)]) [Blk.cells 0 [.int .i64 k', .bool no, s, .int .i64 x1, .int .i64 x2, t]]
     have hn2 : hget (K0.set b (.cells 0 [L, .int .i64 (j : Nat)]) ++ [Blk.cells 0 [.int .i64 k', .bool no, s, .int .i64 x1, .int .i64 x2, t]]) (H.length + 1) 0 = some [.int .i64 k', .bool no, s, .int .i64 x1, .int .i64 x2, t] := by
       rw [hget_new (hls _).symm, if_pos rfl]
     have hl2 : (K0.set b (.cells 0 [L, .int .i64 (j : Nat)]) ++ [Blk.cells 0 [.int .i64 k', .bool no, s, .int .i64 x1, .int .i64 x2, t]]).length = H.length + 2 := by simp [hK0l]
     simp only [w9, AV.cells, AV.leaf, reduceEqDiff, reduceLT, reduceAdd, reduceLeDiff, reduceCtorEq, reduceMul, reduceMod, u199, hlen, a0, a1, n1, h1, kp0.get, hww, hput1, d1, hwd, n2, hs, ht, hls, hpl1]
     generalize K0.set b (.cells 0 [L, .int .i64 (j : Nat)]) ++ [Blk.cells 0 [.int .i64 k', .bool no, s, .int .i64 x1, .int .i64 x2, t]] = K2 at *
     have hns : ∀ c, hget (K2.set b (.cells 0 c)) (H.length + 1) 0 = some [.int .i64 k', .bool no, s, .int .i64 x1, .int .i64 x2, t] := fun c => by rw [hget_set_ne (by omega)]; exact hn2
     have hnsZ : ∀ d, hget (K2.set H.length (.cells 0 d)) (H.length + 1) 0 = some [.int .i64 k', .bool no, s, .int .i64 x1, .int .i64 x2, t] := fun d => by rw [hget_set_ne (by omega)]; exact hn2
     have hnsZ2 : ∀ c d, hget ((K2.set b (.cells 0 c)).set H.length (.cells 0 d)) (H.length + 1) 0 = some [.int .i64 k', .bool no, s, .int .i64 x1, .int .i64 x2, t] := fun c d => by rw [hget_set_ne (by omega)]; exact hns c
     have hzs2 : ∀ c, hget (K2.set b (.cells 0 c)) H.length 0 = some [.int .i64 0, .bool false, .nilS, .int .i64 0, .int .i64 0, .nilS] := fun c => by rw [hget_set_ne (by omega)]; exact hz2
     have hp0 := hput6 hz2 rfl (by omega : prot ≤ H.length) k' no s x1 x2 t hs' ht'
     have hp1 := fun c => hput6 (hzs2 c) rfl (by omega : prot ≤ H.length) k' no s x1 x2 t hs' ht'
     have hgZ2 : ∀ d, hget (K2.set H.length (.cells 0 d)) H.length 0 = some d := fun d => hget_set_at (by omega)
     have hgZ3 : ∀ c d, hget ((K2.set b (.cells 0 c)).set H.length (.cells 0 d)) H.length 0 = some d := fun c d => hget_set_at (by simp; omega)
     cases ok with
     | false =>
       simp only [Bool.false_eq_true, if_false, hx]
       simp only [w9, AV.cells, AV.leaf, reduceEqDiff, reduceLT, reduceAdd, reduceLeDiff, reduceCtorEq, reduceMul, reduceMod, u199, hlen, a0, a1, hn2, hp0, hs, ht]
       refine ⟨?_, ?_⟩
       · rw [show befs [] _ = [0, 0, 2, 6, 14, 30, 31, 127] from by kernel_rfl]
         simp [w9, AV.cells, AV.leaf, reduceEqDiff, reduceLT, reduceAdd, reduceLeDiff, reduceCtorEq, reduceMul, reduceMod, u199, hlen, drawOk, chained, mayAt, sameAt, bound, List.range_succ, Nat.testBit, a0, a1, hn2, hp0, hnsZ, hs, ht, avbeq_refl]
       exact nd_end kp2 hs2 ht2 (by simp [w9, AV.cells, AV.leaf, reduceEqDiff, reduceLT, reduceAdd, reduceLeDiff, reduceCtorEq, reduceMul, reduceMod, u199, hlen, a0, a1, hgZ2, aResults, aResult])
     | true =>
       have hj := (readS_in l k).2.2.2 (at_ + 1) (d + 1) [] (by omega) (by rw [hr])
       rw [hr] at hj
       dsimp only at hj
       have n3 := take_ok l L hL hl j b 41 (by omega) prot K2 hp kp2.get
       simp only [if_true]
       by_cases h3 : pk l j = 41
       · simp only [h3, if_true, decide_true, hx] at n3 ⊢
         simp only [w9, AV.cells, AV.leaf, reduceEqDiff, reduceLT, reduceAdd, reduceLeDiff, reduceCtorEq, reduceMul, reduceMod, u199, hlen, a0, a1, hn2, n3, hp1, hs, ht]
         refine ⟨?_, ?_⟩
         · rw [show befs [] _ = [0, 0, 2, 6, 14, 30, 31, 127] from by kernel_rfl]
           simp [w9, AV.cells, AV.leaf, reduceEqDiff, reduceLT, reduceAdd, reduceLeDiff, reduceCtorEq, reduceMul, reduceMod, u199, hlen, drawOk, chained, mayAt, sameAt, bound, List.range_succ, Nat.testBit, a0, a1, hn2, hns, hnsZ, hnsZ2, hp1, hs, ht, avbeq_refl]
         exact nd_end (kp2.put (hLb _)) hs2 ht2 (by simp [w9, AV.cells, AV.leaf, reduceEqDiff, reduceLT, reduceAdd, reduceLeDiff, reduceCtorEq, reduceMul, reduceMod, u199, hlen, a0, a1, hgZ3, aResults, aResult])
       · simp only [h3, if_false, decide_false, hx] at n3 ⊢
         simp only [w9, AV.cells, AV.leaf, reduceEqDiff, reduceLT, reduceAdd, reduceLeDiff, reduceCtorEq, reduceMul, reduceMod, u199, hlen, a0, a1, hn2, n3, hp1, hs, ht]
         refine ⟨?_, ?_⟩
         · rw [show befs [] _ = [0, 0, 2, 6, 14, 30, 31, 127] from by kernel_rfl]
           simp [w9, AV.cells, AV.leaf, reduceEqDiff, reduceLT, reduceAdd, reduceLeDiff, reduceCtorEq, reduceMul, reduceMod, u199, hlen, drawOk, chained, mayAt, sameAt, bound, List.range_succ, Nat.testBit, a0, a1, hn2, hns, hnsZ, hnsZ2, hp1, hs, ht, avbeq_refl]
         exact nd_end (kp2.put (hLb _)) hs2 ht2 (by simp [w9, AV.cells, AV.leaf, reduceEqDiff, reduceLT, reduceAdd, reduceLeDiff, reduceCtorEq, reduceMul, reduceMod, u199, hlen, a0, a1, hgZ3, aResults, aResult])
 have c1 : decide (pk l at_ = 40) = false := decide_eq_false h1
 simp only [h1, if_false]
 by_cases h2 : pk l at_ = 91
 · have hj := pk_in (l := l) (i := at_) (by rw [h2]; decide)
   simp only [h2, if_true]
   have n2 := class_ok l L hL hl (at_ + 1) b (by omega) prot _ hp (hgs [L, .int .i64 ((at_ + 1 : Nat))])
   rw [hset] at n2
   generalize hr : classS l (at_ + 1) = r at *
   obtain ⟨x, j, ok⟩ := r
   obtain ⟨k', no, s, x1, x2, t, hx, hs, ht, hs2, ht2⟩ := encN_sh x
   dsimp only at n2 ⊢
   rw [hx] at n2 ⊢
   have hp1 := hputZ [L, .int .i64 (j : Nat)] k' no s x1 x2 t hs ht
   have d1 : decide ((91 : Int) = 40) = false := by decide
   unfold AV.leaf at hs ht
   simp only [w9, AV.cells, AV.leaf, reduceEqDiff, reduceLT, reduceAdd, reduceLeDiff, reduceCtorEq, reduceMul, reduceMod, u199, hlen, a0, a1, n1, h2, d1, kp0.get, hww, hput1, n2, hs, ht, hp1]
   exact nd_end (kps _) hs2 ht2 (by simp [w9, AV.cells, AV.leaf, reduceEqDiff, reduceLT, reduceAdd, reduceLeDiff, reduceCtorEq, reduceMul, reduceMod, u199, hlen, a0, a1, hgZ, aResults, aResult])
 have c2 : decide (pk l at_ = 91) = false := decide_eq_false h2
 simp only [h2, if_false]
 by_cases h3 : pk l at_ = 46
 · simp only [h3, if_true]
   have d1 : decide ((46 : Int) = 40) = false := by decide
   have d2 : decide ((46 : Int) = 91) = false := by decide
   have hp1 := hputZ [L, .int .i64 ((at_ + 1 : Nat))] 1 true .nilS 0 0 .nilS rfl rfl
   simp only [w9, AV.cells, AV.leaf, reduceEqDiff, reduceLT, reduceAdd, reduceLeDiff, reduceCtorEq, reduceMul, reduceMod, u199, hlen, a0, a1, n1, h3, d1, d2, kp0.get, hww, hput1, hp1]
   exact nd_end (s := .nilS) (t := .nilS) (kps _) rfl rfl (by simp [w9, AV.cells, AV.leaf, reduceEqDiff, reduceLT, reduceAdd, reduceLeDiff, reduceCtorEq, reduceMul, reduceMod, u199, hlen, a0, a1, hgZ, aResults, aResult])
 have c3 : decide (pk l at_ = 46) = false := decide_eq_false h3
 simp only [h3, if_false]
 by_cases h4 : pk l at_ = 92
 · simp only [h4, if_true]
   have d1 : decide ((92 : Int) = 40) = false := by decide
   have d2 : decide ((92 : Int) = 91) = false := by decide
   have d3 : decide ((92 : Int) = 46) = false := by decide
   have n2 := esc_ok l L hL hl (at_ + 1) b (by omega) prot _ hp (hgs [L, .int .i64 ((at_ + 1 : Nat))])
   rw [hset] at n2
   have he := escS_len (pk l (at_ + 1))
   rw [encN_eq, slF_ne true encG he.1]
   generalize hes : escSX (pk l (at_ + 1)) = q at *
   obtain ⟨es, ok⟩ := q
   dsimp only at n2 he ⊢
   have n3 := n0 es (K0.set b (.cells 0 [L, .int .i64 ((at_ + 1 + 1 : Nat))])) (hlK _)
   have hp1 := hputZ [L, .int .i64 ((at_ + 1 + 1 : Nat))] 1 false (.vs (es.map encG) true) 0 0 .nilS rfl rfl
   simp only [w9, AV.cells, AV.leaf, reduceEqDiff, reduceLT, reduceAdd, reduceLeDiff, reduceCtorEq, reduceMul, reduceMod, u199, hlen, a0, a1, n1, h4, d1, d2, d3, kp0.get, hww, hput1, n2, n3, hp1]
   exact nd_end (s := .vs (es.map encG) true) (t := .nilS) (kps _) rfl rfl (by simp [w9, AV.cells, AV.leaf, reduceEqDiff, reduceLT, reduceAdd, reduceLeDiff, reduceCtorEq, reduceMul, reduceMod, u199, hlen, a0, a1, hgZ, aResults, aResult])
 have c4 : decide (pk l at_ = 92) = false := decide_eq_false h4
 simp only [h4, if_false]
 have n3 := n0 [⟨pk l at_, pk l at_⟩] (K0.set b (.cells 0 [L, .int .i64 ((at_ + 1 : Nat))])) (hlK _)
 have n4 := has_ok ats (pk l at_) (by decide) prot (K0.set b (.cells 0 [L, .int .i64 ((at_ + 1 : Nat))])) (hlK _)
 unfold ats at n4
 have hp1 := hputZ [L, .int .i64 ((at_ + 1 : Nat))] 1 false (.vs ([(⟨pk l at_, pk l at_⟩ : Sg)].map encG) true) 0 0 .nilS rfl rfl
 rw [encN_eq, slF_ne true encG (by simp)]
 have h5 : pk l at_ ≠ -1 := fun h => by have := pk_lt (l := l) (i := at_) (by omega); rw [this] at h; have := hl.2 _ (List.getElem_mem (l := l) (n := at_) (by omega)); omega
 have c5 : decide (¬ pk l at_ = -1) = true := decide_eq_true h5
 have c6 : decide (pk l at_ ≠ -1) = true := decide_eq_true h5
 rw [c6, Bool.true_and]
 simp only [w9, AV.cells, AV.leaf, reduceEqDiff, reduceLT, reduceAdd, reduceLeDiff, reduceCtorEq, reduceMul, reduceMod, u199, hlen, a0, a1, n1, c1, c2, c3, c4, c5, kp0.get, hww, hput1, litG1, n3, n4, hp1, none_beq]
 exact nd_end (s := .vs ([(⟨pk l at_, pk l at_⟩ : Sg)].map encG) true) (t := .nilS) (kps _) rfl rfl (by simp [w9, AV.cells, AV.leaf, reduceEqDiff, reduceLT, reduceAdd, reduceLeDiff, reduceCtorEq, reduceMul, reduceMod, u199, hlen, a0, a1, hgZ, aResults, aResult, ats])
theorem litNX (k : Int) (n : Bool) (s : AV) (x y : Int) (t : AV) (h1 : s.leaf = true) (h2 : t.leaf = true) (K : Heap) : aBuildSlice Tryz.prog K 174 1 [(0, .agg [.int .i64 k, .bool n, s, .int .i64 x, .int .i64 y, t])] =
   some (.bs ⟨K.length, 0, 0, 1, 1, 6, true, true⟩, some (K ++ [Blk.cells 0 [.int .i64 k, .bool n, s, .int .i64 x, .int .i64 y, t]])) := by
 have e : ([.int .i64 k, .bool n, s, .int .i64 x, .int .i64 y, t] : List AV).all AV.leaf = true := by simp only [List.all_cons, List.all_nil, h1, h2]; rfl
 have e2 : fillA (fun i => some (i * 6, 6)) (zrep 1 [.int .i64 0, .bool false, .nilS, .int .i64 0, .int .i64 0, .nilS]) [(0, .agg [.int .i64 k, .bool n, s, .int .i64 x, .int .i64 y, t])] = some [.int .i64 k, .bool n, s, .int .i64 x, .int .i64 y, t] := rfl
 unfold aBuildSlice
 rw [rowN.elem, Option.bind_some, rowN.size, Option.bind_some, rowN.agg, Option.bind_some, ze176, Option.bind_some]
 rw [if_pos ⟨by decide, rfl, by decide⟩]
 simp only [AV.cells]
 rw [e2, Option.bind_some, if_pos e, if_neg (by decide)]
theorem rep_end {prot : Nat} {res : List ResultVar} {fr : List AV} {H K : Heap} {b : Nat} {L : AV} {j z : Nat} {s t : AV} {X : Blk} {no no' ok : Bool} {k k' a c a' c' : Int} (kp : Kp H b [L, .int .i64 (j : Nat)] K) (hs : still s = true) (ht : still t = true)
   (hz : H.length < z) (hg : hget K z 0 = some [.int .i64 k, .bool no, s, .int .i64 a, .int .i64 c, t])
   (h1 : aResults cfg.P fr (K.set H.length X) res = some [.agg [.int .i64 k', .bool no', .nilS, .int .i64 a', .int .i64 c', .bs ⟨z, 0, 0, 1, 1, 6, true, true⟩], .bool ok]) :
   Fin ⟨cfg, prot, res, .trim H⟩ fr (K.set H.length X) (.tup [.agg [.int .i64 k', .bool no', .nilS, .int .i64 a', .int .i64 c', .vs [.agg [.int .i64 k, .bool no, s, .int .i64 a, .int .i64 c, t]] true], .bool ok], some (H.set b (.cells 0 [L, .int .i64 (j : Nat)]))) := by
 have hg' : hget (K.set H.length X) z 0 = some [.int .i64 k, .bool no, s, .int .i64 a, .int .i64 c, t] := by rw [hget_set_ne (by omega)]; exact hg
 have hf : Frz (K.set H.length X) H.length (.bs ⟨z, 0, 0, 1, 1, 6, true, true⟩) (.vs [.agg [.int .i64 k, .bool no, s, .int .i64 a, .int .i64 c, t]] true) :=
   Frz.bs (s := ⟨z, 0, 0, 1, 1, 6, true, true⟩) (by simp; omega) (Nat.succ_pos 5) rfl hg' (w := [.int .i64 k, .bool no, s, .int .i64 a, .int .i64 c, t]) rfl (x := [.int .i64 k, .bool no, s, .int .i64 a, .int .i64 c, t]) (.cons (.still rfl) (.cons (.still rfl) (.cons (.still hs) (.cons (.still rfl) (.cons (.still rfl) (.cons (.still ht) .nil))))))
 exact (kp.new (Nat.le_refl _) X).fin h1 (.tup (.cons (.agg (.cons (.still rfl) (.cons (.still rfl) (.cons (.still rfl) (.cons (.still rfl) (.cons (.still rfl) (.cons hf .nil))))))) (.cons (.still rfl) .nil)))
theorem piece_ok (l : List Int) (hl : Runes l) (k : Nat) (hA : Rok 193 1 l k (atomS l k) 1) : Rok 186 2 l (k + 1) (pieceS l (k + 1)) 1 := by
 intro L hL at_ d b prot H hp hg hat hd hk
 have hb := hget_lt hg
 have hll := hl.1
 have hlZ : ∀ Z, (H ++ [Blk.cells 0 Z]).length = H.length + 1 := fun Z => by simp
 have hLb : ∀ x : Int, AV.blwL H.length [L, .int .i64 x] = true := fun x => plL_blwL _ _ (slI_plain hL _)
 have kp0 : Kp H b [L, .int .i64 at_] (H ++ [Blk.cells 0 [.int .i64 0, .bool false, .nilS, .int .i64 0, .int .i64 0, .nilS]]) := (Kp.start hg).app _
 have hz0 : hget (H ++ [Blk.cells 0 [.int .i64 0, .bool false, .nilS, .int .i64 0, .int .i64 0, .nilS]]) H.length 0 = some [.int .i64 0, .bool false, .nilS, .int .i64 0, .int .i64 0, .nilS] := by simp [hget]
 have hK0l := hlZ [.int .i64 0, .bool false, .nilS, .int .i64 0, .int .i64 0, .nilS]
 refine trim_slim rfl (by kernel_rfl) (by kernel_rfl) (by kernel_rfl) Tryz.func186 s186 (by simp [Tryz.f186]) fun fr hlen h => ?_
 simp only [Has, Nat.zero_add] at h
 obtain ⟨a0, a1, -⟩ := h
 simp only [Tryz.f186] at hlen ⊢
 unfold g186
 simp only [w9, AV.cells, AV.leaf, reduceEqDiff, reduceLT, reduceAdd, reduceLeDiff, reduceCtorEq, reduceMul, reduceMod, u199, hlen, a0, a1, hlZ]
 generalize H ++ [Blk.cells 0 [.int .i64 0, .bool false, .nilS, .int .i64 0, .int .i64 0, .nilS]] = K0 at *
 have n1 := hA L hL at_ d b prot K0 hp kp0.get hat hd (by omega)
 rw [pieceS]
 have hin := (readS_in l k).1 at_ d
 generalize hr : atomS l k at_ d = r at *
 obtain ⟨x, j, ok⟩ := r
 obtain ⟨k', no, s, x1, x2, t, hx, hs, ht, hs2, ht2⟩ := encN_sh x
 dsimp only at n1 hin ⊢
 rw [hx] at n1
 have hs' := hs
 have ht' := ht
 unfold AV.leaf at hs ht
 have hls : ∀ c, (K0.set b (.cells 0 c)).length = H.length + 1 := fun c => by simp [hK0l]
 have hpl1 : prot ≤ H.length + 1 := by omega
 have kp2 := (kp0.put (hLb (j : Nat))).app [Blk.cells 0 [.int .i64 k', .bool no, s, .int .i64 x1, .int .i64 x2, t]]
 have hz1 : hget (K0.set b (.cells 0 [L, .int .i64 (j : Nat)])) H.length 0 = some [.int .i64 0, .bool false, .nilS, .int .i64 0, .int .i64 0, .nilS] := by rw [hget_set_ne (by omega)]; exact hz0
 have hz2 := hget_mono hz1 [Blk.cells 0 [.int .i64 k', .bool no, s, .int .i64 x1, .int .i64 x2, t]]
 have hn2 : hget (K0.set b (.cells 0 [L, .int .i64 (j : Nat)]) ++ [Blk.cells 0 [.int .i64 k', .bool no, s, .int .i64 x1, .int .i64 x2, t]]) (H.length + 1) 0 = some [.int .i64 k', .bool no, s, .int .i64 x1, .int .i64 x2, t] := by
   rw [hget_new (hls _).symm, if_pos rfl]
 have hl2 : (K0.set b (.cells 0 [L, .int .i64 (j : Nat)]) ++ [Blk.cells 0 [.int .i64 k', .bool no, s, .int .i64 x1, .int .i64 x2, t]]).length = H.length + 2 := by simp [hK0l]
 simp only [w9, AV.cells, AV.leaf, reduceEqDiff, reduceLT, reduceAdd, reduceLeDiff, reduceCtorEq, reduceMul, reduceMod, u199, hlen, a0, a1, n1, hs, ht, hls, hpl1]
 generalize K0.set b (.cells 0 [L, .int .i64 (j : Nat)]) ++ [Blk.cells 0 [.int .i64 k', .bool no, s, .int .i64 x1, .int .i64 x2, t]] = K2 at *
 have hp0 := hput6 hz2 rfl (by omega : prot ≤ H.length) k' no s x1 x2 t hs' ht'
 have hgZ2 : ∀ d, hget (K2.set H.length (.cells 0 d)) H.length 0 = some d := fun d => hget_set_at (by omega)
 cases ok with
 | false =>
   simp only [Bool.false_eq_true, if_false, hx]
   simp only [w9, AV.cells, AV.leaf, reduceEqDiff, reduceLT, reduceAdd, reduceLeDiff, reduceCtorEq, reduceMul, reduceMod, u199, hlen, a0, a1, hn2, hp0, hs, ht]
   exact nd_end kp2 hs2 ht2 (by simp [w9, AV.cells, AV.leaf, reduceEqDiff, reduceLT, reduceAdd, reduceLeDiff, reduceCtorEq, reduceMul, reduceMod, u199, hlen, a0, a1, hgZ2, aResults, aResult])
 | true =>
   have hin := hin rfl
   have n2 := peek_ok l L hL hl j b prot K2 (by omega) kp2.get
   have hww : IntKind.i64.wrap ((j : Int) + 1) = ((j + 1 : Nat) : Int) := by rw [wrap64 (by omega) (by omega)]; simp
   have hput1 : hput prot K2 b 0 1 [.int .i64 ((j + 1 : Nat))] = some (K2.set b (.cells 0 [L, .int .i64 ((j + 1 : Nat))])) := by
     rw [hput_eq kp2.get hp (by simp) (by simp [AV.leaf])]; rfl
   have hset : ∀ (c d : List AV), (K2.set b (.cells 0 c)).set b (.cells 0 d) = K2.set b (.cells 0 d) := fun c d => List.set_set ..
   have hgs : ∀ c, hget (K2.set b (.cells 0 c)) b 0 = some c := fun c => hget_set_at (by omega)
   have kps := fun x : Int => kp2.put (hLb x)
   have hns : ∀ c, hget (K2.set b (.cells 0 c)) (H.length + 1) 0 = some [.int .i64 k', .bool no, s, .int .i64 x1, .int .i64 x2, t] := fun c => by rw [hget_set_ne (by omega)]; exact hn2
   have hl3 : ∀ c, (K2.set b (.cells 0 c)).length = H.length + 2 := fun c => by simp [hl2]
   have hzs : ∀ c x, hget (K2.set b (.cells 0 c) ++ [x]) H.length 0 = some [.int .i64 0, .bool false, .nilS, .int .i64 0, .int .i64 0, .nilS] := fun c x => hget_mono (by rw [hget_set_ne (by omega)]; exact hz2) _
   have hlit := litNX k' no s x1 x2 t hs' ht'
   have hp1 := fun c x a' c' B => hput6 (hzs c x) rfl (by omega : prot ≤ H.length) 4 false .nilS a' c' (.bs B) rfl rfl
   have hgZ3 : ∀ c x d, hget ((K2.set b (.cells 0 c) ++ [x]).set H.length (.cells 0 d)) H.length 0 = some d := fun c x d => hget_set_at (by simp; omega)
   have hn3 : ∀ c, hget (K2.set b (.cells 0 c) ++ [Blk.cells 0 [.int .i64 k', .bool no, s, .int .i64 x1, .int .i64 x2, t]]) (H.length + 2) 0 = some [.int .i64 k', .bool no, s, .int .i64 x1, .int .i64 x2, t] := fun c => by rw [hget_new (hl3 _).symm, if_pos rfl]
   have henc : ∀ a' c', encN (ndR x a' c') = .agg [.int .i64 4, .bool false, .nilS, .int .i64 a', .int .i64 c', .vs [.agg [.int .i64 k', .bool no, s, .int .i64 x1, .int .i64 x2, t]] true] := fun a' c' => by
     rw [ndR, encN_eq, ← hx]; rfl
   simp only [if_true]
   by_cases h1 : pk l j = 43
   · simp only [h1, if_true, henc]
     simp only [w9, AV.cells, AV.leaf, reduceEqDiff, reduceLT, reduceAdd, reduceLeDiff, reduceCtorEq, reduceMul, reduceMod, u199, hlen, a0, a1, n2, h1, kp2.get, hww, hput1, hns, hs, ht, hlit, hl3, hp1]
     exact rep_end ((kps _).app _) hs2 ht2 (by omega) (hn3 _) (by simp [w9, AV.cells, AV.leaf, reduceEqDiff, reduceLT, reduceAdd, reduceLeDiff, reduceCtorEq, reduceMul, reduceMod, u199, hlen, a0, a1, hgZ3, aResults, aResult])
   have c1 : decide (pk l j = 43) = false := decide_eq_false h1
   simp only [h1, if_false]
   by_cases h2 : pk l j = 42
   · have c1 : decide ((42 : Int) = 43) = false := by decide
     simp only [h2, if_true, henc]
     simp only [w9, AV.cells, AV.leaf, reduceEqDiff, reduceLT, reduceAdd, reduceLeDiff, reduceCtorEq, reduceMul, reduceMod, u199, hlen, a0, a1, n2, h2, c1, kp2.get, hww, hput1, hns, hs, ht, hlit, hl3, hp1]
     exact rep_end ((kps _).app _) hs2 ht2 (by omega) (hn3 _) (by simp [w9, AV.cells, AV.leaf, reduceEqDiff, reduceLT, reduceAdd, reduceLeDiff, reduceCtorEq, reduceMul, reduceMod, u199, hlen, a0, a1, hgZ3, aResults, aResult])
   have c2 : decide (pk l j = 42) = false := decide_eq_false h2
   simp only [h2, if_false]
   by_cases h3 : pk l j = 63
   · have c1 : decide ((63 : Int) = 43) = false := by decide
     have c2 : decide ((63 : Int) = 42) = false := by decide
     simp only [h3, if_true, henc]
     simp only [w9, AV.cells, AV.leaf, reduceEqDiff, reduceLT, reduceAdd, reduceLeDiff, reduceCtorEq, reduceMul, reduceMod, u199, hlen, a0, a1, n2, h3, c1, c2, kp2.get, hww, hput1, hns, hs, ht, hlit, hl3, hp1]
     exact rep_end ((kps _).app _) hs2 ht2 (by omega) (hn3 _) (by simp [w9, AV.cells, AV.leaf, reduceEqDiff, reduceLT, reduceAdd, reduceLeDiff, reduceCtorEq, reduceMul, reduceMod, u199, hlen, a0, a1, hgZ3, aResults, aResult])
   have c3 : decide (pk l j = 63) = false := decide_eq_false h3
   simp only [h3, if_false]
   by_cases h4 : pk l j = 123
   · have hj1 := pk_in (l := l) (i := j) (by rw [h4]; decide)
     have c1 : decide ((123 : Int) = 43) = false := by decide
     have c2 : decide ((123 : Int) = 42) = false := by decide
     have c3 : decide ((123 : Int) = 63) = false := by decide
     have n3 := times_ok l L hL hl (j + 1) b (by omega) prot _ hp (hgs [L, .int .i64 ((j + 1 : Nat))])
     rw [hset] at n3
     simp only [h4, if_true, henc]
     simp only [w9, AV.cells, AV.leaf, reduceEqDiff, reduceLT, reduceAdd, reduceLeDiff, reduceCtorEq, reduceMul, reduceMod, u199, hlen, a0, a1, n2, h4, c1, c2, c3, kp2.get, hww, hput1, n3, hns, hs, ht, hlit, hl3, hp1]
     exact rep_end ((kps _).app _) hs2 ht2 (by omega) (hn3 _) (by simp [w9, AV.cells, AV.leaf, reduceEqDiff, reduceLT, reduceAdd, reduceLeDiff, reduceCtorEq, reduceMul, reduceMod, u199, hlen, a0, a1, hgZ3, aResults, aResult])
   have c4 : decide (pk l j = 123) = false := decide_eq_false h4
   simp only [h4, if_false, hx]
   simp only [w9, AV.cells, AV.leaf, reduceEqDiff, reduceLT, reduceAdd, reduceLeDiff, reduceCtorEq, reduceMul, reduceMod, u199, hlen, a0, a1, n2, c1, c2, c3, c4, hn2, hp0, hs, ht]
   exact nd_end kp2 hs2 ht2 (by simp [w9, AV.cells, AV.leaf, reduceEqDiff, reduceLT, reduceAdd, reduceLeDiff, reduceCtorEq, reduceMul, reduceMod, u199, hlen, a0, a1, hgZ2, aResults, aResult])
end Go.Proofs.YtnipaiklandliaaGreatDoor
namespace Go.Proofs.YtnipaiklandliaaGreatDoor
open Go Go.Abs AbsSeat Ty
open Nat (reduceEqDiff reduceLT reduceAdd reduceLeDiff reduceMul reduceMod)
theorem hxtN : (∃ e', Tryz.prog.underlying 174 = some (.slice e')) ∨ Tryz.prog.underlying 174 = some .string := .inl ⟨_, Tryz.underlying174⟩
theorem elemL {K : Heap} {z : Nat} {x : Nd} (h : hget K z 0 = some (encN x).cells) : elemCells K 6 (.bs ⟨z, 0, 0, 1, 1, 6, true, true⟩) = some ([x].length, cellsOf encN [x]) := by
 have e : cellsOf encN [x] = (encN x).cells := by simp [cellsOf]
 have hl := encN_len x
 have hw : win (encN x).cells 0 (1 * 6) = some (encN x).cells := by
   simp only [win, Nat.zero_add, List.drop_zero]
   rw [if_pos (by omega), List.take_of_length_le (by omega)]
 simp only [elemCells, if_true, h, Option.bind_some, hw, Option.map_some, e, List.length_cons, List.length_nil, Nat.zero_add]
theorem nd_endR {prot : Nat} {res : List ResultVar} {fr : List AV} {H K : Heap} {b : Nat} {L : AV} {j : Nat} {v : AV} {l : List Nd} {X : Blk} {no ok : Bool} {k a c : Int} (kp : Kp H b [L, .int .i64 (j : Nat)] K) (hrow : Row encN 6 true (H.length + 1) K v l) (hne : v = .nilS ∨ l ≠ [])
   (h1 : aResults cfg.P fr (K.set H.length X) res = some [.agg [.int .i64 k, .bool no, .nilS, .int .i64 a, .int .i64 c, v], .bool ok]) :
   Fin ⟨cfg, prot, res, .trim H⟩ fr (K.set H.length X) (.tup [encN (.mk k no false [] a c false l), .bool ok], some (H.set b (.cells 0 [L, .int .i64 (j : Nat)]))) := by
 have hf := ((hrow.setne (b' := H.length) (by omega) X).low (base' := H.length) (by omega)).frozen encN_T (by decide) rfl hne
 refine (kp.new (Nat.le_refl _) X).fin h1 ?_
 rw [encN_eq, slF_slv]
 exact .tup (.cons (.agg (.cons (.still rfl) (.cons (.still rfl) (.cons (.still rfl) (.cons (.still rfl) (.cons (.still rfl) (.cons hf .nil))))))) (.cons (.still rfl) .nil))
theorem concat_ok (l : List Int) (hl : Runes l) (k : Nat) (hP : ∀ k', k' < k → Rok 186 2 l k' (pieceS l k') 1) : Rok 172 3 l k (fun j d => concatS l k j d []) 0 := by
 intro L hL at_ d b prot H hp hg hat hd hk
 have hb := hget_lt hg
 have hll := hl.1
 have hlZ : ∀ Z, (H ++ [Blk.cells 0 Z]).length = H.length + 1 := fun Z => by simp
 have hLb : ∀ x : Int, AV.blwL H.length [L, .int .i64 x] = true := fun x => plL_blwL _ _ (slI_plain hL _)
 have kp0 : Kp H b [L, .int .i64 at_] (H ++ [Blk.cells 0 [.int .i64 0, .bool false, .nilS, .int .i64 0, .int .i64 0, .nilS]]) := (Kp.start hg).app _
 have hz0 : hget (H ++ [Blk.cells 0 [.int .i64 0, .bool false, .nilS, .int .i64 0, .int .i64 0, .nilS]]) H.length 0 = some [.int .i64 0, .bool false, .nilS, .int .i64 0, .int .i64 0, .nilS] := by simp [hget]
 have hK0l := hlZ [.int .i64 0, .bool false, .nilS, .int .i64 0, .int .i64 0, .nilS]
 refine trim_slim rfl (by kernel_rfl) (by kernel_rfl) (by kernel_rfl) Tryz.func172 s172 (by simp [Tryz.f172]) fun fr hlen h => ?_
 simp only [Has, Nat.zero_add] at h
 obtain ⟨a0, a1, -⟩ := h
 simp only [Tryz.f172] at hlen ⊢
 unfold g172
 simp only [w9, AV.cells, AV.leaf, reduceEqDiff, reduceLT, reduceAdd, reduceLeDiff, reduceCtorEq, reduceMul, reduceMod, u199, hlen, a0, a1, hlZ]
 generalize H ++ [Blk.cells 0 [.int .i64 0, .bool false, .nilS, .int .i64 0, .int .i64 0, .nilS]] = K0 at *
 refine loop_rule (fun m fr H' => ∃ (j : Nat) (acc : List Nd) (v : AV), j ≤ l.length ∧ 5 * (l.length - j) + 3 ≤ m ∧ m ≤ k ∧ acc.length ≤ j ∧ fr.length = 47 ∧ fget fr 0 = .ptr b 0 0 ∧ fget fr 1 = .int .i64 (d : Nat) ∧ fget fr 4 = .ptr H.length 0 0 ∧ fget fr 6 = v
   ∧ H.length + 1 ≤ H'.length ∧ Kp H b [L, .int .i64 (j : Nat)] H' ∧ hget H' H.length 0 = some [.int .i64 0, .bool false, .nilS, .int .i64 0, .int .i64 0, .nilS]
   ∧ Row encN 6 true (H.length + 1) H' v acc ∧ (v = .nilS ∨ acc ≠ []) ∧ concatS l k at_ d [] = concatS l m j d acc) ?_ k _ _ ⟨at_, [], .nilS, by
     refine ⟨by omega, by omega, by omega, by simp, ?_⟩
     simp [w9, AV.cells, AV.leaf, reduceEqDiff, reduceLT, reduceAdd, reduceLeDiff, reduceCtorEq, reduceMul, reduceMod, u199, hlen, a0, a1, kp0, hz0, hK0l, Row.nil]⟩
 clear kp0 hz0 hK0l K0 a0 a1 hlen fr
 rintro m fr H' ⟨j, acc, v, hjl, hjk, hmk, hal, hlen, a0, a1, a4, a6, hH', kp, hz, hrow, hne, hc⟩ ih
 obtain ⟨m, rfl⟩ : ∃ m', m = m' + 1 := ⟨m - 1, by omega⟩
 have n1 := peek_ok l L hL hl j b prot H' (by omega) kp.get
 by_cases h1 : pk l j = -1 ∨ pk l j = 124 ∨ pk l j = 41
 · have e : concatS l (m + 1) j d acc = ⟨conN acc, j, true⟩ := by rw [concatS, if_pos h1]
   rw [hc, e]
   dsimp only
   have hlen2 := hrow.len Tryz.underlying174
   have hgZ : ∀ d, hget (H'.set H.length (.cells 0 d)) H.length 0 = some d := fun d => hget_set_at (by omega)
   have q : (decide (¬ pk l j = -1) = false ∧ True ∧ True) ∨ (decide (¬ pk l j = -1) = true ∧ decide (¬ pk l j = 124) = false ∧ True) ∨ (decide (¬ pk l j = -1) = true ∧ decide (¬ pk l j = 124) = true ∧ decide (¬ pk l j = 41) = false) := by
     rcases h1 with h1 | h1 | h1 <;> rw [h1]
     · exact .inl ⟨rfl, trivial, trivial⟩
     · exact .inr (.inl ⟨rfl, rfl, trivial⟩)
     · exact .inr (.inr ⟨rfl, rfl, rfl⟩)
   match acc, hrow, hne, hlen2 with
   | [], hrow, hne, hlen2 =>
     have hp1 := hput6 hz rfl (by omega : prot ≤ H.length) 0 false .nilS 0 0 .nilS rfl rfl
     simp only [List.length_nil] at hlen2
     have d0 : decide (((0 : Nat) : Int) = 0) = true := rfl
     rcases q with ⟨c1, c2, c3⟩ | ⟨c1, c2, c3⟩ | ⟨c1, c2, c3⟩
     all_goals
       simp only [w9, AV.cells, AV.leaf, reduceEqDiff, reduceLT, reduceAdd, reduceLeDiff, reduceCtorEq, reduceMul, reduceMod, u199, hlen, a0, a1, a4, a6, n1, c1, c2, c3, hlen2, d0, hp1, none_beq]
       exact nd_end (s := .nilS) (t := .nilS) kp rfl rfl (by simp [w9, AV.cells, AV.leaf, reduceEqDiff, reduceLT, reduceAdd, reduceLeDiff, reduceCtorEq, reduceMul, reduceMod, u199, hlen, a4, hgZ, aResults, aResult])
   | [x], hrow, hne, hlen2 =>
     obtain ⟨k', no, s, x1, x2, t, hx, hs, ht, hs2, ht2⟩ := encN_sh x
     have hp1 := hput6 hz rfl (by omega : prot ≤ H.length) k' no s x1 x2 t hs ht
     have d0 : decide (((1 : Nat) : Int) = 0) = false := rfl
     have d1 : decide (((1 : Nat) : Int) = 1) = true := rfl
     rcases hrow with ⟨_, q2⟩ | ⟨bb, ver, rfl, hbb, hgg, hv4⟩
     · cases q2
     have hcl : cellsOf encN [x] = [.int .i64 k', .bool no, s, .int .i64 x1, .int .i64 x2, t] := by simp [cellsOf, hx, AV.cells]
     rw [hcl] at hgg
     have e1 : aIndexAddr Tryz.prog 174 (.bs ⟨bb, ver, 0, [x].length, 0, 6, true, false⟩) (.int .i64 0) = some (.ptr bb ver 0) := by simp [aIndexAddr, asNat, Tryz.underlying174, sz176]
     simp only [List.length_cons, List.length_nil, Nat.zero_add] at e1 a6 hlen2
     simp only [conN, hx]
     unfold AV.leaf at hs ht
     rcases q with ⟨c1, c2, c3⟩ | ⟨c1, c2, c3⟩ | ⟨c1, c2, c3⟩
     all_goals
       simp only [w9, AV.cells, AV.leaf, reduceEqDiff, reduceLT, reduceAdd, reduceLeDiff, reduceCtorEq, reduceMul, reduceMod, u199, hlen, a0, a1, a4, a6, n1, c1, c2, c3, hlen2, d0, d1, e1, hgg, hs, ht, hp1, none_beq]
       exact nd_end kp hs2 ht2 (by simp [w9, AV.cells, AV.leaf, reduceEqDiff, reduceLT, reduceAdd, reduceLeDiff, reduceCtorEq, reduceMul, reduceMod, u199, hlen, a4, hgZ, aResults, aResult])
   | x :: y :: r, hrow, hne, hlen2 =>
     have hvl : v.leaf = true := by rcases hrow with ⟨q, _⟩ | ⟨b, ver, q, _⟩ <;> rw [q] <;> rfl
     have hvc : v.cells = [v] := by rcases hrow with ⟨q, _⟩ | ⟨b, ver, q, _⟩ <;> rw [q] <;> rfl
     have hp1 := hput6 hz rfl (by omega : prot ≤ H.length) 2 false .nilS 0 0 v rfl hvl
     have d0 : decide ((((x :: y :: r).length : Nat) : Int) = 0) = false := decide_eq_false (by simp; omega)
     have d1 : decide ((((x :: y :: r).length : Nat) : Int) = 1) = false := decide_eq_false (by simp; omega)
     have hcn : conN (x :: y :: r) = .mk 2 false false [] 0 0 false (x :: y :: r) := rfl
     rw [hcn]
     generalize x :: y :: r = acc at *
     unfold AV.leaf at hvl; unfold AV.cells at hvc
     rcases q with ⟨c1, c2, c3⟩ | ⟨c1, c2, c3⟩ | ⟨c1, c2, c3⟩
     all_goals
       simp only [w9, AV.cells, AV.leaf, reduceEqDiff, reduceLT, reduceAdd, reduceLeDiff, reduceCtorEq, reduceMul, reduceMod, u199, hlen, a0, a1, a4, a6, n1, c1, c2, c3, hlen2, d0, d1, hvl, hvc, hp1, none_beq]
       exact nd_endR kp hrow hne (by simp [w9, AV.cells, AV.leaf, reduceEqDiff, reduceLT, reduceAdd, reduceLeDiff, reduceCtorEq, reduceMul, reduceMod, u199, hlen, a4, hgZ, aResults, aResult])
 · have c1 : decide (¬ pk l j = -1) = true := decide_eq_true fun h => h1 (.inl h)
   have c2 : decide (¬ pk l j = 124) = true := decide_eq_true fun h => h1 (.inr (.inl h))
   have c3 : decide (¬ pk l j = 41) = true := decide_eq_true fun h => h1 (.inr (.inr h))
   have hj1 := pk_in (l := l) (i := j) fun h => h1 (.inl h)
   have n2 := hP m (by omega) L hL j d b prot H' hp kp.get (by omega) hd (by omega)
   have hcm : concatS l (m + 1) j d acc = if (pieceS l m j d).ok = true then concatS l m (pieceS l m j d).at_ d (acc ++ [(pieceS l m j d).n]) else pieceS l m j d := by
     rw [concatS, if_neg h1]
   have hin := (readS_in l m).2.1 j d
   generalize pieceS l m j d = r at *
   obtain ⟨x, i, ok⟩ := r
   obtain ⟨k', no, s, x1, x2, t, hx, hs, ht, hs2, ht2⟩ := encN_sh x
   dsimp only at n2 hin hcm
   rw [hx] at n2
   have hs' := hs
   have ht' := ht
   unfold AV.leaf at hs ht
   have hl1 : (H'.set b (.cells 0 [L, .int .i64 (i : Nat)])).length = H'.length := by simp
   have hpl1 : prot ≤ H'.length := by omega
   have kp2 := (kp.put (hLb (i : Nat))).app [Blk.cells 0 [.int .i64 k', .bool no, s, .int .i64 x1, .int .i64 x2, t]]
   have hz1 : hget (H'.set b (.cells 0 [L, .int .i64 (i : Nat)])) H.length 0 = some [.int .i64 0, .bool false, .nilS, .int .i64 0, .int .i64 0, .nilS] := by rw [hget_set_ne (by omega)]; exact hz
   have hz2 := hget_mono hz1 [Blk.cells 0 [.int .i64 k', .bool no, s, .int .i64 x1, .int .i64 x2, t]]
   have hn2 : hget (H'.set b (.cells 0 [L, .int .i64 (i : Nat)]) ++ [Blk.cells 0 [.int .i64 k', .bool no, s, .int .i64 x1, .int .i64 x2, t]]) H'.length 0 = some [.int .i64 k', .bool no, s, .int .i64 x1, .int .i64 x2, t] := by
     rw [hget_new hl1.symm, if_pos rfl]
   have hl2 : (H'.set b (.cells 0 [L, .int .i64 (i : Nat)]) ++ [Blk.cells 0 [.int .i64 k', .bool no, s, .int .i64 x1, .int .i64 x2, t]]).length = H'.length + 1 := by simp
   have hrow2 : Row encN 6 true (H.length + 1) (H'.set b (.cells 0 [L, .int .i64 (i : Nat)]) ++ [Blk.cells 0 [.int .i64 k', .bool no, s, .int .i64 x1, .int .i64 x2, t]]) v acc := (hrow.setne (by omega) _).more _
   simp only [w9, AV.cells, AV.leaf, reduceEqDiff, reduceLT, reduceAdd, reduceLeDiff, reduceCtorEq, reduceMul, reduceMod, u199, hlen, a0, a1, a4, a6, n1, c1, c2, c3, n2, hs, ht, hl1, hpl1, none_beq]
   generalize H'.set b (.cells 0 [L, .int .i64 (i : Nat)]) ++ [Blk.cells 0 [.int .i64 k', .bool no, s, .int .i64 x1, .int .i64 x2, t]] = K2 at *
   cases ok with
   | false =>
     have hp0 := hput6 hz2 rfl (by omega : prot ≤ H.length) k' no s x1 x2 t hs' ht'
     have hgZ2 : ∀ d, hget (K2.set H.length (.cells 0 d)) H.length 0 = some d := fun d => hget_set_at (by omega)
     simp only [Bool.false_eq_true, if_false] at hcm
     rw [hc, hcm]
     dsimp only
     rw [hx]
     simp only [w9, AV.cells, AV.leaf, reduceEqDiff, reduceLT, reduceAdd, reduceLeDiff, reduceCtorEq, reduceMul, reduceMod, u199, hlen, a0, a1, a4, a6, hn2, hp0, hs, ht]
     exact nd_end kp2 hs2 ht2 (by simp [w9, AV.cells, AV.leaf, reduceEqDiff, reduceLT, reduceAdd, reduceLeDiff, reduceCtorEq, reduceMul, reduceMod, u199, hlen, a4, hgZ2, aResults, aResult])
   | true =>
     have hin := hin rfl
     simp only [if_true] at hcm
     rw [hcm] at hc
     have hlit := litNX k' no s x1 x2 t hs' ht'
     have hn3 : hget (K2 ++ [Blk.cells 0 [.int .i64 k', .bool no, s, .int .i64 x1, .int .i64 x2, t]]) K2.length 0 = some (encN x).cells := by rw [hget_new rfl, if_pos rfl, hx]; rfl
     obtain ⟨o, H3, happ, hrow3, hle3, hno, hk3, hold⟩ := (hrow2.more [Blk.cells 0 [.int .i64 k', .bool no, s, .int .i64 x1, .int .i64 x2, t]]).appK (prot := prot) (xt := 174) encN_T rowN hxtN (elemL hn3) (by simp) (by simp [roomy]; omega) (by omega) (by simp; omega) (kp2.app [Blk.cells 0 [.int .i64 k', .bool no, s, .int .i64 x1, .int .i64 x2, t]]) (by omega)
     have hz3 := hold _ _ _ (by omega) (hget_mono hz2 [Blk.cells 0 [.int .i64 k', .bool no, s, .int .i64 x1, .int .i64 x2, t]])
     simp only [w9, AV.cells, AV.leaf, reduceEqDiff, reduceLT, reduceAdd, reduceLeDiff, reduceCtorEq, reduceMul, reduceMod, u199, hlen, a0, a1, a4, a6, hn2, hlit, happ]
     refine ih _ _ m (by omega) ⟨i, acc ++ [x], o, by omega, by omega, by omega, by simp; omega, ?_⟩
     refine ⟨by simp [w9, AV.cells, AV.leaf, reduceEqDiff, reduceLT, reduceAdd, reduceLeDiff, reduceCtorEq, reduceMul, reduceMod, u199, hlen], by simp [w9, AV.cells, AV.leaf, reduceEqDiff, reduceLT, reduceAdd, reduceLeDiff, reduceCtorEq, reduceMul, reduceMod, u199, hlen, a0], by simp [w9, AV.cells, AV.leaf, reduceEqDiff, reduceLT, reduceAdd, reduceLeDiff, reduceCtorEq, reduceMul, reduceMod, u199, hlen, a1], by simp [w9, AV.cells, AV.leaf, reduceEqDiff, reduceLT, reduceAdd, reduceLeDiff, reduceCtorEq, reduceMul, reduceMod, u199, hlen, a4], by simp [w9, AV.cells, AV.leaf, reduceEqDiff, reduceLT, reduceAdd, reduceLeDiff, reduceCtorEq, reduceMul, reduceMod, u199, hlen], by simp at hle3; omega, hk3, hz3, hrow3, .inr (by simp), hc⟩
theorem either_ok (l : List Int) (hl : Runes l) (k : Nat) (hC : ∀ k', k' < k → Rok 172 3 l k' (fun j d => concatS l k' j d []) 0) : Rok 152 4 l k (fun j d => eitherS l k j d []) 0 := by
 intro L hL at_ d b prot H hp hg hat hd hk
 have hb := hget_lt hg
 have hll := hl.1
 have hlZ : ∀ Z, (H ++ [Blk.cells 0 Z]).length = H.length + 1 := fun Z => by simp
 have hLb : ∀ x : Int, AV.blwL H.length [L, .int .i64 x] = true := fun x => plL_blwL _ _ (slI_plain hL _)
 have kp0 : Kp H b [L, .int .i64 at_] (H ++ [Blk.cells 0 [.int .i64 0, .bool false, .nilS, .int .i64 0, .int .i64 0, .nilS]]) := (Kp.start hg).app _
 have hz0 : hget (H ++ [Blk.cells 0 [.int .i64 0, .bool false, .nilS, .int .i64 0, .int .i64 0, .nilS]]) H.length 0 = some [.int .i64 0, .bool false, .nilS, .int .i64 0, .int .i64 0, .nilS] := by simp [hget]
 have hK0l := hlZ [.int .i64 0, .bool false, .nilS, .int .i64 0, .int .i64 0, .nilS]
 refine trim_slim rfl (by kernel_rfl) (by kernel_rfl) (by kernel_rfl) Tryz.func152 s152 (by simp [Tryz.f152]) fun fr hlen h => ?_
 simp only [Has, Nat.zero_add] at h
 obtain ⟨a0, a1, -⟩ := h
 simp only [Tryz.f152] at hlen ⊢
 unfold g152
 simp only [w9, AV.cells, AV.leaf, reduceEqDiff, reduceLT, reduceAdd, reduceLeDiff, reduceCtorEq, reduceMul, reduceMod, u199, hlen, a0, a1, hlZ]
 generalize H ++ [Blk.cells 0 [.int .i64 0, .bool false, .nilS, .int .i64 0, .int .i64 0, .nilS]] = K0 at *
 refine loop_rule (fun m fr H' => ∃ (j : Nat) (acc : List Nd) (v : AV), j ≤ l.length ∧ 5 * (l.length - j) + 4 ≤ m ∧ m ≤ k ∧ acc.length ≤ j ∧ fr.length = 33 ∧ fget fr 0 = .ptr b 0 0 ∧ fget fr 1 = .int .i64 (d : Nat) ∧ fget fr 4 = .ptr H.length 0 0 ∧ fget fr 6 = v
   ∧ H.length + 1 ≤ H'.length ∧ Kp H b [L, .int .i64 (j : Nat)] H' ∧ hget H' H.length 0 = some [.int .i64 0, .bool false, .nilS, .int .i64 0, .int .i64 0, .nilS]
   ∧ Row encN 6 true (H.length + 1) H' v acc ∧ (v = .nilS ∨ acc ≠ []) ∧ eitherS l k at_ d [] = eitherS l m j d acc) ?_ k _ _ ⟨at_, [], .nilS, by
     refine ⟨by omega, by omega, by omega, by simp, ?_⟩
     simp [w9, AV.cells, AV.leaf, reduceEqDiff, reduceLT, reduceAdd, reduceLeDiff, reduceCtorEq, reduceMul, reduceMod, u199, hlen, a0, a1, kp0, hz0, hK0l, Row.nil]⟩
 clear kp0 hz0 hK0l K0 a0 a1 hlen fr
 rintro m fr H' ⟨j, acc, v, hjl, hjk, hmk, hal, hlen, a0, a1, a4, a6, hH', kp, hz, hrow, hne, hc⟩ ih
 obtain ⟨m, rfl⟩ : ∃ m', m = m' + 1 := ⟨m - 1, by omega⟩
 have n2 := hC m (by omega) L hL j d b prot H' hp kp.get (by omega) hd (by omega)
 dsimp only at n2
 have hcm : eitherS l (m + 1) j d acc = if (concatS l m j d []).ok = true then (if pk l (concatS l m j d []).at_ = 124 then eitherS l m ((concatS l m j d []).at_ + 1) d (acc ++ [(concatS l m j d []).n]) else ⟨eitN (acc ++ [(concatS l m j d []).n]), (concatS l m j d []).at_, true⟩) else concatS l m j d [] := by
   rw [eitherS]
 have hin := (readS_in l m).2.2.1 j d [] hjl
 generalize concatS l m j d [] = r at *
 obtain ⟨x, i, ok⟩ := r
 obtain ⟨k', no, s, x1, x2, t, hx, hs, ht, hs2, ht2⟩ := encN_sh x
 dsimp only at n2 hin hcm
 rw [hx] at n2
 have hs' := hs
 have ht' := ht
 unfold AV.leaf at hs ht
 have hl1 : (H'.set b (.cells 0 [L, .int .i64 (i : Nat)])).length = H'.length := by simp
 have hpl1 : prot ≤ H'.length := by omega
 have kp2 := (kp.put (hLb (i : Nat))).app [Blk.cells 0 [.int .i64 k', .bool no, s, .int .i64 x1, .int .i64 x2, t]]
 have hz1 : hget (H'.set b (.cells 0 [L, .int .i64 (i : Nat)])) H.length 0 = some [.int .i64 0, .bool false, .nilS, .int .i64 0, .int .i64 0, .nilS] := by rw [hget_set_ne (by omega)]; exact hz
 have hz2 := hget_mono hz1 [Blk.cells 0 [.int .i64 k', .bool no, s, .int .i64 x1, .int .i64 x2, t]]
 have hn2 : hget (H'.set b (.cells 0 [L, .int .i64 (i : Nat)]) ++ [Blk.cells 0 [.int .i64 k', .bool no, s, .int .i64 x1, .int .i64 x2, t]]) H'.length 0 = some [.int .i64 k', .bool no, s, .int .i64 x1, .int .i64 x2, t] := by
   rw [hget_new hl1.symm, if_pos rfl]
 have hl2 : (H'.set b (.cells 0 [L, .int .i64 (i : Nat)]) ++ [Blk.cells 0 [.int .i64 k', .bool no, s, .int .i64 x1, .int .i64 x2, t]]).length = H'.length + 1 := by simp
 have hrow2 : Row encN 6 true (H.length + 1) (H'.set b (.cells 0 [L, .int .i64 (i : Nat)]) ++ [Blk.cells 0 [.int .i64 k', .bool no, s, .int .i64 x1, .int .i64 x2, t]]) v acc := (hrow.setne (by omega) _).more _
 simp only [w9, AV.cells, AV.leaf, reduceEqDiff, reduceLT, reduceAdd, reduceLeDiff, reduceCtorEq, reduceMul, reduceMod, u199, hlen, a0, a1, a4, a6, n2, hs, ht, hl1, hpl1, none_beq]
 generalize H'.set b (.cells 0 [L, .int .i64 (i : Nat)]) ++ [Blk.cells 0 [.int .i64 k', .bool no, s, .int .i64 x1, .int .i64 x2, t]] = K2 at *
 cases ok with
 | false =>
   have hp0 := hput6 hz2 rfl (by omega : prot ≤ H.length) k' no s x1 x2 t hs' ht'
   have hgZ2 : ∀ d, hget (K2.set H.length (.cells 0 d)) H.length 0 = some d := fun d => hget_set_at (by omega)
   simp only [Bool.false_eq_true, if_false] at hcm
   rw [hc, hcm]
   dsimp only
   rw [hx]
   simp only [w9, AV.cells, AV.leaf, reduceEqDiff, reduceLT, reduceAdd, reduceLeDiff, reduceCtorEq, reduceMul, reduceMod, u199, hlen, a0, a1, a4, a6, hn2, hp0, hs, ht]
   exact nd_end kp2 hs2 ht2 (by simp [w9, AV.cells, AV.leaf, reduceEqDiff, reduceLT, reduceAdd, reduceLeDiff, reduceCtorEq, reduceMul, reduceMod, u199, hlen, a4, hgZ2, aResults, aResult])
 | true =>
   have hin := hin rfl
   simp only [if_true] at hcm
   rw [hcm] at hc
   have hlit := litNX k' no s x1 x2 t hs' ht'
   have hn3 : hget (K2 ++ [Blk.cells 0 [.int .i64 k', .bool no, s, .int .i64 x1, .int .i64 x2, t]]) K2.length 0 = some (encN x).cells := by rw [hget_new rfl, if_pos rfl, hx]; rfl
   obtain ⟨o, H3, happ, hrow3, hle3, hno, hk3, hold⟩ := (hrow2.more [Blk.cells 0 [.int .i64 k', .bool no, s, .int .i64 x1, .int .i64 x2, t]]).appK (prot := prot) (xt := 174) encN_T rowN hxtN (elemL hn3) (by simp) (by simp [roomy]; omega) (by omega) (by simp; omega) (kp2.app [Blk.cells 0 [.int .i64 k', .bool no, s, .int .i64 x1, .int .i64 x2, t]]) (by omega)
   have hz3 := hold _ _ _ (by omega) (hget_mono hz2 [Blk.cells 0 [.int .i64 k', .bool no, s, .int .i64 x1, .int .i64 x2, t]])
   have hle4 : H'.length + 1 ≤ H3.length := by simp at hle3; omega
   have n3 := take_ok l L hL hl i b 124 (by omega) prot H3 hp hk3.get
   by_cases h1 : pk l i = 124
   · have hi1 := pk_in (l := l) (i := i) (by rw [h1]; decide)
     simp only [h1, if_true] at hc
     simp only [h1, if_true, decide_true] at n3
     simp only [w9, AV.cells, AV.leaf, reduceEqDiff, reduceLT, reduceAdd, reduceLeDiff, reduceCtorEq, reduceMul, reduceMod, u199, hlen, a0, a1, a4, a6, hn2, hlit, happ, n3]
     refine ih _ _ m (by omega) ⟨i + 1, acc ++ [x], o, by omega, by omega, by omega, by simp; omega, ?_⟩
     refine ⟨by simp [w9, AV.cells, AV.leaf, reduceEqDiff, reduceLT, reduceAdd, reduceLeDiff, reduceCtorEq, reduceMul, reduceMod, u199, hlen], by simp [w9, AV.cells, AV.leaf, reduceEqDiff, reduceLT, reduceAdd, reduceLeDiff, reduceCtorEq, reduceMul, reduceMod, u199, hlen, a0], by simp [w9, AV.cells, AV.leaf, reduceEqDiff, reduceLT, reduceAdd, reduceLeDiff, reduceCtorEq, reduceMul, reduceMod, u199, hlen, a1], by simp [w9, AV.cells, AV.leaf, reduceEqDiff, reduceLT, reduceAdd, reduceLeDiff, reduceCtorEq, reduceMul, reduceMod, u199, hlen, a4], by simp [w9, AV.cells, AV.leaf, reduceEqDiff, reduceLT, reduceAdd, reduceLeDiff, reduceCtorEq, reduceMul, reduceMod, u199, hlen], by simp; omega, hk3.put (hLb _), by rw [hget_set_ne (by omega)]; exact hz3, hrow3.setne (by omega) _, .inr (by simp), hc⟩
   · simp only [h1, if_false] at hc
     simp only [h1, if_false, decide_false] at n3
     rw [set_self hk3.get] at n3
     rw [hc]
     dsimp only
     have hlen2 := hrow3.len Tryz.underlying174
     have hgZ : ∀ d, hget (H3.set H.length (.cells 0 d)) H.length 0 = some d := fun d => hget_set_at (by omega)
     cases acc with
     | nil =>
       have hp1 := hput6 hz3 rfl (by omega : prot ≤ H.length) k' no s x1 x2 t hs' ht'
       have d1 : decide (((1 : Nat) : Int) = 1) = true := rfl
       simp only [List.nil_append] at hrow3
       rcases hrow3 with ⟨_, q2⟩ | ⟨bb, ver, rfl, hbb, hgg, hv4⟩
       · cases q2
       have hcl : cellsOf encN [x] = [.int .i64 k', .bool no, s, .int .i64 x1, .int .i64 x2, t] := by simp [cellsOf, hx, AV.cells]
       rw [hcl] at hgg
       have e1 : aIndexAddr Tryz.prog 174 (.bs ⟨bb, ver, 0, [x].length, 0, 6, true, false⟩) (.int .i64 0) = some (.ptr bb ver 0) := by simp [aIndexAddr, asNat, Tryz.underlying174, sz176]
       simp only [List.length_cons, List.length_nil, Nat.zero_add, List.nil_append] at e1 hlen2 happ
       simp only [List.nil_append, eitN, hx]
       simp only [w9, AV.cells, AV.leaf, reduceEqDiff, reduceLT, reduceAdd, reduceLeDiff, reduceCtorEq, reduceMul, reduceMod, u199, hlen, a0, a1, a4, a6, hn2, hlit, happ, n3, hlen2, d1, e1, hgg, hs, ht, hp1, none_beq]
       exact nd_end hk3 hs2 ht2 (by simp [w9, AV.cells, AV.leaf, reduceEqDiff, reduceLT, reduceAdd, reduceLeDiff, reduceCtorEq, reduceMul, reduceMod, u199, hlen, a4, hgZ, aResults, aResult])
     | cons y r =>
       have hvl : o.leaf = true := by rcases hrow3 with ⟨q, _⟩ | ⟨b, ver, q, _⟩ <;> rw [q] <;> rfl
       have hvc : o.cells = [o] := by rcases hrow3 with ⟨q, _⟩ | ⟨b, ver, q, _⟩ <;> rw [q] <;> rfl
       have hp1 := hput6 hz3 rfl (by omega : prot ≤ H.length) 3 false .nilS 0 0 o rfl hvl
       have d1 : decide ((((y :: r ++ [x]).length : Nat) : Int) = 1) = false := decide_eq_false (by simp; omega)
       have hcn : eitN (y :: r ++ [x]) = .mk 3 false false [] 0 0 false (y :: r ++ [x]) := by cases r <;> rfl
       rw [hcn]
       have hne2 : o = .nilS ∨ y :: r ++ [x] ≠ [] := .inr (by simp)
       generalize y :: r ++ [x] = acc2 at *
       unfold AV.leaf at hvl; unfold AV.cells at hvc
       simp only [w9, AV.cells, AV.leaf, reduceEqDiff, reduceLT, reduceAdd, reduceLeDiff, reduceCtorEq, reduceMul, reduceMod, u199, hlen, a0, a1, a4, a6, hn2, hlit, happ, n3, hlen2, d1, hvl, hvc, hp1, none_beq]
       exact nd_endR hk3 hrow3 hne2 (by simp [w9, AV.cells, AV.leaf, reduceEqDiff, reduceLT, reduceAdd, reduceLeDiff, reduceCtorEq, reduceMul, reduceMod, u199, hlen, a4, hgZ, aResults, aResult])
theorem read_ok (l : List Int) (hl : Runes l) : ∀ k : Nat, Rok 152 4 l k (fun j d => eitherS l k j d []) 0 ∧ Rok 172 3 l k (fun j d => concatS l k j d []) 0 ∧ Rok 186 2 l k (pieceS l k) 1 ∧ Rok 193 1 l k (atomS l k) 1 := by
 intro k
 induction k using Nat.strongRecOn with
 | _ k ih =>
   refine ⟨either_ok l hl k fun k' h => (ih k' h).2.1, concat_ok l hl k fun k' h => (ih k' h).2.2.1, ?_, ?_⟩
   · cases k with
     | zero => intro L _ at_ d b prot H _ _ h1 _ h2; omega
     | succ k => exact piece_ok l hl k (ih k (by omega)).2.2.2
   · cases k with
     | zero => intro L _ at_ d b prot H _ _ h1 _ h2; omega
     | succ k => exact atom_ok l hl k (ih k (by omega)).1
end Go.Proofs.YtnipaiklandliaaGreatDoor
