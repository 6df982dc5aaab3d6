import Derived.Test.YtoblikhnbddfmaaN1
import Derived.Test.YtoblikhnbddfmaaRx7
/-! Chapter 16: a machine's run, walked. -/
set_option linter.unusedSimpArgs false
namespace Go.Proofs.Ytoblikhnbddfmaa
open Go Go.Abs AbsSeat Ty

/-- what a closure has caught, as it lies. -/
def Caps (H : Heap) (L : List (Nat × List AV)) : Prop := ∀ p ∈ L, hget H p.1 0 = some p.2
/-- what is told does what is said. -/
def TellOk (prot f : Nat) (caps : List AV) {σ : Type} (L : σ → List (Nat × List AV)) (upd : σ → Nat → List Nat → σ) (Q : Nat → σ → Prop) (n lim top : Nat) : Prop :=
  ∀ (q : σ) (i a s r : Nat) (v : AV) (o : List Nat) (H : Heap), SetAt H s r v o → o.Nodup → (∀ x ∈ o, x < n) → a ≤ lim → i ≤ lim → Q i q → Caps H (L q) → top ≤ r → r < s → Q (i + 1) (upd q a o) ∧
    ∃ H', (Caps H' (L (upd q a o)) ∧ H.length = H'.length ∧ (∀ z ver cs, top ≤ z → hget H z ver = some cs → hget H' z ver = some cs) ∧ (∀ z es, hmap H z = some es → hmap H' z = some es)) ∧ aLim cfg prot f ([.int .i64 (a : Nat), .ptr s 0 0] ++ caps) H = some (.tup [], some H')
/-- the places at which something is told from a place on, and the sets there. -/
inductive RunRel (l : List St) (s : List UInt8) : Nat → List Nat → List (Nat × List Nat) → Prop where
  | done {k : Nat} {o : List Nat} (h : s.length ≤ k) : RunRel l s k o []
  | bad {k : Nat} {o : List Nat} (h : k < s.length) (he : (nextU (s.drop k)).2.2 ≠ 0) : RunRel l s k o []
  | step {k : Nat} {o o' : List Nat} {os : List (Nat × List Nat)} (h : k < s.length) (he : (nextU (s.drop k)).2.2 = 0) (hnd : o'.Nodup) (hlt : ∀ x ∈ o', x < l.length) (hm : ∀ x, x ∈ o' ↔ ∃ k0 ∈ o, ∃ y, tk l (nextU (s.drop k)).1 k0 y ∧ Rch l y x)
      (hr : RunRel l s (k + (nextU (s.drop k)).2.1) o' os) : RunRel l s k o ((k + (nextU (s.drop k)).2.1, o') :: os)
def told {σ : Type} (upd : σ → Nat → List Nat → σ) (q : σ) (os : List (Nat × List Nat)) : σ := os.foldl (fun q p => upd q p.1 p.2) q
theorem told_snoc {σ : Type} (upd : σ → Nat → List Nat → σ) (q : σ) (os : List (Nat × List Nat)) (p : Nat × List Nat) : told upd q (os ++ [p]) = upd (told upd q os) p.1 p.2 := by simp [told]
theorem runes_end {s : List UInt8} {k : Nat} (h : s.length ≤ k) : (runesU (s.drop k)).isSome = true := by
  have : s.drop k = [] := List.drop_eq_nil_of_le h
  rw [this, runesU_nil]; rfl

theorem run_ok (l : List St) (hr : RightM l) (hsp : ∀ s ∈ l, s.sp.length < 1000000000) (a : Nat) (ha : a < l.length) (hln : l.length ≤ 100000) (s : List UInt8) (hs : s.length ≤ 10000) (f : Nat) (caps : List AV) {σ : Type} (L : σ → List (Nat × List AV)) (upd : σ → Nat → List Nat → σ) (Q : Nat → σ → Prop) (q0 : σ)
    (prot : Nat) (H : Heap) (hp : prot ≤ H.length) (hT : TellOk prot f caps L upd Q l.length 20000 H.length) (hQ : Q 0 q0) (hc : Caps H (L q0)) (ht : ∀ q, ∀ p ∈ L q, p.1 < H.length) :
    ∃ H', (∃ o0 os, o0.Nodup ∧ (∀ x ∈ o0, x < l.length) ∧ (∀ x, x ∈ o0 ↔ Rch l a x) ∧ RunRel l s 0 o0 os ∧ Caps H' (L (told upd q0 ((0, o0) :: os)))) ∧
      aLim cfg prot 70 [encM l a, .str s, .func f [] caps] H = some (.bool (runesU s).isSome, some H') := by
  have hset0 : SetAt (H ++ [Blk.map []] ++ [Blk.cells 0 [.map H.length, .nilS]]) (H.length + 1) H.length .nilS [] := by
    refine ⟨by rw [hget_new (by simp), if_pos rfl], ?_, Row.nil⟩
    refine hmap_mono ?_ _
    simp [hmap]
  have hl1 : (H ++ [Blk.map []]).length = H.length + 1 := by simp
  obtain ⟨K1, ⟨v1, o1, hse1, hnd1, hlt1, hm1, f1⟩, n1⟩ := enter_ok l hr a a ha hln (H.length + 1) H.length prot .nilS [] _ hp (by omega) hset0 .nil (by simp) (fun x hx => nomatch hx)
  have hc1 : Caps K1 (L q0) := fun p hp => by
    have := ht _ p hp
    exact f1.keep _ _ _ (by omega) (by omega) (fun _ h => by cases h) (hget_mono (hget_mono (hc p hp) _) _)
  obtain ⟨hQ1, K2, ⟨hc2, hl2, k2, m2⟩, n2⟩ := hT q0 0 0 (H.length + 1) H.length v1 o1 K1 hse1 hnd1 hlt1 (by omega) (by omega) hQ hc1 (by omega) (by omega)
  have n2' : aLim cfg prot f (.int .i64 0 :: .ptr (H.length + 1) 0 0 :: caps) K1 = some (.tup [], some K2) := n2
  have cv := fun K => conv_sb Try.underlying9 Try.underlying141 Try.underlying5 K s
  have hle1 := f1.len
  simp only [List.length_append, List.length_singleton] at hle1
  have keepS : ∀ {K K' : Heap} {v : AV} {o : List Nat}, SetAt K (H.length + 1) H.length v o → (∀ z ver cs, H.length ≤ z → hget K z ver = some cs → hget K' z ver = some cs) → (∀ z es, hmap K z = some es → hmap K' z = some es) → SetAt K' (H.length + 1) H.length v o := fun {K K' v o} h h1 h2 => by
    obtain ⟨g1, g2, g3⟩ := h
    refine ⟨h1 _ _ _ (by omega) g1, h2 _ _ g2, ?_⟩
    rcases g3 with g3 | ⟨b, ver, rfl, e2, e3, e4⟩
    · exact .inl g3
    · exact .inr ⟨b, ver, rfl, e2, h1 _ _ _ (by omega) e3, e4⟩
  have hse2 := keepS hse1 k2 m2
  have hbl : ∀ K, aLen Try.prog K 141 (.bs ⟨K2.length, 0, 0, s.length, 0, 1, false, false⟩) = some (.int .i64 s.length) := fun K => by simp [aLen, Try.underlying141]
  refine raw_slimE rfl (by kernel_rfl) (by kernel_rfl) (by kernel_rfl) Try.func70 s70 (by simp [Try.f70]) fun fr hlen h => ?_
  simp only [Has, Nat.zero_add] at h
  obtain ⟨a0, a1, a2, -⟩ := h
  simp only [Try.f70] at hlen ⊢
  unfold g70
  unfold encM at a0 n1
  simp only [wk, aBuiltin, AV.cells, AV.leaf, Nat.reduceEqDiff, Nat.reduceLT, Nat.reduceAdd, Nat.reduceLeDiff, reduceCtorEq, Nat.reduceMul, cfgP, u90, hlen, a0, a1, a2, hl1, n1, n2', cv]
  refine loop_ruleE (fun m fr H' => ∃ (k i : Nat) (v : AV) (o : List Nat) (pre : List (Nat × List Nat)), m = s.length - k ∧ k ≤ s.length ∧ i ≤ k + 1 ∧ fr.length = 53 ∧ fget fr 0 = .vptr [slv encSt l, .int .i64 (a : Nat)] 0 ∧ fget fr 2 = .func f [] caps ∧ fget fr 7 = .ptr (H.length + 1) 0 0 ∧ fget fr 8 = .bs ⟨K2.length, 0, 0, s.length, 0, 1, false, false⟩ ∧ fget fr 9 = .int .i64 (k : Nat) ∧
    SetAt H' (H.length + 1) H.length v o ∧ o.Nodup ∧ (∀ x ∈ o, x < l.length) ∧ hget H' K2.length 0 = some (cellsOf encB s) ∧ (∀ b, v = .bs b → b.b ≠ K2.length) ∧ Q i (told upd q0 ((0, o1) :: pre)) ∧ Caps H' (L (told upd q0 ((0, o1) :: pre))) ∧
    (∀ os, RunRel l s k o os → RunRel l s 0 o1 (pre ++ os)) ∧ (runesU s).isSome = (runesU (s.drop k)).isSome) ?_ s.length _ _
    ⟨0, 1, v1, o1, [], by omega, by omega, by omega, by simp [wk, aBuiltin, AV.cells, AV.leaf, Nat.reduceEqDiff, Nat.reduceLT, Nat.reduceAdd, Nat.reduceLeDiff, reduceCtorEq, Nat.reduceMul, cfgP, u90, hlen], by simp [wk, aBuiltin, AV.cells, AV.leaf, Nat.reduceEqDiff, Nat.reduceLT, Nat.reduceAdd, Nat.reduceLeDiff, reduceCtorEq, Nat.reduceMul, cfgP, u90, hlen, a0], by simp [wk, aBuiltin, AV.cells, AV.leaf, Nat.reduceEqDiff, Nat.reduceLT, Nat.reduceAdd, Nat.reduceLeDiff, reduceCtorEq, Nat.reduceMul, cfgP, u90, hlen, a2], by simp [wk, aBuiltin, AV.cells, AV.leaf, Nat.reduceEqDiff, Nat.reduceLT, Nat.reduceAdd, Nat.reduceLeDiff, reduceCtorEq, Nat.reduceMul, cfgP, u90, hlen], by simp [wk, aBuiltin, AV.cells, AV.leaf, Nat.reduceEqDiff, Nat.reduceLT, Nat.reduceAdd, Nat.reduceLeDiff, reduceCtorEq, Nat.reduceMul, cfgP, u90, hlen], by simp [wk, aBuiltin, AV.cells, AV.leaf, Nat.reduceEqDiff, Nat.reduceLT, Nat.reduceAdd, Nat.reduceLeDiff, reduceCtorEq, Nat.reduceMul, cfgP, u90, hlen], hse2.more _, hnd1, hlt1, by rw [hget_new rfl]; rfl, fun b hb => by have := hse2.blk b hb; omega, hQ1, fun p hp => hget_mono (hc2 p hp) _, fun os h => h, rfl⟩
  clear a0 a1 a2 hlen fr
  rintro m fr H' ⟨k, i, v, o, pre, rfl, hk, hik, hlen, b0, b2, b7, b8, b9, hse, hnd, hlt, hg, hvb, hQi, hci, hrel, hval⟩ ih
  by_cases hks : k < s.length
  · have d1 : decide (((k : Nat) : Int) < (s.length : Nat)) = true := decide_eq_true (by omega)
    obtain ⟨b2', e1, e2⟩ := bytes_cut Try.underlying141 sz5 hg hks
    have hgl := hget_lt hg
    have e3 := next_ok (s.drop k) b2' _ true (.vs _ _) (by simp; omega) prot H' (by omega) e2
    have hpos := nextU_pos (b := s.drop k)
    have hst := runesU_step hks
    rw [hst] at hval
    simp only [List.length_drop] at hpos
    have hstepR := fun (o' : List Nat) (os : List (Nat × List Nat)) => RunRel.step (l := l) (s := s) (k := k) (o := o) (o' := o') (os := os) hks
    have hbadR := RunRel.bad (l := l) (s := s) (k := k) (o := o) hks
    generalize nextU (s.drop k) = w at *
    obtain ⟨c, wd, e⟩ := w
    dsimp only at hpos e3 hval hstepR hbadR
    by_cases he : e = 0
    · subst he
      obtain ⟨hw0, hwl⟩ := hpos rfl
      rw [dif_pos rfl] at hval
      have w1 : IntKind.i64.wrap ((k : Int) + (wd : Int)) = ((k + wd : Nat) : Int) := by rw [wrap64 (by omega) (by omega)]; simp
      have d2 : decide (¬ (0 : Int) = 0) = false := rfl
      obtain ⟨K3, ⟨v3, o3, hse3, hnd3, hlt3, hcl3, hm3, f3⟩, n3⟩ := step_ok l hr hsp a c hln (H.length + 1) H.length prot v o H' hp (by omega) hse hnd hlt
      have hle3 := f3.len
      have hc3 : Caps K3 (L (told upd q0 ((0, o1) :: pre))) := fun p hp => by
        have := ht _ p hp
        exact f3.keep _ _ _ (by omega) (by omega) (fun b hb => by have := hse.blk b hb; omega) (hci p hp)
      have hg3 := f3.keep _ _ _ (by omega) (by omega) hvb hg
      have hvb3 : ∀ b, v3 = .bs b → b.b ≠ K2.length := fun b hb => by
        rcases f3.blk b hb with ⟨b0', q1, q2⟩ | h
        · rw [q2]; exact hvb b0' q1
        · omega
      obtain ⟨hQ4, K4, ⟨hc4, hl4, k4, m4⟩, n4⟩ := hT _ i (k + wd) (H.length + 1) H.length v3 o3 K3 hse3 hnd3 hlt3 (by omega) (by omega) hQi hc3 (by omega) (by omega)
      have n4' : aLim cfg prot f (.int .i64 ((k + wd : Nat) : Int) :: .ptr (H.length + 1) 0 0 :: caps) K3 = some (.tup [], some K4) := n4
      have htl := told_snoc upd q0 ((0, o1) :: pre) (k + wd, o3)
      dsimp only at htl
      rw [← htl] at hQ4 hc4
      unfold encM at n3
      simp only [wk, aBuiltin, AV.cells, AV.leaf, Nat.reduceEqDiff, Nat.reduceLT, Nat.reduceAdd, Nat.reduceLeDiff, reduceCtorEq, Nat.reduceMul, cfgP, u90, hlen, b0, b2, b7, b8, b9, hbl, d1, e1, e3, d2, w1, n3, n4']
      refine ih _ _ (s.length - (k + wd)) (by omega) ⟨k + wd, i + 1, v3, o3, pre ++ [(k + wd, o3)], rfl, by omega, by omega, by simp [wk, aBuiltin, AV.cells, AV.leaf, Nat.reduceEqDiff, Nat.reduceLT, Nat.reduceAdd, Nat.reduceLeDiff, reduceCtorEq, Nat.reduceMul, cfgP, u90, hlen], by simp [wk, aBuiltin, AV.cells, AV.leaf, Nat.reduceEqDiff, Nat.reduceLT, Nat.reduceAdd, Nat.reduceLeDiff, reduceCtorEq, Nat.reduceMul, cfgP, u90, hlen, b0], by simp [wk, aBuiltin, AV.cells, AV.leaf, Nat.reduceEqDiff, Nat.reduceLT, Nat.reduceAdd, Nat.reduceLeDiff, reduceCtorEq, Nat.reduceMul, cfgP, u90, hlen, b2], by simp [wk, aBuiltin, AV.cells, AV.leaf, Nat.reduceEqDiff, Nat.reduceLT, Nat.reduceAdd, Nat.reduceLeDiff, reduceCtorEq, Nat.reduceMul, cfgP, u90, hlen, b7], by simp [wk, aBuiltin, AV.cells, AV.leaf, Nat.reduceEqDiff, Nat.reduceLT, Nat.reduceAdd, Nat.reduceLeDiff, reduceCtorEq, Nat.reduceMul, cfgP, u90, hlen, b8], by simp [wk, aBuiltin, AV.cells, AV.leaf, Nat.reduceEqDiff, Nat.reduceLT, Nat.reduceAdd, Nat.reduceLeDiff, reduceCtorEq, Nat.reduceMul, cfgP, u90, hlen], keepS hse3 k4 m4, hnd3, hlt3, k4 _ _ _ (by omega) hg3, hvb3, hQ4, hc4, fun os hos => ?_, ?_⟩
      · rw [List.append_assoc]
        exact hrel _ (hstepR o3 os rfl hnd3 hlt3 hm3 hos)
      · rw [hval]; cases runesU (s.drop (k + wd)) <;> rfl
    · rw [dif_neg he] at hval
      have d2 : decide (¬ e = 0) = true := decide_eq_true he
      have hrr := hrel [] (hbadR he)
      rw [List.append_nil] at hrr
      simp only [wk, aBuiltin, AV.cells, AV.leaf, Nat.reduceEqDiff, Nat.reduceLT, Nat.reduceAdd, Nat.reduceLeDiff, reduceCtorEq, Nat.reduceMul, cfgP, u90, hlen, b0, b2, b7, b8, b9, hbl, d1, e1, e3, d2]
      rw [hval]
      exact ⟨_, ⟨o1, pre, hnd1, hlt1, fun x => by rw [hm1]; simp, hrr, hci⟩, Fin_raw (l := [.bool false]) (by simp [wk, aBuiltin, AV.cells, AV.leaf, Nat.reduceEqDiff, Nat.reduceLT, Nat.reduceAdd, Nat.reduceLeDiff, reduceCtorEq, Nat.reduceMul, cfgP, u90, hlen, aResults, aResult])⟩
  · have d1 : decide (((k : Nat) : Int) < (s.length : Nat)) = false := decide_eq_false (by omega)
    rw [runes_end (by omega)] at hval
    have hrr := hrel [] (.done (by omega))
    rw [List.append_nil] at hrr
    simp only [wk, aBuiltin, AV.cells, AV.leaf, Nat.reduceEqDiff, Nat.reduceLT, Nat.reduceAdd, Nat.reduceLeDiff, reduceCtorEq, Nat.reduceMul, cfgP, u90, hlen, b0, b2, b7, b8, b9, hbl, d1]
    rw [hval]
    exact ⟨_, ⟨o1, pre, hnd1, hlt1, fun x => by rw [hm1]; simp, hrr, hci⟩, Fin_raw (l := [.bool true]) (by simp [wk, aBuiltin, AV.cells, AV.leaf, Nat.reduceEqDiff, Nat.reduceLT, Nat.reduceAdd, Nat.reduceLeDiff, reduceCtorEq, Nat.reduceMul, cfgP, u90, hlen, aResults, aResult])⟩
end Go.Proofs.Ytoblikhnbddfmaa
/-! Chapter 16: what a machine's run tells, walked. -/
namespace Go.Proofs.Ytoblikhnbddfmaa
open Go Go.Abs AbsSeat Ty

theorem nilM (cs : List AV) (xo yo : Operand) : aBin Try.prog .eql 75 xo yo (.vptr cs 0) .nil = some (.bool false) := by simp [aBin, aNilNe, Try.underlying75]
def kd (l : List St) (k : Nat) : Int := match l[k]? with | some s => s.kind | none => 0
/-- is a Halt among states? -/
def haltS (l : List St) (o : List Nat) : Bool := o.any fun k => decide (kd l k = 3)

theorem halts_ok (l : List St) (a s r : Nat) (v : AV) (o : List Nat) (H : Heap) (hse : SetAt H s r v o) (hlt : ∀ x ∈ o, x < l.length) (hol : o.length ≤ 1000000) (prot : Nat) (hp : prot ≤ H.length) :
    aLim cfg prot 72 [.ptr s 0 0, encM l a] H = some (.bool (haltS l o), none) := by
  have hsnap : snap H [.ptr s 0 0, encM l a] = some ([.ptr s 0 0, encM l a], false) := rfl
  have hvS := slv_sl encSt l
  have hvl := hse.2.2.len (P := Try.prog) Try.underlying90
  refine pure_slim rfl (by kernel_rfl) Try.func72 s72 hp hsnap (by simp [Try.f72]) fun fr hlen h => ?_
  simp only [Has, Nat.zero_add] at h
  obtain ⟨a0, a1, -⟩ := h
  simp only [Try.f72] at hlen ⊢
  unfold g72
  unfold encM at a1
  simp only [wk, aBuiltin, AV.cells, AV.leaf, Nat.reduceEqDiff, Nat.reduceLT, Nat.reduceAdd, Nat.reduceLeDiff, reduceCtorEq, Nat.reduceMul, cfgP, u90, hlen, a0, a1, hse.1, hvl]
  refine loop_rule (fun m fr H' => ∃ (i : Nat), m = o.length - i ∧ i ≤ o.length ∧ fr.length = 26 ∧ fget fr 1 = .vptr [slv encSt l, .int .i64 (a : Nat)] 0 ∧ fget fr 10 = v ∧ fget fr 11 = .int .i64 (o.length : Nat) ∧ fget fr 12 = .int .i64 (i : Nat) ∧ H' = H ∧ haltS l o = haltS l (o.drop i)) ?_ o.length _ _
    ⟨0, by omega, by omega, by simp [wk, aBuiltin, AV.cells, AV.leaf, Nat.reduceEqDiff, Nat.reduceLT, Nat.reduceAdd, Nat.reduceLeDiff, reduceCtorEq, Nat.reduceMul, cfgP, u90, hlen], by simp [wk, aBuiltin, AV.cells, AV.leaf, Nat.reduceEqDiff, Nat.reduceLT, Nat.reduceAdd, Nat.reduceLeDiff, reduceCtorEq, Nat.reduceMul, cfgP, u90, hlen, a1], by simp [wk, aBuiltin, AV.cells, AV.leaf, Nat.reduceEqDiff, Nat.reduceLT, Nat.reduceAdd, Nat.reduceLeDiff, reduceCtorEq, Nat.reduceMul, cfgP, u90, hlen], by simp [wk, aBuiltin, AV.cells, AV.leaf, Nat.reduceEqDiff, Nat.reduceLT, Nat.reduceAdd, Nat.reduceLeDiff, reduceCtorEq, Nat.reduceMul, cfgP, u90, hlen], by simp [wk, aBuiltin, AV.cells, AV.leaf, Nat.reduceEqDiff, Nat.reduceLT, Nat.reduceAdd, Nat.reduceLeDiff, reduceCtorEq, Nat.reduceMul, cfgP, u90, hlen], rfl, rfl⟩
  clear a0 a1 hlen fr
  rintro m fr H' ⟨i, rfl, hi, hlen, b1, b10, b11, b12, rfl, hc⟩ ih
  by_cases hil : i < o.length
  · have d1 : decide (((i : Nat) : Int) < (o.length : Nat)) = true := decide_eq_true (by omega)
    have hw : IntKind.i64.wrap ((i : Int) + 1) = ((i + 1 : Nat) : Int) := by rw [wrap64 (by omega) (by omega)]; simp
    obtain ⟨vb, ver, eI, eg, ec⟩ := rowK_at hse.2.2 hil
    have hd : o.drop i = o[i] :: o.drop (i + 1) := by simp
    have hj0 := hlt o[i] (List.getElem_mem hil)
    generalize o[i] = j at *
    rw [hd] at hc
    have e1 := hvS.at (P := Try.prog) (k := .i64) (i := j) Try.underlying53 sz116 encSt_T.len hj0
    have hkd : kd l j = l[j].kind := by unfold kd; rw [List.getElem?_eq_getElem hj0]
    generalize l[j] = sj at *
    simp only [encSt, AV.cells] at e1
    have hcc : haltS l (j :: o.drop (i + 1)) = (decide (sj.kind = 3) || haltS l (o.drop (i + 1))) := by unfold haltS; rw [List.any_cons, hkd]
    rw [hcc] at hc
    by_cases h3 : sj.kind = 3
    · have d2 : decide (sj.kind = 3) = true := decide_eq_true h3
      rw [d2, Bool.true_or] at hc
      rw [hc]
      simp only [wk, aBuiltin, AV.cells, AV.leaf, Nat.reduceEqDiff, Nat.reduceLT, Nat.reduceAdd, Nat.reduceLeDiff, reduceCtorEq, Nat.reduceMul, cfgP, u90, hlen, b1, b10, b11, b12, d1, eI, eg, ec, e1, d2]
      exact Fin_pure (l := [.bool true]) (by simp [wk, aBuiltin, AV.cells, AV.leaf, Nat.reduceEqDiff, Nat.reduceLT, Nat.reduceAdd, Nat.reduceLeDiff, reduceCtorEq, Nat.reduceMul, cfgP, u90, aResults, aResult, hlen]) (.still rfl) (by simp)
    · have d2 : decide (sj.kind = 3) = false := decide_eq_false h3
      rw [d2, Bool.false_or] at hc
      simp only [wk, aBuiltin, AV.cells, AV.leaf, Nat.reduceEqDiff, Nat.reduceLT, Nat.reduceAdd, Nat.reduceLeDiff, reduceCtorEq, Nat.reduceMul, cfgP, u90, hlen, b1, b10, b11, b12, d1, eI, eg, ec, e1, d2, hw]
      exact ih _ _ (o.length - (i + 1)) (by omega) ⟨i + 1, rfl, by omega, by simp [wk, aBuiltin, AV.cells, AV.leaf, Nat.reduceEqDiff, Nat.reduceLT, Nat.reduceAdd, Nat.reduceLeDiff, reduceCtorEq, Nat.reduceMul, cfgP, u90, hlen], by simp [wk, aBuiltin, AV.cells, AV.leaf, Nat.reduceEqDiff, Nat.reduceLT, Nat.reduceAdd, Nat.reduceLeDiff, reduceCtorEq, Nat.reduceMul, cfgP, u90, hlen, b1], by simp [wk, aBuiltin, AV.cells, AV.leaf, Nat.reduceEqDiff, Nat.reduceLT, Nat.reduceAdd, Nat.reduceLeDiff, reduceCtorEq, Nat.reduceMul, cfgP, u90, hlen, b10], by simp [wk, aBuiltin, AV.cells, AV.leaf, Nat.reduceEqDiff, Nat.reduceLT, Nat.reduceAdd, Nat.reduceLeDiff, reduceCtorEq, Nat.reduceMul, cfgP, u90, hlen, b11], by simp [wk, aBuiltin, AV.cells, AV.leaf, Nat.reduceEqDiff, Nat.reduceLT, Nat.reduceAdd, Nat.reduceLeDiff, reduceCtorEq, Nat.reduceMul, cfgP, u90, hlen], rfl, hc⟩
  · have d1 : decide (((i : Nat) : Int) < (o.length : Nat)) = false := decide_eq_false (by omega)
    rw [List.drop_of_length_le (by omega)] at hc
    have : haltS l [] = false := rfl
    rw [this] at hc
    rw [hc]
    simp only [wk, aBuiltin, AV.cells, AV.leaf, Nat.reduceEqDiff, Nat.reduceLT, Nat.reduceAdd, Nat.reduceLeDiff, reduceCtorEq, Nat.reduceMul, cfgP, u90, hlen, b1, b10, b11, b12, d1]
    exact Fin_pure (l := [.bool false]) (by simp [wk, aBuiltin, AV.cells, AV.leaf, Nat.reduceEqDiff, Nat.reduceLT, Nat.reduceAdd, Nat.reduceLeDiff, reduceCtorEq, Nat.reduceMul, cfgP, u90, aResults, aResult, hlen]) (.still rfl) (by simp)

theorem steps1_ok (n c prot top : Nat) (hn : n ≤ 100000) (hp : prot ≤ c) (hct : c < top) : TellOk prot 73 [.ptr c 0 0] (fun q : Nat => [(c, [.int .i64 (q : Nat)])]) (fun q _ o => q + o.length) (fun i q => q ≤ i * n) n 20000 top := by
  intro q i a s r v o H hse hnd hlt ha hi hQ hc htr hrs
  have hol := nodup_len n o hnd hlt
  have hin : i * n ≤ 20000 * 100000 := Nat.mul_le_mul hi hn
  have hg := hc (c, [.int .i64 (q : Nat)]) (by simp)
  dsimp only at hg hQ
  have hQ' : q + o.length ≤ (i + 1) * n := by rw [Nat.succ_mul]; omega
  refine ⟨hQ', ?_⟩
  show ∃ H', _ ∧ aLim cfg prot 73 [.int .i64 (a : Nat), .ptr s 0 0, .ptr c 0 0] H = _
  have hvl := hse.2.2.len (P := Try.prog) Try.underlying90
  have hw : IntKind.i64.wrap ((q : Int) + (o.length : Int)) = ((q + o.length : Nat) : Int) := by rw [wrap64 (by omega) (by omega)]; simp
  have hput1 : hput prot H c 0 0 [.int .i64 ((q + o.length : Nat) : Int)] = some (H.set c (.cells 0 [.int .i64 ((q + o.length : Nat) : Int)])) := by
    rw [hput_eq hg hp (by simp) (by simp [AV.leaf])]; rfl
  refine raw_slimE rfl (by kernel_rfl) (by kernel_rfl) (by kernel_rfl) Try.func73 s73 (by simp [Try.f73]) fun fr hlen h => ?_
  simp only [Has, Nat.zero_add] at h
  obtain ⟨a0, a1, a2, -⟩ := h
  simp only [Try.f73] at hlen ⊢
  unfold g73
  simp only [wk, aBuiltin, AV.cells, AV.leaf, Nat.reduceEqDiff, Nat.reduceLT, Nat.reduceAdd, Nat.reduceLeDiff, reduceCtorEq, Nat.reduceMul, cfgP, u90, hlen, a0, a1, a2, hg, hse.1, hvl, hw, hput1]
  refine ⟨_, ⟨fun p hp => ?_, by simp, fun z ver cs hz h => by rw [hget_set_ne (by omega)]; exact h, fun z es h => ?_⟩, Fin_raw (l := []) (by simp [wk, aBuiltin, AV.cells, AV.leaf, Nat.reduceEqDiff, Nat.reduceLT, Nat.reduceAdd, Nat.reduceLeDiff, reduceCtorEq, Nat.reduceMul, cfgP, u90, hlen, aResults, aResult])⟩
  · simp only [List.mem_singleton] at hp
    rw [hp]
    exact hget_set_at (hget_lt hg)
  · by_cases hz : z = c
    · subst hz
      unfold hmap at h; unfold hget at hg
      split at hg
      · rename_i h2; rw [h2] at h; cases h
      · cases hg
    · rw [hmap_set_ne hz]; exact h

theorem steps_ok (l : List St) (hr : RightM l) (hsp : ∀ s ∈ l, s.sp.length < 1000000000) (a : Nat) (ha : a < l.length) (hln : l.length ≤ 100000) (s : List UInt8) (hs : s.length ≤ 10000) (prot : Nat) (H : Heap) (hp : prot ≤ H.length) :
    ∃ o0 os, (o0.Nodup ∧ (∀ x ∈ o0, x < l.length) ∧ (∀ x, x ∈ o0 ↔ Rch l a x) ∧ RunRel l s 0 o0 os) ∧ aLim cfg prot 43 [encM l a, .str s] H = some (.int .i64 (if (runesU s).isSome = true then ((told (fun (q : Nat) _ (o : List Nat) => q + o.length) 0 ((0, o0) :: os) : Nat) : Int) else 0), none) := by
  have hsnap : snap H [encM l a, .str s] = some ([encM l a, .str s], false) := by
    have := slvG_leaf ([] : List Sg)
    unfold encM; cases l <;> rfl
  have hg0 : hget (H ++ [Blk.cells 0 [.int .i64 0]]) H.length 0 = some [.int .i64 ((0 : Nat) : Int)] := by rw [hget_new rfl, if_pos rfl]; rfl
  obtain ⟨K, ⟨o0, os, h1, h2, h3, h4, hc⟩, n1⟩ := run_ok l hr hsp a ha hln s hs 73 [.ptr H.length 0 0] (fun q : Nat => [(H.length, [.int .i64 (q : Nat)])]) (fun q _ o => q + o.length) (fun i q => q ≤ i * l.length) 0 H.length (H ++ [Blk.cells 0 [.int .i64 0]]) (by simp)
    (steps1_ok l.length H.length H.length _ hln (Nat.le_refl _) (by simp)) (by simp) (fun p hp => by simp only [List.mem_singleton] at hp; rw [hp]; exact hg0) (fun q p hp => by simp only [List.mem_singleton] at hp; rw [hp]; simp)
  refine ⟨o0, os, ⟨h1, h2, h3, h4⟩, ?_⟩
  have hg := hc (H.length, [.int .i64 ((told (fun (q : Nat) _ (o : List Nat) => q + o.length) 0 ((0, o0) :: os) : Nat) : Int)]) (by simp)
  dsimp only at hg
  generalize told (fun (q : Nat) _ (o : List Nat) => q + o.length) 0 ((0, o0) :: os) = t at *
  generalize (runesU s).isSome = vd at *
  refine pure_slim rfl (by kernel_rfl) Try.func43 s43 hp hsnap (by simp [Try.f43]) fun fr hlen h => ?_
  simp only [Has, Nat.zero_add] at h
  obtain ⟨a0, a1, -⟩ := h
  simp only [Try.f43] at hlen ⊢
  unfold g43
  unfold encM at a0 n1
  cases vd with
  | true =>
    simp only [if_true]
    simp only [wk, aBuiltin, AV.cells, AV.leaf, Nat.reduceEqDiff, Nat.reduceLT, Nat.reduceAdd, Nat.reduceLeDiff, reduceCtorEq, Nat.reduceMul, cfgP, u90, hlen, a0, a1, nilM, n1, hg, none_beq]
    exact Fin_pure (l := [.int .i64 (t : Nat)]) (by simp [wk, aBuiltin, AV.cells, AV.leaf, Nat.reduceEqDiff, Nat.reduceLT, Nat.reduceAdd, Nat.reduceLeDiff, reduceCtorEq, Nat.reduceMul, cfgP, u90, aResults, aResult, hlen]) (.still rfl) (by simp)
  | false =>
    simp only [Bool.false_eq_true, if_false]
    simp only [wk, aBuiltin, AV.cells, AV.leaf, Nat.reduceEqDiff, Nat.reduceLT, Nat.reduceAdd, Nat.reduceLeDiff, reduceCtorEq, Nat.reduceMul, cfgP, u90, hlen, a0, a1, nilM, n1, hg, none_beq]
    exact Fin_pure (l := [.int .i64 0]) (by simp [wk, aBuiltin, AV.cells, AV.leaf, Nat.reduceEqDiff, Nat.reduceLT, Nat.reduceAdd, Nat.reduceLeDiff, reduceCtorEq, Nat.reduceMul, cfgP, u90, aResults, aResult, hlen]) (.still rfl) (by simp)

theorem match1_ok (l : List St) (a0' : Nat) (s : List UInt8) (c1 c2 c3 prot top : Nat) (hn : l.length ≤ 100000) (hp : prot ≤ c1) (h12 : c1 < c2) (h23 : c2 < c3) (hct : c3 < top) :
    TellOk prot 71 [.ptr c2 0 0, .ptr c1 0 0, .ptr c3 0 0] (fun q : Bool => [(c1, [encM l a0']), (c2, [.str s]), (c3, [.bool q])]) (fun _ a o => decide (a = s.length) && haltS l o) (fun _ _ => True) l.length 20000 top := by
  intro q i a sb r v o H hse hnd hlt ha hi hQ hc htr hrs
  have hol := nodup_len l.length o hnd hlt
  refine ⟨trivial, ?_⟩
  show ∃ H', _ ∧ aLim cfg prot 71 [.int .i64 (a : Nat), .ptr sb 0 0, .ptr c2 0 0, .ptr c1 0 0, .ptr c3 0 0] H = _
  have g1 := hc (c1, [encM l a0']) (by simp)
  have g2 := hc (c2, [.str s]) (by simp)
  have g3 := hc (c3, [.bool q]) (by simp)
  dsimp only at g1 g2 g3
  have hl1 := hget_lt g3
  have hln : ∀ K, aLen Try.prog K 9 (.str s) = some (.int .i64 s.length) := fun K => str_len Try.underlying9 s K
  have n1 := halts_ok l a0' sb r v o H hse hlt (by omega) prot (by omega)
  have hput1 : ∀ b : Bool, hput prot H c3 0 0 [.bool b] = some (H.set c3 (.cells 0 [.bool b])) := fun b => by
    rw [hput_eq g3 (by omega) (by simp) (by simp [AV.leaf])]; rfl
  have hde : decide (((a : Nat) : Int) = (s.length : Nat)) = decide (a = s.length) := by
    by_cases h : a = s.length
    · subst h; simp
    · rw [decide_eq_false h, decide_eq_false (by omega)]
  have fin : ∀ b : Bool, Caps (H.set c3 (.cells 0 [.bool b])) [(c1, [encM l a0']), (c2, [.str s]), (c3, [.bool b])] ∧ H.length = (H.set c3 (.cells 0 [.bool b])).length ∧ (∀ z ver cs, top ≤ z → hget H z ver = some cs → hget (H.set c3 (.cells 0 [.bool b])) z ver = some cs) ∧ (∀ z es, hmap H z = some es → hmap (H.set c3 (.cells 0 [.bool b])) z = some es) := fun b => by
    refine ⟨fun p hp => ?_, by simp, fun z ver cs hz h => by rw [hget_set_ne (by omega)]; exact h, fun z es h => ?_⟩
    · simp only [List.mem_cons, List.not_mem_nil, or_false] at hp
      rcases hp with rfl | rfl | rfl
      · dsimp only; rw [hget_set_ne (by omega)]; exact g1
      · dsimp only; rw [hget_set_ne (by omega)]; exact g2
      · exact hget_set_at hl1
    · by_cases hz : z = c3
      · subst hz
        unfold hmap at h; unfold hget at g3
        split at g3
        · rename_i h2; rw [h2] at h; cases h
        · cases g3
      · rw [hmap_set_ne hz]; exact h
  unfold encM at n1 g1
  by_cases has : a = s.length
  · rw [decide_eq_true has] at hde
    have fin := fin (haltS l o)
    simp only [decide_eq_true has, Bool.true_and]
    refine raw_slimE rfl (by kernel_rfl) (by kernel_rfl) (by kernel_rfl) Try.func71 s71 (by simp [Try.f71]) fun fr hlen h => ?_
    simp only [Has, Nat.zero_add] at h
    obtain ⟨a0, a1, a2, a3, a4, -⟩ := h
    simp only [Try.f71] at hlen ⊢
    unfold g71
    simp only [wk, aBuiltin, AV.cells, AV.leaf, Nat.reduceEqDiff, Nat.reduceLT, Nat.reduceAdd, Nat.reduceLeDiff, reduceCtorEq, Nat.reduceMul, cfgP, u90, hlen, a0, a1, a2, a3, a4, g1, g2, g3, hln, hde, n1, hput1]
    exact ⟨_, fin, Fin_raw (l := []) (by simp [wk, aBuiltin, AV.cells, AV.leaf, Nat.reduceEqDiff, Nat.reduceLT, Nat.reduceAdd, Nat.reduceLeDiff, reduceCtorEq, Nat.reduceMul, cfgP, u90, hlen, aResults, aResult])⟩
  · rw [decide_eq_false has] at hde
    have fin := fin false
    simp only [decide_eq_false has, Bool.false_and]
    refine raw_slimE rfl (by kernel_rfl) (by kernel_rfl) (by kernel_rfl) Try.func71 s71 (by simp [Try.f71]) fun fr hlen h => ?_
    simp only [Has, Nat.zero_add] at h
    obtain ⟨a0, a1, a2, a3, a4, -⟩ := h
    simp only [Try.f71] at hlen ⊢
    unfold g71
    simp only [wk, aBuiltin, AV.cells, AV.leaf, Nat.reduceEqDiff, Nat.reduceLT, Nat.reduceAdd, Nat.reduceLeDiff, reduceCtorEq, Nat.reduceMul, cfgP, u90, hlen, a0, a1, a2, a3, a4, g1, g2, g3, hln, hde, n1, hput1, none_beq]
    exact ⟨_, fin, Fin_raw (l := []) (by simp [wk, aBuiltin, AV.cells, AV.leaf, Nat.reduceEqDiff, Nat.reduceLT, Nat.reduceAdd, Nat.reduceLeDiff, reduceCtorEq, Nat.reduceMul, cfgP, u90, hlen, aResults, aResult])⟩

theorem match_ok (l : List St) (hr : RightM l) (hsp : ∀ s ∈ l, s.sp.length < 1000000000) (a : Nat) (ha : a < l.length) (hln : l.length ≤ 100000) (s : List UInt8) (hs : s.length ≤ 10000) (prot : Nat) (H : Heap) (hp : prot ≤ H.length) :
    ∃ o0 os, (o0.Nodup ∧ (∀ x ∈ o0, x < l.length) ∧ (∀ x, x ∈ o0 ↔ Rch l a x) ∧ RunRel l s 0 o0 os) ∧ aLim cfg prot 41 [encM l a, .str s] H = some (.bool ((runesU s).isSome && told (fun (_ : Bool) a o => decide (a = s.length) && haltS l o) false ((0, o0) :: os)), none) := by
  have hsnap : snap H [encM l a, .str s] = some ([encM l a, .str s], false) := by
    unfold encM; cases l <;> rfl
  have hb : ∀ X Y Z : List AV, (H ++ [Blk.cells 0 X] ++ [Blk.cells 0 Y] ++ [Blk.cells 0 Z]).length = H.length + 3 := fun X Y Z => by simp
  have hl1 : ∀ X, (H ++ [Blk.cells 0 X]).length = H.length + 1 := fun X => by simp
  have hl2 : ∀ X Y, (H ++ [Blk.cells 0 X] ++ [Blk.cells 0 Y]).length = H.length + 2 := fun X Y => by simp
  have g0 : ∀ X Y Z, hget (H ++ [Blk.cells 0 X] ++ [Blk.cells 0 Y] ++ [Blk.cells 0 Z]) H.length 0 = some X := fun X Y Z => hget_mono (hget_mono (by rw [hget_new rfl, if_pos rfl]) _) _
  have g1 : ∀ X Y Z, hget (H ++ [Blk.cells 0 X] ++ [Blk.cells 0 Y] ++ [Blk.cells 0 Z]) (H.length + 1) 0 = some Y := fun X Y Z => hget_mono (by rw [hget_new (hl1 X).symm, if_pos rfl]) _
  have g2 : ∀ X Y Z, hget (H ++ [Blk.cells 0 X] ++ [Blk.cells 0 Y] ++ [Blk.cells 0 Z]) (H.length + 2) 0 = some Z := fun X Y Z => by rw [hget_new (hl2 X Y).symm, if_pos rfl]
  obtain ⟨K, ⟨o0, os, h1, h2, h3, h4, hc⟩, n1⟩ := run_ok l hr hsp a ha hln s hs 71 [.ptr (H.length + 1) 0 0, .ptr H.length 0 0, .ptr (H.length + 2) 0 0] (fun q : Bool => [(H.length, [encM l a]), (H.length + 1, [.str s]), (H.length + 2, [.bool q])]) (fun _ a o => decide (a = s.length) && haltS l o) (fun _ _ => True) false H.length (H ++ [Blk.cells 0 [encM l a]] ++ [Blk.cells 0 [.str s]] ++ [Blk.cells 0 [.bool false]]) (by rw [hb]; omega)
    (match1_ok l a s H.length (H.length + 1) (H.length + 2) H.length _ hln (Nat.le_refl _) (by omega) (by omega) (by rw [hb]; omega)) trivial (fun p hp => by
      simp only [List.mem_cons, List.not_mem_nil, or_false] at hp
      rcases hp with rfl | rfl | rfl
      · exact g0 _ _ _
      · exact g1 _ _ _
      · exact g2 _ _ _) (fun q p hp => by
      simp only [List.mem_cons, List.not_mem_nil, or_false] at hp
      rw [hb]
      rcases hp with rfl | rfl | rfl <;> dsimp only <;> omega)
  refine ⟨o0, os, ⟨h1, h2, h3, h4⟩, ?_⟩
  have hg := hc (H.length + 2, [.bool (told (fun (_ : Bool) a o => decide (a = s.length) && haltS l o) false ((0, o0) :: os))]) (by simp)
  dsimp only at hg
  generalize told (fun (_ : Bool) a o => decide (a = s.length) && haltS l o) false ((0, o0) :: os) = t at *
  generalize (runesU s).isSome = vd at *
  have hpb : hput H.length (H ++ [Blk.cells 0 [encM l a]] ++ [Blk.cells 0 [.str s]] ++ [Blk.cells 0 [.bool false]]) (H.length + 2) 0 0 [.bool false] = some (H ++ [Blk.cells 0 [encM l a]] ++ [Blk.cells 0 [.str s]] ++ [Blk.cells 0 [.bool false]]) := by
    rw [hput_new (hl2 _ _).symm (by rw [hl2]; omega) (by simp) (by simp [AV.leaf])]; rfl
  refine pure_slim rfl (by kernel_rfl) Try.func41 s41 hp hsnap (by simp [Try.f41]) fun fr hlen h => ?_
  simp only [Has, Nat.zero_add] at h
  obtain ⟨a0, a1, -⟩ := h
  simp only [Try.f41] at hlen ⊢
  unfold g41
  unfold encM at a0 n1 hpb
  cases vd with
  | true =>
    simp only [Bool.true_and]
    simp only [wk, aBuiltin, AV.cells, AV.leaf, Nat.reduceEqDiff, Nat.reduceLT, Nat.reduceAdd, Nat.reduceLeDiff, reduceCtorEq, Nat.reduceMul, cfgP, u90, hlen, a0, a1, hl1, hl2, g0, g1, g2, hpb, nilM, n1, hg, none_beq]
    exact Fin_pure (l := [.bool t]) (by simp [wk, aBuiltin, AV.cells, AV.leaf, Nat.reduceEqDiff, Nat.reduceLT, Nat.reduceAdd, Nat.reduceLeDiff, reduceCtorEq, Nat.reduceMul, cfgP, u90, aResults, aResult, hlen]) (.still rfl) (by simp)
  | false =>
    simp only [Bool.false_and]
    simp only [wk, aBuiltin, AV.cells, AV.leaf, Nat.reduceEqDiff, Nat.reduceLT, Nat.reduceAdd, Nat.reduceLeDiff, reduceCtorEq, Nat.reduceMul, cfgP, u90, hlen, a0, a1, hl1, hl2, g0, g1, g2, hpb, nilM, n1, hg, none_beq]
    exact Fin_pure (l := [.bool false]) (by simp [wk, aBuiltin, AV.cells, AV.leaf, Nat.reduceEqDiff, Nat.reduceLT, Nat.reduceAdd, Nat.reduceLeDiff, reduceCtorEq, Nat.reduceMul, cfgP, u90, aResults, aResult, hlen]) (.still rfl) (by simp)
end Go.Proofs.Ytoblikhnbddfmaa
