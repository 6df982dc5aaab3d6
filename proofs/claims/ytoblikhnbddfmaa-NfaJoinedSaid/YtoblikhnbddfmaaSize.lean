import Derived.Test.YtoblikhnbddfmaaChDig
import Derived.Test.YtoblikhnbddfmaaAbsMore
/-! All, digits, Size, walked. -/
set_option linter.unusedSimpArgs false
namespace Go.Proofs.Ytoblikhnbddfmaa
open Go Go.Abs AbsSeat Ty

theorem u141 : type_of% (And.intro (fun (K : Heap) (n : Int) => conv_int Try.underlying5 Try.underlying179 K n) (And.intro (fun (K : Heap) (n : Int) => conv_int Try.underlying179 Try.underlying3 K n) (And.intro ag3 (And.intro sz3 (And.intro by3 (And.intro ze3 (And.intro Try.underlying3 (And.intro ag5 (And.intro sz5 (And.intro by5 (And.intro ze5 (And.intro Try.underlying5 (And.intro ag9 (And.intro sz9 (And.intro by9 (And.intro ze9 (And.intro Try.underlying9 (And.intro ag179 (And.intro sz179 (And.intro by179 (And.intro ze179 (And.intro Try.underlying179 (And.intro ag203 (And.intro sz203 (And.intro by203 (And.intro ze203 Try.underlying203)))))))))))))))))))))))))) := And.intro (fun (K : Heap) (n : Int) => conv_int Try.underlying5 Try.underlying179 K n) (And.intro (fun (K : Heap) (n : Int) => conv_int Try.underlying179 Try.underlying3 K n) (And.intro ag3 (And.intro sz3 (And.intro by3 (And.intro ze3 (And.intro Try.underlying3 (And.intro ag5 (And.intro sz5 (And.intro by5 (And.intro ze5 (And.intro Try.underlying5 (And.intro ag9 (And.intro sz9 (And.intro by9 (And.intro ze9 (And.intro Try.underlying9 (And.intro ag179 (And.intro sz179 (And.intro by179 (And.intro ze179 (And.intro Try.underlying179 (And.intro ag203 (And.intro sz203 (And.intro by203 (And.intro ze203 Try.underlying203)))))))))))))))))))))))))
def g141 : Code :=
  .seq (.region 0 #[q 4 (.assign (.const (.bool false))) 4] false) (.seq (.seq (.region 1 #[q 5 (.assign (ik 0)) 3] false) (.block 0 (.loop (.seq (.seq (.region 2 #[q 6 (.move (.tmp 1)) 203, q 7 (.binOp .neq 203 (.tmp 6) (.const .nilFunc) 203) 4, q 8 (.move (.tmp 7)) 4, qg 9 (.move (.tmp 5)) 3 2 true, qg 10 (.move (.tmp 0)) 9 2 true, qg 11 (bi .len #[.tmp 10] #[9]) 3 2 true, qg 12 (.binOp .lss 3 (.tmp 9) (.tmp 11) 3) 4 2 true, q 13 (.pick (.tmp 8) (.tmp 12) (.const (.bool false))) 4] false) (.cond (.tmp 13) .skip (.exit 0))) (.seq (.block 1 (.seq (.region 4 #[q 16 (.move (.tmp 1)) 203, q 17 (.move (.tmp 0)) 9, q 18 (.move (.tmp 5)) 3, q 19 (.index 9 (.tmp 17) (.tmp 18)) 5, q 20 (cv (.tmp 16) #[.tmp 19] #[5]) 4, q 21 (.unOp .not 4 (.tmp 20)) 4] false) (.cond (.tmp 21) (.seq (.region 5 #[q 4 (.assign (.const (.bool false))) 4] false) .ret) .skip))) (.region 3 #[q 14 (.move (.tmp 5)) 3, q 15 (.binOp .add 3 (.tmp 14) (ik 1) 3) 3, q 5 (.assign (.tmp 15)) 3] false)))))) (.seq (.region 6 #[q 22 (.move (.tmp 1)) 203, q 23 (.binOp .neq 203 (.tmp 22) (.const .nilFunc) 203) 4, q 4 (.assign (.tmp 23)) 4] false) .ret))
theorem s141 : Try.f141.body.map (slim cfg) = some g141 := by kernel_rfl
def g143 : Code :=
  .seq (.region 0 #[q 4 (.assign (.const (.int .u64 0))) 179, q 5 (.assign (ik 0)) 29] false) (.seq (.region 1 #[q 6 (.assign (.const (.int .u64 0))) 179] false) (.seq (.seq (.region 2 #[q 9 (.move (.tmp 0)) 9, q 10 (bi .len #[.tmp 9] #[9]) 3, q 11 (.move (ik 0)) 3] false) (.block 0 (.loop (.seq (.region 3 #[q 12 (.binOp .lss 3 (.tmp 11) (.tmp 10) 3) 4] false) (.seq (.cond (.tmp 12) .skip (.exit 0)) (.seq (.block 1 (.seq (.region 4 #[q 13 (.move (.tmp 11)) 3, q 7 (.assign (.tmp 13)) 3] false) (.seq (.region 5 #[q 14 (.move (.tmp 0)) 9, q 15 (.move (.tmp 7)) 3, q 16 (.index 9 (.tmp 14) (.tmp 15)) 5, q 17 (.binOp .sub 5 (.tmp 16) (.const (.int .u8 48)) 5) 5, q 18 (.convert 5 179 (.tmp 17)) 179, q 8 (.assign (.tmp 18)) 179] false) (.seq (.seq (.region 6 #[q 19 (.move (.tmp 6)) 179, q 20 (.move (.tmp 1)) 179, q 21 (.move (.tmp 8)) 179, q 22 (.binOp .sub 179 (.tmp 20) (.tmp 21) 179) 179, q 23 (.binOp .quo 179 (.tmp 22) (.const (.int .u64 10)) 179) 179, q 24 (.binOp .gtr 179 (.tmp 19) (.tmp 23) 179) 4] false) (.cond (.tmp 24) (.seq (.region 7 #[q 4 (.assign (.const (.int .u64 0))) 179, q 5 (.assign (ik 5)) 29] false) .ret) .skip)) (.region 8 #[q 25 (.move (.tmp 6)) 179, q 26 (.binOp .mul 179 (.tmp 25) (.const (.int .u64 10)) 179) 179, q 27 (.move (.tmp 8)) 179, q 28 (.binOp .add 179 (.tmp 26) (.tmp 27) 179) 179, q 6 (.assign (.tmp 28)) 179] false))))) (.region 9 #[q 29 (.binOp .add 3 (.tmp 11) (ik 1) 3) 3, q 11 (.move (.tmp 29)) 3] false))))))) (.seq (.region 10 #[q 30 (.move (.tmp 6)) 179, q 4 (.assign (.tmp 30)) 179, q 5 (.assign (ik 0)) 29] false) .ret)))
theorem s143 : Try.f143.body.map (slim cfg) = some g143 := by kernel_rfl
def g137 : Code :=
  .seq (.region 0 #[q 2 (.assign (ik 0)) 3, q 3 (.assign (ik 0)) 29] false) (.seq (.seq (.region 1 #[q 6 (.move (.tmp 0)) 9, q 7 (.binOp .eql 9 (.tmp 6) (.const (.string { data := #[] })) 9) 4, q 8 (.move (.tmp 7)) 4, qg 9 (.move (.tmp 0)) 9 2 false, qg 10 (cl 141 #[.tmp 9, .func 142] #[9, 203]) 4 2 false, qg 11 (.unOp .not 4 (.tmp 10)) 4 2 false, q 12 (.pick (.tmp 8) (.const (.bool true)) (.tmp 11)) 4] false) (.cond (.tmp 12) (.seq (.region 2 #[q 2 (.assign (ik 0)) 3, q 3 (.assign (ik 3)) 29] false) .ret) .skip)) (.seq (.region 3 #[q 14 (.move (.tmp 0)) 9, q 15 (cl 143 #[.tmp 14, .const (.int .u64 2147483647)] #[9, 179]) 205, q 13 (.move (.tmp 15)) 205, q 16 (.extract (.tmp 13) 0) 179, q 17 (.extract (.tmp 13) 1) 29, q 4 (.assign (.tmp 16)) 179, q 5 (.assign (.tmp 17)) 29] false) (.seq (.region 4 #[q 18 (.move (.tmp 4)) 179, q 19 (.convert 179 3 (.tmp 18)) 3, q 20 (.move (.tmp 5)) 29, q 2 (.assign (.tmp 19)) 3, q 3 (.assign (.tmp 20)) 29] false) .ret)))
theorem s137 : Try.f137.body.map (slim cfg) = some g137 := by kernel_rfl


theorem allF_ok (f : Nat) (p : Int → Bool) (hf : ∀ (c : UInt8) (prot : Nat) (H : Heap), prot ≤ H.length → aLim cfg prot f [.int .u8 c.toNat] H = some (.bool (p c.toNat), none)) (s : List UInt8) (hl : s.length ≤ 9223372036854775807) (prot : Nat) (H : Heap) (hp : prot ≤ H.length) :
    aLim cfg prot 141 [.str s, .func f [] []] H = some (.bool (s.all fun c => p c.toNat), none) := by
  have hsnap : snap H [.str s, .func f [] []] = some ([.str s, .func f [] []], false) := rfl
  have fnn : ∀ (K : Heap) (xo yo : Operand), aBinH Try.prog K .neq 203 xo yo (.func f [] []) .nilF = some (.bool true) := fun K xo yo => by simp [aBinH, aBin, aNilNe, Try.underlying203]
  refine pure_slim rfl (by kernel_rfl) Try.func141 s141 hp hsnap (by simp [Try.f141]) fun fr hlen h => ?_
  simp only [Has, Nat.zero_add] at h
  obtain ⟨a0, a1, -⟩ := h
  simp only [Try.f141] at hlen ⊢
  unfold g141
  simp only [wk, aBuiltin, AV.cells, AV.leaf, Nat.reduceEqDiff, Nat.reduceLT, Nat.reduceAdd, Nat.reduceLeDiff, reduceCtorEq, Nat.reduceMul, cfgP, u141, hlen, a0, a1]
  refine loop_rule (fun m fr H' => ∃ (i : Nat), m = s.length - i ∧ i ≤ s.length ∧ fr.length = 24 ∧ fget fr 0 = .str s ∧ fget fr 1 = .func f [] [] ∧ fget fr 5 = .int .i64 i ∧ H' = H
    ∧ (s.all fun c => p c.toNat) = ((s.drop i).all fun c => p c.toNat)) ?_ s.length _ _ ⟨0, by simp [wk, aBuiltin, AV.cells, AV.leaf, Nat.reduceEqDiff, Nat.reduceLT, Nat.reduceAdd, Nat.reduceLeDiff, reduceCtorEq, Nat.reduceMul, cfgP, u141, hlen, a0, a1]⟩
  rintro m fr H' ⟨i, rfl, hi, hlen, a0, a1, a5, rfl, hc⟩ ih
  simp only [wk, aBuiltin, AV.cells, AV.leaf, Nat.reduceEqDiff, Nat.reduceLT, Nat.reduceAdd, Nat.reduceLeDiff, reduceCtorEq, Nat.reduceMul, cfgP, u141, hlen, a0, a1, a5, fnn, str_len Try.underlying9]
  refine RC_split (fun h => ?_) (fun h => ?_)
  · have hlt : i < s.length := by simpa using h
    have hw : IntKind.i64.wrap ((i : Int) + 1) = ((i + 1 : Nat) : Int) := by rw [wrap64 (by omega) (by omega)]; simp
    have e1 := str_at (P := Try.prog) Try.underlying9 s (k := .i64) hlt
    have hd : s.drop i = s[i] :: s.drop (i + 1) := by simp
    rw [hd, List.all_cons] at hc
    generalize s[i] = x at *
    have n1 := hf x H'.length H' (Nat.le_refl _)
    cases hx : p (x.toNat : Int) with
    | true =>
      rw [hx] at n1 hc
      simp only [wk, aBuiltin, AV.cells, AV.leaf, Nat.reduceEqDiff, Nat.reduceLT, Nat.reduceAdd, Nat.reduceLeDiff, reduceCtorEq, Nat.reduceMul, cfgP, u141, hlen, a0, a1, a5, e1, n1, hw]
      refine ih _ _ (s.length - (i + 1)) (by omega) ⟨i + 1, rfl, hlt, ?_⟩
      rw [hc]
      simp [wk, aBuiltin, AV.cells, AV.leaf, Nat.reduceEqDiff, Nat.reduceLT, Nat.reduceAdd, Nat.reduceLeDiff, reduceCtorEq, Nat.reduceMul, cfgP, u141, hlen, a0, a1]
    | false =>
      rw [hx] at n1 hc
      simp only [wk, aBuiltin, AV.cells, AV.leaf, Nat.reduceEqDiff, Nat.reduceLT, Nat.reduceAdd, Nat.reduceLeDiff, reduceCtorEq, Nat.reduceMul, cfgP, u141, hlen, a0, a1, a5, e1, n1]
      rw [hc]
      simp only [Bool.false_and]
      exact Fin_pure (l := [.bool false]) (by simp [wk, aBuiltin, AV.cells, AV.leaf, Nat.reduceEqDiff, Nat.reduceLT, Nat.reduceAdd, Nat.reduceLeDiff, reduceCtorEq, Nat.reduceMul, cfgP, u141, aResults, aResult, hlen]) (.still rfl) (by simp)
  · have hnl : ¬ i < s.length := by simpa using h
    have hd : s.drop i = [] := by simp; omega
    rw [hd] at hc
    rw [hc]
    simp only [wk, aBuiltin, AV.cells, AV.leaf, Nat.reduceEqDiff, Nat.reduceLT, Nat.reduceAdd, Nat.reduceLeDiff, reduceCtorEq, Nat.reduceMul, cfgP, u141, hlen, a0, a1, fnn, List.all_nil]
    exact Fin_pure (l := [.bool true]) (by simp [wk, aBuiltin, AV.cells, AV.leaf, Nat.reduceEqDiff, Nat.reduceLT, Nat.reduceAdd, Nat.reduceLeDiff, reduceCtorEq, Nat.reduceMul, cfgP, u141, aResults, aResult, hlen]) (.still rfl) (by simp)

/-- the number of digits, if it is not above one. -/
def digGo (most : Nat) : Nat → List UInt8 → Option Nat
  | v, [] => some v
  | v, c :: r => if (most - (c.toNat - 48)) / 10 < v then none else digGo most (v * 10 + (c.toNat - 48)) r
def dig2 : Option Nat → AV
  | some v => .tup [.int .u64 v, .int .i64 0]
  | none => .tup [.int .u64 0, .int .i64 5]

theorem digits_ok (s : List UInt8) (most : Nat) (hs : ∀ c ∈ s, digitC c.toNat = true) (hm : 9 ≤ most) (hm2 : most < 18446744073709551616) (hl : s.length ≤ 9223372036854775807) (prot : Nat) (H : Heap) (hp : prot ≤ H.length) :
    aLim cfg prot 143 [.str s, .int .u64 most] H = some (dig2 (digGo most 0 s), none) := by
  have hsnap : snap H [.str s, .int .u64 most] = some ([.str s, .int .u64 most], false) := rfl
  have hfz : ∀ (K : Heap) (x y : AV), still x = true → still y = true → Frz K H.length (packR [x, y]) (.tup [x, y]) := fun K x y h1 h2 => .tup (.cons (.still h1) (.cons (.still h2) .nil))
  refine pure_slim rfl (by kernel_rfl) Try.func143 s143 hp hsnap (by simp [Try.f143]) fun fr hlen h => ?_
  simp only [Has, Nat.zero_add] at h
  obtain ⟨a0, a1, -⟩ := h
  simp only [Try.f143] at hlen ⊢
  unfold g143
  simp only [wk, aBuiltin, AV.cells, AV.leaf, Nat.reduceEqDiff, Nat.reduceLT, Nat.reduceAdd, Nat.reduceLeDiff, reduceCtorEq, Nat.reduceMul, cfgP, u141, hlen, a0, a1, str_len Try.underlying9]
  refine loop_rule (fun m fr H' => ∃ (i v : Nat), m = s.length - i ∧ i ≤ s.length ∧ fr.length = 31 ∧ fget fr 0 = .str s ∧ fget fr 1 = .int .u64 most ∧ fget fr 6 = .int .u64 v ∧ fget fr 10 = .int .i64 s.length ∧ fget fr 11 = .int .i64 i ∧ v ≤ most
    ∧ digGo most 0 s = digGo most v (s.drop i)) ?_ s.length _ _ ⟨0, 0, by simp [wk, aBuiltin, AV.cells, AV.leaf, Nat.reduceEqDiff, Nat.reduceLT, Nat.reduceAdd, Nat.reduceLeDiff, reduceCtorEq, Nat.reduceMul, cfgP, u141, hlen, a0, a1]⟩
  rintro m fr K ⟨i, v, rfl, hi, hlen, a0, a1, a6, a10, a11, hv, hc⟩ ih
  simp only [wk, aBuiltin, AV.cells, AV.leaf, Nat.reduceEqDiff, Nat.reduceLT, Nat.reduceAdd, Nat.reduceLeDiff, reduceCtorEq, Nat.reduceMul, cfgP, u141, hlen, a0, a1, a6, a10, a11]
  refine RC_split (fun h => ?_) (fun h => ?_)
  · have hlt : i < s.length := by simpa using h
    have hww : IntKind.i64.wrap ((i : Int) + 1) = ((i + 1 : Nat) : Int) := by rw [wrap64 (by omega) (by omega)]; simp
    have e1 := str_at (P := Try.prog) Try.underlying9 s (k := .i64) hlt
    have hd := hs s[i] (List.getElem_mem hlt)
    rw [List.drop_eq_getElem_cons hlt, digGo] at hc
    generalize s[i] = c at *
    have hd : 48 ≤ c.toNat ∧ c.toNat ≤ 57 := by unfold digitC at hd; simp at hd; omega
    obtain ⟨d, hcd, hd9⟩ : ∃ d : Nat, c.toNat = d + 48 ∧ d ≤ 9 := ⟨c.toNat - 48, by omega, by omega⟩
    have ed : c.toNat - 48 = d := by omega
    rw [ed] at hc
    have w1 : IntKind.u8.wrap ((c.toNat : Int) - 48) = (d : Int) := by
      rw [hcd]
      simp [IntKind.wrap, IntKind.bits, IntKind.signed]; omega
    have w2 : IntKind.u64.wrap ((d : Nat) : Int) = (d : Int) := wrapu64 (by omega) (by omega)
    have w3 : IntKind.u64.wrap ((most : Int) - (d : Nat)) = ((most - d : Nat) : Int) := by rw [wrapu64 (by omega) (by omega)]; omega
    have q1 : ∀ xo yo, aBin Try.prog .quo 179 xo yo (.int .u64 ((most - d : Nat) : Int)) (.int .u64 10) = some (.int .u64 (((most - d) / 10 : Nat) : Int)) := fun xo yo => by
      have h1 := Nat.div_le_self (most - d) 10
      rw [show (10 : Int) = ((10 : Nat) : Int) from rfl, bin_quo_nat (by omega)]
      generalize (most - d) / 10 = y at *
      rw [wrapu64 (by omega) (by omega)]
    by_cases hgt : (most - d) / 10 < v
    · have c1 : decide ((((most - d) / 10 : Nat) : Int) < (v : Nat)) = true := decide_eq_true (by omega)
      rw [if_pos hgt] at hc
      rw [hc]
      simp only [wk, aBuiltin, AV.cells, AV.leaf, Nat.reduceEqDiff, Nat.reduceLT, Nat.reduceAdd, Nat.reduceLeDiff, reduceCtorEq, Nat.reduceMul, cfgP, u141, hlen, a0, a1, a6, a10, a11, e1, w1, w2, w3, q1, c1]
      exact Fin_pure (l := [.int .u64 0, .int .i64 5]) (by simp [wk, aBuiltin, AV.cells, AV.leaf, Nat.reduceEqDiff, Nat.reduceLT, Nat.reduceAdd, Nat.reduceLeDiff, reduceCtorEq, Nat.reduceMul, cfgP, u141, hlen, aResults, aResult]) (hfz _ _ _ rfl rfl) (by simp [dig2, flat, flat1, flat0])
    · have c1 : decide ((((most - d) / 10 : Nat) : Int) < (v : Nat)) = false := decide_eq_false (by omega)
      rw [if_neg hgt] at hc
      have w4 : IntKind.u64.wrap ((v : Int) * 10) = ((v * 10 : Nat) : Int) := by rw [wrapu64 (by omega) (by omega)]; simp
      have w5 : IntKind.u64.wrap (((v * 10 : Nat) : Int) + (d : Nat)) = ((v * 10 + d : Nat) : Int) := by rw [wrapu64 (by omega) (by omega)]; simp
      simp only [wk, aBuiltin, AV.cells, AV.leaf, Nat.reduceEqDiff, Nat.reduceLT, Nat.reduceAdd, Nat.reduceLeDiff, reduceCtorEq, Nat.reduceMul, cfgP, u141, hlen, a0, a1, a6, a10, a11, e1, w1, w2, w3, q1, c1, w4, w5, hww]
      refine ih _ _ (s.length - (i + 1)) (by omega) ⟨i + 1, v * 10 + d, rfl, hlt, ?_⟩
      have hle : v * 10 + d ≤ most := by
        have := Nat.div_add_mod (most - d) 10
        omega
      rw [hc]
      simp [wk, aBuiltin, AV.cells, AV.leaf, Nat.reduceEqDiff, Nat.reduceLT, Nat.reduceAdd, Nat.reduceLeDiff, reduceCtorEq, Nat.reduceMul, cfgP, u141, hlen, a0, a1, a10, hle]
  · have hnl : ¬ i < s.length := by simpa using h
    rw [List.drop_eq_nil_of_le (by omega), digGo] at hc
    rw [hc]
    simp only [wk, aBuiltin, AV.cells, AV.leaf, Nat.reduceEqDiff, Nat.reduceLT, Nat.reduceAdd, Nat.reduceLeDiff, reduceCtorEq, Nat.reduceMul, cfgP, u141, hlen, a0, a1, a6, a10, a11]
    exact Fin_pure (l := [.int .u64 v, .int .i64 0]) (by simp [wk, aBuiltin, AV.cells, AV.leaf, Nat.reduceEqDiff, Nat.reduceLT, Nat.reduceAdd, Nat.reduceLeDiff, reduceCtorEq, Nat.reduceMul, cfgP, u141, hlen, aResults, aResult]) (hfz _ _ _ rfl rfl) (by simp [dig2, flat, flat1, flat0])
/-- a size: digits alone. -/
def sizeU (s : List UInt8) : Int × Int := if s = [] ∨ (s.all fun c => digitC c.toNat) = false then (0, 3) else match digGo 2147483647 0 s with
  | some v => ((v : Nat), 0)
  | none => (0, 5)
theorem digGo_le (most : Nat) : ∀ (s : List UInt8) (v x : Nat), v ≤ most → 9 ≤ most → (∀ c ∈ s, digitC c.toNat = true) → digGo most v s = some x → x ≤ most
  | [], v, x, hv, _, _, h => by simp only [digGo, Option.some.injEq] at h; omega
  | c :: r, v, x, hv, hm, hs, h => by
    have hd := hs c (by simp)
    have hd : 48 ≤ c.toNat ∧ c.toNat ≤ 57 := by unfold digitC at hd; simp at hd; omega
    rw [digGo] at h
    split at h
    · cases h
    · exact digGo_le most r _ x (by omega) hm (fun d hd => hs d (by simp [hd])) h

theorem size_ok (s : List UInt8) (hl : s.length ≤ 9223372036854775807) (prot : Nat) (H : Heap) (hp : prot ≤ H.length) : aLim cfg prot 137 [.str s] H = some (.tup [.int .i64 (sizeU s).1, .int .i64 (sizeU s).2], none) := by
  have hsnap : snap H [.str s] = some ([.str s], false) := rfl
  have hfz : ∀ (K : Heap) (x y : AV), still x = true → still y = true → Frz K H.length (packR [x, y]) (.tup [x, y]) := fun K x y h1 h2 => .tup (.cons (.still h1) (.cons (.still h2) .nil))
  have n1 := allF_ok 142 digitC (fun c prot H hp => digit_ok _ prot H hp) s hl H.length H (Nat.le_refl _)
  unfold sizeU
  refine pure_slim rfl (by kernel_rfl) Try.func137 s137 hp hsnap (by simp [Try.f137]) fun fr hlen h => ?_
  simp only [Has, Nat.zero_add] at h
  obtain ⟨a0, -⟩ := h
  simp only [Try.f137] at hlen ⊢
  unfold g137
  by_cases h0 : s = []
  · subst h0
    have e0 : ([] == ([] : List UInt8)) = true := rfl
    simp only [true_or, if_true]
    simp only [wk, aBuiltin, AV.cells, AV.leaf, Nat.reduceEqDiff, Nat.reduceLT, Nat.reduceAdd, Nat.reduceLeDiff, reduceCtorEq, Nat.reduceMul, cfgP, u141, hlen, a0, str_eql, e0, none_beq]
    exact Fin_pure (l := [.int .i64 0, .int .i64 3]) (by simp [wk, aBuiltin, AV.cells, AV.leaf, Nat.reduceEqDiff, Nat.reduceLT, Nat.reduceAdd, Nat.reduceLeDiff, reduceCtorEq, Nat.reduceMul, cfgP, u141, hlen, aResults, aResult]) (hfz _ _ _ rfl rfl) (by simp)
  · have e0 : (s == []) = false := by cases s with
      | nil => exact absurd rfl h0
      | cons => rfl
    cases ha : s.all fun c => digitC c.toNat with
    | false =>
      rw [ha] at n1
      simp only [h0, false_or, if_true]
      simp only [wk, aBuiltin, AV.cells, AV.leaf, Nat.reduceEqDiff, Nat.reduceLT, Nat.reduceAdd, Nat.reduceLeDiff, reduceCtorEq, Nat.reduceMul, cfgP, u141, hlen, a0, str_eql, e0, n1, none_beq]
      exact Fin_pure (l := [.int .i64 0, .int .i64 3]) (by simp [wk, aBuiltin, AV.cells, AV.leaf, Nat.reduceEqDiff, Nat.reduceLT, Nat.reduceAdd, Nat.reduceLeDiff, reduceCtorEq, Nat.reduceMul, cfgP, u141, hlen, aResults, aResult]) (hfz _ _ _ rfl rfl) (by simp)
    | true =>
      rw [ha] at n1
      have hs := List.all_eq_true.1 ha
      have n2 : aLim cfg H.length 143 [.str s, .int .u64 2147483647] H = some (dig2 (digGo 2147483647 0 s), none) := digits_ok s 2147483647 hs (by omega) (by omega) hl H.length H (Nat.le_refl _)
      simp only [h0, false_or, Bool.true_eq_false, if_false]
      cases hd : digGo 2147483647 0 s with
      | none =>
        rw [hd] at n2
        unfold dig2 at n2
        have w0 : IntKind.i64.wrap (0 : Int) = 0 := by decide
        simp only [wk, aBuiltin, AV.cells, AV.leaf, Nat.reduceEqDiff, Nat.reduceLT, Nat.reduceAdd, Nat.reduceLeDiff, reduceCtorEq, Nat.reduceMul, cfgP, u141, hlen, a0, str_eql, e0, n1, n2, w0, none_beq]
        exact Fin_pure (l := [.int .i64 0, .int .i64 5]) (by simp [wk, aBuiltin, AV.cells, AV.leaf, Nat.reduceEqDiff, Nat.reduceLT, Nat.reduceAdd, Nat.reduceLeDiff, reduceCtorEq, Nat.reduceMul, cfgP, u141, hlen, aResults, aResult]) (hfz _ _ _ rfl rfl) (by simp)
      | some v =>
        rw [hd] at n2
        unfold dig2 at n2
        have hle := digGo_le 2147483647 s 0 v (by omega) (by omega) hs hd
        have w0 : IntKind.i64.wrap ((v : Nat) : Int) = (v : Int) := wrap64 (by omega) (by omega)
        simp only [wk, aBuiltin, AV.cells, AV.leaf, Nat.reduceEqDiff, Nat.reduceLT, Nat.reduceAdd, Nat.reduceLeDiff, reduceCtorEq, Nat.reduceMul, cfgP, u141, hlen, a0, str_eql, e0, n1, n2, w0, none_beq]
        exact Fin_pure (l := [.int .i64 v, .int .i64 0]) (by simp [wk, aBuiltin, AV.cells, AV.leaf, Nat.reduceEqDiff, Nat.reduceLT, Nat.reduceAdd, Nat.reduceLeDiff, reduceCtorEq, Nat.reduceMul, cfgP, u141, hlen, aResults, aResult]) (hfz _ _ _ rfl rfl) (by simp)
end Go.Proofs.Ytoblikhnbddfmaa
