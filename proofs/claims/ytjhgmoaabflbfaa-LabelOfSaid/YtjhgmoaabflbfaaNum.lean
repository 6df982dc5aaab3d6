import Derived.Test.YtjhgmoaabflbfaaLabel
import Derived.Test.YtjhgmoaabflbfaaAbsMore
/-! Numbers as digits, walked. -/
set_option linter.unusedSimpArgs false
namespace Go.Proofs.Ytjhgmoaabflbfaa
open Go Go.Abs AbsSeat Ty

theorem u90 : type_of% (And.intro ag9 (And.intro sz9 (And.intro by9 (And.intro ze9 (And.intro Try.underlying9 (And.intro ag51 (And.intro sz51 (And.intro by51 (And.intro ze51 Try.underlying51))))))))) :=
  And.intro ag9 (And.intro sz9 (And.intro by9 (And.intro ze9 (And.intro Try.underlying9 (And.intro ag51 (And.intro sz51 (And.intro by51 (And.intro ze51 Try.underlying51))))))))
def g90 : Code :=
  Go.Code.seq (Go.Code.region 0 #[{ dst := some 4, op := Go.Op.assign (Go.Operand.const (Go.Value.string { data := #[] })), type := 9, pos := "", after := #[], guard := none }] false) (Go.Code.seq (Go.Code.region 1 #[{ dst := some 5, op := Go.Op.assign (Go.Operand.const (Go.Value.string { data := #[] })), type := 9, pos := "", after := #[], guard := none }] false) (Go.Code.seq (Go.Code.seq (Go.Code.region 2 #[{ dst := some 6, op := Go.Op.assign (Go.Operand.const (Go.Value.bool true)), type := 4, pos := "", after := #[], guard := none }] false) (Go.Code.block 0 (Go.Code.loop (Go.Code.seq (Go.Code.seq (Go.Code.region 3 #[{ dst := some 7, op := Go.Op.move (Go.Operand.tmp 6), type := 4, pos := "", after := #[], guard := none }] false) (Go.Code.cond (Go.Operand.tmp 7) Go.Code.skip (Go.Code.exit 0))) (Go.Code.seq (Go.Code.block 1 (Go.Code.seq (Go.Code.region 5 #[{ dst := some 10, op := Go.Op.move (Go.Operand.tmp 0), type := 51, pos := "", after := #[], guard := none }, { dst := some 11, op := Go.Op.move (Go.Operand.tmp 1), type := 51, pos := "", after := #[], guard := none }, { dst := some 12, op := Go.Op.binOp Go.BinOp.rem 51 (Go.Operand.tmp 10) (Go.Operand.tmp 11) 51, type := 51, pos := "", after := #[], guard := none }, { dst := some 13, op := Go.Op.move (Go.Operand.tmp 0), type := 51, pos := "", after := #[], guard := none }, { dst := some 14, op := Go.Op.move (Go.Operand.tmp 1), type := 51, pos := "", after := #[], guard := none }, { dst := some 15, op := Go.Op.binOp Go.BinOp.rem 51 (Go.Operand.tmp 13) (Go.Operand.tmp 14) 51, type := 51, pos := "", after := #[], guard := none }, { dst := some 16, op := Go.Op.binOp Go.BinOp.add 51 (Go.Operand.tmp 15) (Go.Operand.const (Go.Value.int Go.IntKind.u64 1)) 51, type := 51, pos := "", after := #[], guard := none }, { dst := some 17, op := Go.Op.slice 9 (Go.Operand.const (Go.Value.string { data := #[48, 49, 50, 51, 52, 53, 54, 55, 56, 57, 97, 98, 99, 100, 101, 102] })) (some (Go.Operand.tmp 12)) (some (Go.Operand.tmp 16)) none, type := 9, pos := "", after := #[], guard := none }, { dst := some 18, op := Go.Op.move (Go.Operand.tmp 5), type := 9, pos := "", after := #[], guard := none }, { dst := some 19, op := Go.Op.binOp Go.BinOp.add 9 (Go.Operand.tmp 17) (Go.Operand.tmp 18) 9, type := 9, pos := "", after := #[], guard := none }, { dst := some 5, op := Go.Op.assign (Go.Operand.tmp 19), type := 9, pos := "", after := #[], guard := none }] false) (Go.Code.region 6 #[{ dst := some 20, op := Go.Op.move (Go.Operand.tmp 0), type := 51, pos := "", after := #[], guard := none }, { dst := some 21, op := Go.Op.move (Go.Operand.tmp 1), type := 51, pos := "", after := #[], guard := none }, { dst := some 22, op := Go.Op.binOp Go.BinOp.quo 51 (Go.Operand.tmp 20) (Go.Operand.tmp 21) 51, type := 51, pos := "", after := #[], guard := none }, { dst := some 0, op := Go.Op.assign (Go.Operand.tmp 22), type := 51, pos := "", after := #[], guard := none }] false))) (Go.Code.region 4 #[{ dst := some 8, op := Go.Op.move (Go.Operand.tmp 0), type := 51, pos := "", after := #[], guard := none }, { dst := some 9, op := Go.Op.binOp Go.BinOp.gtr 51 (Go.Operand.tmp 8) (Go.Operand.const (Go.Value.int Go.IntKind.u64 0)) 51, type := 4, pos := "", after := #[], guard := none }, { dst := some 6, op := Go.Op.assign (Go.Operand.tmp 9), type := 4, pos := "", after := #[], guard := none }] false)))))) (Go.Code.seq (Go.Code.region 7 #[{ dst := some 23, op := Go.Op.move (Go.Operand.tmp 5), type := 9, pos := "", after := #[], guard := none }, { dst := some 4, op := Go.Op.assign (Go.Operand.tmp 23), type := 9, pos := "", after := #[], guard := none }] false) Go.Code.ret)))
theorem s90 : Try.f90.body.map (slim cfg) = some g90 := by kernel_rfl
theorem u71 : type_of% (And.intro (fun (K : Heap) (n : Int) => conv_int Try.underlying3 Try.underlying51 K n) (And.intro ag3 (And.intro sz3 (And.intro by3 (And.intro ze3 (And.intro Try.underlying3 (And.intro ag51 (And.intro sz51 (And.intro by51 (And.intro ze51 Try.underlying51)))))))))) :=
  And.intro (fun (K : Heap) (n : Int) => conv_int Try.underlying3 Try.underlying51 K n) (And.intro ag3 (And.intro sz3 (And.intro by3 (And.intro ze3 (And.intro Try.underlying3 (And.intro ag51 (And.intro sz51 (And.intro by51 (And.intro ze51 Try.underlying51)))))))))
def g71 : Code :=
  Go.Code.seq (Go.Code.region 0 #[{ dst := some 2, op := Go.Op.assign (Go.Operand.const (Go.Value.string { data := #[] })), type := 9, pos := "", after := #[], guard := none }] false) (Go.Code.seq (Go.Code.seq (Go.Code.region 1 #[{ dst := some 3, op := Go.Op.move (Go.Operand.tmp 0), type := 3, pos := "", after := #[], guard := none }, { dst := some 4, op := Go.Op.binOp Go.BinOp.lss 3 (Go.Operand.tmp 3) (Go.Operand.const (Go.Value.int Go.IntKind.i64 0)) 3, type := 4, pos := "", after := #[], guard := none }] false) (Go.Code.cond (Go.Operand.tmp 4) (Go.Code.seq (Go.Code.region 2 #[{ dst := some 2, op := Go.Op.assign (Go.Operand.const (Go.Value.string { data := #[] })), type := 9, pos := "", after := #[], guard := none }] false) Go.Code.ret) Go.Code.skip)) (Go.Code.seq (Go.Code.region 3 #[{ dst := some 5, op := Go.Op.move (Go.Operand.tmp 0), type := 3, pos := "", after := #[], guard := none }, { dst := some 6, op := Go.Op.convert 3 51 (Go.Operand.tmp 5), type := 51, pos := "", after := #[], guard := none }, { dst := some 7, op := Go.Op.call { callee := Go.Callee.value (Go.Operand.func 90), args := #[Go.Operand.tmp 6, Go.Operand.const (Go.Value.int Go.IntKind.u64 16)], argTypes := #[51, 51] }, type := 9, pos := "", after := #[], guard := none }, { dst := some 2, op := Go.Op.assign (Go.Operand.tmp 7), type := 9, pos := "", after := #[], guard := none }] false) Go.Code.ret))
theorem s71 : Try.f71.body.map (slim cfg) = some g71 := by kernel_rfl
theorem u72 : type_of% (And.intro ag3 (And.intro sz3 (And.intro by3 (And.intro ze3 (And.intro Try.underlying3 (And.intro ag9 (And.intro sz9 (And.intro by9 (And.intro ze9 Try.underlying9))))))))) :=
  And.intro ag3 (And.intro sz3 (And.intro by3 (And.intro ze3 (And.intro Try.underlying3 (And.intro ag9 (And.intro sz9 (And.intro by9 (And.intro ze9 Try.underlying9))))))))
def g72 : Code :=
  Go.Code.seq (Go.Code.region 0 #[{ dst := some 2, op := Go.Op.assign (Go.Operand.const (Go.Value.string { data := #[] })), type := 9, pos := "", after := #[], guard := none }] false) (Go.Code.seq (Go.Code.seq (Go.Code.region 1 #[{ dst := some 4, op := Go.Op.move (Go.Operand.tmp 0), type := 3, pos := "", after := #[], guard := none }, { dst := some 5, op := Go.Op.binOp Go.BinOp.lss 3 (Go.Operand.tmp 4) (Go.Operand.const (Go.Value.int Go.IntKind.i64 0)) 3, type := 4, pos := "", after := #[], guard := none }] false) (Go.Code.cond (Go.Operand.tmp 5) (Go.Code.seq (Go.Code.region 2 #[{ dst := some 2, op := Go.Op.assign (Go.Operand.const (Go.Value.string { data := #[] })), type := 9, pos := "", after := #[], guard := none }] false) Go.Code.ret) Go.Code.skip)) (Go.Code.seq (Go.Code.region 3 #[{ dst := some 6, op := Go.Op.move (Go.Operand.tmp 0), type := 3, pos := "", after := #[], guard := none }, { dst := some 7, op := Go.Op.binOp Go.BinOp.rem 3 (Go.Operand.tmp 6) (Go.Operand.const (Go.Value.int Go.IntKind.i64 16)) 3, type := 3, pos := "", after := #[], guard := none }, { dst := some 8, op := Go.Op.move (Go.Operand.tmp 0), type := 3, pos := "", after := #[], guard := none }, { dst := some 9, op := Go.Op.binOp Go.BinOp.rem 3 (Go.Operand.tmp 8) (Go.Operand.const (Go.Value.int Go.IntKind.i64 16)) 3, type := 3, pos := "", after := #[], guard := none }, { dst := some 10, op := Go.Op.binOp Go.BinOp.add 3 (Go.Operand.tmp 9) (Go.Operand.const (Go.Value.int Go.IntKind.i64 1)) 3, type := 3, pos := "", after := #[], guard := none }, { dst := some 11, op := Go.Op.slice 9 (Go.Operand.const (Go.Value.string { data := #[48, 49, 50, 51, 52, 53, 54, 55, 56, 57, 97, 98, 99, 100, 101, 102] })) (some (Go.Operand.tmp 7)) (some (Go.Operand.tmp 10)) none, type := 9, pos := "", after := #[], guard := none }, { dst := some 3, op := Go.Op.assign (Go.Operand.tmp 11), type := 9, pos := "", after := #[], guard := none }] false) (Go.Code.seq (Go.Code.seq (Go.Code.region 4 #[{ dst := some 12, op := Go.Op.move (Go.Operand.tmp 0), type := 3, pos := "", after := #[], guard := none }, { dst := some 13, op := Go.Op.binOp Go.BinOp.lss 3 (Go.Operand.tmp 12) (Go.Operand.const (Go.Value.int Go.IntKind.i64 16)) 3, type := 4, pos := "", after := #[], guard := none }] false) (Go.Code.cond (Go.Operand.tmp 13) (Go.Code.seq (Go.Code.region 5 #[{ dst := some 14, op := Go.Op.move (Go.Operand.tmp 3), type := 9, pos := "", after := #[], guard := none }, { dst := some 2, op := Go.Op.assign (Go.Operand.tmp 14), type := 9, pos := "", after := #[], guard := none }] false) Go.Code.ret) Go.Code.skip)) (Go.Code.seq (Go.Code.region 6 #[{ dst := some 15, op := Go.Op.move (Go.Operand.tmp 0), type := 3, pos := "", after := #[], guard := none }, { dst := some 16, op := Go.Op.binOp Go.BinOp.quo 3 (Go.Operand.tmp 15) (Go.Operand.const (Go.Value.int Go.IntKind.i64 16)) 3, type := 3, pos := "", after := #[], guard := none }, { dst := some 17, op := Go.Op.call { callee := Go.Callee.value (Go.Operand.func 72), args := #[Go.Operand.tmp 16], argTypes := #[3] }, type := 9, pos := "", after := #[], guard := none }, { dst := some 18, op := Go.Op.move (Go.Operand.tmp 3), type := 9, pos := "", after := #[], guard := none }, { dst := some 19, op := Go.Op.binOp Go.BinOp.add 9 (Go.Operand.tmp 17) (Go.Operand.tmp 18) 9, type := 9, pos := "", after := #[], guard := none }, { dst := some 2, op := Go.Op.assign (Go.Operand.tmp 19), type := 9, pos := "", after := #[], guard := none }] false) Go.Code.ret))))
theorem s72 : Try.f72.body.map (slim cfg) = some g72 := by kernel_rfl

def hexSigns : List UInt8 := [48, 49, 50, 51, 52, 53, 54, 55, 56, 57, 97, 98, 99, 100, 101, 102]
/-- a digit by sixteen. -/
def hexd (n : Nat) : List UInt8 := (hexSigns.drop n).take 1
theorem hexd_len (n : Nat) : (hexd n).length ≤ 1 := by simp [hexd]; omega
/-- the digits of a number. -/
def digB (b v : Nat) : List UInt8 := if _h : b < 2 ∨ v < b then hexd v else digB b (v / b) ++ hexd (v % b)
termination_by v
decreasing_by exact Nat.div_lt_self (by omega) (by omega)
theorem digB_lt {b v : Nat} (h : v < b) : digB b v = hexd v := by unfold digB; rw [dif_pos (.inr h)]
theorem digB_ge {b v : Nat} (hb : 2 ≤ b) (h : ¬ v < b) : digB b v = digB b (v / b) ++ hexd (v % b) := by
  rw [digB, dif_neg (by omega)]
theorem digB_len (b : Nat) : ∀ (n v : Nat), v < 2 ^ n → (digB b v).length ≤ n + 1
  | n, v, h => by
    unfold digB
    split
    · have := hexd_len v; omega
    · rename_i hb
      cases n with
      | zero => simp at h; omega
      | succ n =>
        have h1 : v / b ≤ v / 2 := Nat.div_le_div_left (by omega) (by omega)
        have h2 : v / 2 < 2 ^ n := by rw [Nat.pow_succ] at h; omega
        have := digB_len b n (v / b) (by omega)
        have := hexd_len (v % b)
        simp only [List.length_append]; omega
theorem hexsl (n : Nat) (hn : n < 16) (k : IntKind) : aSlice Try.prog 9 (.str [48, 49, 50, 51, 52, 53, 54, 55, 56, 57, 97, 98, 99, 100, 101, 102]) (some (.int k n)) (some (.int k ((n + 1 : Nat)))) none = some (.str (hexd n)) := by
  have := str_mid (P := Try.prog) Try.underlying9 hexSigns (k := k) (k' := k) (a := n) (b := n + 1) (by omega) (by simp [hexSigns]; omega)
  rw [show n + 1 - n = 1 by omega] at this
  exact this


theorem based_ok (b v : Nat) (hb : 2 ≤ b) (hb2 : b ≤ 16) (hv : v < 18446744073709551616) (prot : Nat) (H : Heap) (hp : prot ≤ H.length) : aLim cfg prot 90 [.int .u64 v, .int .u64 b] H = some (.str (digB b v), none) := by
  have hsnap : snap H [.int .u64 v, .int .u64 b] = some ([.int .u64 v, .int .u64 b], false) := rfl
  have hlen0 : (digB b v).length ≤ 65 := digB_len b 64 v (by simpa using hv)
  refine pure_slim rfl (by kernel_rfl) Try.func90 s90 hp hsnap (by simp [Try.f90]) fun fr hlen h => ?_
  simp only [Has, Nat.zero_add] at h
  obtain ⟨a0, a1, -⟩ := h
  simp only [Try.f90] at hlen ⊢
  unfold g90
  simp only [wk0, wk1, wk2, wk3, wk4, wk5, wk6, aWanted, aYield, Region.wanted, aOp, quiet, loud, aEvals, aParts, aOpt, aBuiltin, rd, win, AV.cells, AV.leaf, aNew, splice, fillA, Nat.reduceEqDiff, Nat.reduceLT, Nat.reduceAdd, Nat.reduceLeDiff, reduceCtorEq, Nat.reduceMul, cfgP, u90, hlen, a0, a1]
  refine loop_rule (fun m fr H' => ∃ (x : Nat) (s : List UInt8) (ok : Bool), m = x + (if ok then 1 else 0) ∧ fr.length = 24 ∧ fget fr 0 = .int .u64 x ∧ fget fr 1 = .int .u64 b ∧ fget fr 5 = .str s ∧ fget fr 6 = .bool ok ∧ x < 18446744073709551616
    ∧ (ok = true → digB b v = digB b x ++ s) ∧ (ok = false → x = 0 ∧ s = digB b v)) ?_ (v + 1) _ _ ⟨v, [], true, by simp [wk0, wk1, wk2, wk3, wk4, wk5, wk6, aWanted, aYield, Region.wanted, aOp, quiet, loud, aEvals, aParts, aOpt, aBuiltin, rd, win, AV.cells, AV.leaf, aNew, splice, fillA, Nat.reduceEqDiff, Nat.reduceLT, Nat.reduceAdd, Nat.reduceLeDiff, reduceCtorEq, Nat.reduceMul, cfgP, u90, hlen, a0, a1, hv]⟩
  rintro m fr H' ⟨x, s, ok, rfl, hlen, a0, a1, a5, a6, hx, ho, hn⟩ ih
  cases ok with
  | false =>
    obtain ⟨rfl, rfl⟩ := hn rfl
    simp only [wk0, wk1, wk2, wk3, wk4, wk5, wk6, aWanted, aYield, Region.wanted, aOp, quiet, loud, aEvals, aParts, aOpt, aBuiltin, rd, win, AV.cells, AV.leaf, aNew, splice, fillA, Nat.reduceEqDiff, Nat.reduceLT, Nat.reduceAdd, Nat.reduceLeDiff, reduceCtorEq, Nat.reduceMul, cfgP, u90, hlen, a0, a1, a5, a6]
    exact Fin_pure (l := [.str (digB b v)]) (by simp [wk0, wk1, wk2, wk3, wk4, wk5, wk6, aWanted, aYield, Region.wanted, aOp, quiet, loud, aEvals, aParts, aOpt, aBuiltin, rd, win, AV.cells, AV.leaf, aNew, splice, fillA, Nat.reduceEqDiff, Nat.reduceLT, Nat.reduceAdd, Nat.reduceLeDiff, reduceCtorEq, Nat.reduceMul, cfgP, u90, aResults, aResult, hlen]) (.still rfl) (by simp)
  | true =>
    have ho := ho rfl
    have q1 : ∀ xo yo, aBin Try.prog .rem 51 xo yo (.int .u64 x) (.int .u64 b) = some (.int .u64 ((x % b : Nat))) := fun xo yo => bin_rem_nat (by omega)
    have q2 : ∀ xo yo, aBin Try.prog .quo 51 xo yo (.int .u64 x) (.int .u64 b) = some (.int .u64 ((x / b : Nat))) := fun xo yo => by
      have h1 := Nat.div_le_self x b
      rw [bin_quo_nat (by omega)]
      generalize x / b = y at *
      rw [wrapu64 (by omega) (by omega)]
    have hm : x % b < 16 := Nat.lt_of_lt_of_le (Nat.mod_lt _ (by omega)) hb2
    have q3 : IntKind.u64.wrap (((x % b : Nat) : Int) + 1) = ((x % b + 1 : Nat) : Int) := by rw [wrapu64 (by omega) (by omega)]; simp
    have q4 := hexsl (x % b) hm .u64
    have hsl : s.length ≤ 65 := by rw [ho] at hlen0; simp at hlen0; omega
    have q5 : aStr .add (hexd (x % b)) s = some (.str (hexd (x % b) ++ s)) := str_add (by have := hexd_len (x % b); omega)
    by_cases hlt : x < b
    · have h0 : x / b = 0 := Nat.div_eq_of_lt hlt
      rw [Nat.mod_eq_of_lt hlt] at q1 q3 q4 q5
      rw [h0] at q2
      simp only [wk0, wk1, wk2, wk3, wk4, wk5, wk6, aWanted, aYield, Region.wanted, aOp, quiet, loud, aEvals, aParts, aOpt, aBuiltin, rd, win, AV.cells, AV.leaf, aNew, splice, fillA, Nat.reduceEqDiff, Nat.reduceLT, Nat.reduceAdd, Nat.reduceLeDiff, reduceCtorEq, Nat.reduceMul, cfgP, u90, hlen, a0, a1, a5, a6, q1, q2, q3, q4, q5]
      refine ih _ _ 0 (by simp) ⟨0, hexd x ++ s, false, by simp, ?_⟩
      simp [wk0, wk1, wk2, wk3, wk4, wk5, wk6, aWanted, aYield, Region.wanted, aOp, quiet, loud, aEvals, aParts, aOpt, aBuiltin, rd, win, AV.cells, AV.leaf, aNew, splice, fillA, Nat.reduceEqDiff, Nat.reduceLT, Nat.reduceAdd, Nat.reduceLeDiff, reduceCtorEq, Nat.reduceMul, cfgP, u90, hlen, a0, a1]
      rw [ho, digB_lt hlt]
    · have h0 : 0 < x / b := Nat.div_pos (by omega) (by omega)
      have h1 : x / b < x := Nat.div_lt_self (by omega) (by omega)
      have h2 : decide (0 < ((x / b : Nat) : Int)) = true := decide_eq_true (by omega)
      simp only [wk0, wk1, wk2, wk3, wk4, wk5, wk6, aWanted, aYield, Region.wanted, aOp, quiet, loud, aEvals, aParts, aOpt, aBuiltin, rd, win, AV.cells, AV.leaf, aNew, splice, fillA, Nat.reduceEqDiff, Nat.reduceLT, Nat.reduceAdd, Nat.reduceLeDiff, reduceCtorEq, Nat.reduceMul, cfgP, u90, hlen, a0, a1, a5, a6, q1, q2, q3, q4, q5, h2]
      refine ih _ _ (x / b + 1) (by simp; omega) ⟨x / b, hexd (x % b) ++ s, true, by simp, ?_⟩
      simp [wk0, wk1, wk2, wk3, wk4, wk5, wk6, aWanted, aYield, Region.wanted, aOp, quiet, loud, aEvals, aParts, aOpt, aBuiltin, rd, win, AV.cells, AV.leaf, aNew, splice, fillA, Nat.reduceEqDiff, Nat.reduceLT, Nat.reduceAdd, Nat.reduceLeDiff, reduceCtorEq, Nat.reduceMul, cfgP, u90, hlen, a0, a1]
      refine ⟨by omega, ?_⟩
      rw [ho, digB_ge hb hlt, List.append_assoc]


theorem putHex_ok (v : Nat) (hv : v < 9223372036854775808) (prot : Nat) (H : Heap) (hp : prot ≤ H.length) : aLim cfg prot 71 [.int .i64 v] H = some (.str (digB 16 v), none) := by
  have hsnap : snap H [.int .i64 v] = some ([.int .i64 v], false) := rfl
  have n1 : aLim cfg H.length 90 [.int .u64 v, .int .u64 16] H = some (.str (digB 16 v), none) := based_ok 16 v (by omega) (by omega) (by omega) H.length H (Nat.le_refl _)
  have c1 : decide ((v : Int) < 0) = false := decide_eq_false (by omega)
  have c2 : IntKind.u64.wrap (v : Int) = v := wrapu64 (by omega) (by omega)
  refine pure_slim rfl (by kernel_rfl) Try.func71 s71 hp hsnap (by simp [Try.f71]) fun fr hlen h => ?_
  simp only [Has, Nat.zero_add] at h
  obtain ⟨a0, -⟩ := h
  simp only [Try.f71] at hlen ⊢
  unfold g71
  simp only [wk0, wk1, wk2, wk3, wk4, wk5, wk6, aWanted, aYield, Region.wanted, aOp, quiet, loud, aEvals, aParts, aOpt, aBuiltin, rd, win, AV.cells, AV.leaf, aNew, splice, fillA, Nat.reduceEqDiff, Nat.reduceLT, Nat.reduceAdd, Nat.reduceLeDiff, reduceCtorEq, Nat.reduceMul, cfgP, u71, hlen, a0, c1, c2, n1]
  exact Fin_pure (l := [.str (digB 16 v)]) (by simp [wk0, wk1, wk2, wk3, wk4, wk5, wk6, aWanted, aYield, Region.wanted, aOp, quiet, loud, aEvals, aParts, aOpt, aBuiltin, rd, win, AV.cells, AV.leaf, aNew, splice, fillA, Nat.reduceEqDiff, Nat.reduceLT, Nat.reduceAdd, Nat.reduceLeDiff, reduceCtorEq, Nat.reduceMul, cfgP, u71, aResults, aResult, hlen]) (.still rfl) (by simp)

theorem rputHex_ok (v : Nat) : v < 9223372036854775808 → ∀ (prot : Nat) (H : Heap), prot ≤ H.length → aLim cfg prot 72 [.int .i64 v] H = some (.str (digB 16 v), none) := by
  induction v using Nat.strongRecOn with
  | _ v ih =>
  intro hv prot H hp
  have hsnap : snap H [.int .i64 v] = some ([.int .i64 v], false) := rfl
  have c1 : decide ((v : Int) < 0) = false := decide_eq_false (by omega)
  have q1 : ∀ xo yo, aBin Try.prog .rem 3 xo yo (.int .i64 v) (.int .i64 16) = some (.int .i64 ((v % 16 : Nat))) := fun xo yo => bin_rem_nat (b := 16) (by omega)
  have q2 : ∀ xo yo, aBin Try.prog .quo 3 xo yo (.int .i64 v) (.int .i64 16) = some (.int .i64 ((v / 16 : Nat))) := fun xo yo => by
    rw [show (16 : Int) = ((16 : Nat) : Int) from rfl, bin_quo_nat (by omega), wrap64 (by omega) (by omega)]
  have hm : v % 16 < 16 := Nat.mod_lt _ (by omega)
  have q3 : IntKind.i64.wrap (((v % 16 : Nat) : Int) + 1) = ((v % 16 + 1 : Nat) : Int) := by rw [wrap64 (by omega) (by omega)]; simp
  have q4 := hexsl (v % 16) hm .i64
  refine pure_slim rfl (by kernel_rfl) Try.func72 s72 hp hsnap (by simp [Try.f72]) fun fr hlen h => ?_
  simp only [Has, Nat.zero_add] at h
  obtain ⟨a0, -⟩ := h
  simp only [Try.f72] at hlen ⊢
  unfold g72
  by_cases hlt : v < 16
  · have e : digB 16 v = hexd v := digB_lt hlt
    rw [Nat.mod_eq_of_lt hlt] at q1 q3 q4
    have c2 : decide ((v : Int) < 16) = true := decide_eq_true (by omega)
    simp only [wk0, wk1, wk2, wk3, wk4, wk5, wk6, aWanted, aYield, Region.wanted, aOp, quiet, loud, aEvals, aParts, aOpt, aBuiltin, rd, win, AV.cells, AV.leaf, aNew, splice, fillA, Nat.reduceEqDiff, Nat.reduceLT, Nat.reduceAdd, Nat.reduceLeDiff, reduceCtorEq, Nat.reduceMul, cfgP, u72, hlen, a0, c1, q1, q3, q4, c2]
    rw [e]
    exact Fin_pure (l := [.str (hexd v)]) (by simp [wk0, wk1, wk2, wk3, wk4, wk5, wk6, aWanted, aYield, Region.wanted, aOp, quiet, loud, aEvals, aParts, aOpt, aBuiltin, rd, win, AV.cells, AV.leaf, aNew, splice, fillA, Nat.reduceEqDiff, Nat.reduceLT, Nat.reduceAdd, Nat.reduceLeDiff, reduceCtorEq, Nat.reduceMul, cfgP, u72, aResults, aResult, hlen]) (.still rfl) (by simp)
  · have e : digB 16 v = digB 16 (v / 16) ++ hexd (v % 16) := digB_ge (by omega) hlt
    have c2 : decide ((v : Int) < 16) = false := decide_eq_false (by omega)
    have n1 := ih (v / 16) (by omega) (by omega) H.length H (Nat.le_refl _)
    have l1 := digB_len 16 64 (v / 16) (by omega)
    have l2 := hexd_len (v % 16)
    have q5 := str_add (s := digB 16 (v / 16)) (u := hexd (v % 16)) (by omega)
    simp only [wk0, wk1, wk2, wk3, wk4, wk5, wk6, aWanted, aYield, Region.wanted, aOp, quiet, loud, aEvals, aParts, aOpt, aBuiltin, rd, win, AV.cells, AV.leaf, aNew, splice, fillA, Nat.reduceEqDiff, Nat.reduceLT, Nat.reduceAdd, Nat.reduceLeDiff, reduceCtorEq, Nat.reduceMul, cfgP, u72, hlen, a0, c1, q1, q2, q3, q4, c2, n1, q5]
    rw [e]
    exact Fin_pure (l := [.str (digB 16 (v / 16) ++ hexd (v % 16))]) (by simp [wk0, wk1, wk2, wk3, wk4, wk5, wk6, aWanted, aYield, Region.wanted, aOp, quiet, loud, aEvals, aParts, aOpt, aBuiltin, rd, win, AV.cells, AV.leaf, aNew, splice, fillA, Nat.reduceEqDiff, Nat.reduceLT, Nat.reduceAdd, Nat.reduceLeDiff, reduceCtorEq, Nat.reduceMul, cfgP, u72, aResults, aResult, hlen]) (.still rfl) (by simp)
end Go.Proofs.Ytjhgmoaabflbfaa
