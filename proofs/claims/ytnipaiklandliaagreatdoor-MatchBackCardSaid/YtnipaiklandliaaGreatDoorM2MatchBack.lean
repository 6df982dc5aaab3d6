import Derived.Test.YtnipaiklandliaaGreatDoorM1MatchBack
import Derived.Test.YtnipaiklandliaaGreatDoorAbsMore
import Derived.Test.YtnipaiklandliaaGreatDoorAbsTy
/-! Part 2 of the proof of MatchBack. -/
set_option linter.unusedSimpArgs false
set_option linter.defProp false
namespace Go.Proofs.YtnipaiklandliaaGreatDoor
open Go Go.Abs AbsSeat Ty
def u110 := an (show tagT Tryz.prog 120 = 0 from by kernel_rfl) (an ag2 (an sz2 (an by2 (an ze2 (an Tryz.underlying2 (an ag3 (an sz3 (an by3 (an ze3 (an Tryz.underlying3 (an ag5 (an sz5 (an by5 (an ze5 (an Tryz.underlying5 (an ag9 (an sz9 (an by9 (an ze9 (an Tryz.underlying9 (an ag28 (an sz28 (an by28 (an ze28 (an Tryz.underlying28 (an ag76 (an sz76 (an by76 (an ze76 (an Tryz.underlying76 (an ag110 (an sz110 (an by110 (an ze110 (an Tryz.underlying110 (an ag120 (an sz120 (an by120 (an ze120 (an bu120 (an Tryz.underlying120 (an fa120_0 (an fd120_0 (an fa120_2 (an fd120_2 (an fa120_3 (an fd120_3 (an fa120_4 fd120_4))))))))))))))))))))))))))))))))))))))))))))))))
def g110 : Code := .seq (mG 0 #[q 4 (.alloc 120) 0, q 5 (.assign (.const .nilIface)) 76]) (.seq (mG 1 #[mA 13 1 3, mA 14 1 3, mF 15 .add 3 14 (ik 1) 3 3, q 16 (.build 120 #[(1, .tmp 13), (2, .tmp 15)]) 120, q 6 (.alloc 120) 0, mD 120 6 16]) (.seq (.seq (.region 2 #[mA 17 0 9, mA 18 1 3, q 19 (.index 9 (.tmp 17) (.tmp 18)) 5, q 20 (cl 74 #[.const (.string { data := #[123, 125, 91, 93, 58, 44] }), .tmp 19] #[9, 5]) 3, mB 7 20 3] false) (.seq (mG 3 #[mA 21 7 3, mF 22 .geq 3 21 (ik 0) 3 4]) (.cond (.tmp 22) (.seq (mG 4 #[mA 23 7 3, q 24 (.binOp .add 3 (ik 1) (.tmp 23) 3) 3, q 25 (.fieldAddr 120 (.tmp 6) 0) 0, mD 3 25 24]) (.seq (mG 5 #[mC 26 6 120, mD 120 4 26, q 5 (.assign (.const .nilIface)) 76]) .ret)) .skip))) (.seq (.seq (mG 6 #[mA 27 0 9, mA 28 1 3, q 29 (.index 9 (.tmp 27) (.tmp 28)) 5, mF 30 .eql 5 29 (.const (.int .u8 34)) 5 4]) (.cond (.tmp 30) (.seq (mG 7 #[mA 32 0 9, mA 33 1 3, mF 34 .add 3 33 (ik 1) 3 3, q 35 (cl 142 #[.tmp 32, .tmp 34] #[9, 3]) 198, mA 31 35 198, mE 36 31 0 9, mE 37 31 1 3, mE 38 31 2 76, mB 8 36 9, mB 9 37 3, mB 10 38 76]) (.seq (.seq (mG 8 #[mA 39 10 76, mF 40 .neq 76 39 (.const .nilIface) 76 4]) (.cond (.tmp 40) (.seq (mG 9 #[q 41 (.build 120 #[]) 120, mA 42 10 76, mD 120 4 41, mB 5 42 76]) .ret) .skip)) (.seq (mG 10 #[mA 43 8 9, mA 44 9 3, q 45 (.fieldAddr 120 (.tmp 6) 0) 0, qn (.store 3 (.tmp 45) (ik 7)) 0, q 46 (.fieldAddr 120 (.tmp 6) 3) 0, mD 9 46 43, q 47 (.fieldAddr 120 (.tmp 6) 2) 0, mD 3 47 44]) (.seq (mG 11 #[mC 48 6 120, mD 120 4 48, q 5 (.assign (.const .nilIface)) 76]) .ret)))) .skip)) (.seq (.seq (mG 12 #[mA 49 0 9, mA 50 1 3, q 51 (.index 9 (.tmp 49) (.tmp 50)) 5, q 52 (cl 62 #[.tmp 51] #[5]) 4, mA 53 52 4, qg 54 (.move (.tmp 0)) 9 4 false, qg 55 (.move (.tmp 1)) 3 4 false, qg 56 (.index 9 (.tmp 54) (.tmp 55)) 5 4 false, qg 57 (.binOp .eql 5 (.tmp 56) (.const (.int .u8 45)) 5) 4 4 false, q 58 (.pick (.tmp 53) (mI true) (.tmp 57)) 4]) (.cond (.tmp 58) (.seq (mG 13 #[mA 59 0 9, mA 60 1 3, q 61 (cl 108 #[.tmp 59, .tmp 60, .func 143] #[9, 3, 110]) 3, q 62 (.fieldAddr 120 (.tmp 6) 2) 0, mD 3 62 61]) (.seq (mG 14 #[mA 64 0 9, mA 65 1 3, q 66 (.fieldAddr 120 (.tmp 6) 2) 0, mC 67 66 3, q 68 (.slice 9 (.tmp 64) (some (.tmp 65)) (some (.tmp 67)) none) 9, q 69 (cl 49 #[.tmp 68] #[9]) 86, mA 63 69 86, mE 70 63 0 2, mE 71 63 1 28, mB 11 70 2, mB 12 71 28]) (.seq (.seq (mG 15 #[mA 72 12 28, mF 73 .neq 28 72 (ik 0) 28 4]) (.cond (.tmp 73) (.seq (mG 16 #[q 74 (.build 120 #[]) 120, mA 75 1 3, mA 76 12 28, q 77 (cl 144 #[.tmp 75, .tmp 76] #[3, 28]) 76, mD 120 4 74, mB 5 77 76]) .ret) .skip)) (.seq (mG 17 #[mA 78 11 2, q 79 (.fieldAddr 120 (.tmp 6) 0) 0, qn (.store 3 (.tmp 79) (ik 8)) 0, q 80 (.fieldAddr 120 (.tmp 6) 4) 0, mD 2 80 78]) (.seq (mG 18 #[mC 81 6 120, mD 120 4 81, q 5 (.assign (.const .nilIface)) 76]) .ret))))) .skip)) (.seq (mG 19 #[mA 82 0 9, mA 83 1 3, q 84 (cl 108 #[.tmp 82, .tmp 83, .func 145] #[9, 3, 110]) 3, q 85 (.fieldAddr 120 (.tmp 6) 2) 0, mD 3 85 84]) (.seq (mG 20 #[mA 86 0 9, mA 87 1 3, q 88 (.fieldAddr 120 (.tmp 6) 2) 0, mC 89 88 3, q 90 (.slice 9 (.tmp 86) (some (.tmp 87)) (some (.tmp 89)) none) 9, q 91 (cl 146 #[.tmp 90] #[9]) 3, q 92 (.fieldAddr 120 (.tmp 6) 0) 0, mD 3 92 91]) (.seq (.seq (mG 21 #[q 93 (.fieldAddr 120 (.tmp 6) 0) 0, mC 94 93 3, mF 95 .eql 3 94 (ik 0) 3 4]) (.cond (.tmp 95) (.seq (mG 22 #[q 96 (.build 120 #[]) 120, mA 97 1 3, q 98 (cl 144 #[.tmp 97, ik 3] #[3, 28]) 76, mD 120 4 96, mB 5 98 76]) .ret) .skip)) (.seq (mG 23 #[mC 99 6 120, mD 120 4 99, q 5 (.assign (.const .nilIface)) 76]) .ret))))))))
def s110 := sL Tryz.f110 g110 (by kernel_rfl)
theorem beqD (s w : List UInt8) : (s == w) = decide (s = w) := by by_cases h : s = w <;> simp [h]
def wTrue : List UInt8 := [116, 114, 117, 101]
def wFalse : List UInt8 := [102, 97, 108, 115, 101]
def wNull : List UInt8 := [110, 117, 108, 108]
def wordS (s : List UInt8) : Int := if s = wTrue then 9 else if s = wFalse then 10 else if s = wNull then 11 else 0
theorem word_ok (s : List UInt8) (prot : Nat) (H : Heap) (hp : prot ≤ H.length) : aLim cfg prot 146 [.str s] H = some (.int .i64 (wordS s), none) := by
 unfold wordS
 have b1 : (s == [116, 114, 117, 101]) = decide (s = wTrue) := beqD _ _
 have b2 : (s == [102, 97, 108, 115, 101]) = decide (s = wFalse) := beqD _ _
 have b3 : (s == [110, 117, 108, 108]) = decide (s = wNull) := beqD _ _
 refine pure_slim rfl (by kernel_rfl) Tryz.func146 s146 hp rfl (by simp [Tryz.f146]) fun fr hlen h => ?_
 simp only [Has] at h
 obtain ⟨a0, -⟩ := h
 simp only [Tryz.f146] at hlen ⊢
 unfold g146
 by_cases h1 : s = wTrue
 ·rw [if_pos h1]
  have d1 : decide (s = wTrue) = true := decide_eq_true h1
  simp only [w9, simprocAttr, hlen, a0, str_eql, b1, d1]
  exact Fin_pure (l := [.int .i64 9]) (by simp [w9, hlen]) (.still rfl) (by simp)
 ·rw [if_neg h1]
  have d1 : decide (s = wTrue) = false := decide_eq_false h1
  by_cases h2 : s = wFalse
  ·rw [if_pos h2]
   have d2 : decide (s = wFalse) = true := decide_eq_true h2
   simp only [w9, simprocAttr, hlen, a0, str_eql, b1, d1, b2, d2]
   exact Fin_pure (l := [.int .i64 10]) (by simp [w9, hlen]) (.still rfl) (by simp)
  ·rw [if_neg h2]
   have d2 : decide (s = wFalse) = false := decide_eq_false h2
   by_cases h3 : s = wNull
   ·rw [if_pos h3]
    have d3 : decide (s = wNull) = true := decide_eq_true h3
    simp only [w9, simprocAttr, hlen, a0, str_eql, b1, d1, b2, d2, b3, d3]
    exact Fin_pure (l := [.int .i64 11]) (by simp [w9, hlen]) (.still rfl) (by simp)
   ·rw [if_neg h3]
    have d3 : decide (s = wNull) = false := decide_eq_false h3
    simp only [w9, simprocAttr, hlen, a0, str_eql, b1, d1, b2, d2, b3, d3]
    exact Fin_pure (l := [.int .i64 0]) (by simp [w9, hlen]) (.still rfl) (by simp)
structure Tk where
 kind : Int
 len : Nat
 text : List UInt8
 n : Int
inductive TkR where
 | bad (e : Int)
 | tok (t : Tk)
def signs : List UInt8 := [123, 125, 91, 93, 58, 44]
def tokS : List UInt8 → TkR
 | [] => .bad 6
 | c :: t =>
  if 0 ≤ idxByte signs c then .tok ⟨1 + idxByte signs c, 1, [], 0⟩
  else if c = 34 then (match textS t with | none => .bad 3 | some (b, n) => .tok ⟨7, n + 1, b, 0⟩)
  else if digitC c.toNat || decide (c = 45) then
   (if (numS ((c :: t).take (runS numericC (c :: t)))).2 = 0 then .tok ⟨8, runS numericC (c :: t), [], (numS ((c :: t).take (runS numericC (c :: t)))).1⟩ else .bad (numS ((c :: t).take (runS numericC (c :: t)))).2)
  else if wordS ((c :: t).take (runS wordyC (c :: t))) = 0 then .bad 3
  else .tok ⟨wordS ((c :: t).take (runS wordyC (c :: t))), runS wordyC (c :: t), [], 0⟩
def tkC (kind from_ to : Int) (text : List UInt8) (n : Int) : List AV := [.int .i64 kind, .int .i64 from_, .int .i64 to, .str text, .int .i64 n]
def tkAt (k : Nat) (t : Tk) : List AV := tkC t.kind k (k + t.len : Nat) t.text t.n
def tk0 : List AV := tkC 0 0 0 [] 0
def TokR (k : Nat) (r : AV) : TkR → Prop
 | .bad e => ∃ j, r = .tup [.agg tk0, troub j e]
 | .tok t => r = .tup [.agg (tkAt k t), .nilI]
section
variable {H : Heap} {a b : List AV}
theorem two_get1 : hget (H ++ [.cells 0 a, .cells 0 b]) (H.length + 1) 0 = some b := by
 have := hget_new (H := H ++ [.cells 0 a]) (b := H.length + 1) (v := 0) (v' := 0) (cs := b) (l := []) (by simp)
 simpa using this
theorem two_put1 {off : Nat} {xs : List AV} (hl : off + xs.length ≤ b.length) (hx : xs.all AV.leaf = true) : hput H.length (H ++ [.cells 0 a, .cells 0 b]) (H.length + 1) 0 off xs = some (H ++ [.cells 0 a, .cells 0 (splice b off xs)]) := by
 have := hput_new (H := H ++ [.cells 0 a]) (prot := H.length) (b := H.length + 1) (v := 0) (off := off) (xs := xs) (cs := b) (l := []) (by simp) (by simp) hl hx
 simpa using this
end
theorem idxByte_le (c : UInt8) : idxByte [123, 125, 91, 93, 58, 44] c ≤ 5 := by
 unfold idxByte
 split
 ·rename_i i h
  have := List.mem_range.1 (List.mem_of_find?_eq_some h)
  simp at this
  omega
 ·omega
theorem token_ok (s : List UInt8) (hl : s.length < 100000000000000) (k : Nat) (hk : k < s.length) (prot : Nat) (H : Heap) (hp : prot ≤ H.length) :
  ∃ r, TokR k r (tokS (s.drop k)) ∧ aLim cfg prot 110 [.str s, .int .i64 k] H = some (r, none) := by
 have hd : s.drop k = s[k] :: s.drop (k + 1) := List.drop_eq_getElem_cons hk
 have e1 := str_at (k := .i64) Tryz.underlying9 s hk
 have hT : tokS (s.drop k) = tokS (s[k] :: s.drop (k + 1)) := by rw [hd]
 have w1 : IntKind.i64.wrap ((k : Int) + 1) = ((k + 1 : Nat) : Int) := by rw [wrap64 (by omega) (by omega)]; simp
 rw [hT, tokS]
 generalize hc : s[k] = c at *
 have hlK : ∀ a b : Blk, H.length ≤ (H ++ [a, b]).length := fun a b => by simp
 have ni := fun a b => idxS_ok signs c H.length (H ++ [a, b]) (hlK a b)
 have hs : signs = [123, 125, 91, 93, 58, 44] := rfl
 rw [hs] at ni ⊢
 refine pure_slimE rfl (by kernel_rfl) Tryz.func110 s110 hp rfl (by simp [Tryz.f110]) fun fr hlen h => ?_
 simp only [Has, Nat.zero_add] at h
 obtain ⟨a0, a1, -⟩ := h
 simp only [Tryz.f110] at hlen ⊢
 unfold g110
 have hl1 : ∀ a : Blk, (H ++ [a]).length = H.length + 1 := fun a => by simp
 have ha2 : ∀ a b : Blk, H ++ [a] ++ [b] = H ++ [a, b] := fun a b => by simp
 by_cases hz : 0 ≤ idxByte [123, 125, 91, 93, 58, 44] c
 ·have hz5 := idxByte_le c
  rw [if_pos hz]
  generalize idxByte [123, 125, 91, 93, 58, 44] c = z at *
  have wz : IntKind.i64.wrap (1 + z) = 1 + z := by rw [wrap64 (by omega) (by omega)]
  simp only [w9, simprocAttr, u110, hlen, a0, a1, e1, w1, ni, hl1, ha2, two_get1, two_put1, hz, wz]
  refine ⟨_, show _ = _ from rfl, ?_⟩
  exact Fin_pure (l := [.agg (tkAt k ⟨1 + z, 1, [], 0⟩), .nilI]) (by simp [w9, u110, hlen, tkAt, tkC]) (.tup (.cons (.agg (.still (by simp [tkAt, tkC, still]))) (.cons (.still rfl) .nil))) (by simp)
 ·rw [if_neg hz]
  generalize idxByte [123, 125, 91, 93, 58, 44] c = z at *
  by_cases c34 : c = 34
  ·rw [if_pos c34]
   rw [c34, show (((34 : UInt8).toNat : Nat) : Int) = 34 from rfl] at e1
   have ni : ∀ a b, aLim cfg H.length 74 [.str [123, 125, 91, 93, 58, 44], .int .u8 34] (H ++ [a, b]) = some (.int .i64 z, none) := fun a b => by rw [← ni a b, c34]; rfl
   have nt := text_ok s hl (k + 1) (by omega) H.length (H ++ [Blk.cells 0 tk0, Blk.cells 0 (tkC 0 k (k + 1 : Nat) [] 0)]) (hlK _ _)
   simp only [tk0, tkC] at nt
   cases hte : textS (s.drop (k + 1)) with
   | none =>
    rw [hte] at nt
    obtain ⟨r, ⟨i, j, rfl⟩, nt⟩ := nt
    simp only
    simp only [w9, simprocAttr, u110, hlen, a0, a1, e1, w1, ni, hl1, ha2, two_put1, hz, nt, troub, errNe]
    refine ⟨_, ⟨j, rfl⟩, ?_⟩
    exact Fin_pure (l := [.agg tk0, troub j 3]) (by simp [w9, u110, hlen, tk0, tkC, troub]) (.tup (.cons (.agg (.still (by simp [tk0, tkC, still]))) (.cons (.iface (.still rfl)) .nil))) (by simp)
   | some x =>
    obtain ⟨b, n⟩ := x
    rw [hte] at nt
    obtain ⟨r, hr, nt⟩ := nt
    have hr : r = .tup [.str b, .int .i64 (k + 1 + n : Nat), .nilI] := hr
    subst hr
    simp only
    rw [show k + 1 + n = k + (n + 1) by omega] at nt
    simp only [w9, simprocAttr, u110, hlen, a0, a1, e1, w1, ni, hl1, ha2, two_get1, two_put1, hz, nt, nilNe]
    refine ⟨_, show _ = _ from rfl, ?_⟩
    exact Fin_pure (l := [.agg (tkAt k ⟨7, n + 1, b, 0⟩), .nilI]) (by simp [w9, u110, hlen, tkAt, tkC]) (.tup (.cons (.agg (.still (by simp [tkAt, tkC, still]))) (.cons (.still rfl) .nil))) (by simp)
  ·rw [if_neg c34]
   have n34 : ¬ ((c.toNat : Int) = 34) := fun h => c34 (UInt8.toNat_inj.1 (by rw [show (34 : UInt8).toNat = 34 from rfl]; omega))
   have nd := fun a b => digit_ok (c.toNat : Int) H.length (H ++ [a, b]) (hlK a b)
   cases hnum : (digitC c.toNat || decide (c = 45)) with
   | true =>
    rw [if_pos rfl]
    have dn00 : decide (¬ (0 : Int) = 0) = false := by decide
    have nr := fun a b => run_ok 143 numericC numeric_ok s (by omega) k (by omega) H.length (H ++ [a, b]) (hlK a b)
    rw [hd] at nr
    have hrl := runS_le numericC (c :: s.drop (k + 1))
    have hcl : (c :: s.drop (k + 1)).length = s.length - k := by simp; omega
    have e4 := str_mid (k := .i64) (k' := .i64) Tryz.underlying9 s (a := k) (b := k + runS numericC (c :: s.drop (k + 1))) (by omega) (by omega)
    rw [hd, show k + runS numericC (c :: s.drop (k + 1)) - k = runS numericC (c :: s.drop (k + 1)) by omega] at e4
    generalize runS numericC (c :: s.drop (k + 1)) = m at *
    have np := fun a b => parse_ok ((c :: s.drop (k + 1)).take m) (by simp only [List.length_take]; omega) H.length (H ++ [a, b]) (hlK a b)
    generalize numS ((c :: s.drop (k + 1)).take m) = q at *
    obtain ⟨v, e⟩ := q
    simp only at np ⊢
    have nt := fun a b => wrong_ok k e H.length (H ++ [a, b]) (hlK a b)
    cases hdg : digitC c.toNat with
    | true =>
     rw [hdg] at nd
     by_cases he : e = 0
     ·subst he
      rw [if_pos rfl]
      simp only [w9, simprocAttr, u110, hlen, a1, e1, w1, ni, hl1, ha2, two_get1, two_put1, hz, n34, a0, nd, nr, e4, np]
      refine ⟨_, show _ = _ from rfl, ?_⟩
      exact Fin_pure (l := [.agg (tkAt k ⟨8, m, [], v⟩), .nilI]) (by simp [w9, u110, hlen, tkAt, tkC]) (.tup (.cons (.agg (.still (by simp [tkAt, tkC, still]))) (.cons (.still rfl) .nil))) (by simp)
     ·rw [if_neg he]
      have hne : decide (¬ e = 0) = true := decide_eq_true he
      simp only [w9, simprocAttr, u110, hlen, a1, e1, w1, ni, hl1, ha2, two_get1, two_put1, hz, n34, a0, nd, nr, e4, np, hne, nt]
      refine ⟨_, ⟨k, rfl⟩, ?_⟩
      exact Fin_pure (l := [.agg tk0, troub k e]) (by simp [w9, u110, hlen, tk0, tkC, troub]) (.tup (.cons (.agg (.still (by simp [tk0, tkC, still]))) (.cons (.iface (.still rfl)) .nil))) (by simp)
    | false =>
     rw [hdg] at nd hnum
     have c45 : c = 45 := by simpa using hnum
     have n45 : decide ((c.toNat : Int) = 45) = true := by rw [c45]; rfl
     by_cases he : e = 0
     ·subst he
      rw [if_pos rfl]
      simp only [w9, simprocAttr, u110, hlen, a0, a1, e1, w1, ni, hl1, ha2, two_get1, two_put1, hz, n34, n45, nd, nr, e4, np]
      refine ⟨_, show _ = _ from rfl, ?_⟩
      exact Fin_pure (l := [.agg (tkAt k ⟨8, m, [], v⟩), .nilI]) (by simp [w9, u110, hlen, tkAt, tkC]) (.tup (.cons (.agg (.still (by simp [tkAt, tkC, still]))) (.cons (.still rfl) .nil))) (by simp)
     ·rw [if_neg he]
      have hne : decide (¬ e = 0) = true := decide_eq_true he
      simp only [w9, simprocAttr, u110, hlen, a0, a1, e1, w1, ni, hl1, ha2, two_get1, two_put1, hz, n34, n45, nd, nr, e4, np, hne, nt]
      refine ⟨_, ⟨k, rfl⟩, ?_⟩
      exact Fin_pure (l := [.agg tk0, troub k e]) (by simp [w9, u110, hlen, tk0, tkC, troub]) (.tup (.cons (.agg (.still (by simp [tk0, tkC, still]))) (.cons (.iface (.still rfl)) .nil))) (by simp)
   | false =>
    rw [if_neg (by simp)]
    simp only [Bool.or_eq_false_iff, decide_eq_false_iff_not] at hnum
    obtain ⟨hdg, c45⟩ := hnum
    have n45 : ¬ ((c.toNat : Int) = 45) := fun h => c45 (UInt8.toNat_inj.1 (by rw [show (45 : UInt8).toNat = 45 from rfl]; omega))
    rw [hdg] at nd
    have nr := fun a b => run_ok 145 wordyC wordy_ok s (by omega) k (by omega) H.length (H ++ [a, b]) (hlK a b)
    rw [hd] at nr
    have hrl := runS_le wordyC (c :: s.drop (k + 1))
    have hcl : (c :: s.drop (k + 1)).length = s.length - k := by simp; omega
    have e4 := str_mid (k := .i64) (k' := .i64) Tryz.underlying9 s (a := k) (b := k + runS wordyC (c :: s.drop (k + 1))) (by omega) (by omega)
    rw [hd, show k + runS wordyC (c :: s.drop (k + 1)) - k = runS wordyC (c :: s.drop (k + 1)) by omega] at e4
    generalize runS wordyC (c :: s.drop (k + 1)) = m at *
    have nw := fun a b => word_ok ((c :: s.drop (k + 1)).take m) H.length (H ++ [a, b]) (hlK a b)
    have nt := fun a b => wrong_ok k 3 H.length (H ++ [a, b]) (hlK a b)
    generalize wordS ((c :: s.drop (k + 1)).take m) = x at *
    by_cases hx : x = 0
    ·rw [if_pos hx]
     simp only [w9, simprocAttr, u110, hlen, a0, a1, e1, w1, ni, hl1, ha2, two_get1, two_put1, hz, n34, n45, nd, nr, e4, nw, hx, nt]
     refine ⟨_, ⟨k, rfl⟩, ?_⟩
     exact Fin_pure (l := [.agg tk0, troub k 3]) (by simp [w9, u110, hlen, tk0, tkC, troub]) (.tup (.cons (.agg (.still (by simp [tk0, tkC, still]))) (.cons (.iface (.still rfl)) .nil))) (by simp)
    ·rw [if_neg hx]
     simp only [w9, simprocAttr, u110, hlen, a0, a1, e1, w1, ni, hl1, ha2, two_get1, two_put1, hz, n34, n45, nd, nr, e4, nw, hx]
     refine ⟨_, show _ = _ from rfl, ?_⟩
     exact Fin_pure (l := [.agg (tkAt k ⟨x, m, [], 0⟩), .nilI]) (by simp [w9, u110, hlen, tkAt, tkC]) (.tup (.cons (.agg (.still (by simp [tkAt, tkC, still]))) (.cons (.still rfl) .nil))) (by simp)
open Go Go.Abs AbsSeat Ty
def g65 : Code := .seq (mG 0 #[q 2 (.assign (ik 0)) 3, q 3 (.assign (ik 0)) 3]) (.seq (mG 1 #[mA 10 0 9, q 11 (.convert 9 72 (.tmp 10)) 72, mB 4 11 72]) (.seq (mG 2 #[q 5 (.assign (ik 0)) 3, q 6 (.assign (ik 0)) 3]) (.seq (.block 0 (.loop (.seq (.seq (mG 3 #[mA 12 5 3, mA 13 4 72, q 14 (bi .len #[.tmp 13] #[72]) 3, mF 15 .lss 3 12 (.tmp 14) 3 4]) (.cond (.tmp 15) .skip (.exit 0))) (.block 1 (.seq (mG 4 #[mA 17 4 72, mA 18 5 3, q 19 (.slice 72 (.tmp 17) (some (.tmp 18)) none none) 72, q 20 (cl 94 #[.tmp 19] #[72]) 147, mA 16 20 147, mE 21 16 0 21, mE 22 16 1 3, mE 23 16 2 28, mB 7 21 21, mB 8 22 3, mB 9 23 28]) (.seq (.seq (mG 5 #[mA 24 9 28, mF 25 .neq 28 24 (ik 0) 28 4]) (.cond (.tmp 25) (.exit 0) .skip)) (.seq (mG 6 #[mA 26 5 3, mA 27 8 3, mF 28 .add 3 26 (.tmp 27) 3 3, mB 5 28 3]) (mG 7 #[mA 29 6 3, mF 30 .add 3 29 (ik 1) 3 3, mB 6 30 3])))))))) (.seq (mG 8 #[mA 31 6 3, mA 32 5 3, mB 2 31 3, mB 3 32 3]) .ret))))
def s65 := sL Tryz.f65 g65 (by kernel_rfl)
def g31 : Code := .seq (mG 0 #[q 2 (.assign (mI false)) 4]) (.seq (mG 1 #[mA 6 0 9, q 7 (cl 65 #[.tmp 6] #[9]) 112, mA 5 7 112, mE 8 5 0 3, mE 9 5 1 3, mB 3 8 3, mB 4 9 3]) (.seq (mG 2 #[mA 10 4 3, mA 11 0 9, q 12 (bi .len #[.tmp 11] #[9]) 3, mF 13 .eql 3 10 (.tmp 12) 3 4, mB 2 13 4]) .ret))
def s31 := sL Tryz.f31 g31 (by kernel_rfl)
def walkU (b : List UInt8) : Nat × Nat :=
 if _h : (nextU b).2.2 = 0 then ((walkU (b.drop (nextU b).2.1)).1 + 1, (walkU (b.drop (nextU b).2.1)).2 + (nextU b).2.1) else (0, 0)
termination_by b.length
decreasing_by all_goals (have := nextU_pos _h; simp; omega)
theorem walk_ok (s : List UInt8) (hl : s.length ≤ 9223372036854775807) (prot : Nat) (H : Heap) (hp : prot ≤ H.length) :
  aLim cfg prot 65 [.str s] H = some (.tup [.int .i64 (walkU s).1, .int .i64 (walkU s).2], none) := by
 refine pure_slim rfl (by kernel_rfl) Tryz.func65 s65 hp rfl (by simp [Tryz.f65]) fun fr hlen h => ?_
 simp only [Has] at h
 obtain ⟨a0, -⟩ := h
 simp only [Tryz.f65] at hlen ⊢
 unfold g65
 have hfz : ∀ (K : Heap) (x y : AV), still x = true → still y = true → Frz K H.length (packR [x, y]) (.tup [x, y]) := fun K x y h1 h2 => .tup (.cons (.still h1) (.cons (.still h2) .nil))
 have cv := fun K => conv_sb Tryz.underlying9 Tryz.underlying72 Tryz.underlying5 K s
 have hg : hget (H ++ [Blk.cells 0 (cellsOf encB s)]) H.length 0 = some (cellsOf encB s) := by rw [hget_new rfl]; rfl
 have hbl : ∀ K, aLen Tryz.prog K 72 (.bs ⟨H.length, 0, 0, s.length, 0, 1, false, false⟩) = some (.int .i64 s.length) := fun K => by simp [aLen, Tryz.underlying72]
 simp only [w9, simprocAttr, hlen, a0, cv]
 refine loop_rule (fun m fr H' => ∃ (k n : Nat), m = s.length - k ∧ k ≤ s.length ∧ n ≤ k ∧ fr.length = 33 ∧ fget fr 4 = .bs ⟨H.length, 0, 0, s.length, 0, 1, false, false⟩ ∧ fget fr 5 = .int .i64 k ∧ fget fr 6 = .int .i64 n
  ∧ H' = H ++ [Blk.cells 0 (cellsOf encB s)] ∧ walkU s = ((walkU (s.drop k)).1 + n, (walkU (s.drop k)).2 + k)) ?_ s.length _ _ ⟨0, 0, by simp [w9, hlen]⟩
 rintro m fr H' ⟨k, n, rfl, hk, hnk, hlen, a4, a5, a6, hHe, hc⟩ ih
 subst hHe
 simp only [w9, simprocAttr, hlen, a4, a5, hbl]
 refine RC_split (fun h => ?_) (fun h => ?_)
 ·have hlt : k < s.length := by simpa using h
  obtain ⟨o, e1, e2⟩ := bytes_cut Tryz.underlying72 sz5 hg hlt
  have e3 := next_ok (s.drop k) o _ true (.vs _ _) (by simp; omega) H.length (H ++ [Blk.cells 0 (cellsOf encB s)]) (by simp) e2
  have hpos := nextU_pos (b := s.drop k)
  have hw : walkU (s.drop k) = if h : (nextU (s.drop k)).2.2 = 0 then ((walkU ((s.drop k).drop (nextU (s.drop k)).2.1)).1 + 1, (walkU ((s.drop k).drop (nextU (s.drop k)).2.1)).2 + (nextU (s.drop k)).2.1) else (0, 0) := by rw [walkU]
  simp only [List.drop_drop, List.length_drop] at hw hpos
  generalize nextU (s.drop k) = q at *
  obtain ⟨r, w, e⟩ := q
  simp only at hw hpos e3
  by_cases he : e = 0
  ·subst he
   obtain ⟨hw0, hwl⟩ := hpos rfl
   have w1 : IntKind.i64.wrap ((k : Int) + (w : Int)) = ((k + w : Nat) : Int) := by rw [wrap64 (by omega) (by omega)]; simp
   have w2 : IntKind.i64.wrap ((n : Int) + 1) = ((n + 1 : Nat) : Int) := by rw [wrap64 (by omega) (by omega)]; simp
   rw [dif_pos rfl] at hw
   simp only [w9, simprocAttr, hlen, a4, a5, a6, e1, e3, w1, w2]
   refine ih _ _ (s.length - (k + w)) (by omega) ⟨k + w, n + 1, rfl, by omega, by omega, ?_⟩
   rw [hc, hw]
   simp [w9, hlen, a4]
   omega
  ·have hed : decide (e = 0) = false := by simpa using he
   rw [dif_neg he] at hw
   rw [hc, hw]
   simp only [Nat.zero_add]
   have hnd : decide (¬ e = 0) = true := by simpa using he
   simp only [w9, simprocAttr, hlen, a4, a5, a6, e1, e3, hnd]
   exact Fin_pure (l := [.int .i64 n, .int .i64 k]) (by simp [w9, hlen]) (hfz _ _ _ rfl rfl) (by simp)
 ·have hnl : ¬ k < s.length := by simpa using h
  have hd : s.drop k = [] := by simp; omega
  have hw0 : walkU [] = (0, 0) := by rw [walkU]; simp [nextU]
  rw [hd, hw0] at hc
  rw [hc]
  simp only [Nat.zero_add]
  simp only [w9, simprocAttr, hlen, a5, a6]
  exact Fin_pure (l := [.int .i64 n, .int .i64 k]) (by simp [w9, hlen]) (hfz _ _ _ rfl rfl) (by simp)
def validU (s : List UInt8) : Bool := decide ((walkU s).2 = s.length)
theorem valid_ok (s : List UInt8) (hl : s.length ≤ 9223372036854775807) (prot : Nat) (H : Heap) (hp : prot ≤ H.length) : aLim cfg prot 31 [.str s] H = some (.bool (validU s), none) := by
 refine pure_slim rfl (by kernel_rfl) Tryz.func31 s31 hp rfl (by simp [Tryz.f31]) fun fr hlen h => ?_
 simp only [Has] at h
 obtain ⟨a0, -⟩ := h
 simp only [Tryz.f31] at hlen ⊢
 unfold g31
 have h1 := walk_ok s hl H.length H (Nat.le_refl _)
 have h2 : ∀ K, aLen Tryz.prog K 9 (.str s) = some (.int .i64 s.length) := fun K => by simp [aLen, Tryz.underlying9]
 have e : decide (((walkU s).2 : Int) = (s.length : Int)) = validU s := by unfold validU; rw [decide_eq_decide]; omega
 simp only [w9, simprocAttr, hlen, a0, h1, h2, e]
 exact Fin_pure (l := [.bool (validU s)]) (by simp [w9, hlen]) (.still rfl) (by simp)
open Go Go.Abs AbsSeat Ty
def u64 := an (show tagT Tryz.prog 59 = 0 from by kernel_rfl) (an (fun (xo yo : Operand) (s : BS) => bs_nil_eq (xo := xo) (yo := yo) Tryz.underlying23 s) (an (fun (xo yo : Operand) (es : List AV) (f : Bool) => vs_nil_eq (xo := xo) (yo := yo) Tryz.underlying23 es f) (an (fun (xo yo : Operand)  => nilS_nilS_eq (xo := xo) (yo := yo) Tryz.underlying23 ) (an (fun (K : Heap) (n : Int) => conv_int Tryz.underlying3 Tryz.underlying116 K n) (an (show tagT Tryz.prog 27 = 0 from by kernel_rfl) (an ag0 (an sz0 (an by0 (an Tryz.underlying0 (an ag3 (an sz3 (an by3 (an ze3 (an Tryz.underlying3 (an ag5 (an sz5 (an by5 (an ze5 (an Tryz.underlying5 (an ag9 (an sz9 (an by9 (an ze9 (an Tryz.underlying9 (an ag23 (an sz23 (an by23 (an se23 (an ze23 (an Tryz.underlying23 (an ag27 (an sz27 (an by27 (an ze27 (an bu27 (an Tryz.underlying27 (an ag59 (an sz59 (an by59 (an ze59 (an bu59 (an Tryz.underlying59 (an ag62 (an sz62 (an by62 (an ze62 (an Tryz.underlying62 (an ag66 (an sz66 (an by66 (an ze66 (an Tryz.underlying66 (an ag110 (an sz110 (an by110 (an ze110 (an Tryz.underlying110 (an ag116 (an sz116 (an by116 (an ze116 (an Tryz.underlying116 (an ag150 (an sz150 (an by150 (an ze150 (an Tryz.underlying150 (an fa59_0 (an fd59_0 (an fa59_1 fd59_1))))))))))))))))))))))))))))))))))))))))))))))))))))))))))))))))))))))
def g64 : Code := .seq (mG 0 #[q 2 (.assign (mI false)) 4]) (.seq (mG 1 #[mA 3 0 5, q 4 (cl 93 #[.tmp 3] #[5]) 4, mA 5 4 4, qg 6 (.move (.tmp 0)) 5 2 false, qg 7 (cl 62 #[.tmp 6] #[5]) 4 2 false, q 8 (.pick (.tmp 5) (mI true) (.tmp 7)) 4, mA 9 8 4, qg 10 (.move (.tmp 0)) 5 6 false, qg 11 (.binOp .eql 5 (.tmp 10) (.const (.int .u8 95)) 5) 4 6 false, q 12 (.pick (.tmp 9) (mI true) (.tmp 11)) 4, mB 2 12 4]) .ret)
def s64 := sL Tryz.f64 g64 (by kernel_rfl)
def g30 : Code := .seq (mG 0 #[q 2 (.assign (mI false)) 4]) (.seq (mG 1 #[mA 3 0 9, mF 4 .neq 9 3 mH 9 4, mA 5 4 4, qg 6 (.move (.tmp 0)) 9 2 true, qg 7 (.index 9 (.tmp 6) (ik 0)) 5 2 true, qg 8 (cl 62 #[.tmp 7] #[5]) 4 2 true, qg 9 (.unOp .not 4 (.tmp 8)) 4 2 true, q 10 (.pick (.tmp 5) (.tmp 9) (mI false)) 4, mA 11 10 4, qg 12 (.move (.tmp 0)) 9 8 true, qg 13 (cl 63 #[.tmp 12, .func 64] #[9, 110]) 4 8 true, q 14 (.pick (.tmp 11) (.tmp 13) (mI false)) 4, mB 2 14 4]) .ret)
def s30 := sL Tryz.f30 g30 (by kernel_rfl)
def g32 : Code := .seq (mG 0 #[q 2 (.assign (.const (.slice none 0 0))) 23]) (.seq (.seq (mG 1 #[mA 3 0 23, mF 4 .eql 23 3 (.const (.slice none 0 0)) 23 4]) (.cond (.tmp 4) (.seq (mG 2 #[q 2 (.assign (.const (.slice none 0 0))) 23]) .ret) .skip)) (.seq (mG 3 #[q 5 (.buildSlice 23 0 #[]) 23, mA 6 0 23, q 7 (bi .append #[.tmp 5, .tmp 6] #[23, 23]) 23, mB 2 7 23]) .ret))
def g8 : Code := .seq (mG 0 #[q 2 (.alloc 27) 0, q 3 (.assign (ik 0)) 28]) (.seq (.seq (mG 1 #[mA 6 0 23, q 7 (cl 28 #[.tmp 6, .func 29] #[23, 62]) 4]) (.cond (.tmp 7) (.seq (mG 2 #[q 8 (.build 27 #[]) 27, mD 27 2 8, q 3 (.assign (ik 3)) 28]) .ret) .skip)) (.seq (mG 3 #[mA 9 0 23, q 10 (cl 32 #[.tmp 9] #[23]) 23, mB 4 10 23]) (.seq (mG 4 #[mA 11 4 23, q 12 (cl 33 #[.tmp 11, .func 34] #[23, 66]) 0]) (.seq (.seq (mG 5 #[q 5 (.assign (ik 1)) 3]) (.block 0 (.loop (.seq (.seq (mG 6 #[mA 13 5 3, mA 14 4 23, q 15 (bi .len #[.tmp 14] #[23]) 3, mF 16 .lss 3 13 (.tmp 15) 3 4]) (.cond (.tmp 16) .skip (.exit 0))) (.seq (.block 1 (.seq (mG 8 #[mA 19 4 23, mA 20 5 3, q 21 (.indexAddr 23 (.tmp 19) (.tmp 20)) 0, q 22 (.fieldAddr 59 (.tmp 21) 0) 0, mC 23 22 9, mA 24 4 23, mA 25 5 3, mF 26 .sub 3 25 (ik 1) 3 3, q 27 (.indexAddr 23 (.tmp 24) (.tmp 26)) 0, q 28 (.fieldAddr 59 (.tmp 27) 0) 0, mC 29 28 9, mF 30 .eql 9 23 (.tmp 29) 9 4]) (.cond (.tmp 30) (.seq (mG 9 #[q 31 (.build 27 #[]) 27, mD 27 2 31, q 3 (.assign (ik 10)) 28]) .ret) .skip))) (mG 7 #[mA 17 5 3, mF 18 .add 3 17 (ik 1) 3 3, mB 5 18 3])))))) (.seq (mG 10 #[mA 32 4 23, q 33 (.build 27 #[(0, .tmp 32)]) 27, mD 27 2 33, q 3 (.assign (ik 0)) 28]) .ret)))))
def inNameC (c : Int) : Bool := letterC c || digitC c || decide (c = 95)
theorem inName_ok (c : Int) (prot : Nat) (H : Heap) (hp : prot ≤ H.length) : aLim cfg prot 64 [.int .u8 c] H = some (.bool (inNameC c), none) := by
 have n1 := letter_ok c H.length H (Nat.le_refl _)
 have n2 := digit_ok c H.length H (Nat.le_refl _)
 unfold inNameC
 refine pure_slim rfl (by kernel_rfl) Tryz.func64 s64 hp rfl (by simp [Tryz.f64]) fun fr hlen h => ?_
 simp only [Has] at h
 obtain ⟨a0, -⟩ := h
 simp only [Tryz.f64] at hlen ⊢
 unfold g64
 generalize letterC c = g at *
 generalize digitC c = d at *
 cases g with
 | true =>
  simp only [w9, simprocAttr, hlen, a0, n1]
  simp only [Bool.true_or]
  exact Fin_pure (l := [.bool true]) (by simp [w9, hlen]) (.still rfl) (by simp)
 | false =>
  cases d with
  | true =>
   simp only [w9, simprocAttr, hlen, a0, n1, n2]
   simp only [Bool.true_or, Bool.false_or]
   exact Fin_pure (l := [.bool true]) (by simp [w9, hlen]) (.still rfl) (by simp)
  | false =>
   simp only [w9, simprocAttr, hlen, a0, n1, n2]
   simp only [Bool.false_or]
   exact Fin_pure (l := [.bool (decide (c = 95))]) (by simp [w9, hlen]) (.still rfl) (by simp)
theorem all_inName_ok (s : List UInt8) (hl : s.length ≤ 9223372036854775807) (prot : Nat) (H : Heap) (hp : prot ≤ H.length) :
  aLim cfg prot 63 [.str s, .func 64 [] []] H = some (.bool (s.all fun c => inNameC c.toNat), none) := by
 have fnn : ∀ (K : Heap) (xo yo : Operand), aBinH Tryz.prog K .neq 110 xo yo (.func 64 [] []) .nilF = some (.bool true) := fun K xo yo => by simp [aBinH, aBin, aNilNe, Tryz.underlying110]
 have hsl : ∀ K, aLen Tryz.prog K 9 (.str s) = some (.int .i64 s.length) := fun K => by simp [aLen, Tryz.underlying9]
 refine pure_slim rfl (by kernel_rfl) Tryz.func63 s63 hp rfl (by simp [Tryz.f63]) fun fr hlen h => ?_
 simp only [Has, Nat.zero_add] at h
 obtain ⟨a0, a1, -⟩ := h
 simp only [Tryz.f63] at hlen ⊢
 unfold g63
 simp only [w9, simprocAttr]
 refine loop_rule (fun m fr H' => ∃ (i : Nat), m = s.length - i ∧ i ≤ s.length ∧ fr.length = 24 ∧ fget fr 0 = .str s ∧ fget fr 1 = .func 64 [] [] ∧ fget fr 5 = .int .i64 i ∧ H' = H
  ∧ (s.all fun c => inNameC c.toNat) = ((s.drop i).all fun c => inNameC c.toNat)) ?_ s.length _ _ ⟨0, by simp [w9, hlen, a0, a1]⟩
 rintro m fr H' ⟨i, rfl, hi, hlen, a0, a1, a5, hHe, hc⟩ ih
 subst hHe
 simp only [w9, simprocAttr, hlen, a0, a1, a5, fnn, hsl]
 refine RC_split (fun h => ?_) (fun h => ?_)
 ·have hlt : i < s.length := by simpa using h
  have hw : IntKind.i64.wrap ((i : Int) + 1) = ((i + 1 : Nat) : Int) := by rw [wrap64 (by omega) (by omega)]; simp
  have e1 : aIndex Tryz.prog 9 (.str s) (.int .i64 i) = some (.int .u8 (s[i].toNat : Int)) := by simp [aIndex, asNat, Tryz.underlying9, hlt]
  have hd : s.drop i = s[i] :: s.drop (i + 1) := by simp
  rw [hd, List.all_cons] at hc
  generalize s[i] = x at *
  have n1 := inName_ok (x.toNat : Int) H'.length H' (Nat.le_refl _)
  cases hx : inNameC (x.toNat : Int) with
  | true =>
   rw [hx] at n1 hc
   simp only [w9, simprocAttr, hlen, a0, a1, a5, e1, n1, hw]
   refine ih _ _ (s.length - (i + 1)) (by omega) ⟨i + 1, rfl, hlt, ?_⟩
   rw [hc]
   simp [w9, hlen, a0, a1]
  | false =>
   rw [hx] at n1 hc
   simp only [w9, simprocAttr, hlen, a0, a1, a5, e1, n1]
   rw [hc]
   simp only [Bool.false_and]
   exact Fin_pure (l := [.bool false]) (by simp [w9, hlen]) (.still rfl) (by simp)
 ·have hnl : ¬ i < s.length := by simpa using h
  have hd : s.drop i = [] := by simp; omega
  rw [hd] at hc
  rw [hc]
  simp only [w9, simprocAttr, hlen, a1, fnn]
  exact Fin_pure (l := [.bool true]) (by simp [w9, hlen]) (.still rfl) (by simp)
def nameL (s : List UInt8) : Bool := match s with | [] => false | c :: _ => !(digitC c.toNat) && s.all fun c => inNameC c.toNat
theorem name_ok (s : List UInt8) (hl : s.length ≤ 9223372036854775807) (prot : Nat) (H : Heap) (hp : prot ≤ H.length) : aLim cfg prot 30 [.str s] H = some (.bool (nameL s), none) := by
 have n2 := all_inName_ok s hl H.length H (Nat.le_refl _)
 refine pure_slim rfl (by kernel_rfl) Tryz.func30 s30 hp rfl (by simp [Tryz.f30]) fun fr hlen h => ?_
 simp only [Has] at h
 obtain ⟨a0, -⟩ := h
 simp only [Tryz.f30] at hlen ⊢
 unfold g30
 cases s with
 | nil =>
  have e0 : aStr .neq [] [] = some (.bool false) := rfl
  simp only [w9, simprocAttr, hlen, a0, e0]
  exact Fin_pure (l := [.bool false]) (by simp [w9, hlen]) (.still rfl) (by simp)
 | cons c r =>
  have n1 := digit_ok (c.toNat : Int) H.length H (Nat.le_refl _)
  have e0 : aStr .neq (c :: r) [] = some (.bool true) := by simp [aStr]
  have e1 : aIndex Tryz.prog 9 (.str (c :: r)) (.int .i64 0) = some (.int .u8 (c.toNat : Int)) := by simp [aIndex, asNat, Tryz.underlying9]
  simp only [nameL]
  generalize ((c :: r).all fun c => inNameC c.toNat) = q at *
  cases hx : digitC (c.toNat : Int) with
  | true =>
   rw [hx] at n1
   simp only [w9, simprocAttr, hlen, a0, e0, e1, n1]
   simp only [Bool.false_and]
   exact Fin_pure (l := [.bool false]) (by simp [w9, hlen]) (.still rfl) (by simp)
  | false =>
   rw [hx] at n1
   simp only [w9, simprocAttr, hlen, a0, e0, e1, n1, n2]
   simp only [Bool.true_and]
   exact Fin_pure (l := [.bool q]) (by simp [w9, hlen]) (.still rfl) (by simp)
structure Pr where
 name : List UInt8
 val : List UInt8
def encP (x : Pr) : AV := .agg [.str x.name, .str x.val]
open Go Go.Abs AbsSeat Ty
structure Mt where
 name : List UInt8
 kind : Int
 val : List UInt8
def encMt (m : Mt) : AV := .agg [.str m.name, .int .i64 m.kind, .str m.val]
def wsC (c : Int) : Bool := decide (c = 32) || decide (c = 9)
def trimL (s : List UInt8) : List UInt8 := s.drop (runS wsC s)
def trimR (s : List UInt8) : List UInt8 := s.take (s.length - runS wsC s.reverse)
def stopC (c : Int) : Bool := decide (c = 61) || decide (c = 33) || decide (c = 32) || decide (c = 9)
def goC (c : Int) : Bool := !stopC c
def kindS (s : List UInt8) : Int × List UInt8 :=
 if hasPre s [61, 126] then (3, trimL (s.drop 2)) else if hasPre s [33, 126] then (4, trimL (s.drop 2)) else if hasPre s [33, 61] then (2, trimL (s.drop 2)) else if hasPre s [61] then (1, trimL (s.drop 1)) else (0, s)
def qtS : List UInt8 → Option (List UInt8 × Nat)
 | [] => none
 | c :: t => if c = 34 then (textS t).map fun x => (x.1, x.2 + 1) else none
def leadS (s : List UInt8) : Option (Mt × List UInt8) :=
 if runS goC (trimL s) = (trimL s).length then none
 else match qtS (kindS (trimL ((trimL s).drop (runS goC (trimL s))))).2 with
  | none => none
  | some x => if (!decide ((kindS (trimL ((trimL s).drop (runS goC (trimL s))))).1 = 0) && nameL ((trimL s).take (runS goC (trimL s)))) = true then
    some (⟨(trimL s).take (runS goC (trimL s)), (kindS (trimL ((trimL s).drop (runS goC (trimL s))))).1, x.1⟩, trimL ((kindS (trimL ((trimL s).drop (runS goC (trimL s))))).2.drop x.2))
   else none
theorem trimL_len (s : List UInt8) : (trimL s).length ≤ s.length := by simp [trimL]
theorem kindS_len (s : List UInt8) : (kindS s).2.length ≤ s.length := by
 unfold kindS
 split
 ·have := trimL_len (s.drop 2); simp at this ⊢; omega
 ·split
  ·have := trimL_len (s.drop 2); simp at this ⊢; omega
  ·split
   ·have := trimL_len (s.drop 2); simp at this ⊢; omega
   ·split
    ·have := trimL_len (s.drop 1); simp at this ⊢; omega
    ·exact Nat.le_refl _
theorem qtS_pos {s : List UInt8} {x : List UInt8 × Nat} (h : qtS s = some x) : 0 < x.2 ∧ 0 < s.length := by
 cases s with
 | nil => cases h
 | cons c t =>
  by_cases hc : c = 34
  ·simp only [qtS, if_pos hc, Option.map_eq_some_iff] at h
   obtain ⟨y, -, rfl⟩ := h
   exact ⟨by simp, by simp⟩
  ·simp only [qtS, if_neg hc] at h
   cases h
theorem leadS_len {s : List UInt8} {m : Mt} {r : List UInt8} (h : leadS s = some (m, r)) : r.length < s.length := by
 unfold leadS at h
 have h1 := trimL_len s
 have h2 := trimL_len ((trimL s).drop (runS goC (trimL s)))
 have h3 := kindS_len (trimL ((trimL s).drop (runS goC (trimL s))))
 simp only [List.length_drop] at h2
 generalize trimL ((trimL s).drop (runS goC (trimL s))) = s2 at *
 generalize kindS s2 = q at *
 split at h
 ·cases h
 ·split at h
  ·cases h
  ·rename_i x hx
   split at h
   ·injection h with h
    injection h with _ h
    subst h
    obtain ⟨p1, p2⟩ := qtS_pos hx
    have h4 := trimL_len (q.2.drop x.2)
    simp only [List.length_drop] at h4
    omega
   ·cases h
def partsS (s : List UInt8) : Option (List Mt) :=
 if trimL s = [] then some []
 else match _h : leadS (trimL s) with
  | none => none
  | some x => if hasPre x.2 [44] then (partsS (x.2.drop 1)).map (x.1 :: ·) else if x.2 = [] then some [x.1] else none
termination_by s.length
decreasing_by
 have := leadS_len (m := x.1) (r := x.2) _h
 have := trimL_len s
 simp; omega
def hasSuf (s p : List UInt8) : Bool := decide (p.length ≤ s.length) && (s.drop (s.length - p.length) == p)
def parseM (s : List UInt8) : Option (List Mt) :=
 if hasPre (trimL (trimR s)) [123] && hasSuf ((trimL (trimR s)).drop 1) [125] then partsS (((trimL (trimR s)).drop 1).take (((trimL (trimR s)).drop 1).length - 1)) else none
set_option maxRecDepth 100000
open Go Go.Abs AbsSeat Ty
def u48 := an (show tagT Tryz.prog 133 = 0 from by kernel_rfl) (an ag3 (an sz3 (an by3 (an ze3 (an Tryz.underlying3 (an ag4 (an sz4 (an by4 (an ze4 (an Tryz.underlying4 (an ag5 (an sz5 (an by5 (an ze5 (an Tryz.underlying5 (an ag9 (an sz9 (an by9 (an ze9 (an Tryz.underlying9 (an ag133 (an sz133 (an by133 (an ze133 (an Tryz.underlying133 (an ag137 (an sz137 (an by137 (an ze137 Tryz.underlying137)))))))))))))))))))))))))))))
def g48 : Code := .seq (mG 0 #[q 4 (.assign mH) 9]) (.seq (.seq (mG 1 #[mA 7 0 9, mF 8 .eql 9 7 mH 9 4, mA 9 8 4, qg 10 (.move (.tmp 1)) 9 2 false, qg 11 (.binOp .eql 9 (.tmp 10) mH 9) 4 2 false, q 12 (.pick (.tmp 9) (mI true) (.tmp 11)) 4]) (.cond (.tmp 12) (.seq (mG 2 #[mA 13 0 9, mB 4 13 9]) .ret) .skip)) (.seq (.seq (mG 3 #[mA 14 1 9, q 15 (bi .len #[.tmp 14] #[9]) 3, mF 16 .eql 3 15 (ik 1) 3 4, mA 17 16 4, qg 18 (.move (.tmp 1)) 9 3 true, qg 19 (.index 9 (.tmp 18) (ik 0)) 5 3 true, qg 20 (.binOp .lss 5 (.tmp 19) (.const (.int .u8 128)) 5) 4 3 true, q 21 (.pick (.tmp 17) (.tmp 20) (mI false)) 4]) (.cond (.tmp 21) (.seq (mG 4 #[mA 22 0 9, mA 23 1 9, q 24 (.index 9 (.tmp 23) (ik 0)) 5, q 25 (cl 81 #[.tmp 22, .tmp 24] #[9, 5]) 9, mB 4 25 9]) .ret) .skip)) (.seq (.seq (mG 5 #[mA 27 1 9, q 28 (cl 82 #[.tmp 27] #[9]) 134, mA 26 28 134, mE 29 26 0 133, mE 30 26 1 4, q 5 (.alloc 133) 0, mD 133 5 29, mB 6 30 4]) (.seq (mG 6 #[mA 31 6 4]) (.cond (.tmp 31) (.seq (mG 7 #[mA 32 0 9, q 33 (cl 83 #[.tmp 32, .tmp 5] #[9, 137]) 9, mB 4 33 9]) .ret) .skip))) (.seq (mG 8 #[mA 34 0 9, mA 35 1 9, q 36 (cl 84 #[.tmp 34, .tmp 35] #[9, 9]) 9, mB 4 36 9]) .ret))))
def s48 := sL Tryz.f48 g48 (by kernel_rfl)
def g83 : Code := .seq (mG 0 #[q 4 (.assign mH) 9]) (.seq (.block 0 (.loop (.seq (.seq (mG 1 #[mA 5 0 9, q 6 (bi .len #[.tmp 5] #[9]) 3, mF 7 .gtr 3 6 (ik 0) 3 4]) (.cond (.tmp 7) .skip (.exit 0))) (.block 1 (.seq (.seq (mG 2 #[mA 8 1 137, mA 9 0 9, q 10 (.index 9 (.tmp 9) (ik 0)) 5, q 11 (cl 117 #[.tmp 8, .tmp 10] #[137, 5]) 4, q 12 (.unOp .not 4 (.tmp 11)) 4]) (.cond (.tmp 12) (.exit 0) .skip)) (mG 3 #[mA 13 0 9, q 14 (.slice 9 (.tmp 13) (some (ik 1)) none none) 9, mB 0 14 9])))))) (.seq (mG 4 #[mA 15 0 9, mB 4 15 9]) .ret))
def s83 := sL Tryz.f83 g83 (by kernel_rfl)
def g117 : Code := .seq (mG 0 #[q 4 (.assign (mI false)) 4]) (.seq (mG 1 #[mA 5 0 137, mA 6 1 5, q 7 (.nilCheck (.tmp 5)) 0, q 8 (.indexAddr 133 (.tmp 7) (.tmp 6)) 0, mC 9 8 4, mB 4 9 4]) .ret)
def s117 := sL Tryz.f117 g117 (by kernel_rfl)
def g89 : Code := .seq (mG 0 #[q 4 (.assign mH) 9]) (.seq (.seq (mG 1 #[mA 7 0 9, mF 8 .eql 9 7 mH 9 4, mA 9 8 4, qg 10 (.move (.tmp 1)) 9 2 false, qg 11 (.binOp .eql 9 (.tmp 10) mH 9) 4 2 false, q 12 (.pick (.tmp 9) (mI true) (.tmp 11)) 4]) (.cond (.tmp 12) (.seq (mG 2 #[mA 13 0 9, mB 4 13 9]) .ret) .skip)) (.seq (.seq (mG 3 #[mA 14 1 9, q 15 (bi .len #[.tmp 14] #[9]) 3, mF 16 .eql 3 15 (ik 1) 3 4, mA 17 16 4, qg 18 (.move (.tmp 1)) 9 3 true, qg 19 (.index 9 (.tmp 18) (ik 0)) 5 3 true, qg 20 (.binOp .lss 5 (.tmp 19) (.const (.int .u8 128)) 5) 4 3 true, q 21 (.pick (.tmp 17) (.tmp 20) (mI false)) 4]) (.cond (.tmp 21) (.seq (mG 4 #[mA 22 0 9, mA 23 1 9, q 24 (.index 9 (.tmp 23) (ik 0)) 5, q 25 (cl 123 #[.tmp 22, .tmp 24] #[9, 5]) 9, mA 26 1 9, q 27 (.index 9 (.tmp 26) (ik 0)) 5, q 28 (cl 81 #[.tmp 25, .tmp 27] #[9, 5]) 9, mB 4 28 9]) .ret) .skip)) (.seq (.seq (mG 5 #[mA 30 1 9, q 31 (cl 82 #[.tmp 30] #[9]) 134, mA 29 31 134, mE 32 29 0 133, mE 33 29 1 4, q 5 (.alloc 133) 0, mD 133 5 32, mB 6 33 4]) (.seq (mG 6 #[mA 34 6 4]) (.cond (.tmp 34) (.seq (mG 7 #[mA 35 0 9, q 36 (cl 124 #[.tmp 35, .tmp 5] #[9, 137]) 9, q 37 (cl 83 #[.tmp 36, .tmp 5] #[9, 137]) 9, mB 4 37 9]) .ret) .skip))) (.seq (mG 8 #[mA 38 0 9, mA 39 1 9, q 40 (cl 125 #[.tmp 38, .tmp 39] #[9, 9]) 9, mA 41 1 9, q 42 (cl 84 #[.tmp 40, .tmp 41] #[9, 9]) 9, mB 4 42 9]) .ret))))
def s89 := sL Tryz.f89 g89 (by kernel_rfl)
def g124 : Code := .seq (mG 0 #[q 4 (.assign mH) 9]) (.seq (.block 0 (.loop (.seq (.seq (mG 1 #[mA 5 0 9, q 6 (bi .len #[.tmp 5] #[9]) 3, mF 7 .gtr 3 6 (ik 0) 3 4]) (.cond (.tmp 7) .skip (.exit 0))) (.block 1 (.seq (.seq (mG 2 #[mA 8 1 137, mA 9 0 9, mA 10 0 9, q 11 (bi .len #[.tmp 10] #[9]) 3, mF 12 .sub 3 11 (ik 1) 3 3, q 13 (.index 9 (.tmp 9) (.tmp 12)) 5, q 14 (cl 117 #[.tmp 8, .tmp 13] #[137, 5]) 4, q 15 (.unOp .not 4 (.tmp 14)) 4]) (.cond (.tmp 15) (.exit 0) .skip)) (mG 3 #[mA 16 0 9, mA 17 0 9, q 18 (bi .len #[.tmp 17] #[9]) 3, mF 19 .sub 3 18 (ik 1) 3 3, q 20 (.slice 9 (.tmp 16) none (some (.tmp 19)) none) 9, mB 0 20 9])))))) (.seq (mG 4 #[mA 21 0 9, mB 4 21 9]) .ret))
def s124 := sL Tryz.f124 g124 (by kernel_rfl)
def g55 : Code := .seq (mG 0 #[q 2 (.assign mH) 9]) (.seq (.region 1 #[mA 3 0 9, q 4 (cl 89 #[.tmp 3, .const (.string { data := #[32, 9] })] #[9, 9]) 9, mB 2 4 9] false) .ret)
def s55 := sL Tryz.f55 g55 (by kernel_rfl)
def g56 : Code := .seq (mG 0 #[q 2 (.assign mH) 9]) (.seq (.region 1 #[mA 3 0 9, q 4 (cl 48 #[.tmp 3, .const (.string { data := #[32, 9] })] #[9, 9]) 9, mB 2 4 9] false) .ret)
def s56 := sL Tryz.f56 g56 (by kernel_rfl)
def asH (cs : List UInt8) (i : Nat) : Bool := cs.any fun c => c.toNat == i
def asC (cs : List UInt8) : List AV := (List.range 256).map fun i => .bool (asH cs i)
theorem asC_len (cs : List UInt8) : (asC cs).length = 256 := by simp [asC]
theorem asC_leaf (cs : List UInt8) : (asC cs).all AV.leaf = true := by simp [asC, AV.leaf]
theorem asC_at (cs : List UInt8) (c : UInt8) : (asC cs)[c.toNat]? = some (.bool (asH cs c.toNat)) := by
 have hc := c.toNat_lt
 simp [asC, hc]
theorem asH_ws (c : UInt8) : asH [32, 9] c.toNat = wsC c.toNat := by
 have key : ∀ n : Fin 256, asH [32, 9] n.val = wsC n.val := by decide +kernel
 exact key ⟨c.toNat, c.toNat_lt⟩
theorem mkAs1 (prot : Nat) (H : Heap) : aLim cfg prot 82 [.str [32, 9]] H = some (.tup [.agg (asC [32, 9]), .bool true], none) :=
 lim_shut (k := 1000) (by kernel_rfl) (by kernel_rfl) (by kernel_rfl) prot H
theorem contains_ok (cs : List UInt8) (b : Nat) (c : UInt8) (prot : Nat) (H : Heap) (hp : prot ≤ H.length) (hg : hget H b 0 = some (asC cs)) : aLim cfg prot 117 [.ptr b 0 0, .int .u8 c.toNat] H = some (.bool (asH cs c.toNat), none) := by
 have hw := asC_at cs c
 have hc := c.toNat_lt
 have e1 : aIndexAddr Tryz.prog 133 (.ptr b 0 0) (.int .u8 c.toNat) = some (.ptr b 0 c.toNat) := by
  simp [aIndexAddr, asNat, Tryz.underlying133, sz4, hc]
 refine pure_slim rfl (by kernel_rfl) Tryz.func117 s117 hp rfl (by simp [Tryz.f117]) fun fr hlen h => ?_
 simp only [Has, Nat.zero_add] at h
 obtain ⟨a0, a1, -⟩ := h
 simp only [Tryz.f117] at hlen ⊢
 unfold g117
 simp only [w9, simprocAttr, u48, hlen, a0, a1, hg, hw, e1]
 exact Fin_pure (l := [.bool (asH cs c.toNat)]) (by simp [w9, hlen]) (.still rfl) (by simp)
theorem tlA_ok (s : List UInt8) (_hl : s.length < 1000000000000000000) (b : Nat) (prot : Nat) (H : Heap) (hp : prot ≤ H.length) (hg : hget H b 0 = some (asC [32, 9])) : aLim cfg prot 83 [.str s, .ptr b 0 0] H = some (.str (trimL s), none) := by
 unfold trimL
 refine pure_slim rfl (by kernel_rfl) Tryz.func83 s83 hp rfl (by simp [Tryz.f83]) fun fr hlen h => ?_
 simp only [Has, Nat.zero_add] at h
 obtain ⟨a0, a1, -⟩ := h
 simp only [Tryz.f83] at hlen ⊢
 unfold g83
 simp only [w9, simprocAttr]
 refine loop_rule (fun m fr K => ∃ (i : Nat), m = s.length - i ∧ i ≤ s.length ∧ fr.length = 16 ∧ fget fr 0 = .str (s.drop i) ∧ fget fr 1 = .ptr b 0 0 ∧ K = H ∧ runS wsC s = i + runS wsC (s.drop i)) ?_ s.length _ _ ⟨0, by simp [w9, hlen, a0, a1]⟩
 rintro m fr K ⟨i, rfl, hi, hlen, a0, a1, rfl, hc⟩ ih
 rw [hc]
 cases hd : s.drop i with
 | nil =>
  rw [hd] at a0
  have e0 : s.drop (i + runS wsC ([] : List UInt8)) = [] := by simp [runS, hd]
  rw [e0]
  simp only [w9, simprocAttr, hlen, a0, slen]
  exact Fin_pure (l := [.str []]) (by simp [w9, hlen]) (.still rfl) (by simp)
 | cons c t =>
  have hlt : i < s.length := by
   refine Nat.lt_of_not_le fun h => ?_
   rw [List.drop_of_length_le h] at hd; cases hd
  have hd1 : s.drop (i + 1) = t := by
   have := List.drop_eq_getElem_cons hlt
   rw [hd] at this
   injection this with _ h; exact h.symm
  rw [hd] at a0 hc
  have d0 : decide ((0 : Int) < ((t.length + 1 : Nat) : Int)) = true := decide_eq_true (by omega)
  have e1 : aIndex Tryz.prog 9 (.str (c :: t)) (.int .i64 0) = some (.int .u8 (c.toNat : Int)) := by
   have := str_at (P := Tryz.prog) Tryz.underlying9 (c :: t) (k := .i64) (i := 0) (by simp)
   exact this
  have e2 := str_from (k := .i64) Tryz.underlying9 (c :: t) (a := 1) (by simp)
  have e2 : aSlice Tryz.prog 9 (.str (c :: t)) (some (.int .i64 1)) none none = some (.str t) := e2
  have n1 := contains_ok [32, 9] b c K.length K (Nat.le_refl _) hg
  rw [asH_ws] at n1
  cases hb : wsC c.toNat with
  | true =>
   rw [hb] at n1
   simp only [w9, simprocAttr, hlen, a0, a1, slen, d0, e1, n1, e2]
   have h2 : runS wsC (c :: t) = runS wsC t + 1 := by simp [runS, hb]
   have hE : s.drop (i + runS wsC (c :: t)) = s.drop (runS wsC s) := by rw [hc]
   rw [hE]
   refine ih _ _ (s.length - (i + 1)) (by omega) ⟨i + 1, rfl, by omega, ?_⟩
   rw [hd1]
   refine ⟨by simp [w9, hlen], by simp [w9, hlen], by simp [w9, a1], rfl, by omega⟩
  | false =>
   rw [hb] at n1
   have e0 : s.drop (i + runS wsC (c :: t)) = c :: t := by simp [runS, hb, hd]
   rw [e0]
   simp only [w9, simprocAttr, hlen, a0, a1, slen, d0, e1, n1]
   exact Fin_pure (l := [.str (c :: t)]) (by simp [w9, hlen]) (.still rfl) (by simp)
theorem trA_ok (s : List UInt8) (hl : s.length < 1000000000000000000) (b : Nat) (prot : Nat) (H : Heap) (hp : prot ≤ H.length) (hg : hget H b 0 = some (asC [32, 9])) : aLim cfg prot 124 [.str s, .ptr b 0 0] H = some (.str (trimR s), none) := by
 unfold trimR
 refine pure_slim rfl (by kernel_rfl) Tryz.func124 s124 hp rfl (by simp [Tryz.f124]) fun fr hlen h => ?_
 simp only [Has, Nat.zero_add] at h
 obtain ⟨a0, a1, -⟩ := h
 simp only [Tryz.f124] at hlen ⊢
 unfold g124
 simp only [w9, simprocAttr]
 refine loop_rule (fun m fr K => m ≤ s.length ∧ fr.length = 22 ∧ fget fr 0 = .str (s.take m) ∧ fget fr 1 = .ptr b 0 0 ∧ K = H ∧ s.length - runS wsC s.reverse = m - runS wsC (s.take m).reverse) ?_ s.length _ _ (by simp [w9, hlen, a0, a1, List.take_length])
 rintro m fr K ⟨hi, hlen, a0, a1, rfl, hc⟩ ih
 cases m with
 | zero =>
  rw [hc]
  rw [List.take_zero] at a0
  rw [Nat.zero_sub, List.take_zero]
  simp only [w9, simprocAttr, hlen, a0, slen]
  exact Fin_pure (l := [.str []]) (by simp [w9, hlen]) (.still rfl) (by simp)
 | succ j =>
  have hj : j < s.length := by omega
  have htk : s.take (j + 1) = s.take j ++ [s[j]] := List.take_succ_eq_append_getElem hj
  have hln : (s.take (j + 1)).length = j + 1 := by rw [List.length_take]; omega
  have hls : ∀ K, aLen Tryz.prog K 9 (.str (s.take (j + 1))) = some (.int .i64 ((j + 1 : Nat) : Int)) := fun K => by rw [slen, hln]
  have d0 : decide ((0 : Int) < ((j + 1 : Nat) : Int)) = true := decide_eq_true (by omega)
  have w1 : IntKind.i64.wrap (((j + 1 : Nat) : Int) - 1) = (j : Nat) := by rw [wrap64 (by omega) (by omega)]; simp
  have e1 := str_at (P := Tryz.prog) Tryz.underlying9 (s.take (j + 1)) (k := .i64) (i := j) (by omega)
  have e3 : (s.take (j + 1))[j]'(by omega) = s[j] := by simp
  rw [e3] at e1
  have e2 := str_upto (k := .i64) Tryz.underlying9 (s.take (j + 1)) (b := j) (by omega)
  rw [List.take_take, Nat.min_eq_left (by omega)] at e2
  have n1 := contains_ok [32, 9] b s[j] K.length K (Nat.le_refl _) hg
  rw [asH_ws] at n1
  have hrv : runS wsC (s.take (j + 1)).reverse = if wsC (s[j].toNat) then runS wsC (s.take j).reverse + 1 else 0 := by
   rw [htk, List.reverse_append]; rfl
  cases hb : wsC s[j].toNat with
  | true =>
   rw [hb] at n1 hrv
   simp only [if_true] at hrv
   simp only [w9, simprocAttr, hlen, a0, a1, hls, d0, w1, e1, n1, e2]
   refine ih _ _ j (by omega) ⟨by omega, by simp [w9, hlen], by simp [w9, hlen], by simp [w9, a1], rfl, by omega⟩
  | false =>
   rw [hb] at n1 hrv
   simp only [Bool.false_eq_true, if_false] at hrv
   rw [hc, hrv, Nat.sub_zero]
   simp only [w9, simprocAttr, hlen, a0, a1, hls, d0, w1, e1, n1]
   exact Fin_pure (l := [.str (s.take (j + 1))]) (by simp [w9, hlen]) (.still rfl) (by simp)
theorem tl_ok (s : List UInt8) (hl : s.length < 1000000000000000000) (prot : Nat) (H : Heap) (hp : prot ≤ H.length) : aLim cfg prot 48 [.str s, .str [32, 9]] H = some (.str (trimL s), none) := by
 have e1 : aStr .eql [32, 9] [] = some (.bool false) := rfl
 have l2 : ∀ K, aLen Tryz.prog K 9 (.str [32, 9]) = some (.int .i64 2) := fun K => slen [32, 9] K
 have n1 := fun K => mkAs1 H.length K
 have n2 := fun (K : Heap) (hK : H.length ≤ K.length) b hg => tlA_ok s hl b H.length K hK hg
 have n2 := n2 (H ++ [Blk.cells 0 (asC [32, 9])]) (by simp) H.length (by rw [hget_new rfl, if_pos rfl])
 have hal := asC_len [32, 9]
 have hlf := asC_leaf [32, 9]
 have hpn : ∀ Z : List AV, Z.length = 256 → Go.Abs.hput H.length (H ++ [Blk.cells 0 Z]) H.length 0 0 (asC [32, 9]) = some (H ++ [Blk.cells 0 (asC [32, 9])]) := fun Z hZ => by
  rw [hput_new rfl (Nat.le_refl _) (by omega) hlf]
  unfold splice
  rw [hal, List.take_zero, List.drop_eq_nil_of_le (by omega)]; simp
 cases s with
 | nil =>
  have e0 : aStr .eql [] [] = some (.bool true) := rfl
  refine pure_slim rfl (by kernel_rfl) Tryz.func48 s48 hp rfl (by simp [Tryz.f48]) fun fr hlen h => ?_
  simp only [Has, Nat.zero_add] at h
  obtain ⟨a0, a1, -⟩ := h
  simp only [Tryz.f48] at hlen ⊢
  unfold g48
  simp only [w9, simprocAttr, hlen, a0, e0]
  exact Fin_pure (l := [.str []]) (by simp [w9, hlen]) (.still rfl) (by simp)
 | cons c t =>
  have e0 : aStr .eql (c :: t) [] = some (.bool false) := rfl
  generalize asC [32, 9] = A at *
  generalize c :: t = s at *
  refine pure_slim rfl (by kernel_rfl) Tryz.func48 s48 hp rfl (by simp [Tryz.f48]) fun fr hlen h => ?_
  simp only [Has, Nat.zero_add] at h
  obtain ⟨a0, a1, -⟩ := h
  simp only [Tryz.f48] at hlen ⊢
  unfold g48
  simp only [w9, simprocAttr, u48, hlen, a0, a1, e0, e1, l2, n1, n2, hal, hpn]
  exact Fin_pure (l := [.str (trimL s)]) (by simp [w9, hlen]) (.still rfl) (by simp)
theorem blanks_ok (s : List UInt8) (hl : s.length < 1000000000000000000) (prot : Nat) (H : Heap) (hp : prot ≤ H.length) : aLim cfg prot 56 [.str s] H = some (.str (trimL s), none) := by
 have n1 := tl_ok s hl H.length H (Nat.le_refl _)
 refine pure_slim rfl (by kernel_rfl) Tryz.func56 s56 hp rfl (by simp [Tryz.f56]) fun fr hlen h => ?_
 simp only [Has] at h
 obtain ⟨a0, -⟩ := h
 simp only [Tryz.f56] at hlen ⊢
 unfold g56
 simp only [w9, simprocAttr, hlen, a0, n1]
 exact Fin_pure (l := [.str (trimL s)]) (by simp [w9, hlen]) (.still rfl) (by simp)
theorem trim_ok (s : List UInt8) (hl : s.length < 1000000000000000000) (prot : Nat) (H : Heap) (hp : prot ≤ H.length) : aLim cfg prot 89 [.str s, .str [32, 9]] H = some (.str (trimL (trimR s)), none) := by
 have e1 : aStr .eql [32, 9] [] = some (.bool false) := rfl
 have l2 : ∀ K, aLen Tryz.prog K 9 (.str [32, 9]) = some (.int .i64 2) := fun K => slen [32, 9] K
 have n1 := fun K => mkAs1 H.length K
 have hrl : (trimR s).length < 1000000000000000000 := by unfold trimR; rw [List.length_take]; omega
 have n2 := fun (K : Heap) (hK : H.length ≤ K.length) b hg => tlA_ok (trimR s) hrl b H.length K hK hg
 have n2 := n2 (H ++ [Blk.cells 0 (asC [32, 9])]) (by simp) H.length (by rw [hget_new rfl, if_pos rfl])
 have n3 := fun (K : Heap) (hK : H.length ≤ K.length) b hg => trA_ok s hl b H.length K hK hg
 have n3 := n3 (H ++ [Blk.cells 0 (asC [32, 9])]) (by simp) H.length (by rw [hget_new rfl, if_pos rfl])
 have hal := asC_len [32, 9]
 have hlf := asC_leaf [32, 9]
 have hpn : ∀ Z : List AV, Z.length = 256 → Go.Abs.hput H.length (H ++ [Blk.cells 0 Z]) H.length 0 0 (asC [32, 9]) = some (H ++ [Blk.cells 0 (asC [32, 9])]) := fun Z hZ => by
  rw [hput_new rfl (Nat.le_refl _) (by omega) hlf]
  unfold splice
  rw [hal, List.take_zero, List.drop_eq_nil_of_le (by omega)]; simp
 cases s with
 | nil =>
  have e0 : aStr .eql [] [] = some (.bool true) := rfl
  refine pure_slim rfl (by kernel_rfl) Tryz.func89 s89 hp rfl (by simp [Tryz.f89]) fun fr hlen h => ?_
  simp only [Has, Nat.zero_add] at h
  obtain ⟨a0, a1, -⟩ := h
  simp only [Tryz.f89] at hlen ⊢
  unfold g89
  simp only [w9, simprocAttr, hlen, a0, e0]
  exact Fin_pure (l := [.str []]) (by simp [w9, hlen]) (.still rfl) (by simp)
 | cons c t =>
  have e0 : aStr .eql (c :: t) [] = some (.bool false) := rfl
  generalize asC [32, 9] = A at *
  generalize c :: t = s at *
  refine pure_slim rfl (by kernel_rfl) Tryz.func89 s89 hp rfl (by simp [Tryz.f89]) fun fr hlen h => ?_
  simp only [Has, Nat.zero_add] at h
  obtain ⟨a0, a1, -⟩ := h
  simp only [Tryz.f89] at hlen ⊢
  unfold g89
  simp only [w9, simprocAttr, u48, hlen, a0, a1, e0, e1, l2, n1, n3, n2, hal, hpn]
  exact Fin_pure (l := [.str (trimL (trimR s))]) (by simp [w9, hlen]) (.still rfl) (by simp)
theorem ctrim_ok (s : List UInt8) (hl : s.length < 1000000000000000000) (prot : Nat) (H : Heap) (hp : prot ≤ H.length) : aLim cfg prot 55 [.str s] H = some (.str (trimL (trimR s)), none) := by
 have n1 := trim_ok s hl H.length H (Nat.le_refl _)
 refine pure_slim rfl (by kernel_rfl) Tryz.func55 s55 hp rfl (by simp [Tryz.f55]) fun fr hlen h => ?_
 simp only [Has] at h
 obtain ⟨a0, -⟩ := h
 simp only [Tryz.f55] at hlen ⊢
 unfold g55
 simp only [w9, simprocAttr, hlen, a0, n1]
 exact Fin_pure (l := [.str (trimL (trimR s))]) (by simp [w9, hlen]) (.still rfl) (by simp)
open Go Go.Abs AbsSeat Ty
theorem next_some (s : List UInt8) (k : Nat) (H : Heap) (prot : Nat) (hp : prot ≤ H.length) (hk : k < s.length) :
  aNext prot (H ++ [Blk.map (itB s k)]) (.it H.length) = some (.tup [.bool true, .int .i64 k, .int .i32 (Utf8.decode ⟨s.toArray⟩ k).1], some (H ++ [Blk.map (itB s (k + (Utf8.decode ⟨s.toArray⟩ k).2))])) := by
 have h1 : hit (H ++ [Blk.map (itB s k)]) H.length = some (s, k) := by simp [hit, hmap, itB]
 unfold aNext
 simp only [hp, if_true, h1, Option.map_some, hk]
 simp
theorem next_none (s : List UInt8) (k : Nat) (H : Heap) (prot : Nat) (hp : prot ≤ H.length) (hk : s.length ≤ k) :
  aNext prot (H ++ [Blk.map (itB s k)]) (.it H.length) = some (.tup [.bool false], some (H ++ [Blk.map (itB s k)])) := by
 have h1 : hit (H ++ [Blk.map (itB s k)]) H.length = some (s, k) := by simp [hit, hmap, itB]
 unfold aNext
 simp only [hp, if_true, h1, Option.map_some, show ¬ k < s.length by omega, if_false]
theorem range_new (s : List UInt8) (H : Heap) {t : TypeId} (hu : Tryz.prog.underlying t = some .string) : aRange Tryz.prog H t (.str s) = some (.it H.length, some (H ++ [Blk.map (itB s 0)])) := by
 unfold aRange
 rw [hu]
theorem getB (s : List UInt8) (j : Nat) (hj : j < s.length) : (⟨s.toArray⟩ : ByteArray).get! j = s[j] := by
 simp [ByteArray.get!, hj]
def validR (c : Int) : Bool := (decide (0 ≤ c) && decide (c < 55296)) || (decide (57344 ≤ c) && decide (c ≤ 1114111))
theorem validR_eq (c : Int) : Utf8.valid c = validR c := rfl
theorem dec_low (s : List UInt8) (k : Nat) (hk : k < s.length) (h : s[k].toNat < 128) : Utf8.decode ⟨s.toArray⟩ k = (s[k].toNat, 1) := by
 unfold Utf8.decode
 simp only [Nat.add_zero, getB s k hk]
 rw [if_pos h]
theorem dec_high (s : List UInt8) (k : Nat) (hk : k < s.length) (h : 128 ≤ s[k].toNat) :
  128 ≤ (Utf8.decode ⟨s.toArray⟩ k).1 ∧ validR ((Utf8.decode ⟨s.toArray⟩ k).1 : Nat) = true ∧ 1 ≤ (Utf8.decode ⟨s.toArray⟩ k).2 ∧ k + (Utf8.decode ⟨s.toArray⟩ k).2 ≤ s.length ∧ ∀ j, k ≤ j → j < k + (Utf8.decode ⟨s.toArray⟩ k).2 → ∀ hj : j < s.length, 128 ≤ s[j].toNat := by
 have hsz : (⟨s.toArray⟩ : ByteArray).size = s.length := by simp [ByteArray.size]
 have cont : ∀ n, (decide (k + n < (⟨s.toArray⟩ : ByteArray).size) && ((⟨s.toArray⟩ : ByteArray).get! (k + n)).toNat / 64 == 2) = true → k + n < s.length ∧ ∀ hj : k + n < s.length, 128 ≤ s[k + n].toNat := fun n hn => by
  simp only [Bool.and_eq_true, decide_eq_true_eq, beq_iff_eq, hsz] at hn
  refine ⟨hn.1, fun hj => ?_⟩
  have := hn.2
  rw [getB s _ hj] at this
  omega
 have one : 128 ≤ Utf8.runeError ∧ validR (Utf8.runeError : Nat) = true ∧ 1 ≤ 1 ∧ k + 1 ≤ s.length ∧ ∀ j, k ≤ j → j < k + 1 → ∀ hj : j < s.length, 128 ≤ s[j].toNat :=
  ⟨by decide, by decide, Nat.le_refl _, hk, fun j h1 h2 hj => by
    obtain rfl : j = k := by omega
    exact h⟩
 have h0 := getB s k hk
 generalize hb0 : s[k].toNat = b0 at h
 unfold Utf8.decode
 simp only [Nat.add_zero, h0, hb0]
 rw [if_neg (by omega)]
 split
 ·rename_i hc
  simp only [Bool.and_eq_true] at hc
  obtain ⟨hc0, hc1⟩ := hc
  obtain ⟨l1, b1⟩ := cont 1 (by simpa using hc1)
  split
  ·rename_i hv
   refine ⟨hv, ?_, by simp, by simp only; omega, fun j h1 h2 hj => ?_⟩
   ·have : (b0 % 32) * 64 + ((⟨s.toArray⟩ : ByteArray).get! (k + 1)).toNat % 64 < 2048 := by omega
    unfold validR
    simp; omega
   ·rcases (show j = k ∨ j = k + 1 by omega) with rfl | rfl
    ·omega
    ·exact b1 hj
  ·exact one
 ·split
  ·rename_i hc
   simp only [Bool.and_eq_true] at hc
   obtain ⟨⟨hc0, hc1⟩, hc2⟩ := hc
   obtain ⟨l1, b1⟩ := cont 1 (by simpa using hc1)
   obtain ⟨l2, b2⟩ := cont 2 (by simpa using hc2)
   split
   ·rename_i hv
    simp only [Bool.and_eq_true, decide_eq_true_eq] at hv
    refine ⟨by omega, hv.2, by simp, by simp only; omega, fun j h1 h2 hj => ?_⟩
    rcases (show j = k ∨ j = k + 1 ∨ j = k + 2 by omega) with rfl | rfl | rfl
    ·omega
    ·exact b1 hj
    ·exact b2 hj
   ·exact one
  ·split
   ·rename_i hc
    simp only [Bool.and_eq_true] at hc
    obtain ⟨⟨⟨hc0, hc1⟩, hc2⟩, hc3⟩ := hc
    obtain ⟨l1, b1⟩ := cont 1 (by simpa using hc1)
    obtain ⟨l2, b2⟩ := cont 2 (by simpa using hc2)
    obtain ⟨l3, b3⟩ := cont 3 (by simpa using hc3)
    split
    ·rename_i hv
     simp only [Bool.and_eq_true, decide_eq_true_eq] at hv
     refine ⟨by omega, hv.2, by simp, by simp only; omega, fun j h1 h2 hj => ?_⟩
     rcases (show j = k ∨ j = k + 1 ∨ j = k + 2 ∨ j = k + 3 by omega) with rfl | rfl | rfl | rfl
     ·omega
     ·exact b1 hj
     ·exact b2 hj
     ·exact b3 hj
    ·exact one
   ·exact one
set_option maxRecDepth 100000
open Go Go.Abs AbsSeat Ty
def u160 := an (fun (K : Heap) (n : Int) => conv_int Tryz.underlying21 Tryz.underlying5 K n) (an (show tagT Tryz.prog 133 = 0 from by kernel_rfl) (an (fun (K : Heap) (n : Int) => conv_int Tryz.underlying5 Tryz.underlying21 K n) (an ag3 (an sz3 (an by3 (an ze3 (an Tryz.underlying3 (an ag5 (an sz5 (an by5 (an ze5 (an Tryz.underlying5 (an ag9 (an sz9 (an by9 (an ze9 (an Tryz.underlying9 (an ag21 (an sz21 (an by21 (an ze21 (an Tryz.underlying21 (an ag116 (an sz116 (an by116 (an ze116 (an Tryz.underlying116 (an ag133 (an sz133 (an by133 (an ze133 Tryz.underlying133)))))))))))))))))))))))))))))))
def g160 : Code := .seq (mG 0 #[q 2 (.assign (mI false)) 4]) (.seq (.block 0 (.seq (mG 1 #[mA 4 0 21, q 5 (.binOp .leq 21 (.const (.int .i32 0)) (.tmp 4) 21) 4, mA 6 5 4, qg 7 (.move (.tmp 0)) 21 2 true, qg 8 (.binOp .lss 21 (.tmp 7) (.const (.int .i32 55296)) 21) 4 2 true, q 9 (.pick (.tmp 6) (.tmp 8) (mI false)) 4, mB 3 9 4]) (.cond (.tmp 3) (.seq (mG 2 #[q 2 (.assign (mI true)) 4]) .ret) (.seq (mG 3 #[mA 11 0 21, q 12 (.binOp .lss 21 (.const (.int .i32 57343)) (.tmp 11) 21) 4, mA 13 12 4, qg 14 (.move (.tmp 0)) 21 2 true, qg 15 (.binOp .leq 21 (.tmp 14) (.const (.int .i32 1114111)) 21) 4 2 true, q 16 (.pick (.tmp 13) (.tmp 15) (mI false)) 4, mB 10 16 4]) (.cond (.tmp 10) (.seq (mG 4 #[q 2 (.assign (mI true)) 4]) .ret) .skip))))) (.seq (mG 5 #[q 2 (.assign (mI false)) 4]) .ret))
def s160 := sL Tryz.f160 g160 (by kernel_rfl)
def g126 : Code := .seq (mG 0 #[q 4 (.assign (ik 0)) 3]) (.block 0 (.seq (mG 34 #[mA 161 1 21, q 162 (.binOp .leq 21 (.const (.int .i32 0)) (.tmp 161) 21) 4, mA 163 162 4, qg 164 (.move (.tmp 1)) 21 2 true, qg 165 (.binOp .lss 21 (.tmp 164) (.const (.int .i32 128)) 21) 4 2 true, q 166 (.pick (.tmp 163) (.tmp 165) (mI false)) 4, mB 160 166 4]) (.cond (.tmp 160) (.seq (mG 35 #[mA 167 0 9, mA 168 1 21, q 169 (.convert 21 5 (.tmp 168)) 5, q 170 (cl 74 #[.tmp 167, .tmp 169] #[9, 5]) 3, mB 4 170 3]) .ret) (.seq (mG 36 #[mA 172 1 21, mF 173 .eql 21 172 (.const (.int .i32 65533)) 21 4, mB 171 173 4]) (.cond (.tmp 171) (.seq (.seq (mG 37 #[mA 174 0 9, q 175 (.range 9 (.tmp 174)) 0]) (.block 9 (.loop (.seq (mG 38 #[q 176 (.next (.tmp 175) true) 0, mE 177 176 0 4]) (.seq (.cond (.tmp 177) .skip (.exit 9)) (.block 10 (.seq (mG 39 #[mE 178 176 1 3, mE 179 176 2 21, mB 5 178 3, mB 6 179 21]) (.seq (mG 40 #[mA 180 6 21, mF 181 .eql 21 180 (.const (.int .i32 65533)) 21 4]) (.cond (.tmp 181) (.seq (mG 41 #[mA 182 5 3, mB 4 182 3]) .ret) .skip))))))))) (.seq (mG 42 #[q 4 (.assign (ik (-1))) 3]) .ret)) (.seq (mG 43 #[mA 184 1 21, q 185 (cl 160 #[.tmp 184] #[21]) 4, q 186 (.unOp .not 4 (.tmp 185)) 4, mB 183 186 4]) (.cond (.tmp 183) (.seq (mG 44 #[q 4 (.assign (ik (-1))) 3]) .ret) (.scope (.seq (mG 1 #[mA 17 1 21, q 18 (.convert 21 9 (.tmp 17)) 9, mB 7 18 9]) (.seq (mG 2 #[mA 19 7 9, q 20 (bi .len #[.tmp 19] #[9]) 3, mF 21 .sub 3 20 (ik 1) 3 3, mB 8 21 3]) (.seq (mG 3 #[mA 22 8 3, mB 9 22 3]) (.seq (mG 4 #[q 10 (.assign (ik 0)) 3]) (.seq (.block 1 (.loop (.seq (.seq (mG 5 #[mA 23 9 3, mA 24 0 9, q 25 (bi .len #[.tmp 24] #[9]) 3, mF 26 .lss 3 23 (.tmp 25) 3 4]) (.cond (.tmp 26) .skip (.exit 1))) (.block 2 (.scope (.seq (.seq (mG 6 #[mA 27 0 9, mA 28 9 3, q 29 (.index 9 (.tmp 27) (.tmp 28)) 5, mA 30 7 9, mA 31 8 3, q 32 (.index 9 (.tmp 30) (.tmp 31)) 5, mF 33 .neq 5 29 (.tmp 32) 5 4]) (.cond (.tmp 33) (.seq (mG 7 #[mA 34 0 9, mA 35 9 3, mF 36 .add 3 35 (ik 1) 3 3, q 37 (.slice 9 (.tmp 34) (some (.tmp 36)) none none) 9, mA 38 7 9, mA 39 8 3, q 40 (.index 9 (.tmp 38) (.tmp 39)) 5, q 41 (cl 74 #[.tmp 37, .tmp 40] #[9, 5]) 3, mB 11 41 3]) (.seq (.seq (mG 8 #[mA 42 11 3, mF 43 .lss 3 42 (ik 0) 3 4]) (.cond (.tmp 43) (.seq (mG 9 #[q 4 (.assign (ik (-1))) 3]) .ret) .skip)) (mG 10 #[mA 44 9 3, mA 45 11 3, mF 46 .add 3 45 (ik 1) 3 3, mF 47 .add 3 44 (.tmp 46) 3 3, mB 9 47 3]))) .skip)) (.seq (.seq (mG 11 #[q 12 (.assign (ik 1)) 3]) (.block 3 (.loop (.seq (.seq (mG 12 #[mA 48 12 3, mA 49 7 9, q 50 (bi .len #[.tmp 49] #[9]) 3, mF 51 .lss 3 48 (.tmp 50) 3 4]) (.cond (.tmp 51) .skip (.exit 3))) (.seq (.block 4 (.seq (mG 14 #[mA 54 0 9, mA 55 9 3, mA 56 12 3, mF 57 .sub 3 55 (.tmp 56) 3 3, q 58 (.index 9 (.tmp 54) (.tmp 57)) 5, mA 59 7 9, mA 60 8 3, mA 61 12 3, mF 62 .sub 3 60 (.tmp 61) 3 3, q 63 (.index 9 (.tmp 59) (.tmp 62)) 5, mF 64 .neq 5 58 (.tmp 63) 5 4]) (.cond (.tmp 64) (.goto 0) .skip))) (mG 13 #[mA 52 12 3, mF 53 .add 3 52 (ik 1) 3 3, mB 12 53 3])))))) (.seq (.seq (mG 15 #[mA 65 9 3, mA 66 8 3, mF 67 .sub 3 65 (.tmp 66) 3 3, mB 4 67 3]) .ret) (.seq (.label 0) (.seq (mG 16 #[mA 68 10 3, mF 69 .add 3 68 (ik 1) 3 3, mB 10 69 3]) (.seq (mG 17 #[mA 70 9 3, mF 71 .add 3 70 (ik 1) 3 3, mB 9 71 3]) (.seq (mG 18 #[q 72 (.move (mI true)) 4, qg 73 (.move (.tmp 10)) 3 0 true, qg 74 (.move (.tmp 9)) 3 0 true, qg 75 (cl 161 #[.tmp 74] #[3]) 3 0 true, qg 76 (.binOp .gtr 3 (.tmp 73) (.tmp 75) 3) 4 0 true, q 77 (.pick (.tmp 72) (.tmp 76) (mI false)) 4, mA 78 77 4, qg 79 (.move (.tmp 9)) 3 6 true, qg 80 (.move (.tmp 0)) 9 6 true, qg 81 (bi .len #[.tmp 80] #[9]) 3 6 true, qg 82 (.binOp .lss 3 (.tmp 79) (.tmp 81) 3) 4 6 true, q 83 (.pick (.tmp 78) (.tmp 82) (mI false)) 4, mA 84 83 4, qg 85 (.move (mI false)) 4 12 false, qg 86 (.move (.tmp 10)) 3 13 true, qg 87 (.move (.tmp 9)) 3 13 true, qg 88 (.binOp .shr 3 (.tmp 87) (.const (.int .u64 4)) 116) 3 13 true, qg 89 (.binOp .add 3 (ik 4) (.tmp 88) 3) 3 13 true, qg 90 (.binOp .geq 3 (.tmp 86) (.tmp 89) 3) 4 13 true, qg 91 (.pick (.tmp 85) (.tmp 90) (mI false)) 4 12 false, qg 92 (.move (.tmp 91)) 4 12 false, qg 93 (.move (.tmp 9)) 3 20 true, qg 94 (.move (.tmp 0)) 9 20 true, qg 95 (bi .len #[.tmp 94] #[9]) 3 20 true, qg 96 (.binOp .lss 3 (.tmp 93) (.tmp 95) 3) 4 20 true, qg 97 (.pick (.tmp 92) (.tmp 96) (mI false)) 4 12 false, q 98 (.pick (.tmp 84) (mI true) (.tmp 97)) 4]) (.cond (.tmp 98) (.goto 1) .skip))))))))))))) (.seq (.seq (mG 19 #[q 4 (.assign (ik (-1))) 3]) .ret) (.seq (.label 1) (.seq (.cond (mI true) (.seq (mG 20 #[mA 99 0 9, mA 100 9 3, mA 101 8 3, mF 102 .sub 3 100 (.tmp 101) 3 3, q 103 (.slice 9 (.tmp 99) (some (.tmp 102)) none none) 9, mA 104 1 21, q 105 (.convert 21 9 (.tmp 104)) 9, q 106 (cl 162 #[.tmp 103, .tmp 105] #[9, 9]) 3, mB 13 106 3]) (.seq (mG 21 #[mA 107 13 3, mF 108 .geq 3 107 (ik 0) 3 4]) (.cond (.tmp 108) (.seq (mG 22 #[mA 109 9 3, mA 110 13 3, mF 111 .add 3 109 (.tmp 110) 3 3, mA 112 8 3, mF 113 .sub 3 111 (.tmp 112) 3 3, mB 4 113 3]) .ret) .skip))) (.scope (.seq (mG 23 #[mA 114 7 9, mA 115 8 3, q 116 (.index 9 (.tmp 114) (.tmp 115)) 5, mB 14 116 5]) (.seq (mG 24 #[mA 117 7 9, mA 118 8 3, mF 119 .sub 3 118 (ik 1) 3 3, q 120 (.index 9 (.tmp 117) (.tmp 119)) 5, mB 15 120 5]) (.seq (.label 2) (.block 5 (.loop (.seq (.seq (mG 25 #[mA 121 9 3, mA 122 0 9, q 123 (bi .len #[.tmp 122] #[9]) 3, mF 124 .lss 3 121 (.tmp 123) 3 4]) (.cond (.tmp 124) .skip (.exit 5))) (.seq (.block 6 (.seq (mG 27 #[mA 127 0 9, mA 128 9 3, q 129 (.index 9 (.tmp 127) (.tmp 128)) 5, mA 130 14 5, mF 131 .eql 5 129 (.tmp 130) 5 4, mA 132 131 4, qg 133 (.move (.tmp 0)) 9 5 true, qg 134 (.move (.tmp 9)) 3 5 true, qg 135 (.binOp .sub 3 (.tmp 134) (ik 1) 3) 3 5 true, qg 136 (.index 9 (.tmp 133) (.tmp 135)) 5 5 true, qg 137 (.move (.tmp 15)) 5 5 true, qg 138 (.binOp .eql 5 (.tmp 136) (.tmp 137) 5) 4 5 true, q 139 (.pick (.tmp 132) (.tmp 138) (mI false)) 4]) (.cond (.tmp 139) (.seq (.seq (mG 28 #[q 16 (.assign (ik 2)) 3]) (.block 7 (.loop (.seq (.seq (mG 29 #[mA 140 16 3, mA 141 7 9, q 142 (bi .len #[.tmp 141] #[9]) 3, mF 143 .lss 3 140 (.tmp 142) 3 4]) (.cond (.tmp 143) .skip (.exit 7))) (.seq (.block 8 (.seq (mG 31 #[mA 146 0 9, mA 147 9 3, mA 148 16 3, mF 149 .sub 3 147 (.tmp 148) 3 3, q 150 (.index 9 (.tmp 146) (.tmp 149)) 5, mA 151 7 9, mA 152 8 3, mA 153 16 3, mF 154 .sub 3 152 (.tmp 153) 3 3, q 155 (.index 9 (.tmp 151) (.tmp 154)) 5, mF 156 .neq 5 150 (.tmp 155) 5 4]) (.cond (.tmp 156) (.exit 6) .skip))) (mG 30 #[mA 144 16 3, mF 145 .add 3 144 (ik 1) 3 3, mB 16 145 3])))))) (.seq (mG 32 #[mA 157 9 3, mA 158 8 3, mF 159 .sub 3 157 (.tmp 158) 3 3, mB 4 159 3]) .ret)) .skip))) (mG 26 #[mA 125 9 3, mF 126 .add 3 125 (ik 1) 3 3, mB 9 126 3])))))))))) (.seq (mG 33 #[q 4 (.assign (ik (-1))) 3]) .ret)))))))))))))))))
def s126 := sL Tryz.f126 g126 (by kernel_rfl)
def g127 : Code := .seq (mG 0 #[q 2 (.assign (mI false)) 4]) (.seq (mG 1 #[mA 3 0 3, mF 4 .gtr 3 3 (ik 8) 3 4, mB 2 4 4]) .ret)
def s127 := sL Tryz.f127 g127 (by kernel_rfl)
def g90 : Code := .seq (mG 0 #[q 4 (.assign (ik 0)) 3]) (.seq (.seq (mG 1 #[mA 11 1 9, mF 12 .eql 9 11 mH 9 4]) (.cond (.tmp 12) (.seq (mG 2 #[q 4 (.assign (ik (-1))) 3]) .ret) .skip)) (.seq (.seq (mG 3 #[mA 13 1 9, q 14 (bi .len #[.tmp 13] #[9]) 3, mF 15 .eql 3 14 (ik 1) 3 4]) (.cond (.tmp 15) (.seq (mG 4 #[mA 16 1 9, q 17 (.index 9 (.tmp 16) (ik 0)) 5, q 18 (.convert 5 21 (.tmp 17)) 21, mB 5 18 21]) (.seq (.seq (mG 5 #[mA 19 5 21, mF 20 .geq 21 19 (.const (.int .i32 128)) 21 4]) (.cond (.tmp 20) (mG 6 #[q 5 (.assign (.const (.int .i32 65533))) 21]) .skip)) (.seq (mG 7 #[mA 21 0 9, mA 22 5 21, q 23 (cl 126 #[.tmp 21, .tmp 22] #[9, 21]) 3, mB 4 23 3]) .ret))) .skip)) (.seq (.seq (mG 8 #[mA 24 0 9, q 25 (bi .len #[.tmp 24] #[9]) 3, q 26 (cl 127 #[.tmp 25] #[3]) 4]) (.cond (.tmp 26) (.seq (mG 9 #[mA 28 1 9, q 29 (cl 82 #[.tmp 28] #[9]) 134, mA 27 29 134, mE 30 27 0 133, mE 31 27 1 4, q 6 (.alloc 133) 0, mD 133 6 30, mB 7 31 4]) (.seq (mG 10 #[mA 32 7 4]) (.cond (.tmp 32) (.seq (.seq (mG 11 #[q 8 (.assign (ik 0)) 3]) (.block 0 (.loop (.seq (.seq (mG 12 #[mA 33 8 3, mA 34 0 9, q 35 (bi .len #[.tmp 34] #[9]) 3, mF 36 .lss 3 33 (.tmp 35) 3 4]) (.cond (.tmp 36) .skip (.exit 0))) (.seq (.block 1 (.seq (mG 14 #[mA 39 0 9, mA 40 8 3, q 41 (.index 9 (.tmp 39) (.tmp 40)) 5, q 42 (cl 117 #[.tmp 6, .tmp 41] #[133, 5]) 4]) (.cond (.tmp 42) (.seq (mG 15 #[mA 43 8 3, mB 4 43 3]) .ret) .skip))) (mG 13 #[mA 37 8 3, mF 38 .add 3 37 (ik 1) 3 3, mB 8 38 3])))))) (.seq (mG 16 #[q 4 (.assign (ik (-1))) 3]) .ret)) .skip))) .skip)) (.seq (.seq (mG 17 #[mA 44 0 9, q 45 (.range 9 (.tmp 44)) 0]) (.block 2 (.loop (.seq (mG 18 #[q 46 (.next (.tmp 45) true) 0, mE 47 46 0 4]) (.seq (.cond (.tmp 47) .skip (.exit 2)) (.block 3 (.seq (mG 19 #[mE 48 46 1 3, mE 49 46 2 21, mB 9 48 3, mB 10 49 21]) (.seq (mG 20 #[mA 50 1 9, mA 51 10 21, q 52 (cl 126 #[.tmp 50, .tmp 51] #[9, 21]) 3, mF 53 .geq 3 52 (ik 0) 3 4]) (.cond (.tmp 53) (.seq (mG 21 #[mA 54 9 3, mB 4 54 3]) .ret) .skip))))))))) (.seq (mG 22 #[q 4 (.assign (ik (-1))) 3]) .ret)))))
def s90 := sL Tryz.f90 g90 (by kernel_rfl)
theorem validRune_ok (c : Int) (h0 : 0 ≤ c) (prot : Nat) (H : Heap) (hp : prot ≤ H.length) : aLim cfg prot 160 [.int .i32 c] H = some (.bool (validR c), none) := by
 have d0 : decide (0 ≤ c) = true := decide_eq_true h0
 refine pure_slim rfl (by kernel_rfl) Tryz.func160 s160 hp rfl (by simp [Tryz.f160]) fun fr hlen h => ?_
 simp only [Has] at h
 obtain ⟨a0, -⟩ := h
 simp only [Tryz.f160] at hlen ⊢
 unfold g160
 by_cases h1 : c < 55296
 ·have d1 : decide (c < 55296) = true := decide_eq_true h1
  have hv : validR c = true := by simp [validR, h0, h1]
  rw [hv]
  simp only [w9, simprocAttr, hlen, a0, d0, d1]
  exact Fin_pure (l := [.bool true]) (by simp [w9, hlen]) (.still rfl) (by simp)
 ·have d1 : decide (c < 55296) = false := decide_eq_false h1
  by_cases h2 : 57343 < c
  ·have d2 : decide (57343 < c) = true := decide_eq_true h2
   by_cases h3 : c ≤ 1114111
   ·have d3 : decide (c ≤ 1114111) = true := decide_eq_true h3
    have hv : validR c = true := by simp [validR]; omega
    rw [hv]
    simp only [w9, simprocAttr, hlen, a0, d0, d1, d2, d3]
    exact Fin_pure (l := [.bool true]) (by simp [w9, hlen]) (.still rfl) (by simp)
   ·have d3 : decide (c ≤ 1114111) = false := decide_eq_false h3
    have hv : validR c = false := by simp [validR]; omega
    rw [hv]
    simp only [w9, simprocAttr, hlen, a0, d0, d1, d2, d3]
    exact Fin_pure (l := [.bool false]) (by simp [w9, hlen]) (.still rfl) (by simp)
  ·have d2 : decide (57343 < c) = false := decide_eq_false h2
   have hv : validR c = false := by simp [validR]; omega
   rw [hv]
   simp only [w9, simprocAttr, hlen, a0, d0, d1, d2]
   exact Fin_pure (l := [.bool false]) (by simp [w9, hlen]) (.still rfl) (by simp)
def stopL : List UInt8 := [61, 33, 32, 9]
def irS (c : Int) : Int := if c < 128 then idxByte stopL c.toNat.toUInt8 else -1
theorem encR_high (c : Int) (h1 : 128 ≤ c) (hv : validR c = true) : ∃ b d, encR c = b ++ [d] ∧ 1 ≤ b.length ∧ b.length ≤ 3 ∧ 128 ≤ d.toNat := by
 have hm : ∀ n : Nat, n < 64 → (UInt8.ofNat (128 + n)).toNat = 128 + n := fun n hn => by simp; omega
 have hx : ∀ n : Nat, 128 ≤ (UInt8.ofNat (128 + n % 64)).toNat := fun n => by rw [hm _ (Nat.mod_lt _ (by decide))]; omega
 have key : ∀ k : Nat, 128 ≤ k → ∃ b d, (if k < 0x80 then (⟨#[UInt8.ofNat k]⟩ : ByteArray)
   else if k < 0x800 then ⟨#[UInt8.ofNat (0xC0 + k / 64), UInt8.ofNat (0x80 + k % 64)]⟩
   else if k < 0x10000 then ⟨#[UInt8.ofNat (0xE0 + k / 4096), UInt8.ofNat (0x80 + k / 64 % 64), UInt8.ofNat (0x80 + k % 64)]⟩
   else ⟨#[UInt8.ofNat (0xF0 + k / 262144), UInt8.ofNat (0x80 + k / 4096 % 64), UInt8.ofNat (0x80 + k / 64 % 64), UInt8.ofNat (0x80 + k % 64)]⟩).data.toList = b ++ [d] ∧ 1 ≤ b.length ∧ b.length ≤ 3 ∧ 128 ≤ d.toNat := fun k hk => by
  by_cases h2 : k < 0x800
  ·rw [if_neg (by omega), if_pos h2]
   exact ⟨[_], _, rfl, by simp, by simp, hx _⟩
  ·by_cases h3 : k < 0x10000
   ·rw [if_neg (by omega), if_neg h2, if_pos h3]
    exact ⟨[_, _], _, rfl, by simp, by simp, hx _⟩
   ·rw [if_neg (by omega), if_neg h2, if_neg h3]
    exact ⟨[_, _, _], _, rfl, by simp, by simp, hx _⟩
 have e : (if Utf8.valid c then c.toNat else Utf8.runeError) = c.toNat := by rw [validR_eq, hv]; rfl
 obtain ⟨b, d, h2, h3⟩ := key c.toNat (by omega)
 refine ⟨b, d, ?_, h3⟩
 rw [← h2]
 show (Utf8.encode c).data.toList = _
 unfold Utf8.encode
 simp only [e]
theorem idx_high {d : UInt8} (hd : 128 ≤ d.toNat) (l : List UInt8) (hl : ∀ c ∈ l, c.toNat < 128) : idxByte l d = -1 := by
 have : (List.range l.length).find? (fun i => l.getD i 0 == d) = none := by
  rw [List.find?_eq_none]
  intro i hi
  have hi := List.mem_range.1 hi
  have e : l.getD i 0 = l[i] := by simp [hi]
  rw [e]
  simp only [beq_iff_eq]
  intro h
  have := hl l[i] (List.getElem_mem hi)
  rw [h] at this; omega
 unfold idxByte
 rw [this]
theorem ir_ok (c : Int) (h0 : 0 ≤ c) (hv : validR c = true) (prot : Nat) (H : Heap) (hp : prot ≤ H.length) : aLim cfg prot 126 [.str stopL, .int .i32 c] H = some (.int .i64 (irS c), none) := by
 have d0 : decide (0 ≤ c) = true := decide_eq_true h0
 by_cases h1 : c < 128
 ·have d1 : decide (c < 128) = true := decide_eq_true h1
  have hb : ((c.toNat.toUInt8).toNat : Int) = c := by simp; omega
  have w1 : IntKind.u8.wrap c = (c.toNat.toUInt8.toNat : Int) := by rw [hb]; simp [IntKind.wrap, IntKind.bits]; omega
  have n1 := idxS_ok stopL c.toNat.toUInt8 H.length H (Nat.le_refl _)
  have hr : irS c = idxByte stopL c.toNat.toUInt8 := by unfold irS; rw [if_pos h1]
  rw [hr]
  generalize idxByte stopL c.toNat.toUInt8 = z at *
  generalize c.toNat.toUInt8 = cb at *
  refine pure_slim rfl (by kernel_rfl) Tryz.func126 s126 hp rfl (by simp [Tryz.f126]) fun fr hlen h => ?_
  simp only [Has, Nat.zero_add] at h
  obtain ⟨a0, a1, -⟩ := h
  simp only [Tryz.f126] at hlen ⊢
  unfold g126
  simp only [w9, simprocAttr, u160, hlen, a0, a1, d0, d1, w1, n1]
  exact Fin_pure (l := [.int .i64 z]) (by simp [w9, hlen]) (.still rfl) (by simp)
 ·have d1 : decide (c < 128) = false := decide_eq_false h1
  have hr : irS c = -1 := by unfold irS; rw [if_neg h1]
  rw [hr]
  by_cases h2 : c = 65533
  ·subst h2
   have hl4 : stopL.length = 4 := rfl
   have r1 := range_new stopL H Tryz.underlying9
   refine pure_slim rfl (by kernel_rfl) Tryz.func126 s126 hp rfl (by simp [Tryz.f126]) fun fr hlen h => ?_
   simp only [Has, Nat.zero_add] at h
   obtain ⟨a0, a1, -⟩ := h
   simp only [Tryz.f126] at hlen ⊢
   unfold g126
   simp only [w9, simprocAttr, hlen, a0, a1, r1]
   refine loop_rule (fun m fr K => ∃ k : Nat, m = 4 - k ∧ k ≤ 4 ∧ fr.length = 187 ∧ fget fr 175 = .it H.length ∧ K = H ++ [Blk.map (itB stopL k)]) ?_ 4 _ _ ⟨0, by simp [w9, hlen]⟩
   rintro m fr K ⟨k, rfl, hk, hlen, a175, rfl⟩ ih
   by_cases hk4 : k = 4
   ·subst hk4
    have nx := next_none stopL 4 H H.length (Nat.le_refl _) (Nat.le_refl _)
    simp only [w9, simprocAttr, hlen, a175, nx]
    exact Fin_pure (l := [.int .i64 (-1)]) (by simp [w9, hlen]) (.still rfl) (by simp)
   ·have hk4 : k < stopL.length := by rw [hl4]; omega
    have nx := next_some stopL k H H.length (Nat.le_refl _) hk4
    have hlow : (stopL[k]).toNat < 128 := by
     have : ∀ c ∈ stopL, c.toNat < 128 := by decide
     exact this _ (List.getElem_mem hk4)
    rw [dec_low stopL k hk4 hlow] at nx
    have d3 : decide (((stopL[k].toNat : Nat) : Int) = 65533) = false := decide_eq_false (by omega)
    generalize stopL[k].toNat = z at *
    simp only [w9, simprocAttr, hlen, a175, nx, d3]
    refine ih _ _ (4 - (k + 1)) (by omega) ⟨k + 1, rfl, by omega, by simp [w9, hlen], by simp [w9, a175], rfl⟩
  ·have d2 : decide (c = 65533) = false := decide_eq_false h2
   have n1 := validRune_ok c h0 H.length H (Nat.le_refl _)
   rw [hv] at n1
   obtain ⟨b, d, hbd, hb1, hb2, hd⟩ := encR_high c (by omega) hv
   have cv : ∀ K, aConvert Tryz.prog K 21 9 (.int .i32 c) = some (.str (encR c), none) := fun K => by
    have e : pureOf Tryz.prog (convert 21 9 (.int .i32 c)) = some (.string (Utf8.encode c)) := by
     unfold convert
     rw [pureOf_bind, pureOf_underlying Tryz.underlying21, Option.bind_some, pureOf_bind, pureOf_underlying Tryz.underlying9]
     rfl
    simp only [aConvert, Tryz.underlying21, Tryz.underlying9, toV1, toV0, Option.bind_some, e, ofV1, ofV0, Option.map_some, encR]
   have hi4 : b.length < stopL.length := by show b.length < 4; omega
   have hsl : ∀ c ∈ stopL, c.toNat < 128 := by decide
   have e1 := str_at (P := Tryz.prog) Tryz.underlying9 stopL (k := .i64) hi4
   have hz := hsl _ (List.getElem_mem hi4)
   have e2 := str_at (P := Tryz.prog) Tryz.underlying9 (b ++ [d]) (k := .i64) (i := b.length) (by simp)
   have eg : (b ++ [d])[b.length]'(by simp) = d := by simp
   rw [eg] at e2
   clear eg
   have nq : decide (¬ ((stopL[b.length].toNat : Nat) : Int) = (d.toNat : Nat)) = true := decide_eq_true (by omega)
   have hls : ∀ K, aLen Tryz.prog K 9 (.str (b ++ [d])) = some (.int .i64 ((b.length + 1 : Nat) : Int)) := fun K => by rw [slen]; simp
   have l4 : ∀ K, aLen Tryz.prog K 9 (.str stopL) = some (.int .i64 4) := fun K => slen stopL K
   have w1 : IntKind.i64.wrap (((b.length + 1 : Nat) : Int) - 1) = (b.length : Nat) := by rw [wrap64 (by omega) (by omega)]; omega
   have w2 : IntKind.i64.wrap ((b.length : Int) + 1) = ((b.length + 1 : Nat) : Int) := by rw [wrap64 (by omega) (by omega)]; simp
   have d4 : decide ((b.length : Int) < 4) = true := decide_eq_true (by omega)
   have e3 := str_from (k := .i64) Tryz.underlying9 stopL (a := b.length + 1) (by omega)
   have n3 := idxS_ok (stopL.drop (b.length + 1)) d H.length H (Nat.le_refl _)
   rw [idx_high hd _ fun c hc => hsl c (List.mem_of_mem_drop hc)] at n3
   have d5 : decide ((-1 : Int) < 0) = true := rfl
   rw [hbd] at cv
   generalize stopL[b.length].toNat = z at *
   generalize stopL.drop (b.length + 1) = sd at *
   generalize b ++ [d] = rs at *
   generalize b.length = n at *
   refine pure_slim rfl (by kernel_rfl) Tryz.func126 s126 hp rfl (by simp [Tryz.f126]) fun fr hlen h => ?_
   simp only [Has, Nat.zero_add] at h
   obtain ⟨a0, a1, -⟩ := h
   simp only [Tryz.f126] at hlen ⊢
   unfold g126
   simp only [w9, simprocAttr, hlen, a1, d0, d1, d2, n1, cv, hls, w1]
   rw [R_loop]
   simp only [w9, simprocAttr, hlen, a0, l4, w2, d4, e1, e2, nq, e3, n3]
   exact Fin_pure (l := [.int .i64 (-1)]) (by simp [w9, hlen]) (.still rfl) (by simp)
theorem asUse_ok (n : Int) (prot : Nat) (H : Heap) (hp : prot ≤ H.length) : aLim cfg prot 127 [.int .i64 n] H = some (.bool (decide (8 < n)), none) := by
 generalize hq : decide (8 < n) = q
 refine pure_slim rfl (by kernel_rfl) Tryz.func127 s127 hp rfl (by simp [Tryz.f127]) fun fr hlen h => ?_
 simp only [Has] at h
 obtain ⟨a0, -⟩ := h
 simp only [Tryz.f127] at hlen ⊢
 unfold g127
 simp only [w9, simprocAttr, hlen, a0, hq]
 exact Fin_pure (l := [.bool q]) (by simp [w9, hlen]) (.still rfl) (by simp)
theorem asH_stop (c : UInt8) : asH stopL c.toNat = stopC c.toNat := by
 have key : ∀ n : Fin 256, asH stopL n.val = stopC n.val := by decide +kernel
 exact key ⟨c.toNat, c.toNat_lt⟩
theorem mkAs2 (prot : Nat) (H : Heap) : aLim cfg prot 82 [.str stopL] H = some (.tup [.agg (asC stopL), .bool true], none) :=
 lim_shut (k := 1000) (by kernel_rfl) (by kernel_rfl) (by kernel_rfl) prot H
def iaS (s : List UInt8) : Int := if runS goC s = s.length then -1 else (runS goC s : Nat)
theorem irS_stop (z : Nat) (hz : z < 128) : (0 ≤ irS z) ↔ stopC z = true := by
 have key : ∀ n : Fin 128, (0 ≤ irS (n.val : Nat)) ↔ stopC (n.val : Nat) = true := by decide +kernel
 exact key ⟨z, hz⟩
theorem irS_high (z : Int) (hz : 128 ≤ z) : irS z = -1 := by unfold irS; rw [if_neg (by omega)]
theorem goC_high {c : UInt8} (h : 128 ≤ c.toNat) : goC c.toNat = true := by
 unfold goC stopC
 simp
 omega
theorem runS_skip {p : Int → Bool} : ∀ (s : List UInt8) (n : Nat), n ≤ s.length → (∀ j, j < n → ∀ hj : j < s.length, p s[j].toNat = true) → runS p s = n + runS p (s.drop n)
 | s, 0, _, _ => by simp
 | [], n + 1, h, _ => by simp at h
 | c :: r, n + 1, h, hp => by
  have h0 := hp 0 (by omega) (by simp)
  simp only [List.getElem_cons_zero] at h0
  have := runS_skip r n (by simpa using h) fun j hj hjr => by
   have := hp (j + 1) (by omega) (by simpa using hjr)
   simpa using this
  rw [runS, if_pos h0, this, List.drop_succ_cons]
  omega
theorem ia_ok (s : List UInt8) (hl : s.length < 1000000000000000000) (prot : Nat) (H : Heap) (hp : prot ≤ H.length) : aLim cfg prot 90 [.str s, .str stopL] H = some (.int .i64 (iaS s), none) := by
 have e1 : aStr .eql stopL [] = some (.bool false) := rfl
 have l4 : ∀ K, aLen Tryz.prog K 9 (.str stopL) = some (.int .i64 4) := fun K => slen stopL K
 have n0 := asUse_ok (s.length : Nat) H.length H (Nat.le_refl _)
 by_cases h8 : 8 < s.length
 ·have q8 : decide ((8 : Int) < (s.length : Nat)) = true := decide_eq_true (by omega)
  rw [q8] at n0
  have n1 := fun K => mkAs2 H.length K
  have hal := asC_len stopL
  have hlf := asC_leaf stopL
  have hpn : ∀ Z : List AV, Z.length = 256 → Go.Abs.hput H.length (H ++ [Blk.cells 0 Z]) H.length 0 0 (asC stopL) = some (H ++ [Blk.cells 0 (asC stopL)]) := fun Z hZ => by
   rw [hput_new rfl (Nat.le_refl _) (by omega) hlf]
   unfold splice
   rw [hal, List.take_zero, List.drop_eq_nil_of_le (by omega)]; simp
  have hg : hget (H ++ [Blk.cells 0 (asC stopL)]) H.length 0 = some (asC stopL) := by rw [hget_new rfl, if_pos rfl]
  have nc := fun c => contains_ok stopL H.length c H.length (H ++ [Blk.cells 0 (asC stopL)]) (by simp) hg
  have nc : ∀ c : UInt8, aLim cfg H.length 117 [.ptr H.length 0 0, .int .u8 c.toNat] (H ++ [Blk.cells 0 (asC stopL)]) = some (.bool (stopC c.toNat), none) := fun c => by rw [nc c, asH_stop]
  generalize asC stopL = A at *
  refine pure_slim rfl (by kernel_rfl) Tryz.func90 s90 hp rfl (by simp [Tryz.f90]) fun fr hlen h => ?_
  simp only [Has, Nat.zero_add] at h
  obtain ⟨a0, a1, -⟩ := h
  simp only [Tryz.f90] at hlen ⊢
  unfold g90
  simp only [w9, simprocAttr, u160, hlen, a0, a1, e1, l4, slen, n0, n1, hal, hpn]
  refine loop_rule (fun m fr K => ∃ i : Nat, m = s.length - i ∧ i ≤ s.length ∧ fr.length = 55 ∧ fget fr 0 = .str s ∧ fget fr 6 = .ptr H.length 0 0 ∧ fget fr 8 = .int .i64 i ∧ K = H ++ [Blk.cells 0 A] ∧ runS goC s = i + runS goC (s.drop i)) ?_ s.length _ _ ⟨0, by simp [w9, hlen, a0]⟩
  rintro m fr K ⟨i, rfl, hi, hlen, a0, a6, a8, rfl, hc⟩ ih
  by_cases hlt : i < s.length
  ·have d2 : decide ((i : Int) < (s.length : Nat)) = true := decide_eq_true (by omega)
   have e2 := str_at (k := .i64) Tryz.underlying9 s hlt
   have nn := nc s[i]
   have hd : s.drop i = s[i] :: s.drop (i + 1) := List.drop_eq_getElem_cons hlt
   have hww : IntKind.i64.wrap ((i : Int) + 1) = ((i + 1 : Nat) : Int) := by rw [wrap64 (by omega) (by omega)]; simp
   rw [hd, runS] at hc
   cases hb : stopC s[i].toNat with
   | true =>
    have hgo : goC s[i].toNat = false := by unfold goC; rw [hb]; rfl
    rw [hb] at nn
    rw [hgo] at hc
    simp only [Bool.false_eq_true, if_false, Nat.add_zero] at hc
    have hr : iaS s = (i : Nat) := by unfold iaS; rw [hc, if_neg (by omega)]
    rw [hr]
    simp only [w9, simprocAttr, hlen, a0, a6, a8, slen, d2, e2, nn]
    exact Fin_pure (l := [.int .i64 i]) (by simp [w9, hlen]) (.still rfl) (by simp)
   | false =>
    have hgo : goC s[i].toNat = true := by unfold goC; rw [hb]; rfl
    rw [hb] at nn
    rw [hgo] at hc
    simp only [if_true] at hc
    simp only [w9, simprocAttr, hlen, a0, a6, a8, slen, d2, e2, nn, hww]
    refine ih _ _ (s.length - (i + 1)) (by omega) ⟨i + 1, rfl, by omega, by simp [w9, hlen], by simp [w9, a0], by simp [w9, a6], ?_, rfl, by omega⟩
    simp [w9, hlen]
  ·have d2 : decide ((i : Int) < (s.length : Nat)) = false := decide_eq_false (by omega)
   have hd : s.drop i = [] := by simp; omega
   rw [hd, runS] at hc
   have hr : iaS s = -1 := by unfold iaS; rw [if_pos (by omega)]
   rw [hr]
   simp only [w9, simprocAttr, hlen, a0, a8, slen, d2]
   exact Fin_pure (l := [.int .i64 (-1)]) (by simp [w9, hlen]) (.still rfl) (by simp)
 ·have q8 : decide ((8 : Int) < (s.length : Nat)) = false := decide_eq_false (by omega)
  rw [q8] at n0
  have r1 := range_new s H Tryz.underlying9
  have nr := fun (c : Int) (h0 : 0 ≤ c) (hv : validR c = true) (B : Blk) => ir_ok c h0 hv H.length (H ++ [B]) (by simp)
  refine pure_slim rfl (by kernel_rfl) Tryz.func90 s90 hp rfl (by simp [Tryz.f90]) fun fr hlen h => ?_
  simp only [Has, Nat.zero_add] at h
  obtain ⟨a0, a1, -⟩ := h
  simp only [Tryz.f90] at hlen ⊢
  unfold g90
  simp only [w9, simprocAttr, hlen, a0, a1, e1, l4, slen, n0, r1]
  refine loop_rule (fun m fr K => ∃ i : Nat, m = s.length - i ∧ i ≤ s.length ∧ fr.length = 55 ∧ fget fr 0 = .str s ∧ fget fr 1 = .str stopL ∧ fget fr 45 = .it H.length ∧ K = H ++ [Blk.map (itB s i)] ∧ runS goC s = i + runS goC (s.drop i)) ?_ s.length _ _ ⟨0, by simp [w9, hlen, a0, a1]⟩
  rintro m fr K ⟨i, rfl, hi, hlen, a0, a1, a45, rfl, hc⟩ ih
  by_cases hlt : i < s.length
  ·have nx := next_some s i H H.length (Nat.le_refl _) hlt
   have hd : s.drop i = s[i] :: s.drop (i + 1) := List.drop_eq_getElem_cons hlt
   by_cases hlow : s[i].toNat < 128
   ·rw [dec_low s i hlt hlow] at nx
    have nn := nr (s[i].toNat : Nat) (by omega) (by unfold validR; simp; omega)
    have hst := irS_stop s[i].toNat hlow
    rw [hd, runS] at hc
    cases hb : stopC s[i].toNat with
    | true =>
     have hgo : goC s[i].toNat = false := by unfold goC; rw [hb]; rfl
     rw [hgo] at hc
     simp only [Bool.false_eq_true, if_false, Nat.add_zero] at hc
     have hr : iaS s = (i : Nat) := by unfold iaS; rw [hc, if_neg (by omega)]
     rw [hr]
     have d3 : decide (irS (s[i].toNat : Nat) ≥ 0) = true := decide_eq_true (hst.2 hb)
     generalize irS (s[i].toNat : Nat) = q at *
     generalize s[i].toNat = z at *
     simp only [w9, simprocAttr, hlen, a1, a45, nx, nn, d3]
     exact Fin_pure (l := [.int .i64 i]) (by simp [w9, hlen]) (.still rfl) (by simp)
    | false =>
     have hgo : goC s[i].toNat = true := by unfold goC; rw [hb]; rfl
     rw [hgo] at hc
     simp only [if_true] at hc
     have d3 : decide (irS (s[i].toNat : Nat) ≥ 0) = false := decide_eq_false fun h => by
      have := hst.1 h
      rw [hb] at this; cases this
     generalize irS (s[i].toNat : Nat) = q at *
     generalize s[i].toNat = z at *
     simp only [w9, simprocAttr, hlen, a1, a45, nx, nn, d3]
     exact ih _ _ (s.length - (i + 1)) (by omega) ⟨i + 1, rfl, by omega, by simp [w9, hlen], by simp [w9, a0], by simp [w9, a1], by simp [w9, a45], rfl, by omega⟩
   ·obtain ⟨p1, p2, p3, p4, p5⟩ := dec_high s i hlt (by omega)
    generalize Utf8.decode ⟨s.toArray⟩ i = q at *
    obtain ⟨c, n⟩ := q
    dsimp only at p1 p2 p3 p4 p5 nx
    have nn := nr (c : Nat) (by omega) p2
    rw [irS_high _ (by omega)] at nn
    have d3 : decide ((-1 : Int) ≥ 0) = false := rfl
    have hsk := runS_skip (p := goC) (s.drop i) n (by simp; omega) fun j hj hjl => by
     simp only [List.getElem_drop]
     exact goC_high (p5 (i + j) (by omega) (by omega) (by simp at hjl; omega))
    rw [hsk, List.drop_drop] at hc
    simp only [w9, simprocAttr, hlen, a1, a45, nx, nn]
    exact ih _ _ (s.length - (i + n)) (by omega) ⟨i + n, rfl, by omega, by simp [w9, hlen], by simp [w9, a0], by simp [w9, a1], by simp [w9, a45], rfl, by omega⟩
  ·have nx := next_none s i H H.length (Nat.le_refl _) (by omega)
   have hd : s.drop i = [] := by simp; omega
   rw [hd, runS] at hc
   have hr : iaS s = -1 := by unfold iaS; rw [if_pos (by omega)]
   rw [hr]
   simp only [w9, simprocAttr, hlen, a45, nx]
   exact Fin_pure (l := [.int .i64 (-1)]) (by simp [w9, hlen]) (.still rfl) (by simp)
open Go Go.Abs AbsSeat Ty
def u72 := an (show tagT Tryz.prog 120 = 0 from by kernel_rfl) (an ag3 (an sz3 (an by3 (an ze3 (an Tryz.underlying3 (an ag9 (an sz9 (an by9 (an ze9 (an Tryz.underlying9 (an ag76 (an sz76 (an by76 (an ze76 (an Tryz.underlying76 (an ag110 (an sz110 (an by110 (an ze110 (an Tryz.underlying110 (an ag120 (an sz120 (an by120 (an ze120 (an bu120 Tryz.underlying120)))))))))))))))))))))))))
def g72 : Code := .seq (mG 0 #[q 4 (.alloc 120) 0, q 5 (.assign (ik 0)) 28]) (.seq (.seq (mG 1 #[mA 8 1 3, mF 9 .lss 3 8 (ik 0) 3 4, mA 10 9 4, qg 11 (.move (.tmp 1)) 3 2 false, qg 12 (.move (.tmp 0)) 9 2 false, qg 13 (bi .len #[.tmp 12] #[9]) 3 2 false, qg 14 (.binOp .gtr 3 (.tmp 11) (.tmp 13) 3) 4 2 false, q 15 (.pick (.tmp 10) (mI true) (.tmp 14)) 4]) (.cond (.tmp 15) (.seq (mG 2 #[q 16 (.build 120 #[]) 120, mD 120 4 16, q 5 (.assign (ik 1)) 28]) .ret) .skip)) (.seq (mG 3 #[mA 17 0 9, mA 18 1 3, q 19 (cl 108 #[.tmp 17, .tmp 18, .func 109] #[9, 3, 110]) 3, mB 1 19 3]) (.seq (.seq (mG 4 #[mA 20 1 3, mA 21 0 9, q 22 (bi .len #[.tmp 21] #[9]) 3, mF 23 .eql 3 20 (.tmp 22) 3 4]) (.cond (.tmp 23) (.seq (mG 5 #[q 24 (.build 120 #[]) 120, mD 120 4 24, q 5 (.assign (ik 6)) 28]) .ret) .skip)) (.seq (mG 6 #[mA 26 0 9, mA 27 1 3, q 28 (cl 110 #[.tmp 26, .tmp 27] #[9, 3]) 161, mA 25 28 161, mE 29 25 0 120, mE 30 25 1 76, q 6 (.alloc 120) 0, mD 120 6 29, mB 7 30 76]) (.seq (.seq (mG 7 #[mA 31 7 76, mF 32 .neq 76 31 (.const .nilIface) 76 4]) (.cond (.tmp 32) (.seq (mG 8 #[q 33 (.build 120 #[]) 120, mA 34 7 76, q 35 (cl 111 #[.tmp 34] #[76]) 28, mD 120 4 33, mB 5 35 28]) .ret) .skip)) (.seq (mG 9 #[mC 36 6 120, mD 120 4 36, q 5 (.assign (ik 0)) 28]) .ret))))))
def s72 := sL Tryz.f72 g72 (by kernel_rfl)
def nextV (k : Nat) (r : List UInt8) : AV := match tokS (r.drop (runS blankC r)) with
 | .bad e => .tup [.agg tk0, .int .i64 e]
 | .tok t => .tup [.agg (tkAt (k + runS blankC r) t), .int .i64 0]
theorem next_tok (s : List UInt8) (hl : s.length < 100000000000000) (k : Nat) (hk : k ≤ s.length) (prot : Nat) (H : Heap) (hg0 : hget H 0 (gver 1) = some [ET]) (hp : prot ≤ H.length) :
  aLim cfg prot 72 [.str s, .int .i64 k] H = some (nextV k (s.drop k), none) := by
 have hls : ∀ K, aLen Tryz.prog K 9 (.str s) = some (.int .i64 s.length) := fun K => str_len Tryz.underlying9 s K
 have hk0 : ¬ ((k : Int) < 0) := by omega
 have hk1 : ¬ (((s.length : Nat) : Int) < k) := by omega
 have nr := fun a => run_ok 109 blankC blank_ok s (by omega) k (by omega) H.length (H ++ [a]) (by simp)
 have hrl := runS_le blankC (s.drop k)
 simp only [List.length_drop] at hrl
 unfold nextV
 rw [List.drop_drop]
 generalize hb : runS blankC (s.drop k) = b at *
 refine pure_slim rfl (by kernel_rfl) Tryz.func72 s72 hp rfl (by simp [Tryz.f72]) fun fr hlen h => ?_
 simp only [Has, Nat.zero_add] at h
 obtain ⟨a0, a1, -⟩ := h
 simp only [Tryz.f72] at hlen ⊢
 unfold g72
 have hl1 : ∀ a : Blk, (H ++ [a]).length = H.length + 1 := fun a => by simp
 have ha2 : ∀ a b : Blk, H ++ [a] ++ [b] = H ++ [a, b] := fun a b => by simp
 by_cases he : k + b = s.length
 ·have hd : s.drop (k + b) = [] := by simp; omega
  have heq : decide (((k + b : Nat) : Int) = (s.length : Nat)) = true := decide_eq_true (by omega)
  rw [hd, tokS]
  simp only [w9, simprocAttr, u72, hlen, a0, a1, hk0, hk1, hls, nr, heq]
  exact Fin_pure (l := [.agg tk0, .int .i64 6]) (by simp [w9, u72, hlen, tk0, tkC]) (.tup (.cons (.agg (.still (by simp [tk0, tkC, still]))) (.cons (.still rfl) .nil))) (by simp)
 ·have heq : decide (((k + b : Nat) : Int) = (s.length : Nat)) = false := decide_eq_false (by omega)
  obtain ⟨r, hr, nt⟩ := token_ok s hl (k + b) (by omega) H.length (H ++ [Blk.cells 0 tk0]) (by simp)
  simp only [tk0, tkC] at nt
  cases htk : tokS (s.drop (k + b)) with
  | bad e =>
   rw [htk] at hr
   obtain ⟨j, rfl⟩ := hr
   have nn := fun a b => number_ok j e H.length (H ++ [a, b]) (hget_mono hg0 _) (by simp)
   simp only [troub, tk0, tkC] at nt nn
   simp only [w9, simprocAttr, u72, hlen, a0, a1, hk0, hk1, hls, nr, heq, nt, hl1, ha2, two_put1, errNe, nn]
   exact Fin_pure (l := [.agg tk0, .int .i64 e]) (by simp [w9, u72, hlen, tk0, tkC]) (.tup (.cons (.agg (.still (by simp [tk0, tkC, still]))) (.cons (.still rfl) .nil))) (by simp)
  | tok t =>
   rw [htk] at hr
   have hr : r = .tup [.agg (tkAt (k + b) t), .nilI] := hr
   subst hr
   simp only [tkAt, tkC] at nt ⊢
   simp only [w9, simprocAttr, u72, hlen, a0, a1, hk0, hk1, hls, nr, heq, nt, hl1, ha2, two_get1, two_put1, nilNe]
   exact Fin_pure (l := [.agg (tkAt (k + b) t), .int .i64 0]) (by simp [w9, u72, hlen, tkAt, tkC]) (.tup (.cons (.agg (.still (by simp [tkAt, tkC, still]))) (.cons (.still rfl) .nil))) (by simp)
set_option maxRecDepth 100000
open Go Go.Abs AbsSeat Ty
def u73 := an (fun (xo yo : Operand) (b v o : Nat) => ptr_nil_eq (xo := xo) (yo := yo) Tryz.underlying71 b v o) (an (fun (xo yo : Operand)  => nil_nil_eq (xo := xo) (yo := yo) Tryz.underlying71 ) (an ag1 (an sz1 (an by1 (an ze1 (an Tryz.underlying1 (an ag3 (an sz3 (an by3 (an ze3 (an Tryz.underlying3 (an ag5 (an sz5 (an by5 (an ze5 (an Tryz.underlying5 (an ag9 (an sz9 (an by9 (an ze9 (an Tryz.underlying9 (an ag71 (an sz71 (an by71 (an ze71 (an Tryz.underlying71 (an ag72 (an sz72 (an by72 (an se72 (an ze72 (an Tryz.underlying72 (an ag74 (an sz74 (an by74 (an ze74 (an bu74 (an Tryz.underlying74 (an ag124 (an sz124 (an by124 (an ze124 (an Tryz.underlying124 (an ag164 (an sz164 (an by164 (an ze164 (an Tryz.underlying164 (an fa74_0 (an fd74_0 (an fa74_1 fd74_1)))))))))))))))))))))))))))))))))))))))))))))))))))
def g73 : Code := .seq (mG 0 #[mA 2 0 71, q 3 (.nilCheck (.tmp 2)) 0, q 4 (.fieldAddr 74 (.tmp 3) 0) 0, mC 5 4 71, mF 6 .eql 71 5 (.const (.pointer none)) 71 4]) (.cond (.tmp 6) (mG 1 #[mA 7 0 71, mA 8 0 71, q 9 (.convert 71 164 (.tmp 8)) 164, q 10 (cl 112 #[.tmp 9] #[164]) 164, q 11 (.convert 164 71 (.tmp 10)) 71, q 12 (.nilCheck (.tmp 7)) 0, q 13 (.fieldAddr 74 (.tmp 12) 0) 0, mD 71 13 11]) (.seq (mG 2 #[mA 14 0 71, q 15 (.nilCheck (.tmp 14)) 0, q 16 (.fieldAddr 74 (.tmp 15) 0) 0, mC 17 16 71, mA 18 0 71, mF 19 .neq 71 17 (.tmp 18) 71 4]) (.cond (.tmp 19) (.refuse ("(*strings.Builder).copyCheck builder.go:41: unsupported: a written strings.Builder's value in another place: whether the library's copy check passes hangs on where the compiler lays the two")) .skip)))
def s73 := sL Tryz.f73 g73 (by kernel_rfl)
def g40 : Code := .seq (mG 0 #[q 4 (.assign (.const .nilIface)) 76]) (.seq (mG 1 #[mA 5 0 71, q 6 (cl 73 #[.tmp 5] #[71]) 0]) (.seq (mG 2 #[mA 7 0 71, mA 8 0 71, q 9 (.nilCheck (.tmp 8)) 0, q 10 (.fieldAddr 74 (.tmp 9) 1) 0, mC 11 10 72, mA 12 1 5, q 13 (.buildSlice 72 1 #[(0, .tmp 12)]) 72, q 14 (bi .append #[.tmp 11, .tmp 13] #[72, 72]) 72, q 15 (.nilCheck (.tmp 7)) 0, q 16 (.fieldAddr 74 (.tmp 15) 1) 0, mD 72 16 14]) (.seq (mG 3 #[q 4 (.assign (.const .nilIface)) 76]) .ret)))
def s40 := sL Tryz.f40 g40 (by kernel_rfl)
def g42 : Code := .seq (mG 0 #[q 4 (.assign (ik 0)) 3, q 5 (.assign (.const .nilIface)) 76]) (.seq (mG 1 #[mA 6 0 71, q 7 (cl 73 #[.tmp 6] #[71]) 0]) (.seq (mG 2 #[mA 8 0 71, mA 9 0 71, q 10 (.nilCheck (.tmp 9)) 0, q 11 (.fieldAddr 74 (.tmp 10) 1) 0, mC 12 11 72, mA 13 1 9, q 14 (bi .append #[.tmp 12, .tmp 13] #[72, 9]) 72, q 15 (.nilCheck (.tmp 8)) 0, q 16 (.fieldAddr 74 (.tmp 15) 1) 0, mD 72 16 14]) (.seq (mG 3 #[mA 17 1 9, q 18 (bi .len #[.tmp 17] #[9]) 3, mB 4 18 3, q 5 (.assign (.const .nilIface)) 76]) .ret)))
def s42 := sL Tryz.f42 g42 (by kernel_rfl)
def g43 : Code := .seq (mG 0 #[q 2 (.assign mH) 9]) (.seq (.region 1 #[{ dst := some 3, op := .move (.tmp 0), type := 71, pos := "builder.go:47", after := #[], guard := none }, { dst := some 4, op := .nilCheck (.tmp 3), type := 0, pos := "builder.go:47", after := #[{ on := 0, ground := .data }], guard := none }, { dst := some 5, op := .fieldAddr 74 (.tmp 4) 1, type := 0, pos := "builder.go:47", after := #[{ on := 1, ground := .data }], guard := none }, { dst := some 6, op := .load 72 (.tmp 5), type := 72, pos := "builder.go:47", after := #[{ on := 2, ground := .data }], guard := none }, { dst := some 7, op := bi .unsafeSliceData #[.tmp 6] #[72], type := 124, pos := "builder.go:47", after := #[{ on := 3, ground := .data }], guard := none }, { dst := some 8, op := .move (.tmp 0), type := 71, pos := "builder.go:47", after := #[], guard := none }, { dst := some 9, op := .nilCheck (.tmp 8), type := 0, pos := "builder.go:47", after := #[{ on := 5, ground := .data }], guard := none }, { dst := some 10, op := .fieldAddr 74 (.tmp 9) 1, type := 0, pos := "builder.go:47", after := #[{ on := 6, ground := .data }], guard := none }, { dst := some 11, op := .load 72 (.tmp 10), type := 72, pos := "builder.go:47", after := #[{ on := 7, ground := .data }], guard := none }, { dst := some 12, op := bi .len #[.tmp 11] #[72], type := 3, pos := "builder.go:47", after := #[{ on := 8, ground := .data }], guard := none }, { dst := some 13, op := bi .unsafeString #[.tmp 7, .tmp 12] #[124, 3], type := 9, pos := "builder.go:47", after := #[{ on := 4, ground := .data }, { on := 9, ground := .data }], guard := none }, { dst := some 2, op := .assign (.tmp 13), type := 9, pos := "builder.go:47", after := #[{ on := 10, ground := .data }, { on := 0, ground := .phase }, { on := 1, ground := .phase }, { on := 2, ground := .phase }, { on := 3, ground := .phase }, { on := 4, ground := .phase }, { on := 5, ground := .phase }, { on := 6, ground := .phase }, { on := 7, ground := .phase }, { on := 8, ground := .phase }, { on := 9, ground := .phase }, { on := 10, ground := .phase }], guard := none }] true) .ret)
def s43 := sL Tryz.f43 g43 (by kernel_rfl)
def Bld (base : Nat) (H : Heap) (b : Nat) (s : List UInt8) : Prop :=
 ∃ a buf, base ≤ b ∧ hget H b 297 = some [a, buf] ∧ (a = .nil ∨ a = .ptr b 297 0) ∧
  ((buf = .nilS ∧ s = []) ∨ ∃ c ver, buf = .bs ⟨c, ver, 0, s.length, 0, 1, false, false⟩ ∧ 0 < s.length ∧ base ≤ c ∧ ver % 4 = 2 ∧ hget H c ver = some (cellsOf encB s))
def Kept (H H' : Heap) (b : Nat) : Prop := H.length ≤ H'.length ∧ ∀ b' v cs, hget H b' v = some cs → b' ≠ b → v % 4 ≠ 2 → hget H' b' v = some cs
theorem Kept.rfl {H : Heap} {b : Nat} : Kept H H b := ⟨Nat.le_refl _, fun _ _ _ h _ _ => h⟩
theorem Kept.trans {H H' H'' : Heap} {b : Nat} (h1 : Kept H H' b) (h2 : Kept H' H'' b) : Kept H H'' b := ⟨Nat.le_trans h1.1 h2.1, fun b' v cs h a c => h2.2 b' v cs (h1.2 b' v cs h a c) a c⟩
theorem Bld.new {base : Nat} {H : Heap} (hb : base ≤ H.length) : Bld base (H ++ [Blk.cells 297 [.nil, .nilS]]) H.length [] := ⟨.nil, .nilS, hb, by rw [hget_new rfl]; rfl, .inl rfl, .inl ⟨rfl, rfl⟩⟩
theorem Bld.more {base b : Nat} {H : Heap} {s : List UInt8} (h : Bld base H b s) (x : List Blk) : Bld base (H ++ x) b s := by
 obtain ⟨a, buf, h1, h2, h3, h4⟩ := h
 refine ⟨a, buf, h1, hget_mono h2 x, h3, ?_⟩
 rcases h4 with h4 | ⟨c, ver, k1, k2, k3, k4, k5⟩
 ·exact .inl h4
 ·exact .inr ⟨c, ver, k1, k2, k3, k4, hget_mono k5 x⟩
theorem Bld.set {base b : Nat} {H : Heap} {s : List UInt8} (h : Bld base H b s) {b' v : Nat} {cs cs' : List AV} (hg : hget H b' v = some cs) (hv : v % 4 ≠ 2) (hb : b' ≠ b) : Bld base (H.set b' (.cells v cs')) b s := by
 obtain ⟨a, buf, h1, h2, h3, h4⟩ := h
 refine ⟨a, buf, h1, by rw [hget_set_ne (Ne.symm hb)]; exact h2, h3, ?_⟩
 rcases h4 with h4 | ⟨c, ver, k1, k2, k3, k4, k5⟩
 ·exact .inl h4
 ·refine .inr ⟨c, ver, k1, k2, k3, k4, ?_⟩
  have : b' ≠ c := fun e => by
   subst e
   have e1 := alive_of_hget hg
   have e2 := alive_of_hget k5
   rw [e1] at e2
   injection (Option.some.inj e2) with e3 _
   exact hv (by omega)
  rw [hget_set_ne (Ne.symm this)]; exact k5
theorem noesc_ok (x : AV) (prot : Nat) (H : Heap) : aLim cfg prot 112 [x] H = some (x, none) :=
 lim_ext (by kernel_rfl) Tryz.func112 (by kernel_rfl) (by kernel_rfl) prot H (by kernel_rfl)
theorem bconv1 {K : Heap} {b : Nat} {a buf : AV} (hg : hget K b 297 = some [a, buf]) : aConvert Tryz.prog K 71 164 (.ptr b 297 0) = some (.ptr b 297 0, none) := by
 simp [aConvert, Tryz.underlying71, Tryz.underlying164, sz74, hg]
theorem bconv2 {K : Heap} {b : Nat} {a buf : AV} (hg : hget K b 297 = some [a, buf]) : aConvert Tryz.prog K 164 71 (.ptr b 297 0) = some (.ptr b 297 0, none) := by
 have h1 : liesAt Tryz.prog Tryz.prog.depth 74 (2 / Tryz.prog.cellsOf 74) 0 74 1 = true := by kernel_rfl
 simp [aConvert, Tryz.underlying71, Tryz.underlying164, sz74, hg, h1]
theorem bsame {K : Heap} {b : Nat} {a buf : AV} (hg : hget K b 297 = some [a, buf]) (xo yo : Operand) : aBinH Tryz.prog K .neq 71 xo yo (.ptr b 297 0) (.ptr b 297 0) = some (.bool false) := by
 simp [aBinH, Tryz.underlying71, sz74, hg]
theorem Kept.one {H : Heap} {b : Nat} (k : Blk) : Kept H (H.set b k) b := ⟨by simp, fun b' v cs h h1 _ => by rw [hget_set_ne h1]; exact h⟩
theorem copyCheck_ok (s : List UInt8) (b : Nat) (prot : Nat) (H : Heap) (hb : Bld prot H b s) :
  ∃ H' buf, aLim cfg prot 73 [.ptr b 297 0] H = some (.tup [], some H') ∧ prot ≤ b ∧ hget H' b 297 = some [.ptr b 297 0, buf] ∧ Kept H H' b ∧
   ((buf = .nilS ∧ s = []) ∨ ∃ c ver, buf = .bs ⟨c, ver, 0, s.length, 0, 1, false, false⟩ ∧ 0 < s.length ∧ prot ≤ c ∧ ver % 4 = 2 ∧ hget H' c ver = some (cellsOf encB s)) := by
 obtain ⟨a, buf, h1, h2, h3, h4⟩ := hb
 have hblt := hget_lt h2
 rcases h3 with rfl | rfl
 ·have hput1 : hput prot H b 297 0 [.ptr b 297 0] = some (H.set b (.cells 297 [.ptr b 297 0, buf])) := by
   rw [hput_eq h2 h1 (by simp) (by simp [AV.leaf])]
   rfl
  refine ⟨H.set b (.cells 297 [.ptr b 297 0, buf]), buf, ?_, h1, by rw [hget_set_same hblt, if_pos rfl], .one _, ?_⟩
  ·refine raw_slim rfl (by kernel_rfl) (by kernel_rfl) (by kernel_rfl) Tryz.func73 s73 (by simp [Tryz.f73]) fun fr hlen h => ?_
   simp only [Has] at h
   obtain ⟨a0, -⟩ := h
   simp only [Tryz.f73] at hlen ⊢
   unfold g73
   simp only [w9, simprocAttr, u73, hlen, a0, h2, noesc_ok, bconv1 h2, bconv2 h2, hput1]
   exact Fin_raw (l := []) (by simp [w9])
  ·rcases h4 with h4 | ⟨c, ver, k1, k2, k3, k4, k5⟩
   ·exact .inl h4
   ·refine .inr ⟨c, ver, k1, k2, k3, k4, ?_⟩
    have : b ≠ c := fun e => by
     subst e
     have e1 := alive_of_hget h2
     have e2 := alive_of_hget k5
     rw [e1] at e2
     injection (Option.some.inj e2) with e3 _
     omega
    rw [hget_set_ne (Ne.symm this)]; exact k5
 ·refine ⟨H, buf, ?_, h1, h2, .rfl, h4⟩
  refine raw_slim rfl (by kernel_rfl) (by kernel_rfl) (by kernel_rfl) Tryz.func73 s73 (by simp [Tryz.f73]) fun fr hlen h => ?_
  simp only [Has] at h
  obtain ⟨a0, -⟩ := h
  simp only [Tryz.f73] at hlen ⊢
  unfold g73
  simp only [w9, simprocAttr, u73, hlen, a0, h2, bsame h2, ptr_nil_eq Tryz.underlying71]
  exact Fin_raw (l := []) (by simp [w9])
theorem bapp {prot : Nat} {H : Heap} {buf : AV} {s : List UInt8} (h : (buf = .nilS ∧ s = []) ∨ ∃ c ver, buf = .bs ⟨c, ver, 0, s.length, 0, 1, false, false⟩ ∧ 0 < s.length ∧ prot ≤ c ∧ ver % 4 = 2 ∧ hget H c ver = some (cellsOf encB s))
  {x : AV} {m : List UInt8} {xt : TypeId} (hxt : xt = 72 ∨ xt = 9) (hx : elemCells H 1 x = some (m.length, cellsOf encB m)) (hm : 0 < m.length) (hr : s.length + m.length ≤ 140737488355328) (hp : prot ≤ H.length) :
  ∃ c ver H', aAppend Tryz.prog prot H #[72, xt] buf x = some (.bs ⟨c, ver, 0, (s ++ m).length, 0, 1, false, false⟩, some H') ∧ prot ≤ c ∧ ver % 4 = 2 ∧ hget H' c ver = some (cellsOf encB (s ++ m)) ∧
   H.length ≤ H'.length ∧ ∀ b' v cs, hget H b' v = some cs → v % 4 ≠ 2 → hget H' b' v = some cs := by
 have hl : (cellsOf encB m).all AV.leaf = true := cellsOf_leaf encB_T m
 have hm0 : ¬ m.length = 0 := by omega
 have hl' : ∀ y ∈ cellsOf encB m, y.leaf = true := List.all_eq_true.1 hl
 rcases h with ⟨rfl, rfl⟩ | ⟨c, ver, rfl, k1, k2, k3, k4⟩
 ·refine ⟨H.length, 2, H ++ [Blk.cells 2 (cellsOf encB m)], ?_, hp, rfl, by rw [hget_new rfl]; rfl, by simp, fun b' v cs h _ => hget_mono h _⟩
  have hro : roomy m.length 1 = true := by simp [roomy] at hr ⊢; omega
  rcases hxt with rfl | rfl <;> simp [aAppend, Tryz.underlying72, Tryz.underlying9, se72, sz5, by5, ag5, ze5, AV.cells, hx, hm0, hro, rowV] <;> exact hl'
 ·have hlt := hget_lt k4
  have hw : win (cellsOf encB s) 0 s.length = some (cellsOf encB s) := by
   have := cellsOf_drop encB_T s 0 (by simp)
   simpa using this
  have hro : roomy (s.length + m.length) 1 = true := by simp [roomy]; omega
  have hok : rowOk ver 0 5 = true := by
   have h1 : ver % 2 = 0 := by omega
   simp [rowOk, h1]
  refine ⟨c, ver + 4, H.set c (.cells (ver + 4) (cellsOf encB s ++ cellsOf encB m)), ?_, k2, by omega, ?_, by simp, ?_⟩
  ·rcases hxt with rfl | rfl <;> simp [aAppend, Tryz.underlying72, Tryz.underlying9, se72, sz5, by5, ag5, ze5, AV.cells, hx, hm0, hro, k4, hw, k2, hok] <;> exact hl'
  ·rw [hget_set_same hlt, if_pos rfl, cellsOf_append]
  ·intro b' v cs h hv
   have : b' ≠ c := fun e => by
    subst e
    have e1 := alive_of_hget h
    have e2 := alive_of_hget k4
    rw [e1] at e2
    injection (Option.some.inj e2) with e3 _
    omega
   rw [hget_set_ne this]; exact h
theorem litB (c : UInt8) (H : Heap) : aBuildSlice Tryz.prog H 72 1 [(0, .int .u8 c.toNat)] = some (.vs [.int .u8 c.toNat] true, none) := by
 simp [aBuildSlice, se72, sz5, ag5, ze5, AV.cells, fillA, zrep, splice, litOk, AV.scal, AV.plL, AV.pl, chunk, AV.leaf]
theorem writeByte_ok (s : List UInt8) (c : UInt8) (b : Nat) (prot : Nat) (H : Heap) (hp : prot ≤ H.length) (hb : Bld prot H b s) (hs : s.length < 140737488355328) :
  ∃ H', aLim cfg prot 40 [.ptr b 297 0, .int .u8 c.toNat] H = some (.nilI, some H') ∧ Bld prot H' b (s ++ [c]) ∧ Kept H H' b := by
 obtain ⟨H1, buf, n1, h1, h2, k1, h4⟩ := copyCheck_ok s b prot H hb
 have hp1 := Nat.le_trans hp k1.1
 obtain ⟨d, ver, H2, happ, h5, h6, h7, h8, h9⟩ := bapp h4 (x := .vs [.int .u8 c.toNat] true) (m := [c]) (.inl rfl) (elem_vs encB_T [c] true) (by simp) (by simp; omega) hp1
 have h2' := h9 _ _ _ h2 (by decide)
 have hput1 : hput prot H2 b 297 1 [.bs ⟨d, ver, 0, (s ++ [c]).length, 0, 1, false, false⟩] = some (H2.set b (.cells 297 [.ptr b 297 0, .bs ⟨d, ver, 0, (s ++ [c]).length, 0, 1, false, false⟩])) := by
  rw [hput_eq h2' h1 (by simp) (by simp [AV.leaf])]
  rfl
 refine ⟨H2.set b (.cells 297 [.ptr b 297 0, .bs ⟨d, ver, 0, (s ++ [c]).length, 0, 1, false, false⟩]), ?_, ?_, ?_⟩
 ·refine raw_slim rfl (by kernel_rfl) (by kernel_rfl) (by kernel_rfl) Tryz.func40 s40 (by simp [Tryz.f40]) fun fr hlen h => ?_
  simp only [Has, Nat.zero_add] at h
  obtain ⟨a0, a1, -⟩ := h
  simp only [Tryz.f40] at hlen ⊢
  unfold g40
  simp only [w9, simprocAttr, u73, hlen, a0, a1, n1, h2, litB, happ, hput1]
  exact Fin_raw (l := [.nilI]) (by simp [w9, hlen])
 ·refine ⟨_, _, h1, by rw [hget_set_same (hget_lt h2'), if_pos rfl], .inr rfl, .inr ⟨d, ver, rfl, by simp, h5, h6, ?_⟩⟩
  have : d ≠ b := fun e => by
   subst e
   have e1 := alive_of_hget h2'
   have e2 := alive_of_hget h7
   rw [e1] at e2
   injection (Option.some.inj e2) with e3 _
   omega
  rw [hget_set_ne this]; exact h7
 ·exact k1.trans ⟨by simpa using h8, fun b' v cs h hb' hv => by rw [hget_set_ne hb']; exact h9 _ _ _ h hv⟩
theorem writeString_ok (s m : List UInt8) (b : Nat) (prot : Nat) (H : Heap) (hp : prot ≤ H.length) (hb : Bld prot H b s) (hm : 0 < m.length) (hs : s.length + m.length ≤ 140737488355328) :
  ∃ H', aLim cfg prot 42 [.ptr b 297 0, .str m] H = some (.tup [.int .i64 m.length, .nilI], some H') ∧ Bld prot H' b (s ++ m) ∧ Kept H H' b := by
 obtain ⟨H1, buf, n1, h1, h2, k1, h4⟩ := copyCheck_ok s b prot H hb
 have hp1 := Nat.le_trans hp k1.1
 obtain ⟨d, ver, H2, happ, h5, h6, h7, h8, h9⟩ := bapp h4 (x := .str m) (m := m) (.inr rfl) (by simp [elemCells, cellsB]) hm hs hp1
 have h2' := h9 _ _ _ h2 (by decide)
 have hput1 : hput prot H2 b 297 1 [.bs ⟨d, ver, 0, (s ++ m).length, 0, 1, false, false⟩] = some (H2.set b (.cells 297 [.ptr b 297 0, .bs ⟨d, ver, 0, (s ++ m).length, 0, 1, false, false⟩])) := by
  rw [hput_eq h2' h1 (by simp) (by simp [AV.leaf])]
  rfl
 have hsl : ∀ K, aLen Tryz.prog K 9 (.str m) = some (.int .i64 m.length) := fun K => by simp [aLen, Tryz.underlying9]
 refine ⟨H2.set b (.cells 297 [.ptr b 297 0, .bs ⟨d, ver, 0, (s ++ m).length, 0, 1, false, false⟩]), ?_, ?_, ?_⟩
 ·refine raw_slim rfl (by kernel_rfl) (by kernel_rfl) (by kernel_rfl) Tryz.func42 s42 (by simp [Tryz.f42]) fun fr hlen h => ?_
  simp only [Has, Nat.zero_add] at h
  obtain ⟨a0, a1, -⟩ := h
  simp only [Tryz.f42] at hlen ⊢
  unfold g42
  simp only [w9, simprocAttr, u73, hlen, a0, a1, n1, h2, happ, hput1, hsl]
  exact Fin_raw (l := [.int .i64 m.length, .nilI]) (by simp [w9, hlen])
 ·refine ⟨_, _, h1, by rw [hget_set_same (hget_lt h2'), if_pos rfl], .inr rfl, .inr ⟨d, ver, rfl, by simp; omega, h5, h6, ?_⟩⟩
  have : d ≠ b := fun e => by
   subst e
   have e1 := alive_of_hget h2'
   have e2 := alive_of_hget h7
   rw [e1] at e2
   injection (Option.some.inj e2) with e3 _
   omega
  rw [hget_set_ne this]; exact h7
 ·exact k1.trans ⟨by simpa using h8, fun b' v cs h hb' hv => by rw [hget_set_ne hb']; exact h9 _ _ _ h hv⟩
theorem bytesB : ∀ s : List UInt8, bytesOk (cellsOf encB s) = true ∧ bytesOf (cellsOf encB s) = some s
 | [] => ⟨rfl, rfl⟩
 | c :: r => by
  obtain ⟨h1, h2⟩ := bytesB r
  have e : cellsOf encB (c :: r) = .int .u8 c.toNat :: cellsOf encB r := by simp [cellsOf, encB, AV.cells]
  rw [e]
  have := c.toNat_lt
  constructor
  ·simp [bytesOk, h1]; omega
  ·simp [bytesOf, h2]
theorem bstring_ok (s : List UInt8) (b : Nat) (prot : Nat) (H : Heap) (hb : Bld prot H b s) (hs : s.length ≤ 140737488355328) :
  ∃ H', aLim cfg prot 43 [.ptr b 297 0] H = some (.str s, some H') ∧ Kept H H' b := by
 obtain ⟨a, buf, h1, h2, h3, h4⟩ := hb
 rcases h4 with ⟨rfl, rfl⟩ | ⟨c, ver, rfl, k1, k2, k3, k4⟩
 ·refine ⟨H, ?_, .rfl⟩
  have l1 : ∀ K, aLen Tryz.prog K 72 .nilS = some (.int .i64 0) := fun K => by simp [aLen, Tryz.underlying72]
  refine raw_slim rfl (by kernel_rfl) (by kernel_rfl) (by kernel_rfl) Tryz.func43 s43 (by simp [Tryz.f43]) fun fr hlen h => ?_
  simp only [Has] at h
  obtain ⟨a0, -⟩ := h
  simp only [Tryz.f43] at hlen ⊢
  unfold g43
  simp only [w9, simprocAttr, u73, hlen, a0, h2, l1]
  refine ⟨?_, ?_⟩
  ·rw [show befs [] _ = [0, 1, 3, 7, 15, 0, 32, 96, 224, 480, 1023, 2047] from by kernel_rfl]
   simp [drawOk, chained, mayAt, sameAt, bound, List.range_succ, Nat.testBit]
  ·exact Fin_raw (l := [.str []]) (by simp [w9, hlen])
 ·have l1 : ∀ K, aLen Tryz.prog K 72 (.bs ⟨c, ver, 0, s.length, 0, 1, false, false⟩) = some (.int .i64 s.length) := fun K => by simp [aLen, Tryz.underlying72]
  have w1 : (cellsOf encB s).length = s.length := by have := cellsOf_length encB_T s; omega
  have w2 : List.take s.length (cellsOf encB s) = cellsOf encB s := List.take_of_length_le (by omega)
  have q1 := (bytesB s).1
  have q2 := (bytesB s).2
  have c1 : (0 : Int) < s.length := by omega
  have c2 : (s.length : Int) ≤ 9223372036854775807 := by omega
  have c3 : Tryz.prog.cellsOf 5 = 1 := by kernel_rfl
  refine ⟨H.set c .dead, ?_, by simp, ?_⟩
  ·refine raw_slim rfl (by kernel_rfl) (by kernel_rfl) (by kernel_rfl) Tryz.func43 s43 (by simp [Tryz.f43]) fun fr hlen h => ?_
   simp only [Has] at h
   obtain ⟨a0, -⟩ := h
   simp only [Tryz.f43] at hlen ⊢
   unfold g43
   simp only [w9, simprocAttr, u73, hlen, a0, h2, l1, k1, k2, k3, k4, w1, w2, q1, q2, c1, c2, c3, Int.toNat_natCast]
   refine ⟨?_, ?_⟩
   ·rw [show befs [] _ = [0, 1, 3, 7, 15, 0, 32, 96, 224, 480, 1023, 2047] from by kernel_rfl]
    simp [drawOk, chained, mayAt, sameAt, bound, List.range_succ, Nat.testBit]
   ·exact Fin_raw (l := [.str s]) (by simp [w9, hlen])
  ·intro b' v cs h hb' hv
   have : b' ≠ c := fun e => by
    subst e
    have e1 := alive_of_hget h
    have e2 := alive_of_hget k4
    rw [e1] at e2
    injection (Option.some.inj e2) with e3 _
    omega
   rw [hget_set_ne this]; exact h
open Go Go.Abs AbsSeat Ty
def u76 := an (fun (K : Heap) (n : Int) => conv_int Tryz.underlying3 Tryz.underlying126 K n) (an ag3 (an sz3 (an by3 (an ze3 (an Tryz.underlying3 (an ag9 (an sz9 (an by9 (an ze9 (an Tryz.underlying9 (an ag126 (an sz126 (an by126 (an ze126 Tryz.underlying126))))))))))))))
def g76 : Code := .seq (mG 0 #[q 4 (.assign mH) 9]) (.seq (mG 1 #[q 5 (.assign mH) 9]) (.seq (.seq (mG 2 #[q 6 (.assign (mI true)) 4]) (.block 0 (.loop (.seq (.seq (mG 3 #[mA 7 6 4]) (.cond (.tmp 7) .skip (.exit 0))) (.seq (.block 1 (.seq (mG 5 #[mA 10 0 126, mA 11 1 126, mF 12 .rem 126 10 (.tmp 11) 126 126, mA 13 0 126, mA 14 1 126, mF 15 .rem 126 13 (.tmp 14) 126 126, mF 16 .add 126 15 (.const (.int .u64 1)) 126 126, q 17 (.slice 9 (.const (.string { data := #[48, 49, 50, 51, 52, 53, 54, 55, 56, 57, 97, 98, 99, 100, 101, 102] })) (some (.tmp 12)) (some (.tmp 16)) none) 9, mA 18 5 9, mF 19 .add 9 17 (.tmp 18) 9 9, mB 5 19 9]) (mG 6 #[mA 20 0 126, mA 21 1 126, mF 22 .quo 126 20 (.tmp 21) 126 126, mB 0 22 126]))) (mG 4 #[mA 8 0 126, mF 9 .gtr 126 8 (.const (.int .u64 0)) 126 4, mB 6 9 4])))))) (.seq (mG 7 #[mA 23 5 9, mB 4 23 9]) .ret)))
def s76 := sL Tryz.f76 g76 (by kernel_rfl)
def g75 : Code := .seq (mG 0 #[q 2 (.assign mH) 9]) (.seq (.seq (mG 1 #[mA 3 0 3, mF 4 .lss 3 3 (ik 0) 3 4]) (.cond (.tmp 4) (.seq (mG 2 #[q 2 (.assign mH) 9]) .ret) .skip)) (.seq (mG 3 #[mA 5 0 3, q 6 (.convert 3 126 (.tmp 5)) 126, q 7 (cl 76 #[.tmp 6, .const (.int .u64 16)] #[126, 126]) 9, mB 2 7 9]) .ret))
def s75 := sL Tryz.f75 g75 (by kernel_rfl)
def hexSigns : List UInt8 := [48, 49, 50, 51, 52, 53, 54, 55, 56, 57, 97, 98, 99, 100, 101, 102]
def hexd (n : Nat) : List UInt8 := (hexSigns.drop n).take 1
theorem hexd_len (n : Nat) : (hexd n).length ≤ 1 := by simp [hexd]; omega
def digB (b v : Nat) : List UInt8 := if _h : b < 2 ∨ v < b then hexd v else digB b (v / b) ++ hexd (v % b)
termination_by v
decreasing_by exact Nat.div_lt_self (by omega) (by omega)
theorem digB_lt {b v : Nat} (h : v < b) : digB b v = hexd v := by unfold digB; rw [dif_pos (.inr h)]
theorem digB_ge {b v : Nat} (hb : 2 ≤ b) (h : ¬ v < b) : digB b v = digB b (v / b) ++ hexd (v % b) := by
 rw [digB, dif_neg (by omega)]
theorem digB_len (b : Nat) : ∀ (n v : Nat), v < 2 ^ n → (digB b v).length ≤ n + 1
 | n, v, h => by
  unfold digB
  split
  ·have := hexd_len v; omega
  ·rename_i hb
   cases n with
   | zero => simp at h; omega
   | succ n =>
    have h1 : v / b ≤ v / 2 := Nat.div_le_div_left (by omega) (by omega)
    have h2 : v / 2 < 2 ^ n := by rw [Nat.pow_succ] at h; omega
    have := digB_len b n (v / b) (by omega)
    have := hexd_len (v % b)
    simp only [List.length_append]; omega
theorem hexsl (n : Nat) (hn : n < 16) (k : IntKind) : aSlice Tryz.prog 9 (.str [48, 49, 50, 51, 52, 53, 54, 55, 56, 57, 97, 98, 99, 100, 101, 102]) (some (.int k n)) (some (.int k ((n + 1 : Nat)))) none = some (.str (hexd n)) := by
 have := str_mid (P := Tryz.prog) Tryz.underlying9 hexSigns (k := k) (k' := k) (a := n) (b := n + 1) (by omega) (by simp [hexSigns]; omega)
 rw [show n + 1 - n = 1 by omega] at this
 exact this
theorem based_ok (b v : Nat) (hb : 2 ≤ b) (hb2 : b ≤ 16) (hv : v < 18446744073709551616) (prot : Nat) (H : Heap) (hp : prot ≤ H.length) : aLim cfg prot 76 [.int .u64 v, .int .u64 b] H = some (.str (digB b v), none) := by
 have hlen0 : (digB b v).length ≤ 65 := digB_len b 64 v (by simpa using hv)
 refine pure_slim rfl (by kernel_rfl) Tryz.func76 s76 hp rfl (by simp [Tryz.f76]) fun fr hlen h => ?_
 simp only [Has, Nat.zero_add] at h
 obtain ⟨a0, a1, -⟩ := h
 simp only [Tryz.f76] at hlen ⊢
 unfold g76
 simp only [w9, simprocAttr]
 refine loop_rule (fun m fr H' => ∃ (x : Nat) (s : List UInt8) (ok : Bool), m = x + (if ok then 1 else 0) ∧ fr.length = 24 ∧ fget fr 0 = .int .u64 x ∧ fget fr 1 = .int .u64 b ∧ fget fr 5 = .str s ∧ fget fr 6 = .bool ok ∧ x < 18446744073709551616
  ∧ (ok = true → digB b v = digB b x ++ s) ∧ (ok = false → x = 0 ∧ s = digB b v)) ?_ (v + 1) _ _ ⟨v, [], true, by simp [w9, hlen, a0, a1, hv]⟩
 rintro m fr H' ⟨x, s, ok, rfl, hlen, a0, a1, a5, a6, hx, ho, hn⟩ ih
 cases ok with
 | false =>
  obtain ⟨rfl, rfl⟩ := hn rfl
  simp only [w9, simprocAttr, hlen, a5, a6]
  exact Fin_pure (l := [.str (digB b v)]) (by simp [w9, hlen]) (.still rfl) (by simp)
 | true =>
  have ho := ho rfl
  have q1 : ∀ xo yo, aBin Tryz.prog .rem 126 xo yo (.int .u64 x) (.int .u64 b) = some (.int .u64 ((x % b : Nat))) := fun xo yo => bin_rem_nat (by omega)
  have q2 : ∀ xo yo, aBin Tryz.prog .quo 126 xo yo (.int .u64 x) (.int .u64 b) = some (.int .u64 ((x / b : Nat))) := fun xo yo => by
   have h1 := Nat.div_le_self x b
   rw [bin_quo_nat (by omega)]
   generalize x / b = y at *
   rw [wrapu64 (by omega) (by omega)]
  have hm : x % b < 16 := Nat.lt_of_lt_of_le (Nat.mod_lt _ (by omega)) hb2
  have q3 : IntKind.u64.wrap (((x % b : Nat) : Int) + 1) = ((x % b + 1 : Nat) : Int) := by rw [wrapu64 (by omega) (by omega)]; simp
  have q4 := hexsl (x % b) hm .u64
  have hsl : s.length ≤ 65 := by rw [ho] at hlen0; simp at hlen0; omega
  have q5 : aStr .add (hexd (x % b)) s = some (.str (hexd (x % b) ++ s)) := str_add (by have := hexd_len (x % b); omega)
  by_cases hlt : x < b
  ·have h0 : x / b = 0 := Nat.div_eq_of_lt hlt
   rw [Nat.mod_eq_of_lt hlt] at q1 q3 q4 q5
   rw [h0] at q2
   simp only [w9, simprocAttr, hlen, a0, a1, a5, a6, q1, q2, q3, q4, q5]
   refine ih _ _ 0 (by simp) ⟨0, hexd x ++ s, false, by simp, ?_⟩
   simp [w9, hlen, a1]
   rw [ho, digB_lt hlt]
  ·have h0 : 0 < x / b := Nat.div_pos (by omega) (by omega)
   have h1 : x / b < x := Nat.div_lt_self (by omega) (by omega)
   have h2 : decide (0 < ((x / b : Nat) : Int)) = true := decide_eq_true (by omega)
   simp only [w9, simprocAttr, hlen, a0, a1, a5, a6, q1, q2, q3, q4, q5, h2]
   refine ih _ _ (x / b + 1) (by simp; omega) ⟨x / b, hexd (x % b) ++ s, true, by simp, ?_⟩
   simp [w9, hlen, a1]
   refine ⟨by omega, ?_⟩
   rw [ho, digB_ge hb hlt, List.append_assoc]
theorem putHex_ok (v : Nat) (hv : v < 9223372036854775808) (prot : Nat) (H : Heap) (hp : prot ≤ H.length) : aLim cfg prot 75 [.int .i64 v] H = some (.str (digB 16 v), none) := by
 have n1 : aLim cfg H.length 76 [.int .u64 v, .int .u64 16] H = some (.str (digB 16 v), none) := based_ok 16 v (by omega) (by omega) (by omega) H.length H (Nat.le_refl _)
 have c1 : decide ((v : Int) < 0) = false := decide_eq_false (by omega)
 have c2 : IntKind.u64.wrap (v : Int) = v := wrapu64 (by omega) (by omega)
 refine pure_slim rfl (by kernel_rfl) Tryz.func75 s75 hp rfl (by simp [Tryz.f75]) fun fr hlen h => ?_
 simp only [Has] at h
 obtain ⟨a0, -⟩ := h
 simp only [Tryz.f75] at hlen ⊢
 unfold g75
 simp only [w9, simprocAttr, u76, hlen, a0, c1, c2, n1]
 exact Fin_pure (l := [.str (digB 16 v)]) (by simp [w9, hlen]) (.still rfl) (by simp)
open Go Go.Abs AbsSeat Ty
def u41 := an (show tagT Tryz.prog 74 = 297 from by kernel_rfl) (an (fun (K : Heap) (n : Int) => conv_int Tryz.underlying5 Tryz.underlying3 K n) (an ag3 (an sz3 (an by3 (an ze3 (an Tryz.underlying3 (an ag5 (an sz5 (an by5 (an ze5 (an Tryz.underlying5 (an ag9 (an sz9 (an by9 (an ze9 (an Tryz.underlying9 (an ag74 (an sz74 (an by74 (an ze74 (an bu74 (an Tryz.underlying74 (an ag116 (an sz116 (an by116 (an ze116 Tryz.underlying116))))))))))))))))))))))))))
def g41 : Code := .seq (mG 0 #[q 2 (.assign mH) 9, q 3 (.assign (ik 0)) 28]) (.seq (mG 1 #[q 4 (.alloc 74) 0]) (.seq (.seq (mG 2 #[mA 8 0 9, q 9 (cl 31 #[.tmp 8] #[9]) 4, q 10 (.unOp .not 4 (.tmp 9)) 4]) (.cond (.tmp 10) (.seq (mG 3 #[q 2 (.assign mH) 9, q 3 (.assign (ik 3)) 28]) .ret) .skip)) (.seq (mG 4 #[q 11 (cl 40 #[.tmp 4, .const (.int .u8 34)] #[74, 5]) 76]) (.seq (.seq (mG 5 #[mA 12 0 9, q 13 (bi .len #[.tmp 12] #[9]) 3, q 14 (.move (ik 0)) 3]) (.block 0 (.loop (.seq (mG 6 #[mF 15 .lss 3 14 (.tmp 13) 3 4]) (.seq (.cond (.tmp 15) .skip (.exit 0)) (.seq (.block 1 (.seq (mG 7 #[mA 16 14 3, mB 5 16 3]) (.seq (mG 8 #[mA 17 0 9, mA 18 5 3, q 19 (.index 9 (.tmp 17) (.tmp 18)) 5, mB 6 19 5]) (.seq (.region 9 #[mA 20 6 5, q 21 (cl 74 #[.const (.string { data := #[8, 12, 10, 13, 9] }), .tmp 20] #[9, 5]) 3, mB 7 21 3] false) (.block 2 (.seq (.block 6 (.seq (.block 5 (.seq (.block 4 (.seq (.block 3 (.seq (.seq (.seq (mG 10 #[mA 23 7 3, mF 24 .geq 3 23 (ik 0) 3 4, mB 22 24 4]) (.cond (.tmp 22) (.exit 3) .skip)) (.seq (.seq (mG 11 #[mA 26 6 5, mF 27 .lss 5 26 (.const (.int .u8 32)) 5 4, mB 25 27 4]) (.cond (.tmp 25) (.exit 4) .skip)) (.seq (mG 12 #[mA 29 6 5, mF 30 .eql 5 29 (.const (.int .u8 34)) 5 4, mA 31 30 4, qg 32 (.move (.tmp 6)) 5 2 false, qg 33 (.binOp .eql 5 (.tmp 32) (.const (.int .u8 92)) 5) 4 2 false, q 34 (.pick (.tmp 31) (mI true) (.tmp 33)) 4, mB 28 34 4]) (.cond (.tmp 28) (.exit 5) .skip)))) (.exit 6))) (.seq (.seq (mG 13 #[q 35 (cl 40 #[.tmp 4, .const (.int .u8 92)] #[74, 5]) 76]) (mG 14 #[mA 36 7 3, q 37 (.index 9 (.const (.string { data := #[98, 102, 110, 114, 116] })) (.tmp 36)) 5, q 38 (cl 40 #[.tmp 4, .tmp 37] #[74, 5]) 76])) (.exit 2)))) (.seq (mG 15 #[mA 39 6 5, mF 40 .shr 5 39 (.const (.int .u64 4)) 116 5, q 41 (.convert 5 3 (.tmp 40)) 3, q 42 (cl 75 #[.tmp 41] #[3]) 9, q 43 (.binOp .add 9 (.const (.string { data := #[92, 117, 48, 48] })) (.tmp 42) 9) 9, mA 44 6 5, mF 45 .and 5 44 (.const (.int .u8 15)) 5 5, q 46 (.convert 5 3 (.tmp 45)) 3, q 47 (cl 75 #[.tmp 46] #[3]) 9, mF 48 .add 9 43 (.tmp 47) 9 9, q 49 (cl 42 #[.tmp 4, .tmp 48] #[74, 9]) 80]) (.exit 2)))) (mG 16 #[q 50 (cl 40 #[.tmp 4, .const (.int .u8 92)] #[74, 5]) 76]))) (.seq (mG 17 #[mA 51 6 5, q 52 (cl 40 #[.tmp 4, .tmp 51] #[74, 5]) 76]) (.exit 2)))))))) (mG 18 #[mF 53 .add 3 14 (ik 1) 3 3, mA 14 53 3]))))))) (.seq (mG 19 #[q 54 (cl 40 #[.tmp 4, .const (.int .u8 34)] #[74, 5]) 76]) (.seq (mG 20 #[q 55 (cl 43 #[.tmp 4] #[74]) 9, mB 2 55 9, q 3 (.assign (ik 0)) 28]) .ret))))))
def s41 := sL Tryz.f41 g41 (by kernel_rfl)
def qb (c : UInt8) : List UInt8 :=
 if c = 8 then [92, 98] else if c = 12 then [92, 102] else if c = 10 then [92, 110] else if c = 13 then [92, 114] else if c = 9 then [92, 116]
 else if c < 32 then [92, 117, 48, 48] ++ hexd (c.toNat / 16) ++ hexd (c.toNat % 16) else if c = 34 ∨ c = 92 then [92, c] else [c]
def quoteU (s : List UInt8) : List UInt8 := 34 :: s.flatMap qb ++ [34]
theorem qb_len (c : UInt8) : (qb c).length ≤ 6 := by
 have h1 := hexd_len (c.toNat / 16)
 have h2 := hexd_len (c.toNat % 16)
 unfold qb
 repeat' split
 all_goals simp
 omega
theorem qbs_len : ∀ s : List UInt8, (s.flatMap qb).length ≤ 6 * s.length
 | [] => by simp
 | c :: s => by
  have := qb_len c
  have := qbs_len s
  simp only [List.flatMap_cons, List.length_append, List.length_cons]; omega
theorem quote_len (s : List UInt8) : (quoteU s).length ≤ 6 * s.length + 2 := by
 have := qbs_len s
 simp only [quoteU, List.cons_append, List.length_cons, List.length_append, List.length_nil]; omega
theorem shr4 : ∀ n, n < 256 → Int.fdiv (n : Nat) (2 ^ min (4 : Int).toNat IntKind.u8.bits) = ((n / 16 : Nat) : Int) := by decide +kernel
theorem and15 : ∀ n, n < 256 → IntKind.u8.wrap (BitVec.ofInt IntKind.u8.bits (n : Nat) &&& BitVec.ofInt IntKind.u8.bits 15).toNat = ((n % 16 : Nat) : Int) := by decide +kernel
theorem qb_sign (c : UInt8) : (∃ k d, idxByte [8, 12, 10, 13, 9] c = ((k : Nat) : Int) ∧ ([98, 102, 110, 114, 116] : List UInt8)[k]? = some d ∧ qb c = [92, d]) ∨
  (idxByte [8, 12, 10, 13, 9] c = -1 ∧ qb c = if c < 32 then [92, 117, 48, 48] ++ hexd (c.toNat / 16) ++ hexd (c.toNat % 16) else if c = 34 ∨ c = 92 then [92, c] else [c]) := by
 have key : ∀ n : Fin 256, ((n.val = 8 ∧ idxByte [8, 12, 10, 13, 9] n.val.toUInt8 = 0) ∨ (n.val = 12 ∧ idxByte [8, 12, 10, 13, 9] n.val.toUInt8 = 1) ∨ (n.val = 10 ∧ idxByte [8, 12, 10, 13, 9] n.val.toUInt8 = 2) ∨
  (n.val = 13 ∧ idxByte [8, 12, 10, 13, 9] n.val.toUInt8 = 3) ∨ (n.val = 9 ∧ idxByte [8, 12, 10, 13, 9] n.val.toUInt8 = 4)) ∨ (n.val ≠ 8 ∧ n.val ≠ 12 ∧ n.val ≠ 10 ∧ n.val ≠ 13 ∧ n.val ≠ 9 ∧ idxByte [8, 12, 10, 13, 9] n.val.toUInt8 = -1) := by decide +kernel
 have hc : c.toNat.toUInt8 = c := by simp
 have := key ⟨c.toNat, c.toNat_lt⟩
 simp only [hc] at this
 have eqn : ∀ n : Nat, n < 256 → (c = n.toUInt8 ↔ c.toNat = n) := fun n hn => by
  constructor
  ·rintro rfl; simp; omega
  ·intro h; rw [← hc, h]
 rcases this with (⟨h, h2⟩ | ⟨h, h2⟩ | ⟨h, h2⟩ | ⟨h, h2⟩ | ⟨h, h2⟩) | ⟨h8, h12, h10, h13, h9, h2⟩
 ·obtain rfl := (eqn 8 (by omega)).2 h; exact .inl ⟨0, 98, h2, rfl, rfl⟩
 ·obtain rfl := (eqn 12 (by omega)).2 h; exact .inl ⟨1, 102, h2, rfl, rfl⟩
 ·obtain rfl := (eqn 10 (by omega)).2 h; exact .inl ⟨2, 110, h2, rfl, rfl⟩
 ·obtain rfl := (eqn 13 (by omega)).2 h; exact .inl ⟨3, 114, h2, rfl, rfl⟩
 ·obtain rfl := (eqn 9 (by omega)).2 h; exact .inl ⟨4, 116, h2, rfl, rfl⟩
 ·refine .inr ⟨h2, ?_⟩
  unfold qb
  rw [if_neg (show ¬ c = 8 from fun e => h8 ((eqn 8 (by omega)).1 e)), if_neg (show ¬ c = 12 from fun e => h12 ((eqn 12 (by omega)).1 e)), if_neg (show ¬ c = 10 from fun e => h10 ((eqn 10 (by omega)).1 e)), if_neg (show ¬ c = 13 from fun e => h13 ((eqn 13 (by omega)).1 e)), if_neg (show ¬ c = 9 from fun e => h9 ((eqn 9 (by omega)).1 e))]
theorem ult (c : UInt8) (n : Nat) (hn : n < 256) : decide ((c.toNat : Int) < n) = decide (c < n.toUInt8) := by
 have : (c < n.toUInt8) ↔ ((c.toNat : Int) < n) := by
  rw [UInt8.lt_iff_toNat_lt]; simp [Nat.mod_eq_of_lt hn]
 simp [this]
theorem ueq (c : UInt8) (n : Nat) (hn : n < 256) : decide ((c.toNat : Int) = n) = decide (c = n.toUInt8) := by
 have : (c = n.toUInt8) ↔ ((c.toNat : Int) = n) := by
  rw [← UInt8.toNat_inj]; simp [Nat.mod_eq_of_lt hn]; omega
 simp [this]
theorem quote_ok (s : List UInt8) (hl : s.length < 1000000000) (prot : Nat) (H : Heap) (hp : prot ≤ H.length) :
  aLim cfg prot 41 [.str s] H = some (if validU s then .tup [.str (quoteU s), .int .i64 0] else .tup [.str [], .int .i64 3], none) := by
 have n0 := valid_ok s (by omega) H.length (H ++ [Blk.cells 297 [.nil, .nilS]]) (by simp)
 refine pure_slim rfl (by kernel_rfl) Tryz.func41 s41 hp rfl (by simp [Tryz.f41]) fun fr hlen h => ?_
 simp only [Has] at h
 obtain ⟨a0, -⟩ := h
 simp only [Tryz.f41] at hlen ⊢
 unfold g41
 cases hv : validU s with
 | false =>
  rw [hv] at n0
  simp only [w9, simprocAttr, u41, hlen, a0, n0]
  exact Fin_pure (l := [.str [], .int .i64 3]) (by simp [w9, hlen]) (.tup (.cons (.still rfl) (.cons (.still rfl) .nil))) (by simp)
 | true =>
  rw [hv] at n0
  have hb0 : Bld H.length (H ++ [Blk.cells 297 [.nil, .nilS]]) H.length [] := Bld.new (Nat.le_refl _)
  obtain ⟨H1, n1, hb1, kp1⟩ := writeByte_ok [] 34 H.length H.length _ (by simp) hb0 (by simp)
  have hle1 : H.length ≤ H1.length := Nat.le_trans (by simp) kp1.1
  have n1 : aLim cfg H.length 40 [.ptr H.length 297 0, .int .u8 34] (H ++ [Blk.cells 297 [.nil, .nilS]]) = some (.nilI, some H1) := n1
  simp only [if_true]
  simp only [w9, simprocAttr, u41, hlen, a0, n0, n1, str_len Tryz.underlying9]
  refine loop_rule (fun m fr H' => ∃ (i : Nat), m = s.length - i ∧ i ≤ s.length ∧ fr.length = 56 ∧ fget fr 0 = .str s ∧ fget fr 4 = .ptr H.length 297 0 ∧ fget fr 13 = .int .i64 s.length ∧ fget fr 14 = .int .i64 i ∧ H.length ≤ H'.length
   ∧ Bld H.length H' H.length (34 :: (s.take i).flatMap qb)) ?_ s.length _ _ ⟨0, by refine ⟨by omega, by omega, ?_⟩; simp [w9, hlen, a0, hle1]; exact hb1⟩
  rintro m fr H' ⟨i, rfl, hi, hlen, a0, a4, a13, a14, hH, hb⟩ ih
  simp only [w9, simprocAttr, hlen, a13, a14]
  refine RC_split (fun h => ?_) (fun h => ?_)
  ·have hlt : i < s.length := by simpa using h
   have hww : IntKind.i64.wrap ((i : Int) + 1) = ((i + 1 : Nat) : Int) := by rw [wrap64 (by omega) (by omega)]; simp
   have e1 := str_at (P := Tryz.prog) Tryz.underlying9 s (k := .i64) hlt
   have htk : (s.take (i + 1)).flatMap qb = (s.take i).flatMap qb ++ qb s[i] := by
    have : s.take (i + 1) = s.take i ++ [s[i]] := by simp
    rw [this, List.flatMap_append, List.flatMap_cons, List.flatMap_nil, List.append_nil]
   have hol : (34 :: (s.take i).flatMap qb).length ≤ 6 * i + 1 := by
    have := qbs_len (s.take i)
    simp only [List.length_take, Nat.min_eq_left hi] at this
    simp only [List.length_cons]; omega
   have htk2 : 34 :: (s.take (i + 1)).flatMap qb = (34 :: (s.take i).flatMap qb) ++ qb s[i] := by rw [htk]; rfl
   clear htk
   generalize s[i] = c at *
   generalize 34 :: (s.take i).flatMap qb = o at *
   have n2 := idxS_ok [8, 12, 10, 13, 9] c H.length H' hH
   obtain ⟨H2, m1, hb2, kp2⟩ := writeByte_ok o 92 H.length H.length H' hH hb (by omega)
   have m1 : aLim cfg H.length 40 [.ptr H.length 297 0, .int .u8 92] H' = some (.nilI, some H2) := m1
   have hH2 : H.length ≤ H2.length := Nat.le_trans hH kp2.1
   rcases qb_sign c with ⟨k, d, hk, hd, hq⟩ | ⟨hk, hq⟩
   ·rw [hk] at n2
    have c0 : decide ((0 : Int) ≤ k) = true := decide_eq_true (by omega)
    have e2 : aIndex Tryz.prog 9 (.str [98, 102, 110, 114, 116]) (.int .i64 k) = some (.int .u8 d.toNat) := by
     simp [aIndex, asNat, Tryz.underlying9, hd]
    obtain ⟨H3, m2, hb3, kp3⟩ := writeByte_ok (o ++ [92]) d H.length H.length H2 hH2 hb2 (by simp; omega)
    simp only [w9, simprocAttr, hlen, a0, a4, a14, e1, n2, c0, m1, e2, m2, hww]
    refine ih _ _ (s.length - (i + 1)) (by omega) ⟨i + 1, rfl, hlt, ?_⟩
    rw [htk2, hq]
    rw [List.append_assoc] at hb3
    simp [w9, hlen, a0, a4, a13]
    exact ⟨Nat.le_trans hH2 kp3.1, hb3⟩
   ·rw [hk] at n2
    have c0 : decide ((0 : Int) ≤ -1) = false := rfl
    have d32 := ult c 32 (by omega)
    have d34 := ueq c 34 (by omega)
    have d92 := ueq c 92 (by omega)
    have d32 : decide ((c.toNat : Int) < 32) = decide (c < 32) := d32
    have d34 : decide ((c.toNat : Int) = 34) = decide (c = 34) := d34
    have d92 : decide ((c.toNat : Int) = 92) = decide (c = 92) := d92
    by_cases h32 : c < 32
    ·rw [if_pos h32] at hq
     rw [decide_eq_true h32] at d32
     have hn : c.toNat < 32 := by have := UInt8.lt_iff_toNat_lt.1 h32; simpa using this
     have q1 : ∀ xo yo, aBin Tryz.prog .shr 5 xo yo (.int .u8 c.toNat) (.int .u64 4) = some (.int .u8 ((c.toNat / 16 : Nat))) := fun xo yo => by
      rw [bin_shr _ _ (by omega), shr4 _ c.toNat_lt]
     have q2 := and15 _ c.toNat_lt
     have w1 : IntKind.i64.wrap ((c.toNat / 16 : Nat) : Int) = ((c.toNat / 16 : Nat) : Int) := wrap64 (by omega) (by omega)
     have w2 : IntKind.i64.wrap ((c.toNat % 16 : Nat) : Int) = ((c.toNat % 16 : Nat) : Int) := wrap64 (by omega) (by omega)
     have p1 := putHex_ok (c.toNat / 16) (by omega) H.length H' hH
     have p2 := putHex_ok (c.toNat % 16) (by omega) H.length H' hH
     rw [digB_lt (by omega)] at p1 p2
     have l1 := hexd_len (c.toNat / 16)
     have l2 := hexd_len (c.toNat % 16)
     have t1 := str_add (s := [92, 117, 48, 48]) (u := hexd (c.toNat / 16)) (by simp; omega)
     have t2 := str_add (s := [92, 117, 48, 48] ++ hexd (c.toNat / 16)) (u := hexd (c.toNat % 16)) (by simp; omega)
     obtain ⟨H3, m2, hb3, kp3⟩ := writeString_ok o ([92, 117, 48, 48] ++ hexd (c.toNat / 16) ++ hexd (c.toNat % 16)) H.length H.length H' hH hb (by simp) (by simp; omega)
     clear m1
     simp only [List.cons_append, List.nil_append] at t1 t2 m2 hb3 hq
     simp only [w9, simprocAttr, u41, hlen, a0, a4, a14, e1, n2, d32, q1, q2, w1, w2, p1, p2, t1, t2, m2, hww]
     refine ih _ _ (s.length - (i + 1)) (by omega) ⟨i + 1, rfl, hlt, ?_⟩
     rw [htk2, hq]
     simp [w9, hlen, a0, a4, a13]
     exact ⟨Nat.le_trans hH kp3.1, hb3⟩
    ·rw [if_neg h32] at hq
     rw [decide_eq_false h32] at d32
     by_cases hs : c = 34 ∨ c = 92
     ·rw [if_pos hs] at hq
      obtain ⟨H3, m2, hb3, kp3⟩ := writeByte_ok (o ++ [92]) c H.length H.length H2 hH2 hb2 (by simp; omega)
      rw [List.append_assoc] at hb3
      have fin : ∀ fr : List AV, fr.length = 56 → fget fr 0 = .str s → fget fr 4 = .ptr H.length 297 0 → fget fr 13 = .int .i64 s.length → fget fr 14 = .int .i64 ((i + 1 : Nat)) →
       ∃ j : Nat, s.length - (i + 1) = s.length - j ∧ j ≤ s.length ∧ fr.length = 56 ∧ fget fr 0 = .str s ∧ fget fr 4 = .ptr H.length 297 0 ∧ fget fr 13 = .int .i64 s.length ∧ fget fr 14 = .int .i64 j ∧ H.length ≤ H3.length
        ∧ Bld H.length H3 H.length (34 :: (s.take j).flatMap qb) := fun fr g1 g2 g3 g4 g5 => ⟨i + 1, rfl, hlt, g1, g2, g3, g4, g5, Nat.le_trans hH2 kp3.1, by rw [htk2, hq]; exact hb3⟩
      by_cases h34 : c = 34
      ·rw [decide_eq_true h34] at d34
       simp only [w9, simprocAttr, hlen, a0, a4, a14, e1, n2, d32, d34, m1, m2, hww]
       exact ih _ _ (s.length - (i + 1)) (by omega) (fin _ (by simp [w9, hlen]) (by simp [w9, a0]) (by simp [w9, a4]) (by simp [w9, a13]) (by simp [w9, hlen]))
      ·have h92 : c = 92 := hs.resolve_left h34
       rw [decide_eq_false h34] at d34
       rw [decide_eq_true h92] at d92
       simp only [w9, simprocAttr, hlen, a0, a4, a14, e1, n2, d32, d34, d92, m1, m2, hww]
       exact ih _ _ (s.length - (i + 1)) (by omega) (fin _ (by simp [w9, hlen]) (by simp [w9, a0]) (by simp [w9, a4]) (by simp [w9, a13]) (by simp [w9, hlen]))
     ·rw [if_neg hs] at hq
      obtain ⟨H3, m2, hb3, kp3⟩ := writeByte_ok o c H.length H.length H' hH hb (by omega)
      rw [decide_eq_false (fun e => hs (.inl e))] at d34
      rw [decide_eq_false (fun e => hs (.inr e))] at d92
      simp only [w9, simprocAttr, hlen, a0, a4, a14, e1, n2, d32, d34, d92, m2, hww]
      refine ih _ _ (s.length - (i + 1)) (by omega) ⟨i + 1, rfl, hlt, ?_⟩
      rw [htk2, hq]
      simp [w9, hlen, a0, a4, a13]
      exact ⟨Nat.le_trans hH kp3.1, hb3⟩
  ·have hnl : ¬ i < s.length := by simpa using h
   rw [List.take_of_length_le (l := s) (by omega)] at hb
   have hol : (34 :: s.flatMap qb).length ≤ 6 * s.length + 1 := by
    have := qbs_len s
    simp only [List.length_cons]; omega
   obtain ⟨H2, m1, hb2, kp2⟩ := writeByte_ok _ 34 H.length H.length H' hH hb (by omega)
   have m1 : aLim cfg H.length 40 [.ptr H.length 297 0, .int .u8 34] H' = some (.nilI, some H2) := m1
   obtain ⟨H3, m2, kp3⟩ := bstring_ok _ H.length H.length H2 hb2 (by simp only [List.length_append, List.length_cons, List.length_nil] at hol ⊢; omega)
   simp only [w9, simprocAttr, hlen, a4, m1, m2]
   exact Fin_pure (l := [.str (quoteU s), .int .i64 0]) (by simp [w9, hlen, quoteU]) (.tup (.cons (.still rfl) (.cons (.still rfl) .nil))) (by simp)
open Go Go.Abs AbsSeat Ty
instance : Inhabited Pr := ⟨⟨[], []⟩⟩
open Go Go.Abs AbsSeat Ty
open Go Go.Abs AbsSeat Ty
theorem Sl.leaf {v : AV} {l : List Pr} (h : Sl encP v l) : v.leaf = true := by cases h <;> rfl
open Go Go.Abs AbsSeat Ty
def g7 : Code := .seq (mG 0 #[q 2 (.assign (.const (.slice none 0 0))) 23, q 3 (.assign (.const (.slice none 0 0))) 22]) (.seq (mG 1 #[q 4 (.assign (.const (.slice none 0 0))) 23]) (.seq (mG 2 #[q 5 (.assign (.const (.slice none 0 0))) 22]) (.seq (.seq (mG 3 #[mA 8 0 22, q 9 (bi .len #[.tmp 8] #[22]) 3, q 10 (.move (ik 0)) 3]) (.block 0 (.loop (.seq (mG 4 #[mF 11 .lss 3 10 (.tmp 9) 3 0]) (.seq (.cond (.tmp 11) .skip (.exit 0)) (.seq (.block 1 (.seq (mG 5 #[mA 12 10 3, q 13 (.indexAddr 22 (.tmp 8) (.tmp 10)) 0, mC 14 13 58, q 7 (.alloc 58) 0, mB 6 12 3, mD 58 7 14]) (.seq (.seq (mG 6 #[mA 15 6 3, mF 16 .geq 3 15 (ik 6) 3 4]) (.cond (.tmp 16) (.exit 0) .skip)) (.seq (.seq (mG 7 #[q 17 (.fieldAddr 58 (.tmp 7) 0) 0, mC 18 17 9, q 19 (bi .len #[.tmp 18] #[9]) 3, mF 20 .gtr 3 19 (ik 20) 3 4]) (.cond (.tmp 20) (mG 8 #[q 21 (.fieldAddr 58 (.tmp 7) 0) 0, mC 22 21 9, q 23 (.slice 9 (.tmp 22) none (some (ik 20)) none) 9, q 24 (.fieldAddr 58 (.tmp 7) 0) 0, mD 9 24 23]) .skip)) (.seq (.seq (mG 9 #[q 25 (.fieldAddr 58 (.tmp 7) 1) 0, mC 26 25 9, q 27 (bi .len #[.tmp 26] #[9]) 3, mF 28 .gtr 3 27 (ik 30) 3 4]) (.cond (.tmp 28) (mG 10 #[q 29 (.fieldAddr 58 (.tmp 7) 1) 0, mC 30 29 9, q 31 (.slice 9 (.tmp 30) none (some (ik 30)) none) 9, q 32 (.fieldAddr 58 (.tmp 7) 1) 0, mD 9 32 31]) .skip)) (.seq (mG 11 #[mA 33 4 23, q 34 (.fieldAddr 58 (.tmp 7) 0) 0, mC 35 34 9, q 36 (.fieldAddr 58 (.tmp 7) 1) 0, mC 37 36 9, q 38 (.build 59 #[(0, .tmp 35), (1, .tmp 37)]) 59, q 39 (.buildSlice 23 1 #[(0, .tmp 38)]) 23, q 40 (bi .append #[.tmp 33, .tmp 39] #[23, 23]) 23, mB 4 40 23]) (mG 12 #[mA 41 5 22, mC 42 7 58, q 43 (.buildSlice 22 1 #[(0, .tmp 42)]) 22, q 44 (bi .append #[.tmp 41, .tmp 43] #[22, 22]) 22, mB 5 44 22]))))))) (mG 13 #[mF 45 .add 3 10 (ik 1) 3 3, mA 10 45 3]))))))) (.seq (mG 14 #[mA 46 4 23, mA 47 5 22, mB 2 46 23, mB 3 47 22]) .ret))))
theorem str_cut {t : TypeId} (hu : Tryz.prog.underlying t = some .string) (s : List UInt8) (n : Nat) (h : n ≤ s.length) : aSlice Tryz.prog t (.str s) none (some (.int .i64 n)) none = some (.str (s.take n)) := by
 simp [aSlice, hu, aBounds, optInt, h]
open Go Go.Abs AbsSeat Ty
def hstep (h : Int) (c : UInt8) : Int := IntKind.u64.wrap (IntKind.u64.wrap (BitVec.ofInt IntKind.u64.bits h ^^^ BitVec.ofInt IntKind.u64.bits (IntKind.u64.wrap (c.toNat : Int))).toNat * 1099511628211)
end Go.Proofs.YtnipaiklandliaaGreatDoor
namespace Go.Proofs.YtnipaiklandliaaGreatDoor
open Go Go.Abs AbsSeat
theorem nextU_zero {c : UInt8} {t : List UInt8} : (nextU (c :: t)).2.2 = 0 ↔ wantedU c.toNat ≠ 0 ∧ fitsU c (c :: t) (wantedU c.toNat) = true ∧ wantedU c.toNat ≤ (c :: t).length := by
 rw [nextU_eq rfl]
 constructor
 ·intro h
  split at h
  ·cases h
  ·rename_i h1
   split at h
   ·cases h
   ·rename_i h2
    refine ⟨fun e => h1 (.inl e), ?_, by omega⟩
    cases hf : fitsU c (c :: t) (wantedU c.toNat) with
    | true => rfl
    | false => exact absurd (.inr hf) h1
 ·rintro ⟨h1, h2, h3⟩
  rw [if_neg (by rw [h2]; simp [h1]), if_neg (by omega)]
theorem nextU_app {c : UInt8} {t : List UInt8} (h : (nextU ((c :: t).take 4)).2.2 = 0) (b : List UInt8) : nextU ((c :: t ++ b).take 4) = nextU ((c :: t).take 4) := by
 simp only [List.cons_append, List.take_succ_cons] at h ⊢
 obtain ⟨h1, h2, h3⟩ := nextU_zero.1 h
 have hw := wantedU_le c.toNat
 have e1 : ∀ n ≤ (c :: t.take 3).length, n ≤ 4 → (c :: (t ++ b).take 3).take n = (c :: t.take 3).take n := by
  intro n hn h4
  cases n with
  | zero => rfl
  | succ n =>
   simp only [List.take_succ_cons, List.length_cons, List.length_take] at hn ⊢
   rw [List.take_take, List.take_take, List.take_append_of_le_length (by omega)]
 have e2 := e1 _ h3 hw
 have hf : fitsU c (c :: (t ++ b).take 3) (wantedU c.toNat) = true := by unfold fitsU at h2 ⊢; rw [e2]; exact h2
 have hl : wantedU c.toNat ≤ (c :: (t ++ b).take 3).length := by simp only [List.length_cons, List.length_take, List.length_append] at h3 ⊢; omega
 rw [nextU_eq rfl, nextU_eq rfl, if_neg (by rw [hf]; simp [h1]), if_neg (by omega), if_neg (by rw [h2]; simp [h1]), if_neg (by omega)]
 have e3 : ((c :: (t ++ b).take 3).drop 1).take (wantedU c.toNat - 1) = ((c :: t.take 3).drop 1).take (wantedU c.toNat - 1) := by
  rw [← List.drop_take, ← List.drop_take, e2]
 rw [e3]
set_option maxRecDepth 100000
open Go Go.Abs AbsSeat Ty
theorem fitsGo_ge : ∀ (l : List UInt8) (lo hi : Int), 128 ≤ lo → fitsGo lo hi l = true → ∀ b ∈ l, 128 ≤ b.toNat
 | [], _, _, _, _ => by simp
 | c :: l, lo, hi, h, hf => by
  simp only [fitsGo] at hf
  split at hf
  ·cases hf
  ·rename_i h1
   intro b hb
   rcases List.mem_cons.1 hb with rfl | hb
   ·omega
   ·exact fitsGo_ge l 128 191 (by omega) hf b hb
theorem lowU_ge (c : Int) : 128 ≤ lowU c := by unfold lowU; split <;> (try split) <;> decide
theorem qb_high {b : UInt8} (h : 128 ≤ b.toNat) : qb b = [b] := by
 unfold qb
 have e : ∀ n : UInt8, n.toNat < 128 → ¬ b = n := fun n hn => by rintro rfl; omega
 rw [if_neg (e 8 (by decide)), if_neg (e 12 (by decide)), if_neg (e 10 (by decide)), if_neg (e 13 (by decide)), if_neg (e 9 (by decide)), if_neg (by rw [UInt8.lt_iff_toNat_lt]; simp; omega), if_neg (fun h => h.elim (e 34 (by decide)) (e 92 (by decide)))]
theorem qbs_high : ∀ (l : List UInt8), (∀ b ∈ l, 128 ≤ b.toNat) → l.flatMap qb = l
 | [], _ => rfl
 | c :: l, h => by rw [List.flatMap_cons, qb_high (h c (by simp)), qbs_high l fun b hb => h b (by simp [hb])]; rfl
theorem valid_cons {c : UInt8} {t : List UInt8} (h : validU (c :: t) = true) : (nextU (c :: t)).2.2 = 0 ∧ (nextU (c :: t)).2.1 = wantedU c.toNat ∧ 1 ≤ wantedU c.toNat ∧ wantedU c.toNat ≤ (c :: t).length ∧ validU ((c :: t).drop (wantedU c.toNat)) = true := by
 unfold validU at h ⊢
 rw [walkU] at h
 split at h
 ·rename_i h0
  obtain ⟨h1, h2, h3⟩ := nextU_zero.1 h0
  have hn : (nextU (c :: t)).2.1 = wantedU c.toNat := by
   rw [nextU_eq rfl, if_neg (by rw [h2]; simp [h1]), if_neg (by omega)]
  refine ⟨h0, hn, by omega, h3, ?_⟩
  rw [hn] at h
  simp only [decide_eq_true_eq] at h ⊢
  rw [List.length_drop]; omega
 ·simp at h
theorem fourS_hex {n : Nat} (hn : n < 32) (r : List UInt8) : fourS ([48, 48] ++ hexd (n / 16) ++ hexd (n % 16) ++ r) = some n := by
 have key : ∀ m : Fin 32, ∃ a b, hexd (m.val / 16) = [a] ∧ hexd (m.val % 16) = [b] ∧ hexV [48, 48, a, b] 0 = some m.val := by
  intro m
  have : ∀ m : Fin 32, (hexd (m.val / 16)).length = 1 ∧ (hexd (m.val % 16)).length = 1 ∧ hexV ([48, 48] ++ hexd (m.val / 16) ++ hexd (m.val % 16)) 0 = some m.val := by decide +kernel
  obtain ⟨h1, h2, h3⟩ := this m
  obtain ⟨a, ha⟩ := List.length_eq_one_iff.1 h1
  obtain ⟨b, hb⟩ := List.length_eq_one_iff.1 h2
  exact ⟨a, b, ha, hb, by rw [ha, hb] at h3; exact h3⟩
 obtain ⟨a, b, ha, hb, h⟩ := key ⟨n, hn⟩
 dsimp only at ha hb h
 rw [ha, hb]
 unfold fourS
 rw [if_neg (by simp)]
 exact h
theorem secondS_low {v : Nat} (hv : v < 55296) (r : List UInt8) : secondS v r = none := by
 unfold secondS
 split
 ·cases fourS (r.drop 6) with
  | none => rfl
  | some w =>
   show pairU v w = none
   unfold pairU
   rw [if_pos (.inl (by omega))]
 ·rfl
theorem putU_low : ∀ n : Fin 32, putU n.val = [UInt8.ofNat n.val] := by decide +kernel
theorem escS_low {n : Nat} (hn : n < 32) (r : List UInt8) : escS (117 :: ([48, 48] ++ hexd (n / 16) ++ hexd (n % 16) ++ r)) = some ([UInt8.ofNat n], 5) := by
 simp only [escS, if_true, codedS, fourS_hex hn, secondS_low (show n < 55296 by omega)]
 have hi : isU n = true := by unfold isU; simp; omega
 rw [if_pos hi, putU_low ⟨n, hn⟩]; rfl
theorem textS_esc1 {c d : UInt8} {r : List UInt8} (h : escS (d :: r) = some ([c], 1)) : textS (92 :: d :: r) = (textS r).map fun x => (c :: x.1, 1 + 1 + x.2) := by
 rw [textS_esc h]; rfl
theorem hexd_one (n : Nat) (hn : n < 16) : (hexd n).length = 1 := by
 have : ∀ m : Fin 16, (hexd m.val).length = 1 := by decide
 exact this ⟨n, hn⟩
theorem textS_quote : ∀ (m : Nat) (v : List UInt8), v.length ≤ m → validU v = true → ∀ rest, textS (v.flatMap qb ++ 34 :: rest) = some (v, (v.flatMap qb).length + 1)
 | _, [], _, _, rest => textS_end rest
 | 0, c :: t, hm, _, _ => by simp at hm
 | m + 1, c :: t, hm, hv, rest => by
  simp only [List.length_cons] at hm
  obtain ⟨h0, hn, h1, hle, hv'⟩ := valid_cons hv
  have hcm : c.toNat < 256 := c.toNat_lt
  have hcc : UInt8.ofNat c.toNat = c := by simp
  by_cases hlow : c.toNat < 128
  ·have hw : wantedU c.toNat = 1 := by unfold wantedU; rw [if_pos (by omega)]
   rw [hw] at hv'
   have ih := textS_quote m t (by omega) hv' rest
   rw [List.flatMap_cons, List.append_assoc]
   generalize ht : t.flatMap qb = Q at *
   have two : ∀ d : UInt8, qb c = [92, d] → escC d = some c → d ≠ 117 → textS (qb c ++ (Q ++ 34 :: rest)) = some (c :: t, (qb c ++ Q).length + 1) := by
    intro d hq he hd
    rw [hq]
    show textS (92 :: d :: (Q ++ 34 :: rest)) = _
    rw [textS_esc1 (c := c) (by simp only [escS, if_neg hd, he, Option.map_some]), ih]
    simp; omega
   have eqn : ∀ n : Nat, n < 256 → (c = UInt8.ofNat n ↔ c.toNat = n) := fun n hn => by
    constructor
    ·rintro rfl; simp; omega
    ·intro h; rw [← hcc, h]
   by_cases c8 : c = 8
   ·subst c8; exact two 98 rfl rfl (by decide)
   by_cases c12 : c = 12
   ·subst c12; exact two 102 rfl rfl (by decide)
   by_cases c10 : c = 10
   ·subst c10; exact two 110 rfl rfl (by decide)
   by_cases c13 : c = 13
   ·subst c13; exact two 114 rfl rfl (by decide)
   by_cases c9 : c = 9
   ·subst c9; exact two 116 rfl rfl (by decide)
   by_cases c34 : c = 34
   ·subst c34; exact two 34 rfl rfl (by decide)
   by_cases c92 : c = 92
   ·subst c92; exact two 92 rfl rfl (by decide)
   have hq : qb c = if c < 32 then [92, 117, 48, 48] ++ hexd (c.toNat / 16) ++ hexd (c.toNat % 16) else [c] := by
    unfold qb
    rw [if_neg c8, if_neg c12, if_neg c10, if_neg c13, if_neg c9]
    split
    ·rfl
    ·rw [if_neg (fun h => h.elim c34 c92)]
   by_cases c32 : c.toNat < 32
   ·have c32' : c < 32 := by rw [UInt8.lt_iff_toNat_lt]; simpa using c32
    rw [if_pos c32'] at hq
    have hl1 := hexd_one (c.toNat / 16) (by omega)
    have hl2 := hexd_one (c.toNat % 16) (by omega)
    have e := escS_low c32 (Q ++ 34 :: rest)
    rw [hcc] at e
    have e2 : qb c ++ (Q ++ 34 :: rest) = 92 :: (117 :: ([48, 48] ++ hexd (c.toNat / 16) ++ hexd (c.toNat % 16) ++ (Q ++ 34 :: rest))) := by rw [hq]; simp
    rw [e2, textS_esc e]
    have e3 : (117 :: ([48, 48] ++ hexd (c.toNat / 16) ++ hexd (c.toNat % 16) ++ (Q ++ 34 :: rest))).drop 5 = Q ++ 34 :: rest := by
     show ([48, 48] ++ hexd (c.toNat / 16) ++ hexd (c.toNat % 16) ++ (Q ++ 34 :: rest)).drop 4 = _
     exact List.drop_left' (by simp [hl1, hl2])
    rw [e3, ih, hq]
    simp [hl1, hl2]; omega
   ·have c32' : ¬ c < 32 := by rw [UInt8.lt_iff_toNat_lt]; simpa using c32
    rw [if_neg c32'] at hq
    rw [hq]
    show textS (c :: (Q ++ 34 :: rest)) = _
    have hz : (nextU ((c :: (Q ++ 34 :: rest)).take 4)).2.2 = 0 := by
     rw [List.take_succ_cons]
     refine nextU_zero.2 ⟨by omega, ?_, by rw [hw]; simp⟩
     unfold fitsU; rw [hw]; rfl
    have hz1 : (nextU ((c :: (Q ++ 34 :: rest)).take 4)).2.1 = 1 := by
     simp only [List.take_succ_cons] at hz ⊢
     obtain ⟨z1, z2, z3⟩ := nextU_zero.1 hz
     rw [nextU_eq rfl, if_neg (by rw [z2]; simp [z1]), if_neg (by omega), hw]
    rw [textS_rune c34 (by omega) c92 hz, hz1]
    show (textS (Q ++ 34 :: rest)).map _ = _
    rw [ih]
    simp; omega
  ·have hw2 : 2 ≤ wantedU c.toNat := by
    have h2 : (wantedU c.toNat) ≠ 1 := by
     intro h
     unfold wantedU at h
     rw [if_neg (by omega)] at h
     split at h
     ·cases h
     ·split at h
      ·cases h
      ·split at h <;> cases h
    omega
   have hw4 := wantedU_le c.toNat
   obtain ⟨z1, z2, z3⟩ := nextU_zero.1 h0
   generalize hN : wantedU c.toNat = N at *
   have hge : ∀ b ∈ (c :: t).take N, 128 ≤ b.toNat := by
    obtain ⟨k, rfl⟩ : ∃ k, N = k + 1 := ⟨N - 1, by omega⟩
    unfold fitsU at z2
    rw [List.take_succ_cons, List.drop_succ_cons, List.drop_zero] at z2
    rw [List.take_succ_cons]
    intro b hb
    rcases List.mem_cons.1 hb with rfl | hb
    ·omega
    ·exact fitsGo_ge _ _ _ (lowU_ge _) z2 b hb
   have hsplit : (c :: t) = (c :: t).take N ++ (c :: t).drop N := (List.take_append_drop _ _).symm
   have hfm : (c :: t).flatMap qb = (c :: t).take N ++ ((c :: t).drop N).flatMap qb := by
    rw [hsplit, List.flatMap_append, qbs_high _ hge, ← hsplit]
   have ih := textS_quote m ((c :: t).drop N) (by simp only [List.length_drop, List.length_cons]; omega) hv' rest
   rw [hfm, List.append_assoc]
   generalize hQ : ((c :: t).drop N).flatMap qb = Q at *
   obtain ⟨k, rfl⟩ : ∃ k, N = k + 1 := ⟨N - 1, by omega⟩
   have hlt : ((c :: t).take (k + 1)).length = k + 1 := by rw [List.length_take]; omega
   have hck : (c :: t).take (k + 1) = c :: t.take k := rfl
   have hz0 : (nextU ((c :: t.take k).take 4)).2.2 = 0 := by
    rw [← hck, List.take_of_length_le (by omega), hck]
    refine nextU_zero.2 ⟨by omega, ?_, by rw [hN, ← hck, hlt]; exact Nat.le_refl _⟩
    unfold fitsU at z2 ⊢
    rw [hN, ← hck, List.take_of_length_le (by omega)]; exact z2
   have happ := nextU_app hz0 (Q ++ 34 :: rest)
   have hz1 : (nextU ((c :: t.take k).take 4)).2.1 = k + 1 := by
    rw [← hck, List.take_of_length_le (by omega), hck] at hz0 ⊢
    obtain ⟨y1, y2, y3⟩ := nextU_zero.1 hz0
    rw [nextU_eq rfl, if_neg (by rw [y2]; simp [y1]), if_neg (by omega), hN]
   rw [← happ] at hz0 hz1
   rw [hck, List.cons_append] at *
   have c34 : ¬ c = 34 := by rintro rfl; exact hlow (by decide)
   have c92 : ¬ c = 92 := by rintro rfl; exact hlow (by decide)
   rw [textS_rune c34 (by omega) c92 hz0, hz1]
   have e1 : (c :: (t.take k ++ (Q ++ 34 :: rest))).drop (k + 1) = Q ++ 34 :: rest := by
    rw [List.drop_succ_cons]; exact List.drop_left' (by simpa using hlt)
   have e2 : (c :: (t.take k ++ (Q ++ 34 :: rest))).take (k + 1) = (c :: t).take (k + 1) := by
    rw [List.take_succ_cons, List.take_left' (by simpa using hlt)]; rfl
   rw [e1, e2, ih]
   simp only [Option.map_some, Option.some.injEq, Prod.mk.injEq]
   refine ⟨List.take_append_drop _ _, ?_⟩
   have := hlt
   simp only [List.length_append, List.length_cons, List.length_take] at this ⊢; omega
open Go Go.Abs AbsSeat Ty
open Go Go.Abs AbsSeat Ty
def signS (k : Int) : List UInt8 := if k = 1 then [61] else if k = 2 then [33, 61] else if k = 3 then [61, 126] else if k = 4 then [33, 126] else []
def qm (m : Mt) : List UInt8 := if validU m.val then quoteU m.val else []
def pieceM (m : Mt) : List UInt8 := m.name ++ (signS m.kind ++ qm m)
def bodyM : List Mt → List UInt8
 | [] => []
 | m :: r => pieceM m ++ r.flatMap fun y => 44 :: pieceM y
def textM (l : List Mt) : List UInt8 := 123 :: bodyM l ++ [125]
def GoodM (m : Mt) : Prop := nameL m.name = true ∧ validU m.val = true ∧ 1 ≤ m.kind ∧ m.kind ≤ 4
def tailM : List Mt → List UInt8
 | [] => []
 | m :: r => 44 :: bodyM (m :: r)
theorem bodyM_cons (m : Mt) (r : List Mt) : bodyM (m :: r) = m.name ++ (signS m.kind ++ (qm m ++ tailM r)) := by
 cases r with
 | nil => simp [bodyM, pieceM, tailM]
 | cons y r => simp [bodyM, pieceM, tailM]
theorem runS_all1 {p : Int → Bool} : ∀ (a : List UInt8) (b : List UInt8), (∀ c ∈ a, p c.toNat = true) → runS p (a ++ b) = a.length + runS p b
 | [], b, _ => by simp
 | c :: a, b, h => by
  have h1 := h c (by simp)
  simp only [List.cons_append, runS, h1, if_true, runS_all1 a b fun d hd => h d (by simp [hd]), List.length_cons]
  omega
theorem runS_head0 {p : Int → Bool} {c : UInt8} (h : p c.toNat = false) (t : List UInt8) : runS p (c :: t) = 0 := by simp [runS, h]
theorem trimL_head {c : UInt8} (h : wsC c.toNat = false) (t : List UInt8) : trimL (c :: t) = c :: t := by unfold trimL; rw [runS_head0 h]; rfl
theorem nameC {c : UInt8} (h : inNameC c.toNat = true) : wsC c.toNat = false ∧ goC c.toNat = true := by
 have key : ∀ n : Fin 256, inNameC n.val = true → wsC n.val = false ∧ goC n.val = true := by decide +kernel
 exact key ⟨c.toNat, c.toNat_lt⟩ h
theorem name_all {s : List UInt8} (h : nameL s = true) : (∀ c ∈ s, inNameC c.toNat = true) ∧ s ≠ [] := by
 cases s with
 | nil => cases h
 | cons c t =>
  simp only [nameL, Bool.and_eq_true, List.all_eq_true] at h
  exact ⟨h.2, by simp⟩
theorem trimL_name {s : List UInt8} (h : nameL s = true) (t : List UInt8) : trimL (s ++ t) = s ++ t := by
 obtain ⟨h1, h2⟩ := name_all h
 cases s with
 | nil => exact absurd rfl h2
 | cons c r => exact trimL_head (nameC (h1 c (by simp))).1 _
theorem trimL_tail (r : List Mt) : trimL (tailM r) = tailM r := by
 cases r with
 | nil => rfl
 | cons m r => exact trimL_head (by decide) _
theorem qtS_quote {v : List UInt8} (hv : validU v = true) (rest : List UInt8) : qtS (quoteU v ++ rest) = some (v, (quoteU v).length) := by
 have h := textS_quote _ v (Nat.le_refl _) hv rest
 have e : quoteU v ++ rest = 34 :: (v.flatMap qb ++ 34 :: rest) := by simp [quoteU]
 rw [e]
 simp only [qtS, if_pos, h, Option.map_some]
 simp [quoteU]
theorem kindS_sign (k : Int) (h1 : 1 ≤ k) (h4 : k ≤ 4) (t : List UInt8) : kindS (signS k ++ 34 :: t) = (k, 34 :: t) ∧ trimL (signS k ++ 34 :: t) = signS k ++ 34 :: t ∧ ∃ c u, signS k = c :: u ∧ goC c.toNat = false := by
 have ht : trimL (34 :: t) = 34 :: t := trimL_head (by decide) t
 have hk : k = 1 ∨ k = 2 ∨ k = 3 ∨ k = 4 := by omega
 rcases hk with rfl | rfl | rfl | rfl
 ·exact ⟨by simp [kindS, signS, hasPre, ht], trimL_head (by decide) _, 61, [], rfl, by decide⟩
 ·exact ⟨by simp [kindS, signS, hasPre, ht], trimL_head (by decide) _, 33, [61], rfl, by decide⟩
 ·exact ⟨by simp [kindS, signS, hasPre, ht], trimL_head (by decide) _, 61, [126], rfl, by decide⟩
 ·exact ⟨by simp [kindS, signS, hasPre, ht], trimL_head (by decide) _, 33, [126], rfl, by decide⟩
theorem leadS_piece {m : Mt} (hm : GoodM m) (t : List UInt8) : leadS (m.name ++ (signS m.kind ++ (qm m ++ t))) = some (m, trimL t) := by
 obtain ⟨h1, h2, h3, h4⟩ := hm
 have hq : qm m = quoteU m.val := by unfold qm; rw [if_pos h2]
 obtain ⟨n1, n2⟩ := name_all h1
 have hq2 : qm m ++ t = 34 :: (m.val.flatMap qb ++ [34] ++ t) := by rw [hq]; simp [quoteU]
 obtain ⟨k1, k2, c, u, k3, k4⟩ := kindS_sign m.kind h3 h4 (m.val.flatMap qb ++ [34] ++ t)
 rw [← hq2] at k1 k2
 have e1 : trimL (m.name ++ (signS m.kind ++ (qm m ++ t))) = m.name ++ (signS m.kind ++ (qm m ++ t)) := trimL_name h1 _
 have e2 : runS goC (m.name ++ (signS m.kind ++ (qm m ++ t))) = m.name.length := by
  rw [runS_all1 _ _ fun c hc => (nameC (n1 c hc)).2, k3, List.cons_append, runS_head0 k4]; rfl
 unfold leadS
 rw [e1, e2, List.drop_left, List.take_left, k2, k1]
 have hne : ¬ m.name.length = (m.name ++ (signS m.kind ++ (qm m ++ t))).length := by rw [k3]; simp
 have hk0 : decide (m.kind = 0) = false := decide_eq_false (by omega)
 rw [if_neg hne, hq, qtS_quote h2]
 simp only [hk0, h1, Bool.not_false, Bool.and_self, if_true, List.drop_left]
theorem parts_body : ∀ (l : List Mt), (∀ m ∈ l, GoodM m) → partsS (bodyM l) = some l
 | [], _ => by rw [partsS]; rfl
 | m :: r, h => by
  have hm := h m (by simp)
  have h1 := trimL_name hm.1 (signS m.kind ++ (qm m ++ tailM r))
  rw [partsS, bodyM_cons, h1]
  have hne : ¬ m.name ++ (signS m.kind ++ (qm m ++ tailM r)) = [] := by
   have := (name_all hm.1).2
   simp [this]
  rw [if_neg hne]
  have hl := leadS_piece hm (tailM r)
  rw [trimL_tail] at hl
  split
  ·rename_i e; rw [hl] at e; cases e
  ·rename_i x e
   rw [hl] at e
   cases e
   cases r with
   | nil => simp [tailM, hasPre]
   | cons y r =>
    have ih := parts_body (y :: r) fun z hz => h z (by simp [hz])
    have hp : hasPre (tailM (y :: r)) [44] = true := by simp [tailM, hasPre]
    have hd : (tailM (y :: r)).drop 1 = bodyM (y :: r) := rfl
    simp only [hp, if_true, hd, ih, Option.map_some]
theorem parse_text (l : List Mt) (h : ∀ m ∈ l, GoodM m) : parseM (textM l) = some l := by
 have e1 : trimL (textM l) = textM l := trimL_head (by decide) _
 have e2 : trimR (textM l) = textM l := by
  unfold trimR textM
  rw [List.reverse_append]
  simp only [List.reverse_cons, List.reverse_nil, List.nil_append, List.cons_append]
  rw [runS_head0 (by decide), Nat.sub_zero, List.take_of_length_le (Nat.le_refl _)]
 have e3 : (textM l).drop 1 = bodyM l ++ [125] := rfl
 unfold parseM
 rw [e2, e1, e3]
 have e4 : hasPre (textM l) [123] = true := by simp [hasPre, textM]
 have e5 : hasSuf (bodyM l ++ [125]) [125] = true := by simp [hasSuf]
 rw [e4, e5]
 simp only [Bool.and_self, if_true, List.length_append, List.length_cons, List.length_nil, Nat.zero_add, Nat.add_sub_cancel, List.take_left]
 exact parts_body l h
set_option maxRecDepth 100000
open Go Go.Abs AbsSeat Ty
def u57 := an (show tagT Tryz.prog 54 = 0 from by kernel_rfl) (an (show tagT Tryz.prog 120 = 0 from by kernel_rfl) (an ag3 (an sz3 (an by3 (an ze3 (an Tryz.underlying3 (an ag4 (an sz4 (an by4 (an ze4 (an Tryz.underlying4 (an ag9 (an sz9 (an by9 (an ze9 (an Tryz.underlying9 (an ag28 (an sz28 (an by28 (an ze28 (an Tryz.underlying28 (an ag54 (an sz54 (an by54 (an ze54 (an bu54 (an Tryz.underlying54 (an ag120 (an sz120 (an by120 (an ze120 (an bu120 (an Tryz.underlying120 (an ag145 (an sz145 (an by145 (an se145 (an ze145 (an Tryz.underlying145 (an fa54_0 (an fd54_0 (an fa54_1 (an fd54_1 (an fa54_2 (an fd54_2 (an fa120_0 (an fd120_0 (an fa120_1 (an fd120_1 (an fa120_2 (an fd120_2 (an fa120_3 fd120_3))))))))))))))))))))))))))))))))))))))))))))))))))))
def g57 : Code := .seq (mG 0 #[q 2 (.alloc 54) 0, q 3 (.assign mH) 9, q 4 (.assign (mI false)) 4]) (.seq (mG 1 #[mA 13 0 9, q 14 (cl 56 #[.tmp 13] #[9]) 9, mB 0 14 9]) (.seq (.region 2 #[mA 15 0 9, q 16 (cl 90 #[.tmp 15, .const (.string { data := #[61, 33, 32, 9] })] #[9, 9]) 3, mB 5 16 3] false) (.seq (.seq (mG 3 #[mA 17 5 3, mF 18 .lss 3 17 (ik 0) 3 4]) (.cond (.tmp 18) (.seq (mG 4 #[q 19 (.build 54 #[]) 54, mD 54 2 19, q 3 (.assign mH) 9, q 4 (.assign (mI false)) 4]) .ret) .skip)) (.seq (mG 5 #[mA 20 0 9, mA 21 5 3, q 22 (.slice 9 (.tmp 20) none (some (.tmp 21)) none) 9, q 23 (.build 54 #[(0, .tmp 22)]) 54, q 6 (.alloc 54) 0, mD 54 6 23]) (.seq (mG 6 #[mA 24 0 9, mA 25 5 3, q 26 (.slice 9 (.tmp 24) (some (.tmp 25)) none none) 9, q 27 (cl 56 #[.tmp 26] #[9]) 9, mB 0 27 9]) (.seq (.seq (mG 7 #[q 28 (.buildSlice 145 4 #[(0, ik 3), (1, ik 4), (2, ik 2), (3, ik 1)]) 145, q 29 (bi .len #[.tmp 28] #[145]) 3, q 30 (.move (ik 0)) 3]) (.block 0 (.loop (.seq (mG 8 #[mF 31 .lss 3 30 (.tmp 29) 3 0]) (.seq (.cond (.tmp 31) .skip (.exit 0)) (.seq (.block 1 (.seq (mG 9 #[q 32 (.indexAddr 145 (.tmp 28) (.tmp 30)) 0, mC 33 32 3, mB 8 33 3]) (.seq (mG 10 #[mA 35 0 9, mA 36 8 3, q 37 (cl 58 #[.tmp 36] #[3]) 9, q 38 (cl 37 #[.tmp 35, .tmp 37] #[9, 9]) 67, mA 34 38 67, mE 39 34 0 9, mE 40 34 1 4, mB 9 39 9, mB 10 40 4]) (.seq (mG 11 #[mA 41 10 4]) (.cond (.tmp 41) (.seq (mG 12 #[mA 42 8 3, q 43 (.fieldAddr 54 (.tmp 6) 1) 0, mD 3 43 42]) (.seq (mG 13 #[mA 44 9 9, q 45 (cl 56 #[.tmp 44] #[9]) 9, mB 0 45 9]) (.exit 0))) .skip))))) (mG 14 #[mF 46 .add 3 30 (ik 1) 3 3, mA 30 46 3]))))))) (.seq (mG 15 #[mA 48 0 9, q 49 (cl 72 #[.tmp 48, ik 0] #[9, 3]) 121, mA 47 49 121, mE 50 47 0 120, mE 51 47 1 28, q 11 (.alloc 120) 0, mD 120 11 50, mB 12 51 28]) (.seq (.seq (mG 16 #[q 52 (.fieldAddr 54 (.tmp 6) 1) 0, mC 53 52 3, mF 54 .eql 3 53 (ik 0) 3 4, mA 55 54 4, qg 56 (.fieldAddr 54 (.tmp 6) 0) 0 3 false, qg 57 (.load 9 (.tmp 56)) 9 3 false, qg 58 (cl 30 #[.tmp 57] #[9]) 4 3 false, qg 59 (.unOp .not 4 (.tmp 58)) 4 3 false, q 60 (.pick (.tmp 55) (mI true) (.tmp 59)) 4, mA 61 60 4, qg 62 (.move (.tmp 12)) 28 9 false, qg 63 (.binOp .neq 28 (.tmp 62) (ik 0) 28) 4 9 false, q 64 (.pick (.tmp 61) (mI true) (.tmp 63)) 4, mA 65 64 4, qg 66 (.fieldAddr 120 (.tmp 11) 0) 0 13 false, qg 67 (.load 3 (.tmp 66)) 3 13 false, qg 68 (.binOp .neq 3 (.tmp 67) (ik 7) 3) 4 13 false, q 69 (.pick (.tmp 65) (mI true) (.tmp 68)) 4, mA 70 69 4, qg 71 (.fieldAddr 120 (.tmp 11) 1) 0 18 false, qg 72 (.load 3 (.tmp 71)) 3 18 false, qg 73 (.binOp .neq 3 (.tmp 72) (ik 0) 3) 4 18 false, q 74 (.pick (.tmp 70) (mI true) (.tmp 73)) 4]) (.cond (.tmp 74) (.seq (mG 17 #[q 75 (.build 54 #[]) 54, mD 54 2 75, q 3 (.assign mH) 9, q 4 (.assign (mI false)) 4]) .ret) .skip)) (.seq (mG 18 #[q 76 (.fieldAddr 120 (.tmp 11) 3) 0, mC 77 76 9, q 78 (.fieldAddr 54 (.tmp 6) 2) 0, mD 9 78 77]) (.seq (mG 19 #[mC 79 6 54, mA 80 0 9, q 81 (.fieldAddr 120 (.tmp 11) 2) 0, mC 82 81 3, q 83 (.slice 9 (.tmp 80) (some (.tmp 82)) none none) 9, q 84 (cl 56 #[.tmp 83] #[9]) 9, mD 54 2 79, mB 3 84 9, q 4 (.assign (mI true)) 4]) .ret))))))))))
def s57 := sL Tryz.f57 g57 (by kernel_rfl)
def tailAt : Nat → Code → Code
 | 0, c => c
 | n + 1, .seq _ b => tailAt n b
 | _, c => c
def headTo : Nat → Code → Code → Code
 | 0, _, t => t
 | n + 1, .seq a b, t => .seq a (headTo n b t)
 | _, c, _ => c
theorem head_tail (n : Nat) : ∀ c : Code, headTo n c (tailAt n c) = c := by
 induction n with
 | zero => intro c; rfl
 | succ n ih => intro c; cases c <;> first | rfl | simp only [headTo, tailAt, ih]
theorem sgn_ok (k : Int) (h1 : 1 ≤ k) (h4 : k ≤ 4) (prot : Nat) (H : Heap) : aLim cfg prot 58 [.int .i64 k] H = some (.str (signS k), none) := by
 have hk : k = 1 ∨ k = 2 ∨ k = 3 ∨ k = 4 := by omega
 rcases hk with rfl | rfl | rfl | rfl
 ·exact lim_shut (k := 200) (by kernel_rfl) (by kernel_rfl) (by kernel_rfl) prot H
 ·exact lim_shut (k := 200) (by kernel_rfl) (by kernel_rfl) (by kernel_rfl) prot H
 ·exact lim_shut (k := 200) (by kernel_rfl) (by kernel_rfl) (by kernel_rfl) prot H
 ·exact lim_shut (k := 200) (by kernel_rfl) (by kernel_rfl) (by kernel_rfl) prot H
def kindG : List Int → List UInt8 → Int × List UInt8
 | [], s => (0, s)
 | k :: r, s => if hasPre s (signS k) then (k, trimL (s.drop (signS k).length)) else kindG r s
theorem kindG_eq (s : List UInt8) : kindG [3, 4, 2, 1] s = kindS s := rfl
def leadV (s : List UInt8) : AV := match leadS s with
 | none => .tup [.agg [.str [], .int .i64 0, .str []], .str [], .bool false]
 | some x => .tup [.agg [.str x.1.name, .int .i64 x.1.kind, .str x.1.val], .str x.2, .bool true]
theorem textS_out : ∀ (m : Nat) (r : List UInt8), r.length ≤ m → ∀ (b : List UInt8) (n : Nat), textS r = some (b, n) → b.length ≤ n ∧ n ≤ r.length
 | m, [], _, b, n, h => by rw [textS_nil] at h; cases h
 | 0, c :: t, hm, _, _, _ => by simp at hm
 | m + 1, c :: t, hm, b, n, h => by
  simp only [List.length_cons] at hm ⊢
  by_cases h1 : c = 34
  ·subst h1
   rw [textS_end] at h
   cases h; simp
  ·by_cases h2 : c.toNat < 32
   ·rw [textS_low t h1 h2] at h; cases h
   ·by_cases h3 : c = 92
    ·subst h3
     cases he : escS t with
     | none => rw [textS_escE he] at h; cases h
     | some x =>
      obtain ⟨b1, n1⟩ := x
      rw [textS_esc he] at h
      obtain ⟨p1, p2, _⟩ := escS_pos he
      have p3 := escS_out he
      cases hx : textS (t.drop n1) with
      | none => rw [hx] at h; cases h
      | some y =>
       obtain ⟨b2, n2⟩ := y
       have := textS_out m (t.drop n1) (by simp; omega) b2 n2 hx
       rw [hx] at h
       simp only [List.length_drop] at this
       simp only [Option.map_some, Option.some.injEq, Prod.mk.injEq] at h
       obtain ⟨rfl, rfl⟩ := h
       simp only [List.length_append]
       omega
    ·by_cases h4 : (nextU ((c :: t).take 4)).2.2 = 0
     ·rw [textS_rune h1 h2 h3 h4] at h
      obtain ⟨p1, p2⟩ := nextU_pos h4
      simp only [List.length_take, List.length_cons] at p2
      cases hx : textS ((c :: t).drop (nextU ((c :: t).take 4)).2.1) with
      | none => rw [hx] at h; cases h
      | some y =>
       obtain ⟨b2, n2⟩ := y
       have := textS_out m ((c :: t).drop (nextU ((c :: t).take 4)).2.1) (by simp only [List.length_drop, List.length_cons]; omega) b2 n2 hx
       rw [hx] at h
       simp only [List.length_drop, List.length_cons] at this
       simp only [Option.map_some, Option.some.injEq, Prod.mk.injEq] at h
       obtain ⟨rfl, rfl⟩ := h
       simp only [List.length_append, List.length_take, List.length_cons]
       omega
     ·rw [textS_bad h1 h2 h3 h4] at h; cases h
theorem qtS_out {s : List UInt8} {x : List UInt8 × Nat} (h : qtS s = some x) : x.1.length ≤ s.length ∧ x.2 ≤ s.length := by
 cases s with
 | nil => cases h
 | cons c t =>
  by_cases hc : c = 34
  ·simp only [qtS, if_pos hc, Option.map_eq_some_iff] at h
   obtain ⟨y, hy, rfl⟩ := h
   have := textS_out t.length t (Nat.le_refl _) y.1 y.2 hy
   simp only [List.length_cons]
   exact ⟨by omega, by omega⟩
  ·simp only [qtS, if_neg hc] at h
   cases h
theorem tokS_bad {r : List UInt8} {e : Int} (h : tokS r = .bad e) : e ≠ 0 := by
 cases r with
 | nil => cases h; decide
 | cons c u =>
  rw [tokS] at h
  split at h
  ·cases h
  ·split at h
   ·split at h
    ·cases h; decide
    ·cases h
   ·split at h
    ·split at h
     ·cases h
     ·rename_i h1
      cases h
      exact h1
    ·split at h
     ·cases h; decide
     ·cases h
theorem tokS_seven {c : UInt8} {u : List UInt8} {t : Tk} (hc : c ≠ 34) (h : tokS (c :: u) = .tok t) : t.kind ≠ 7 := by
 rw [tokS] at h
 have hi := idxByte_le c
 split at h
 ·cases h
  show 1 + idxByte signs c ≠ 7
  unfold signs
  omega
 ·split at h
  ·split at h
   ·cases h; exact (by decide : (8 : Int) ≠ 7)
   ·cases h
  ·split at h
   ·cases h
   ·cases h
    show wordS _ ≠ 7
    unfold wordS
    split
    ·decide
    ·split
     ·decide
     ·split <;> decide
theorem tok_qt (s : List UInt8) : (∃ x, qtS s = some x ∧ nextV 0 s = .tup [.agg (tkC 7 0 (x.2 : Nat) x.1 0), .int .i64 0]) ∨
  (qtS s = none ∧ ∃ (kd fr_ to : Int) (tx : List UInt8) (n e : Int), nextV 0 s = .tup [.agg (tkC kd fr_ to tx n), .int .i64 e] ∧ (e ≠ 0 ∨ kd ≠ 7 ∨ fr_ ≠ 0)) := by
 cases s with
 | nil => exact .inr ⟨rfl, 0, 0, 0, [], 0, 6, rfl, .inl (by decide)⟩
 | cons c t =>
  by_cases hc : c = 34
  ·subst hc
   have hb : runS blankC (34 :: t) = 0 := rfl
   have hi : ¬ (0 : Int) ≤ idxByte signs 34 := by decide
   unfold nextV
   rw [hb, List.drop_zero, tokS, if_neg hi, if_pos rfl]
   simp only [qtS, if_pos]
   cases ht : textS t with
   | none => exact .inr ⟨rfl, 0, 0, 0, [], 0, 3, rfl, .inl (by decide)⟩
   | some x =>
    refine .inl ⟨_, rfl, ?_⟩
    simp [tkAt]
  ·refine .inr ⟨by simp only [qtS, if_neg hc], ?_⟩
   unfold nextV
   cases htk : tokS ((c :: t).drop (runS blankC (c :: t))) with
   | bad e => exact ⟨0, 0, 0, [], 0, e, rfl, .inl (tokS_bad htk)⟩
   | tok k =>
    refine ⟨k.kind, ((0 + runS blankC (c :: t) : Nat) : Int), _, k.text, k.n, 0, rfl, ?_⟩
    by_cases hb : runS blankC (c :: t) = 0
    ·rw [hb, List.drop_zero] at htk
     exact .inr (.inl (tokS_seven hc htk))
    ·exact .inr (.inr (by omega))
def ldT : Code := tailAt 7 g57
noncomputable def ldX (base : Nat) : Ctx := ⟨cfg, base, Tryz.f57.results.toList, .pure false⟩
def zeroL : AV := .tup [.agg [.str [], .int .i64 0, .str []], .str [], .bool false]
def tailV (name : List UInt8) (k : Int) (s : List UInt8) : AV := match qtS s with
 | none => zeroL
 | some x => if (!decide (k = 0) && nameL name) = true then .tup [.agg [.str name, .int .i64 k, .str x.1], .str (trimL (s.drop x.2)), .bool true] else zeroL
theorem lead_tail (s name : List UInt8) (k : Int) (L : Blk) (hl : s.length < 100000000000000) (hn : name.length ≤ 9223372036854775807) (H : Heap) (hg0 : hget H 0 (gver 1) = some [ET]) (fr : List AV) (hlen : fr.length = 85)
  (a0 : fget fr 0 = .str s) (a2 : fget fr 2 = .ptr H.length 0 0) (_a3 : fget fr 3 = .str []) (_a4 : fget fr 4 = .bool false) (a6 : fget fr 6 = .ptr (H.length + 1) 0 0) :
  R (ldX H.length) ldT [] fr (H ++ [Blk.cells 0 [.str [], .int .i64 0, .str []]] ++ [Blk.cells 0 [.str name, .int .i64 k, .str []]] ++ [L]) (tailV name k s, none) := by
 have hl3 : ∀ A B C : Blk, (H ++ [A] ++ [B] ++ [C]).length = H.length + 3 := fun A B C => by simp
 have nt : aLim cfg H.length 72 [.str s, .int .i64 0] (H ++ [Blk.cells 0 [.str [], .int .i64 0, .str []]] ++ [Blk.cells 0 [.str name, .int .i64 k, .str []]] ++ [L]) = some (nextV 0 (s.drop 0), none) := next_tok s hl 0 (Nat.zero_le _) H.length _ (hget_mono (hget_mono (hget_mono hg0 _) _) _) (by simp)
 rw [List.drop_zero] at nt
 have g31 : ∀ (A : Blk) Y (C D : Blk), hget (H ++ [A] ++ [Blk.cells 0 Y] ++ [C] ++ [D]) (H.length + 1) 0 = some Y := fun A Y C D => hget_mono (hget_mono (by rw [hget_new (by simp), if_pos rfl]) _) _
 have g32 : ∀ (A B C : Blk) Y, hget (H ++ [A] ++ [B] ++ [C] ++ [Blk.cells 0 Y]) (H.length + 3) 0 = some Y := fun A B C Y => by rw [hget_new (by simp), if_pos rfl]
 have g30 : ∀ Y (B C D : Blk), hget (H ++ [Blk.cells 0 Y] ++ [B] ++ [C] ++ [D]) H.length 0 = some Y := fun Y B C D => hget_mono (hget_mono (hget_mono (by rw [hget_new rfl, if_pos rfl]) _) _) _
 have hll3 : ∀ A B C D : Blk, H.length ≤ (H ++ [A] ++ [B] ++ [C] ++ [D]).length := fun A B C D => by simp
 have nn := fun A B C D => name_ok name hn H.length (H ++ [A] ++ [B] ++ [C] ++ [D]) (hll3 A B C D)
 have p1 : ∀ (A B C : Blk) (kd fr_ to : Int) (tx : List UInt8) (n : Int), Go.Abs.hput H.length (H ++ [A] ++ [B] ++ [C] ++ [Blk.cells 0 [.int .i64 0, .int .i64 0, .int .i64 0, .str [], .int .i64 0]]) (H.length + 3) 0 0 [.int .i64 kd, .int .i64 fr_, .int .i64 to, .str tx, .int .i64 n] = some (H ++ [A] ++ [B] ++ [C] ++ [Blk.cells 0 [.int .i64 kd, .int .i64 fr_, .int .i64 to, .str tx, .int .i64 n]]) := fun A B C kd fr_ to tx n => by
  rw [hput_new (by simp) (by simp) (by simp) (by simp [AV.leaf])]; rfl
 have p0 : ∀ (Y : List AV) (B C D : Blk), Y.length = 3 → ∀ x1 x2 x3 : AV, [x1, x2, x3].all AV.leaf = true → Go.Abs.hput H.length (H ++ [Blk.cells 0 Y] ++ [B] ++ [C] ++ [D]) H.length 0 0 [x1, x2, x3] = some (H ++ [Blk.cells 0 [x1, x2, x3]] ++ [B] ++ [C] ++ [D]) := fun Y B C D hY x1 x2 x3 hx => by
  rw [hput_app (by simp) [D], hput_app (by simp) [C], hput_app (by simp) [B], hput_new rfl (Nat.le_refl _) (by simp [hY]) hx]
  unfold splice
  simp [hY]
 have p0' := fun B C D => p0 [.str [], .int .i64 0, .str []] B C D rfl (.str []) (.int .i64 0) (.str []) rfl
 have p3 : ∀ (A C D : Blk) (v : List UInt8), Go.Abs.hput H.length (H ++ [A] ++ [Blk.cells 0 [.str name, .int .i64 k, .str []]] ++ [C] ++ [D]) (H.length + 1) 0 2 [.str v] = some (H ++ [A] ++ [Blk.cells 0 [.str name, .int .i64 k, .str v]] ++ [C] ++ [D]) := fun A C D v => by
  rw [hput_app (by simp) [D], hput_app (by simp) [C], hput_new (by simp) (by simp) (by simp) (by simp [AV.leaf])]; rfl
 simp only [ldX, Tryz.f57] at hlen ⊢
 unfold ldT g57
 simp only [tailAt]
 unfold tailV
 have g30' : ∀ Y (B C D : Blk), hget (H ++ [Blk.cells 0 Y, B, C, D]) H.length 0 = some Y := fun Y B C D => by have := g30 Y B C D; simpa using this
 have nb := fun (u : List UInt8) (hu : u.length < 1000000000000000000) (A B C D : Blk) => blanks_ok u hu H.length (H ++ [A] ++ [B] ++ [C] ++ [D]) (hll3 A B C D)
 have d0 : decide (¬ (0 : Int) = 0) = false := rfl
 have d7 : decide (¬ (7 : Int) = 7) = false := rfl
 rcases tok_qt s with ⟨x, hx, hv⟩ | ⟨hx, kd, fr_, to, tx, n, e, hv, hbad⟩
 ·rw [hv] at nt
  rw [hx]
  unfold tkC at nt
  obtain ⟨-, hxl⟩ := qtS_out hx
  have e1 := str_from (k := .i64) Tryz.underlying9 s hxl
  have nb := nb (s.drop x.2) (by simp; omega)
  obtain ⟨x1, x2⟩ := x
  dsimp only at nt e1 nb ⊢
  generalize s.drop x2 = u at *
  generalize trimL u = u2 at *
  by_cases hk : k = 0
  ·have dk : decide (k = 0) = true := decide_eq_true hk
   simp only [dk, Bool.not_true, Bool.false_and, Bool.false_eq_true, if_false]
   simp only [w9, simprocAttr, u57, hlen, a0, a2, a6, hl3, nt, g31, p1, p0', dk]
   exact Fin_pure (l := [.agg [.str [], .int .i64 0, .str []], .str [], .bool false]) (by simp [w9, u57, hlen, a2, g30']) (.tup (.cons (.agg (.cons (.still rfl) (.cons (.still rfl) (.cons (.still rfl) .nil)))) (.cons (.still rfl) (.cons (.still rfl) .nil)))) (by simp)
  ·have dk : decide (k = 0) = false := decide_eq_false hk
   cases hnm : nameL name with
   | false =>
    rw [hnm] at nn
    simp only [dk, Bool.not_false, Bool.and_false, Bool.false_eq_true, if_false]
    simp only [w9, simprocAttr, u57, hlen, a0, a2, a6, hl3, nt, nn, g31, p1, p0', dk]
    exact Fin_pure (l := [.agg [.str [], .int .i64 0, .str []], .str [], .bool false]) (by simp [w9, u57, hlen, a2, g30']) (.tup (.cons (.agg (.cons (.still rfl) (.cons (.still rfl) (.cons (.still rfl) .nil)))) (.cons (.still rfl) (.cons (.still rfl) .nil)))) (by simp)
   | true =>
    rw [hnm] at nn
    have p0x := fun B C D => p0 [.str [], .int .i64 0, .str []] B C D rfl (.str name) (.int .i64 k) (.str x1) rfl
    simp only [dk, Bool.not_false, Bool.and_self, if_true]
    simp only [w9, simprocAttr, u57, hlen, a0, a2, a6, hl3, nt, nn, g31, g32, p1, p3, p0x, e1, nb, dk]
    exact Fin_pure (l := [.agg [.str name, .int .i64 k, .str x1], .str u2, .bool true]) (by simp [w9, u57, hlen, a2, g30']) (.tup (.cons (.agg (.cons (.still rfl) (.cons (.still rfl) (.cons (.still rfl) .nil)))) (.cons (.still rfl) (.cons (.still rfl) .nil)))) (by simp)
 ·rw [hv] at nt
  rw [hx]
  unfold tkC at nt
  simp only
  by_cases hk : k = 0
  ·have dk : decide (k = 0) = true := decide_eq_true hk
   simp only [w9, simprocAttr, u57, hlen, a0, a2, a6, hl3, nt, g31, p1, p0', dk]
   exact Fin_pure (l := [.agg [.str [], .int .i64 0, .str []], .str [], .bool false]) (by simp [w9, u57, hlen, a2, g30']) (.tup (.cons (.agg (.cons (.still rfl) (.cons (.still rfl) (.cons (.still rfl) .nil)))) (.cons (.still rfl) (.cons (.still rfl) .nil)))) (by simp)
  ·have dk : decide (k = 0) = false := decide_eq_false hk
   cases hnm : nameL name with
   | false =>
    rw [hnm] at nn
    simp only [w9, simprocAttr, u57, hlen, a0, a2, a6, hl3, nt, nn, g31, p1, p0', dk]
    exact Fin_pure (l := [.agg [.str [], .int .i64 0, .str []], .str [], .bool false]) (by simp [w9, u57, hlen, a2, g30']) (.tup (.cons (.agg (.cons (.still rfl) (.cons (.still rfl) (.cons (.still rfl) .nil)))) (.cons (.still rfl) (.cons (.still rfl) .nil)))) (by simp)
   | true =>
    rw [hnm] at nn
    by_cases he : e = 0
    ·have de : decide (¬ e = 0) = false := decide_eq_false (by simpa using he)
     by_cases hkd : kd = 7
     ·have dd : decide (¬ kd = 7) = false := decide_eq_false (by simpa using hkd)
      have hfr : fr_ ≠ 0 := by
       rcases hbad with h | h | h
       ·exact absurd he h
       ·exact absurd hkd h
       ·exact h
      have df : decide (¬ fr_ = 0) = true := decide_eq_true hfr
      simp only [w9, simprocAttr, u57, hlen, a0, a2, a6, hl3, nt, nn, g31, g32, p1, p0', dk, de, dd, df]
      exact Fin_pure (l := [.agg [.str [], .int .i64 0, .str []], .str [], .bool false]) (by simp [w9, u57, hlen, a2, g30']) (.tup (.cons (.agg (.cons (.still rfl) (.cons (.still rfl) (.cons (.still rfl) .nil)))) (.cons (.still rfl) (.cons (.still rfl) .nil)))) (by simp)
     ·have dd : decide (¬ kd = 7) = true := decide_eq_true hkd
      simp only [w9, simprocAttr, u57, hlen, a0, a2, a6, hl3, nt, nn, g31, g32, p1, p0', dk, de, dd]
      exact Fin_pure (l := [.agg [.str [], .int .i64 0, .str []], .str [], .bool false]) (by simp [w9, u57, hlen, a2, g30']) (.tup (.cons (.agg (.cons (.still rfl) (.cons (.still rfl) (.cons (.still rfl) .nil)))) (.cons (.still rfl) (.cons (.still rfl) .nil)))) (by simp)
    ·have de : decide (¬ e = 0) = true := decide_eq_true he
     simp only [w9, simprocAttr, u57, hlen, a0, a2, a6, hl3, nt, nn, g31, p1, p0', dk, de]
     exact Fin_pure (l := [.agg [.str [], .int .i64 0, .str []], .str [], .bool false]) (by simp [w9, u57, hlen, a2, g30']) (.tup (.cons (.agg (.cons (.still rfl) (.cons (.still rfl) (.cons (.still rfl) .nil)))) (.cons (.still rfl) (.cons (.still rfl) .nil)))) (by simp)
theorem leadV_tail {s : List UInt8} (h : ¬ runS goC (trimL s) = (trimL s).length) :
  leadV s = tailV ((trimL s).take (runS goC (trimL s))) (kindS (trimL ((trimL s).drop (runS goC (trimL s))))).1 (kindS (trimL ((trimL s).drop (runS goC (trimL s))))).2 := by
 unfold leadV leadS tailV
 rw [if_neg h]
 generalize kindS (trimL ((trimL s).drop (runS goC (trimL s)))) = q
 cases qtS q.2 with
 | none => rfl
 | some x =>
  by_cases hc : (!decide (q.1 = 0) && nameL ((trimL s).take (runS goC (trimL s)))) = true
  ·simp only [if_pos hc]
  ·simp only [if_neg hc]
   rfl
def l4C : List AV := [.int .i64 3, .int .i64 4, .int .i64 2, .int .i64 1]
theorem litK4 (K : Heap) : aBuildSlice Tryz.prog K 145 4 [(0, .int .i64 3), (1, .int .i64 4), (2, .int .i64 2), (3, .int .i64 1)] = some (.bs ⟨K.length, 0, 0, 4, 4, 1, false, true⟩, some (K ++ [Blk.cells 0 l4C])) := by
 simp [aBuildSlice, se145, sz3, ag3, ze3, AV.cells, fillA, zrep, splice, litOk, AV.scal, AV.leaf, l4C, List.range_succ]
theorem mlead_ok (s : List UInt8) (hl : s.length < 100000000) (prot : Nat) (H : Heap) (hg0 : hget H 0 (gver 1) = some [ET]) (hp : prot ≤ H.length) : aLim cfg prot 57 [.str s] H = some (leadV s, none) := by
 have hl1 : ∀ A : Blk, (H ++ [A]).length = H.length + 1 := fun A => by simp
 have hK1 : ∀ A : Blk, H.length ≤ (H ++ [A]).length := fun A => by simp
 have hK2 : ∀ A B : Blk, H.length ≤ (H ++ [A] ++ [B]).length := fun A B => by simp
 have n1 := fun A : Blk => blanks_ok s (by omega) H.length (H ++ [A]) (hK1 A)
 have htl := trimL_len s
 have n2 : ∀ A : Blk, aLim cfg H.length 90 [.str (trimL s), .str [61, 33, 32, 9]] (H ++ [A]) = some (.int .i64 (iaS (trimL s)), none) := fun A => ia_ok (trimL s) (by omega) H.length (H ++ [A]) (hK1 A)
 have g30' : ∀ Y, hget (H ++ [Blk.cells 0 Y]) H.length 0 = some Y := fun Y => by rw [hget_new rfl, if_pos rfl]
 refine pure_slim (by kernel_rfl) (by kernel_rfl) Tryz.func57 s57 hp rfl (by simp [Tryz.f57]) fun fr hlen h => ?_
 simp only [Has] at h
 obtain ⟨a0, -⟩ := h
 rw [← head_tail 7 g57]
 change R (ldX H.length) (headTo 7 g57 ldT) [] fr H _
 simp only [ldX, Tryz.f57] at hlen ⊢
 unfold g57
 simp only [headTo]
 by_cases hne : runS goC (trimL s) = (trimL s).length
 ·have hi : iaS (trimL s) = -1 := by unfold iaS; rw [if_pos hne]
  have hv : leadV s = zeroL := by
   unfold leadV leadS
   rw [if_pos hne]; rfl
  rw [hv]
  have d1 : decide ((-1 : Int) < 0) = true := rfl
  rw [hi] at n2
  have p0 : Go.Abs.hput H.length (H ++ [Blk.cells 0 [.str [], .int .i64 0, .str []]]) H.length 0 0 [.str [], .int .i64 0, .str []] = some (H ++ [Blk.cells 0 [.str [], .int .i64 0, .str []]]) := by
   rw [hput_new rfl (Nat.le_refl _) (by simp) rfl]; rfl
  simp only [w9, simprocAttr, u57, hlen, a0, n1, n2, p0]
  exact Fin_pure (l := [.agg [.str [], .int .i64 0, .str []], .str [], .bool false]) (by simp [w9, u57, hlen, g30']) (.tup (.cons (.agg (.cons (.still rfl) (.cons (.still rfl) (.cons (.still rfl) .nil)))) (.cons (.still rfl) (.cons (.still rfl) .nil)))) (by simp)
 ·have hrl := runS_le goC (trimL s)
  have hi : iaS (trimL s) = (runS goC (trimL s) : Nat) := by unfold iaS; rw [if_neg hne]
  rw [hi] at n2
  rw [leadV_tail hne, ← kindG_eq]
  have d1 : decide (((runS goC (trimL s) : Nat) : Int) < 0) = false := decide_eq_false (by omega)
  have e1 := str_upto (k := .i64) Tryz.underlying9 (trimL s) (b := runS goC (trimL s)) hrl
  have e2 := str_from (k := .i64) Tryz.underlying9 (trimL s) (a := runS goC (trimL s)) hrl
  have hnm : ((trimL s).take (runS goC (trimL s))).length ≤ 9223372036854775807 := by rw [List.length_take]; omega
  have hrs : ((trimL s).drop (runS goC (trimL s))).length < 100000000 := by rw [List.length_drop]; omega
  generalize (trimL s).take (runS goC (trimL s)) = name at *
  generalize (trimL s).drop (runS goC (trimL s)) = rest at *
  have hrl2 := trimL_len rest
  have n3 := fun A B : Blk => blanks_ok rest (by omega) H.length (H ++ [A] ++ [B]) (hK2 A B)
  generalize trimL rest = s2 at *
  generalize runS goC (trimL s) = k at *
  generalize trimL s = s1 at *
  have lk := litK4
  have hlk : ∀ (K : Heap) (b : Nat), aLen Tryz.prog K 145 (.bs ⟨b, 0, 0, 4, 4, 1, false, true⟩) = some (.int .i64 4) := fun K b => by simp [aLen, Tryz.underlying145]
  have hl2 : ∀ A B : Blk, (H ++ [A] ++ [B]).length = H.length + 2 := fun A B => by simp
  have hK3 : ∀ A B C : Blk, H.length ≤ (H ++ [A] ++ [B] ++ [C]).length := fun A B C => by simp
  have p1 : ∀ A : Blk, Go.Abs.hput H.length (H ++ [A] ++ [Blk.cells 0 [.str [], .int .i64 0, .str []]]) (H.length + 1) 0 0 [.str name, .int .i64 0, .str []] = some (H ++ [A] ++ [Blk.cells 0 [.str name, .int .i64 0, .str []]]) := fun A => by
   rw [hput_new (by simp) (by simp) (by simp) rfl]; rfl
  simp only [w9, simprocAttr, u57, hlen, a0, n1, n2, d1, e1, e2, p1, hl1, n3, lk, hl2, hlk]
  refine loop_rule (fun m fr K => ∃ i : Nat, m = 4 - i ∧ i ≤ 4 ∧ fr.length = 85 ∧ fget fr 0 = .str s2 ∧ fget fr 2 = .ptr H.length 0 0 ∧ fget fr 3 = .str [] ∧ fget fr 4 = .bool false ∧ fget fr 6 = .ptr (H.length + 1) 0 0 ∧ fget fr 28 = .bs ⟨H.length + 2, 0, 0, 4, 4, 1, false, true⟩ ∧ fget fr 29 = .int .i64 4 ∧ fget fr 30 = .int .i64 i
   ∧ K = H ++ [Blk.cells 0 [.str [], .int .i64 0, .str []]] ++ [Blk.cells 0 [.str name, .int .i64 0, .str []]] ++ [Blk.cells 0 l4C] ∧ kindG [3, 4, 2, 1] s2 = kindG (([3, 4, 2, 1] : List Int).drop i) s2) ?_ 4 _ _ ⟨0, by simp [w9, hlen]⟩
  rintro m fr K ⟨i, rfl, hi4, hlen, a0, a2, a3, a4, a6, a28, a29, a30, rfl, hkg⟩ ih
  by_cases hi : i = 4
  ·subst hi
   have a30 : fget fr 30 = .int .i64 4 := a30
   have hkg : kindG [3, 4, 2, 1] s2 = (0, s2) := hkg
   rw [hkg]
   simp only [w9, simprocAttr, hlen, a29, a30]
   exact lead_tail s2 name 0 _ (by omega) hnm H hg0 _ (by simp [w9, hlen]) (by simp [w9, a0]) (by simp [w9, a2]) (by simp [w9, a3]) (by simp [w9, a4]) (by simp [w9, a6])
  ·have d2 : decide ((i : Int) < 4) = true := decide_eq_true (by omega)
   have hlt : i < ([3, 4, 2, 1] : List Int).length := by simp; omega
   have ea : aIndexAddr Tryz.prog 145 (.bs ⟨H.length + 2, 0, 0, 4, 4, 1, false, true⟩) (.int .i64 i) = some (.ptr (H.length + 2) 0 i) := by
    have : i < 4 := by omega
    simp [aIndexAddr, asNat, Tryz.underlying145, sz3, this]
   have gl : hget (H ++ [Blk.cells 0 [.str [], .int .i64 0, .str []]] ++ [Blk.cells 0 [.str name, .int .i64 0, .str []]] ++ [Blk.cells 0 l4C]) (H.length + 2) 0 = some l4C := by rw [hget_new (by simp), if_pos rfl]
   have ga : l4C[i]? = some (.int .i64 ([3, 4, 2, 1] : List Int)[i]) := by
    have e : l4C = ([3, 4, 2, 1] : List Int).map (AV.int .i64) := rfl
    rw [e, List.getElem?_map, List.getElem?_eq_getElem hlt]; rfl
   have hd : ([3, 4, 2, 1] : List Int).drop i = ([3, 4, 2, 1] : List Int)[i] :: ([3, 4, 2, 1] : List Int).drop (i + 1) := List.drop_eq_getElem_cons hlt
   have hrange : ∀ q ∈ ([3, 4, 2, 1] : List Int), 1 ≤ q ∧ q ≤ 4 := by decide
   obtain ⟨hq1, hq4⟩ := hrange _ (List.getElem_mem hlt)
   have hww : IntKind.i64.wrap ((i : Int) + 1) = ((i + 1 : Nat) : Int) := by rw [wrap64 (by omega) (by omega)]; simp
   rw [hd] at hkg
   have hkg : kindG [3, 4, 2, 1] s2 = if hasPre s2 (signS ([3, 4, 2, 1] : List Int)[i]) then (([3, 4, 2, 1] : List Int)[i], trimL (s2.drop (signS ([3, 4, 2, 1] : List Int)[i]).length)) else kindG (([3, 4, 2, 1] : List Int).drop (i + 1)) s2 := hkg
   generalize ([3, 4, 2, 1] : List Int)[i] = q at *
   have n4 := fun K : Heap => sgn_ok q hq1 hq4 H.length K
   have n5 := cutPre_ok s2 (signS q) H.length (H ++ [Blk.cells 0 [.str [], .int .i64 0, .str []]] ++ [Blk.cells 0 [.str name, .int .i64 0, .str []]] ++ [Blk.cells 0 l4C]) (hK3 _ _ _)
   have p2 : Go.Abs.hput H.length (H ++ [Blk.cells 0 [.str [], .int .i64 0, .str []]] ++ [Blk.cells 0 [.str name, .int .i64 0, .str []]] ++ [Blk.cells 0 l4C]) (H.length + 1) 0 1 [.int .i64 q] = some (H ++ [Blk.cells 0 [.str [], .int .i64 0, .str []]] ++ [Blk.cells 0 [.str name, .int .i64 q, .str []]] ++ [Blk.cells 0 l4C]) := by
    rw [hput_app (by simp) [Blk.cells 0 l4C], hput_new (by simp) (by simp) (by simp) rfl]; rfl
   cases hpre : hasPre s2 (signS q) with
   | true =>
    rw [hpre] at n5 hkg
    simp only [if_true] at n5 hkg
    rw [hkg]
    have hdl : (s2.drop (signS q).length).length ≤ s2.length := by simp
    generalize s2.drop (signS q).length = s3 at *
    have hdl2 := trimL_len s3
    have n6 := fun A B C : Blk => blanks_ok s3 (by omega) H.length (H ++ [A] ++ [B] ++ [C]) (hK3 A B C)
    generalize trimL s3 = s4 at *
    simp only [w9, simprocAttr, u57, hlen, a0, a6, a28, a29, a30, d2, ea, gl, ga, n4, n5, p2, n6]
    exact lead_tail s4 name q _ (by omega) hnm H hg0 _ (by simp [w9, hlen]) (by simp [w9, hlen]) (by simp [w9, a2]) (by simp [w9, a3]) (by simp [w9, a4]) (by simp [w9, a6])
   | false =>
    rw [hpre] at n5 hkg
    simp only [Bool.false_eq_true, if_false] at n5 hkg
    simp only [w9, simprocAttr, u57, hlen, a0, a28, a29, a30, d2, ea, gl, ga, n4, n5, hww]
    refine ih _ _ (4 - (i + 1)) (by omega) ⟨i + 1, rfl, by omega, by simp [w9, hlen], by simp [w9, a0], by simp [w9, a2], by simp [w9, a3], by simp [w9, a4], by simp [w9, a6], by simp [w9, a28], by simp [w9, a29], ?_, rfl, hkg⟩
    simp [w9, hlen]
open Go Go.Abs AbsSeat Ty
open Go Go.Abs AbsSeat Ty
def u206 := an (fun (K : Heap) (n : Int) => conv_int Tryz.underlying126 Tryz.underlying3 K n) (an ag3 (an sz3 (an by3 (an ze3 (an Tryz.underlying3 (an ag9 (an sz9 (an by9 (an ze9 (an Tryz.underlying9 (an ag110 (an sz110 (an by110 (an ze110 (an Tryz.underlying110 (an ag126 (an sz126 (an by126 (an ze126 Tryz.underlying126)))))))))))))))))))
def g206 : Code := .seq (mG 0 #[q 2 (.assign (ik 0)) 3, q 3 (.assign (ik 0)) 28]) (.seq (.seq (mG 1 #[mA 6 0 9, mF 7 .eql 9 6 mH 9 4, mA 8 7 4, qg 9 (.move (.tmp 0)) 9 2 false, qg 10 (cl 63 #[.tmp 9, .func 62] #[9, 110]) 4 2 false, qg 11 (.unOp .not 4 (.tmp 10)) 4 2 false, q 12 (.pick (.tmp 8) (mI true) (.tmp 11)) 4]) (.cond (.tmp 12) (.seq (mG 2 #[q 2 (.assign (ik 0)) 3, q 3 (.assign (ik 3)) 28]) .ret) .skip)) (.seq (mG 3 #[mA 14 0 9, q 15 (cl 85 #[.tmp 14, .const (.int .u64 2147483647)] #[9, 126]) 138, mA 13 15 138, mE 16 13 0 126, mE 17 13 1 28, mB 4 16 126, mB 5 17 28]) (.seq (mG 4 #[mA 18 4 126, q 19 (.convert 126 3 (.tmp 18)) 3, mA 20 5 28, mB 2 19 3, mB 3 20 28]) .ret)))
def s206 := sL Tryz.f206 g206 (by kernel_rfl)
def sizeU (s : List UInt8) : Int × Int := if s = [] ∨ (s.all fun c => digitC c.toNat) = false then (0, 3) else match digGo 2147483647 0 s with
 | some v => ((v : Nat), 0)
 | none => (0, 5)
theorem size_ok (s : List UInt8) (hl : s.length ≤ 9223372036854775807) (prot : Nat) (H : Heap) (hp : prot ≤ H.length) : aLim cfg prot 206 [.str s] H = some (.tup [.int .i64 (sizeU s).1, .int .i64 (sizeU s).2], none) := by
 have hfz : ∀ (K : Heap) (x y : AV), still x = true → still y = true → Frz K H.length (packR [x, y]) (.tup [x, y]) := fun K x y h1 h2 => .tup (.cons (.still h1) (.cons (.still h2) .nil))
 have n1 := allF_ok 62 digitC (fun c prot H hp => digit_ok _ prot H hp) s hl H.length H (Nat.le_refl _)
 unfold sizeU
 refine pure_slim rfl (by kernel_rfl) Tryz.func206 s206 hp rfl (by simp [Tryz.f206]) fun fr hlen h => ?_
 simp only [Has] at h
 obtain ⟨a0, -⟩ := h
 simp only [Tryz.f206] at hlen ⊢
 unfold g206
 by_cases h0 : s = []
 ·subst h0
  simp only [true_or, if_true]
  simp only [w9, simprocAttr, hlen, a0, str_eql]
  exact Fin_pure (l := [.int .i64 0, .int .i64 3]) (by simp [w9, hlen]) (hfz _ _ _ rfl rfl) (by simp)
 ·have e0 : (s == []) = false := by cases s with
   | nil => exact absurd rfl h0
   | cons => rfl
  cases ha : s.all fun c => digitC c.toNat with
  | false =>
   rw [ha] at n1
   simp only [h0, false_or, if_true]
   simp only [w9, simprocAttr, hlen, a0, str_eql, e0, n1]
   exact Fin_pure (l := [.int .i64 0, .int .i64 3]) (by simp [w9, hlen]) (hfz _ _ _ rfl rfl) (by simp)
  | true =>
   rw [ha] at n1
   have hs := List.all_eq_true.1 ha
   have n2 : aLim cfg H.length 85 [.str s, .int .u64 2147483647] H = some (dig2 (digGo 2147483647 0 s), none) := digits_ok s 2147483647 hs (by omega) (by omega) hl H.length H (Nat.le_refl _)
   simp only [h0, false_or, Bool.true_eq_false, if_false]
   cases hd : digGo 2147483647 0 s with
   | none =>
    rw [hd] at n2
    unfold dig2 at n2
    have w0 : IntKind.i64.wrap (0 : Int) = 0 := by decide
    simp only [w9, simprocAttr, u206, hlen, a0, str_eql, e0, n1, n2, w0]
    exact Fin_pure (l := [.int .i64 0, .int .i64 5]) (by simp [w9, hlen]) (hfz _ _ _ rfl rfl) (by simp)
   | some v =>
    rw [hd] at n2
    unfold dig2 at n2
    have hle := digGo_le 2147483647 s 0 v (by omega) (by omega) hs hd
    have w0 : IntKind.i64.wrap ((v : Nat) : Int) = (v : Int) := wrap64 (by omega) (by omega)
    simp only [w9, simprocAttr, u206, hlen, a0, str_eql, e0, n1, n2, w0]
    exact Fin_pure (l := [.int .i64 v, .int .i64 0]) (by simp [w9, hlen]) (hfz _ _ _ rfl rfl) (by simp)
end Go.Proofs.YtnipaiklandliaaGreatDoor
