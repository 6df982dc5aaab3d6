import Derived.Test.YtimbhlbkidmplaaDoorAbsTy
import Derived.Test.YtimbhlbkidmplaaDoorAbsMore
/-! Chapter 6: values, as trees; how deep one is; those that are made, walked. -/
set_option linter.unusedSimpArgs false
namespace Go.Proofs.YtimbhlbkidmplaaDoor
open Go Go.Abs AbsSeat Ty
theorem none_beq (b : Bool) : ((none : Option Bool) == some b) = false := by cases b <;> rfl
theorem cfgP : cfg.P = Tryd.prog := rfl

theorem i54 : ((5 : Int) = 4) = False := by simp
/-- a row as it came or was made: nil, full, or with room. -/
def tg : Nat → List AV → AV
  | 0, [] => .nilS
  | 1, es => .vs es true
  | _, es => .vs es false
theorem tg_sl {α : Type} (enc : α → AV) (t : Nat) (l : List α) : Sl enc (tg t (l.map enc)) l := by
  cases l with
  | nil =>
    match t with
    | 0 => exact .nil
    | 1 => exact .vs [] true
    | t + 2 => exact .vs [] false
  | cons x r =>
    match t with
    | 0 => exact .vs (x :: r) false
    | 1 => exact .vs (x :: r) true
    | t + 2 => exact .vs (x :: r) false
theorem tg_still (t : Nat) (l : List AV) : still (tg t l) = true := by
  cases l <;> match t with
    | 0 => rfl
    | 1 => rfl
    | t + 2 => rfl
theorem tg_leaf (t : Nat) (l : List AV) : (tg t l).leaf = true := by
  cases l <;> match t with
    | 0 => rfl
    | 1 => rfl
    | t + 2 => rfl
theorem tg_pl (t : Nat) (l : List AV) (h : AV.plL l = true) : AV.pl (tg t l) = true := by
  cases l with
  | nil => match t with
    | 0 => rfl
    | 1 => rfl
    | t + 2 => rfl
  | cons x l => match t with
    | 0 => exact h
    | 1 => exact h
    | t + 2 => exact h
theorem tg_cells (t : Nat) (l : List AV) : (tg t l).cells = [tg t l] := by
  cases l <;> match t with
    | 0 => rfl
    | 1 => rfl
    | t + 2 => rfl
theorem slv_tg {α : Type} (enc : α → AV) (l : List α) : slv enc l = tg 0 (l.map enc) := by cases l <;> rfl

/-- a value. -/
inductive JV where
  | mk (kind : Int) (is : Bool) (n : Int) (text : List UInt8) (tag : Nat) (items : List JV) (ktag : Nat) (keys : List (List UInt8))
namespace JV
def kind : JV → Int | mk k _ _ _ _ _ _ _ => k
def is : JV → Bool | mk _ i _ _ _ _ _ _ => i
def n : JV → Int | mk _ _ n _ _ _ _ _ => n
def text : JV → List UInt8 | mk _ _ _ t _ _ _ _ => t
def tag : JV → Nat | mk _ _ _ _ t _ _ _ => t
def items : JV → List JV | mk _ _ _ _ _ l _ _ => l
def ktag : JV → Nat | mk _ _ _ _ _ _ t _ => t
def keys : JV → List (List UInt8) | mk _ _ _ _ _ _ _ l => l
end JV
mutual
def encJ : JV → AV
  | .mk k i n t tag l kt ks => .agg [.int .i64 k, .bool i, .int .i64 n, .str t, tg tag (encJs l), tg kt (ks.map .str)]
def encJs : List JV → List AV
  | [] => []
  | x :: r => encJ x :: encJs r
end
theorem encJs_map : ∀ (l : List JV), encJs l = l.map encJ
  | [] => rfl
  | x :: r => by rw [encJs, List.map_cons, encJs_map r]
theorem encJ_mk (k : Int) (i : Bool) (n : Int) (t : List UInt8) (tag : Nat) (l : List JV) (kt : Nat) (ks : List (List UInt8)) : encJ (.mk k i n t tag l kt ks) = .agg [.int .i64 k, .bool i, .int .i64 n, .str t, tg tag (l.map encJ), tg kt (ks.map .str)] := by rw [encJ, encJs_map]
def JV.iv (x : JV) : AV := tg x.tag (x.items.map encJ)
def JV.kv (x : JV) : AV := tg x.ktag (x.keys.map .str)
theorem encJ_eq (x : JV) : encJ x = .agg [.int .i64 x.kind, .bool x.is, .int .i64 x.n, .str x.text, x.iv, x.kv] := by
  cases x; rw [encJ, encJs_map]; rfl
mutual
theorem encJ_pl : ∀ (x : JV), AV.pl (encJ x) = true
  | .mk k i n t tag l kt ks => by
    rw [encJ]
    have h1 := encJs_pl l
    have h2 : AV.plL (ks.map .str) = true := by
      induction ks with
      | nil => rfl
      | cons a r ih => simp only [List.map_cons, AV.plL, AV.pl, Bool.true_and]; exact ih
    simp only [AV.pl, AV.plL, Bool.true_and, Bool.and_true, tg_pl _ _ h1, tg_pl _ _ h2]
theorem encJs_pl : ∀ (l : List JV), AV.plL (encJs l) = true
  | [] => rfl
  | x :: r => by simp only [encJs, AV.plL, encJ_pl x, encJs_pl r, Bool.and_self]
end
theorem JV.iv_sl (x : JV) : Sl encJ x.iv x.items := tg_sl encJ _ _
theorem JV.kv_sl (x : JV) : Sl AV.str x.kv x.keys := tg_sl AV.str _ _
theorem JV.iv_leaf (x : JV) : x.iv.leaf = true := tg_leaf _ _
theorem JV.kv_leaf (x : JV) : x.kv.leaf = true := tg_leaf _ _
theorem JV.iv_cells (x : JV) : x.iv.cells = [x.iv] := tg_cells _ _
theorem JV.kv_cells (x : JV) : x.kv.cells = [x.kv] := tg_cells _ _
theorem encJ_len (x : JV) : (encJ x).cells.length = 6 := by rw [encJ_eq]; rfl
theorem encJ_T : EncT encJ 6 true where
  len := encJ_len
  leaf x c hc := by
    rw [encJ_eq] at hc
    simp only [AV.cells, List.mem_cons, List.not_mem_nil, or_false] at hc
    rcases hc with rfl | rfl | rfl | rfl | rfl | rfl <;> first | rfl | exact x.iv_leaf | exact x.kv_leaf
  still x c hc := by
    rw [encJ_eq] at hc
    simp only [AV.cells, List.mem_cons, List.not_mem_nil, or_false] at hc
    rcases hc with rfl | rfl | rfl | rfl | rfl | rfl <;> first | rfl | exact tg_still _ _
  shape x := by rw [encJ_eq]; rfl
theorem encJ_still (x : JV) {H : Heap} {base : Nat} : Frz H base (encJ x) (encJ x) := by
  have h := encJ_T.shape x
  simp only [if_true] at h
  rw [h]
  exact .agg (.still fun c hc => encJ_T.still x c (by rw [h] at hc; exact hc))
theorem encJ_snap (x : JV) (H : Heap) (l : List AV) : snap H (encJ x :: l) = (snap H l).map fun (l, b) => (encJ x :: l, b) := by rw [encJ_eq]; rfl

mutual
def depthJ : JV → Nat
  | .mk k _ _ _ _ l _ _ => if k ≠ 4 ∧ k ≠ 5 then 0 else depthJs l + 1
def depthJs : List JV → Nat
  | [] => 0
  | x :: r => max (depthJ x) (depthJs r)
end
theorem depthJ_eq (x : JV) : depthJ x = if x.kind ≠ 4 ∧ x.kind ≠ 5 then 0 else depthJs x.items + 1 := by cases x; rw [depthJ]; rfl
theorem depthJs_mem {x : JV} : ∀ {l : List JV}, x ∈ l → depthJ x ≤ depthJs l
  | y :: r, h => by
    rw [depthJs]
    rcases List.mem_cons.1 h with rfl | h
    · omega
    · have := depthJs_mem h; omega
theorem depthJs_append : ∀ (a b : List JV), depthJs (a ++ b) = max (depthJs a) (depthJs b)
  | [], b => by simp [depthJs]
  | x :: a, b => by simp only [List.cons_append, depthJs, depthJs_append a b]; omega
theorem size_mem {x : JV} : ∀ {y : JV}, x ∈ y.items → SizeOf.sizeOf x < SizeOf.sizeOf y := by
  intro y h
  cases y with
  | mk k i n t tag l kt ks =>
    have := List.sizeOf_lt_of_mem h
    simp only [JV.items] at this
    simp only [JV.mk.sizeOf_spec]
    omega
/-- rows that are not too long. -/
inductive Fit (m : Nat) : JV → Prop where
  | mk (x : JV) (h1 : x.items.length ≤ m) (h2 : x.keys.length ≤ m) (h3 : ∀ y ∈ x.items, Fit m y) : Fit m x
theorem Fit.items {m : Nat} {x : JV} (h : Fit m x) : x.items.length ≤ m := by cases h; assumption
theorem Fit.keys {m : Nat} {x : JV} (h : Fit m x) : x.keys.length ≤ m := by cases h; assumption
theorem Fit.mem {m : Nat} {x y : JV} (h : Fit m x) (hy : y ∈ x.items) : Fit m y := by cases h with | mk _ _ _ h3 => exact h3 y hy

theorem u8 : type_of% (And.intro (show tagT Tryd.prog 25 = 0 from by kernel_rfl) (And.intro (fun (xo yo : Operand) (s : BS) => bs_nil_eq (xo := xo) (yo := yo) Tryd.underlying22 s) (And.intro (fun (xo yo : Operand) (es : List AV) (f : Bool) => vs_nil_eq (xo := xo) (yo := yo) Tryd.underlying22 es f) (And.intro (fun (xo yo : Operand)  => nilS_nilS_eq (xo := xo) (yo := yo) Tryd.underlying22 ) (And.intro ag0 (And.intro sz0 (And.intro by0 (And.intro Tryd.underlying0 (And.intro ag3 (And.intro sz3 (And.intro by3 (And.intro ze3 (And.intro Tryd.underlying3 (And.intro ag22 (And.intro sz22 (And.intro by22 (And.intro se22 (And.intro ze22 (And.intro Tryd.underlying22 (And.intro ag25 (And.intro sz25 (And.intro by25 (And.intro ze25 (And.intro bu25 (And.intro Tryd.underlying25 (And.intro fa25_0 (And.intro fd25_0 (And.intro fa25_4 fd25_4)))))))))))))))))))))))))))) := And.intro (show tagT Tryd.prog 25 = 0 from by kernel_rfl) (And.intro (fun (xo yo : Operand) (s : BS) => bs_nil_eq (xo := xo) (yo := yo) Tryd.underlying22 s) (And.intro (fun (xo yo : Operand) (es : List AV) (f : Bool) => vs_nil_eq (xo := xo) (yo := yo) Tryd.underlying22 es f) (And.intro (fun (xo yo : Operand)  => nilS_nilS_eq (xo := xo) (yo := yo) Tryd.underlying22 ) (And.intro ag0 (And.intro sz0 (And.intro by0 (And.intro Tryd.underlying0 (And.intro ag3 (And.intro sz3 (And.intro by3 (And.intro ze3 (And.intro Tryd.underlying3 (And.intro ag22 (And.intro sz22 (And.intro by22 (And.intro se22 (And.intro ze22 (And.intro Tryd.underlying22 (And.intro ag25 (And.intro sz25 (And.intro by25 (And.intro ze25 (And.intro bu25 (And.intro Tryd.underlying25 (And.intro fa25_0 (And.intro fd25_0 (And.intro fa25_4 fd25_4)))))))))))))))))))))))))))
def g8 : Code :=
  .seq (.region 0 #[q 2 (.alloc 25) 0] false) (.seq (.region 1 #[q 3 (.move (.tmp 0)) 9, q 4 (.build 25 #[(0, ik 3), (3, .tmp 3)]) 25, qn (.store 25 (.tmp 2) (.tmp 4)) 0] false) .ret)
theorem s8 : Tryd.f8.body.map (slim cfg) = some g8 := by kernel_rfl
def g9 : Code :=
  .seq (.region 0 #[q 2 (.alloc 25) 0] false) (.seq (.region 1 #[q 3 (.move (.tmp 0)) 2, q 4 (.build 25 #[(0, ik 2), (2, .tmp 3)]) 25, qn (.store 25 (.tmp 2) (.tmp 4)) 0] false) .ret)
theorem s9 : Tryd.f9.body.map (slim cfg) = some g9 := by kernel_rfl
def g10 : Code :=
  .seq (.region 0 #[q 2 (.alloc 25) 0] false) (.seq (.region 1 #[q 3 (.move (.tmp 0)) 4, q 4 (.build 25 #[(0, ik 1), (1, .tmp 3)]) 25, qn (.store 25 (.tmp 2) (.tmp 4)) 0] false) .ret)
theorem s10 : Tryd.f10.body.map (slim cfg) = some g10 := by kernel_rfl
def g7 : Code :=
  .seq (.region 0 #[q 2 (.alloc 25) 0] false) (.seq (.region 1 #[q 3 (.move (.tmp 0)) 22, q 4 (cl 20 #[.tmp 3] #[22]) 22, q 5 (.build 25 #[(0, ik 4), (4, .tmp 4)]) 25, qn (.store 25 (.tmp 2) (.tmp 5)) 0] false) .ret)
theorem s7 : Tryd.f7.body.map (slim cfg) = some g7 := by kernel_rfl
def g11 : Code :=
  .seq (.region 0 #[q 1 (.box 25 (.tmp 0)) 0, q 2 (.assign (ik 0)) 3] false) (.seq (.seq (.region 1 #[q 6 (.fieldAddr 25 (.tmp 1) 0) 0, q 7 (.load 3 (.tmp 6)) 3, q 8 (.binOp .neq 3 (.tmp 7) (ik 4) 3) 4, q 9 (.move (.tmp 8)) 4, qg 10 (.fieldAddr 25 (.tmp 1) 0) 0 3 true, qg 11 (.load 3 (.tmp 10)) 3 3 true, qg 12 (.binOp .neq 3 (.tmp 11) (ik 5) 3) 4 3 true, q 13 (.pick (.tmp 9) (.tmp 12) (.const (.bool false))) 4] false) (.cond (.tmp 13) (.seq (.region 2 #[q 2 (.assign (ik 0)) 3] false) .ret) .skip)) (.seq (.region 3 #[q 3 (.assign (ik 0)) 3] false) (.seq (.seq (.region 4 #[q 14 (.fieldAddr 25 (.tmp 1) 4) 0, q 15 (.load 22 (.tmp 14)) 22, q 16 (bi .len #[.tmp 15] #[22]) 3, q 17 (.move (ik 0)) 3] false) (.block 0 (.loop (.seq (.region 5 #[q 18 (.binOp .lss 3 (.tmp 17) (.tmp 16) 3) 0] false) (.seq (.cond (.tmp 18) .skip (.exit 0)) (.seq (.block 1 (.seq (.region 6 #[q 19 (.indexAddr 22 (.tmp 15) (.tmp 17)) 0, q 20 (.load 25 (.tmp 19)) 25, q 5 (.alloc 25) 0, qn (.store 25 (.tmp 5) (.tmp 20)) 0] false) (.region 7 #[q 21 (.move (.tmp 3)) 3, q 22 (.load 25 (.tmp 5)) 25, q 23 (cl 11 #[.tmp 22] #[25]) 3, q 24 (bi .max #[.tmp 21, .tmp 23] #[3, 3]) 3, q 3 (.assign (.tmp 24)) 3] false))) (.region 8 #[q 25 (.binOp .add 3 (.tmp 17) (ik 1) 3) 3, q 17 (.move (.tmp 25)) 3] false))))))) (.seq (.region 9 #[q 26 (.move (.tmp 3)) 3, q 27 (.binOp .add 3 (.tmp 26) (ik 1) 3) 3, q 2 (.assign (.tmp 27)) 3] false) .ret))))
theorem s11 : Tryd.f11.body.map (slim cfg) = some g11 := by kernel_rfl
def g20 : Code :=
  .seq (.region 0 #[q 2 (.assign (.const (.slice none 0 0))) 22] false) (.seq (.seq (.region 1 #[q 3 (.move (.tmp 0)) 22, q 4 (.binOp .eql 22 (.tmp 3) (.const (.slice none 0 0)) 22) 4] false) (.cond (.tmp 4) (.seq (.region 2 #[q 2 (.assign (.const (.slice none 0 0))) 22] false) .ret) .skip)) (.seq (.region 3 #[q 5 (.buildSlice 22 0 #[]) 22, q 6 (.move (.tmp 0)) 22, q 7 (bi .append #[.tmp 5, .tmp 6] #[22, 22]) 22, q 2 (.assign (.tmp 7)) 22] false) .ret))
theorem s20 : Tryd.f20.body.map (slim cfg) = some g20 := by kernel_rfl


theorem depth_ok : ∀ (x : JV), Fit 1000000000000 x → depthJ x < 1000000000000 → ∀ (prot : Nat) (H : Heap), prot ≤ H.length → aLim cfg prot 11 [encJ x] H = some (.int .i64 (depthJ x : Nat), none) := by
  intro x
  induction hn : SizeOf.sizeOf x using Nat.strongRecOn generalizing x with
  | _ k IH =>
  subst hn
  intro hfit hdep prot H hp
  have hsnap : snap H [encJ x] = some ([encJ x], false) := by rw [encJ_snap]; rfl
  have hfi := hfit.items
  rw [depthJ_eq] at hdep ⊢
  refine pure_slim rfl (by kernel_rfl) Tryd.func11 s11 hp hsnap (by simp [Tryd.f11]) fun fr hlen h => ?_
  simp only [Has, Nat.zero_add] at h
  obtain ⟨a0, -⟩ := h
  simp only [Tryd.f11] at hlen ⊢
  unfold g11
  rw [encJ_eq] at a0
  have hlf : x.iv.leaf = true := x.iv_leaf
  have hlf2 : x.kv.leaf = true := x.kv_leaf
  unfold AV.leaf at hlf hlf2
  by_cases h4 : x.kind = 4 ∨ x.kind = 5
  · have hk : ¬ (x.kind ≠ 4 ∧ x.kind ≠ 5) := by omega
    rw [if_neg hk] at hdep ⊢
    have hw : ∀ i : Nat, i < x.items.length → IntKind.i64.wrap ((i : Int) + 1) = ((i + 1 : Nat) : Int) := fun i hi => by rw [wrap64 (by omega) (by omega)]; simp
    have hw2 : IntKind.i64.wrap ((depthJs x.items : Nat) + 1 : Int) = ((depthJs x.items + 1 : Nat) : Int) := by rw [wrap64 (by omega) (by omega)]; simp
    rcases h4 with h4 | h4
    all_goals
      rw [h4] at a0
      simp only [wk, aBuiltin, AV.cells, AV.leaf, Nat.reduceEqDiff, Nat.reduceLT, Nat.reduceAdd, Nat.reduceLeDiff, reduceCtorEq, Nat.reduceMul, Nat.reduceMod, cfgP, u8, hlen, a0, hlf, hlf2, i54, none_beq, x.iv_sl.len Tryd.underlying22]
      refine loop_rule (fun m fr K => ∃ (i : Nat), m = x.items.length - i ∧ i ≤ x.items.length ∧ fr.length = 28 ∧ fget fr 15 = x.iv ∧ fget fr 16 = .int .i64 x.items.length ∧ fget fr 17 = .int .i64 i ∧ fget fr 3 = .int .i64 (depthJs (x.items.take i) : Nat) ∧ H.length ≤ K.length) ?_ x.items.length _ _ ⟨0, by simp [wk, aBuiltin, AV.cells, AV.leaf, Nat.reduceEqDiff, Nat.reduceLT, Nat.reduceAdd, Nat.reduceLeDiff, reduceCtorEq, Nat.reduceMul, Nat.reduceMod, cfgP, u8, hlen, depthJs]⟩
      rintro m fr K ⟨i, rfl, hi, hlen, a15, a16, a17, a3, hK⟩ ih
      simp only [wk, aBuiltin, AV.cells, AV.leaf, Nat.reduceEqDiff, Nat.reduceLT, Nat.reduceAdd, Nat.reduceLeDiff, reduceCtorEq, Nat.reduceMul, Nat.reduceMod, cfgP, u8, hlen, a15, a16, a17, a3]
      refine RC_split (fun h => ?_) (fun h => ?_)
      · have hlt : i < x.items.length := by simpa using h
        have e1 := x.iv_sl.at (k := .i64) Tryd.underlying22 sz25 encJ_len hlt
        have hmem : x.items[i] ∈ x.items := List.getElem_mem hlt
        have htk : x.items.take (i + 1) = x.items.take i ++ [x.items[i]] := List.take_succ_eq_append_getElem hlt
        have hwi := hw i hlt
        have hdj := depthJs_mem hmem
        have htd : depthJs (x.items.take (i + 1)) = max (depthJs (x.items.take i)) (depthJ x.items[i]) := by rw [htk, depthJs_append]; simp [depthJs]
        generalize hy : x.items[i] = y at *
        have n1 := fun (K : Heap) (hK : H.length ≤ K.length) => IH _ (size_mem hmem) y rfl (hfit.mem hmem) (by omega) H.length K hK
        have l1 := y.iv_leaf
        have l2 := y.kv_leaf
        unfold AV.leaf at l1 l2
        simp only [encJ_eq] at n1
        rw [encJ_eq] at e1
        simp only [wk, aBuiltin, AV.cells, AV.leaf, Nat.reduceEqDiff, Nat.reduceLT, Nat.reduceAdd, Nat.reduceLeDiff, reduceCtorEq, Nat.reduceMul, Nat.reduceMod, cfgP, u8, hlen, a15, a16, a17, a3, e1, l1, l2, y.iv_cells, y.kv_cells, hK, n1, hwi, Nat.le_trans hK (Nat.le_add_right _ 1), List.length_append]
        refine ih _ _ (x.items.length - (i + 1)) (by omega) ⟨i + 1, rfl, hlt, ?_⟩
        simp [wk, aBuiltin, AV.cells, AV.leaf, Nat.reduceEqDiff, Nat.reduceLT, Nat.reduceAdd, Nat.reduceLeDiff, reduceCtorEq, Nat.reduceMul, Nat.reduceMod, cfgP, u8, hlen, a15, a16, htd]
        omega
      · have hnl : i = x.items.length := by
          have : ¬ i < x.items.length := by simpa using h
          omega
        subst hnl
        rw [List.take_length] at a3
        simp only [wk, aBuiltin, AV.cells, AV.leaf, Nat.reduceEqDiff, Nat.reduceLT, Nat.reduceAdd, Nat.reduceLeDiff, reduceCtorEq, Nat.reduceMul, Nat.reduceMod, cfgP, u8, hlen, a3, hw2]
        exact Fin_pure (l := [.int .i64 ((depthJs x.items + 1 : Nat) : Int)]) (by simp [wk, aBuiltin, AV.cells, AV.leaf, Nat.reduceEqDiff, Nat.reduceLT, Nat.reduceAdd, Nat.reduceLeDiff, reduceCtorEq, Nat.reduceMul, Nat.reduceMod, cfgP, u8, aResults, aResult, hlen]) (.still rfl) (by simp)
  · have hk : x.kind ≠ 4 ∧ x.kind ≠ 5 := by omega
    rw [if_pos hk]
    simp only [wk, aBuiltin, AV.cells, AV.leaf, Nat.reduceEqDiff, Nat.reduceLT, Nat.reduceAdd, Nat.reduceLeDiff, reduceCtorEq, Nat.reduceMul, Nat.reduceMod, cfgP, u8, hlen, a0, hlf, hlf2, hk.1, hk.2]
    exact Fin_pure (l := [.int .i64 0]) (by simp [wk, aBuiltin, AV.cells, AV.leaf, Nat.reduceEqDiff, Nat.reduceLT, Nat.reduceAdd, Nat.reduceLeDiff, reduceCtorEq, Nat.reduceMul, Nat.reduceMod, cfgP, u8, aResults, aResult, hlen]) (.still rfl) (by simp)


theorem ofText_ok (s : List UInt8) (prot : Nat) (H : Heap) (hp : prot ≤ H.length) : aLim cfg prot 8 [.str s] H = some (encJ (.mk 3 false 0 s 0 [] 0 []), none) := by
  have hsnap : snap H [.str s] = some ([.str s], false) := rfl
  refine pure_slim rfl (by kernel_rfl) Tryd.func8 s8 hp hsnap (by simp [Tryd.f8]) fun fr hlen h => ?_
  simp only [Has, Nat.zero_add] at h
  obtain ⟨a0, -⟩ := h
  simp only [Tryd.f8] at hlen ⊢
  unfold g8
  simp only [wk, aBuiltin, AV.cells, AV.leaf, Nat.reduceEqDiff, Nat.reduceLT, Nat.reduceAdd, Nat.reduceLeDiff, reduceCtorEq, Nat.reduceMul, Nat.reduceMod, cfgP, u8, hlen, a0]
  exact Fin_pure (l := [encJ (.mk 3 false 0 s 0 [] 0 [])]) (by simp [wk, aBuiltin, AV.cells, AV.leaf, Nat.reduceEqDiff, Nat.reduceLT, Nat.reduceAdd, Nat.reduceLeDiff, reduceCtorEq, Nat.reduceMul, Nat.reduceMod, cfgP, u8, hlen, aResults, aResult, encJ_eq, JV.iv, JV.kv, tg, JV.kind, JV.is, JV.n, JV.text, JV.tag, JV.items, JV.ktag, JV.keys]) (encJ_still _) (by simp)

theorem ofNumber_ok (n : Int) (prot : Nat) (H : Heap) (hp : prot ≤ H.length) : aLim cfg prot 9 [.int .i64 n] H = some (encJ (.mk 2 false n [] 0 [] 0 []), none) := by
  have hsnap : snap H [.int .i64 n] = some ([.int .i64 n], false) := rfl
  refine pure_slim rfl (by kernel_rfl) Tryd.func9 s9 hp hsnap (by simp [Tryd.f9]) fun fr hlen h => ?_
  simp only [Has, Nat.zero_add] at h
  obtain ⟨a0, -⟩ := h
  simp only [Tryd.f9] at hlen ⊢
  unfold g9
  simp only [wk, aBuiltin, AV.cells, AV.leaf, Nat.reduceEqDiff, Nat.reduceLT, Nat.reduceAdd, Nat.reduceLeDiff, reduceCtorEq, Nat.reduceMul, Nat.reduceMod, cfgP, u8, hlen, a0]
  exact Fin_pure (l := [encJ (.mk 2 false n [] 0 [] 0 [])]) (by simp [wk, aBuiltin, AV.cells, AV.leaf, Nat.reduceEqDiff, Nat.reduceLT, Nat.reduceAdd, Nat.reduceLeDiff, reduceCtorEq, Nat.reduceMul, Nat.reduceMod, cfgP, u8, hlen, aResults, aResult, encJ_eq, JV.iv, JV.kv, tg, JV.kind, JV.is, JV.n, JV.text, JV.tag, JV.items, JV.ktag, JV.keys]) (encJ_still _) (by simp)

theorem ofBool_ok (b : Bool) (prot : Nat) (H : Heap) (hp : prot ≤ H.length) : aLim cfg prot 10 [.bool b] H = some (encJ (.mk 1 b 0 [] 0 [] 0 []), none) := by
  have hsnap : snap H [.bool b] = some ([.bool b], false) := rfl
  refine pure_slim rfl (by kernel_rfl) Tryd.func10 s10 hp hsnap (by simp [Tryd.f10]) fun fr hlen h => ?_
  simp only [Has, Nat.zero_add] at h
  obtain ⟨a0, -⟩ := h
  simp only [Tryd.f10] at hlen ⊢
  unfold g10
  simp only [wk, aBuiltin, AV.cells, AV.leaf, Nat.reduceEqDiff, Nat.reduceLT, Nat.reduceAdd, Nat.reduceLeDiff, reduceCtorEq, Nat.reduceMul, Nat.reduceMod, cfgP, u8, hlen, a0]
  exact Fin_pure (l := [encJ (.mk 1 b 0 [] 0 [] 0 [])]) (by simp [wk, aBuiltin, AV.cells, AV.leaf, Nat.reduceEqDiff, Nat.reduceLT, Nat.reduceAdd, Nat.reduceLeDiff, reduceCtorEq, Nat.reduceMul, Nat.reduceMod, cfgP, u8, hlen, aResults, aResult, encJ_eq, JV.iv, JV.kv, tg, JV.kind, JV.is, JV.n, JV.text, JV.tag, JV.items, JV.ktag, JV.keys]) (encJ_still _) (by simp)
theorem rowJ : RowT Tryd.prog 22 25 6 88 true where
  un := Tryd.underlying22
  size := sz25
  bytes := by25
  agg := ag25
  zero := ⟨_, ze25, rfl⟩
  pos := by decide
  tree := rfl
theorem hxtJ : (∃ e', Tryd.prog.underlying 22 = some (.slice e')) ∨ Tryd.prog.underlying 22 = some .string := .inl ⟨_, Tryd.underlying22⟩
theorem app_ex0 {α : Type} {enc : α → AV} {P : Program} {prot : Nat} {H : Heap} {t xt e : TypeId} {sz by_ : Nat} {ag : Bool} (ht : RowT P t e sz by_ ag) (hxt : (∃ e', P.underlying xt = some (.slice e')) ∨ P.underlying xt = some .string) (he : EncT enc sz ag)
    {m : List α} {x : AV} {b ver : Nat} (hg : hget H b ver = some []) (hx : elemCells H sz x = some (m.length, cellsOf enc m)) (hm : 0 < m.length) (hr : roomy m.length by_ = true) :
    aAppend P prot H #[t, xt] (.bs ⟨b, ver, 0, 0, 0, sz, ag, true⟩) x = some (.bs ⟨H.length, 0, 0, m.length, 0, sz, ag, false⟩, some (H ++ [Blk.cells 0 (cellsOf enc m)])) := by
  obtain ⟨z, hz, hzl⟩ := ht.zero
  have hm0 : ¬ m.length = 0 := by omega
  have hw : win ([] : List AV) 0 (0 * sz) = some [] := by simp [win]
  have hle : ¬ (m.length ≤ 0) := by omega
  rcases hxt with ⟨e', hu⟩ | hu <;> unfold aAppend <;>
  simp only [List.getElem?_toArray, List.getElem?_cons_zero, List.getElem?_cons_succ, Option.bind_some, ht.elem, ht.size, ht.bytes, ht.agg, hz, hzl, hu, hx, ne_eq, not_true_eq_false, if_false, cellsOf_leaf he m, if_true, hm0, hr, hg, hw, Nat.zero_add, hle, List.nil_append]
theorem litJ0 (K : Heap) : aBuildSlice Tryd.prog K 22 0 [] = some (.bs ⟨K.length, 0, 0, 0, 0, 6, true, true⟩, some (K ++ [Blk.cells 0 []])) := by kernel_rfl
theorem litJ3 (K : Heap) (a b c : JV) : aBuildSlice Tryd.prog K 22 3 [(0, encJ a), (1, encJ b), (2, encJ c)] = some (.bs ⟨K.length, 0, 0, 3, 3, 6, true, true⟩, some (K ++ [Blk.cells 0 (cellsOf encJ [a, b, c])])) := by
  have la := a.iv_leaf
  have la' := a.kv_leaf
  have lb := b.iv_leaf
  have lb' := b.kv_leaf
  have lc := c.iv_leaf
  have lc' := c.kv_leaf
  simp only [cellsOf, List.flatMap_cons, List.flatMap_nil, encJ_eq, AV.cells]
  simp [aBuildSlice, se22, sz25, ag25, ze25, AV.cells, zrep, List.range_succ, fillA, splice, litOk, AV.scal, la, la', lb, lb', lc, lc', AV.leaf]
  unfold AV.leaf at la la' lb lb' lc lc'
  simp [la, la', lb, lb', lc, lc']

theorem cloneJ_ok (l : List JV) (hne : 0 < l.length) (hl : l.length ≤ 1000000) (full : Bool) (prot : Nat) (H : Heap) :
    aLim cfg prot 20 [.vs (l.map encJ) full] H = some (.bs ⟨(H ++ [Blk.cells 0 []]).length, 0, 0, l.length, 0, 6, true, false⟩, some (H ++ [Blk.cells 0 []] ++ [Blk.cells 0 (cellsOf encJ l)])) := by
  have happ := app_ex0 (prot := prot) (H := H ++ [Blk.cells 0 []]) rowJ hxtJ encJ_T (m := l) (x := .vs (l.map encJ) full) (b := H.length) (ver := 0) (by rw [hget_new rfl]; rfl) (elem_vs encJ_T l full) hne (by simp [roomy]; omega)
  have hl0 := litJ0 H
  refine raw_slim rfl (by kernel_rfl) (by kernel_rfl) (by kernel_rfl) Tryd.func20 s20 (by simp [Tryd.f20]) fun fr hlen h => ?_
  simp only [Has, Nat.zero_add] at h
  obtain ⟨a0, -⟩ := h
  simp only [Tryd.f20] at hlen ⊢
  unfold g20
  simp only [wk, aBuiltin, AV.cells, AV.leaf, Nat.reduceEqDiff, Nat.reduceLT, Nat.reduceAdd, Nat.reduceLeDiff, reduceCtorEq, Nat.reduceMul, Nat.reduceMod, cfgP, u8, hlen, a0, hl0, happ]
  exact Fin_raw (l := [_]) (by simp [wk, aBuiltin, AV.cells, AV.leaf, Nat.reduceEqDiff, Nat.reduceLT, Nat.reduceAdd, Nat.reduceLeDiff, reduceCtorEq, Nat.reduceMul, Nat.reduceMod, cfgP, u8, hlen, aResults, aResult])
/-- a list of values. -/
def listJ (l : List JV) : JV := .mk 4 false 0 [] 0 l 0 []

theorem ofListT_ok (l : List JV) (hne : 0 < l.length) (hl : l.length ≤ 1000000) (full : Bool) (prot : Nat) (H : Heap) (hp : prot ≤ H.length) :
    aLim cfg prot 7 [.vs (l.map encJ) full] H = some (encJ (listJ l), none) := by
  have hsnap : snap H [.vs (l.map encJ) full] = some ([.vs (l.map encJ) full], false) := rfl
  have n1 := cloneJ_ok l hne hl full H.length (H ++ [Blk.cells 0 [AV.int IntKind.i64 0, AV.bool false, AV.int IntKind.i64 0, AV.str [], AV.nilS, AV.nilS]])
  have hput1 : ∀ (A : List AV) (B C : Blk) (x : AV), A.length = 6 → x.leaf = true → hput H.length (H ++ [Blk.cells 0 A] ++ [B] ++ [C]) H.length 0 0 [.int .i64 4, .bool false, .int .i64 0, .str [], x, .nilS] = some (H ++ [Blk.cells 0 [.int .i64 4, .bool false, .int .i64 0, .str [], x, .nilS]] ++ [B] ++ [C]) := by
    intro A B C x hA hx
    unfold AV.leaf at hx
    rw [hput_eq (cs := A) (by simp [hget]) (Nat.le_refl _) (by simp [hA]) (by simp [AV.leaf, hx])]
    simp [splice, hA]
  have hput1 := hput1 [.int .i64 0, .bool false, .int .i64 0, .str [], .nilS, .nilS] (Blk.cells 0 []) (Blk.cells 0 (cellsOf encJ l)) (.bs ⟨H.length + 1 + 1, 0, 0, l.length, 0, 6, true, false⟩) rfl rfl
  have hg1 : ∀ (A : List AV) (B C : Blk), hget (H ++ [Blk.cells 0 A] ++ [B] ++ [C]) H.length 0 = some A := fun A B C => by simp [hget]
  refine pure_slim rfl (by kernel_rfl) Tryd.func7 s7 hp hsnap (by simp [Tryd.f7]) fun fr hlen h => ?_
  simp only [Has, Nat.zero_add] at h
  obtain ⟨a0, -⟩ := h
  simp only [Tryd.f7] at hlen ⊢
  unfold g7
  simp only [wk, aBuiltin, AV.cells, AV.leaf, Nat.reduceEqDiff, Nat.reduceLT, Nat.reduceAdd, Nat.reduceLeDiff, reduceCtorEq, Nat.reduceMul, Nat.reduceMod, cfgP, u8, hlen, a0, n1, hput1, hg1, List.length_append]
  refine Fin_pure (l := [.agg [.int .i64 4, .bool false, .int .i64 0, .str [], .bs ⟨H.length + 1 + 1, 0, 0, l.length, 0, 6, true, false⟩, .nilS]]) (by simp [wk, aBuiltin, AV.cells, AV.leaf, Nat.reduceEqDiff, Nat.reduceLT, Nat.reduceAdd, Nat.reduceLeDiff, reduceCtorEq, Nat.reduceMul, Nat.reduceMod, cfgP, u8, hlen, aResults, aResult, hg1]) ?_ (by simp)
  rw [encJ_eq]
  refine .agg (.cons (.still rfl) (.cons (.still rfl) (.cons (.still rfl) (.cons (.still rfl) (.cons ?_ (.cons (.still rfl) .nil))))))
  show Frz _ _ _ (tg 0 (l.map encJ))
  rw [← slv_tg]
  refine Row.frozen (sz := 6) (ag := true) (.inr ⟨H.length + 1 + 1, 0, rfl, by omega, ?_, rfl⟩) encJ_T (by decide) rfl (.inr (by intro h; rw [h] at hne; simp at hne))
  rw [hget_new (by simp), if_pos rfl]
theorem ofList_ok (l : List JV) (hne : 0 < l.length) (hl : l.length ≤ 1000000) (b prot : Nat) (H : Heap) (hp : prot ≤ b) (hpl : prot ≤ H.length) (hg : hget H b 0 = some (cellsOf encJ l)) :
    aLim cfg prot 7 [.bs ⟨b, 0, 0, l.length, l.length, 6, true, true⟩] H = some (encJ (listJ l), some (H.set b .dead)) := by
  have hw : win (cellsOf encJ l) 0 (l.length * 6) = some (cellsOf encJ l) := by
    have := cellsOf_length encJ_T l
    simp only [win, Nat.zero_add, List.drop_zero]
    rw [if_pos (by omega), List.take_of_length_le (by omega)]
  have hpc : AV.plL (cellsOf encJ l) = true := by
    refine plL_of fun j hj => ?_
    have := List.getElem_mem hj
    obtain ⟨x, hx, hc⟩ := List.mem_flatMap.1 this
    obtain ⟨k, hk, he⟩ := List.getElem_of_mem hc
    rw [← he]
    exact plL_get (pl_cells (encJ_pl x)) k hk
  have hck : chunk 6 true l.length (cellsOf encJ l) = l.map encJ := chunk_cellsOf encJ_T (by decide) l
  refine lim_eat (args' := [.vs (l.map encJ) false]) (by kernel_rfl) (by kernel_rfl) Tryd.func7 (by kernel_rfl) ?_ ?_ rfl rfl (by simp) (ofListT_ok l hne hl false prot H hpl) (ofListT_ok l hne hl false prot _ (by simpa using hpl)) (by rw [encJ_eq]; simp only [flat, flat1, List.all_cons, flat0, Bool.true_and, JV.iv, listJ, JV.tag, JV.items]; cases l with | nil => simp at hne | cons x r => simp [tg, flat0])
  · simp only [snap, hg, hw, hpc, Option.bind_some, if_true, Option.map_some, hck]
    rfl
  · simp only [killA, hp, if_true]
end Go.Proofs.YtimbhlbkidmplaaDoor
