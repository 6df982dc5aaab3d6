import Derived.Test.YtnipaiklandliaaGreatDoorM3MatchBack
/-! Part 4 of the proof of MatchBack. -/
set_option linter.unusedSimpArgs false
set_option linter.defProp false
namespace Go.Abs
open Go
theorem Row.appK {α : Type} {enc : α → AV} {sz : Nat} {ag : Bool} {base : Nat} {H : Heap} {v : AV} {l : List α} (h : Row enc sz ag base H v l) (he : EncT enc sz ag) {P : Program} {t xt e : TypeId} {by_ prot : Nat} (ht : RowT P t e sz by_ ag) (hxt : (∃ e', P.underlying xt = some (.slice e')) ∨ P.underlying xt = some .string) {x : AV} {m : List α}
  (hx : elemCells H sz x = some (m.length, cellsOf enc m)) (hm : 0 < m.length) (hr : roomy (l.length + m.length) by_ = true) (hp : prot ≤ base) (hb : base ≤ H.length) {H0 : Heap} {b0 : Nat} {c : List AV} (hk : Kp H0 b0 c H) (h0 : H0.length ≤ base) :
  ∃ v' H', aAppend P prot H #[t, xt] v x = some (v', some H') ∧ Row enc sz ag base H' v' (l ++ m) ∧ H.length ≤ H'.length ∧ v' ≠ .nilS ∧ Kp H0 b0 c H' ∧
   ∀ b ver cs, b < base → hget H b ver = some cs → hget H' b ver = some cs := by
 obtain ⟨v', H', h1, h2, h3, h4, h5, h6⟩ := h.appB he ht hxt hx hm hr hp hb
 have h7 : ∀ b ver cs, b < base → hget H b ver = some cs → hget H' b ver = some cs := fun b ver cs hlt hg => h5 b ver cs hg fun s hs => by
  rcases h with ⟨q, _⟩ | ⟨b', ver', q, hb', _⟩
  ·rw [q] at hs; cases hs
  ·rw [q] at hs; cases hs; simp; omega
 refine ⟨v', H', h1, h2, h3, h4, ?_, h7⟩
 obtain ⟨z, hz, hzl⟩ := ht.zero
 have hm0 : ¬ m.length = 0 := by omega
 have hlf := cellsOf_leaf he m
 rcases h with ⟨rfl, rfl⟩ | ⟨b, ver, rfl, g2, g3, hv4⟩
 ·simp only [List.length_nil, Nat.zero_add] at hr
  have e : aAppend P prot H #[t, xt] .nilS x = some (.bs ⟨H.length, 0, 0, m.length, 0, sz, ag, false⟩, some (H ++ [Blk.cells 0 (cellsOf enc m)])) := by
   rcases hxt with ⟨e', hu⟩ | hu <;> unfold aAppend <;>
   simp only [ht.row0, List.getElem?_toArray, List.getElem?_cons_zero, List.getElem?_cons_succ, Option.bind_some, ht.elem, ht.size, ht.bytes, ht.agg, hz, hzl, hu, hx, ne_eq, not_true_eq_false, if_false, hlf, if_true, hm0, hr]
  rw [e] at h1
  cases h1
  exact hk.app _
 ·have e : aAppend P prot H #[t, xt] (.bs ⟨b, ver, 0, l.length, 0, sz, ag, false⟩) x = some (.bs ⟨b, ver + 4, 0, l.length + m.length, 0, sz, ag, false⟩, some (H.set b (Blk.cells (ver + 4) (cellsOf enc l ++ cellsOf enc m)))) := by
   have hw : win (cellsOf enc l) 0 (l.length * sz) = some (cellsOf enc l) := by
    have := cellsOf_length he l
    simp only [win, Nat.zero_add, List.drop_zero]
    rw [if_pos (by omega), List.take_of_length_le (by omega)]
   rcases hxt with ⟨e', hu⟩ | hu <;> unfold aAppend <;>
   simp only [List.getElem?_toArray, List.getElem?_cons_zero, List.getElem?_cons_succ, Option.bind_some, ht.elem, ht.size, ht.bytes, ht.agg, hz, hzl, hu, hx, ne_eq, not_true_eq_false, if_false, hlf, if_true, hm0, hr, g3, hw, Bool.false_eq_true,
    Nat.le_trans hp g2, rowOk_zero hv4, and_self]
  rw [e] at h1
  cases h1
  exact hk.new (Nat.le_trans h0 g2) _
end Go.Abs
namespace Go.Proofs.YtnipaiklandliaaGreatDoor
open Go Go.Abs AbsSeat Ty
open Nat (reduceEqDiff reduceLT reduceAdd reduceLeDiff reduceMul reduceMod)
inductive Nd where
 | mk (kind : Int) (no : Bool) (sf : Bool) (sp : List Sg) (least most : Int) (kf : Bool) (kids : List Nd)
def slF {α : Type} (f : Bool) (enc : α → AV) : List α → AV
 | [] => .nilS
 | l => .vs (l.map enc) f
theorem slF_slv {α : Type} (enc : α → AV) (l : List α) : slF false enc l = slv enc l := by cases l <;> rfl
theorem slF_sl {α : Type} (f : Bool) (enc : α → AV) (l : List α) : Sl enc (slF f enc l) l := by
 cases l with
 | nil => exact .nil
 | cons x r => exact .vs (x :: r) f
mutual
def encN : Nd → AV
 | .mk kind no sf sp least most kf kids => .agg [.int .i64 kind, .bool no, slF sf encG sp, .int .i64 least, .int .i64 most, match kids with | [] => .nilS | x :: r => .vs (encN x :: encNs r) kf]
def encNs : List Nd → List AV
 | [] => []
 | x :: r => encN x :: encNs r
end
theorem encNs_map (l : List Nd) : encNs l = l.map encN := by
 induction l with
 | nil => rfl
 | cons x r ih => rw [encNs, ih]; rfl
theorem encN_eq (kind : Int) (no sf : Bool) (sp : List Sg) (least most : Int) (kf : Bool) (kids : List Nd) : encN (.mk kind no sf sp least most kf kids) = .agg [.int .i64 kind, .bool no, slF sf encG sp, .int .i64 least, .int .i64 most, slF kf encN kids] := by
 cases kids with
 | nil => simp only [encN]; rfl
 | cons x r => simp only [encN, encNs_map]; rfl
theorem slF_leaf {α : Type} (f : Bool) (enc : α → AV) (l : List α) : (slF f enc l).leaf = true := by cases l <;> rfl
theorem slF_still {α : Type} (f : Bool) (enc : α → AV) (l : List α) : still (slF f enc l) = true := by cases l <;> rfl
theorem encN_len (x : Nd) : (encN x).cells.length = 6 := by cases x; rw [encN_eq]; rfl
theorem encN_T : EncT encN 6 true where
 len x := encN_len x
 leaf x c hc := by
  cases x; rw [encN_eq] at hc
  simp only [AV.cells, List.mem_cons, List.not_mem_nil, or_false] at hc
  rcases hc with rfl | rfl | rfl | rfl | rfl | rfl <;> first | rfl | exact slF_leaf _ _ _
 still x c hc := by
  cases x; rw [encN_eq] at hc
  simp only [AV.cells, List.mem_cons, List.not_mem_nil, or_false] at hc
  rcases hc with rfl | rfl | rfl | rfl | rfl | rfl <;> first | rfl | exact slF_still _ _ _
 shape x := by cases x; rw [encN_eq]; rfl
theorem rowN : RowT Tryz.prog 174 176 6 80 true where
 un := Tryz.underlying174
 size := sz176
 bytes := by176
 agg := ag176
 zero := ⟨_, ze176, rfl⟩
 pos := by decide
 tree := rfl
theorem escS_len (c : Int) : 0 < (escSX c).1.length ∧ (escSX c).1.length ≤ 4 := by
 unfold escSX
 repeat' split
 all_goals exact ⟨by simp, by simp⟩
theorem hxtG : (∃ e', Tryz.prog.underlying 173 = some (.slice e')) ∨ Tryz.prog.underlying 173 = some .string := .inl ⟨_, Tryz.underlying173⟩
def cls1 : List UInt8 := [91, 93, 94, 45]
def cls2 : List UInt8 := [91, 93, 94, 45, 92]
def classGo (l : List Int) : Nat → Nat → List Sg → List Sg × Nat × Bool
 | 0, j, acc => (acc, j, false)
 | k + 1, j, acc =>
  if pk l j = 93 then (acc, j + 1, true)
  else if pk l j = 92 then
   if (escSX (pk l (j + 1))).2 = true then classGo l k (j + 2) (acc ++ (escSX (pk l (j + 1))).1) else (acc, j + 2, false)
  else if pk l j = -1 ∨ hasS cls1 (pk l j) = true then (acc, j + 1, false)
  else if pk l (j + 1) = 45 then
   if pk l (j + 2) < pk l j ∨ hasS cls2 (pk l (j + 2)) = true then (acc, j + 3, false) else classGo l k (j + 3) (acc ++ [⟨pk l j, pk l (j + 2)⟩])
  else classGo l k (j + 1) (acc ++ [⟨pk l j, pk l j⟩])
structure Rd where
 n : Nd
 at_ : Nat
 ok : Bool
def classS (l : List Int) (j : Nat) : Rd :=
 let i := if pk l j = 94 then j + 1 else j
 let g := classGo l (l.length + 2) i []
 ⟨.mk 1 (decide (pk l j = 94)) false g.1 0 0 false [], g.2.1, g.2.2 && decide (0 < g.1.length)⟩
theorem cls_end {prot : Nat} {res : List ResultVar} {fr : List AV} {H K : Heap} {b : Nat} {L : AV} {j : Nat} {v : AV} {acc : List Sg} {X : Blk} {nt ok : Bool} (kp : Kp H b [L, .int .i64 (j : Nat)] K) (hrow : Row encG 2 true (H.length + 2) K v acc) (hne : v = .nilS ∨ acc ≠ [])
  (h1 : aResults cfg.P fr (K.set H.length X) res = some [.agg [.int .i64 1, .bool nt, v, .int .i64 0, .int .i64 0, .nilS], .bool ok]) :
  Fin ⟨cfg, prot, res, .trim H⟩ fr (K.set H.length X) (.tup [encN (.mk 1 nt false acc 0 0 false []), .bool ok], some (H.set b (.cells 0 [L, .int .i64 (j : Nat)]))) := by
 have hf := ((hrow.setne (b' := H.length) (by omega) X).low (base' := H.length) (by omega)).frozen encG_T (by decide) rfl hne
 refine (kp.new (Nat.le_refl _) X).fin h1 ?_
 rw [encN_eq, slF_slv]
 exact .tup (.cons (.agg (.cons (.still rfl) (.cons (.still rfl) (.cons hf (.cons (.still rfl) (.cons (.still rfl) (.cons (.still rfl) .nil))))))) (.cons (.still rfl) .nil))
def u199 := an (show tagT Tryz.prog 176 = 0 from by kernel_rfl) (an ag1 (an sz1 (an by1 (an ze1 (an Tryz.underlying1 (an ag3 (an sz3 (an by3 (an ze3 (an Tryz.underlying3 (an ag4 (an sz4 (an by4 (an ze4 (an Tryz.underlying4 (an ag9 (an sz9 (an by9 (an ze9 (an Tryz.underlying9 (an ag21 (an sz21 (an by21 (an ze21 (an Tryz.underlying21 (an ag173 (an sz173 (an by173 (an se173 (an ze173 (an Tryz.underlying173 (an ag174 (an sz174 (an by174 (an se174 (an ze174 (an Tryz.underlying174 (an ag176 (an sz176 (an by176 (an ze176 (an bu176 (an Tryz.underlying176 (an ag205 (an sz205 (an by205 (an ze205 (an Tryz.underlying205 (an ag209 (an sz209 (an by209 (an ze209 (an bu209 (an Tryz.underlying209 (an ag276 (an sz276 (an by276 (an ze276 (an bu276 (an Tryz.underlying276 (an fa176_1 (an fd176_1 (an fa176_2 (an fd176_2 (an fa209_1 fd209_1)))))))))))))))))))))))))))))))))))))))))))))))))))))))))))))))))
def g199 : Code := .seq (mG 0 #[q 2 (.alloc 176) 0, q 3 (.assign (mI false)) 4]) (.seq (mG 1 #[q 9 (cl 201 #[.const (.slice none 0 0)] #[173]) 176, q 4 (.alloc 176) 0, mD 176 4 9]) (.seq (mG 2 #[mA 10 0 205, q 11 (cl 173 #[.tmp 10, .const (.int .i32 94)] #[205, 21]) 4, q 12 (.fieldAddr 176 (.tmp 4) 1) 0, mD 4 12 11]) (.seq (.block 0 (.loop (.seq (.seq (mG 3 #[mA 13 0 205, q 14 (cl 173 #[.tmp 13, .const (.int .i32 93)] #[205, 21]) 4, q 15 (.unOp .not 4 (.tmp 14)) 4]) (.cond (.tmp 15) .skip (.exit 0))) (.block 1 (.seq (mG 4 #[mA 16 0 205, q 17 (cl 185 #[.tmp 16] #[205]) 21, mB 5 17 21]) (.seq (mG 5 #[mA 18 0 205, q 19 (.nilCheck (.tmp 18)) 0, q 20 (.fieldAddr 209 (.tmp 19) 1) 0, mC 21 20 3, mF 22 .add 3 21 (ik 1) 3 3, q 23 (.nilCheck (.tmp 18)) 0, q 24 (.fieldAddr 209 (.tmp 23) 1) 0, mD 3 24 22]) (.seq (.block 2 (.seq (mG 6 #[mA 26 5 21, mF 27 .eql 21 26 (.const (.int .i32 92)) 21 4, mB 25 27 4]) (.cond (.tmp 25) (.seq (mG 7 #[mA 29 0 205, q 30 (cl 200 #[.tmp 29] #[205]) 290, mA 28 30 290, mE 31 28 0 173, mE 32 28 1 4, mB 6 31 173, mB 7 32 4]) (.seq (.seq (mG 8 #[mA 33 7 4, q 34 (.unOp .not 4 (.tmp 33)) 4]) (.cond (.tmp 34) (.seq (mG 9 #[mC 35 4 176, mD 176 2 35, q 3 (.assign (mI false)) 4]) .ret) .skip)) (.seq (mG 10 #[q 36 (.fieldAddr 176 (.tmp 4) 2) 0, mC 37 36 173, mA 38 6 173, q 39 (bi .append #[.tmp 37, .tmp 38] #[173, 173]) 173, q 40 (.fieldAddr 176 (.tmp 4) 2) 0, mD 173 40 39]) (.exit 1)))) (.seq (.region 11 #[mA 42 5 21, q 43 (.binOp .eql 21 (.tmp 42) (.const (.int .i32 (-1))) 21) 4, mA 44 43 4, qg 45 (.move (.tmp 5)) 21 2 false, qg 46 (cl 202 #[.const (.string { data := #[91, 93, 94, 45] }), .tmp 45] #[9, 21]) 4 2 false, q 47 (.pick (.tmp 44) (mI true) (.tmp 46)) 4, mB 41 47 4] false) (.cond (.tmp 41) (.seq (mG 12 #[mC 48 4 176, mD 176 2 48, q 3 (.assign (mI false)) 4]) .ret) .skip))))) (.seq (mG 13 #[mA 49 5 21, mB 8 49 21]) (.seq (.seq (mG 14 #[mA 50 0 205, q 51 (cl 173 #[.tmp 50, .const (.int .i32 45)] #[205, 21]) 4]) (.cond (.tmp 51) (.seq (mG 15 #[mA 52 0 205, q 53 (cl 185 #[.tmp 52] #[205]) 21, mB 8 53 21]) (.seq (mG 16 #[mA 54 0 205, q 55 (.nilCheck (.tmp 54)) 0, q 56 (.fieldAddr 209 (.tmp 55) 1) 0, mC 57 56 3, mF 58 .add 3 57 (ik 1) 3 3, q 59 (.nilCheck (.tmp 54)) 0, q 60 (.fieldAddr 209 (.tmp 59) 1) 0, mD 3 60 58]) (.seq (.region 17 #[mA 61 8 21, mA 62 5 21, mF 63 .lss 21 61 (.tmp 62) 21 4, mA 64 63 4, qg 65 (.move (.tmp 8)) 21 3 false, qg 66 (cl 202 #[.const (.string { data := #[91, 93, 94, 45, 92] }), .tmp 65] #[9, 21]) 4 3 false, q 67 (.pick (.tmp 64) (mI true) (.tmp 66)) 4] false) (.cond (.tmp 67) (.seq (mG 18 #[mC 68 4 176, mD 176 2 68, q 3 (.assign (mI false)) 4]) .ret) .skip)))) .skip)) (mG 19 #[q 69 (.fieldAddr 176 (.tmp 4) 2) 0, mC 70 69 173, mA 71 5 21, mA 72 8 21, q 73 (.build 276 #[(0, .tmp 71), (1, .tmp 72)]) 276, q 74 (.buildSlice 173 1 #[(0, .tmp 73)]) 173, q 75 (bi .append #[.tmp 70, .tmp 74] #[173, 173]) 173, q 76 (.fieldAddr 176 (.tmp 4) 2) 0, mD 173 76 75])))))))))) (.seq (.region 20 #[{ dst := some 77, op := .load 176 (.tmp 4), type := 176, pos := "regex.go:122", after := #[], guard := none }, { dst := some 78, op := .fieldAddr 176 (.tmp 4) 2, type := 0, pos := "regex.go:122", after := #[], guard := none }, { dst := some 79, op := .load 173 (.tmp 78), type := 173, pos := "regex.go:122", after := #[{ on := 1, ground := .data }], guard := none }, { dst := some 80, op := bi .len #[.tmp 79] #[173], type := 3, pos := "regex.go:122", after := #[{ on := 2, ground := .data }], guard := none }, { dst := some 81, op := .binOp .gtr 3 (.tmp 80) (ik 0) 3, type := 4, pos := "regex.go:122", after := #[{ on := 3, ground := .data }, { on := 5, ground := .gcOnly .lateStores }], guard := none }, { dst := none, op := .store 176 (.tmp 2) (.tmp 77), type := 0, pos := "regex.go:122", after := #[{ on := 0, ground := .data }, { on := 0, ground := .phase }, { on := 1, ground := .textOnly .lateStores }, { on := 2, ground := .textOnly .lateStores }, { on := 3, ground := .textOnly .lateStoresUnsure }, { on := 4, ground := .textOnly .lateStores }], guard := none }, { dst := some 3, op := .assign (.tmp 81), type := 4, pos := "regex.go:122", after := #[{ on := 4, ground := .data }, { on := 5, ground := .chain }, { on := 0, ground := .phase }, { on := 1, ground := .phase }, { on := 2, ground := .phase }, { on := 3, ground := .phase }, { on := 4, ground := .phase }, { on := 5, ground := .phase }], guard := none }] true) .ret))))
def s199 := sL Tryz.f199 g199 (by kernel_rfl)
def g193 : Code := .seq (mG 0 #[q 4 (.alloc 176) 0, q 5 (.assign (mI false)) 4]) (.seq (mG 1 #[mA 11 0 205, q 12 (cl 185 #[.tmp 11] #[205]) 21, mB 6 12 21]) (.seq (mG 2 #[mA 13 0 205, q 14 (.nilCheck (.tmp 13)) 0, q 15 (.fieldAddr 209 (.tmp 14) 1) 0, mC 16 15 3, mF 17 .add 3 16 (ik 1) 3 3, q 18 (.nilCheck (.tmp 13)) 0, q 19 (.fieldAddr 209 (.tmp 18) 1) 0, mD 3 19 17]) (.seq (.seq (mG 3 #[mA 20 6 21]) (.block 0 (.seq (mG 4 #[mF 22 .eql 21 20 (.const (.int .i32 40)) 21 4, mB 21 22 4]) (.cond (.tmp 21) (.seq (.seq (mG 5 #[mA 23 1 3, mF 24 .geq 3 23 (ik 16) 3 4]) (.cond (.tmp 24) (.seq (mG 6 #[q 25 (.build 176 #[]) 176, mD 176 4 25, q 5 (.assign (mI false)) 4]) .ret) .skip)) (.seq (mG 7 #[mA 27 0 205, mA 28 1 3, mF 29 .add 3 28 (ik 1) 3 3, q 30 (cl 152 #[.tmp 27, .tmp 29] #[205, 3]) 210, mA 26 30 210, mE 31 26 0 176, mE 32 26 1 4, q 7 (.alloc 176) 0, mD 176 7 31, mB 8 32 4]) (.seq (.region 8 #[{ dst := some 33, op := .load 176 (.tmp 7), type := 176, pos := "regex.go:135", after := #[], guard := none }, { dst := some 34, op := .move (.tmp 8), type := 4, pos := "regex.go:135", after := #[], guard := none }, { dst := some 35, op := .move (.tmp 34), type := 4, pos := "regex.go:135", after := #[{ on := 1, ground := .data }], guard := none }, { dst := some 36, op := .move (.tmp 0), type := 205, pos := "regex.go:135", after := #[{ on := 2, ground := .guard }], guard := some (2, true) }, { dst := some 37, op := cl 173 #[.tmp 36, .const (.int .i32 41)] #[205, 21], type := 4, pos := "regex.go:135", after := #[{ on := 3, ground := .data }, { on := 2, ground := .chain }, { on := 2, ground := .guard }], guard := some (2, true) }, { dst := some 38, op := .pick (.tmp 35) (.tmp 37) (mI false), type := 4, pos := "regex.go:135", after := #[{ on := 2, ground := .data }, { on := 4, ground := .data }, { on := 6, ground := .gcOnly .lateStores }], guard := none }, { dst := none, op := .store 176 (.tmp 4) (.tmp 33), type := 0, pos := "regex.go:135", after := #[{ on := 0, ground := .data }, { on := 4, ground := .chain }, { on := 0, ground := .phase }, { on := 1, ground := .textOnly .lateStores }, { on := 2, ground := .textOnly .lateStores }, { on := 3, ground := .textOnly .lateStores }, { on := 4, ground := .textOnly .lateStoresUnsure }, { on := 5, ground := .textOnly .lateStores }], guard := none }, { dst := some 5, op := .assign (.tmp 38), type := 4, pos := "regex.go:135", after := #[{ on := 5, ground := .data }, { on := 6, ground := .chain }, { on := 0, ground := .phase }, { on := 1, ground := .phase }, { on := 2, ground := .phase }, { on := 3, ground := .phase }, { on := 4, ground := .phase }, { on := 5, ground := .phase }, { on := 6, ground := .phase }], guard := none }] true) .ret))) (.seq (mG 9 #[mF 40 .eql 21 20 (.const (.int .i32 91)) 21 4, mB 39 40 4]) (.cond (.tmp 39) (.seq (mG 10 #[mA 41 0 205, q 42 (cl 199 #[.tmp 41] #[205]) 210, mE 43 42 0 176, mE 44 42 1 4, mD 176 4 43, mB 5 44 4]) .ret) (.seq (mG 11 #[mF 46 .eql 21 20 (.const (.int .i32 46)) 21 4, mB 45 46 4]) (.cond (.tmp 45) (.seq (mG 12 #[q 47 (.build 176 #[(0, ik 1), (1, .const (.bool true))]) 176, mD 176 4 47, q 5 (.assign (mI true)) 4]) .ret) (.seq (mG 13 #[mF 49 .eql 21 20 (.const (.int .i32 92)) 21 4, mB 48 49 4]) (.cond (.tmp 48) (.seq (mG 14 #[mA 51 0 205, q 52 (cl 200 #[.tmp 51] #[205]) 290, mA 50 52 290, mE 53 50 0 173, mE 54 50 1 4, mB 9 53 173, mB 10 54 4]) (.seq (mG 15 #[mA 55 9 173, q 56 (cl 201 #[.tmp 55] #[173]) 176, mA 57 10 4, mD 176 4 56, mB 5 57 4]) .ret)) .skip)))))))))) (.seq (.region 16 #[mA 58 6 21, mA 59 6 21, q 60 (.build 276 #[(0, .tmp 58), (1, .tmp 59)]) 276, q 61 (.buildSlice 173 1 #[(0, .tmp 60)]) 173, q 62 (cl 201 #[.tmp 61] #[173]) 176, mA 63 6 21, q 64 (.binOp .neq 21 (.tmp 63) (.const (.int .i32 (-1))) 21) 4, mA 65 64 4, qg 66 (.move (.tmp 6)) 21 7 true, qg 67 (cl 202 #[.const (.string { data := #[124, 42, 43, 63, 41, 93, 123, 125] }), .tmp 66] #[9, 21]) 4 7 true, qg 68 (.unOp .not 4 (.tmp 67)) 4 7 true, q 69 (.pick (.tmp 65) (.tmp 68) (mI false)) 4, mD 176 4 62, mB 5 69 4] false) .ret))))
def s193 := sL Tryz.f193 g193 (by kernel_rfl)
def g186 : Code := .seq (mG 0 #[q 4 (.alloc 176) 0, q 5 (.assign (mI false)) 4]) (.seq (mG 1 #[mA 11 0 205, mA 12 1 3, q 13 (cl 193 #[.tmp 11, .tmp 12] #[205, 3]) 210, mA 10 13 210, mE 14 10 0 176, mE 15 10 1 4, q 6 (.alloc 176) 0, mD 176 6 14, mB 7 15 4]) (.seq (.seq (mG 2 #[mA 16 7 4, q 17 (.unOp .not 4 (.tmp 16)) 4]) (.cond (.tmp 17) (.seq (mG 3 #[mC 18 6 176, mD 176 4 18, q 5 (.assign (mI false)) 4]) .ret) .skip)) (.seq (mG 4 #[q 8 (.assign (ik 0)) 3, q 9 (.assign (ik (-1))) 3]) (.seq (.seq (mG 5 #[mA 19 0 205, q 20 (cl 185 #[.tmp 19] #[205]) 21]) (.block 0 (.seq (.block 5 (.seq (.block 4 (.seq (.block 3 (.seq (.block 2 (.seq (.block 1 (.seq (.seq (.seq (mG 6 #[mF 22 .eql 21 20 (.const (.int .i32 43)) 21 4, mB 21 22 4]) (.cond (.tmp 21) (.exit 1) .skip)) (.seq (.seq (mG 7 #[mF 24 .eql 21 20 (.const (.int .i32 42)) 21 4, mB 23 24 4]) (.cond (.tmp 23) (.exit 2) .skip)) (.seq (.seq (mG 8 #[mF 26 .eql 21 20 (.const (.int .i32 63)) 21 4, mB 25 26 4]) (.cond (.tmp 25) (.exit 3) .skip)) (.seq (mG 9 #[mF 28 .eql 21 20 (.const (.int .i32 123)) 21 4, mB 27 28 4]) (.cond (.tmp 27) (.exit 4) .skip))))) (.exit 5))) (mG 10 #[q 8 (.assign (ik 1)) 3]))) (.seq (mG 11 #[mA 29 0 205, q 30 (.nilCheck (.tmp 29)) 0, q 31 (.fieldAddr 209 (.tmp 30) 1) 0, mC 32 31 3, mF 33 .add 3 32 (ik 1) 3 3, q 34 (.nilCheck (.tmp 29)) 0, q 35 (.fieldAddr 209 (.tmp 34) 1) 0, mD 3 35 33]) (.exit 0)))) (.seq (.seq (mG 12 #[mA 36 0 205, q 37 (.nilCheck (.tmp 36)) 0, q 38 (.fieldAddr 209 (.tmp 37) 1) 0, mC 39 38 3, mF 40 .add 3 39 (ik 1) 3 3, q 41 (.nilCheck (.tmp 36)) 0, q 42 (.fieldAddr 209 (.tmp 41) 1) 0, mD 3 42 40]) (mG 13 #[q 9 (.assign (ik 1)) 3])) (.exit 0)))) (.seq (.seq (mG 14 #[mA 43 0 205, q 44 (.nilCheck (.tmp 43)) 0, q 45 (.fieldAddr 209 (.tmp 44) 1) 0, mC 46 45 3, mF 47 .add 3 46 (ik 1) 3 3, q 48 (.nilCheck (.tmp 43)) 0, q 49 (.fieldAddr 209 (.tmp 48) 1) 0, mD 3 49 47]) (mG 15 #[mA 51 0 205, q 52 (cl 194 #[.tmp 51] #[205]) 283, mA 50 52 283, mE 53 50 0 3, mE 54 50 1 3, mE 55 50 2 4, mB 8 53 3, mB 9 54 3, mB 7 55 4])) (.exit 0)))) (.seq (.seq (mG 16 #[mC 56 6 176, mD 176 4 56, q 5 (.assign (mI true)) 4]) .ret) (.exit 0))))) (.seq (mG 17 #[mA 57 8 3, mA 58 9 3, mC 59 6 176, q 60 (.buildSlice 174 1 #[(0, .tmp 59)]) 174, q 61 (.build 176 #[(0, ik 4), (3, .tmp 57), (4, .tmp 58), (5, .tmp 60)]) 176, mA 62 7 4, mD 176 4 61, mB 5 62 4]) .ret)))))
def s186 := sL Tryz.f186 g186 (by kernel_rfl)
def g172 : Code := .seq (mG 0 #[q 4 (.alloc 176) 0, q 5 (.assign (mI false)) 4]) (.seq (mG 1 #[q 6 (.assign (.const (.slice none 0 0))) 174]) (.seq (.block 0 (.loop (.seq (.seq (mG 2 #[mA 9 0 205, q 10 (cl 185 #[.tmp 9] #[205]) 21, q 11 (.binOp .neq 21 (.tmp 10) (.const (.int .i32 (-1))) 21) 4, mA 12 11 4, qg 13 (.move (.tmp 0)) 205 3 true, qg 14 (cl 185 #[.tmp 13] #[205]) 21 3 true, qg 15 (.binOp .neq 21 (.tmp 14) (.const (.int .i32 124)) 21) 4 3 true, q 16 (.pick (.tmp 12) (.tmp 15) (mI false)) 4, mA 17 16 4, qg 18 (.move (.tmp 0)) 205 8 true, qg 19 (cl 185 #[.tmp 18] #[205]) 21 8 true, qg 20 (.binOp .neq 21 (.tmp 19) (.const (.int .i32 41)) 21) 4 8 true, q 21 (.pick (.tmp 17) (.tmp 20) (mI false)) 4]) (.cond (.tmp 21) .skip (.exit 0))) (.block 1 (.seq (mG 3 #[mA 23 0 205, mA 24 1 3, q 25 (cl 186 #[.tmp 23, .tmp 24] #[205, 3]) 210, mA 22 25 210, mE 26 22 0 176, mE 27 22 1 4, q 7 (.alloc 176) 0, mD 176 7 26, mB 8 27 4]) (.seq (.seq (mG 4 #[mA 28 8 4, q 29 (.unOp .not 4 (.tmp 28)) 4]) (.cond (.tmp 29) (.seq (mG 5 #[mC 30 7 176, mD 176 4 30, q 5 (.assign (mI false)) 4]) .ret) .skip)) (mG 6 #[mA 31 6 174, mC 32 7 176, q 33 (.buildSlice 174 1 #[(0, .tmp 32)]) 174, q 34 (bi .append #[.tmp 31, .tmp 33] #[174, 174]) 174, mB 6 34 174]))))))) (.seq (.seq (mG 7 #[mA 35 6 174, q 36 (bi .len #[.tmp 35] #[174]) 3]) (.block 2 (.seq (mG 8 #[mF 38 .eql 3 36 (ik 0) 3 4, mB 37 38 4]) (.cond (.tmp 37) (.seq (mG 9 #[q 39 (.build 176 #[]) 176, mD 176 4 39, q 5 (.assign (mI true)) 4]) .ret) (.seq (mG 10 #[mF 41 .eql 3 36 (ik 1) 3 4, mB 40 41 4]) (.cond (.tmp 40) (.seq (mG 11 #[mA 42 6 174, q 43 (.indexAddr 174 (.tmp 42) (ik 0)) 0, mC 44 43 176, mD 176 4 44, q 5 (.assign (mI true)) 4]) .ret) .skip)))))) (.seq (mG 12 #[mA 45 6 174, q 46 (.build 176 #[(0, ik 2), (5, .tmp 45)]) 176, mD 176 4 46, q 5 (.assign (mI true)) 4]) .ret))))
def s172 := sL Tryz.f172 g172 (by kernel_rfl)
def g152 : Code := .seq (mG 0 #[q 4 (.alloc 176) 0, q 5 (.assign (mI false)) 4]) (.seq (mG 1 #[q 6 (.assign (.const (.slice none 0 0))) 174]) (.seq (.block 0 (.loop (.block 1 (.seq (mG 2 #[mA 10 0 205, mA 11 1 3, q 12 (cl 172 #[.tmp 10, .tmp 11] #[205, 3]) 210, mA 9 12 210, mE 13 9 0 176, mE 14 9 1 4, q 7 (.alloc 176) 0, mD 176 7 13, mB 8 14 4]) (.seq (.seq (mG 3 #[mA 15 8 4, q 16 (.unOp .not 4 (.tmp 15)) 4]) (.cond (.tmp 16) (.seq (mG 4 #[mC 17 7 176, mD 176 4 17, q 5 (.assign (mI false)) 4]) .ret) .skip)) (.seq (mG 5 #[mA 18 6 174, mC 19 7 176, q 20 (.buildSlice 174 1 #[(0, .tmp 19)]) 174, q 21 (bi .append #[.tmp 18, .tmp 20] #[174, 174]) 174, mB 6 21 174]) (.seq (mG 6 #[mA 22 0 205, q 23 (cl 173 #[.tmp 22, .const (.int .i32 124)] #[205, 21]) 4, q 24 (.unOp .not 4 (.tmp 23)) 4]) (.cond (.tmp 24) (.exit 0) .skip)))))))) (.seq (.seq (mG 7 #[mA 25 6 174, q 26 (bi .len #[.tmp 25] #[174]) 3, mF 27 .eql 3 26 (ik 1) 3 4]) (.cond (.tmp 27) (.seq (mG 8 #[mA 28 6 174, q 29 (.indexAddr 174 (.tmp 28) (ik 0)) 0, mC 30 29 176, mD 176 4 30, q 5 (.assign (mI true)) 4]) .ret) .skip)) (.seq (mG 9 #[mA 31 6 174, q 32 (.build 176 #[(0, ik 3), (5, .tmp 31)]) 176, mD 176 4 32, q 5 (.assign (mI true)) 4]) .ret))))
def s152 := sL Tryz.f152 g152 (by kernel_rfl)
theorem class_ok (l : List Int) (L : AV) (hL : Sl encI L l) (hl : Runes l) (at_ b : Nat) (hat : at_ ≤ l.length) (prot : Nat) (H : Heap) (hp : prot ≤ b) (hg : hget H b 0 = some [L, .int .i64 at_]) :
  aLim cfg prot 199 [.ptr b 0 0] H = some (.tup [encN (classS l at_).n, .bool (classS l at_).ok], some (H.set b (.cells 0 [L, .int .i64 ((classS l at_).at_ : Nat)]))) := by
 have hb := hget_lt hg
 have hll := hl.1
 have hlZ : ∀ Z, (H ++ [Blk.cells 0 Z]).length = H.length + 1 := fun Z => by simp
 have n0 := fun (K : Heap) (hK : prot ≤ K.length) => one_ok .nilS rfl rfl (fun _ _ => .still rfl) prot K hK rfl
 have hpl1 : prot ≤ H.length + 1 := by omega
 have hLb : ∀ x : Int, AV.blwL H.length [L, .int .i64 x] = true := fun x => plL_blwL _ _ (slI_plain hL _)
 have hK0l : (H ++ [Blk.cells 0 [.int .i64 0, .bool false, .nilS, .int .i64 0, .int .i64 0, .nilS]] ++ [Blk.cells 0 [.int .i64 1, .bool false, .nilS, .int .i64 0, .int .i64 0, .nilS]]).length = H.length + 2 := by simp
 have hK0k : Kp H b [L, .int .i64 at_] (H ++ [Blk.cells 0 [.int .i64 0, .bool false, .nilS, .int .i64 0, .int .i64 0, .nilS]] ++ [Blk.cells 0 [.int .i64 1, .bool false, .nilS, .int .i64 0, .int .i64 0, .nilS]]) := ((Kp.start hg).app _).app _
 have hK0z : hget (H ++ [Blk.cells 0 [.int .i64 0, .bool false, .nilS, .int .i64 0, .int .i64 0, .nilS]] ++ [Blk.cells 0 [.int .i64 1, .bool false, .nilS, .int .i64 0, .int .i64 0, .nilS]]) H.length 0 = some [.int .i64 0, .bool false, .nilS, .int .i64 0, .int .i64 0, .nilS] := hget_mono (by simp [hget]) _
 have hK0n : hget (H ++ [Blk.cells 0 [.int .i64 0, .bool false, .nilS, .int .i64 0, .int .i64 0, .nilS]] ++ [Blk.cells 0 [.int .i64 1, .bool false, .nilS, .int .i64 0, .int .i64 0, .nilS]]) (H.length + 1) 0 = some [.int .i64 1, .bool false, .nilS, .int .i64 0, .int .i64 0, .nilS] := by
  rw [← hlZ [.int .i64 0, .bool false, .nilS, .int .i64 0, .int .i64 0, .nilS]]; simp [hget]
 have hcS : classS l at_ = ⟨.mk 1 (decide (pk l at_ = 94)) false (classGo l (l.length + 2) (if pk l at_ = 94 then at_ + 1 else at_) []).1 0 0 false [], (classGo l (l.length + 2) (if pk l at_ = 94 then at_ + 1 else at_) []).2.1, (classGo l (l.length + 2) (if pk l at_ = 94 then at_ + 1 else at_) []).2.2 && decide (0 < (classGo l (l.length + 2) (if pk l at_ = 94 then at_ + 1 else at_) []).1.length)⟩ := rfl
 rw [hcS]
 have hj0 : (if pk l at_ = 94 then at_ + 1 else at_) ≤ l.length := by
  split
  ·rename_i h; have := pk_in (l := l) (i := at_) (by rw [h]; decide); omega
  ·exact hat
 refine trim_slim rfl (by kernel_rfl) (by kernel_rfl) (by kernel_rfl) Tryz.func199 s199 (by simp [Tryz.f199]) fun fr hlen h => ?_
 simp only [Has] at h
 obtain ⟨a0, -⟩ := h
 simp only [Tryz.f199] at hlen ⊢
 unfold g199
 simp only [w9, simprocAttr, u199, hlen, a0, n0, hpl1, hlZ]
 generalize H ++ [Blk.cells 0 [.int .i64 0, .bool false, .nilS, .int .i64 0, .int .i64 0, .nilS]] ++ [Blk.cells 0 [.int .i64 1, .bool false, .nilS, .int .i64 0, .int .i64 0, .nilS]] = K0 at *
 have n1 := take_ok l L hL hl at_ b 94 (by omega) prot K0 hp hK0k.get
 generalize hnt : decide (pk l at_ = 94) = nt at *
 generalize (if pk l at_ = 94 then at_ + 1 else at_) = i at *
 have hK1k := hK0k.put (hLb (i : Nat))
 have hK1z : hget (K0.set b (.cells 0 [L, .int .i64 (i : Nat)])) H.length 0 = some [.int .i64 0, .bool false, .nilS, .int .i64 0, .int .i64 0, .nilS] := by rw [hget_set_ne (by omega)]; exact hK0z
 have hK1n : hget (K0.set b (.cells 0 [L, .int .i64 (i : Nat)])) (H.length + 1) 0 = some [.int .i64 1, .bool false, .nilS, .int .i64 0, .int .i64 0, .nilS] := by rw [hget_set_ne (by omega)]; exact hK0n
 have hK1l : (K0.set b (.cells 0 [L, .int .i64 (i : Nat)])).length = H.length + 2 := by simp [hK0l]
 generalize K0.set b (.cells 0 [L, .int .i64 (i : Nat)]) = K1 at *
 have hput1 : hput prot K1 (H.length + 1) 0 1 [.bool nt] = some (K1.set (H.length + 1) (.cells 0 [.int .i64 1, .bool nt, .nilS, .int .i64 0, .int .i64 0, .nilS])) := by
  rw [hput_eq hK1n (by omega) (by simp) (by simp [AV.leaf])]; rfl
 have hK2k := hK1k.new (b' := H.length + 1) (by omega) (.cells 0 [.int .i64 1, .bool nt, .nilS, .int .i64 0, .int .i64 0, .nilS])
 have hK2z : hget (K1.set (H.length + 1) (.cells 0 [.int .i64 1, .bool nt, .nilS, .int .i64 0, .int .i64 0, .nilS])) H.length 0 = some [.int .i64 0, .bool false, .nilS, .int .i64 0, .int .i64 0, .nilS] := by rw [hget_set_ne (by omega)]; exact hK1z
 have hK2n : hget (K1.set (H.length + 1) (.cells 0 [.int .i64 1, .bool nt, .nilS, .int .i64 0, .int .i64 0, .nilS])) (H.length + 1) 0 = some [.int .i64 1, .bool nt, .nilS, .int .i64 0, .int .i64 0, .nilS] := by rw [hget_set_at (by omega)]
 have hK2l : (K1.set (H.length + 1) (.cells 0 [.int .i64 1, .bool nt, .nilS, .int .i64 0, .int .i64 0, .nilS])).length = H.length + 2 := by simp [hK1l]
 simp only [w9, simprocAttr, u199, hlen, n1, hput1]
 generalize K1.set (H.length + 1) (.cells 0 [.int .i64 1, .bool nt, .nilS, .int .i64 0, .int .i64 0, .nilS]) = K2 at *
 refine loop_rule (fun m fr H' => ∃ (k j : Nat) (acc : List Sg) (v : AV), m = k ∧ j ≤ l.length ∧ l.length < j + k ∧ acc.length ≤ 4 * j ∧ fr.length = 82 ∧ fget fr 0 = .ptr b 0 0 ∧ fget fr 2 = .ptr H.length 0 0 ∧ fget fr 4 = .ptr (H.length + 1) 0 0
  ∧ H.length + 2 ≤ H'.length ∧ Kp H b [L, .int .i64 (j : Nat)] H' ∧ hget H' H.length 0 = some [.int .i64 0, .bool false, .nilS, .int .i64 0, .int .i64 0, .nilS] ∧ hget H' (H.length + 1) 0 = some [.int .i64 1, .bool nt, v, .int .i64 0, .int .i64 0, .nilS]
  ∧ Row encG 2 true (H.length + 2) H' v acc ∧ (v = .nilS ∨ acc ≠ []) ∧ classGo l (l.length + 2) i [] = classGo l k j acc) ?_ (l.length + 2) _ _ ⟨l.length + 2, i, [], .nilS, by
   refine ⟨rfl, hj0, by omega, by simp, ?_⟩
   simp [w9, hlen, a0, hK2l, hK2k, hK2z, hK2n, Row.nil]⟩
 clear hK2k hK2z hK2n hK2l K2 hput1 hK1k hK1z hK1n hK1l n1 hK0k hK0z hK0n hK0l a0 hlen fr
 rintro m fr H' ⟨k, j, acc, v, rfl, hjl, hjk, hal, hlen, a0, a2, a4, hH', kp, hz, hn, hrow, hne, hc⟩ ih
 obtain ⟨k, rfl⟩ : ∃ k', m = k' + 1 := ⟨m - 1, by omega⟩
 rw [hc]
 have n1 := take_ok l L hL hl j b 93 (by omega) prot H' hp kp.get
 have hbe : b < H'.length := by omega
 have hset : ∀ (c d : List AV), (H'.set b (.cells 0 c)).set b (.cells 0 d) = H'.set b (.cells 0 d) := fun c d => List.set_set ..
 have hgs : ∀ c, hget (H'.set b (.cells 0 c)) b 0 = some c := fun c => hget_set_at hbe
 have kps := fun x : Int => kp.put (hLb x)
 have hzs : ∀ c, hget (H'.set b (.cells 0 c)) H.length 0 = some [.int .i64 0, .bool false, .nilS, .int .i64 0, .int .i64 0, .nilS] := fun c => by rw [hget_set_ne (by omega)]; exact hz
 have hns : ∀ c, hget (H'.set b (.cells 0 c)) (H.length + 1) 0 = some [.int .i64 1, .bool nt, v, .int .i64 0, .int .i64 0, .nilS] := fun c => by rw [hget_set_ne (by omega)]; exact hn
 have hrs : ∀ c, Row encG 2 true (H.length + 2) (H'.set b (.cells 0 c)) v acc := fun c => hrow.setne (by omega) _
 have hvl : v.leaf = true := by rcases hrow with ⟨q, _⟩ | ⟨b, ver, q, _⟩ <;> rw [q] <;> rfl
 have hputZ : ∀ c, hput prot (H'.set b (.cells 0 c)) H.length 0 0 [.int .i64 1, .bool nt, v, .int .i64 0, .int .i64 0, .nilS] = some ((H'.set b (.cells 0 c)).set H.length (.cells 0 [.int .i64 1, .bool nt, v, .int .i64 0, .int .i64 0, .nilS])) := fun c => by
  rw [hput_eq (hzs c) (by omega) (by simp) (by simp only [List.all_cons, List.all_nil, hvl]; rfl)]; rfl
 have hgZ : ∀ c d, hget ((H'.set b (.cells 0 c)).set H.length (.cells 0 d)) H.length 0 = some d := fun c d => hget_set_at (by simp; omega)
 have step : ∀ (j' : Nat) (es : List Sg), 0 < es.length → acc.length + es.length ≤ 10000000 → ∃ o H3, aAppend Tryz.prog prot (H'.set b (.cells 0 [L, .int .i64 (j' : Nat)])) #[173, 173] v (.vs (es.map encG) true) = some (o, some H3) ∧
   hput prot H3 (H.length + 1) 0 2 [o] = some (H3.set (H.length + 1) (.cells 0 [.int .i64 1, .bool nt, o, .int .i64 0, .int .i64 0, .nilS])) ∧ (o.leaf = true ∧ o.cells = [o]) ∧ H.length + 2 ≤ (H3.set (H.length + 1) (.cells 0 [.int .i64 1, .bool nt, o, .int .i64 0, .int .i64 0, .nilS])).length ∧
   Kp H b [L, .int .i64 (j' : Nat)] (H3.set (H.length + 1) (.cells 0 [.int .i64 1, .bool nt, o, .int .i64 0, .int .i64 0, .nilS])) ∧ hget (H3.set (H.length + 1) (.cells 0 [.int .i64 1, .bool nt, o, .int .i64 0, .int .i64 0, .nilS])) H.length 0 = some [.int .i64 0, .bool false, .nilS, .int .i64 0, .int .i64 0, .nilS] ∧
   hget (H3.set (H.length + 1) (.cells 0 [.int .i64 1, .bool nt, o, .int .i64 0, .int .i64 0, .nilS])) (H.length + 1) 0 = some [.int .i64 1, .bool nt, o, .int .i64 0, .int .i64 0, .nilS] ∧
   Row encG 2 true (H.length + 2) (H3.set (H.length + 1) (.cells 0 [.int .i64 1, .bool nt, o, .int .i64 0, .int .i64 0, .nilS])) o (acc ++ es) ∧ (o = .nilS ∨ acc ++ es ≠ []) := fun j' es h0 hle => by
  obtain ⟨o, H3, happ, hrow3, hle3, hno, hk3, hold⟩ := (hrs [L, .int .i64 (j' : Nat)]).appK (prot := prot) (xt := 173) encG_T rowG hxtG (elem_vs encG_T es true) h0 (by simp [roomy]; omega) (by omega) (by simp; omega) (kps (j' : Nat)) (by omega)
  have hz3 := hold _ _ _ (by omega) (hzs [L, .int .i64 (j' : Nat)])
  have hn3 := hold _ _ _ (by omega) (hns [L, .int .i64 (j' : Nat)])
  have hol : o.leaf = true := by rcases hrow3 with ⟨q, _⟩ | ⟨b, ver, q, _⟩ <;> rw [q] <;> rfl
  have hle4 : H.length + 2 ≤ H3.length := by simp at hle3; omega
  have hol2 : o.cells = [o] := by rcases hrow3 with ⟨q, _⟩ | ⟨b, ver, q, _⟩ <;> rw [q] <;> rfl
  refine ⟨o, H3, happ, ?_, ⟨hol, hol2⟩, by simpa using hle4, hk3.new (by omega) _, by rw [hget_set_ne (by omega)]; exact hz3, hget_set_at (by omega), hrow3.setne (by omega) _, .inr (by intro h; have := congrArg List.length h; rw [List.length_append, List.length_nil] at this; omega)⟩
  rw [hput_eq hn3 (by omega) (by simp) (by simp only [List.all_cons, List.all_nil, hol]; rfl)]; rfl
 by_cases h1 : pk l j = 93
 ·have e : classGo l (k + 1) j acc = (acc, j + 1, true) := by simp [classGo, h1]
  rw [e]
  simp only [h1, if_true, decide_true, Bool.true_and] at n1 ⊢
  have hlen2 := (hrs [L, .int .i64 ((j + 1 : Nat))]).len Tryz.underlying173
  have hnsZ : ∀ c d, hget ((H'.set b (.cells 0 c)).set H.length (.cells 0 d)) (H.length + 1) 0 = some [.int .i64 1, .bool nt, v, .int .i64 0, .int .i64 0, .nilS] := fun c d => by rw [hget_set_ne (by omega)]; exact hns c
  have hlenZ : ∀ c d, aLen Tryz.prog ((H'.set b (.cells 0 c)).set H.length (.cells 0 d)) 173 v = some (.int .i64 (acc.length : Nat)) := fun c d => ((hrs c).setne (b' := H.length) (by omega) _).len Tryz.underlying173
  have hlen2' : decide ((0 : Int) < (acc.length : Nat)) = decide (0 < acc.length) := by simp
  simp only [w9, simprocAttr, u199, hlen, a0, a2, a4, n1, hns, hlen2, hputZ, hlen2']
  refine ⟨?_, ?_⟩
  ·rw [show befs [] _ = [0, 0, 2, 6, 14, 1, 63] from by kernel_rfl]
   simp [w9, u199, hlen, drawOk, chained, mayAt, sameAt, bound, List.range_succ, Nat.testBit, a2, a4, hns, hputZ, hnsZ, hlenZ, avbeq_refl]
  exact cls_end (kps _) (hrs _) hne (by simp [w9, u199, hlen, a2, hgZ])
 have d1 : decide (pk l j = 93) = false := decide_eq_false h1
 simp only [h1, if_false, decide_false] at n1
 rw [set_self kp.get] at n1
 have n2 := peek_ok l L hL hl j b prot H' (by omega) kp.get
 have hput1 : hput prot H' b 0 1 [.int .i64 ((j + 1 : Nat))] = some (H'.set b (.cells 0 [L, .int .i64 ((j + 1 : Nat))])) := by
  rw [hput_eq kp.get hp (by simp) (by simp [AV.leaf])]; rfl
 have hww : IntKind.i64.wrap ((j : Int) + 1) = ((j + 1 : Nat) : Int) := by rw [wrap64 (by omega) (by omega)]; simp
 by_cases h2 : pk l j = 92
 ·have hjl := pk_in (l := l) (i := j) (by rw [h2]; decide)
  have n3 := esc_ok l L hL hl (j + 1) b (by omega) prot _ hp (hgs [L, .int .i64 ((j + 1 : Nat))])
  rw [hset] at n3
  have h3 := escS_len (pk l (j + 1))
  cases hok : (escSX (pk l (j + 1))).2 with
  | false =>
   have e : classGo l (k + 1) j acc = (acc, j + 2, false) := by simp [classGo, h2, hok]
   rw [e]
   simp only [Bool.false_and]
   simp only [w9, simprocAttr, u199, hlen, a0, a2, a4, n1, n2, kp.get, hww, hput1, h2, n3, hok, hns, hputZ]
   exact cls_end (kps _) (hrs _) hne (by simp [w9, u199, hlen, a2, hgZ])
  | true =>
   have e : classGo l (k + 1) j acc = classGo l k (j + 2) (acc ++ (escSX (pk l (j + 1))).1) := by simp [classGo, h2, hok]
   rw [← hc]; rw [e] at hc
   have hjl2 : j + 1 < l.length := pk_in (l := l) fun h => by rw [h] at hok; exact absurd hok (by decide)
   obtain ⟨o, H3, happ, hput3, ⟨hol, hol2⟩, hres⟩ := step (j + 2) (escSX (pk l (j + 1))).1 h3.1 (by omega)
   unfold AV.leaf at hol; unfold AV.cells at hol2
   simp only [w9, simprocAttr, u199, hlen, a0, a4, n1, n2, kp.get, hww, hput1, h2, n3, hok, hns, happ, hol2, hput3]
   refine ih _ _ k (by omega) ⟨k, j + 2, acc ++ (escSX (pk l (j + 1))).1, o, rfl, by omega, by omega, by rw [List.length_append]; omega, ?_⟩
   exact ⟨by simp [w9, hlen], by simp [w9, a0], by simp [w9, a2], by simp [w9, a4], hres.1, hres.2.1, hres.2.2.1, hres.2.2.2.1, hres.2.2.2.2.1, hres.2.2.2.2.2, hc⟩
 ·have d2 : decide (pk l j = 92) = false := decide_eq_false h2
  have n3 := has_ok cls1 (pk l j) (by decide) prot (H'.set b (.cells 0 [L, .int .i64 ((j + 1 : Nat))])) (by simp; omega)
  by_cases h3 : pk l j = -1 ∨ hasS cls1 (pk l j) = true
  ·have e : classGo l (k + 1) j acc = (acc, j + 1, false) := by
    rw [classGo, if_neg h1, if_neg h2, if_pos h3]
   rw [e]
   simp only [Bool.false_and]
   by_cases h4 : pk l j = -1
   ·have d3 : decide (pk l j = -1) = true := decide_eq_true h4
    simp only [w9, simprocAttr, u199, hlen, a0, a2, a4, n1, n2, kp.get, hww, hput1, d2, d3, hns, hputZ]
    exact cls_end (kps _) (hrs _) hne (by simp [w9, u199, hlen, a2, hgZ])
   ·have d3 : decide (pk l j = -1) = false := decide_eq_false h4
    have h5 : hasS cls1 (pk l j) = true := h3.resolve_left h4
    rw [h5] at n3
    unfold cls1 at n3
    simp only [w9, simprocAttr, u199, hlen, a0, a2, a4, n1, n2, kp.get, hww, hput1, d2, d3, n3, hns, hputZ]
    exact cls_end (kps _) (hrs _) hne (by simp [w9, u199, hlen, a2, hgZ])
  ·have h4 : ¬ pk l j = -1 := fun h => h3 (.inl h)
   have d3 : decide (pk l j = -1) = false := decide_eq_false h4
   have h5 : hasS cls1 (pk l j) = false := Bool.eq_false_iff.2 fun h => h3 (.inr h)
   have hjl := pk_in h4
   rw [h5] at n3
   unfold cls1 at n3
   have n4 := take_ok l L hL hl (j + 1) b 45 (by omega) prot _ hp (hgs [L, .int .i64 ((j + 1 : Nat))])
   by_cases h6 : pk l (j + 1) = 45
   ·have hjl1 := pk_in (l := l) (i := j + 1) (by rw [h6]; decide)
    simp only [h6, if_true, decide_true, hset] at n4
    have n5 := peek_ok l L hL hl (j + 2) b prot _ (by simp; omega) (hgs [L, .int .i64 ((j + 1 + 1 : Nat))])
    have hww2 : IntKind.i64.wrap (((j + 1 + 1 : Nat) : Int) + 1) = ((j + 3 : Nat) : Int) := by rw [wrap64 (by omega) (by omega)]; omega
    have hput2 : hput prot (H'.set b (.cells 0 [L, .int .i64 ((j + 1 + 1 : Nat))])) b 0 1 [.int .i64 ((j + 3 : Nat))] = some (H'.set b (.cells 0 [L, .int .i64 ((j + 3 : Nat))])) := by
     rw [hput_eq (hgs _) hp (by simp) (by simp [AV.leaf]), hset]; rfl
    have n6 := has_ok cls2 (pk l (j + 2)) (by decide) prot (H'.set b (.cells 0 [L, .int .i64 ((j + 3 : Nat))])) (by simp; omega)
    by_cases h7 : pk l (j + 2) < pk l j ∨ hasS cls2 (pk l (j + 2)) = true
    ·have e : classGo l (k + 1) j acc = (acc, j + 3, false) := by
      rw [classGo, if_neg h1, if_neg h2, if_neg h3, if_pos h6, if_pos h7]
     rw [e]
     simp only [Bool.false_and]
     by_cases h8 : pk l (j + 2) < pk l j
     ·have d8 : decide (pk l (j + 2) < pk l j) = true := decide_eq_true h8
      simp only [w9, simprocAttr, u199, hlen, a0, a2, a4, n1, n2, kp.get, hgs, hww, hput1, d2, d3, n3, n4, n5, hww2, hput2, d8, hns, hputZ]
      exact cls_end (kps _) (hrs _) hne (by simp [w9, u199, hlen, a2, hgZ])
     ·have d8 : decide (pk l (j + 2) < pk l j) = false := decide_eq_false h8
      rw [h7.resolve_left h8] at n6
      unfold cls2 at n6
      simp only [w9, simprocAttr, u199, hlen, a0, a2, a4, n1, n2, kp.get, hgs, hww, hput1, d2, d3, n3, n4, n5, hww2, hput2, d8, n6, hns, hputZ]
      exact cls_end (kps _) (hrs _) hne (by simp [w9, u199, hlen, a2, hgZ])
    ·have d8 : decide (pk l (j + 2) < pk l j) = false := decide_eq_false fun h => h7 (.inl h)
     have h9 : hasS cls2 (pk l (j + 2)) = false := Bool.eq_false_iff.2 fun h => h7 (.inr h)
     rw [h9] at n6
     unfold cls2 at n6
     have e : classGo l (k + 1) j acc = classGo l k (j + 3) (acc ++ [⟨pk l j, pk l (j + 2)⟩]) := by
      rw [classGo, if_neg h1, if_neg h2, if_neg h3, if_pos h6, if_neg h7]
     rw [← hc]; rw [e] at hc
     have hjl2 : j + 2 < l.length := pk_in (l := l) fun h => h7 (.inl (by rw [h]; have := pk_nn hl j; omega))
     obtain ⟨o, H3, happ, hput3, ⟨hol, hol2⟩, hres⟩ := step (j + 3) [⟨pk l j, pk l (j + 2)⟩] (by simp) (by simp; omega)
     unfold AV.leaf at hol; unfold AV.cells at hol2
     simp only [w9, simprocAttr, u199, hlen, a0, a4, n1, n2, kp.get, hgs, hww, hput1, d2, d3, n3, n4, n5, hww2, hput2, d8, n6, hns, litG1, happ, hol2, hput3]
     refine ih _ _ k (by omega) ⟨k, j + 3, acc ++ [⟨pk l j, pk l (j + 2)⟩], o, rfl, by omega, by omega, by simp; omega, ?_⟩
     exact ⟨by simp [w9, hlen], by simp [w9, a0], by simp [w9, a2], by simp [w9, a4], hres.1, hres.2.1, hres.2.2.1, hres.2.2.2.1, hres.2.2.2.2.1, hres.2.2.2.2.2, hc⟩
   ·have e : classGo l (k + 1) j acc = classGo l k (j + 1) (acc ++ [⟨pk l j, pk l j⟩]) := by
     rw [classGo, if_neg h1, if_neg h2, if_neg h3, if_neg h6]
    rw [← hc]; rw [e] at hc
    simp only [h6, if_false, decide_false, hset] at n4
    obtain ⟨o, H3, happ, hput3, ⟨hol, hol2⟩, hres⟩ := step (j + 1) [⟨pk l j, pk l j⟩] (by simp) (by simp; omega)
    unfold AV.leaf at hol; unfold AV.cells at hol2
    simp only [w9, simprocAttr, u199, hlen, a0, a4, n1, n2, kp.get, hww, hput1, d2, d3, n3, n4, hns, litG1, happ, hol2, hput3]
    refine ih _ _ k (by omega) ⟨k, j + 1, acc ++ [⟨pk l j, pk l j⟩], o, rfl, by omega, by omega, by simp; omega, ?_⟩
    exact ⟨by simp [w9, hlen], by simp [w9, a0], by simp [w9, a2], by simp [w9, a4], hres.1, hres.2.1, hres.2.2.1, hres.2.2.2.1, hres.2.2.2.2.1, hres.2.2.2.2.2, hc⟩
open Go Go.Abs AbsSeat Ty
def ndZ : Nd := .mk 0 false false [] 0 0 false []
def ndR (x : Nd) (a b : Int) : Nd := .mk 4 false false [] a b true [x]
def conN : List Nd → Nd
 | [] => ndZ
 | [x] => x
 | l => .mk 2 false false [] 0 0 false l
def eitN : List Nd → Nd
 | [x] => x
 | l => .mk 3 false false [] 0 0 false l
def ats : List UInt8 := [124, 42, 43, 63, 41, 93, 123, 125]
mutual
def atomS (l : List Int) : Nat → Nat → Nat → Rd
 | 0, j, _ => ⟨ndZ, j, false⟩
 | k + 1, j, d =>
  if pk l j = 40 then
   if 16 ≤ d then ⟨ndZ, j + 1, false⟩
   else
    let r := eitherS l k (j + 1) (d + 1) []
    if r.ok = true then (if pk l r.at_ = 41 then ⟨r.n, r.at_ + 1, true⟩ else ⟨r.n, r.at_, false⟩) else ⟨r.n, r.at_, false⟩
  else if pk l j = 91 then classS l (j + 1)
  else if pk l j = 46 then ⟨.mk 1 true false [] 0 0 false [], j + 1, true⟩
  else if pk l j = 92 then ⟨.mk 1 false true (escSX (pk l (j + 1))).1 0 0 false [], j + 2, (escSX (pk l (j + 1))).2⟩
  else ⟨.mk 1 false true [⟨pk l j, pk l j⟩] 0 0 false [], j + 1, decide (pk l j ≠ -1) && !hasS ats (pk l j)⟩
def pieceS (l : List Int) : Nat → Nat → Nat → Rd
 | 0, j, _ => ⟨ndZ, j, false⟩
 | k + 1, j, d =>
  let r := atomS l k j d
  if r.ok = true then
   if pk l r.at_ = 43 then ⟨ndR r.n 1 (-1), r.at_ + 1, true⟩
   else if pk l r.at_ = 42 then ⟨ndR r.n 0 (-1), r.at_ + 1, true⟩
   else if pk l r.at_ = 63 then ⟨ndR r.n 0 1, r.at_ + 1, true⟩
   else if pk l r.at_ = 123 then ⟨ndR r.n (timesS l (r.at_ + 1)).lo (timesS l (r.at_ + 1)).hi, (timesS l (r.at_ + 1)).at_, (timesS l (r.at_ + 1)).ok⟩
   else r
  else r
def concatS (l : List Int) : Nat → Nat → Nat → List Nd → Rd
 | 0, j, _, _ => ⟨ndZ, j, false⟩
 | k + 1, j, d, acc =>
  if pk l j = -1 ∨ pk l j = 124 ∨ pk l j = 41 then ⟨conN acc, j, true⟩
  else
   let r := pieceS l k j d
   if r.ok = true then concatS l k r.at_ d (acc ++ [r.n]) else r
def eitherS (l : List Int) : Nat → Nat → Nat → List Nd → Rd
 | 0, j, _, _ => ⟨ndZ, j, false⟩
 | k + 1, j, d, acc =>
  let r := concatS l k j d []
  if r.ok = true then
   if pk l r.at_ = 124 then eitherS l k (r.at_ + 1) d (acc ++ [r.n]) else ⟨eitN (acc ++ [r.n]), r.at_, true⟩
  else r
end
theorem timesS_in {l : List Int} {i : Nat} (h : (timesS l i).ok = true) : i < (timesS l i).at_ ∧ (timesS l i).at_ ≤ l.length := by
 unfold timesS at h ⊢
 dsimp only at h ⊢
 split at h
 ·rename_i h1
  rw [if_pos h1]
  split at h
  ·rename_i h2
   rw [if_pos h2]
   split at h
   ·rename_i h3
    rw [if_pos h3]
    have := pk_in (l := l) (i := i + numL l i + 1) (by rw [h3]; decide)
    dsimp only; omega
   ·rename_i h3
    rw [if_neg h3]
    split at h
    ·rename_i h4
     rw [if_pos h4]
     split at h
     ·rename_i h5
      rw [if_pos h5]
      have := pk_in (l := l) (i := i + numL l i + 1 + numL l (i + numL l i + 1)) (by rw [h5]; decide)
      dsimp only; omega
     ·cases h
    ·cases h
  ·rename_i h2
   rw [if_neg h2]
   split at h
   ·rename_i h3
    rw [if_pos h3]
    have := pk_in (l := l) (i := i + numL l i) (by rw [h3]; decide)
    dsimp only; omega
   ·cases h
 ·cases h
theorem classGo_in {l : List Int} : ∀ (k j : Nat) (acc : List Sg), (classGo l k j acc).2.2 = true → j < (classGo l k j acc).2.1 ∧ (classGo l k j acc).2.1 ≤ l.length
 | 0, j, acc, h => by cases h
 | k + 1, j, acc, h => by
  rw [classGo] at h ⊢
  split at h
  ·rename_i h1
   rw [if_pos h1]
   have := pk_in (l := l) (i := j) (by rw [h1]; decide)
   dsimp only; omega
  ·rename_i h1
   rw [if_neg h1]
   split at h
   ·rename_i h2
    rw [if_pos h2]
    split at h
    ·rename_i h3
     rw [if_pos h3]
     have := classGo_in k _ _ h
     omega
    ·cases h
   ·rename_i h2
    rw [if_neg h2]
    split at h
    ·cases h
    ·rename_i h3
     rw [if_neg h3]
     split at h
     ·rename_i h4
      rw [if_pos h4]
      split at h
      ·cases h
      ·rename_i h5
       rw [if_neg h5]
       have := classGo_in k _ _ h
       omega
     ·rename_i h4
      rw [if_neg h4]
      have := classGo_in k _ _ h
      omega
theorem classS_in {l : List Int} {j : Nat} (h : (classS l j).ok = true) : j < (classS l j).at_ ∧ (classS l j).at_ ≤ l.length := by
 unfold classS at h ⊢
 dsimp only at h ⊢
 have hi : j ≤ if pk l j = 94 then j + 1 else j := by split <;> omega
 generalize (if pk l j = 94 then j + 1 else j) = i at *
 have := classGo_in (l := l) (l.length + 2) i [] (by revert h; cases (classGo l (l.length + 2) i []).2.2 <;> simp)
 omega
theorem readS_in (l : List Int) : ∀ k : Nat, (∀ j d, (atomS l k j d).ok = true → j < (atomS l k j d).at_ ∧ (atomS l k j d).at_ ≤ l.length) ∧ (∀ j d, (pieceS l k j d).ok = true → j < (pieceS l k j d).at_ ∧ (pieceS l k j d).at_ ≤ l.length) ∧
  (∀ j d acc, j ≤ l.length → (concatS l k j d acc).ok = true → j ≤ (concatS l k j d acc).at_ ∧ (concatS l k j d acc).at_ ≤ l.length) ∧ ∀ j d acc, j ≤ l.length → (eitherS l k j d acc).ok = true → j ≤ (eitherS l k j d acc).at_ ∧ (eitherS l k j d acc).at_ ≤ l.length
 | 0 => ⟨fun j d h => by simp [atomS] at h, fun j d h => by simp [pieceS] at h, fun j d acc _ h => by simp [concatS] at h, fun j d acc _ h => by simp [eitherS] at h⟩
 | k + 1 => by
  obtain ⟨ha, hp, hc, he⟩ := readS_in l k
  refine ⟨fun j d h => ?_, fun j d h => ?_, fun j d acc hj h => ?_, fun j d acc hj h => ?_⟩
  ·rw [atomS] at h ⊢
   try dsimp only at h ⊢
   split at h
   ·rename_i h1
    rw [if_pos h1]
    have hj := pk_in (l := l) (i := j) (by rw [h1]; decide)
    split at h
    ·cases h
    ·rename_i h2
     rw [if_neg h2]
     split at h
     ·rename_i h3
      rw [if_pos h3]
      have := he (j + 1) (d + 1) [] (by omega) h3
      split at h
      ·rename_i h4
       rw [if_pos h4]
       have := pk_in (l := l) (i := (eitherS l k (j + 1) (d + 1) []).at_) (by rw [h4]; decide)
       dsimp only; omega
      ·cases h
     ·cases h
   ·rename_i h1
    rw [if_neg h1]
    split at h
    ·rename_i h2
     rw [if_pos h2]
     have := classS_in h
     omega
    ·rename_i h2
     rw [if_neg h2]
     split at h
     ·rename_i h3
      rw [if_pos h3]
      have := pk_in (l := l) (i := j) (by rw [h3]; decide)
      dsimp only; omega
     ·rename_i h3
      rw [if_neg h3]
      split at h
      ·rename_i h4
       rw [if_pos h4]
       try dsimp only at h ⊢
       have : pk l (j + 1) ≠ -1 := fun q => by rw [q] at h; exact absurd h (by decide)
       have := pk_in this
       omega
      ·rename_i h4
       rw [if_neg h4]
       try dsimp only at h ⊢
       simp only [Bool.and_eq_true, decide_eq_true_eq] at h
       have := pk_in h.1
       omega
  ·rw [pieceS] at h ⊢
   try dsimp only at h ⊢
   split at h
   ·rename_i h1
    rw [if_pos h1]
    have h0 := ha j d h1
    split at h
    ·rename_i h2
     rw [if_pos h2]
     have := pk_in (l := l) (i := (atomS l k j d).at_) (by rw [h2]; decide)
     dsimp only; omega
    ·rename_i h2
     rw [if_neg h2]
     split at h
     ·rename_i h3
      rw [if_pos h3]
      have := pk_in (l := l) (i := (atomS l k j d).at_) (by rw [h3]; decide)
      dsimp only; omega
     ·rename_i h3
      rw [if_neg h3]
      split at h
      ·rename_i h4
       rw [if_pos h4]
       have := pk_in (l := l) (i := (atomS l k j d).at_) (by rw [h4]; decide)
       dsimp only; omega
      ·rename_i h4
       rw [if_neg h4]
       split at h
       ·rename_i h5
        rw [if_pos h5]
        have := timesS_in h
        dsimp only; omega
       ·rename_i h5
        rw [if_neg h5]
        exact h0
   ·rename_i h1
    exact absurd h h1
  ·rw [concatS] at h ⊢
   try dsimp only at h ⊢
   split at h
   ·rename_i h1
    rw [if_pos h1]
    exact ⟨Nat.le_refl _, hj⟩
   ·rename_i h1
    rw [if_neg h1]
    split at h
    ·rename_i h2
     rw [if_pos h2]
     have h0 := hp j d h2
     have := hc _ d _ h0.2 h
     omega
    ·rename_i h2
     exact absurd h h2
  ·rw [eitherS] at h ⊢
   try dsimp only at h ⊢
   split at h
   ·rename_i h1
    rw [if_pos h1]
    have h0 := hc j d [] hj h1
    split at h
    ·rename_i h2
     rw [if_pos h2]
     have := pk_in (l := l) (i := (concatS l k j d []).at_) (by rw [h2]; decide)
     have := he _ d _ (by omega) h
     omega
    ·rename_i h2
     rw [if_neg h2]
     exact h0
   ·rename_i h1
    exact absurd h h1
theorem encN_sh (x : Nd) : ∃ k no s a b t, encN x = .agg [.int .i64 k, .bool no, s, .int .i64 a, .int .i64 b, t] ∧ s.leaf = true ∧ t.leaf = true ∧ still s = true ∧ still t = true := by
 cases x
 exact ⟨_, _, _, _, _, _, encN_eq .., slF_leaf .., slF_leaf .., slF_still .., slF_still ..⟩
open Go Go.Abs AbsSeat Ty
def Rok (f need : Nat) (l : List Int) (k : Nat) (S : Nat → Nat → Rd) (far : Nat) : Prop := ∀ (L : AV), Sl encI L l → ∀ (at_ d b prot : Nat) (H : Heap), prot ≤ b → hget H b 0 = some [L, .int .i64 (at_ : Nat)] → at_ + far ≤ l.length → d ≤ 16 → 5 * (l.length - at_) + need ≤ k →
 aLim cfg prot f [.ptr b 0 0, .int .i64 (d : Nat)] H = some (.tup [encN (S at_ d).n, .bool (S at_ d).ok], some (H.set b (.cells 0 [L, .int .i64 ((S at_ d).at_ : Nat)])))
theorem nd_end {prot : Nat} {res : List ResultVar} {fr : List AV} {H K : Heap} {b : Nat} {L : AV} {j : Nat} {s t : AV} {X : Blk} {no ok : Bool} {k a c : Int} (kp : Kp H b [L, .int .i64 (j : Nat)] K) (hs : still s = true) (ht : still t = true)
  (h1 : aResults cfg.P fr (K.set H.length X) res = some [.agg [.int .i64 k, .bool no, s, .int .i64 a, .int .i64 c, t], .bool ok]) :
  Fin ⟨cfg, prot, res, .trim H⟩ fr (K.set H.length X) (.tup [.agg [.int .i64 k, .bool no, s, .int .i64 a, .int .i64 c, t], .bool ok], some (H.set b (.cells 0 [L, .int .i64 (j : Nat)]))) :=
 (kp.new (Nat.le_refl _) X).fin h1 (.tup (.cons (.agg (.cons (.still rfl) (.cons (.still rfl) (.cons (.still hs) (.cons (.still rfl) (.cons (.still rfl) (.cons (.still ht) .nil))))))) (.cons (.still rfl) .nil)))
theorem slF_ne {α : Type} (f : Bool) (enc : α → AV) {l : List α} (h : 0 < l.length) : slF f enc l = .vs (l.map enc) f := by
 cases l with
 | nil => simp at h
 | cons x r => rfl
theorem hput6 {prot z : Nat} {K : Heap} {cs : List AV} (hg : hget K z 0 = some cs) (hc : cs.length = 6) (hp : prot ≤ z) (k : Int) (n : Bool) (s : AV) (x y : Int) (t : AV) (h1 : s.leaf = true) (h2 : t.leaf = true) :
  hput prot K z 0 0 [.int .i64 k, .bool n, s, .int .i64 x, .int .i64 y, t] = some (K.set z (.cells 0 [.int .i64 k, .bool n, s, .int .i64 x, .int .i64 y, t])) := by
 rw [hput_eq hg hp (by simp [hc]) (by simp only [List.all_cons, List.all_nil, h1, h2]; rfl)]
 have : splice cs 0 [.int .i64 k, .bool n, s, .int .i64 x, .int .i64 y, t] = [.int .i64 k, .bool n, s, .int .i64 x, .int .i64 y, t] := by
  unfold splice; simp [hc]
 rw [this]
theorem atom_ok (l : List Int) (hl : Runes l) (k : Nat) (hE : Rok 152 4 l k (fun j d => eitherS l k j d []) 0) : Rok 193 1 l (k + 1) (atomS l (k + 1)) 1 := by
 intro L hL at_ d b prot H hp hg hat hd hk
 have hb := hget_lt hg
 have hll := hl.1
 have hlZ : ∀ Z, (H ++ [Blk.cells 0 Z]).length = H.length + 1 := fun Z => by simp
 have hLb : ∀ x : Int, AV.blwL H.length [L, .int .i64 x] = true := fun x => plL_blwL _ _ (slI_plain hL _)
 have kp0 : Kp H b [L, .int .i64 at_] (H ++ [Blk.cells 0 [.int .i64 0, .bool false, .nilS, .int .i64 0, .int .i64 0, .nilS]]) := (Kp.start hg).app _
 have hz0 : hget (H ++ [Blk.cells 0 [.int .i64 0, .bool false, .nilS, .int .i64 0, .int .i64 0, .nilS]]) H.length 0 = some [.int .i64 0, .bool false, .nilS, .int .i64 0, .int .i64 0, .nilS] := by simp [hget]
 have hK0l := hlZ [.int .i64 0, .bool false, .nilS, .int .i64 0, .int .i64 0, .nilS]
 have hww : IntKind.i64.wrap ((at_ : Int) + 1) = ((at_ + 1 : Nat) : Int) := by rw [wrap64 (by omega) (by omega)]; simp
 have hwd : IntKind.i64.wrap ((d : Int) + 1) = ((d + 1 : Nat) : Int) := by rw [wrap64 (by omega) (by omega)]; simp
 have n0 := fun (es : List Sg) (K : Heap) (hK : prot ≤ K.length) => one_ok (.vs (es.map encG) true) rfl rfl (fun _ _ => .still rfl) prot K hK rfl
 refine trim_slim rfl (by kernel_rfl) (by kernel_rfl) (by kernel_rfl) Tryz.func193 s193 (by simp [Tryz.f193]) fun fr hlen h => ?_
 simp only [Has, Nat.zero_add] at h
 obtain ⟨a0, a1, -⟩ := h
 simp only [Tryz.f193] at hlen ⊢
 unfold g193
 simp only [w9, simprocAttr, u199, hlen, a0]
 generalize H ++ [Blk.cells 0 [.int .i64 0, .bool false, .nilS, .int .i64 0, .int .i64 0, .nilS]] = K0 at *
 have hbe : b < K0.length := by omega
 have n1 := peek_ok l L hL hl at_ b prot K0 (by omega) kp0.get
 have hput1 : hput prot K0 b 0 1 [.int .i64 ((at_ + 1 : Nat))] = some (K0.set b (.cells 0 [L, .int .i64 ((at_ + 1 : Nat))])) := by
  rw [hput_eq kp0.get hp (by simp) (by simp [AV.leaf])]; rfl
 have hset : ∀ (c d : List AV), (K0.set b (.cells 0 c)).set b (.cells 0 d) = K0.set b (.cells 0 d) := fun c d => List.set_set ..
 have hgs : ∀ c, hget (K0.set b (.cells 0 c)) b 0 = some c := fun c => hget_set_at hbe
 have kps := fun x : Int => kp0.put (hLb x)
 have hzs : ∀ c, hget (K0.set b (.cells 0 c)) H.length 0 = some [.int .i64 0, .bool false, .nilS, .int .i64 0, .int .i64 0, .nilS] := fun c => by rw [hget_set_ne (by omega)]; exact hz0
 have hputZ : ∀ c k n s x y t, s.leaf = true → t.leaf = true → hput prot (K0.set b (.cells 0 c)) H.length 0 0 [.int .i64 k, .bool n, s, .int .i64 x, .int .i64 y, t] = some ((K0.set b (.cells 0 c)).set H.length (.cells 0 [.int .i64 k, .bool n, s, .int .i64 x, .int .i64 y, t])) := fun c k n s x y t h1 h2 => by
  exact hput6 (hzs c) rfl (by omega) k n s x y t h1 h2
 have hgZ : ∀ c d, hget ((K0.set b (.cells 0 c)).set H.length (.cells 0 d)) H.length 0 = some d := fun c d => hget_set_at (by simp; omega)
 have hlK : ∀ c, prot ≤ (K0.set b (.cells 0 c)).length := fun c => by simp; omega
 unfold atomS
 by_cases h1 : pk l at_ = 40
 ·simp only [h1, if_true]
  by_cases h2 : 16 ≤ d
  ·simp only [h2, if_true]
   have d1 : decide (16 ≤ (d : Int)) = true := decide_eq_true (by omega)
   have hp1 := hputZ [L, .int .i64 ((at_ + 1 : Nat))] 0 false .nilS 0 0 .nilS rfl rfl
   simp only [w9, simprocAttr, u199, hlen, a0, a1, n1, h1, kp0.get, hww, hput1, d1, hp1]
   exact nd_end (s := .nilS) (t := .nilS) (kps _) rfl rfl (by simp [w9, u199, hlen, hgZ])
  ·simp only [h2, if_false]
   have d1 : decide (16 ≤ (d : Int)) = false := decide_eq_false (by omega)
   have n2 := hE L hL (at_ + 1) (d + 1) b prot _ hp (hgs [L, .int .i64 ((at_ + 1 : Nat))]) (by omega) (by omega) (by omega)
   rw [hset] at n2
   dsimp only at n2
   generalize hr : eitherS l k (at_ + 1) (d + 1) [] = r at *
   obtain ⟨x, j, ok⟩ := r
   obtain ⟨k', no, s, x1, x2, t, hx, hs, ht, hs2, ht2⟩ := encN_sh x
   dsimp only at n2 ⊢
   rw [hx] at n2
   have hs' := hs
   have ht' := ht
   unfold AV.leaf at hs ht
   have hls : ∀ c, (K0.set b (.cells 0 c)).length = H.length + 1 := fun c => by simp [hK0l]
   have hpl1 : prot ≤ H.length + 1 := by omega
   have kp2 := (kps (j : Nat)).app [Blk.cells 0 [.int .i64 k', .bool no, s, .int .i64 x1, .int .i64 x2, t]]
   have hz2 := hget_mono (hzs [L, .int .i64 (j : Nat)]) [Blk.cells 0 [.int .i64 k', .bool no, s, .int .i64 x1, .int .i64 x2, t]]
   have hn2 : hget (K0.set b (.cells 0 [L, .int .i64 (j : Nat)]) ++ [Blk.cells 0 [.int .i64 k', .bool no, s, .int .i64 x1, .int .i64 x2, t]]) (H.length + 1) 0 = some [.int .i64 k', .bool no, s, .int .i64 x1, .int .i64 x2, t] := by
    rw [hget_new (hls _).symm, if_pos rfl]
   have hl2 : (K0.set b (.cells 0 [L, .int .i64 (j : Nat)]) ++ [Blk.cells 0 [.int .i64 k', .bool no, s, .int .i64 x1, .int .i64 x2, t]]).length = H.length + 2 := by simp [hK0l]
   simp only [w9, simprocAttr, u199, hlen, a0, a1, n1, h1, kp0.get, hww, hput1, d1, hwd, n2, hs, ht, hls, hpl1]
   generalize K0.set b (.cells 0 [L, .int .i64 (j : Nat)]) ++ [Blk.cells 0 [.int .i64 k', .bool no, s, .int .i64 x1, .int .i64 x2, t]] = K2 at *
   have hns : ∀ c, hget (K2.set b (.cells 0 c)) (H.length + 1) 0 = some [.int .i64 k', .bool no, s, .int .i64 x1, .int .i64 x2, t] := fun c => by rw [hget_set_ne (by omega)]; exact hn2
   have hnsZ : ∀ d, hget (K2.set H.length (.cells 0 d)) (H.length + 1) 0 = some [.int .i64 k', .bool no, s, .int .i64 x1, .int .i64 x2, t] := fun d => by rw [hget_set_ne (by omega)]; exact hn2
   have hnsZ2 : ∀ c d, hget ((K2.set b (.cells 0 c)).set H.length (.cells 0 d)) (H.length + 1) 0 = some [.int .i64 k', .bool no, s, .int .i64 x1, .int .i64 x2, t] := fun c d => by rw [hget_set_ne (by omega)]; exact hns c
   have hzs2 : ∀ c, hget (K2.set b (.cells 0 c)) H.length 0 = some [.int .i64 0, .bool false, .nilS, .int .i64 0, .int .i64 0, .nilS] := fun c => by rw [hget_set_ne (by omega)]; exact hz2
   have hp0 := hput6 hz2 rfl (by omega : prot ≤ H.length) k' no s x1 x2 t hs' ht'
   have hp1 := fun c => hput6 (hzs2 c) rfl (by omega : prot ≤ H.length) k' no s x1 x2 t hs' ht'
   have hgZ2 : ∀ d, hget (K2.set H.length (.cells 0 d)) H.length 0 = some d := fun d => hget_set_at (by omega)
   have hgZ3 : ∀ c d, hget ((K2.set b (.cells 0 c)).set H.length (.cells 0 d)) H.length 0 = some d := fun c d => hget_set_at (by simp; omega)
   cases ok with
   | false =>
    simp only [Bool.false_eq_true, if_false, hx]
    simp only [w9, simprocAttr, u199, hlen, hp0]
    refine ⟨?_, ?_⟩
    ·rw [show befs [] _ = [0, 0, 2, 6, 14, 30, 31, 127] from by kernel_rfl]
     simp [w9, u199, hlen, drawOk, chained, mayAt, sameAt, bound, List.range_succ, Nat.testBit, a0, hn2, hp0, hnsZ, avbeq_refl]
    exact nd_end kp2 hs2 ht2 (by simp [w9, u199, hlen, hgZ2])
   | true =>
    have hj := (readS_in l k).2.2.2 (at_ + 1) (d + 1) [] (by omega) (by rw [hr])
    rw [hr] at hj
    dsimp only at hj
    have n3 := take_ok l L hL hl j b 41 (by omega) prot K2 hp kp2.get
    simp only [if_true]
    by_cases h3 : pk l j = 41
    ·simp only [h3, if_true, decide_true, hx] at n3 ⊢
     simp only [w9, simprocAttr, u199, hlen, a0, n3, hp1]
     refine ⟨?_, ?_⟩
     ·rw [show befs [] _ = [0, 0, 2, 6, 14, 30, 31, 127] from by kernel_rfl]
      simp [w9, u199, hlen, drawOk, chained, mayAt, sameAt, bound, List.range_succ, Nat.testBit, a0, hn2, hns, hnsZ2, hp1, avbeq_refl]
     exact nd_end (kp2.put (hLb _)) hs2 ht2 (by simp [w9, u199, hlen, hgZ3])
    ·simp only [h3, if_false, decide_false, hx] at n3 ⊢
     simp only [w9, simprocAttr, u199, hlen, a0, n3, hp1]
     refine ⟨?_, ?_⟩
     ·rw [show befs [] _ = [0, 0, 2, 6, 14, 30, 31, 127] from by kernel_rfl]
      simp [w9, u199, hlen, drawOk, chained, mayAt, sameAt, bound, List.range_succ, Nat.testBit, a0, hn2, hns, hnsZ2, hp1, avbeq_refl]
     exact nd_end (kp2.put (hLb _)) hs2 ht2 (by simp [w9, u199, hlen, hgZ3])
 have c1 : decide (pk l at_ = 40) = false := decide_eq_false h1
 simp only [h1, if_false]
 by_cases h2 : pk l at_ = 91
 ·have hj := pk_in (l := l) (i := at_) (by rw [h2]; decide)
  simp only [h2, if_true]
  have n2 := class_ok l L hL hl (at_ + 1) b (by omega) prot _ hp (hgs [L, .int .i64 ((at_ + 1 : Nat))])
  rw [hset] at n2
  generalize hr : classS l (at_ + 1) = r at *
  obtain ⟨x, j, ok⟩ := r
  obtain ⟨k', no, s, x1, x2, t, hx, hs, ht, hs2, ht2⟩ := encN_sh x
  dsimp only at n2 ⊢
  rw [hx] at n2 ⊢
  have hp1 := hputZ [L, .int .i64 (j : Nat)] k' no s x1 x2 t hs ht
  unfold AV.leaf at hs ht
  simp only [w9, simprocAttr, u199, hlen, a0, n1, h2, kp0.get, hww, hput1, n2, hp1]
  exact nd_end (kps _) hs2 ht2 (by simp [w9, u199, hlen, hgZ])
 have c2 : decide (pk l at_ = 91) = false := decide_eq_false h2
 simp only [h2, if_false]
 by_cases h3 : pk l at_ = 46
 ·simp only [h3, if_true]
  have hp1 := hputZ [L, .int .i64 ((at_ + 1 : Nat))] 1 true .nilS 0 0 .nilS rfl rfl
  simp only [w9, simprocAttr, u199, hlen, a0, n1, h3, kp0.get, hww, hput1, hp1]
  exact nd_end (s := .nilS) (t := .nilS) (kps _) rfl rfl (by simp [w9, u199, hlen, hgZ])
 have c3 : decide (pk l at_ = 46) = false := decide_eq_false h3
 simp only [h3, if_false]
 by_cases h4 : pk l at_ = 92
 ·simp only [h4, if_true]
  have n2 := esc_ok l L hL hl (at_ + 1) b (by omega) prot _ hp (hgs [L, .int .i64 ((at_ + 1 : Nat))])
  rw [hset] at n2
  have he := escS_len (pk l (at_ + 1))
  rw [encN_eq, slF_ne true encG he.1]
  generalize hes : escSX (pk l (at_ + 1)) = q at *
  obtain ⟨es, ok⟩ := q
  dsimp only at n2 he ⊢
  have n3 := n0 es (K0.set b (.cells 0 [L, .int .i64 ((at_ + 1 + 1 : Nat))])) (hlK _)
  have hp1 := hputZ [L, .int .i64 ((at_ + 1 + 1 : Nat))] 1 false (.vs (es.map encG) true) 0 0 .nilS rfl rfl
  simp only [w9, simprocAttr, u199, hlen, a0, n1, h4, kp0.get, hww, hput1, n2, n3, hp1]
  exact nd_end (s := .vs (es.map encG) true) (t := .nilS) (kps _) rfl rfl (by simp [w9, u199, hlen, hgZ])
 have c4 : decide (pk l at_ = 92) = false := decide_eq_false h4
 simp only [h4, if_false]
 have n3 := n0 [⟨pk l at_, pk l at_⟩] (K0.set b (.cells 0 [L, .int .i64 ((at_ + 1 : Nat))])) (hlK _)
 have n4 := has_ok ats (pk l at_) (by decide) prot (K0.set b (.cells 0 [L, .int .i64 ((at_ + 1 : Nat))])) (hlK _)
 unfold ats at n4
 have hp1 := hputZ [L, .int .i64 ((at_ + 1 : Nat))] 1 false (.vs ([(⟨pk l at_, pk l at_⟩ : Sg)].map encG) true) 0 0 .nilS rfl rfl
 rw [encN_eq, slF_ne true encG (by simp)]
 have h5 : pk l at_ ≠ -1 := fun h => by have := pk_lt (l := l) (i := at_) (by omega); rw [this] at h; have := hl.2 _ (List.getElem_mem (l := l) (n := at_) (by omega)); omega
 have c5 : decide (¬ pk l at_ = -1) = true := decide_eq_true h5
 have c6 : decide (pk l at_ ≠ -1) = true := decide_eq_true h5
 rw [c6, Bool.true_and]
 simp only [w9, simprocAttr, u199, hlen, a0, n1, c1, c2, c3, c4, c5, kp0.get, hww, hput1, litG1, n3, n4, hp1]
 exact nd_end (s := .vs ([(⟨pk l at_, pk l at_⟩ : Sg)].map encG) true) (t := .nilS) (kps _) rfl rfl (by simp [w9, u199, hlen, hgZ, ats])
theorem litNX (k : Int) (n : Bool) (s : AV) (x y : Int) (t : AV) (h1 : s.leaf = true) (h2 : t.leaf = true) (K : Heap) : aBuildSlice Tryz.prog K 174 1 [(0, .agg [.int .i64 k, .bool n, s, .int .i64 x, .int .i64 y, t])] =
  some (.bs ⟨K.length, 0, 0, 1, 1, 6, true, true⟩, some (K ++ [Blk.cells 0 [.int .i64 k, .bool n, s, .int .i64 x, .int .i64 y, t]])) := by
 have e : ([.int .i64 k, .bool n, s, .int .i64 x, .int .i64 y, t] : List AV).all AV.leaf = true := by simp only [List.all_cons, List.all_nil, h1, h2]; rfl
 have e2 : fillA (fun i => some (i * 6, 6)) (zrep 1 [.int .i64 0, .bool false, .nilS, .int .i64 0, .int .i64 0, .nilS]) [(0, .agg [.int .i64 k, .bool n, s, .int .i64 x, .int .i64 y, t])] = some [.int .i64 k, .bool n, s, .int .i64 x, .int .i64 y, t] := rfl
 unfold aBuildSlice
 rw [rowN.elem, Option.bind_some, rowN.size, Option.bind_some, rowN.agg, Option.bind_some, ze176, Option.bind_some]
 rw [if_pos ⟨by decide, rfl, by decide⟩]
 simp only [AV.cells]
 rw [e2, Option.bind_some, if_pos e, if_neg (by decide)]
theorem rep_end {prot : Nat} {res : List ResultVar} {fr : List AV} {H K : Heap} {b : Nat} {L : AV} {j z : Nat} {s t : AV} {X : Blk} {no no' ok : Bool} {k k' a c a' c' : Int} (kp : Kp H b [L, .int .i64 (j : Nat)] K) (hs : still s = true) (ht : still t = true)
  (hz : H.length < z) (hg : hget K z 0 = some [.int .i64 k, .bool no, s, .int .i64 a, .int .i64 c, t])
  (h1 : aResults cfg.P fr (K.set H.length X) res = some [.agg [.int .i64 k', .bool no', .nilS, .int .i64 a', .int .i64 c', .bs ⟨z, 0, 0, 1, 1, 6, true, true⟩], .bool ok]) :
  Fin ⟨cfg, prot, res, .trim H⟩ fr (K.set H.length X) (.tup [.agg [.int .i64 k', .bool no', .nilS, .int .i64 a', .int .i64 c', .vs [.agg [.int .i64 k, .bool no, s, .int .i64 a, .int .i64 c, t]] true], .bool ok], some (H.set b (.cells 0 [L, .int .i64 (j : Nat)]))) := by
 have hg' : hget (K.set H.length X) z 0 = some [.int .i64 k, .bool no, s, .int .i64 a, .int .i64 c, t] := by rw [hget_set_ne (by omega)]; exact hg
 have hf : Frz (K.set H.length X) H.length (.bs ⟨z, 0, 0, 1, 1, 6, true, true⟩) (.vs [.agg [.int .i64 k, .bool no, s, .int .i64 a, .int .i64 c, t]] true) :=
  Frz.bs (s := ⟨z, 0, 0, 1, 1, 6, true, true⟩) (by simp; omega) (Nat.succ_pos 5) rfl hg' (w := [.int .i64 k, .bool no, s, .int .i64 a, .int .i64 c, t]) rfl (x := [.int .i64 k, .bool no, s, .int .i64 a, .int .i64 c, t]) (.cons (.still rfl) (.cons (.still rfl) (.cons (.still hs) (.cons (.still rfl) (.cons (.still rfl) (.cons (.still ht) .nil))))))
 exact (kp.new (Nat.le_refl _) X).fin h1 (.tup (.cons (.agg (.cons (.still rfl) (.cons (.still rfl) (.cons (.still rfl) (.cons (.still rfl) (.cons (.still rfl) (.cons hf .nil))))))) (.cons (.still rfl) .nil)))
theorem piece_ok (l : List Int) (hl : Runes l) (k : Nat) (hA : Rok 193 1 l k (atomS l k) 1) : Rok 186 2 l (k + 1) (pieceS l (k + 1)) 1 := by
 intro L hL at_ d b prot H hp hg hat hd hk
 have hb := hget_lt hg
 have hll := hl.1
 have hlZ : ∀ Z, (H ++ [Blk.cells 0 Z]).length = H.length + 1 := fun Z => by simp
 have hLb : ∀ x : Int, AV.blwL H.length [L, .int .i64 x] = true := fun x => plL_blwL _ _ (slI_plain hL _)
 have kp0 : Kp H b [L, .int .i64 at_] (H ++ [Blk.cells 0 [.int .i64 0, .bool false, .nilS, .int .i64 0, .int .i64 0, .nilS]]) := (Kp.start hg).app _
 have hz0 : hget (H ++ [Blk.cells 0 [.int .i64 0, .bool false, .nilS, .int .i64 0, .int .i64 0, .nilS]]) H.length 0 = some [.int .i64 0, .bool false, .nilS, .int .i64 0, .int .i64 0, .nilS] := by simp [hget]
 have hK0l := hlZ [.int .i64 0, .bool false, .nilS, .int .i64 0, .int .i64 0, .nilS]
 refine trim_slim rfl (by kernel_rfl) (by kernel_rfl) (by kernel_rfl) Tryz.func186 s186 (by simp [Tryz.f186]) fun fr hlen h => ?_
 simp only [Has, Nat.zero_add] at h
 obtain ⟨a0, a1, -⟩ := h
 simp only [Tryz.f186] at hlen ⊢
 unfold g186
 simp only [w9, simprocAttr, u199, hlen, a0, a1]
 generalize H ++ [Blk.cells 0 [.int .i64 0, .bool false, .nilS, .int .i64 0, .int .i64 0, .nilS]] = K0 at *
 have n1 := hA L hL at_ d b prot K0 hp kp0.get hat hd (by omega)
 rw [pieceS]
 have hin := (readS_in l k).1 at_ d
 generalize hr : atomS l k at_ d = r at *
 obtain ⟨x, j, ok⟩ := r
 obtain ⟨k', no, s, x1, x2, t, hx, hs, ht, hs2, ht2⟩ := encN_sh x
 dsimp only at n1 hin ⊢
 rw [hx] at n1
 have hs' := hs
 have ht' := ht
 unfold AV.leaf at hs ht
 have hls : ∀ c, (K0.set b (.cells 0 c)).length = H.length + 1 := fun c => by simp [hK0l]
 have hpl1 : prot ≤ H.length + 1 := by omega
 have kp2 := (kp0.put (hLb (j : Nat))).app [Blk.cells 0 [.int .i64 k', .bool no, s, .int .i64 x1, .int .i64 x2, t]]
 have hz1 : hget (K0.set b (.cells 0 [L, .int .i64 (j : Nat)])) H.length 0 = some [.int .i64 0, .bool false, .nilS, .int .i64 0, .int .i64 0, .nilS] := by rw [hget_set_ne (by omega)]; exact hz0
 have hz2 := hget_mono hz1 [Blk.cells 0 [.int .i64 k', .bool no, s, .int .i64 x1, .int .i64 x2, t]]
 have hn2 : hget (K0.set b (.cells 0 [L, .int .i64 (j : Nat)]) ++ [Blk.cells 0 [.int .i64 k', .bool no, s, .int .i64 x1, .int .i64 x2, t]]) (H.length + 1) 0 = some [.int .i64 k', .bool no, s, .int .i64 x1, .int .i64 x2, t] := by
  rw [hget_new (hls _).symm, if_pos rfl]
 have hl2 : (K0.set b (.cells 0 [L, .int .i64 (j : Nat)]) ++ [Blk.cells 0 [.int .i64 k', .bool no, s, .int .i64 x1, .int .i64 x2, t]]).length = H.length + 2 := by simp [hK0l]
 simp only [w9, simprocAttr, u199, hlen, n1, hs, ht, hls, hpl1]
 generalize K0.set b (.cells 0 [L, .int .i64 (j : Nat)]) ++ [Blk.cells 0 [.int .i64 k', .bool no, s, .int .i64 x1, .int .i64 x2, t]] = K2 at *
 have hp0 := hput6 hz2 rfl (by omega : prot ≤ H.length) k' no s x1 x2 t hs' ht'
 have hgZ2 : ∀ d, hget (K2.set H.length (.cells 0 d)) H.length 0 = some d := fun d => hget_set_at (by omega)
 cases ok with
 | false =>
  simp only [Bool.false_eq_true, if_false, hx]
  simp only [w9, simprocAttr, u199, hlen, hn2, hp0]
  exact nd_end kp2 hs2 ht2 (by simp [w9, u199, hlen, hgZ2])
 | true =>
  have hin := hin rfl
  have n2 := peek_ok l L hL hl j b prot K2 (by omega) kp2.get
  have hww : IntKind.i64.wrap ((j : Int) + 1) = ((j + 1 : Nat) : Int) := by rw [wrap64 (by omega) (by omega)]; simp
  have hput1 : hput prot K2 b 0 1 [.int .i64 ((j + 1 : Nat))] = some (K2.set b (.cells 0 [L, .int .i64 ((j + 1 : Nat))])) := by
   rw [hput_eq kp2.get hp (by simp) (by simp [AV.leaf])]; rfl
  have hset : ∀ (c d : List AV), (K2.set b (.cells 0 c)).set b (.cells 0 d) = K2.set b (.cells 0 d) := fun c d => List.set_set ..
  have hgs : ∀ c, hget (K2.set b (.cells 0 c)) b 0 = some c := fun c => hget_set_at (by omega)
  have kps := fun x : Int => kp2.put (hLb x)
  have hns : ∀ c, hget (K2.set b (.cells 0 c)) (H.length + 1) 0 = some [.int .i64 k', .bool no, s, .int .i64 x1, .int .i64 x2, t] := fun c => by rw [hget_set_ne (by omega)]; exact hn2
  have hl3 : ∀ c, (K2.set b (.cells 0 c)).length = H.length + 2 := fun c => by simp [hl2]
  have hzs : ∀ c x, hget (K2.set b (.cells 0 c) ++ [x]) H.length 0 = some [.int .i64 0, .bool false, .nilS, .int .i64 0, .int .i64 0, .nilS] := fun c x => hget_mono (by rw [hget_set_ne (by omega)]; exact hz2) _
  have hlit := litNX k' no s x1 x2 t hs' ht'
  have hp1 := fun c x a' c' B => hput6 (hzs c x) rfl (by omega : prot ≤ H.length) 4 false .nilS a' c' (.bs B) rfl rfl
  have hgZ3 : ∀ c x d, hget ((K2.set b (.cells 0 c) ++ [x]).set H.length (.cells 0 d)) H.length 0 = some d := fun c x d => hget_set_at (by simp; omega)
  have hn3 : ∀ c, hget (K2.set b (.cells 0 c) ++ [Blk.cells 0 [.int .i64 k', .bool no, s, .int .i64 x1, .int .i64 x2, t]]) (H.length + 2) 0 = some [.int .i64 k', .bool no, s, .int .i64 x1, .int .i64 x2, t] := fun c => by rw [hget_new (hl3 _).symm, if_pos rfl]
  have henc : ∀ a' c', encN (ndR x a' c') = .agg [.int .i64 4, .bool false, .nilS, .int .i64 a', .int .i64 c', .vs [.agg [.int .i64 k', .bool no, s, .int .i64 x1, .int .i64 x2, t]] true] := fun a' c' => by
   rw [ndR, encN_eq, ← hx]; rfl
  simp only [if_true]
  by_cases h1 : pk l j = 43
  ·simp only [h1, if_true, henc]
   simp only [w9, simprocAttr, u199, hlen, a0, n2, h1, kp2.get, hww, hput1, hns, hlit, hl3, hp1]
   exact rep_end ((kps _).app _) hs2 ht2 (by omega) (hn3 _) (by simp [w9, u199, hlen, hgZ3])
  have c1 : decide (pk l j = 43) = false := decide_eq_false h1
  simp only [h1, if_false]
  by_cases h2 : pk l j = 42
  ·have c1 : decide ((42 : Int) = 43) = false := by decide
   simp only [h2, if_true, henc]
   simp only [w9, simprocAttr, u199, hlen, a0, n2, h2, kp2.get, hww, hput1, hns, hlit, hl3, hp1]
   exact rep_end ((kps _).app _) hs2 ht2 (by omega) (hn3 _) (by simp [w9, u199, hlen, hgZ3])
  have c2 : decide (pk l j = 42) = false := decide_eq_false h2
  simp only [h2, if_false]
  by_cases h3 : pk l j = 63
  ·have c1 : decide ((63 : Int) = 43) = false := by decide
   simp only [h3, if_true, henc]
   simp only [w9, simprocAttr, u199, hlen, a0, n2, h3, kp2.get, hww, hput1, hns, hlit, hl3, hp1]
   exact rep_end ((kps _).app _) hs2 ht2 (by omega) (hn3 _) (by simp [w9, u199, hlen, hgZ3])
  have c3 : decide (pk l j = 63) = false := decide_eq_false h3
  simp only [h3, if_false]
  by_cases h4 : pk l j = 123
  ·have hj1 := pk_in (l := l) (i := j) (by rw [h4]; decide)
   have n3 := times_ok l L hL hl (j + 1) b (by omega) prot _ hp (hgs [L, .int .i64 ((j + 1 : Nat))])
   rw [hset] at n3
   simp only [h4, if_true, henc]
   simp only [w9, simprocAttr, u199, hlen, a0, n2, h4, kp2.get, hww, hput1, n3, hns, hlit, hl3, hp1]
   exact rep_end ((kps _).app _) hs2 ht2 (by omega) (hn3 _) (by simp [w9, u199, hlen, hgZ3])
  have c4 : decide (pk l j = 123) = false := decide_eq_false h4
  simp only [h4, if_false, hx]
  simp only [w9, simprocAttr, u199, hlen, a0, n2, c1, c2, c3, c4, hn2, hp0]
  exact nd_end kp2 hs2 ht2 (by simp [w9, u199, hlen, hgZ2])
open Go Go.Abs AbsSeat Ty
theorem hxtN : (∃ e', Tryz.prog.underlying 174 = some (.slice e')) ∨ Tryz.prog.underlying 174 = some .string := .inl ⟨_, Tryz.underlying174⟩
theorem elemL {K : Heap} {z : Nat} {x : Nd} (h : hget K z 0 = some (encN x).cells) : elemCells K 6 (.bs ⟨z, 0, 0, 1, 1, 6, true, true⟩) = some ([x].length, cellsOf encN [x]) := by
 have e : cellsOf encN [x] = (encN x).cells := by simp [cellsOf]
 have hl := encN_len x
 have hw : win (encN x).cells 0 (1 * 6) = some (encN x).cells := by
  simp only [win, Nat.zero_add, List.drop_zero]
  rw [if_pos (by omega), List.take_of_length_le (by omega)]
 simp only [elemCells, if_true, h, Option.bind_some, hw, Option.map_some, e, List.length_cons, List.length_nil, Nat.zero_add]
theorem nd_endR {prot : Nat} {res : List ResultVar} {fr : List AV} {H K : Heap} {b : Nat} {L : AV} {j : Nat} {v : AV} {l : List Nd} {X : Blk} {no ok : Bool} {k a c : Int} (kp : Kp H b [L, .int .i64 (j : Nat)] K) (hrow : Row encN 6 true (H.length + 1) K v l) (hne : v = .nilS ∨ l ≠ [])
  (h1 : aResults cfg.P fr (K.set H.length X) res = some [.agg [.int .i64 k, .bool no, .nilS, .int .i64 a, .int .i64 c, v], .bool ok]) :
  Fin ⟨cfg, prot, res, .trim H⟩ fr (K.set H.length X) (.tup [encN (.mk k no false [] a c false l), .bool ok], some (H.set b (.cells 0 [L, .int .i64 (j : Nat)]))) := by
 have hf := ((hrow.setne (b' := H.length) (by omega) X).low (base' := H.length) (by omega)).frozen encN_T (by decide) rfl hne
 refine (kp.new (Nat.le_refl _) X).fin h1 ?_
 rw [encN_eq, slF_slv]
 exact .tup (.cons (.agg (.cons (.still rfl) (.cons (.still rfl) (.cons (.still rfl) (.cons (.still rfl) (.cons (.still rfl) (.cons hf .nil))))))) (.cons (.still rfl) .nil))
theorem concat_ok (l : List Int) (hl : Runes l) (k : Nat) (hP : ∀ k', k' < k → Rok 186 2 l k' (pieceS l k') 1) : Rok 172 3 l k (fun j d => concatS l k j d []) 0 := by
 intro L hL at_ d b prot H hp hg hat hd hk
 have hb := hget_lt hg
 have hll := hl.1
 have hlZ : ∀ Z, (H ++ [Blk.cells 0 Z]).length = H.length + 1 := fun Z => by simp
 have hLb : ∀ x : Int, AV.blwL H.length [L, .int .i64 x] = true := fun x => plL_blwL _ _ (slI_plain hL _)
 have kp0 : Kp H b [L, .int .i64 at_] (H ++ [Blk.cells 0 [.int .i64 0, .bool false, .nilS, .int .i64 0, .int .i64 0, .nilS]]) := (Kp.start hg).app _
 have hz0 : hget (H ++ [Blk.cells 0 [.int .i64 0, .bool false, .nilS, .int .i64 0, .int .i64 0, .nilS]]) H.length 0 = some [.int .i64 0, .bool false, .nilS, .int .i64 0, .int .i64 0, .nilS] := by simp [hget]
 have hK0l := hlZ [.int .i64 0, .bool false, .nilS, .int .i64 0, .int .i64 0, .nilS]
 refine trim_slim rfl (by kernel_rfl) (by kernel_rfl) (by kernel_rfl) Tryz.func172 s172 (by simp [Tryz.f172]) fun fr hlen h => ?_
 simp only [Has, Nat.zero_add] at h
 obtain ⟨a0, a1, -⟩ := h
 simp only [Tryz.f172] at hlen ⊢
 unfold g172
 simp only [w9, simprocAttr, u199]
 generalize H ++ [Blk.cells 0 [.int .i64 0, .bool false, .nilS, .int .i64 0, .int .i64 0, .nilS]] = K0 at *
 refine loop_rule (fun m fr H' => ∃ (j : Nat) (acc : List Nd) (v : AV), j ≤ l.length ∧ 5 * (l.length - j) + 3 ≤ m ∧ m ≤ k ∧ acc.length ≤ j ∧ fr.length = 47 ∧ fget fr 0 = .ptr b 0 0 ∧ fget fr 1 = .int .i64 (d : Nat) ∧ fget fr 4 = .ptr H.length 0 0 ∧ fget fr 6 = v
  ∧ H.length + 1 ≤ H'.length ∧ Kp H b [L, .int .i64 (j : Nat)] H' ∧ hget H' H.length 0 = some [.int .i64 0, .bool false, .nilS, .int .i64 0, .int .i64 0, .nilS]
  ∧ Row encN 6 true (H.length + 1) H' v acc ∧ (v = .nilS ∨ acc ≠ []) ∧ concatS l k at_ d [] = concatS l m j d acc) ?_ k _ _ ⟨at_, [], .nilS, by
   refine ⟨by omega, by omega, by omega, by simp, ?_⟩
   simp [w9, hlen, a0, a1, kp0, hz0, hK0l, Row.nil]⟩
 clear kp0 hz0 hK0l K0 a0 a1 hlen fr
 rintro m fr H' ⟨j, acc, v, hjl, hjk, hmk, hal, hlen, a0, a1, a4, a6, hH', kp, hz, hrow, hne, hc⟩ ih
 obtain ⟨m, rfl⟩ : ∃ m', m = m' + 1 := ⟨m - 1, by omega⟩
 have n1 := peek_ok l L hL hl j b prot H' (by omega) kp.get
 by_cases h1 : pk l j = -1 ∨ pk l j = 124 ∨ pk l j = 41
 ·have e : concatS l (m + 1) j d acc = ⟨conN acc, j, true⟩ := by rw [concatS, if_pos h1]
  rw [hc, e]
  dsimp only
  have hlen2 := hrow.len Tryz.underlying174
  have hgZ : ∀ d, hget (H'.set H.length (.cells 0 d)) H.length 0 = some d := fun d => hget_set_at (by omega)
  have q : (decide (¬ pk l j = -1) = false ∧ True ∧ True) ∨ (decide (¬ pk l j = -1) = true ∧ decide (¬ pk l j = 124) = false ∧ True) ∨ (decide (¬ pk l j = -1) = true ∧ decide (¬ pk l j = 124) = true ∧ decide (¬ pk l j = 41) = false) := by
   rcases h1 with h1 | h1 | h1 <;> rw [h1]
   ·exact .inl ⟨rfl, trivial, trivial⟩
   ·exact .inr (.inl ⟨rfl, rfl, trivial⟩)
   ·exact .inr (.inr ⟨rfl, rfl, rfl⟩)
  match acc, hrow, hne, hlen2 with
  | [], hrow, hne, hlen2 =>
   have hp1 := hput6 hz rfl (by omega : prot ≤ H.length) 0 false .nilS 0 0 .nilS rfl rfl
   simp only [List.length_nil] at hlen2
   rcases q with ⟨c1, c2, c3⟩ | ⟨c1, c2, c3⟩ | ⟨c1, c2, c3⟩
   all_goals
    simp only [w9, simprocAttr, u199, hlen, a0, a4, a6, n1, c1, c2, c3, hlen2, hp1]
    exact nd_end (s := .nilS) (t := .nilS) kp rfl rfl (by simp [w9, u199, hlen, a4, hgZ])
  | [x], hrow, hne, hlen2 =>
   obtain ⟨k', no, s, x1, x2, t, hx, hs, ht, hs2, ht2⟩ := encN_sh x
   have hp1 := hput6 hz rfl (by omega : prot ≤ H.length) k' no s x1 x2 t hs ht
   rcases hrow with ⟨_, q2⟩ | ⟨bb, ver, rfl, hbb, hgg, hv4⟩
   ·cases q2
   have hcl : cellsOf encN [x] = [.int .i64 k', .bool no, s, .int .i64 x1, .int .i64 x2, t] := by simp [cellsOf, hx, AV.cells]
   rw [hcl] at hgg
   have e1 : aIndexAddr Tryz.prog 174 (.bs ⟨bb, ver, 0, [x].length, 0, 6, true, false⟩) (.int .i64 0) = some (.ptr bb ver 0) := by simp [aIndexAddr, asNat, Tryz.underlying174, sz176]
   simp only [List.length_cons, List.length_nil, Nat.zero_add] at e1 a6 hlen2
   simp only [conN, hx]
   unfold AV.leaf at hs ht
   rcases q with ⟨c1, c2, c3⟩ | ⟨c1, c2, c3⟩ | ⟨c1, c2, c3⟩
   all_goals
    simp only [w9, simprocAttr, u199, hlen, a0, a4, a6, n1, c1, c2, c3, hlen2, e1, hgg, hp1]
    exact nd_end kp hs2 ht2 (by simp [w9, u199, hlen, a4, hgZ])
  | x :: y :: r, hrow, hne, hlen2 =>
   have hvl : v.leaf = true := by rcases hrow with ⟨q, _⟩ | ⟨b, ver, q, _⟩ <;> rw [q] <;> rfl
   have hvc : v.cells = [v] := by rcases hrow with ⟨q, _⟩ | ⟨b, ver, q, _⟩ <;> rw [q] <;> rfl
   have hp1 := hput6 hz rfl (by omega : prot ≤ H.length) 2 false .nilS 0 0 v rfl hvl
   have d0 : decide ((((x :: y :: r).length : Nat) : Int) = 0) = false := decide_eq_false (by simp; omega)
   have d1 : decide ((((x :: y :: r).length : Nat) : Int) = 1) = false := decide_eq_false (by simp; omega)
   have hcn : conN (x :: y :: r) = .mk 2 false false [] 0 0 false (x :: y :: r) := rfl
   rw [hcn]
   generalize x :: y :: r = acc at *
   unfold AV.leaf at hvl; unfold AV.cells at hvc
   rcases q with ⟨c1, c2, c3⟩ | ⟨c1, c2, c3⟩ | ⟨c1, c2, c3⟩
   all_goals
    simp only [w9, simprocAttr, u199, hlen, a0, a4, a6, n1, c1, c2, c3, hlen2, d0, d1, hvc, hp1]
    exact nd_endR kp hrow hne (by simp [w9, u199, hlen, a4, hgZ])
 ·have c1 : decide (¬ pk l j = -1) = true := decide_eq_true fun h => h1 (.inl h)
  have c2 : decide (¬ pk l j = 124) = true := decide_eq_true fun h => h1 (.inr (.inl h))
  have c3 : decide (¬ pk l j = 41) = true := decide_eq_true fun h => h1 (.inr (.inr h))
  have hj1 := pk_in (l := l) (i := j) fun h => h1 (.inl h)
  have n2 := hP m (by omega) L hL j d b prot H' hp kp.get (by omega) hd (by omega)
  have hcm : concatS l (m + 1) j d acc = if (pieceS l m j d).ok = true then concatS l m (pieceS l m j d).at_ d (acc ++ [(pieceS l m j d).n]) else pieceS l m j d := by
   rw [concatS, if_neg h1]
  have hin := (readS_in l m).2.1 j d
  generalize pieceS l m j d = r at *
  obtain ⟨x, i, ok⟩ := r
  obtain ⟨k', no, s, x1, x2, t, hx, hs, ht, hs2, ht2⟩ := encN_sh x
  dsimp only at n2 hin hcm
  rw [hx] at n2
  have hs' := hs
  have ht' := ht
  unfold AV.leaf at hs ht
  have hl1 : (H'.set b (.cells 0 [L, .int .i64 (i : Nat)])).length = H'.length := by simp
  have hpl1 : prot ≤ H'.length := by omega
  have kp2 := (kp.put (hLb (i : Nat))).app [Blk.cells 0 [.int .i64 k', .bool no, s, .int .i64 x1, .int .i64 x2, t]]
  have hz1 : hget (H'.set b (.cells 0 [L, .int .i64 (i : Nat)])) H.length 0 = some [.int .i64 0, .bool false, .nilS, .int .i64 0, .int .i64 0, .nilS] := by rw [hget_set_ne (by omega)]; exact hz
  have hz2 := hget_mono hz1 [Blk.cells 0 [.int .i64 k', .bool no, s, .int .i64 x1, .int .i64 x2, t]]
  have hn2 : hget (H'.set b (.cells 0 [L, .int .i64 (i : Nat)]) ++ [Blk.cells 0 [.int .i64 k', .bool no, s, .int .i64 x1, .int .i64 x2, t]]) H'.length 0 = some [.int .i64 k', .bool no, s, .int .i64 x1, .int .i64 x2, t] := by
   rw [hget_new hl1.symm, if_pos rfl]
  have hl2 : (H'.set b (.cells 0 [L, .int .i64 (i : Nat)]) ++ [Blk.cells 0 [.int .i64 k', .bool no, s, .int .i64 x1, .int .i64 x2, t]]).length = H'.length + 1 := by simp
  have hrow2 : Row encN 6 true (H.length + 1) (H'.set b (.cells 0 [L, .int .i64 (i : Nat)]) ++ [Blk.cells 0 [.int .i64 k', .bool no, s, .int .i64 x1, .int .i64 x2, t]]) v acc := (hrow.setne (by omega) _).more _
  simp only [w9, simprocAttr, u199, hlen, a0, a1, n1, c1, c2, c3, n2, hs, ht, hl1, hpl1]
  generalize H'.set b (.cells 0 [L, .int .i64 (i : Nat)]) ++ [Blk.cells 0 [.int .i64 k', .bool no, s, .int .i64 x1, .int .i64 x2, t]] = K2 at *
  cases ok with
  | false =>
   have hp0 := hput6 hz2 rfl (by omega : prot ≤ H.length) k' no s x1 x2 t hs' ht'
   have hgZ2 : ∀ d, hget (K2.set H.length (.cells 0 d)) H.length 0 = some d := fun d => hget_set_at (by omega)
   simp only [Bool.false_eq_true, if_false] at hcm
   rw [hc, hcm]
   dsimp only
   rw [hx]
   simp only [w9, simprocAttr, u199, hlen, a4, hn2, hp0]
   exact nd_end kp2 hs2 ht2 (by simp [w9, u199, hlen, a4, hgZ2])
  | true =>
   have hin := hin rfl
   simp only [if_true] at hcm
   rw [hcm] at hc
   have hlit := litNX k' no s x1 x2 t hs' ht'
   have hn3 : hget (K2 ++ [Blk.cells 0 [.int .i64 k', .bool no, s, .int .i64 x1, .int .i64 x2, t]]) K2.length 0 = some (encN x).cells := by rw [hget_new rfl, if_pos rfl, hx]; rfl
   obtain ⟨o, H3, happ, hrow3, hle3, hno, hk3, hold⟩ := (hrow2.more [Blk.cells 0 [.int .i64 k', .bool no, s, .int .i64 x1, .int .i64 x2, t]]).appK (prot := prot) (xt := 174) encN_T rowN hxtN (elemL hn3) (by simp) (by simp [roomy]; omega) (by omega) (by simp; omega) (kp2.app [Blk.cells 0 [.int .i64 k', .bool no, s, .int .i64 x1, .int .i64 x2, t]]) (by omega)
   have hz3 := hold _ _ _ (by omega) (hget_mono hz2 [Blk.cells 0 [.int .i64 k', .bool no, s, .int .i64 x1, .int .i64 x2, t]])
   simp only [w9, simprocAttr, u199, hlen, a6, hn2, hlit, happ]
   refine ih _ _ m (by omega) ⟨i, acc ++ [x], o, by omega, by omega, by omega, by simp; omega, ?_⟩
   refine ⟨by simp [w9, hlen], by simp [w9, a0], by simp [w9, a1], by simp [w9, a4], by simp [w9, hlen], by simp at hle3; omega, hk3, hz3, hrow3, .inr (by simp), hc⟩
theorem either_ok (l : List Int) (hl : Runes l) (k : Nat) (hC : ∀ k', k' < k → Rok 172 3 l k' (fun j d => concatS l k' j d []) 0) : Rok 152 4 l k (fun j d => eitherS l k j d []) 0 := by
 intro L hL at_ d b prot H hp hg hat hd hk
 have hb := hget_lt hg
 have hll := hl.1
 have hlZ : ∀ Z, (H ++ [Blk.cells 0 Z]).length = H.length + 1 := fun Z => by simp
 have hLb : ∀ x : Int, AV.blwL H.length [L, .int .i64 x] = true := fun x => plL_blwL _ _ (slI_plain hL _)
 have kp0 : Kp H b [L, .int .i64 at_] (H ++ [Blk.cells 0 [.int .i64 0, .bool false, .nilS, .int .i64 0, .int .i64 0, .nilS]]) := (Kp.start hg).app _
 have hz0 : hget (H ++ [Blk.cells 0 [.int .i64 0, .bool false, .nilS, .int .i64 0, .int .i64 0, .nilS]]) H.length 0 = some [.int .i64 0, .bool false, .nilS, .int .i64 0, .int .i64 0, .nilS] := by simp [hget]
 have hK0l := hlZ [.int .i64 0, .bool false, .nilS, .int .i64 0, .int .i64 0, .nilS]
 refine trim_slim rfl (by kernel_rfl) (by kernel_rfl) (by kernel_rfl) Tryz.func152 s152 (by simp [Tryz.f152]) fun fr hlen h => ?_
 simp only [Has, Nat.zero_add] at h
 obtain ⟨a0, a1, -⟩ := h
 simp only [Tryz.f152] at hlen ⊢
 unfold g152
 simp only [w9, simprocAttr, u199]
 generalize H ++ [Blk.cells 0 [.int .i64 0, .bool false, .nilS, .int .i64 0, .int .i64 0, .nilS]] = K0 at *
 refine loop_rule (fun m fr H' => ∃ (j : Nat) (acc : List Nd) (v : AV), j ≤ l.length ∧ 5 * (l.length - j) + 4 ≤ m ∧ m ≤ k ∧ acc.length ≤ j ∧ fr.length = 33 ∧ fget fr 0 = .ptr b 0 0 ∧ fget fr 1 = .int .i64 (d : Nat) ∧ fget fr 4 = .ptr H.length 0 0 ∧ fget fr 6 = v
  ∧ H.length + 1 ≤ H'.length ∧ Kp H b [L, .int .i64 (j : Nat)] H' ∧ hget H' H.length 0 = some [.int .i64 0, .bool false, .nilS, .int .i64 0, .int .i64 0, .nilS]
  ∧ Row encN 6 true (H.length + 1) H' v acc ∧ (v = .nilS ∨ acc ≠ []) ∧ eitherS l k at_ d [] = eitherS l m j d acc) ?_ k _ _ ⟨at_, [], .nilS, by
   refine ⟨by omega, by omega, by omega, by simp, ?_⟩
   simp [w9, hlen, a0, a1, kp0, hz0, hK0l, Row.nil]⟩
 clear kp0 hz0 hK0l K0 a0 a1 hlen fr
 rintro m fr H' ⟨j, acc, v, hjl, hjk, hmk, hal, hlen, a0, a1, a4, a6, hH', kp, hz, hrow, hne, hc⟩ ih
 obtain ⟨m, rfl⟩ : ∃ m', m = m' + 1 := ⟨m - 1, by omega⟩
 have n2 := hC m (by omega) L hL j d b prot H' hp kp.get (by omega) hd (by omega)
 dsimp only at n2
 have hcm : eitherS l (m + 1) j d acc = if (concatS l m j d []).ok = true then (if pk l (concatS l m j d []).at_ = 124 then eitherS l m ((concatS l m j d []).at_ + 1) d (acc ++ [(concatS l m j d []).n]) else ⟨eitN (acc ++ [(concatS l m j d []).n]), (concatS l m j d []).at_, true⟩) else concatS l m j d [] := by
  rw [eitherS]
 have hin := (readS_in l m).2.2.1 j d [] hjl
 generalize concatS l m j d [] = r at *
 obtain ⟨x, i, ok⟩ := r
 obtain ⟨k', no, s, x1, x2, t, hx, hs, ht, hs2, ht2⟩ := encN_sh x
 dsimp only at n2 hin hcm
 rw [hx] at n2
 have hs' := hs
 have ht' := ht
 unfold AV.leaf at hs ht
 have hl1 : (H'.set b (.cells 0 [L, .int .i64 (i : Nat)])).length = H'.length := by simp
 have hpl1 : prot ≤ H'.length := by omega
 have kp2 := (kp.put (hLb (i : Nat))).app [Blk.cells 0 [.int .i64 k', .bool no, s, .int .i64 x1, .int .i64 x2, t]]
 have hz1 : hget (H'.set b (.cells 0 [L, .int .i64 (i : Nat)])) H.length 0 = some [.int .i64 0, .bool false, .nilS, .int .i64 0, .int .i64 0, .nilS] := by rw [hget_set_ne (by omega)]; exact hz
 have hz2 := hget_mono hz1 [Blk.cells 0 [.int .i64 k', .bool no, s, .int .i64 x1, .int .i64 x2, t]]
 have hn2 : hget (H'.set b (.cells 0 [L, .int .i64 (i : Nat)]) ++ [Blk.cells 0 [.int .i64 k', .bool no, s, .int .i64 x1, .int .i64 x2, t]]) H'.length 0 = some [.int .i64 k', .bool no, s, .int .i64 x1, .int .i64 x2, t] := by
  rw [hget_new hl1.symm, if_pos rfl]
 have hl2 : (H'.set b (.cells 0 [L, .int .i64 (i : Nat)]) ++ [Blk.cells 0 [.int .i64 k', .bool no, s, .int .i64 x1, .int .i64 x2, t]]).length = H'.length + 1 := by simp
 have hrow2 : Row encN 6 true (H.length + 1) (H'.set b (.cells 0 [L, .int .i64 (i : Nat)]) ++ [Blk.cells 0 [.int .i64 k', .bool no, s, .int .i64 x1, .int .i64 x2, t]]) v acc := (hrow.setne (by omega) _).more _
 simp only [w9, simprocAttr, u199, hlen, a0, a1, n2, hs, ht, hl1, hpl1]
 generalize H'.set b (.cells 0 [L, .int .i64 (i : Nat)]) ++ [Blk.cells 0 [.int .i64 k', .bool no, s, .int .i64 x1, .int .i64 x2, t]] = K2 at *
 cases ok with
 | false =>
  have hp0 := hput6 hz2 rfl (by omega : prot ≤ H.length) k' no s x1 x2 t hs' ht'
  have hgZ2 : ∀ d, hget (K2.set H.length (.cells 0 d)) H.length 0 = some d := fun d => hget_set_at (by omega)
  simp only [Bool.false_eq_true, if_false] at hcm
  rw [hc, hcm]
  dsimp only
  rw [hx]
  simp only [w9, simprocAttr, u199, hlen, a4, hn2, hp0]
  exact nd_end kp2 hs2 ht2 (by simp [w9, u199, hlen, a4, hgZ2])
 | true =>
  have hin := hin rfl
  simp only [if_true] at hcm
  rw [hcm] at hc
  have hlit := litNX k' no s x1 x2 t hs' ht'
  have hn3 : hget (K2 ++ [Blk.cells 0 [.int .i64 k', .bool no, s, .int .i64 x1, .int .i64 x2, t]]) K2.length 0 = some (encN x).cells := by rw [hget_new rfl, if_pos rfl, hx]; rfl
  obtain ⟨o, H3, happ, hrow3, hle3, hno, hk3, hold⟩ := (hrow2.more [Blk.cells 0 [.int .i64 k', .bool no, s, .int .i64 x1, .int .i64 x2, t]]).appK (prot := prot) (xt := 174) encN_T rowN hxtN (elemL hn3) (by simp) (by simp [roomy]; omega) (by omega) (by simp; omega) (kp2.app [Blk.cells 0 [.int .i64 k', .bool no, s, .int .i64 x1, .int .i64 x2, t]]) (by omega)
  have hz3 := hold _ _ _ (by omega) (hget_mono hz2 [Blk.cells 0 [.int .i64 k', .bool no, s, .int .i64 x1, .int .i64 x2, t]])
  have hle4 : H'.length + 1 ≤ H3.length := by simp at hle3; omega
  have n3 := take_ok l L hL hl i b 124 (by omega) prot H3 hp hk3.get
  by_cases h1 : pk l i = 124
  ·have hi1 := pk_in (l := l) (i := i) (by rw [h1]; decide)
   simp only [h1, if_true] at hc
   simp only [h1, if_true, decide_true] at n3
   simp only [w9, simprocAttr, u199, hlen, a0, a6, hn2, hlit, happ, n3]
   refine ih _ _ m (by omega) ⟨i + 1, acc ++ [x], o, by omega, by omega, by omega, by simp; omega, ?_⟩
   refine ⟨by simp [w9, hlen], by simp [w9, a0], by simp [w9, a1], by simp [w9, a4], by simp [w9, hlen], by simp; omega, hk3.put (hLb _), by rw [hget_set_ne (by omega)]; exact hz3, hrow3.setne (by omega) _, .inr (by simp), hc⟩
  ·simp only [h1, if_false] at hc
   simp only [h1, if_false, decide_false] at n3
   rw [set_self hk3.get] at n3
   rw [hc]
   dsimp only
   have hlen2 := hrow3.len Tryz.underlying174
   have hgZ : ∀ d, hget (H3.set H.length (.cells 0 d)) H.length 0 = some d := fun d => hget_set_at (by omega)
   cases acc with
   | nil =>
    have hp1 := hput6 hz3 rfl (by omega : prot ≤ H.length) k' no s x1 x2 t hs' ht'
    simp only [List.nil_append] at hrow3
    rcases hrow3 with ⟨_, q2⟩ | ⟨bb, ver, rfl, hbb, hgg, hv4⟩
    ·cases q2
    have hcl : cellsOf encN [x] = [.int .i64 k', .bool no, s, .int .i64 x1, .int .i64 x2, t] := by simp [cellsOf, hx, AV.cells]
    rw [hcl] at hgg
    have e1 : aIndexAddr Tryz.prog 174 (.bs ⟨bb, ver, 0, [x].length, 0, 6, true, false⟩) (.int .i64 0) = some (.ptr bb ver 0) := by simp [aIndexAddr, asNat, Tryz.underlying174, sz176]
    simp only [List.length_cons, List.length_nil, Nat.zero_add, List.nil_append] at e1 hlen2 happ
    simp only [List.nil_append, eitN, hx]
    simp only [w9, simprocAttr, u199, hlen, a0, a4, a6, hn2, hlit, happ, n3, hlen2, e1, hgg, hp1]
    exact nd_end hk3 hs2 ht2 (by simp [w9, u199, hlen, a4, hgZ])
   | cons y r =>
    have hvl : o.leaf = true := by rcases hrow3 with ⟨q, _⟩ | ⟨b, ver, q, _⟩ <;> rw [q] <;> rfl
    have hvc : o.cells = [o] := by rcases hrow3 with ⟨q, _⟩ | ⟨b, ver, q, _⟩ <;> rw [q] <;> rfl
    have hp1 := hput6 hz3 rfl (by omega : prot ≤ H.length) 3 false .nilS 0 0 o rfl hvl
    have d1 : decide ((((y :: r ++ [x]).length : Nat) : Int) = 1) = false := decide_eq_false (by simp; omega)
    have hcn : eitN (y :: r ++ [x]) = .mk 3 false false [] 0 0 false (y :: r ++ [x]) := by cases r <;> rfl
    rw [hcn]
    have hne2 : o = .nilS ∨ y :: r ++ [x] ≠ [] := .inr (by simp)
    generalize y :: r ++ [x] = acc2 at *
    unfold AV.leaf at hvl; unfold AV.cells at hvc
    simp only [w9, simprocAttr, u199, hlen, a0, a4, a6, hn2, hlit, happ, n3, hlen2, d1, hvc, hp1]
    exact nd_endR hk3 hrow3 hne2 (by simp [w9, u199, hlen, a4, hgZ])
theorem read_ok (l : List Int) (hl : Runes l) : ∀ k : Nat, Rok 152 4 l k (fun j d => eitherS l k j d []) 0 ∧ Rok 172 3 l k (fun j d => concatS l k j d []) 0 ∧ Rok 186 2 l k (pieceS l k) 1 ∧ Rok 193 1 l k (atomS l k) 1 := by
 intro k
 induction k using Nat.strongRecOn with
 | _ k ih =>
  refine ⟨either_ok l hl k fun k' h => (ih k' h).2.1, concat_ok l hl k fun k' h => (ih k' h).2.2.1, ?_, ?_⟩
  ·cases k with
   | zero => intro L _ at_ d b prot H _ _ h1 _ h2; omega
   | succ k => exact piece_ok l hl k (ih k (by omega)).2.2.2
  ·cases k with
   | zero => intro L _ at_ d b prot H _ _ h1 _ h2; omega
   | succ k => exact atom_ok l hl k (ih k (by omega)).1
open Go Go.Abs AbsSeat Ty
def cutN (n : Nat) : Nat := min n 2147483647
mutual
def sizeN : Nd → Nat
 | .mk kind _ _ _ least most _ kids =>
  if kind = 1 then 1
  else if kind = 2 ∨ kind = 3 then sizeL (decide (kind = 3)) true 0 kids
  else if kind = 4 then
   match kids with
   | [x] => if most = -1 then cutN (cutN ((max least 1).toNat * sizeN x) + 1) else cutN (cutN (least.toNat * sizeN x) + cutN ((most - least).toNat * (sizeN x + 1)))
   | _ => 0
  else 0
def sizeL (e : Bool) : Bool → Nat → List Nd → Nat
 | _, a, [] => a
 | first, a, x :: r => sizeL e false (if e && !first then cutN (cutN (a + sizeN x) + 1) else cutN (a + sizeN x)) r
end
inductive Good : Nd → Prop where
 | mk {kind : Int} {no sf : Bool} {sp : List Sg} {least most : Int} {kf : Bool} {kids : List Nd} (h : ∀ x ∈ kids, Good x) (hk : kind = 0 ∨ kind = 1 ∨ kind = 2 ∨ kind = 3 ∨ (kind = 4 ∧ kids.length = 1 ∧ 0 ≤ least ∧ least ≤ 16 ∧ (most = -1 ∨ (least ≤ most ∧ most ≤ 16)))) (hl : kids.length ≤ 1000000) : Good (.mk kind no sf sp least most kf kids)
theorem cutN_le (n : Nat) : cutN n ≤ 2147483647 := Nat.min_le_right _ _
theorem sizeL_le (e : Bool) : ∀ (l : List Nd) (f : Bool) (a : Nat), a ≤ 2147483647 → sizeL e f a l ≤ 2147483647
 | [], f, a, h => by rw [sizeL]; exact h
 | x :: r, f, a, h => by
  rw [sizeL]
  refine sizeL_le e r _ _ ?_
  split <;> exact cutN_le _
theorem sizeN_le (x : Nd) : sizeN x ≤ 2147483647 := by
 cases x with
 | mk kind no sf sp least most kf kids =>
  rw [sizeN.eq_def]
  dsimp only
  split
  ·omega
  ·split
   ·exact sizeL_le _ _ _ _ (by omega)
   ·split
    ·split
     ·split <;> exact cutN_le _
     ·omega
    ·omega
theorem cut_mul (m s : Nat) : cutN (m * cutN (s + 1)) = cutN (m * (s + 1)) := by
 unfold cutN
 by_cases h : s + 1 ≤ 2147483647
 ·rw [Nat.min_eq_left h]
 ·rw [Nat.min_eq_right (show 2147483647 ≤ s + 1 by omega)]
  cases m with
  | zero => simp
  | succ m =>
   have : 2147483647 ≤ (m + 1) * 2147483647 := by rw [Nat.succ_mul]; omega
   have : (m + 1) * 2147483647 ≤ (m + 1) * (s + 1) := Nat.mul_le_mul_left _ (by omega)
   omega
def u153 := an (show tagT Tryz.prog 176 = 0 from by kernel_rfl) (an (show tagT Tryz.prog 209 = 0 from by kernel_rfl) (an ag3 (an sz3 (an by3 (an ze3 (an Tryz.underlying3 (an ag9 (an sz9 (an by9 (an ze9 (an Tryz.underlying9 (an ag21 (an sz21 (an by21 (an ze21 (an Tryz.underlying21 (an ag174 (an sz174 (an by174 (an se174 (an ze174 (an Tryz.underlying174 (an ag176 (an sz176 (an by176 (an ze176 (an bu176 (an Tryz.underlying176 (an ag205 (an sz205 (an by205 (an ze205 (an Tryz.underlying205 (an ag206 (an sz206 (an by206 (an se206 (an ze206 (an Tryz.underlying206 (an ag209 (an sz209 (an by209 (an ze209 (an bu209 (an Tryz.underlying209 (an fa176_0 (an fd176_0 (an fa176_3 (an fd176_3 (an fa176_4 (an fd176_4 (an fa176_5 (an fd176_5 (an fa209_0 (an fd209_0 (an fa209_1 fd209_1))))))))))))))))))))))))))))))))))))))))))))))))))))))))
def g153 : Code := .seq (mG 0 #[q 1 (.box 176 (.tmp 0)) 0, q 2 (.assign (ik 0)) 3]) (.seq (.seq (mG 1 #[q 6 (.fieldAddr 176 (.tmp 1) 0) 0, mC 7 6 3]) (.block 0 (.seq (mG 2 #[mF 9 .eql 3 7 (ik 1) 3 4, mB 8 9 4]) (.cond (.tmp 8) (.seq (mG 3 #[q 2 (.assign (ik 1)) 3]) .ret) (.seq (.seq (mG 4 #[mF 11 .eql 3 7 (ik 2) 3 4, mB 10 11 4]) (.cond (.tmp 10) .skip (mG 5 #[mF 12 .eql 3 7 (ik 3) 3 4, mB 10 12 4]))) (.cond (.tmp 10) (.seq (mG 6 #[q 3 (.assign (ik 0)) 3]) (.seq (.seq (mG 7 #[q 13 (.fieldAddr 176 (.tmp 1) 5) 0, mC 14 13 174, q 15 (bi .len #[.tmp 14] #[174]) 3, q 16 (.move (ik 0)) 3]) (.block 1 (.loop (.seq (mG 8 #[mF 17 .lss 3 16 (.tmp 15) 3 0]) (.seq (.cond (.tmp 17) .skip (.exit 1)) (.seq (.block 2 (.seq (mG 9 #[mA 18 16 3, q 19 (.indexAddr 174 (.tmp 14) (.tmp 16)) 0, mC 20 19 176, q 5 (.alloc 176) 0, mB 4 18 3, mD 176 5 20]) (.seq (mG 10 #[mA 21 3 3, mC 22 5 176, q 23 (cl 153 #[.tmp 22] #[176]) 3, q 24 (cl 174 #[.tmp 21, .tmp 23] #[3, 3]) 3, mB 3 24 3]) (.seq (mG 11 #[q 25 (.fieldAddr 176 (.tmp 1) 0) 0, mC 26 25 3, mF 27 .eql 3 26 (ik 3) 3 4, mA 28 27 4, qg 29 (.move (.tmp 4)) 3 3 true, qg 30 (.binOp .gtr 3 (.tmp 29) (ik 0) 3) 4 3 true, q 31 (.pick (.tmp 28) (.tmp 30) (mI false)) 4]) (.cond (.tmp 31) (mG 12 #[mA 32 3 3, q 33 (cl 174 #[.tmp 32, ik 1] #[3, 3]) 3, mB 3 33 3]) .skip))))) (mG 13 #[mF 34 .add 3 16 (ik 1) 3 3, mA 16 34 3]))))))) (.seq (mG 14 #[mA 35 3 3, mB 2 35 3]) .ret))) (.seq (mG 15 #[mF 37 .eql 3 7 (ik 4) 3 4, mB 36 37 4]) (.cond (.tmp 36) (.seq (mG 16 #[mC 38 1 176, q 39 (cl 175 #[.tmp 38] #[176]) 3, mB 2 39 3]) .ret) .skip)))))))) (.seq (mG 17 #[q 2 (.assign (ik 0)) 3]) .ret))
def s153 := sL Tryz.f153 g153 (by kernel_rfl)
def g175 : Code := .seq (mG 0 #[q 1 (.box 176 (.tmp 0)) 0, q 2 (.assign (ik 0)) 3]) (.seq (.seq (mG 1 #[q 5 (.fieldAddr 176 (.tmp 1) 5) 0, mC 6 5 174, q 7 (bi .len #[.tmp 6] #[174]) 3, mF 8 .neq 3 7 (ik 1) 3 4]) (.cond (.tmp 8) (.seq (mG 2 #[q 2 (.assign (ik 0)) 3]) .ret) .skip)) (.seq (mG 3 #[q 9 (.fieldAddr 176 (.tmp 1) 5) 0, mC 10 9 174, q 11 (.indexAddr 174 (.tmp 10) (ik 0)) 0, mC 12 11 176, q 13 (cl 153 #[.tmp 12] #[176]) 3, q 14 (.fieldAddr 176 (.tmp 1) 3) 0, mC 15 14 3, q 16 (bi .max #[.tmp 15, ik 0] #[3, 3]) 3, q 17 (bi .min #[.tmp 16, ik 2147483647] #[3, 3]) 3, mB 3 13 3, mB 4 17 3]) (.seq (.seq (mG 4 #[q 18 (.fieldAddr 176 (.tmp 1) 4) 0, mC 19 18 3, mF 20 .eql 3 19 (ik (-1)) 3 4]) (.cond (.tmp 20) (.seq (mG 5 #[mA 21 4 3, q 22 (bi .max #[.tmp 21, ik 1] #[3, 3]) 3, mA 23 3 3, q 24 (cl 187 #[.tmp 22, .tmp 23] #[3, 3]) 3, q 25 (cl 174 #[.tmp 24, ik 1] #[3, 3]) 3, mB 2 25 3]) .ret) .skip)) (.seq (mG 6 #[mA 26 4 3, mA 27 3 3, q 28 (cl 187 #[.tmp 26, .tmp 27] #[3, 3]) 3, q 29 (.fieldAddr 176 (.tmp 1) 4) 0, mC 30 29 3, mA 31 4 3, mF 32 .sub 3 30 (.tmp 31) 3 3, q 33 (bi .max #[.tmp 32, ik 0] #[3, 3]) 3, q 34 (bi .min #[.tmp 33, ik 2147483647] #[3, 3]) 3, mA 35 3 3, q 36 (cl 174 #[.tmp 35, ik 1] #[3, 3]) 3, q 37 (cl 187 #[.tmp 34, .tmp 36] #[3, 3]) 3, q 38 (cl 174 #[.tmp 28, .tmp 37] #[3, 3]) 3, mB 2 38 3]) .ret))))
def s175 := sL Tryz.f175 g175 (by kernel_rfl)
def g174 : Code := .seq (mG 0 #[q 4 (.assign (ik 0)) 3]) (.seq (mG 1 #[mA 5 0 3, mA 6 1 3, mF 7 .add 3 5 (.tmp 6) 3 3, q 8 (bi .min #[.tmp 7, ik 2147483647] #[3, 3]) 3, mB 4 8 3]) .ret)
def s174 := sL Tryz.f174 g174 (by kernel_rfl)
def g187 : Code := .seq (mG 0 #[q 4 (.assign (ik 0)) 3]) (.seq (.seq (mG 1 #[mA 5 0 3, mF 6 .gtr 3 5 (ik 0) 3 4, mA 7 6 4, qg 8 (.move (.tmp 1)) 3 2 true, qg 9 (.move (.tmp 0)) 3 2 true, qg 10 (.binOp .quo 3 (ik 2147483647) (.tmp 9) 3) 3 2 true, qg 11 (.binOp .gtr 3 (.tmp 8) (.tmp 10) 3) 4 2 true, q 12 (.pick (.tmp 7) (.tmp 11) (mI false)) 4]) (.cond (.tmp 12) (.seq (mG 2 #[q 4 (.assign (ik 2147483647)) 3]) .ret) .skip)) (.seq (mG 3 #[mA 13 0 3, mA 14 1 3, mF 15 .mul 3 13 (.tmp 14) 3 3, mB 4 15 3]) .ret))
def s187 := sL Tryz.f187 g187 (by kernel_rfl)
def g120 : Code := .seq (mG 0 #[q 2 (.alloc 176) 0, q 3 (.assign (ik 0)) 28]) (.seq (.seq (mG 1 #[mA 7 0 9, q 8 (cl 31 #[.tmp 7] #[9]) 4, q 9 (.unOp .not 4 (.tmp 8)) 4]) (.cond (.tmp 9) (.seq (mG 2 #[q 10 (.build 176 #[]) 176, mD 176 2 10, q 3 (.assign (ik 3)) 28]) .ret) .skip)) (.seq (mG 3 #[mA 11 0 9, q 12 (cl 151 #[.tmp 11] #[9]) 206, q 13 (.build 209 #[(0, .tmp 12)]) 209, q 14 (.box 209 (.tmp 13)) 205, mB 4 14 205]) (.seq (mG 4 #[mA 16 4 205, q 17 (cl 152 #[.tmp 16, ik 0] #[205, 3]) 210, mA 15 17 210, mE 18 15 0 176, mE 19 15 1 4, q 5 (.alloc 176) 0, mD 176 5 18, mB 6 19 4]) (.seq (.block 0 (.seq (mG 5 #[mA 21 6 4, q 22 (.unOp .not 4 (.tmp 21)) 4, mA 23 22 4, qg 24 (.move (.tmp 4)) 205 2 false, qg 25 (.nilCheck (.tmp 24)) 0 2 false, qg 26 (.fieldAddr 209 (.tmp 25) 1) 0 2 false, qg 27 (.load 3 (.tmp 26)) 3 2 false, qg 28 (.move (.tmp 4)) 205 2 false, qg 29 (.nilCheck (.tmp 28)) 0 2 false, qg 30 (.fieldAddr 209 (.tmp 29) 0) 0 2 false, qg 31 (.load 206 (.tmp 30)) 206 2 false, qg 32 (bi .len #[.tmp 31] #[206]) 3 2 false, qg 33 (.binOp .neq 3 (.tmp 27) (.tmp 32) 3) 4 2 false, q 34 (.pick (.tmp 23) (mI true) (.tmp 33)) 4, mB 20 34 4]) (.cond (.tmp 20) (.seq (mG 6 #[q 35 (.build 176 #[]) 176, mD 176 2 35, q 3 (.assign (ik 3)) 28]) .ret) (.seq (mG 7 #[mC 37 5 176, q 38 (cl 153 #[.tmp 37] #[176]) 3, mF 39 .gtr 3 38 (ik 400) 3 4, mB 36 39 4]) (.cond (.tmp 36) (.seq (mG 8 #[q 40 (.build 176 #[]) 176, mD 176 2 40, q 3 (.assign (ik 5)) 28]) .ret) .skip))))) (.seq (mG 9 #[mC 41 5 176, mD 176 2 41, q 3 (.assign (ik 0)) 28]) .ret)))))
def s120 := sL Tryz.f120 g120 (by kernel_rfl)
theorem add_ok (a b : Nat) (ha : a ≤ 2147483647) (hb : b ≤ 2147483647) (prot : Nat) (H : Heap) (hp : prot ≤ H.length) : aLim cfg prot 174 [.int .i64 a, .int .i64 b] H = some (.int .i64 (cutN (a + b)), none) := by
 have w1 : IntKind.i64.wrap ((a : Int) + (b : Int)) = ((a + b : Nat) : Int) := by rw [wrap64 (by omega) (by omega)]; simp
 have e : min (((a + b : Nat)) : Int) 2147483647 = (cutN (a + b) : Nat) := by unfold cutN; omega
 refine pure_slim rfl (by kernel_rfl) Tryz.func174 s174 hp rfl (by simp [Tryz.f174]) fun fr hlen h => ?_
 simp only [Has, Nat.zero_add] at h
 obtain ⟨a0, a1, -⟩ := h
 simp only [Tryz.f174] at hlen ⊢
 unfold g174
 simp only [w9, reduceEqDiff, reduceLT, reduceCtorEq, hlen, a0, a1, w1, e]
 exact Fin_pure (l := [.int .i64 (cutN (a + b))]) (by simp [w9, hlen]) (.still rfl) (by simp)
theorem add1_ok (a : Nat) (ha : a ≤ 2147483647) (prot : Nat) (H : Heap) (hp : prot ≤ H.length) : aLim cfg prot 174 [.int .i64 a, .int .i64 1] H = some (.int .i64 (cutN (a + 1)), none) := add_ok a 1 ha (by omega) prot H hp
theorem mul_ok (a b : Nat) (ha : a ≤ 16) (hb : b ≤ 2147483648) (prot : Nat) (H : Heap) (hp : prot ≤ H.length) : aLim cfg prot 187 [.int .i64 a, .int .i64 b] H = some (.int .i64 (cutN (a * b)), none) := by
 have hab : a * b ≤ 16 * 2147483648 := Nat.mul_le_mul ha hb
 have w1 : IntKind.i64.wrap ((a : Int) * (b : Int)) = ((a * b : Nat) : Int) := by
  rw [← Int.natCast_mul]
  exact wrap64 (by omega) (by omega)
 refine pure_slim rfl (by kernel_rfl) Tryz.func187 s187 hp rfl (by simp [Tryz.f187]) fun fr hlen h => ?_
 simp only [Has, Nat.zero_add] at h
 obtain ⟨a0, a1, -⟩ := h
 simp only [Tryz.f187] at hlen ⊢
 unfold g187
 by_cases h0 : 0 < a
 ·have d0 : decide (0 < (a : Int)) = true := decide_eq_true (by omega)
  have q1 : aBin Tryz.prog .quo 3 (.const (.int .i64 2147483647)) (.tmp 9) (.int .i64 2147483647) (.int .i64 a) = some (.int .i64 (IntKind.i64.wrap ((2147483647 / a : Nat)))) := bin_quo_nat (a := 2147483647) h0
  have hq1 : a * (2147483647 / a) ≤ 2147483647 := by rw [Nat.mul_comm]; exact Nat.div_mul_le_self _ _
  have hq2 : 2147483647 < a * (2147483647 / a + 1) := by
   have := Nat.div_add_mod 2147483647 a
   have := Nat.mod_lt 2147483647 h0
   rw [Nat.mul_add]; omega
  have hq3 := Nat.div_le_self 2147483647 a
  generalize 2147483647 / a = q at *
  have w2 : IntKind.i64.wrap ((q : Nat) : Int) = ((q : Nat) : Int) := wrap64 (by omega) (by omega)
  by_cases h1 : q < b
  ·have d1 : decide (((q : Nat) : Int) < (b : Int)) = true := decide_eq_true (by omega)
   have e : cutN (a * b) = 2147483647 := by
    have h2 : a * (q + 1) ≤ a * b := Nat.mul_le_mul_left _ h1
    unfold cutN; omega
   rw [e]
   simp only [w9, reduceEqDiff, reduceLT, reduceCtorEq, hlen, a0, a1, d0, q1, w2, d1]
   exact Fin_pure (l := [.int .i64 2147483647]) (by simp [w9, hlen]) (.still rfl) (by simp)
  ·have d1 : decide (((q : Nat) : Int) < (b : Int)) = false := decide_eq_false (by omega)
   have e : cutN (a * b) = a * b := by
    have h2 : a * b ≤ a * q := Nat.mul_le_mul_left _ (by omega)
    unfold cutN; omega
   rw [e]
   simp only [w9, reduceEqDiff, reduceLT, reduceCtorEq, hlen, a0, a1, d0, q1, w2, d1, w1]
   exact Fin_pure (l := [.int .i64 ((a * b : Nat))]) (by simp [w9, hlen]) (.still rfl) (by simp)
 ·have : a = 0 := by omega
  subst this
  have e : cutN (0 * b) = 0 * b := by unfold cutN; omega
  have d0 : decide ((0 : Int) < ((0 : Nat) : Int)) = false := rfl
  rw [e]
  simp only [w9, reduceEqDiff, reduceLT, reduceCtorEq, hlen, a0, a1, d0, w1]
  exact Fin_pure (l := [.int .i64 ((0 * b : Nat))]) (by simp [w9, hlen]) (.still rfl) (by simp)
theorem sizeN_cat {kind : Int} {no sf : Bool} {sp : List Sg} {least most : Int} {kf : Bool} {kids : List Nd} (h : kind = 2 ∨ kind = 3) : sizeN (.mk kind no sf sp least most kf kids) = sizeL (decide (kind = 3)) true 0 kids := by
 rw [sizeN.eq_def]
 dsimp only
 rw [if_neg (by omega), if_pos h]
theorem repeats_ok (x : Nd) (hS : ∀ (prot : Nat) (H : Heap), prot ≤ H.length → aLim cfg prot 153 [encN x] H = some (.int .i64 (sizeN x), none)) (no sf : Bool) (sp : List Sg) (least most : Int) (kf : Bool) (h1 : 0 ≤ least) (h2 : least ≤ 16) (h3 : most = -1 ∨ (least ≤ most ∧ most ≤ 16))
  (prot : Nat) (H : Heap) (hp : prot ≤ H.length) : aLim cfg prot 175 [encN (.mk 4 no sf sp least most kf [x])] H = some (.int .i64 (sizeN (.mk 4 no sf sp least most kf [x])), none) := by
 have hsnap : snap H [encN (.mk 4 no sf sp least most kf [x])] = some ([encN (.mk 4 no sf sp least most kf [x])], false) := by rw [encN_eq]; rfl
 have hs1 := slF_leaf sf encG sp
 have ht1 := slF_leaf kf encN [x]
 have hkl := fun K : Heap => (slF_sl kf encN [x]).len (P := Tryz.prog) (H := K) Tryz.underlying174
 have hk0 := (slF_sl kf encN [x]).at (P := Tryz.prog) (k := .i64) (i := 0) Tryz.underlying174 sz176 encN_len (by simp)
 have hle := sizeN_le x
 refine pure_slim rfl (by kernel_rfl) Tryz.func175 s175 hp hsnap (by simp [Tryz.f175]) fun fr hlen h => ?_
 simp only [Has] at h
 obtain ⟨a0, -⟩ := h
 simp only [Tryz.f175] at hlen ⊢
 unfold g175
 rw [encN_eq] at a0
 unfold AV.leaf at hs1 ht1
 obtain ⟨a, rfl⟩ : ∃ a : Nat, least = a := ⟨least.toNat, by omega⟩
 have d1 : decide (¬ ((1 : Nat) : Int) = 1) = false := rfl
 have hS' := fun (K : Heap) (hK : H.length ≤ K.length) => hS H.length K hK
 simp only [List.getElem_cons_zero] at hk0
 have m1 : min (max (a : Int) 0) 2147483647 = (a : Int) := by omega
 have e1 : aIndexAddr Tryz.prog 174 (slF kf encN [x]) (.int .i64 0) = some (.vptr (encN x).cells 0) := hk0
 obtain ⟨k', no', s, x1, x2, t, hx, hs, ht, hs2, ht2⟩ := encN_sh x
 rw [hx] at e1 hS'
 simp only [AV.cells] at e1
 have hle' : ∀ Z, H.length ≤ (H ++ [Blk.cells 0 Z]).length := fun Z => by simp
 by_cases hm : most = -1
 ·subst hm
  have m2 : max (a : Int) 1 = ((max a 1 : Nat) : Int) := by omega
  have hmx : max a 1 ≤ 16 := by omega
  have n1 := fun (K : Heap) (hK : H.length ≤ K.length) => mul_ok (max a 1) (sizeN x) hmx (by omega) H.length K hK
  have n2 := fun (K : Heap) (hK : H.length ≤ K.length) => add1_ok (cutN (max a 1 * sizeN x)) (cutN_le _) H.length K hK
  have hsz : sizeN (.mk 4 no sf sp a (-1) kf [x]) = cutN (cutN (max a 1 * sizeN x) + 1) := by
   rw [sizeN.eq_def]
   have : (max (a : Int) 1).toNat = max a 1 := by omega
   simp [this]
  rw [hsz]
  simp only [w9, reduceEqDiff, reduceLT, reduceAdd, u153, hlen, a0, hs1, ht1, hkl, d1, e1, hS', hle', m1, m2, n1, n2]
  exact Fin_pure (l := [.int .i64 (cutN (cutN (max a 1 * sizeN x) + 1))]) (by simp [w9, hlen]) (.still rfl) (by simp)
 ·have h3 := h3.resolve_left hm
  obtain ⟨c, rfl⟩ : ∃ c : Nat, most = c := ⟨most.toNat, by omega⟩
  have w1 : IntKind.i64.wrap ((c : Int) - (a : Int)) = ((c - a : Nat) : Int) := by rw [wrap64 (by omega) (by omega)]; omega
  have m2 : min (max ((c - a : Nat) : Int) 0) 2147483647 = ((c - a : Nat) : Int) := by omega
  have n1 := fun (K : Heap) (hK : H.length ≤ K.length) => mul_ok a (sizeN x) (by omega) (by omega) H.length K hK
  have n2 := fun (K : Heap) (hK : H.length ≤ K.length) => add1_ok (sizeN x) hle H.length K hK
  have n3 := fun (K : Heap) (hK : H.length ≤ K.length) => mul_ok (c - a) (cutN (sizeN x + 1)) (by omega) (by have := cutN_le (sizeN x + 1); omega) H.length K hK
  have n4 := fun (K : Heap) (hK : H.length ≤ K.length) => add_ok (cutN (a * sizeN x)) (cutN ((c - a) * cutN (sizeN x + 1))) (cutN_le _) (cutN_le _) H.length K hK
  have hsz : sizeN (.mk 4 no sf sp a c kf [x]) = cutN (cutN (a * sizeN x) + cutN ((c - a) * cutN (sizeN x + 1))) := by
   rw [sizeN.eq_def, cut_mul]
   have : ((c : Int) - (a : Int)).toNat = c - a := by omega
   simp [this, hm]
  rw [hsz]
  simp only [w9, reduceEqDiff, reduceLT, reduceAdd, reduceCtorEq, u153, hlen, a0, hs1, ht1, hkl, d1, e1, hS', hle', m1, w1, m2, n1, n2, n3, n4]
  exact Fin_pure (l := [.int .i64 (cutN (cutN (a * sizeN x) + cutN ((c - a) * cutN (sizeN x + 1))))]) (by simp [w9, hlen]) (.still rfl) (by simp)
theorem sizeL_cons (e f : Bool) (a : Nat) (x : Nd) (r : List Nd) : sizeL e f a (x :: r) = sizeL e false (if e && !f then cutN (cutN (a + sizeN x) + 1) else cutN (a + sizeN x)) r := by rw [sizeL]
theorem size_step (kind : Int) (no sf : Bool) (sp : List Sg) (least most : Int) (kf : Bool) (kids : List Nd) (hg : Good (.mk kind no sf sp least most kf kids)) (ih : ∀ x ∈ kids, ∀ (prot : Nat) (H : Heap), prot ≤ H.length → aLim cfg prot 153 [encN x] H = some (.int .i64 (sizeN x), none))
  (prot : Nat) (H : Heap) (hp : prot ≤ H.length) : aLim cfg prot 153 [encN (.mk kind no sf sp least most kf kids)] H = some (.int .i64 (sizeN (.mk kind no sf sp least most kf kids)), none) := by
 have hsnap : snap H [encN (.mk kind no sf sp least most kf kids)] = some ([encN (.mk kind no sf sp least most kf kids)], false) := by rw [encN_eq]; rfl
 cases hg with
 | mk hgk hk hl =>
 have hs1 := slF_leaf sf encG sp
 have ht1 := slF_leaf kf encN kids
 have hsl := slF_sl kf encN kids
 have hkl := fun K : Heap => hsl.len (P := Tryz.prog) (H := K) Tryz.underlying174
 have n4 : kind = 4 → ∀ (K : Heap), H.length ≤ K.length → aLim cfg H.length 175 [encN (.mk kind no sf sp least most kf kids)] K = some (.int .i64 (sizeN (.mk kind no sf sp least most kf kids)), none) := by
  rintro rfl K hK
  rcases hk with h | h | h | h | ⟨_, h1, h2, h3, h4⟩
  ·omega
  ·omega
  ·omega
  ·omega
  obtain ⟨x, rfl⟩ := List.length_eq_one_iff.1 h1
  exact repeats_ok x (ih x (by simp)) no sf sp least most kf h2 h3 h4 H.length K hK
 refine pure_slim rfl (by kernel_rfl) Tryz.func153 s153 hp hsnap (by simp [Tryz.f153]) fun fr hlen h => ?_
 simp only [Has] at h
 obtain ⟨a0, -⟩ := h
 simp only [Tryz.f153] at hlen ⊢
 unfold g153
 rw [encN_eq] at a0
 unfold AV.leaf at hs1 ht1
 have hle' : ∀ Z, H.length ≤ (H ++ [Blk.cells 0 Z]).length := fun Z => by simp
 have hk' : kind = 0 ∨ kind = 1 ∨ (kind = 2 ∨ kind = 3) ∨ kind = 4 := by omega
 rcases hk' with rfl | rfl | h23 | rfl
 ·have d1 : decide ((0 : Int) = 1) = false := rfl
  have d2 : decide ((0 : Int) = 2) = false := rfl
  have d3 : decide ((0 : Int) = 3) = false := rfl
  have d4 : decide ((0 : Int) = 4) = false := rfl
  have hsz : sizeN (.mk 0 no sf sp least most kf kids) = 0 := by rw [sizeN.eq_def]; simp
  rw [hsz]
  simp only [w9, reduceEqDiff, reduceLT, u153, hlen, a0, hs1, ht1, d1, d2, d3, d4]
  exact Fin_pure (l := [.int .i64 0]) (by simp [w9, hlen]) (.still rfl) (by simp)
 ·have hsz : sizeN (.mk 1 no sf sp least most kf kids) = 1 := by rw [sizeN.eq_def]; simp
  rw [hsz]
  simp only [w9, reduceEqDiff, reduceLT, u153, hlen, a0, hs1, ht1]
  exact Fin_pure (l := [.int .i64 1]) (by simp [w9, hlen]) (.still rfl) (by simp)
 ·have d1 : decide (kind = 1) = false := decide_eq_false (by omega)
  have hsz := sizeN_cat (no := no) (sf := sf) (sp := sp) (least := least) (most := most) (kf := kf) (kids := kids) h23
  rw [hsz]
  have hg0 : hget (H ++ [Blk.cells 0 [.int .i64 kind, .bool no, slF sf encG sp, .int .i64 least, .int .i64 most, slF kf encN kids]]) H.length 0 = some [.int .i64 kind, .bool no, slF sf encG sp, .int .i64 least, .int .i64 most, slF kf encN kids] := by rw [hget_new rfl, if_pos rfl]
  have hstep : ∀ (e : Bool) (i a : Nat) (hi : i < kids.length), sizeL e (decide (i = 0)) a (kids.drop i) = sizeL e (decide (i + 1 = 0)) (if e && !decide (i = 0) then cutN (cutN (a + sizeN kids[i]) + 1) else cutN (a + sizeN kids[i])) (kids.drop (i + 1)) := fun e i a hi => by
   have hd : kids.drop i = kids[i] :: kids.drop (i + 1) := by simp
   rw [hd, sizeL_cons]
   have : decide (i + 1 = 0) = false := decide_eq_false (by omega)
   rw [this]
  rcases h23 with rfl | rfl
  ·have d2 : decide ((2 : Int) = 2) = true := rfl
   have d3 : decide ((2 : Int) = 3) = false := rfl
   simp only [w9, reduceEqDiff, reduceLT, reduceAdd, u153, hlen, a0, hs1, ht1, d1, hkl]
   try rw [d3]
   refine loop_rule (fun m fr H' => ∃ (i a : Nat), m = kids.length - i ∧ i ≤ kids.length ∧ a ≤ 2147483647 ∧ fr.length = 40 ∧ fget fr 1 = .ptr H.length 0 0 ∧ fget fr 14 = slF kf encN kids ∧ fget fr 15 = .int .i64 kids.length ∧ fget fr 16 = .int .i64 i ∧ fget fr 3 = .int .i64 a
    ∧ H.length + 1 ≤ H'.length ∧ hget H' H.length 0 = some [.int .i64 2, .bool no, slF sf encG sp, .int .i64 least, .int .i64 most, slF kf encN kids] ∧ sizeL false true 0 kids = sizeL false (decide (i = 0)) a (kids.drop i)) ?_ kids.length _ _ ⟨0, 0, by simp [w9, hlen, hg0]⟩
   rintro m fr H' ⟨i, a, rfl, hi, ha, hlen, a1, a14, a15, a16, a3, hH, hg, hc⟩ ihl
   simp only [w9, reduceLT, hlen, a15, a16]
   refine RC_split (fun h => ?_) (fun h => ?_)
   ·have hlt : i < kids.length := by simpa using h
    have hww : IntKind.i64.wrap ((i : Int) + 1) = ((i + 1 : Nat) : Int) := by rw [wrap64 (by omega) (by omega)]; simp
    have e1 := hsl.at (P := Tryz.prog) (k := .i64) (i := i) Tryz.underlying174 sz176 encN_len hlt
    rw [hstep false i a hlt] at hc
    have n1 := fun (K : Heap) (hK : H.length ≤ K.length) => ih kids[i] (List.getElem_mem hlt) H.length K hK
    have n2 := fun (K : Heap) (hK : H.length ≤ K.length) => add_ok a (sizeN kids[i]) ha (sizeN_le _) H.length K hK
    have hcl := cutN_le (a + sizeN kids[i])
    generalize kids[i] = x at *
    obtain ⟨k', no', s, x1, x2, t, hx, hs, ht, hs2, ht2⟩ := encN_sh x
    rw [hx] at e1 n1
    simp only [AV.cells] at e1
    unfold AV.leaf at hs ht
    have hH0 : H.length ≤ H'.length := by omega
    have hle2 : ∀ Z, H.length ≤ (H' ++ [Blk.cells 0 Z]).length := fun Z => by simp; omega
    have hg2 := hget_mono hg [Blk.cells 0 [.int .i64 k', .bool no', s, .int .i64 x1, .int .i64 x2, t]]
    simp only [w9, reduceEqDiff, reduceLT, reduceAdd, reduceCtorEq, reduceMod, u153, hlen, a1, a14, a16, a3, e1, hH0, hs, ht, hle2, n1, n2, hg2, d3, hww]
    refine ihl _ _ (kids.length - (i + 1)) (by omega) ⟨i + 1, cutN (a + sizeN x), rfl, hlt, hcl, ?_⟩
    refine ⟨by simp [w9, hlen], by simp [w9, a1], by simp [w9, a14], by simp [w9, a15], by simp [w9, hlen], by simp [w9, hlen], by simp; omega, hg2, hc⟩
   ·have hnl : ¬ i < kids.length := by simpa using h
    rw [List.drop_eq_nil_of_le (by omega), sizeL] at hc
    rw [hc]
    simp only [w9, reduceEqDiff, reduceLT, hlen, a3]
    exact Fin_pure (l := [.int .i64 a]) (by simp [w9, hlen]) (.still rfl) (by simp)
  ·have d2 : decide ((3 : Int) = 2) = false := rfl
   have d3 : decide ((3 : Int) = 3) = true := rfl
   simp only [w9, reduceEqDiff, reduceLT, reduceAdd, u153, hlen, a0, hs1, ht1, d1, d2, hkl]
   try rw [d3]
   refine loop_rule (fun m fr H' => ∃ (i a : Nat), m = kids.length - i ∧ i ≤ kids.length ∧ a ≤ 2147483647 ∧ fr.length = 40 ∧ fget fr 1 = .ptr H.length 0 0 ∧ fget fr 14 = slF kf encN kids ∧ fget fr 15 = .int .i64 kids.length ∧ fget fr 16 = .int .i64 i ∧ fget fr 3 = .int .i64 a
    ∧ H.length + 1 ≤ H'.length ∧ hget H' H.length 0 = some [.int .i64 3, .bool no, slF sf encG sp, .int .i64 least, .int .i64 most, slF kf encN kids] ∧ sizeL true true 0 kids = sizeL true (decide (i = 0)) a (kids.drop i)) ?_ kids.length _ _ ⟨0, 0, by simp [w9, hlen, hg0]⟩
   rintro m fr H' ⟨i, a, rfl, hi, ha, hlen, a1, a14, a15, a16, a3, hH, hg, hc⟩ ihl
   simp only [w9, reduceLT, hlen, a15, a16]
   refine RC_split (fun h => ?_) (fun h => ?_)
   ·have hlt : i < kids.length := by simpa using h
    have hww : IntKind.i64.wrap ((i : Int) + 1) = ((i + 1 : Nat) : Int) := by rw [wrap64 (by omega) (by omega)]; simp
    have e1 := hsl.at (P := Tryz.prog) (k := .i64) (i := i) Tryz.underlying174 sz176 encN_len hlt
    rw [hstep true i a hlt] at hc
    have n1 := fun (K : Heap) (hK : H.length ≤ K.length) => ih kids[i] (List.getElem_mem hlt) H.length K hK
    have n2 := fun (K : Heap) (hK : H.length ≤ K.length) => add_ok a (sizeN kids[i]) ha (sizeN_le _) H.length K hK
    have n3 := fun (K : Heap) (hK : H.length ≤ K.length) => add1_ok (cutN (a + sizeN kids[i])) (cutN_le _) H.length K hK
    have hcl := cutN_le (a + sizeN kids[i])
    have hcl2 := cutN_le (cutN (a + sizeN kids[i]) + 1)
    generalize kids[i] = x at *
    obtain ⟨k', no', s, x1, x2, t, hx, hs, ht, hs2, ht2⟩ := encN_sh x
    rw [hx] at e1 n1
    simp only [AV.cells] at e1
    unfold AV.leaf at hs ht
    have hH0 : H.length ≤ H'.length := by omega
    have hle2 : ∀ Z, H.length ≤ (H' ++ [Blk.cells 0 Z]).length := fun Z => by simp; omega
    have hg2 := hget_mono hg [Blk.cells 0 [.int .i64 k', .bool no', s, .int .i64 x1, .int .i64 x2, t]]
    by_cases h0 : i = 0
    ·have d5 : decide ((0 : Int) < (i : Int)) = false := decide_eq_false (by omega)
     have d6 : decide (i = 0) = true := decide_eq_true h0
     simp only [d6, Bool.not_true, Bool.and_false, Bool.false_eq_true, if_false] at hc
     simp only [w9, reduceEqDiff, reduceLT, reduceAdd, reduceCtorEq, reduceMod, u153, hlen, a1, a14, a16, a3, e1, hH0, hs, ht, hle2, n1, n2, hg2, d5, hww]
     refine ihl _ _ (kids.length - (i + 1)) (by omega) ⟨i + 1, cutN (a + sizeN x), rfl, hlt, hcl, ?_⟩
     refine ⟨by simp [w9, hlen], by simp [w9, a1], by simp [w9, a14], by simp [w9, a15], by simp [w9, hlen], by simp [w9, hlen], by simp; omega, hg2, hc⟩
    ·have d5 : decide ((0 : Int) < (i : Int)) = true := decide_eq_true (by omega)
     have d6 : decide (i = 0) = false := decide_eq_false h0
     simp only [d6, Bool.not_false, Bool.and_true, if_true] at hc
     simp only [w9, reduceEqDiff, reduceLT, reduceAdd, reduceCtorEq, reduceMod, u153, hlen, a1, a14, a16, a3, e1, hH0, hs, ht, hle2, n1, n2, n3, hg2, d5, hww]
     refine ihl _ _ (kids.length - (i + 1)) (by omega) ⟨i + 1, cutN (cutN (a + sizeN x) + 1), rfl, hlt, hcl2, ?_⟩
     refine ⟨by simp [w9, hlen], by simp [w9, a1], by simp [w9, a14], by simp [w9, a15], by simp [w9, hlen], by simp [w9, hlen], by simp; omega, hg2, hc⟩
   ·have hnl : ¬ i < kids.length := by simpa using h
    rw [List.drop_eq_nil_of_le (by omega), sizeL] at hc
    rw [hc]
    simp only [w9, reduceEqDiff, reduceLT, hlen, a3]
    exact Fin_pure (l := [.int .i64 a]) (by simp [w9, hlen]) (.still rfl) (by simp)
 ·have d1 : decide ((4 : Int) = 1) = false := rfl
  have d2 : decide ((4 : Int) = 2) = false := rfl
  have d3 : decide ((4 : Int) = 3) = false := rfl
  have n4' := n4 rfl
  rw [encN_eq] at n4'
  simp only [w9, reduceEqDiff, reduceLT, reduceAdd, u153, hlen, a0, hs1, ht1, d1, d2, d3, hle', n4']
  exact Fin_pure (l := [.int .i64 (sizeN (.mk 4 no sf sp least most kf kids))]) (by simp [w9, hlen]) (.still rfl) (by simp)
theorem nsize_ok : ∀ (x : Nd), Good x → ∀ (prot : Nat) (H : Heap), prot ≤ H.length → aLim cfg prot 153 [encN x] H = some (.int .i64 (sizeN x), none)
 | .mk kind no sf sp least most kf kids, hg => size_step kind no sf sp least most kf kids hg fun x hx => nsize_ok x (by cases hg with | mk h _ _ => exact h x hx)
termination_by x => SizeOf.sizeOf x
decreasing_by have := List.sizeOf_lt_of_mem hx; simp; omega
open Go Go.Abs AbsSeat Ty
theorem good_zero : Good ndZ := .mk (fun x h => by cases h) (.inl rfl) (by simp)
theorem good_rune (no sf : Bool) (sp : List Sg) : Good (.mk 1 no sf sp 0 0 false []) := .mk (fun x h => by cases h) (.inr (.inl rfl)) (by simp)
theorem good_rep {x : Nd} (h : Good x) {a b : Int} (h1 : 0 ≤ a) (h2 : a ≤ 16) (h3 : b = -1 ∨ (a ≤ b ∧ b ≤ 16)) : Good (ndR x a b) :=
 .mk (fun y hy => by simp at hy; subst hy; exact h) (.inr (.inr (.inr (.inr ⟨rfl, rfl, h1, h2, h3⟩)))) (by simp)
theorem numV_in {l : List Int} {i : Nat} (h : numB l i = true) : 0 ≤ numV l i ∧ numV l i ≤ 16 := by
 unfold numB at h
 simp only [Bool.and_eq_true, decide_eq_true_eq] at h
 refine ⟨?_, h.2⟩
 unfold numV
 split
 ·rename_i h1
  have h1 := dgC_iff.1 h1
  split
  ·rename_i h2
   have h2 := dgC_iff.1 h2
   omega
  ·omega
 ·omega
theorem times_good {l : List Int} {i : Nat} (h : (timesS l i).ok = true) : 0 ≤ (timesS l i).lo ∧ (timesS l i).lo ≤ 16 ∧ ((timesS l i).hi = -1 ∨ ((timesS l i).lo ≤ (timesS l i).hi ∧ (timesS l i).hi ≤ 16)) := by
 unfold timesS at h ⊢
 dsimp only at h ⊢
 split at h
 ·rename_i h1
  rw [if_pos h1]
  have hv := numV_in h1
  split at h
  ·rename_i h2
   rw [if_pos h2]
   split at h
   ·rename_i h3
    rw [if_pos h3]
    exact ⟨hv.1, hv.2, .inl rfl⟩
   ·rename_i h3
    rw [if_neg h3]
    split at h
    ·rename_i h4
     rw [if_pos h4]
     simp only [Bool.and_eq_true, decide_eq_true_eq] at h4
     have hv2 := numV_in h4.1
     split at h
     ·rename_i h5
      rw [if_pos h5]
      exact ⟨hv.1, hv.2, .inr ⟨h4.2, hv2.2⟩⟩
     ·cases h
    ·cases h
  ·rename_i h2
   rw [if_neg h2]
   split at h
   ·rename_i h3
    rw [if_pos h3]
    exact ⟨hv.1, hv.2, .inr ⟨Int.le_refl _, hv.2⟩⟩
   ·cases h
 ·cases h
theorem conN_good {l : List Nd} (h : ∀ x ∈ l, Good x) (hl : l.length ≤ 1000000) : Good (conN l) := by
 match l, h, hl with
 | [], _, _ => exact good_zero
 | [x], h, _ => exact h x (by simp)
 | x :: y :: r, h, hl => exact .mk h (.inr (.inr (.inl rfl))) hl
theorem eitN_good {l : List Nd} (h : ∀ x ∈ l, Good x) (hl : l.length ≤ 1000000) : Good (eitN l) := by
 match l, h, hl with
 | [], h, hl => exact .mk h (.inr (.inr (.inr (.inl rfl)))) hl
 | [x], h, _ => exact h x (by simp)
 | x :: y :: r, h, hl => exact .mk h (.inr (.inr (.inr (.inl rfl)))) hl
theorem readS_good (l : List Int) (hll : l.length < 1000000) : ∀ k : Nat, (∀ j d, (atomS l k j d).ok = true → Good (atomS l k j d).n) ∧ (∀ j d, (pieceS l k j d).ok = true → Good (pieceS l k j d).n) ∧
  (∀ j d acc, j ≤ l.length → acc.length ≤ j → (∀ x ∈ acc, Good x) → (concatS l k j d acc).ok = true → Good (concatS l k j d acc).n) ∧ ∀ j d acc, j ≤ l.length → acc.length ≤ j → (∀ x ∈ acc, Good x) → (eitherS l k j d acc).ok = true → Good (eitherS l k j d acc).n
 | 0 => ⟨fun j d h => by simp [atomS] at h, fun j d h => by simp [pieceS] at h, fun j d acc _ _ _ h => by simp [concatS] at h, fun j d acc _ _ _ h => by simp [eitherS] at h⟩
 | k + 1 => by
  obtain ⟨ha, hp, hc, he⟩ := readS_good l hll k
  obtain ⟨ia, ip, ic, ie⟩ := readS_in l k
  refine ⟨fun j d h => ?_, fun j d h => ?_, fun j d acc hj hal hga h => ?_, fun j d acc hj hal hga h => ?_⟩
  ·rw [atomS] at h ⊢
   dsimp only at h ⊢
   split at h
   ·rename_i h1
    rw [if_pos h1]
    have hj := pk_in (l := l) (i := j) (by rw [h1]; decide)
    split at h
    ·cases h
    ·rename_i h2
     rw [if_neg h2]
     split at h
     ·rename_i h3
      rw [if_pos h3]
      have := he (j + 1) (d + 1) [] (by omega) (by simp) (fun x h => by cases h) h3
      split at h
      ·rename_i h4
       rw [if_pos h4]
       exact this
      ·cases h
     ·cases h
   ·rename_i h1
    rw [if_neg h1]
    split at h
    ·rename_i h2
     rw [if_pos h2]
     exact good_rune _ _ _
    ·rename_i h2
     rw [if_neg h2]
     split at h
     ·rename_i h3
      rw [if_pos h3]
      exact good_rune _ _ _
     ·rename_i h3
      rw [if_neg h3]
      split at h
      ·rename_i h4
       rw [if_pos h4]
       exact good_rune _ _ _
      ·rename_i h4
       rw [if_neg h4]
       exact good_rune _ _ _
  ·rw [pieceS] at h ⊢
   try dsimp only at h ⊢
   split at h
   ·rename_i h1
    rw [if_pos h1]
    have h0 := ha j d h1
    split at h
    ·rename_i h2
     rw [if_pos h2]
     exact good_rep h0 (by omega) (by omega) (.inl rfl)
    ·rename_i h2
     rw [if_neg h2]
     split at h
     ·rename_i h3
      rw [if_pos h3]
      exact good_rep h0 (by omega) (by omega) (.inl rfl)
     ·rename_i h3
      rw [if_neg h3]
      split at h
      ·rename_i h4
       rw [if_pos h4]
       exact good_rep h0 (by omega) (by omega) (.inr (by omega))
      ·rename_i h4
       rw [if_neg h4]
       split at h
       ·rename_i h5
        rw [if_pos h5]
        have := times_good h
        exact good_rep h0 this.1 this.2.1 this.2.2
       ·rename_i h5
        rw [if_neg h5]
        exact h0
   ·rename_i h1
    exact absurd h h1
  ·rw [concatS] at h ⊢
   try dsimp only at h ⊢
   split at h
   ·rename_i h1
    rw [if_pos h1]
    exact conN_good hga (by omega)
   ·rename_i h1
    rw [if_neg h1]
    split at h
    ·rename_i h2
     rw [if_pos h2]
     have h0 := ip j d h2
     refine hc _ d _ h0.2 (by simp; omega) (fun x hx => ?_) h
     rcases List.mem_append.1 hx with hx | hx
     ·exact hga x hx
     ·simp at hx; subst hx; exact hp j d h2
    ·rename_i h2
     exact absurd h h2
  ·rw [eitherS] at h ⊢
   try dsimp only at h ⊢
   split at h
   ·rename_i h1
    rw [if_pos h1]
    have h0 := ic j d [] hj h1
    have hg0 := hc j d [] hj (by simp) (fun x h => by cases h) h1
    have hga2 : ∀ x ∈ acc ++ [(concatS l k j d []).n], Good x := fun x hx => by
     rcases List.mem_append.1 hx with hx | hx
     ·exact hga x hx
     ·simp at hx; subst hx; exact hg0
    split at h
    ·rename_i h2
     rw [if_pos h2]
     have := pk_in (l := l) (i := (concatS l k j d []).at_) (by rw [h2]; decide)
     exact he _ d _ (by omega) (by simp; omega) hga2 h
    ·rename_i h2
     rw [if_neg h2]
     exact eitN_good hga2 (by simp; omega)
   ·rename_i h1
    exact absurd h h1
def parseL (l : List Int) : Nd × Int :=
 let r := eitherS l (5 * l.length + 4) 0 0 []
 if r.ok = true ∧ r.at_ = l.length then (if 400 < sizeN r.n then (ndZ, 5) else (r.n, 0)) else (ndZ, 3)
def parseU (s : List UInt8) : Nd × Int := match runesU s with
 | none => (ndZ, 3)
 | some l => parseL l
theorem encN_zero : encN ndZ = .agg [.int .i64 0, .bool false, .nilS, .int .i64 0, .int .i64 0, .nilS] := by rw [ndZ, encN_eq]; rfl
theorem parse_okX (s : List UInt8) (hl : s.length ≤ 1000) (prot : Nat) (H : Heap) (hp : prot ≤ H.length) :
  aLim cfg prot 120 [.str s] H = some (.tup [encN (parseU s).1, .int .i64 (parseU s).2], none) := by
 have hfz : ∀ (K : Heap) k n a x y b e, still a = true → still b = true → Frz K H.length (packR [.agg [.int .i64 k, .bool n, a, .int .i64 x, .int .i64 y, b], .int .i64 e]) (.tup [.agg [.int .i64 k, .bool n, a, .int .i64 x, .int .i64 y, b], .int .i64 e]) := fun K k n a x y b e h1 h2 =>
  .tup (.cons (.agg (.cons (.still rfl) (.cons (.still rfl) (.cons (.still h1) (.cons (.still rfl) (.cons (.still rfl) (.cons (.still h2) .nil))))))) (.cons (.still rfl) .nil))
 have hlZ : ∀ Z, (H ++ [Blk.cells 0 Z]).length = H.length + 1 := fun Z => by simp
 have hpl1 : H.length ≤ H.length + 1 := by omega
 have hv := validU_runes s
 have n1 := fun (K : Heap) (hK : H.length ≤ K.length) => valid_ok s (by omega) H.length K hK
 have hz0 : hget (H ++ [Blk.cells 0 [.int .i64 0, .bool false, .nilS, .int .i64 0, .int .i64 0, .nilS]]) H.length 0 = some [.int .i64 0, .bool false, .nilS, .int .i64 0, .int .i64 0, .nilS] := by simp [hget]
 have hp1 := hput6 (prot := H.length) hz0 rfl (Nat.le_refl _) 0 false .nilS 0 0 .nilS rfl rfl
 have hgZ : ∀ d, hget ((H ++ [Blk.cells 0 [.int .i64 0, .bool false, .nilS, .int .i64 0, .int .i64 0, .nilS]]).set H.length (.cells 0 d)) H.length 0 = some d := fun d => hget_set_at (by simp)
 unfold parseU
 refine pure_slim rfl (by kernel_rfl) Tryz.func120 s120 hp rfl (by simp [Tryz.f120]) fun fr hlen h => ?_
 simp only [Has] at h
 obtain ⟨a0, -⟩ := h
 simp only [Tryz.f120] at hlen ⊢
 unfold g120
 cases hr : runesU s with
 | none =>
  rw [hr] at hv
  rw [hv] at n1
  simp only [encN_zero]
  simp only [w9, reduceEqDiff, reduceLT, reduceAdd, reduceCtorEq, u153, hlen, a0, hlZ, hpl1, n1, Option.isSome, hp1]
  exact Fin_pure (l := [.agg [.int .i64 0, .bool false, .nilS, .int .i64 0, .int .i64 0, .nilS], .int .i64 3]) (by simp [w9, u153, hlen]) (hfz _ _ _ _ _ _ _ _ rfl rfl) (by simp)
 | some l =>
  rw [hr] at hv
  rw [hv] at n1
  have hro := runesU_ok s.length s l (Nat.le_refl _) hr
  have hl' : Runes l := ⟨by omega, hro.2⟩
  have n2 := fun (K : Heap) (hK : H.length ≤ K.length) => runes_ok s (by omega) l hr H.length K hK
  have hLl := (slv_sl encI l)
  have hlf : (slv encI l).leaf = true := by cases l <;> rfl
  have hlc : (slv encI l).cells = [slv encI l] := by cases l <;> rfl
  have hls1 : ∀ Z, (H ++ [Blk.cells 0 Z]).length = H.length + 1 := fun Z => by simp
  have hb : hget (H ++ [Blk.cells 0 [.int .i64 0, .bool false, .nilS, .int .i64 0, .int .i64 0, .nilS]] ++ [Blk.cells 0 [slv encI l, .int .i64 0]]) (H.length + 1) 0 = some [slv encI l, .int .i64 ((0 : Nat) : Int)] := by rw [hget_new (hls1 _).symm, if_pos rfl]; rfl
  have hz1 := hget_mono hz0 [Blk.cells 0 [slv encI l, .int .i64 0]]
  have hl1 : (H ++ [Blk.cells 0 [.int .i64 0, .bool false, .nilS, .int .i64 0, .int .i64 0, .nilS]] ++ [Blk.cells 0 [slv encI l, .int .i64 0]]).length = H.length + 2 := by simp
  have n3 : aLim cfg H.length 152 [.ptr (H.length + 1) 0 0, .int .i64 0] _ = _ := (read_ok l hl' (5 * l.length + 4)).1 (slv encI l) hLl 0 0 (H.length + 1) H.length _ (by omega) hb (by omega) (by omega) (by omega)
  dsimp only at n3
  have hin := (readS_in l (5 * l.length + 4)).2.2.2 0 0 [] (by omega)
  have hgd := (readS_good l hl'.1 (5 * l.length + 4)).2.2.2 0 0 [] (by omega) (by simp) (fun x h => by cases h)
  unfold parseL
  dsimp only
  generalize eitherS l (5 * l.length + 4) 0 0 [] = r at *
  obtain ⟨x, j, ok⟩ := r
  obtain ⟨k', no, s', x1, x2, t, hx, hs, ht, hs2, ht2⟩ := encN_sh x
  dsimp only at n3 hin hgd ⊢
  have n4 := fun (hg : Good x) (K : Heap) (hK : H.length ≤ K.length) => nsize_ok x hg H.length K hK
  rw [hx] at n3 n4
  have hs0 := hs
  have ht0 := ht
  unfold AV.leaf at hs ht hlf; unfold AV.cells at hlc
  generalize hK1 : H ++ [Blk.cells 0 [.int .i64 0, .bool false, .nilS, .int .i64 0, .int .i64 0, .nilS]] ++ [Blk.cells 0 [slv encI l, .int .i64 0]] = K1 at *
  have hl2 : ∀ c, (K1.set (H.length + 1) (.cells 0 c)).length = H.length + 2 := fun c => by simp [hl1]
  have hpl2 : H.length ≤ H.length + 2 := by omega
  simp only [w9, reduceEqDiff, reduceLT, reduceAdd, reduceLeDiff, reduceCtorEq, reduceMod, u153, hlen, a0, hlZ, hpl1, n1, Option.isSome, n2, hlf, hlc, hK1, n3, hl2, hpl2, hs, ht]
  have hz2 : ∀ c, hget (K1.set (H.length + 1) (.cells 0 c) ++ [Blk.cells 0 [.int .i64 k', .bool no, s', .int .i64 x1, .int .i64 x2, t]]) H.length 0 = some [.int .i64 0, .bool false, .nilS, .int .i64 0, .int .i64 0, .nilS] := fun c => hget_mono (by rw [hget_set_ne (by omega)]; exact hz1) _
  have hb2 : ∀ c, hget (K1.set (H.length + 1) (.cells 0 c) ++ [Blk.cells 0 [.int .i64 k', .bool no, s', .int .i64 x1, .int .i64 x2, t]]) (H.length + 1) 0 = some c := fun c => hget_mono (hget_set_at (by omega)) _
  have hn2 : ∀ c, hget (K1.set (H.length + 1) (.cells 0 c) ++ [Blk.cells 0 [.int .i64 k', .bool no, s', .int .i64 x1, .int .i64 x2, t]]) (H.length + 2) 0 = some [.int .i64 k', .bool no, s', .int .i64 x1, .int .i64 x2, t] := fun c => by rw [hget_new (hl2 _).symm, if_pos rfl]
  have hl3 : H.length ≤ (K1.set (H.length + 1) (.cells 0 [slv encI l, .int .i64 (j : Nat)]) ++ [Blk.cells 0 [.int .i64 k', .bool no, s', .int .i64 x1, .int .i64 x2, t]]).length := by simp; omega
  have hz3 := hz2 [slv encI l, .int .i64 (j : Nat)]
  have hb3 := hb2 [slv encI l, .int .i64 (j : Nat)]
  have hn3 := hn2 [slv encI l, .int .i64 (j : Nat)]
  generalize K1.set (H.length + 1) (.cells 0 [slv encI l, .int .i64 (j : Nat)]) ++ [Blk.cells 0 [.int .i64 k', .bool no, s', .int .i64 x1, .int .i64 x2, t]] = K2 at *
  have hgZ2 : ∀ d, hget (K2.set H.length (.cells 0 d)) H.length 0 = some d := fun d => hget_set_at (hget_lt hz3)
  have hp0 := hput6 (prot := H.length) hz3 rfl (Nat.le_refl _) 0 false .nilS 0 0 .nilS rfl rfl
  have hlnL := hLl.len (P := Tryz.prog) (H := K2) Tryz.underlying206
  cases ok with
  | false =>
   simp only [Bool.false_eq_true, false_and, if_false, encN_zero]
   simp only [w9, reduceEqDiff, reduceLT, reduceAdd, u153, hlen, hp0]
   exact Fin_pure (l := [.agg [.int .i64 0, .bool false, .nilS, .int .i64 0, .int .i64 0, .nilS], .int .i64 3]) (by simp [w9, u153, hlen, hgZ2]) (hfz _ _ _ _ _ _ _ _ rfl rfl) (by simp)
  | true =>
   by_cases hj : j = l.length
   ·subst hj
    have hg := hgd rfl
    have n5 := n4 hg K2 hl3
    simp only [true_and, if_true]
    by_cases h4 : 400 < sizeN x
    ·have d2 : decide ((400 : Int) < (sizeN x : Int)) = true := decide_eq_true (by omega)
     simp only [h4, if_true, encN_zero]
     simp only [w9, reduceEqDiff, reduceLT, reduceAdd, u153, hlen, hb3, hlnL, hn3, n5, d2, hp0]
     exact Fin_pure (l := [.agg [.int .i64 0, .bool false, .nilS, .int .i64 0, .int .i64 0, .nilS], .int .i64 5]) (by simp [w9, u153, hlen, hgZ2]) (hfz _ _ _ _ _ _ _ _ rfl rfl) (by simp)
    ·have d2 : decide ((400 : Int) < (sizeN x : Int)) = false := decide_eq_false (by omega)
     have hp2 := hput6 (prot := H.length) hz3 rfl (Nat.le_refl _) k' no s' x1 x2 t hs0 ht0
     simp only [h4, if_false, hx]
     simp only [w9, reduceEqDiff, reduceLT, reduceAdd, u153, hlen, hb3, hlnL, hn3, n5, d2, hp2]
     exact Fin_pure (l := [.agg [.int .i64 k', .bool no, s', .int .i64 x1, .int .i64 x2, t], .int .i64 0]) (by simp [w9, u153, hlen, hgZ2]) (hfz _ _ _ _ _ _ _ _ hs2 ht2) (by simp)
   ·have d1 : decide (¬ ((j : Nat) : Int) = (l.length : Nat)) = true := decide_eq_true (by omega)
    simp only [hj, and_false, if_false, encN_zero]
    simp only [w9, reduceEqDiff, reduceLT, reduceAdd, u153, hlen, hb3, hlnL, d1, hp0]
    exact Fin_pure (l := [.agg [.int .i64 0, .bool false, .nilS, .int .i64 0, .int .i64 0, .nilS], .int .i64 3]) (by simp [w9, u153, hlen, hgZ2]) (hfz _ _ _ _ _ _ _ _ rfl rfl) (by simp)
open Go Go.Abs AbsSeat Ty
inductive Fine : Nd → Prop where
 | mk {kind : Int} {no sf : Bool} {sp : List Sg} {least most : Int} {kf : Bool} {kids : List Nd} (h : ∀ x ∈ kids, Fine x) (hs : sp.length ≤ 10000000) (hl : kids.length ≤ 1000000) : Fine (.mk kind no sf sp least most kf kids)
theorem fine_zero : Fine ndZ := .mk (fun x h => by cases h) (by simp) (by simp)
theorem fine_rune (no sf : Bool) (sp : List Sg) (h : sp.length ≤ 10000000) : Fine (.mk 1 no sf sp 0 0 false []) := .mk (fun x h => by cases h) h (by simp)
theorem fine_rep {x : Nd} (h : Fine x) (a b : Int) : Fine (ndR x a b) := .mk (fun y hy => by simp at hy; subst hy; exact h) (by simp) (by simp)
theorem conN_fine {l : List Nd} (h : ∀ x ∈ l, Fine x) (hl : l.length ≤ 1000000) : Fine (conN l) := by
 match l, h, hl with
 | [], _, _ => exact fine_zero
 | [x], h, _ => exact h x (by simp)
 | x :: y :: r, h, hl => exact .mk h (by simp) hl
theorem eitN_fine {l : List Nd} (h : ∀ x ∈ l, Fine x) (hl : l.length ≤ 1000000) : Fine (eitN l) := by
 match l, h, hl with
 | [], h, hl => exact .mk h (by simp) hl
 | [x], h, _ => exact h x (by simp)
 | x :: y :: r, h, hl => exact .mk h (by simp) hl
theorem classGo_len (l : List Int) : ∀ (k j : Nat) (acc : List Sg), (classGo l k j acc).1.length ≤ acc.length + 4 * k
 | 0, j, acc => by rw [classGo]; simp
 | k + 1, j, acc => by
  rw [classGo]
  split
  ·exact Nat.le_add_right _ _
  ·split
   ·split
    ·have := classGo_len l k (j + 2) (acc ++ (escSX (pk l (j + 1))).1)
     have h2 := escS_len (pk l (j + 1))
     rw [List.length_append] at this
     omega
    ·exact Nat.le_add_right _ _
   ·split
    ·exact Nat.le_add_right _ _
    ·split
     ·split
      ·exact Nat.le_add_right _ _
      ·have := classGo_len l k (j + 3) (acc ++ [⟨pk l j, pk l (j + 2)⟩])
       rw [List.length_append, List.length_singleton] at this
       omega
     ·have := classGo_len l k (j + 1) (acc ++ [⟨pk l j, pk l j⟩])
      rw [List.length_append, List.length_singleton] at this
      omega
theorem class_fine (l : List Int) (hll : l.length < 1000000) (j : Nat) : Fine (classS l j).n := by
 unfold classS
 dsimp only
 refine fine_rune _ _ _ ?_
 have := classGo_len l (l.length + 2) (if pk l j = 94 then j + 1 else j) []
 simp only [List.length_nil] at this
 omega
theorem readS_fine (l : List Int) (hll : l.length < 1000000) : ∀ k : Nat, (∀ j d, (atomS l k j d).ok = true → Fine (atomS l k j d).n) ∧ (∀ j d, (pieceS l k j d).ok = true → Fine (pieceS l k j d).n) ∧
  (∀ j d acc, j ≤ l.length → acc.length ≤ j → (∀ x ∈ acc, Fine x) → (concatS l k j d acc).ok = true → Fine (concatS l k j d acc).n) ∧ ∀ j d acc, j ≤ l.length → acc.length ≤ j → (∀ x ∈ acc, Fine x) → (eitherS l k j d acc).ok = true → Fine (eitherS l k j d acc).n
 | 0 => ⟨fun j d h => by simp [atomS] at h, fun j d h => by simp [pieceS] at h, fun j d acc _ _ _ h => by simp [concatS] at h, fun j d acc _ _ _ h => by simp [eitherS] at h⟩
 | k + 1 => by
  obtain ⟨ha, hp, hc, he⟩ := readS_fine l hll k
  obtain ⟨ia, ip, ic, ie⟩ := readS_in l k
  refine ⟨fun j d h => ?_, fun j d h => ?_, fun j d acc hj hal hga h => ?_, fun j d acc hj hal hga h => ?_⟩
  ·rw [atomS] at h ⊢
   dsimp only at h ⊢
   split at h
   ·rename_i h1
    rw [if_pos h1]
    have hj := pk_in (l := l) (i := j) (by rw [h1]; decide)
    split at h
    ·cases h
    ·rename_i h2
     rw [if_neg h2]
     split at h
     ·rename_i h3
      rw [if_pos h3]
      have := he (j + 1) (d + 1) [] (by omega) (by simp) (fun x h => by cases h) h3
      split at h
      ·rename_i h4
       rw [if_pos h4]
       exact this
      ·cases h
     ·cases h
   ·rename_i h1
    rw [if_neg h1]
    split at h
    ·rename_i h2
     rw [if_pos h2]
     exact class_fine l hll _
    ·rename_i h2
     rw [if_neg h2]
     split at h
     ·rename_i h3
      rw [if_pos h3]
      exact fine_rune _ _ _ (by simp)
     ·rename_i h3
      rw [if_neg h3]
      split at h
      ·rename_i h4
       rw [if_pos h4]
       exact fine_rune _ _ _ (by have := escS_len (pk l (j + 1)); omega)
      ·rename_i h4
       rw [if_neg h4]
       exact fine_rune _ _ _ (by simp)
  ·rw [pieceS] at h ⊢
   try dsimp only at h ⊢
   split at h
   ·rename_i h1
    rw [if_pos h1]
    have h0 := ha j d h1
    split at h
    ·rename_i h2
     rw [if_pos h2]
     exact fine_rep h0 _ _
    ·rename_i h2
     rw [if_neg h2]
     split at h
     ·rename_i h3
      rw [if_pos h3]
      exact fine_rep h0 _ _
     ·rename_i h3
      rw [if_neg h3]
      split at h
      ·rename_i h4
       rw [if_pos h4]
       exact fine_rep h0 _ _
      ·rename_i h4
       rw [if_neg h4]
       split at h
       ·rename_i h5
        rw [if_pos h5]
        exact fine_rep h0 _ _
       ·rename_i h5
        rw [if_neg h5]
        exact h0
   ·rename_i h1
    exact absurd h h1
  ·rw [concatS] at h ⊢
   try dsimp only at h ⊢
   split at h
   ·rename_i h1
    rw [if_pos h1]
    exact conN_fine hga (by omega)
   ·rename_i h1
    rw [if_neg h1]
    split at h
    ·rename_i h2
     rw [if_pos h2]
     have h0 := ip j d h2
     refine hc _ d _ h0.2 (by simp; omega) (fun x hx => ?_) h
     rcases List.mem_append.1 hx with hx | hx
     ·exact hga x hx
     ·simp at hx; subst hx; exact hp j d h2
    ·rename_i h2
     exact absurd h h2
  ·rw [eitherS] at h ⊢
   try dsimp only at h ⊢
   split at h
   ·rename_i h1
    rw [if_pos h1]
    have h0 := ic j d [] hj h1
    have hg0 := hc j d [] hj (by simp) (fun x h => by cases h) h1
    have hga2 : ∀ x ∈ acc ++ [(concatS l k j d []).n], Fine x := fun x hx => by
     rcases List.mem_append.1 hx with hx | hx
     ·exact hga x hx
     ·simp at hx; subst hx; exact hg0
    split at h
    ·rename_i h2
     rw [if_pos h2]
     have := pk_in (l := l) (i := (concatS l k j d []).at_) (by rw [h2]; decide)
     exact he _ d _ (by omega) (by simp; omega) hga2 h
    ·rename_i h2
     rw [if_neg h2]
     exact eitN_fine hga2 (by simp; omega)
   ·rename_i h1
    exact absurd h h1
theorem parse_fine (s : List UInt8) (hl : s.length ≤ 1000) : Fine (parseU s).1 := by
 unfold parseU
 cases hr : runesU s with
 | none => exact fine_zero
 | some l =>
  have hro := runesU_ok s.length s l (Nat.le_refl _) hr
  show Fine (parseL l).1
  unfold parseL
  dsimp only
  have h := (readS_fine l (by omega) (5 * l.length + 4)).2.2.2 0 0 [] (by omega) (by simp) (fun x h => by cases h)
  split
  ·rename_i h1
   split
   ·exact fine_zero
   ·exact h h1.1
  ·exact fine_zero
end Go.Proofs.YtnipaiklandliaaGreatDoor
