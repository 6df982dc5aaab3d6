import Derived.Test.YtoblikhnbddfmaaRx1
/-! Chapter 15: nodes, and classes, walked. -/
set_option linter.unusedSimpArgs false
namespace Go.Abs
open Go
theorem Row.low {α : Type} {enc : α → AV} {sz : Nat} {ag : Bool} {base base' : Nat} {H : Heap} {v : AV} {l : List α} (h : Row enc sz ag base H v l) (hb : base' ≤ base) : Row enc sz ag base' H v l := by
  rcases h with h | ⟨b, ver, h1, h2, h3, h4⟩
  · exact .inl h
  · exact .inr ⟨b, ver, h1, by omega, h3, h4⟩
theorem Row.setne {α : Type} {enc : α → AV} {sz : Nat} {ag : Bool} {base b' : Nat} {H : Heap} {v : AV} {l : List α} (h : Row enc sz ag base H v l) (hb : b' < base) (k : Blk) : Row enc sz ag base (H.set b' k) v l := by
  rcases h with h | ⟨b, ver, h1, h2, h3, h4⟩
  · exact .inl h
  · exact .inr ⟨b, ver, h1, h2, by rw [hget_set_ne (by omega)]; exact h3, h4⟩
/-- one row behind another one, in a heap of which one old block changes. -/
theorem Row.appK {α : Type} {enc : α → AV} {sz : Nat} {ag : Bool} {base : Nat} {H : Heap} {v : AV} {l : List α} (h : Row enc sz ag base H v l) (he : EncT enc sz ag) {P : Program} {t xt e : TypeId} {by_ prot : Nat} (ht : RowT P t e sz by_ ag) (hxt : (∃ e', P.underlying xt = some (.slice e')) ∨ P.underlying xt = some .string) {x : AV} {m : List α}
    (hx : elemCells H sz x = some (m.length, cellsOf enc m)) (hm : 0 < m.length) (hr : roomy (l.length + m.length) by_ = true) (hp : prot ≤ base) (hb : base ≤ H.length) {H0 : Heap} {b0 : Nat} {c : List AV} (hk : Kp H0 b0 c H) (h0 : H0.length ≤ base) :
    ∃ v' H', aAppend P prot H #[t, xt] v x = some (v', some H') ∧ Row enc sz ag base H' v' (l ++ m) ∧ H.length ≤ H'.length ∧ v' ≠ .nilS ∧ Kp H0 b0 c H' ∧
      ∀ b ver cs, b < base → hget H b ver = some cs → hget H' b ver = some cs := by
  obtain ⟨v', H', h1, h2, h3, h4, h5, h6⟩ := h.appB he ht hxt hx hm hr hp hb
  have h7 : ∀ b ver cs, b < base → hget H b ver = some cs → hget H' b ver = some cs := fun b ver cs hlt hg => h5 b ver cs hg fun s hs => by
    rcases h with ⟨q, _⟩ | ⟨b', ver', q, hb', _⟩
    · rw [q] at hs; cases hs
    · rw [q] at hs; cases hs; simp; omega
  refine ⟨v', H', h1, h2, h3, h4, ?_, h7⟩
  obtain ⟨z, hz, hzl⟩ := ht.zero
  have hm0 : ¬ m.length = 0 := by omega
  have hlf := cellsOf_leaf he m
  rcases h with ⟨rfl, rfl⟩ | ⟨b, ver, rfl, g2, g3, hv4⟩
  · simp only [List.length_nil, Nat.zero_add] at hr
    have e : aAppend P prot H #[t, xt] .nilS x = some (.bs ⟨H.length, 0, 0, m.length, 0, sz, ag, false⟩, some (H ++ [Blk.cells 0 (cellsOf enc m)])) := by
      rcases hxt with ⟨e', hu⟩ | hu <;> unfold aAppend <;>
      simp only [ht.row0, List.getElem?_toArray, List.getElem?_cons_zero, List.getElem?_cons_succ, Option.bind_some, ht.elem, ht.size, ht.bytes, ht.agg, hz, hzl, hu, hx, ne_eq, not_true_eq_false, if_false, hlf, if_true, hm0, hr]
    rw [e] at h1
    cases h1
    exact hk.app _
  · have e : aAppend P prot H #[t, xt] (.bs ⟨b, ver, 0, l.length, 0, sz, ag, false⟩) x = some (.bs ⟨b, ver + 4, 0, l.length + m.length, 0, sz, ag, false⟩, some (H.set b (Blk.cells (ver + 4) (cellsOf enc l ++ cellsOf enc m)))) := by
      have hw : win (cellsOf enc l) 0 (l.length * sz) = some (cellsOf enc l) := by
        have := cellsOf_length he l
        simp only [win, Nat.zero_add, List.drop_zero]
        rw [if_pos (by omega), List.take_of_length_le (by omega)]
      rcases hxt with ⟨e', hu⟩ | hu <;> unfold aAppend <;>
      simp only [List.getElem?_toArray, List.getElem?_cons_zero, List.getElem?_cons_succ, Option.bind_some, ht.elem, ht.size, ht.bytes, ht.agg, hz, hzl, hu, hx, ne_eq, not_true_eq_false, if_false, hlf, if_true, hm0, hr, g3, hw, Bool.false_eq_true,
        Nat.le_trans hp g2, rowOk_zero hv4, and_self]
    rw [e] at h1
    cases h1
    exact hk.new (Nat.le_trans h0 g2) _
end Go.Abs
namespace Go.Proofs.Ytoblikhnbddfmaa
open Go Go.Abs AbsSeat Ty

/-- a node; with each row, whether it is all of what it lies in. -/
inductive Nd where
  | mk (kind : Int) (no : Bool) (sf : Bool) (sp : List Sg) (least most : Int) (kf : Bool) (kids : List Nd)
def slF {α : Type} (f : Bool) (enc : α → AV) : List α → AV
  | [] => .nilS
  | l => .vs (l.map enc) f
theorem slF_slv {α : Type} (enc : α → AV) (l : List α) : slF false enc l = slv enc l := by cases l <;> rfl
theorem slF_sl {α : Type} (f : Bool) (enc : α → AV) (l : List α) : Sl enc (slF f enc l) l := by
  cases l with
  | nil => exact .nil
  | cons x r => exact .vs (x :: r) f
mutual
def encN : Nd → AV
  | .mk kind no sf sp least most kf kids => .agg [.int .i64 kind, .bool no, slF sf encG sp, .int .i64 least, .int .i64 most, match kids with | [] => .nilS | x :: r => .vs (encN x :: encNs r) kf]
def encNs : List Nd → List AV
  | [] => []
  | x :: r => encN x :: encNs r
end
theorem encNs_map (l : List Nd) : encNs l = l.map encN := by
  induction l with
  | nil => rfl
  | cons x r ih => rw [encNs, ih]; rfl
theorem encN_eq (kind : Int) (no sf : Bool) (sp : List Sg) (least most : Int) (kf : Bool) (kids : List Nd) : encN (.mk kind no sf sp least most kf kids) = .agg [.int .i64 kind, .bool no, slF sf encG sp, .int .i64 least, .int .i64 most, slF kf encN kids] := by
  cases kids with
  | nil => simp only [encN]; rfl
  | cons x r => simp only [encN, encNs_map]; rfl
theorem slF_leaf {α : Type} (f : Bool) (enc : α → AV) (l : List α) : (slF f enc l).leaf = true := by cases l <;> rfl
theorem slF_still {α : Type} (f : Bool) (enc : α → AV) (l : List α) : still (slF f enc l) = true := by cases l <;> rfl
theorem slF_cells {α : Type} (f : Bool) (enc : α → AV) (l : List α) : (slF f enc l).cells = [slF f enc l] := by cases l <;> rfl
theorem encN_len (x : Nd) : (encN x).cells.length = 6 := by cases x; rw [encN_eq]; rfl
theorem encN_T : EncT encN 6 true where
  len x := encN_len x
  leaf x c hc := by
    cases x; rw [encN_eq] at hc
    simp only [AV.cells, List.mem_cons, List.not_mem_nil, or_false] at hc
    rcases hc with rfl | rfl | rfl | rfl | rfl | rfl <;> first | rfl | exact slF_leaf _ _ _
  still x c hc := by
    cases x; rw [encN_eq] at hc
    simp only [AV.cells, List.mem_cons, List.not_mem_nil, or_false] at hc
    rcases hc with rfl | rfl | rfl | rfl | rfl | rfl <;> first | rfl | exact slF_still _ _ _
  shape x := by cases x; rw [encN_eq]; rfl
theorem rowN : RowT Try.prog 39 41 6 80 true where
  un := Try.underlying39
  size := sz41
  bytes := by41
  agg := ag41
  zero := ⟨_, ze41, rfl⟩
  pos := by decide
  tree := rfl

theorem escS_len (c : Int) : 0 < (escS c).1.length ∧ (escS c).1.length ≤ 4 := by
  unfold escS
  repeat' split
  all_goals exact ⟨by simp, by simp⟩
theorem hxtG : (∃ e', Try.prog.underlying 38 = some (.slice e')) ∨ Try.prog.underlying 38 = some .string := .inl ⟨_, Try.underlying38⟩
def cls1 : List UInt8 := [91, 93, 94, 45]
def cls2 : List UInt8 := [91, 93, 94, 45, 92]
/-- what a [ has behind it: its spans, where it ends, whether it is right. -/
def classGo (l : List Int) : Nat → Nat → List Sg → List Sg × Nat × Bool
  | 0, j, acc => (acc, j, false)
  | k + 1, j, acc =>
    if pk l j = 93 then (acc, j + 1, true)
    else if pk l j = 92 then
      if (escS (pk l (j + 1))).2 = true then classGo l k (j + 2) (acc ++ (escS (pk l (j + 1))).1) else (acc, j + 2, false)
    else if pk l j = -1 ∨ hasS cls1 (pk l j) = true then (acc, j + 1, false)
    else if pk l (j + 1) = 45 then
      if pk l (j + 2) < pk l j ∨ hasS cls2 (pk l (j + 2)) = true then (acc, j + 3, false) else classGo l k (j + 3) (acc ++ [⟨pk l j, pk l (j + 2)⟩])
    else classGo l k (j + 1) (acc ++ [⟨pk l j, pk l j⟩])
/-- a node that was read, where it ends, whether it is right. -/
structure Rd where
  n : Nd
  at_ : Nat
  ok : Bool
def classS (l : List Int) (j : Nat) : Rd :=
  let i := if pk l j = 94 then j + 1 else j
  let g := classGo l (l.length + 2) i []
  ⟨.mk 1 (decide (pk l j = 94)) false g.1 0 0 false [], g.2.1, g.2.2 && decide (0 < g.1.length)⟩
theorem cls_end {prot : Nat} {res : List ResultVar} {fr : List AV} {H K : Heap} {b : Nat} {L : AV} {j : Nat} {v : AV} {acc : List Sg} {X : Blk} {nt ok : Bool} (kp : Kp H b [L, .int .i64 (j : Nat)] K) (hrow : Row encG 2 true (H.length + 2) K v acc) (hne : v = .nilS ∨ acc ≠ [])
    (h1 : aResults cfg.P fr (K.set H.length X) res = some [.agg [.int .i64 1, .bool nt, v, .int .i64 0, .int .i64 0, .nilS], .bool ok]) :
    Fin ⟨cfg, prot, res, .trim H⟩ fr (K.set H.length X) (.tup [encN (.mk 1 nt false acc 0 0 false []), .bool ok], some (H.set b (.cells 0 [L, .int .i64 (j : Nat)]))) := by
  have hf := ((hrow.setne (b' := H.length) (by omega) X).low (base' := H.length) (by omega)).frozen encG_T (by decide) rfl hne
  refine (kp.new (Nat.le_refl _) X).fin h1 ?_
  rw [encN_eq, slF_slv]
  exact .tup (.cons (.agg (.cons (.still rfl) (.cons (.still rfl) (.cons hf (.cons (.still rfl) (.cons (.still rfl) (.cons (.still rfl) .nil))))))) (.cons (.still rfl) .nil))
theorem u125 : type_of% (And.intro (show tagT Try.prog 41 = 0 from by kernel_rfl) (And.intro ag1 (And.intro sz1 (And.intro by1 (And.intro ze1 (And.intro Try.underlying1 (And.intro ag3 (And.intro sz3 (And.intro by3 (And.intro ze3 (And.intro Try.underlying3 (And.intro ag4 (And.intro sz4 (And.intro by4 (And.intro ze4 (And.intro Try.underlying4 (And.intro ag9 (And.intro sz9 (And.intro by9 (And.intro ze9 (And.intro Try.underlying9 (And.intro ag21 (And.intro sz21 (And.intro by21 (And.intro ze21 (And.intro Try.underlying21 (And.intro ag38 (And.intro sz38 (And.intro by38 (And.intro se38 (And.intro ze38 (And.intro Try.underlying38 (And.intro ag39 (And.intro sz39 (And.intro by39 (And.intro se39 (And.intro ze39 (And.intro Try.underlying39 (And.intro ag41 (And.intro sz41 (And.intro by41 (And.intro ze41 (And.intro bu41 (And.intro Try.underlying41 (And.intro ag103 (And.intro sz103 (And.intro by103 (And.intro ze103 (And.intro Try.underlying103 (And.intro ag106 (And.intro sz106 (And.intro by106 (And.intro ze106 (And.intro bu106 (And.intro Try.underlying106 (And.intro ag129 (And.intro sz129 (And.intro by129 (And.intro ze129 (And.intro bu129 (And.intro Try.underlying129 (And.intro fa41_1 (And.intro fd41_1 (And.intro fa41_2 (And.intro fd41_2 (And.intro fa106_1 fd106_1)))))))))))))))))))))))))))))))))))))))))))))))))))))))))))))))))) := And.intro (show tagT Try.prog 41 = 0 from by kernel_rfl) (And.intro ag1 (And.intro sz1 (And.intro by1 (And.intro ze1 (And.intro Try.underlying1 (And.intro ag3 (And.intro sz3 (And.intro by3 (And.intro ze3 (And.intro Try.underlying3 (And.intro ag4 (And.intro sz4 (And.intro by4 (And.intro ze4 (And.intro Try.underlying4 (And.intro ag9 (And.intro sz9 (And.intro by9 (And.intro ze9 (And.intro Try.underlying9 (And.intro ag21 (And.intro sz21 (And.intro by21 (And.intro ze21 (And.intro Try.underlying21 (And.intro ag38 (And.intro sz38 (And.intro by38 (And.intro se38 (And.intro ze38 (And.intro Try.underlying38 (And.intro ag39 (And.intro sz39 (And.intro by39 (And.intro se39 (And.intro ze39 (And.intro Try.underlying39 (And.intro ag41 (And.intro sz41 (And.intro by41 (And.intro ze41 (And.intro bu41 (And.intro Try.underlying41 (And.intro ag103 (And.intro sz103 (And.intro by103 (And.intro ze103 (And.intro Try.underlying103 (And.intro ag106 (And.intro sz106 (And.intro by106 (And.intro ze106 (And.intro bu106 (And.intro Try.underlying106 (And.intro ag129 (And.intro sz129 (And.intro by129 (And.intro ze129 (And.intro bu129 (And.intro Try.underlying129 (And.intro fa41_1 (And.intro fd41_1 (And.intro fa41_2 (And.intro fd41_2 (And.intro fa106_1 fd106_1)))))))))))))))))))))))))))))))))))))))))))))))))))))))))))))))))
def g125 : Code :=
  .seq (.region 0 #[q 2 (.alloc 41) 0, q 3 (.assign (.const (.bool false))) 4] false) (.seq (.region 1 #[q 9 (cl 127 #[.const (.slice none 0 0)] #[38]) 41, q 4 (.alloc 41) 0, qn (.store 41 (.tmp 4) (.tmp 9)) 0] false) (.seq (.region 2 #[q 10 (.move (.tmp 0)) 103, q 11 (cl 83 #[.tmp 10, .const (.int .i32 94)] #[103, 21]) 4, q 12 (.fieldAddr 41 (.tmp 4) 1) 0, qn (.store 4 (.tmp 12) (.tmp 11)) 0] false) (.seq (.block 0 (.loop (.seq (.seq (.region 3 #[q 13 (.move (.tmp 0)) 103, q 14 (cl 83 #[.tmp 13, .const (.int .i32 93)] #[103, 21]) 4, q 15 (.unOp .not 4 (.tmp 14)) 4] false) (.cond (.tmp 15) .skip (.exit 0))) (.block 1 (.seq (.region 4 #[q 16 (.move (.tmp 0)) 103, q 17 (cl 101 #[.tmp 16] #[103]) 21, q 5 (.assign (.tmp 17)) 21] false) (.seq (.region 5 #[q 18 (.move (.tmp 0)) 103, q 19 (.nilCheck (.tmp 18)) 0, q 20 (.fieldAddr 106 (.tmp 19) 1) 0, q 21 (.load 3 (.tmp 20)) 3, q 22 (.binOp .add 3 (.tmp 21) (ik 1) 3) 3, q 23 (.nilCheck (.tmp 18)) 0, q 24 (.fieldAddr 106 (.tmp 23) 1) 0, qn (.store 3 (.tmp 24) (.tmp 22)) 0] false) (.seq (.block 2 (.seq (.region 6 #[q 26 (.move (.tmp 5)) 21, q 27 (.binOp .eql 21 (.tmp 26) (.const (.int .i32 92)) 21) 4, q 25 (.assign (.tmp 27)) 4] false) (.cond (.tmp 25) (.seq (.region 7 #[q 29 (.move (.tmp 0)) 103, q 30 (cl 126 #[.tmp 29] #[103]) 190, q 28 (.move (.tmp 30)) 190, q 31 (.extract (.tmp 28) 0) 38, q 32 (.extract (.tmp 28) 1) 4, q 6 (.assign (.tmp 31)) 38, q 7 (.assign (.tmp 32)) 4] false) (.seq (.seq (.region 8 #[q 33 (.move (.tmp 7)) 4, q 34 (.unOp .not 4 (.tmp 33)) 4] false) (.cond (.tmp 34) (.seq (.region 9 #[q 35 (.load 41 (.tmp 4)) 41, qn (.store 41 (.tmp 2) (.tmp 35)) 0, q 3 (.assign (.const (.bool false))) 4] false) .ret) .skip)) (.seq (.region 10 #[q 36 (.fieldAddr 41 (.tmp 4) 2) 0, q 37 (.load 38 (.tmp 36)) 38, q 38 (.move (.tmp 6)) 38, q 39 (bi .append #[.tmp 37, .tmp 38] #[38, 38]) 38, q 40 (.fieldAddr 41 (.tmp 4) 2) 0, qn (.store 38 (.tmp 40) (.tmp 39)) 0] false) (.exit 1)))) (.seq (.region 11 #[q 42 (.move (.tmp 5)) 21, q 43 (.binOp .eql 21 (.tmp 42) (.const (.int .i32 (-1))) 21) 4, q 44 (.move (.tmp 43)) 4, qg 45 (.move (.tmp 5)) 21 2 false, qg 46 (cl 128 #[.const (.string { data := #[91, 93, 94, 45] }), .tmp 45] #[9, 21]) 4 2 false, q 47 (.pick (.tmp 44) (.const (.bool true)) (.tmp 46)) 4, q 41 (.assign (.tmp 47)) 4] false) (.cond (.tmp 41) (.seq (.region 12 #[q 48 (.load 41 (.tmp 4)) 41, qn (.store 41 (.tmp 2) (.tmp 48)) 0, q 3 (.assign (.const (.bool false))) 4] false) .ret) .skip))))) (.seq (.region 13 #[q 49 (.move (.tmp 5)) 21, q 8 (.assign (.tmp 49)) 21] false) (.seq (.seq (.region 14 #[q 50 (.move (.tmp 0)) 103, q 51 (cl 83 #[.tmp 50, .const (.int .i32 45)] #[103, 21]) 4] false) (.cond (.tmp 51) (.seq (.region 15 #[q 52 (.move (.tmp 0)) 103, q 53 (cl 101 #[.tmp 52] #[103]) 21, q 8 (.assign (.tmp 53)) 21] false) (.seq (.region 16 #[q 54 (.move (.tmp 0)) 103, q 55 (.nilCheck (.tmp 54)) 0, q 56 (.fieldAddr 106 (.tmp 55) 1) 0, q 57 (.load 3 (.tmp 56)) 3, q 58 (.binOp .add 3 (.tmp 57) (ik 1) 3) 3, q 59 (.nilCheck (.tmp 54)) 0, q 60 (.fieldAddr 106 (.tmp 59) 1) 0, qn (.store 3 (.tmp 60) (.tmp 58)) 0] false) (.seq (.region 17 #[q 61 (.move (.tmp 8)) 21, q 62 (.move (.tmp 5)) 21, q 63 (.binOp .lss 21 (.tmp 61) (.tmp 62) 21) 4, q 64 (.move (.tmp 63)) 4, qg 65 (.move (.tmp 8)) 21 3 false, qg 66 (cl 128 #[.const (.string { data := #[91, 93, 94, 45, 92] }), .tmp 65] #[9, 21]) 4 3 false, q 67 (.pick (.tmp 64) (.const (.bool true)) (.tmp 66)) 4] false) (.cond (.tmp 67) (.seq (.region 18 #[q 68 (.load 41 (.tmp 4)) 41, qn (.store 41 (.tmp 2) (.tmp 68)) 0, q 3 (.assign (.const (.bool false))) 4] false) .ret) .skip)))) .skip)) (.region 19 #[q 69 (.fieldAddr 41 (.tmp 4) 2) 0, q 70 (.load 38 (.tmp 69)) 38, q 71 (.move (.tmp 5)) 21, q 72 (.move (.tmp 8)) 21, q 73 (.build 129 #[(0, .tmp 71), (1, .tmp 72)]) 129, q 74 (.buildSlice 38 1 #[(0, .tmp 73)]) 38, q 75 (bi .append #[.tmp 70, .tmp 74] #[38, 38]) 38, q 76 (.fieldAddr 41 (.tmp 4) 2) 0, qn (.store 38 (.tmp 76) (.tmp 75)) 0] false)))))))))) (.seq (.region 20 #[{ dst := some 77, op := .load 41 (.tmp 4), type := 41, pos := "regex.go:122", after := #[], guard := none }, { dst := some 78, op := .fieldAddr 41 (.tmp 4) 2, type := 0, pos := "regex.go:122", after := #[], guard := none }, { dst := some 79, op := .load 38 (.tmp 78), type := 38, pos := "regex.go:122", after := #[{ on := 1, ground := .data }], guard := none }, { dst := some 80, op := bi .len #[.tmp 79] #[38], type := 3, pos := "regex.go:122", after := #[{ on := 2, ground := .data }], guard := none }, { dst := some 81, op := .binOp .gtr 3 (.tmp 80) (ik 0) 3, type := 4, pos := "regex.go:122", after := #[{ on := 3, ground := .data }, { on := 5, ground := .gcOnly .lateStores }], guard := none }, { dst := none, op := .store 41 (.tmp 2) (.tmp 77), type := 0, pos := "regex.go:122", after := #[{ on := 0, ground := .data }, { on := 0, ground := .phase }, { on := 1, ground := .textOnly .lateStores }, { on := 2, ground := .textOnly .lateStores }, { on := 3, ground := .textOnly .lateStoresUnsure }, { on := 4, ground := .textOnly .lateStores }], guard := none }, { dst := some 3, op := .assign (.tmp 81), type := 4, pos := "regex.go:122", after := #[{ on := 4, ground := .data }, { on := 5, ground := .chain }, { on := 0, ground := .phase }, { on := 1, ground := .phase }, { on := 2, ground := .phase }, { on := 3, ground := .phase }, { on := 4, ground := .phase }, { on := 5, ground := .phase }], guard := none }] true) .ret))))
theorem s125 : Try.f125.body.map (slim cfg) = some g125 := by kernel_rfl
def g115 : Code :=
  .seq (.region 0 #[q 4 (.alloc 41) 0, q 5 (.assign (.const (.bool false))) 4] false) (.seq (.region 1 #[q 11 (.move (.tmp 0)) 103, q 12 (cl 101 #[.tmp 11] #[103]) 21, q 6 (.assign (.tmp 12)) 21] false) (.seq (.region 2 #[q 13 (.move (.tmp 0)) 103, q 14 (.nilCheck (.tmp 13)) 0, q 15 (.fieldAddr 106 (.tmp 14) 1) 0, q 16 (.load 3 (.tmp 15)) 3, q 17 (.binOp .add 3 (.tmp 16) (ik 1) 3) 3, q 18 (.nilCheck (.tmp 13)) 0, q 19 (.fieldAddr 106 (.tmp 18) 1) 0, qn (.store 3 (.tmp 19) (.tmp 17)) 0] false) (.seq (.seq (.region 3 #[q 20 (.move (.tmp 6)) 21] false) (.block 0 (.seq (.region 4 #[q 22 (.binOp .eql 21 (.tmp 20) (.const (.int .i32 40)) 21) 4, q 21 (.assign (.tmp 22)) 4] false) (.cond (.tmp 21) (.seq (.seq (.region 5 #[q 23 (.move (.tmp 1)) 3, q 24 (.binOp .geq 3 (.tmp 23) (ik 16) 3) 4] false) (.cond (.tmp 24) (.seq (.region 6 #[q 25 (.build 41 #[]) 41, qn (.store 41 (.tmp 4) (.tmp 25)) 0, q 5 (.assign (.const (.bool false))) 4] false) .ret) .skip)) (.seq (.region 7 #[q 27 (.move (.tmp 0)) 103, q 28 (.move (.tmp 1)) 3, q 29 (.binOp .add 3 (.tmp 28) (ik 1) 3) 3, q 30 (cl 57 #[.tmp 27, .tmp 29] #[103, 3]) 107, q 26 (.move (.tmp 30)) 107, q 31 (.extract (.tmp 26) 0) 41, q 32 (.extract (.tmp 26) 1) 4, q 7 (.alloc 41) 0, qn (.store 41 (.tmp 7) (.tmp 31)) 0, q 8 (.assign (.tmp 32)) 4] false) (.seq (.region 8 #[{ dst := some 33, op := .load 41 (.tmp 7), type := 41, pos := "regex.go:135", after := #[], guard := none }, { dst := some 34, op := .move (.tmp 8), type := 4, pos := "regex.go:135", after := #[], guard := none }, { dst := some 35, op := .move (.tmp 34), type := 4, pos := "regex.go:135", after := #[{ on := 1, ground := .data }], guard := none }, { dst := some 36, op := .move (.tmp 0), type := 103, pos := "regex.go:135", after := #[{ on := 2, ground := .guard }], guard := some (2, true) }, { dst := some 37, op := cl 83 #[.tmp 36, .const (.int .i32 41)] #[103, 21], type := 4, pos := "regex.go:135", after := #[{ on := 3, ground := .data }, { on := 2, ground := .chain }, { on := 2, ground := .guard }], guard := some (2, true) }, { dst := some 38, op := .pick (.tmp 35) (.tmp 37) (.const (.bool false)), type := 4, pos := "regex.go:135", after := #[{ on := 2, ground := .data }, { on := 4, ground := .data }, { on := 6, ground := .gcOnly .lateStores }], guard := none }, { dst := none, op := .store 41 (.tmp 4) (.tmp 33), type := 0, pos := "regex.go:135", after := #[{ on := 0, ground := .data }, { on := 4, ground := .chain }, { on := 0, ground := .phase }, { on := 1, ground := .textOnly .lateStores }, { on := 2, ground := .textOnly .lateStores }, { on := 3, ground := .textOnly .lateStores }, { on := 4, ground := .textOnly .lateStoresUnsure }, { on := 5, ground := .textOnly .lateStores }], guard := none }, { dst := some 5, op := .assign (.tmp 38), type := 4, pos := "regex.go:135", after := #[{ on := 5, ground := .data }, { on := 6, ground := .chain }, { on := 0, ground := .phase }, { on := 1, ground := .phase }, { on := 2, ground := .phase }, { on := 3, ground := .phase }, { on := 4, ground := .phase }, { on := 5, ground := .phase }, { on := 6, ground := .phase }], guard := none }] true) .ret))) (.seq (.region 9 #[q 40 (.binOp .eql 21 (.tmp 20) (.const (.int .i32 91)) 21) 4, q 39 (.assign (.tmp 40)) 4] false) (.cond (.tmp 39) (.seq (.region 10 #[q 41 (.move (.tmp 0)) 103, q 42 (cl 125 #[.tmp 41] #[103]) 107, q 43 (.extract (.tmp 42) 0) 41, q 44 (.extract (.tmp 42) 1) 4, qn (.store 41 (.tmp 4) (.tmp 43)) 0, q 5 (.assign (.tmp 44)) 4] false) .ret) (.seq (.region 11 #[q 46 (.binOp .eql 21 (.tmp 20) (.const (.int .i32 46)) 21) 4, q 45 (.assign (.tmp 46)) 4] false) (.cond (.tmp 45) (.seq (.region 12 #[q 47 (.build 41 #[(0, ik 1), (1, .const (.bool true))]) 41, qn (.store 41 (.tmp 4) (.tmp 47)) 0, q 5 (.assign (.const (.bool true))) 4] false) .ret) (.seq (.region 13 #[q 49 (.binOp .eql 21 (.tmp 20) (.const (.int .i32 92)) 21) 4, q 48 (.assign (.tmp 49)) 4] false) (.cond (.tmp 48) (.seq (.region 14 #[q 51 (.move (.tmp 0)) 103, q 52 (cl 126 #[.tmp 51] #[103]) 190, q 50 (.move (.tmp 52)) 190, q 53 (.extract (.tmp 50) 0) 38, q 54 (.extract (.tmp 50) 1) 4, q 9 (.assign (.tmp 53)) 38, q 10 (.assign (.tmp 54)) 4] false) (.seq (.region 15 #[q 55 (.move (.tmp 9)) 38, q 56 (cl 127 #[.tmp 55] #[38]) 41, q 57 (.move (.tmp 10)) 4, qn (.store 41 (.tmp 4) (.tmp 56)) 0, q 5 (.assign (.tmp 57)) 4] false) .ret)) .skip)))))))))) (.seq (.region 16 #[q 58 (.move (.tmp 6)) 21, q 59 (.move (.tmp 6)) 21, q 60 (.build 129 #[(0, .tmp 58), (1, .tmp 59)]) 129, q 61 (.buildSlice 38 1 #[(0, .tmp 60)]) 38, q 62 (cl 127 #[.tmp 61] #[38]) 41, q 63 (.move (.tmp 6)) 21, q 64 (.binOp .neq 21 (.tmp 63) (.const (.int .i32 (-1))) 21) 4, q 65 (.move (.tmp 64)) 4, qg 66 (.move (.tmp 6)) 21 7 true, qg 67 (cl 128 #[.const (.string { data := #[124, 42, 43, 63, 41, 93, 123, 125] }), .tmp 66] #[9, 21]) 4 7 true, qg 68 (.unOp .not 4 (.tmp 67)) 4 7 true, q 69 (.pick (.tmp 65) (.tmp 68) (.const (.bool false))) 4, qn (.store 41 (.tmp 4) (.tmp 62)) 0, q 5 (.assign (.tmp 69)) 4] false) .ret))))
theorem s115 : Try.f115.body.map (slim cfg) = some g115 := by kernel_rfl
def g102 : Code :=
  .seq (.region 0 #[q 4 (.alloc 41) 0, q 5 (.assign (.const (.bool false))) 4] false) (.seq (.region 1 #[q 11 (.move (.tmp 0)) 103, q 12 (.move (.tmp 1)) 3, q 13 (cl 115 #[.tmp 11, .tmp 12] #[103, 3]) 107, q 10 (.move (.tmp 13)) 107, q 14 (.extract (.tmp 10) 0) 41, q 15 (.extract (.tmp 10) 1) 4, q 6 (.alloc 41) 0, qn (.store 41 (.tmp 6) (.tmp 14)) 0, q 7 (.assign (.tmp 15)) 4] false) (.seq (.seq (.region 2 #[q 16 (.move (.tmp 7)) 4, q 17 (.unOp .not 4 (.tmp 16)) 4] false) (.cond (.tmp 17) (.seq (.region 3 #[q 18 (.load 41 (.tmp 6)) 41, qn (.store 41 (.tmp 4) (.tmp 18)) 0, q 5 (.assign (.const (.bool false))) 4] false) .ret) .skip)) (.seq (.region 4 #[q 8 (.assign (ik 0)) 3, q 9 (.assign (ik (-1))) 3] false) (.seq (.seq (.region 5 #[q 19 (.move (.tmp 0)) 103, q 20 (cl 101 #[.tmp 19] #[103]) 21] false) (.block 0 (.seq (.block 5 (.seq (.block 4 (.seq (.block 3 (.seq (.block 2 (.seq (.block 1 (.seq (.seq (.seq (.region 6 #[q 22 (.binOp .eql 21 (.tmp 20) (.const (.int .i32 43)) 21) 4, q 21 (.assign (.tmp 22)) 4] false) (.cond (.tmp 21) (.exit 1) .skip)) (.seq (.seq (.region 7 #[q 24 (.binOp .eql 21 (.tmp 20) (.const (.int .i32 42)) 21) 4, q 23 (.assign (.tmp 24)) 4] false) (.cond (.tmp 23) (.exit 2) .skip)) (.seq (.seq (.region 8 #[q 26 (.binOp .eql 21 (.tmp 20) (.const (.int .i32 63)) 21) 4, q 25 (.assign (.tmp 26)) 4] false) (.cond (.tmp 25) (.exit 3) .skip)) (.seq (.region 9 #[q 28 (.binOp .eql 21 (.tmp 20) (.const (.int .i32 123)) 21) 4, q 27 (.assign (.tmp 28)) 4] false) (.cond (.tmp 27) (.exit 4) .skip))))) (.exit 5))) (.region 10 #[q 8 (.assign (ik 1)) 3] false))) (.seq (.region 11 #[q 29 (.move (.tmp 0)) 103, q 30 (.nilCheck (.tmp 29)) 0, q 31 (.fieldAddr 106 (.tmp 30) 1) 0, q 32 (.load 3 (.tmp 31)) 3, q 33 (.binOp .add 3 (.tmp 32) (ik 1) 3) 3, q 34 (.nilCheck (.tmp 29)) 0, q 35 (.fieldAddr 106 (.tmp 34) 1) 0, qn (.store 3 (.tmp 35) (.tmp 33)) 0] false) (.exit 0)))) (.seq (.seq (.region 12 #[q 36 (.move (.tmp 0)) 103, q 37 (.nilCheck (.tmp 36)) 0, q 38 (.fieldAddr 106 (.tmp 37) 1) 0, q 39 (.load 3 (.tmp 38)) 3, q 40 (.binOp .add 3 (.tmp 39) (ik 1) 3) 3, q 41 (.nilCheck (.tmp 36)) 0, q 42 (.fieldAddr 106 (.tmp 41) 1) 0, qn (.store 3 (.tmp 42) (.tmp 40)) 0] false) (.region 13 #[q 9 (.assign (ik 1)) 3] false)) (.exit 0)))) (.seq (.seq (.region 14 #[q 43 (.move (.tmp 0)) 103, q 44 (.nilCheck (.tmp 43)) 0, q 45 (.fieldAddr 106 (.tmp 44) 1) 0, q 46 (.load 3 (.tmp 45)) 3, q 47 (.binOp .add 3 (.tmp 46) (ik 1) 3) 3, q 48 (.nilCheck (.tmp 43)) 0, q 49 (.fieldAddr 106 (.tmp 48) 1) 0, qn (.store 3 (.tmp 49) (.tmp 47)) 0] false) (.region 15 #[q 51 (.move (.tmp 0)) 103, q 52 (cl 116 #[.tmp 51] #[103]) 181, q 50 (.move (.tmp 52)) 181, q 53 (.extract (.tmp 50) 0) 3, q 54 (.extract (.tmp 50) 1) 3, q 55 (.extract (.tmp 50) 2) 4, q 8 (.assign (.tmp 53)) 3, q 9 (.assign (.tmp 54)) 3, q 7 (.assign (.tmp 55)) 4] false)) (.exit 0)))) (.seq (.seq (.region 16 #[q 56 (.load 41 (.tmp 6)) 41, qn (.store 41 (.tmp 4) (.tmp 56)) 0, q 5 (.assign (.const (.bool true))) 4] false) .ret) (.exit 0))))) (.seq (.region 17 #[q 57 (.move (.tmp 8)) 3, q 58 (.move (.tmp 9)) 3, q 59 (.load 41 (.tmp 6)) 41, q 60 (.buildSlice 39 1 #[(0, .tmp 59)]) 39, q 61 (.build 41 #[(0, ik 4), (3, .tmp 57), (4, .tmp 58), (5, .tmp 60)]) 41, q 62 (.move (.tmp 7)) 4, qn (.store 41 (.tmp 4) (.tmp 61)) 0, q 5 (.assign (.tmp 62)) 4] false) .ret)))))
theorem s102 : Try.f102.body.map (slim cfg) = some g102 := by kernel_rfl
def g82 : Code :=
  .seq (.region 0 #[q 4 (.alloc 41) 0, q 5 (.assign (.const (.bool false))) 4] false) (.seq (.region 1 #[q 6 (.assign (.const (.slice none 0 0))) 39] false) (.seq (.block 0 (.loop (.seq (.seq (.region 2 #[q 9 (.move (.tmp 0)) 103, q 10 (cl 101 #[.tmp 9] #[103]) 21, q 11 (.binOp .neq 21 (.tmp 10) (.const (.int .i32 (-1))) 21) 4, q 12 (.move (.tmp 11)) 4, qg 13 (.move (.tmp 0)) 103 3 true, qg 14 (cl 101 #[.tmp 13] #[103]) 21 3 true, qg 15 (.binOp .neq 21 (.tmp 14) (.const (.int .i32 124)) 21) 4 3 true, q 16 (.pick (.tmp 12) (.tmp 15) (.const (.bool false))) 4, q 17 (.move (.tmp 16)) 4, qg 18 (.move (.tmp 0)) 103 8 true, qg 19 (cl 101 #[.tmp 18] #[103]) 21 8 true, qg 20 (.binOp .neq 21 (.tmp 19) (.const (.int .i32 41)) 21) 4 8 true, q 21 (.pick (.tmp 17) (.tmp 20) (.const (.bool false))) 4] false) (.cond (.tmp 21) .skip (.exit 0))) (.block 1 (.seq (.region 3 #[q 23 (.move (.tmp 0)) 103, q 24 (.move (.tmp 1)) 3, q 25 (cl 102 #[.tmp 23, .tmp 24] #[103, 3]) 107, q 22 (.move (.tmp 25)) 107, q 26 (.extract (.tmp 22) 0) 41, q 27 (.extract (.tmp 22) 1) 4, q 7 (.alloc 41) 0, qn (.store 41 (.tmp 7) (.tmp 26)) 0, q 8 (.assign (.tmp 27)) 4] false) (.seq (.seq (.region 4 #[q 28 (.move (.tmp 8)) 4, q 29 (.unOp .not 4 (.tmp 28)) 4] false) (.cond (.tmp 29) (.seq (.region 5 #[q 30 (.load 41 (.tmp 7)) 41, qn (.store 41 (.tmp 4) (.tmp 30)) 0, q 5 (.assign (.const (.bool false))) 4] false) .ret) .skip)) (.region 6 #[q 31 (.move (.tmp 6)) 39, q 32 (.load 41 (.tmp 7)) 41, q 33 (.buildSlice 39 1 #[(0, .tmp 32)]) 39, q 34 (bi .append #[.tmp 31, .tmp 33] #[39, 39]) 39, q 6 (.assign (.tmp 34)) 39] false))))))) (.seq (.seq (.region 7 #[q 35 (.move (.tmp 6)) 39, q 36 (bi .len #[.tmp 35] #[39]) 3] false) (.block 2 (.seq (.region 8 #[q 38 (.binOp .eql 3 (.tmp 36) (ik 0) 3) 4, q 37 (.assign (.tmp 38)) 4] false) (.cond (.tmp 37) (.seq (.region 9 #[q 39 (.build 41 #[]) 41, qn (.store 41 (.tmp 4) (.tmp 39)) 0, q 5 (.assign (.const (.bool true))) 4] false) .ret) (.seq (.region 10 #[q 41 (.binOp .eql 3 (.tmp 36) (ik 1) 3) 4, q 40 (.assign (.tmp 41)) 4] false) (.cond (.tmp 40) (.seq (.region 11 #[q 42 (.move (.tmp 6)) 39, q 43 (.indexAddr 39 (.tmp 42) (ik 0)) 0, q 44 (.load 41 (.tmp 43)) 41, qn (.store 41 (.tmp 4) (.tmp 44)) 0, q 5 (.assign (.const (.bool true))) 4] false) .ret) .skip)))))) (.seq (.region 12 #[q 45 (.move (.tmp 6)) 39, q 46 (.build 41 #[(0, ik 2), (5, .tmp 45)]) 41, qn (.store 41 (.tmp 4) (.tmp 46)) 0, q 5 (.assign (.const (.bool true))) 4] false) .ret))))
theorem s82 : Try.f82.body.map (slim cfg) = some g82 := by kernel_rfl
def g57 : Code :=
  .seq (.region 0 #[q 4 (.alloc 41) 0, q 5 (.assign (.const (.bool false))) 4] false) (.seq (.region 1 #[q 6 (.assign (.const (.slice none 0 0))) 39] false) (.seq (.block 0 (.loop (.block 1 (.seq (.region 2 #[q 10 (.move (.tmp 0)) 103, q 11 (.move (.tmp 1)) 3, q 12 (cl 82 #[.tmp 10, .tmp 11] #[103, 3]) 107, q 9 (.move (.tmp 12)) 107, q 13 (.extract (.tmp 9) 0) 41, q 14 (.extract (.tmp 9) 1) 4, q 7 (.alloc 41) 0, qn (.store 41 (.tmp 7) (.tmp 13)) 0, q 8 (.assign (.tmp 14)) 4] false) (.seq (.seq (.region 3 #[q 15 (.move (.tmp 8)) 4, q 16 (.unOp .not 4 (.tmp 15)) 4] false) (.cond (.tmp 16) (.seq (.region 4 #[q 17 (.load 41 (.tmp 7)) 41, qn (.store 41 (.tmp 4) (.tmp 17)) 0, q 5 (.assign (.const (.bool false))) 4] false) .ret) .skip)) (.seq (.region 5 #[q 18 (.move (.tmp 6)) 39, q 19 (.load 41 (.tmp 7)) 41, q 20 (.buildSlice 39 1 #[(0, .tmp 19)]) 39, q 21 (bi .append #[.tmp 18, .tmp 20] #[39, 39]) 39, q 6 (.assign (.tmp 21)) 39] false) (.seq (.region 6 #[q 22 (.move (.tmp 0)) 103, q 23 (cl 83 #[.tmp 22, .const (.int .i32 124)] #[103, 21]) 4, q 24 (.unOp .not 4 (.tmp 23)) 4] false) (.cond (.tmp 24) (.exit 0) .skip)))))))) (.seq (.seq (.region 7 #[q 25 (.move (.tmp 6)) 39, q 26 (bi .len #[.tmp 25] #[39]) 3, q 27 (.binOp .eql 3 (.tmp 26) (ik 1) 3) 4] false) (.cond (.tmp 27) (.seq (.region 8 #[q 28 (.move (.tmp 6)) 39, q 29 (.indexAddr 39 (.tmp 28) (ik 0)) 0, q 30 (.load 41 (.tmp 29)) 41, qn (.store 41 (.tmp 4) (.tmp 30)) 0, q 5 (.assign (.const (.bool true))) 4] false) .ret) .skip)) (.seq (.region 9 #[q 31 (.move (.tmp 6)) 39, q 32 (.build 41 #[(0, ik 3), (5, .tmp 31)]) 41, qn (.store 41 (.tmp 4) (.tmp 32)) 0, q 5 (.assign (.const (.bool true))) 4] false) .ret))))
theorem s57 : Try.f57.body.map (slim cfg) = some g57 := by kernel_rfl

theorem class_ok (l : List Int) (L : AV) (hL : Sl encI L l) (hl : Runes l) (at_ b : Nat) (hat : at_ ≤ l.length) (prot : Nat) (H : Heap) (hp : prot ≤ b) (hg : hget H b 0 = some [L, .int .i64 at_]) :
    aLim cfg prot 125 [.ptr b 0 0] H = some (.tup [encN (classS l at_).n, .bool (classS l at_).ok], some (H.set b (.cells 0 [L, .int .i64 ((classS l at_).at_ : Nat)]))) := by
  have hb := hget_lt hg
  have hll := hl.1
  have hlZ : ∀ Z, (H ++ [Blk.cells 0 Z]).length = H.length + 1 := fun Z => by simp
  have n0 := fun (K : Heap) (hK : prot ≤ K.length) => one_ok .nilS rfl rfl (fun _ _ => .still rfl) prot K hK rfl
  have hpl1 : prot ≤ H.length + 1 := by omega
  have hLb : ∀ x : Int, AV.blwL H.length [L, .int .i64 x] = true := fun x => plL_blwL _ _ (slI_plain hL _)
  have hK0l : (H ++ [Blk.cells 0 [.int .i64 0, .bool false, .nilS, .int .i64 0, .int .i64 0, .nilS]] ++ [Blk.cells 0 [.int .i64 1, .bool false, .nilS, .int .i64 0, .int .i64 0, .nilS]]).length = H.length + 2 := by simp
  have hK0k : Kp H b [L, .int .i64 at_] (H ++ [Blk.cells 0 [.int .i64 0, .bool false, .nilS, .int .i64 0, .int .i64 0, .nilS]] ++ [Blk.cells 0 [.int .i64 1, .bool false, .nilS, .int .i64 0, .int .i64 0, .nilS]]) := ((Kp.start hg).app _).app _
  have hK0z : hget (H ++ [Blk.cells 0 [.int .i64 0, .bool false, .nilS, .int .i64 0, .int .i64 0, .nilS]] ++ [Blk.cells 0 [.int .i64 1, .bool false, .nilS, .int .i64 0, .int .i64 0, .nilS]]) H.length 0 = some [.int .i64 0, .bool false, .nilS, .int .i64 0, .int .i64 0, .nilS] := hget_mono (by simp [hget]) _
  have hK0n : hget (H ++ [Blk.cells 0 [.int .i64 0, .bool false, .nilS, .int .i64 0, .int .i64 0, .nilS]] ++ [Blk.cells 0 [.int .i64 1, .bool false, .nilS, .int .i64 0, .int .i64 0, .nilS]]) (H.length + 1) 0 = some [.int .i64 1, .bool false, .nilS, .int .i64 0, .int .i64 0, .nilS] := by
    rw [← hlZ [.int .i64 0, .bool false, .nilS, .int .i64 0, .int .i64 0, .nilS]]; simp [hget]
  have hcS : classS l at_ = ⟨.mk 1 (decide (pk l at_ = 94)) false (classGo l (l.length + 2) (if pk l at_ = 94 then at_ + 1 else at_) []).1 0 0 false [], (classGo l (l.length + 2) (if pk l at_ = 94 then at_ + 1 else at_) []).2.1, (classGo l (l.length + 2) (if pk l at_ = 94 then at_ + 1 else at_) []).2.2 && decide (0 < (classGo l (l.length + 2) (if pk l at_ = 94 then at_ + 1 else at_) []).1.length)⟩ := rfl
  rw [hcS]
  have hj0 : (if pk l at_ = 94 then at_ + 1 else at_) ≤ l.length := by
    split
    · rename_i h; have := pk_in (l := l) (i := at_) (by rw [h]; decide); omega
    · exact hat
  refine trim_slim rfl (by kernel_rfl) (by kernel_rfl) (by kernel_rfl) Try.func125 s125 (by simp [Try.f125]) fun fr hlen h => ?_
  simp only [Has, Nat.zero_add] at h
  obtain ⟨a0, -⟩ := h
  simp only [Try.f125] at hlen ⊢
  unfold g125
  simp only [wk, aBuiltin, AV.cells, AV.leaf, Nat.reduceEqDiff, Nat.reduceLT, Nat.reduceAdd, Nat.reduceLeDiff, reduceCtorEq, Nat.reduceMul, cfgP, u125, hlen, a0, n0, hpl1, hlZ]
  generalize H ++ [Blk.cells 0 [.int .i64 0, .bool false, .nilS, .int .i64 0, .int .i64 0, .nilS]] ++ [Blk.cells 0 [.int .i64 1, .bool false, .nilS, .int .i64 0, .int .i64 0, .nilS]] = K0 at *
  have n1 := take_ok l L hL hl at_ b 94 (by omega) prot K0 hp hK0k.get
  generalize hnt : decide (pk l at_ = 94) = nt at *
  generalize (if pk l at_ = 94 then at_ + 1 else at_) = i at *
  have hK1k := hK0k.put (hLb (i : Nat))
  have hK1z : hget (K0.set b (.cells 0 [L, .int .i64 (i : Nat)])) H.length 0 = some [.int .i64 0, .bool false, .nilS, .int .i64 0, .int .i64 0, .nilS] := by rw [hget_set_ne (by omega)]; exact hK0z
  have hK1n : hget (K0.set b (.cells 0 [L, .int .i64 (i : Nat)])) (H.length + 1) 0 = some [.int .i64 1, .bool false, .nilS, .int .i64 0, .int .i64 0, .nilS] := by rw [hget_set_ne (by omega)]; exact hK0n
  have hK1l : (K0.set b (.cells 0 [L, .int .i64 (i : Nat)])).length = H.length + 2 := by simp [hK0l]
  generalize K0.set b (.cells 0 [L, .int .i64 (i : Nat)]) = K1 at *
  have hput1 : hput prot K1 (H.length + 1) 0 1 [.bool nt] = some (K1.set (H.length + 1) (.cells 0 [.int .i64 1, .bool nt, .nilS, .int .i64 0, .int .i64 0, .nilS])) := by
    rw [hput_eq hK1n (by omega) (by simp) (by simp [AV.leaf])]; rfl
  have hK2k := hK1k.new (b' := H.length + 1) (by omega) (.cells 0 [.int .i64 1, .bool nt, .nilS, .int .i64 0, .int .i64 0, .nilS])
  have hK2z : hget (K1.set (H.length + 1) (.cells 0 [.int .i64 1, .bool nt, .nilS, .int .i64 0, .int .i64 0, .nilS])) H.length 0 = some [.int .i64 0, .bool false, .nilS, .int .i64 0, .int .i64 0, .nilS] := by rw [hget_set_ne (by omega)]; exact hK1z
  have hK2n : hget (K1.set (H.length + 1) (.cells 0 [.int .i64 1, .bool nt, .nilS, .int .i64 0, .int .i64 0, .nilS])) (H.length + 1) 0 = some [.int .i64 1, .bool nt, .nilS, .int .i64 0, .int .i64 0, .nilS] := by rw [hget_set_at (by omega)]
  have hK2l : (K1.set (H.length + 1) (.cells 0 [.int .i64 1, .bool nt, .nilS, .int .i64 0, .int .i64 0, .nilS])).length = H.length + 2 := by simp [hK1l]
  simp only [wk, aBuiltin, AV.cells, AV.leaf, Nat.reduceEqDiff, Nat.reduceLT, Nat.reduceAdd, Nat.reduceLeDiff, reduceCtorEq, Nat.reduceMul, cfgP, u125, hlen, a0, n1, hput1]
  generalize K1.set (H.length + 1) (.cells 0 [.int .i64 1, .bool nt, .nilS, .int .i64 0, .int .i64 0, .nilS]) = K2 at *
  refine loop_rule (fun m fr H' => ∃ (k j : Nat) (acc : List Sg) (v : AV), m = k ∧ j ≤ l.length ∧ l.length < j + k ∧ acc.length ≤ 4 * j ∧ fr.length = 82 ∧ fget fr 0 = .ptr b 0 0 ∧ fget fr 2 = .ptr H.length 0 0 ∧ fget fr 4 = .ptr (H.length + 1) 0 0
    ∧ H.length + 2 ≤ H'.length ∧ Kp H b [L, .int .i64 (j : Nat)] H' ∧ hget H' H.length 0 = some [.int .i64 0, .bool false, .nilS, .int .i64 0, .int .i64 0, .nilS] ∧ hget H' (H.length + 1) 0 = some [.int .i64 1, .bool nt, v, .int .i64 0, .int .i64 0, .nilS]
    ∧ Row encG 2 true (H.length + 2) H' v acc ∧ (v = .nilS ∨ acc ≠ []) ∧ classGo l (l.length + 2) i [] = classGo l k j acc) ?_ (l.length + 2) _ _ ⟨l.length + 2, i, [], .nilS, by
      refine ⟨rfl, hj0, by omega, by simp, ?_⟩
      simp [wk, aBuiltin, AV.cells, AV.leaf, Nat.reduceEqDiff, Nat.reduceLT, Nat.reduceAdd, Nat.reduceLeDiff, reduceCtorEq, Nat.reduceMul, cfgP, u125, hlen, a0, hK2l, hK2k, hK2z, hK2n, Row.nil]⟩
  clear hK2k hK2z hK2n hK2l K2 hput1 hK1k hK1z hK1n hK1l n1 hK0k hK0z hK0n hK0l a0 hlen fr
  rintro m fr H' ⟨k, j, acc, v, rfl, hjl, hjk, hal, hlen, a0, a2, a4, hH', kp, hz, hn, hrow, hne, hc⟩ ih
  obtain ⟨k, rfl⟩ : ∃ k', m = k' + 1 := ⟨m - 1, by omega⟩
  rw [hc]
  have n1 := take_ok l L hL hl j b 93 (by omega) prot H' hp kp.get
  have hbe : b < H'.length := by omega
  have hset : ∀ (c d : List AV), (H'.set b (.cells 0 c)).set b (.cells 0 d) = H'.set b (.cells 0 d) := fun c d => List.set_set ..
  have hgs : ∀ c, hget (H'.set b (.cells 0 c)) b 0 = some c := fun c => hget_set_at hbe
  have kps := fun x : Int => kp.put (hLb x)
  have hzs : ∀ c, hget (H'.set b (.cells 0 c)) H.length 0 = some [.int .i64 0, .bool false, .nilS, .int .i64 0, .int .i64 0, .nilS] := fun c => by rw [hget_set_ne (by omega)]; exact hz
  have hns : ∀ c, hget (H'.set b (.cells 0 c)) (H.length + 1) 0 = some [.int .i64 1, .bool nt, v, .int .i64 0, .int .i64 0, .nilS] := fun c => by rw [hget_set_ne (by omega)]; exact hn
  have hrs : ∀ c, Row encG 2 true (H.length + 2) (H'.set b (.cells 0 c)) v acc := fun c => hrow.setne (by omega) _
  have hvl : v.leaf = true := by rcases hrow with ⟨q, _⟩ | ⟨b, ver, q, _⟩ <;> rw [q] <;> rfl
  have hputZ : ∀ c, hput prot (H'.set b (.cells 0 c)) H.length 0 0 [.int .i64 1, .bool nt, v, .int .i64 0, .int .i64 0, .nilS] = some ((H'.set b (.cells 0 c)).set H.length (.cells 0 [.int .i64 1, .bool nt, v, .int .i64 0, .int .i64 0, .nilS])) := fun c => by
    rw [hput_eq (hzs c) (by omega) (by simp) (by simp only [List.all_cons, List.all_nil, hvl]; rfl)]; rfl
  have hgZ : ∀ c d, hget ((H'.set b (.cells 0 c)).set H.length (.cells 0 d)) H.length 0 = some d := fun c d => hget_set_at (by simp; omega)
  have step : ∀ (j' : Nat) (es : List Sg), 0 < es.length → acc.length + es.length ≤ 10000000 → ∃ o H3, aAppend Try.prog prot (H'.set b (.cells 0 [L, .int .i64 (j' : Nat)])) #[38, 38] v (.vs (es.map encG) true) = some (o, some H3) ∧
      hput prot H3 (H.length + 1) 0 2 [o] = some (H3.set (H.length + 1) (.cells 0 [.int .i64 1, .bool nt, o, .int .i64 0, .int .i64 0, .nilS])) ∧ (o.leaf = true ∧ o.cells = [o]) ∧ H.length + 2 ≤ (H3.set (H.length + 1) (.cells 0 [.int .i64 1, .bool nt, o, .int .i64 0, .int .i64 0, .nilS])).length ∧
      Kp H b [L, .int .i64 (j' : Nat)] (H3.set (H.length + 1) (.cells 0 [.int .i64 1, .bool nt, o, .int .i64 0, .int .i64 0, .nilS])) ∧ hget (H3.set (H.length + 1) (.cells 0 [.int .i64 1, .bool nt, o, .int .i64 0, .int .i64 0, .nilS])) H.length 0 = some [.int .i64 0, .bool false, .nilS, .int .i64 0, .int .i64 0, .nilS] ∧
      hget (H3.set (H.length + 1) (.cells 0 [.int .i64 1, .bool nt, o, .int .i64 0, .int .i64 0, .nilS])) (H.length + 1) 0 = some [.int .i64 1, .bool nt, o, .int .i64 0, .int .i64 0, .nilS] ∧
      Row encG 2 true (H.length + 2) (H3.set (H.length + 1) (.cells 0 [.int .i64 1, .bool nt, o, .int .i64 0, .int .i64 0, .nilS])) o (acc ++ es) ∧ (o = .nilS ∨ acc ++ es ≠ []) := fun j' es h0 hle => by
    obtain ⟨o, H3, happ, hrow3, hle3, hno, hk3, hold⟩ := (hrs [L, .int .i64 (j' : Nat)]).appK (prot := prot) (xt := 38) encG_T rowG hxtG (elem_vs encG_T es true) h0 (by simp [roomy]; omega) (by omega) (by simp; omega) (kps (j' : Nat)) (by omega)
    have hz3 := hold _ _ _ (by omega) (hzs [L, .int .i64 (j' : Nat)])
    have hn3 := hold _ _ _ (by omega) (hns [L, .int .i64 (j' : Nat)])
    have hol : o.leaf = true := by rcases hrow3 with ⟨q, _⟩ | ⟨b, ver, q, _⟩ <;> rw [q] <;> rfl
    have hle4 : H.length + 2 ≤ H3.length := by simp at hle3; omega
    have hol2 : o.cells = [o] := by rcases hrow3 with ⟨q, _⟩ | ⟨b, ver, q, _⟩ <;> rw [q] <;> rfl
    refine ⟨o, H3, happ, ?_, ⟨hol, hol2⟩, by simpa using hle4, hk3.new (by omega) _, by rw [hget_set_ne (by omega)]; exact hz3, hget_set_at (by omega), hrow3.setne (by omega) _, .inr (by intro h; have := congrArg List.length h; rw [List.length_append, List.length_nil] at this; omega)⟩
    rw [hput_eq hn3 (by omega) (by simp) (by simp only [List.all_cons, List.all_nil, hol]; rfl)]; rfl
  by_cases h1 : pk l j = 93
  · have e : classGo l (k + 1) j acc = (acc, j + 1, true) := by simp [classGo, h1]
    rw [e]
    simp only [h1, if_true, decide_true, Bool.true_and] at n1 ⊢
    have hlen2 := (hrs [L, .int .i64 ((j + 1 : Nat))]).len Try.underlying38
    have hnsZ : ∀ c d, hget ((H'.set b (.cells 0 c)).set H.length (.cells 0 d)) (H.length + 1) 0 = some [.int .i64 1, .bool nt, v, .int .i64 0, .int .i64 0, .nilS] := fun c d => by rw [hget_set_ne (by omega)]; exact hns c
    have hlenZ : ∀ c d, aLen Try.prog ((H'.set b (.cells 0 c)).set H.length (.cells 0 d)) 38 v = some (.int .i64 (acc.length : Nat)) := fun c d => ((hrs c).setne (b' := H.length) (by omega) _).len Try.underlying38
    have hlen2' : decide ((0 : Int) < (acc.length : Nat)) = decide (0 < acc.length) := by simp
    simp only [wk, aBuiltin, AV.cells, AV.leaf, Nat.reduceEqDiff, Nat.reduceLT, Nat.reduceAdd, Nat.reduceLeDiff, reduceCtorEq, Nat.reduceMul, cfgP, u125, hlen, a0, a2, a4, n1, hns, hlen2, hputZ, hlen2']
    refine ⟨?_, ?_⟩
    · rw [show befs [] _ = [0, 0, 2, 6, 14, 1, 63] from by kernel_rfl]
      simp [wk, aBuiltin, AV.cells, AV.leaf, Nat.reduceEqDiff, Nat.reduceLT, Nat.reduceAdd, Nat.reduceLeDiff, reduceCtorEq, Nat.reduceMul, cfgP, u125, hlen, drawOk, chained, mayAt, sameAt, bound, List.range_succ, Nat.testBit, a0, a2, a4, hns, hlen2, hputZ, hgZ, hnsZ, hlenZ, avbeq_refl]
    exact cls_end (kps _) (hrs _) hne (by simp [wk, aBuiltin, AV.cells, AV.leaf, Nat.reduceEqDiff, Nat.reduceLT, Nat.reduceAdd, Nat.reduceLeDiff, reduceCtorEq, Nat.reduceMul, cfgP, u125, hlen, a0, a2, a4, hgZ, aResults, aResult])
  have d1 : decide (pk l j = 93) = false := decide_eq_false h1
  simp only [h1, if_false, decide_false] at n1
  rw [set_self kp.get] at n1
  have n2 := peek_ok l L hL hl j b prot H' (by omega) kp.get
  have hput1 : hput prot H' b 0 1 [.int .i64 ((j + 1 : Nat))] = some (H'.set b (.cells 0 [L, .int .i64 ((j + 1 : Nat))])) := by
    rw [hput_eq kp.get hp (by simp) (by simp [AV.leaf])]; rfl
  have hww : IntKind.i64.wrap ((j : Int) + 1) = ((j + 1 : Nat) : Int) := by rw [wrap64 (by omega) (by omega)]; simp
  by_cases h2 : pk l j = 92
  · have hjl := pk_in (l := l) (i := j) (by rw [h2]; decide)
    have n3 := esc_ok l L hL hl (j + 1) b (by omega) prot _ hp (hgs [L, .int .i64 ((j + 1 : Nat))])
    rw [hset] at n3
    have h3 := escS_len (pk l (j + 1))
    cases hok : (escS (pk l (j + 1))).2 with
    | false =>
      have e : classGo l (k + 1) j acc = (acc, j + 2, false) := by simp [classGo, h2, hok]
      rw [e]
      simp only [Bool.false_and]
      simp only [wk, aBuiltin, AV.cells, AV.leaf, Nat.reduceEqDiff, Nat.reduceLT, Nat.reduceAdd, Nat.reduceLeDiff, reduceCtorEq, Nat.reduceMul, cfgP, u125, hlen, a0, a2, a4, n1, n2, kp.get, hww, hput1, h2, n3, hok, hns, hputZ]
      exact cls_end (kps _) (hrs _) hne (by simp [wk, aBuiltin, AV.cells, AV.leaf, Nat.reduceEqDiff, Nat.reduceLT, Nat.reduceAdd, Nat.reduceLeDiff, reduceCtorEq, Nat.reduceMul, cfgP, u125, hlen, a0, a2, a4, hgZ, aResults, aResult])
    | true =>
      have e : classGo l (k + 1) j acc = classGo l k (j + 2) (acc ++ (escS (pk l (j + 1))).1) := by simp [classGo, h2, hok]
      rw [← hc]; rw [e] at hc
      have hjl2 : j + 1 < l.length := pk_in (l := l) fun h => by rw [h] at hok; exact absurd hok (by decide)
      obtain ⟨o, H3, happ, hput3, ⟨hol, hol2⟩, hres⟩ := step (j + 2) (escS (pk l (j + 1))).1 h3.1 (by omega)
      unfold AV.leaf at hol; unfold AV.cells at hol2
      simp only [wk, aBuiltin, AV.cells, AV.leaf, Nat.reduceEqDiff, Nat.reduceLT, Nat.reduceAdd, Nat.reduceLeDiff, reduceCtorEq, Nat.reduceMul, cfgP, u125, hlen, a0, a2, a4, n1, n2, kp.get, hww, hput1, h2, n3, hok, hns, happ, hol, hol2, hput3]
      refine ih _ _ k (by omega) ⟨k, j + 2, acc ++ (escS (pk l (j + 1))).1, o, rfl, by omega, by omega, by rw [List.length_append]; omega, ?_⟩
      exact ⟨by simp [wk, aBuiltin, AV.cells, AV.leaf, Nat.reduceEqDiff, Nat.reduceLT, Nat.reduceAdd, Nat.reduceLeDiff, reduceCtorEq, Nat.reduceMul, cfgP, u125, hlen], by simp [wk, aBuiltin, AV.cells, AV.leaf, Nat.reduceEqDiff, Nat.reduceLT, Nat.reduceAdd, Nat.reduceLeDiff, reduceCtorEq, Nat.reduceMul, cfgP, u125, hlen, a0], by simp [wk, aBuiltin, AV.cells, AV.leaf, Nat.reduceEqDiff, Nat.reduceLT, Nat.reduceAdd, Nat.reduceLeDiff, reduceCtorEq, Nat.reduceMul, cfgP, u125, hlen, a2], by simp [wk, aBuiltin, AV.cells, AV.leaf, Nat.reduceEqDiff, Nat.reduceLT, Nat.reduceAdd, Nat.reduceLeDiff, reduceCtorEq, Nat.reduceMul, cfgP, u125, hlen, a4], hres.1, hres.2.1, hres.2.2.1, hres.2.2.2.1, hres.2.2.2.2.1, hres.2.2.2.2.2, hc⟩
  · have d2 : decide (pk l j = 92) = false := decide_eq_false h2
    have n3 := has_ok cls1 (pk l j) (by decide) prot (H'.set b (.cells 0 [L, .int .i64 ((j + 1 : Nat))])) (by simp; omega)
    by_cases h3 : pk l j = -1 ∨ hasS cls1 (pk l j) = true
    · have e : classGo l (k + 1) j acc = (acc, j + 1, false) := by
        rw [classGo, if_neg h1, if_neg h2, if_pos h3]
      rw [e]
      simp only [Bool.false_and]
      by_cases h4 : pk l j = -1
      · have d3 : decide (pk l j = -1) = true := decide_eq_true h4
        simp only [wk, aBuiltin, AV.cells, AV.leaf, Nat.reduceEqDiff, Nat.reduceLT, Nat.reduceAdd, Nat.reduceLeDiff, reduceCtorEq, Nat.reduceMul, cfgP, u125, hlen, a0, a2, a4, n1, n2, kp.get, hww, hput1, d2, d3, hns, hputZ, none_beq]
        exact cls_end (kps _) (hrs _) hne (by simp [wk, aBuiltin, AV.cells, AV.leaf, Nat.reduceEqDiff, Nat.reduceLT, Nat.reduceAdd, Nat.reduceLeDiff, reduceCtorEq, Nat.reduceMul, cfgP, u125, hlen, a0, a2, a4, hgZ, aResults, aResult])
      · have d3 : decide (pk l j = -1) = false := decide_eq_false h4
        have h5 : hasS cls1 (pk l j) = true := h3.resolve_left h4
        rw [h5] at n3
        unfold cls1 at n3
        simp only [wk, aBuiltin, AV.cells, AV.leaf, Nat.reduceEqDiff, Nat.reduceLT, Nat.reduceAdd, Nat.reduceLeDiff, reduceCtorEq, Nat.reduceMul, cfgP, u125, hlen, a0, a2, a4, n1, n2, kp.get, hww, hput1, d2, d3, n3, hns, hputZ, none_beq]
        exact cls_end (kps _) (hrs _) hne (by simp [wk, aBuiltin, AV.cells, AV.leaf, Nat.reduceEqDiff, Nat.reduceLT, Nat.reduceAdd, Nat.reduceLeDiff, reduceCtorEq, Nat.reduceMul, cfgP, u125, hlen, a0, a2, a4, hgZ, aResults, aResult])
    · have h4 : ¬ pk l j = -1 := fun h => h3 (.inl h)
      have d3 : decide (pk l j = -1) = false := decide_eq_false h4
      have h5 : hasS cls1 (pk l j) = false := Bool.eq_false_iff.2 fun h => h3 (.inr h)
      have hjl := pk_in h4
      rw [h5] at n3
      unfold cls1 at n3
      have n4 := take_ok l L hL hl (j + 1) b 45 (by omega) prot _ hp (hgs [L, .int .i64 ((j + 1 : Nat))])
      by_cases h6 : pk l (j + 1) = 45
      · have hjl1 := pk_in (l := l) (i := j + 1) (by rw [h6]; decide)
        simp only [h6, if_true, decide_true, hset] at n4
        have n5 := peek_ok l L hL hl (j + 2) b prot _ (by simp; omega) (hgs [L, .int .i64 ((j + 1 + 1 : Nat))])
        have hww2 : IntKind.i64.wrap (((j + 1 + 1 : Nat) : Int) + 1) = ((j + 3 : Nat) : Int) := by rw [wrap64 (by omega) (by omega)]; omega
        have hput2 : hput prot (H'.set b (.cells 0 [L, .int .i64 ((j + 1 + 1 : Nat))])) b 0 1 [.int .i64 ((j + 3 : Nat))] = some (H'.set b (.cells 0 [L, .int .i64 ((j + 3 : Nat))])) := by
          rw [hput_eq (hgs _) hp (by simp) (by simp [AV.leaf]), hset]; rfl
        have n6 := has_ok cls2 (pk l (j + 2)) (by decide) prot (H'.set b (.cells 0 [L, .int .i64 ((j + 3 : Nat))])) (by simp; omega)
        by_cases h7 : pk l (j + 2) < pk l j ∨ hasS cls2 (pk l (j + 2)) = true
        · have e : classGo l (k + 1) j acc = (acc, j + 3, false) := by
            rw [classGo, if_neg h1, if_neg h2, if_neg h3, if_pos h6, if_pos h7]
          rw [e]
          simp only [Bool.false_and]
          by_cases h8 : pk l (j + 2) < pk l j
          · have d8 : decide (pk l (j + 2) < pk l j) = true := decide_eq_true h8
            simp only [wk, aBuiltin, AV.cells, AV.leaf, Nat.reduceEqDiff, Nat.reduceLT, Nat.reduceAdd, Nat.reduceLeDiff, reduceCtorEq, Nat.reduceMul, cfgP, u125, hlen, a0, a2, a4, n1, n2, kp.get, hgs, hww, hput1, d2, d3, n3, n4, n5, hww2, hput2, d8, hns, hputZ, none_beq]
            exact cls_end (kps _) (hrs _) hne (by simp [wk, aBuiltin, AV.cells, AV.leaf, Nat.reduceEqDiff, Nat.reduceLT, Nat.reduceAdd, Nat.reduceLeDiff, reduceCtorEq, Nat.reduceMul, cfgP, u125, hlen, a0, a2, a4, hgZ, aResults, aResult])
          · have d8 : decide (pk l (j + 2) < pk l j) = false := decide_eq_false h8
            rw [h7.resolve_left h8] at n6
            unfold cls2 at n6
            simp only [wk, aBuiltin, AV.cells, AV.leaf, Nat.reduceEqDiff, Nat.reduceLT, Nat.reduceAdd, Nat.reduceLeDiff, reduceCtorEq, Nat.reduceMul, cfgP, u125, hlen, a0, a2, a4, n1, n2, kp.get, hgs, hww, hput1, d2, d3, n3, n4, n5, hww2, hput2, d8, n6, hns, hputZ, none_beq]
            exact cls_end (kps _) (hrs _) hne (by simp [wk, aBuiltin, AV.cells, AV.leaf, Nat.reduceEqDiff, Nat.reduceLT, Nat.reduceAdd, Nat.reduceLeDiff, reduceCtorEq, Nat.reduceMul, cfgP, u125, hlen, a0, a2, a4, hgZ, aResults, aResult])
        · have d8 : decide (pk l (j + 2) < pk l j) = false := decide_eq_false fun h => h7 (.inl h)
          have h9 : hasS cls2 (pk l (j + 2)) = false := Bool.eq_false_iff.2 fun h => h7 (.inr h)
          rw [h9] at n6
          unfold cls2 at n6
          have e : classGo l (k + 1) j acc = classGo l k (j + 3) (acc ++ [⟨pk l j, pk l (j + 2)⟩]) := by
            rw [classGo, if_neg h1, if_neg h2, if_neg h3, if_pos h6, if_neg h7]
          rw [← hc]; rw [e] at hc
          have hjl2 : j + 2 < l.length := pk_in (l := l) fun h => h7 (.inl (by rw [h]; have := pk_nn hl j; omega))
          obtain ⟨o, H3, happ, hput3, ⟨hol, hol2⟩, hres⟩ := step (j + 3) [⟨pk l j, pk l (j + 2)⟩] (by simp) (by simp; omega)
          unfold AV.leaf at hol; unfold AV.cells at hol2
          simp only [wk, aBuiltin, AV.cells, AV.leaf, Nat.reduceEqDiff, Nat.reduceLT, Nat.reduceAdd, Nat.reduceLeDiff, reduceCtorEq, Nat.reduceMul, cfgP, u125, hlen, a0, a2, a4, n1, n2, kp.get, hgs, hww, hput1, d2, d3, n3, n4, n5, hww2, hput2, d8, n6, hns, litG1, happ, hol, hol2, hput3, none_beq]
          refine ih _ _ k (by omega) ⟨k, j + 3, acc ++ [⟨pk l j, pk l (j + 2)⟩], o, rfl, by omega, by omega, by simp; omega, ?_⟩
          exact ⟨by simp [wk, aBuiltin, AV.cells, AV.leaf, Nat.reduceEqDiff, Nat.reduceLT, Nat.reduceAdd, Nat.reduceLeDiff, reduceCtorEq, Nat.reduceMul, cfgP, u125, hlen], by simp [wk, aBuiltin, AV.cells, AV.leaf, Nat.reduceEqDiff, Nat.reduceLT, Nat.reduceAdd, Nat.reduceLeDiff, reduceCtorEq, Nat.reduceMul, cfgP, u125, hlen, a0], by simp [wk, aBuiltin, AV.cells, AV.leaf, Nat.reduceEqDiff, Nat.reduceLT, Nat.reduceAdd, Nat.reduceLeDiff, reduceCtorEq, Nat.reduceMul, cfgP, u125, hlen, a2], by simp [wk, aBuiltin, AV.cells, AV.leaf, Nat.reduceEqDiff, Nat.reduceLT, Nat.reduceAdd, Nat.reduceLeDiff, reduceCtorEq, Nat.reduceMul, cfgP, u125, hlen, a4], hres.1, hres.2.1, hres.2.2.1, hres.2.2.2.1, hres.2.2.2.2.1, hres.2.2.2.2.2, hc⟩
      · have e : classGo l (k + 1) j acc = classGo l k (j + 1) (acc ++ [⟨pk l j, pk l j⟩]) := by
          rw [classGo, if_neg h1, if_neg h2, if_neg h3, if_neg h6]
        rw [← hc]; rw [e] at hc
        simp only [h6, if_false, decide_false, hset] at n4
        obtain ⟨o, H3, happ, hput3, ⟨hol, hol2⟩, hres⟩ := step (j + 1) [⟨pk l j, pk l j⟩] (by simp) (by simp; omega)
        unfold AV.leaf at hol; unfold AV.cells at hol2
        simp only [wk, aBuiltin, AV.cells, AV.leaf, Nat.reduceEqDiff, Nat.reduceLT, Nat.reduceAdd, Nat.reduceLeDiff, reduceCtorEq, Nat.reduceMul, cfgP, u125, hlen, a0, a2, a4, n1, n2, kp.get, hgs, hww, hput1, d2, d3, n3, n4, hns, litG1, happ, hol, hol2, hput3, none_beq]
        refine ih _ _ k (by omega) ⟨k, j + 1, acc ++ [⟨pk l j, pk l j⟩], o, rfl, by omega, by omega, by simp; omega, ?_⟩
        exact ⟨by simp [wk, aBuiltin, AV.cells, AV.leaf, Nat.reduceEqDiff, Nat.reduceLT, Nat.reduceAdd, Nat.reduceLeDiff, reduceCtorEq, Nat.reduceMul, cfgP, u125, hlen], by simp [wk, aBuiltin, AV.cells, AV.leaf, Nat.reduceEqDiff, Nat.reduceLT, Nat.reduceAdd, Nat.reduceLeDiff, reduceCtorEq, Nat.reduceMul, cfgP, u125, hlen, a0], by simp [wk, aBuiltin, AV.cells, AV.leaf, Nat.reduceEqDiff, Nat.reduceLT, Nat.reduceAdd, Nat.reduceLeDiff, reduceCtorEq, Nat.reduceMul, cfgP, u125, hlen, a2], by simp [wk, aBuiltin, AV.cells, AV.leaf, Nat.reduceEqDiff, Nat.reduceLT, Nat.reduceAdd, Nat.reduceLeDiff, reduceCtorEq, Nat.reduceMul, cfgP, u125, hlen, a4], hres.1, hres.2.1, hres.2.2.1, hres.2.2.2.1, hres.2.2.2.2.1, hres.2.2.2.2.2, hc⟩
end Go.Proofs.Ytoblikhnbddfmaa
