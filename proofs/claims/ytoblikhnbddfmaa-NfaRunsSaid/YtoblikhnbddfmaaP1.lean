import Derived.Test.YtoblikhnbddfmaaN5
/-! Chapter 16's law: any states, walked. -/
set_option linter.unusedSimpArgs false
namespace Go.Proofs.Ytoblikhnbddfmaa
open Go Go.Abs AbsSeat Ty

/-- a state that came in: with its row as it came. -/
structure S0 where
  kind : Int
  no : Bool
  sv : AV
  sp : List Sg
  hs : Sl encG sv sp
  one : Int
  two : Int
def S0.st (x : S0) : St := ⟨x.kind, x.no, x.sp, x.one, x.two⟩
def enc0 (x : S0) : AV := .agg [.int .i64 x.kind, .bool x.no, x.sv, .int .i64 x.one, .int .i64 x.two]
theorem slG_leaf {v : AV} {l : List Sg} (h : Sl encG v l) : v.leaf = true ∧ v.cells = [v] ∧ still v = true := by cases h <;> exact ⟨rfl, rfl, rfl⟩
theorem S0.leaf (x : S0) : x.sv.leaf = true := (slG_leaf x.hs).1
theorem S0.cells (x : S0) : x.sv.cells = [x.sv] := (slG_leaf x.hs).2.1
theorem S0.still (x : S0) : Abs.still x.sv = true := (slG_leaf x.hs).2.2
theorem enc0_T : EncT enc0 5 true where
  len _ := rfl
  leaf x c hc := by
    simp only [enc0, AV.cells, List.mem_cons, List.not_mem_nil, or_false] at hc
    rcases hc with rfl | rfl | rfl | rfl | rfl <;> first | rfl | exact x.leaf
  still x c hc := by
    simp only [enc0, AV.cells, List.mem_cons, List.not_mem_nil, or_false] at hc
    rcases hc with rfl | rfl | rfl | rfl | rfl <;> first | rfl | exact x.still
  shape _ := rfl
theorem row0 : RowT Try.prog 84 145 5 56 true where
  un := Try.underlying84
  size := sz145
  bytes := by145
  agg := ag145
  zero := ⟨_, ze145, rfl⟩
  pos := by decide
  tree := rfl
theorem hxt0 : (∃ e', Try.prog.underlying 84 = some (.slice e')) ∨ Try.prog.underlying 84 = some .string := .inl ⟨_, Try.underlying84⟩
theorem lit0S (x : S0) (K : Heap) : aBuildSlice Try.prog K 84 1 [(0, enc0 x)] = some (.bs ⟨K.length, 0, 0, 1, 1, 5, true, true⟩, some (K ++ [Blk.cells 0 (enc0 x).cells])) := by
  have e : (enc0 x).cells.all AV.leaf = true := List.all_eq_true.2 fun c hc => enc0_T.leaf x c hc
  have e2 : fillA (fun i => some (i * 5, 5)) (zrep 1 [.int .i64 0, .bool false, .nilS, .int .i64 0, .int .i64 0]) [(0, enc0 x)] = some (enc0 x).cells := rfl
  unfold aBuildSlice
  rw [row0.elem, Option.bind_some, row0.size, Option.bind_some, row0.agg, Option.bind_some, ze145, Option.bind_some]
  rw [if_pos ⟨by decide, rfl, by decide⟩]
  simp only [AV.cells] at e e2 ⊢
  rw [e2, Option.bind_some, if_pos e, if_neg (by decide)]
theorem elem0S (x : S0) (K : Heap) : elemCells (K ++ [Blk.cells 0 (enc0 x).cells]) 5 (.bs ⟨K.length, 0, 0, 1, 1, 5, true, true⟩) = some ([x].length, cellsOf enc0 [x]) := by
  have hc : cellsOf enc0 [x] = (enc0 x).cells := by simp [cellsOf]
  have hg : hget (K ++ [Blk.cells 0 (enc0 x).cells]) K.length 0 = some (enc0 x).cells := by rw [hget_new rfl, if_pos rfl]
  have hw : win (enc0 x).cells 0 (1 * 5) = some (enc0 x).cells := rfl
  simp only [elemCells, if_true, hg, Option.bind_some, hw, Option.map_some, hc, List.length_cons, List.length_nil, Nat.zero_add]
theorem cut0_ex (x : S0) : ∃ w : AV, Sl encG w (x.sp.take 4) ∧ (4 < x.sp.length → aSlice Try.prog 44 x.sv none (some (.int .i64 4)) none = some w) ∧ (¬ 4 < x.sp.length → w = x.sv) := by
  by_cases h : 4 < x.sp.length
  · obtain ⟨w, h1, h2⟩ := x.hs.pre (n := 4) (k := .i64) Try.underlying44 sz131 encG_len (by omega)
    exact ⟨w, h2, fun _ => h1, fun h' => absurd h h'⟩
  · exact ⟨x.sv, by rw [List.take_of_length_le (by omega)]; exact x.hs, fun h' => absurd h' h, fun _ => rfl⟩
/-- a state with not too many spans. -/
noncomputable def cut0 (x : S0) : S0 := ⟨x.kind, x.no, Classical.choose (cut0_ex x), x.sp.take 4, (Classical.choose_spec (cut0_ex x)).1, x.one, x.two⟩
theorem litGs (a b : Int) (H : Heap) : aBuildSlice Try.prog H 38 1 [(0, .agg [.int .i32 a, .int .i32 b])] = some (.vs ([⟨a, b⟩].map encG) true, none) :=
  lit1 rowG encG_T ze129 rfl (by decide) ⟨a, b⟩ rfl
theorem u46 : type_of% (And.intro (show tagT Try.prog 145 = 0 from by kernel_rfl) (And.intro (show tagT Try.prog 116 = 0 from by kernel_rfl) (And.intro (show tagT Try.prog 131 = 0 from by kernel_rfl) (And.intro (fun (K : Heap) (n : Int) => conv_int Try.underlying3 Try.underlying21 K n) (And.intro (fun (xo yo : Operand) (b v o : Nat) => ptr_nil_eq (xo := xo) (yo := yo) Try.underlying75 b v o) (And.intro (fun (xo yo : Operand)  => nil_nil_eq (xo := xo) (yo := yo) Try.underlying75 ) (And.intro ag0 (And.intro sz0 (And.intro by0 (And.intro Try.underlying0 (And.intro ag1 (And.intro sz1 (And.intro by1 (And.intro ze1 (And.intro Try.underlying1 (And.intro ag3 (And.intro sz3 (And.intro by3 (And.intro ze3 (And.intro Try.underlying3 (And.intro ag4 (And.intro sz4 (And.intro by4 (And.intro ze4 (And.intro Try.underlying4 (And.intro ag5 (And.intro sz5 (And.intro by5 (And.intro ze5 (And.intro Try.underlying5 (And.intro ag9 (And.intro sz9 (And.intro by9 (And.intro ze9 (And.intro Try.underlying9 (And.intro ag21 (And.intro sz21 (And.intro by21 (And.intro ze21 (And.intro Try.underlying21 (And.intro ag29 (And.intro sz29 (And.intro by29 (And.intro ze29 (And.intro Try.underlying29 (And.intro ag38 (And.intro sz38 (And.intro by38 (And.intro se38 (And.intro ze38 (And.intro Try.underlying38 (And.intro ag44 (And.intro sz44 (And.intro by44 (And.intro se44 (And.intro ze44 (And.intro Try.underlying44 (And.intro ag53 (And.intro sz53 (And.intro by53 (And.intro se53 (And.intro ze53 (And.intro Try.underlying53 (And.intro ag75 (And.intro sz75 (And.intro by75 (And.intro ze75 (And.intro Try.underlying75 (And.intro ag84 (And.intro sz84 (And.intro by84 (And.intro se84 (And.intro ze84 (And.intro Try.underlying84 (And.intro ag89 (And.intro sz89 (And.intro by89 (And.intro se89 (And.intro ze89 (And.intro Try.underlying89 (And.intro ag90 (And.intro sz90 (And.intro by90 (And.intro se90 (And.intro ze90 (And.intro Try.underlying90 (And.intro ag93 (And.intro sz93 (And.intro by93 (And.intro se93 (And.intro ze93 (And.intro Try.underlying93 (And.intro ag116 (And.intro sz116 (And.intro by116 (And.intro ze116 (And.intro bu116 (And.intro Try.underlying116 (And.intro ag129 (And.intro sz129 (And.intro by129 (And.intro ze129 (And.intro bu129 (And.intro Try.underlying129 (And.intro ag131 (And.intro sz131 (And.intro by131 (And.intro ze131 (And.intro bu131 (And.intro Try.underlying131 (And.intro ag141 (And.intro sz141 (And.intro by141 (And.intro se141 (And.intro ze141 (And.intro Try.underlying141 (And.intro ag145 (And.intro sz145 (And.intro by145 (And.intro ze145 (And.intro bu145 (And.intro Try.underlying145 (And.intro fa116_2 (And.intro fd116_2 (And.intro fa131_0 (And.intro fd131_0 (And.intro fa131_1 (And.intro fd131_1 (And.intro fa145_0 (And.intro fd145_0 (And.intro fa145_1 (And.intro fd145_1 (And.intro fa145_2 (And.intro fd145_2 (And.intro fa145_3 (And.intro fd145_3 (And.intro fa145_4 fd145_4))))))))))))))))))))))))))))))))))))))))))))))))))))))))))))))))))))))))))))))))))))))))))))))))))))))))))))))))))))))))))))))))))))))))) := And.intro (show tagT Try.prog 145 = 0 from by kernel_rfl) (And.intro (show tagT Try.prog 116 = 0 from by kernel_rfl) (And.intro (show tagT Try.prog 131 = 0 from by kernel_rfl) (And.intro (fun (K : Heap) (n : Int) => conv_int Try.underlying3 Try.underlying21 K n) (And.intro (fun (xo yo : Operand) (b v o : Nat) => ptr_nil_eq (xo := xo) (yo := yo) Try.underlying75 b v o) (And.intro (fun (xo yo : Operand)  => nil_nil_eq (xo := xo) (yo := yo) Try.underlying75 ) (And.intro ag0 (And.intro sz0 (And.intro by0 (And.intro Try.underlying0 (And.intro ag1 (And.intro sz1 (And.intro by1 (And.intro ze1 (And.intro Try.underlying1 (And.intro ag3 (And.intro sz3 (And.intro by3 (And.intro ze3 (And.intro Try.underlying3 (And.intro ag4 (And.intro sz4 (And.intro by4 (And.intro ze4 (And.intro Try.underlying4 (And.intro ag5 (And.intro sz5 (And.intro by5 (And.intro ze5 (And.intro Try.underlying5 (And.intro ag9 (And.intro sz9 (And.intro by9 (And.intro ze9 (And.intro Try.underlying9 (And.intro ag21 (And.intro sz21 (And.intro by21 (And.intro ze21 (And.intro Try.underlying21 (And.intro ag29 (And.intro sz29 (And.intro by29 (And.intro ze29 (And.intro Try.underlying29 (And.intro ag38 (And.intro sz38 (And.intro by38 (And.intro se38 (And.intro ze38 (And.intro Try.underlying38 (And.intro ag44 (And.intro sz44 (And.intro by44 (And.intro se44 (And.intro ze44 (And.intro Try.underlying44 (And.intro ag53 (And.intro sz53 (And.intro by53 (And.intro se53 (And.intro ze53 (And.intro Try.underlying53 (And.intro ag75 (And.intro sz75 (And.intro by75 (And.intro ze75 (And.intro Try.underlying75 (And.intro ag84 (And.intro sz84 (And.intro by84 (And.intro se84 (And.intro ze84 (And.intro Try.underlying84 (And.intro ag89 (And.intro sz89 (And.intro by89 (And.intro se89 (And.intro ze89 (And.intro Try.underlying89 (And.intro ag90 (And.intro sz90 (And.intro by90 (And.intro se90 (And.intro ze90 (And.intro Try.underlying90 (And.intro ag93 (And.intro sz93 (And.intro by93 (And.intro se93 (And.intro ze93 (And.intro Try.underlying93 (And.intro ag116 (And.intro sz116 (And.intro by116 (And.intro ze116 (And.intro bu116 (And.intro Try.underlying116 (And.intro ag129 (And.intro sz129 (And.intro by129 (And.intro ze129 (And.intro bu129 (And.intro Try.underlying129 (And.intro ag131 (And.intro sz131 (And.intro by131 (And.intro ze131 (And.intro bu131 (And.intro Try.underlying131 (And.intro ag141 (And.intro sz141 (And.intro by141 (And.intro se141 (And.intro ze141 (And.intro Try.underlying141 (And.intro ag145 (And.intro sz145 (And.intro by145 (And.intro ze145 (And.intro bu145 (And.intro Try.underlying145 (And.intro fa116_2 (And.intro fd116_2 (And.intro fa131_0 (And.intro fd131_0 (And.intro fa131_1 (And.intro fd131_1 (And.intro fa145_0 (And.intro fd145_0 (And.intro fa145_1 (And.intro fd145_1 (And.intro fa145_2 (And.intro fd145_2 (And.intro fa145_3 (And.intro fd145_3 (And.intro fa145_4 fd145_4))))))))))))))))))))))))))))))))))))))))))))))))))))))))))))))))))))))))))))))))))))))))))))))))))))))))))))))))))))))))))))))))))))))))
def g46 : Code :=
  .seq (.region 0 #[q 2 (.assign (.const (.slice none 0 0))) 84] false) (.seq (.region 1 #[q 3 (.assign (.const (.slice none 0 0))) 84] false) (.seq (.seq (.region 2 #[q 6 (.move (.tmp 0)) 84, q 7 (bi .len #[.tmp 6] #[84]) 3, q 8 (.move (ik 0)) 3] false) (.block 0 (.loop (.seq (.region 3 #[q 9 (.binOp .lss 3 (.tmp 8) (.tmp 7) 3) 0] false) (.seq (.cond (.tmp 9) .skip (.exit 0)) (.seq (.block 1 (.seq (.region 4 #[q 10 (.move (.tmp 8)) 3, q 11 (.indexAddr 84 (.tmp 6) (.tmp 8)) 0, q 12 (.load 145 (.tmp 11)) 145, q 5 (.alloc 145) 0, q 4 (.assign (.tmp 10)) 3, qn (.store 145 (.tmp 5) (.tmp 12)) 0] false) (.seq (.seq (.region 5 #[q 13 (.move (.tmp 4)) 3, q 14 (.binOp .geq 3 (.tmp 13) (ik 20) 3) 4] false) (.cond (.tmp 14) (.exit 0) .skip)) (.seq (.seq (.region 6 #[q 15 (.fieldAddr 145 (.tmp 5) 2) 0, q 16 (.load 44 (.tmp 15)) 44, q 17 (bi .len #[.tmp 16] #[44]) 3, q 18 (.binOp .gtr 3 (.tmp 17) (ik 4) 3) 4] false) (.cond (.tmp 18) (.region 7 #[q 19 (.fieldAddr 145 (.tmp 5) 2) 0, q 20 (.load 44 (.tmp 19)) 44, q 21 (.slice 44 (.tmp 20) none (some (ik 4)) none) 44, q 22 (.fieldAddr 145 (.tmp 5) 2) 0, qn (.store 44 (.tmp 22) (.tmp 21)) 0] false) .skip)) (.region 8 #[q 23 (.move (.tmp 3)) 84, q 24 (.load 145 (.tmp 5)) 145, q 25 (.buildSlice 84 1 #[(0, .tmp 24)]) 84, q 26 (bi .append #[.tmp 23, .tmp 25] #[84, 84]) 84, q 3 (.assign (.tmp 26)) 84] false))))) (.region 9 #[q 27 (.binOp .add 3 (.tmp 8) (ik 1) 3) 3, q 8 (.move (.tmp 27)) 3] false))))))) (.seq (.region 10 #[q 28 (.move (.tmp 3)) 84, q 2 (.assign (.tmp 28)) 84] false) .ret)))
theorem s46 : Try.f46.body.map (slim cfg) = some g46 := by kernel_rfl
def g48 : Code :=
  .seq (.region 0 #[q 2 (.assign (.const (.slice none 0 0))) 53] false) (.seq (.region 1 #[q 3 (.assign (.const (.slice none 0 0))) 53] false) (.seq (.seq (.region 2 #[q 9 (.move (.tmp 0)) 84, q 10 (bi .len #[.tmp 9] #[84]) 3, q 11 (.move (ik 0)) 3] false) (.block 0 (.loop (.seq (.region 3 #[q 12 (.binOp .lss 3 (.tmp 11) (.tmp 10) 3) 0] false) (.seq (.cond (.tmp 12) .skip (.exit 0)) (.seq (.block 1 (.seq (.region 4 #[q 13 (.indexAddr 84 (.tmp 9) (.tmp 11)) 0, q 14 (.load 145 (.tmp 13)) 145, q 5 (.alloc 145) 0, qn (.store 145 (.tmp 5) (.tmp 14)) 0] false) (.seq (.region 5 #[q 15 (.fieldAddr 145 (.tmp 5) 0) 0, q 16 (.load 3 (.tmp 15)) 3, q 17 (.fieldAddr 145 (.tmp 5) 1) 0, q 18 (.load 4 (.tmp 17)) 4, q 19 (.fieldAddr 145 (.tmp 5) 3) 0, q 20 (.load 3 (.tmp 19)) 3, q 21 (.fieldAddr 145 (.tmp 5) 4) 0, q 22 (.load 3 (.tmp 21)) 3, q 23 (.build 116 #[(0, .tmp 16), (1, .tmp 18), (3, .tmp 20), (4, .tmp 22)]) 116, q 6 (.alloc 116) 0, qn (.store 116 (.tmp 6) (.tmp 23)) 0] false) (.seq (.seq (.region 6 #[q 24 (.fieldAddr 145 (.tmp 5) 2) 0, q 25 (.load 44 (.tmp 24)) 44, q 26 (bi .len #[.tmp 25] #[44]) 3, q 27 (.move (ik 0)) 3] false) (.block 2 (.loop (.seq (.region 7 #[q 28 (.binOp .lss 3 (.tmp 27) (.tmp 26) 3) 0] false) (.seq (.cond (.tmp 28) .skip (.exit 2)) (.seq (.block 3 (.seq (.region 8 #[q 29 (.move (.tmp 27)) 3, q 30 (.indexAddr 44 (.tmp 25) (.tmp 27)) 0, q 31 (.load 131 (.tmp 30)) 131, q 8 (.alloc 131) 0, q 7 (.assign (.tmp 29)) 3, qn (.store 131 (.tmp 8) (.tmp 31)) 0] false) (.seq (.region 9 #[q 32 (.move (.tmp 7)) 3, q 33 (.binOp .lss 3 (.tmp 32) (ik 4) 3) 4] false) (.cond (.tmp 33) (.region 10 #[q 34 (.fieldAddr 116 (.tmp 6) 2) 0, q 35 (.load 38 (.tmp 34)) 38, q 36 (.fieldAddr 131 (.tmp 8) 0) 0, q 37 (.load 21 (.tmp 36)) 21, q 38 (.fieldAddr 131 (.tmp 8) 1) 0, q 39 (.load 21 (.tmp 38)) 21, q 40 (.build 129 #[(0, .tmp 37), (1, .tmp 39)]) 129, q 41 (.buildSlice 38 1 #[(0, .tmp 40)]) 38, q 42 (bi .append #[.tmp 35, .tmp 41] #[38, 38]) 38, q 43 (.fieldAddr 116 (.tmp 6) 2) 0, qn (.store 38 (.tmp 43) (.tmp 42)) 0] false) .skip)))) (.region 11 #[q 44 (.binOp .add 3 (.tmp 27) (ik 1) 3) 3, q 27 (.move (.tmp 44)) 3] false))))))) (.region 12 #[q 45 (.move (.tmp 3)) 53, q 46 (.load 116 (.tmp 6)) 116, q 47 (.buildSlice 53 1 #[(0, .tmp 46)]) 53, q 48 (bi .append #[.tmp 45, .tmp 47] #[53, 53]) 53, q 3 (.assign (.tmp 48)) 53] false))))) (.region 13 #[q 49 (.binOp .add 3 (.tmp 11) (ik 1) 3) 3, q 11 (.move (.tmp 49)) 3] false))))))) (.seq (.region 14 #[q 50 (.move (.tmp 3)) 53, q 2 (.assign (.tmp 50)) 53] false) .ret)))
theorem s48 : Try.f48.body.map (slim cfg) = some g48 := by kernel_rfl
def g49 : Code :=
  .seq (.region 0 #[q 4 (.assign (.const (.bool false))) 4] false) (.seq (.seq (.region 1 #[q 7 (.move (.tmp 0)) 84, q 8 (bi .len #[.tmp 7] #[84]) 3, q 9 (.binOp .gtr 3 (.tmp 8) (ik 401) 3) 4, q 10 (.move (.tmp 9)) 4, qg 11 (.move (.tmp 1)) 3 3 false, qg 12 (.binOp .lss 3 (.tmp 11) (ik 0) 3) 4 3 false, q 13 (.pick (.tmp 10) (.const (.bool true)) (.tmp 12)) 4, q 14 (.move (.tmp 13)) 4, qg 15 (.move (.tmp 1)) 3 7 false, qg 16 (.move (.tmp 0)) 84 7 false, qg 17 (bi .len #[.tmp 16] #[84]) 3 7 false, qg 18 (.binOp .geq 3 (.tmp 15) (.tmp 17) 3) 4 7 false, q 19 (.pick (.tmp 14) (.const (.bool true)) (.tmp 18)) 4] false) (.cond (.tmp 19) (.seq (.region 2 #[q 4 (.assign (.const (.bool false))) 4] false) .ret) .skip)) (.seq (.seq (.region 3 #[q 20 (.move (.tmp 0)) 84, q 21 (bi .len #[.tmp 20] #[84]) 3, q 22 (.move (ik 0)) 3] false) (.block 0 (.loop (.seq (.region 4 #[q 23 (.binOp .lss 3 (.tmp 22) (.tmp 21) 3) 0] false) (.seq (.cond (.tmp 23) .skip (.exit 0)) (.seq (.block 1 (.seq (.region 5 #[q 24 (.indexAddr 84 (.tmp 20) (.tmp 22)) 0, q 25 (.load 145 (.tmp 24)) 145, q 6 (.alloc 145) 0, qn (.store 145 (.tmp 6) (.tmp 25)) 0] false) (.seq (.region 6 #[q 26 (.fieldAddr 145 (.tmp 6) 0) 0, q 27 (.load 3 (.tmp 26)) 3, q 28 (.binOp .lss 3 (.tmp 27) (ik 1) 3) 4, q 29 (.move (.tmp 28)) 4, qg 30 (.fieldAddr 145 (.tmp 6) 0) 0 3 false, qg 31 (.load 3 (.tmp 30)) 3 3 false, qg 32 (.binOp .gtr 3 (.tmp 31) (ik 3) 3) 4 3 false, q 33 (.pick (.tmp 29) (.const (.bool true)) (.tmp 32)) 4, q 34 (.move (.tmp 33)) 4, qg 35 (.fieldAddr 145 (.tmp 6) 0) 0 8 false, qg 36 (.load 3 (.tmp 35)) 3 8 false, qg 37 (.binOp .lss 3 (.tmp 36) (ik 3) 3) 4 8 false, qg 38 (.move (.tmp 37)) 4 8 false, qg 39 (.fieldAddr 145 (.tmp 6) 3) 0 12 true, qg 40 (.load 3 (.tmp 39)) 3 12 true, qg 41 (.binOp .lss 3 (.tmp 40) (ik 0) 3) 4 12 true, qg 42 (.move (.tmp 41)) 4 12 true, qg 43 (.fieldAddr 145 (.tmp 6) 3) 0 16 false, qg 44 (.load 3 (.tmp 43)) 3 16 false, qg 45 (.move (.tmp 0)) 84 16 false, qg 46 (bi .len #[.tmp 45] #[84]) 3 16 false, qg 47 (.binOp .geq 3 (.tmp 44) (.tmp 46) 3) 4 16 false, qg 48 (.pick (.tmp 42) (.const (.bool true)) (.tmp 47)) 4 12 true, qg 49 (.pick (.tmp 38) (.tmp 48) (.const (.bool false))) 4 8 false, q 50 (.pick (.tmp 34) (.const (.bool true)) (.tmp 49)) 4, q 51 (.move (.tmp 50)) 4, qg 52 (.fieldAddr 145 (.tmp 6) 0) 0 25 false, qg 53 (.load 3 (.tmp 52)) 3 25 false, qg 54 (.binOp .eql 3 (.tmp 53) (ik 2) 3) 4 25 false, qg 55 (.move (.tmp 54)) 4 25 false, qg 56 (.fieldAddr 145 (.tmp 6) 4) 0 29 true, qg 57 (.load 3 (.tmp 56)) 3 29 true, qg 58 (.binOp .lss 3 (.tmp 57) (ik 0) 3) 4 29 true, qg 59 (.move (.tmp 58)) 4 29 true, qg 60 (.fieldAddr 145 (.tmp 6) 4) 0 33 false, qg 61 (.load 3 (.tmp 60)) 3 33 false, qg 62 (.move (.tmp 0)) 84 33 false, qg 63 (bi .len #[.tmp 62] #[84]) 3 33 false, qg 64 (.binOp .geq 3 (.tmp 61) (.tmp 63) 3) 4 33 false, qg 65 (.pick (.tmp 59) (.const (.bool true)) (.tmp 64)) 4 29 true, qg 66 (.pick (.tmp 55) (.tmp 65) (.const (.bool false))) 4 25 false, q 67 (.pick (.tmp 51) (.const (.bool true)) (.tmp 66)) 4] false) (.cond (.tmp 67) (.seq (.region 7 #[q 4 (.assign (.const (.bool false))) 4] false) .ret) .skip)))) (.region 8 #[q 68 (.binOp .add 3 (.tmp 22) (ik 1) 3) 3, q 22 (.move (.tmp 68)) 3] false))))))) (.seq (.region 9 #[q 4 (.assign (.const (.bool true))) 4] false) .ret)))
theorem s49 : Try.f49.body.map (slim cfg) = some g49 := by kernel_rfl
def g50 : Code :=
  .seq (.region 0 #[q 6 (.assign (.const (.slice none 0 0))) 89, q 7 (.assign (.const (.slice none 0 0))) 90, q 8 (.assign (.const (.bool false))) 4] false) (.seq (.region 1 #[q 18 (.move (.tmp 0)) 84, q 19 (bi .len #[.tmp 18] #[84]) 3, q 20 (.makeSlice 93 (.tmp 19) (.tmp 19)) 93, q 9 (.assign (.tmp 20)) 93] false) (.seq (.region 2 #[q 21 (.move (.tmp 9)) 93, q 22 (.move (.tmp 1)) 3, q 23 (.indexAddr 93 (.tmp 21) (.tmp 22)) 0, qn (.store 4 (.tmp 23) (.const (.bool true))) 0] false) (.seq (.region 3 #[q 24 (.move (.tmp 0)) 84, q 25 (.move (.tmp 9)) 93, q 26 (cl 77 #[.tmp 24, .tmp 25] #[84, 93]) 93, q 9 (.assign (.tmp 26)) 93] false) (.seq (.region 4 #[q 27 (.move (.tmp 9)) 93, q 28 (.buildSlice 89 1 #[(0, .tmp 27)]) 89, q 10 (.assign (.tmp 28)) 89] false) (.seq (.region 5 #[q 29 (.buildSlice 90 1 #[(0, ik 0)]) 90, q 11 (.assign (.tmp 29)) 90] false) (.seq (.seq (.region 6 #[q 12 (.assign (ik 0)) 3] false) (.block 0 (.loop (.seq (.seq (.region 7 #[q 30 (.move (.tmp 12)) 3, q 31 (.move (.tmp 2)) 9, q 32 (bi .len #[.tmp 31] #[9]) 3, q 33 (.binOp .lss 3 (.tmp 30) (.tmp 32) 3) 4] false) (.cond (.tmp 33) .skip (.exit 0))) (.block 1 (.seq (.region 8 #[q 35 (.move (.tmp 2)) 9, q 36 (.move (.tmp 12)) 3, q 37 (.slice 9 (.tmp 35) (some (.tmp 36)) none none) 9, q 38 (.convert 9 141 (.tmp 37)) 141, q 39 (cl 74 #[.tmp 38] #[141]) 139, q 34 (.move (.tmp 39)) 139, q 40 (.extract (.tmp 34) 0) 3, q 41 (.extract (.tmp 34) 1) 3, q 13 (.assign (.tmp 40)) 3, q 14 (.assign (.tmp 41)) 3] false) (.seq (.seq (.region 9 #[q 42 (.move (.tmp 14)) 3, q 43 (.binOp .lss 3 (.tmp 42) (ik 1) 3) 4] false) (.cond (.tmp 43) (.seq (.region 10 #[q 44 (.move (.tmp 10)) 89, q 45 (.move (.tmp 11)) 90, q 6 (.assign (.tmp 44)) 89, q 7 (.assign (.tmp 45)) 90, q 8 (.assign (.const (.bool false))) 4] false) .ret) .skip)) (.seq (.region 11 #[q 46 (.move (.tmp 0)) 84, q 47 (bi .len #[.tmp 46] #[84]) 3, q 48 (.makeSlice 93 (.tmp 47) (.tmp 47)) 93, q 15 (.assign (.tmp 48)) 93] false) (.seq (.seq (.region 12 #[q 49 (.move (.tmp 0)) 84, q 50 (bi .len #[.tmp 49] #[84]) 3, q 51 (.move (ik 0)) 3] false) (.block 2 (.loop (.seq (.region 13 #[q 52 (.binOp .lss 3 (.tmp 51) (.tmp 50) 3) 0] false) (.seq (.cond (.tmp 52) .skip (.exit 2)) (.seq (.block 3 (.seq (.region 14 #[q 53 (.move (.tmp 51)) 3, q 54 (.indexAddr 84 (.tmp 49) (.tmp 51)) 0, q 55 (.load 145 (.tmp 54)) 145, q 17 (.alloc 145) 0, q 16 (.assign (.tmp 53)) 3, qn (.store 145 (.tmp 17) (.tmp 55)) 0] false) (.seq (.region 15 #[q 56 (.move (.tmp 9)) 93, q 57 (.move (.tmp 16)) 3, q 58 (.indexAddr 93 (.tmp 56) (.tmp 57)) 0, q 59 (.load 4 (.tmp 58)) 4, q 60 (.move (.tmp 59)) 4, qg 61 (.fieldAddr 145 (.tmp 17) 0) 0 4 true, qg 62 (.load 3 (.tmp 61)) 3 4 true, qg 63 (.binOp .eql 3 (.tmp 62) (ik 1) 3) 4 4 true, q 64 (.pick (.tmp 60) (.tmp 63) (.const (.bool false))) 4, q 65 (.move (.tmp 64)) 4, qg 66 (.move (.tmp 13)) 3 9 true, qg 67 (.convert 3 21 (.tmp 66)) 21 9 true, qg 68 (.fieldAddr 145 (.tmp 17) 1) 0 9 true, qg 69 (.load 4 (.tmp 68)) 4 9 true, qg 70 (.fieldAddr 145 (.tmp 17) 2) 0 9 true, qg 71 (.load 44 (.tmp 70)) 44 9 true, qg 72 (cl 38 #[.tmp 67, .tmp 69, .tmp 71] #[21, 4, 44]) 4 9 true, q 73 (.pick (.tmp 65) (.tmp 72) (.const (.bool false))) 4] false) (.cond (.tmp 73) (.region 16 #[q 74 (.move (.tmp 15)) 93, q 75 (.fieldAddr 145 (.tmp 17) 3) 0, q 76 (.load 3 (.tmp 75)) 3, q 77 (.indexAddr 93 (.tmp 74) (.tmp 76)) 0, qn (.store 4 (.tmp 77) (.const (.bool true))) 0] false) .skip)))) (.region 17 #[q 78 (.binOp .add 3 (.tmp 51) (ik 1) 3) 3, q 51 (.move (.tmp 78)) 3] false))))))) (.seq (.region 18 #[q 79 (.move (.tmp 0)) 84, q 80 (.move (.tmp 15)) 93, q 81 (cl 77 #[.tmp 79, .tmp 80] #[84, 93]) 93, q 9 (.assign (.tmp 81)) 93] false) (.seq (.region 19 #[q 82 (.move (.tmp 12)) 3, q 83 (.move (.tmp 14)) 3, q 84 (.binOp .add 3 (.tmp 82) (.tmp 83) 3) 3, q 12 (.assign (.tmp 84)) 3] false) (.seq (.region 20 #[q 85 (.move (.tmp 10)) 89, q 86 (.move (.tmp 9)) 93, q 87 (.buildSlice 89 1 #[(0, .tmp 86)]) 89, q 88 (bi .append #[.tmp 85, .tmp 87] #[89, 89]) 89, q 10 (.assign (.tmp 88)) 89] false) (.region 21 #[q 89 (.move (.tmp 11)) 90, q 90 (.move (.tmp 12)) 3, q 91 (.buildSlice 90 1 #[(0, .tmp 90)]) 90, q 92 (bi .append #[.tmp 89, .tmp 91] #[90, 90]) 90, q 11 (.assign (.tmp 92)) 90] false))))))))))))) (.seq (.region 22 #[q 93 (.move (.tmp 10)) 89, q 94 (.move (.tmp 11)) 90, q 6 (.assign (.tmp 93)) 89, q 7 (.assign (.tmp 94)) 90, q 8 (.assign (.const (.bool true))) 4] false) .ret)))))))
theorem s50 : Try.f50.body.map (slim cfg) = some g50 := by kernel_rfl
def g77 : Code :=
  .seq (.region 0 #[q 4 (.assign (.const (.slice none 0 0))) 93] false) (.seq (.region 1 #[q 8 (.buildSlice 93 0 #[]) 93, q 9 (.move (.tmp 1)) 93, q 10 (bi .append #[.tmp 8, .tmp 9] #[93, 93]) 93, q 5 (.assign (.tmp 10)) 93] false) (.seq (.seq (.region 2 #[q 11 (.move (.tmp 0)) 84, q 12 (bi .len #[.tmp 11] #[84]) 3, q 13 (.move (ik 0)) 3] false) (.block 0 (.loop (.seq (.region 3 #[q 14 (.binOp .lss 3 (.tmp 13) (.tmp 12) 3) 0] false) (.seq (.cond (.tmp 14) .skip (.exit 0)) (.seq (.block 1 (.seq (.region 4 #[q 15 (.move (.tmp 0)) 84, q 16 (bi .len #[.tmp 15] #[84]) 3, q 17 (.move (ik 0)) 3] false) (.block 2 (.loop (.seq (.region 5 #[q 18 (.binOp .lss 3 (.tmp 17) (.tmp 16) 3) 0] false) (.seq (.cond (.tmp 18) .skip (.exit 2)) (.seq (.block 3 (.seq (.region 6 #[q 19 (.move (.tmp 17)) 3, q 20 (.indexAddr 84 (.tmp 15) (.tmp 17)) 0, q 21 (.load 145 (.tmp 20)) 145, q 7 (.alloc 145) 0, q 6 (.assign (.tmp 19)) 3, qn (.store 145 (.tmp 7) (.tmp 21)) 0] false) (.seq (.region 7 #[q 22 (.move (.tmp 5)) 93, q 23 (.move (.tmp 6)) 3, q 24 (.indexAddr 93 (.tmp 22) (.tmp 23)) 0, q 25 (.load 4 (.tmp 24)) 4, q 26 (.move (.tmp 25)) 4, qg 27 (.fieldAddr 145 (.tmp 7) 0) 0 4 true, qg 28 (.load 3 (.tmp 27)) 3 4 true, qg 29 (.binOp .eql 3 (.tmp 28) (ik 2) 3) 4 4 true, q 30 (.pick (.tmp 26) (.tmp 29) (.const (.bool false))) 4] false) (.cond (.tmp 30) (.seq (.region 8 #[q 31 (.move (.tmp 5)) 93, q 32 (.fieldAddr 145 (.tmp 7) 3) 0, q 33 (.load 3 (.tmp 32)) 3, q 34 (.indexAddr 93 (.tmp 31) (.tmp 33)) 0, qn (.store 4 (.tmp 34) (.const (.bool true))) 0] false) (.region 9 #[q 35 (.move (.tmp 5)) 93, q 36 (.fieldAddr 145 (.tmp 7) 4) 0, q 37 (.load 3 (.tmp 36)) 3, q 38 (.indexAddr 93 (.tmp 35) (.tmp 37)) 0, qn (.store 4 (.tmp 38) (.const (.bool true))) 0] false)) .skip)))) (.region 10 #[q 39 (.binOp .add 3 (.tmp 17) (ik 1) 3) 3, q 17 (.move (.tmp 39)) 3] false)))))))) (.region 11 #[q 40 (.binOp .add 3 (.tmp 13) (ik 1) 3) 3, q 13 (.move (.tmp 40)) 3] false))))))) (.seq (.region 12 #[q 41 (.move (.tmp 5)) 93, q 4 (.assign (.tmp 41)) 93] false) .ret)))
theorem s77 : Try.f77.body.map (slim cfg) = some g77 := by kernel_rfl
def g51 : Code :=
  .seq (.region 0 #[q 4 (.assign (.const (.bool false))) 4] false) (.seq (.seq (.region 1 #[q 7 (.move (.tmp 0)) 84, q 8 (bi .len #[.tmp 7] #[84]) 3, q 9 (.move (ik 0)) 3] false) (.block 0 (.loop (.seq (.region 2 #[q 10 (.binOp .lss 3 (.tmp 9) (.tmp 8) 3) 0] false) (.seq (.cond (.tmp 10) .skip (.exit 0)) (.seq (.block 1 (.seq (.region 3 #[q 11 (.move (.tmp 9)) 3, q 12 (.indexAddr 84 (.tmp 7) (.tmp 9)) 0, q 13 (.load 145 (.tmp 12)) 145, q 6 (.alloc 145) 0, q 5 (.assign (.tmp 11)) 3, qn (.store 145 (.tmp 6) (.tmp 13)) 0] false) (.seq (.region 4 #[q 14 (.move (.tmp 1)) 93, q 15 (.move (.tmp 5)) 3, q 16 (.indexAddr 93 (.tmp 14) (.tmp 15)) 0, q 17 (.load 4 (.tmp 16)) 4, q 18 (.move (.tmp 17)) 4, qg 19 (.fieldAddr 145 (.tmp 6) 0) 0 4 true, qg 20 (.load 3 (.tmp 19)) 3 4 true, qg 21 (.binOp .eql 3 (.tmp 20) (ik 3) 3) 4 4 true, q 22 (.pick (.tmp 18) (.tmp 21) (.const (.bool false))) 4] false) (.cond (.tmp 22) (.seq (.region 5 #[q 4 (.assign (.const (.bool true))) 4] false) .ret) .skip)))) (.region 6 #[q 23 (.binOp .add 3 (.tmp 9) (ik 1) 3) 3, q 9 (.move (.tmp 23)) 3] false))))))) (.seq (.region 7 #[q 4 (.assign (.const (.bool false))) 4] false) .ret))
theorem s51 : Try.f51.body.map (slim cfg) = some g51 := by kernel_rfl
def g11 : Code :=
  .seq (.region 0 #[q 6 (.assign (.const (.bool false))) 4] false) (.seq (.region 1 #[q 22 (.move (.tmp 0)) 84, q 23 (cl 46 #[.tmp 22] #[84]) 84, q 24 (.move (.tmp 2)) 9, q 25 (cl 39 #[.tmp 24] #[9]) 9, q 0 (.assign (.tmp 23)) 84, q 2 (.assign (.tmp 25)) 9] false) (.seq (.region 2 #[q 27 (.move (.tmp 0)) 84, q 28 (cl 48 #[.tmp 27] #[84]) 53, q 29 (.move (.tmp 1)) 3, q 30 (cl 47 #[.tmp 28, .tmp 29] #[53, 3]) 76, q 26 (.move (.tmp 30)) 76, q 31 (.extract (.tmp 26) 0) 75, q 32 (.extract (.tmp 26) 1) 29, q 7 (.assign (.tmp 31)) 75, q 8 (.assign (.tmp 32)) 29] false) (.seq (.seq (.region 3 #[q 33 (.move (.tmp 0)) 84, q 34 (.move (.tmp 1)) 3, q 35 (cl 49 #[.tmp 33, .tmp 34] #[84, 3]) 4, q 36 (.unOp .not 4 (.tmp 35)) 4] false) (.cond (.tmp 36) (.seq (.region 4 #[q 37 (.move (.tmp 7)) 75, q 38 (.binOp .eql 75 (.tmp 37) (.const (.pointer none)) 75) 4, q 39 (.move (.tmp 38)) 4, qg 40 (.move (.tmp 8)) 29 2 true, qg 41 (.binOp .eql 29 (.tmp 40) (ik 1) 29) 4 2 true, q 42 (.pick (.tmp 39) (.tmp 41) (.const (.bool false))) 4, q 43 (.move (.tmp 42)) 4, qg 44 (cl 42 #[] #[]) 4 6 true, q 45 (.pick (.tmp 43) (.tmp 44) (.const (.bool false))) 4, q 6 (.assign (.tmp 45)) 4] false) .ret) .skip)) (.seq (.region 5 #[q 47 (.move (.tmp 0)) 84, q 48 (.move (.tmp 1)) 3, q 49 (.move (.tmp 2)) 9, q 50 (cl 50 #[.tmp 47, .tmp 48, .tmp 49] #[84, 3, 9]) 91, q 46 (.move (.tmp 50)) 91, q 51 (.extract (.tmp 46) 0) 89, q 52 (.extract (.tmp 46) 1) 90, q 53 (.extract (.tmp 46) 2) 4, q 9 (.assign (.tmp 51)) 89, q 10 (.assign (.tmp 52)) 90, q 11 (.assign (.tmp 53)) 4] false) (.seq (.region 6 #[q 12 (.assign (ik 0)) 3, q 13 (.assign (.const (.bool false))) 4] false) (.seq (.region 7 #[q 14 (.assign (ik 0)) 3] false) (.seq (.seq (.region 8 #[q 54 (.move (.tmp 9)) 89, q 55 (bi .len #[.tmp 54] #[89]) 3, q 56 (.move (ik 0)) 3] false) (.block 0 (.loop (.seq (.region 9 #[q 57 (.binOp .lss 3 (.tmp 56) (.tmp 55) 3) 0] false) (.seq (.cond (.tmp 57) .skip (.exit 0)) (.seq (.block 1 (.seq (.region 10 #[q 58 (.move (.tmp 56)) 3, q 59 (.indexAddr 89 (.tmp 54) (.tmp 56)) 0, q 60 (.load 93 (.tmp 59)) 93, q 15 (.assign (.tmp 58)) 3, q 16 (.assign (.tmp 60)) 93] false) (.seq (.seq (.region 11 #[q 61 (.move (.tmp 0)) 84, q 62 (.move (.tmp 16)) 93, q 63 (cl 51 #[.tmp 61, .tmp 62] #[84, 93]) 4] false) (.cond (.tmp 63) (.seq (.region 12 #[q 64 (.move (.tmp 10)) 90, q 65 (.move (.tmp 15)) 3, q 66 (.indexAddr 90 (.tmp 64) (.tmp 65)) 0, q 67 (.load 3 (.tmp 66)) 3, q 12 (.assign (.tmp 67)) 3] false) (.region 13 #[q 13 (.assign (.const (.bool true))) 4] false)) .skip)) (.seq (.region 14 #[q 68 (.move (.tmp 16)) 93, q 69 (bi .len #[.tmp 68] #[93]) 3, q 70 (.move (ik 0)) 3] false) (.block 2 (.loop (.seq (.region 15 #[q 71 (.binOp .lss 3 (.tmp 70) (.tmp 69) 3) 0] false) (.seq (.cond (.tmp 71) .skip (.exit 2)) (.seq (.block 3 (.seq (.region 16 #[q 72 (.indexAddr 93 (.tmp 68) (.tmp 70)) 0, q 73 (.load 4 (.tmp 72)) 4, q 18 (.assign (.tmp 73)) 4] false) (.seq (.region 17 #[q 74 (.move (.tmp 18)) 4] false) (.cond (.tmp 74) (.region 18 #[q 75 (.move (.tmp 14)) 3, q 76 (.binOp .add 3 (.tmp 75) (ik 1) 3) 3, q 14 (.assign (.tmp 76)) 3] false) .skip)))) (.region 19 #[q 77 (.binOp .add 3 (.tmp 70) (ik 1) 3) 3, q 70 (.move (.tmp 77)) 3] false)))))))))) (.region 20 #[q 78 (.binOp .add 3 (.tmp 56) (ik 1) 3) 3, q 56 (.move (.tmp 78)) 3] false))))))) (.seq (.seq (.region 21 #[q 79 (.move (.tmp 11)) 4, q 80 (.unOp .not 4 (.tmp 79)) 4] false) (.cond (.tmp 80) (.region 22 #[q 14 (.assign (ik 0)) 3] false) .skip)) (.seq (.region 23 #[q 82 (.move (.tmp 7)) 75, q 83 (.move (.tmp 2)) 9, q 84 (cl 52 #[.tmp 82, .tmp 83] #[75, 9]) 95, q 81 (.move (.tmp 84)) 95, q 85 (.extract (.tmp 81) 0) 3, q 86 (.extract (.tmp 81) 1) 4, q 19 (.assign (.tmp 85)) 3, q 20 (.assign (.tmp 86)) 4] false) (.seq (.region 24 #[q 87 (.move (.tmp 11)) 4, q 88 (.move (.tmp 87)) 4, qg 89 (.move (.tmp 0)) 84 1 true, qg 90 (.move (.tmp 9)) 89 1 true, qg 91 (.move (.tmp 9)) 89 1 true, qg 92 (bi .len #[.tmp 91] #[89]) 3 1 true, qg 93 (.binOp .sub 3 (.tmp 92) (ik 1) 3) 3 1 true, qg 94 (.indexAddr 89 (.tmp 90) (.tmp 93)) 0 1 true, qg 95 (.load 93 (.tmp 94)) 93 1 true, qg 96 (cl 51 #[.tmp 89, .tmp 95] #[84, 93]) 4 1 true, q 97 (.pick (.tmp 88) (.tmp 96) (.const (.bool false))) 4, q 21 (.assign (.tmp 97)) 4] false) (.seq (.region 25 #[q 98 (.move (.tmp 8)) 29, q 99 (.binOp .eql 29 (.tmp 98) (ik 0) 29) 4, q 100 (.move (.tmp 99)) 4, qg 101 (.move (.tmp 7)) 75 2 true, qg 102 (cl 45 #[.tmp 101] #[75]) 3 2 true, qg 103 (.move (.tmp 0)) 84 2 true, qg 104 (bi .len #[.tmp 103] #[84]) 3 2 true, qg 105 (.binOp .eql 3 (.tmp 102) (.tmp 104) 3) 4 2 true, q 106 (.pick (.tmp 100) (.tmp 105) (.const (.bool false))) 4, q 107 (.move (.tmp 106)) 4, qg 108 (.move (.tmp 7)) 75 9 true, qg 109 (.move (.tmp 2)) 9 9 true, qg 110 (cl 41 #[.tmp 108, .tmp 109] #[75, 9]) 4 9 true, qg 111 (.move (.tmp 21)) 4 9 true, qg 112 (.binOp .eql 4 (.tmp 110) (.tmp 111) 4) 4 9 true, q 113 (.pick (.tmp 107) (.tmp 112) (.const (.bool false))) 4, q 114 (.move (.tmp 113)) 4, qg 115 (.move (.tmp 19)) 3 16 true, qg 116 (.move (.tmp 12)) 3 16 true, qg 117 (.binOp .eql 3 (.tmp 115) (.tmp 116) 3) 4 16 true, q 118 (.pick (.tmp 114) (.tmp 117) (.const (.bool false))) 4, q 119 (.move (.tmp 118)) 4, qg 120 (.move (.tmp 20)) 4 21 true, qg 121 (.move (.tmp 13)) 4 21 true, qg 122 (.binOp .eql 4 (.tmp 120) (.tmp 121) 4) 4 21 true, q 123 (.pick (.tmp 119) (.tmp 122) (.const (.bool false))) 4, q 124 (.move (.tmp 123)) 4, qg 125 (.move (.tmp 7)) 75 26 true, qg 126 (.move (.tmp 2)) 9 26 true, qg 127 (cl 43 #[.tmp 125, .tmp 126] #[75, 9]) 3 26 true, qg 128 (.move (.tmp 14)) 3 26 true, qg 129 (.binOp .eql 3 (.tmp 127) (.tmp 128) 3) 4 26 true, q 130 (.pick (.tmp 124) (.tmp 129) (.const (.bool false))) 4, q 131 (.move (.tmp 130)) 4, qg 132 (cl 42 #[] #[]) 4 33 true, q 133 (.pick (.tmp 131) (.tmp 132) (.const (.bool false))) 4, q 6 (.assign (.tmp 133)) 4] false) .ret)))))))))))
theorem s11 : Try.f11.body.map (slim cfg) = some g11 := by kernel_rfl

theorem few_ok (l : List S0) (v : AV) (hv : Sl enc0 v l) (hl : l.length ≤ 9223372036854775807) (prot : Nat) (H : Heap) (hp : prot ≤ H.length) : aLim cfg prot 46 [v] H = some (slv enc0 ((l.take 20).map cut0), none) := by
  have hsnap : snap H [v] = some ([v], false) := by cases hv <;> rfl
  have hvl := fun K : Heap => hv.len (P := Try.prog) (H := K) Try.underlying84
  refine pure_slim rfl (by kernel_rfl) Try.func46 s46 hp hsnap (by simp [Try.f46]) fun fr hlen h => ?_
  simp only [Has, Nat.zero_add] at h
  obtain ⟨a0, -⟩ := h
  simp only [Try.f46] at hlen ⊢
  unfold g46
  simp only [wk, aBuiltin, AV.cells, AV.leaf, Nat.reduceEqDiff, Nat.reduceLT, Nat.reduceAdd, Nat.reduceLeDiff, reduceCtorEq, Nat.reduceMul, cfgP, u46, hlen, a0, hvl]
  refine loop_rule (fun m fr H' => ∃ (i : Nat) (o : AV), m = l.length - i ∧ i ≤ l.length ∧ i ≤ 20 ∧ fr.length = 29 ∧ fget fr 6 = v ∧ fget fr 7 = .int .i64 (l.length : Nat) ∧ fget fr 8 = .int .i64 (i : Nat) ∧ fget fr 3 = o ∧ H.length ≤ H'.length ∧
    Row enc0 5 true H.length H' o ((l.take i).map cut0) ∧ (o = .nilS ∨ (l.take i).map cut0 ≠ [])) ?_ l.length _ _ ⟨0, .nilS, by omega, by omega, by omega, by simp [wk, aBuiltin, AV.cells, AV.leaf, Nat.reduceEqDiff, Nat.reduceLT, Nat.reduceAdd, Nat.reduceLeDiff, reduceCtorEq, Nat.reduceMul, cfgP, u46, hlen], by simp [wk, aBuiltin, AV.cells, AV.leaf, Nat.reduceEqDiff, Nat.reduceLT, Nat.reduceAdd, Nat.reduceLeDiff, reduceCtorEq, Nat.reduceMul, cfgP, u46, hlen], by simp [wk, aBuiltin, AV.cells, AV.leaf, Nat.reduceEqDiff, Nat.reduceLT, Nat.reduceAdd, Nat.reduceLeDiff, reduceCtorEq, Nat.reduceMul, cfgP, u46, hlen], by simp [wk, aBuiltin, AV.cells, AV.leaf, Nat.reduceEqDiff, Nat.reduceLT, Nat.reduceAdd, Nat.reduceLeDiff, reduceCtorEq, Nat.reduceMul, cfgP, u46, hlen], by simp [wk, aBuiltin, AV.cells, AV.leaf, Nat.reduceEqDiff, Nat.reduceLT, Nat.reduceAdd, Nat.reduceLeDiff, reduceCtorEq, Nat.reduceMul, cfgP, u46, hlen], Nat.le_refl _, Row.nil, .inl rfl⟩
  clear a0 hlen fr
  rintro m fr H' ⟨i, o, rfl, hi, hi20, hlen, b6, b7, b8, b3, hH, hrow, hne⟩ ih
  by_cases hil : i < l.length
  · have d1 : decide (((i : Nat) : Int) < (l.length : Nat)) = true := decide_eq_true (by omega)
    have hw : IntKind.i64.wrap ((i : Int) + 1) = ((i + 1 : Nat) : Int) := by rw [wrap64 (by omega) (by omega)]; simp
    have e1 := hv.at (P := Try.prog) (k := .i64) (i := i) Try.underlying84 sz145 enc0_T.len hil
    have htk : (l.take (i + 1)).map cut0 = (l.take i).map cut0 ++ [cut0 l[i]] := by
      have : l.take (i + 1) = l.take i ++ [l[i]] := by simp
      rw [this, List.map_append]; rfl
    have hti : ((l.take i).map cut0).length = i := by simp; omega
    generalize l[i] = x at *
    have hxl := x.leaf
    have hxc := x.cells
    unfold AV.leaf at hxl; unfold AV.cells at hxc
    simp only [enc0, AV.cells] at e1
    by_cases h20 : i < 20
    · have d2 : decide (((i : Nat) : Int) ≥ 20) = false := decide_eq_false (by omega)
      have hsl := fun K : Heap => x.hs.len (P := Try.prog) (H := K) Try.underlying44
      have hrow1 := hrow.more [Blk.cells 0 [.int .i64 x.kind, .bool x.no, x.sv, .int .i64 x.one, .int .i64 x.two]]
      have g5 : hget (H' ++ [Blk.cells 0 [.int .i64 x.kind, .bool x.no, x.sv, .int .i64 x.one, .int .i64 x.two]]) H'.length 0 = some [.int .i64 x.kind, .bool x.no, x.sv, .int .i64 x.one, .int .i64 x.two] := by rw [hget_new rfl, if_pos rfl]
      have hcs := Classical.choose_spec (cut0_ex x)
      have hcut : cut0 x = ⟨x.kind, x.no, Classical.choose (cut0_ex x), x.sp.take 4, hcs.1, x.one, x.two⟩ := rfl
      rw [hcut] at htk
      generalize Classical.choose (cut0_ex x) = cw at *
      have hyl := (slG_leaf hcs.1).1
      have hyc := (slG_leaf hcs.1).2.1
      have hy0 := hyl
      unfold AV.leaf at hyl; unfold AV.cells at hyc
      -- the copy behind what is cut
      have hlt5 : ∀ b ver cs, hget H' b ver = some cs → hget ((H' ++ [Blk.cells 0 [.int .i64 x.kind, .bool x.no, x.sv, .int .i64 x.one, .int .i64 x.two]]).set H'.length (.cells 0 [.int .i64 x.kind, .bool x.no, cw, .int .i64 x.one, .int .i64 x.two])) b ver = some cs := fun b ver cs h => by
        rw [hget_set_ne (by have := hget_lt h; omega)]; exact hget_mono h _
      have hset : (H' ++ [Blk.cells 0 [.int .i64 x.kind, .bool x.no, x.sv, .int .i64 x.one, .int .i64 x.two]]).set H'.length (.cells 0 [.int .i64 x.kind, .bool x.no, cw, .int .i64 x.one, .int .i64 x.two]) = H' ++ [Blk.cells 0 [.int .i64 x.kind, .bool x.no, cw, .int .i64 x.one, .int .i64 x.two]] := by
        rw [List.set_append_right _ _ (Nat.le_refl _), Nat.sub_self]; rfl
      have hput1 : hput H.length (H' ++ [Blk.cells 0 [.int .i64 x.kind, .bool x.no, x.sv, .int .i64 x.one, .int .i64 x.two]]) H'.length 0 2 [cw] = some (H' ++ [Blk.cells 0 [.int .i64 x.kind, .bool x.no, cw, .int .i64 x.one, .int .i64 x.two]]) := by
        rw [hput_eq g5 (by omega) (by simp) (by simp [hy0]), ← hset]; rfl
      have g5' : hget (H' ++ [Blk.cells 0 [.int .i64 x.kind, .bool x.no, cw, .int .i64 x.one, .int .i64 x.two]]) H'.length 0 = some [.int .i64 x.kind, .bool x.no, cw, .int .i64 x.one, .int .i64 x.two] := by rw [hget_new rfl, if_pos rfl]
      have hlit := lit0S ⟨x.kind, x.no, cw, x.sp.take 4, hcs.1, x.one, x.two⟩ (H' ++ [Blk.cells 0 [.int .i64 x.kind, .bool x.no, cw, .int .i64 x.one, .int .i64 x.two]])
      have hel := elem0S ⟨x.kind, x.no, cw, x.sp.take 4, hcs.1, x.one, x.two⟩ (H' ++ [Blk.cells 0 [.int .i64 x.kind, .bool x.no, cw, .int .i64 x.one, .int .i64 x.two]])
      obtain ⟨o', H2, happ, hrow3, hle, hno, hold⟩ := ((hrow.more [Blk.cells 0 [.int .i64 x.kind, .bool x.no, cw, .int .i64 x.one, .int .i64 x.two]]).more [Blk.cells 0 (enc0 ⟨x.kind, x.no, cw, x.sp.take 4, hcs.1, x.one, x.two⟩).cells]).app (prot := H.length) (xt := 84) enc0_T row0 hxt0 hel (by simp) (by simp [roomy]; omega) (Nat.le_refl _) (by simp; omega)
      simp only [enc0, AV.cells] at hlit happ hle
      have hlZ : ∀ Z, (H' ++ [Blk.cells 0 Z]).length = H'.length + 1 := fun Z => by simp
      rw [hlZ] at hlit happ
      by_cases h4 : 4 < x.sp.length
      · have d3 : decide ((4 : Int) < (x.sp.length : Nat)) = true := decide_eq_true (by omega)
        have hcut4 := hcs.2.1 h4
        simp only [wk, aBuiltin, AV.cells, AV.leaf, Nat.reduceEqDiff, Nat.reduceLT, Nat.reduceAdd, Nat.reduceLeDiff, reduceCtorEq, Nat.reduceMul, cfgP, u46, hlen, b6, b7, b8, b3, d1, e1, hxl, hH, d2, g5, hsl, d3, hcut4, hyl, hyc, hput1, g5', hlit, happ, hw, hlZ]
        refine ih _ _ (l.length - (i + 1)) (by omega) ⟨i + 1, o', rfl, by omega, by omega, by simp [wk, aBuiltin, AV.cells, AV.leaf, Nat.reduceEqDiff, Nat.reduceLT, Nat.reduceAdd, Nat.reduceLeDiff, reduceCtorEq, Nat.reduceMul, cfgP, u46, hlen], by simp [wk, aBuiltin, AV.cells, AV.leaf, Nat.reduceEqDiff, Nat.reduceLT, Nat.reduceAdd, Nat.reduceLeDiff, reduceCtorEq, Nat.reduceMul, cfgP, u46, hlen, b6], by simp [wk, aBuiltin, AV.cells, AV.leaf, Nat.reduceEqDiff, Nat.reduceLT, Nat.reduceAdd, Nat.reduceLeDiff, reduceCtorEq, Nat.reduceMul, cfgP, u46, hlen, b7], by simp [wk, aBuiltin, AV.cells, AV.leaf, Nat.reduceEqDiff, Nat.reduceLT, Nat.reduceAdd, Nat.reduceLeDiff, reduceCtorEq, Nat.reduceMul, cfgP, u46, hlen], by simp [wk, aBuiltin, AV.cells, AV.leaf, Nat.reduceEqDiff, Nat.reduceLT, Nat.reduceAdd, Nat.reduceLeDiff, reduceCtorEq, Nat.reduceMul, cfgP, u46, hlen], by simp at hle; omega, by rw [htk]; exact hrow3, .inr (by rw [htk]; simp)⟩
      · have d3 : decide ((4 : Int) < (x.sp.length : Nat)) = false := decide_eq_false (by omega)
        have hcut4 := hcs.2.2 h4
        rw [hcut4] at hlit happ hle g5'
        simp only [wk, aBuiltin, AV.cells, AV.leaf, Nat.reduceEqDiff, Nat.reduceLT, Nat.reduceAdd, Nat.reduceLeDiff, reduceCtorEq, Nat.reduceMul, cfgP, u46, hlen, b6, b7, b8, b3, d1, e1, hxl, hH, d2, g5, hsl, d3, g5', hlit, happ, hw, hlZ]
        refine ih _ _ (l.length - (i + 1)) (by omega) ⟨i + 1, o', rfl, by omega, by omega, by simp [wk, aBuiltin, AV.cells, AV.leaf, Nat.reduceEqDiff, Nat.reduceLT, Nat.reduceAdd, Nat.reduceLeDiff, reduceCtorEq, Nat.reduceMul, cfgP, u46, hlen], by simp [wk, aBuiltin, AV.cells, AV.leaf, Nat.reduceEqDiff, Nat.reduceLT, Nat.reduceAdd, Nat.reduceLeDiff, reduceCtorEq, Nat.reduceMul, cfgP, u46, hlen, b6], by simp [wk, aBuiltin, AV.cells, AV.leaf, Nat.reduceEqDiff, Nat.reduceLT, Nat.reduceAdd, Nat.reduceLeDiff, reduceCtorEq, Nat.reduceMul, cfgP, u46, hlen, b7], by simp [wk, aBuiltin, AV.cells, AV.leaf, Nat.reduceEqDiff, Nat.reduceLT, Nat.reduceAdd, Nat.reduceLeDiff, reduceCtorEq, Nat.reduceMul, cfgP, u46, hlen], by simp [wk, aBuiltin, AV.cells, AV.leaf, Nat.reduceEqDiff, Nat.reduceLT, Nat.reduceAdd, Nat.reduceLeDiff, reduceCtorEq, Nat.reduceMul, cfgP, u46, hlen], by simp at hle; omega, by rw [htk]; exact hrow3, .inr (by rw [htk]; simp)⟩
    · have d2 : decide (((i : Nat) : Int) ≥ 20) = true := decide_eq_true (by omega)
      have hi2 : i = 20 := by omega
      subst hi2
      simp only [wk, aBuiltin, AV.cells, AV.leaf, Nat.reduceEqDiff, Nat.reduceLT, Nat.reduceAdd, Nat.reduceLeDiff, reduceCtorEq, Nat.reduceMul, cfgP, u46, hlen, b6, b7, b8, b3, d1, e1, hxl, hH, d2]
      exact Fin_pure (l := [o]) (by simp [wk, aBuiltin, AV.cells, AV.leaf, Nat.reduceEqDiff, Nat.reduceLT, Nat.reduceAdd, Nat.reduceLeDiff, reduceCtorEq, Nat.reduceMul, cfgP, u46, hlen, aResults, aResult]) ((hrow.more _).frozen enc0_T (by decide) rfl hne) (by simp)
  · have d1 : decide (((i : Nat) : Int) < (l.length : Nat)) = false := decide_eq_false (by omega)
    have htl : l.take i = l.take 20 := by rw [List.take_of_length_le (by omega), List.take_of_length_le (by omega)]
    rw [htl] at hrow hne
    simp only [wk, aBuiltin, AV.cells, AV.leaf, Nat.reduceEqDiff, Nat.reduceLT, Nat.reduceAdd, Nat.reduceLeDiff, reduceCtorEq, Nat.reduceMul, cfgP, u46, hlen, b6, b7, b8, b3, d1]
    exact Fin_pure (l := [o]) (by simp [wk, aBuiltin, AV.cells, AV.leaf, Nat.reduceEqDiff, Nat.reduceLT, Nat.reduceAdd, Nat.reduceLeDiff, reduceCtorEq, Nat.reduceMul, cfgP, u46, hlen, aResults, aResult]) (hrow.frozen enc0_T (by decide) rfl hne) (by simp)
theorem nrow_app {K3 : Heap} {base prot : Nat} {vr : AV} {l0 : List St} {x : HS} {s : St} (hbase : base ≤ K3.length) (hn : NRow base K3 vr l0) (h1 : x.kind = s.kind ∧ x.no = s.no ∧ x.one = s.one ∧ x.two = s.two) (h2 : Row encG 2 true base K3 x.sv s.sp) (h3 : x.sv = .nilS ∨ s.sp ≠ [])
    (hf : ∀ b, x.sv = .bs b → ∀ b', vr = .bs b' → b'.b ≠ b.b) (hl : l0.length ≤ 100000) (hp : prot ≤ base) :
    ∃ K5 v', aAppend Try.prog prot (K3 ++ [Blk.cells 0 (encH x).cells]) #[53, 53] vr (.bs ⟨K3.length, 0, 0, 1, 1, 5, true, true⟩) = some (v', some K5) ∧ NRow base K5 v' (l0 ++ [s]) ∧ K3.length ≤ K5.length := by
  have hel := elemH x K3
  rcases hn with ⟨rfl, rfl⟩ | ⟨rb, ver, hls, rfl, n2, n3, n4, n5, n6⟩
  · have happ := encH_L.app0 (prot := prot) (m := [x]) rowSt hxtSt hel (by simp) (show roomy 1 56 = true from by decide)
    have hl4 : (K3 ++ [Blk.cells 0 (encH x).cells]).length = K3.length + 1 := by simp
    have g4 : hget (K3 ++ [Blk.cells 0 (encH x).cells] ++ [Blk.cells 0 (cellsOf encH [x])]) (K3.length + 1) 0 = some (cellsOf encH [x]) := by rw [hget_new hl4.symm, if_pos rfl]
    rw [hl4] at happ
    exact ⟨_, _, happ, .inr ⟨K3.length + 1, 0, [x], rfl, by omega, g4, .cons ⟨h1, rowG_keep h2 fun b hb ver cs h => hget_mono (hget_mono h _) _, h3, fun b hb => by have := rowG_lt h2 b hb; omega⟩ .nil, rfl, by simp⟩, by simp⟩
  · have hll := n4.length
    have g2' := hget_mono n3 [Blk.cells 0 (encH x).cells]
    have happ := encH_L.app (prot := prot) (m := [x]) rowSt hxtSt g2' n5 hel (by simp) (by simp [roomy]; omega) (by omega)
    rw [hll] at happ
    have g4 : hget ((K3 ++ [Blk.cells 0 (encH x).cells]).set rb (.cells (ver + 4) (cellsOf encH (hls ++ [x])))) rb (ver + 4) = some (cellsOf encH (hls ++ [x])) := by rw [hget_set_same (hget_lt g2'), if_pos rfl]
    have hk : ∀ z v cs, z ≠ rb → hget K3 z v = some cs → hget ((K3 ++ [Blk.cells 0 (encH x).cells]).set rb (.cells (ver + 4) (cellsOf encH (hls ++ [x])))) z v = some cs := fun z v cs hz2 h => by rw [hget_set_ne hz2]; exact hget_mono h _
    exact ⟨_, _, happ, .inr ⟨rb, ver + 4, hls ++ [x], by rw [List.length_append]; rfl, n2, g4, Two.snoc (n4.imp fun a b ⟨q1, q2, q3, q4⟩ => ⟨q1, rowG_keep q2 fun b hb ver cs h => hk _ _ _ (q4 b hb) h, q3, q4⟩) ⟨h1, rowG_keep h2 fun b hb ver cs h => hk _ _ _ (Ne.symm (hf b hb _ rfl)) h, h3, fun b hb => Ne.symm (hf b hb _ rfl)⟩, by omega, by simp⟩, by simp⟩

theorem ours_ok (l : List S0) (v : AV) (hv : Sl enc0 v l) (hl : l.length ≤ 20) (h4 : ∀ x ∈ l, x.sp.length ≤ 4) (prot : Nat) (H : Heap) (hp : prot ≤ H.length) : aLim cfg prot 48 [v] H = some (slv encSt (l.map S0.st), none) := by
  have hsnap : snap H [v] = some ([v], false) := by cases hv <;> rfl
  have hvl := fun K : Heap => hv.len (P := Try.prog) (H := K) Try.underlying84
  refine pure_slim rfl (by kernel_rfl) Try.func48 s48 hp hsnap (by simp [Try.f48]) fun fr hlen h => ?_
  simp only [Has, Nat.zero_add] at h
  obtain ⟨a0, -⟩ := h
  simp only [Try.f48] at hlen ⊢
  unfold g48
  simp only [wk, aBuiltin, AV.cells, AV.leaf, Nat.reduceEqDiff, Nat.reduceLT, Nat.reduceAdd, Nat.reduceLeDiff, reduceCtorEq, Nat.reduceMul, cfgP, u46, hlen, a0, hvl]
  refine loop_rule (fun m fr H' => ∃ (i : Nat) (o : AV), m = l.length - i ∧ i ≤ l.length ∧ fr.length = 51 ∧ fget fr 9 = v ∧ fget fr 10 = .int .i64 (l.length : Nat) ∧ fget fr 11 = .int .i64 (i : Nat) ∧ fget fr 3 = o ∧ H.length ≤ H'.length ∧
    NRow H.length H' o ((l.take i).map S0.st)) ?_ l.length _ _ ⟨0, .nilS, by omega, by omega, by simp [wk, aBuiltin, AV.cells, AV.leaf, Nat.reduceEqDiff, Nat.reduceLT, Nat.reduceAdd, Nat.reduceLeDiff, reduceCtorEq, Nat.reduceMul, cfgP, u46, hlen], by simp [wk, aBuiltin, AV.cells, AV.leaf, Nat.reduceEqDiff, Nat.reduceLT, Nat.reduceAdd, Nat.reduceLeDiff, reduceCtorEq, Nat.reduceMul, cfgP, u46, hlen], by simp [wk, aBuiltin, AV.cells, AV.leaf, Nat.reduceEqDiff, Nat.reduceLT, Nat.reduceAdd, Nat.reduceLeDiff, reduceCtorEq, Nat.reduceMul, cfgP, u46, hlen], by simp [wk, aBuiltin, AV.cells, AV.leaf, Nat.reduceEqDiff, Nat.reduceLT, Nat.reduceAdd, Nat.reduceLeDiff, reduceCtorEq, Nat.reduceMul, cfgP, u46, hlen], by simp [wk, aBuiltin, AV.cells, AV.leaf, Nat.reduceEqDiff, Nat.reduceLT, Nat.reduceAdd, Nat.reduceLeDiff, reduceCtorEq, Nat.reduceMul, cfgP, u46, hlen], Nat.le_refl _, .inl ⟨rfl, rfl⟩⟩
  clear a0 hlen fr
  rintro m fr H' ⟨i, o, rfl, hi, hlen, b9, b10, b11, b3, hH, hrow⟩ ih
  by_cases hil : i < l.length
  · have d1 : decide (((i : Nat) : Int) < (l.length : Nat)) = true := decide_eq_true (by omega)
    have hw : IntKind.i64.wrap ((i : Int) + 1) = ((i + 1 : Nat) : Int) := by rw [wrap64 (by omega) (by omega)]; simp
    have e1 := hv.at (P := Try.prog) (k := .i64) (i := i) Try.underlying84 sz145 enc0_T.len hil
    have hx4 := h4 l[i] (List.getElem_mem _)
    have htk : (l.take (i + 1)).map S0.st = (l.take i).map S0.st ++ [l[i].st] := by
      have : l.take (i + 1) = l.take i ++ [l[i]] := by simp
      rw [this, List.map_append]; rfl
    have hti : ((l.take i).map S0.st).length = i := by simp; omega
    generalize l[i] = x at *
    have hxl := x.leaf
    unfold AV.leaf at hxl
    simp only [enc0, AV.cells] at e1
    have hsl := fun K : Heap => x.hs.len (P := Try.prog) (H := K) Try.underlying44
    have hlZ : ∀ Z, (H' ++ [Blk.cells 0 Z]).length = H'.length + 1 := fun Z => by simp
    have g5 : ∀ Y Z, hget (H' ++ [Blk.cells 0 Y] ++ [Blk.cells 0 Z]) H'.length 0 = some Y := fun Y Z => hget_mono (by rw [hget_new rfl, if_pos rfl]) _
    have g5a : ∀ Y, hget (H' ++ [Blk.cells 0 Y]) H'.length 0 = some Y := fun Y => by rw [hget_new rfl, if_pos rfl]
    have g6 : ∀ Y Z, hget (H' ++ [Blk.cells 0 Y] ++ [Blk.cells 0 Z]) (H'.length + 1) 0 = some Z := fun Y Z => by rw [hget_new (hlZ _).symm, if_pos rfl]
    have hpn : ∀ (Y : List AV) (k : Int) (n : Bool) (a b : Int), hput H.length (H' ++ [Blk.cells 0 Y] ++ [Blk.cells 0 [.int .i64 0, .bool false, .nilS, .int .i64 0, .int .i64 0]]) (H'.length + 1) 0 0 [.int .i64 k, .bool n, .nilS, .int .i64 a, .int .i64 b] = some (H' ++ [Blk.cells 0 Y] ++ [Blk.cells 0 [.int .i64 k, .bool n, .nilS, .int .i64 a, .int .i64 b]]) := fun Y k n a b => by
      rw [hput_new (hlZ _).symm (by rw [hlZ]; omega) (by simp) (by simp [AV.leaf])]; rfl
    have hl2 : ∀ Y Z, (H' ++ [Blk.cells 0 Y] ++ [Blk.cells 0 Z]).length = H'.length + 2 := fun Y Z => by simp
    simp only [wk, aBuiltin, AV.cells, AV.leaf, Nat.reduceEqDiff, Nat.reduceLT, Nat.reduceAdd, Nat.reduceLeDiff, reduceCtorEq, Nat.reduceMul, cfgP, u46, hlen, b9, b10, b11, b3, d1, e1, hxl, hH, hlZ, g5, g5a, hpn, hsl]
    refine loop_rule (fun m fr H2 => ∃ (j : Nat) (ov : AV), m = x.sp.length - j ∧ j ≤ x.sp.length ∧ fr.length = 51 ∧ fget fr 9 = v ∧ fget fr 10 = .int .i64 (l.length : Nat) ∧ fget fr 11 = .int .i64 (i : Nat) ∧ fget fr 3 = o ∧ fget fr 6 = .ptr (H'.length + 1) 0 0 ∧ fget fr 25 = x.sv ∧ fget fr 26 = .int .i64 (x.sp.length : Nat) ∧ fget fr 27 = .int .i64 (j : Nat) ∧
      H'.length + 2 ≤ H2.length ∧ (∀ z ver cs, hget H' z ver = some cs → hget H2 z ver = some cs) ∧ hget H2 (H'.length + 1) 0 = some [.int .i64 x.kind, .bool x.no, ov, .int .i64 x.one, .int .i64 x.two] ∧ Row encG 2 true (H'.length + 2) H2 ov (x.sp.take j) ∧ (ov = .nilS ∨ x.sp.take j ≠ [])) ?_ x.sp.length _ _
      ⟨0, .nilS, by omega, by omega, by simp [wk, aBuiltin, AV.cells, AV.leaf, Nat.reduceEqDiff, Nat.reduceLT, Nat.reduceAdd, Nat.reduceLeDiff, reduceCtorEq, Nat.reduceMul, cfgP, u46, hlen], by simp [wk, aBuiltin, AV.cells, AV.leaf, Nat.reduceEqDiff, Nat.reduceLT, Nat.reduceAdd, Nat.reduceLeDiff, reduceCtorEq, Nat.reduceMul, cfgP, u46, hlen, b9], by simp [wk, aBuiltin, AV.cells, AV.leaf, Nat.reduceEqDiff, Nat.reduceLT, Nat.reduceAdd, Nat.reduceLeDiff, reduceCtorEq, Nat.reduceMul, cfgP, u46, hlen, b10], by simp [wk, aBuiltin, AV.cells, AV.leaf, Nat.reduceEqDiff, Nat.reduceLT, Nat.reduceAdd, Nat.reduceLeDiff, reduceCtorEq, Nat.reduceMul, cfgP, u46, hlen, b11], by simp [wk, aBuiltin, AV.cells, AV.leaf, Nat.reduceEqDiff, Nat.reduceLT, Nat.reduceAdd, Nat.reduceLeDiff, reduceCtorEq, Nat.reduceMul, cfgP, u46, hlen, b3], by simp [wk, aBuiltin, AV.cells, AV.leaf, Nat.reduceEqDiff, Nat.reduceLT, Nat.reduceAdd, Nat.reduceLeDiff, reduceCtorEq, Nat.reduceMul, cfgP, u46, hlen], by simp [wk, aBuiltin, AV.cells, AV.leaf, Nat.reduceEqDiff, Nat.reduceLT, Nat.reduceAdd, Nat.reduceLeDiff, reduceCtorEq, Nat.reduceMul, cfgP, u46, hlen], by simp [wk, aBuiltin, AV.cells, AV.leaf, Nat.reduceEqDiff, Nat.reduceLT, Nat.reduceAdd, Nat.reduceLeDiff, reduceCtorEq, Nat.reduceMul, cfgP, u46, hlen], by simp [wk, aBuiltin, AV.cells, AV.leaf, Nat.reduceEqDiff, Nat.reduceLT, Nat.reduceAdd, Nat.reduceLeDiff, reduceCtorEq, Nat.reduceMul, cfgP, u46, hlen], by simp, fun z ver cs h => hget_mono (hget_mono h _) _, g6 _ _, Row.nil, .inl rfl⟩
    clear b9 b10 b11 b3 hlen fr g5 g5a g6 hpn
    rintro m fr H2 ⟨j, ov, rfl, hj, hlen, b9, b10, b11, b3, b6, b25, b26, b27, hH2, hkeep, hg6, hrowG, hne⟩ ih2
    by_cases hjl : j < x.sp.length
    · have d2 : decide (((j : Nat) : Int) < (x.sp.length : Nat)) = true := decide_eq_true (by omega)
      have d3 : decide (((j : Nat) : Int) < 4) = true := decide_eq_true (by omega)
      have hw2 : IntKind.i64.wrap ((j : Int) + 1) = ((j + 1 : Nat) : Int) := by rw [wrap64 (by omega) (by omega)]; simp
      have e2 := x.hs.at (P := Try.prog) (k := .i64) (i := j) Try.underlying44 sz131 encG_len hjl
      have htk2 : x.sp.take (j + 1) = x.sp.take j ++ [x.sp[j]] := by simp
      have htj : (x.sp.take j).length = j := by simp; omega
      generalize x.sp[j] = y at *
      have hpl : H.length ≤ H2.length := by omega
      obtain ⟨o', H3, happ, hrow3, hle, hno, hold⟩ := (hrowG.more [Blk.cells 0 (encG y).cells]).app (prot := H.length) (xt := 38) encG_T rowG hxtGs (elem_vs encG_T [y] true) (by simp) (by simp [roomy]; omega) (by omega) (by simp; omega)
      have hob : ∀ b, ov = .bs b → H'.length + 2 ≤ b.b := fun b hb => (rowG_lt hrowG b hb).1
      have hg6b := hold _ _ _ (hget_mono hg6 _) fun b hb => by have := hob b hb; omega
      have hol : o'.leaf = true := by rcases hrow3 with ⟨q, _⟩ | ⟨b, ver, q, _⟩ <;> rw [q] <;> rfl
      have hoc : o'.cells = [o'] := by rcases hrow3 with ⟨q, _⟩ | ⟨b, ver, q, _⟩ <;> rw [q] <;> rfl
      have hput1 : hput H.length H3 (H'.length + 1) 0 2 [o'] = some (H3.set (H'.length + 1) (.cells 0 [.int .i64 x.kind, .bool x.no, o', .int .i64 x.one, .int .i64 x.two])) := by
        rw [hput_eq hg6b (by omega) (by simp) (by simp [hol])]; rfl
      simp only [encG, AV.cells] at happ hle e2
      unfold AV.leaf at hol; unfold AV.cells at hoc
      have hg6a := hget_mono hg6 [Blk.cells 0 [.int .i32 y.lo, .int .i32 y.hi]]
      simp only [wk, aBuiltin, AV.cells, AV.leaf, Nat.reduceEqDiff, Nat.reduceLT, Nat.reduceAdd, Nat.reduceLeDiff, reduceCtorEq, Nat.reduceMul, cfgP, u46, hlen, b9, b10, b11, b3, b6, b25, b26, b27, d2, e2, hpl, d3, hg6a, litGs, happ, hol, hoc, hput1, hw2]
      refine ih2 _ _ (x.sp.length - (j + 1)) (by omega) ⟨j + 1, o', rfl, by omega, by simp [wk, aBuiltin, AV.cells, AV.leaf, Nat.reduceEqDiff, Nat.reduceLT, Nat.reduceAdd, Nat.reduceLeDiff, reduceCtorEq, Nat.reduceMul, cfgP, u46, hlen], by simp [wk, aBuiltin, AV.cells, AV.leaf, Nat.reduceEqDiff, Nat.reduceLT, Nat.reduceAdd, Nat.reduceLeDiff, reduceCtorEq, Nat.reduceMul, cfgP, u46, hlen, b9], by simp [wk, aBuiltin, AV.cells, AV.leaf, Nat.reduceEqDiff, Nat.reduceLT, Nat.reduceAdd, Nat.reduceLeDiff, reduceCtorEq, Nat.reduceMul, cfgP, u46, hlen, b10], by simp [wk, aBuiltin, AV.cells, AV.leaf, Nat.reduceEqDiff, Nat.reduceLT, Nat.reduceAdd, Nat.reduceLeDiff, reduceCtorEq, Nat.reduceMul, cfgP, u46, hlen, b11], by simp [wk, aBuiltin, AV.cells, AV.leaf, Nat.reduceEqDiff, Nat.reduceLT, Nat.reduceAdd, Nat.reduceLeDiff, reduceCtorEq, Nat.reduceMul, cfgP, u46, hlen, b3], by simp [wk, aBuiltin, AV.cells, AV.leaf, Nat.reduceEqDiff, Nat.reduceLT, Nat.reduceAdd, Nat.reduceLeDiff, reduceCtorEq, Nat.reduceMul, cfgP, u46, hlen, b6], by simp [wk, aBuiltin, AV.cells, AV.leaf, Nat.reduceEqDiff, Nat.reduceLT, Nat.reduceAdd, Nat.reduceLeDiff, reduceCtorEq, Nat.reduceMul, cfgP, u46, hlen, b25], by simp [wk, aBuiltin, AV.cells, AV.leaf, Nat.reduceEqDiff, Nat.reduceLT, Nat.reduceAdd, Nat.reduceLeDiff, reduceCtorEq, Nat.reduceMul, cfgP, u46, hlen, b26], by simp [wk, aBuiltin, AV.cells, AV.leaf, Nat.reduceEqDiff, Nat.reduceLT, Nat.reduceAdd, Nat.reduceLeDiff, reduceCtorEq, Nat.reduceMul, cfgP, u46, hlen], by simp at hle ⊢; omega, fun z ver cs h => ?_, hget_set_at (hget_lt hg6b), ?_, .inr (by rw [htk2]; simp)⟩
      · have := hget_lt h
        rw [hget_set_ne (by omega)]
        exact hold _ _ _ (hget_mono (hkeep z ver cs h) _) fun b hb => by have := hob b hb; omega
      · rw [htk2]; exact hrow3.setne (by omega) _
    · have d2 : decide (((j : Nat) : Int) < (x.sp.length : Nat)) = false := decide_eq_false (by omega)
      rw [List.take_of_length_le (by omega)] at hrowG hne
      have hol : ov.leaf = true := by rcases hrowG with ⟨q, _⟩ | ⟨b, ver, q, _⟩ <;> rw [q] <;> rfl
      have hoc : ov.cells = [ov] := by rcases hrowG with ⟨q, _⟩ | ⟨b, ver, q, _⟩ <;> rw [q] <;> rfl
      have hlt : ∀ b, o = .bs b → b.b < H'.length := fun b hb => by
        rcases hrow with ⟨q, _⟩ | ⟨rb, ver, hls, q, q2, q3, _⟩
        · rw [q] at hb; cases hb
        · rw [q] at hb; cases hb; exact hget_lt q3
      have hrow2 := hrow.keep fun z ver cs _ h => hkeep z ver cs h
      obtain ⟨K5, v', happ, hrow5, hle5⟩ := nrow_app (prot := H.length) (x := ⟨x.kind, x.no, ov, hol, x.one, x.two⟩) (s := x.st) (by omega) hrow2 ⟨rfl, rfl, rfl, rfl⟩ (hrowG.low (by omega)) hne (fun b hb b' hb' => by have := hlt b' hb'; have := (rowG_lt hrowG b hb).1; omega) (by omega) (Nat.le_refl _)
      have hlit := litH ⟨x.kind, x.no, ov, hol, x.one, x.two⟩ H2
      simp only [encH, AV.cells] at hlit happ
      unfold AV.leaf at hol; unfold AV.cells at hoc
      simp only [wk, aBuiltin, AV.cells, AV.leaf, Nat.reduceEqDiff, Nat.reduceLT, Nat.reduceAdd, Nat.reduceLeDiff, reduceCtorEq, Nat.reduceMul, cfgP, u46, hlen, b9, b10, b11, b3, b6, b25, b26, b27, d2, hg6, hlit, happ, hw]
      exact ih _ _ (l.length - (i + 1)) (by omega) ⟨i + 1, v', rfl, by omega, by simp [wk, aBuiltin, AV.cells, AV.leaf, Nat.reduceEqDiff, Nat.reduceLT, Nat.reduceAdd, Nat.reduceLeDiff, reduceCtorEq, Nat.reduceMul, cfgP, u46, hlen], by simp [wk, aBuiltin, AV.cells, AV.leaf, Nat.reduceEqDiff, Nat.reduceLT, Nat.reduceAdd, Nat.reduceLeDiff, reduceCtorEq, Nat.reduceMul, cfgP, u46, hlen, b9], by simp [wk, aBuiltin, AV.cells, AV.leaf, Nat.reduceEqDiff, Nat.reduceLT, Nat.reduceAdd, Nat.reduceLeDiff, reduceCtorEq, Nat.reduceMul, cfgP, u46, hlen, b10], by simp [wk, aBuiltin, AV.cells, AV.leaf, Nat.reduceEqDiff, Nat.reduceLT, Nat.reduceAdd, Nat.reduceLeDiff, reduceCtorEq, Nat.reduceMul, cfgP, u46, hlen], by simp [wk, aBuiltin, AV.cells, AV.leaf, Nat.reduceEqDiff, Nat.reduceLT, Nat.reduceAdd, Nat.reduceLeDiff, reduceCtorEq, Nat.reduceMul, cfgP, u46, hlen], by omega, by rw [htk]; exact hrow5⟩
  · have d1 : decide (((i : Nat) : Int) < (l.length : Nat)) = false := decide_eq_false (by omega)
    rw [List.take_of_length_le (by omega)] at hrow
    simp only [wk, aBuiltin, AV.cells, AV.leaf, Nat.reduceEqDiff, Nat.reduceLT, Nat.reduceAdd, Nat.reduceLeDiff, reduceCtorEq, Nat.reduceMul, cfgP, u46, hlen, b9, b10, b11, b3, d1]
    exact Fin_pure (l := [o]) (by simp [wk, aBuiltin, AV.cells, AV.leaf, Nat.reduceEqDiff, Nat.reduceLT, Nat.reduceAdd, Nat.reduceLeDiff, reduceCtorEq, Nat.reduceMul, cfgP, u46, hlen, aResults, aResult]) (hrow.frozen (Nat.le_refl _)) (by simp)
/-- is it a machine? -/
def mayS (l : List St) (a : Int) : Bool := decide (l.length ≤ 401) && inN l.length a && l.all (rightB l.length)

theorem rmay_ok (l : List S0) (v : AV) (hv : Sl enc0 v l) (hl : l.length ≤ 20) (a : Int) (prot : Nat) (H : Heap) (hp : prot ≤ H.length) : aLim cfg prot 49 [v, .int .i64 a] H = some (.bool (mayS (l.map S0.st) a), none) := by
  have hsnap : snap H [v, .int .i64 a] = some ([v, .int .i64 a], false) := by cases hv <;> rfl
  have hvl := fun K : Heap => hv.len (P := Try.prog) (H := K) Try.underlying84
  have d1 : decide ((401 : Int) < (l.length : Nat)) = false := decide_eq_false (by omega)
  have hm0 : mayS (l.map S0.st) a = (inN l.length a && (l.map S0.st).all (rightB l.length)) := by unfold mayS; rw [List.length_map, decide_eq_true (by omega : l.length ≤ 401), Bool.true_and]
  rw [hm0]
  by_cases h0 : a < 0
  · have d2 : decide (a < 0) = true := decide_eq_true h0
    have hin : inN l.length a = false := by unfold inN; rw [decide_eq_false (by omega : ¬ 0 ≤ a), Bool.false_and]
    rw [hin, Bool.false_and]
    refine pure_slim rfl (by kernel_rfl) Try.func49 s49 hp hsnap (by simp [Try.f49]) fun fr hlen h => ?_
    simp only [Has, Nat.zero_add] at h
    obtain ⟨a0, a1, -⟩ := h
    simp only [Try.f49] at hlen ⊢
    unfold g49
    simp only [wk, aBuiltin, AV.cells, AV.leaf, Nat.reduceEqDiff, Nat.reduceLT, Nat.reduceAdd, Nat.reduceLeDiff, reduceCtorEq, Nat.reduceMul, cfgP, u46, hlen, a0, a1, hvl, d1, d2, none_beq]
    exact Fin_pure (l := [.bool false]) (by simp [wk, aBuiltin, AV.cells, AV.leaf, Nat.reduceEqDiff, Nat.reduceLT, Nat.reduceAdd, Nat.reduceLeDiff, reduceCtorEq, Nat.reduceMul, cfgP, u46, aResults, aResult, hlen]) (.still rfl) (by simp)
  · have d2 : decide (a < 0) = false := decide_eq_false h0
    by_cases h1 : a ≥ (l.length : Nat)
    · have d3 : decide (a ≥ (l.length : Nat)) = true := decide_eq_true h1
      have hin : inN l.length a = false := by unfold inN; rw [decide_eq_false (by omega : ¬ a < (l.length : Nat)), Bool.and_false]
      rw [hin, Bool.false_and]
      refine pure_slim rfl (by kernel_rfl) Try.func49 s49 hp hsnap (by simp [Try.f49]) fun fr hlen h => ?_
      simp only [Has, Nat.zero_add] at h
      obtain ⟨a0, a1, -⟩ := h
      simp only [Try.f49] at hlen ⊢
      unfold g49
      simp only [wk, aBuiltin, AV.cells, AV.leaf, Nat.reduceEqDiff, Nat.reduceLT, Nat.reduceAdd, Nat.reduceLeDiff, reduceCtorEq, Nat.reduceMul, cfgP, u46, hlen, a0, a1, hvl, d1, d2, d3, none_beq]
      exact Fin_pure (l := [.bool false]) (by simp [wk, aBuiltin, AV.cells, AV.leaf, Nat.reduceEqDiff, Nat.reduceLT, Nat.reduceAdd, Nat.reduceLeDiff, reduceCtorEq, Nat.reduceMul, cfgP, u46, aResults, aResult, hlen]) (.still rfl) (by simp)
    · have d3 : decide (a ≥ (l.length : Nat)) = false := decide_eq_false h1
      have hin : inN l.length a = true := by unfold inN; rw [decide_eq_true (by omega : 0 ≤ a), decide_eq_true (by omega : a < (l.length : Nat))]; rfl
      rw [hin, Bool.true_and]
      refine pure_slim rfl (by kernel_rfl) Try.func49 s49 hp hsnap (by simp [Try.f49]) fun fr hlen h => ?_
      simp only [Has, Nat.zero_add] at h
      obtain ⟨a0, a1, -⟩ := h
      simp only [Try.f49] at hlen ⊢
      unfold g49
      simp only [wk, aBuiltin, AV.cells, AV.leaf, Nat.reduceEqDiff, Nat.reduceLT, Nat.reduceAdd, Nat.reduceLeDiff, reduceCtorEq, Nat.reduceMul, cfgP, u46, hlen, a0, a1, hvl, d1, d2, d3, none_beq]
      refine loop_rule (fun m fr H' => ∃ (i : Nat), m = l.length - i ∧ i ≤ l.length ∧ fr.length = 69 ∧ fget fr 0 = v ∧ fget fr 20 = v ∧ fget fr 21 = .int .i64 (l.length : Nat) ∧ fget fr 22 = .int .i64 (i : Nat) ∧ H.length ≤ H'.length ∧ ∀ s ∈ (l.take i).map S0.st, rightB l.length s = true) ?_ l.length _ _
        ⟨0, by omega, by omega, by simp [wk, aBuiltin, AV.cells, AV.leaf, Nat.reduceEqDiff, Nat.reduceLT, Nat.reduceAdd, Nat.reduceLeDiff, reduceCtorEq, Nat.reduceMul, cfgP, u46, hlen], by simp [wk, aBuiltin, AV.cells, AV.leaf, Nat.reduceEqDiff, Nat.reduceLT, Nat.reduceAdd, Nat.reduceLeDiff, reduceCtorEq, Nat.reduceMul, cfgP, u46, hlen, a0], by simp [wk, aBuiltin, AV.cells, AV.leaf, Nat.reduceEqDiff, Nat.reduceLT, Nat.reduceAdd, Nat.reduceLeDiff, reduceCtorEq, Nat.reduceMul, cfgP, u46, hlen], by simp [wk, aBuiltin, AV.cells, AV.leaf, Nat.reduceEqDiff, Nat.reduceLT, Nat.reduceAdd, Nat.reduceLeDiff, reduceCtorEq, Nat.reduceMul, cfgP, u46, hlen], by simp [wk, aBuiltin, AV.cells, AV.leaf, Nat.reduceEqDiff, Nat.reduceLT, Nat.reduceAdd, Nat.reduceLeDiff, reduceCtorEq, Nat.reduceMul, cfgP, u46, hlen], Nat.le_refl _, by simp⟩
      clear a0 a1 hlen fr
      rintro m fr H' ⟨i, rfl, hi, hlen, b0, b20, b21, b22, hH, hrt⟩ ih
      by_cases hil : i < l.length
      · have c1 : decide (((i : Nat) : Int) < (l.length : Nat)) = true := decide_eq_true (by omega)
        have hw : IntKind.i64.wrap ((i : Int) + 1) = ((i + 1 : Nat) : Int) := by rw [wrap64 (by omega) (by omega)]; simp
        have e1 := hv.at (P := Try.prog) (k := .i64) (i := i) Try.underlying84 sz145 enc0_T.len hil
        have htk : (l.take (i + 1)).map S0.st = (l.take i).map S0.st ++ [l[i].st] := by
          have : l.take (i + 1) = l.take i ++ [l[i]] := by simp
          rw [this, List.map_append]; rfl
        have hmem : l[i].st ∈ l.map S0.st := List.mem_map.2 ⟨_, List.getElem_mem hil, rfl⟩
        generalize l[i] = x at *
        have hxl := x.leaf
        unfold AV.leaf at hxl
        simp only [enc0, AV.cells] at e1
        have bad : rightB l.length x.st = false → (l.map S0.st).all (rightB l.length) = false := fun h => List.all_eq_false.2 ⟨_, hmem, by simp [h]⟩
        have good : rightB l.length x.st = true → ∀ s ∈ (l.take (i + 1)).map S0.st, rightB l.length s = true := fun h s hs => by
          rw [htk] at hs
          rcases List.mem_append.1 hs with q | q
          · exact hrt s q
          · rw [List.mem_singleton.1 q]; exact h
        have hr : rightB l.length x.st = if x.kind = 2 then inN l.length x.two && inN l.length x.one else if x.kind = 1 then inN l.length x.one else decide (x.kind = 3) := rfl
        by_cases k1 : x.kind < 1
        · have q1 : decide (x.kind < 1) = true := decide_eq_true k1
          rw [bad (by rw [hr, if_neg (by omega), if_neg (by omega), decide_eq_false (by omega)])]
          simp only [wk, aBuiltin, AV.cells, AV.leaf, Nat.reduceEqDiff, Nat.reduceLT, Nat.reduceAdd, Nat.reduceLeDiff, reduceCtorEq, Nat.reduceMul, cfgP, u46, hlen, b0, b20, b21, b22, c1, e1, hxl, hH, q1, none_beq]
          exact Fin_pure (l := [.bool false]) (by simp [wk, aBuiltin, AV.cells, AV.leaf, Nat.reduceEqDiff, Nat.reduceLT, Nat.reduceAdd, Nat.reduceLeDiff, reduceCtorEq, Nat.reduceMul, cfgP, u46, aResults, aResult, hlen]) (.still rfl) (by simp)
        have q1 : decide (x.kind < 1) = false := decide_eq_false k1
        by_cases k3 : 3 < x.kind
        · have q2 : decide (3 < x.kind) = true := decide_eq_true k3
          rw [bad (by rw [hr, if_neg (by omega), if_neg (by omega), decide_eq_false (by omega)])]
          simp only [wk, aBuiltin, AV.cells, AV.leaf, Nat.reduceEqDiff, Nat.reduceLT, Nat.reduceAdd, Nat.reduceLeDiff, reduceCtorEq, Nat.reduceMul, cfgP, u46, hlen, b0, b20, b21, b22, c1, e1, hxl, hH, q1, q2, none_beq]
          exact Fin_pure (l := [.bool false]) (by simp [wk, aBuiltin, AV.cells, AV.leaf, Nat.reduceEqDiff, Nat.reduceLT, Nat.reduceAdd, Nat.reduceLeDiff, reduceCtorEq, Nat.reduceMul, cfgP, u46, aResults, aResult, hlen]) (.still rfl) (by simp)
        have q2 : decide (3 < x.kind) = false := decide_eq_false k3
        by_cases kk : x.kind < 3
        · have q3 : decide (x.kind < 3) = true := decide_eq_true kk
          by_cases o1 : x.one < 0
          · have q4 : decide (x.one < 0) = true := decide_eq_true o1
            have hn : inN l.length x.one = false := by unfold inN; rw [decide_eq_false (by omega : ¬ 0 ≤ x.one), Bool.false_and]
            rw [bad (by rw [hr]; split <;> (try split) <;> simp [hn] <;> omega)]
            simp only [wk, aBuiltin, AV.cells, AV.leaf, Nat.reduceEqDiff, Nat.reduceLT, Nat.reduceAdd, Nat.reduceLeDiff, reduceCtorEq, Nat.reduceMul, cfgP, u46, hlen, b0, b20, b21, b22, c1, e1, hxl, hH, q1, q2, q3, q4, none_beq]
            exact Fin_pure (l := [.bool false]) (by simp [wk, aBuiltin, AV.cells, AV.leaf, Nat.reduceEqDiff, Nat.reduceLT, Nat.reduceAdd, Nat.reduceLeDiff, reduceCtorEq, Nat.reduceMul, cfgP, u46, aResults, aResult, hlen]) (.still rfl) (by simp)
          have q4 : decide (x.one < 0) = false := decide_eq_false o1
          by_cases o2 : x.one ≥ (l.length : Nat)
          · have q5 : decide (x.one ≥ (l.length : Nat)) = true := decide_eq_true o2
            have hn : inN l.length x.one = false := by unfold inN; rw [decide_eq_false (by omega : ¬ x.one < (l.length : Nat)), Bool.and_false]
            rw [bad (by rw [hr]; split <;> (try split) <;> simp [hn] <;> omega)]
            simp only [wk, aBuiltin, AV.cells, AV.leaf, Nat.reduceEqDiff, Nat.reduceLT, Nat.reduceAdd, Nat.reduceLeDiff, reduceCtorEq, Nat.reduceMul, cfgP, u46, hlen, b0, b20, b21, b22, c1, e1, hxl, hH, q1, q2, q3, q4, hvl, q5, none_beq]
            exact Fin_pure (l := [.bool false]) (by simp [wk, aBuiltin, AV.cells, AV.leaf, Nat.reduceEqDiff, Nat.reduceLT, Nat.reduceAdd, Nat.reduceLeDiff, reduceCtorEq, Nat.reduceMul, cfgP, u46, aResults, aResult, hlen]) (.still rfl) (by simp)
          have q5 : decide (x.one ≥ (l.length : Nat)) = false := decide_eq_false o2
          have hno : inN l.length x.one = true := by unfold inN; rw [decide_eq_true (by omega : 0 ≤ x.one), decide_eq_true (by omega : x.one < (l.length : Nat))]; rfl
          by_cases k2 : x.kind = 2
          · have q6 : decide (x.kind = 2) = true := decide_eq_true k2
            by_cases t1 : x.two < 0
            · have q7 : decide (x.two < 0) = true := decide_eq_true t1
              have hn : inN l.length x.two = false := by unfold inN; rw [decide_eq_false (by omega : ¬ 0 ≤ x.two), Bool.false_and]
              rw [bad (by rw [hr, if_pos k2, hn, Bool.false_and])]
              simp only [wk, aBuiltin, AV.cells, AV.leaf, Nat.reduceEqDiff, Nat.reduceLT, Nat.reduceAdd, Nat.reduceLeDiff, reduceCtorEq, Nat.reduceMul, cfgP, u46, hlen, b0, b20, b21, b22, c1, e1, hxl, hH, q1, q2, q3, q4, hvl, q5, q6, q7, none_beq]
              exact Fin_pure (l := [.bool false]) (by simp [wk, aBuiltin, AV.cells, AV.leaf, Nat.reduceEqDiff, Nat.reduceLT, Nat.reduceAdd, Nat.reduceLeDiff, reduceCtorEq, Nat.reduceMul, cfgP, u46, aResults, aResult, hlen]) (.still rfl) (by simp)
            have q7 : decide (x.two < 0) = false := decide_eq_false t1
            by_cases t2 : x.two ≥ (l.length : Nat)
            · have q8 : decide (x.two ≥ (l.length : Nat)) = true := decide_eq_true t2
              have hn : inN l.length x.two = false := by unfold inN; rw [decide_eq_false (by omega : ¬ x.two < (l.length : Nat)), Bool.and_false]
              rw [bad (by rw [hr, if_pos k2, hn, Bool.false_and])]
              simp only [wk, aBuiltin, AV.cells, AV.leaf, Nat.reduceEqDiff, Nat.reduceLT, Nat.reduceAdd, Nat.reduceLeDiff, reduceCtorEq, Nat.reduceMul, cfgP, u46, hlen, b0, b20, b21, b22, c1, e1, hxl, hH, q1, q2, q3, q4, hvl, q5, q6, q7, q8, none_beq]
              exact Fin_pure (l := [.bool false]) (by simp [wk, aBuiltin, AV.cells, AV.leaf, Nat.reduceEqDiff, Nat.reduceLT, Nat.reduceAdd, Nat.reduceLeDiff, reduceCtorEq, Nat.reduceMul, cfgP, u46, aResults, aResult, hlen]) (.still rfl) (by simp)
            have q8 : decide (x.two ≥ (l.length : Nat)) = false := decide_eq_false t2
            have hn : inN l.length x.two = true := by unfold inN; rw [decide_eq_true (by omega : 0 ≤ x.two), decide_eq_true (by omega : x.two < (l.length : Nat))]; rfl
            simp only [wk, aBuiltin, AV.cells, AV.leaf, Nat.reduceEqDiff, Nat.reduceLT, Nat.reduceAdd, Nat.reduceLeDiff, reduceCtorEq, Nat.reduceMul, cfgP, u46, hlen, b0, b20, b21, b22, c1, e1, hxl, hH, q1, q2, q3, q4, hvl, q5, q6, q7, q8, hw, none_beq]
            exact ih _ _ (l.length - (i + 1)) (by omega) ⟨i + 1, rfl, by omega, by simp [wk, aBuiltin, AV.cells, AV.leaf, Nat.reduceEqDiff, Nat.reduceLT, Nat.reduceAdd, Nat.reduceLeDiff, reduceCtorEq, Nat.reduceMul, cfgP, u46, hlen], by simp [wk, aBuiltin, AV.cells, AV.leaf, Nat.reduceEqDiff, Nat.reduceLT, Nat.reduceAdd, Nat.reduceLeDiff, reduceCtorEq, Nat.reduceMul, cfgP, u46, hlen, b0], by simp [wk, aBuiltin, AV.cells, AV.leaf, Nat.reduceEqDiff, Nat.reduceLT, Nat.reduceAdd, Nat.reduceLeDiff, reduceCtorEq, Nat.reduceMul, cfgP, u46, hlen, b20], by simp [wk, aBuiltin, AV.cells, AV.leaf, Nat.reduceEqDiff, Nat.reduceLT, Nat.reduceAdd, Nat.reduceLeDiff, reduceCtorEq, Nat.reduceMul, cfgP, u46, hlen, b21], by simp [wk, aBuiltin, AV.cells, AV.leaf, Nat.reduceEqDiff, Nat.reduceLT, Nat.reduceAdd, Nat.reduceLeDiff, reduceCtorEq, Nat.reduceMul, cfgP, u46, hlen], by simp; omega, good (by rw [hr, if_pos k2, hn, hno]; rfl)⟩
          · have q6 : decide (x.kind = 2) = false := decide_eq_false k2
            simp only [wk, aBuiltin, AV.cells, AV.leaf, Nat.reduceEqDiff, Nat.reduceLT, Nat.reduceAdd, Nat.reduceLeDiff, reduceCtorEq, Nat.reduceMul, cfgP, u46, hlen, b0, b20, b21, b22, c1, e1, hxl, hH, q1, q2, q3, q4, hvl, q5, q6, hw, none_beq]
            exact ih _ _ (l.length - (i + 1)) (by omega) ⟨i + 1, rfl, by omega, by simp [wk, aBuiltin, AV.cells, AV.leaf, Nat.reduceEqDiff, Nat.reduceLT, Nat.reduceAdd, Nat.reduceLeDiff, reduceCtorEq, Nat.reduceMul, cfgP, u46, hlen], by simp [wk, aBuiltin, AV.cells, AV.leaf, Nat.reduceEqDiff, Nat.reduceLT, Nat.reduceAdd, Nat.reduceLeDiff, reduceCtorEq, Nat.reduceMul, cfgP, u46, hlen, b0], by simp [wk, aBuiltin, AV.cells, AV.leaf, Nat.reduceEqDiff, Nat.reduceLT, Nat.reduceAdd, Nat.reduceLeDiff, reduceCtorEq, Nat.reduceMul, cfgP, u46, hlen, b20], by simp [wk, aBuiltin, AV.cells, AV.leaf, Nat.reduceEqDiff, Nat.reduceLT, Nat.reduceAdd, Nat.reduceLeDiff, reduceCtorEq, Nat.reduceMul, cfgP, u46, hlen, b21], by simp [wk, aBuiltin, AV.cells, AV.leaf, Nat.reduceEqDiff, Nat.reduceLT, Nat.reduceAdd, Nat.reduceLeDiff, reduceCtorEq, Nat.reduceMul, cfgP, u46, hlen], by simp; omega, good (by rw [hr, if_neg k2, if_pos (by omega), hno])⟩
        · have q3 : decide (x.kind < 3) = false := decide_eq_false kk
          have q6 : decide (x.kind = 2) = false := decide_eq_false (by omega)
          simp only [wk, aBuiltin, AV.cells, AV.leaf, Nat.reduceEqDiff, Nat.reduceLT, Nat.reduceAdd, Nat.reduceLeDiff, reduceCtorEq, Nat.reduceMul, cfgP, u46, hlen, b0, b20, b21, b22, c1, e1, hxl, hH, q1, q2, q3, q6, hw, none_beq]
          exact ih _ _ (l.length - (i + 1)) (by omega) ⟨i + 1, rfl, by omega, by simp [wk, aBuiltin, AV.cells, AV.leaf, Nat.reduceEqDiff, Nat.reduceLT, Nat.reduceAdd, Nat.reduceLeDiff, reduceCtorEq, Nat.reduceMul, cfgP, u46, hlen], by simp [wk, aBuiltin, AV.cells, AV.leaf, Nat.reduceEqDiff, Nat.reduceLT, Nat.reduceAdd, Nat.reduceLeDiff, reduceCtorEq, Nat.reduceMul, cfgP, u46, hlen, b0], by simp [wk, aBuiltin, AV.cells, AV.leaf, Nat.reduceEqDiff, Nat.reduceLT, Nat.reduceAdd, Nat.reduceLeDiff, reduceCtorEq, Nat.reduceMul, cfgP, u46, hlen, b20], by simp [wk, aBuiltin, AV.cells, AV.leaf, Nat.reduceEqDiff, Nat.reduceLT, Nat.reduceAdd, Nat.reduceLeDiff, reduceCtorEq, Nat.reduceMul, cfgP, u46, hlen, b21], by simp [wk, aBuiltin, AV.cells, AV.leaf, Nat.reduceEqDiff, Nat.reduceLT, Nat.reduceAdd, Nat.reduceLeDiff, reduceCtorEq, Nat.reduceMul, cfgP, u46, hlen], by simp; omega, good (by rw [hr, if_neg (by omega), if_neg (by omega), decide_eq_true (by omega : x.kind = 3)])⟩
      · have c1 : decide (((i : Nat) : Int) < (l.length : Nat)) = false := decide_eq_false (by omega)
        rw [List.take_of_length_le (by omega)] at hrt
        rw [List.all_eq_true.2 hrt]
        simp only [wk, aBuiltin, AV.cells, AV.leaf, Nat.reduceEqDiff, Nat.reduceLT, Nat.reduceAdd, Nat.reduceLeDiff, reduceCtorEq, Nat.reduceMul, cfgP, u46, hlen, b0, b20, b21, b22, c1]
        exact Fin_pure (l := [.bool true]) (by simp [wk, aBuiltin, AV.cells, AV.leaf, Nat.reduceEqDiff, Nat.reduceLT, Nat.reduceAdd, Nat.reduceLeDiff, reduceCtorEq, Nat.reduceMul, cfgP, u46, aResults, aResult, hlen]) (.still rfl) (by simp)
end Go.Proofs.Ytoblikhnbddfmaa
