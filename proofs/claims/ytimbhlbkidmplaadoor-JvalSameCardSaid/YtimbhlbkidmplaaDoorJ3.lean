import Derived.Test.YtimbhlbkidmplaaDoorJ1
/-! Chapter 6: values cut, and as the program's, walked. -/
set_option linter.unusedSimpArgs false
namespace Go.Abs
open Go
theorem lit1b {α : Type} {enc : α → AV} {P : Program} {H : Heap} {t e : TypeId} {sz by_ : Nat} {ag : Bool} (ht : RowT P t e sz by_ ag) (he : EncT enc sz ag) {z : AV} (hz : zeroT P e = some z) (hs : litOk z ag sz = false) (hsz : sz ≤ 16777216) (x : α) :
    aBuildSlice P H t 1 [(0, enc x)] = some (.bs ⟨H.length, 0, 0, 1, 1, sz, ag, true⟩, some (H ++ [Blk.cells 0 (enc x).cells])) := by
  obtain ⟨z', hz', hzl⟩ := ht.zero
  rw [hz] at hz'; cases hz'
  have h1 : (zrep 1 z.cells).length = sz := by simp [zrep, hzl]
  have h2 : fillA (fun i => some (i * sz, sz)) (zrep 1 z.cells) [(0, enc x)] = some (enc x).cells := by
    simp only [fillA, Option.bind_some, he.len, Nat.zero_mul, Nat.zero_add, h1, Nat.le_refl, and_self, if_true, splice, List.take_zero, List.nil_append]
    rw [List.drop_eq_nil_of_le (by omega), List.append_nil]
  have h3 : (enc x).cells.all AV.leaf = true := List.all_eq_true.2 (he.leaf x)
  unfold aBuildSlice
  simp only [ht.elem, ht.size, ht.agg, hz, Option.bind_some, Nat.one_mul, hsz, hzl, ht.pos, and_self, if_true, h2, h3, hs, Bool.false_eq_true, if_false]
theorem elem_b1 {α : Type} {enc : α → AV} {sz : Nat} {ag : Bool} {H : Heap} (he : EncT enc sz ag) (x : α) {b : Nat} (hg : hget H b 0 = some (enc x).cells) : elemCells H sz (.bs ⟨b, 0, 0, 1, 1, sz, ag, true⟩) = some (([x] : List α).length, cellsOf enc [x]) := by
  have hw : win (enc x).cells 0 (1 * sz) = some (enc x).cells := by
    have := he.len x
    simp only [win, Nat.zero_add, List.drop_zero, Nat.one_mul]
    rw [if_pos (by omega), List.take_of_length_le (by omega)]
  simp only [elemCells, if_true, hg, Option.bind_some, hw, Option.map_some]
  simp [cellsOf]
end Go.Abs
namespace Go.Proofs.YtimbhlbkidmplaaDoor
open Go Go.Abs AbsSeat Ty

theorem rowR6 : RowT Tryd.prog 39 41 6 88 true where
  un := Tryd.underlying39
  size := sz41
  bytes := by41
  agg := ag41
  zero := ⟨_, ze41, rfl⟩
  pos := by decide
  tree := rfl
theorem hxtR6 : (∃ e', Tryd.prog.underlying 39 = some (.slice e')) ∨ Tryd.prog.underlying 39 = some .string := .inl ⟨_, Tryd.underlying39⟩

/-- a value that is not too great. -/
def cutJ : Nat → JV → JV
  | 0, x => .mk x.kind x.is x.n (x.text.take 40) 0 [] (if x.keys.length ≤ 6 then x.ktag else 0) (x.keys.take 6)
  | d + 1, x => .mk x.kind x.is x.n (x.text.take 40) 0 ((x.items.take 5).map (cutJ d)) (if x.keys.length ≤ 6 then x.ktag else 0) (x.keys.take 6)
def cutItems : Nat → List JV → List JV
  | 0, _ => []
  | d + 1, l => (l.take 5).map (cutJ d)
theorem cutJ_eq (d : Nat) (x : JV) : cutJ d x = .mk x.kind x.is x.n (x.text.take 40) 0 (cutItems d x.items) (if x.keys.length ≤ 6 then x.ktag else 0) (x.keys.take 6) := by cases d <;> rfl

theorem kv_cut (x : JV) (h : 6 < x.keys.length) : aSlice Tryd.prog 23 x.kv none (some (.int .i64 6)) none = some (tg 0 ((x.keys.take 6).map .str)) := by
  have key : ∀ f, aSlice Tryd.prog 23 (.vs (x.keys.map .str) f) none (some (.int .i64 6)) none = some (.vs ((x.keys.take 6).map .str) false) := fun f => by
    have h1 : ((x.keys.map AV.str).all fun v => v.cells.length == 1) = true := by simp [AV.cells]
    have h2 : (6 == x.keys.length) = false := by simp; omega
    simp only [aSlice, Tryd.underlying23, sz9, Option.bind_some, h1, if_true, List.length_map]
    simp [aBounds, optInt, show 6 ≤ x.keys.length by omega, fullOf, h2, List.map_take]
  have h3 : tg 0 ((x.keys.take 6).map AV.str) = .vs ((x.keys.take 6).map .str) false := by
    cases hk : x.keys with
    | nil => rw [hk] at h; simp at h
    | cons a r => rfl
  rw [h3]
  unfold JV.kv
  cases hk : x.keys with
  | nil => rw [hk] at h; simp at h
  | cons a r =>
    rw [hk] at key
    match x.ktag with
    | 0 => exact key false
    | 1 => exact key true
    | t + 2 => exact key false

theorem u16 : type_of% (And.intro (show tagT Tryd.prog 41 = 0 from by kernel_rfl) (And.intro (show tagT Tryd.prog 25 = 0 from by kernel_rfl) (And.intro ag1 (And.intro sz1 (And.intro by1 (And.intro ze1 (And.intro Tryd.underlying1 (And.intro ag2 (And.intro sz2 (And.intro by2 (And.intro ze2 (And.intro Tryd.underlying2 (And.intro ag3 (And.intro sz3 (And.intro by3 (And.intro ze3 (And.intro Tryd.underlying3 (And.intro ag4 (And.intro sz4 (And.intro by4 (And.intro ze4 (And.intro Tryd.underlying4 (And.intro ag9 (And.intro sz9 (And.intro by9 (And.intro ze9 (And.intro Tryd.underlying9 (And.intro ag22 (And.intro sz22 (And.intro by22 (And.intro se22 (And.intro ze22 (And.intro Tryd.underlying22 (And.intro ag23 (And.intro sz23 (And.intro by23 (And.intro se23 (And.intro ze23 (And.intro Tryd.underlying23 (And.intro ag25 (And.intro sz25 (And.intro by25 (And.intro ze25 (And.intro bu25 (And.intro Tryd.underlying25 (And.intro ag39 (And.intro sz39 (And.intro by39 (And.intro se39 (And.intro ze39 (And.intro Tryd.underlying39 (And.intro ag41 (And.intro sz41 (And.intro by41 (And.intro ze41 (And.intro bu41 (And.intro Tryd.underlying41 (And.intro fa25_4 (And.intro fd25_4 (And.intro fa41_0 (And.intro fd41_0 (And.intro fa41_1 (And.intro fd41_1 (And.intro fa41_2 (And.intro fd41_2 (And.intro fa41_3 (And.intro fd41_3 (And.intro fa41_4 (And.intro fd41_4 (And.intro fa41_5 fd41_5)))))))))))))))))))))))))))))))))))))))))))))))))))))))))))))))))))))) := And.intro (show tagT Tryd.prog 41 = 0 from by kernel_rfl) (And.intro (show tagT Tryd.prog 25 = 0 from by kernel_rfl) (And.intro ag1 (And.intro sz1 (And.intro by1 (And.intro ze1 (And.intro Tryd.underlying1 (And.intro ag2 (And.intro sz2 (And.intro by2 (And.intro ze2 (And.intro Tryd.underlying2 (And.intro ag3 (And.intro sz3 (And.intro by3 (And.intro ze3 (And.intro Tryd.underlying3 (And.intro ag4 (And.intro sz4 (And.intro by4 (And.intro ze4 (And.intro Tryd.underlying4 (And.intro ag9 (And.intro sz9 (And.intro by9 (And.intro ze9 (And.intro Tryd.underlying9 (And.intro ag22 (And.intro sz22 (And.intro by22 (And.intro se22 (And.intro ze22 (And.intro Tryd.underlying22 (And.intro ag23 (And.intro sz23 (And.intro by23 (And.intro se23 (And.intro ze23 (And.intro Tryd.underlying23 (And.intro ag25 (And.intro sz25 (And.intro by25 (And.intro ze25 (And.intro bu25 (And.intro Tryd.underlying25 (And.intro ag39 (And.intro sz39 (And.intro by39 (And.intro se39 (And.intro ze39 (And.intro Tryd.underlying39 (And.intro ag41 (And.intro sz41 (And.intro by41 (And.intro ze41 (And.intro bu41 (And.intro Tryd.underlying41 (And.intro fa25_4 (And.intro fd25_4 (And.intro fa41_0 (And.intro fd41_0 (And.intro fa41_1 (And.intro fd41_1 (And.intro fa41_2 (And.intro fd41_2 (And.intro fa41_3 (And.intro fd41_3 (And.intro fa41_4 (And.intro fd41_4 (And.intro fa41_5 fd41_5)))))))))))))))))))))))))))))))))))))))))))))))))))))))))))))))))))))
def g16 : Code :=
  .seq (.region 0 #[q 2 (.box 41 (.tmp 0)) 0, q 4 (.alloc 41) 0] false) (.seq (.region 1 #[q 5 (.assign (.const (.slice none 0 0))) 39] false) (.seq (.seq (.region 2 #[q 8 (.fieldAddr 41 (.tmp 2) 4) 0, q 9 (.load 39 (.tmp 8)) 39, q 10 (bi .len #[.tmp 9] #[39]) 3, q 11 (.move (ik 0)) 3] false) (.block 0 (.loop (.seq (.region 3 #[q 12 (.binOp .lss 3 (.tmp 11) (.tmp 10) 3) 0] false) (.seq (.cond (.tmp 12) .skip (.exit 0)) (.seq (.block 1 (.seq (.region 4 #[q 13 (.move (.tmp 11)) 3, q 14 (.indexAddr 39 (.tmp 9) (.tmp 11)) 0, q 15 (.load 41 (.tmp 14)) 41, q 7 (.alloc 41) 0, q 6 (.assign (.tmp 13)) 3, qn (.store 41 (.tmp 7) (.tmp 15)) 0] false) (.seq (.region 5 #[q 16 (.move (.tmp 6)) 3, q 17 (.binOp .lss 3 (.tmp 16) (ik 5) 3) 4, q 18 (.move (.tmp 17)) 4, qg 19 (.move (.tmp 1)) 3 2 true, qg 20 (.binOp .gtr 3 (.tmp 19) (ik 0) 3) 4 2 true, q 21 (.pick (.tmp 18) (.tmp 20) (.const (.bool false))) 4] false) (.cond (.tmp 21) (.region 6 #[q 22 (.move (.tmp 5)) 39, q 23 (.load 41 (.tmp 7)) 41, q 24 (.move (.tmp 1)) 3, q 25 (.binOp .sub 3 (.tmp 24) (ik 1) 3) 3, q 26 (cl 16 #[.tmp 23, .tmp 25] #[41, 3]) 41, q 27 (.buildSlice 39 1 #[(0, .tmp 26)]) 39, q 28 (bi .append #[.tmp 22, .tmp 27] #[39, 39]) 39, q 5 (.assign (.tmp 28)) 39] false) .skip)))) (.region 7 #[q 29 (.binOp .add 3 (.tmp 11) (ik 1) 3) 3, q 11 (.move (.tmp 29)) 3] false))))))) (.seq (.region 8 #[q 30 (.move (.tmp 5)) 39, q 31 (.fieldAddr 41 (.tmp 2) 4) 0, qn (.store 39 (.tmp 31) (.tmp 30)) 0] false) (.seq (.seq (.region 9 #[q 32 (.fieldAddr 41 (.tmp 2) 5) 0, q 33 (.load 23 (.tmp 32)) 23, q 34 (bi .len #[.tmp 33] #[23]) 3, q 35 (.binOp .gtr 3 (.tmp 34) (ik 6) 3) 4] false) (.cond (.tmp 35) (.region 10 #[q 36 (.fieldAddr 41 (.tmp 2) 5) 0, q 37 (.load 23 (.tmp 36)) 23, q 38 (.slice 23 (.tmp 37) none (some (ik 6)) none) 23, q 39 (.fieldAddr 41 (.tmp 2) 5) 0, qn (.store 23 (.tmp 39) (.tmp 38)) 0] false) .skip)) (.seq (.seq (.region 11 #[q 40 (.fieldAddr 41 (.tmp 2) 3) 0, q 41 (.load 9 (.tmp 40)) 9, q 42 (bi .len #[.tmp 41] #[9]) 3, q 43 (.binOp .gtr 3 (.tmp 42) (ik 40) 3) 4] false) (.cond (.tmp 43) (.region 12 #[q 44 (.fieldAddr 41 (.tmp 2) 3) 0, q 45 (.load 9 (.tmp 44)) 9, q 46 (.slice 9 (.tmp 45) none (some (ik 40)) none) 9, q 47 (.fieldAddr 41 (.tmp 2) 3) 0, qn (.store 9 (.tmp 47) (.tmp 46)) 0] false) .skip)) (.seq (.region 13 #[q 48 (.load 41 (.tmp 2)) 41, qn (.store 41 (.tmp 4) (.tmp 48)) 0] false) .ret))))))
theorem s16 : Tryd.f16.body.map (slim cfg) = some g16 := by kernel_rfl
def g17 : Code :=
  .seq (.region 0 #[q 1 (.box 41 (.tmp 0)) 0, q 2 (.alloc 25) 0] false) (.seq (.region 1 #[q 6 (.fieldAddr 41 (.tmp 1) 0) 0, q 7 (.load 3 (.tmp 6)) 3, q 8 (.fieldAddr 41 (.tmp 1) 1) 0, q 9 (.load 4 (.tmp 8)) 4, q 10 (.fieldAddr 41 (.tmp 1) 2) 0, q 11 (.load 2 (.tmp 10)) 2, q 12 (.fieldAddr 41 (.tmp 1) 3) 0, q 13 (.load 9 (.tmp 12)) 9, q 14 (.fieldAddr 41 (.tmp 1) 5) 0, q 15 (.load 23 (.tmp 14)) 23, q 16 (.build 25 #[(0, .tmp 7), (1, .tmp 9), (2, .tmp 11), (3, .tmp 13), (5, .tmp 15)]) 25, q 3 (.alloc 25) 0, qn (.store 25 (.tmp 3) (.tmp 16)) 0] false) (.seq (.seq (.region 2 #[q 17 (.fieldAddr 41 (.tmp 1) 4) 0, q 18 (.load 39 (.tmp 17)) 39, q 19 (bi .len #[.tmp 18] #[39]) 3, q 20 (.move (ik 0)) 3] false) (.block 0 (.loop (.seq (.region 3 #[q 21 (.binOp .lss 3 (.tmp 20) (.tmp 19) 3) 0] false) (.seq (.cond (.tmp 21) .skip (.exit 0)) (.seq (.block 1 (.seq (.region 4 #[q 22 (.indexAddr 39 (.tmp 18) (.tmp 20)) 0, q 23 (.load 41 (.tmp 22)) 41, q 5 (.alloc 41) 0, qn (.store 41 (.tmp 5) (.tmp 23)) 0] false) (.region 5 #[{ dst := some 24, op := .fieldAddr 25 (.tmp 3) 4, type := 0, pos := "law.go:14", after := #[], guard := none }, { dst := some 25, op := .load 22 (.tmp 24), type := 22, pos := "law.go:14", after := #[{ on := 0, ground := .data }], guard := none }, { dst := some 26, op := .load 41 (.tmp 5), type := 41, pos := "law.go:14", after := #[], guard := none }, { dst := some 27, op := cl 17 #[.tmp 26] #[41], type := 25, pos := "law.go:14", after := #[{ on := 2, ground := .data }], guard := none }, { dst := some 28, op := .buildSlice 22 1 #[(0, .tmp 27)], type := 22, pos := "law.go:14", after := #[{ on := 3, ground := .data }], guard := none }, { dst := some 29, op := bi .append #[.tmp 25, .tmp 28] #[22, 22], type := 22, pos := "law.go:14", after := #[{ on := 1, ground := .data }, { on := 4, ground := .data }, { on := 3, ground := .chain }], guard := none }, { dst := some 30, op := .fieldAddr 25 (.tmp 3) 4, type := 0, pos := "law.go:14", after := #[{ on := 0, ground := .phase }, { on := 1, ground := .phase }, { on := 2, ground := .phase }, { on := 3, ground := .phase }, { on := 4, ground := .phase }, { on := 5, ground := .phase }], guard := none }, { dst := none, op := .store 22 (.tmp 30) (.tmp 29), type := 0, pos := "law.go:14", after := #[{ on := 6, ground := .data }, { on := 5, ground := .data }, { on := 5, ground := .chain }, { on := 0, ground := .phase }, { on := 1, ground := .phase }, { on := 2, ground := .phase }, { on := 3, ground := .phase }, { on := 4, ground := .phase }, { on := 5, ground := .phase }], guard := none }] true))) (.region 6 #[q 31 (.binOp .add 3 (.tmp 20) (ik 1) 3) 3, q 20 (.move (.tmp 31)) 3] false))))))) (.seq (.region 7 #[q 32 (.load 25 (.tmp 3)) 25, qn (.store 25 (.tmp 2) (.tmp 32)) 0] false) .ret)))
theorem s17 : Tryd.f17.body.map (slim cfg) = some g17 := by kernel_rfl

theorem cutItems_snoc (d : Nat) (l : List JV) (i : Nat) (hi : i < l.length) : cutItems d (l.take (i + 1)) = if i < 5 ∧ 0 < d then cutItems d (l.take i) ++ [cutJ (d - 1) l[i]] else cutItems d (l.take i) := by
  cases d with
  | zero => simp [cutItems]
  | succ d =>
    simp only [cutItems, List.take_take]
    by_cases h : i < 5
    · have e1 : min 5 (i + 1) = i + 1 := by omega
      have e2 : min 5 i = i := by omega
      rw [e1, e2, if_pos ⟨h, by omega⟩, List.take_succ_eq_append_getElem hi, List.map_append]
      rfl
    · have e1 : min 5 (i + 1) = 5 := by omega
      have e2 : min 5 i = 5 := by omega
      rw [e1, e2, if_neg (by omega)]
theorem cutItems_len (d : Nat) (l : List JV) : (cutItems d l).length ≤ 5 := by cases d <;> simp [cutItems]; omega

theorem cut_ok : ∀ (d : Nat) (x : JV), d ≤ 10 → Fit 9223372036854775807 x → ∀ (prot : Nat) (H : Heap), prot ≤ H.length → aLim cfg prot 16 [encJ x, .int .i64 d] H = some (encJ (cutJ d x), none) := by
  intro d
  induction d using Nat.strongRecOn with
  | _ d IH =>
  intro x hd hfit prot H hp
  have hsnap : snap H [encJ x, .int .i64 d] = some ([encJ x, .int .i64 d], false) := by rw [encJ_snap]; rfl
  have hfi := hfit.items
  have hlf : x.iv.leaf = true := x.iv_leaf
  have hlf2 : x.kv.leaf = true := x.kv_leaf
  unfold AV.leaf at hlf hlf2
  have hg0 : ∀ (A : List AV) (B : Blk), hget (H ++ [Blk.cells 0 A] ++ [B]) H.length 0 = some A := fun A B => by simp [hget]
  refine pure_slim rfl (by kernel_rfl) Tryd.func16 s16 hp hsnap (by simp [Tryd.f16]) fun fr hlen h => ?_
  simp only [Has, Nat.zero_add] at h
  obtain ⟨a0, a1, -⟩ := h
  simp only [Tryd.f16] at hlen ⊢
  unfold g16
  rw [encJ_eq] at a0
  simp only [wk, aBuiltin, AV.cells, AV.leaf, Nat.reduceEqDiff, Nat.reduceLT, Nat.reduceAdd, Nat.reduceLeDiff, reduceCtorEq, Nat.reduceMul, Nat.reduceMod, cfgP, u16, hlen, a0, a1, hg0, List.length_append, hlf, hlf2, none_beq, x.iv_sl.len Tryd.underlying39]
  refine loop_rule (fun m fr K => ∃ (i : Nat) (o : AV), m = x.items.length - i ∧ i ≤ x.items.length ∧ fr.length = 49 ∧ fget fr 1 = .int .i64 d ∧ fget fr 2 = .ptr H.length 0 0 ∧ fget fr 4 = .ptr (H.length + 1) 0 0 ∧ fget fr 5 = o ∧ fget fr 9 = x.iv ∧ fget fr 10 = .int .i64 x.items.length ∧ fget fr 11 = .int .i64 i
    ∧ H.length + 2 ≤ K.length ∧ hget K H.length 0 = some [.int .i64 x.kind, .bool x.is, .int .i64 x.n, .str x.text, x.iv, x.kv] ∧ (∃ z, z.length = 6 ∧ hget K (H.length + 1) 0 = some z) ∧ Row encJ 6 true (H.length + 2) K o (cutItems d (x.items.take i)) ∧ (o = .nilS ∨ cutItems d (x.items.take i) ≠ [])) ?_ x.items.length _ _ ⟨0, .nilS, by
      simp [wk, aBuiltin, AV.cells, AV.leaf, Nat.reduceEqDiff, Nat.reduceLT, Nat.reduceAdd, Nat.reduceLeDiff, reduceCtorEq, Nat.reduceMul, Nat.reduceMod, cfgP, u16, hlen, a1, hget]
      have : cutItems d [] = [] := by cases d <;> rfl
      rw [this]
      exact .nil⟩
  rintro m fr K ⟨i, o, rfl, hi, hlen, a1, a2, a4, a5, a9, a10, a11, hK, hg1, ⟨z, hz, hg2⟩, hrow, hne⟩ ih
  have hK1 : H.length ≤ K.length := by omega
  simp only [wk, aBuiltin, AV.cells, AV.leaf, Nat.reduceEqDiff, Nat.reduceLT, Nat.reduceAdd, Nat.reduceLeDiff, reduceCtorEq, Nat.reduceMul, Nat.reduceMod, cfgP, u16, hlen, a1, a2, a4, a5, a9, a10, a11]
  refine RC_split (fun h => ?_) (fun h => ?_)
  · have hlt : i < x.items.length := by simpa using h
    have e1 := x.iv_sl.at (k := .i64) Tryd.underlying39 sz41 encJ_len hlt
    have hmem : x.items[i] ∈ x.items := List.getElem_mem hlt
    have hww : IntKind.i64.wrap ((i : Int) + 1) = ((i + 1 : Nat) : Int) := by rw [wrap64 (by omega) (by omega)]; simp
    have hst := cutItems_snoc d x.items i hlt
    generalize hy : x.items[i] = y at *
    have l1 := y.iv_leaf
    have l2 := y.kv_leaf
    unfold AV.leaf at l1 l2
    have e1' := e1
    rw [encJ_eq] at e1
    have hrow2 := hrow.more [Blk.cells 0 [.int .i64 y.kind, .bool y.is, .int .i64 y.n, .str y.text, y.iv, y.kv]]
    have hg1' := hget_mono hg1 [Blk.cells 0 [.int .i64 y.kind, .bool y.is, .int .i64 y.n, .str y.text, y.iv, y.kv]]
    have hg2' := hget_mono hg2 [Blk.cells 0 [.int .i64 y.kind, .bool y.is, .int .i64 y.n, .str y.text, y.iv, y.kv]]
    by_cases h5 : (i : Int) < 5
    · by_cases h0 : 0 < d
      · have h0' : (0 : Int) < (d : Int) := by omega
        have h5' : i < 5 := by omega
        have hwd : IntKind.i64.wrap ((d : Int) - 1) = ((d - 1 : Nat) : Int) := by rw [wrap64 (by omega) (by omega)]; omega
        rw [if_pos ⟨h5', h0⟩] at hst
        have n1 := fun (K : Heap) (hK : H.length ≤ K.length) => IH (d - 1) (by omega) y (by omega) (hfit.mem hmem) H.length K hK
        rw [encJ_eq y] at n1
        generalize hc : cutJ (d - 1) y = c at *
        have n1 := n1 (K ++ [Blk.cells 0 [.int .i64 y.kind, .bool y.is, .int .i64 y.n, .str y.text, y.iv, y.kv]]) (by simp; omega)
        have hlit := lit1b (H := K ++ [Blk.cells 0 [.int .i64 y.kind, .bool y.is, .int .i64 y.n, .str y.text, y.iv, y.kv]]) rowR6 encJ_T ze41 rfl (by decide) c
        have hlen1 : (K ++ [Blk.cells 0 [.int .i64 y.kind, .bool y.is, .int .i64 y.n, .str y.text, y.iv, y.kv]]).length = K.length + 1 := by simp
        have hrow3 := hrow2.more [Blk.cells 0 (encJ c).cells]
        have hg1'' := hget_mono hg1' [Blk.cells 0 (encJ c).cells]
        have hg2'' := hget_mono hg2' [Blk.cells 0 (encJ c).cells]
        have hel := elem_b1 (H := K ++ [Blk.cells 0 [.int .i64 y.kind, .bool y.is, .int .i64 y.n, .str y.text, y.iv, y.kv]] ++ [Blk.cells 0 (encJ c).cells]) encJ_T c (b := K.length + 1) (by rw [hget_new (by simp), if_pos rfl])
        have hcl := cutItems_len d (x.items.take i)
        obtain ⟨o', K2, happ, hrow4, hle, hno, hold⟩ := hrow3.app (prot := H.length) (xt := 39) encJ_T rowR6 hxtR6 hel (by simp) (by simp [roomy]; omega) (by omega) (by simp; omega)
        have hnb : ∀ b, b < H.length + 2 → ∀ s, o = .bs s → s.b ≠ b := by
          rintro b hb s rfl
          rcases hrow with ⟨h, _⟩ | ⟨b', v', h, hb', _⟩
          · cases h
          · cases h; simp only; omega
        have hg1''' := hold _ _ _ hg1'' (hnb _ (by omega))
        have hg2''' := hold _ _ _ hg2'' (hnb _ (by omega))
        rw [hlen1] at hlit
        simp only [encJ_eq c, AV.cells] at n1 hlit happ
        simp only [wk, aBuiltin, AV.cells, AV.leaf, Nat.reduceEqDiff, Nat.reduceLT, Nat.reduceAdd, Nat.reduceLeDiff, reduceCtorEq, Nat.reduceMul, Nat.reduceMod, cfgP, u16, hlen, a1, a2, a4, a5, a9, a10, a11, e1, l1, l2, y.iv_cells, y.kv_cells, hK1, h5, h0', hww, hwd, none_beq, n1, hlit, happ]
        refine ih _ _ (x.items.length - (i + 1)) (by omega) ⟨i + 1, o', rfl, hlt, ?_⟩
        rw [hst]
        simp [wk, aBuiltin, AV.cells, AV.leaf, Nat.reduceEqDiff, Nat.reduceLT, Nat.reduceAdd, Nat.reduceLeDiff, reduceCtorEq, Nat.reduceMul, Nat.reduceMod, cfgP, u16, hlen, a1, a2, a4, a5, a9, a10, hg1''', hrow4]
        refine ⟨?_, z, hz, hg2'''⟩
        simp at hle
        omega
      · have h0' : ¬ (0 : Int) < (d : Int) := by omega
        rw [if_neg (by omega)] at hst
        simp only [wk, aBuiltin, AV.cells, AV.leaf, Nat.reduceEqDiff, Nat.reduceLT, Nat.reduceAdd, Nat.reduceLeDiff, reduceCtorEq, Nat.reduceMul, Nat.reduceMod, cfgP, u16, hlen, a1, a2, a4, a5, a9, a10, a11, e1, l1, l2, y.iv_cells, y.kv_cells, hK1, h5, h0', hww, none_beq]
        refine ih _ _ (x.items.length - (i + 1)) (by omega) ⟨i + 1, o, rfl, hlt, ?_⟩
        rw [hst]
        simp [wk, aBuiltin, AV.cells, AV.leaf, Nat.reduceEqDiff, Nat.reduceLT, Nat.reduceAdd, Nat.reduceLeDiff, reduceCtorEq, Nat.reduceMul, Nat.reduceMod, cfgP, u16, hlen, a1, a2, a4, a5, a9, a10, hg1', hrow2, hne]
        exact ⟨by omega, z, hz, hg2'⟩
    · rw [if_neg (by omega)] at hst
      simp only [wk, aBuiltin, AV.cells, AV.leaf, Nat.reduceEqDiff, Nat.reduceLT, Nat.reduceAdd, Nat.reduceLeDiff, reduceCtorEq, Nat.reduceMul, Nat.reduceMod, cfgP, u16, hlen, a1, a2, a4, a5, a9, a10, a11, e1, l1, l2, y.iv_cells, y.kv_cells, hK1, h5, hww, none_beq]
      refine ih _ _ (x.items.length - (i + 1)) (by omega) ⟨i + 1, o, rfl, hlt, ?_⟩
      rw [hst]
      simp [wk, aBuiltin, AV.cells, AV.leaf, Nat.reduceEqDiff, Nat.reduceLT, Nat.reduceAdd, Nat.reduceLeDiff, reduceCtorEq, Nat.reduceMul, Nat.reduceMod, cfgP, u16, hlen, a1, a2, a4, a5, a9, a10, hg1', hrow2, hne]
      exact ⟨by omega, z, hz, hg2'⟩
  · have hnl : i = x.items.length := by
      have : ¬ i < x.items.length := by simpa using h
      omega
    subst hnl
    rw [List.take_length] at hrow hne
    rw [cutJ_eq]
    have ho : o.leaf = true ∧ o.cells = [o] := by
      rcases hrow with ⟨rfl, _⟩ | ⟨b', v', rfl, _⟩ <;> exact ⟨rfl, rfl⟩
    obtain ⟨ho1, ho2⟩ := ho
    have hfin : ∀ (t : List UInt8) (w : AV) (K' : Heap), w.leaf = true → still w = true → K' = (K.set H.length (.cells 0 [.int .i64 x.kind, .bool x.is, .int .i64 x.n, .str t, o, w])).set (H.length + 1) (.cells 0 [.int .i64 x.kind, .bool x.is, .int .i64 x.n, .str t, o, w]) →
        hget K' (H.length + 1) 0 = some [.int .i64 x.kind, .bool x.is, .int .i64 x.n, .str t, o, w] ∧ Frz K' H.length (.agg [.int .i64 x.kind, .bool x.is, .int .i64 x.n, .str t, o, w]) (.agg [.int .i64 x.kind, .bool x.is, .int .i64 x.n, .str t, slv encJ (cutItems d x.items), w]) := by
      rintro t w K' hw hs rfl
      refine ⟨hget_set_at (by simp; omega), .agg (.cons (.still rfl) (.cons (.still rfl) (.cons (.still rfl) (.cons (.still rfl) (.cons ?_ (.cons (.still hs) .nil))))))⟩
      refine Row.frozen (sz := 6) (ag := true) ?_ encJ_T (by decide) rfl hne
      rcases hrow with h | ⟨b', v', h1, h2, h3, h4⟩
      · exact .inl h
      · exact .inr ⟨b', v', h1, by omega, by rw [hget_set_ne (by omega), hget_set_ne (by omega)]; exact h3, h4⟩
    have fg : ∀ A, hget (K.set H.length (.cells 0 A)) H.length 0 = some A := fun A => hget_set_at (by omega)
    have fg2 : ∀ A, hget (K.set H.length A) (H.length + 1) 0 = some z := fun A => by rw [hget_set_ne (by omega)]; exact hg2
    have hq1 : hput H.length K H.length 0 4 [o] = some (K.set H.length (.cells 0 [.int .i64 x.kind, .bool x.is, .int .i64 x.n, .str x.text, o, x.kv])) := by
      unfold AV.leaf at ho1
      rw [hput_eq hg1 (Nat.le_refl _) (by simp) (by simp [AV.leaf, ho1])]; rfl
    have hq2 : ∀ w : AV, w.leaf = true → hput H.length (K.set H.length (.cells 0 [.int .i64 x.kind, .bool x.is, .int .i64 x.n, .str x.text, o, x.kv])) H.length 0 5 [w] = some (K.set H.length (.cells 0 [.int .i64 x.kind, .bool x.is, .int .i64 x.n, .str x.text, o, w])) := fun w hw => by
      unfold AV.leaf at hw
      rw [hput_eq (fg _) (Nat.le_refl _) (by simp) (by simp [AV.leaf, hw]), List.set_set]; rfl
    have hq3 : ∀ w : AV, hput H.length (K.set H.length (.cells 0 [.int .i64 x.kind, .bool x.is, .int .i64 x.n, .str x.text, o, w])) H.length 0 3 [.str (x.text.take 40)] = some (K.set H.length (.cells 0 [.int .i64 x.kind, .bool x.is, .int .i64 x.n, .str (x.text.take 40), o, w])) := fun w => by
      rw [hput_eq (fg _) (Nat.le_refl _) (by simp) (by simp [AV.leaf]), List.set_set]; rfl
    have hq4 : ∀ (t : List UInt8) (w : AV), w.leaf = true → hput H.length (K.set H.length (.cells 0 [.int .i64 x.kind, .bool x.is, .int .i64 x.n, .str t, o, w])) (H.length + 1) 0 0 [.int .i64 x.kind, .bool x.is, .int .i64 x.n, .str t, o, w] = some ((K.set H.length (.cells 0 [.int .i64 x.kind, .bool x.is, .int .i64 x.n, .str t, o, w])).set (H.length + 1) (.cells 0 [.int .i64 x.kind, .bool x.is, .int .i64 x.n, .str t, o, w])) := fun t w hw => by
      unfold AV.leaf at hw ho1
      rw [hput_eq (fg2 _) (by omega) (by simp [hz]) (by simp [AV.leaf, hw, ho1])]
      have hzd : z.drop 6 = [] := List.drop_eq_nil_of_le (by omega)
      simp [splice, hzd]
    have hkl := fun (K : Heap) => x.kv_sl.len (H := K) Tryd.underlying23
    have htl := fun (K : Heap) => str_len (P := Tryd.prog) Tryd.underlying9 x.text K
    have hcut := kv_cut x
    have hiv : slv encJ (cutItems d x.items) = tg 0 ((cutItems d x.items).map encJ) := slv_tg _ _
    unfold AV.cells at ho2
    by_cases hk6 : x.keys.length ≤ 6
    · have hk6' : ¬ (6 : Int) < (x.keys.length : Nat) := by omega
      have hq4a := fun t => hq4 t x.kv x.kv_leaf
      by_cases ht : x.text.length ≤ 40
      · have ht' : ¬ (40 : Int) < (x.text.length : Nat) := by omega
        simp only [wk, aBuiltin, AV.cells, AV.leaf, Nat.reduceEqDiff, Nat.reduceLT, Nat.reduceAdd, Nat.reduceLeDiff, reduceCtorEq, Nat.reduceMul, Nat.reduceMod, cfgP, u16, hlen, a1, a2, a4, a5, hlf, hlf2, hg1, hq1, ho2, fg, fg2, hkl, htl, hk6', ht', hq4a]
        obtain ⟨f1, f2⟩ := hfin (x.text) x.kv _ x.kv_leaf (tg_still _ _) rfl
        refine Fin_pure (l := [.agg [.int .i64 x.kind, .bool x.is, .int .i64 x.n, .str (x.text), o, x.kv]]) (by simp [wk, aBuiltin, AV.cells, AV.leaf, Nat.reduceEqDiff, Nat.reduceLT, Nat.reduceAdd, Nat.reduceLeDiff, reduceCtorEq, Nat.reduceMul, Nat.reduceMod, cfgP, u16, hlen, aResults, aResult, a4, f1]) ?_ (by simp)
        rw [hiv] at f2
        rw [encJ_mk]
        rw [if_pos hk6, List.take_of_length_le ht, List.take_of_length_le hk6]
        exact f2
      · have ht' : (40 : Int) < (x.text.length : Nat) := by omega
        have hsu : aSlice Tryd.prog 9 (.str x.text) none (some (.int .i64 40)) none = some (.str (x.text.take 40)) := str_upto (P := Tryd.prog) Tryd.underlying9 x.text (k := .i64) (b := 40) (by omega)
        simp only [wk, aBuiltin, AV.cells, AV.leaf, Nat.reduceEqDiff, Nat.reduceLT, Nat.reduceAdd, Nat.reduceLeDiff, reduceCtorEq, Nat.reduceMul, Nat.reduceMod, cfgP, u16, hlen, a1, a2, a4, a5, hlf, hlf2, hg1, hq1, ho2, fg, fg2, hkl, htl, hk6', ht', hsu, hq3, hq4a]
        obtain ⟨f1, f2⟩ := hfin (x.text.take 40) x.kv _ x.kv_leaf (tg_still _ _) rfl
        refine Fin_pure (l := [.agg [.int .i64 x.kind, .bool x.is, .int .i64 x.n, .str (x.text.take 40), o, x.kv]]) (by simp [wk, aBuiltin, AV.cells, AV.leaf, Nat.reduceEqDiff, Nat.reduceLT, Nat.reduceAdd, Nat.reduceLeDiff, reduceCtorEq, Nat.reduceMul, Nat.reduceMod, cfgP, u16, hlen, aResults, aResult, a4, f1]) ?_ (by simp)
        rw [hiv] at f2
        rw [encJ_mk]
        rw [if_pos hk6, List.take_of_length_le hk6]
        exact f2
    · have hk6' : (6 : Int) < (x.keys.length : Nat) := by omega
      have hcut := kv_cut x (by omega)
      generalize hw' : tg 0 ((x.keys.take 6).map AV.str) = w at *
      have hwl : w.leaf = true := by rw [← hw']; exact tg_leaf _ _
      have hwc : w.cells = [w] := by rw [← hw']; exact tg_cells _ _
      have hq2a := hq2 w hwl
      have hq4a := fun t => hq4 t w hwl
      unfold AV.cells at hwc
      by_cases ht : x.text.length ≤ 40
      · have ht' : ¬ (40 : Int) < (x.text.length : Nat) := by omega
        simp only [wk, aBuiltin, AV.cells, AV.leaf, Nat.reduceEqDiff, Nat.reduceLT, Nat.reduceAdd, Nat.reduceLeDiff, reduceCtorEq, Nat.reduceMul, Nat.reduceMod, cfgP, u16, hlen, a1, a2, a4, a5, hlf, hlf2, hg1, hq1, ho2, fg, fg2, hkl, htl, hk6', ht', hcut, hwc, hq2a, hq4a]
        obtain ⟨f1, f2⟩ := hfin (x.text) w _ hwl (by rw [← hw']; exact tg_still _ _) rfl
        refine Fin_pure (l := [.agg [.int .i64 x.kind, .bool x.is, .int .i64 x.n, .str (x.text), o, w]]) (by simp [wk, aBuiltin, AV.cells, AV.leaf, Nat.reduceEqDiff, Nat.reduceLT, Nat.reduceAdd, Nat.reduceLeDiff, reduceCtorEq, Nat.reduceMul, Nat.reduceMod, cfgP, u16, hlen, aResults, aResult, a4, f1]) ?_ (by simp)
        rw [hiv] at f2
        rw [encJ_mk]
        rw [if_neg hk6, List.take_of_length_le ht, hw']
        exact f2
      · have ht' : (40 : Int) < (x.text.length : Nat) := by omega
        have hsu : aSlice Tryd.prog 9 (.str x.text) none (some (.int .i64 40)) none = some (.str (x.text.take 40)) := str_upto (P := Tryd.prog) Tryd.underlying9 x.text (k := .i64) (b := 40) (by omega)
        simp only [wk, aBuiltin, AV.cells, AV.leaf, Nat.reduceEqDiff, Nat.reduceLT, Nat.reduceAdd, Nat.reduceLeDiff, reduceCtorEq, Nat.reduceMul, Nat.reduceMod, cfgP, u16, hlen, a1, a2, a4, a5, hlf, hlf2, hg1, hq1, ho2, fg, fg2, hkl, htl, hk6', ht', hcut, hwc, hq2a, hsu, hq3, hq4a]
        obtain ⟨f1, f2⟩ := hfin (x.text.take 40) w _ hwl (by rw [← hw']; exact tg_still _ _) rfl
        refine Fin_pure (l := [.agg [.int .i64 x.kind, .bool x.is, .int .i64 x.n, .str (x.text.take 40), o, w]]) (by simp [wk, aBuiltin, AV.cells, AV.leaf, Nat.reduceEqDiff, Nat.reduceLT, Nat.reduceAdd, Nat.reduceLeDiff, reduceCtorEq, Nat.reduceMul, Nat.reduceMod, cfgP, u16, hlen, aResults, aResult, a4, f1]) ?_ (by simp)
        rw [hiv] at f2
        rw [encJ_mk]
        rw [if_neg hk6, hw']
        exact f2
mutual
def oursJ : JV → JV
  | .mk k i n t _ l kt ks => .mk k i n t 0 (oursJs l) kt ks
def oursJs : List JV → List JV
  | [] => []
  | x :: r => oursJ x :: oursJs r
end
theorem oursJs_map : ∀ (l : List JV), oursJs l = l.map oursJ
  | [] => rfl
  | x :: r => by rw [oursJs, List.map_cons, oursJs_map r]
theorem oursJ_eq (x : JV) : oursJ x = .mk x.kind x.is x.n x.text 0 (x.items.map oursJ) x.ktag x.keys := by cases x; rw [oursJ, oursJs_map]; rfl

theorem ours_ok : ∀ (x : JV), Fit 1000000 x → ∀ (prot : Nat) (H : Heap), prot ≤ H.length → aLim cfg prot 17 [encJ x] H = some (encJ (oursJ x), none) := by
  intro x
  induction hn : SizeOf.sizeOf x using Nat.strongRecOn generalizing x with
  | _ k IH =>
  subst hn
  intro hfit prot H hp
  have hsnap : snap H [encJ x] = some ([encJ x], false) := by rw [encJ_snap]; rfl
  have hfi := hfit.items
  have hlf : x.iv.leaf = true := x.iv_leaf
  have hlf2 : x.kv.leaf = true := x.kv_leaf
  have hkc : x.kv.cells = [x.kv] := x.kv_cells
  unfold AV.leaf at hlf hlf2
  unfold AV.cells at hkc
  have hg0 : ∀ (A : List AV) (B C : Blk), hget (H ++ [Blk.cells 0 A] ++ [B] ++ [C]) H.length 0 = some A := fun A B C => by simp [hget]
  have hg00 : ∀ (A : List AV) (B : Blk), hget (H ++ [Blk.cells 0 A] ++ [B]) H.length 0 = some A := fun A B => by simp [hget]
  rw [oursJ_eq]
  refine pure_slim rfl (by kernel_rfl) Tryd.func17 s17 hp hsnap (by simp [Tryd.f17]) fun fr hlen h => ?_
  simp only [Has, Nat.zero_add] at h
  obtain ⟨a0, -⟩ := h
  simp only [Tryd.f17] at hlen ⊢
  unfold g17
  rw [encJ_eq] at a0
  have hle2 : H.length ≤ H.length + 1 + 1 := by omega
  have hgi : ∀ (A B : Blk) (C : List AV), hget (H ++ [A] ++ [B] ++ [Blk.cells 0 C]) (H.length + 1 + 1) 0 = some C := fun A B C => by rw [hget_new (by simp), if_pos rfl]
  have hgi2 : ∀ (A C : Blk) (B : List AV), hget (H ++ [A] ++ [Blk.cells 0 B] ++ [C]) (H.length + 1) 0 = some B := fun A C B => hget_mono (by rw [hget_new (by simp), if_pos rfl]) _
  simp only [wk, aBuiltin, AV.cells, AV.leaf, Nat.reduceEqDiff, Nat.reduceLT, Nat.reduceAdd, Nat.reduceLeDiff, reduceCtorEq, Nat.reduceMul, Nat.reduceMod, cfgP, u16, hlen, a0, hg0, hg00, hle2, List.length_append, hlf, hlf2, hkc, none_beq, x.iv_sl.len Tryd.underlying39]
  refine loop_rule (fun m fr K => ∃ (i : Nat) (o : AV), m = x.items.length - i ∧ i ≤ x.items.length ∧ fr.length = 33 ∧ fget fr 2 = .ptr (H.length + 1) 0 0 ∧ fget fr 3 = .ptr (H.length + 1 + 1) 0 0 ∧ fget fr 18 = x.iv ∧ fget fr 19 = .int .i64 x.items.length ∧ fget fr 20 = .int .i64 i
    ∧ H.length + 3 ≤ K.length ∧ hget K (H.length + 1 + 1) 0 = some [.int .i64 x.kind, .bool x.is, .int .i64 x.n, .str x.text, o, x.kv] ∧ (∃ z, z.length = 6 ∧ hget K (H.length + 1) 0 = some z) ∧ Row encJ 6 true (H.length + 3) K o ((x.items.take i).map oursJ) ∧ (o = .nilS ∨ (x.items.take i).map oursJ ≠ [])) ?_ x.items.length _ _ ⟨0, .nilS, by simp, by simp, by simp [wk, aBuiltin, AV.cells, AV.leaf, Nat.reduceEqDiff, Nat.reduceLT, Nat.reduceAdd, Nat.reduceLeDiff, reduceCtorEq, Nat.reduceMul, Nat.reduceMod, cfgP, u16, hlen], by simp [wk, aBuiltin, AV.cells, AV.leaf, Nat.reduceEqDiff, Nat.reduceLT, Nat.reduceAdd, Nat.reduceLeDiff, reduceCtorEq, Nat.reduceMul, Nat.reduceMod, cfgP, u16, hlen], by simp [wk, aBuiltin, AV.cells, AV.leaf, Nat.reduceEqDiff, Nat.reduceLT, Nat.reduceAdd, Nat.reduceLeDiff, reduceCtorEq, Nat.reduceMul, Nat.reduceMod, cfgP, u16, hlen], by simp [wk, aBuiltin, AV.cells, AV.leaf, Nat.reduceEqDiff, Nat.reduceLT, Nat.reduceAdd, Nat.reduceLeDiff, reduceCtorEq, Nat.reduceMul, Nat.reduceMod, cfgP, u16, hlen], by simp [wk, aBuiltin, AV.cells, AV.leaf, Nat.reduceEqDiff, Nat.reduceLT, Nat.reduceAdd, Nat.reduceLeDiff, reduceCtorEq, Nat.reduceMul, Nat.reduceMod, cfgP, u16, hlen], by simp [wk, aBuiltin, AV.cells, AV.leaf, Nat.reduceEqDiff, Nat.reduceLT, Nat.reduceAdd, Nat.reduceLeDiff, reduceCtorEq, Nat.reduceMul, Nat.reduceMod, cfgP, u16, hlen], by simp, hgi _ _ _, ⟨_, rfl, hgi2 _ _ _⟩, .nil, .inl rfl⟩
  rintro m fr K ⟨i, o, rfl, hi, hlen, a2, a3, a18, a19, a20, hK, hg1, ⟨z, hz, hg2⟩, hrow, hne⟩ ih
  have hK1 : H.length ≤ K.length := by omega
  have ho : o.leaf = true ∧ o.cells = [o] := by
    rcases hrow with ⟨rfl, _⟩ | ⟨b', v', rfl, _⟩ <;> exact ⟨rfl, rfl⟩
  obtain ⟨ho1, ho2⟩ := ho
  simp only [wk, aBuiltin, AV.cells, AV.leaf, Nat.reduceEqDiff, Nat.reduceLT, Nat.reduceAdd, Nat.reduceLeDiff, reduceCtorEq, Nat.reduceMul, Nat.reduceMod, cfgP, u16, hlen, a2, a3, a18, a19, a20]
  refine RC_split (fun h => ?_) (fun h => ?_)
  · have hlt : i < x.items.length := by simpa using h
    have e1 := x.iv_sl.at (k := .i64) Tryd.underlying39 sz41 encJ_len hlt
    have hmem : x.items[i] ∈ x.items := List.getElem_mem hlt
    have hww : IntKind.i64.wrap ((i : Int) + 1) = ((i + 1 : Nat) : Int) := by rw [wrap64 (by omega) (by omega)]; simp
    have htk : (x.items.take (i + 1)).map oursJ = (x.items.take i).map oursJ ++ [oursJ x.items[i]] := by rw [List.take_succ_eq_append_getElem hlt, List.map_append]; rfl
    have hrl : ((x.items.take i).map oursJ).length ≤ 1000000 := by simp; omega
    generalize hy : x.items[i] = y at *
    generalize hacc : (x.items.take i).map oursJ = acc at *
    have l1 := y.iv_leaf
    have l2 := y.kv_leaf
    unfold AV.leaf at l1 l2
    rw [encJ_eq] at e1
    have n1 := fun (K : Heap) (hK : H.length ≤ K.length) => IH _ (size_mem hmem) y rfl (hfit.mem hmem) H.length K hK
    rw [encJ_eq y] at n1
    generalize hc : oursJ y = c at *
    obtain ⟨B1, hB1⟩ : ∃ B1, B1 = Blk.cells 0 [.int .i64 y.kind, .bool y.is, .int .i64 y.n, .str y.text, y.iv, y.kv] := ⟨_, rfl⟩
    have hrow2 := hrow.more [B1]
    have hg1' := hget_mono hg1 [B1]
    have hg2' := hget_mono hg2 [B1]
    have hlit := lit1b (H := K ++ [B1]) rowJ encJ_T ze25 rfl (by decide) c
    have hlen1 : (K ++ [B1]).length = K.length + 1 := by simp
    have hrow3 := hrow2.more [Blk.cells 0 (encJ c).cells]
    have hg1'' := hget_mono hg1' [Blk.cells 0 (encJ c).cells]
    have hg2'' := hget_mono hg2' [Blk.cells 0 (encJ c).cells]
    have hel := elem_b1 (H := K ++ [B1] ++ [Blk.cells 0 (encJ c).cells]) encJ_T c (b := K.length + 1) (by rw [hget_new (by simp), if_pos rfl])
    obtain ⟨o', K2, happ, hrow4, hle, hno, hold⟩ := hrow3.app (prot := H.length) (xt := 22) encJ_T rowJ hxtJ hel (by simp) (by simp [roomy]; omega) (by omega) (by simp; omega)
    have hnb : ∀ b, b < H.length + 3 → ∀ s, o = .bs s → s.b ≠ b := by
      rintro b hb s rfl
      rcases hrow with ⟨h, _⟩ | ⟨b', v', h, hb', _⟩
      · cases h
      · cases h; simp only; omega
    have hg1''' := hold _ _ _ hg1'' (hnb _ (by omega))
    have hg2''' := hold _ _ _ hg2'' (hnb _ (by omega))
    rw [hlen1] at hlit
    have ho' : o'.leaf = true ∧ o'.cells = [o'] := by
      rcases hrow4 with ⟨rfl, _⟩ | ⟨b', v', rfl, _⟩ <;> exact ⟨rfl, rfl⟩
    have hput : hput H.length K2 (H.length + 1 + 1) 0 4 [o'] = some (K2.set (H.length + 1 + 1) (.cells 0 [.int .i64 x.kind, .bool x.is, .int .i64 x.n, .str x.text, o', x.kv])) := by
      have := ho'.1
      unfold AV.leaf at this
      rw [hput_eq hg1''' (by omega) (by simp) (by simp [AV.leaf, this])]; rfl
    have hoc := ho'.2
    unfold AV.cells at hoc
    subst hB1
    have hg3 : hget (K ++ [Blk.cells 0 [.int .i64 y.kind, .bool y.is, .int .i64 y.n, .str y.text, y.iv, y.kv]]) K.length 0 = some [.int .i64 y.kind, .bool y.is, .int .i64 y.n, .str y.text, y.iv, y.kv] := by rw [hget_new rfl, if_pos rfl]
    have hg3' := hget_mono hg3 [Blk.cells 0 (encJ c).cells]
    have hg3'' := hold _ _ _ hg3' (by
      rintro s rfl
      rcases hrow with ⟨h, _⟩ | ⟨b', v', h, _, h3, _⟩
      · cases h
      · cases h; have := hget_lt h3; simp only; omega)
    simp only [encJ_eq c, AV.cells] at n1 hlit happ hg1'' hg3'
    simp only [wk, aBuiltin, AV.cells, AV.leaf, Nat.reduceEqDiff, Nat.reduceLT, Nat.reduceAdd, Nat.reduceLeDiff, reduceCtorEq, Nat.reduceMul, Nat.reduceMod, cfgP, u16, hlen, a2, a3, a18, a19, a20, e1, l1, l2, y.iv_cells, y.kv_cells, hK1, hww, hg1', hg3, n1, Nat.le_trans hK1 (Nat.le_add_right _ 1), hlen1, hlit, happ, hoc, hput]
    refine ⟨?_, ?_⟩
    · rw [show befs [] _ = [0, 1, 0, 4, 12, 31, 63, 127] from by kernel_rfl]
      refine Bool.or_eq_true_iff.2 (.inl ?_)
      simp [wk, aBuiltin, AV.cells, AV.leaf, Nat.reduceEqDiff, Nat.reduceLT, Nat.reduceAdd, Nat.reduceLeDiff, reduceCtorEq, Nat.reduceMul, Nat.reduceMod, cfgP, u16, hlen, drawOk, chained, mayAt, sameAt, bound, List.range_succ, Nat.testBit, a3, n1, hlen1, hlit, happ, hoc, hput, hg1', hg1'', hg1''', hg3, hg3', hg3'', hK1, Nat.le_trans hK1 (Nat.le_add_right _ 1), avbeq_refl, -List.append_assoc]
    · refine ih _ _ (x.items.length - (i + 1)) (by omega) ⟨i + 1, o', rfl, hlt, ?_⟩
      rw [htk]
      simp [wk, aBuiltin, AV.cells, AV.leaf, Nat.reduceEqDiff, Nat.reduceLT, Nat.reduceAdd, Nat.reduceLeDiff, reduceCtorEq, Nat.reduceMul, Nat.reduceMod, cfgP, u16, hlen, a2, a3, a18, a19, a20]
      have hle' : H.length + 3 ≤ K2.length := by simp at hle; omega
      refine ⟨hle', hget_set_at (by omega), ⟨z, hz, by rw [hget_set_ne (by omega)]; exact hg2'''⟩, ?_⟩
      rcases hrow4 with h | ⟨b', v', h1, h2, h3, h4⟩
      · exact .inl h
      · exact .inr ⟨b', v', h1, h2, by rw [hget_set_ne (by omega)]; exact h3, h4⟩
  · have hnl : i = x.items.length := by
      have : ¬ i < x.items.length := by simpa using h
      omega
    subst hnl
    rw [List.take_length] at hrow hne
    unfold AV.leaf at ho1
    have hq : hput H.length K (H.length + 1) 0 0 [.int .i64 x.kind, .bool x.is, .int .i64 x.n, .str x.text, o, x.kv] = some (K.set (H.length + 1) (.cells 0 [.int .i64 x.kind, .bool x.is, .int .i64 x.n, .str x.text, o, x.kv])) := by
      rw [hput_eq hg2 (by omega) (by simp [hz]) (by simp [AV.leaf, ho1, hlf2])]
      have hzd : z.drop 6 = [] := List.drop_eq_nil_of_le (by omega)
      simp [splice, hzd]
    have hfin : hget (K.set (H.length + 1) (.cells 0 [.int .i64 x.kind, .bool x.is, .int .i64 x.n, .str x.text, o, x.kv])) (H.length + 1) 0 = some [.int .i64 x.kind, .bool x.is, .int .i64 x.n, .str x.text, o, x.kv] := hget_set_at (by omega)
    simp only [wk, aBuiltin, AV.cells, AV.leaf, Nat.reduceEqDiff, Nat.reduceLT, Nat.reduceAdd, Nat.reduceLeDiff, reduceCtorEq, Nat.reduceMul, Nat.reduceMod, cfgP, u16, hlen, a2, a3, hg1, hq]
    refine Fin_pure (l := [.agg [.int .i64 x.kind, .bool x.is, .int .i64 x.n, .str x.text, o, x.kv]]) (by simp [wk, aBuiltin, AV.cells, AV.leaf, Nat.reduceEqDiff, Nat.reduceLT, Nat.reduceAdd, Nat.reduceLeDiff, reduceCtorEq, Nat.reduceMul, Nat.reduceMod, cfgP, u16, hlen, aResults, aResult, a2, hfin]) ?_ (by simp)
    rw [encJ_mk, ← slv_tg]
    refine .agg (.cons (.still rfl) (.cons (.still rfl) (.cons (.still rfl) (.cons (.still rfl) (.cons ?_ (.cons (.still (tg_still _ _)) .nil))))))
    refine Row.frozen (sz := 6) (ag := true) ?_ encJ_T (by decide) rfl hne
    rcases hrow with h | ⟨b', v', h1, h2, h3, h4⟩
    · exact .inl h
    · exact .inr ⟨b', v', h1, by omega, by rw [hget_set_ne (by omega)]; exact h3, h4⟩
end Go.Proofs.YtimbhlbkidmplaaDoor
