import Derived.Test.YtjhgmoaabflbfaaLabel
/-! A strings.Builder, walked. -/
set_option linter.unusedSimpArgs false
namespace Go.Proofs.Ytjhgmoaabflbfaa
open Go Go.Abs AbsSeat Ty

theorem u69 : type_of% (And.intro (fun (xo yo : Operand) (b v o : Nat) => ptr_nil_eq (xo := xo) (yo := yo) Try.underlying79 b v o) (And.intro (fun (xo yo : Operand)  => nil_nil_eq (xo := xo) (yo := yo) Try.underlying79 ) (And.intro ag79 (And.intro sz79 (And.intro by79 (And.intro ze79 (And.intro Try.underlying79 (And.intro ag82 (And.intro sz82 (And.intro by82 (And.intro ze82 (And.intro bu82 (And.intro Try.underlying82 (And.intro ag119 (And.intro sz119 (And.intro by119 (And.intro ze119 (And.intro Try.underlying119 (And.intro fa82_0 fd82_0))))))))))))))))))) :=
  And.intro (fun (xo yo : Operand) (b v o : Nat) => ptr_nil_eq (xo := xo) (yo := yo) Try.underlying79 b v o) (And.intro (fun (xo yo : Operand)  => nil_nil_eq (xo := xo) (yo := yo) Try.underlying79 ) (And.intro ag79 (And.intro sz79 (And.intro by79 (And.intro ze79 (And.intro Try.underlying79 (And.intro ag82 (And.intro sz82 (And.intro by82 (And.intro ze82 (And.intro bu82 (And.intro Try.underlying82 (And.intro ag119 (And.intro sz119 (And.intro by119 (And.intro ze119 (And.intro Try.underlying119 (And.intro fa82_0 fd82_0))))))))))))))))))
def g69 : Code :=
  Go.Code.seq (Go.Code.region 0 #[{ dst := some 2, op := Go.Op.move (Go.Operand.tmp 0), type := 79, pos := "", after := #[], guard := none }, { dst := some 3, op := Go.Op.nilCheck (Go.Operand.tmp 2), type := 0, pos := "", after := #[], guard := none }, { dst := some 4, op := Go.Op.fieldAddr 82 (Go.Operand.tmp 3) 0, type := 0, pos := "", after := #[], guard := none }, { dst := some 5, op := Go.Op.load 79 (Go.Operand.tmp 4), type := 79, pos := "", after := #[], guard := none }, { dst := some 6, op := Go.Op.binOp Go.BinOp.eql 79 (Go.Operand.tmp 5) (Go.Operand.const (Go.Value.pointer none)) 79, type := 4, pos := "", after := #[], guard := none }] false) (Go.Code.cond (Go.Operand.tmp 6) (Go.Code.region 1 #[{ dst := some 7, op := Go.Op.move (Go.Operand.tmp 0), type := 79, pos := "", after := #[], guard := none }, { dst := some 8, op := Go.Op.move (Go.Operand.tmp 0), type := 79, pos := "", after := #[], guard := none }, { dst := some 9, op := Go.Op.convert 79 119 (Go.Operand.tmp 8), type := 119, pos := "", after := #[], guard := none }, { dst := some 10, op := Go.Op.call { callee := Go.Callee.value (Go.Operand.func 88), args := #[Go.Operand.tmp 9], argTypes := #[119] }, type := 119, pos := "", after := #[], guard := none }, { dst := some 11, op := Go.Op.convert 119 79 (Go.Operand.tmp 10), type := 79, pos := "", after := #[], guard := none }, { dst := some 12, op := Go.Op.nilCheck (Go.Operand.tmp 7), type := 0, pos := "", after := #[], guard := none }, { dst := some 13, op := Go.Op.fieldAddr 82 (Go.Operand.tmp 12) 0, type := 0, pos := "", after := #[], guard := none }, { dst := none, op := Go.Op.store 79 (Go.Operand.tmp 13) (Go.Operand.tmp 11), type := 0, pos := "", after := #[], guard := none }] false) (Go.Code.seq (Go.Code.region 2 #[{ dst := some 14, op := Go.Op.move (Go.Operand.tmp 0), type := 79, pos := "", after := #[], guard := none }, { dst := some 15, op := Go.Op.nilCheck (Go.Operand.tmp 14), type := 0, pos := "", after := #[], guard := none }, { dst := some 16, op := Go.Op.fieldAddr 82 (Go.Operand.tmp 15) 0, type := 0, pos := "", after := #[], guard := none }, { dst := some 17, op := Go.Op.load 79 (Go.Operand.tmp 16), type := 79, pos := "", after := #[], guard := none }, { dst := some 18, op := Go.Op.move (Go.Operand.tmp 0), type := 79, pos := "", after := #[], guard := none }, { dst := some 19, op := Go.Op.binOp Go.BinOp.neq 79 (Go.Operand.tmp 17) (Go.Operand.tmp 18) 79, type := 4, pos := "", after := #[], guard := none }] false) (Go.Code.cond (Go.Operand.tmp 19) (Go.Code.refuse "(*strings.Builder).copyCheck builder.go:41: unsupported: a written strings.Builder's value in another place: whether the library's copy check passes hangs on where the compiler lays the two") Go.Code.skip)))
theorem s69 : Try.f69.body.map (slim cfg) = some g69 := by kernel_rfl
theorem u50 : type_of% (And.intro ag1 (And.intro sz1 (And.intro by1 (And.intro ze1 (And.intro Try.underlying1 (And.intro ag5 (And.intro sz5 (And.intro by5 (And.intro ze5 (And.intro Try.underlying5 (And.intro ag79 (And.intro sz79 (And.intro by79 (And.intro ze79 (And.intro Try.underlying79 (And.intro ag80 (And.intro sz80 (And.intro by80 (And.intro se80 (And.intro ze80 (And.intro Try.underlying80 (And.intro ag82 (And.intro sz82 (And.intro by82 (And.intro ze82 (And.intro bu82 (And.intro Try.underlying82 (And.intro fa82_1 fd82_1)))))))))))))))))))))))))))) :=
  And.intro ag1 (And.intro sz1 (And.intro by1 (And.intro ze1 (And.intro Try.underlying1 (And.intro ag5 (And.intro sz5 (And.intro by5 (And.intro ze5 (And.intro Try.underlying5 (And.intro ag79 (And.intro sz79 (And.intro by79 (And.intro ze79 (And.intro Try.underlying79 (And.intro ag80 (And.intro sz80 (And.intro by80 (And.intro se80 (And.intro ze80 (And.intro Try.underlying80 (And.intro ag82 (And.intro sz82 (And.intro by82 (And.intro ze82 (And.intro bu82 (And.intro Try.underlying82 (And.intro fa82_1 fd82_1)))))))))))))))))))))))))))
def g50 : Code :=
  Go.Code.seq (Go.Code.region 0 #[{ dst := some 4, op := Go.Op.assign (Go.Operand.const Go.Value.nilIface), type := 84, pos := "", after := #[], guard := none }] false) (Go.Code.seq (Go.Code.region 1 #[{ dst := some 5, op := Go.Op.move (Go.Operand.tmp 0), type := 79, pos := "", after := #[], guard := none }, { dst := some 6, op := Go.Op.call { callee := Go.Callee.value (Go.Operand.func 69), args := #[Go.Operand.tmp 5], argTypes := #[79] }, type := 0, pos := "", after := #[], guard := none }] false) (Go.Code.seq (Go.Code.region 2 #[{ dst := some 7, op := Go.Op.move (Go.Operand.tmp 0), type := 79, pos := "", after := #[], guard := none }, { dst := some 8, op := Go.Op.move (Go.Operand.tmp 0), type := 79, pos := "", after := #[], guard := none }, { dst := some 9, op := Go.Op.nilCheck (Go.Operand.tmp 8), type := 0, pos := "", after := #[], guard := none }, { dst := some 10, op := Go.Op.fieldAddr 82 (Go.Operand.tmp 9) 1, type := 0, pos := "", after := #[], guard := none }, { dst := some 11, op := Go.Op.load 80 (Go.Operand.tmp 10), type := 80, pos := "", after := #[], guard := none }, { dst := some 12, op := Go.Op.move (Go.Operand.tmp 1), type := 5, pos := "", after := #[], guard := none }, { dst := some 13, op := Go.Op.buildSlice 80 1 #[(0, Go.Operand.tmp 12)], type := 80, pos := "", after := #[], guard := none }, { dst := some 14, op := Go.Op.call { callee := Go.Callee.builtin Go.Builtin.append, args := #[Go.Operand.tmp 11, Go.Operand.tmp 13], argTypes := #[80, 80] }, type := 80, pos := "", after := #[], guard := none }, { dst := some 15, op := Go.Op.nilCheck (Go.Operand.tmp 7), type := 0, pos := "", after := #[], guard := none }, { dst := some 16, op := Go.Op.fieldAddr 82 (Go.Operand.tmp 15) 1, type := 0, pos := "", after := #[], guard := none }, { dst := none, op := Go.Op.store 80 (Go.Operand.tmp 16) (Go.Operand.tmp 14), type := 0, pos := "", after := #[], guard := none }] false) (Go.Code.seq (Go.Code.region 3 #[{ dst := some 4, op := Go.Op.assign (Go.Operand.const Go.Value.nilIface), type := 84, pos := "", after := #[], guard := none }] false) Go.Code.ret)))
theorem s50 : Try.f50.body.map (slim cfg) = some g50 := by kernel_rfl
theorem u52 : type_of% (And.intro ag5 (And.intro sz5 (And.intro by5 (And.intro ze5 (And.intro Try.underlying5 (And.intro ag9 (And.intro sz9 (And.intro by9 (And.intro ze9 (And.intro Try.underlying9 (And.intro ag79 (And.intro sz79 (And.intro by79 (And.intro ze79 (And.intro Try.underlying79 (And.intro ag80 (And.intro sz80 (And.intro by80 (And.intro se80 (And.intro ze80 (And.intro Try.underlying80 (And.intro ag82 (And.intro sz82 (And.intro by82 (And.intro ze82 (And.intro bu82 (And.intro Try.underlying82 (And.intro fa82_1 fd82_1)))))))))))))))))))))))))))) :=
  And.intro ag5 (And.intro sz5 (And.intro by5 (And.intro ze5 (And.intro Try.underlying5 (And.intro ag9 (And.intro sz9 (And.intro by9 (And.intro ze9 (And.intro Try.underlying9 (And.intro ag79 (And.intro sz79 (And.intro by79 (And.intro ze79 (And.intro Try.underlying79 (And.intro ag80 (And.intro sz80 (And.intro by80 (And.intro se80 (And.intro ze80 (And.intro Try.underlying80 (And.intro ag82 (And.intro sz82 (And.intro by82 (And.intro ze82 (And.intro bu82 (And.intro Try.underlying82 (And.intro fa82_1 fd82_1)))))))))))))))))))))))))))
def g52 : Code :=
  Go.Code.seq (Go.Code.region 0 #[{ dst := some 4, op := Go.Op.assign (Go.Operand.const (Go.Value.int Go.IntKind.i64 0)), type := 3, pos := "", after := #[], guard := none }, { dst := some 5, op := Go.Op.assign (Go.Operand.const Go.Value.nilIface), type := 84, pos := "", after := #[], guard := none }] false) (Go.Code.seq (Go.Code.region 1 #[{ dst := some 6, op := Go.Op.move (Go.Operand.tmp 0), type := 79, pos := "", after := #[], guard := none }, { dst := some 7, op := Go.Op.call { callee := Go.Callee.value (Go.Operand.func 69), args := #[Go.Operand.tmp 6], argTypes := #[79] }, type := 0, pos := "", after := #[], guard := none }] false) (Go.Code.seq (Go.Code.region 2 #[{ dst := some 8, op := Go.Op.move (Go.Operand.tmp 0), type := 79, pos := "", after := #[], guard := none }, { dst := some 9, op := Go.Op.move (Go.Operand.tmp 0), type := 79, pos := "", after := #[], guard := none }, { dst := some 10, op := Go.Op.nilCheck (Go.Operand.tmp 9), type := 0, pos := "", after := #[], guard := none }, { dst := some 11, op := Go.Op.fieldAddr 82 (Go.Operand.tmp 10) 1, type := 0, pos := "", after := #[], guard := none }, { dst := some 12, op := Go.Op.load 80 (Go.Operand.tmp 11), type := 80, pos := "", after := #[], guard := none }, { dst := some 13, op := Go.Op.move (Go.Operand.tmp 1), type := 9, pos := "", after := #[], guard := none }, { dst := some 14, op := Go.Op.call { callee := Go.Callee.builtin Go.Builtin.append, args := #[Go.Operand.tmp 12, Go.Operand.tmp 13], argTypes := #[80, 9] }, type := 80, pos := "", after := #[], guard := none }, { dst := some 15, op := Go.Op.nilCheck (Go.Operand.tmp 8), type := 0, pos := "", after := #[], guard := none }, { dst := some 16, op := Go.Op.fieldAddr 82 (Go.Operand.tmp 15) 1, type := 0, pos := "", after := #[], guard := none }, { dst := none, op := Go.Op.store 80 (Go.Operand.tmp 16) (Go.Operand.tmp 14), type := 0, pos := "", after := #[], guard := none }] false) (Go.Code.seq (Go.Code.region 3 #[{ dst := some 17, op := Go.Op.move (Go.Operand.tmp 1), type := 9, pos := "", after := #[], guard := none }, { dst := some 18, op := Go.Op.call { callee := Go.Callee.builtin Go.Builtin.len, args := #[Go.Operand.tmp 17], argTypes := #[9] }, type := 3, pos := "", after := #[], guard := none }, { dst := some 4, op := Go.Op.assign (Go.Operand.tmp 18), type := 3, pos := "", after := #[], guard := none }, { dst := some 5, op := Go.Op.assign (Go.Operand.const Go.Value.nilIface), type := 84, pos := "", after := #[], guard := none }] false) Go.Code.ret)))
theorem s52 : Try.f52.body.map (slim cfg) = some g52 := by kernel_rfl
theorem u53 : type_of% (And.intro ag3 (And.intro sz3 (And.intro by3 (And.intro ze3 (And.intro Try.underlying3 (And.intro ag5 (And.intro sz5 (And.intro by5 (And.intro ze5 (And.intro Try.underlying5 (And.intro ag80 (And.intro sz80 (And.intro by80 (And.intro se80 (And.intro ze80 (And.intro Try.underlying80 (And.intro ag82 (And.intro sz82 (And.intro by82 (And.intro ze82 (And.intro bu82 (And.intro Try.underlying82 (And.intro ag102 (And.intro sz102 (And.intro by102 (And.intro ze102 (And.intro Try.underlying102 (And.intro fa82_1 fd82_1)))))))))))))))))))))))))))) :=
  And.intro ag3 (And.intro sz3 (And.intro by3 (And.intro ze3 (And.intro Try.underlying3 (And.intro ag5 (And.intro sz5 (And.intro by5 (And.intro ze5 (And.intro Try.underlying5 (And.intro ag80 (And.intro sz80 (And.intro by80 (And.intro se80 (And.intro ze80 (And.intro Try.underlying80 (And.intro ag82 (And.intro sz82 (And.intro by82 (And.intro ze82 (And.intro bu82 (And.intro Try.underlying82 (And.intro ag102 (And.intro sz102 (And.intro by102 (And.intro ze102 (And.intro Try.underlying102 (And.intro fa82_1 fd82_1)))))))))))))))))))))))))))
def g53 : Code :=
  Go.Code.seq (Go.Code.region 0 #[{ dst := some 2, op := Go.Op.assign (Go.Operand.const (Go.Value.string { data := #[] })), type := 9, pos := "", after := #[], guard := none }] false) (Go.Code.seq (Go.Code.region 1 #[{ dst := some 3, op := Go.Op.move (Go.Operand.tmp 0), type := 79, pos := "builder.go:47", after := #[], guard := none }, { dst := some 4, op := Go.Op.nilCheck (Go.Operand.tmp 3), type := 0, pos := "builder.go:47", after := #[{ on := 0, ground := Go.Ground.data }], guard := none }, { dst := some 5, op := Go.Op.fieldAddr 82 (Go.Operand.tmp 4) 1, type := 0, pos := "builder.go:47", after := #[{ on := 1, ground := Go.Ground.data }], guard := none }, { dst := some 6, op := Go.Op.load 80 (Go.Operand.tmp 5), type := 80, pos := "builder.go:47", after := #[{ on := 2, ground := Go.Ground.data }], guard := none }, { dst := some 7, op := Go.Op.call { callee := Go.Callee.builtin Go.Builtin.unsafeSliceData, args := #[Go.Operand.tmp 6], argTypes := #[80] }, type := 102, pos := "builder.go:47", after := #[{ on := 3, ground := Go.Ground.data }], guard := none }, { dst := some 8, op := Go.Op.move (Go.Operand.tmp 0), type := 79, pos := "builder.go:47", after := #[], guard := none }, { dst := some 9, op := Go.Op.nilCheck (Go.Operand.tmp 8), type := 0, pos := "builder.go:47", after := #[{ on := 5, ground := Go.Ground.data }], guard := none }, { dst := some 10, op := Go.Op.fieldAddr 82 (Go.Operand.tmp 9) 1, type := 0, pos := "builder.go:47", after := #[{ on := 6, ground := Go.Ground.data }], guard := none }, { dst := some 11, op := Go.Op.load 80 (Go.Operand.tmp 10), type := 80, pos := "builder.go:47", after := #[{ on := 7, ground := Go.Ground.data }], guard := none }, { dst := some 12, op := Go.Op.call { callee := Go.Callee.builtin Go.Builtin.len, args := #[Go.Operand.tmp 11], argTypes := #[80] }, type := 3, pos := "builder.go:47", after := #[{ on := 8, ground := Go.Ground.data }], guard := none }, { dst := some 13, op := Go.Op.call { callee := Go.Callee.builtin Go.Builtin.unsafeString, args := #[Go.Operand.tmp 7, Go.Operand.tmp 12], argTypes := #[102, 3] }, type := 9, pos := "builder.go:47", after := #[{ on := 4, ground := Go.Ground.data }, { on := 9, ground := Go.Ground.data }], guard := none }, { dst := some 2, op := Go.Op.assign (Go.Operand.tmp 13), type := 9, pos := "builder.go:47", after := #[{ on := 10, ground := Go.Ground.data }, { on := 0, ground := Go.Ground.phase }, { on := 1, ground := Go.Ground.phase }, { on := 2, ground := Go.Ground.phase }, { on := 3, ground := Go.Ground.phase }, { on := 4, ground := Go.Ground.phase }, { on := 5, ground := Go.Ground.phase }, { on := 6, ground := Go.Ground.phase }, { on := 7, ground := Go.Ground.phase }, { on := 8, ground := Go.Ground.phase }, { on := 9, ground := Go.Ground.phase }, { on := 10, ground := Go.Ground.phase }], guard := none }] true) Go.Code.ret)
theorem s53 : Try.f53.body.map (slim cfg) = some g53 := by kernel_rfl

/-- a builder's variable in the block 'b' that has 's'. -/
def Bld (base : Nat) (H : Heap) (b : Nat) (s : List UInt8) : Prop :=
  ∃ a buf, base ≤ b ∧ hget H b 165 = some [a, buf] ∧ (a = .nil ∨ a = .ptr b 165 0) ∧
    ((buf = .nilS ∧ s = []) ∨ ∃ c ver, buf = .bs ⟨c, ver, 0, s.length, 0, 1, false, false⟩ ∧ 0 < s.length ∧ base ≤ c ∧ ver % 4 = 2 ∧ hget H c ver = some (cellsOf encB s))
/-- what stands in other blocks stays. -/
def Kept (H H' : Heap) (b : Nat) : Prop := H.length ≤ H'.length ∧ ∀ b' v cs, hget H b' v = some cs → b' ≠ b → v % 4 ≠ 2 → hget H' b' v = some cs
theorem Kept.rfl {H : Heap} {b : Nat} : Kept H H b := ⟨Nat.le_refl _, fun _ _ _ h _ _ => h⟩
theorem Kept.trans {H H' H'' : Heap} {b : Nat} (h1 : Kept H H' b) (h2 : Kept H' H'' b) : Kept H H'' b := ⟨Nat.le_trans h1.1 h2.1, fun b' v cs h a c => h2.2 b' v cs (h1.2 b' v cs h a c) a c⟩
theorem Bld.new {base : Nat} {H : Heap} (hb : base ≤ H.length) : Bld base (H ++ [Blk.cells 165 [.nil, .nilS]]) H.length [] := ⟨.nil, .nilS, hb, by rw [hget_new rfl]; rfl, .inl rfl, .inl ⟨rfl, rfl⟩⟩
theorem Bld.more {base b : Nat} {H : Heap} {s : List UInt8} (h : Bld base H b s) (x : List Blk) : Bld base (H ++ x) b s := by
  obtain ⟨a, buf, h1, h2, h3, h4⟩ := h
  refine ⟨a, buf, h1, hget_mono h2 x, h3, ?_⟩
  rcases h4 with h4 | ⟨c, ver, k1, k2, k3, k4, k5⟩
  · exact .inl h4
  · exact .inr ⟨c, ver, k1, k2, k3, k4, hget_mono k5 x⟩
/-- another block changes. -/
theorem Bld.set {base b : Nat} {H : Heap} {s : List UInt8} (h : Bld base H b s) {b' v : Nat} {cs cs' : List AV} (hg : hget H b' v = some cs) (hv : v % 4 ≠ 2) (hb : b' ≠ b) : Bld base (H.set b' (.cells v cs')) b s := by
  obtain ⟨a, buf, h1, h2, h3, h4⟩ := h
  refine ⟨a, buf, h1, by rw [hget_set_ne (Ne.symm hb)]; exact h2, h3, ?_⟩
  rcases h4 with h4 | ⟨c, ver, k1, k2, k3, k4, k5⟩
  · exact .inl h4
  · refine .inr ⟨c, ver, k1, k2, k3, k4, ?_⟩
    have : b' ≠ c := fun e => by
      subst e
      have e1 := alive_of_hget hg
      have e2 := alive_of_hget k5
      rw [e1] at e2
      injection (Option.some.inj e2) with e3 _
      exact hv (by omega)
    rw [hget_set_ne (Ne.symm this)]; exact k5

theorem noesc_ok (x : AV) (prot : Nat) (H : Heap) : aLim cfg prot 88 [x] H = some (x, none) := by
  have h1 : Try.f88.body = none := by kernel_rfl
  have h2 : Try.f88.name = "internal/abi.NoEscape" := by kernel_rfl
  have h3 : Try.f88.origin = "" := by kernel_rfl
  have h4 : aExt Try.f88 [x] = some x := by
    unfold aExt
    rw [h2, h3, if_neg (by decide), if_pos ⟨rfl, rfl⟩]
  have h5 : cfg.P.funcs[88]? = some Try.f88 := Try.func88
  have h6 : cfg.ok 88 = true := by kernel_rfl
  exact lim_ext h6 h5 h1 h4 prot H
theorem bconv1 {K : Heap} {b : Nat} {a buf : AV} (hg : hget K b 165 = some [a, buf]) : aConvert Try.prog K 79 119 (.ptr b 165 0) = some (.ptr b 165 0, none) := by
  simp [aConvert, Try.underlying79, Try.underlying119, sz82, hg]
theorem bconv2 {K : Heap} {b : Nat} {a buf : AV} (hg : hget K b 165 = some [a, buf]) : aConvert Try.prog K 119 79 (.ptr b 165 0) = some (.ptr b 165 0, none) := by
  have h1 : liesAt Try.prog Try.prog.depth 82 (2 / Try.prog.cellsOf 82) 0 82 1 = true := by kernel_rfl
  simp [aConvert, Try.underlying79, Try.underlying119, sz82, hg, h1]
theorem bsame {K : Heap} {b : Nat} {a buf : AV} (hg : hget K b 165 = some [a, buf]) (xo yo : Operand) : aBinH Try.prog K .neq 79 xo yo (.ptr b 165 0) (.ptr b 165 0) = some (.bool false) := by
  simp [aBinH, Try.underlying79, sz82, hg]
theorem Kept.one {H : Heap} {b : Nat} (k : Blk) : Kept H (H.set b k) b := ⟨by simp, fun b' v cs h h1 _ => by rw [hget_set_ne h1]; exact h⟩


theorem copyCheck_ok (s : List UInt8) (b : Nat) (prot : Nat) (H : Heap) (hb : Bld prot H b s) :
    ∃ H' buf, aLim cfg prot 69 [.ptr b 165 0] H = some (.tup [], some H') ∧ prot ≤ b ∧ hget H' b 165 = some [.ptr b 165 0, buf] ∧ Kept H H' b ∧
      ((buf = .nilS ∧ s = []) ∨ ∃ c ver, buf = .bs ⟨c, ver, 0, s.length, 0, 1, false, false⟩ ∧ 0 < s.length ∧ prot ≤ c ∧ ver % 4 = 2 ∧ hget H' c ver = some (cellsOf encB s)) := by
  obtain ⟨a, buf, h1, h2, h3, h4⟩ := hb
  have hblt := hget_lt h2
  rcases h3 with rfl | rfl
  · have hput1 : hput prot H b 165 0 [.ptr b 165 0] = some (H.set b (.cells 165 [.ptr b 165 0, buf])) := by
      rw [hput_eq h2 h1 (by simp) (by simp [AV.leaf])]
      rfl
    refine ⟨H.set b (.cells 165 [.ptr b 165 0, buf]), buf, ?_, h1, by rw [hget_set_same hblt, if_pos rfl], .one _, ?_⟩
    · refine raw_slim rfl (by kernel_rfl) (by kernel_rfl) (by kernel_rfl) Try.func69 s69 (by simp [Try.f69]) fun fr hlen h => ?_
      simp only [Has, Nat.zero_add] at h
      obtain ⟨a0, -⟩ := h
      simp only [Try.f69] at hlen ⊢
      unfold g69
      simp only [wk0, wk1, wk2, wk3, wk4, wk5, wk6, aWanted, aYield, Region.wanted, aOp, quiet, loud, aEvals, aParts, aOpt, aBuiltin, rd, win, AV.cells, AV.leaf, aNew, splice, fillA, Nat.reduceEqDiff, Nat.reduceLT, Nat.reduceAdd, Nat.reduceLeDiff, reduceCtorEq, Nat.reduceMul, cfgP, u69, hlen, a0, h2, noesc_ok, bconv1 h2, bconv2 h2, hput1]
      exact Fin_raw (l := []) (by simp [wk0, wk1, wk2, wk3, wk4, wk5, wk6, aWanted, aYield, Region.wanted, aOp, quiet, loud, aEvals, aParts, aOpt, aBuiltin, rd, win, AV.cells, AV.leaf, aNew, splice, fillA, Nat.reduceEqDiff, Nat.reduceLT, Nat.reduceAdd, Nat.reduceLeDiff, reduceCtorEq, Nat.reduceMul, cfgP, u69, hlen, aResults, aResult])
    · rcases h4 with h4 | ⟨c, ver, k1, k2, k3, k4, k5⟩
      · exact .inl h4
      · refine .inr ⟨c, ver, k1, k2, k3, k4, ?_⟩
        have : b ≠ c := fun e => by
          subst e
          have e1 := alive_of_hget h2
          have e2 := alive_of_hget k5
          rw [e1] at e2
          injection (Option.some.inj e2) with e3 _
          omega
        rw [hget_set_ne (Ne.symm this)]; exact k5
  · refine ⟨H, buf, ?_, h1, h2, .rfl, h4⟩
    refine raw_slim rfl (by kernel_rfl) (by kernel_rfl) (by kernel_rfl) Try.func69 s69 (by simp [Try.f69]) fun fr hlen h => ?_
    simp only [Has, Nat.zero_add] at h
    obtain ⟨a0, -⟩ := h
    simp only [Try.f69] at hlen ⊢
    unfold g69
    simp only [wk0, wk1, wk2, wk3, wk4, wk5, wk6, aWanted, aYield, Region.wanted, aOp, quiet, loud, aEvals, aParts, aOpt, aBuiltin, rd, win, AV.cells, AV.leaf, aNew, splice, fillA, Nat.reduceEqDiff, Nat.reduceLT, Nat.reduceAdd, Nat.reduceLeDiff, reduceCtorEq, Nat.reduceMul, cfgP, u69, hlen, a0, h2, bsame h2, ptr_nil_eq Try.underlying79]
    exact Fin_raw (l := []) (by simp [wk0, wk1, wk2, wk3, wk4, wk5, wk6, aWanted, aYield, Region.wanted, aOp, quiet, loud, aEvals, aParts, aOpt, aBuiltin, rd, win, AV.cells, AV.leaf, aNew, splice, fillA, Nat.reduceEqDiff, Nat.reduceLT, Nat.reduceAdd, Nat.reduceLeDiff, reduceCtorEq, Nat.reduceMul, cfgP, u69, hlen, aResults, aResult])
theorem bapp {prot : Nat} {H : Heap} {buf : AV} {s : List UInt8} (h : (buf = .nilS ∧ s = []) ∨ ∃ c ver, buf = .bs ⟨c, ver, 0, s.length, 0, 1, false, false⟩ ∧ 0 < s.length ∧ prot ≤ c ∧ ver % 4 = 2 ∧ hget H c ver = some (cellsOf encB s))
    {x : AV} {m : List UInt8} {xt : TypeId} (hxt : xt = 80 ∨ xt = 9) (hx : elemCells H 1 x = some (m.length, cellsOf encB m)) (hm : 0 < m.length) (hr : s.length + m.length ≤ 140737488355328) (hp : prot ≤ H.length) :
    ∃ c ver H', aAppend Try.prog prot H #[80, xt] buf x = some (.bs ⟨c, ver, 0, (s ++ m).length, 0, 1, false, false⟩, some H') ∧ prot ≤ c ∧ ver % 4 = 2 ∧ hget H' c ver = some (cellsOf encB (s ++ m)) ∧
      H.length ≤ H'.length ∧ ∀ b' v cs, hget H b' v = some cs → v % 4 ≠ 2 → hget H' b' v = some cs := by
  have hl : (cellsOf encB m).all AV.leaf = true := cellsOf_leaf encB_T m
  have hm0 : ¬ m.length = 0 := by omega
  have hl' : ∀ y ∈ cellsOf encB m, y.leaf = true := List.all_eq_true.1 hl
  rcases h with ⟨rfl, rfl⟩ | ⟨c, ver, rfl, k1, k2, k3, k4⟩
  · refine ⟨H.length, 2, H ++ [Blk.cells 2 (cellsOf encB m)], ?_, hp, rfl, by rw [hget_new rfl]; rfl, by simp, fun b' v cs h _ => hget_mono h _⟩
    have hro : roomy m.length 1 = true := by simp [roomy] at hr ⊢; omega
    rcases hxt with rfl | rfl <;> simp [aAppend, Try.underlying80, Try.underlying9, se80, sz5, by5, ag5, ze5, AV.cells, hx, hm0, hro, rowV] <;> exact hl'
  · have hlt := hget_lt k4
    have hw : win (cellsOf encB s) 0 s.length = some (cellsOf encB s) := by
      have := cellsOf_drop encB_T s 0 (by simp)
      simpa using this
    have hro : roomy (s.length + m.length) 1 = true := by simp [roomy]; omega
    have hok : rowOk ver 0 5 = true := by
      have h1 : ver % 2 = 0 := by omega
      simp [rowOk, h1]
    refine ⟨c, ver + 4, H.set c (.cells (ver + 4) (cellsOf encB s ++ cellsOf encB m)), ?_, k2, by omega, ?_, by simp, ?_⟩
    · rcases hxt with rfl | rfl <;> simp [aAppend, Try.underlying80, Try.underlying9, se80, sz5, by5, ag5, ze5, AV.cells, hx, hm0, hro, k4, hw, k2, hok] <;> exact hl'
    · rw [hget_set_same hlt, if_pos rfl, cellsOf_append]
    · intro b' v cs h hv
      have : b' ≠ c := fun e => by
        subst e
        have e1 := alive_of_hget h
        have e2 := alive_of_hget k4
        rw [e1] at e2
        injection (Option.some.inj e2) with e3 _
        omega
      rw [hget_set_ne this]; exact h
theorem litB (c : UInt8) (H : Heap) : aBuildSlice Try.prog H 80 1 [(0, .int .u8 c.toNat)] = some (.vs [.int .u8 c.toNat] true, none) := by
  simp [aBuildSlice, se80, sz5, by5, ag5, ze5, AV.cells, fillA, zrep, splice, litOk, AV.scal, AV.plL, AV.pl, chunk, AV.leaf]


theorem writeByte_ok (s : List UInt8) (c : UInt8) (b : Nat) (prot : Nat) (H : Heap) (hp : prot ≤ H.length) (hb : Bld prot H b s) (hs : s.length < 140737488355328) :
    ∃ H', aLim cfg prot 50 [.ptr b 165 0, .int .u8 c.toNat] H = some (.nilI, some H') ∧ Bld prot H' b (s ++ [c]) ∧ Kept H H' b := by
  obtain ⟨H1, buf, n1, h1, h2, k1, h4⟩ := copyCheck_ok s b prot H hb
  have hp1 := Nat.le_trans hp k1.1
  obtain ⟨d, ver, H2, happ, h5, h6, h7, h8, h9⟩ := bapp h4 (x := .vs [.int .u8 c.toNat] true) (m := [c]) (.inl rfl) (elem_vs encB_T [c] true) (by simp) (by simp; omega) hp1
  have h2' := h9 _ _ _ h2 (by decide)
  have hput1 : hput prot H2 b 165 1 [.bs ⟨d, ver, 0, (s ++ [c]).length, 0, 1, false, false⟩] = some (H2.set b (.cells 165 [.ptr b 165 0, .bs ⟨d, ver, 0, (s ++ [c]).length, 0, 1, false, false⟩])) := by
    rw [hput_eq h2' h1 (by simp) (by simp [AV.leaf])]
    rfl
  refine ⟨H2.set b (.cells 165 [.ptr b 165 0, .bs ⟨d, ver, 0, (s ++ [c]).length, 0, 1, false, false⟩]), ?_, ?_, ?_⟩
  · refine raw_slim rfl (by kernel_rfl) (by kernel_rfl) (by kernel_rfl) Try.func50 s50 (by simp [Try.f50]) fun fr hlen h => ?_
    simp only [Has, Nat.zero_add] at h
    obtain ⟨a0, a1, -⟩ := h
    simp only [Try.f50] at hlen ⊢
    unfold g50
    simp only [wk0, wk1, wk2, wk3, wk4, wk5, wk6, aWanted, aYield, Region.wanted, aOp, quiet, loud, aEvals, aParts, aOpt, aBuiltin, rd, win, AV.cells, AV.leaf, aNew, splice, fillA, Nat.reduceEqDiff, Nat.reduceLT, Nat.reduceAdd, Nat.reduceLeDiff, reduceCtorEq, Nat.reduceMul, cfgP, u50, hlen, a0, a1, n1, h2, litB, happ, hput1]
    exact Fin_raw (l := [.nilI]) (by simp [wk0, wk1, wk2, wk3, wk4, wk5, wk6, aWanted, aYield, Region.wanted, aOp, quiet, loud, aEvals, aParts, aOpt, aBuiltin, rd, win, AV.cells, AV.leaf, aNew, splice, fillA, Nat.reduceEqDiff, Nat.reduceLT, Nat.reduceAdd, Nat.reduceLeDiff, reduceCtorEq, Nat.reduceMul, cfgP, u50, hlen, aResults, aResult])
  · refine ⟨_, _, h1, by rw [hget_set_same (hget_lt h2'), if_pos rfl], .inr rfl, .inr ⟨d, ver, rfl, by simp, h5, h6, ?_⟩⟩
    have : d ≠ b := fun e => by
      subst e
      have e1 := alive_of_hget h2'
      have e2 := alive_of_hget h7
      rw [e1] at e2
      injection (Option.some.inj e2) with e3 _
      omega
    rw [hget_set_ne this]; exact h7
  · exact k1.trans ⟨by simpa using h8, fun b' v cs h hb' hv => by rw [hget_set_ne hb']; exact h9 _ _ _ h hv⟩

theorem writeString_ok (s m : List UInt8) (b : Nat) (prot : Nat) (H : Heap) (hp : prot ≤ H.length) (hb : Bld prot H b s) (hm : 0 < m.length) (hs : s.length + m.length ≤ 140737488355328) :
    ∃ H', aLim cfg prot 52 [.ptr b 165 0, .str m] H = some (.tup [.int .i64 m.length, .nilI], some H') ∧ Bld prot H' b (s ++ m) ∧ Kept H H' b := by
  obtain ⟨H1, buf, n1, h1, h2, k1, h4⟩ := copyCheck_ok s b prot H hb
  have hp1 := Nat.le_trans hp k1.1
  obtain ⟨d, ver, H2, happ, h5, h6, h7, h8, h9⟩ := bapp h4 (x := .str m) (m := m) (.inr rfl) (by simp [elemCells, cellsB]) hm hs hp1
  have h2' := h9 _ _ _ h2 (by decide)
  have hput1 : hput prot H2 b 165 1 [.bs ⟨d, ver, 0, (s ++ m).length, 0, 1, false, false⟩] = some (H2.set b (.cells 165 [.ptr b 165 0, .bs ⟨d, ver, 0, (s ++ m).length, 0, 1, false, false⟩])) := by
    rw [hput_eq h2' h1 (by simp) (by simp [AV.leaf])]
    rfl
  have hsl : ∀ K, aLen Try.prog K 9 (.str m) = some (.int .i64 m.length) := fun K => by simp [aLen, Try.underlying9]
  refine ⟨H2.set b (.cells 165 [.ptr b 165 0, .bs ⟨d, ver, 0, (s ++ m).length, 0, 1, false, false⟩]), ?_, ?_, ?_⟩
  · refine raw_slim rfl (by kernel_rfl) (by kernel_rfl) (by kernel_rfl) Try.func52 s52 (by simp [Try.f52]) fun fr hlen h => ?_
    simp only [Has, Nat.zero_add] at h
    obtain ⟨a0, a1, -⟩ := h
    simp only [Try.f52] at hlen ⊢
    unfold g52
    simp only [wk0, wk1, wk2, wk3, wk4, wk5, wk6, aWanted, aYield, Region.wanted, aOp, quiet, loud, aEvals, aParts, aOpt, aBuiltin, rd, win, AV.cells, AV.leaf, aNew, splice, fillA, Nat.reduceEqDiff, Nat.reduceLT, Nat.reduceAdd, Nat.reduceLeDiff, reduceCtorEq, Nat.reduceMul, cfgP, u52, hlen, a0, a1, n1, h2, happ, hput1, hsl]
    exact Fin_raw (l := [.int .i64 m.length, .nilI]) (by simp [wk0, wk1, wk2, wk3, wk4, wk5, wk6, aWanted, aYield, Region.wanted, aOp, quiet, loud, aEvals, aParts, aOpt, aBuiltin, rd, win, AV.cells, AV.leaf, aNew, splice, fillA, Nat.reduceEqDiff, Nat.reduceLT, Nat.reduceAdd, Nat.reduceLeDiff, reduceCtorEq, Nat.reduceMul, cfgP, u52, hlen, aResults, aResult])
  · refine ⟨_, _, h1, by rw [hget_set_same (hget_lt h2'), if_pos rfl], .inr rfl, .inr ⟨d, ver, rfl, by simp; omega, h5, h6, ?_⟩⟩
    have : d ≠ b := fun e => by
      subst e
      have e1 := alive_of_hget h2'
      have e2 := alive_of_hget h7
      rw [e1] at e2
      injection (Option.some.inj e2) with e3 _
      omega
    rw [hget_set_ne this]; exact h7
  · exact k1.trans ⟨by simpa using h8, fun b' v cs h hb' hv => by rw [hget_set_ne hb']; exact h9 _ _ _ h hv⟩
theorem bytesB : ∀ s : List UInt8, bytesOk (cellsOf encB s) = true ∧ bytesOf (cellsOf encB s) = some s
  | [] => ⟨rfl, rfl⟩
  | c :: r => by
    obtain ⟨h1, h2⟩ := bytesB r
    have e : cellsOf encB (c :: r) = .int .u8 c.toNat :: cellsOf encB r := by simp [cellsOf, encB, AV.cells]
    rw [e]
    have := c.toNat_lt
    constructor
    · simp [bytesOk, h1]; omega
    · simp [bytesOf, h2]

theorem bstring_ok (s : List UInt8) (b : Nat) (prot : Nat) (H : Heap) (hb : Bld prot H b s) (hs : s.length ≤ 140737488355328) :
    ∃ H', aLim cfg prot 53 [.ptr b 165 0] H = some (.str s, some H') ∧ Kept H H' b := by
  obtain ⟨a, buf, h1, h2, h3, h4⟩ := hb
  rcases h4 with ⟨rfl, rfl⟩ | ⟨c, ver, rfl, k1, k2, k3, k4⟩
  · refine ⟨H, ?_, .rfl⟩
    have l1 : ∀ K, aLen Try.prog K 80 .nilS = some (.int .i64 0) := fun K => by simp [aLen, Try.underlying80]
    refine raw_slim rfl (by kernel_rfl) (by kernel_rfl) (by kernel_rfl) Try.func53 s53 (by simp [Try.f53]) fun fr hlen h => ?_
    simp only [Has, Nat.zero_add] at h
    obtain ⟨a0, -⟩ := h
    simp only [Try.f53] at hlen ⊢
    unfold g53
    simp only [wk0, wk1, wk2, wk3, wk4, wk5, wk6, aWanted, aYield, Region.wanted, aOp, quiet, loud, aEvals, aParts, aOpt, aBuiltin, rd, win, AV.cells, AV.leaf, aNew, splice, fillA, Nat.reduceEqDiff, Nat.reduceLT, Nat.reduceAdd, Nat.reduceLeDiff, reduceCtorEq, Nat.reduceMul, cfgP, u53, hlen, a0, h2, l1]
    refine ⟨?_, ?_⟩
    · rw [show befs [] _ = [0, 1, 3, 7, 15, 0, 32, 96, 224, 480, 1023, 2047] from by kernel_rfl]
      simp [drawOk, chained, mayAt, sameAt, bound, List.range_succ, Nat.testBit]
    · exact Fin_raw (l := [.str []]) (by simp [wk0, wk1, wk2, wk3, wk4, wk5, wk6, aWanted, aYield, Region.wanted, aOp, quiet, loud, aEvals, aParts, aOpt, aBuiltin, rd, win, AV.cells, AV.leaf, aNew, splice, fillA, Nat.reduceEqDiff, Nat.reduceLT, Nat.reduceAdd, Nat.reduceLeDiff, reduceCtorEq, Nat.reduceMul, cfgP, u53, hlen, aResults, aResult])
  · have l1 : ∀ K, aLen Try.prog K 80 (.bs ⟨c, ver, 0, s.length, 0, 1, false, false⟩) = some (.int .i64 s.length) := fun K => by simp [aLen, Try.underlying80]
    have w1 : (cellsOf encB s).length = s.length := by have := cellsOf_length encB_T s; omega
    have w2 : List.take s.length (cellsOf encB s) = cellsOf encB s := List.take_of_length_le (by omega)
    have q1 := (bytesB s).1
    have q2 := (bytesB s).2
    have c1 : (0 : Int) < s.length := by omega
    have c2 : (s.length : Int) ≤ 9223372036854775807 := by omega
    have c3 : Try.prog.cellsOf 5 = 1 := by kernel_rfl
    refine ⟨H.set c .dead, ?_, by simp, ?_⟩
    · refine raw_slim rfl (by kernel_rfl) (by kernel_rfl) (by kernel_rfl) Try.func53 s53 (by simp [Try.f53]) fun fr hlen h => ?_
      simp only [Has, Nat.zero_add] at h
      obtain ⟨a0, -⟩ := h
      simp only [Try.f53] at hlen ⊢
      unfold g53
      simp only [wk0, wk1, wk2, wk3, wk4, wk5, wk6, aWanted, aYield, Region.wanted, aOp, quiet, loud, aEvals, aParts, aOpt, aBuiltin, rd, win, AV.cells, AV.leaf, aNew, splice, fillA, Nat.reduceEqDiff, Nat.reduceLT, Nat.reduceAdd, Nat.reduceLeDiff, reduceCtorEq, Nat.reduceMul, cfgP, u53, hlen, a0, h2, l1, k1, k2, k3, k4, w1, w2, q1, q2, c1, c2, c3, Int.toNat_natCast, Try.underlying102]
      refine ⟨?_, ?_⟩
      · rw [show befs [] _ = [0, 1, 3, 7, 15, 0, 32, 96, 224, 480, 1023, 2047] from by kernel_rfl]
        simp [drawOk, chained, mayAt, sameAt, bound, List.range_succ, Nat.testBit]
      · exact Fin_raw (l := [.str s]) (by simp [wk0, wk1, wk2, wk3, wk4, wk5, wk6, aWanted, aYield, Region.wanted, aOp, quiet, loud, aEvals, aParts, aOpt, aBuiltin, rd, win, AV.cells, AV.leaf, aNew, splice, fillA, Nat.reduceEqDiff, Nat.reduceLT, Nat.reduceAdd, Nat.reduceLeDiff, reduceCtorEq, Nat.reduceMul, cfgP, u53, hlen, aResults, aResult])
    · intro b' v cs h hb' hv
      have : b' ≠ c := fun e => by
        subst e
        have e1 := alive_of_hget h
        have e2 := alive_of_hget k4
        rw [e1] at e2
        injection (Option.some.inj e2) with e3 _
        omega
      rw [hget_set_ne this]; exact h
end Go.Proofs.Ytjhgmoaabflbfaa
