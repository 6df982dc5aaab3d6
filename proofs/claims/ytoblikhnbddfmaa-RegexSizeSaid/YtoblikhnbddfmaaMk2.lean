import Derived.Test.YtoblikhnbddfmaaMk1
import Derived.Test.YtoblikhnbddfmaaEx
/-! Chapter 15: a maker's states, walked. -/
set_option linter.unusedSimpArgs false
namespace Go.Proofs.Ytoblikhnbddfmaa
open Go Go.Abs AbsSeat Ty

/-- a state of a machine. -/
structure St where
  kind : Int
  no : Bool
  sp : List Sg
  one : Int
  two : Int
/-- a state as it lies, while its maker works. -/
structure HS where
  kind : Int
  no : Bool
  sv : AV
  lf : sv.leaf = true
  one : Int
  two : Int
def encH (x : HS) : AV := .agg [.int .i64 x.kind, .bool x.no, x.sv, .int .i64 x.one, .int .i64 x.two]
theorem encH_L : EncL encH 5 where
  len _ := rfl
  leaf x c hc := by
    simp only [encH, AV.cells, List.mem_cons, List.not_mem_nil, or_false] at hc
    rcases hc with rfl | rfl | rfl | rfl | rfl <;> first | rfl | exact x.lf
theorem rowSt : RowT Try.prog 53 116 5 56 true where
  un := Try.underlying53
  size := sz116
  bytes := by116
  agg := ag116
  zero := ⟨_, ze116, rfl⟩
  pos := by decide
  tree := rfl
theorem hxtSt : (∃ e', Try.prog.underlying 53 = some (.slice e')) ∨ Try.prog.underlying 53 = some .string := .inl ⟨_, Try.underlying53⟩
/-- as it lies, and as it is. -/
def LikeS (base : Nat) (H : Heap) (h : HS) (s : St) : Prop := h.kind = s.kind ∧ h.no = s.no ∧ h.one = s.one ∧ h.two = s.two ∧ Row encG 2 true base H h.sv s.sp ∧ (h.sv = .nilS ∨ s.sp ≠ [])
inductive Lks (base : Nat) (H : Heap) : List HS → List St → Prop where
  | nil : Lks base H [] []
  | cons {h : HS} {s : St} {hl : List HS} {l : List St} (a : LikeS base H h s) (b : Lks base H hl l) : Lks base H (h :: hl) (s :: l)
theorem Lks.length {base : Nat} {H : Heap} {hl : List HS} {l : List St} (h : Lks base H hl l) : hl.length = l.length := by
  induction h with
  | nil => rfl
  | cons _ _ ih => simp [ih]
theorem LikeS.keep {base b rb : Nat} {H K : Heap} {h : HS} {s : St} (f : Frm H K b rb) (hb : b < base) (hr : rb < base) (a : LikeS base H h s) : LikeS base K h s := by
  obtain ⟨a1, a2, a3, a4, a5, a6⟩ := a
  exact ⟨a1, a2, a3, a4, f.row hb hr a5, a6⟩
theorem Lks.keep {base b rb : Nat} {H K : Heap} (f : Frm H K b rb) (hb : b < base) (hr : rb < base) {hl : List HS} {l : List St} (h : Lks base H hl l) : Lks base K hl l := by
  induction h with
  | nil => exact .nil
  | cons a _ ih => exact .cons (a.keep f hb hr) ih
theorem Lks.snoc {base : Nat} {H : Heap} {hl : List HS} {l : List St} (h : Lks base H hl l) {x : HS} {s : St} (a : LikeS base H x s) : Lks base H (hl ++ [x]) (l ++ [s]) := by
  induction h with
  | nil => exact .cons a .nil
  | cons a' _ ih => exact .cons a' ih
/-- a maker, whose row lies in a block of its own. -/
def MkAt (H : Heap) (b rb : Nat) (l : List St) : Prop := ∃ ver hl, hget H b 0 = some [.bs ⟨rb, ver, 0, l.length, 0, 5, true, false⟩] ∧ hget H rb ver = some (cellsOf encH hl) ∧ Lks (rb + 1) H hl l ∧ ver % 4 = 0
theorem litH (x : HS) (K : Heap) : aBuildSlice Try.prog K 53 1 [(0, encH x)] = some (.bs ⟨K.length, 0, 0, 1, 1, 5, true, true⟩, some (K ++ [Blk.cells 0 (encH x).cells])) := by
  have e : (encH x).cells.all AV.leaf = true := List.all_eq_true.2 fun c hc => encH_L.leaf x c hc
  have e2 : fillA (fun i => some (i * 5, 5)) (zrep 1 [.int .i64 0, .bool false, .nilS, .int .i64 0, .int .i64 0]) [(0, encH x)] = some (encH x).cells := rfl
  unfold aBuildSlice
  rw [rowSt.elem, Option.bind_some, rowSt.size, Option.bind_some, rowSt.agg, Option.bind_some, ze116, Option.bind_some]
  rw [if_pos ⟨by decide, rfl, by decide⟩]
  simp only [AV.cells] at e e2 ⊢
  rw [e2, Option.bind_some, if_pos e, if_neg (by decide)]
theorem elemH (x : HS) (K : Heap) : elemCells (K ++ [Blk.cells 0 (encH x).cells]) 5 (.bs ⟨K.length, 0, 0, 1, 1, 5, true, true⟩) = some ([x].length, cellsOf encH [x]) := by
  have hc : cellsOf encH [x] = (encH x).cells := by simp [cellsOf]
  have hg : hget (K ++ [Blk.cells 0 (encH x).cells]) K.length 0 = some (encH x).cells := by rw [hget_new rfl, if_pos rfl]
  have hw : win (encH x).cells 0 (1 * 5) = some (encH x).cells := rfl
  simp only [elemCells, if_true, hg, Option.bind_some, hw, Option.map_some, hc, List.length_cons, List.length_nil, Nat.zero_add]
theorem lenSt (K : Heap) (r v n : Nat) : aLen Try.prog K 53 (.bs ⟨r, v, 0, n, 0, 5, true, false⟩) = some (.int .i64 (n : Nat)) := by simp [aLen, Try.underlying53]

theorem state_ok (l : List St) (x : HS) (s : St) (hl : l.length < 1000000) (b rb prot : Nat) (H : Heap) (hp : prot ≤ b) (hp2 : prot ≤ rb) (hb : b ≠ rb) (hb1 : b ≤ rb) (hm : MkAt H b rb l) (hx : LikeS (rb + 1) H x s) :
    ∃ H', (MkAt H' b rb (l ++ [s]) ∧ Frm H H' b rb) ∧ aLim cfg prot 62 [.ptr b 0 0, encH x] H = some (.int .i64 (l.length : Nat), some H') := by
  obtain ⟨ver, hls, g1, g2, hlk, hv4⟩ := hm
  have hll := hlk.length
  have hxl := x.lf
  have hlb := hget_lt g1
  have hlr := hget_lt g2
  have hbox : hget (H ++ [Blk.cells 0 (encH x).cells]) H.length 0 = some (encH x).cells := by rw [hget_new rfl, if_pos rfl]
  have g1' := hget_mono g1 [Blk.cells 0 (encH x).cells]
  have g2' := hget_mono g2 [Blk.cells 0 (encH x).cells]
  have f0 := Frm.more H b rb [Blk.cells 0 (encH x).cells]
  have hlk' := hlk.keep f0 (by omega) (by omega)
  have hx' := hx.keep f0 (by omega) (by omega)
  have hl1 : (H ++ [Blk.cells 0 (encH x).cells]).length = H.length + 1 := by simp
  have hw1 : IntKind.i64.wrap (((l.length + 1 : Nat) : Int) - 1) = (l.length : Nat) := by rw [wrap64 (by omega) (by omega)]; simp
  have f0 : Frm H (H ++ [Blk.cells 0 (encH x).cells] ++ [Blk.cells 0 (encH x).cells]) b rb := (Frm.more H b rb _).trans (Frm.more _ b rb _)
  have g1' := hget_mono (hget_mono g1 [Blk.cells 0 (encH x).cells]) [Blk.cells 0 (encH x).cells]
  have g2' := hget_mono (hget_mono g2 [Blk.cells 0 (encH x).cells]) [Blk.cells 0 (encH x).cells]
  have hlit := litH x (H ++ [Blk.cells 0 (encH x).cells])
  have hel := elemH x (H ++ [Blk.cells 0 (encH x).cells])
  have happ := encH_L.app (prot := prot) (l := hls) (m := [x]) rowSt hxtSt g2' hv4 hel (by simp) (by simp [roomy]; omega) hp2
  rw [hll, hl1] at happ
  rw [hl1] at hlit
  have hll1 : hget (H ++ [Blk.cells 0 (encH x).cells]) b 0 = some [.bs ⟨rb, ver, 0, l.length, 0, 5, true, false⟩] := hget_mono g1 _
  generalize hK : H ++ [Blk.cells 0 (encH x).cells] ++ [Blk.cells 0 (encH x).cells] = K at *
  have hlk' := (hlk.keep (f0.trans (Frm.set2 K b rb (.cells (ver + 4) (cellsOf encH (hls ++ [x]))))) (by omega) (by omega))
  have hx' := (hx.keep (f0.trans (Frm.set2 K b rb (.cells (ver + 4) (cellsOf encH (hls ++ [x]))))) (by omega) (by omega))
  have g3 : hget (K.set rb (.cells (ver + 4) (cellsOf encH (hls ++ [x])))) b 0 = some [.bs ⟨rb, ver, 0, l.length, 0, 5, true, false⟩] := by rw [hget_set_ne hb]; exact g1'
  have g4 : hget (K.set rb (.cells (ver + 4) (cellsOf encH (hls ++ [x])))) rb (ver + 4) = some (cellsOf encH (hls ++ [x])) := by rw [hget_set_same (hget_lt g2'), if_pos rfl]
  have hput1 : hput prot (K.set rb (.cells (ver + 4) (cellsOf encH (hls ++ [x])))) b 0 0 [.bs ⟨rb, ver + 4, 0, l.length + 1, 0, 5, true, false⟩] = some ((K.set rb (.cells (ver + 4) (cellsOf encH (hls ++ [x])))).set b (.cells 0 [.bs ⟨rb, ver + 4, 0, l.length + 1, 0, 5, true, false⟩])) := by
    rw [hput_eq g3 hp (by simp) (by simp [AV.leaf])]; rfl
  have g5 : hget ((K.set rb (.cells (ver + 4) (cellsOf encH (hls ++ [x])))).set b (.cells 0 [.bs ⟨rb, ver + 4, 0, l.length + 1, 0, 5, true, false⟩])) b 0 = some [.bs ⟨rb, ver + 4, 0, l.length + 1, 0, 5, true, false⟩] := hget_set_at (hget_lt g3)
  have hbb : hget (H ++ [Blk.cells 0 (encH x).cells]) H.length 0 = some (encH x).cells := by rw [hget_new rfl, if_pos rfl]
  simp only [encH, AV.cells] at hlit happ hK hbb hll1 hl1
  unfold AV.leaf at hxl
  refine raw_slimE rfl (by kernel_rfl) (by kernel_rfl) (by kernel_rfl) Try.func62 s62 (by simp [Try.f62]) fun fr hlen h => ?_
  simp only [Has, Nat.zero_add] at h
  obtain ⟨a0, a1, -⟩ := h
  simp only [Try.f62] at hlen ⊢
  unfold g62
  simp only [wk, aBuiltin, AV.cells, AV.leaf, Nat.reduceEqDiff, Nat.reduceLT, Nat.reduceAdd, Nat.reduceLeDiff, reduceCtorEq, Nat.reduceMul, cfgP, u61, hlen, a0, a1, encH, hxl, hll1, hl1, hbb, hlit, hK, happ, hput1]
  refine ex_draw ?_ ?_
  · rw [show befs [] _ = [0, 0, 2, 6, 14, 0, 32, 126, 255, 511, 1023] from by kernel_rfl]
    simp [wk, aBuiltin, AV.cells, AV.leaf, Nat.reduceEqDiff, Nat.reduceLT, Nat.reduceAdd, Nat.reduceLeDiff, reduceCtorEq, Nat.reduceMul, cfgP, u61, hlen, drawOk, chained, mayAt, sameAt, bound, List.range_succ, Nat.testBit, a0, a1, encH, hxl, hll1, hl1, hbb, hlit, hK, happ, hput1, g1', avbeq_refl]
  simp only [wk, aBuiltin, AV.cells, AV.leaf, Nat.reduceEqDiff, Nat.reduceLT, Nat.reduceAdd, Nat.reduceLeDiff, reduceCtorEq, Nat.reduceMul, cfgP, u61, hlen, a0, g5, lenSt, hw1]
  refine ⟨_, ⟨⟨ver + 4, hls ++ [x], ?_, ?_, ?_, by omega⟩, ?_⟩, Fin_raw (l := [.int .i64 (l.length : Nat)]) (by simp [wk, aBuiltin, AV.cells, AV.leaf, Nat.reduceEqDiff, Nat.reduceLT, Nat.reduceAdd, Nat.reduceLeDiff, reduceCtorEq, Nat.reduceMul, cfgP, u61, hlen, aResults, aResult])⟩
  · rw [List.length_append]; exact g5
  · rw [hget_set_ne (Ne.symm hb)]; exact g4
  · exact (hlk'.snoc hx').keep (Frm.set1 _ b rb _) (by omega) (by omega)
  · exact (f0.trans (Frm.set2 _ _ _ _)).trans (Frm.set1 _ _ _ _)
end Go.Proofs.Ytoblikhnbddfmaa
/-! Chapter 15: which machine a node makes, and how many states it has. -/
namespace Go.Proofs.Ytoblikhnbddfmaa
open Go Go.Abs AbsSeat Ty

def repK (f : List St → Int → List St × Int) : Nat → List St → Int → List St × Int
  | 0, l, a => (l, a)
  | n + 1, l, a => repK f n (f l a).1 (f l a).2
def optK (f : List St → Int → List St × Int) (to : Int) : Nat → List St → Int → List St × Int
  | 0, l, a => (l, a)
  | n + 1, l, a => optK f to n ((f l a).1 ++ [⟨2, false, [], (f l a).2, to⟩]) ((f l a).1.length : Nat)
def setOne : List St → Nat → Int → List St
  | [], _, _ => []
  | s :: r, 0, v => ⟨s.kind, s.no, s.sp, v, s.two⟩ :: r
  | s :: r, i + 1, v => s :: setOne r i v
theorem setOne_len : ∀ (l : List St) (i : Nat) (v : Int), (setOne l i v).length = l.length
  | [], _, _ => rfl
  | _ :: _, 0, _ => rfl
  | s :: r, i + 1, v => by rw [setOne, List.length_cons, setOne_len r i v, List.length_cons]
def repS (f : List St → Int → List St × Int) (least most : Int) (l : List St) (to : Int) : List St × Int :=
  if most = -1 then
    if least = 0 then (setOne (f (l ++ [⟨2, false, [], 0, to⟩]) (l.length : Nat)).1 l.length (f (l ++ [⟨2, false, [], 0, to⟩]) (l.length : Nat)).2, (l.length : Nat))
    else repK f (least - 1).toNat (setOne (f (l ++ [⟨2, false, [], 0, to⟩]) (l.length : Nat)).1 l.length (f (l ++ [⟨2, false, [], 0, to⟩]) (l.length : Nat)).2) (f (l ++ [⟨2, false, [], 0, to⟩]) (l.length : Nat)).2
  else repK f least.toNat (optK f to (most - least).toNat l to).1 (optK f to (most - least).toNat l to).2
mutual
/-- a node's states behind those that there are: and where it begins. -/
def mkN : Nd → List St → Int → List St × Int
  | .mk kind no _ sp least most _ kids, l, to =>
    if kind = 1 then (l ++ [⟨1, no, sp, to, 0⟩], (l.length : Nat))
    else if kind = 2 then mkC kids l to
    else if kind = 3 then mkE kids l to
    else if kind = 4 then
      match kids with
      | [x] => repS (mkN x) least most l to
      | _ => (l, to)
    else (l, to)
def mkC : List Nd → List St → Int → List St × Int
  | [], l, to => (l, to)
  | x :: r, l, to => mkN x (mkC r l to).1 (mkC r l to).2
def mkE : List Nd → List St → Int → List St × Int
  | [], l, to => (l, to)
  | x :: r, l, to => if r.isEmpty = true then mkN x (mkE r l to).1 to else ((mkN x (mkE r l to).1 to).1 ++ [⟨2, false, [], (mkN x (mkE r l to).1 to).2, (mkE r l to).2⟩], ((mkN x (mkE r l to).1 to).1.length : Nat))
end
mutual
/-- how many states a node makes. -/
def cnt : Nd → Nat
  | .mk kind _ _ _ least most _ kids =>
    if kind = 1 then 1
    else if kind = 2 then cntL kids
    else if kind = 3 then cntL kids + (kids.length - 1)
    else if kind = 4 then
      match kids with
      | [x] => if most = -1 then 1 + (max least 1).toNat * cnt x else (most - least).toNat * (cnt x + 1) + least.toNat * cnt x
      | _ => 0
    else 0
def cntL : List Nd → Nat
  | [] => 0
  | x :: r => cnt x + cntL r
end
theorem repK_len {f : List St → Int → List St × Int} {c : Nat} (hf : ∀ l a, (f l a).1.length = l.length + c) : ∀ (n : Nat) (l : List St) (a : Int), (repK f n l a).1.length = l.length + n * c
  | 0, l, a => by rw [repK]; simp
  | n + 1, l, a => by rw [repK, repK_len hf n, hf, Nat.succ_mul]; omega
theorem optK_len {f : List St → Int → List St × Int} {to : Int} {c : Nat} (hf : ∀ l a, (f l a).1.length = l.length + c) : ∀ (n : Nat) (l : List St) (a : Int), (optK f to n l a).1.length = l.length + n * (c + 1)
  | 0, l, a => by rw [optK]; simp
  | n + 1, l, a => by rw [optK, optK_len hf n, List.length_append, hf, Nat.succ_mul, List.length_singleton]; omega
theorem repS_len {f : List St → Int → List St × Int} {c : Nat} (hf : ∀ l a, (f l a).1.length = l.length + c) (least most : Int) (h0 : 0 ≤ least) (l : List St) (to : Int) :
    (repS f least most l to).1.length = l.length + (if most = -1 then 1 + (max least 1).toNat * c else (most - least).toNat * (c + 1) + least.toNat * c) := by
  unfold repS
  by_cases h1 : most = -1
  · rw [if_pos h1, if_pos h1]
    by_cases h2 : least = 0
    · subst h2
      rw [if_pos rfl, setOne_len, hf, List.length_append, List.length_singleton]
      have : (max (0 : Int) 1).toNat = 1 := rfl
      rw [this]; omega
    · rw [if_neg h2, repK_len hf, setOne_len, hf, List.length_append, List.length_singleton]
      have e : (max least 1).toNat = (least - 1).toNat + 1 := by omega
      rw [e, Nat.succ_mul]; omega
  · rw [if_neg h1, if_neg h1, repK_len hf, optK_len hf]; omega
/-- nodes whose numbers may be. -/
inductive Fair : Nd → Prop where
  | mk {kind : Int} {no sf : Bool} {sp : List Sg} {least most : Int} {kf : Bool} {kids : List Nd} (h : ∀ x ∈ kids, Fair x) (h4 : kind = 4 → 0 ≤ least) : Fair (.mk kind no sf sp least most kf kids)
theorem Good.fair : ∀ {x : Nd}, Good x → Fair x
  | .mk kind no sf sp least most kf kids, hg => .mk (fun x hx => Good.fair (x := x) (by cases hg with | mk h _ _ => exact h x hx)) (fun h4 => by cases hg with | mk _ hk _ => omega)
termination_by x => SizeOf.sizeOf x
decreasing_by have := List.sizeOf_lt_of_mem hx; simp; omega
mutual
theorem mkN_len : ∀ (x : Nd), Fair x → ∀ (l : List St) (to : Int), (mkN x l to).1.length = l.length + cnt x
  | .mk kind no sf sp least most kf kids, hf, l, to => by
    cases hf with
    | mk hk h4 =>
    rw [mkN.eq_def, cnt.eq_def]
    dsimp only
    by_cases h1 : kind = 1
    · rw [if_pos h1, if_pos h1]; simp
    · rw [if_neg h1, if_neg h1]
      by_cases h2 : kind = 2
      · rw [if_pos h2, if_pos h2]; exact mkC_len kids hk l to
      · rw [if_neg h2, if_neg h2]
        by_cases h3 : kind = 3
        · rw [if_pos h3, if_pos h3]; exact mkE_len kids hk l to
        · rw [if_neg h3, if_neg h3]
          by_cases h5 : kind = 4
          · rw [if_pos h5, if_pos h5]
            match kids, hk with
            | [], _ => simp
            | [x], hk =>
              dsimp only
              exact repS_len (mkN_len x (hk x (by simp))) least most (h4 h5) l to
            | x :: y :: r, _ => simp
          · rw [if_neg h5, if_neg h5]; simp
theorem mkC_len : ∀ (kids : List Nd), (∀ x ∈ kids, Fair x) → ∀ (l : List St) (to : Int), (mkC kids l to).1.length = l.length + cntL kids
  | [], _, l, to => by rw [mkC, cntL]; rfl
  | x :: r, hk, l, to => by
    rw [mkC, cntL, mkN_len x (hk x (by simp)), mkC_len r (fun y hy => hk y (by simp [hy])) l to]; omega
theorem mkE_len : ∀ (kids : List Nd), (∀ x ∈ kids, Fair x) → ∀ (l : List St) (to : Int), (mkE kids l to).1.length = l.length + (cntL kids + (kids.length - 1))
  | [], _, l, to => by rw [mkE, cntL]; rfl
  | x :: r, hk, l, to => by
    rw [mkE, cntL]
    have h1 := mkN_len x (hk x (by simp)) (mkE r l to).1 to
    have h2 := mkE_len r (fun y hy => hk y (by simp [hy])) l to
    cases r with
    | nil => simp only [List.isEmpty_nil, if_true, h1, h2, List.length_cons, List.length_nil]; omega
    | cons y r =>
      simp only [List.isEmpty_cons, Bool.false_eq_true, if_false, List.length_append, h1, h2, List.length_cons, List.length_nil]; omega
end
theorem cut_lt {n : Nat} (h : cutN n < 2147483647) : cutN n = n := by unfold cutN at h ⊢; omega
theorem sizeL_ge (e : Bool) : ∀ (l : List Nd) (f : Bool) (a : Nat), sizeL e f a l < 2147483647 → a ≤ sizeL e f a l
  | [], f, a, h => by rw [sizeL]; exact Nat.le_refl _
  | x :: r, f, a, h => by
    rw [sizeL] at h ⊢
    have := sizeL_ge e r _ _ h
    by_cases h1 : (e && !f) = true
    · rw [if_pos h1] at this h ⊢
      have e1 := cut_lt (Nat.lt_of_le_of_lt this h)
      have e2 : cutN (a + sizeN x) < 2147483647 := by omega
      have e2 := cut_lt e2
      omega
    · rw [if_neg h1] at this h ⊢
      have e1 := cut_lt (Nat.lt_of_le_of_lt this h)
      omega
theorem sizeL_sum (e : Bool) : ∀ (l : List Nd) (f : Bool) (a : Nat), sizeL e f a l < 2147483647 → (∀ x ∈ l, sizeN x < 2147483647 → cnt x = sizeN x) → sizeL e f a l = a + cntL l + (if e = true then l.length - (if f = true then 1 else 0) else 0)
  | [], f, a, h, _ => by rw [sizeL, cntL]; simp
  | x :: r, f, a, h, hx => by
    rw [sizeL] at h ⊢
    have h0 := sizeL_ge e r _ _ h
    have ih := sizeL_sum e r false _ h (fun y hy => hx y (by simp [hy]))
    rw [cntL]
    have hc := hx x (by simp)
    rw [ih]
    cases e with
    | false =>
      simp only [Bool.false_and, Bool.false_eq_true, if_false] at h h0 ih ⊢
      have e1 := cut_lt (Nat.lt_of_le_of_lt h0 h)
      have := hc (by omega)
      omega
    | true =>
      cases f with
      | true =>
        simp only [Bool.not_true, Bool.and_false, Bool.false_eq_true, if_false, if_true, List.length_cons] at h h0 ih ⊢
        have e1 := cut_lt (Nat.lt_of_le_of_lt h0 h)
        have := hc (by omega)
        omega
      | false =>
        simp only [Bool.not_false, Bool.and_true, Bool.false_eq_true, if_false, if_true, List.length_cons] at h h0 ih ⊢
        have e1 := cut_lt (Nat.lt_of_le_of_lt h0 h)
        have e2 : cutN (a + sizeN x) < 2147483647 := by omega
        have e2 := cut_lt e2
        have := hc (by omega)
        omega
theorem cnt_size : ∀ (x : Nd), Good x → sizeN x < 2147483647 → cnt x = sizeN x
  | .mk kind no sf sp least most kf kids, hg, h => by
    have hx : ∀ x ∈ kids, sizeN x < 2147483647 → cnt x = sizeN x := fun x hx => cnt_size x (by cases hg with | mk h _ _ => exact h x hx)
    cases hg with
    | mk hk hkd hl =>
    rw [sizeN.eq_def] at h ⊢
    rw [cnt.eq_def]
    dsimp only at h ⊢
    by_cases h1 : kind = 1
    · rw [if_pos h1, if_pos h1]
    · rw [if_neg h1] at h ⊢
      rw [if_neg h1]
      by_cases h2 : kind = 2
      · subst h2
        rw [if_pos (show (2 : Int) = 2 ∨ (2 : Int) = 3 from .inl rfl)] at h ⊢
        rw [if_pos rfl]
        have := sizeL_sum _ kids true 0 h hx
        simp at this h ⊢
        omega
      · rw [if_neg h2]
        by_cases h3 : kind = 3
        · subst h3
          rw [if_pos (show (3 : Int) = 2 ∨ (3 : Int) = 3 from .inr rfl)] at h ⊢
          rw [if_pos rfl]
          have := sizeL_sum _ kids true 0 h hx
          simp at this h ⊢
          omega
        · rw [if_neg (show ¬ (kind = 2 ∨ kind = 3) by omega)] at h ⊢
          rw [if_neg h3]
          by_cases h4 : kind = 4
          · rw [if_pos h4] at h ⊢
            rw [if_pos h4]
            have hk4 : kids.length = 1 ∧ 0 ≤ least ∧ least ≤ 16 ∧ (most = -1 ∨ (least ≤ most ∧ most ≤ 16)) := by omega
            match kids, hk4 with
            | [x], ⟨_, hk2, hk3, hk5⟩ =>
              dsimp only at h ⊢
              have hx := hx x (by simp)
              by_cases h5 : most = -1
              · rw [if_pos h5] at h ⊢
                rw [if_pos h5]
                have e1 := cut_lt h
                have e2 : cutN ((max least 1).toNat * sizeN x) < 2147483647 := by omega
                have e2 := cut_lt e2
                have e3 : sizeN x ≤ (max least 1).toNat * sizeN x := Nat.le_mul_of_pos_left _ (by omega)
                rw [hx (by omega)]
                omega
              · rw [if_neg h5] at h ⊢
                rw [if_neg h5]
                have e1 := cut_lt h
                have e2 : cutN (least.toNat * sizeN x) < 2147483647 := by omega
                have e2 := cut_lt e2
                have e3 : cutN ((most - least).toNat * (sizeN x + 1)) < 2147483647 := by omega
                have e3 := cut_lt e3
                rw [e1, e2, e3]
                by_cases h6 : sizeN x < 2147483647
                · rw [hx h6]; omega
                · have h7 := sizeN_le x
                  have h8 : sizeN x = 2147483647 := by omega
                  rw [h8] at e2 e3 h e1
                  have : least.toNat = 0 := by omega
                  have h9 : (most - least).toNat = 0 := by omega
                  rw [this, h9]; simp
          · rw [if_neg h4, if_neg h4]
termination_by x => SizeOf.sizeOf x
decreasing_by have := List.sizeOf_lt_of_mem hx; simp; omega
end Go.Proofs.Ytoblikhnbddfmaa
